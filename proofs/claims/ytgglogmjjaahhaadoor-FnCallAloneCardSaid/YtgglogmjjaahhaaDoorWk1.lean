/- The walks; no condition. -/
import Derived.Test.YtgglogmjjaahhaaDoorProg
import Derived.Test.YtgglogmjjaahhaaDoorWk0
import Derived.Test.YtgglogmjjaahhaaDoorPFFresh
set_option maxRecDepth 100000
set_option maxHeartbeats 4000000
namespace Go.PF
open Go Go.RowKit Go.Proofs

theorem w_spec_l20Rule {w : World} {M : Nat → Prop} (hG : ARep (RArr 4 RShape) w M shapes ⟨0, 0, none⟩) (hO : ∀ b, M b → b < w.heap.size) {g : Nat} {Ax : Option Addr} {cx : Nat} {a_xs : List Int} {a_pos : Int} (hxs : VRep (RSlice RU8) w M a_xs (.slice Ax a_xs.length cx)) (hown : Own w g 111 #[.slice Ax a_xs.length cx, .int .i64 a_pos]) (hgM : M g) {a_first : Int} {a_chains : Int} {a_n : Int} {r : Rule × Int} (h : F.spec_l20Rule a_xs a_pos a_first a_chains a_n = some r) :
  Calls Tryd.prog 89 [(.pointer (some ⟨g, 0, none⟩)), (.int .i64 a_first), (.int .i64 a_chains), (.int .i64 a_n)].toArray w fun e w' => ∃ v, e = .returned v ∧ (VRep RRule w' M r.1 v ∧ Own w' g 111 #[.slice Ax a_xs.length cx, .int .i64 r.2]) ∧ BX (One g) w w' := by
 have hX : ∀ b, (One g) b → M b := fun b e => e ▸ hgM
 have hC : Cx (One g) w M w M := Cx.start hO hX
 refine walk (N := 58) Tryd.func89 Z Tryd.ntmps89 Z (cw_seq (cw_region (lw_op Z Z Z (ow_alloc Z (Tryd.zeroValue42 _) hC fun g1 w1 hg1 hg2 ho1 hb1 hl1 hC1 => ?_))))
 have hn1 := Nat.ne_of_lt (Nat.lt_of_lt_of_le hown.lt hg1)
 have ho2 := hown.no hb1
 have hm1 : (Add g1 M) g := .inr hgM
 have hm2 : (Add g1 M) g1 := .inl Z
 refine lw_nil (ew_then (cw_seq (cw_region (lw_op Z Z Z (ow_move Z Z ?_)))))
 replace h := bind_some h
 obtain ⟨x1, hx1, h⟩ := h
 refine lw_op Z Z Z (ow_call Z Z Tryd.call79 (w_spec_l20Tests (hG.mono hl1) hC1.old (VRep.mono hl1 hxs) ho2 hm1 hx1) fun v1 w2 hv1 => ?_)
 obtain ⟨⟨hv1, ho3⟩, hb2⟩ := hv1
 have hl2 := Le.of_bx (Add g1 M) hb2 (fun b e => (by rw [show b = g from e]; exact hm1))
 have hC2 := hC1.go hb2 (fun b e => Or.inr e)
 have ho4 := ho1.go hb2 (fun e => hn1 e.symm)
 refine lw_op Z Z Z (ow_buildSlice (R := RInt) (xs := [1, 1, 2, 2, 3, 3, 4, 5]) (cs := #[(.int .i64 1), (.int .i64 1), (.int .i64 2), (.int .i64 2), (.int .i64 3), (.int .i64 3), (.int .i64 4), (.int .i64 5)]) (e := 3) Z Z (by kernel_rfl) Z Z ⟨_, _, Z, (vint _).cells, _, _, Z, (vint _).cells, _, _, Z, (vint _).cells, _, _, Z, (vint _).cells, _, _, Z, (vint _).cells, _, _, Z, (vint _).cells, _, _, Z, (vint _).cells, _, _, Z, (vint _).cells, Z⟩ hC2 fun p1 w3 hw1 hb3 hl3 hC3 => ?_)
 have ho5 := ho3.no hb3
 have ho6 := ho4.no hb3
 refine lw_op Z Z Z (ow_move Z Z ?_)
 have lz1 := ((hl1.trans hl2).trans hl3)
 replace h := bind_some h
 obtain ⟨x2, hx2, h⟩ := h
 refine lw_op Z Z Z (ow_call Z Z Tryd.call60 (w_spec_l20Rd_pick (hG.mono lz1) hC3.old (VRep.mono lz1 hxs) ho5 hm1 hx2) fun v2 w4 hv2 => ?_)
 obtain ⟨⟨hv2, ho7⟩, hb4⟩ := hv2
 have hl4 := Le.of_bx (Add g1 M) hb4 (fun b e => (by rw [show b = g from e]; exact hm1))
 have hC4 := hC3.go hb4 (fun b e => Or.inr e)
 have ho8 := ho6.go hb4 (fun e => hn1 e.symm)
 obtain rfl := vint_eq hv2
 replace h := bind_some h
 obtain ⟨x3, hx3, h⟩ := h
 refine lw_op Z Z Z (ow_indexSlice (R := RInt) Z Z Z (VRep.mono hl4 hw1) Tryd.underlying52 (Tryd.sizeOf3 _) hx3 fun p2 hp2 => lw_op Z Z Z (ow_load (R := RInt) Z Z hp2 (Tryd.sizeOf3 _) (Tryd.isAgg3 _) fun v3 hv3 => ?_))
 obtain rfl := vint_eq hv3
 obtain ⟨A1, c1, rfl, -⟩ := vslice_shape hv1
 refine lw_op Z Z Z (ow_build (v := .agg #[(.slice A1 x1.1.length c1), (.int .i64 x3), (.int .i64 0)]) Z Z (by kernel_rfl) (lw_op Z Z Z (ow_alloc Z (Tryd.zeroValue42 _) hC4 fun g2 w5 hg3 hg4 ho9 hb5 hl5 hC5 => ?_)))
 have hn2 := Nat.ne_of_lt (Nat.lt_of_lt_of_le ho7.lt hg3)
 have ho10 := ho7.no hb5
 have hm3 : (Add g2 (Add g1 M)) g := .inr hm1
 have hn3 := Nat.ne_of_lt (Nat.lt_of_lt_of_le ho8.lt hg3)
 have ho11 := ho8.no hb5
 have hm4 : (Add g2 (Add g1 M)) g1 := .inr hm2
 have hm5 : (Add g2 (Add g1 M)) g2 := .inl Z
 refine lw_op0 Z Z (ow_store (X := (One g)) (us := [(.slice A1 x1.1.length c1), (.int .i64 x3), (.int .i64 0)]) (cs' := #[(.slice A1 x1.1.length c1), (.int .i64 x3), (.int .i64 0)]) Z Z Z Z ho9 (Tryd.sizeOf42 _) Z Z Z Z hm5 (.inl hg4) Z hC5 fun w6 ho12 hb6 hl6 hC6 => ?_)
 have ho13 := ho10.go hb6 (fun e => hn2 e)
 have ho14 := ho11.go hb6 (fun e => hn3 e)
 refine lw_nil (ew_then (cw_seq (cw_seq (cw_region (lw_op Z Z Z (ow_fieldAddr Z Z Tryd.underlying42 Z (Tryd.sizeOf3 _) (lw_op Z Z Z (ow_loadOwn1 Z Z Z ho12 (Tryd.isAgg3 _) Z (lw_op Z Z Z (ow_eqlI Z Z Z fun bb1 hbb1 => lw_nil (ew_then ?_)))))))))))
 replace h := cond_some h
 rcases h with ⟨hc1, h⟩ | ⟨hc1, h⟩
 ·
  obtain rfl := hbb1.trans hc1
  refine cw_true Z (cw_seq (cw_region (lw_op Z Z Z (ow_move Z Z (lw_op Z Z Z (ow_move Z Z (lw_op Z Z Z (ow_geq Z Z Z fun bb2 hbb2 => lw_nil (ew_then ?_)))))))))
  replace h := cond_some h
  rcases h with ⟨hc2, h⟩ | ⟨hc2, h⟩
  ·
   obtain rfl := hbb2.trans hc2
   refine cw_true Z (cw_region (lw_op Z Z Z (ow_fieldAddr Z Z Tryd.underlying42 Z (Tryd.sizeOf3 _) (lw_op0 Z Z (ow_store (X := (One g)) (us := [(.int .i64 2)]) (cs' := #[(.slice A1 x1.1.length c1), (.int .i64 2), (.int .i64 0)]) Z Z Z Z ho12 (Tryd.sizeOf3 _) Z Z Z Z hm5 (.inl hg4) Z hC6 fun w7 ho15 hb7 hl7 hC7 => ?_)))))
   have ho16 := ho13.go hb7 (fun e => hn2 e)
   have ho17 := ho14.go hb7 (fun e => hn3 e)
   refine lw_nil (ew_then (cw_seq (cw_seq (cw_region (lw_op Z Z Z (ow_move Z Z (lw_op Z Z Z (ow_move Z Z ?_))))))))
   have lz2 := ((((lz1.trans hl4).trans hl5).trans hl6).trans hl7)
   replace h := bind_some h
   obtain ⟨x4, hx4, h⟩ := h
   refine lw_op Z Z Z (ow_call Z Z Tryd.call81 (w_spec_l20Rd_odd (hG.mono lz2) hC7.old (VRep.mono lz2 hxs) ho16 hm3 hx4) fun v4 w8 hv4 => ?_)
   obtain ⟨⟨hv4, ho18⟩, hb8⟩ := hv4
   have hl8 := Le.of_bx (Add g2 (Add g1 M)) hb8 (fun b e => (by rw [show b = g from e]; exact hm3))
   have hC8 := hC7.go hb8 (fun b e => Or.inr e)
   have ho19 := ho17.go hb8 (fun e => hn1 e.symm)
   have ho20 := ho15.go hb8 (fun e => hn2 e.symm)
   obtain ⟨bb3, hbb3, rfl⟩ := vbool_ex hv4
   refine lw_nil (ew_then ?_)
   replace h := cond_some h
   rcases h with ⟨hc3, h⟩ | ⟨hc3, h⟩
   ·
    obtain rfl := hbb3.trans hc3
    refine cw_true Z (cw_seq (cw_region (lw_op Z Z Z (ow_move Z Z ?_))))
    replace h := bind_some h
    obtain ⟨x5, hx5, h⟩ := h
    refine lw_op Z Z Z (ow_call Z Z Tryd.call60 (w_spec_l20Rd_pick (hG.mono (lz2.trans hl8)) hC8.old (VRep.mono (lz2.trans hl8) hxs) ho18 hm3 hx5) fun v5 w9 hv5 => ?_)
    obtain ⟨⟨hv5, ho21⟩, hb9⟩ := hv5
    have hl9 := Le.of_bx (Add g2 (Add g1 M)) hb9 (fun b e => (by rw [show b = g from e]; exact hm3))
    have hC9 := hC8.go hb9 (fun b e => Or.inr e)
    have ho22 := ho19.go hb9 (fun e => hn1 e.symm)
    have ho23 := ho20.go hb9 (fun e => hn2 e.symm)
    obtain rfl := vint_eq hv5
    refine lw_nil (ew_then (cw_block (cw_seq (cw_region (lw_op Z Z Z (ow_eqlI Z Z Z fun bb4 hbb4 => lw_op Z Z Z (ow_assign Z Z (lw_nil (ew_then ?_)))))))))
    replace h := cond_some h
    rcases h with ⟨hc4, h⟩ | ⟨hc4, h⟩
    ·
     obtain rfl := hbb4.trans hc4
     refine cw_true Z (cw_region (lw_op Z Z Z (ow_buildSlice (R := RInt) (xs := [0, 6]) (cs := #[(.int .i64 0), (.int .i64 6)]) (e := 3) Z Z (by kernel_rfl) Z Z ⟨_, _, Z, (vint _).cells, _, _, Z, (vint _).cells, Z⟩ hC9 fun p3 w10 hw3 hb10 hl10 hC10 => ?_)))
     have ho24 := ho21.no hb10
     have ho25 := ho22.no hb10
     have ho26 := ho23.no hb10
     refine lw_op Z Z Z (ow_move Z Z ?_)
     have lz3 := (((lz2.trans hl8).trans hl9).trans hl10)
     replace h := bind_some h
     obtain ⟨x6, hx6, h⟩ := h
     refine lw_op Z Z Z (ow_call Z Z Tryd.call60 (w_spec_l20Rd_pick (hG.mono lz3) hC10.old (VRep.mono lz3 hxs) ho24 hm3 hx6) fun v6 w11 hv6 => ?_)
     obtain ⟨⟨hv6, ho27⟩, hb11⟩ := hv6
     have hl11 := Le.of_bx (Add g2 (Add g1 M)) hb11 (fun b e => (by rw [show b = g from e]; exact hm3))
     have hC11 := hC10.go hb11 (fun b e => Or.inr e)
     have ho28 := ho25.go hb11 (fun e => hn1 e.symm)
     have ho29 := ho26.go hb11 (fun e => hn2 e.symm)
     obtain rfl := vint_eq hv6
     replace h := bind_some h
     obtain ⟨x7, hx7, h⟩ := h
     refine lw_op Z Z Z (ow_indexSlice (R := RInt) Z Z Z (VRep.mono hl11 hw3) Tryd.underlying52 (Tryd.sizeOf3 _) hx7 fun p4 hp4 => lw_op Z Z Z (ow_load (R := RInt) Z Z hp4 (Tryd.sizeOf3 _) (Tryd.isAgg3 _) fun v7 hv7 => ?_))
     obtain rfl := vint_eq hv7
     refine lw_op Z Z Z (ow_fieldAddr Z Z Tryd.underlying42 Z (Tryd.sizeOf3 _) (lw_op0 Z Z (ow_store (X := (One g)) (us := [(.int .i64 x7)]) (cs' := #[(.slice A1 x1.1.length c1), (.int .i64 x7), (.int .i64 0)]) Z Z Z Z ho29 (Tryd.sizeOf3 _) Z Z Z Z hm5 (.inl hg4) Z hC11 fun w12 ho30 hb12 hl12 hC12 => ?_)))
     have ho31 := ho27.go hb12 (fun e => hn2 e)
     have ho32 := ho28.go hb12 (fun e => hn3 e)
     refine lw_nil (ew_blockN (ew_then (cw_seq (cw_region (lw_op Z Z Z (ow_loadOwnA Z Z Z ho30 (Tryd.isAgg42 _) (Tryd.sizeOf42 _) Z ?_))))))
     have lz4 := (((((((((hl3.trans hl4).trans hl5).trans hl6).trans hl7).trans hl8).trans hl9).trans hl10).trans hl11).trans hl12)
     refine lw_op0 Z Z (ow_store (X := (One g)) (us := [(.slice A1 x1.1.length c1), (.int .i64 x7), (.int .i64 0)]) (cs' := #[(.slice A1 x1.1.length c1), (.int .i64 x7), (.int .i64 0)]) Z Z Z Z ho32 (Tryd.sizeOf42 _) Z Z Z Z hm4 (.inl hg2) Z hC12 fun w13 ho33 hb13 hl13 hC13 => ?_)
     have ho34 := ho31.go hb13 (fun e => hn1 e)
     refine lw_nil (ew_then (cw_ret ?_))
     have hw5 : VRep RRule w13 (Add g2 (Add g1 M)) ({ Tests := x1.1, Action := x7, Chain := 0 } : Rule) (.agg #[(.slice A1 x1.1.length c1), (.int .i64 x7), (.int .i64 0)]) := shut_Rule (VRep.mono (lz4.trans hl13) hv1)
     obtain rfl := Option.some.inj h
     exact ew_ret (res1 Z (.cell Z (own_loadVarA ho33 (Tryd.isAgg42 _) (Tryd.sizeOf42 _) Z))) ⟨_, Z, ⟨(hw5.mono hC13.back), ho34⟩, hC13.bx⟩
    ·
     obtain rfl := hbb4.trans hc4
     refine cw_false Z (cw_seq (cw_region (lw_op Z Z Z (ow_eqlI Z Z Z fun bb5 hbb5 => lw_op Z Z Z (ow_assign Z Z (lw_nil (ew_then ?_)))))))
     replace h := cond_some h
     rcases h with ⟨hc5, h⟩ | ⟨hc5, h⟩
     ·
      obtain rfl := hbb5.trans hc5
      refine cw_true Z (cw_region (lw_op Z Z Z (ow_buildSlice (R := RInt) (xs := [(-1), 5, 1]) (cs := #[(.int .i64 (-1)), (.int .i64 5), (.int .i64 1)]) (e := 3) Z Z (by kernel_rfl) Z Z ⟨_, _, Z, (vint _).cells, _, _, Z, (vint _).cells, _, _, Z, (vint _).cells, Z⟩ hC9 fun p5 w14 hw6 hb14 hl14 hC14 => ?_)))
      have ho36 := ho21.no hb14
      have ho37 := ho22.no hb14
      have ho38 := ho23.no hb14
      refine lw_op Z Z Z (ow_move Z Z ?_)
      have lz5 := (((lz2.trans hl8).trans hl9).trans hl14)
      replace h := bind_some h
      obtain ⟨x8, hx8, h⟩ := h
      refine lw_op Z Z Z (ow_call Z Z Tryd.call60 (w_spec_l20Rd_pick (hG.mono lz5) hC14.old (VRep.mono lz5 hxs) ho36 hm3 hx8) fun v8 w15 hv8 => ?_)
      obtain ⟨⟨hv8, ho39⟩, hb15⟩ := hv8
      have hl15 := Le.of_bx (Add g2 (Add g1 M)) hb15 (fun b e => (by rw [show b = g from e]; exact hm3))
      have hC15 := hC14.go hb15 (fun b e => Or.inr e)
      have ho40 := ho37.go hb15 (fun e => hn1 e.symm)
      have ho41 := ho38.go hb15 (fun e => hn2 e.symm)
      obtain rfl := vint_eq hv8
      replace h := bind_some h
      obtain ⟨x9, hx9, h⟩ := h
      refine lw_op Z Z Z (ow_indexSlice (R := RInt) Z Z Z (VRep.mono hl15 hw6) Tryd.underlying52 (Tryd.sizeOf3 _) hx9 fun p6 hp6 => lw_op Z Z Z (ow_load (R := RInt) Z Z hp6 (Tryd.sizeOf3 _) (Tryd.isAgg3 _) fun v9 hv9 => ?_))
      obtain rfl := vint_eq hv9
      refine lw_op Z Z Z (ow_fieldAddr Z Z Tryd.underlying42 Z (Tryd.sizeOf3 _) (lw_op0 Z Z (ow_store (X := (One g)) (us := [(.int .i64 x9)]) (cs' := #[(.slice A1 x1.1.length c1), (.int .i64 2), (.int .i64 x9)]) Z Z Z Z ho41 (Tryd.sizeOf3 _) Z Z Z Z hm5 (.inl hg4) Z hC15 fun w16 ho42 hb16 hl16 hC16 => ?_)))
      have ho43 := ho39.go hb16 (fun e => hn2 e)
      have ho44 := ho40.go hb16 (fun e => hn3 e)
      refine lw_nil (ew_blockN (ew_then (cw_seq (cw_region (lw_op Z Z Z (ow_loadOwnA Z Z Z ho42 (Tryd.isAgg42 _) (Tryd.sizeOf42 _) Z ?_))))))
      have lz6 := (((((((((hl3.trans hl4).trans hl5).trans hl6).trans hl7).trans hl8).trans hl9).trans hl14).trans hl15).trans hl16)
      refine lw_op0 Z Z (ow_store (X := (One g)) (us := [(.slice A1 x1.1.length c1), (.int .i64 2), (.int .i64 x9)]) (cs' := #[(.slice A1 x1.1.length c1), (.int .i64 2), (.int .i64 x9)]) Z Z Z Z ho44 (Tryd.sizeOf42 _) Z Z Z Z hm4 (.inl hg2) Z hC16 fun w17 ho45 hb17 hl17 hC17 => ?_)
      have ho46 := ho43.go hb17 (fun e => hn1 e)
      refine lw_nil (ew_then (cw_ret ?_))
      have hw8 : VRep RRule w17 (Add g2 (Add g1 M)) ({ Tests := x1.1, Action := 2, Chain := x9 } : Rule) (.agg #[(.slice A1 x1.1.length c1), (.int .i64 2), (.int .i64 x9)]) := shut_Rule (VRep.mono (lz6.trans hl17) hv1)
      obtain rfl := Option.some.inj h
      exact ew_ret (res1 Z (.cell Z (own_loadVarA ho45 (Tryd.isAgg42 _) (Tryd.sizeOf42 _) Z))) ⟨_, Z, ⟨(hw8.mono hC17.back), ho46⟩, hC17.bx⟩
     ·
      obtain rfl := hbb5.trans hc5
      refine cw_false Z (cw_region (lw_op Z Z Z (ow_move Z Z ?_)))
      have lz7 := ((lz2.trans hl8).trans hl9)
      replace h := bind_some h
      obtain ⟨x10, hx10, h⟩ := h
      refine lw_op Z Z Z (ow_call Z Z Tryd.call79 (w_spec_l20Tests (hG.mono lz7) hC9.old (VRep.mono lz7 hxs) ho21 hm3 hx10) fun v10 w18 hv10 => ?_)
      obtain ⟨⟨hv10, ho48⟩, hb18⟩ := hv10
      have hC18 := hC9.go hb18 (fun b e => Or.inr e)
      have ho49 := ho22.go hb18 (fun e => hn1 e.symm)
      have ho50 := ho23.go hb18 (fun e => hn2 e.symm)
      refine lw_op Z Z Z (ow_fieldAddr Z Z Tryd.underlying42 Z (Tryd.sizeOf27 _) ?_)
      obtain ⟨A2, c2, rfl, -⟩ := vslice_shape hv10
      refine lw_op0 Z Z (ow_store (X := (One g)) (us := [(.slice A2 x10.1.length c2)]) (cs' := #[(.slice A2 x10.1.length c2), (.int .i64 2), (.int .i64 0)]) Z Z Z Z ho50 (Tryd.sizeOf27 _) Z Z Z Z hm5 (.inl hg4) Z hC18 fun w19 ho51 hb19 hl19 hC19 => ?_)
      have ho52 := ho48.go hb19 (fun e => hn2 e)
      have ho53 := ho49.go hb19 (fun e => hn3 e)
      refine lw_nil (ew_blockN (ew_then (cw_seq (cw_region (lw_op Z Z Z (ow_loadOwnA Z Z Z ho51 (Tryd.isAgg42 _) (Tryd.sizeOf42 _) Z (lw_op0 Z Z (ow_store (X := (One g)) (us := [(.slice A2 x10.1.length c2), (.int .i64 2), (.int .i64 0)]) (cs' := #[(.slice A2 x10.1.length c2), (.int .i64 2), (.int .i64 0)]) Z Z Z Z ho53 (Tryd.sizeOf42 _) Z Z Z Z hm4 (.inl hg2) Z hC19 fun w20 ho54 hb20 hl20 hC20 => ?_))))))))
      have ho55 := ho52.go hb20 (fun e => hn1 e)
      refine lw_nil (ew_then (cw_ret ?_))
      have hw10 : VRep RRule w20 (Add g2 (Add g1 M)) ({ Tests := x10.1, Action := 2, Chain := 0 } : Rule) (.agg #[(.slice A2 x10.1.length c2), (.int .i64 2), (.int .i64 0)]) := shut_Rule (VRep.mono (hl19.trans hl20) hv10)
      obtain rfl := Option.some.inj h
      exact ew_ret (res1 Z (.cell Z (own_loadVarA ho54 (Tryd.isAgg42 _) (Tryd.sizeOf42 _) Z))) ⟨_, Z, ⟨(hw10.mono hC20.back), ho55⟩, hC20.bx⟩
   ·
    obtain rfl := hbb3.trans hc3
    refine cw_false Z (cw_skip (ew_then (cw_seq (cw_region (lw_op Z Z Z (ow_loadOwnA Z Z Z ho20 (Tryd.isAgg42 _) (Tryd.sizeOf42 _) Z ?_))))))
    have lz8 := (((((hl3.trans hl4).trans hl5).trans hl6).trans hl7).trans hl8)
    refine lw_op0 Z Z (ow_store (X := (One g)) (us := [(.slice A1 x1.1.length c1), (.int .i64 2), (.int .i64 0)]) (cs' := #[(.slice A1 x1.1.length c1), (.int .i64 2), (.int .i64 0)]) Z Z Z Z ho19 (Tryd.sizeOf42 _) Z Z Z Z hm4 (.inl hg2) Z hC8 fun w21 ho57 hb21 hl21 hC21 => ?_)
    have ho58 := ho18.go hb21 (fun e => hn1 e)
    refine lw_nil (ew_then (cw_ret ?_))
    have hw12 : VRep RRule w21 (Add g2 (Add g1 M)) ({ Tests := x1.1, Action := 2, Chain := 0 } : Rule) (.agg #[(.slice A1 x1.1.length c1), (.int .i64 2), (.int .i64 0)]) := shut_Rule (VRep.mono (lz8.trans hl21) hv1)
    obtain rfl := Option.some.inj h
    exact ew_ret (res1 Z (.cell Z (own_loadVarA ho57 (Tryd.isAgg42 _) (Tryd.sizeOf42 _) Z))) ⟨_, Z, ⟨(hw12.mono hC21.back), ho58⟩, hC21.bx⟩
  ·
   obtain rfl := hbb2.trans hc2
   refine cw_false Z (cw_region (lw_op Z Z Z (ow_move Z Z (lw_op Z Z Z (ow_move Z Z (lw_op Z Z Z (ow_move Z Z (lw_op Z Z Z (ow_move Z Z (lw_op Z Z Z (ow_sub Z Z Z ?_)))))))))))
   have lz9 := (((lz1.trans hl4).trans hl5).trans hl6)
   replace h := bind_some h
   obtain ⟨x11, hx11, h⟩ := h
   refine lw_op Z Z Z (ow_call Z Z Tryd.call60 (w_spec_l20Rd_pick (hG.mono lz9) hC6.old (VRep.mono lz9 hxs) ho13 hm3 hx11) fun v11 w22 hv11 => ?_)
   obtain ⟨⟨hv11, ho60⟩, hb22⟩ := hv11
   have hl22 := Le.of_bx (Add g2 (Add g1 M)) hb22 (fun b e => (by rw [show b = g from e]; exact hm3))
   have hC22 := hC6.go hb22 (fun b e => Or.inr e)
   have ho61 := ho14.go hb22 (fun e => hn1 e.symm)
   have ho62 := ho12.go hb22 (fun e => hn2 e.symm)
   obtain rfl := vint_eq hv11
   refine lw_op Z Z Z (ow_add Z Z Z (lw_op Z Z Z (ow_fieldAddr Z Z Tryd.underlying42 Z (Tryd.sizeOf3 _) (lw_op0 Z Z (ow_store (X := (One g)) (us := [(.int .i64 (W (a_first + x11.1)))]) (cs' := #[(.slice A1 x1.1.length c1), (.int .i64 x3), (.int .i64 (W (a_first + x11.1)))]) Z Z Z Z ho62 (Tryd.sizeOf3 _) Z Z Z Z hm5 (.inl hg4) Z hC22 fun w23 ho63 hb23 hl23 hC23 => ?_)))))
   have ho64 := ho60.go hb23 (fun e => hn2 e)
   have ho65 := ho61.go hb23 (fun e => hn3 e)
   refine lw_nil (ew_then (cw_seq (cw_seq (cw_region (lw_op Z Z Z (ow_move Z Z (lw_op Z Z Z (ow_move Z Z ?_))))))))
   have lz10 := ((lz9.trans hl22).trans hl23)
   replace h := bind_some h
   obtain ⟨x12, hx12, h⟩ := h
   refine lw_op Z Z Z (ow_call Z Z Tryd.call81 (w_spec_l20Rd_odd (hG.mono lz10) hC23.old (VRep.mono lz10 hxs) ho64 hm3 hx12) fun v12 w24 hv12 => ?_)
   obtain ⟨⟨hv12, ho66⟩, hb24⟩ := hv12
   have hl24 := Le.of_bx (Add g2 (Add g1 M)) hb24 (fun b e => (by rw [show b = g from e]; exact hm3))
   have hC24 := hC23.go hb24 (fun b e => Or.inr e)
   have ho67 := ho65.go hb24 (fun e => hn1 e.symm)
   have ho68 := ho63.go hb24 (fun e => hn2 e.symm)
   obtain ⟨bb6, hbb6, rfl⟩ := vbool_ex hv12
   refine lw_nil (ew_then ?_)
   replace h := cond_some h
   rcases h with ⟨hc6, h⟩ | ⟨hc6, h⟩
   ·
    obtain rfl := hbb6.trans hc6
    refine cw_true Z (cw_seq (cw_region (lw_op Z Z Z (ow_move Z Z ?_))))
    replace h := bind_some h
    obtain ⟨x13, hx13, h⟩ := h
    refine lw_op Z Z Z (ow_call Z Z Tryd.call60 (w_spec_l20Rd_pick (hG.mono (lz10.trans hl24)) hC24.old (VRep.mono (lz10.trans hl24) hxs) ho66 hm3 hx13) fun v13 w25 hv13 => ?_)
    obtain ⟨⟨hv13, ho69⟩, hb25⟩ := hv13
    have hl25 := Le.of_bx (Add g2 (Add g1 M)) hb25 (fun b e => (by rw [show b = g from e]; exact hm3))
    have hC25 := hC24.go hb25 (fun b e => Or.inr e)
    have ho70 := ho67.go hb25 (fun e => hn1 e.symm)
    have ho71 := ho68.go hb25 (fun e => hn2 e.symm)
    obtain rfl := vint_eq hv13
    refine lw_nil (ew_then (cw_block (cw_seq (cw_region (lw_op Z Z Z (ow_eqlI Z Z Z fun bb7 hbb7 => lw_op Z Z Z (ow_assign Z Z (lw_nil (ew_then ?_)))))))))
    replace h := cond_some h
    rcases h with ⟨hc7, h⟩ | ⟨hc7, h⟩
    ·
     obtain rfl := hbb7.trans hc7
     refine cw_true Z (cw_region (lw_op Z Z Z (ow_buildSlice (R := RInt) (xs := [0, 6]) (cs := #[(.int .i64 0), (.int .i64 6)]) (e := 3) Z Z (by kernel_rfl) Z Z ⟨_, _, Z, (vint _).cells, _, _, Z, (vint _).cells, Z⟩ hC25 fun p7 w26 hw13 hb26 hl26 hC26 => ?_)))
     have ho72 := ho69.no hb26
     have ho73 := ho70.no hb26
     have ho74 := ho71.no hb26
     refine lw_op Z Z Z (ow_move Z Z ?_)
     have lz11 := (((lz10.trans hl24).trans hl25).trans hl26)
     replace h := bind_some h
     obtain ⟨x14, hx14, h⟩ := h
     refine lw_op Z Z Z (ow_call Z Z Tryd.call60 (w_spec_l20Rd_pick (hG.mono lz11) hC26.old (VRep.mono lz11 hxs) ho72 hm3 hx14) fun v14 w27 hv14 => ?_)
     obtain ⟨⟨hv14, ho75⟩, hb27⟩ := hv14
     have hl27 := Le.of_bx (Add g2 (Add g1 M)) hb27 (fun b e => (by rw [show b = g from e]; exact hm3))
     have hC27 := hC26.go hb27 (fun b e => Or.inr e)
     have ho76 := ho73.go hb27 (fun e => hn1 e.symm)
     have ho77 := ho74.go hb27 (fun e => hn2 e.symm)
     obtain rfl := vint_eq hv14
     replace h := bind_some h
     obtain ⟨x15, hx15, h⟩ := h
     refine lw_op Z Z Z (ow_indexSlice (R := RInt) Z Z Z (VRep.mono hl27 hw13) Tryd.underlying52 (Tryd.sizeOf3 _) hx15 fun p8 hp8 => lw_op Z Z Z (ow_load (R := RInt) Z Z hp8 (Tryd.sizeOf3 _) (Tryd.isAgg3 _) fun v15 hv15 => ?_))
     obtain rfl := vint_eq hv15
     refine lw_op Z Z Z (ow_fieldAddr Z Z Tryd.underlying42 Z (Tryd.sizeOf3 _) (lw_op0 Z Z (ow_store (X := (One g)) (us := [(.int .i64 x15)]) (cs' := #[(.slice A1 x1.1.length c1), (.int .i64 x15), (.int .i64 (W (a_first + x11.1)))]) Z Z Z Z ho77 (Tryd.sizeOf3 _) Z Z Z Z hm5 (.inl hg4) Z hC27 fun w28 ho78 hb28 hl28 hC28 => ?_)))
     have ho79 := ho75.go hb28 (fun e => hn2 e)
     have ho80 := ho76.go hb28 (fun e => hn3 e)
     refine lw_nil (ew_blockN (ew_then (cw_seq (cw_region (lw_op Z Z Z (ow_loadOwnA Z Z Z ho78 (Tryd.isAgg42 _) (Tryd.sizeOf42 _) Z ?_))))))
     have lz12 := ((((((((((hl3.trans hl4).trans hl5).trans hl6).trans hl22).trans hl23).trans hl24).trans hl25).trans hl26).trans hl27).trans hl28)
     refine lw_op0 Z Z (ow_store (X := (One g)) (us := [(.slice A1 x1.1.length c1), (.int .i64 x15), (.int .i64 (W (a_first + x11.1)))]) (cs' := #[(.slice A1 x1.1.length c1), (.int .i64 x15), (.int .i64 (W (a_first + x11.1)))]) Z Z Z Z ho80 (Tryd.sizeOf42 _) Z Z Z Z hm4 (.inl hg2) Z hC28 fun w29 ho81 hb29 hl29 hC29 => ?_)
     have ho82 := ho79.go hb29 (fun e => hn1 e)
     refine lw_nil (ew_then (cw_ret ?_))
     have hw15 : VRep RRule w29 (Add g2 (Add g1 M)) ({ Tests := x1.1, Action := x15, Chain := (W (a_first + x11.1)) } : Rule) (.agg #[(.slice A1 x1.1.length c1), (.int .i64 x15), (.int .i64 (W (a_first + x11.1)))]) := shut_Rule (VRep.mono (lz12.trans hl29) hv1)
     obtain rfl := Option.some.inj h
     exact ew_ret (res1 Z (.cell Z (own_loadVarA ho81 (Tryd.isAgg42 _) (Tryd.sizeOf42 _) Z))) ⟨_, Z, ⟨(hw15.mono hC29.back), ho82⟩, hC29.bx⟩
    ·
     obtain rfl := hbb7.trans hc7
     refine cw_false Z (cw_seq (cw_region (lw_op Z Z Z (ow_eqlI Z Z Z fun bb8 hbb8 => lw_op Z Z Z (ow_assign Z Z (lw_nil (ew_then ?_)))))))
     replace h := cond_some h
     rcases h with ⟨hc8, h⟩ | ⟨hc8, h⟩
     ·
      obtain rfl := hbb8.trans hc8
      refine cw_true Z (cw_region (lw_op Z Z Z (ow_buildSlice (R := RInt) (xs := [(-1), 5, 1]) (cs := #[(.int .i64 (-1)), (.int .i64 5), (.int .i64 1)]) (e := 3) Z Z (by kernel_rfl) Z Z ⟨_, _, Z, (vint _).cells, _, _, Z, (vint _).cells, _, _, Z, (vint _).cells, Z⟩ hC25 fun p9 w30 hw16 hb30 hl30 hC30 => ?_)))
      have ho84 := ho69.no hb30
      have ho85 := ho70.no hb30
      have ho86 := ho71.no hb30
      refine lw_op Z Z Z (ow_move Z Z ?_)
      have lz13 := (((lz10.trans hl24).trans hl25).trans hl30)
      replace h := bind_some h
      obtain ⟨x16, hx16, h⟩ := h
      refine lw_op Z Z Z (ow_call Z Z Tryd.call60 (w_spec_l20Rd_pick (hG.mono lz13) hC30.old (VRep.mono lz13 hxs) ho84 hm3 hx16) fun v16 w31 hv16 => ?_)
      obtain ⟨⟨hv16, ho87⟩, hb31⟩ := hv16
      have hl31 := Le.of_bx (Add g2 (Add g1 M)) hb31 (fun b e => (by rw [show b = g from e]; exact hm3))
      have hC31 := hC30.go hb31 (fun b e => Or.inr e)
      have ho88 := ho85.go hb31 (fun e => hn1 e.symm)
      have ho89 := ho86.go hb31 (fun e => hn2 e.symm)
      obtain rfl := vint_eq hv16
      replace h := bind_some h
      obtain ⟨x17, hx17, h⟩ := h
      refine lw_op Z Z Z (ow_indexSlice (R := RInt) Z Z Z (VRep.mono hl31 hw16) Tryd.underlying52 (Tryd.sizeOf3 _) hx17 fun p10 hp10 => lw_op Z Z Z (ow_load (R := RInt) Z Z hp10 (Tryd.sizeOf3 _) (Tryd.isAgg3 _) fun v17 hv17 => ?_))
      obtain rfl := vint_eq hv17
      refine lw_op Z Z Z (ow_fieldAddr Z Z Tryd.underlying42 Z (Tryd.sizeOf3 _) (lw_op0 Z Z (ow_store (X := (One g)) (us := [(.int .i64 x17)]) (cs' := #[(.slice A1 x1.1.length c1), (.int .i64 x3), (.int .i64 x17)]) Z Z Z Z ho89 (Tryd.sizeOf3 _) Z Z Z Z hm5 (.inl hg4) Z hC31 fun w32 ho90 hb32 hl32 hC32 => ?_)))
      have ho91 := ho87.go hb32 (fun e => hn2 e)
      have ho92 := ho88.go hb32 (fun e => hn3 e)
      refine lw_nil (ew_blockN (ew_then (cw_seq (cw_region (lw_op Z Z Z (ow_loadOwnA Z Z Z ho90 (Tryd.isAgg42 _) (Tryd.sizeOf42 _) Z ?_))))))
      have lz14 := ((((((((((hl3.trans hl4).trans hl5).trans hl6).trans hl22).trans hl23).trans hl24).trans hl25).trans hl30).trans hl31).trans hl32)
      refine lw_op0 Z Z (ow_store (X := (One g)) (us := [(.slice A1 x1.1.length c1), (.int .i64 x3), (.int .i64 x17)]) (cs' := #[(.slice A1 x1.1.length c1), (.int .i64 x3), (.int .i64 x17)]) Z Z Z Z ho92 (Tryd.sizeOf42 _) Z Z Z Z hm4 (.inl hg2) Z hC32 fun w33 ho93 hb33 hl33 hC33 => ?_)
      have ho94 := ho91.go hb33 (fun e => hn1 e)
      refine lw_nil (ew_then (cw_ret ?_))
      have hw18 : VRep RRule w33 (Add g2 (Add g1 M)) ({ Tests := x1.1, Action := x3, Chain := x17 } : Rule) (.agg #[(.slice A1 x1.1.length c1), (.int .i64 x3), (.int .i64 x17)]) := shut_Rule (VRep.mono (lz14.trans hl33) hv1)
      obtain rfl := Option.some.inj h
      exact ew_ret (res1 Z (.cell Z (own_loadVarA ho93 (Tryd.isAgg42 _) (Tryd.sizeOf42 _) Z))) ⟨_, Z, ⟨(hw18.mono hC33.back), ho94⟩, hC33.bx⟩
     ·
      obtain rfl := hbb8.trans hc8
      refine cw_false Z (cw_region (lw_op Z Z Z (ow_move Z Z ?_)))
      have lz15 := ((lz10.trans hl24).trans hl25)
      replace h := bind_some h
      obtain ⟨x18, hx18, h⟩ := h
      refine lw_op Z Z Z (ow_call Z Z Tryd.call79 (w_spec_l20Tests (hG.mono lz15) hC25.old (VRep.mono lz15 hxs) ho69 hm3 hx18) fun v18 w34 hv18 => ?_)
      obtain ⟨⟨hv18, ho96⟩, hb34⟩ := hv18
      have hC34 := hC25.go hb34 (fun b e => Or.inr e)
      have ho97 := ho70.go hb34 (fun e => hn1 e.symm)
      have ho98 := ho71.go hb34 (fun e => hn2 e.symm)
      refine lw_op Z Z Z (ow_fieldAddr Z Z Tryd.underlying42 Z (Tryd.sizeOf27 _) ?_)
      obtain ⟨A3, c3, rfl, -⟩ := vslice_shape hv18
      refine lw_op0 Z Z (ow_store (X := (One g)) (us := [(.slice A3 x18.1.length c3)]) (cs' := #[(.slice A3 x18.1.length c3), (.int .i64 x3), (.int .i64 (W (a_first + x11.1)))]) Z Z Z Z ho98 (Tryd.sizeOf27 _) Z Z Z Z hm5 (.inl hg4) Z hC34 fun w35 ho99 hb35 hl35 hC35 => ?_)
      have ho100 := ho96.go hb35 (fun e => hn2 e)
      have ho101 := ho97.go hb35 (fun e => hn3 e)
      refine lw_nil (ew_blockN (ew_then (cw_seq (cw_region (lw_op Z Z Z (ow_loadOwnA Z Z Z ho99 (Tryd.isAgg42 _) (Tryd.sizeOf42 _) Z (lw_op0 Z Z (ow_store (X := (One g)) (us := [(.slice A3 x18.1.length c3), (.int .i64 x3), (.int .i64 (W (a_first + x11.1)))]) (cs' := #[(.slice A3 x18.1.length c3), (.int .i64 x3), (.int .i64 (W (a_first + x11.1)))]) Z Z Z Z ho101 (Tryd.sizeOf42 _) Z Z Z Z hm4 (.inl hg2) Z hC35 fun w36 ho102 hb36 hl36 hC36 => ?_))))))))
      have ho103 := ho100.go hb36 (fun e => hn1 e)
      refine lw_nil (ew_then (cw_ret ?_))
      have hw20 : VRep RRule w36 (Add g2 (Add g1 M)) ({ Tests := x18.1, Action := x3, Chain := (W (a_first + x11.1)) } : Rule) (.agg #[(.slice A3 x18.1.length c3), (.int .i64 x3), (.int .i64 (W (a_first + x11.1)))]) := shut_Rule (VRep.mono (hl35.trans hl36) hv18)
      obtain rfl := Option.some.inj h
      exact ew_ret (res1 Z (.cell Z (own_loadVarA ho102 (Tryd.isAgg42 _) (Tryd.sizeOf42 _) Z))) ⟨_, Z, ⟨(hw20.mono hC36.back), ho103⟩, hC36.bx⟩
   ·
    obtain rfl := hbb6.trans hc6
    refine cw_false Z (cw_skip (ew_then (cw_seq (cw_region (lw_op Z Z Z (ow_loadOwnA Z Z Z ho68 (Tryd.isAgg42 _) (Tryd.sizeOf42 _) Z ?_))))))
    have lz16 := ((((((hl3.trans hl4).trans hl5).trans hl6).trans hl22).trans hl23).trans hl24)
    refine lw_op0 Z Z (ow_store (X := (One g)) (us := [(.slice A1 x1.1.length c1), (.int .i64 x3), (.int .i64 (W (a_first + x11.1)))]) (cs' := #[(.slice A1 x1.1.length c1), (.int .i64 x3), (.int .i64 (W (a_first + x11.1)))]) Z Z Z Z ho67 (Tryd.sizeOf42 _) Z Z Z Z hm4 (.inl hg2) Z hC24 fun w37 ho105 hb37 hl37 hC37 => ?_)
    have ho106 := ho66.go hb37 (fun e => hn1 e)
    refine lw_nil (ew_then (cw_ret ?_))
    have hw22 : VRep RRule w37 (Add g2 (Add g1 M)) ({ Tests := x1.1, Action := x3, Chain := (W (a_first + x11.1)) } : Rule) (.agg #[(.slice A1 x1.1.length c1), (.int .i64 x3), (.int .i64 (W (a_first + x11.1)))]) := shut_Rule (VRep.mono (lz16.trans hl37) hv1)
    obtain rfl := Option.some.inj h
    exact ew_ret (res1 Z (.cell Z (own_loadVarA ho105 (Tryd.isAgg42 _) (Tryd.sizeOf42 _) Z))) ⟨_, Z, ⟨(hw22.mono hC37.back), ho106⟩, hC37.bx⟩
 ·
  obtain rfl := hbb1.trans hc1
  refine cw_false Z (cw_skip (ew_then (cw_seq (cw_seq (cw_region (lw_op Z Z Z (ow_move Z Z (lw_op Z Z Z (ow_move Z Z ?_)))))))))
  have lz17 := (((lz1.trans hl4).trans hl5).trans hl6)
  replace h := bind_some h
  obtain ⟨x19, hx19, h⟩ := h
  refine lw_op Z Z Z (ow_call Z Z Tryd.call81 (w_spec_l20Rd_odd (hG.mono lz17) hC6.old (VRep.mono lz17 hxs) ho13 hm3 hx19) fun v19 w38 hv19 => ?_)
  obtain ⟨⟨hv19, ho108⟩, hb38⟩ := hv19
  have hl38 := Le.of_bx (Add g2 (Add g1 M)) hb38 (fun b e => (by rw [show b = g from e]; exact hm3))
  have hC38 := hC6.go hb38 (fun b e => Or.inr e)
  have ho109 := ho14.go hb38 (fun e => hn1 e.symm)
  have ho110 := ho12.go hb38 (fun e => hn2 e.symm)
  obtain ⟨bb9, hbb9, rfl⟩ := vbool_ex hv19
  refine lw_nil (ew_then ?_)
  replace h := cond_some h
  rcases h with ⟨hc9, h⟩ | ⟨hc9, h⟩
  ·
   obtain rfl := hbb9.trans hc9
   refine cw_true Z (cw_seq (cw_region (lw_op Z Z Z (ow_move Z Z ?_))))
   replace h := bind_some h
   obtain ⟨x20, hx20, h⟩ := h
   refine lw_op Z Z Z (ow_call Z Z Tryd.call60 (w_spec_l20Rd_pick (hG.mono (lz17.trans hl38)) hC38.old (VRep.mono (lz17.trans hl38) hxs) ho108 hm3 hx20) fun v20 w39 hv20 => ?_)
   obtain ⟨⟨hv20, ho111⟩, hb39⟩ := hv20
   have hl39 := Le.of_bx (Add g2 (Add g1 M)) hb39 (fun b e => (by rw [show b = g from e]; exact hm3))
   have hC39 := hC38.go hb39 (fun b e => Or.inr e)
   have ho112 := ho109.go hb39 (fun e => hn1 e.symm)
   have ho113 := ho110.go hb39 (fun e => hn2 e.symm)
   obtain rfl := vint_eq hv20
   refine lw_nil (ew_then (cw_block (cw_seq (cw_region (lw_op Z Z Z (ow_eqlI Z Z Z fun bb10 hbb10 => lw_op Z Z Z (ow_assign Z Z (lw_nil (ew_then ?_)))))))))
   replace h := cond_some h
   rcases h with ⟨hc10, h⟩ | ⟨hc10, h⟩
   ·
    obtain rfl := hbb10.trans hc10
    refine cw_true Z (cw_region (lw_op Z Z Z (ow_buildSlice (R := RInt) (xs := [0, 6]) (cs := #[(.int .i64 0), (.int .i64 6)]) (e := 3) Z Z (by kernel_rfl) Z Z ⟨_, _, Z, (vint _).cells, _, _, Z, (vint _).cells, Z⟩ hC39 fun p11 w40 hw23 hb40 hl40 hC40 => ?_)))
    have ho114 := ho111.no hb40
    have ho115 := ho112.no hb40
    have ho116 := ho113.no hb40
    refine lw_op Z Z Z (ow_move Z Z ?_)
    have lz18 := (((lz17.trans hl38).trans hl39).trans hl40)
    replace h := bind_some h
    obtain ⟨x21, hx21, h⟩ := h
    refine lw_op Z Z Z (ow_call Z Z Tryd.call60 (w_spec_l20Rd_pick (hG.mono lz18) hC40.old (VRep.mono lz18 hxs) ho114 hm3 hx21) fun v21 w41 hv21 => ?_)
    obtain ⟨⟨hv21, ho117⟩, hb41⟩ := hv21
    have hl41 := Le.of_bx (Add g2 (Add g1 M)) hb41 (fun b e => (by rw [show b = g from e]; exact hm3))
    have hC41 := hC40.go hb41 (fun b e => Or.inr e)
    have ho118 := ho115.go hb41 (fun e => hn1 e.symm)
    have ho119 := ho116.go hb41 (fun e => hn2 e.symm)
    obtain rfl := vint_eq hv21
    replace h := bind_some h
    obtain ⟨x22, hx22, h⟩ := h
    refine lw_op Z Z Z (ow_indexSlice (R := RInt) Z Z Z (VRep.mono hl41 hw23) Tryd.underlying52 (Tryd.sizeOf3 _) hx22 fun p12 hp12 => lw_op Z Z Z (ow_load (R := RInt) Z Z hp12 (Tryd.sizeOf3 _) (Tryd.isAgg3 _) fun v22 hv22 => ?_))
    obtain rfl := vint_eq hv22
    refine lw_op Z Z Z (ow_fieldAddr Z Z Tryd.underlying42 Z (Tryd.sizeOf3 _) (lw_op0 Z Z (ow_store (X := (One g)) (us := [(.int .i64 x22)]) (cs' := #[(.slice A1 x1.1.length c1), (.int .i64 x22), (.int .i64 0)]) Z Z Z Z ho119 (Tryd.sizeOf3 _) Z Z Z Z hm5 (.inl hg4) Z hC41 fun w42 ho120 hb42 hl42 hC42 => ?_)))
    have ho121 := ho117.go hb42 (fun e => hn2 e)
    have ho122 := ho118.go hb42 (fun e => hn3 e)
    refine lw_nil (ew_blockN (ew_then (cw_seq (cw_region (lw_op Z Z Z (ow_loadOwnA Z Z Z ho120 (Tryd.isAgg42 _) (Tryd.sizeOf42 _) Z ?_))))))
    have lz19 := ((((((((hl3.trans hl4).trans hl5).trans hl6).trans hl38).trans hl39).trans hl40).trans hl41).trans hl42)
    refine lw_op0 Z Z (ow_store (X := (One g)) (us := [(.slice A1 x1.1.length c1), (.int .i64 x22), (.int .i64 0)]) (cs' := #[(.slice A1 x1.1.length c1), (.int .i64 x22), (.int .i64 0)]) Z Z Z Z ho122 (Tryd.sizeOf42 _) Z Z Z Z hm4 (.inl hg2) Z hC42 fun w43 ho123 hb43 hl43 hC43 => ?_)
    have ho124 := ho121.go hb43 (fun e => hn1 e)
    refine lw_nil (ew_then (cw_ret ?_))
    have hw25 : VRep RRule w43 (Add g2 (Add g1 M)) ({ Tests := x1.1, Action := x22, Chain := 0 } : Rule) (.agg #[(.slice A1 x1.1.length c1), (.int .i64 x22), (.int .i64 0)]) := shut_Rule (VRep.mono (lz19.trans hl43) hv1)
    obtain rfl := Option.some.inj h
    exact ew_ret (res1 Z (.cell Z (own_loadVarA ho123 (Tryd.isAgg42 _) (Tryd.sizeOf42 _) Z))) ⟨_, Z, ⟨(hw25.mono hC43.back), ho124⟩, hC43.bx⟩
   ·
    obtain rfl := hbb10.trans hc10
    refine cw_false Z (cw_seq (cw_region (lw_op Z Z Z (ow_eqlI Z Z Z fun bb11 hbb11 => lw_op Z Z Z (ow_assign Z Z (lw_nil (ew_then ?_)))))))
    replace h := cond_some h
    rcases h with ⟨hc11, h⟩ | ⟨hc11, h⟩
    ·
     obtain rfl := hbb11.trans hc11
     refine cw_true Z (cw_region (lw_op Z Z Z (ow_buildSlice (R := RInt) (xs := [(-1), 5, 1]) (cs := #[(.int .i64 (-1)), (.int .i64 5), (.int .i64 1)]) (e := 3) Z Z (by kernel_rfl) Z Z ⟨_, _, Z, (vint _).cells, _, _, Z, (vint _).cells, _, _, Z, (vint _).cells, Z⟩ hC39 fun p13 w44 hw26 hb44 hl44 hC44 => ?_)))
     have ho126 := ho111.no hb44
     have ho127 := ho112.no hb44
     have ho128 := ho113.no hb44
     refine lw_op Z Z Z (ow_move Z Z ?_)
     have lz20 := (((lz17.trans hl38).trans hl39).trans hl44)
     replace h := bind_some h
     obtain ⟨x23, hx23, h⟩ := h
     refine lw_op Z Z Z (ow_call Z Z Tryd.call60 (w_spec_l20Rd_pick (hG.mono lz20) hC44.old (VRep.mono lz20 hxs) ho126 hm3 hx23) fun v23 w45 hv23 => ?_)
     obtain ⟨⟨hv23, ho129⟩, hb45⟩ := hv23
     have hl45 := Le.of_bx (Add g2 (Add g1 M)) hb45 (fun b e => (by rw [show b = g from e]; exact hm3))
     have hC45 := hC44.go hb45 (fun b e => Or.inr e)
     have ho130 := ho127.go hb45 (fun e => hn1 e.symm)
     have ho131 := ho128.go hb45 (fun e => hn2 e.symm)
     obtain rfl := vint_eq hv23
     replace h := bind_some h
     obtain ⟨x24, hx24, h⟩ := h
     refine lw_op Z Z Z (ow_indexSlice (R := RInt) Z Z Z (VRep.mono hl45 hw26) Tryd.underlying52 (Tryd.sizeOf3 _) hx24 fun p14 hp14 => lw_op Z Z Z (ow_load (R := RInt) Z Z hp14 (Tryd.sizeOf3 _) (Tryd.isAgg3 _) fun v24 hv24 => ?_))
     obtain rfl := vint_eq hv24
     refine lw_op Z Z Z (ow_fieldAddr Z Z Tryd.underlying42 Z (Tryd.sizeOf3 _) (lw_op0 Z Z (ow_store (X := (One g)) (us := [(.int .i64 x24)]) (cs' := #[(.slice A1 x1.1.length c1), (.int .i64 x3), (.int .i64 x24)]) Z Z Z Z ho131 (Tryd.sizeOf3 _) Z Z Z Z hm5 (.inl hg4) Z hC45 fun w46 ho132 hb46 hl46 hC46 => ?_)))
     have ho133 := ho129.go hb46 (fun e => hn2 e)
     have ho134 := ho130.go hb46 (fun e => hn3 e)
     refine lw_nil (ew_blockN (ew_then (cw_seq (cw_region (lw_op Z Z Z (ow_loadOwnA Z Z Z ho132 (Tryd.isAgg42 _) (Tryd.sizeOf42 _) Z ?_))))))
     have lz21 := ((((((((hl3.trans hl4).trans hl5).trans hl6).trans hl38).trans hl39).trans hl44).trans hl45).trans hl46)
     refine lw_op0 Z Z (ow_store (X := (One g)) (us := [(.slice A1 x1.1.length c1), (.int .i64 x3), (.int .i64 x24)]) (cs' := #[(.slice A1 x1.1.length c1), (.int .i64 x3), (.int .i64 x24)]) Z Z Z Z ho134 (Tryd.sizeOf42 _) Z Z Z Z hm4 (.inl hg2) Z hC46 fun w47 ho135 hb47 hl47 hC47 => ?_)
     have ho136 := ho133.go hb47 (fun e => hn1 e)
     refine lw_nil (ew_then (cw_ret ?_))
     have hw28 : VRep RRule w47 (Add g2 (Add g1 M)) ({ Tests := x1.1, Action := x3, Chain := x24 } : Rule) (.agg #[(.slice A1 x1.1.length c1), (.int .i64 x3), (.int .i64 x24)]) := shut_Rule (VRep.mono (lz21.trans hl47) hv1)
     obtain rfl := Option.some.inj h
     exact ew_ret (res1 Z (.cell Z (own_loadVarA ho135 (Tryd.isAgg42 _) (Tryd.sizeOf42 _) Z))) ⟨_, Z, ⟨(hw28.mono hC47.back), ho136⟩, hC47.bx⟩
    ·
     obtain rfl := hbb11.trans hc11
     refine cw_false Z (cw_region (lw_op Z Z Z (ow_move Z Z ?_)))
     have lz22 := ((lz17.trans hl38).trans hl39)
     replace h := bind_some h
     obtain ⟨x25, hx25, h⟩ := h
     refine lw_op Z Z Z (ow_call Z Z Tryd.call79 (w_spec_l20Tests (hG.mono lz22) hC39.old (VRep.mono lz22 hxs) ho111 hm3 hx25) fun v25 w48 hv25 => ?_)
     obtain ⟨⟨hv25, ho138⟩, hb48⟩ := hv25
     have hC48 := hC39.go hb48 (fun b e => Or.inr e)
     have ho139 := ho112.go hb48 (fun e => hn1 e.symm)
     have ho140 := ho113.go hb48 (fun e => hn2 e.symm)
     refine lw_op Z Z Z (ow_fieldAddr Z Z Tryd.underlying42 Z (Tryd.sizeOf27 _) ?_)
     obtain ⟨A4, c4, rfl, -⟩ := vslice_shape hv25
     refine lw_op0 Z Z (ow_store (X := (One g)) (us := [(.slice A4 x25.1.length c4)]) (cs' := #[(.slice A4 x25.1.length c4), (.int .i64 x3), (.int .i64 0)]) Z Z Z Z ho140 (Tryd.sizeOf27 _) Z Z Z Z hm5 (.inl hg4) Z hC48 fun w49 ho141 hb49 hl49 hC49 => ?_)
     have ho142 := ho138.go hb49 (fun e => hn2 e)
     have ho143 := ho139.go hb49 (fun e => hn3 e)
     refine lw_nil (ew_blockN (ew_then (cw_seq (cw_region (lw_op Z Z Z (ow_loadOwnA Z Z Z ho141 (Tryd.isAgg42 _) (Tryd.sizeOf42 _) Z (lw_op0 Z Z (ow_store (X := (One g)) (us := [(.slice A4 x25.1.length c4), (.int .i64 x3), (.int .i64 0)]) (cs' := #[(.slice A4 x25.1.length c4), (.int .i64 x3), (.int .i64 0)]) Z Z Z Z ho143 (Tryd.sizeOf42 _) Z Z Z Z hm4 (.inl hg2) Z hC49 fun w50 ho144 hb50 hl50 hC50 => ?_))))))))
     have ho145 := ho142.go hb50 (fun e => hn1 e)
     refine lw_nil (ew_then (cw_ret ?_))
     have hw30 : VRep RRule w50 (Add g2 (Add g1 M)) ({ Tests := x25.1, Action := x3, Chain := 0 } : Rule) (.agg #[(.slice A4 x25.1.length c4), (.int .i64 x3), (.int .i64 0)]) := shut_Rule (VRep.mono (hl49.trans hl50) hv25)
     obtain rfl := Option.some.inj h
     exact ew_ret (res1 Z (.cell Z (own_loadVarA ho144 (Tryd.isAgg42 _) (Tryd.sizeOf42 _) Z))) ⟨_, Z, ⟨(hw30.mono hC50.back), ho145⟩, hC50.bx⟩
  ·
   obtain rfl := hbb9.trans hc9
   refine cw_false Z (cw_skip (ew_then (cw_seq (cw_region (lw_op Z Z Z (ow_loadOwnA Z Z Z ho110 (Tryd.isAgg42 _) (Tryd.sizeOf42 _) Z ?_))))))
   have lz23 := ((((hl3.trans hl4).trans hl5).trans hl6).trans hl38)
   refine lw_op0 Z Z (ow_store (X := (One g)) (us := [(.slice A1 x1.1.length c1), (.int .i64 x3), (.int .i64 0)]) (cs' := #[(.slice A1 x1.1.length c1), (.int .i64 x3), (.int .i64 0)]) Z Z Z Z ho109 (Tryd.sizeOf42 _) Z Z Z Z hm4 (.inl hg2) Z hC38 fun w51 ho147 hb51 hl51 hC51 => ?_)
   have ho148 := ho108.go hb51 (fun e => hn1 e)
   refine lw_nil (ew_then (cw_ret ?_))
   have hw32 : VRep RRule w51 (Add g2 (Add g1 M)) ({ Tests := x1.1, Action := x3, Chain := 0 } : Rule) (.agg #[(.slice A1 x1.1.length c1), (.int .i64 x3), (.int .i64 0)]) := shut_Rule (VRep.mono (lz23.trans hl51) hv1)
   obtain rfl := Option.some.inj h
   exact ew_ret (res1 Z (.cell Z (own_loadVarA ho147 (Tryd.isAgg42 _) (Tryd.sizeOf42 _) Z))) ⟨_, Z, ⟨(hw32.mono hC51.back), ho148⟩, hC51.bx⟩

theorem w_spec_l20Rules {w : World} {M : Nat → Prop} (hG : ARep (RArr 4 RShape) w M shapes ⟨0, 0, none⟩) (hO : ∀ b, M b → b < w.heap.size) {g : Nat} {Ax : Option Addr} {cx : Nat} {a_xs : List Int} {a_pos : Int} (hxs : VRep (RSlice RU8) w M a_xs (.slice Ax a_xs.length cx)) (hown : Own w g 111 #[.slice Ax a_xs.length cx, .int .i64 a_pos]) (hgM : M g) {a_first : Int} {a_chains : Int} {a_n : Int} {r : ((List Rule)) × Int} (h : F.spec_l20Rules a_xs a_pos a_first a_chains a_n = some r) :
  Calls Tryd.prog 59 [(.pointer (some ⟨g, 0, none⟩)), (.int .i64 a_first), (.int .i64 a_chains), (.int .i64 a_n)].toArray w fun e w' => ∃ v, e = .returned v ∧ (VRep (RSlice RRule) w' M r.1 v ∧ Own w' g 111 #[.slice Ax a_xs.length cx, .int .i64 r.2]) ∧ BX (One g) w w' := by
 obtain ⟨i42, hi42, hz42, hs42, hy42⟩ := info42
 have hX : ∀ b, (One g) b → M b := fun b e => e ▸ hgM
 have hC : Cx (One g) w M w M := Cx.start hO hX
 refine walk (N := 46) Tryd.func59 Z Tryd.ntmps59 Z (cw_seq (cw_region (lw_op Z Z Z (ow_assign Z Z (lw_nil (ew_then (cw_seq (cw_region (lw_op Z Z Z (ow_buildSlice0 (R := RRule) (e := 42) Z (by kernel_rfl) hC fun p1 w1 M1 hr1 hb1 hl1 hC1 hM1 hat1 => ?_))))))))))
 have ho1 := hown.no hb1
 have hm1 := hM1 _ hgM
 refine lw_op Z Z Z (ow_assign Z Z (lw_nil (ew_then (cw_seq (cw_seq (cw_region (lw_op Z Z Z (ow_move Z Z ?_))))))))
 replace h := bind_some h
 obtain ⟨x1, hx1, h⟩ := h
 refine lw_op Z Z Z (ow_call Z Z Tryd.call60 (w_spec_l20Rd_pick (hG.mono hl1) hC1.old (VRep.mono hl1 hxs) ho1 hm1 hx1) fun v1 w2 hv1 => ?_)
 obtain ⟨⟨hv1, ho2⟩, hb2⟩ := hv1
 have hl2 := Le.of_bx M1 hb2 (fun b e => (by rw [show b = g from e]; exact hm1))
 have hC2 := hC1.go hb2 (fun b e => Or.inr e)
 have hr2 := hr1.go hb2 (fun k hk e => (orow_ne hr1 ho1 (by decide)) (hk.trans (congrArg some e))) hl2 (fun _ h => h)
 obtain rfl := vint_eq hv1
 refine lw_op Z Z Z (ow_assign Z Z (lw_nil (ew_then ?_)))
 replace h := bind_some h
 obtain ⟨lr1, hlr1, h⟩ := h
 refine cw_for hlr1 (fun s a w' => ∃ (M' : Nat → Prop) (v0c : Value), Fits 46 [(0, (.pointer (some ⟨g, 0, none⟩))), (1, (.int .i64 a_first)), (2, (.int .i64 a_chains)), (3, (.int .i64 a_n)), (9, v0c), (10, (.int .i64 s.2.1))] a ∧ Le w2 M1 w' M' ∧ Cx (One g) w M w' M' ∧ OwnRow RRule w.heap.size 42 w' M' s.1 v0c ∧ Own w' g 111 #[(.slice Ax a_xs.length cx), (.int .i64 s.2.2)] ∧ M' g) ?_ ?_ ?_
 ·
  intro a ha
  exact ⟨M1, (.slice (some p1) 0 0), ha.sub ⟨Z, Z, Z, Z, Z, Z, trivial⟩, Le.refl _ _, hC2, hr2, ho2, hm1⟩
 ·
  rintro ⟨y1, k1, k2⟩ a w3 sr1 ⟨M2, v2, hF1, hl3, hC3, hw1, ho3, hm2⟩ hb3 hR1
  refine cw_at (E := [(0, (.pointer (some ⟨g, 0, none⟩))), (1, (.int .i64 a_first)), (2, (.int .i64 a_chains)), (3, (.int .i64 a_n)), (9, v2), (10, (.int .i64 k1))]) hF1 (cw_seq (cw_seq (cw_region (lw_op Z Z Z (ow_move Z Z (lw_op Z Z Z (ow_gtr Z Z Z fun bb1 hbb1 => lw_nil (ew_then ?_))))))))
  replace hb3 := cond_some hb3
  rcases hb3 with ⟨hc1, hb3⟩ | ⟨hc1, hb3⟩
  ·
   obtain rfl := hbb1.trans hc1
   refine cw_true Z (cw_skip (ew_then (cw_seq (cw_block (cw_region (lw_op Z Z Z (ow_move Z Z (lw_op Z Z Z (ow_move Z Z (lw_op Z Z Z (ow_move Z Z (lw_op Z Z Z (ow_move Z Z ?_)))))))))))))
   have lz1 := ((hl1.trans hl2).trans hl3)
   replace hb3 := bind_some hb3
   obtain ⟨x2, hx2, hb3⟩ := hb3
   refine lw_op Z Z Z (ow_call Z Z Tryd.call89 (w_spec_l20Rule (hG.mono lz1) hC3.old (VRep.mono lz1 hxs) ho3 hm2 hx2) fun v5 w4 hv5 => ?_)
   obtain ⟨⟨hv5, ho4⟩, hb4⟩ := hv5
   have hl4 := Le.of_bx M2 hb4 (fun b e => (by rw [show b = g from e]; exact hm2))
   have hC4 := hC3.go hb4 (fun b e => Or.inr e)
   have hr3 := hw1.go hb4 (fun k hk e => (orow_ne hw1 ho3 (by decide)) (hk.trans (congrArg some e))) hl4 (fun _ h => h)
   obtain ⟨A1, c1, rfl, hw2⟩ := open_Rule hv5
   refine lw_op Z Z Z (ow_buildSlice (R := RRule) (xs := [x2.1]) (cs := #[(.slice A1 x2.1.Tests.length c1), (.int .i64 x2.1.Action), (.int .i64 x2.1.Chain)]) (e := 42) Z Z (by kernel_rfl) Z Z ⟨_, _, Z, hv5.cells, Z⟩ hC4 fun p2 w5 hw3 hb5 hl5 hC5 => ?_)
   have ho5 := ho4.no hb5
   have hr4 := hr3.no hb5
   replace hb3 := bind_some hb3
   obtain ⟨z1, hz1, hb3⟩ := hb3
   refine lw_op Z Z Z (ow_append (R := RRule) Z Z Z Z Tryd.underlying36 hi42 hz42 hs42 hy42 Z Z Z Z hr4 hw3 hz1 hC5 fun v6 w6 M3 hr5 hb6 hl6 hC6 hM2 hat2 => ?_)
   have ho6 := ho5.go hb6 (fun e => (orow_ne hr4 ho5 (by decide)) e)
   have hm3 := hM2 _ hm2
   refine lw_op Z Z Z (ow_assign Z Z (lw_nil (ew_blockN (ew_then (cw_region (lw_op Z Z Z (ow_move Z Z (lw_op Z Z Z (ow_sub Z Z Z (lw_op Z Z Z (ow_assign Z Z (lw_nil ?_))))))))))))
   have lz2 := (((hl3.trans hl4).trans hl5).trans hl6)
   exact ew_nxt (z1, (W (k1 - 1)), x2.2) hb3 fun a ha => ⟨M3, v6, (ha.sub ⟨Z, Z, Z, Z, Z, Z, trivial⟩), lz2, hC6, hr5, ho6, hm3⟩
  ·
   obtain rfl := hbb1.trans hc1
   exact cw_false Z (cw_exit (ew_thenX (ew_thenX (ew_blockX (ew_brk (y1, k1, k2) hb3 fun a ha => ⟨M2, v2, (ha.sub ⟨Z, Z, Z, Z, Z, Z, trivial⟩), hl3, hC3, hw1, ho3, hm2⟩)))))
 ·
  rintro ⟨y2, k3, k4⟩ a w7 hlr2 ⟨M4, v7, hF2, hl7, hC7, hw4, ho7, hm4⟩
  subst hlr2
  refine ew_at (E := [(0, (.pointer (some ⟨g, 0, none⟩))), (1, (.int .i64 a_first)), (2, (.int .i64 a_chains)), (3, (.int .i64 a_n)), (9, v7), (10, (.int .i64 k3))]) hF2 (ew_then (cw_seq (cw_seq (cw_region (lw_op Z Z Z (ow_move Z Z (lw_op Z Z Z (ow_move Z Z ?_))))))))
  have lz3 := ((hl1.trans hl2).trans hl7)
  replace h := bind_some h
  obtain ⟨x3, hx3, h⟩ := h
  refine lw_op Z Z Z (ow_call Z Z Tryd.call81 (w_spec_l20Rd_odd (hG.mono lz3) hC7.old (VRep.mono lz3 hxs) ho7 hm4 hx3) fun v10 w8 hv10 => ?_)
  obtain ⟨⟨hv10, ho8⟩, hb7⟩ := hv10
  have hl8 := Le.of_bx M4 hb7 (fun b e => (by rw [show b = g from e]; exact hm4))
  have hC8 := hC7.go hb7 (fun b e => Or.inr e)
  have hr6 := hw4.go hb7 (fun k hk e => (orow_ne hw4 ho7 (by decide)) (hk.trans (congrArg some e))) hl8 (fun _ h => h)
  obtain ⟨bb2, hbb2, rfl⟩ := vbool_ex hv10
  refine lw_nil (ew_then ?_)
  replace h := cond_some h
  rcases h with ⟨hc2, h⟩ | ⟨hc2, h⟩
  ·
   obtain rfl := hbb2.trans hc2
   refine cw_true Z (cw_seq (cw_region (lw_op Z Z Z (ow_move Z Z ?_))))
   replace h := bind_some h
   obtain ⟨x4, hx4, h⟩ := h
   refine lw_op Z Z Z (ow_call Z Z Tryd.call60 (w_spec_l20Rd_pick (hG.mono (lz3.trans hl8)) hC8.old (VRep.mono (lz3.trans hl8) hxs) ho8 hm4 hx4) fun v11 w9 hv11 => ?_)
   obtain ⟨⟨hv11, ho9⟩, hb8⟩ := hv11
   have hl9 := Le.of_bx M4 hb8 (fun b e => (by rw [show b = g from e]; exact hm4))
   have hC9 := hC8.go hb8 (fun b e => Or.inr e)
   have hr7 := hr6.go hb8 (fun k hk e => (orow_ne hr6 ho8 (by decide)) (hk.trans (congrArg some e))) hl9 (fun _ h => h)
   obtain rfl := vint_eq hv11
   refine lw_op Z Z Z (ow_eqlI Z Z Z fun bb3 hbb3 => lw_nil (ew_then ?_))
   replace h := cond_some h
   rcases h with ⟨hc3, h⟩ | ⟨hc3, h⟩
   ·
    obtain rfl := hbb3.trans hc3
    refine cw_true Z (cw_region (lw_op Z Z Z (ow_move Z Z (lw_op Z Z Z (ow_move Z Z (lw_op Z Z Z (ow_move Z Z (lw_op Z Z Z (ow_move Z Z ?_)))))))))
    have lz4 := ((lz3.trans hl8).trans hl9)
    replace h := bind_some h
    obtain ⟨x5, hx5, h⟩ := h
    refine lw_op Z Z Z (ow_call Z Z Tryd.call89 (w_spec_l20Rule (hG.mono lz4) hC9.old (VRep.mono lz4 hxs) ho9 hm4 hx5) fun v12 w10 hv12 => ?_)
    obtain ⟨⟨hv12, ho10⟩, hb9⟩ := hv12
    have hl10 := Le.of_bx M4 hb9 (fun b e => (by rw [show b = g from e]; exact hm4))
    have hC10 := hC9.go hb9 (fun b e => Or.inr e)
    have hr8 := hr7.go hb9 (fun k hk e => (orow_ne hr7 ho9 (by decide)) (hk.trans (congrArg some e))) hl10 (fun _ h => h)
    obtain ⟨A2, c2, rfl, hw5⟩ := open_Rule hv12
    refine lw_op Z Z Z (ow_buildSlice (R := RRule) (xs := [x5.1]) (cs := #[(.slice A2 x5.1.Tests.length c2), (.int .i64 x5.1.Action), (.int .i64 x5.1.Chain)]) (e := 42) Z Z (by kernel_rfl) Z Z ⟨_, _, Z, hv12.cells, Z⟩ hC10 fun p3 w11 hw6 hb10 hl11 hC11 => ?_)
    have ho11 := ho10.no hb10
    have hr9 := hr8.no hb10
    replace h := bind_some h
    obtain ⟨z2, hz2, h⟩ := h
    refine lw_op Z Z Z (ow_append (R := RRule) Z Z Z Z Tryd.underlying36 hi42 hz42 hs42 hy42 Z Z Z Z hr9 hw6 hz2 hC11 fun v13 w12 M5 hr10 hb11 hl12 hC12 hM3 hat3 => ?_)
    have ho12 := ho11.go hb11 (fun e => (orow_ne hr9 ho11 (by decide)) e)
    refine lw_op Z Z Z (ow_assign Z Z (lw_nil (ew_then (cw_seq (cw_region (lw_op Z Z Z (ow_move Z Z (lw_op Z Z Z (ow_assign Z Z (lw_nil (ew_then (cw_ret ?_))))))))))))
    obtain rfl := Option.some.inj h
    exact ew_ret (res1 Z (.tmp Z)) ⟨_, Z, ⟨(hr10.freezeBack hC12 hO), ho12⟩, hC12.bx⟩
   ·
    obtain rfl := hbb3.trans hc3
    refine cw_false Z ?_
    replace h := bind_some h
    obtain ⟨lr2, hlr3, h⟩ := h
    refine cw_for hlr3 (fun s a w' => ∃ (M' : Nat → Prop) (v0c : Value), Fits 46 [(9, v0c)] a ∧ Le w9 M4 w' M' ∧ Cx (One g) w M w' M' ∧ OwnRow RRule w.heap.size 42 w' M' s v0c ∧ Own w' g 111 #[(.slice Ax a_xs.length cx), (.int .i64 x4.2)] ∧ M' g) ?_ ?_ ?_
    ·
     intro a ha
     exact ⟨M4, v7, ha.sub ⟨Z, trivial⟩, Le.refl _ _, hC9, hr7, ho9, hm4⟩
    ·
     rintro y3 a w13 sr2 ⟨M6, v14, hF3, hl13, hC13, hw7, ho13, hm6⟩ hb12 hR2
     refine cw_at (E := [(9, v14)]) hF3 (cw_seq (cw_seq (cw_region (lw_op Z Z Z (ow_move Z Z (lw_op Z Z Z (ow_lenOwn Z Z hw7 Tryd.underlying36 (lw_op Z Z Z (ow_leq Z Z Z fun bb4 hbb4 => lw_nil (ew_then ?_))))))))))
     replace hb12 := cond_some hb12
     rcases hb12 with ⟨hc4, hb12⟩ | ⟨hc4, hb12⟩
     ·
      obtain rfl := hbb4.trans hc4
      refine cw_true Z (cw_skip (ew_then (cw_block (cw_region (lw_op Z Z Z (ow_move Z Z (lw_op Z Z Z (ow_build (v := .agg #[(.slice none 0 0), (.int .i64 5), (.int .i64 0)]) Z Z (by kernel_rfl) ?_))))))))
      have hw8 : VRep RRule w13 M6 ({ Tests := ([] : List Test), Action := 5, Chain := 0 } : Rule) (.agg #[(.slice none 0 0), (.int .i64 5), (.int .i64 0)]) := shut_Rule (vslice_nil (R := RTest) (w := w13) (M := M6))
      refine lw_op Z Z Z (ow_buildSlice (R := RRule) (xs := [({ Tests := ([] : List Test), Action := 5, Chain := 0 } : Rule)]) (cs := #[(.slice none 0 0), (.int .i64 5), (.int .i64 0)]) (e := 42) Z Z (by kernel_rfl) Z Z ⟨_, _, Z, hw8.cells, Z⟩ hC13 fun p4 w14 hw9 hb13 hl14 hC14 => ?_)
      have ho14 := ho13.no hb13
      have hr11 := hw7.no hb13
      replace hb12 := bind_some hb12
      obtain ⟨z3, hz3, hb12⟩ := hb12
      refine lw_op Z Z Z (ow_append (R := RRule) Z Z Z Z Tryd.underlying36 hi42 hz42 hs42 hy42 Z Z Z Z hr11 hw9 hz3 hC14 fun v15 w15 M7 hr12 hb14 hl15 hC15 hM4 hat4 => ?_)
      have ho15 := ho14.go hb14 (fun e => (orow_ne hr11 ho14 (by decide)) e)
      have hm7 := hM4 _ hm6
      refine lw_op Z Z Z (ow_assign Z Z (lw_nil (ew_blockN ?_)))
      have lz5 := ((hl13.trans hl14).trans hl15)
      exact ew_nxt z3 hb12 fun a ha => ⟨M7, v15, (ha.sub ⟨Z, trivial⟩), lz5, hC15, hr12, ho15, hm7⟩
     ·
      obtain rfl := hbb4.trans hc4
      exact cw_false Z (cw_exit (ew_thenX (ew_thenX (ew_blockX (ew_brk y3 hb12 fun a ha => ⟨M6, v14, (ha.sub ⟨Z, trivial⟩), hl13, hC13, hw7, ho13, hm6⟩)))))
    ·
     rintro y4 a w16 hlr4 ⟨M8, v16, hF4, hl16, hC16, hw10, ho16, hm8⟩
     subst hlr4
     refine ew_at (E := [(9, v16)]) hF4 (ew_then (cw_seq (cw_region (lw_op Z Z Z (ow_move Z Z (lw_op Z Z Z (ow_assign Z Z (lw_nil (ew_then (cw_ret ?_))))))))))
     obtain rfl := Option.some.inj h
     exact ew_ret (res1 Z (.tmp Z)) ⟨_, Z, ⟨(hw10.freezeBack hC16 hO), ho16⟩, hC16.bx⟩
  ·
   obtain rfl := hbb2.trans hc2
   refine cw_false Z (cw_skip (ew_then (cw_seq (cw_region (lw_op Z Z Z (ow_move Z Z (lw_op Z Z Z (ow_assign Z Z (lw_nil (ew_then (cw_ret ?_)))))))))))
   obtain rfl := Option.some.inj h
   exact ew_ret (res1 Z (.tmp Z)) ⟨_, Z, ⟨(hr6.freezeBack hC8 hO), ho8⟩, hC8.bx⟩

theorem wo_spec_l20Rules {w : World} {M : Nat → Prop} (hG : ARep (RArr 4 RShape) w M shapes ⟨0, 0, none⟩) (hO : ∀ b, M b → b < w.heap.size) {g : Nat} {Ax : Option Addr} {cx : Nat} {a_xs : List Int} {a_pos : Int} (hxs : VRep (RSlice RU8) w M a_xs (.slice Ax a_xs.length cx)) (hown : Own w g 111 #[.slice Ax a_xs.length cx, .int .i64 a_pos]) (hgM : M g) {a_first : Int} {a_chains : Int} {a_n : Int} {r : ((List Rule)) × Int} (h : F.spec_l20Rules a_xs a_pos a_first a_chains a_n = some r) :
  Calls Tryd.prog 59 [(.pointer (some ⟨g, 0, none⟩)), (.int .i64 a_first), (.int .i64 a_chains), (.int .i64 a_n)].toArray w fun e w' => ∃ v, e = .returned v ∧ ((∃ M', OwnRow RRule w.heap.size 42 w' M' r.1 v ∧ Cx (One g) w M w' M') ∧ Own w' g 111 #[.slice Ax a_xs.length cx, .int .i64 r.2]) ∧ BX (One g) w w' := by
 obtain ⟨i42, hi42, hz42, hs42, hy42⟩ := info42
 have hX : ∀ b, (One g) b → M b := fun b e => e ▸ hgM
 have hC : Cx (One g) w M w M := Cx.start hO hX
 refine walk (N := 46) Tryd.func59 Z Tryd.ntmps59 Z (cw_seq (cw_region (lw_op Z Z Z (ow_assign Z Z (lw_nil (ew_then (cw_seq (cw_region (lw_op Z Z Z (ow_buildSlice0 (R := RRule) (e := 42) Z (by kernel_rfl) hC fun p1 w1 M1 hr1 hb1 hl1 hC1 hM1 hat1 => ?_))))))))))
 have ho1 := hown.no hb1
 have hm1 := hM1 _ hgM
 refine lw_op Z Z Z (ow_assign Z Z (lw_nil (ew_then (cw_seq (cw_seq (cw_region (lw_op Z Z Z (ow_move Z Z ?_))))))))
 replace h := bind_some h
 obtain ⟨x1, hx1, h⟩ := h
 refine lw_op Z Z Z (ow_call Z Z Tryd.call60 (w_spec_l20Rd_pick (hG.mono hl1) hC1.old (VRep.mono hl1 hxs) ho1 hm1 hx1) fun v1 w2 hv1 => ?_)
 obtain ⟨⟨hv1, ho2⟩, hb2⟩ := hv1
 have hl2 := Le.of_bx M1 hb2 (fun b e => (by rw [show b = g from e]; exact hm1))
 have hC2 := hC1.go hb2 (fun b e => Or.inr e)
 have hr2 := hr1.go hb2 (fun k hk e => (orow_ne hr1 ho1 (by decide)) (hk.trans (congrArg some e))) hl2 (fun _ h => h)
 obtain rfl := vint_eq hv1
 refine lw_op Z Z Z (ow_assign Z Z (lw_nil (ew_then ?_)))
 replace h := bind_some h
 obtain ⟨lr1, hlr1, h⟩ := h
 refine cw_for hlr1 (fun s a w' => ∃ (M' : Nat → Prop) (v0c : Value), Fits 46 [(0, (.pointer (some ⟨g, 0, none⟩))), (1, (.int .i64 a_first)), (2, (.int .i64 a_chains)), (3, (.int .i64 a_n)), (9, v0c), (10, (.int .i64 s.2.1))] a ∧ Le w2 M1 w' M' ∧ Cx (One g) w M w' M' ∧ OwnRow RRule w.heap.size 42 w' M' s.1 v0c ∧ Own w' g 111 #[(.slice Ax a_xs.length cx), (.int .i64 s.2.2)] ∧ M' g) ?_ ?_ ?_
 ·
  intro a ha
  exact ⟨M1, (.slice (some p1) 0 0), ha.sub ⟨Z, Z, Z, Z, Z, Z, trivial⟩, Le.refl _ _, hC2, hr2, ho2, hm1⟩
 ·
  rintro ⟨y1, k1, k2⟩ a w3 sr1 ⟨M2, v2, hF1, hl3, hC3, hw1, ho3, hm2⟩ hb3 hR1
  refine cw_at (E := [(0, (.pointer (some ⟨g, 0, none⟩))), (1, (.int .i64 a_first)), (2, (.int .i64 a_chains)), (3, (.int .i64 a_n)), (9, v2), (10, (.int .i64 k1))]) hF1 (cw_seq (cw_seq (cw_region (lw_op Z Z Z (ow_move Z Z (lw_op Z Z Z (ow_gtr Z Z Z fun bb1 hbb1 => lw_nil (ew_then ?_))))))))
  replace hb3 := cond_some hb3
  rcases hb3 with ⟨hc1, hb3⟩ | ⟨hc1, hb3⟩
  ·
   obtain rfl := hbb1.trans hc1
   refine cw_true Z (cw_skip (ew_then (cw_seq (cw_block (cw_region (lw_op Z Z Z (ow_move Z Z (lw_op Z Z Z (ow_move Z Z (lw_op Z Z Z (ow_move Z Z (lw_op Z Z Z (ow_move Z Z ?_)))))))))))))
   have lz1 := ((hl1.trans hl2).trans hl3)
   replace hb3 := bind_some hb3
   obtain ⟨x2, hx2, hb3⟩ := hb3
   refine lw_op Z Z Z (ow_call Z Z Tryd.call89 (w_spec_l20Rule (hG.mono lz1) hC3.old (VRep.mono lz1 hxs) ho3 hm2 hx2) fun v5 w4 hv5 => ?_)
   obtain ⟨⟨hv5, ho4⟩, hb4⟩ := hv5
   have hl4 := Le.of_bx M2 hb4 (fun b e => (by rw [show b = g from e]; exact hm2))
   have hC4 := hC3.go hb4 (fun b e => Or.inr e)
   have hr3 := hw1.go hb4 (fun k hk e => (orow_ne hw1 ho3 (by decide)) (hk.trans (congrArg some e))) hl4 (fun _ h => h)
   obtain ⟨A1, c1, rfl, hw2⟩ := open_Rule hv5
   refine lw_op Z Z Z (ow_buildSlice (R := RRule) (xs := [x2.1]) (cs := #[(.slice A1 x2.1.Tests.length c1), (.int .i64 x2.1.Action), (.int .i64 x2.1.Chain)]) (e := 42) Z Z (by kernel_rfl) Z Z ⟨_, _, Z, hv5.cells, Z⟩ hC4 fun p2 w5 hw3 hb5 hl5 hC5 => ?_)
   have ho5 := ho4.no hb5
   have hr4 := hr3.no hb5
   replace hb3 := bind_some hb3
   obtain ⟨z1, hz1, hb3⟩ := hb3
   refine lw_op Z Z Z (ow_append (R := RRule) Z Z Z Z Tryd.underlying36 hi42 hz42 hs42 hy42 Z Z Z Z hr4 hw3 hz1 hC5 fun v6 w6 M3 hr5 hb6 hl6 hC6 hM2 hat2 => ?_)
   have ho6 := ho5.go hb6 (fun e => (orow_ne hr4 ho5 (by decide)) e)
   have hm3 := hM2 _ hm2
   refine lw_op Z Z Z (ow_assign Z Z (lw_nil (ew_blockN (ew_then (cw_region (lw_op Z Z Z (ow_move Z Z (lw_op Z Z Z (ow_sub Z Z Z (lw_op Z Z Z (ow_assign Z Z (lw_nil ?_))))))))))))
   have lz2 := (((hl3.trans hl4).trans hl5).trans hl6)
   exact ew_nxt (z1, (W (k1 - 1)), x2.2) hb3 fun a ha => ⟨M3, v6, (ha.sub ⟨Z, Z, Z, Z, Z, Z, trivial⟩), lz2, hC6, hr5, ho6, hm3⟩
  ·
   obtain rfl := hbb1.trans hc1
   exact cw_false Z (cw_exit (ew_thenX (ew_thenX (ew_blockX (ew_brk (y1, k1, k2) hb3 fun a ha => ⟨M2, v2, (ha.sub ⟨Z, Z, Z, Z, Z, Z, trivial⟩), hl3, hC3, hw1, ho3, hm2⟩)))))
 ·
  rintro ⟨y2, k3, k4⟩ a w7 hlr2 ⟨M4, v7, hF2, hl7, hC7, hw4, ho7, hm4⟩
  subst hlr2
  refine ew_at (E := [(0, (.pointer (some ⟨g, 0, none⟩))), (1, (.int .i64 a_first)), (2, (.int .i64 a_chains)), (3, (.int .i64 a_n)), (9, v7), (10, (.int .i64 k3))]) hF2 (ew_then (cw_seq (cw_seq (cw_region (lw_op Z Z Z (ow_move Z Z (lw_op Z Z Z (ow_move Z Z ?_))))))))
  have lz3 := ((hl1.trans hl2).trans hl7)
  replace h := bind_some h
  obtain ⟨x3, hx3, h⟩ := h
  refine lw_op Z Z Z (ow_call Z Z Tryd.call81 (w_spec_l20Rd_odd (hG.mono lz3) hC7.old (VRep.mono lz3 hxs) ho7 hm4 hx3) fun v10 w8 hv10 => ?_)
  obtain ⟨⟨hv10, ho8⟩, hb7⟩ := hv10
  have hl8 := Le.of_bx M4 hb7 (fun b e => (by rw [show b = g from e]; exact hm4))
  have hC8 := hC7.go hb7 (fun b e => Or.inr e)
  have hr6 := hw4.go hb7 (fun k hk e => (orow_ne hw4 ho7 (by decide)) (hk.trans (congrArg some e))) hl8 (fun _ h => h)
  obtain ⟨bb2, hbb2, rfl⟩ := vbool_ex hv10
  refine lw_nil (ew_then ?_)
  replace h := cond_some h
  rcases h with ⟨hc2, h⟩ | ⟨hc2, h⟩
  ·
   obtain rfl := hbb2.trans hc2
   refine cw_true Z (cw_seq (cw_region (lw_op Z Z Z (ow_move Z Z ?_))))
   replace h := bind_some h
   obtain ⟨x4, hx4, h⟩ := h
   refine lw_op Z Z Z (ow_call Z Z Tryd.call60 (w_spec_l20Rd_pick (hG.mono (lz3.trans hl8)) hC8.old (VRep.mono (lz3.trans hl8) hxs) ho8 hm4 hx4) fun v11 w9 hv11 => ?_)
   obtain ⟨⟨hv11, ho9⟩, hb8⟩ := hv11
   have hl9 := Le.of_bx M4 hb8 (fun b e => (by rw [show b = g from e]; exact hm4))
   have hC9 := hC8.go hb8 (fun b e => Or.inr e)
   have hr7 := hr6.go hb8 (fun k hk e => (orow_ne hr6 ho8 (by decide)) (hk.trans (congrArg some e))) hl9 (fun _ h => h)
   obtain rfl := vint_eq hv11
   refine lw_op Z Z Z (ow_eqlI Z Z Z fun bb3 hbb3 => lw_nil (ew_then ?_))
   replace h := cond_some h
   rcases h with ⟨hc3, h⟩ | ⟨hc3, h⟩
   ·
    obtain rfl := hbb3.trans hc3
    refine cw_true Z (cw_region (lw_op Z Z Z (ow_move Z Z (lw_op Z Z Z (ow_move Z Z (lw_op Z Z Z (ow_move Z Z (lw_op Z Z Z (ow_move Z Z ?_)))))))))
    have lz4 := ((lz3.trans hl8).trans hl9)
    replace h := bind_some h
    obtain ⟨x5, hx5, h⟩ := h
    refine lw_op Z Z Z (ow_call Z Z Tryd.call89 (w_spec_l20Rule (hG.mono lz4) hC9.old (VRep.mono lz4 hxs) ho9 hm4 hx5) fun v12 w10 hv12 => ?_)
    obtain ⟨⟨hv12, ho10⟩, hb9⟩ := hv12
    have hl10 := Le.of_bx M4 hb9 (fun b e => (by rw [show b = g from e]; exact hm4))
    have hC10 := hC9.go hb9 (fun b e => Or.inr e)
    have hr8 := hr7.go hb9 (fun k hk e => (orow_ne hr7 ho9 (by decide)) (hk.trans (congrArg some e))) hl10 (fun _ h => h)
    obtain ⟨A2, c2, rfl, hw5⟩ := open_Rule hv12
    refine lw_op Z Z Z (ow_buildSlice (R := RRule) (xs := [x5.1]) (cs := #[(.slice A2 x5.1.Tests.length c2), (.int .i64 x5.1.Action), (.int .i64 x5.1.Chain)]) (e := 42) Z Z (by kernel_rfl) Z Z ⟨_, _, Z, hv12.cells, Z⟩ hC10 fun p3 w11 hw6 hb10 hl11 hC11 => ?_)
    have ho11 := ho10.no hb10
    have hr9 := hr8.no hb10
    replace h := bind_some h
    obtain ⟨z2, hz2, h⟩ := h
    refine lw_op Z Z Z (ow_append (R := RRule) Z Z Z Z Tryd.underlying36 hi42 hz42 hs42 hy42 Z Z Z Z hr9 hw6 hz2 hC11 fun v13 w12 M5 hr10 hb11 hl12 hC12 hM3 hat3 => ?_)
    have ho12 := ho11.go hb11 (fun e => (orow_ne hr9 ho11 (by decide)) e)
    refine lw_op Z Z Z (ow_assign Z Z (lw_nil (ew_then (cw_seq (cw_region (lw_op Z Z Z (ow_move Z Z (lw_op Z Z Z (ow_assign Z Z (lw_nil (ew_then (cw_ret ?_))))))))))))
    obtain rfl := Option.some.inj h
    exact ew_ret (res1 Z (.tmp Z)) ⟨_, Z, ⟨⟨M5, hr10, hC12⟩, ho12⟩, hC12.bx⟩
   ·
    obtain rfl := hbb3.trans hc3
    refine cw_false Z ?_
    replace h := bind_some h
    obtain ⟨lr2, hlr3, h⟩ := h
    refine cw_for hlr3 (fun s a w' => ∃ (M' : Nat → Prop) (v0c : Value), Fits 46 [(9, v0c)] a ∧ Le w9 M4 w' M' ∧ Cx (One g) w M w' M' ∧ OwnRow RRule w.heap.size 42 w' M' s v0c ∧ Own w' g 111 #[(.slice Ax a_xs.length cx), (.int .i64 x4.2)] ∧ M' g) ?_ ?_ ?_
    ·
     intro a ha
     exact ⟨M4, v7, ha.sub ⟨Z, trivial⟩, Le.refl _ _, hC9, hr7, ho9, hm4⟩
    ·
     rintro y3 a w13 sr2 ⟨M6, v14, hF3, hl13, hC13, hw7, ho13, hm6⟩ hb12 hR2
     refine cw_at (E := [(9, v14)]) hF3 (cw_seq (cw_seq (cw_region (lw_op Z Z Z (ow_move Z Z (lw_op Z Z Z (ow_lenOwn Z Z hw7 Tryd.underlying36 (lw_op Z Z Z (ow_leq Z Z Z fun bb4 hbb4 => lw_nil (ew_then ?_))))))))))
     replace hb12 := cond_some hb12
     rcases hb12 with ⟨hc4, hb12⟩ | ⟨hc4, hb12⟩
     ·
      obtain rfl := hbb4.trans hc4
      refine cw_true Z (cw_skip (ew_then (cw_block (cw_region (lw_op Z Z Z (ow_move Z Z (lw_op Z Z Z (ow_build (v := .agg #[(.slice none 0 0), (.int .i64 5), (.int .i64 0)]) Z Z (by kernel_rfl) ?_))))))))
      have hw8 : VRep RRule w13 M6 ({ Tests := ([] : List Test), Action := 5, Chain := 0 } : Rule) (.agg #[(.slice none 0 0), (.int .i64 5), (.int .i64 0)]) := shut_Rule (vslice_nil (R := RTest) (w := w13) (M := M6))
      refine lw_op Z Z Z (ow_buildSlice (R := RRule) (xs := [({ Tests := ([] : List Test), Action := 5, Chain := 0 } : Rule)]) (cs := #[(.slice none 0 0), (.int .i64 5), (.int .i64 0)]) (e := 42) Z Z (by kernel_rfl) Z Z ⟨_, _, Z, hw8.cells, Z⟩ hC13 fun p4 w14 hw9 hb13 hl14 hC14 => ?_)
      have ho14 := ho13.no hb13
      have hr11 := hw7.no hb13
      replace hb12 := bind_some hb12
      obtain ⟨z3, hz3, hb12⟩ := hb12
      refine lw_op Z Z Z (ow_append (R := RRule) Z Z Z Z Tryd.underlying36 hi42 hz42 hs42 hy42 Z Z Z Z hr11 hw9 hz3 hC14 fun v15 w15 M7 hr12 hb14 hl15 hC15 hM4 hat4 => ?_)
      have ho15 := ho14.go hb14 (fun e => (orow_ne hr11 ho14 (by decide)) e)
      have hm7 := hM4 _ hm6
      refine lw_op Z Z Z (ow_assign Z Z (lw_nil (ew_blockN ?_)))
      have lz5 := ((hl13.trans hl14).trans hl15)
      exact ew_nxt z3 hb12 fun a ha => ⟨M7, v15, (ha.sub ⟨Z, trivial⟩), lz5, hC15, hr12, ho15, hm7⟩
     ·
      obtain rfl := hbb4.trans hc4
      exact cw_false Z (cw_exit (ew_thenX (ew_thenX (ew_blockX (ew_brk y3 hb12 fun a ha => ⟨M6, v14, (ha.sub ⟨Z, trivial⟩), hl13, hC13, hw7, ho13, hm6⟩)))))
    ·
     rintro y4 a w16 hlr4 ⟨M8, v16, hF4, hl16, hC16, hw10, ho16, hm8⟩
     subst hlr4
     refine ew_at (E := [(9, v16)]) hF4 (ew_then (cw_seq (cw_region (lw_op Z Z Z (ow_move Z Z (lw_op Z Z Z (ow_assign Z Z (lw_nil (ew_then (cw_ret ?_))))))))))
     obtain rfl := Option.some.inj h
     exact ew_ret (res1 Z (.tmp Z)) ⟨_, Z, ⟨⟨M8, hw10, hC16⟩, ho16⟩, hC16.bx⟩
  ·
   obtain rfl := hbb2.trans hc2
   refine cw_false Z (cw_skip (ew_then (cw_seq (cw_region (lw_op Z Z Z (ow_move Z Z (lw_op Z Z Z (ow_assign Z Z (lw_nil (ew_then (cw_ret ?_)))))))))))
   obtain rfl := Option.some.inj h
   exact ew_ret (res1 Z (.tmp Z)) ⟨_, Z, ⟨⟨M4, hr6, hC8⟩, ho8⟩, hC8.bx⟩

theorem w_spec_l20Packet {w : World} {M : Nat → Prop} (hG : ARep (RArr 4 RShape) w M shapes ⟨0, 0, none⟩) (hO : ∀ b, M b → b < w.heap.size) {g : Nat} {Ax : Option Addr} {cx : Nat} {a_xs : List Int} {a_pos : Int} (hxs : VRep (RSlice RU8) w M a_xs (.slice Ax a_xs.length cx)) (hown : Own w g 111 #[.slice Ax a_xs.length cx, .int .i64 a_pos]) (hgM : M g) {a_n : Int} {r : Packet × Int} (h : F.spec_l20Packet a_xs a_pos a_n = some r) :
  Calls Tryd.prog 90 [(.pointer (some ⟨g, 0, none⟩)), (.int .i64 a_n)].toArray w fun e w' => ∃ v, e = .returned v ∧ (VRep RPacket w' M r.1 v ∧ Own w' g 111 #[.slice Ax a_xs.length cx, .int .i64 r.2]) ∧ BX (One g) w w' := by
 have hX : ∀ b, (One g) b → M b := fun b e => e ▸ hgM
 have hC : Cx (One g) w M w M := Cx.start hO hX
 refine walk (N := 71) Tryd.func90 Z Tryd.ntmps90 Z (cw_seq (cw_region (lw_op Z Z Z (ow_alloc Z (Tryd.zeroValue38 _) hC fun g1 w1 hg1 hg2 ho1 hb1 hl1 hC1 => ?_))))
 have hn1 := Nat.ne_of_lt (Nat.lt_of_lt_of_le hown.lt hg1)
 have ho2 := hown.no hb1
 have hm1 : (Add g1 M) g := .inr hgM
 have hm2 : (Add g1 M) g1 := .inl Z
 refine lw_nil (ew_then (cw_seq (cw_region (lw_op Z Z Z (ow_move Z Z ?_)))))
 replace h := bind_some h
 obtain ⟨x1, hx1, h⟩ := h
 refine lw_op Z Z Z (ow_call Z Z Tryd.call60 (w_spec_l20Rd_pick (hG.mono hl1) hC1.old (VRep.mono hl1 hxs) ho2 hm1 hx1) fun v1 w2 hv1 => ?_)
 obtain ⟨⟨hv1, ho3⟩, hb2⟩ := hv1
 have hl2 := Le.of_bx (Add g1 M) hb2 (fun b e => (by rw [show b = g from e]; exact hm1))
 have hC2 := hC1.go hb2 (fun b e => Or.inr e)
 have ho4 := ho1.go hb2 (fun e => hn1 e.symm)
 obtain rfl := vint_eq hv1
 refine lw_op Z Z Z (ow_move Z Z ?_)
 replace h := bind_some h
 obtain ⟨x2, hx2, h⟩ := h
 refine lw_op Z Z Z (ow_call Z Z Tryd.call60 (w_spec_l20Rd_pick (hG.mono (hl1.trans hl2)) hC2.old (VRep.mono (hl1.trans hl2) hxs) ho3 hm1 hx2) fun v2 w3 hv2 => ?_)
 obtain ⟨⟨hv2, ho5⟩, hb3⟩ := hv2
 have hl3 := Le.of_bx (Add g1 M) hb3 (fun b e => (by rw [show b = g from e]; exact hm1))
 have hC3 := hC2.go hb3 (fun b e => Or.inr e)
 have ho6 := ho4.go hb3 (fun e => hn1 e.symm)
 obtain rfl := vint_eq hv2
 refine lw_op Z Z Z (ow_move Z Z ?_)
 have lz1 := ((hl1.trans hl2).trans hl3)
 replace h := bind_some h
 obtain ⟨x3, hx3, h⟩ := h
 refine lw_op Z Z Z (ow_call Z Z Tryd.call60 (w_spec_l20Rd_pick (hG.mono lz1) hC3.old (VRep.mono lz1 hxs) ho5 hm1 hx3) fun v3 w4 hv3 => ?_)
 obtain ⟨⟨hv3, ho7⟩, hb4⟩ := hv3
 have hl4 := Le.of_bx (Add g1 M) hb4 (fun b e => (by rw [show b = g from e]; exact hm1))
 have hC4 := hC3.go hb4 (fun b e => Or.inr e)
 have ho8 := ho6.go hb4 (fun e => hn1 e.symm)
 obtain rfl := vint_eq hv3
 refine lw_op Z Z Z (ow_move Z Z ?_)
 replace h := bind_some h
 obtain ⟨x4, hx4, h⟩ := h
 refine lw_op Z Z Z (ow_call Z Z Tryd.call60 (w_spec_l20Rd_pick (hG.mono (lz1.trans hl4)) hC4.old (VRep.mono (lz1.trans hl4) hxs) ho7 hm1 hx4) fun v4 w5 hv4 => ?_)
 obtain ⟨⟨hv4, ho9⟩, hb5⟩ := hv4
 have hl5 := Le.of_bx (Add g1 M) hb5 (fun b e => (by rw [show b = g from e]; exact hm1))
 have hC5 := hC4.go hb5 (fun b e => Or.inr e)
 have ho10 := ho8.go hb5 (fun e => hn1 e.symm)
 obtain rfl := vint_eq hv4
 refine lw_op Z Z Z (ow_build (v := .agg #[(.int .i64 x1.1), (.int .i64 x2.1), (.int .i64 x3.1), (.int .i64 x4.1)]) Z Z (by kernel_rfl) (lw_op Z Z Z (ow_alloc Z (Tryd.zeroValue38 _) hC5 fun g2 w6 hg3 hg4 ho11 hb6 hl6 hC6 => ?_)))
 have hn2 := Nat.ne_of_lt (Nat.lt_of_lt_of_le ho9.lt hg3)
 have ho12 := ho9.no hb6
 have hm3 : (Add g2 (Add g1 M)) g := .inr hm1
 have hn3 := Nat.ne_of_lt (Nat.lt_of_lt_of_le ho10.lt hg3)
 have ho13 := ho10.no hb6
 have hm4 : (Add g2 (Add g1 M)) g1 := .inr hm2
 have hm5 : (Add g2 (Add g1 M)) g2 := .inl Z
 refine lw_op0 Z Z (ow_store (X := (One g)) (us := [(.int .i64 x1.1), (.int .i64 x2.1), (.int .i64 x3.1), (.int .i64 x4.1)]) (cs' := #[(.int .i64 x1.1), (.int .i64 x2.1), (.int .i64 x3.1), (.int .i64 x4.1)]) Z Z Z Z ho11 (Tryd.sizeOf38 _) Z Z Z Z hm5 (.inl hg4) Z hC6 fun w7 ho14 hb7 hl7 hC7 => ?_)
 have ho15 := ho12.go hb7 (fun e => hn2 e)
 have ho16 := ho13.go hb7 (fun e => hn3 e)
 refine lw_nil (ew_then (cw_seq (cw_seq (cw_region (lw_op Z Z Z (ow_move Z Z ?_))))))
 have lz2 := ((((lz1.trans hl4).trans hl5).trans hl6).trans hl7)
 replace h := bind_some h
 obtain ⟨x5, hx5, h⟩ := h
 refine lw_op Z Z Z (ow_call Z Z Tryd.call60 (w_spec_l20Rd_pick (hG.mono lz2) hC7.old (VRep.mono lz2 hxs) ho15 hm3 hx5) fun v5 w8 hv5 => ?_)
 obtain ⟨⟨hv5, ho17⟩, hb8⟩ := hv5
 have hl8 := Le.of_bx (Add g2 (Add g1 M)) hb8 (fun b e => (by rw [show b = g from e]; exact hm3))
 have hC8 := hC7.go hb8 (fun b e => Or.inr e)
 have ho18 := ho16.go hb8 (fun e => hn1 e.symm)
 have ho19 := ho14.go hb8 (fun e => hn2 e.symm)
 obtain rfl := vint_eq hv5
 refine lw_op Z Z Z (ow_eqlI Z Z Z fun bb1 hbb1 => lw_nil (ew_then ?_))
 replace h := cond_some h
 rcases h with ⟨hc1, h⟩ | ⟨hc1, h⟩
 ·
  obtain rfl := hbb1.trans hc1
  refine cw_true Z (cw_seq (cw_region (lw_op Z Z Z (ow_move Z Z ?_))))
  replace h := bind_some h
  obtain ⟨x6, hx6, h⟩ := h
  refine lw_op Z Z Z (ow_call Z Z Tryd.call60 (w_spec_l20Rd_pick (hG.mono (lz2.trans hl8)) hC8.old (VRep.mono (lz2.trans hl8) hxs) ho17 hm3 hx6) fun v6 w9 hv6 => ?_)
  obtain ⟨⟨hv6, ho20⟩, hb9⟩ := hv6
  have hl9 := Le.of_bx (Add g2 (Add g1 M)) hb9 (fun b e => (by rw [show b = g from e]; exact hm3))
  have hC9 := hC8.go hb9 (fun b e => Or.inr e)
  have ho21 := ho18.go hb9 (fun e => hn1 e.symm)
  have ho22 := ho19.go hb9 (fun e => hn2 e.symm)
  obtain rfl := vint_eq hv6
  refine lw_op Z Z Z (ow_mul Z Z Z (lw_op Z Z Z (ow_move Z Z ?_)))
  have lz3 := ((lz2.trans hl8).trans hl9)
  replace h := bind_some h
  obtain ⟨x7, hx7, h⟩ := h
  refine lw_op Z Z Z (ow_call Z Z Tryd.call60 (w_spec_l20Rd_pick (hG.mono lz3) hC9.old (VRep.mono lz3 hxs) ho20 hm3 hx7) fun v7 w10 hv7 => ?_)
  obtain ⟨⟨hv7, ho23⟩, hb10⟩ := hv7
  have hl10 := Le.of_bx (Add g2 (Add g1 M)) hb10 (fun b e => (by rw [show b = g from e]; exact hm3))
  have hC10 := hC9.go hb10 (fun b e => Or.inr e)
  have ho24 := ho21.go hb10 (fun e => hn1 e.symm)
  have ho25 := ho22.go hb10 (fun e => hn2 e.symm)
  obtain rfl := vint_eq hv7
  refine lw_op Z Z Z (ow_add Z Z Z (lw_op Z Z Z (ow_fieldAddr Z Z Tryd.underlying38 Z (Tryd.sizeOf3 _) (lw_op0 Z Z (ow_store (X := (One g)) (us := [(.int .i64 (W ((W (x6.1 * 256)) + x7.1)))]) (cs' := #[(.int .i64 (W ((W (x6.1 * 256)) + x7.1))), (.int .i64 x2.1), (.int .i64 x3.1), (.int .i64 x4.1)]) Z Z Z Z ho25 (Tryd.sizeOf3 _) Z Z Z Z hm5 (.inl hg4) Z hC10 fun w11 ho26 hb11 hl11 hC11 => ?_)))))
  have ho27 := ho23.go hb11 (fun e => hn2 e)
  have ho28 := ho24.go hb11 (fun e => hn3 e)
  refine lw_nil (ew_then (cw_seq (cw_region (lw_op Z Z Z (ow_move Z Z ?_)))))
  have lz4 := ((lz3.trans hl10).trans hl11)
  replace h := bind_some h
  obtain ⟨x8, hx8, h⟩ := h
  refine lw_op Z Z Z (ow_call Z Z Tryd.call60 (w_spec_l20Rd_pick (hG.mono lz4) hC11.old (VRep.mono lz4 hxs) ho27 hm3 hx8) fun v8 w12 hv8 => ?_)
  obtain ⟨⟨hv8, ho29⟩, hb12⟩ := hv8
  have hl12 := Le.of_bx (Add g2 (Add g1 M)) hb12 (fun b e => (by rw [show b = g from e]; exact hm3))
  have hC12 := hC11.go hb12 (fun b e => Or.inr e)
  have ho30 := ho28.go hb12 (fun e => hn1 e.symm)
  have ho31 := ho26.go hb12 (fun e => hn2 e.symm)
  obtain rfl := vint_eq hv8
  refine lw_op Z Z Z (ow_mul Z Z Z (lw_op Z Z Z (ow_move Z Z ?_)))
  replace h := bind_some h
  obtain ⟨x9, hx9, h⟩ := h
  refine lw_op Z Z Z (ow_call Z Z Tryd.call60 (w_spec_l20Rd_pick (hG.mono (lz4.trans hl12)) hC12.old (VRep.mono (lz4.trans hl12) hxs) ho29 hm3 hx9) fun v9 w13 hv9 => ?_)
  obtain ⟨⟨hv9, ho32⟩, hb13⟩ := hv9
  have hl13 := Le.of_bx (Add g2 (Add g1 M)) hb13 (fun b e => (by rw [show b = g from e]; exact hm3))
  have hC13 := hC12.go hb13 (fun b e => Or.inr e)
  have ho33 := ho30.go hb13 (fun e => hn1 e.symm)
  have ho34 := ho31.go hb13 (fun e => hn2 e.symm)
  obtain rfl := vint_eq hv9
  refine lw_op Z Z Z (ow_add Z Z Z (lw_op Z Z Z (ow_fieldAddr Z Z Tryd.underlying38 Z (Tryd.sizeOf3 _) (lw_op0 Z Z (ow_store (X := (One g)) (us := [(.int .i64 (W ((W (x8.1 * 16384)) + x9.1)))]) (cs' := #[(.int .i64 (W ((W (x6.1 * 256)) + x7.1))), (.int .i64 (W ((W (x8.1 * 16384)) + x9.1))), (.int .i64 x3.1), (.int .i64 x4.1)]) Z Z Z Z ho34 (Tryd.sizeOf3 _) Z Z Z Z hm5 (.inl hg4) Z hC13 fun w14 ho35 hb14 hl14 hC14 => ?_)))))
  have ho36 := ho32.go hb14 (fun e => hn2 e)
  have ho37 := ho33.go hb14 (fun e => hn3 e)
  refine lw_nil (ew_then (cw_region (lw_op Z Z Z (ow_move Z Z ?_))))
  have lz5 := (((lz4.trans hl12).trans hl13).trans hl14)
  replace h := bind_some h
  obtain ⟨x10, hx10, h⟩ := h
  refine lw_op Z Z Z (ow_call Z Z Tryd.call60 (w_spec_l20Rd_pick (hG.mono lz5) hC14.old (VRep.mono lz5 hxs) ho36 hm3 hx10) fun v10 w15 hv10 => ?_)
  obtain ⟨⟨hv10, ho38⟩, hb15⟩ := hv10
  have hl15 := Le.of_bx (Add g2 (Add g1 M)) hb15 (fun b e => (by rw [show b = g from e]; exact hm3))
  have hC15 := hC14.go hb15 (fun b e => Or.inr e)
  have ho39 := ho37.go hb15 (fun e => hn1 e.symm)
  have ho40 := ho35.go hb15 (fun e => hn2 e.symm)
  obtain rfl := vint_eq hv10
  refine lw_op Z Z Z (ow_fieldAddr Z Z Tryd.underlying38 Z (Tryd.sizeOf3 _) (lw_op0 Z Z (ow_store (X := (One g)) (us := [(.int .i64 x10.1)]) (cs' := #[(.int .i64 (W ((W (x6.1 * 256)) + x7.1))), (.int .i64 (W ((W (x8.1 * 16384)) + x9.1))), (.int .i64 x10.1), (.int .i64 x4.1)]) Z Z Z Z ho40 (Tryd.sizeOf3 _) Z Z Z Z hm5 (.inl hg4) Z hC15 fun w16 ho41 hb16 hl16 hC16 => ?_)))
  have ho42 := ho38.go hb16 (fun e => hn2 e)
  have ho43 := ho39.go hb16 (fun e => hn3 e)
  refine lw_nil (ew_then (cw_seq (cw_seq (cw_region (lw_op Z Z Z (ow_move Z Z (lw_op Z Z Z (ow_move Z Z ?_))))))))
  have lz6 := ((lz5.trans hl15).trans hl16)
  replace h := bind_some h
  obtain ⟨x11, hx11, h⟩ := h
  refine lw_op Z Z Z (ow_call Z Z Tryd.call81 (w_spec_l20Rd_odd (hG.mono lz6) hC16.old (VRep.mono lz6 hxs) ho42 hm3 hx11) fun v11 w17 hv11 => ?_)
  obtain ⟨⟨hv11, ho44⟩, hb17⟩ := hv11
  have hl17 := Le.of_bx (Add g2 (Add g1 M)) hb17 (fun b e => (by rw [show b = g from e]; exact hm3))
  have hC17 := hC16.go hb17 (fun b e => Or.inr e)
  have ho45 := ho43.go hb17 (fun e => hn1 e.symm)
  have ho46 := ho41.go hb17 (fun e => hn2 e.symm)
  obtain ⟨bb2, hbb2, rfl⟩ := vbool_ex hv11
  refine lw_nil (ew_then ?_)
  replace h := cond_some h
  rcases h with ⟨hc2, h⟩ | ⟨hc2, h⟩
  ·
   obtain rfl := hbb2.trans hc2
   refine cw_true Z (cw_seq (cw_region (lw_op Z Z Z (ow_move Z Z ?_))))
   replace h := bind_some h
   obtain ⟨x12, hx12, h⟩ := h
   refine lw_op Z Z Z (ow_call Z Z Tryd.call60 (w_spec_l20Rd_pick (hG.mono (lz6.trans hl17)) hC17.old (VRep.mono (lz6.trans hl17) hxs) ho44 hm3 hx12) fun v12 w18 hv12 => ?_)
   obtain ⟨⟨hv12, ho47⟩, hb18⟩ := hv12
   have hl18 := Le.of_bx (Add g2 (Add g1 M)) hb18 (fun b e => (by rw [show b = g from e]; exact hm3))
   have hC18 := hC17.go hb18 (fun b e => Or.inr e)
   have ho48 := ho45.go hb18 (fun e => hn1 e.symm)
   have ho49 := ho46.go hb18 (fun e => hn2 e.symm)
   obtain rfl := vint_eq hv12
   refine lw_nil (ew_then (cw_block (cw_seq (cw_region (lw_op Z Z Z (ow_eqlI Z Z Z fun bb3 hbb3 => lw_op Z Z Z (ow_assign Z Z (lw_nil (ew_then ?_)))))))))
   replace h := cond_some h
   rcases h with ⟨hc3, h⟩ | ⟨hc3, h⟩
   ·
    obtain rfl := hbb3.trans hc3
    refine cw_true Z (cw_region (lw_op Z Z Z (ow_buildSlice (R := RInt) (xs := [(-1), 65536]) (cs := #[(.int .i64 (-1)), (.int .i64 65536)]) (e := 3) Z Z (by kernel_rfl) Z Z ⟨_, _, Z, (vint _).cells, _, _, Z, (vint _).cells, Z⟩ hC18 fun p1 w19 hw2 hb19 hl19 hC19 => ?_)))
    have ho50 := ho47.no hb19
    have ho51 := ho48.no hb19
    have ho52 := ho49.no hb19
    refine lw_op Z Z Z (ow_move Z Z ?_)
    have lz7 := (((lz6.trans hl17).trans hl18).trans hl19)
    replace h := bind_some h
    obtain ⟨x13, hx13, h⟩ := h
    refine lw_op Z Z Z (ow_call Z Z Tryd.call60 (w_spec_l20Rd_pick (hG.mono lz7) hC19.old (VRep.mono lz7 hxs) ho50 hm3 hx13) fun v13 w20 hv13 => ?_)
    obtain ⟨⟨hv13, ho53⟩, hb20⟩ := hv13
    have hl20 := Le.of_bx (Add g2 (Add g1 M)) hb20 (fun b e => (by rw [show b = g from e]; exact hm3))
    have hC20 := hC19.go hb20 (fun b e => Or.inr e)
    have ho54 := ho51.go hb20 (fun e => hn1 e.symm)
    have ho55 := ho52.go hb20 (fun e => hn2 e.symm)
    obtain rfl := vint_eq hv13
    replace h := bind_some h
    obtain ⟨x14, hx14, h⟩ := h
    refine lw_op Z Z Z (ow_indexSlice (R := RInt) Z Z Z (VRep.mono hl20 hw2) Tryd.underlying52 (Tryd.sizeOf3 _) hx14 fun p2 hp2 => lw_op Z Z Z (ow_load (R := RInt) Z Z hp2 (Tryd.sizeOf3 _) (Tryd.isAgg3 _) fun v14 hv14 => ?_))
    obtain rfl := vint_eq hv14
    refine lw_op Z Z Z (ow_fieldAddr Z Z Tryd.underlying38 Z (Tryd.sizeOf3 _) (lw_op0 Z Z (ow_store (X := (One g)) (us := [(.int .i64 x14)]) (cs' := #[(.int .i64 x14), (.int .i64 (W ((W (x8.1 * 16384)) + x9.1))), (.int .i64 x10.1), (.int .i64 x4.1)]) Z Z Z Z ho55 (Tryd.sizeOf3 _) Z Z Z Z hm5 (.inl hg4) Z hC20 fun w21 ho56 hb21 hl21 hC21 => ?_)))
    have ho57 := ho53.go hb21 (fun e => hn2 e)
    have ho58 := ho54.go hb21 (fun e => hn3 e)
    refine lw_nil (ew_blockN (ew_then (cw_seq (cw_region (lw_op Z Z Z (ow_loadOwnA Z Z Z ho56 (Tryd.isAgg38 _) (Tryd.sizeOf38 _) Z (lw_op0 Z Z (ow_store (X := (One g)) (us := [(.int .i64 x14), (.int .i64 (W ((W (x8.1 * 16384)) + x9.1))), (.int .i64 x10.1), (.int .i64 x4.1)]) (cs' := #[(.int .i64 x14), (.int .i64 (W ((W (x8.1 * 16384)) + x9.1))), (.int .i64 x10.1), (.int .i64 x4.1)]) Z Z Z Z ho58 (Tryd.sizeOf38 _) Z Z Z Z hm4 (.inl hg2) Z hC21 fun w22 ho59 hb22 hl22 hC22 => ?_))))))))
    have ho60 := ho57.go hb22 (fun e => hn1 e)
    refine lw_nil (ew_then (cw_ret ?_))
    have hw4 : VRep RPacket w22 (Add g2 (Add g1 M)) ({ From := x14, To := (W ((W (x8.1 * 16384)) + x9.1)), Port := x10.1, Proto := x4.1 } : Packet) (.agg #[(.int .i64 x14), (.int .i64 (W ((W (x8.1 * 16384)) + x9.1))), (.int .i64 x10.1), (.int .i64 x4.1)]) := shut_Packet
    obtain rfl := Option.some.inj h
    exact ew_ret (res1 Z (.cell Z (own_loadVarA ho59 (Tryd.isAgg38 _) (Tryd.sizeOf38 _) Z))) ⟨_, Z, ⟨(hw4.mono hC22.back), ho60⟩, hC22.bx⟩
   ·
    obtain rfl := hbb3.trans hc3
    refine cw_false Z (cw_seq (cw_region (lw_op Z Z Z (ow_eqlI Z Z Z fun bb4 hbb4 => lw_op Z Z Z (ow_assign Z Z (lw_nil (ew_then ?_)))))))
    replace h := cond_some h
    rcases h with ⟨hc4, h⟩ | ⟨hc4, h⟩
    ·
     obtain rfl := hbb4.trans hc4
     refine cw_true Z (cw_region (lw_op Z Z Z (ow_buildSlice (R := RInt) (xs := [(-1), 65536]) (cs := #[(.int .i64 (-1)), (.int .i64 65536)]) (e := 3) Z Z (by kernel_rfl) Z Z ⟨_, _, Z, (vint _).cells, _, _, Z, (vint _).cells, Z⟩ hC18 fun p3 w23 hw5 hb23 hl23 hC23 => ?_)))
     have ho62 := ho47.no hb23
     have ho63 := ho48.no hb23
     have ho64 := ho49.no hb23
     refine lw_op Z Z Z (ow_move Z Z ?_)
     have lz8 := (((lz6.trans hl17).trans hl18).trans hl23)
     replace h := bind_some h
     obtain ⟨x15, hx15, h⟩ := h
     refine lw_op Z Z Z (ow_call Z Z Tryd.call60 (w_spec_l20Rd_pick (hG.mono lz8) hC23.old (VRep.mono lz8 hxs) ho62 hm3 hx15) fun v15 w24 hv15 => ?_)
     obtain ⟨⟨hv15, ho65⟩, hb24⟩ := hv15
     have hl24 := Le.of_bx (Add g2 (Add g1 M)) hb24 (fun b e => (by rw [show b = g from e]; exact hm3))
     have hC24 := hC23.go hb24 (fun b e => Or.inr e)
     have ho66 := ho63.go hb24 (fun e => hn1 e.symm)
     have ho67 := ho64.go hb24 (fun e => hn2 e.symm)
     obtain rfl := vint_eq hv15
     replace h := bind_some h
     obtain ⟨x16, hx16, h⟩ := h
     refine lw_op Z Z Z (ow_indexSlice (R := RInt) Z Z Z (VRep.mono hl24 hw5) Tryd.underlying52 (Tryd.sizeOf3 _) hx16 fun p4 hp4 => lw_op Z Z Z (ow_load (R := RInt) Z Z hp4 (Tryd.sizeOf3 _) (Tryd.isAgg3 _) fun v16 hv16 => ?_))
     obtain rfl := vint_eq hv16
     refine lw_op Z Z Z (ow_fieldAddr Z Z Tryd.underlying38 Z (Tryd.sizeOf3 _) (lw_op0 Z Z (ow_store (X := (One g)) (us := [(.int .i64 x16)]) (cs' := #[(.int .i64 (W ((W (x6.1 * 256)) + x7.1))), (.int .i64 x16), (.int .i64 x10.1), (.int .i64 x4.1)]) Z Z Z Z ho67 (Tryd.sizeOf3 _) Z Z Z Z hm5 (.inl hg4) Z hC24 fun w25 ho68 hb25 hl25 hC25 => ?_)))
     have ho69 := ho65.go hb25 (fun e => hn2 e)
     have ho70 := ho66.go hb25 (fun e => hn3 e)
     refine lw_nil (ew_blockN (ew_then (cw_seq (cw_region (lw_op Z Z Z (ow_loadOwnA Z Z Z ho68 (Tryd.isAgg38 _) (Tryd.sizeOf38 _) Z (lw_op0 Z Z (ow_store (X := (One g)) (us := [(.int .i64 (W ((W (x6.1 * 256)) + x7.1))), (.int .i64 x16), (.int .i64 x10.1), (.int .i64 x4.1)]) (cs' := #[(.int .i64 (W ((W (x6.1 * 256)) + x7.1))), (.int .i64 x16), (.int .i64 x10.1), (.int .i64 x4.1)]) Z Z Z Z ho70 (Tryd.sizeOf38 _) Z Z Z Z hm4 (.inl hg2) Z hC25 fun w26 ho71 hb26 hl26 hC26 => ?_))))))))
     have ho72 := ho69.go hb26 (fun e => hn1 e)
     refine lw_nil (ew_then (cw_ret ?_))
     have hw7 : VRep RPacket w26 (Add g2 (Add g1 M)) ({ From := (W ((W (x6.1 * 256)) + x7.1)), To := x16, Port := x10.1, Proto := x4.1 } : Packet) (.agg #[(.int .i64 (W ((W (x6.1 * 256)) + x7.1))), (.int .i64 x16), (.int .i64 x10.1), (.int .i64 x4.1)]) := shut_Packet
     obtain rfl := Option.some.inj h
     exact ew_ret (res1 Z (.cell Z (own_loadVarA ho71 (Tryd.isAgg38 _) (Tryd.sizeOf38 _) Z))) ⟨_, Z, ⟨(hw7.mono hC26.back), ho72⟩, hC26.bx⟩
    ·
     obtain rfl := hbb4.trans hc4
     refine cw_false Z (cw_seq (cw_region (lw_op Z Z Z (ow_eqlI Z Z Z fun bb5 hbb5 => lw_op Z Z Z (ow_assign Z Z (lw_nil (ew_then ?_)))))))
     replace h := cond_some h
     rcases h with ⟨hc5, h⟩ | ⟨hc5, h⟩
     ·
      obtain rfl := hbb5.trans hc5
      refine cw_true Z (cw_region (lw_op Z Z Z (ow_buildSlice (R := RInt) (xs := [(-1), 256]) (cs := #[(.int .i64 (-1)), (.int .i64 256)]) (e := 3) Z Z (by kernel_rfl) Z Z ⟨_, _, Z, (vint _).cells, _, _, Z, (vint _).cells, Z⟩ hC18 fun p5 w27 hw8 hb27 hl27 hC27 => ?_)))
      have ho74 := ho47.no hb27
      have ho75 := ho48.no hb27
      have ho76 := ho49.no hb27
      refine lw_op Z Z Z (ow_move Z Z ?_)
      have lz9 := (((lz6.trans hl17).trans hl18).trans hl27)
      replace h := bind_some h
      obtain ⟨x17, hx17, h⟩ := h
      refine lw_op Z Z Z (ow_call Z Z Tryd.call60 (w_spec_l20Rd_pick (hG.mono lz9) hC27.old (VRep.mono lz9 hxs) ho74 hm3 hx17) fun v17 w28 hv17 => ?_)
      obtain ⟨⟨hv17, ho77⟩, hb28⟩ := hv17
      have hl28 := Le.of_bx (Add g2 (Add g1 M)) hb28 (fun b e => (by rw [show b = g from e]; exact hm3))
      have hC28 := hC27.go hb28 (fun b e => Or.inr e)
      have ho78 := ho75.go hb28 (fun e => hn1 e.symm)
      have ho79 := ho76.go hb28 (fun e => hn2 e.symm)
      obtain rfl := vint_eq hv17
      replace h := bind_some h
      obtain ⟨x18, hx18, h⟩ := h
      refine lw_op Z Z Z (ow_indexSlice (R := RInt) Z Z Z (VRep.mono hl28 hw8) Tryd.underlying52 (Tryd.sizeOf3 _) hx18 fun p6 hp6 => lw_op Z Z Z (ow_load (R := RInt) Z Z hp6 (Tryd.sizeOf3 _) (Tryd.isAgg3 _) fun v18 hv18 => ?_))
      obtain rfl := vint_eq hv18
      refine lw_op Z Z Z (ow_fieldAddr Z Z Tryd.underlying38 Z (Tryd.sizeOf3 _) (lw_op0 Z Z (ow_store (X := (One g)) (us := [(.int .i64 x18)]) (cs' := #[(.int .i64 (W ((W (x6.1 * 256)) + x7.1))), (.int .i64 (W ((W (x8.1 * 16384)) + x9.1))), (.int .i64 x18), (.int .i64 x4.1)]) Z Z Z Z ho79 (Tryd.sizeOf3 _) Z Z Z Z hm5 (.inl hg4) Z hC28 fun w29 ho80 hb29 hl29 hC29 => ?_)))
      have ho81 := ho77.go hb29 (fun e => hn2 e)
      have ho82 := ho78.go hb29 (fun e => hn3 e)
      refine lw_nil (ew_blockN (ew_then (cw_seq (cw_region (lw_op Z Z Z (ow_loadOwnA Z Z Z ho80 (Tryd.isAgg38 _) (Tryd.sizeOf38 _) Z (lw_op0 Z Z (ow_store (X := (One g)) (us := [(.int .i64 (W ((W (x6.1 * 256)) + x7.1))), (.int .i64 (W ((W (x8.1 * 16384)) + x9.1))), (.int .i64 x18), (.int .i64 x4.1)]) (cs' := #[(.int .i64 (W ((W (x6.1 * 256)) + x7.1))), (.int .i64 (W ((W (x8.1 * 16384)) + x9.1))), (.int .i64 x18), (.int .i64 x4.1)]) Z Z Z Z ho82 (Tryd.sizeOf38 _) Z Z Z Z hm4 (.inl hg2) Z hC29 fun w30 ho83 hb30 hl30 hC30 => ?_))))))))
      have ho84 := ho81.go hb30 (fun e => hn1 e)
      refine lw_nil (ew_then (cw_ret ?_))
      have hw10 : VRep RPacket w30 (Add g2 (Add g1 M)) ({ From := (W ((W (x6.1 * 256)) + x7.1)), To := (W ((W (x8.1 * 16384)) + x9.1)), Port := x18, Proto := x4.1 } : Packet) (.agg #[(.int .i64 (W ((W (x6.1 * 256)) + x7.1))), (.int .i64 (W ((W (x8.1 * 16384)) + x9.1))), (.int .i64 x18), (.int .i64 x4.1)]) := shut_Packet
      obtain rfl := Option.some.inj h
      exact ew_ret (res1 Z (.cell Z (own_loadVarA ho83 (Tryd.isAgg38 _) (Tryd.sizeOf38 _) Z))) ⟨_, Z, ⟨(hw10.mono hC30.back), ho84⟩, hC30.bx⟩
     ·
      obtain rfl := hbb5.trans hc5
      refine cw_false Z (cw_region (lw_op Z Z Z (ow_buildSlice (R := RInt) (xs := [(-1), 8]) (cs := #[(.int .i64 (-1)), (.int .i64 8)]) (e := 3) Z Z (by kernel_rfl) Z Z ⟨_, _, Z, (vint _).cells, _, _, Z, (vint _).cells, Z⟩ hC18 fun p7 w31 hw11 hb31 hl31 hC31 => ?_)))
      have ho86 := ho47.no hb31
      have ho87 := ho48.no hb31
      have ho88 := ho49.no hb31
      refine lw_op Z Z Z (ow_move Z Z ?_)
      have lz10 := (((lz6.trans hl17).trans hl18).trans hl31)
      replace h := bind_some h
      obtain ⟨x19, hx19, h⟩ := h
      refine lw_op Z Z Z (ow_call Z Z Tryd.call60 (w_spec_l20Rd_pick (hG.mono lz10) hC31.old (VRep.mono lz10 hxs) ho86 hm3 hx19) fun v19 w32 hv19 => ?_)
      obtain ⟨⟨hv19, ho89⟩, hb32⟩ := hv19
      have hl32 := Le.of_bx (Add g2 (Add g1 M)) hb32 (fun b e => (by rw [show b = g from e]; exact hm3))
      have hC32 := hC31.go hb32 (fun b e => Or.inr e)
      have ho90 := ho87.go hb32 (fun e => hn1 e.symm)
      have ho91 := ho88.go hb32 (fun e => hn2 e.symm)
      obtain rfl := vint_eq hv19
      replace h := bind_some h
      obtain ⟨x20, hx20, h⟩ := h
      refine lw_op Z Z Z (ow_indexSlice (R := RInt) Z Z Z (VRep.mono hl32 hw11) Tryd.underlying52 (Tryd.sizeOf3 _) hx20 fun p8 hp8 => lw_op Z Z Z (ow_load (R := RInt) Z Z hp8 (Tryd.sizeOf3 _) (Tryd.isAgg3 _) fun v20 hv20 => ?_))
      obtain rfl := vint_eq hv20
      refine lw_op Z Z Z (ow_fieldAddr Z Z Tryd.underlying38 Z (Tryd.sizeOf3 _) (lw_op0 Z Z (ow_store (X := (One g)) (us := [(.int .i64 x20)]) (cs' := #[(.int .i64 (W ((W (x6.1 * 256)) + x7.1))), (.int .i64 (W ((W (x8.1 * 16384)) + x9.1))), (.int .i64 x10.1), (.int .i64 x20)]) Z Z Z Z ho91 (Tryd.sizeOf3 _) Z Z Z Z hm5 (.inl hg4) Z hC32 fun w33 ho92 hb33 hl33 hC33 => ?_)))
      have ho93 := ho89.go hb33 (fun e => hn2 e)
      have ho94 := ho90.go hb33 (fun e => hn3 e)
      refine lw_nil (ew_blockN (ew_then (cw_seq (cw_region (lw_op Z Z Z (ow_loadOwnA Z Z Z ho92 (Tryd.isAgg38 _) (Tryd.sizeOf38 _) Z (lw_op0 Z Z (ow_store (X := (One g)) (us := [(.int .i64 (W ((W (x6.1 * 256)) + x7.1))), (.int .i64 (W ((W (x8.1 * 16384)) + x9.1))), (.int .i64 x10.1), (.int .i64 x20)]) (cs' := #[(.int .i64 (W ((W (x6.1 * 256)) + x7.1))), (.int .i64 (W ((W (x8.1 * 16384)) + x9.1))), (.int .i64 x10.1), (.int .i64 x20)]) Z Z Z Z ho94 (Tryd.sizeOf38 _) Z Z Z Z hm4 (.inl hg2) Z hC33 fun w34 ho95 hb34 hl34 hC34 => ?_))))))))
      have ho96 := ho93.go hb34 (fun e => hn1 e)
      refine lw_nil (ew_then (cw_ret ?_))
      have hw13 : VRep RPacket w34 (Add g2 (Add g1 M)) ({ From := (W ((W (x6.1 * 256)) + x7.1)), To := (W ((W (x8.1 * 16384)) + x9.1)), Port := x10.1, Proto := x20 } : Packet) (.agg #[(.int .i64 (W ((W (x6.1 * 256)) + x7.1))), (.int .i64 (W ((W (x8.1 * 16384)) + x9.1))), (.int .i64 x10.1), (.int .i64 x20)]) := shut_Packet
      obtain rfl := Option.some.inj h
      exact ew_ret (res1 Z (.cell Z (own_loadVarA ho95 (Tryd.isAgg38 _) (Tryd.sizeOf38 _) Z))) ⟨_, Z, ⟨(hw13.mono hC34.back), ho96⟩, hC34.bx⟩
  ·
   obtain rfl := hbb2.trans hc2
   refine cw_false Z (cw_skip (ew_then (cw_seq (cw_region (lw_op Z Z Z (ow_loadOwnA Z Z Z ho46 (Tryd.isAgg38 _) (Tryd.sizeOf38 _) Z (lw_op0 Z Z (ow_store (X := (One g)) (us := [(.int .i64 (W ((W (x6.1 * 256)) + x7.1))), (.int .i64 (W ((W (x8.1 * 16384)) + x9.1))), (.int .i64 x10.1), (.int .i64 x4.1)]) (cs' := #[(.int .i64 (W ((W (x6.1 * 256)) + x7.1))), (.int .i64 (W ((W (x8.1 * 16384)) + x9.1))), (.int .i64 x10.1), (.int .i64 x4.1)]) Z Z Z Z ho45 (Tryd.sizeOf38 _) Z Z Z Z hm4 (.inl hg2) Z hC17 fun w35 ho98 hb35 hl35 hC35 => ?_))))))))
   have ho99 := ho44.go hb35 (fun e => hn1 e)
   refine lw_nil (ew_then (cw_ret ?_))
   have hw15 : VRep RPacket w35 (Add g2 (Add g1 M)) ({ From := (W ((W (x6.1 * 256)) + x7.1)), To := (W ((W (x8.1 * 16384)) + x9.1)), Port := x10.1, Proto := x4.1 } : Packet) (.agg #[(.int .i64 (W ((W (x6.1 * 256)) + x7.1))), (.int .i64 (W ((W (x8.1 * 16384)) + x9.1))), (.int .i64 x10.1), (.int .i64 x4.1)]) := shut_Packet
   obtain rfl := Option.some.inj h
   exact ew_ret (res1 Z (.cell Z (own_loadVarA ho98 (Tryd.isAgg38 _) (Tryd.sizeOf38 _) Z))) ⟨_, Z, ⟨(hw15.mono hC35.back), ho99⟩, hC35.bx⟩
 ·
  obtain rfl := hbb1.trans hc1
  refine cw_false Z (cw_skip (ew_then (cw_seq (cw_seq (cw_region (lw_op Z Z Z (ow_move Z Z (lw_op Z Z Z (ow_move Z Z ?_)))))))))
  replace h := bind_some h
  obtain ⟨x21, hx21, h⟩ := h
  refine lw_op Z Z Z (ow_call Z Z Tryd.call81 (w_spec_l20Rd_odd (hG.mono (lz2.trans hl8)) hC8.old (VRep.mono (lz2.trans hl8) hxs) ho17 hm3 hx21) fun v21 w36 hv21 => ?_)
  obtain ⟨⟨hv21, ho101⟩, hb36⟩ := hv21
  have hl36 := Le.of_bx (Add g2 (Add g1 M)) hb36 (fun b e => (by rw [show b = g from e]; exact hm3))
  have hC36 := hC8.go hb36 (fun b e => Or.inr e)
  have ho102 := ho18.go hb36 (fun e => hn1 e.symm)
  have ho103 := ho19.go hb36 (fun e => hn2 e.symm)
  obtain ⟨bb6, hbb6, rfl⟩ := vbool_ex hv21
  refine lw_nil (ew_then ?_)
  replace h := cond_some h
  rcases h with ⟨hc6, h⟩ | ⟨hc6, h⟩
  ·
   obtain rfl := hbb6.trans hc6
   refine cw_true Z (cw_seq (cw_region (lw_op Z Z Z (ow_move Z Z ?_))))
   have lz11 := ((lz2.trans hl8).trans hl36)
   replace h := bind_some h
   obtain ⟨x22, hx22, h⟩ := h
   refine lw_op Z Z Z (ow_call Z Z Tryd.call60 (w_spec_l20Rd_pick (hG.mono lz11) hC36.old (VRep.mono lz11 hxs) ho101 hm3 hx22) fun v22 w37 hv22 => ?_)
   obtain ⟨⟨hv22, ho104⟩, hb37⟩ := hv22
   have hl37 := Le.of_bx (Add g2 (Add g1 M)) hb37 (fun b e => (by rw [show b = g from e]; exact hm3))
   have hC37 := hC36.go hb37 (fun b e => Or.inr e)
   have ho105 := ho102.go hb37 (fun e => hn1 e.symm)
   have ho106 := ho103.go hb37 (fun e => hn2 e.symm)
   obtain rfl := vint_eq hv22
   refine lw_nil (ew_then (cw_block (cw_seq (cw_region (lw_op Z Z Z (ow_eqlI Z Z Z fun bb7 hbb7 => lw_op Z Z Z (ow_assign Z Z (lw_nil (ew_then ?_)))))))))
   replace h := cond_some h
   rcases h with ⟨hc7, h⟩ | ⟨hc7, h⟩
   ·
    obtain rfl := hbb7.trans hc7
    refine cw_true Z (cw_region (lw_op Z Z Z (ow_buildSlice (R := RInt) (xs := [(-1), 65536]) (cs := #[(.int .i64 (-1)), (.int .i64 65536)]) (e := 3) Z Z (by kernel_rfl) Z Z ⟨_, _, Z, (vint _).cells, _, _, Z, (vint _).cells, Z⟩ hC37 fun p9 w38 hw16 hb38 hl38 hC38 => ?_)))
    have ho107 := ho104.no hb38
    have ho108 := ho105.no hb38
    have ho109 := ho106.no hb38
    refine lw_op Z Z Z (ow_move Z Z ?_)
    have lz12 := ((lz11.trans hl37).trans hl38)
    replace h := bind_some h
    obtain ⟨x23, hx23, h⟩ := h
    refine lw_op Z Z Z (ow_call Z Z Tryd.call60 (w_spec_l20Rd_pick (hG.mono lz12) hC38.old (VRep.mono lz12 hxs) ho107 hm3 hx23) fun v23 w39 hv23 => ?_)
    obtain ⟨⟨hv23, ho110⟩, hb39⟩ := hv23
    have hl39 := Le.of_bx (Add g2 (Add g1 M)) hb39 (fun b e => (by rw [show b = g from e]; exact hm3))
    have hC39 := hC38.go hb39 (fun b e => Or.inr e)
    have ho111 := ho108.go hb39 (fun e => hn1 e.symm)
    have ho112 := ho109.go hb39 (fun e => hn2 e.symm)
    obtain rfl := vint_eq hv23
    replace h := bind_some h
    obtain ⟨x24, hx24, h⟩ := h
    refine lw_op Z Z Z (ow_indexSlice (R := RInt) Z Z Z (VRep.mono hl39 hw16) Tryd.underlying52 (Tryd.sizeOf3 _) hx24 fun p10 hp10 => lw_op Z Z Z (ow_load (R := RInt) Z Z hp10 (Tryd.sizeOf3 _) (Tryd.isAgg3 _) fun v24 hv24 => ?_))
    obtain rfl := vint_eq hv24
    refine lw_op Z Z Z (ow_fieldAddr Z Z Tryd.underlying38 Z (Tryd.sizeOf3 _) (lw_op0 Z Z (ow_store (X := (One g)) (us := [(.int .i64 x24)]) (cs' := #[(.int .i64 x24), (.int .i64 x2.1), (.int .i64 x3.1), (.int .i64 x4.1)]) Z Z Z Z ho112 (Tryd.sizeOf3 _) Z Z Z Z hm5 (.inl hg4) Z hC39 fun w40 ho113 hb40 hl40 hC40 => ?_)))
    have ho114 := ho110.go hb40 (fun e => hn2 e)
    have ho115 := ho111.go hb40 (fun e => hn3 e)
    refine lw_nil (ew_blockN (ew_then (cw_seq (cw_region (lw_op Z Z Z (ow_loadOwnA Z Z Z ho113 (Tryd.isAgg38 _) (Tryd.sizeOf38 _) Z (lw_op0 Z Z (ow_store (X := (One g)) (us := [(.int .i64 x24), (.int .i64 x2.1), (.int .i64 x3.1), (.int .i64 x4.1)]) (cs' := #[(.int .i64 x24), (.int .i64 x2.1), (.int .i64 x3.1), (.int .i64 x4.1)]) Z Z Z Z ho115 (Tryd.sizeOf38 _) Z Z Z Z hm4 (.inl hg2) Z hC40 fun w41 ho116 hb41 hl41 hC41 => ?_))))))))
    have ho117 := ho114.go hb41 (fun e => hn1 e)
    refine lw_nil (ew_then (cw_ret ?_))
    have hw18 : VRep RPacket w41 (Add g2 (Add g1 M)) ({ From := x24, To := x2.1, Port := x3.1, Proto := x4.1 } : Packet) (.agg #[(.int .i64 x24), (.int .i64 x2.1), (.int .i64 x3.1), (.int .i64 x4.1)]) := shut_Packet
    obtain rfl := Option.some.inj h
    exact ew_ret (res1 Z (.cell Z (own_loadVarA ho116 (Tryd.isAgg38 _) (Tryd.sizeOf38 _) Z))) ⟨_, Z, ⟨(hw18.mono hC41.back), ho117⟩, hC41.bx⟩
   ·
    obtain rfl := hbb7.trans hc7
    refine cw_false Z (cw_seq (cw_region (lw_op Z Z Z (ow_eqlI Z Z Z fun bb8 hbb8 => lw_op Z Z Z (ow_assign Z Z (lw_nil (ew_then ?_)))))))
    replace h := cond_some h
    rcases h with ⟨hc8, h⟩ | ⟨hc8, h⟩
    ·
     obtain rfl := hbb8.trans hc8
     refine cw_true Z (cw_region (lw_op Z Z Z (ow_buildSlice (R := RInt) (xs := [(-1), 65536]) (cs := #[(.int .i64 (-1)), (.int .i64 65536)]) (e := 3) Z Z (by kernel_rfl) Z Z ⟨_, _, Z, (vint _).cells, _, _, Z, (vint _).cells, Z⟩ hC37 fun p11 w42 hw19 hb42 hl42 hC42 => ?_)))
     have ho119 := ho104.no hb42
     have ho120 := ho105.no hb42
     have ho121 := ho106.no hb42
     refine lw_op Z Z Z (ow_move Z Z ?_)
     have lz13 := ((lz11.trans hl37).trans hl42)
     replace h := bind_some h
     obtain ⟨x25, hx25, h⟩ := h
     refine lw_op Z Z Z (ow_call Z Z Tryd.call60 (w_spec_l20Rd_pick (hG.mono lz13) hC42.old (VRep.mono lz13 hxs) ho119 hm3 hx25) fun v25 w43 hv25 => ?_)
     obtain ⟨⟨hv25, ho122⟩, hb43⟩ := hv25
     have hl43 := Le.of_bx (Add g2 (Add g1 M)) hb43 (fun b e => (by rw [show b = g from e]; exact hm3))
     have hC43 := hC42.go hb43 (fun b e => Or.inr e)
     have ho123 := ho120.go hb43 (fun e => hn1 e.symm)
     have ho124 := ho121.go hb43 (fun e => hn2 e.symm)
     obtain rfl := vint_eq hv25
     replace h := bind_some h
     obtain ⟨x26, hx26, h⟩ := h
     refine lw_op Z Z Z (ow_indexSlice (R := RInt) Z Z Z (VRep.mono hl43 hw19) Tryd.underlying52 (Tryd.sizeOf3 _) hx26 fun p12 hp12 => lw_op Z Z Z (ow_load (R := RInt) Z Z hp12 (Tryd.sizeOf3 _) (Tryd.isAgg3 _) fun v26 hv26 => ?_))
     obtain rfl := vint_eq hv26
     refine lw_op Z Z Z (ow_fieldAddr Z Z Tryd.underlying38 Z (Tryd.sizeOf3 _) (lw_op0 Z Z (ow_store (X := (One g)) (us := [(.int .i64 x26)]) (cs' := #[(.int .i64 x1.1), (.int .i64 x26), (.int .i64 x3.1), (.int .i64 x4.1)]) Z Z Z Z ho124 (Tryd.sizeOf3 _) Z Z Z Z hm5 (.inl hg4) Z hC43 fun w44 ho125 hb44 hl44 hC44 => ?_)))
     have ho126 := ho122.go hb44 (fun e => hn2 e)
     have ho127 := ho123.go hb44 (fun e => hn3 e)
     refine lw_nil (ew_blockN (ew_then (cw_seq (cw_region (lw_op Z Z Z (ow_loadOwnA Z Z Z ho125 (Tryd.isAgg38 _) (Tryd.sizeOf38 _) Z (lw_op0 Z Z (ow_store (X := (One g)) (us := [(.int .i64 x1.1), (.int .i64 x26), (.int .i64 x3.1), (.int .i64 x4.1)]) (cs' := #[(.int .i64 x1.1), (.int .i64 x26), (.int .i64 x3.1), (.int .i64 x4.1)]) Z Z Z Z ho127 (Tryd.sizeOf38 _) Z Z Z Z hm4 (.inl hg2) Z hC44 fun w45 ho128 hb45 hl45 hC45 => ?_))))))))
     have ho129 := ho126.go hb45 (fun e => hn1 e)
     refine lw_nil (ew_then (cw_ret ?_))
     have hw21 : VRep RPacket w45 (Add g2 (Add g1 M)) ({ From := x1.1, To := x26, Port := x3.1, Proto := x4.1 } : Packet) (.agg #[(.int .i64 x1.1), (.int .i64 x26), (.int .i64 x3.1), (.int .i64 x4.1)]) := shut_Packet
     obtain rfl := Option.some.inj h
     exact ew_ret (res1 Z (.cell Z (own_loadVarA ho128 (Tryd.isAgg38 _) (Tryd.sizeOf38 _) Z))) ⟨_, Z, ⟨(hw21.mono hC45.back), ho129⟩, hC45.bx⟩
    ·
     obtain rfl := hbb8.trans hc8
     refine cw_false Z (cw_seq (cw_region (lw_op Z Z Z (ow_eqlI Z Z Z fun bb9 hbb9 => lw_op Z Z Z (ow_assign Z Z (lw_nil (ew_then ?_)))))))
     replace h := cond_some h
     rcases h with ⟨hc9, h⟩ | ⟨hc9, h⟩
     ·
      obtain rfl := hbb9.trans hc9
      refine cw_true Z (cw_region (lw_op Z Z Z (ow_buildSlice (R := RInt) (xs := [(-1), 256]) (cs := #[(.int .i64 (-1)), (.int .i64 256)]) (e := 3) Z Z (by kernel_rfl) Z Z ⟨_, _, Z, (vint _).cells, _, _, Z, (vint _).cells, Z⟩ hC37 fun p13 w46 hw22 hb46 hl46 hC46 => ?_)))
      have ho131 := ho104.no hb46
      have ho132 := ho105.no hb46
      have ho133 := ho106.no hb46
      refine lw_op Z Z Z (ow_move Z Z ?_)
      have lz14 := ((lz11.trans hl37).trans hl46)
      replace h := bind_some h
      obtain ⟨x27, hx27, h⟩ := h
      refine lw_op Z Z Z (ow_call Z Z Tryd.call60 (w_spec_l20Rd_pick (hG.mono lz14) hC46.old (VRep.mono lz14 hxs) ho131 hm3 hx27) fun v27 w47 hv27 => ?_)
      obtain ⟨⟨hv27, ho134⟩, hb47⟩ := hv27
      have hl47 := Le.of_bx (Add g2 (Add g1 M)) hb47 (fun b e => (by rw [show b = g from e]; exact hm3))
      have hC47 := hC46.go hb47 (fun b e => Or.inr e)
      have ho135 := ho132.go hb47 (fun e => hn1 e.symm)
      have ho136 := ho133.go hb47 (fun e => hn2 e.symm)
      obtain rfl := vint_eq hv27
      replace h := bind_some h
      obtain ⟨x28, hx28, h⟩ := h
      refine lw_op Z Z Z (ow_indexSlice (R := RInt) Z Z Z (VRep.mono hl47 hw22) Tryd.underlying52 (Tryd.sizeOf3 _) hx28 fun p14 hp14 => lw_op Z Z Z (ow_load (R := RInt) Z Z hp14 (Tryd.sizeOf3 _) (Tryd.isAgg3 _) fun v28 hv28 => ?_))
      obtain rfl := vint_eq hv28
      refine lw_op Z Z Z (ow_fieldAddr Z Z Tryd.underlying38 Z (Tryd.sizeOf3 _) (lw_op0 Z Z (ow_store (X := (One g)) (us := [(.int .i64 x28)]) (cs' := #[(.int .i64 x1.1), (.int .i64 x2.1), (.int .i64 x28), (.int .i64 x4.1)]) Z Z Z Z ho136 (Tryd.sizeOf3 _) Z Z Z Z hm5 (.inl hg4) Z hC47 fun w48 ho137 hb48 hl48 hC48 => ?_)))
      have ho138 := ho134.go hb48 (fun e => hn2 e)
      have ho139 := ho135.go hb48 (fun e => hn3 e)
      refine lw_nil (ew_blockN (ew_then (cw_seq (cw_region (lw_op Z Z Z (ow_loadOwnA Z Z Z ho137 (Tryd.isAgg38 _) (Tryd.sizeOf38 _) Z (lw_op0 Z Z (ow_store (X := (One g)) (us := [(.int .i64 x1.1), (.int .i64 x2.1), (.int .i64 x28), (.int .i64 x4.1)]) (cs' := #[(.int .i64 x1.1), (.int .i64 x2.1), (.int .i64 x28), (.int .i64 x4.1)]) Z Z Z Z ho139 (Tryd.sizeOf38 _) Z Z Z Z hm4 (.inl hg2) Z hC48 fun w49 ho140 hb49 hl49 hC49 => ?_))))))))
      have ho141 := ho138.go hb49 (fun e => hn1 e)
      refine lw_nil (ew_then (cw_ret ?_))
      have hw24 : VRep RPacket w49 (Add g2 (Add g1 M)) ({ From := x1.1, To := x2.1, Port := x28, Proto := x4.1 } : Packet) (.agg #[(.int .i64 x1.1), (.int .i64 x2.1), (.int .i64 x28), (.int .i64 x4.1)]) := shut_Packet
      obtain rfl := Option.some.inj h
      exact ew_ret (res1 Z (.cell Z (own_loadVarA ho140 (Tryd.isAgg38 _) (Tryd.sizeOf38 _) Z))) ⟨_, Z, ⟨(hw24.mono hC49.back), ho141⟩, hC49.bx⟩
     ·
      obtain rfl := hbb9.trans hc9
      refine cw_false Z (cw_region (lw_op Z Z Z (ow_buildSlice (R := RInt) (xs := [(-1), 8]) (cs := #[(.int .i64 (-1)), (.int .i64 8)]) (e := 3) Z Z (by kernel_rfl) Z Z ⟨_, _, Z, (vint _).cells, _, _, Z, (vint _).cells, Z⟩ hC37 fun p15 w50 hw25 hb50 hl50 hC50 => ?_)))
      have ho143 := ho104.no hb50
      have ho144 := ho105.no hb50
      have ho145 := ho106.no hb50
      refine lw_op Z Z Z (ow_move Z Z ?_)
      have lz15 := ((lz11.trans hl37).trans hl50)
      replace h := bind_some h
      obtain ⟨x29, hx29, h⟩ := h
      refine lw_op Z Z Z (ow_call Z Z Tryd.call60 (w_spec_l20Rd_pick (hG.mono lz15) hC50.old (VRep.mono lz15 hxs) ho143 hm3 hx29) fun v29 w51 hv29 => ?_)
      obtain ⟨⟨hv29, ho146⟩, hb51⟩ := hv29
      have hl51 := Le.of_bx (Add g2 (Add g1 M)) hb51 (fun b e => (by rw [show b = g from e]; exact hm3))
      have hC51 := hC50.go hb51 (fun b e => Or.inr e)
      have ho147 := ho144.go hb51 (fun e => hn1 e.symm)
      have ho148 := ho145.go hb51 (fun e => hn2 e.symm)
      obtain rfl := vint_eq hv29
      replace h := bind_some h
      obtain ⟨x30, hx30, h⟩ := h
      refine lw_op Z Z Z (ow_indexSlice (R := RInt) Z Z Z (VRep.mono hl51 hw25) Tryd.underlying52 (Tryd.sizeOf3 _) hx30 fun p16 hp16 => lw_op Z Z Z (ow_load (R := RInt) Z Z hp16 (Tryd.sizeOf3 _) (Tryd.isAgg3 _) fun v30 hv30 => ?_))
      obtain rfl := vint_eq hv30
      refine lw_op Z Z Z (ow_fieldAddr Z Z Tryd.underlying38 Z (Tryd.sizeOf3 _) (lw_op0 Z Z (ow_store (X := (One g)) (us := [(.int .i64 x30)]) (cs' := #[(.int .i64 x1.1), (.int .i64 x2.1), (.int .i64 x3.1), (.int .i64 x30)]) Z Z Z Z ho148 (Tryd.sizeOf3 _) Z Z Z Z hm5 (.inl hg4) Z hC51 fun w52 ho149 hb52 hl52 hC52 => ?_)))
      have ho150 := ho146.go hb52 (fun e => hn2 e)
      have ho151 := ho147.go hb52 (fun e => hn3 e)
      refine lw_nil (ew_blockN (ew_then (cw_seq (cw_region (lw_op Z Z Z (ow_loadOwnA Z Z Z ho149 (Tryd.isAgg38 _) (Tryd.sizeOf38 _) Z (lw_op0 Z Z (ow_store (X := (One g)) (us := [(.int .i64 x1.1), (.int .i64 x2.1), (.int .i64 x3.1), (.int .i64 x30)]) (cs' := #[(.int .i64 x1.1), (.int .i64 x2.1), (.int .i64 x3.1), (.int .i64 x30)]) Z Z Z Z ho151 (Tryd.sizeOf38 _) Z Z Z Z hm4 (.inl hg2) Z hC52 fun w53 ho152 hb53 hl53 hC53 => ?_))))))))
      have ho153 := ho150.go hb53 (fun e => hn1 e)
      refine lw_nil (ew_then (cw_ret ?_))
      have hw27 : VRep RPacket w53 (Add g2 (Add g1 M)) ({ From := x1.1, To := x2.1, Port := x3.1, Proto := x30 } : Packet) (.agg #[(.int .i64 x1.1), (.int .i64 x2.1), (.int .i64 x3.1), (.int .i64 x30)]) := shut_Packet
      obtain rfl := Option.some.inj h
      exact ew_ret (res1 Z (.cell Z (own_loadVarA ho152 (Tryd.isAgg38 _) (Tryd.sizeOf38 _) Z))) ⟨_, Z, ⟨(hw27.mono hC53.back), ho153⟩, hC53.bx⟩
  ·
   obtain rfl := hbb6.trans hc6
   refine cw_false Z (cw_skip (ew_then (cw_seq (cw_region (lw_op Z Z Z (ow_loadOwnA Z Z Z ho103 (Tryd.isAgg38 _) (Tryd.sizeOf38 _) Z (lw_op0 Z Z (ow_store (X := (One g)) (us := [(.int .i64 x1.1), (.int .i64 x2.1), (.int .i64 x3.1), (.int .i64 x4.1)]) (cs' := #[(.int .i64 x1.1), (.int .i64 x2.1), (.int .i64 x3.1), (.int .i64 x4.1)]) Z Z Z Z ho102 (Tryd.sizeOf38 _) Z Z Z Z hm4 (.inl hg2) Z hC36 fun w54 ho155 hb54 hl54 hC54 => ?_))))))))
   have ho156 := ho101.go hb54 (fun e => hn1 e)
   refine lw_nil (ew_then (cw_ret ?_))
   have hw29 : VRep RPacket w54 (Add g2 (Add g1 M)) ({ From := x1.1, To := x2.1, Port := x3.1, Proto := x4.1 } : Packet) (.agg #[(.int .i64 x1.1), (.int .i64 x2.1), (.int .i64 x3.1), (.int .i64 x4.1)]) := shut_Packet
   obtain rfl := Option.some.inj h
   exact ew_ret (res1 Z (.cell Z (own_loadVarA ho155 (Tryd.isAgg38 _) (Tryd.sizeOf38 _) Z))) ⟨_, Z, ⟨(hw29.mono hC54.back), ho156⟩, hC54.bx⟩

theorem w_spec_l1In {w : World} {M : Nat → Prop} (_hG : ARep (RArr 4 RShape) w M shapes ⟨0, 0, none⟩) (hO : ∀ b, M b → b < w.heap.size) {a_n : Int} {a_lo : Int} {a_hi : Int} {r : Bool} (h : F.spec_l1In a_n a_lo a_hi = some r) :
  Calls Tryd.prog 70 [(.int .i64 a_n), (.int .i64 a_lo), (.int .i64 a_hi)].toArray w fun e w' => ∃ v, e = .returned v ∧ VRep RBool w' M r v ∧ BX No w w' := by
 have hC : Cx No w M w M := Cx.start hO (fun _ e => e.elim)
 clear _hG
 refine walk (N := 15) Tryd.func70 Z Tryd.ntmps70 Z (cw_seq (cw_region (lw_op Z Z Z (ow_assign Z Z (lw_nil (ew_then (cw_seq (cw_region (lw_op Z Z Z (ow_move Z Z (lw_op Z Z Z (ow_move Z Z (lw_op Z Z Z (ow_geq Z Z Z fun bb1 hbb1 => lw_op Z Z Z (ow_move Z Z ?_)))))))))))))))
 replace h := cond_some h
 rcases h with ⟨hc1, h⟩ | ⟨hc1, h⟩
 ·
  obtain rfl := hbb1.trans hc1
  refine lw_on Z Z Z Z Z Z (ow_move Z Z (lw_on Z Z Z Z Z Z (ow_move Z Z (lw_on Z Z Z Z Z Z (ow_leq Z Z Z fun bb2 hbb2 => lw_op Z Z Z (ow_pickT Z Z Z (lw_op Z Z Z (ow_assign Z Z (lw_nil (ew_then (cw_ret ?_)))))))))))
  obtain rfl := Option.some.inj h
  exact ew_ret (res1 Z (.tmp Z)) ⟨_, Z, ((vbool_of hbb2)), hC.bx⟩
 ·
  obtain rfl := hbb1.trans hc1
  refine lw_off Z Z Z Z Z Z (lw_off Z Z Z Z Z Z (lw_off Z Z Z Z Z Z (lw_op Z Z Z (ow_pickF Z Z Z (lw_op Z Z Z (ow_assign Z Z (lw_nil (ew_then (cw_ret ?_)))))))))
  obtain rfl := Option.some.inj h
  exact ew_ret (res1 Z (.tmp Z)) ⟨_, Z, ((vbool _)), hC.bx⟩

theorem w_spec_TestValid {w : World} {M : Nat → Prop} (hG : ARep (RArr 4 RShape) w M shapes ⟨0, 0, none⟩) (hO : ∀ b, M b → b < w.heap.size) {v0p : Value} {a_t : Test} (h0 : VRep RTest w M a_t v0p) {r : Bool} (h : F.spec_TestValid a_t = some r) :
  Calls Tryd.prog 91 [v0p].toArray w fun e w' => ∃ v, e = .returned v ∧ VRep RBool w' M r v ∧ BX No w w' := by
 have hC : Cx No w M w M := Cx.start hO (fun _ e => e.elim)
 refine walk (N := 21) Tryd.func91 Z Tryd.ntmps91 Z (cw_seq (cw_region (lw_op Z Z Z (ow_box (R := RTest) Z Z h0 hC fun p1 w1 hp1 hb1 hl1 hC1 => lw_op Z Z Z (ow_assign Z Z (lw_nil (ew_then (cw_seq ?_))))))))
 replace h := bind_some h
 obtain ⟨x1, hx1, h⟩ := h
 replace h := cond_some h
 rcases h with ⟨hc1, h⟩ | ⟨hc1, h⟩
 ·
  subst hc1
  replace h := bind_some h
  obtain ⟨x2, hx2, h⟩ := h
  replace h := cond_some h
  rcases h with ⟨hc2, h⟩ | ⟨hc2, h⟩
  ·
   subst hc2
   replace h := bind_some h
   obtain ⟨x3, hx3, h⟩ := h
   refine cw_sub (E' := [(1, (.pointer (some p1))), (2, (.bool false))]) ⟨Z, Z, trivial⟩ (cw_drawQ 16 [PA RInt M a_t.Field, PEq (.int .i64 a_t.Field), PEq (.bool true), PEq (.bool true), PA RInt M a_t.Lo, PEq (.int .i64 a_t.Lo), PA RInt M a_t.Hi, PEq (.int .i64 a_t.Hi), PEq (.bool true), PEq (.bool true), PEq (.bool true), PA RInt M a_t.Hi, PEq (.int .i64 a_t.Hi), PA RInt M a_t.Field, PEq (.int .i64 a_t.Field), PEq (.int .i64 x3)] (by kernel_rfl) Z (by kernel_rfl) ⟨PA.mono _ _ _, PEq.mono _, PEq.mono _, PEq.mono _, PA.mono _ _ _, PEq.mono _, PA.mono _ _ _, PEq.mono _, PEq.mono _, PEq.mono _, PEq.mono _, PA.mono _ _ _, PEq.mono _, PA.mono _ _ _, PEq.mono _, PEq.mono _, trivial⟩ ⟨?_, ?_, ?_, ?_, ?_, ?_, ?_, ?_, ?_, ?_, ?_, ?_, ?_, ?_, ?_, ?_, trivial⟩ ?_)
   ·
    intro w5 D hS1 hd1
    have hl5 := Le.no M hS1
    exact dg_sub (E' := [(1, (.pointer (some p1)))]) ⟨Z, trivial⟩ (dg_plain Z (ow_fieldAddr Z Z Tryd.underlying31 Z (Tryd.sizeOf3 _) ⟨BX.refl _ _, ⟨_, Z, (ARep.mono hl5 (hp1.fld fld_Test_Field))⟩⟩))
   ·
    intro w6 D hS2 hd2
    have d1 : PA RInt M a_t.Field (D 0) w6 := dpA hd2 0 Z
    obtain ⟨p2, e1, ha1⟩ := d1
    refine dg_sub (E' := [(3, (.pointer (some p2)))]) ⟨(congrArg some e1), trivial⟩ (dg_plain Z (ow_load (R := RInt) Z Z ha1 (Tryd.sizeOf3 _) (Tryd.isAgg3 _) fun v9 hv9 => ?_))
    obtain rfl := vint_eq hv9
    exact ⟨BX.refl _ _, Z⟩
   ·
    intro w7 D hS3 hd3
    have hl7 := Le.no M hS3
    have hC7 := hC1.no hS3
    refine dg_sub (E' := [(4, (.int .i64 a_t.Field))]) ⟨(dpE hd3 1 Z Z), trivial⟩ (dg_plain Z (ow_call Z Z Tryd.call70 (w_spec_l1In (hG.mono (hl1.trans hl7)) hC7.old hx1) fun v10 w8 hv10 => ?_))
    obtain ⟨hv10, hb5⟩ := hv10
    obtain rfl := vbool_eq hv10
    exact ⟨hb5, Z⟩
   ·
    intro w9 D hS4 hd4
    exact dg_sub (E' := [(5, (.bool true))]) ⟨(dpE hd4 2 Z Z), trivial⟩ (dg_plain Z (ow_move Z Z ⟨BX.refl _ _, Z⟩))
   ·
    intro w10 D hS5 hd5
    have hl10 := Le.no M hS5
    exact dg_sub (E' := [(6, (.bool true)), (1, (.pointer (some p1)))]) ⟨(dpE hd5 3 Z Z), Z, trivial⟩ (dg_on Z Z Z Z (ow_fieldAddr Z Z Tryd.underlying31 Z (Tryd.sizeOf3 _) ⟨BX.refl _ _, ⟨_, Z, (ARep.mono hl10 (hp1.fld fld_Test_Lo))⟩⟩))
   ·
    intro w11 D hS6 hd6
    have d6 : PA RInt M a_t.Lo (D 4) w11 := dpA hd6 4 Z
    obtain ⟨p3, e2, ha2⟩ := d6
    refine dg_sub (E' := [(7, (.pointer (some p3))), (6, (.bool true))]) ⟨(congrArg some e2), (dpE hd6 3 Z Z), trivial⟩ (dg_on Z Z Z Z (ow_load (R := RInt) Z Z ha2 (Tryd.sizeOf3 _) (Tryd.isAgg3 _) fun v11 hv11 => ?_))
    obtain rfl := vint_eq hv11
    exact ⟨BX.refl _ _, Z⟩
   ·
    intro w12 D hS7 hd7
    have hl12 := Le.no M hS7
    exact dg_sub (E' := [(6, (.bool true)), (1, (.pointer (some p1)))]) ⟨(dpE hd7 3 Z Z), Z, trivial⟩ (dg_on Z Z Z Z (ow_fieldAddr Z Z Tryd.underlying31 Z (Tryd.sizeOf3 _) ⟨BX.refl _ _, ⟨_, Z, (ARep.mono hl12 (hp1.fld fld_Test_Hi))⟩⟩))
   ·
    intro w13 D hS8 hd8
    have d9 : PA RInt M a_t.Hi (D 6) w13 := dpA hd8 6 Z
    obtain ⟨p4, e3, ha3⟩ := d9
    refine dg_sub (E' := [(9, (.pointer (some p4))), (6, (.bool true))]) ⟨(congrArg some e3), (dpE hd8 3 Z Z), trivial⟩ (dg_on Z Z Z Z (ow_load (R := RInt) Z Z ha3 (Tryd.sizeOf3 _) (Tryd.isAgg3 _) fun v12 hv12 => ?_))
    obtain rfl := vint_eq hv12
    exact ⟨BX.refl _ _, Z⟩
   ·
    intro w14 D hS9 hd9
    have hl14 := Le.no M hS9
    have hC14 := hC1.no hS9
    refine dg_sub (E' := [(8, (.int .i64 a_t.Lo)), (10, (.int .i64 a_t.Hi)), (6, (.bool true))]) ⟨(dpE hd9 5 Z Z), (dpE hd9 7 Z Z), (dpE hd9 3 Z Z), trivial⟩ (dg_on Z Z Z Z (ow_call Z Z Tryd.call70 (w_spec_l1In (hG.mono (hl1.trans hl14)) hC14.old hx2) fun v13 w15 hv13 => ?_))
    obtain ⟨hv13, hb6⟩ := hv13
    obtain rfl := vbool_eq hv13
    exact ⟨hb6, Z⟩
   ·
    intro w16 D hS10 hd10
    exact dg_sub (E' := [(6, (.bool true)), (11, (.bool true))]) ⟨(dpE hd10 3 Z Z), (dpE hd10 8 Z Z), trivial⟩ (dg_plain Z (ow_pickT Z Z Z ⟨BX.refl _ _, Z⟩))
   ·
    intro w17 D hS11 hd11
    exact dg_sub (E' := [(12, (.bool true))]) ⟨(dpE hd11 9 Z Z), trivial⟩ (dg_plain Z (ow_move Z Z ⟨BX.refl _ _, Z⟩))
   ·
    intro w18 D hS12 hd12
    have hl18 := Le.no M hS12
    exact dg_sub (E' := [(13, (.bool true)), (1, (.pointer (some p1)))]) ⟨(dpE hd12 10 Z Z), Z, trivial⟩ (dg_on Z Z Z Z (ow_fieldAddr Z Z Tryd.underlying31 Z (Tryd.sizeOf3 _) ⟨BX.refl _ _, ⟨_, Z, (ARep.mono hl18 (hp1.fld fld_Test_Hi))⟩⟩))
   ·
    intro w19 D hS13 hd13
    have d20 : PA RInt M a_t.Hi (D 11) w19 := dpA hd13 11 Z
    obtain ⟨p5, e4, ha4⟩ := d20
    refine dg_sub (E' := [(14, (.pointer (some p5))), (13, (.bool true))]) ⟨(congrArg some e4), (dpE hd13 10 Z Z), trivial⟩ (dg_on Z Z Z Z (ow_load (R := RInt) Z Z ha4 (Tryd.sizeOf3 _) (Tryd.isAgg3 _) fun v14 hv14 => ?_))
    obtain rfl := vint_eq hv14
    exact ⟨BX.refl _ _, Z⟩
   ·
    intro w20 D hS14 hd14
    have hl20 := Le.no M hS14
    exact dg_sub (E' := [(13, (.bool true)), (1, (.pointer (some p1)))]) ⟨(dpE hd14 10 Z Z), Z, trivial⟩ (dg_on Z Z Z Z (ow_fieldAddr Z Z Tryd.underlying31 Z (Tryd.sizeOf3 _) ⟨BX.refl _ _, ⟨_, Z, (ARep.mono hl20 (hp1.fld fld_Test_Field))⟩⟩))
   ·
    intro w21 D hS15 hd15
    have d23 : PA RInt M a_t.Field (D 13) w21 := dpA hd15 13 Z
    obtain ⟨p6, e5, ha5⟩ := d23
    refine dg_sub (E' := [(16, (.pointer (some p6))), (13, (.bool true))]) ⟨(congrArg some e5), (dpE hd15 10 Z Z), trivial⟩ (dg_on Z Z Z Z (ow_load (R := RInt) Z Z ha5 (Tryd.sizeOf3 _) (Tryd.isAgg3 _) fun v15 hv15 => ?_))
    obtain rfl := vint_eq hv15
    exact ⟨BX.refl _ _, Z⟩
   ·
    intro w22 D hS16 hd16
    have hl22 := Le.no M hS16
    have hC22 := hC1.no hS16
    refine dg_sub (E' := [(17, (.int .i64 a_t.Field)), (13, (.bool true))]) ⟨(dpE hd16 14 Z Z), (dpE hd16 10 Z Z), trivial⟩ (dg_on Z Z Z Z (ow_call Z Z Tryd.call53 (w_spec_FieldTop (hG.mono (hl1.trans hl22)) hC22.old hx3) fun v16 w23 hv16 => ?_))
    obtain ⟨hv16, hb7⟩ := hv16
    obtain rfl := vint_eq hv16
    exact ⟨hb7, Z⟩
   ·
    intro w24 D hS17 hd17
    have hC24 := hC1.no hS17
    refine lw_sub (E' := [(13, (.bool true)), (15, (.int .i64 a_t.Hi)), (18, (.int .i64 x3)), (1, (.pointer (some p1))), (2, (.bool false))]) ⟨(dpE hd17 10 Z Z), (dpE hd17 12 Z Z), (dpE hd17 15 Z Z), Z, Z, trivial⟩ (lw_on Z Z Z Z Z Z (ow_leq Z Z Z fun bb1 hbb1 => lw_op Z Z Z (ow_pickT Z Z Z (lw_op Z Z Z (ow_assign Z Z (lw_nil (ew_then (cw_ret ?_))))))))
    obtain rfl := Option.some.inj h
    exact ew_ret (res1 Z (.tmp Z)) ⟨_, Z, ((vbool_of hbb1)), hC24.bx⟩
  ·
   subst hc2
   refine cw_sub (E' := [(1, (.pointer (some p1))), (2, (.bool false))]) ⟨Z, Z, trivial⟩ (cw_drawQ 16 [PA RInt M a_t.Field, PEq (.int .i64 a_t.Field), PEq (.bool true), PEq (.bool true), PA RInt M a_t.Lo, PEq (.int .i64 a_t.Lo), PA RInt M a_t.Hi, PEq (.int .i64 a_t.Hi), PEq (.bool false), PEq (.bool false), PEq (.bool false), PEq undef, PEq undef, PEq undef, PEq undef, PEq undef] (by kernel_rfl) Z (by kernel_rfl) ⟨PA.mono _ _ _, PEq.mono _, PEq.mono _, PEq.mono _, PA.mono _ _ _, PEq.mono _, PA.mono _ _ _, PEq.mono _, PEq.mono _, PEq.mono _, PEq.mono _, PEq.mono _, PEq.mono _, PEq.mono _, PEq.mono _, PEq.mono _, trivial⟩ ⟨?_, ?_, ?_, ?_, ?_, ?_, ?_, ?_, ?_, ?_, ?_, ?_, ?_, ?_, ?_, ?_, trivial⟩ ?_)
   ·
    intro w25 D hS18 hd18
    have hl25 := Le.no M hS18
    exact dg_sub (E' := [(1, (.pointer (some p1)))]) ⟨Z, trivial⟩ (dg_plain Z (ow_fieldAddr Z Z Tryd.underlying31 Z (Tryd.sizeOf3 _) ⟨BX.refl _ _, ⟨_, Z, (ARep.mono hl25 (hp1.fld fld_Test_Field))⟩⟩))
   ·
    intro w26 D hS19 hd19
    have d44 : PA RInt M a_t.Field (D 0) w26 := dpA hd19 0 Z
    obtain ⟨p7, e6, ha6⟩ := d44
    refine dg_sub (E' := [(3, (.pointer (some p7)))]) ⟨(congrArg some e6), trivial⟩ (dg_plain Z (ow_load (R := RInt) Z Z ha6 (Tryd.sizeOf3 _) (Tryd.isAgg3 _) fun v17 hv17 => ?_))
    obtain rfl := vint_eq hv17
    exact ⟨BX.refl _ _, Z⟩
   ·
    intro w27 D hS20 hd20
    have hl27 := Le.no M hS20
    have hC27 := hC1.no hS20
    refine dg_sub (E' := [(4, (.int .i64 a_t.Field))]) ⟨(dpE hd20 1 Z Z), trivial⟩ (dg_plain Z (ow_call Z Z Tryd.call70 (w_spec_l1In (hG.mono (hl1.trans hl27)) hC27.old hx1) fun v18 w28 hv18 => ?_))
    obtain ⟨hv18, hb8⟩ := hv18
    obtain rfl := vbool_eq hv18
    exact ⟨hb8, Z⟩
   ·
    intro w29 D hS21 hd21
    exact dg_sub (E' := [(5, (.bool true))]) ⟨(dpE hd21 2 Z Z), trivial⟩ (dg_plain Z (ow_move Z Z ⟨BX.refl _ _, Z⟩))
   ·
    intro w30 D hS22 hd22
    have hl30 := Le.no M hS22
    exact dg_sub (E' := [(6, (.bool true)), (1, (.pointer (some p1)))]) ⟨(dpE hd22 3 Z Z), Z, trivial⟩ (dg_on Z Z Z Z (ow_fieldAddr Z Z Tryd.underlying31 Z (Tryd.sizeOf3 _) ⟨BX.refl _ _, ⟨_, Z, (ARep.mono hl30 (hp1.fld fld_Test_Lo))⟩⟩))
   ·
    intro w31 D hS23 hd23
    have d49 : PA RInt M a_t.Lo (D 4) w31 := dpA hd23 4 Z
    obtain ⟨p8, e7, ha7⟩ := d49
    refine dg_sub (E' := [(7, (.pointer (some p8))), (6, (.bool true))]) ⟨(congrArg some e7), (dpE hd23 3 Z Z), trivial⟩ (dg_on Z Z Z Z (ow_load (R := RInt) Z Z ha7 (Tryd.sizeOf3 _) (Tryd.isAgg3 _) fun v19 hv19 => ?_))
    obtain rfl := vint_eq hv19
    exact ⟨BX.refl _ _, Z⟩
   ·
    intro w32 D hS24 hd24
    have hl32 := Le.no M hS24
    exact dg_sub (E' := [(6, (.bool true)), (1, (.pointer (some p1)))]) ⟨(dpE hd24 3 Z Z), Z, trivial⟩ (dg_on Z Z Z Z (ow_fieldAddr Z Z Tryd.underlying31 Z (Tryd.sizeOf3 _) ⟨BX.refl _ _, ⟨_, Z, (ARep.mono hl32 (hp1.fld fld_Test_Hi))⟩⟩))
   ·
    intro w33 D hS25 hd25
    have d52 : PA RInt M a_t.Hi (D 6) w33 := dpA hd25 6 Z
    obtain ⟨p9, e8, ha8⟩ := d52
    refine dg_sub (E' := [(9, (.pointer (some p9))), (6, (.bool true))]) ⟨(congrArg some e8), (dpE hd25 3 Z Z), trivial⟩ (dg_on Z Z Z Z (ow_load (R := RInt) Z Z ha8 (Tryd.sizeOf3 _) (Tryd.isAgg3 _) fun v20 hv20 => ?_))
    obtain rfl := vint_eq hv20
    exact ⟨BX.refl _ _, Z⟩
   ·
    intro w34 D hS26 hd26
    have hl34 := Le.no M hS26
    have hC34 := hC1.no hS26
    refine dg_sub (E' := [(8, (.int .i64 a_t.Lo)), (10, (.int .i64 a_t.Hi)), (6, (.bool true))]) ⟨(dpE hd26 5 Z Z), (dpE hd26 7 Z Z), (dpE hd26 3 Z Z), trivial⟩ (dg_on Z Z Z Z (ow_call Z Z Tryd.call70 (w_spec_l1In (hG.mono (hl1.trans hl34)) hC34.old hx2) fun v21 w35 hv21 => ?_))
    obtain ⟨hv21, hb9⟩ := hv21
    obtain rfl := vbool_eq hv21
    exact ⟨hb9, Z⟩
   ·
    intro w36 D hS27 hd27
    exact dg_sub (E' := [(6, (.bool true)), (11, (.bool false))]) ⟨(dpE hd27 3 Z Z), (dpE hd27 8 Z Z), trivial⟩ (dg_plain Z (ow_pickT Z Z Z ⟨BX.refl _ _, Z⟩))
   ·
    intro w37 D hS28 hd28
    exact dg_sub (E' := [(12, (.bool false))]) ⟨(dpE hd28 9 Z Z), trivial⟩ (dg_plain Z (ow_move Z Z ⟨BX.refl _ _, Z⟩))
   ·
    intro w38 D hS29 hd29
    exact dg_sub (E' := [(13, (.bool false)), (1, (.pointer (some p1)))]) ⟨(dpE hd29 10 Z Z), Z, trivial⟩ (dg_off Z Z Z Z ⟨BX.refl _ _, Z⟩)
   ·
    intro w39 D hS30 hd30
    exact dg_sub (E' := [(14, undef), (13, (.bool false))]) ⟨(dpE hd30 11 Z Z), (dpE hd30 10 Z Z), trivial⟩ (dg_off Z Z Z Z ⟨BX.refl _ _, Z⟩)
   ·
    intro w40 D hS31 hd31
    exact dg_sub (E' := [(13, (.bool false)), (1, (.pointer (some p1)))]) ⟨(dpE hd31 10 Z Z), Z, trivial⟩ (dg_off Z Z Z Z ⟨BX.refl _ _, Z⟩)
   ·
    intro w41 D hS32 hd32
    exact dg_sub (E' := [(16, undef), (13, (.bool false))]) ⟨(dpE hd32 13 Z Z), (dpE hd32 10 Z Z), trivial⟩ (dg_off Z Z Z Z ⟨BX.refl _ _, Z⟩)
   ·
    intro w42 D hS33 hd33
    exact dg_sub (E' := [(17, undef), (13, (.bool false))]) ⟨(dpE hd33 14 Z Z), (dpE hd33 10 Z Z), trivial⟩ (dg_off Z Z Z Z ⟨BX.refl _ _, Z⟩)
   ·
    intro w43 D hS34 hd34
    have hC43 := hC1.no hS34
    refine lw_sub (E' := [(13, (.bool false)), (15, undef), (18, undef), (1, (.pointer (some p1))), (2, (.bool false))]) ⟨(dpE hd34 10 Z Z), (dpE hd34 12 Z Z), (dpE hd34 15 Z Z), Z, Z, trivial⟩ (lw_off Z Z Z Z Z Z (lw_op Z Z Z (ow_pickF Z Z Z (lw_op Z Z Z (ow_assign Z Z (lw_nil (ew_then (cw_ret ?_))))))))
    obtain rfl := Option.some.inj h
    exact ew_ret (res1 Z (.tmp Z)) ⟨_, Z, ((vbool _)), hC43.bx⟩
 ·
  subst hc1
  refine cw_sub (E' := [(1, (.pointer (some p1))), (2, (.bool false))]) ⟨Z, Z, trivial⟩ (cw_drawQ 16 [PA RInt M a_t.Field, PEq (.int .i64 a_t.Field), PEq (.bool false), PEq (.bool false), PEq undef, PEq undef, PEq undef, PEq undef, PEq undef, PEq (.bool false), PEq (.bool false), PEq undef, PEq undef, PEq undef, PEq undef, PEq undef] (by kernel_rfl) Z (by kernel_rfl) ⟨PA.mono _ _ _, PEq.mono _, PEq.mono _, PEq.mono _, PEq.mono _, PEq.mono _, PEq.mono _, PEq.mono _, PEq.mono _, PEq.mono _, PEq.mono _, PEq.mono _, PEq.mono _, PEq.mono _, PEq.mono _, PEq.mono _, trivial⟩ ⟨?_, ?_, ?_, ?_, ?_, ?_, ?_, ?_, ?_, ?_, ?_, ?_, ?_, ?_, ?_, ?_, trivial⟩ ?_)
  ·
   intro w44 D hS35 hd35
   have hl44 := Le.no M hS35
   exact dg_sub (E' := [(1, (.pointer (some p1)))]) ⟨Z, trivial⟩ (dg_plain Z (ow_fieldAddr Z Z Tryd.underlying31 Z (Tryd.sizeOf3 _) ⟨BX.refl _ _, ⟨_, Z, (ARep.mono hl44 (hp1.fld fld_Test_Field))⟩⟩))
  ·
   intro w45 D hS36 hd36
   have d87 : PA RInt M a_t.Field (D 0) w45 := dpA hd36 0 Z
   obtain ⟨p10, e9, ha9⟩ := d87
   refine dg_sub (E' := [(3, (.pointer (some p10)))]) ⟨(congrArg some e9), trivial⟩ (dg_plain Z (ow_load (R := RInt) Z Z ha9 (Tryd.sizeOf3 _) (Tryd.isAgg3 _) fun v22 hv22 => ?_))
   obtain rfl := vint_eq hv22
   exact ⟨BX.refl _ _, Z⟩
  ·
   intro w46 D hS37 hd37
   have hl46 := Le.no M hS37
   have hC46 := hC1.no hS37
   refine dg_sub (E' := [(4, (.int .i64 a_t.Field))]) ⟨(dpE hd37 1 Z Z), trivial⟩ (dg_plain Z (ow_call Z Z Tryd.call70 (w_spec_l1In (hG.mono (hl1.trans hl46)) hC46.old hx1) fun v23 w47 hv23 => ?_))
   obtain ⟨hv23, hb10⟩ := hv23
   obtain rfl := vbool_eq hv23
   exact ⟨hb10, Z⟩
  ·
   intro w48 D hS38 hd38
   exact dg_sub (E' := [(5, (.bool false))]) ⟨(dpE hd38 2 Z Z), trivial⟩ (dg_plain Z (ow_move Z Z ⟨BX.refl _ _, Z⟩))
  ·
   intro w49 D hS39 hd39
   exact dg_sub (E' := [(6, (.bool false)), (1, (.pointer (some p1)))]) ⟨(dpE hd39 3 Z Z), Z, trivial⟩ (dg_off Z Z Z Z ⟨BX.refl _ _, Z⟩)
  ·
   intro w50 D hS40 hd40
   exact dg_sub (E' := [(7, undef), (6, (.bool false))]) ⟨(dpE hd40 4 Z Z), (dpE hd40 3 Z Z), trivial⟩ (dg_off Z Z Z Z ⟨BX.refl _ _, Z⟩)
  ·
   intro w51 D hS41 hd41
   exact dg_sub (E' := [(6, (.bool false)), (1, (.pointer (some p1)))]) ⟨(dpE hd41 3 Z Z), Z, trivial⟩ (dg_off Z Z Z Z ⟨BX.refl _ _, Z⟩)
  ·
   intro w52 D hS42 hd42
   exact dg_sub (E' := [(9, undef), (6, (.bool false))]) ⟨(dpE hd42 6 Z Z), (dpE hd42 3 Z Z), trivial⟩ (dg_off Z Z Z Z ⟨BX.refl _ _, Z⟩)
  ·
   intro w53 D hS43 hd43
   exact dg_sub (E' := [(8, undef), (10, undef), (6, (.bool false))]) ⟨(dpE hd43 5 Z Z), (dpE hd43 7 Z Z), (dpE hd43 3 Z Z), trivial⟩ (dg_off Z Z Z Z ⟨BX.refl _ _, Z⟩)
  ·
   intro w54 D hS44 hd44
   exact dg_sub (E' := [(6, (.bool false)), (11, undef)]) ⟨(dpE hd44 3 Z Z), (dpE hd44 8 Z Z), trivial⟩ (dg_plain Z (ow_pickF Z Z Z ⟨BX.refl _ _, Z⟩))
  ·
   intro w55 D hS45 hd45
   exact dg_sub (E' := [(12, (.bool false))]) ⟨(dpE hd45 9 Z Z), trivial⟩ (dg_plain Z (ow_move Z Z ⟨BX.refl _ _, Z⟩))
  ·
   intro w56 D hS46 hd46
   exact dg_sub (E' := [(13, (.bool false)), (1, (.pointer (some p1)))]) ⟨(dpE hd46 10 Z Z), Z, trivial⟩ (dg_off Z Z Z Z ⟨BX.refl _ _, Z⟩)
  ·
   intro w57 D hS47 hd47
   exact dg_sub (E' := [(14, undef), (13, (.bool false))]) ⟨(dpE hd47 11 Z Z), (dpE hd47 10 Z Z), trivial⟩ (dg_off Z Z Z Z ⟨BX.refl _ _, Z⟩)
  ·
   intro w58 D hS48 hd48
   exact dg_sub (E' := [(13, (.bool false)), (1, (.pointer (some p1)))]) ⟨(dpE hd48 10 Z Z), Z, trivial⟩ (dg_off Z Z Z Z ⟨BX.refl _ _, Z⟩)
  ·
   intro w59 D hS49 hd49
   exact dg_sub (E' := [(16, undef), (13, (.bool false))]) ⟨(dpE hd49 13 Z Z), (dpE hd49 10 Z Z), trivial⟩ (dg_off Z Z Z Z ⟨BX.refl _ _, Z⟩)
  ·
   intro w60 D hS50 hd50
   exact dg_sub (E' := [(17, undef), (13, (.bool false))]) ⟨(dpE hd50 14 Z Z), (dpE hd50 10 Z Z), trivial⟩ (dg_off Z Z Z Z ⟨BX.refl _ _, Z⟩)
  ·
   intro w61 D hS51 hd51
   have hC61 := hC1.no hS51
   refine lw_sub (E' := [(13, (.bool false)), (15, undef), (18, undef), (1, (.pointer (some p1))), (2, (.bool false))]) ⟨(dpE hd51 10 Z Z), (dpE hd51 12 Z Z), (dpE hd51 15 Z Z), Z, Z, trivial⟩ (lw_off Z Z Z Z Z Z (lw_op Z Z Z (ow_pickF Z Z Z (lw_op Z Z Z (ow_assign Z Z (lw_nil (ew_then (cw_ret ?_))))))))
   obtain rfl := Option.some.inj h
   exact ew_ret (res1 Z (.tmp Z)) ⟨_, Z, ((vbool _)), hC61.bx⟩

theorem w_spec_l20Near {w : World} {M : Nat → Prop} (hG : ARep (RArr 4 RShape) w M shapes ⟨0, 0, none⟩) (hO : ∀ b, M b → b < w.heap.size) {g : Nat} {Ax : Option Addr} {cx : Nat} {a_xs : List Int} {a_pos : Int} (hxs : VRep (RSlice RU8) w M a_xs (.slice Ax a_xs.length cx)) (hown : Own w g 111 #[.slice Ax a_xs.length cx, .int .i64 a_pos]) (hgM : M g) {v1p : Value} {a_list : List Test} (h1 : VRep (RSlice RTest) w M a_list v1p) {a_n : Int} {r : Packet × Int} (h : F.spec_l20Near a_xs a_pos a_list a_n = some r) :
  Calls Tryd.prog 61 [(.pointer (some ⟨g, 0, none⟩)), v1p, (.int .i64 a_n)].toArray w fun e w' => ∃ v, e = .returned v ∧ (VRep RPacket w' M r.1 v ∧ Own w' g 111 #[.slice Ax a_xs.length cx, .int .i64 r.2]) ∧ BX (One g) w w' := by
 have hX : ∀ b, (One g) b → M b := fun b e => e ▸ hgM
 have hC : Cx (One g) w M w M := Cx.start hO hX
 refine walk (N := 85) Tryd.func61 Z Tryd.ntmps61 Z (cw_seq (cw_region (lw_op Z Z Z (ow_alloc Z (Tryd.zeroValue38 _) hC fun g1 w1 hg1 hg2 ho1 hb1 hl1 hC1 => ?_))))
 have hn1 := Nat.ne_of_lt (Nat.lt_of_lt_of_le hown.lt hg1)
 have ho2 := hown.no hb1
 have hm1 : (Add g1 M) g := .inr hgM
 have hm2 : (Add g1 M) g1 := .inl Z
 refine lw_nil (ew_then (cw_seq (cw_region (lw_op Z Z Z (ow_move Z Z (lw_op Z Z Z (ow_move Z Z ?_)))))))
 replace h := bind_some h
 obtain ⟨x1, hx1, h⟩ := h
 refine lw_op Z Z Z (ow_call Z Z Tryd.call90 (w_spec_l20Packet (hG.mono hl1) hC1.old (VRep.mono hl1 hxs) ho2 hm1 hx1) fun v1 w2 hv1 => ?_)
 obtain ⟨⟨hv1, ho3⟩, hb2⟩ := hv1
 have hl2 := Le.of_bx (Add g1 M) hb2 (fun b e => (by rw [show b = g from e]; exact hm1))
 have hC2 := hC1.go hb2 (fun b e => Or.inr e)
 have ho4 := ho1.go hb2 (fun e => hn1 e.symm)
 refine lw_op Z Z Z (ow_alloc Z (Tryd.zeroValue38 _) hC2 fun g2 w3 hg3 hg4 ho5 hb3 hl3 hC3 => ?_)
 have hn2 := Nat.ne_of_lt (Nat.lt_of_lt_of_le ho3.lt hg3)
 have ho6 := ho3.no hb3
 have hm3 : (Add g2 (Add g1 M)) g := .inr hm1
 have hn3 := Nat.ne_of_lt (Nat.lt_of_lt_of_le ho4.lt hg3)
 have ho7 := ho4.no hb3
 have hm4 : (Add g2 (Add g1 M)) g1 := .inr hm2
 have hm5 : (Add g2 (Add g1 M)) g2 := .inl Z
 obtain rfl := open_Packet hv1
 refine lw_op0 Z Z (ow_store (X := (One g)) (us := [(.int .i64 x1.1.From), (.int .i64 x1.1.To), (.int .i64 x1.1.Port), (.int .i64 x1.1.Proto)]) (cs' := #[(.int .i64 x1.1.From), (.int .i64 x1.1.To), (.int .i64 x1.1.Port), (.int .i64 x1.1.Proto)]) Z Z Z Z ho5 (Tryd.sizeOf38 _) Z Z Z Z hm5 (.inl hg4) Z hC3 fun w4 ho8 hb4 hl4 hC4 => ?_)
 have ho9 := ho6.go hb4 (fun e => hn2 e)
 have ho10 := ho7.go hb4 (fun e => hn3 e)
 refine lw_nil (ew_then (cw_seq (cw_seq (cw_region (lw_op Z Z Z (ow_assign Z Z (lw_nil (ew_then ?_))))))))
 replace h := bind_some h
 obtain ⟨lr1, hlr1, h⟩ := h
 refine cw_for hlr1 (fun s a w' => ∃ (M' : Nat → Prop), Fits 85 [(0, (.pointer (some ⟨g, 0, none⟩))), (1, v1p), (6, (.pointer (some ⟨g1, 0, none⟩))), (7, (.pointer (some ⟨g2, 0, none⟩))), (8, (.int .i64 s.1))] a ∧ Le w4 (Add g2 (Add g1 M)) w' M' ∧ Cx (One g) w M w' M' ∧ Own w' g 111 #[(.slice Ax a_xs.length cx), (.int .i64 s.2.1)] ∧ M' g ∧ Own w' g1 38 #[(.int .i64 0), (.int .i64 0), (.int .i64 0), (.int .i64 0)] ∧ M' g1 ∧ Own w' g2 38 #[(.int .i64 s.2.2.1), (.int .i64 s.2.2.2.1), (.int .i64 s.2.2.2.2.1), (.int .i64 s.2.2.2.2.2)] ∧ M' g2) ?_ ?_ ?_
 ·
  intro a ha
  exact ⟨(Add g2 (Add g1 M)), ha.sub ⟨Z, Z, Z, Z, Z, trivial⟩, Le.refl _ _, hC4, ho9, hm3, ho10, hm4, ho8, hm5⟩
 ·
  rintro ⟨k1, k2, k3, k4, k5, k6⟩ a w5 sr1 ⟨M1, hF1, hl5, hC5, ho11, hm6, ho12, hm7, ho13, hm8⟩ hb5 hR1
  refine cw_at (E := [(0, (.pointer (some ⟨g, 0, none⟩))), (1, v1p), (6, (.pointer (some ⟨g1, 0, none⟩))), (7, (.pointer (some ⟨g2, 0, none⟩))), (8, (.int .i64 k1))]) hF1 (cw_seq (cw_seq (cw_region (lw_op Z Z Z (ow_move Z Z (lw_op Z Z Z (ow_move Z Z ?_)))))))
  have lz1 := ((((hl1.trans hl2).trans hl3).trans hl4).trans hl5)
  refine lw_op Z Z Z (ow_len Z Z (VRep.mono lz1 h1) Tryd.underlying27 Z (lw_op Z Z Z (ow_lss Z Z Z fun bb1 hbb1 => lw_nil (ew_then ?_))))
  replace hb5 := cond_some hb5
  rcases hb5 with ⟨hc1, hb5⟩ | ⟨hc1, hb5⟩
  ·
   obtain rfl := hbb1.trans hc1
   refine cw_true Z (cw_skip (ew_then (cw_seq (cw_block (cw_seq (cw_seq (cw_region (lw_op Z Z Z (ow_move Z Z (lw_op Z Z Z (ow_move Z Z ?_)))))))))))
   replace hb5 := bind_some hb5
   obtain ⟨x2, hx2, hb5⟩ := hb5
   refine lw_op Z Z Z (ow_indexSlice (R := RTest) Z Z Z (VRep.mono lz1 h1) Tryd.underlying27 (Tryd.sizeOf31 _) hx2 fun p1 hp1 => lw_op Z Z Z (ow_load (R := RTest) Z Z hp1 (Tryd.sizeOf31 _) (Tryd.isAgg31 _) fun v8 hv8 => ?_))
   replace hb5 := bind_some hb5
   obtain ⟨x3, hx3, hb5⟩ := hb5
   refine lw_op Z Z Z (ow_call Z Z Tryd.call91 (w_spec_TestValid (hG.mono lz1) hC5.old hv8 hx3) fun v9 w6 hv9 => ?_)
   obtain ⟨hv9, hb6⟩ := hv9
   have hl6 := Le.no M1 hb6
   have hC6 := hC5.no hb6
   have ho14 := ho11.no hb6
   have ho15 := ho12.no hb6
   have ho16 := ho13.no hb6
   obtain rfl := vbool_eq hv9
   refine lw_op Z Z Z (ow_not Z Z (lw_op Z Z Z (ow_move Z Z ?_)))
   replace hb5 := cond_some hb5
   rcases hb5 with ⟨hc2, hb5⟩ | ⟨hc2, hb5⟩
   ·
    subst hc2
    refine lw_on Z Z Z Z Z Z (ow_move Z Z ?_)
    replace hb5 := bind_some hb5
    obtain ⟨x4, hx4, hb5⟩ := hb5
    refine lw_on Z Z Z Z Z Z (ow_call Z Z Tryd.call60 (w_spec_l20Rd_pick (hG.mono (lz1.trans hl6)) hC6.old (VRep.mono (lz1.trans hl6) hxs) ho14 hm6 hx4) fun v10 w7 hv10 => ?_)
    obtain ⟨⟨hv10, ho17⟩, hb7⟩ := hv10
    have hl7 := Le.of_bx M1 hb7 (fun b e => (by rw [show b = g from e]; exact hm6))
    have hC7 := hC6.go hb7 (fun b e => Or.inr e)
    have ho18 := ho15.go hb7 (fun e => hn1 e.symm)
    have ho19 := ho16.go hb7 (fun e => hn2 e.symm)
    obtain rfl := vint_eq hv10
    refine lw_on Z Z Z Z Z Z (ow_eqlI Z Z Z fun bb2 hbb2 => lw_op Z Z Z (ow_pickF Z Z Z (lw_nil (ew_then ?_))))
    replace hb5 := cond_some hb5
    rcases hb5 with ⟨hc3, hb5⟩ | ⟨hc3, hb5⟩
    ·
     obtain rfl := hbb2.trans hc3
     refine cw_true Z (cw_exit (ew_thenX (ew_blockX (ew_then (cw_region (lw_op Z Z Z (ow_move Z Z (lw_op Z Z Z (ow_add Z Z Z (lw_op Z Z Z (ow_assign Z Z (lw_nil ?_))))))))))))
     have lz2 := ((hl5.trans hl6).trans hl7)
     exact ew_nxt ((W (k1 + 1)), x4.2, k3, k4, k5, k6) hb5 fun a ha => ⟨M1, (ha.sub ⟨Z, Z, Z, Z, Z, trivial⟩), lz2, hC7, ho17, hm6, ho18, hm7, ho19, hm8⟩
    ·
     obtain rfl := hbb2.trans hc3
     refine cw_false Z (cw_skip (ew_then (cw_seq ?_)))
     replace hb5 := bind_some hb5
     obtain ⟨x5, hx5, hb5⟩ := hb5
     replace hb5 := bind_some hb5
     obtain ⟨x6, hx6, hb5⟩ := hb5
     have lz3 := ((lz1.trans hl6).trans hl7)
     refine cw_sub (E' := [(0, (.pointer (some ⟨g, 0, none⟩))), (1, v1p), (6, (.pointer (some ⟨g1, 0, none⟩))), (7, (.pointer (some ⟨g2, 0, none⟩))), (8, (.int .i64 k1))]) ⟨Z, Z, Z, Z, Z, trivial⟩ (cw_drawC (g := g) (T := 111) 33 1 [none, none, none, none, none, none, none, none, none, none, none, none, none, none, none, none, none, none, none, none, none, none, none, none, none, none, none, none, none, none, none, none, some 0] [#[(.slice Ax a_xs.length cx), (.int .i64 x4.2)], #[(.slice Ax a_xs.length cx), (.int .i64 x6.2)]] [PV (RSlice RTest) M1 a_list, PEq (.int .i64 k1), PA RTest M1 x2, PA RInt M1 x2.Lo, PEq (.int .i64 x2.Lo), PV (RSlice RTest) M1 a_list, PEq (.int .i64 k1), PA RTest M1 x2, PA RInt M1 x2.Hi, PEq (.int .i64 x2.Hi), PV (RSlice RTest) M1 a_list, PEq (.int .i64 k1), PA RTest M1 x2, PA RInt M1 x2.Lo, PEq (.int .i64 x2.Lo), PEq (.int .i64 (W (x2.Lo - 1))), PEq (.int .i64 (imax 0 (W (x2.Lo - 1)))), PV (RSlice RTest) M1 a_list, PEq (.int .i64 k1), PA RTest M1 x2, PA RInt M1 x2.Field, PEq (.int .i64 x2.Field), PEq (.int .i64 x5), PV (RSlice RTest) M1 a_list, PEq (.int .i64 k1), PA RTest M1 x2, PA RInt M1 x2.Hi, PEq (.int .i64 x2.Hi), PEq (.int .i64 (W (x2.Hi + 1))), PEq (.int .i64 (imin x5 (W (x2.Hi + 1)))), PV (RSlice RInt) M1 [x2.Lo, x2.Hi, (imax 0 (W (x2.Lo - 1))), (imin x5 (W (x2.Hi + 1)))], PEq (.pointer (some ⟨g, 0, none⟩)), PEq (.int .i64 x6.1)] (by kernel_rfl) Z (by kernel_rfl) (by kernel_rfl) ho17 ⟨(PV.monoY hm6 _ _), (PEq.monoY hm6 _), (PA.monoY hm6 _ _), (PA.monoY hm6 _ _), (PEq.monoY hm6 _), (PV.monoY hm6 _ _), (PEq.monoY hm6 _), (PA.monoY hm6 _ _), (PA.monoY hm6 _ _), (PEq.monoY hm6 _), (PV.monoY hm6 _ _), (PEq.monoY hm6 _), (PA.monoY hm6 _ _), (PA.monoY hm6 _ _), (PEq.monoY hm6 _), (PEq.monoY hm6 _), (PEq.monoY hm6 _), (PV.monoY hm6 _ _), (PEq.monoY hm6 _), (PA.monoY hm6 _ _), (PA.monoY hm6 _ _), (PEq.monoY hm6 _), (PEq.monoY hm6 _), (PV.monoY hm6 _ _), (PEq.monoY hm6 _), (PA.monoY hm6 _ _), (PA.monoY hm6 _ _), (PEq.monoY hm6 _), (PEq.monoY hm6 _), (PEq.monoY hm6 _), (PV.monoY hm6 _ _), (PEq.monoY hm6 _), (PEq.monoY hm6 _), trivial⟩ ⟨?_, ?_, ?_, ?_, ?_, ?_, ?_, ?_, ?_, ?_, ?_, ?_, ?_, ?_, ?_, ?_, ?_, ?_, ?_, ?_, ?_, ?_, ?_, ?_, ?_, ?_, ?_, ?_, ?_, ?_, ?_, ?_, ?_, trivial⟩ ?_)
     ·
      intro w11 D hS1 hd1
      have hl11 := leY hm6 hS1
      exact dg_sub (E' := [(1, v1p)]) ⟨Z, trivial⟩ (dg_plain Z (ow_move Z Z ⟨BX.refl _ _, (VRep.mono (lz3.trans hl11) h1)⟩))
     ·
      intro w12 D hS2 hd2
      exact dg_sub (E' := [(8, (.int .i64 k1))]) ⟨Z, trivial⟩ (dg_plain Z (ow_move Z Z ⟨BX.refl _ _, Z⟩))
     ·
      intro w13 D hS3 hd3
      have d1 : PV (RSlice RTest) M1 a_list (D 0) w13 := dpA hd3 0 Z
      generalize hq1 : (D 0) = v18 at d1
      exact dg_sub (E' := [(30, v18), (31, (.int .i64 k1))]) ⟨(congrArg some hq1), (dpE hd3 1 Z Z), trivial⟩ (dg_plain Z (ow_indexSlice (R := RTest) Z Z Z d1 Tryd.underlying27 (Tryd.sizeOf31 _) hx2 fun p8 hp8 => ⟨BX.refl _ _, ⟨_, Z, hp8⟩⟩))
     ·
      intro w14 D hS4 hd4
      have d3 : PA RTest M1 x2 (D 2) w14 := dpA hd4 2 Z
      obtain ⟨p9, e1, ha1⟩ := d3
      exact dg_sub (E' := [(32, (.pointer (some p9)))]) ⟨(congrArg some e1), trivial⟩ (dg_plain Z (ow_fieldAddr Z Z Tryd.underlying31 Z (Tryd.sizeOf3 _) ⟨BX.refl _ _, ⟨_, Z, (ha1.fld fld_Test_Lo)⟩⟩))
     ·
      intro w15 D hS5 hd5
      have d4 : PA RInt M1 x2.Lo (D 3) w15 := dpA hd5 3 Z
      obtain ⟨p10, e2, ha2⟩ := d4
      refine dg_sub (E' := [(33, (.pointer (some p10)))]) ⟨(congrArg some e2), trivial⟩ (dg_plain Z (ow_load (R := RInt) Z Z ha2 (Tryd.sizeOf3 _) (Tryd.isAgg3 _) fun v19 hv19 => ?_))
      obtain rfl := vint_eq hv19
      exact ⟨BX.refl _ _, Z⟩
     ·
      intro w16 D hS6 hd6
      have hl16 := leY hm6 hS6
      exact dg_sub (E' := [(1, v1p)]) ⟨Z, trivial⟩ (dg_plain Z (ow_move Z Z ⟨BX.refl _ _, (VRep.mono (lz3.trans hl16) h1)⟩))
     ·
      intro w17 D hS7 hd7
      exact dg_sub (E' := [(8, (.int .i64 k1))]) ⟨Z, trivial⟩ (dg_plain Z (ow_move Z Z ⟨BX.refl _ _, Z⟩))
     ·
      intro w18 D hS8 hd8
      have d5 : PV (RSlice RTest) M1 a_list (D 5) w18 := dpA hd8 5 Z
      generalize hq2 : (D 5) = v20 at d5
      exact dg_sub (E' := [(35, v20), (36, (.int .i64 k1))]) ⟨(congrArg some hq2), (dpE hd8 6 Z Z), trivial⟩ (dg_plain Z (ow_indexSlice (R := RTest) Z Z Z d5 Tryd.underlying27 (Tryd.sizeOf31 _) hx2 fun p11 hp11 => ⟨BX.refl _ _, ⟨_, Z, hp11⟩⟩))
     ·
      intro w19 D hS9 hd9
      have d7 : PA RTest M1 x2 (D 7) w19 := dpA hd9 7 Z
      obtain ⟨p12, e3, ha3⟩ := d7
      exact dg_sub (E' := [(37, (.pointer (some p12)))]) ⟨(congrArg some e3), trivial⟩ (dg_plain Z (ow_fieldAddr Z Z Tryd.underlying31 Z (Tryd.sizeOf3 _) ⟨BX.refl _ _, ⟨_, Z, (ha3.fld fld_Test_Hi)⟩⟩))
     ·
      intro w20 D hS10 hd10
      have d8 : PA RInt M1 x2.Hi (D 8) w20 := dpA hd10 8 Z
      obtain ⟨p13, e4, ha4⟩ := d8
      refine dg_sub (E' := [(38, (.pointer (some p13)))]) ⟨(congrArg some e4), trivial⟩ (dg_plain Z (ow_load (R := RInt) Z Z ha4 (Tryd.sizeOf3 _) (Tryd.isAgg3 _) fun v21 hv21 => ?_))
      obtain rfl := vint_eq hv21
      exact ⟨BX.refl _ _, Z⟩
     ·
      intro w21 D hS11 hd11
      have hl21 := leY hm6 hS11
      exact dg_sub (E' := [(1, v1p)]) ⟨Z, trivial⟩ (dg_plain Z (ow_move Z Z ⟨BX.refl _ _, (VRep.mono (lz3.trans hl21) h1)⟩))
     ·
      intro w22 D hS12 hd12
      exact dg_sub (E' := [(8, (.int .i64 k1))]) ⟨Z, trivial⟩ (dg_plain Z (ow_move Z Z ⟨BX.refl _ _, Z⟩))
     ·
      intro w23 D hS13 hd13
      have d9 : PV (RSlice RTest) M1 a_list (D 10) w23 := dpA hd13 10 Z
      generalize hq3 : (D 10) = v22 at d9
      exact dg_sub (E' := [(40, v22), (41, (.int .i64 k1))]) ⟨(congrArg some hq3), (dpE hd13 11 Z Z), trivial⟩ (dg_plain Z (ow_indexSlice (R := RTest) Z Z Z d9 Tryd.underlying27 (Tryd.sizeOf31 _) hx2 fun p14 hp14 => ⟨BX.refl _ _, ⟨_, Z, hp14⟩⟩))
     ·
      intro w24 D hS14 hd14
      have d11 : PA RTest M1 x2 (D 12) w24 := dpA hd14 12 Z
      obtain ⟨p15, e5, ha5⟩ := d11
      exact dg_sub (E' := [(42, (.pointer (some p15)))]) ⟨(congrArg some e5), trivial⟩ (dg_plain Z (ow_fieldAddr Z Z Tryd.underlying31 Z (Tryd.sizeOf3 _) ⟨BX.refl _ _, ⟨_, Z, (ha5.fld fld_Test_Lo)⟩⟩))
     ·
      intro w25 D hS15 hd15
      have d12 : PA RInt M1 x2.Lo (D 13) w25 := dpA hd15 13 Z
      obtain ⟨p16, e6, ha6⟩ := d12
      refine dg_sub (E' := [(43, (.pointer (some p16)))]) ⟨(congrArg some e6), trivial⟩ (dg_plain Z (ow_load (R := RInt) Z Z ha6 (Tryd.sizeOf3 _) (Tryd.isAgg3 _) fun v23 hv23 => ?_))
      obtain rfl := vint_eq hv23
      exact ⟨BX.refl _ _, Z⟩
     ·
      intro w26 D hS16 hd16
      exact dg_sub (E' := [(44, (.int .i64 x2.Lo))]) ⟨(dpE hd16 14 Z Z), trivial⟩ (dg_plain Z (ow_sub Z Z Z ⟨BX.refl _ _, Z⟩))
     ·
      intro w27 D hS17 hd17
      exact dg_sub (E' := [(45, (.int .i64 (W (x2.Lo - 1))))]) ⟨(dpE hd17 15 Z Z), trivial⟩ (dg_plain Z (ow_max Z Z Z ⟨BX.refl _ _, Z⟩))
     ·
      intro w28 D hS18 hd18
      have hl28 := leY hm6 hS18
      exact dg_sub (E' := [(1, v1p)]) ⟨Z, trivial⟩ (dg_plain Z (ow_move Z Z ⟨BX.refl _ _, (VRep.mono (lz3.trans hl28) h1)⟩))
     ·
      intro w29 D hS19 hd19
      exact dg_sub (E' := [(8, (.int .i64 k1))]) ⟨Z, trivial⟩ (dg_plain Z (ow_move Z Z ⟨BX.refl _ _, Z⟩))
     ·
      intro w30 D hS20 hd20
      have d15 : PV (RSlice RTest) M1 a_list (D 17) w30 := dpA hd20 17 Z
      generalize hq4 : (D 17) = v24 at d15
      exact dg_sub (E' := [(47, v24), (48, (.int .i64 k1))]) ⟨(congrArg some hq4), (dpE hd20 18 Z Z), trivial⟩ (dg_plain Z (ow_indexSlice (R := RTest) Z Z Z d15 Tryd.underlying27 (Tryd.sizeOf31 _) hx2 fun p17 hp17 => ⟨BX.refl _ _, ⟨_, Z, hp17⟩⟩))
     ·
      intro w31 D hS21 hd21
      have d17 : PA RTest M1 x2 (D 19) w31 := dpA hd21 19 Z
      obtain ⟨p18, e7, ha7⟩ := d17
      exact dg_sub (E' := [(49, (.pointer (some p18)))]) ⟨(congrArg some e7), trivial⟩ (dg_plain Z (ow_fieldAddr Z Z Tryd.underlying31 Z (Tryd.sizeOf3 _) ⟨BX.refl _ _, ⟨_, Z, (ha7.fld fld_Test_Field)⟩⟩))
     ·
      intro w32 D hS22 hd22
      have d18 : PA RInt M1 x2.Field (D 20) w32 := dpA hd22 20 Z
      obtain ⟨p19, e8, ha8⟩ := d18
      refine dg_sub (E' := [(50, (.pointer (some p19)))]) ⟨(congrArg some e8), trivial⟩ (dg_plain Z (ow_load (R := RInt) Z Z ha8 (Tryd.sizeOf3 _) (Tryd.isAgg3 _) fun v25 hv25 => ?_))
      obtain rfl := vint_eq hv25
      exact ⟨BX.refl _ _, Z⟩
     ·
      intro w33 D hS23 hd23
      have hl33 := leY hm6 hS23
      have hC33 := hC7.go hS23 (fun b e => Or.inr e)
      refine dg_sub (E' := [(51, (.int .i64 x2.Field))]) ⟨(dpE hd23 21 Z Z), trivial⟩ (dg_plain Z (ow_call Z Z Tryd.call53 (w_spec_FieldTop (hG.mono (lz3.trans hl33)) hC33.old hx5) fun v26 w34 hv26 => ?_))
      obtain ⟨hv26, hb11⟩ := hv26
      obtain rfl := vint_eq hv26
      exact ⟨hb11, Z⟩
     ·
      intro w35 D hS24 hd24
      have hl35 := leY hm6 hS24
      exact dg_sub (E' := [(1, v1p)]) ⟨Z, trivial⟩ (dg_plain Z (ow_move Z Z ⟨BX.refl _ _, (VRep.mono (lz3.trans hl35) h1)⟩))
     ·
      intro w36 D hS25 hd25
      exact dg_sub (E' := [(8, (.int .i64 k1))]) ⟨Z, trivial⟩ (dg_plain Z (ow_move Z Z ⟨BX.refl _ _, Z⟩))
     ·
      intro w37 D hS26 hd26
      have d20 : PV (RSlice RTest) M1 a_list (D 23) w37 := dpA hd26 23 Z
      generalize hq5 : (D 23) = v27 at d20
      exact dg_sub (E' := [(53, v27), (54, (.int .i64 k1))]) ⟨(congrArg some hq5), (dpE hd26 24 Z Z), trivial⟩ (dg_plain Z (ow_indexSlice (R := RTest) Z Z Z d20 Tryd.underlying27 (Tryd.sizeOf31 _) hx2 fun p20 hp20 => ⟨BX.refl _ _, ⟨_, Z, hp20⟩⟩))
     ·
      intro w38 D hS27 hd27
      have d22 : PA RTest M1 x2 (D 25) w38 := dpA hd27 25 Z
      obtain ⟨p21, e9, ha9⟩ := d22
      exact dg_sub (E' := [(55, (.pointer (some p21)))]) ⟨(congrArg some e9), trivial⟩ (dg_plain Z (ow_fieldAddr Z Z Tryd.underlying31 Z (Tryd.sizeOf3 _) ⟨BX.refl _ _, ⟨_, Z, (ha9.fld fld_Test_Hi)⟩⟩))
     ·
      intro w39 D hS28 hd28
      have d23 : PA RInt M1 x2.Hi (D 26) w39 := dpA hd28 26 Z
      obtain ⟨p22, e10, ha10⟩ := d23
      refine dg_sub (E' := [(56, (.pointer (some p22)))]) ⟨(congrArg some e10), trivial⟩ (dg_plain Z (ow_load (R := RInt) Z Z ha10 (Tryd.sizeOf3 _) (Tryd.isAgg3 _) fun v28 hv28 => ?_))
      obtain rfl := vint_eq hv28
      exact ⟨BX.refl _ _, Z⟩
     ·
      intro w40 D hS29 hd29
      exact dg_sub (E' := [(57, (.int .i64 x2.Hi))]) ⟨(dpE hd29 27 Z Z), trivial⟩ (dg_plain Z (ow_add Z Z Z ⟨BX.refl _ _, Z⟩))
     ·
      intro w41 D hS30 hd30
      exact dg_sub (E' := [(52, (.int .i64 x5)), (58, (.int .i64 (W (x2.Hi + 1))))]) ⟨(dpE hd30 22 Z Z), (dpE hd30 28 Z Z), trivial⟩ (dg_plain Z (ow_min Z Z Z ⟨BX.refl _ _, Z⟩))
     ·
      intro w42 D hS31 hd31
      have hC42 := hC7.go hS31 (fun b e => Or.inr e)
      exact dg_sub (E' := [(34, (.int .i64 x2.Lo)), (39, (.int .i64 x2.Hi)), (46, (.int .i64 (imax 0 (W (x2.Lo - 1))))), (59, (.int .i64 (imin x5 (W (x2.Hi + 1)))))]) ⟨(dpE hd31 4 Z Z), (dpE hd31 9 Z Z), (dpE hd31 16 Z Z), (dpE hd31 29 Z Z), trivial⟩ (dg_plain Z (ow_buildSlice (R := RInt) (xs := [x2.Lo, x2.Hi, (imax 0 (W (x2.Lo - 1))), (imin x5 (W (x2.Hi + 1)))]) (cs := #[(.int .i64 x2.Lo), (.int .i64 x2.Hi), (.int .i64 (imax 0 (W (x2.Lo - 1)))), (.int .i64 (imin x5 (W (x2.Hi + 1))))]) (e := 3) Z Z (by kernel_rfl) Z Z ⟨_, _, Z, (vint _).cells, _, _, Z, (vint _).cells, _, _, Z, (vint _).cells, _, _, Z, (vint _).cells, Z⟩ hC42 fun p23 w43 hw2 hb12 hl43 hC43 => ⟨hb12, hw2⟩))
     ·
      intro w44 D hS32 hd32
      exact dg_sub (E' := [(0, (.pointer (some ⟨g, 0, none⟩)))]) ⟨Z, trivial⟩ (dg_plain Z (ow_move Z Z ⟨BX.refl _ _, Z⟩))
     ·
      intro w45 D hS33 hd33
      obtain ⟨hS33, ho97⟩ := hS33
      have ho97 : Own w45 g 111 #[(.slice Ax a_xs.length cx), (.int .i64 x4.2)] := ho97
      have hl45 := leY hm6 hS33
      have hC45 := hC7.go hS33 (fun b e => Or.inr e)
      refine dg_sub (E' := [(61, (.pointer (some ⟨g, 0, none⟩)))]) ⟨(dpE hd33 31 Z Z), trivial⟩ (dg_plain Z (ow_call Z Z Tryd.call60 (w_spec_l20Rd_pick (hG.mono (lz3.trans hl45)) hC45.old (VRep.mono (lz3.trans hl45) hxs) ho97 hm6 hx6) fun v29 w46 hv29 => ?_))
      obtain ⟨⟨hv29, ho100⟩, hb13⟩ := hv29
      obtain rfl := vint_eq hv29
      exact ⟨⟨⟨hS33.trans hb13, ho100⟩, hb13⟩, Z⟩
     ·
      intro w47 D hS34 hd34
      have d63 : PV (RSlice RInt) M1 [x2.Lo, x2.Hi, (imax 0 (W (x2.Lo - 1))), (imin x5 (W (x2.Hi + 1)))] (D 30) w47 := dpA hd34 30 Z
      obtain ⟨hS34, ho103⟩ := hS34
      have ho103 : Own w47 g 111 #[(.slice Ax a_xs.length cx), (.int .i64 x6.2)] := ho103
      have hl47 := leY hm6 hS34
      have hC47 := hC7.go hS34 (fun b e => Or.inr e)
      have ho104 := ho18.go hS34 (fun e => hn1 e.symm)
      have ho105 := ho19.go hS34 (fun e => hn2 e.symm)
      generalize hq6 : (D 30) = v30 at d63
      refine lw_sub (E' := [(60, v30), (62, (.int .i64 x6.1)), (0, (.pointer (some ⟨g, 0, none⟩))), (1, v1p), (6, (.pointer (some ⟨g1, 0, none⟩))), (7, (.pointer (some ⟨g2, 0, none⟩))), (8, (.int .i64 k1))]) ⟨(congrArg some hq6), (dpE hd34 32 Z Z), Z, Z, Z, Z, Z, trivial⟩ ?_
      replace hb5 := bind_some hb5
      obtain ⟨x7, hx7, hb5⟩ := hb5
      refine lw_op Z Z Z (ow_indexSlice (R := RInt) Z Z Z d63 Tryd.underlying52 (Tryd.sizeOf3 _) hx7 fun p24 hp24 => lw_op Z Z Z (ow_load (R := RInt) Z Z hp24 (Tryd.sizeOf3 _) (Tryd.isAgg3 _) fun v31 hv31 => ?_))
      obtain rfl := vint_eq hv31
      refine lw_op Z Z Z (ow_assign Z Z (lw_nil (ew_then (cw_seq (cw_region (lw_op Z Z Z (ow_move Z Z (lw_op Z Z Z (ow_move Z Z (lw_op Z Z Z (ow_indexSlice (R := RTest) Z Z Z (VRep.mono (lz3.trans hl47) h1) Tryd.underlying27 (Tryd.sizeOf31 _) hx2 fun p25 hp25 => lw_op Z Z Z (ow_fieldAddr Z Z Tryd.underlying31 Z (Tryd.sizeOf3 _) (lw_op Z Z Z (ow_load (R := RInt) Z Z (hp25.fld fld_Test_Field) (Tryd.sizeOf3 _) (Tryd.isAgg3 _) fun v32 hv32 => ?_))))))))))))))
      obtain rfl := vint_eq hv32
      refine lw_nil (ew_then (cw_block (cw_seq (cw_region (lw_op Z Z Z (ow_eqlI Z Z Z fun bb3 hbb3 => lw_op Z Z Z (ow_assign Z Z (lw_nil (ew_then ?_)))))))))
      replace hb5 := cond_some hb5
      rcases hb5 with ⟨hc4, hb5⟩ | ⟨hc4, hb5⟩
      ·
       obtain rfl := hbb3.trans hc4
       refine cw_true Z (cw_region (lw_op Z Z Z (ow_move Z Z (lw_op Z Z Z (ow_fieldAddr Z Z Tryd.underlying38 Z (Tryd.sizeOf3 _) (lw_op0 Z Z (ow_store (X := (One g)) (us := [(.int .i64 x7)]) (cs' := #[(.int .i64 x7), (.int .i64 k4), (.int .i64 k5), (.int .i64 k6)]) Z Z Z Z ho105 (Tryd.sizeOf3 _) Z Z Z Z hm8 (.inl hg4) Z hC47 fun w48 ho106 hb14 hl48 hC48 => ?_)))))))
       have ho107 := ho103.go hb14 (fun e => hn2 e)
       have ho108 := ho104.go hb14 (fun e => hn3 e)
       refine lw_nil (ew_blockN (ew_blockN (ew_then (cw_region (lw_op Z Z Z (ow_move Z Z (lw_op Z Z Z (ow_add Z Z Z (lw_op Z Z Z (ow_assign Z Z (lw_nil ?_)))))))))))
       have lz5 := ((((hl5.trans hl6).trans hl7).trans hl47).trans hl48)
       exact ew_nxt ((W (k1 + 1)), x6.2, x7, k4, k5, k6) hb5 fun a ha => ⟨M1, (ha.sub ⟨Z, Z, Z, Z, Z, trivial⟩), lz5, hC48, ho107, hm6, ho108, hm7, ho106, hm8⟩
      ·
       obtain rfl := hbb3.trans hc4
       refine cw_false Z (cw_seq (cw_region (lw_op Z Z Z (ow_eqlI Z Z Z fun bb4 hbb4 => lw_op Z Z Z (ow_assign Z Z (lw_nil (ew_then ?_)))))))
       replace hb5 := cond_some hb5
       rcases hb5 with ⟨hc5, hb5⟩ | ⟨hc5, hb5⟩
       ·
        obtain rfl := hbb4.trans hc5
        refine cw_true Z (cw_region (lw_op Z Z Z (ow_move Z Z (lw_op Z Z Z (ow_fieldAddr Z Z Tryd.underlying38 Z (Tryd.sizeOf3 _) (lw_op0 Z Z (ow_store (X := (One g)) (us := [(.int .i64 x7)]) (cs' := #[(.int .i64 k3), (.int .i64 x7), (.int .i64 k5), (.int .i64 k6)]) Z Z Z Z ho105 (Tryd.sizeOf3 _) Z Z Z Z hm8 (.inl hg4) Z hC47 fun w49 ho109 hb15 hl49 hC49 => ?_)))))))
        have ho110 := ho103.go hb15 (fun e => hn2 e)
        have ho111 := ho104.go hb15 (fun e => hn3 e)
        refine lw_nil (ew_blockN (ew_blockN (ew_then (cw_region (lw_op Z Z Z (ow_move Z Z (lw_op Z Z Z (ow_add Z Z Z (lw_op Z Z Z (ow_assign Z Z (lw_nil ?_)))))))))))
        have lz6 := ((((hl5.trans hl6).trans hl7).trans hl47).trans hl49)
        exact ew_nxt ((W (k1 + 1)), x6.2, k3, x7, k5, k6) hb5 fun a ha => ⟨M1, (ha.sub ⟨Z, Z, Z, Z, Z, trivial⟩), lz6, hC49, ho110, hm6, ho111, hm7, ho109, hm8⟩
       ·
        obtain rfl := hbb4.trans hc5
        refine cw_false Z (cw_seq (cw_region (lw_op Z Z Z (ow_eqlI Z Z Z fun bb5 hbb5 => lw_op Z Z Z (ow_assign Z Z (lw_nil (ew_then ?_)))))))
        replace hb5 := cond_some hb5
        rcases hb5 with ⟨hc6, hb5⟩ | ⟨hc6, hb5⟩
        ·
         obtain rfl := hbb5.trans hc6
         refine cw_true Z (cw_region (lw_op Z Z Z (ow_move Z Z (lw_op Z Z Z (ow_fieldAddr Z Z Tryd.underlying38 Z (Tryd.sizeOf3 _) (lw_op0 Z Z (ow_store (X := (One g)) (us := [(.int .i64 x7)]) (cs' := #[(.int .i64 k3), (.int .i64 k4), (.int .i64 x7), (.int .i64 k6)]) Z Z Z Z ho105 (Tryd.sizeOf3 _) Z Z Z Z hm8 (.inl hg4) Z hC47 fun w50 ho112 hb16 hl50 hC50 => ?_)))))))
         have ho113 := ho103.go hb16 (fun e => hn2 e)
         have ho114 := ho104.go hb16 (fun e => hn3 e)
         refine lw_nil (ew_blockN (ew_blockN (ew_then (cw_region (lw_op Z Z Z (ow_move Z Z (lw_op Z Z Z (ow_add Z Z Z (lw_op Z Z Z (ow_assign Z Z (lw_nil ?_)))))))))))
         have lz7 := ((((hl5.trans hl6).trans hl7).trans hl47).trans hl50)
         exact ew_nxt ((W (k1 + 1)), x6.2, k3, k4, x7, k6) hb5 fun a ha => ⟨M1, (ha.sub ⟨Z, Z, Z, Z, Z, trivial⟩), lz7, hC50, ho113, hm6, ho114, hm7, ho112, hm8⟩
        ·
         obtain rfl := hbb5.trans hc6
         refine cw_false Z (cw_region (lw_op Z Z Z (ow_move Z Z (lw_op Z Z Z (ow_fieldAddr Z Z Tryd.underlying38 Z (Tryd.sizeOf3 _) (lw_op0 Z Z (ow_store (X := (One g)) (us := [(.int .i64 x7)]) (cs' := #[(.int .i64 k3), (.int .i64 k4), (.int .i64 k5), (.int .i64 x7)]) Z Z Z Z ho105 (Tryd.sizeOf3 _) Z Z Z Z hm8 (.inl hg4) Z hC47 fun w51 ho115 hb17 hl51 hC51 => ?_)))))))
         have ho116 := ho103.go hb17 (fun e => hn2 e)
         have ho117 := ho104.go hb17 (fun e => hn3 e)
         refine lw_nil (ew_blockN (ew_blockN (ew_then (cw_region (lw_op Z Z Z (ow_move Z Z (lw_op Z Z Z (ow_add Z Z Z (lw_op Z Z Z (ow_assign Z Z (lw_nil ?_)))))))))))
         have lz8 := ((((hl5.trans hl6).trans hl7).trans hl47).trans hl51)
         exact ew_nxt ((W (k1 + 1)), x6.2, k3, k4, k5, x7) hb5 fun a ha => ⟨M1, (ha.sub ⟨Z, Z, Z, Z, Z, trivial⟩), lz8, hC51, ho116, hm6, ho117, hm7, ho115, hm8⟩
   ·
    subst hc2
    exact lw_off Z Z Z Z Z Z (lw_off Z Z Z Z Z Z (lw_off Z Z Z Z Z Z (lw_op Z Z Z (ow_pickT Z Z Z (lw_nil (ew_then (cw_true Z (cw_exit (ew_thenX (ew_blockX (ew_then (cw_region (lw_op Z Z Z (ow_move Z Z (lw_op Z Z Z (ow_add Z Z Z (lw_op Z Z Z (ow_assign Z Z (lw_nil (ew_nxt ((W (k1 + 1)), k2, k3, k4, k5, k6) hb5 fun a ha => ⟨M1, (ha.sub ⟨Z, Z, Z, Z, Z, trivial⟩), (hl5.trans hl6), hC6, ho14, hm6, ho15, hm7, ho16, hm8⟩))))))))))))))))))))
  ·
   obtain rfl := hbb1.trans hc1
   exact cw_false Z (cw_exit (ew_thenX (ew_thenX (ew_blockX (ew_brk (k1, k2, k3, k4, k5, k6) hb5 fun a ha => ⟨M1, (ha.sub ⟨Z, Z, Z, Z, Z, trivial⟩), hl5, hC5, ho11, hm6, ho12, hm7, ho13, hm8⟩)))))
 ·
  rintro ⟨k7, k8, k9, k10, k11, k12⟩ a w52 hlr2 ⟨M2, hF2, hl52, hC52, ho118, hm9, ho119, hm10, ho120, hm11⟩
  subst hlr2
  refine ew_at (E := [(0, (.pointer (some ⟨g, 0, none⟩))), (1, v1p), (6, (.pointer (some ⟨g1, 0, none⟩))), (7, (.pointer (some ⟨g2, 0, none⟩))), (8, (.int .i64 k7))]) hF2 (ew_then (cw_seq (cw_region (lw_op Z Z Z (ow_loadOwnA Z Z Z ho120 (Tryd.isAgg38 _) (Tryd.sizeOf38 _) Z (lw_op0 Z Z (ow_store (X := (One g)) (us := [(.int .i64 k9), (.int .i64 k10), (.int .i64 k11), (.int .i64 k12)]) (cs' := #[(.int .i64 k9), (.int .i64 k10), (.int .i64 k11), (.int .i64 k12)]) Z Z Z Z ho119 (Tryd.sizeOf38 _) Z Z Z Z hm10 (.inl hg2) Z hC52 fun w53 ho121 hb18 hl53 hC53 => ?_)))))))
  have ho122 := ho118.go hb18 (fun e => hn1 e)
  refine lw_nil (ew_then (cw_ret ?_))
  have hw4 : VRep RPacket w53 M2 ({ From := k9, To := k10, Port := k11, Proto := k12 } : Packet) (.agg #[(.int .i64 k9), (.int .i64 k10), (.int .i64 k11), (.int .i64 k12)]) := shut_Packet
  obtain rfl := Option.some.inj h
  exact ew_ret (res1 Z (.cell Z (own_loadVarA ho121 (Tryd.isAgg38 _) (Tryd.sizeOf38 _) Z))) ⟨_, Z, ⟨(hw4.mono hC53.back), ho122⟩, hC53.bx⟩

theorem w_spec_DrawFirstFit {w : World} {M : Nat → Prop} (hG : ARep (RArr 4 RShape) w M shapes ⟨0, 0, none⟩) (hO : ∀ b, M b → b < w.heap.size) {v0p : Value} {a_code : List Int} (h0 : VRep (RSlice RU8) w M a_code v0p) {r : (List Rule) × Int × Packet} (h : F.spec_DrawFirstFit a_code = some r) :
  Calls Tryd.prog 21 [v0p].toArray w fun e w' => ∃ v, e = .returned v ∧ (∃ u0 u1 u2, v = .tuple #[u0, u1, u2] ∧ VRep (RSlice RRule) w' M r.1 u0 ∧ VRep RInt w' M r.2.1 u1 ∧ VRep RPacket w' M r.2.2 u2) ∧ BX No w w' := by
 obtain ⟨i31, hi31, hz31, hs31, hy31⟩ := info31
 have hC : Cx No w M w M := Cx.start hO (fun _ e => e.elim)
 refine walk (N := 40) Tryd.func21 Z Tryd.ntmps21 Z (cw_seq (cw_region (lw_op Z Z Z (ow_assign Z Z (lw_op Z Z Z (ow_assign Z Z (lw_op Z Z Z (ow_alloc Z (Tryd.zeroValue38 _) hC fun g1 w1 hg1 hg2 ho1 hb1 hl1 hC1 => ?_))))))))
 have hm1 : (Add g1 M) g1 := .inl Z
 refine lw_nil (ew_then (cw_seq (cw_region (lw_op Z Z Z (ow_move Z Z ?_)))))
 replace h := bind_some h
 obtain ⟨x1, hx1, h⟩ := h
 refine lw_op Z Z Z (ow_call Z Z Tryd.call47 (w_spec_l20Open (hG.mono hl1) hC1.old (VRep.mono hl1 h0) hx1) fun v1 w2 hv1 => ?_)
 obtain ⟨⟨g2, A1, c1, rfl, hg3, ho2, hw1⟩, hb2⟩ := hv1
 have hl2 := (Le.no (Add g1 M) hb2).add hg3
 have hg4 := Nat.le_trans hC1.bx.size hg3
 have hC2 := (hC1.no hb2).add ho2.lt hg4
 have hn1 := Nat.ne_of_lt (Nat.lt_of_lt_of_le ho1.lt hg3)
 have ho3 := ho1.no hb2
 have hm2 : (Add g2 (Add g1 M)) g1 := .inr hm1
 have hm3 : (Add g2 (Add g1 M)) g2 := .inl Z
 refine lw_op Z Z Z (ow_assign Z Z (lw_nil (ew_then (cw_seq (cw_region (lw_op Z Z Z (ow_move Z Z ?_)))))))
 replace h := bind_some h
 obtain ⟨x2, hx2, h⟩ := h
 refine lw_op Z Z Z (ow_call Z Z Tryd.call59 (w_spec_l20Rules (hG.mono (hl1.trans hl2)) hC2.old hw1 ho2 hm3 hx2) fun v2 w3 hv2 => ?_)
 obtain ⟨⟨hv2, ho4⟩, hb3⟩ := hv2
 have hl3 := Le.of_bx (Add g2 (Add g1 M)) hb3 (fun b e => (by rw [show b = g2 from e]; exact hm3))
 have hC3 := hC2.go hb3 (fun b e => (by rw [show b = g2 from e]; exact (.inl hg4)))
 have ho5 := ho3.go hb3 (fun e => hn1 e)
 refine lw_op Z Z Z (ow_assign Z Z (lw_nil (ew_then (cw_seq (cw_region (lw_op Z Z Z (ow_buildSlice0 (R := RTest) (e := 31) Z (by kernel_rfl) hC3 fun p1 w4 M1 hr1 hb4 hl4 hC4 hM1 hat1 => ?_)))))))
 have ho6 := ho5.no hb4
 have hm4 := hM1 _ hm2
 have ho7 := ho4.no hb4
 have hm5 := hM1 _ hm3
 refine lw_op Z Z Z (ow_assign Z Z (lw_nil (ew_then (cw_seq (cw_seq (cw_region (lw_op Z Z Z (ow_assign Z Z (lw_nil (ew_then ?_))))))))))
 replace h := bind_some h
 obtain ⟨lr1, hlr1, h⟩ := h
 refine cw_for hlr1 (fun s a w' => ∃ (M' : Nat → Prop) (v0c : Value), Fits 40 [(4, (.pointer (some ⟨g1, 0, none⟩))), (5, (.pointer (some ⟨g2, 0, none⟩))), (6, v2), (7, v0c), (8, (.int .i64 s.2.1))] a ∧ Le w4 M1 w' M' ∧ Cx No w M w' M' ∧ OwnRow RTest w.heap.size 31 w' M' s.1 v0c ∧ Own w' g1 38 #[(.int .i64 0), (.int .i64 0), (.int .i64 0), (.int .i64 0)] ∧ M' g1 ∧ Own w' g2 111 #[(.slice A1 x1.1.length c1), (.int .i64 s.2.2)] ∧ M' g2) ?_ ?_ ?_
 ·
  intro a ha
  exact ⟨M1, (.slice (some p1) 0 0), ha.sub ⟨Z, Z, Z, Z, Z, trivial⟩, Le.refl _ _, hC4, hr1, ho6, hm4, ho7, hm5⟩
 ·
  rintro ⟨y1, k1, k2⟩ a w5 sr1 ⟨M2, v3, hF1, hl5, hC5, hw2, ho8, hm6, ho9, hm7⟩ hb5 hR1
  refine cw_at (E := [(4, (.pointer (some ⟨g1, 0, none⟩))), (5, (.pointer (some ⟨g2, 0, none⟩))), (6, v2), (7, v3), (8, (.int .i64 k1))]) hF1 (cw_seq (cw_seq (cw_region (lw_op Z Z Z (ow_move Z Z (lw_op Z Z Z (ow_move Z Z (lw_op Z Z Z (ow_len Z Z (VRep.mono (hl4.trans hl5) hv2) Tryd.underlying36 Z (lw_op Z Z Z (ow_lss Z Z Z fun bb1 hbb1 => lw_nil (ew_then ?_))))))))))))
  replace hb5 := cond_some hb5
  rcases hb5 with ⟨hc1, hb5⟩ | ⟨hc1, hb5⟩
  ·
   obtain rfl := hbb1.trans hc1
   refine cw_true Z (cw_skip (ew_then (cw_seq (cw_block (cw_seq (cw_region (lw_op Z Z Z (ow_move Z Z ?_))))))))
   have lz1 := ((hl3.trans hl4).trans hl5)
   replace hb5 := bind_some hb5
   obtain ⟨x3, hx3, hb5⟩ := hb5
   have lz2 := ((((hl1.trans hl2).trans hl3).trans hl4).trans hl5)
   refine lw_op Z Z Z (ow_call Z Z Tryd.call60 (w_spec_l20Rd_pick (hG.mono lz2) hC5.old (VRep.mono lz1 hw1) ho9 hm7 hx3) fun v6 w6 hv6 => ?_)
   obtain ⟨⟨hv6, ho10⟩, hb6⟩ := hv6
   have hl6 := Le.of_bx M2 hb6 (fun b e => (by rw [show b = g2 from e]; exact hm7))
   have hC6 := hC5.go hb6 (fun b e => (by rw [show b = g2 from e]; exact (.inl hg4)))
   have ho11 := ho8.go hb6 (fun e => hn1 e)
   have hr2 := hw2.go hb6 (fun k hk e => (orow_ne hw2 ho9 (by decide)) (hk.trans (congrArg some e))) hl6 (fun _ h => h)
   obtain rfl := vint_eq hv6
   refine lw_op Z Z Z (ow_eqlI Z Z Z fun bb2 hbb2 => lw_nil (ew_then ?_))
   replace hb5 := cond_some hb5
   rcases hb5 with ⟨hc2, hb5⟩ | ⟨hc2, hb5⟩
   ·
    obtain rfl := hbb2.trans hc2
    refine cw_true Z (cw_region (lw_op Z Z Z (ow_move Z Z (lw_op Z Z Z (ow_move Z Z (lw_op Z Z Z (ow_move Z Z ?_)))))))
    replace hb5 := bind_some hb5
    obtain ⟨x4, hx4, hb5⟩ := hb5
    have lz3 := ((hl4.trans hl5).trans hl6)
    refine lw_op Z Z Z (ow_indexSlice (R := RRule) Z Z Z (VRep.mono lz3 hv2) Tryd.underlying36 (Tryd.sizeOf42 _) hx4 fun p2 hp2 => lw_op Z Z Z (ow_fieldAddr Z Z Tryd.underlying42 Z (Tryd.sizeOf27 _) (lw_op Z Z Z (ow_load (R := (RSlice RTest)) Z Z (hp2.fld fld_Rule_Tests) (Tryd.sizeOf27 _) (Tryd.isAgg27 _) fun v7 hv7 => ?_))))
    replace hb5 := bind_some hb5
    obtain ⟨z1, hz1, hb5⟩ := hb5
    refine lw_op Z Z Z (ow_append (R := RTest) Z Z Z Z Tryd.underlying27 hi31 hz31 hs31 hy31 Z Z Z Z hr2 hv7 hz1 hC6 fun v8 w7 M3 hr3 hb7 hl7 hC7 hM2 hat2 => ?_)
    have ho12 := ho11.go hb7 (fun e => (orow_ne hr2 ho11 (by decide)) e)
    have hm8 := hM2 _ hm6
    have ho13 := ho10.go hb7 (fun e => (orow_ne hr2 ho10 (by decide)) e)
    have hm9 := hM2 _ hm7
    refine lw_op Z Z Z (ow_assign Z Z (lw_nil (ew_blockN (ew_then (cw_region (lw_op Z Z Z (ow_move Z Z (lw_op Z Z Z (ow_add Z Z Z (lw_op Z Z Z (ow_assign Z Z (lw_nil ?_))))))))))))
    have lz4 := ((hl5.trans hl6).trans hl7)
    exact ew_nxt (z1, (W (k1 + 1)), x3.2) hb5 fun a ha => ⟨M3, v8, (ha.sub ⟨Z, Z, Z, Z, Z, trivial⟩), lz4, hC7, hr3, ho12, hm8, ho13, hm9⟩
   ·
    obtain rfl := hbb2.trans hc2
    exact cw_false Z (cw_skip (ew_blockN (ew_then (cw_region (lw_op Z Z Z (ow_move Z Z (lw_op Z Z Z (ow_add Z Z Z (lw_op Z Z Z (ow_assign Z Z (lw_nil (ew_nxt (y1, (W (k1 + 1)), x3.2) hb5 fun a ha => ⟨M2, v3, (ha.sub ⟨Z, Z, Z, Z, Z, trivial⟩), (hl5.trans hl6), hC6, hr2, ho11, hm6, ho10, hm7⟩))))))))))))
  ·
   obtain rfl := hbb1.trans hc1
   exact cw_false Z (cw_exit (ew_thenX (ew_thenX (ew_blockX (ew_brk (y1, k1, k2) hb5 fun a ha => ⟨M2, v3, (ha.sub ⟨Z, Z, Z, Z, Z, trivial⟩), hl5, hC5, hw2, ho8, hm6, ho9, hm7⟩)))))
 ·
  rintro ⟨y2, k3, k4⟩ a w8 hlr2 ⟨M4, v9, hF2, hl8, hC8, hw3, ho14, hm10, ho15, hm11⟩
  subst hlr2
  refine ew_at (E := [(4, (.pointer (some ⟨g1, 0, none⟩))), (5, (.pointer (some ⟨g2, 0, none⟩))), (6, v2), (7, v9), (8, (.int .i64 k3))]) hF2 (ew_then (cw_seq (cw_region (lw_op Z Z Z (ow_move Z Z (lw_op Z Z Z (ow_move Z Z ?_)))))))
  have lz5 := ((hl3.trans hl4).trans hl8)
  replace h := bind_some h
  obtain ⟨x5, hx5, h⟩ := h
  have lz6 := ((((hl1.trans hl2).trans hl3).trans hl4).trans hl8)
  refine lw_op Z Z Z (ow_call Z Z Tryd.call60 (w_spec_l20Rd_pick (hG.mono lz6) hC8.old (VRep.mono lz5 hw1) ho15 hm11 hx5) fun v12 w9 hv12 => ?_)
  obtain ⟨⟨hv12, ho16⟩, hb8⟩ := hv12
  have hl9 := Le.of_bx M4 hb8 (fun b e => (by rw [show b = g2 from e]; exact hm11))
  have hC9 := hC8.go hb8 (fun b e => (by rw [show b = g2 from e]; exact (.inl hg4)))
  have ho17 := ho14.go hb8 (fun e => hn1 e)
  have hr4 := hw3.go hb8 (fun k hk e => (orow_ne hw3 ho15 (by decide)) (hk.trans (congrArg some e))) hl9 (fun _ h => h)
  obtain rfl := vint_eq hv12
  refine lw_op Z Z Z (ow_move Z Z ?_)
  replace h := bind_some h
  obtain ⟨x6, hx6, h⟩ := h
  refine lw_op Z Z Z (ow_call Z Z Tryd.call60 (w_spec_l20Rd_pick (hG.mono (lz6.trans hl9)) hC9.old (VRep.mono (lz5.trans hl9) hw1) ho16 hm11 hx6) fun v13 w10 hv13 => ?_)
  obtain ⟨⟨hv13, ho18⟩, hb9⟩ := hv13
  have hl10 := Le.of_bx M4 hb9 (fun b e => (by rw [show b = g2 from e]; exact hm11))
  have hC10 := hC9.go hb9 (fun b e => (by rw [show b = g2 from e]; exact (.inl hg4)))
  have ho19 := ho17.go hb9 (fun e => hn1 e)
  have hr5 := hr4.go hb9 (fun k hk e => (orow_ne hr4 ho16 (by decide)) (hk.trans (congrArg some e))) hl10 (fun _ h => h)
  obtain rfl := vint_eq hv13
  refine lw_op Z Z Z (ow_quo Z Z Z (by decide) (lw_op Z Z Z (ow_sub Z Z Z (lw_op Z Z Z (ow_move Z Z (lw_op Z Z Z (ow_move Z Z ?_)))))))
  have hw4 := hr5.freezeDel
  have hC11 := hr5.cxDel hC10 (fun _ e => e.elim) hO
  have hl11 := Le.del w10 M4 v9
  have hm12 : (Del v9 M4) g1 := ⟨hm10, fun e => (orow_ne hr5 ho19 (by decide)) e⟩
  have hm13 : (Del v9 M4) g2 := ⟨hm11, fun e => (orow_ne hr5 ho18 (by decide)) e⟩
  have lz7 := (((lz5.trans hl9).trans hl10).trans hl11)
  replace h := bind_some h
  obtain ⟨x7, hx7, h⟩ := h
  have lz8 := (((lz6.trans hl9).trans hl10).trans hl11)
  refine lw_op Z Z Z (ow_call Z Z Tryd.call61 (w_spec_l20Near (hG.mono lz8) hC11.old (VRep.mono lz7 hw1) ho18 hm13 hw4 hx7) fun v14 w11 hv14 => ?_)
  obtain ⟨⟨hv14, ho20⟩, hb10⟩ := hv14
  have hl12 := Le.of_bx (Del v9 M4) hb10 (fun b e => (by rw [show b = g2 from e]; exact hm13))
  have hC12 := hC11.go hb10 (fun b e => (by rw [show b = g2 from e]; exact (.inl hg4)))
  have ho21 := ho19.go hb10 (fun e => hn1 e)
  refine lw_op Z Z Z (ow_assign Z Z (lw_op Z Z Z (ow_assign Z Z ?_)))
  obtain rfl := open_Packet hv14
  refine lw_op0 Z Z (ow_store (X := No) (us := [(.int .i64 x7.1.From), (.int .i64 x7.1.To), (.int .i64 x7.1.Port), (.int .i64 x7.1.Proto)]) (cs' := #[(.int .i64 x7.1.From), (.int .i64 x7.1.To), (.int .i64 x7.1.Port), (.int .i64 x7.1.Proto)]) Z Z Z Z ho21 (Tryd.sizeOf38 _) Z Z Z Z hm12 (.inl hg2) Z hC12 fun w12 ho22 hb11 hl13 hC13 => lw_nil (ew_then (cw_ret ?_)))
  have hw5 : VRep RPacket w12 (Del v9 M4) ({ From := x7.1.From, To := x7.1.To, Port := x7.1.Port, Proto := x7.1.Proto } : Packet) (.agg #[(.int .i64 x7.1.From), (.int .i64 x7.1.To), (.int .i64 x7.1.Port), (.int .i64 x7.1.Proto)]) := shut_Packet
  obtain rfl := Option.some.inj h
  have lz9 := ((((((hl4.trans hl8).trans hl9).trans hl10).trans hl11).trans hl12).trans hl13)
  exact ew_ret (res3 Z (.tmp Z) (.tmp Z) (.cell Z (own_loadVarA ho22 (Tryd.isAgg38 _) (Tryd.sizeOf38 _) Z))) ⟨_, Z, ⟨_, _, _, Z, (VRep.mono hC13.back (VRep.mono lz9 hv2)), ((vint _)), (hw5.mono hC13.back)⟩, hC13.bx⟩

theorem w_impl_FieldTop {w : World} {M : Nat → Prop} (hG : ARep (RArr 4 RShape) w M shapes ⟨0, 0, none⟩) (hO : ∀ b, M b → b < w.heap.size) {a_n : Int} {r : Int} (h : F.impl_FieldTop a_n = some r) :
  Calls Tryd.prog 83 [(.int .i64 a_n)].toArray w fun e w' => ∃ v, e = .returned v ∧ VRep RInt w' M r v ∧ BX No w w' := by
 have hC : Cx No w M w M := Cx.start hO (fun _ e => e.elim)
 refine walk (N := 13) Tryd.func83 Z Tryd.ntmps83 Z (cw_seq (cw_region (lw_op Z Z Z (ow_assign Z Z (lw_nil (ew_then (cw_seq (cw_seq (cw_region (lw_op Z Z Z (ow_move Z Z (lw_op Z Z Z (ow_lss Z Z Z fun bb1 hbb1 => lw_op Z Z Z (ow_move Z Z ?_))))))))))))))
 replace h := cond_some h
 rcases h with ⟨hc1, h⟩ | ⟨hc1, h⟩
 ·
  obtain rfl := hbb1.trans hc1
  refine lw_off Z Z Z Z Z Z (lw_off Z Z Z Z Z Z (lw_op Z Z Z (ow_pickT Z Z Z (lw_nil (ew_then (cw_true Z (cw_seq (cw_region (lw_op Z Z Z (ow_assign Z Z (lw_nil (ew_then (cw_ret (ew_thenR ?_))))))))))))))
  obtain rfl := Option.some.inj h
  exact ew_ret (res1 Z (.tmp Z)) ⟨_, Z, ((vint _)), hC.bx⟩
 ·
  obtain rfl := hbb1.trans hc1
  refine lw_on Z Z Z Z Z Z (ow_move Z Z (lw_on Z Z Z Z Z Z (ow_geq Z Z Z fun bb2 hbb2 => lw_op Z Z Z (ow_pickF Z Z Z (lw_nil (ew_then ?_))))))
  replace h := cond_some h
  rcases h with ⟨hc2, h⟩ | ⟨hc2, h⟩
  ·
   obtain rfl := hbb2.trans hc2
   refine cw_true Z (cw_seq (cw_region (lw_op Z Z Z (ow_assign Z Z (lw_nil (ew_then (cw_ret (ew_thenR ?_))))))))
   obtain rfl := Option.some.inj h
   exact ew_ret (res1 Z (.tmp Z)) ⟨_, Z, ((vint _)), hC.bx⟩
  ·
   obtain rfl := hbb2.trans hc2
   refine cw_false Z (cw_skip (ew_then (cw_seq (cw_region (lw_op Z Z Z (ow_move Z Z ?_))))))
   replace h := bind_some h
   obtain ⟨x1, hx1, h⟩ := h
   refine lw_op Z Z Z (ow_indexArr (R := RShape) Z Z Z hG Tryd.underlying77 (Tryd.sizeOf76 _) hx1 fun p1 hp1 => lw_op Z Z Z (ow_fieldAddr Z Z Tryd.underlying76 Z (Tryd.sizeOf3 _) (lw_op Z Z Z (ow_load (R := RInt) Z Z (hp1.fld fld_Shape_top) (Tryd.sizeOf3 _) (Tryd.isAgg3 _) fun v1 hv1 => ?_))))
   obtain rfl := vint_eq hv1
   refine lw_op Z Z Z (ow_assign Z Z (lw_nil (ew_then (cw_ret ?_))))
   obtain rfl := Option.some.inj h
   exact ew_ret (res1 Z (.tmp Z)) ⟨_, Z, ((vint _)), hC.bx⟩

theorem w_impl_TestValid {w : World} {M : Nat → Prop} (hG : ARep (RArr 4 RShape) w M shapes ⟨0, 0, none⟩) (hO : ∀ b, M b → b < w.heap.size) {v0p : Value} {a_t : Test} (h0 : VRep RTest w M a_t v0p) {r : Bool} (h : F.impl_TestValid a_t = some r) :
  Calls Tryd.prog 85 [v0p].toArray w fun e w' => ∃ v, e = .returned v ∧ VRep RBool w' M r v ∧ BX No w w' := by
 have hC : Cx No w M w M := Cx.start hO (fun _ e => e.elim)
 refine walk (N := 31) Tryd.func85 Z Tryd.ntmps85 Z (cw_seq (cw_region (lw_op Z Z Z (ow_box (R := RTest) Z Z h0 hC fun p1 w1 hp1 hb1 hl1 hC1 => lw_op Z Z Z (ow_assign Z Z (lw_nil (ew_then (cw_seq ?_))))))))
 replace h := cond_some h
 rcases h with ⟨hc1, h⟩ | ⟨hc1, h⟩
 ·
  replace h := cond_some h
  rcases h with ⟨hc2, h⟩ | ⟨hc2, h⟩
  ·
   replace h := cond_some h
   rcases h with ⟨hc3, h⟩ | ⟨hc3, h⟩
   ·
    replace h := cond_some h
    rcases h with ⟨hc4, h⟩ | ⟨hc4, h⟩
    ·
     replace h := bind_some h
     obtain ⟨x1, hx1, h⟩ := h
     refine cw_sub (E' := [(1, (.pointer (some p1))), (2, (.bool false))]) ⟨Z, Z, trivial⟩ (cw_drawQ 26 [PA RInt M a_t.Field, PEq (.int .i64 a_t.Field), PEq (.bool true), PEq (.bool true), PA RInt M a_t.Field, PEq (.int .i64 a_t.Field), PEq (.bool true), PEq (.bool true), PEq (.bool true), PA RInt M a_t.Lo, PEq (.int .i64 a_t.Lo), PEq (.bool true), PEq (.bool true), PEq (.bool true), PA RInt M a_t.Lo, PEq (.int .i64 a_t.Lo), PA RInt M a_t.Hi, PEq (.int .i64 a_t.Hi), PEq (.bool true), PEq (.bool true), PEq (.bool true), PA RInt M a_t.Hi, PEq (.int .i64 a_t.Hi), PA RInt M a_t.Field, PEq (.int .i64 a_t.Field), PEq (.int .i64 x1)] (by kernel_rfl) Z (by kernel_rfl) ⟨PA.mono _ _ _, PEq.mono _, PEq.mono _, PEq.mono _, PA.mono _ _ _, PEq.mono _, PEq.mono _, PEq.mono _, PEq.mono _, PA.mono _ _ _, PEq.mono _, PEq.mono _, PEq.mono _, PEq.mono _, PA.mono _ _ _, PEq.mono _, PA.mono _ _ _, PEq.mono _, PEq.mono _, PEq.mono _, PEq.mono _, PA.mono _ _ _, PEq.mono _, PA.mono _ _ _, PEq.mono _, PEq.mono _, trivial⟩ ⟨?_, ?_, ?_, ?_, ?_, ?_, ?_, ?_, ?_, ?_, ?_, ?_, ?_, ?_, ?_, ?_, ?_, ?_, ?_, ?_, ?_, ?_, ?_, ?_, ?_, ?_, trivial⟩ ?_)
     ·
      intro w3 D hS1 hd1
      have hl3 := Le.no M hS1
      exact dg_sub (E' := [(1, (.pointer (some p1)))]) ⟨Z, trivial⟩ (dg_plain Z (ow_fieldAddr Z Z Tryd.underlying31 Z (Tryd.sizeOf3 _) ⟨BX.refl _ _, ⟨_, Z, (ARep.mono hl3 (hp1.fld fld_Test_Field))⟩⟩))
     ·
      intro w4 D hS2 hd2
      have d1 : PA RInt M a_t.Field (D 0) w4 := dpA hd2 0 Z
      obtain ⟨p2, e1, ha1⟩ := d1
      refine dg_sub (E' := [(3, (.pointer (some p2)))]) ⟨(congrArg some e1), trivial⟩ (dg_plain Z (ow_load (R := RInt) Z Z ha1 (Tryd.sizeOf3 _) (Tryd.isAgg3 _) fun v9 hv9 => ?_))
      obtain rfl := vint_eq hv9
      exact ⟨BX.refl _ _, Z⟩
     ·
      intro w5 D hS3 hd3
      refine dg_sub (E' := [(4, (.int .i64 a_t.Field))]) ⟨(dpE hd3 1 Z Z), trivial⟩ (dg_plain Z (ow_geq Z Z Z fun bb5 hbb5 => ?_))
      obtain rfl := hbb5.trans hc1
      exact ⟨BX.refl _ _, Z⟩
     ·
      intro w6 D hS4 hd4
      exact dg_sub (E' := [(5, (.bool true))]) ⟨(dpE hd4 2 Z Z), trivial⟩ (dg_plain Z (ow_move Z Z ⟨BX.refl _ _, Z⟩))
     ·
      intro w7 D hS5 hd5
      have hl7 := Le.no M hS5
      exact dg_sub (E' := [(6, (.bool true)), (1, (.pointer (some p1)))]) ⟨(dpE hd5 3 Z Z), Z, trivial⟩ (dg_on Z Z Z Z (ow_fieldAddr Z Z Tryd.underlying31 Z (Tryd.sizeOf3 _) ⟨BX.refl _ _, ⟨_, Z, (ARep.mono hl7 (hp1.fld fld_Test_Field))⟩⟩))
     ·
      intro w8 D hS6 hd6
      have d5 : PA RInt M a_t.Field (D 4) w8 := dpA hd6 4 Z
      obtain ⟨p3, e2, ha2⟩ := d5
      refine dg_sub (E' := [(7, (.pointer (some p3))), (6, (.bool true))]) ⟨(congrArg some e2), (dpE hd6 3 Z Z), trivial⟩ (dg_on Z Z Z Z (ow_load (R := RInt) Z Z ha2 (Tryd.sizeOf3 _) (Tryd.isAgg3 _) fun v10 hv10 => ?_))
      obtain rfl := vint_eq hv10
      exact ⟨BX.refl _ _, Z⟩
     ·
      intro w9 D hS7 hd7
      refine dg_sub (E' := [(8, (.int .i64 a_t.Field)), (6, (.bool true))]) ⟨(dpE hd7 5 Z Z), (dpE hd7 3 Z Z), trivial⟩ (dg_on Z Z Z Z (ow_lss Z Z Z fun bb6 hbb6 => ?_))
      obtain rfl := hbb6.trans hc2
      exact ⟨BX.refl _ _, Z⟩
     ·
      intro w10 D hS8 hd8
      exact dg_sub (E' := [(6, (.bool true)), (9, (.bool true))]) ⟨(dpE hd8 3 Z Z), (dpE hd8 6 Z Z), trivial⟩ (dg_plain Z (ow_pickT Z Z Z ⟨BX.refl _ _, Z⟩))
     ·
      intro w11 D hS9 hd9
      exact dg_sub (E' := [(10, (.bool true))]) ⟨(dpE hd9 7 Z Z), trivial⟩ (dg_plain Z (ow_move Z Z ⟨BX.refl _ _, Z⟩))
     ·
      intro w12 D hS10 hd10
      have hl12 := Le.no M hS10
      exact dg_sub (E' := [(11, (.bool true)), (1, (.pointer (some p1)))]) ⟨(dpE hd10 8 Z Z), Z, trivial⟩ (dg_on Z Z Z Z (ow_fieldAddr Z Z Tryd.underlying31 Z (Tryd.sizeOf3 _) ⟨BX.refl _ _, ⟨_, Z, (ARep.mono hl12 (hp1.fld fld_Test_Lo))⟩⟩))
     ·
      intro w13 D hS11 hd11
      have d14 : PA RInt M a_t.Lo (D 9) w13 := dpA hd11 9 Z
      obtain ⟨p4, e3, ha3⟩ := d14
      refine dg_sub (E' := [(12, (.pointer (some p4))), (11, (.bool true))]) ⟨(congrArg some e3), (dpE hd11 8 Z Z), trivial⟩ (dg_on Z Z Z Z (ow_load (R := RInt) Z Z ha3 (Tryd.sizeOf3 _) (Tryd.isAgg3 _) fun v11 hv11 => ?_))
      obtain rfl := vint_eq hv11
      exact ⟨BX.refl _ _, Z⟩
     ·
      intro w14 D hS12 hd12
      refine dg_sub (E' := [(13, (.int .i64 a_t.Lo)), (11, (.bool true))]) ⟨(dpE hd12 10 Z Z), (dpE hd12 8 Z Z), trivial⟩ (dg_on Z Z Z Z (ow_geq Z Z Z fun bb7 hbb7 => ?_))
      obtain rfl := hbb7.trans hc3
      exact ⟨BX.refl _ _, Z⟩
     ·
      intro w15 D hS13 hd13
      exact dg_sub (E' := [(11, (.bool true)), (14, (.bool true))]) ⟨(dpE hd13 8 Z Z), (dpE hd13 11 Z Z), trivial⟩ (dg_plain Z (ow_pickT Z Z Z ⟨BX.refl _ _, Z⟩))
     ·
      intro w16 D hS14 hd14
      exact dg_sub (E' := [(15, (.bool true))]) ⟨(dpE hd14 12 Z Z), trivial⟩ (dg_plain Z (ow_move Z Z ⟨BX.refl _ _, Z⟩))
     ·
      intro w17 D hS15 hd15
      have hl17 := Le.no M hS15
      exact dg_sub (E' := [(16, (.bool true)), (1, (.pointer (some p1)))]) ⟨(dpE hd15 13 Z Z), Z, trivial⟩ (dg_on Z Z Z Z (ow_fieldAddr Z Z Tryd.underlying31 Z (Tryd.sizeOf3 _) ⟨BX.refl _ _, ⟨_, Z, (ARep.mono hl17 (hp1.fld fld_Test_Lo))⟩⟩))
     ·
      intro w18 D hS16 hd16
      have d23 : PA RInt M a_t.Lo (D 14) w18 := dpA hd16 14 Z
      obtain ⟨p5, e4, ha4⟩ := d23
      refine dg_sub (E' := [(17, (.pointer (some p5))), (16, (.bool true))]) ⟨(congrArg some e4), (dpE hd16 13 Z Z), trivial⟩ (dg_on Z Z Z Z (ow_load (R := RInt) Z Z ha4 (Tryd.sizeOf3 _) (Tryd.isAgg3 _) fun v12 hv12 => ?_))
      obtain rfl := vint_eq hv12
      exact ⟨BX.refl _ _, Z⟩
     ·
      intro w19 D hS17 hd17
      have hl19 := Le.no M hS17
      exact dg_sub (E' := [(16, (.bool true)), (1, (.pointer (some p1)))]) ⟨(dpE hd17 13 Z Z), Z, trivial⟩ (dg_on Z Z Z Z (ow_fieldAddr Z Z Tryd.underlying31 Z (Tryd.sizeOf3 _) ⟨BX.refl _ _, ⟨_, Z, (ARep.mono hl19 (hp1.fld fld_Test_Hi))⟩⟩))
     ·
      intro w20 D hS18 hd18
      have d26 : PA RInt M a_t.Hi (D 16) w20 := dpA hd18 16 Z
      obtain ⟨p6, e5, ha5⟩ := d26
      refine dg_sub (E' := [(19, (.pointer (some p6))), (16, (.bool true))]) ⟨(congrArg some e5), (dpE hd18 13 Z Z), trivial⟩ (dg_on Z Z Z Z (ow_load (R := RInt) Z Z ha5 (Tryd.sizeOf3 _) (Tryd.isAgg3 _) fun v13 hv13 => ?_))
      obtain rfl := vint_eq hv13
      exact ⟨BX.refl _ _, Z⟩
     ·
      intro w21 D hS19 hd19
      refine dg_sub (E' := [(18, (.int .i64 a_t.Lo)), (20, (.int .i64 a_t.Hi)), (16, (.bool true))]) ⟨(dpE hd19 15 Z Z), (dpE hd19 17 Z Z), (dpE hd19 13 Z Z), trivial⟩ (dg_on Z Z Z Z (ow_leq Z Z Z fun bb8 hbb8 => ?_))
      obtain rfl := hbb8.trans hc4
      exact ⟨BX.refl _ _, Z⟩
     ·
      intro w22 D hS20 hd20
      exact dg_sub (E' := [(16, (.bool true)), (21, (.bool true))]) ⟨(dpE hd20 13 Z Z), (dpE hd20 18 Z Z), trivial⟩ (dg_plain Z (ow_pickT Z Z Z ⟨BX.refl _ _, Z⟩))
     ·
      intro w23 D hS21 hd21
      exact dg_sub (E' := [(22, (.bool true))]) ⟨(dpE hd21 19 Z Z), trivial⟩ (dg_plain Z (ow_move Z Z ⟨BX.refl _ _, Z⟩))
     ·
      intro w24 D hS22 hd22
      have hl24 := Le.no M hS22
      exact dg_sub (E' := [(23, (.bool true)), (1, (.pointer (some p1)))]) ⟨(dpE hd22 20 Z Z), Z, trivial⟩ (dg_on Z Z Z Z (ow_fieldAddr Z Z Tryd.underlying31 Z (Tryd.sizeOf3 _) ⟨BX.refl _ _, ⟨_, Z, (ARep.mono hl24 (hp1.fld fld_Test_Hi))⟩⟩))
     ·
      intro w25 D hS23 hd23
      have d36 : PA RInt M a_t.Hi (D 21) w25 := dpA hd23 21 Z
      obtain ⟨p7, e6, ha6⟩ := d36
      refine dg_sub (E' := [(24, (.pointer (some p7))), (23, (.bool true))]) ⟨(congrArg some e6), (dpE hd23 20 Z Z), trivial⟩ (dg_on Z Z Z Z (ow_load (R := RInt) Z Z ha6 (Tryd.sizeOf3 _) (Tryd.isAgg3 _) fun v14 hv14 => ?_))
      obtain rfl := vint_eq hv14
      exact ⟨BX.refl _ _, Z⟩
     ·
      intro w26 D hS24 hd24
      have hl26 := Le.no M hS24
      exact dg_sub (E' := [(23, (.bool true)), (1, (.pointer (some p1)))]) ⟨(dpE hd24 20 Z Z), Z, trivial⟩ (dg_on Z Z Z Z (ow_fieldAddr Z Z Tryd.underlying31 Z (Tryd.sizeOf3 _) ⟨BX.refl _ _, ⟨_, Z, (ARep.mono hl26 (hp1.fld fld_Test_Field))⟩⟩))
     ·
      intro w27 D hS25 hd25
      have d39 : PA RInt M a_t.Field (D 23) w27 := dpA hd25 23 Z
      obtain ⟨p8, e7, ha7⟩ := d39
      refine dg_sub (E' := [(26, (.pointer (some p8))), (23, (.bool true))]) ⟨(congrArg some e7), (dpE hd25 20 Z Z), trivial⟩ (dg_on Z Z Z Z (ow_load (R := RInt) Z Z ha7 (Tryd.sizeOf3 _) (Tryd.isAgg3 _) fun v15 hv15 => ?_))
      obtain rfl := vint_eq hv15
      exact ⟨BX.refl _ _, Z⟩
     ·
      intro w28 D hS26 hd26
      have hl28 := Le.no M hS26
      have hC28 := hC1.no hS26
      refine dg_sub (E' := [(27, (.int .i64 a_t.Field)), (23, (.bool true))]) ⟨(dpE hd26 24 Z Z), (dpE hd26 20 Z Z), trivial⟩ (dg_on Z Z Z Z (ow_call Z Z Tryd.call83 (w_impl_FieldTop (hG.mono (hl1.trans hl28)) hC28.old hx1) fun v16 w29 hv16 => ?_))
      obtain ⟨hv16, hb3⟩ := hv16
      obtain rfl := vint_eq hv16
      exact ⟨hb3, Z⟩
     ·
      intro w30 D hS27 hd27
      have hC30 := hC1.no hS27
      refine lw_sub (E' := [(23, (.bool true)), (25, (.int .i64 a_t.Hi)), (28, (.int .i64 x1)), (1, (.pointer (some p1))), (2, (.bool false))]) ⟨(dpE hd27 20 Z Z), (dpE hd27 22 Z Z), (dpE hd27 25 Z Z), Z, Z, trivial⟩ (lw_on Z Z Z Z Z Z (ow_leq Z Z Z fun bb9 hbb9 => lw_op Z Z Z (ow_pickT Z Z Z (lw_op Z Z Z (ow_assign Z Z (lw_nil (ew_then (cw_ret ?_))))))))
      obtain rfl := Option.some.inj h
      exact ew_ret (res1 Z (.tmp Z)) ⟨_, Z, ((vbool_of hbb9)), hC30.bx⟩
    ·
     refine cw_sub (E' := [(1, (.pointer (some p1))), (2, (.bool false))]) ⟨Z, Z, trivial⟩ (cw_drawQ 26 [PA RInt M a_t.Field, PEq (.int .i64 a_t.Field), PEq (.bool true), PEq (.bool true), PA RInt M a_t.Field, PEq (.int .i64 a_t.Field), PEq (.bool true), PEq (.bool true), PEq (.bool true), PA RInt M a_t.Lo, PEq (.int .i64 a_t.Lo), PEq (.bool true), PEq (.bool true), PEq (.bool true), PA RInt M a_t.Lo, PEq (.int .i64 a_t.Lo), PA RInt M a_t.Hi, PEq (.int .i64 a_t.Hi), PEq (.bool false), PEq (.bool false), PEq (.bool false), PEq undef, PEq undef, PEq undef, PEq undef, PEq undef] (by kernel_rfl) Z (by kernel_rfl) ⟨PA.mono _ _ _, PEq.mono _, PEq.mono _, PEq.mono _, PA.mono _ _ _, PEq.mono _, PEq.mono _, PEq.mono _, PEq.mono _, PA.mono _ _ _, PEq.mono _, PEq.mono _, PEq.mono _, PEq.mono _, PA.mono _ _ _, PEq.mono _, PA.mono _ _ _, PEq.mono _, PEq.mono _, PEq.mono _, PEq.mono _, PEq.mono _, PEq.mono _, PEq.mono _, PEq.mono _, PEq.mono _, trivial⟩ ⟨?_, ?_, ?_, ?_, ?_, ?_, ?_, ?_, ?_, ?_, ?_, ?_, ?_, ?_, ?_, ?_, ?_, ?_, ?_, ?_, ?_, ?_, ?_, ?_, ?_, ?_, trivial⟩ ?_)
     ·
      intro w31 D hS28 hd28
      have hl31 := Le.no M hS28
      exact dg_sub (E' := [(1, (.pointer (some p1)))]) ⟨Z, trivial⟩ (dg_plain Z (ow_fieldAddr Z Z Tryd.underlying31 Z (Tryd.sizeOf3 _) ⟨BX.refl _ _, ⟨_, Z, (ARep.mono hl31 (hp1.fld fld_Test_Field))⟩⟩))
     ·
      intro w32 D hS29 hd29
      have d70 : PA RInt M a_t.Field (D 0) w32 := dpA hd29 0 Z
      obtain ⟨p9, e8, ha8⟩ := d70
      refine dg_sub (E' := [(3, (.pointer (some p9)))]) ⟨(congrArg some e8), trivial⟩ (dg_plain Z (ow_load (R := RInt) Z Z ha8 (Tryd.sizeOf3 _) (Tryd.isAgg3 _) fun v17 hv17 => ?_))
      obtain rfl := vint_eq hv17
      exact ⟨BX.refl _ _, Z⟩
     ·
      intro w33 D hS30 hd30
      refine dg_sub (E' := [(4, (.int .i64 a_t.Field))]) ⟨(dpE hd30 1 Z Z), trivial⟩ (dg_plain Z (ow_geq Z Z Z fun bb10 hbb10 => ?_))
      obtain rfl := hbb10.trans hc1
      exact ⟨BX.refl _ _, Z⟩
     ·
      intro w34 D hS31 hd31
      exact dg_sub (E' := [(5, (.bool true))]) ⟨(dpE hd31 2 Z Z), trivial⟩ (dg_plain Z (ow_move Z Z ⟨BX.refl _ _, Z⟩))
     ·
      intro w35 D hS32 hd32
      have hl35 := Le.no M hS32
      exact dg_sub (E' := [(6, (.bool true)), (1, (.pointer (some p1)))]) ⟨(dpE hd32 3 Z Z), Z, trivial⟩ (dg_on Z Z Z Z (ow_fieldAddr Z Z Tryd.underlying31 Z (Tryd.sizeOf3 _) ⟨BX.refl _ _, ⟨_, Z, (ARep.mono hl35 (hp1.fld fld_Test_Field))⟩⟩))
     ·
      intro w36 D hS33 hd33
      have d74 : PA RInt M a_t.Field (D 4) w36 := dpA hd33 4 Z
      obtain ⟨p10, e9, ha9⟩ := d74
      refine dg_sub (E' := [(7, (.pointer (some p10))), (6, (.bool true))]) ⟨(congrArg some e9), (dpE hd33 3 Z Z), trivial⟩ (dg_on Z Z Z Z (ow_load (R := RInt) Z Z ha9 (Tryd.sizeOf3 _) (Tryd.isAgg3 _) fun v18 hv18 => ?_))
      obtain rfl := vint_eq hv18
      exact ⟨BX.refl _ _, Z⟩
     ·
      intro w37 D hS34 hd34
      refine dg_sub (E' := [(8, (.int .i64 a_t.Field)), (6, (.bool true))]) ⟨(dpE hd34 5 Z Z), (dpE hd34 3 Z Z), trivial⟩ (dg_on Z Z Z Z (ow_lss Z Z Z fun bb11 hbb11 => ?_))
      obtain rfl := hbb11.trans hc2
      exact ⟨BX.refl _ _, Z⟩
     ·
      intro w38 D hS35 hd35
      exact dg_sub (E' := [(6, (.bool true)), (9, (.bool true))]) ⟨(dpE hd35 3 Z Z), (dpE hd35 6 Z Z), trivial⟩ (dg_plain Z (ow_pickT Z Z Z ⟨BX.refl _ _, Z⟩))
     ·
      intro w39 D hS36 hd36
      exact dg_sub (E' := [(10, (.bool true))]) ⟨(dpE hd36 7 Z Z), trivial⟩ (dg_plain Z (ow_move Z Z ⟨BX.refl _ _, Z⟩))
     ·
      intro w40 D hS37 hd37
      have hl40 := Le.no M hS37
      exact dg_sub (E' := [(11, (.bool true)), (1, (.pointer (some p1)))]) ⟨(dpE hd37 8 Z Z), Z, trivial⟩ (dg_on Z Z Z Z (ow_fieldAddr Z Z Tryd.underlying31 Z (Tryd.sizeOf3 _) ⟨BX.refl _ _, ⟨_, Z, (ARep.mono hl40 (hp1.fld fld_Test_Lo))⟩⟩))
     ·
      intro w41 D hS38 hd38
      have d83 : PA RInt M a_t.Lo (D 9) w41 := dpA hd38 9 Z
      obtain ⟨p11, e10, ha10⟩ := d83
      refine dg_sub (E' := [(12, (.pointer (some p11))), (11, (.bool true))]) ⟨(congrArg some e10), (dpE hd38 8 Z Z), trivial⟩ (dg_on Z Z Z Z (ow_load (R := RInt) Z Z ha10 (Tryd.sizeOf3 _) (Tryd.isAgg3 _) fun v19 hv19 => ?_))
      obtain rfl := vint_eq hv19
      exact ⟨BX.refl _ _, Z⟩
     ·
      intro w42 D hS39 hd39
      refine dg_sub (E' := [(13, (.int .i64 a_t.Lo)), (11, (.bool true))]) ⟨(dpE hd39 10 Z Z), (dpE hd39 8 Z Z), trivial⟩ (dg_on Z Z Z Z (ow_geq Z Z Z fun bb12 hbb12 => ?_))
      obtain rfl := hbb12.trans hc3
      exact ⟨BX.refl _ _, Z⟩
     ·
      intro w43 D hS40 hd40
      exact dg_sub (E' := [(11, (.bool true)), (14, (.bool true))]) ⟨(dpE hd40 8 Z Z), (dpE hd40 11 Z Z), trivial⟩ (dg_plain Z (ow_pickT Z Z Z ⟨BX.refl _ _, Z⟩))
     ·
      intro w44 D hS41 hd41
      exact dg_sub (E' := [(15, (.bool true))]) ⟨(dpE hd41 12 Z Z), trivial⟩ (dg_plain Z (ow_move Z Z ⟨BX.refl _ _, Z⟩))
     ·
      intro w45 D hS42 hd42
      have hl45 := Le.no M hS42
      exact dg_sub (E' := [(16, (.bool true)), (1, (.pointer (some p1)))]) ⟨(dpE hd42 13 Z Z), Z, trivial⟩ (dg_on Z Z Z Z (ow_fieldAddr Z Z Tryd.underlying31 Z (Tryd.sizeOf3 _) ⟨BX.refl _ _, ⟨_, Z, (ARep.mono hl45 (hp1.fld fld_Test_Lo))⟩⟩))
     ·
      intro w46 D hS43 hd43
      have d92 : PA RInt M a_t.Lo (D 14) w46 := dpA hd43 14 Z
      obtain ⟨p12, e11, ha11⟩ := d92
      refine dg_sub (E' := [(17, (.pointer (some p12))), (16, (.bool true))]) ⟨(congrArg some e11), (dpE hd43 13 Z Z), trivial⟩ (dg_on Z Z Z Z (ow_load (R := RInt) Z Z ha11 (Tryd.sizeOf3 _) (Tryd.isAgg3 _) fun v20 hv20 => ?_))
      obtain rfl := vint_eq hv20
      exact ⟨BX.refl _ _, Z⟩
     ·
      intro w47 D hS44 hd44
      have hl47 := Le.no M hS44
      exact dg_sub (E' := [(16, (.bool true)), (1, (.pointer (some p1)))]) ⟨(dpE hd44 13 Z Z), Z, trivial⟩ (dg_on Z Z Z Z (ow_fieldAddr Z Z Tryd.underlying31 Z (Tryd.sizeOf3 _) ⟨BX.refl _ _, ⟨_, Z, (ARep.mono hl47 (hp1.fld fld_Test_Hi))⟩⟩))
     ·
      intro w48 D hS45 hd45
      have d95 : PA RInt M a_t.Hi (D 16) w48 := dpA hd45 16 Z
      obtain ⟨p13, e12, ha12⟩ := d95
      refine dg_sub (E' := [(19, (.pointer (some p13))), (16, (.bool true))]) ⟨(congrArg some e12), (dpE hd45 13 Z Z), trivial⟩ (dg_on Z Z Z Z (ow_load (R := RInt) Z Z ha12 (Tryd.sizeOf3 _) (Tryd.isAgg3 _) fun v21 hv21 => ?_))
      obtain rfl := vint_eq hv21
      exact ⟨BX.refl _ _, Z⟩
     ·
      intro w49 D hS46 hd46
      refine dg_sub (E' := [(18, (.int .i64 a_t.Lo)), (20, (.int .i64 a_t.Hi)), (16, (.bool true))]) ⟨(dpE hd46 15 Z Z), (dpE hd46 17 Z Z), (dpE hd46 13 Z Z), trivial⟩ (dg_on Z Z Z Z (ow_leq Z Z Z fun bb13 hbb13 => ?_))
      obtain rfl := hbb13.trans hc4
      exact ⟨BX.refl _ _, Z⟩
     ·
      intro w50 D hS47 hd47
      exact dg_sub (E' := [(16, (.bool true)), (21, (.bool false))]) ⟨(dpE hd47 13 Z Z), (dpE hd47 18 Z Z), trivial⟩ (dg_plain Z (ow_pickT Z Z Z ⟨BX.refl _ _, Z⟩))
     ·
      intro w51 D hS48 hd48
      exact dg_sub (E' := [(22, (.bool false))]) ⟨(dpE hd48 19 Z Z), trivial⟩ (dg_plain Z (ow_move Z Z ⟨BX.refl _ _, Z⟩))
     ·
      intro w52 D hS49 hd49
      exact dg_sub (E' := [(23, (.bool false)), (1, (.pointer (some p1)))]) ⟨(dpE hd49 20 Z Z), Z, trivial⟩ (dg_off Z Z Z Z ⟨BX.refl _ _, Z⟩)
     ·
      intro w53 D hS50 hd50
      exact dg_sub (E' := [(24, undef), (23, (.bool false))]) ⟨(dpE hd50 21 Z Z), (dpE hd50 20 Z Z), trivial⟩ (dg_off Z Z Z Z ⟨BX.refl _ _, Z⟩)
     ·
      intro w54 D hS51 hd51
      exact dg_sub (E' := [(23, (.bool false)), (1, (.pointer (some p1)))]) ⟨(dpE hd51 20 Z Z), Z, trivial⟩ (dg_off Z Z Z Z ⟨BX.refl _ _, Z⟩)
     ·
      intro w55 D hS52 hd52
      exact dg_sub (E' := [(26, undef), (23, (.bool false))]) ⟨(dpE hd52 23 Z Z), (dpE hd52 20 Z Z), trivial⟩ (dg_off Z Z Z Z ⟨BX.refl _ _, Z⟩)
     ·
      intro w56 D hS53 hd53
      exact dg_sub (E' := [(27, undef), (23, (.bool false))]) ⟨(dpE hd53 24 Z Z), (dpE hd53 20 Z Z), trivial⟩ (dg_off Z Z Z Z ⟨BX.refl _ _, Z⟩)
     ·
      intro w57 D hS54 hd54
      have hC57 := hC1.no hS54
      refine lw_sub (E' := [(23, (.bool false)), (25, undef), (28, undef), (1, (.pointer (some p1))), (2, (.bool false))]) ⟨(dpE hd54 20 Z Z), (dpE hd54 22 Z Z), (dpE hd54 25 Z Z), Z, Z, trivial⟩ (lw_off Z Z Z Z Z Z (lw_op Z Z Z (ow_pickF Z Z Z (lw_op Z Z Z (ow_assign Z Z (lw_nil (ew_then (cw_ret ?_))))))))
      obtain rfl := Option.some.inj h
      exact ew_ret (res1 Z (.tmp Z)) ⟨_, Z, ((vbool _)), hC57.bx⟩
   ·
    refine cw_sub (E' := [(1, (.pointer (some p1))), (2, (.bool false))]) ⟨Z, Z, trivial⟩ (cw_drawQ 26 [PA RInt M a_t.Field, PEq (.int .i64 a_t.Field), PEq (.bool true), PEq (.bool true), PA RInt M a_t.Field, PEq (.int .i64 a_t.Field), PEq (.bool true), PEq (.bool true), PEq (.bool true), PA RInt M a_t.Lo, PEq (.int .i64 a_t.Lo), PEq (.bool false), PEq (.bool false), PEq (.bool false), PEq undef, PEq undef, PEq undef, PEq undef, PEq undef, PEq (.bool false), PEq (.bool false), PEq undef, PEq undef, PEq undef, PEq undef, PEq undef] (by kernel_rfl) Z (by kernel_rfl) ⟨PA.mono _ _ _, PEq.mono _, PEq.mono _, PEq.mono _, PA.mono _ _ _, PEq.mono _, PEq.mono _, PEq.mono _, PEq.mono _, PA.mono _ _ _, PEq.mono _, PEq.mono _, PEq.mono _, PEq.mono _, PEq.mono _, PEq.mono _, PEq.mono _, PEq.mono _, PEq.mono _, PEq.mono _, PEq.mono _, PEq.mono _, PEq.mono _, PEq.mono _, PEq.mono _, PEq.mono _, trivial⟩ ⟨?_, ?_, ?_, ?_, ?_, ?_, ?_, ?_, ?_, ?_, ?_, ?_, ?_, ?_, ?_, ?_, ?_, ?_, ?_, ?_, ?_, ?_, ?_, ?_, ?_, ?_, trivial⟩ ?_)
    ·
     intro w58 D hS55 hd55
     have hl58 := Le.no M hS55
     exact dg_sub (E' := [(1, (.pointer (some p1)))]) ⟨Z, trivial⟩ (dg_plain Z (ow_fieldAddr Z Z Tryd.underlying31 Z (Tryd.sizeOf3 _) ⟨BX.refl _ _, ⟨_, Z, (ARep.mono hl58 (hp1.fld fld_Test_Field))⟩⟩))
    ·
     intro w59 D hS56 hd56
     have d139 : PA RInt M a_t.Field (D 0) w59 := dpA hd56 0 Z
     obtain ⟨p14, e13, ha13⟩ := d139
     refine dg_sub (E' := [(3, (.pointer (some p14)))]) ⟨(congrArg some e13), trivial⟩ (dg_plain Z (ow_load (R := RInt) Z Z ha13 (Tryd.sizeOf3 _) (Tryd.isAgg3 _) fun v22 hv22 => ?_))
     obtain rfl := vint_eq hv22
     exact ⟨BX.refl _ _, Z⟩
    ·
     intro w60 D hS57 hd57
     refine dg_sub (E' := [(4, (.int .i64 a_t.Field))]) ⟨(dpE hd57 1 Z Z), trivial⟩ (dg_plain Z (ow_geq Z Z Z fun bb14 hbb14 => ?_))
     obtain rfl := hbb14.trans hc1
     exact ⟨BX.refl _ _, Z⟩
    ·
     intro w61 D hS58 hd58
     exact dg_sub (E' := [(5, (.bool true))]) ⟨(dpE hd58 2 Z Z), trivial⟩ (dg_plain Z (ow_move Z Z ⟨BX.refl _ _, Z⟩))
    ·
     intro w62 D hS59 hd59
     have hl62 := Le.no M hS59
     exact dg_sub (E' := [(6, (.bool true)), (1, (.pointer (some p1)))]) ⟨(dpE hd59 3 Z Z), Z, trivial⟩ (dg_on Z Z Z Z (ow_fieldAddr Z Z Tryd.underlying31 Z (Tryd.sizeOf3 _) ⟨BX.refl _ _, ⟨_, Z, (ARep.mono hl62 (hp1.fld fld_Test_Field))⟩⟩))
    ·
     intro w63 D hS60 hd60
     have d143 : PA RInt M a_t.Field (D 4) w63 := dpA hd60 4 Z
     obtain ⟨p15, e14, ha14⟩ := d143
     refine dg_sub (E' := [(7, (.pointer (some p15))), (6, (.bool true))]) ⟨(congrArg some e14), (dpE hd60 3 Z Z), trivial⟩ (dg_on Z Z Z Z (ow_load (R := RInt) Z Z ha14 (Tryd.sizeOf3 _) (Tryd.isAgg3 _) fun v23 hv23 => ?_))
     obtain rfl := vint_eq hv23
     exact ⟨BX.refl _ _, Z⟩
    ·
     intro w64 D hS61 hd61
     refine dg_sub (E' := [(8, (.int .i64 a_t.Field)), (6, (.bool true))]) ⟨(dpE hd61 5 Z Z), (dpE hd61 3 Z Z), trivial⟩ (dg_on Z Z Z Z (ow_lss Z Z Z fun bb15 hbb15 => ?_))
     obtain rfl := hbb15.trans hc2
     exact ⟨BX.refl _ _, Z⟩
    ·
     intro w65 D hS62 hd62
     exact dg_sub (E' := [(6, (.bool true)), (9, (.bool true))]) ⟨(dpE hd62 3 Z Z), (dpE hd62 6 Z Z), trivial⟩ (dg_plain Z (ow_pickT Z Z Z ⟨BX.refl _ _, Z⟩))
    ·
     intro w66 D hS63 hd63
     exact dg_sub (E' := [(10, (.bool true))]) ⟨(dpE hd63 7 Z Z), trivial⟩ (dg_plain Z (ow_move Z Z ⟨BX.refl _ _, Z⟩))
    ·
     intro w67 D hS64 hd64
     have hl67 := Le.no M hS64
     exact dg_sub (E' := [(11, (.bool true)), (1, (.pointer (some p1)))]) ⟨(dpE hd64 8 Z Z), Z, trivial⟩ (dg_on Z Z Z Z (ow_fieldAddr Z Z Tryd.underlying31 Z (Tryd.sizeOf3 _) ⟨BX.refl _ _, ⟨_, Z, (ARep.mono hl67 (hp1.fld fld_Test_Lo))⟩⟩))
    ·
     intro w68 D hS65 hd65
     have d152 : PA RInt M a_t.Lo (D 9) w68 := dpA hd65 9 Z
     obtain ⟨p16, e15, ha15⟩ := d152
     refine dg_sub (E' := [(12, (.pointer (some p16))), (11, (.bool true))]) ⟨(congrArg some e15), (dpE hd65 8 Z Z), trivial⟩ (dg_on Z Z Z Z (ow_load (R := RInt) Z Z ha15 (Tryd.sizeOf3 _) (Tryd.isAgg3 _) fun v24 hv24 => ?_))
     obtain rfl := vint_eq hv24
     exact ⟨BX.refl _ _, Z⟩
    ·
     intro w69 D hS66 hd66
     refine dg_sub (E' := [(13, (.int .i64 a_t.Lo)), (11, (.bool true))]) ⟨(dpE hd66 10 Z Z), (dpE hd66 8 Z Z), trivial⟩ (dg_on Z Z Z Z (ow_geq Z Z Z fun bb16 hbb16 => ?_))
     obtain rfl := hbb16.trans hc3
     exact ⟨BX.refl _ _, Z⟩
    ·
     intro w70 D hS67 hd67
     exact dg_sub (E' := [(11, (.bool true)), (14, (.bool false))]) ⟨(dpE hd67 8 Z Z), (dpE hd67 11 Z Z), trivial⟩ (dg_plain Z (ow_pickT Z Z Z ⟨BX.refl _ _, Z⟩))
    ·
     intro w71 D hS68 hd68
     exact dg_sub (E' := [(15, (.bool false))]) ⟨(dpE hd68 12 Z Z), trivial⟩ (dg_plain Z (ow_move Z Z ⟨BX.refl _ _, Z⟩))
    ·
     intro w72 D hS69 hd69
     exact dg_sub (E' := [(16, (.bool false)), (1, (.pointer (some p1)))]) ⟨(dpE hd69 13 Z Z), Z, trivial⟩ (dg_off Z Z Z Z ⟨BX.refl _ _, Z⟩)
    ·
     intro w73 D hS70 hd70
     exact dg_sub (E' := [(17, undef), (16, (.bool false))]) ⟨(dpE hd70 14 Z Z), (dpE hd70 13 Z Z), trivial⟩ (dg_off Z Z Z Z ⟨BX.refl _ _, Z⟩)
    ·
     intro w74 D hS71 hd71
     exact dg_sub (E' := [(16, (.bool false)), (1, (.pointer (some p1)))]) ⟨(dpE hd71 13 Z Z), Z, trivial⟩ (dg_off Z Z Z Z ⟨BX.refl _ _, Z⟩)
    ·
     intro w75 D hS72 hd72
     exact dg_sub (E' := [(19, undef), (16, (.bool false))]) ⟨(dpE hd72 16 Z Z), (dpE hd72 13 Z Z), trivial⟩ (dg_off Z Z Z Z ⟨BX.refl _ _, Z⟩)
    ·
     intro w76 D hS73 hd73
     exact dg_sub (E' := [(18, undef), (20, undef), (16, (.bool false))]) ⟨(dpE hd73 15 Z Z), (dpE hd73 17 Z Z), (dpE hd73 13 Z Z), trivial⟩ (dg_off Z Z Z Z ⟨BX.refl _ _, Z⟩)
    ·
     intro w77 D hS74 hd74
     exact dg_sub (E' := [(16, (.bool false)), (21, undef)]) ⟨(dpE hd74 13 Z Z), (dpE hd74 18 Z Z), trivial⟩ (dg_plain Z (ow_pickF Z Z Z ⟨BX.refl _ _, Z⟩))
    ·
     intro w78 D hS75 hd75
     exact dg_sub (E' := [(22, (.bool false))]) ⟨(dpE hd75 19 Z Z), trivial⟩ (dg_plain Z (ow_move Z Z ⟨BX.refl _ _, Z⟩))
    ·
     intro w79 D hS76 hd76
     exact dg_sub (E' := [(23, (.bool false)), (1, (.pointer (some p1)))]) ⟨(dpE hd76 20 Z Z), Z, trivial⟩ (dg_off Z Z Z Z ⟨BX.refl _ _, Z⟩)
    ·
     intro w80 D hS77 hd77
     exact dg_sub (E' := [(24, undef), (23, (.bool false))]) ⟨(dpE hd77 21 Z Z), (dpE hd77 20 Z Z), trivial⟩ (dg_off Z Z Z Z ⟨BX.refl _ _, Z⟩)
    ·
     intro w81 D hS78 hd78
     exact dg_sub (E' := [(23, (.bool false)), (1, (.pointer (some p1)))]) ⟨(dpE hd78 20 Z Z), Z, trivial⟩ (dg_off Z Z Z Z ⟨BX.refl _ _, Z⟩)
    ·
     intro w82 D hS79 hd79
     exact dg_sub (E' := [(26, undef), (23, (.bool false))]) ⟨(dpE hd79 23 Z Z), (dpE hd79 20 Z Z), trivial⟩ (dg_off Z Z Z Z ⟨BX.refl _ _, Z⟩)
    ·
     intro w83 D hS80 hd80
     exact dg_sub (E' := [(27, undef), (23, (.bool false))]) ⟨(dpE hd80 24 Z Z), (dpE hd80 20 Z Z), trivial⟩ (dg_off Z Z Z Z ⟨BX.refl _ _, Z⟩)
    ·
     intro w84 D hS81 hd81
     have hC84 := hC1.no hS81
     refine lw_sub (E' := [(23, (.bool false)), (25, undef), (28, undef), (1, (.pointer (some p1))), (2, (.bool false))]) ⟨(dpE hd81 20 Z Z), (dpE hd81 22 Z Z), (dpE hd81 25 Z Z), Z, Z, trivial⟩ (lw_off Z Z Z Z Z Z (lw_op Z Z Z (ow_pickF Z Z Z (lw_op Z Z Z (ow_assign Z Z (lw_nil (ew_then (cw_ret ?_))))))))
     obtain rfl := Option.some.inj h
     exact ew_ret (res1 Z (.tmp Z)) ⟨_, Z, ((vbool _)), hC84.bx⟩
  ·
   refine cw_sub (E' := [(1, (.pointer (some p1))), (2, (.bool false))]) ⟨Z, Z, trivial⟩ (cw_drawQ 26 [PA RInt M a_t.Field, PEq (.int .i64 a_t.Field), PEq (.bool true), PEq (.bool true), PA RInt M a_t.Field, PEq (.int .i64 a_t.Field), PEq (.bool false), PEq (.bool false), PEq (.bool false), PEq undef, PEq undef, PEq undef, PEq (.bool false), PEq (.bool false), PEq undef, PEq undef, PEq undef, PEq undef, PEq undef, PEq (.bool false), PEq (.bool false), PEq undef, PEq undef, PEq undef, PEq undef, PEq undef] (by kernel_rfl) Z (by kernel_rfl) ⟨PA.mono _ _ _, PEq.mono _, PEq.mono _, PEq.mono _, PA.mono _ _ _, PEq.mono _, PEq.mono _, PEq.mono _, PEq.mono _, PEq.mono _, PEq.mono _, PEq.mono _, PEq.mono _, PEq.mono _, PEq.mono _, PEq.mono _, PEq.mono _, PEq.mono _, PEq.mono _, PEq.mono _, PEq.mono _, PEq.mono _, PEq.mono _, PEq.mono _, PEq.mono _, PEq.mono _, trivial⟩ ⟨?_, ?_, ?_, ?_, ?_, ?_, ?_, ?_, ?_, ?_, ?_, ?_, ?_, ?_, ?_, ?_, ?_, ?_, ?_, ?_, ?_, ?_, ?_, ?_, ?_, ?_, trivial⟩ ?_)
   ·
    intro w85 D hS82 hd82
    have hl85 := Le.no M hS82
    exact dg_sub (E' := [(1, (.pointer (some p1)))]) ⟨Z, trivial⟩ (dg_plain Z (ow_fieldAddr Z Z Tryd.underlying31 Z (Tryd.sizeOf3 _) ⟨BX.refl _ _, ⟨_, Z, (ARep.mono hl85 (hp1.fld fld_Test_Field))⟩⟩))
   ·
    intro w86 D hS83 hd83
    have d208 : PA RInt M a_t.Field (D 0) w86 := dpA hd83 0 Z
    obtain ⟨p17, e16, ha16⟩ := d208
    refine dg_sub (E' := [(3, (.pointer (some p17)))]) ⟨(congrArg some e16), trivial⟩ (dg_plain Z (ow_load (R := RInt) Z Z ha16 (Tryd.sizeOf3 _) (Tryd.isAgg3 _) fun v25 hv25 => ?_))
    obtain rfl := vint_eq hv25
    exact ⟨BX.refl _ _, Z⟩
   ·
    intro w87 D hS84 hd84
    refine dg_sub (E' := [(4, (.int .i64 a_t.Field))]) ⟨(dpE hd84 1 Z Z), trivial⟩ (dg_plain Z (ow_geq Z Z Z fun bb17 hbb17 => ?_))
    obtain rfl := hbb17.trans hc1
    exact ⟨BX.refl _ _, Z⟩
   ·
    intro w88 D hS85 hd85
    exact dg_sub (E' := [(5, (.bool true))]) ⟨(dpE hd85 2 Z Z), trivial⟩ (dg_plain Z (ow_move Z Z ⟨BX.refl _ _, Z⟩))
   ·
    intro w89 D hS86 hd86
    have hl89 := Le.no M hS86
    exact dg_sub (E' := [(6, (.bool true)), (1, (.pointer (some p1)))]) ⟨(dpE hd86 3 Z Z), Z, trivial⟩ (dg_on Z Z Z Z (ow_fieldAddr Z Z Tryd.underlying31 Z (Tryd.sizeOf3 _) ⟨BX.refl _ _, ⟨_, Z, (ARep.mono hl89 (hp1.fld fld_Test_Field))⟩⟩))
   ·
    intro w90 D hS87 hd87
    have d212 : PA RInt M a_t.Field (D 4) w90 := dpA hd87 4 Z
    obtain ⟨p18, e17, ha17⟩ := d212
    refine dg_sub (E' := [(7, (.pointer (some p18))), (6, (.bool true))]) ⟨(congrArg some e17), (dpE hd87 3 Z Z), trivial⟩ (dg_on Z Z Z Z (ow_load (R := RInt) Z Z ha17 (Tryd.sizeOf3 _) (Tryd.isAgg3 _) fun v26 hv26 => ?_))
    obtain rfl := vint_eq hv26
    exact ⟨BX.refl _ _, Z⟩
   ·
    intro w91 D hS88 hd88
    refine dg_sub (E' := [(8, (.int .i64 a_t.Field)), (6, (.bool true))]) ⟨(dpE hd88 5 Z Z), (dpE hd88 3 Z Z), trivial⟩ (dg_on Z Z Z Z (ow_lss Z Z Z fun bb18 hbb18 => ?_))
    obtain rfl := hbb18.trans hc2
    exact ⟨BX.refl _ _, Z⟩
   ·
    intro w92 D hS89 hd89
    exact dg_sub (E' := [(6, (.bool true)), (9, (.bool false))]) ⟨(dpE hd89 3 Z Z), (dpE hd89 6 Z Z), trivial⟩ (dg_plain Z (ow_pickT Z Z Z ⟨BX.refl _ _, Z⟩))
   ·
    intro w93 D hS90 hd90
    exact dg_sub (E' := [(10, (.bool false))]) ⟨(dpE hd90 7 Z Z), trivial⟩ (dg_plain Z (ow_move Z Z ⟨BX.refl _ _, Z⟩))
   ·
    intro w94 D hS91 hd91
    exact dg_sub (E' := [(11, (.bool false)), (1, (.pointer (some p1)))]) ⟨(dpE hd91 8 Z Z), Z, trivial⟩ (dg_off Z Z Z Z ⟨BX.refl _ _, Z⟩)
   ·
    intro w95 D hS92 hd92
    exact dg_sub (E' := [(12, undef), (11, (.bool false))]) ⟨(dpE hd92 9 Z Z), (dpE hd92 8 Z Z), trivial⟩ (dg_off Z Z Z Z ⟨BX.refl _ _, Z⟩)
   ·
    intro w96 D hS93 hd93
    exact dg_sub (E' := [(13, undef), (11, (.bool false))]) ⟨(dpE hd93 10 Z Z), (dpE hd93 8 Z Z), trivial⟩ (dg_off Z Z Z Z ⟨BX.refl _ _, Z⟩)
   ·
    intro w97 D hS94 hd94
    exact dg_sub (E' := [(11, (.bool false)), (14, undef)]) ⟨(dpE hd94 8 Z Z), (dpE hd94 11 Z Z), trivial⟩ (dg_plain Z (ow_pickF Z Z Z ⟨BX.refl _ _, Z⟩))
   ·
    intro w98 D hS95 hd95
    exact dg_sub (E' := [(15, (.bool false))]) ⟨(dpE hd95 12 Z Z), trivial⟩ (dg_plain Z (ow_move Z Z ⟨BX.refl _ _, Z⟩))
   ·
    intro w99 D hS96 hd96
    exact dg_sub (E' := [(16, (.bool false)), (1, (.pointer (some p1)))]) ⟨(dpE hd96 13 Z Z), Z, trivial⟩ (dg_off Z Z Z Z ⟨BX.refl _ _, Z⟩)
   ·
    intro w100 D hS97 hd97
    exact dg_sub (E' := [(17, undef), (16, (.bool false))]) ⟨(dpE hd97 14 Z Z), (dpE hd97 13 Z Z), trivial⟩ (dg_off Z Z Z Z ⟨BX.refl _ _, Z⟩)
   ·
    intro w101 D hS98 hd98
    exact dg_sub (E' := [(16, (.bool false)), (1, (.pointer (some p1)))]) ⟨(dpE hd98 13 Z Z), Z, trivial⟩ (dg_off Z Z Z Z ⟨BX.refl _ _, Z⟩)
   ·
    intro w102 D hS99 hd99
    exact dg_sub (E' := [(19, undef), (16, (.bool false))]) ⟨(dpE hd99 16 Z Z), (dpE hd99 13 Z Z), trivial⟩ (dg_off Z Z Z Z ⟨BX.refl _ _, Z⟩)
   ·
    intro w103 D hS100 hd100
    exact dg_sub (E' := [(18, undef), (20, undef), (16, (.bool false))]) ⟨(dpE hd100 15 Z Z), (dpE hd100 17 Z Z), (dpE hd100 13 Z Z), trivial⟩ (dg_off Z Z Z Z ⟨BX.refl _ _, Z⟩)
   ·
    intro w104 D hS101 hd101
    exact dg_sub (E' := [(16, (.bool false)), (21, undef)]) ⟨(dpE hd101 13 Z Z), (dpE hd101 18 Z Z), trivial⟩ (dg_plain Z (ow_pickF Z Z Z ⟨BX.refl _ _, Z⟩))
   ·
    intro w105 D hS102 hd102
    exact dg_sub (E' := [(22, (.bool false))]) ⟨(dpE hd102 19 Z Z), trivial⟩ (dg_plain Z (ow_move Z Z ⟨BX.refl _ _, Z⟩))
   ·
    intro w106 D hS103 hd103
    exact dg_sub (E' := [(23, (.bool false)), (1, (.pointer (some p1)))]) ⟨(dpE hd103 20 Z Z), Z, trivial⟩ (dg_off Z Z Z Z ⟨BX.refl _ _, Z⟩)
   ·
    intro w107 D hS104 hd104
    exact dg_sub (E' := [(24, undef), (23, (.bool false))]) ⟨(dpE hd104 21 Z Z), (dpE hd104 20 Z Z), trivial⟩ (dg_off Z Z Z Z ⟨BX.refl _ _, Z⟩)
   ·
    intro w108 D hS105 hd105
    exact dg_sub (E' := [(23, (.bool false)), (1, (.pointer (some p1)))]) ⟨(dpE hd105 20 Z Z), Z, trivial⟩ (dg_off Z Z Z Z ⟨BX.refl _ _, Z⟩)
   ·
    intro w109 D hS106 hd106
    exact dg_sub (E' := [(26, undef), (23, (.bool false))]) ⟨(dpE hd106 23 Z Z), (dpE hd106 20 Z Z), trivial⟩ (dg_off Z Z Z Z ⟨BX.refl _ _, Z⟩)
   ·
    intro w110 D hS107 hd107
    exact dg_sub (E' := [(27, undef), (23, (.bool false))]) ⟨(dpE hd107 24 Z Z), (dpE hd107 20 Z Z), trivial⟩ (dg_off Z Z Z Z ⟨BX.refl _ _, Z⟩)
   ·
    intro w111 D hS108 hd108
    have hC111 := hC1.no hS108
    refine lw_sub (E' := [(23, (.bool false)), (25, undef), (28, undef), (1, (.pointer (some p1))), (2, (.bool false))]) ⟨(dpE hd108 20 Z Z), (dpE hd108 22 Z Z), (dpE hd108 25 Z Z), Z, Z, trivial⟩ (lw_off Z Z Z Z Z Z (lw_op Z Z Z (ow_pickF Z Z Z (lw_op Z Z Z (ow_assign Z Z (lw_nil (ew_then (cw_ret ?_))))))))
    obtain rfl := Option.some.inj h
    exact ew_ret (res1 Z (.tmp Z)) ⟨_, Z, ((vbool _)), hC111.bx⟩
 ·
  refine cw_sub (E' := [(1, (.pointer (some p1))), (2, (.bool false))]) ⟨Z, Z, trivial⟩ (cw_drawQ 26 [PA RInt M a_t.Field, PEq (.int .i64 a_t.Field), PEq (.bool false), PEq (.bool false), PEq undef, PEq undef, PEq undef, PEq (.bool false), PEq (.bool false), PEq undef, PEq undef, PEq undef, PEq (.bool false), PEq (.bool false), PEq undef, PEq undef, PEq undef, PEq undef, PEq undef, PEq (.bool false), PEq (.bool false), PEq undef, PEq undef, PEq undef, PEq undef, PEq undef] (by kernel_rfl) Z (by kernel_rfl) ⟨PA.mono _ _ _, PEq.mono _, PEq.mono _, PEq.mono _, PEq.mono _, PEq.mono _, PEq.mono _, PEq.mono _, PEq.mono _, PEq.mono _, PEq.mono _, PEq.mono _, PEq.mono _, PEq.mono _, PEq.mono _, PEq.mono _, PEq.mono _, PEq.mono _, PEq.mono _, PEq.mono _, PEq.mono _, PEq.mono _, PEq.mono _, PEq.mono _, PEq.mono _, PEq.mono _, trivial⟩ ⟨?_, ?_, ?_, ?_, ?_, ?_, ?_, ?_, ?_, ?_, ?_, ?_, ?_, ?_, ?_, ?_, ?_, ?_, ?_, ?_, ?_, ?_, ?_, ?_, ?_, ?_, trivial⟩ ?_)
  ·
   intro w112 D hS109 hd109
   have hl112 := Le.no M hS109
   exact dg_sub (E' := [(1, (.pointer (some p1)))]) ⟨Z, trivial⟩ (dg_plain Z (ow_fieldAddr Z Z Tryd.underlying31 Z (Tryd.sizeOf3 _) ⟨BX.refl _ _, ⟨_, Z, (ARep.mono hl112 (hp1.fld fld_Test_Field))⟩⟩))
  ·
   intro w113 D hS110 hd110
   have d277 : PA RInt M a_t.Field (D 0) w113 := dpA hd110 0 Z
   obtain ⟨p19, e18, ha18⟩ := d277
   refine dg_sub (E' := [(3, (.pointer (some p19)))]) ⟨(congrArg some e18), trivial⟩ (dg_plain Z (ow_load (R := RInt) Z Z ha18 (Tryd.sizeOf3 _) (Tryd.isAgg3 _) fun v27 hv27 => ?_))
   obtain rfl := vint_eq hv27
   exact ⟨BX.refl _ _, Z⟩
  ·
   intro w114 D hS111 hd111
   refine dg_sub (E' := [(4, (.int .i64 a_t.Field))]) ⟨(dpE hd111 1 Z Z), trivial⟩ (dg_plain Z (ow_geq Z Z Z fun bb19 hbb19 => ?_))
   obtain rfl := hbb19.trans hc1
   exact ⟨BX.refl _ _, Z⟩
  ·
   intro w115 D hS112 hd112
   exact dg_sub (E' := [(5, (.bool false))]) ⟨(dpE hd112 2 Z Z), trivial⟩ (dg_plain Z (ow_move Z Z ⟨BX.refl _ _, Z⟩))
  ·
   intro w116 D hS113 hd113
   exact dg_sub (E' := [(6, (.bool false)), (1, (.pointer (some p1)))]) ⟨(dpE hd113 3 Z Z), Z, trivial⟩ (dg_off Z Z Z Z ⟨BX.refl _ _, Z⟩)
  ·
   intro w117 D hS114 hd114
   exact dg_sub (E' := [(7, undef), (6, (.bool false))]) ⟨(dpE hd114 4 Z Z), (dpE hd114 3 Z Z), trivial⟩ (dg_off Z Z Z Z ⟨BX.refl _ _, Z⟩)
  ·
   intro w118 D hS115 hd115
   exact dg_sub (E' := [(8, undef), (6, (.bool false))]) ⟨(dpE hd115 5 Z Z), (dpE hd115 3 Z Z), trivial⟩ (dg_off Z Z Z Z ⟨BX.refl _ _, Z⟩)
  ·
   intro w119 D hS116 hd116
   exact dg_sub (E' := [(6, (.bool false)), (9, undef)]) ⟨(dpE hd116 3 Z Z), (dpE hd116 6 Z Z), trivial⟩ (dg_plain Z (ow_pickF Z Z Z ⟨BX.refl _ _, Z⟩))
  ·
   intro w120 D hS117 hd117
   exact dg_sub (E' := [(10, (.bool false))]) ⟨(dpE hd117 7 Z Z), trivial⟩ (dg_plain Z (ow_move Z Z ⟨BX.refl _ _, Z⟩))
  ·
   intro w121 D hS118 hd118
   exact dg_sub (E' := [(11, (.bool false)), (1, (.pointer (some p1)))]) ⟨(dpE hd118 8 Z Z), Z, trivial⟩ (dg_off Z Z Z Z ⟨BX.refl _ _, Z⟩)
  ·
   intro w122 D hS119 hd119
   exact dg_sub (E' := [(12, undef), (11, (.bool false))]) ⟨(dpE hd119 9 Z Z), (dpE hd119 8 Z Z), trivial⟩ (dg_off Z Z Z Z ⟨BX.refl _ _, Z⟩)
  ·
   intro w123 D hS120 hd120
   exact dg_sub (E' := [(13, undef), (11, (.bool false))]) ⟨(dpE hd120 10 Z Z), (dpE hd120 8 Z Z), trivial⟩ (dg_off Z Z Z Z ⟨BX.refl _ _, Z⟩)
  ·
   intro w124 D hS121 hd121
   exact dg_sub (E' := [(11, (.bool false)), (14, undef)]) ⟨(dpE hd121 8 Z Z), (dpE hd121 11 Z Z), trivial⟩ (dg_plain Z (ow_pickF Z Z Z ⟨BX.refl _ _, Z⟩))
  ·
   intro w125 D hS122 hd122
   exact dg_sub (E' := [(15, (.bool false))]) ⟨(dpE hd122 12 Z Z), trivial⟩ (dg_plain Z (ow_move Z Z ⟨BX.refl _ _, Z⟩))
  ·
   intro w126 D hS123 hd123
   exact dg_sub (E' := [(16, (.bool false)), (1, (.pointer (some p1)))]) ⟨(dpE hd123 13 Z Z), Z, trivial⟩ (dg_off Z Z Z Z ⟨BX.refl _ _, Z⟩)
  ·
   intro w127 D hS124 hd124
   exact dg_sub (E' := [(17, undef), (16, (.bool false))]) ⟨(dpE hd124 14 Z Z), (dpE hd124 13 Z Z), trivial⟩ (dg_off Z Z Z Z ⟨BX.refl _ _, Z⟩)
  ·
   intro w128 D hS125 hd125
   exact dg_sub (E' := [(16, (.bool false)), (1, (.pointer (some p1)))]) ⟨(dpE hd125 13 Z Z), Z, trivial⟩ (dg_off Z Z Z Z ⟨BX.refl _ _, Z⟩)
  ·
   intro w129 D hS126 hd126
   exact dg_sub (E' := [(19, undef), (16, (.bool false))]) ⟨(dpE hd126 16 Z Z), (dpE hd126 13 Z Z), trivial⟩ (dg_off Z Z Z Z ⟨BX.refl _ _, Z⟩)
  ·
   intro w130 D hS127 hd127
   exact dg_sub (E' := [(18, undef), (20, undef), (16, (.bool false))]) ⟨(dpE hd127 15 Z Z), (dpE hd127 17 Z Z), (dpE hd127 13 Z Z), trivial⟩ (dg_off Z Z Z Z ⟨BX.refl _ _, Z⟩)
  ·
   intro w131 D hS128 hd128
   exact dg_sub (E' := [(16, (.bool false)), (21, undef)]) ⟨(dpE hd128 13 Z Z), (dpE hd128 18 Z Z), trivial⟩ (dg_plain Z (ow_pickF Z Z Z ⟨BX.refl _ _, Z⟩))
  ·
   intro w132 D hS129 hd129
   exact dg_sub (E' := [(22, (.bool false))]) ⟨(dpE hd129 19 Z Z), trivial⟩ (dg_plain Z (ow_move Z Z ⟨BX.refl _ _, Z⟩))
  ·
   intro w133 D hS130 hd130
   exact dg_sub (E' := [(23, (.bool false)), (1, (.pointer (some p1)))]) ⟨(dpE hd130 20 Z Z), Z, trivial⟩ (dg_off Z Z Z Z ⟨BX.refl _ _, Z⟩)
  ·
   intro w134 D hS131 hd131
   exact dg_sub (E' := [(24, undef), (23, (.bool false))]) ⟨(dpE hd131 21 Z Z), (dpE hd131 20 Z Z), trivial⟩ (dg_off Z Z Z Z ⟨BX.refl _ _, Z⟩)
  ·
   intro w135 D hS132 hd132
   exact dg_sub (E' := [(23, (.bool false)), (1, (.pointer (some p1)))]) ⟨(dpE hd132 20 Z Z), Z, trivial⟩ (dg_off Z Z Z Z ⟨BX.refl _ _, Z⟩)
  ·
   intro w136 D hS133 hd133
   exact dg_sub (E' := [(26, undef), (23, (.bool false))]) ⟨(dpE hd133 23 Z Z), (dpE hd133 20 Z Z), trivial⟩ (dg_off Z Z Z Z ⟨BX.refl _ _, Z⟩)
  ·
   intro w137 D hS134 hd134
   exact dg_sub (E' := [(27, undef), (23, (.bool false))]) ⟨(dpE hd134 24 Z Z), (dpE hd134 20 Z Z), trivial⟩ (dg_off Z Z Z Z ⟨BX.refl _ _, Z⟩)
  ·
   intro w138 D hS135 hd135
   have hC138 := hC1.no hS135
   refine lw_sub (E' := [(23, (.bool false)), (25, undef), (28, undef), (1, (.pointer (some p1))), (2, (.bool false))]) ⟨(dpE hd135 20 Z Z), (dpE hd135 22 Z Z), (dpE hd135 25 Z Z), Z, Z, trivial⟩ (lw_off Z Z Z Z Z Z (lw_op Z Z Z (ow_pickF Z Z Z (lw_op Z Z Z (ow_assign Z Z (lw_nil (ew_then (cw_ret ?_))))))))
   obtain rfl := Option.some.inj h
   exact ew_ret (res1 Z (.tmp Z)) ⟨_, Z, ((vbool _)), hC138.bx⟩

theorem w_impl_TestsValid {w : World} {M : Nat → Prop} (hG : ARep (RArr 4 RShape) w M shapes ⟨0, 0, none⟩) (hO : ∀ b, M b → b < w.heap.size) {v0p : Value} {a_list : List Test} (h0 : VRep (RSlice RTest) w M a_list v0p) {r : Bool} (h : F.impl_TestsValid a_list = some r) :
  Calls Tryd.prog 56 [v0p].toArray w fun e w' => ∃ v, e = .returned v ∧ VRep RBool w' M r v ∧ BX No w w' := by
 have hC : Cx No w M w M := Cx.start hO (fun _ e => e.elim)
 refine walk (N := 18) Tryd.func56 Z Tryd.ntmps56 Z (cw_seq (cw_region (lw_op Z Z Z (ow_assign Z Z (lw_nil (ew_then (cw_seq (cw_seq (cw_region (lw_op Z Z Z (ow_move Z Z (lw_op Z Z Z (ow_len Z Z h0 Tryd.underlying27 Z (lw_op Z Z Z (ow_gtr Z Z Z fun bb1 hbb1 => lw_nil (ew_then ?_))))))))))))))))
 replace h := cond_some h
 rcases h with ⟨hc1, h⟩ | ⟨hc1, h⟩
 ·
  obtain rfl := hbb1.trans hc1
  refine cw_true Z (cw_seq (cw_region (lw_op Z Z Z (ow_assign Z Z (lw_nil (ew_then (cw_ret (ew_thenR ?_))))))))
  obtain rfl := Option.some.inj h
  exact ew_ret (res1 Z (.tmp Z)) ⟨_, Z, ((vbool _)), hC.bx⟩
 ·
  obtain rfl := hbb1.trans hc1
  refine cw_false Z (cw_skip (ew_then (cw_seq (cw_seq (cw_region (lw_op Z Z Z (ow_move Z Z (lw_op Z Z Z (ow_len Z Z h0 Tryd.underlying27 Z (lw_op Z Z Z (ow_move Z Z (lw_nil (ew_then ?_)))))))))))))
  replace h := bind_some h
  obtain ⟨lr1, hlr1, h⟩ := h
  refine cw_for hlr1 (fun s a w' => ∃ (M' : Nat → Prop), Fits 18 [(8, v0p), (9, (.int .i64 (a_list.length : Int))), (10, (.int .i64 s))] a ∧ Le w M w' M' ∧ Cx No w M w' M') ?_ ?_ ?_
  ·
   intro a ha
   exact ⟨M, ha.sub ⟨Z, Z, Z, trivial⟩, Le.refl _ _, hC⟩
  ·
   rintro k1 a w1 sr1 ⟨M1, hF1, hl1, hC1⟩ hb1 hR1
   refine cw_at (E := [(8, v0p), (9, (.int .i64 (a_list.length : Int))), (10, (.int .i64 k1))]) hF1 (cw_seq (cw_region (lw_op Z Z Z (ow_lss Z Z Z fun bb2 hbb2 => lw_nil (ew_then (cw_seq ?_))))))
   replace hb1 := cond_some hb1
   rcases hb1 with ⟨hc2, hb1⟩ | ⟨hc2, hb1⟩
   ·
    obtain rfl := hbb2.trans hc2
    refine cw_true Z (cw_skip (ew_then (cw_seq (cw_block (cw_seq (cw_region ?_))))))
    replace hb1 := bind_some hb1
    obtain ⟨x1, hx1, hb1⟩ := hb1
    refine lw_op Z Z Z (ow_indexSlice (R := RTest) Z Z Z (VRep.mono hl1 h0) Tryd.underlying27 (Tryd.sizeOf31 _) hx1 fun p1 hp1 => lw_op Z Z Z (ow_load (R := RTest) Z Z hp1 (Tryd.sizeOf31 _) (Tryd.isAgg31 _) fun v2 hv2 => lw_allocStore (R := RTest) Z Z Z Z Z Z Z Tryd.zeroValue31 Tryd.sizeOf31 Z Z Z (by simp) hv2 hC1 fun p2 w2 hp2 hb2 hl2 hC2 => lw_nil (ew_then (cw_seq (cw_region (lw_op Z Z Z (ow_load (R := RTest) Z Z hp2 (Tryd.sizeOf31 _) (Tryd.isAgg31 _) fun v3 hv3 => ?_)))))))
    replace hb1 := bind_some hb1
    obtain ⟨x2, hx2, hb1⟩ := hb1
    refine lw_op Z Z Z (ow_call Z Z Tryd.call85 (w_impl_TestValid (hG.mono (hl1.trans hl2)) hC2.old hv3 hx2) fun v4 w3 hv4 => ?_)
    obtain ⟨hv4, hb3⟩ := hv4
    have hl3 := Le.no M1 hb3
    have hC3 := hC2.no hb3
    obtain rfl := vbool_eq hv4
    refine lw_op Z Z Z (ow_not Z Z (lw_nil (ew_then ?_)))
    replace hb1 := cond_some hb1
    rcases hb1 with ⟨hc3, hb1⟩ | ⟨hc3, hb1⟩
    ·
     subst hc3
     refine cw_false Z (cw_skip (ew_blockN (ew_then (cw_region (lw_op Z Z Z (ow_add Z Z Z (lw_op Z Z Z (ow_move Z Z (lw_nil ?_)))))))))
     have lz1 := ((hl1.trans hl2).trans hl3)
     exact ew_nxt (W (k1 + 1)) hb1 fun a ha => ⟨M1, (ha.sub ⟨Z, Z, Z, trivial⟩), lz1, hC3⟩
    ·
     subst hc3
     refine cw_true Z (cw_seq (cw_region (lw_op Z Z Z (ow_assign Z Z (lw_nil (ew_then (cw_ret (ew_blockR (ew_thenR (ew_thenR (ew_blockR (ew_brkR (ew_thenR ?_)))))))))))))
     have e1 := hR1 _ (Option.some.inj hb1).symm
     subst e1
     obtain rfl := Option.some.inj h
     exact ew_ret (res1 Z (.tmp Z)) ⟨_, Z, ((vbool _)), hC3.bx⟩
   ·
    obtain rfl := hbb2.trans hc2
    exact cw_false Z (cw_exit (ew_thenX (ew_thenX (ew_blockX (ew_brk k1 hb1 fun a ha => ⟨M1, (ha.sub ⟨Z, Z, Z, trivial⟩), hl1, hC1⟩)))))
  ·
   rintro k2 a w4 hlr2 ⟨M2, hF2, hl4, hC4⟩
   subst hlr2
   refine ew_at (E := [(8, v0p), (9, (.int .i64 (a_list.length : Int))), (10, (.int .i64 k2))]) hF2 (ew_then (cw_seq (cw_region (lw_op Z Z Z (ow_assign Z Z (lw_nil (ew_then (cw_ret ?_))))))))
   obtain rfl := Option.some.inj h
   exact ew_ret (res1 Z (.tmp Z)) ⟨_, Z, ((vbool _)), hC4.bx⟩

theorem w_impl_RuleValid {w : World} {M : Nat → Prop} (hG : ARep (RArr 4 RShape) w M shapes ⟨0, 0, none⟩) (hO : ∀ b, M b → b < w.heap.size) {v0p : Value} {a_r : Rule} (h0 : VRep RRule w M a_r v0p) {r : Bool} (h : F.impl_RuleValid a_r = some r) :
  Calls Tryd.prog 76 [v0p].toArray w fun e w' => ∃ v, e = .returned v ∧ VRep RBool w' M r v ∧ BX No w w' := by
 have hC : Cx No w M w M := Cx.start hO (fun _ e => e.elim)
 refine walk (N := 27) Tryd.func76 Z Tryd.ntmps76 Z (cw_seq (cw_region (lw_op Z Z Z (ow_box (R := RRule) Z Z h0 hC fun p1 w1 hp1 hb1 hl1 hC1 => lw_op Z Z Z (ow_assign Z Z (lw_nil (ew_then (cw_seq (cw_seq (cw_region (lw_op Z Z Z (ow_fieldAddr Z Z Tryd.underlying42 Z (Tryd.sizeOf27 _) (lw_op Z Z Z (ow_load (R := (RSlice RTest)) Z Z (hp1.fld fld_Rule_Tests) (Tryd.sizeOf27 _) (Tryd.isAgg27 _) fun v1 hv1 => ?_))))))))))))))
 replace h := bind_some h
 obtain ⟨x1, hx1, h⟩ := h
 refine lw_op Z Z Z (ow_call Z Z Tryd.call56 (w_impl_TestsValid (hG.mono hl1) hC1.old hv1 hx1) fun v2 w2 hv2 => ?_)
 obtain ⟨hv2, hb2⟩ := hv2
 have hl2 := Le.no M hb2
 have hC2 := hC1.no hb2
 obtain rfl := vbool_eq hv2
 refine lw_op Z Z Z (ow_not Z Z (lw_nil (ew_then ?_)))
 replace h := cond_some h
 rcases h with ⟨hc1, h⟩ | ⟨hc1, h⟩
 ·
  subst hc1
  refine cw_false Z (cw_skip (ew_then (cw_seq (cw_seq (cw_region (lw_op Z Z Z (ow_fieldAddr Z Z Tryd.underlying42 Z (Tryd.sizeOf3 _) (lw_op Z Z Z (ow_load (R := RInt) Z Z (ARep.mono hl2 (hp1.fld fld_Rule_Action)) (Tryd.sizeOf3 _) (Tryd.isAgg3 _) fun v3 hv3 => ?_)))))))))
  obtain rfl := vint_eq hv3
  refine lw_nil (ew_then (cw_block (cw_seq (cw_region (lw_op Z Z Z (ow_eqlI Z Z Z fun bb1 hbb1 => lw_op Z Z Z (ow_assign Z Z (lw_nil (ew_then ?_)))))))))
  replace h := cond_some h
  rcases h with ⟨hc2, h⟩ | ⟨hc2, h⟩
  ·
   obtain rfl := hbb1.trans hc2
   refine cw_true Z (cw_seq (cw_region (lw_op Z Z Z (ow_fieldAddr Z Z Tryd.underlying42 Z (Tryd.sizeOf3 _) (lw_op Z Z Z (ow_load (R := RInt) Z Z (ARep.mono hl2 (hp1.fld fld_Rule_Chain)) (Tryd.sizeOf3 _) (Tryd.isAgg3 _) fun v4 hv4 => ?_))))))
   obtain rfl := vint_eq hv4
   refine lw_op Z Z Z (ow_geq Z Z Z fun bb2 hbb2 => lw_op Z Z Z (ow_move Z Z ?_))
   replace h := cond_some h
   rcases h with ⟨hc3, h⟩ | ⟨hc3, h⟩
   ·
    obtain rfl := hbb2.trans hc3
    refine lw_on Z Z Z Z Z Z (ow_fieldAddr Z Z Tryd.underlying42 Z (Tryd.sizeOf3 _) (lw_on Z Z Z Z Z Z (ow_load (R := RInt) Z Z (ARep.mono hl2 (hp1.fld fld_Rule_Chain)) (Tryd.sizeOf3 _) (Tryd.isAgg3 _) fun v5 hv5 => ?_)))
    obtain rfl := vint_eq hv5
    refine lw_on Z Z Z Z Z Z (ow_lss Z Z Z fun bb3 hbb3 => lw_op Z Z Z (ow_pickT Z Z Z (lw_op Z Z Z (ow_assign Z Z (lw_nil (ew_then (cw_ret (ew_blockR (ew_thenR ?_)))))))))
    obtain rfl := Option.some.inj h
    exact ew_ret (res1 Z (.tmp Z)) ⟨_, Z, ((vbool_of hbb3)), hC2.bx⟩
   ·
    obtain rfl := hbb2.trans hc3
    refine lw_off Z Z Z Z Z Z (lw_off Z Z Z Z Z Z (lw_off Z Z Z Z Z Z (lw_op Z Z Z (ow_pickF Z Z Z (lw_op Z Z Z (ow_assign Z Z (lw_nil (ew_then (cw_ret (ew_blockR (ew_thenR ?_)))))))))))
    obtain rfl := Option.some.inj h
    exact ew_ret (res1 Z (.tmp Z)) ⟨_, Z, ((vbool _)), hC2.bx⟩
  ·
   obtain rfl := hbb1.trans hc2
   refine cw_false Z (cw_seq (cw_seq (cw_region (lw_op Z Z Z (ow_eqlI Z Z Z fun bb4 hbb4 => lw_op Z Z Z (ow_assign Z Z (lw_nil (ew_then ?_))))))))
   replace h := cond_some h
   rcases h with ⟨hc4, h⟩ | ⟨hc4, h⟩
   ·
    obtain rfl := hbb4.trans hc4
    refine cw_true Z (cw_skip (ew_then (cw_true Z (cw_seq (cw_region (lw_op Z Z Z (ow_fieldAddr Z Z Tryd.underlying42 Z (Tryd.sizeOf3 _) (lw_op Z Z Z (ow_load (R := RInt) Z Z (ARep.mono hl2 (hp1.fld fld_Rule_Chain)) (Tryd.sizeOf3 _) (Tryd.isAgg3 _) fun v6 hv6 => ?_)))))))))
    obtain rfl := vint_eq hv6
    refine lw_op Z Z Z (ow_eqlI Z Z Z fun bb5 hbb5 => lw_op Z Z Z (ow_assign Z Z (lw_nil (ew_then (cw_ret (ew_blockR (ew_thenR ?_)))))))
    obtain rfl := Option.some.inj h
    exact ew_ret (res1 Z (.tmp Z)) ⟨_, Z, ((vbool_of hbb5)), hC2.bx⟩
   ·
    obtain rfl := hbb4.trans hc4
    refine cw_false Z (cw_seq (cw_region (lw_op Z Z Z (ow_eqlI Z Z Z fun bb6 hbb6 => lw_op Z Z Z (ow_assign Z Z (lw_nil (ew_then ?_)))))))
    replace h := cond_some h
    rcases h with ⟨hc5, h⟩ | ⟨hc5, h⟩
    ·
     obtain rfl := hbb6.trans hc5
     refine cw_true Z (cw_skip (ew_then (cw_true Z (cw_seq (cw_region (lw_op Z Z Z (ow_fieldAddr Z Z Tryd.underlying42 Z (Tryd.sizeOf3 _) (lw_op Z Z Z (ow_load (R := RInt) Z Z (ARep.mono hl2 (hp1.fld fld_Rule_Chain)) (Tryd.sizeOf3 _) (Tryd.isAgg3 _) fun v7 hv7 => ?_)))))))))
     obtain rfl := vint_eq hv7
     refine lw_op Z Z Z (ow_eqlI Z Z Z fun bb7 hbb7 => lw_op Z Z Z (ow_assign Z Z (lw_nil (ew_then (cw_ret (ew_blockR (ew_thenR ?_)))))))
     obtain rfl := Option.some.inj h
     exact ew_ret (res1 Z (.tmp Z)) ⟨_, Z, ((vbool_of hbb7)), hC2.bx⟩
    ·
     obtain rfl := hbb6.trans hc5
     refine cw_false Z (cw_seq (cw_region (lw_op Z Z Z (ow_eqlI Z Z Z fun bb8 hbb8 => lw_op Z Z Z (ow_assign Z Z (lw_nil (ew_then ?_)))))))
     replace h := cond_some h
     rcases h with ⟨hc6, h⟩ | ⟨hc6, h⟩
     ·
      obtain rfl := hbb8.trans hc6
      refine cw_true Z (cw_skip (ew_then (cw_true Z (cw_seq (cw_region (lw_op Z Z Z (ow_fieldAddr Z Z Tryd.underlying42 Z (Tryd.sizeOf3 _) (lw_op Z Z Z (ow_load (R := RInt) Z Z (ARep.mono hl2 (hp1.fld fld_Rule_Chain)) (Tryd.sizeOf3 _) (Tryd.isAgg3 _) fun v8 hv8 => ?_)))))))))
      obtain rfl := vint_eq hv8
      refine lw_op Z Z Z (ow_eqlI Z Z Z fun bb9 hbb9 => lw_op Z Z Z (ow_assign Z Z (lw_nil (ew_then (cw_ret (ew_blockR (ew_thenR ?_)))))))
      obtain rfl := Option.some.inj h
      exact ew_ret (res1 Z (.tmp Z)) ⟨_, Z, ((vbool_of hbb9)), hC2.bx⟩
     ·
      obtain rfl := hbb8.trans hc6
      refine cw_false Z (cw_region (lw_op Z Z Z (ow_eqlI Z Z Z fun bb10 hbb10 => lw_op Z Z Z (ow_assign Z Z (lw_nil (ew_then ?_))))))
      replace h := cond_some h
      rcases h with ⟨hc7, h⟩ | ⟨hc7, h⟩
      ·
       obtain rfl := hbb10.trans hc7
       refine cw_true Z (cw_seq (cw_region (lw_op Z Z Z (ow_fieldAddr Z Z Tryd.underlying42 Z (Tryd.sizeOf3 _) (lw_op Z Z Z (ow_load (R := RInt) Z Z (ARep.mono hl2 (hp1.fld fld_Rule_Chain)) (Tryd.sizeOf3 _) (Tryd.isAgg3 _) fun v9 hv9 => ?_))))))
       obtain rfl := vint_eq hv9
       refine lw_op Z Z Z (ow_eqlI Z Z Z fun bb11 hbb11 => lw_op Z Z Z (ow_assign Z Z (lw_nil (ew_then (cw_ret (ew_blockR (ew_thenR ?_)))))))
       obtain rfl := Option.some.inj h
       exact ew_ret (res1 Z (.tmp Z)) ⟨_, Z, ((vbool_of hbb11)), hC2.bx⟩
      ·
       obtain rfl := hbb10.trans hc7
       refine cw_false Z (cw_skip (ew_blockN (ew_then (cw_seq (cw_region (lw_op Z Z Z (ow_assign Z Z (lw_nil (ew_then (cw_ret ?_))))))))))
       obtain rfl := Option.some.inj h
       exact ew_ret (res1 Z (.tmp Z)) ⟨_, Z, ((vbool _)), hC2.bx⟩
 ·
  subst hc1
  refine cw_true Z (cw_seq (cw_region (lw_op Z Z Z (ow_assign Z Z (lw_nil (ew_then (cw_ret (ew_thenR ?_))))))))
  obtain rfl := Option.some.inj h
  exact ew_ret (res1 Z (.tmp Z)) ⟨_, Z, ((vbool _)), hC2.bx⟩

theorem w_impl_RulesValid {w : World} {M : Nat → Prop} (hG : ARep (RArr 4 RShape) w M shapes ⟨0, 0, none⟩) (hO : ∀ b, M b → b < w.heap.size) {v0p : Value} {a_list : List Rule} (h0 : VRep (RSlice RRule) w M a_list v0p) {r : Bool} (h : F.impl_RulesValid a_list = some r) :
  Calls Tryd.prog 66 [v0p].toArray w fun e w' => ∃ v, e = .returned v ∧ VRep RBool w' M r v ∧ BX No w w' := by
 have hC : Cx No w M w M := Cx.start hO (fun _ e => e.elim)
 refine walk (N := 18) Tryd.func66 Z Tryd.ntmps66 Z (cw_seq (cw_region (lw_op Z Z Z (ow_assign Z Z (lw_nil (ew_then (cw_seq (cw_seq (cw_region (lw_op Z Z Z (ow_move Z Z (lw_op Z Z Z (ow_len Z Z h0 Tryd.underlying36 Z (lw_op Z Z Z (ow_gtr Z Z Z fun bb1 hbb1 => lw_nil (ew_then ?_))))))))))))))))
 replace h := cond_some h
 rcases h with ⟨hc1, h⟩ | ⟨hc1, h⟩
 ·
  obtain rfl := hbb1.trans hc1
  refine cw_true Z (cw_seq (cw_region (lw_op Z Z Z (ow_assign Z Z (lw_nil (ew_then (cw_ret (ew_thenR ?_))))))))
  obtain rfl := Option.some.inj h
  exact ew_ret (res1 Z (.tmp Z)) ⟨_, Z, ((vbool _)), hC.bx⟩
 ·
  obtain rfl := hbb1.trans hc1
  refine cw_false Z (cw_skip (ew_then (cw_seq (cw_seq (cw_region (lw_op Z Z Z (ow_move Z Z (lw_op Z Z Z (ow_len Z Z h0 Tryd.underlying36 Z (lw_op Z Z Z (ow_move Z Z (lw_nil (ew_then ?_)))))))))))))
  replace h := bind_some h
  obtain ⟨lr1, hlr1, h⟩ := h
  refine cw_for hlr1 (fun s a w' => ∃ (M' : Nat → Prop), Fits 18 [(8, v0p), (9, (.int .i64 (a_list.length : Int))), (10, (.int .i64 s))] a ∧ Le w M w' M' ∧ Cx No w M w' M') ?_ ?_ ?_
  ·
   intro a ha
   exact ⟨M, ha.sub ⟨Z, Z, Z, trivial⟩, Le.refl _ _, hC⟩
  ·
   rintro k1 a w1 sr1 ⟨M1, hF1, hl1, hC1⟩ hb1 hR1
   refine cw_at (E := [(8, v0p), (9, (.int .i64 (a_list.length : Int))), (10, (.int .i64 k1))]) hF1 (cw_seq (cw_region (lw_op Z Z Z (ow_lss Z Z Z fun bb2 hbb2 => lw_nil (ew_then (cw_seq ?_))))))
   replace hb1 := cond_some hb1
   rcases hb1 with ⟨hc2, hb1⟩ | ⟨hc2, hb1⟩
   ·
    obtain rfl := hbb2.trans hc2
    refine cw_true Z (cw_skip (ew_then (cw_seq (cw_block (cw_seq (cw_region ?_))))))
    replace hb1 := bind_some hb1
    obtain ⟨x1, hx1, hb1⟩ := hb1
    refine lw_op Z Z Z (ow_indexSlice (R := RRule) Z Z Z (VRep.mono hl1 h0) Tryd.underlying36 (Tryd.sizeOf42 _) hx1 fun p1 hp1 => lw_op Z Z Z (ow_load (R := RRule) Z Z hp1 (Tryd.sizeOf42 _) (Tryd.isAgg42 _) fun v2 hv2 => lw_allocStore (R := RRule) Z Z Z Z Z Z Z Tryd.zeroValue42 Tryd.sizeOf42 Z Z Z (by simp) hv2 hC1 fun p2 w2 hp2 hb2 hl2 hC2 => lw_nil (ew_then (cw_seq (cw_region (lw_op Z Z Z (ow_load (R := RRule) Z Z hp2 (Tryd.sizeOf42 _) (Tryd.isAgg42 _) fun v3 hv3 => ?_)))))))
    replace hb1 := bind_some hb1
    obtain ⟨x2, hx2, hb1⟩ := hb1
    refine lw_op Z Z Z (ow_call Z Z Tryd.call76 (w_impl_RuleValid (hG.mono (hl1.trans hl2)) hC2.old hv3 hx2) fun v4 w3 hv4 => ?_)
    obtain ⟨hv4, hb3⟩ := hv4
    have hl3 := Le.no M1 hb3
    have hC3 := hC2.no hb3
    obtain rfl := vbool_eq hv4
    refine lw_op Z Z Z (ow_not Z Z (lw_nil (ew_then ?_)))
    replace hb1 := cond_some hb1
    rcases hb1 with ⟨hc3, hb1⟩ | ⟨hc3, hb1⟩
    ·
     subst hc3
     refine cw_false Z (cw_skip (ew_blockN (ew_then (cw_region (lw_op Z Z Z (ow_add Z Z Z (lw_op Z Z Z (ow_move Z Z (lw_nil ?_)))))))))
     have lz1 := ((hl1.trans hl2).trans hl3)
     exact ew_nxt (W (k1 + 1)) hb1 fun a ha => ⟨M1, (ha.sub ⟨Z, Z, Z, trivial⟩), lz1, hC3⟩
    ·
     subst hc3
     refine cw_true Z (cw_seq (cw_region (lw_op Z Z Z (ow_assign Z Z (lw_nil (ew_then (cw_ret (ew_blockR (ew_thenR (ew_thenR (ew_blockR (ew_brkR (ew_thenR ?_)))))))))))))
     have e1 := hR1 _ (Option.some.inj hb1).symm
     subst e1
     obtain rfl := Option.some.inj h
     exact ew_ret (res1 Z (.tmp Z)) ⟨_, Z, ((vbool _)), hC3.bx⟩
   ·
    obtain rfl := hbb2.trans hc2
    exact cw_false Z (cw_exit (ew_thenX (ew_thenX (ew_blockX (ew_brk k1 hb1 fun a ha => ⟨M1, (ha.sub ⟨Z, Z, Z, trivial⟩), hl1, hC1⟩)))))
  ·
   rintro k2 a w4 hlr2 ⟨M2, hF2, hl4, hC4⟩
   subst hlr2
   refine ew_at (E := [(8, v0p), (9, (.int .i64 (a_list.length : Int))), (10, (.int .i64 k2))]) hF2 (ew_then (cw_seq (cw_region (lw_op Z Z Z (ow_assign Z Z (lw_nil (ew_then (cw_ret ?_))))))))
   obtain rfl := Option.some.inj h
   exact ew_ret (res1 Z (.tmp Z)) ⟨_, Z, ((vbool _)), hC4.bx⟩

theorem w_impl_callsIn {w : World} {M : Nat → Prop} (_hG : ARep (RArr 4 RShape) w M shapes ⟨0, 0, none⟩) (hO : ∀ b, M b → b < w.heap.size) {v0p : Value} {a_rules : List Rule} (h0 : VRep (RSlice RRule) w M a_rules v0p) {r : (List Int)} (h : F.impl_callsIn a_rules = some r) :
  Calls Tryd.prog 67 [v0p].toArray w fun e w' => ∃ v, e = .returned v ∧ VRep (RSlice RInt) w' M r v ∧ BX No w w' := by
 obtain ⟨i3, hi3, hz3, hs3, hy3⟩ := info3
 have hC : Cx No w M w M := Cx.start hO (fun _ e => e.elim)
 clear _hG
 refine walk (N := 34) Tryd.func67 Z Tryd.ntmps67 Z (cw_seq (cw_region (lw_op Z Z Z (ow_assign Z Z (lw_nil (ew_then (cw_seq (cw_region (lw_op Z Z Z (ow_alloc Z (Tryd.zeroValue121 _) hC fun g1 w1 hg1 hg2 ho1 hb1 hl1 hC1 => ?_))))))))))
 have hm1 : (Add g1 M) g1 := .inl Z
 have ho2 : OwnA (RArr 5 RBool) w1 (Add g1 M) g1 121 [false, false, false, false, false] := OwnA.of ho1 ⟨Z, ⟨_, _, Z, (vbool _).cells, _, _, Z, (vbool _).cells, _, _, Z, (vbool _).cells, _, _, Z, (vbool _).cells, _, _, Z, (vbool _).cells, Z⟩⟩
 refine lw_nil (ew_then (cw_seq (cw_seq (cw_region (lw_op Z Z Z (ow_move Z Z (lw_op Z Z Z (ow_len Z Z (VRep.mono hl1 h0) Tryd.underlying36 Z (lw_op Z Z Z (ow_move Z Z (lw_nil (ew_then ?_))))))))))))
 replace h := bind_some h
 obtain ⟨lr1, hlr1, h⟩ := h
 refine cw_for hlr1 (fun s a w' => ∃ (M' : Nat → Prop), Fits 34 [(3, (.pointer (some ⟨g1, 0, none⟩))), (9, v0p), (10, (.int .i64 (a_rules.length : Int))), (11, (.int .i64 s.1))] a ∧ Le w1 (Add g1 M) w' M' ∧ Cx No w M w' M' ∧ OwnA (RArr 5 RBool) w' M' g1 121 s.2 ∧ M' g1) ?_ ?_ ?_
 ·
  intro a ha
  exact ⟨(Add g1 M), ha.sub ⟨Z, Z, Z, Z, trivial⟩, Le.refl _ _, hC1, ho2, hm1⟩
 ·
  rintro ⟨k1, y1⟩ a w2 sr1 ⟨M1, hF1, hl2, hC2, ho3, hm2⟩ hb2 hR1
  refine cw_at (E := [(3, (.pointer (some ⟨g1, 0, none⟩))), (9, v0p), (10, (.int .i64 (a_rules.length : Int))), (11, (.int .i64 k1))]) hF1 (cw_seq (cw_region (lw_op Z Z Z (ow_lss Z Z Z fun bb1 hbb1 => lw_nil (ew_then (cw_seq ?_))))))
  replace hb2 := cond_some hb2
  rcases hb2 with ⟨hc1, hb2⟩ | ⟨hc1, hb2⟩
  ·
   obtain rfl := hbb1.trans hc1
   refine cw_true Z (cw_skip (ew_then (cw_seq (cw_block (cw_seq (cw_region ?_))))))
   replace hb2 := bind_some hb2
   obtain ⟨x1, hx1, hb2⟩ := hb2
   refine lw_op Z Z Z (ow_indexSlice (R := RRule) Z Z Z (VRep.mono (hl1.trans hl2) h0) Tryd.underlying36 (Tryd.sizeOf42 _) hx1 fun p1 hp1 => lw_op Z Z Z (ow_load (R := RRule) Z Z hp1 (Tryd.sizeOf42 _) (Tryd.isAgg42 _) fun v3 hv3 => lw_allocStore (R := RRule) Z Z Z Z Z Z Z Tryd.zeroValue42 Tryd.sizeOf42 Z Z Z (by simp) hv3 hC2 fun p2 w3 hp2 hb3 hl3 hC3 => ?_))
   have ho4 := ho3.no hb3 hl3
   refine lw_nil (ew_then (cw_seq (cw_region (lw_op Z Z Z (ow_fieldAddr Z Z Tryd.underlying42 Z (Tryd.sizeOf3 _) (lw_op Z Z Z (ow_load (R := RInt) Z Z (hp2.fld fld_Rule_Action) (Tryd.sizeOf3 _) (Tryd.isAgg3 _) fun v4 hv4 => ?_)))))))
   obtain rfl := vint_eq hv4
   refine lw_op Z Z Z (ow_eqlI Z Z Z fun bb2 hbb2 => lw_nil (ew_then ?_))
   replace hb2 := cond_some hb2
   rcases hb2 with ⟨hc2, hb2⟩ | ⟨hc2, hb2⟩
   ·
    obtain rfl := hbb2.trans hc2
    refine cw_true Z (cw_region (lw_op Z Z Z (ow_fieldAddr Z Z Tryd.underlying42 Z (Tryd.sizeOf3 _) (lw_op Z Z Z (ow_load (R := RInt) Z Z (hp2.fld fld_Rule_Chain) (Tryd.sizeOf3 _) (Tryd.isAgg3 _) fun v5 hv5 => ?_)))))
    obtain rfl := vint_eq hv5
    replace hb2 := bind_some hb2
    obtain ⟨x2, hx2, hb2⟩ := hb2
    refine lw_op Z Z Z (ow_indexA (R := RBool) Z Z Z Z ho4 Tryd.underlying121 (Tryd.sizeOf4 _) hx2 (lw_op0 Z Z (ow_storeElA (X := No) (R := RBool) Z Z Z Z ho4 hx2 (Tryd.sizeOf4 _) (vbool _) hm2 (.inl hg2) hC3 fun w4 ho5 hb4 hl4 hC4 => lw_nil (ew_blockN (ew_then (cw_region (lw_op Z Z Z (ow_add Z Z Z (lw_op Z Z Z (ow_move Z Z (lw_nil ?_)))))))))))
    have lz1 := ((hl2.trans hl3).trans hl4)
    exact ew_nxt ((W (k1 + 1)), (List.set y1 (x1.Chain : Int).toNat true)) hb2 fun a ha => ⟨M1, (ha.sub ⟨Z, Z, Z, Z, trivial⟩), lz1, hC4, ho5, hm2⟩
   ·
    obtain rfl := hbb2.trans hc2
    exact cw_false Z (cw_skip (ew_blockN (ew_then (cw_region (lw_op Z Z Z (ow_add Z Z Z (lw_op Z Z Z (ow_move Z Z (lw_nil (ew_nxt ((W (k1 + 1)), y1) hb2 fun a ha => ⟨M1, (ha.sub ⟨Z, Z, Z, Z, trivial⟩), (hl2.trans hl3), hC3, ho4, hm2⟩))))))))))
  ·
   obtain rfl := hbb1.trans hc1
   exact cw_false Z (cw_exit (ew_thenX (ew_thenX (ew_blockX (ew_brk (k1, y1) hb2 fun a ha => ⟨M1, (ha.sub ⟨Z, Z, Z, Z, trivial⟩), hl2, hC2, ho3, hm2⟩)))))
 ·
  rintro ⟨k2, y2⟩ a w5 hlr2 ⟨M2, hF2, hl5, hC5, ho6, hm3⟩
  subst hlr2
  refine ew_at (E := [(3, (.pointer (some ⟨g1, 0, none⟩))), (9, v0p), (10, (.int .i64 (a_rules.length : Int))), (11, (.int .i64 k2))]) hF2 (ew_then (cw_seq (cw_region (lw_op Z Z Z (ow_assign Z Z (lw_nil (ew_then (cw_seq (cw_seq (cw_region (lw_op Z Z Z (ow_loadA (R := (RArr 5 RBool)) Z Z Z ho6 (Tryd.sizeOf121 _) (Tryd.isAgg121 _) fun v8 hv8 => lw_op Z Z Z (ow_move Z Z (lw_nil (ew_then ?_)))))))))))))))
  have hr1 : OwnRow RInt w.heap.size 3 w5 M2 ([] : List Int) (.slice none 0 0) := ownrow_nil
  replace h := bind_some h
  obtain ⟨lr2, hlr3, h⟩ := h
  refine cw_for hlr3 (fun s a w' => ∃ (M' : Nat → Prop) (v0c : Value), Fits 34 [(6, v0c), (22, v8), (23, (.int .i64 s.2))] a ∧ Le w5 M2 w' M' ∧ Cx No w M w' M' ∧ OwnRow RInt w.heap.size 3 w' M' s.1 v0c) ?_ ?_ ?_
  ·
   intro a ha
   exact ⟨M2, (.slice none 0 0), ha.sub ⟨Z, Z, Z, trivial⟩, Le.refl _ _, hC5, hr1⟩
  ·
   rintro ⟨y3, k3⟩ a w6 sr2 ⟨M3, v9, hF3, hl6, hC6, hw1⟩ hb5 hR2
   refine cw_at (E := [(6, v9), (22, v8), (23, (.int .i64 k3))]) hF3 (cw_seq (cw_region (lw_op Z Z Z (ow_lss Z Z Z fun bb3 hbb3 => lw_nil (ew_then (cw_seq ?_))))))
   replace hb5 := cond_some hb5
   rcases hb5 with ⟨hc3, hb5⟩ | ⟨hc3, hb5⟩
   ·
    obtain rfl := hbb3.trans hc3
    refine cw_true Z (cw_skip (ew_then (cw_seq (cw_block (cw_seq (cw_region (lw_op Z Z Z (ow_move Z Z ?_))))))))
    replace hb5 := bind_some hb5
    obtain ⟨x3, hx3, hb5⟩ := hb5
    refine lw_op Z Z Z (ow_index (R := RBool) Z Z Z (VRep.mono hl6 hv8) Tryd.underlying121 (Tryd.sizeOf4 _) (Tryd.isAgg4 _) hx3 fun v11 hv11 => ?_)
    obtain rfl := vbool_eq hv11
    refine lw_op Z Z Z (ow_assign Z Z (lw_op Z Z Z (ow_assign Z Z (lw_nil (ew_then (cw_seq (cw_region (lw_op Z Z Z (ow_move Z Z (lw_nil (ew_then ?_)))))))))))
    replace hb5 := cond_some hb5
    rcases hb5 with ⟨hc4, hb5⟩ | ⟨hc4, hb5⟩
    ·
     subst hc4
     refine cw_true Z (cw_region (lw_op Z Z Z (ow_move Z Z (lw_op Z Z Z (ow_move Z Z (lw_op Z Z Z (ow_buildSlice (R := RInt) (xs := [k3]) (cs := #[(.int .i64 k3)]) (e := 3) Z Z (by kernel_rfl) Z Z ⟨_, _, Z, (vint _).cells, Z⟩ hC6 fun p3 w7 hw2 hb6 hl7 hC7 => ?_)))))))
     have hr2 := hw1.no hb6
     replace hb5 := bind_some hb5
     obtain ⟨z1, hz1, hb5⟩ := hb5
     refine lw_op Z Z Z (ow_append (R := RInt) Z Z Z Z Tryd.underlying52 hi3 hz3 hs3 hy3 Z Z Z Z hr2 hw2 hz1 hC7 fun v12 w8 M4 hr3 hb7 hl8 hC8 hM1 hat1 => lw_op Z Z Z (ow_assign Z Z (lw_nil (ew_blockN (ew_then (cw_region (lw_op Z Z Z (ow_add Z Z Z (lw_op Z Z Z (ow_move Z Z (lw_nil ?_)))))))))))
     have lz2 := ((hl6.trans hl7).trans hl8)
     exact ew_nxt (z1, (W (k3 + 1))) hb5 fun a ha => ⟨M4, v12, (ha.sub ⟨Z, Z, Z, trivial⟩), lz2, hC8, hr3⟩
    ·
     subst hc4
     exact cw_false Z (cw_skip (ew_blockN (ew_then (cw_region (lw_op Z Z Z (ow_add Z Z Z (lw_op Z Z Z (ow_move Z Z (lw_nil (ew_nxt (y3, (W (k3 + 1))) hb5 fun a ha => ⟨M3, v9, (ha.sub ⟨Z, Z, Z, trivial⟩), hl6, hC6, hw1⟩))))))))))
   ·
    obtain rfl := hbb3.trans hc3
    exact cw_false Z (cw_exit (ew_thenX (ew_thenX (ew_blockX (ew_brk (y3, k3) hb5 fun a ha => ⟨M3, v9, (ha.sub ⟨Z, Z, Z, trivial⟩), hl6, hC6, hw1⟩)))))
  ·
   rintro ⟨y4, k4⟩ a w9 hlr4 ⟨M5, v13, hF4, hl9, hC9, hw3⟩
   subst hlr4
   refine ew_at (E := [(6, v13), (22, v8), (23, (.int .i64 k4))]) hF4 (ew_then (cw_seq (cw_region (lw_op Z Z Z (ow_move Z Z (lw_op Z Z Z (ow_assign Z Z (lw_nil (ew_then (cw_ret ?_))))))))))
   obtain rfl := Option.some.inj h
   exact ew_ret (res1 Z (.tmp Z)) ⟨_, Z, (hw3.freezeBack hC9 hO), hC9.bx⟩

theorem w_impl_visitCalls (n_ : Nat) : ∀ {w : World} {M : Nat → Prop} (hG : ARep (RArr 4 RShape) w M shapes ⟨0, 0, none⟩) (hO : ∀ b, M b → b < w.heap.size) {v0p : Value} {a_chains : List (List Rule)} (h0 : VRep (RSlice (RSlice RRule)) w M a_chains v0p) {a_chain : Int} {g : Nat} {a_colours : List Int} (hown : OwnA (RArr 5 RInt) w M g 96 a_colours) (hgM : M g) {r : Bool × (List Int)} (h : F.impl_visitCalls n_ a_chains a_chain a_colours = some r),
  Calls Tryd.prog 73 [v0p, (.int .i64 a_chain), (.pointer (some ⟨g, 0, none⟩))].toArray w fun e w' => ∃ v, e = .returned v ∧ (VRep RBool w' M r.1 v ∧ OwnA (RArr 5 RInt) w' M g 96 r.2) ∧ BX (One g) w w' := by
 induction n_ with
 | zero =>
  intro w M hG hO v0p a_chains h0 a_chain g a_colours hown hgM r h
  exact (Option.some_ne_none _ (show (none : Option (Bool × (List Int))) = some r from h).symm).elim
 | succ n_ ih =>
 intro w M hG hO v0p a_chains h0 a_chain g a_colours hown hgM r h
 have hX : ∀ b, (One g) b → M b := fun b e => e ▸ hgM
 have hC : Cx (One g) w M w M := Cx.start hO hX
 refine walk (N := 48) Tryd.func73 Z Tryd.ntmps73 Z (cw_seq (cw_region (lw_op Z Z Z (ow_assign Z Z (lw_nil (ew_then (cw_seq (cw_seq (cw_region (lw_op Z Z Z (ow_move Z Z (lw_op Z Z Z (ow_move Z Z (lw_op Z Z Z (ow_len Z Z h0 Tryd.underlying43 Z (lw_op Z Z Z (ow_geq Z Z Z fun bb1 hbb1 => lw_nil (ew_then ?_))))))))))))))))))
 replace h := cond_some h
 rcases h with ⟨hc1, h⟩ | ⟨hc1, h⟩
 ·
  obtain rfl := hbb1.trans hc1
  refine cw_true Z (cw_seq (cw_region (lw_op Z Z Z (ow_assign Z Z (lw_nil (ew_then (cw_ret (ew_thenR ?_))))))))
  obtain rfl := Option.some.inj h
  exact ew_ret (res1 Z (.tmp Z)) ⟨_, Z, ⟨((vbool _)), (hown.mono hC.back)⟩, hC.bx⟩
 ·
  obtain rfl := hbb1.trans hc1
  refine cw_false Z (cw_skip (ew_then (cw_seq (cw_seq (cw_region (lw_op Z Z Z (ow_move Z Z (lw_op Z Z Z (ow_move Z Z (lw_op Z Z Z (ow_nilCheck Z Z ?_)))))))))))
  replace h := bind_some h
  obtain ⟨x1, hx1, h⟩ := h
  refine lw_op Z Z Z (ow_indexA (R := RInt) Z Z Z Z hown Tryd.underlying96 (Tryd.sizeOf3 _) hx1 (lw_op Z Z Z (ow_loadElA (R := RInt) Z Z Z hown hx1 (Tryd.sizeOf3 _) (Tryd.isAgg3 _) fun v1 hv1 => ?_)))
  obtain rfl := vint_eq hv1
  refine lw_nil (ew_then (cw_block (cw_seq (cw_region (lw_op Z Z Z (ow_eqlI Z Z Z fun bb2 hbb2 => lw_op Z Z Z (ow_assign Z Z (lw_nil (ew_then ?_)))))))))
  replace h := cond_some h
  rcases h with ⟨hc2, h⟩ | ⟨hc2, h⟩
  ·
   obtain rfl := hbb2.trans hc2
   refine cw_true Z (cw_seq (cw_region (lw_op Z Z Z (ow_assign Z Z (lw_nil (ew_then (cw_ret (ew_blockR (ew_thenR ?_)))))))))
   obtain rfl := Option.some.inj h
   exact ew_ret (res1 Z (.tmp Z)) ⟨_, Z, ⟨((vbool _)), (hown.mono hC.back)⟩, hC.bx⟩
  ·
   obtain rfl := hbb2.trans hc2
   refine cw_false Z (cw_seq (cw_region (lw_op Z Z Z (ow_eqlI Z Z Z fun bb3 hbb3 => lw_op Z Z Z (ow_assign Z Z (lw_nil (ew_then ?_)))))))
   replace h := cond_some h
   rcases h with ⟨hc3, h⟩ | ⟨hc3, h⟩
   ·
    obtain rfl := hbb3.trans hc3
    refine cw_true Z (cw_seq (cw_region (lw_op Z Z Z (ow_assign Z Z (lw_nil (ew_then (cw_ret (ew_blockR (ew_thenR ?_)))))))))
    obtain rfl := Option.some.inj h
    exact ew_ret (res1 Z (.tmp Z)) ⟨_, Z, ⟨((vbool _)), (hown.mono hC.back)⟩, hC.bx⟩
   ·
    obtain rfl := hbb3.trans hc3
    refine cw_false Z (cw_skip (ew_blockN (ew_then (cw_seq (cw_region (lw_op Z Z Z (ow_move Z Z (lw_op Z Z Z (ow_move Z Z (lw_op Z Z Z (ow_nilCheck Z Z (lw_op Z Z Z (ow_indexA (R := RInt) Z Z Z Z hown Tryd.underlying96 (Tryd.sizeOf3 _) hx1 (lw_op0 Z Z (ow_storeElA (X := (One g)) (R := RInt) Z Z Z Z hown hx1 (Tryd.sizeOf3 _) (vint _) hgM (.inr Z) hC fun w1 ho1 hb1 hl1 hC1 => lw_nil (ew_then (cw_seq (cw_region (lw_op Z Z Z (ow_assign Z Z (lw_nil (ew_then (cw_seq (cw_seq (cw_region (lw_op Z Z Z (ow_move Z Z (lw_op Z Z Z (ow_move Z Z ?_)))))))))))))))))))))))))))))
    replace h := bind_some h
    obtain ⟨x2, hx2, h⟩ := h
    refine lw_op Z Z Z (ow_indexSlice (R := (RSlice RRule)) Z Z Z (VRep.mono hl1 h0) Tryd.underlying43 (Tryd.sizeOf36 _) hx2 fun p1 hp1 => lw_op Z Z Z (ow_load (R := (RSlice RRule)) Z Z hp1 (Tryd.sizeOf36 _) (Tryd.isAgg36 _) fun v2 hv2 => ?_))
    replace h := bind_some h
    obtain ⟨x3, hx3, h⟩ := h
    refine lw_op Z Z Z (ow_call Z Z Tryd.call67 (w_impl_callsIn (hG.mono hl1) hC1.old hv2 hx3) fun v3 w2 hv3 => ?_)
    obtain ⟨hv3, hb2⟩ := hv3
    have hl2 := Le.no M hb2
    have hC2 := hC1.no hb2
    have ho2 := ho1.no hb2 hl2
    refine lw_op Z Z Z (ow_len Z Z hv3 Tryd.underlying52 Z (lw_op Z Z Z (ow_move Z Z (lw_nil (ew_then ?_)))))
    replace h := bind_some h
    obtain ⟨lr1, hlr1, h⟩ := h
    refine cw_for hlr1 (fun s a w' => ∃ (M' : Nat → Prop), Fits 48 [(0, v0p), (1, (.int .i64 a_chain)), (2, (.pointer (some ⟨g, 0, none⟩))), (7, (.bool s.1)), (31, v3), (32, (.int .i64 (x3.length : Int))), (33, (.int .i64 s.2.1))] a ∧ Le w2 M w' M' ∧ Cx (One g) w M w' M' ∧ OwnA (RArr 5 RInt) w' M' g 96 s.2.2 ∧ M' g) ?_ ?_ ?_
    ·
     intro a ha
     exact ⟨M, ha.sub ⟨Z, Z, Z, Z, Z, Z, Z, trivial⟩, Le.refl _ _, hC2, ho2, hgM⟩
    ·
     rintro ⟨y1, k1, y2⟩ a w3 sr1 ⟨M1, hF1, hl3, hC3, ho3, hm1⟩ hb3 hR1
     refine cw_at (E := [(0, v0p), (1, (.int .i64 a_chain)), (2, (.pointer (some ⟨g, 0, none⟩))), (7, (.bool y1)), (31, v3), (32, (.int .i64 (x3.length : Int))), (33, (.int .i64 k1))]) hF1 (cw_seq (cw_region (lw_op Z Z Z (ow_lss Z Z Z fun bb4 hbb4 => lw_nil (ew_then (cw_seq ?_))))))
     replace hb3 := cond_some hb3
     rcases hb3 with ⟨hc4, hb3⟩ | ⟨hc4, hb3⟩
     ·
      obtain rfl := hbb4.trans hc4
      refine cw_true Z (cw_skip (ew_then (cw_seq (cw_block (cw_seq (cw_region ?_))))))
      replace hb3 := bind_some hb3
      obtain ⟨x4, hx4, hb3⟩ := hb3
      refine lw_op Z Z Z (ow_indexSlice (R := RInt) Z Z Z (VRep.mono hl3 hv3) Tryd.underlying52 (Tryd.sizeOf3 _) hx4 fun p2 hp2 => lw_op Z Z Z (ow_load (R := RInt) Z Z hp2 (Tryd.sizeOf3 _) (Tryd.isAgg3 _) fun v7 hv7 => ?_))
      obtain rfl := vint_eq hv7
      refine lw_op Z Z Z (ow_assign Z Z (lw_nil (ew_then (cw_seq (cw_region (lw_op Z Z Z (ow_move Z Z (lw_op Z Z Z (ow_move Z Z (lw_op Z Z Z (ow_move Z Z ?_)))))))))))
      have lz1 := ((hl1.trans hl2).trans hl3)
      replace hb3 := bind_some hb3
      obtain ⟨x5, hx5, hb3⟩ := hb3
      refine lw_op Z Z Z (ow_call Z Z Tryd.call73 (ih (hG.mono lz1) hC3.old (VRep.mono lz1 h0) ho3 hm1 hx5) fun v8 w4 hv8 => ?_)
      obtain ⟨⟨hv8, ho4⟩, hb4⟩ := hv8
      have hl4 := Le.of_bx M1 hb4 (fun b e => (by rw [show b = g from e]; exact hm1))
      have hC4 := hC3.go hb4 (fun b e => Or.inr e)
      obtain ⟨bb5, hbb5, rfl⟩ := vbool_ex hv8
      refine lw_op Z Z Z (ow_not Z Z (lw_nil (ew_then ?_)))
      replace hb3 := cond_some hb3
      rcases hb3 with ⟨hc5, hb3⟩ | ⟨hc5, hb3⟩
      ·
       obtain rfl := hbb5.trans hc5
       exact cw_false Z (cw_skip (ew_blockN (ew_then (cw_region (lw_op Z Z Z (ow_add Z Z Z (lw_op Z Z Z (ow_move Z Z (lw_nil (ew_nxt (y1, (W (k1 + 1)), x5.2) hb3 fun a ha => ⟨M1, (ha.sub ⟨Z, Z, Z, Z, Z, Z, Z, trivial⟩), (hl3.trans hl4), hC4, ho4, hm1⟩))))))))))
      ·
       obtain rfl := hbb5.trans hc5
       exact cw_true Z (cw_region (lw_op Z Z Z (ow_assign Z Z (lw_nil (ew_blockN (ew_then (cw_region (lw_op Z Z Z (ow_add Z Z Z (lw_op Z Z Z (ow_move Z Z (lw_nil (ew_nxt (false, (W (k1 + 1)), x5.2) hb3 fun a ha => ⟨M1, (ha.sub ⟨Z, Z, Z, Z, Z, Z, Z, trivial⟩), (hl3.trans hl4), hC4, ho4, hm1⟩)))))))))))))
     ·
      obtain rfl := hbb4.trans hc4
      exact cw_false Z (cw_exit (ew_thenX (ew_thenX (ew_blockX (ew_brk (y1, k1, y2) hb3 fun a ha => ⟨M1, (ha.sub ⟨Z, Z, Z, Z, Z, Z, Z, trivial⟩), hl3, hC3, ho3, hm1⟩)))))
    ·
     rintro ⟨y3, k2, y4⟩ a w5 hlr2 ⟨M2, hF2, hl5, hC5, ho5, hm2⟩
     subst hlr2
     refine ew_at (E := [(0, v0p), (1, (.int .i64 a_chain)), (2, (.pointer (some ⟨g, 0, none⟩))), (7, (.bool y3)), (31, v3), (32, (.int .i64 (x3.length : Int))), (33, (.int .i64 k2))]) hF2 (ew_then (cw_seq (cw_region (lw_op Z Z Z (ow_move Z Z (lw_op Z Z Z (ow_move Z Z (lw_op Z Z Z (ow_nilCheck Z Z ?_)))))))))
     replace h := bind_some h
     obtain ⟨x6, hx6, h⟩ := h
     refine lw_op Z Z Z (ow_indexA (R := RInt) Z Z Z Z ho5 Tryd.underlying96 (Tryd.sizeOf3 _) hx6 (lw_op0 Z Z (ow_storeElA (X := (One g)) (R := RInt) Z Z Z Z ho5 hx6 (Tryd.sizeOf3 _) (vint _) hm2 (.inr Z) hC5 fun w6 ho6 hb5 hl6 hC6 => lw_nil (ew_then (cw_seq (cw_region (lw_op Z Z Z (ow_move Z Z (lw_op Z Z Z (ow_assign Z Z (lw_nil (ew_then (cw_ret ?_)))))))))))))
     obtain rfl := Option.some.inj h
     exact ew_ret (res1 Z (.tmp Z)) ⟨_, Z, ⟨((vbool _)), (ho6.mono hC6.back)⟩, hC6.bx⟩

theorem w_impl_acyclic {w : World} {M : Nat → Prop} (hG : ARep (RArr 4 RShape) w M shapes ⟨0, 0, none⟩) (hO : ∀ b, M b → b < w.heap.size) {v0p : Value} {a_chains : List (List Rule)} (h0 : VRep (RSlice (RSlice RRule)) w M a_chains v0p) {r : Bool} (h : F.impl_acyclic a_chains = some r) :
  Calls Tryd.prog 68 [v0p].toArray w fun e w' => ∃ v, e = .returned v ∧ VRep RBool w' M r v ∧ BX No w w' := by
 have hC : Cx No w M w M := Cx.start hO (fun _ e => e.elim)
 refine walk (N := 15) Tryd.func68 Z Tryd.ntmps68 Z (cw_seq (cw_region (lw_op Z Z Z (ow_assign Z Z (lw_nil (ew_then (cw_seq (cw_region (lw_op Z Z Z (ow_alloc Z (Tryd.zeroValue96 _) hC fun g1 w1 hg1 hg2 ho1 hb1 hl1 hC1 => ?_))))))))))
 have hm1 : (Add g1 M) g1 := .inl Z
 have ho2 : OwnA (RArr 5 RInt) w1 (Add g1 M) g1 96 [0, 0, 0, 0, 0] := OwnA.of ho1 ⟨Z, ⟨_, _, Z, (vint _).cells, _, _, Z, (vint _).cells, _, _, Z, (vint _).cells, _, _, Z, (vint _).cells, _, _, Z, (vint _).cells, Z⟩⟩
 refine lw_nil (ew_then (cw_seq (cw_seq (cw_region (lw_op Z Z Z (ow_move Z Z (lw_op Z Z Z (ow_len Z Z (VRep.mono hl1 h0) Tryd.underlying43 Z (lw_op Z Z Z (ow_move Z Z (lw_nil (ew_then ?_))))))))))))
 replace h := bind_some h
 obtain ⟨lr1, hlr1, h⟩ := h
 refine cw_for hlr1 (fun s a w' => ∃ (M' : Nat → Prop), Fits 15 [(0, v0p), (3, (.pointer (some ⟨g1, 0, none⟩))), (6, (.int .i64 (a_chains.length : Int))), (7, (.int .i64 s.1))] a ∧ Le w1 (Add g1 M) w' M' ∧ Cx No w M w' M' ∧ OwnA (RArr 5 RInt) w' M' g1 96 s.2 ∧ M' g1) ?_ ?_ ?_
 ·
  intro a ha
  exact ⟨(Add g1 M), ha.sub ⟨Z, Z, Z, Z, trivial⟩, Le.refl _ _, hC1, ho2, hm1⟩
 ·
  rintro ⟨k1, y1⟩ a w2 sr1 ⟨M1, hF1, hl2, hC2, ho3, hm2⟩ hb2 hR1
  refine cw_at (E := [(0, v0p), (3, (.pointer (some ⟨g1, 0, none⟩))), (6, (.int .i64 (a_chains.length : Int))), (7, (.int .i64 k1))]) hF1 (cw_seq (cw_region (lw_op Z Z Z (ow_lss Z Z Z fun bb1 hbb1 => lw_nil (ew_then (cw_seq ?_))))))
  replace hb2 := cond_some hb2
  rcases hb2 with ⟨hc1, hb2⟩ | ⟨hc1, hb2⟩
  ·
   obtain rfl := hbb1.trans hc1
   refine cw_true Z (cw_skip (ew_then (cw_seq (cw_block (cw_seq (cw_region (lw_op Z Z Z (ow_move Z Z (lw_op Z Z Z (ow_assign Z Z (lw_nil (ew_then (cw_seq (cw_region (lw_op Z Z Z (ow_move Z Z (lw_op Z Z Z (ow_move Z Z ?_))))))))))))))))))
   replace hb2 := bind_some hb2
   obtain ⟨x1, hx1, hb2⟩ := hb2
   refine lw_op Z Z Z (ow_call Z Z Tryd.call73 (w_impl_visitCalls 10 (hG.mono (hl1.trans hl2)) hC2.old (VRep.mono (hl1.trans hl2) h0) ho3 hm2 hx1) fun v3 w3 hv3 => ?_)
   obtain ⟨⟨hv3, ho4⟩, hb3⟩ := hv3
   have hl3 := Le.of_bx M1 hb3 (fun b e => (by rw [show b = g1 from e]; exact hm2))
   have hC3 := hC2.go hb3 (fun b e => (by rw [show b = g1 from e]; exact (.inl hg2)))
   obtain ⟨bb2, hbb2, rfl⟩ := vbool_ex hv3
   refine lw_op Z Z Z (ow_not Z Z (lw_nil (ew_then ?_)))
   replace hb2 := cond_some hb2
   rcases hb2 with ⟨hc2, hb2⟩ | ⟨hc2, hb2⟩
   ·
    obtain rfl := hbb2.trans hc2
    exact cw_false Z (cw_skip (ew_blockN (ew_then (cw_region (lw_op Z Z Z (ow_add Z Z Z (lw_op Z Z Z (ow_move Z Z (lw_nil (ew_nxt ((W (k1 + 1)), x1.2) hb2 fun a ha => ⟨M1, (ha.sub ⟨Z, Z, Z, Z, trivial⟩), (hl2.trans hl3), hC3, ho4, hm2⟩))))))))))
   ·
    obtain rfl := hbb2.trans hc2
    refine cw_true Z (cw_seq (cw_region (lw_op Z Z Z (ow_assign Z Z (lw_nil (ew_then (cw_ret (ew_blockR (ew_thenR (ew_thenR (ew_blockR (ew_brkR (ew_thenR ?_)))))))))))))
    have e1 := hR1 _ (Option.some.inj hb2).symm
    subst e1
    obtain rfl := Option.some.inj h
    exact ew_ret (res1 Z (.tmp Z)) ⟨_, Z, ((vbool _)), hC3.bx⟩
  ·
   obtain rfl := hbb1.trans hc1
   exact cw_false Z (cw_exit (ew_thenX (ew_thenX (ew_blockX (ew_brk (k1, y1) hb2 fun a ha => ⟨M1, (ha.sub ⟨Z, Z, Z, Z, trivial⟩), hl2, hC2, ho3, hm2⟩)))))
 ·
  rintro ⟨k2, y2⟩ a w4 hlr2 ⟨M2, hF2, hl4, hC4, ho5, hm3⟩
  subst hlr2
  refine ew_at (E := [(0, v0p), (3, (.pointer (some ⟨g1, 0, none⟩))), (6, (.int .i64 (a_chains.length : Int))), (7, (.int .i64 k2))]) hF2 (ew_then (cw_seq (cw_region (lw_op Z Z Z (ow_assign Z Z (lw_nil (ew_then (cw_ret ?_))))))))
  obtain rfl := Option.some.inj h
  exact ew_ret (res1 Z (.tmp Z)) ⟨_, Z, ((vbool _)), hC4.bx⟩


end Go.PF
