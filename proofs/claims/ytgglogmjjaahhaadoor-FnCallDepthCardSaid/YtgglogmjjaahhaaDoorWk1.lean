/- The walks; no condition. -/
import Derived.Test.YtgglogmjjaahhaaDoorProg
import Derived.Test.YtgglogmjjaahhaaDoorWk0
import Derived.Test.YtgglogmjjaahhaaDoorPFFresh
set_option maxRecDepth 100000
set_option maxHeartbeats 4000000
namespace Go.PF
open Go Go.RowKit Go.Proofs

theorem w_spec_l20Rule {w : World} {M : Nat → Prop} (hG : ARep (RArr 4 RShape) w M shapes ⟨0, 0, none⟩) (hO : ∀ b, M b → b < w.heap.size) {g : Nat} {Ax : Option Addr} {cx : Nat} {a_xs : List Int} {a_pos : Int} (hxs : VRep (RSlice RU8) w M a_xs (.slice Ax a_xs.length cx)) (hown : Own w g 111 #[.slice Ax a_xs.length cx, .int .i64 a_pos]) (hgM : M g) {a_first : Int} {a_chains : Int} {a_n : Int} {r : Rule × Int} (h : F.spec_l20Rule a_xs a_pos a_first a_chains a_n = some r) :
  Calls Tryd.prog 89 [(.pointer (some ⟨g, 0, none⟩)), (.int .i64 a_first), (.int .i64 a_chains), (.int .i64 a_n)].toArray w fun e w' => ∃ v, e = .returned v ∧ (VRep RRule w' M r.1 v ∧ Own w' g 111 #[.slice Ax a_xs.length cx, .int .i64 r.2]) ∧ BX (One g) w w' := by
 have hX : ∀ b, (One g) b → M b := fun b e => e ▸ hgM
 have hC : Cx (One g) w M w M := Cx.start hO hX
 refine walk (N := 58) Tryd.func89 Z Tryd.ntmps89 Z (cw_seq (cw_region (lw_op Z Z Z (ow_alloc Z (Tryd.zeroValue42 _) hC fun g1 w1 hg1 hg2 ho1 hb1 hl1 hC1 => ?_))))
 have hn1 := Nat.ne_of_lt (Nat.lt_of_lt_of_le hown.lt hg1)
 have ho2 := hown.no hb1
 have hm1 : (Add g1 M) g := .inr hgM
 have hm2 : (Add g1 M) g1 := .inl Z
 refine lw_nil (ew_then (cw_seq (cw_region (lw_op Z Z Z (ow_move Z Z ?_)))))
 replace h := bind_some h
 obtain ⟨x1, hx1, h⟩ := h
 refine lw_op Z Z Z (ow_call Z Z Tryd.call79 (w_spec_l20Tests (hG.mono hl1) hC1.old (VRep.mono hl1 hxs) ho2 hm1 hx1) fun v1 w2 hv1 => ?_)
 obtain ⟨⟨hv1, ho3⟩, hb2⟩ := hv1
 have hl2 := Le.of_bx (Add g1 M) hb2 (fun b e => (by rw [show b = g from e]; exact hm1))
 have hC2 := hC1.go hb2 (fun b e => Or.inr e)
 have ho4 := ho1.go hb2 (fun e => hn1 e.symm)
 refine lw_op Z Z Z (ow_buildSlice (R := RInt) (xs := [1, 1, 2, 2, 3, 3, 4, 5]) (cs := #[(.int .i64 1), (.int .i64 1), (.int .i64 2), (.int .i64 2), (.int .i64 3), (.int .i64 3), (.int .i64 4), (.int .i64 5)]) (e := 3) Z Z (by kernel_rfl) Z Z ⟨_, _, Z, (vint _).cells, _, _, Z, (vint _).cells, _, _, Z, (vint _).cells, _, _, Z, (vint _).cells, _, _, Z, (vint _).cells, _, _, Z, (vint _).cells, _, _, Z, (vint _).cells, _, _, Z, (vint _).cells, Z⟩ hC2 fun p1 w3 hw1 hb3 hl3 hC3 => ?_)
 have ho5 := ho3.no hb3
 have ho6 := ho4.no hb3
 refine lw_op Z Z Z (ow_move Z Z ?_)
 have lz1 := ((hl1.trans hl2).trans hl3)
 replace h := bind_some h
 obtain ⟨x2, hx2, h⟩ := h
 refine lw_op Z Z Z (ow_call Z Z Tryd.call60 (w_spec_l20Rd_pick (hG.mono lz1) hC3.old (VRep.mono lz1 hxs) ho5 hm1 hx2) fun v2 w4 hv2 => ?_)
 obtain ⟨⟨hv2, ho7⟩, hb4⟩ := hv2
 have hl4 := Le.of_bx (Add g1 M) hb4 (fun b e => (by rw [show b = g from e]; exact hm1))
 have hC4 := hC3.go hb4 (fun b e => Or.inr e)
 have ho8 := ho6.go hb4 (fun e => hn1 e.symm)
 obtain rfl := vint_eq hv2
 replace h := bind_some h
 obtain ⟨x3, hx3, h⟩ := h
 refine lw_op Z Z Z (ow_indexSlice (R := RInt) Z Z Z (VRep.mono hl4 hw1) Tryd.underlying52 (Tryd.sizeOf3 _) hx3 fun p2 hp2 => lw_op Z Z Z (ow_load (R := RInt) Z Z hp2 (Tryd.sizeOf3 _) (Tryd.isAgg3 _) fun v3 hv3 => ?_))
 obtain rfl := vint_eq hv3
 obtain ⟨A1, c1, rfl, -⟩ := vslice_shape hv1
 refine lw_op Z Z Z (ow_build (v := .agg #[(.slice A1 x1.1.length c1), (.int .i64 x3), (.int .i64 0)]) Z Z (by kernel_rfl) (lw_op Z Z Z (ow_alloc Z (Tryd.zeroValue42 _) hC4 fun g2 w5 hg3 hg4 ho9 hb5 hl5 hC5 => ?_)))
 have hn2 := Nat.ne_of_lt (Nat.lt_of_lt_of_le ho7.lt hg3)
 have ho10 := ho7.no hb5
 have hm3 : (Add g2 (Add g1 M)) g := .inr hm1
 have hn3 := Nat.ne_of_lt (Nat.lt_of_lt_of_le ho8.lt hg3)
 have ho11 := ho8.no hb5
 have hm4 : (Add g2 (Add g1 M)) g1 := .inr hm2
 have hm5 : (Add g2 (Add g1 M)) g2 := .inl Z
 refine lw_op0 Z Z (ow_store (X := (One g)) (us := [(.slice A1 x1.1.length c1), (.int .i64 x3), (.int .i64 0)]) (cs' := #[(.slice A1 x1.1.length c1), (.int .i64 x3), (.int .i64 0)]) Z Z Z Z ho9 (Tryd.sizeOf42 _) Z Z Z Z hm5 (.inl hg4) Z hC5 fun w6 ho12 hb6 hl6 hC6 => ?_)
 have ho13 := ho10.go hb6 (fun e => hn2 e)
 have ho14 := ho11.go hb6 (fun e => hn3 e)
 refine lw_nil (ew_then (cw_seq (cw_seq (cw_region (lw_op Z Z Z (ow_fieldAddr Z Z Tryd.underlying42 Z (Tryd.sizeOf3 _) (lw_op Z Z Z (ow_loadOwn1 Z Z Z ho12 (Tryd.isAgg3 _) Z (lw_op Z Z Z (ow_eqlI Z Z Z fun bb1 hbb1 => lw_nil (ew_then ?_)))))))))))
 replace h := cond_some h
 rcases h with ⟨hc1, h⟩ | ⟨hc1, h⟩
 ·
  obtain rfl := hbb1.trans hc1
  refine cw_true Z (cw_seq (cw_region (lw_op Z Z Z (ow_move Z Z (lw_op Z Z Z (ow_move Z Z (lw_op Z Z Z (ow_geq Z Z Z fun bb2 hbb2 => lw_nil (ew_then ?_)))))))))
  replace h := cond_some h
  rcases h with ⟨hc2, h⟩ | ⟨hc2, h⟩
  ·
   obtain rfl := hbb2.trans hc2
   refine cw_true Z (cw_region (lw_op Z Z Z (ow_fieldAddr Z Z Tryd.underlying42 Z (Tryd.sizeOf3 _) (lw_op0 Z Z (ow_store (X := (One g)) (us := [(.int .i64 2)]) (cs' := #[(.slice A1 x1.1.length c1), (.int .i64 2), (.int .i64 0)]) Z Z Z Z ho12 (Tryd.sizeOf3 _) Z Z Z Z hm5 (.inl hg4) Z hC6 fun w7 ho15 hb7 hl7 hC7 => ?_)))))
   have ho16 := ho13.go hb7 (fun e => hn2 e)
   have ho17 := ho14.go hb7 (fun e => hn3 e)
   refine lw_nil (ew_then (cw_seq (cw_seq (cw_region (lw_op Z Z Z (ow_move Z Z (lw_op Z Z Z (ow_move Z Z ?_))))))))
   have lz2 := ((((lz1.trans hl4).trans hl5).trans hl6).trans hl7)
   replace h := bind_some h
   obtain ⟨x4, hx4, h⟩ := h
   refine lw_op Z Z Z (ow_call Z Z Tryd.call81 (w_spec_l20Rd_odd (hG.mono lz2) hC7.old (VRep.mono lz2 hxs) ho16 hm3 hx4) fun v4 w8 hv4 => ?_)
   obtain ⟨⟨hv4, ho18⟩, hb8⟩ := hv4
   have hl8 := Le.of_bx (Add g2 (Add g1 M)) hb8 (fun b e => (by rw [show b = g from e]; exact hm3))
   have hC8 := hC7.go hb8 (fun b e => Or.inr e)
   have ho19 := ho17.go hb8 (fun e => hn1 e.symm)
   have ho20 := ho15.go hb8 (fun e => hn2 e.symm)
   obtain ⟨bb3, hbb3, rfl⟩ := vbool_ex hv4
   refine lw_nil (ew_then ?_)
   replace h := cond_some h
   rcases h with ⟨hc3, h⟩ | ⟨hc3, h⟩
   ·
    obtain rfl := hbb3.trans hc3
    refine cw_true Z (cw_seq (cw_region (lw_op Z Z Z (ow_move Z Z ?_))))
    replace h := bind_some h
    obtain ⟨x5, hx5, h⟩ := h
    refine lw_op Z Z Z (ow_call Z Z Tryd.call60 (w_spec_l20Rd_pick (hG.mono (lz2.trans hl8)) hC8.old (VRep.mono (lz2.trans hl8) hxs) ho18 hm3 hx5) fun v5 w9 hv5 => ?_)
    obtain ⟨⟨hv5, ho21⟩, hb9⟩ := hv5
    have hl9 := Le.of_bx (Add g2 (Add g1 M)) hb9 (fun b e => (by rw [show b = g from e]; exact hm3))
    have hC9 := hC8.go hb9 (fun b e => Or.inr e)
    have ho22 := ho19.go hb9 (fun e => hn1 e.symm)
    have ho23 := ho20.go hb9 (fun e => hn2 e.symm)
    obtain rfl := vint_eq hv5
    refine lw_nil (ew_then (cw_block (cw_seq (cw_region (lw_op Z Z Z (ow_eqlI Z Z Z fun bb4 hbb4 => lw_op Z Z Z (ow_assign Z Z (lw_nil (ew_then ?_)))))))))
    replace h := cond_some h
    rcases h with ⟨hc4, h⟩ | ⟨hc4, h⟩
    ·
     obtain rfl := hbb4.trans hc4
     refine cw_true Z (cw_region (lw_op Z Z Z (ow_buildSlice (R := RInt) (xs := [0, 6]) (cs := #[(.int .i64 0), (.int .i64 6)]) (e := 3) Z Z (by kernel_rfl) Z Z ⟨_, _, Z, (vint _).cells, _, _, Z, (vint _).cells, Z⟩ hC9 fun p3 w10 hw3 hb10 hl10 hC10 => ?_)))
     have ho24 := ho21.no hb10
     have ho25 := ho22.no hb10
     have ho26 := ho23.no hb10
     refine lw_op Z Z Z (ow_move Z Z ?_)
     have lz3 := (((lz2.trans hl8).trans hl9).trans hl10)
     replace h := bind_some h
     obtain ⟨x6, hx6, h⟩ := h
     refine lw_op Z Z Z (ow_call Z Z Tryd.call60 (w_spec_l20Rd_pick (hG.mono lz3) hC10.old (VRep.mono lz3 hxs) ho24 hm3 hx6) fun v6 w11 hv6 => ?_)
     obtain ⟨⟨hv6, ho27⟩, hb11⟩ := hv6
     have hl11 := Le.of_bx (Add g2 (Add g1 M)) hb11 (fun b e => (by rw [show b = g from e]; exact hm3))
     have hC11 := hC10.go hb11 (fun b e => Or.inr e)
     have ho28 := ho25.go hb11 (fun e => hn1 e.symm)
     have ho29 := ho26.go hb11 (fun e => hn2 e.symm)
     obtain rfl := vint_eq hv6
     replace h := bind_some h
     obtain ⟨x7, hx7, h⟩ := h
     refine lw_op Z Z Z (ow_indexSlice (R := RInt) Z Z Z (VRep.mono hl11 hw3) Tryd.underlying52 (Tryd.sizeOf3 _) hx7 fun p4 hp4 => lw_op Z Z Z (ow_load (R := RInt) Z Z hp4 (Tryd.sizeOf3 _) (Tryd.isAgg3 _) fun v7 hv7 => ?_))
     obtain rfl := vint_eq hv7
     refine lw_op Z Z Z (ow_fieldAddr Z Z Tryd.underlying42 Z (Tryd.sizeOf3 _) (lw_op0 Z Z (ow_store (X := (One g)) (us := [(.int .i64 x7)]) (cs' := #[(.slice A1 x1.1.length c1), (.int .i64 x7), (.int .i64 0)]) Z Z Z Z ho29 (Tryd.sizeOf3 _) Z Z Z Z hm5 (.inl hg4) Z hC11 fun w12 ho30 hb12 hl12 hC12 => ?_)))
     have ho31 := ho27.go hb12 (fun e => hn2 e)
     have ho32 := ho28.go hb12 (fun e => hn3 e)
     refine lw_nil (ew_blockN (ew_then (cw_seq (cw_region (lw_op Z Z Z (ow_loadOwnA Z Z Z ho30 (Tryd.isAgg42 _) (Tryd.sizeOf42 _) Z ?_))))))
     have lz4 := (((((((((hl3.trans hl4).trans hl5).trans hl6).trans hl7).trans hl8).trans hl9).trans hl10).trans hl11).trans hl12)
     refine lw_op0 Z Z (ow_store (X := (One g)) (us := [(.slice A1 x1.1.length c1), (.int .i64 x7), (.int .i64 0)]) (cs' := #[(.slice A1 x1.1.length c1), (.int .i64 x7), (.int .i64 0)]) Z Z Z Z ho32 (Tryd.sizeOf42 _) Z Z Z Z hm4 (.inl hg2) Z hC12 fun w13 ho33 hb13 hl13 hC13 => ?_)
     have ho34 := ho31.go hb13 (fun e => hn1 e)
     refine lw_nil (ew_then (cw_ret ?_))
     have hw5 : VRep RRule w13 (Add g2 (Add g1 M)) ({ Tests := x1.1, Action := x7, Chain := 0 } : Rule) (.agg #[(.slice A1 x1.1.length c1), (.int .i64 x7), (.int .i64 0)]) := shut_Rule (VRep.mono (lz4.trans hl13) hv1)
     obtain rfl := Option.some.inj h
     exact ew_ret (res1 Z (.cell Z (own_loadVarA ho33 (Tryd.isAgg42 _) (Tryd.sizeOf42 _) Z))) ⟨_, Z, ⟨(hw5.mono hC13.back), ho34⟩, hC13.bx⟩
    ·
     obtain rfl := hbb4.trans hc4
     refine cw_false Z (cw_seq (cw_region (lw_op Z Z Z (ow_eqlI Z Z Z fun bb5 hbb5 => lw_op Z Z Z (ow_assign Z Z (lw_nil (ew_then ?_)))))))
     replace h := cond_some h
     rcases h with ⟨hc5, h⟩ | ⟨hc5, h⟩
     ·
      obtain rfl := hbb5.trans hc5
      refine cw_true Z (cw_region (lw_op Z Z Z (ow_buildSlice (R := RInt) (xs := [(-1), 5, 1]) (cs := #[(.int .i64 (-1)), (.int .i64 5), (.int .i64 1)]) (e := 3) Z Z (by kernel_rfl) Z Z ⟨_, _, Z, (vint _).cells, _, _, Z, (vint _).cells, _, _, Z, (vint _).cells, Z⟩ hC9 fun p5 w14 hw6 hb14 hl14 hC14 => ?_)))
      have ho36 := ho21.no hb14
      have ho37 := ho22.no hb14
      have ho38 := ho23.no hb14
      refine lw_op Z Z Z (ow_move Z Z ?_)
      have lz5 := (((lz2.trans hl8).trans hl9).trans hl14)
      replace h := bind_some h
      obtain ⟨x8, hx8, h⟩ := h
      refine lw_op Z Z Z (ow_call Z Z Tryd.call60 (w_spec_l20Rd_pick (hG.mono lz5) hC14.old (VRep.mono lz5 hxs) ho36 hm3 hx8) fun v8 w15 hv8 => ?_)
      obtain ⟨⟨hv8, ho39⟩, hb15⟩ := hv8
      have hl15 := Le.of_bx (Add g2 (Add g1 M)) hb15 (fun b e => (by rw [show b = g from e]; exact hm3))
      have hC15 := hC14.go hb15 (fun b e => Or.inr e)
      have ho40 := ho37.go hb15 (fun e => hn1 e.symm)
      have ho41 := ho38.go hb15 (fun e => hn2 e.symm)
      obtain rfl := vint_eq hv8
      replace h := bind_some h
      obtain ⟨x9, hx9, h⟩ := h
      refine lw_op Z Z Z (ow_indexSlice (R := RInt) Z Z Z (VRep.mono hl15 hw6) Tryd.underlying52 (Tryd.sizeOf3 _) hx9 fun p6 hp6 => lw_op Z Z Z (ow_load (R := RInt) Z Z hp6 (Tryd.sizeOf3 _) (Tryd.isAgg3 _) fun v9 hv9 => ?_))
      obtain rfl := vint_eq hv9
      refine lw_op Z Z Z (ow_fieldAddr Z Z Tryd.underlying42 Z (Tryd.sizeOf3 _) (lw_op0 Z Z (ow_store (X := (One g)) (us := [(.int .i64 x9)]) (cs' := #[(.slice A1 x1.1.length c1), (.int .i64 2), (.int .i64 x9)]) Z Z Z Z ho41 (Tryd.sizeOf3 _) Z Z Z Z hm5 (.inl hg4) Z hC15 fun w16 ho42 hb16 hl16 hC16 => ?_)))
      have ho43 := ho39.go hb16 (fun e => hn2 e)
      have ho44 := ho40.go hb16 (fun e => hn3 e)
      refine lw_nil (ew_blockN (ew_then (cw_seq (cw_region (lw_op Z Z Z (ow_loadOwnA Z Z Z ho42 (Tryd.isAgg42 _) (Tryd.sizeOf42 _) Z ?_))))))
      have lz6 := (((((((((hl3.trans hl4).trans hl5).trans hl6).trans hl7).trans hl8).trans hl9).trans hl14).trans hl15).trans hl16)
      refine lw_op0 Z Z (ow_store (X := (One g)) (us := [(.slice A1 x1.1.length c1), (.int .i64 2), (.int .i64 x9)]) (cs' := #[(.slice A1 x1.1.length c1), (.int .i64 2), (.int .i64 x9)]) Z Z Z Z ho44 (Tryd.sizeOf42 _) Z Z Z Z hm4 (.inl hg2) Z hC16 fun w17 ho45 hb17 hl17 hC17 => ?_)
      have ho46 := ho43.go hb17 (fun e => hn1 e)
      refine lw_nil (ew_then (cw_ret ?_))
      have hw8 : VRep RRule w17 (Add g2 (Add g1 M)) ({ Tests := x1.1, Action := 2, Chain := x9 } : Rule) (.agg #[(.slice A1 x1.1.length c1), (.int .i64 2), (.int .i64 x9)]) := shut_Rule (VRep.mono (lz6.trans hl17) hv1)
      obtain rfl := Option.some.inj h
      exact ew_ret (res1 Z (.cell Z (own_loadVarA ho45 (Tryd.isAgg42 _) (Tryd.sizeOf42 _) Z))) ⟨_, Z, ⟨(hw8.mono hC17.back), ho46⟩, hC17.bx⟩
     ·
      obtain rfl := hbb5.trans hc5
      refine cw_false Z (cw_region (lw_op Z Z Z (ow_move Z Z ?_)))
      have lz7 := ((lz2.trans hl8).trans hl9)
      replace h := bind_some h
      obtain ⟨x10, hx10, h⟩ := h
      refine lw_op Z Z Z (ow_call Z Z Tryd.call79 (w_spec_l20Tests (hG.mono lz7) hC9.old (VRep.mono lz7 hxs) ho21 hm3 hx10) fun v10 w18 hv10 => ?_)
      obtain ⟨⟨hv10, ho48⟩, hb18⟩ := hv10
      have hC18 := hC9.go hb18 (fun b e => Or.inr e)
      have ho49 := ho22.go hb18 (fun e => hn1 e.symm)
      have ho50 := ho23.go hb18 (fun e => hn2 e.symm)
      refine lw_op Z Z Z (ow_fieldAddr Z Z Tryd.underlying42 Z (Tryd.sizeOf27 _) ?_)
      obtain ⟨A2, c2, rfl, -⟩ := vslice_shape hv10
      refine lw_op0 Z Z (ow_store (X := (One g)) (us := [(.slice A2 x10.1.length c2)]) (cs' := #[(.slice A2 x10.1.length c2), (.int .i64 2), (.int .i64 0)]) Z Z Z Z ho50 (Tryd.sizeOf27 _) Z Z Z Z hm5 (.inl hg4) Z hC18 fun w19 ho51 hb19 hl19 hC19 => ?_)
      have ho52 := ho48.go hb19 (fun e => hn2 e)
      have ho53 := ho49.go hb19 (fun e => hn3 e)
      refine lw_nil (ew_blockN (ew_then (cw_seq (cw_region (lw_op Z Z Z (ow_loadOwnA Z Z Z ho51 (Tryd.isAgg42 _) (Tryd.sizeOf42 _) Z (lw_op0 Z Z (ow_store (X := (One g)) (us := [(.slice A2 x10.1.length c2), (.int .i64 2), (.int .i64 0)]) (cs' := #[(.slice A2 x10.1.length c2), (.int .i64 2), (.int .i64 0)]) Z Z Z Z ho53 (Tryd.sizeOf42 _) Z Z Z Z hm4 (.inl hg2) Z hC19 fun w20 ho54 hb20 hl20 hC20 => ?_))))))))
      have ho55 := ho52.go hb20 (fun e => hn1 e)
      refine lw_nil (ew_then (cw_ret ?_))
      have hw10 : VRep RRule w20 (Add g2 (Add g1 M)) ({ Tests := x10.1, Action := 2, Chain := 0 } : Rule) (.agg #[(.slice A2 x10.1.length c2), (.int .i64 2), (.int .i64 0)]) := shut_Rule (VRep.mono (hl19.trans hl20) hv10)
      obtain rfl := Option.some.inj h
      exact ew_ret (res1 Z (.cell Z (own_loadVarA ho54 (Tryd.isAgg42 _) (Tryd.sizeOf42 _) Z))) ⟨_, Z, ⟨(hw10.mono hC20.back), ho55⟩, hC20.bx⟩
   ·
    obtain rfl := hbb3.trans hc3
    refine cw_false Z (cw_skip (ew_then (cw_seq (cw_region (lw_op Z Z Z (ow_loadOwnA Z Z Z ho20 (Tryd.isAgg42 _) (Tryd.sizeOf42 _) Z ?_))))))
    have lz8 := (((((hl3.trans hl4).trans hl5).trans hl6).trans hl7).trans hl8)
    refine lw_op0 Z Z (ow_store (X := (One g)) (us := [(.slice A1 x1.1.length c1), (.int .i64 2), (.int .i64 0)]) (cs' := #[(.slice A1 x1.1.length c1), (.int .i64 2), (.int .i64 0)]) Z Z Z Z ho19 (Tryd.sizeOf42 _) Z Z Z Z hm4 (.inl hg2) Z hC8 fun w21 ho57 hb21 hl21 hC21 => ?_)
    have ho58 := ho18.go hb21 (fun e => hn1 e)
    refine lw_nil (ew_then (cw_ret ?_))
    have hw12 : VRep RRule w21 (Add g2 (Add g1 M)) ({ Tests := x1.1, Action := 2, Chain := 0 } : Rule) (.agg #[(.slice A1 x1.1.length c1), (.int .i64 2), (.int .i64 0)]) := shut_Rule (VRep.mono (lz8.trans hl21) hv1)
    obtain rfl := Option.some.inj h
    exact ew_ret (res1 Z (.cell Z (own_loadVarA ho57 (Tryd.isAgg42 _) (Tryd.sizeOf42 _) Z))) ⟨_, Z, ⟨(hw12.mono hC21.back), ho58⟩, hC21.bx⟩
  ·
   obtain rfl := hbb2.trans hc2
   refine cw_false Z (cw_region (lw_op Z Z Z (ow_move Z Z (lw_op Z Z Z (ow_move Z Z (lw_op Z Z Z (ow_move Z Z (lw_op Z Z Z (ow_move Z Z (lw_op Z Z Z (ow_sub Z Z Z ?_)))))))))))
   have lz9 := (((lz1.trans hl4).trans hl5).trans hl6)
   replace h := bind_some h
   obtain ⟨x11, hx11, h⟩ := h
   refine lw_op Z Z Z (ow_call Z Z Tryd.call60 (w_spec_l20Rd_pick (hG.mono lz9) hC6.old (VRep.mono lz9 hxs) ho13 hm3 hx11) fun v11 w22 hv11 => ?_)
   obtain ⟨⟨hv11, ho60⟩, hb22⟩ := hv11
   have hl22 := Le.of_bx (Add g2 (Add g1 M)) hb22 (fun b e => (by rw [show b = g from e]; exact hm3))
   have hC22 := hC6.go hb22 (fun b e => Or.inr e)
   have ho61 := ho14.go hb22 (fun e => hn1 e.symm)
   have ho62 := ho12.go hb22 (fun e => hn2 e.symm)
   obtain rfl := vint_eq hv11
   refine lw_op Z Z Z (ow_add Z Z Z (lw_op Z Z Z (ow_fieldAddr Z Z Tryd.underlying42 Z (Tryd.sizeOf3 _) (lw_op0 Z Z (ow_store (X := (One g)) (us := [(.int .i64 (W (a_first + x11.1)))]) (cs' := #[(.slice A1 x1.1.length c1), (.int .i64 x3), (.int .i64 (W (a_first + x11.1)))]) Z Z Z Z ho62 (Tryd.sizeOf3 _) Z Z Z Z hm5 (.inl hg4) Z hC22 fun w23 ho63 hb23 hl23 hC23 => ?_)))))
   have ho64 := ho60.go hb23 (fun e => hn2 e)
   have ho65 := ho61.go hb23 (fun e => hn3 e)
   refine lw_nil (ew_then (cw_seq (cw_seq (cw_region (lw_op Z Z Z (ow_move Z Z (lw_op Z Z Z (ow_move Z Z ?_))))))))
   have lz10 := ((lz9.trans hl22).trans hl23)
   replace h := bind_some h
   obtain ⟨x12, hx12, h⟩ := h
   refine lw_op Z Z Z (ow_call Z Z Tryd.call81 (w_spec_l20Rd_odd (hG.mono lz10) hC23.old (VRep.mono lz10 hxs) ho64 hm3 hx12) fun v12 w24 hv12 => ?_)
   obtain ⟨⟨hv12, ho66⟩, hb24⟩ := hv12
   have hl24 := Le.of_bx (Add g2 (Add g1 M)) hb24 (fun b e => (by rw [show b = g from e]; exact hm3))
   have hC24 := hC23.go hb24 (fun b e => Or.inr e)
   have ho67 := ho65.go hb24 (fun e => hn1 e.symm)
   have ho68 := ho63.go hb24 (fun e => hn2 e.symm)
   obtain ⟨bb6, hbb6, rfl⟩ := vbool_ex hv12
   refine lw_nil (ew_then ?_)
   replace h := cond_some h
   rcases h with ⟨hc6, h⟩ | ⟨hc6, h⟩
   ·
    obtain rfl := hbb6.trans hc6
    refine cw_true Z (cw_seq (cw_region (lw_op Z Z Z (ow_move Z Z ?_))))
    replace h := bind_some h
    obtain ⟨x13, hx13, h⟩ := h
    refine lw_op Z Z Z (ow_call Z Z Tryd.call60 (w_spec_l20Rd_pick (hG.mono (lz10.trans hl24)) hC24.old (VRep.mono (lz10.trans hl24) hxs) ho66 hm3 hx13) fun v13 w25 hv13 => ?_)
    obtain ⟨⟨hv13, ho69⟩, hb25⟩ := hv13
    have hl25 := Le.of_bx (Add g2 (Add g1 M)) hb25 (fun b e => (by rw [show b = g from e]; exact hm3))
    have hC25 := hC24.go hb25 (fun b e => Or.inr e)
    have ho70 := ho67.go hb25 (fun e => hn1 e.symm)
    have ho71 := ho68.go hb25 (fun e => hn2 e.symm)
    obtain rfl := vint_eq hv13
    refine lw_nil (ew_then (cw_block (cw_seq (cw_region (lw_op Z Z Z (ow_eqlI Z Z Z fun bb7 hbb7 => lw_op Z Z Z (ow_assign Z Z (lw_nil (ew_then ?_)))))))))
    replace h := cond_some h
    rcases h with ⟨hc7, h⟩ | ⟨hc7, h⟩
    ·
     obtain rfl := hbb7.trans hc7
     refine cw_true Z (cw_region (lw_op Z Z Z (ow_buildSlice (R := RInt) (xs := [0, 6]) (cs := #[(.int .i64 0), (.int .i64 6)]) (e := 3) Z Z (by kernel_rfl) Z Z ⟨_, _, Z, (vint _).cells, _, _, Z, (vint _).cells, Z⟩ hC25 fun p7 w26 hw13 hb26 hl26 hC26 => ?_)))
     have ho72 := ho69.no hb26
     have ho73 := ho70.no hb26
     have ho74 := ho71.no hb26
     refine lw_op Z Z Z (ow_move Z Z ?_)
     have lz11 := (((lz10.trans hl24).trans hl25).trans hl26)
     replace h := bind_some h
     obtain ⟨x14, hx14, h⟩ := h
     refine lw_op Z Z Z (ow_call Z Z Tryd.call60 (w_spec_l20Rd_pick (hG.mono lz11) hC26.old (VRep.mono lz11 hxs) ho72 hm3 hx14) fun v14 w27 hv14 => ?_)
     obtain ⟨⟨hv14, ho75⟩, hb27⟩ := hv14
     have hl27 := Le.of_bx (Add g2 (Add g1 M)) hb27 (fun b e => (by rw [show b = g from e]; exact hm3))
     have hC27 := hC26.go hb27 (fun b e => Or.inr e)
     have ho76 := ho73.go hb27 (fun e => hn1 e.symm)
     have ho77 := ho74.go hb27 (fun e => hn2 e.symm)
     obtain rfl := vint_eq hv14
     replace h := bind_some h
     obtain ⟨x15, hx15, h⟩ := h
     refine lw_op Z Z Z (ow_indexSlice (R := RInt) Z Z Z (VRep.mono hl27 hw13) Tryd.underlying52 (Tryd.sizeOf3 _) hx15 fun p8 hp8 => lw_op Z Z Z (ow_load (R := RInt) Z Z hp8 (Tryd.sizeOf3 _) (Tryd.isAgg3 _) fun v15 hv15 => ?_))
     obtain rfl := vint_eq hv15
     refine lw_op Z Z Z (ow_fieldAddr Z Z Tryd.underlying42 Z (Tryd.sizeOf3 _) (lw_op0 Z Z (ow_store (X := (One g)) (us := [(.int .i64 x15)]) (cs' := #[(.slice A1 x1.1.length c1), (.int .i64 x15), (.int .i64 (W (a_first + x11.1)))]) Z Z Z Z ho77 (Tryd.sizeOf3 _) Z Z Z Z hm5 (.inl hg4) Z hC27 fun w28 ho78 hb28 hl28 hC28 => ?_)))
     have ho79 := ho75.go hb28 (fun e => hn2 e)
     have ho80 := ho76.go hb28 (fun e => hn3 e)
     refine lw_nil (ew_blockN (ew_then (cw_seq (cw_region (lw_op Z Z Z (ow_loadOwnA Z Z Z ho78 (Tryd.isAgg42 _) (Tryd.sizeOf42 _) Z ?_))))))
     have lz12 := ((((((((((hl3.trans hl4).trans hl5).trans hl6).trans hl22).trans hl23).trans hl24).trans hl25).trans hl26).trans hl27).trans hl28)
     refine lw_op0 Z Z (ow_store (X := (One g)) (us := [(.slice A1 x1.1.length c1), (.int .i64 x15), (.int .i64 (W (a_first + x11.1)))]) (cs' := #[(.slice A1 x1.1.length c1), (.int .i64 x15), (.int .i64 (W (a_first + x11.1)))]) Z Z Z Z ho80 (Tryd.sizeOf42 _) Z Z Z Z hm4 (.inl hg2) Z hC28 fun w29 ho81 hb29 hl29 hC29 => ?_)
     have ho82 := ho79.go hb29 (fun e => hn1 e)
     refine lw_nil (ew_then (cw_ret ?_))
     have hw15 : VRep RRule w29 (Add g2 (Add g1 M)) ({ Tests := x1.1, Action := x15, Chain := (W (a_first + x11.1)) } : Rule) (.agg #[(.slice A1 x1.1.length c1), (.int .i64 x15), (.int .i64 (W (a_first + x11.1)))]) := shut_Rule (VRep.mono (lz12.trans hl29) hv1)
     obtain rfl := Option.some.inj h
     exact ew_ret (res1 Z (.cell Z (own_loadVarA ho81 (Tryd.isAgg42 _) (Tryd.sizeOf42 _) Z))) ⟨_, Z, ⟨(hw15.mono hC29.back), ho82⟩, hC29.bx⟩
    ·
     obtain rfl := hbb7.trans hc7
     refine cw_false Z (cw_seq (cw_region (lw_op Z Z Z (ow_eqlI Z Z Z fun bb8 hbb8 => lw_op Z Z Z (ow_assign Z Z (lw_nil (ew_then ?_)))))))
     replace h := cond_some h
     rcases h with ⟨hc8, h⟩ | ⟨hc8, h⟩
     ·
      obtain rfl := hbb8.trans hc8
      refine cw_true Z (cw_region (lw_op Z Z Z (ow_buildSlice (R := RInt) (xs := [(-1), 5, 1]) (cs := #[(.int .i64 (-1)), (.int .i64 5), (.int .i64 1)]) (e := 3) Z Z (by kernel_rfl) Z Z ⟨_, _, Z, (vint _).cells, _, _, Z, (vint _).cells, _, _, Z, (vint _).cells, Z⟩ hC25 fun p9 w30 hw16 hb30 hl30 hC30 => ?_)))
      have ho84 := ho69.no hb30
      have ho85 := ho70.no hb30
      have ho86 := ho71.no hb30
      refine lw_op Z Z Z (ow_move Z Z ?_)
      have lz13 := (((lz10.trans hl24).trans hl25).trans hl30)
      replace h := bind_some h
      obtain ⟨x16, hx16, h⟩ := h
      refine lw_op Z Z Z (ow_call Z Z Tryd.call60 (w_spec_l20Rd_pick (hG.mono lz13) hC30.old (VRep.mono lz13 hxs) ho84 hm3 hx16) fun v16 w31 hv16 => ?_)
      obtain ⟨⟨hv16, ho87⟩, hb31⟩ := hv16
      have hl31 := Le.of_bx (Add g2 (Add g1 M)) hb31 (fun b e => (by rw [show b = g from e]; exact hm3))
      have hC31 := hC30.go hb31 (fun b e => Or.inr e)
      have ho88 := ho85.go hb31 (fun e => hn1 e.symm)
      have ho89 := ho86.go hb31 (fun e => hn2 e.symm)
      obtain rfl := vint_eq hv16
      replace h := bind_some h
      obtain ⟨x17, hx17, h⟩ := h
      refine lw_op Z Z Z (ow_indexSlice (R := RInt) Z Z Z (VRep.mono hl31 hw16) Tryd.underlying52 (Tryd.sizeOf3 _) hx17 fun p10 hp10 => lw_op Z Z Z (ow_load (R := RInt) Z Z hp10 (Tryd.sizeOf3 _) (Tryd.isAgg3 _) fun v17 hv17 => ?_))
      obtain rfl := vint_eq hv17
      refine lw_op Z Z Z (ow_fieldAddr Z Z Tryd.underlying42 Z (Tryd.sizeOf3 _) (lw_op0 Z Z (ow_store (X := (One g)) (us := [(.int .i64 x17)]) (cs' := #[(.slice A1 x1.1.length c1), (.int .i64 x3), (.int .i64 x17)]) Z Z Z Z ho89 (Tryd.sizeOf3 _) Z Z Z Z hm5 (.inl hg4) Z hC31 fun w32 ho90 hb32 hl32 hC32 => ?_)))
      have ho91 := ho87.go hb32 (fun e => hn2 e)
      have ho92 := ho88.go hb32 (fun e => hn3 e)
      refine lw_nil (ew_blockN (ew_then (cw_seq (cw_region (lw_op Z Z Z (ow_loadOwnA Z Z Z ho90 (Tryd.isAgg42 _) (Tryd.sizeOf42 _) Z ?_))))))
      have lz14 := ((((((((((hl3.trans hl4).trans hl5).trans hl6).trans hl22).trans hl23).trans hl24).trans hl25).trans hl30).trans hl31).trans hl32)
      refine lw_op0 Z Z (ow_store (X := (One g)) (us := [(.slice A1 x1.1.length c1), (.int .i64 x3), (.int .i64 x17)]) (cs' := #[(.slice A1 x1.1.length c1), (.int .i64 x3), (.int .i64 x17)]) Z Z Z Z ho92 (Tryd.sizeOf42 _) Z Z Z Z hm4 (.inl hg2) Z hC32 fun w33 ho93 hb33 hl33 hC33 => ?_)
      have ho94 := ho91.go hb33 (fun e => hn1 e)
      refine lw_nil (ew_then (cw_ret ?_))
      have hw18 : VRep RRule w33 (Add g2 (Add g1 M)) ({ Tests := x1.1, Action := x3, Chain := x17 } : Rule) (.agg #[(.slice A1 x1.1.length c1), (.int .i64 x3), (.int .i64 x17)]) := shut_Rule (VRep.mono (lz14.trans hl33) hv1)
      obtain rfl := Option.some.inj h
      exact ew_ret (res1 Z (.cell Z (own_loadVarA ho93 (Tryd.isAgg42 _) (Tryd.sizeOf42 _) Z))) ⟨_, Z, ⟨(hw18.mono hC33.back), ho94⟩, hC33.bx⟩
     ·
      obtain rfl := hbb8.trans hc8
      refine cw_false Z (cw_region (lw_op Z Z Z (ow_move Z Z ?_)))
      have lz15 := ((lz10.trans hl24).trans hl25)
      replace h := bind_some h
      obtain ⟨x18, hx18, h⟩ := h
      refine lw_op Z Z Z (ow_call Z Z Tryd.call79 (w_spec_l20Tests (hG.mono lz15) hC25.old (VRep.mono lz15 hxs) ho69 hm3 hx18) fun v18 w34 hv18 => ?_)
      obtain ⟨⟨hv18, ho96⟩, hb34⟩ := hv18
      have hC34 := hC25.go hb34 (fun b e => Or.inr e)
      have ho97 := ho70.go hb34 (fun e => hn1 e.symm)
      have ho98 := ho71.go hb34 (fun e => hn2 e.symm)
      refine lw_op Z Z Z (ow_fieldAddr Z Z Tryd.underlying42 Z (Tryd.sizeOf27 _) ?_)
      obtain ⟨A3, c3, rfl, -⟩ := vslice_shape hv18
      refine lw_op0 Z Z (ow_store (X := (One g)) (us := [(.slice A3 x18.1.length c3)]) (cs' := #[(.slice A3 x18.1.length c3), (.int .i64 x3), (.int .i64 (W (a_first + x11.1)))]) Z Z Z Z ho98 (Tryd.sizeOf27 _) Z Z Z Z hm5 (.inl hg4) Z hC34 fun w35 ho99 hb35 hl35 hC35 => ?_)
      have ho100 := ho96.go hb35 (fun e => hn2 e)
      have ho101 := ho97.go hb35 (fun e => hn3 e)
      refine lw_nil (ew_blockN (ew_then (cw_seq (cw_region (lw_op Z Z Z (ow_loadOwnA Z Z Z ho99 (Tryd.isAgg42 _) (Tryd.sizeOf42 _) Z (lw_op0 Z Z (ow_store (X := (One g)) (us := [(.slice A3 x18.1.length c3), (.int .i64 x3), (.int .i64 (W (a_first + x11.1)))]) (cs' := #[(.slice A3 x18.1.length c3), (.int .i64 x3), (.int .i64 (W (a_first + x11.1)))]) Z Z Z Z ho101 (Tryd.sizeOf42 _) Z Z Z Z hm4 (.inl hg2) Z hC35 fun w36 ho102 hb36 hl36 hC36 => ?_))))))))
      have ho103 := ho100.go hb36 (fun e => hn1 e)
      refine lw_nil (ew_then (cw_ret ?_))
      have hw20 : VRep RRule w36 (Add g2 (Add g1 M)) ({ Tests := x18.1, Action := x3, Chain := (W (a_first + x11.1)) } : Rule) (.agg #[(.slice A3 x18.1.length c3), (.int .i64 x3), (.int .i64 (W (a_first + x11.1)))]) := shut_Rule (VRep.mono (hl35.trans hl36) hv18)
      obtain rfl := Option.some.inj h
      exact ew_ret (res1 Z (.cell Z (own_loadVarA ho102 (Tryd.isAgg42 _) (Tryd.sizeOf42 _) Z))) ⟨_, Z, ⟨(hw20.mono hC36.back), ho103⟩, hC36.bx⟩
   ·
    obtain rfl := hbb6.trans hc6
    refine cw_false Z (cw_skip (ew_then (cw_seq (cw_region (lw_op Z Z Z (ow_loadOwnA Z Z Z ho68 (Tryd.isAgg42 _) (Tryd.sizeOf42 _) Z ?_))))))
    have lz16 := ((((((hl3.trans hl4).trans hl5).trans hl6).trans hl22).trans hl23).trans hl24)
    refine lw_op0 Z Z (ow_store (X := (One g)) (us := [(.slice A1 x1.1.length c1), (.int .i64 x3), (.int .i64 (W (a_first + x11.1)))]) (cs' := #[(.slice A1 x1.1.length c1), (.int .i64 x3), (.int .i64 (W (a_first + x11.1)))]) Z Z Z Z ho67 (Tryd.sizeOf42 _) Z Z Z Z hm4 (.inl hg2) Z hC24 fun w37 ho105 hb37 hl37 hC37 => ?_)
    have ho106 := ho66.go hb37 (fun e => hn1 e)
    refine lw_nil (ew_then (cw_ret ?_))
    have hw22 : VRep RRule w37 (Add g2 (Add g1 M)) ({ Tests := x1.1, Action := x3, Chain := (W (a_first + x11.1)) } : Rule) (.agg #[(.slice A1 x1.1.length c1), (.int .i64 x3), (.int .i64 (W (a_first + x11.1)))]) := shut_Rule (VRep.mono (lz16.trans hl37) hv1)
    obtain rfl := Option.some.inj h
    exact ew_ret (res1 Z (.cell Z (own_loadVarA ho105 (Tryd.isAgg42 _) (Tryd.sizeOf42 _) Z))) ⟨_, Z, ⟨(hw22.mono hC37.back), ho106⟩, hC37.bx⟩
 ·
  obtain rfl := hbb1.trans hc1
  refine cw_false Z (cw_skip (ew_then (cw_seq (cw_seq (cw_region (lw_op Z Z Z (ow_move Z Z (lw_op Z Z Z (ow_move Z Z ?_)))))))))
  have lz17 := (((lz1.trans hl4).trans hl5).trans hl6)
  replace h := bind_some h
  obtain ⟨x19, hx19, h⟩ := h
  refine lw_op Z Z Z (ow_call Z Z Tryd.call81 (w_spec_l20Rd_odd (hG.mono lz17) hC6.old (VRep.mono lz17 hxs) ho13 hm3 hx19) fun v19 w38 hv19 => ?_)
  obtain ⟨⟨hv19, ho108⟩, hb38⟩ := hv19
  have hl38 := Le.of_bx (Add g2 (Add g1 M)) hb38 (fun b e => (by rw [show b = g from e]; exact hm3))
  have hC38 := hC6.go hb38 (fun b e => Or.inr e)
  have ho109 := ho14.go hb38 (fun e => hn1 e.symm)
  have ho110 := ho12.go hb38 (fun e => hn2 e.symm)
  obtain ⟨bb9, hbb9, rfl⟩ := vbool_ex hv19
  refine lw_nil (ew_then ?_)
  replace h := cond_some h
  rcases h with ⟨hc9, h⟩ | ⟨hc9, h⟩
  ·
   obtain rfl := hbb9.trans hc9
   refine cw_true Z (cw_seq (cw_region (lw_op Z Z Z (ow_move Z Z ?_))))
   replace h := bind_some h
   obtain ⟨x20, hx20, h⟩ := h
   refine lw_op Z Z Z (ow_call Z Z Tryd.call60 (w_spec_l20Rd_pick (hG.mono (lz17.trans hl38)) hC38.old (VRep.mono (lz17.trans hl38) hxs) ho108 hm3 hx20) fun v20 w39 hv20 => ?_)
   obtain ⟨⟨hv20, ho111⟩, hb39⟩ := hv20
   have hl39 := Le.of_bx (Add g2 (Add g1 M)) hb39 (fun b e => (by rw [show b = g from e]; exact hm3))
   have hC39 := hC38.go hb39 (fun b e => Or.inr e)
   have ho112 := ho109.go hb39 (fun e => hn1 e.symm)
   have ho113 := ho110.go hb39 (fun e => hn2 e.symm)
   obtain rfl := vint_eq hv20
   refine lw_nil (ew_then (cw_block (cw_seq (cw_region (lw_op Z Z Z (ow_eqlI Z Z Z fun bb10 hbb10 => lw_op Z Z Z (ow_assign Z Z (lw_nil (ew_then ?_)))))))))
   replace h := cond_some h
   rcases h with ⟨hc10, h⟩ | ⟨hc10, h⟩
   ·
    obtain rfl := hbb10.trans hc10
    refine cw_true Z (cw_region (lw_op Z Z Z (ow_buildSlice (R := RInt) (xs := [0, 6]) (cs := #[(.int .i64 0), (.int .i64 6)]) (e := 3) Z Z (by kernel_rfl) Z Z ⟨_, _, Z, (vint _).cells, _, _, Z, (vint _).cells, Z⟩ hC39 fun p11 w40 hw23 hb40 hl40 hC40 => ?_)))
    have ho114 := ho111.no hb40
    have ho115 := ho112.no hb40
    have ho116 := ho113.no hb40
    refine lw_op Z Z Z (ow_move Z Z ?_)
    have lz18 := (((lz17.trans hl38).trans hl39).trans hl40)
    replace h := bind_some h
    obtain ⟨x21, hx21, h⟩ := h
    refine lw_op Z Z Z (ow_call Z Z Tryd.call60 (w_spec_l20Rd_pick (hG.mono lz18) hC40.old (VRep.mono lz18 hxs) ho114 hm3 hx21) fun v21 w41 hv21 => ?_)
    obtain ⟨⟨hv21, ho117⟩, hb41⟩ := hv21
    have hl41 := Le.of_bx (Add g2 (Add g1 M)) hb41 (fun b e => (by rw [show b = g from e]; exact hm3))
    have hC41 := hC40.go hb41 (fun b e => Or.inr e)
    have ho118 := ho115.go hb41 (fun e => hn1 e.symm)
    have ho119 := ho116.go hb41 (fun e => hn2 e.symm)
    obtain rfl := vint_eq hv21
    replace h := bind_some h
    obtain ⟨x22, hx22, h⟩ := h
    refine lw_op Z Z Z (ow_indexSlice (R := RInt) Z Z Z (VRep.mono hl41 hw23) Tryd.underlying52 (Tryd.sizeOf3 _) hx22 fun p12 hp12 => lw_op Z Z Z (ow_load (R := RInt) Z Z hp12 (Tryd.sizeOf3 _) (Tryd.isAgg3 _) fun v22 hv22 => ?_))
    obtain rfl := vint_eq hv22
    refine lw_op Z Z Z (ow_fieldAddr Z Z Tryd.underlying42 Z (Tryd.sizeOf3 _) (lw_op0 Z Z (ow_store (X := (One g)) (us := [(.int .i64 x22)]) (cs' := #[(.slice A1 x1.1.length c1), (.int .i64 x22), (.int .i64 0)]) Z Z Z Z ho119 (Tryd.sizeOf3 _) Z Z Z Z hm5 (.inl hg4) Z hC41 fun w42 ho120 hb42 hl42 hC42 => ?_)))
    have ho121 := ho117.go hb42 (fun e => hn2 e)
    have ho122 := ho118.go hb42 (fun e => hn3 e)
    refine lw_nil (ew_blockN (ew_then (cw_seq (cw_region (lw_op Z Z Z (ow_loadOwnA Z Z Z ho120 (Tryd.isAgg42 _) (Tryd.sizeOf42 _) Z ?_))))))
    have lz19 := ((((((((hl3.trans hl4).trans hl5).trans hl6).trans hl38).trans hl39).trans hl40).trans hl41).trans hl42)
    refine lw_op0 Z Z (ow_store (X := (One g)) (us := [(.slice A1 x1.1.length c1), (.int .i64 x22), (.int .i64 0)]) (cs' := #[(.slice A1 x1.1.length c1), (.int .i64 x22), (.int .i64 0)]) Z Z Z Z ho122 (Tryd.sizeOf42 _) Z Z Z Z hm4 (.inl hg2) Z hC42 fun w43 ho123 hb43 hl43 hC43 => ?_)
    have ho124 := ho121.go hb43 (fun e => hn1 e)
    refine lw_nil (ew_then (cw_ret ?_))
    have hw25 : VRep RRule w43 (Add g2 (Add g1 M)) ({ Tests := x1.1, Action := x22, Chain := 0 } : Rule) (.agg #[(.slice A1 x1.1.length c1), (.int .i64 x22), (.int .i64 0)]) := shut_Rule (VRep.mono (lz19.trans hl43) hv1)
    obtain rfl := Option.some.inj h
    exact ew_ret (res1 Z (.cell Z (own_loadVarA ho123 (Tryd.isAgg42 _) (Tryd.sizeOf42 _) Z))) ⟨_, Z, ⟨(hw25.mono hC43.back), ho124⟩, hC43.bx⟩
   ·
    obtain rfl := hbb10.trans hc10
    refine cw_false Z (cw_seq (cw_region (lw_op Z Z Z (ow_eqlI Z Z Z fun bb11 hbb11 => lw_op Z Z Z (ow_assign Z Z (lw_nil (ew_then ?_)))))))
    replace h := cond_some h
    rcases h with ⟨hc11, h⟩ | ⟨hc11, h⟩
    ·
     obtain rfl := hbb11.trans hc11
     refine cw_true Z (cw_region (lw_op Z Z Z (ow_buildSlice (R := RInt) (xs := [(-1), 5, 1]) (cs := #[(.int .i64 (-1)), (.int .i64 5), (.int .i64 1)]) (e := 3) Z Z (by kernel_rfl) Z Z ⟨_, _, Z, (vint _).cells, _, _, Z, (vint _).cells, _, _, Z, (vint _).cells, Z⟩ hC39 fun p13 w44 hw26 hb44 hl44 hC44 => ?_)))
     have ho126 := ho111.no hb44
     have ho127 := ho112.no hb44
     have ho128 := ho113.no hb44
     refine lw_op Z Z Z (ow_move Z Z ?_)
     have lz20 := (((lz17.trans hl38).trans hl39).trans hl44)
     replace h := bind_some h
     obtain ⟨x23, hx23, h⟩ := h
     refine lw_op Z Z Z (ow_call Z Z Tryd.call60 (w_spec_l20Rd_pick (hG.mono lz20) hC44.old (VRep.mono lz20 hxs) ho126 hm3 hx23) fun v23 w45 hv23 => ?_)
     obtain ⟨⟨hv23, ho129⟩, hb45⟩ := hv23
     have hl45 := Le.of_bx (Add g2 (Add g1 M)) hb45 (fun b e => (by rw [show b = g from e]; exact hm3))
     have hC45 := hC44.go hb45 (fun b e => Or.inr e)
     have ho130 := ho127.go hb45 (fun e => hn1 e.symm)
     have ho131 := ho128.go hb45 (fun e => hn2 e.symm)
     obtain rfl := vint_eq hv23
     replace h := bind_some h
     obtain ⟨x24, hx24, h⟩ := h
     refine lw_op Z Z Z (ow_indexSlice (R := RInt) Z Z Z (VRep.mono hl45 hw26) Tryd.underlying52 (Tryd.sizeOf3 _) hx24 fun p14 hp14 => lw_op Z Z Z (ow_load (R := RInt) Z Z hp14 (Tryd.sizeOf3 _) (Tryd.isAgg3 _) fun v24 hv24 => ?_))
     obtain rfl := vint_eq hv24
     refine lw_op Z Z Z (ow_fieldAddr Z Z Tryd.underlying42 Z (Tryd.sizeOf3 _) (lw_op0 Z Z (ow_store (X := (One g)) (us := [(.int .i64 x24)]) (cs' := #[(.slice A1 x1.1.length c1), (.int .i64 x3), (.int .i64 x24)]) Z Z Z Z ho131 (Tryd.sizeOf3 _) Z Z Z Z hm5 (.inl hg4) Z hC45 fun w46 ho132 hb46 hl46 hC46 => ?_)))
     have ho133 := ho129.go hb46 (fun e => hn2 e)
     have ho134 := ho130.go hb46 (fun e => hn3 e)
     refine lw_nil (ew_blockN (ew_then (cw_seq (cw_region (lw_op Z Z Z (ow_loadOwnA Z Z Z ho132 (Tryd.isAgg42 _) (Tryd.sizeOf42 _) Z ?_))))))
     have lz21 := ((((((((hl3.trans hl4).trans hl5).trans hl6).trans hl38).trans hl39).trans hl44).trans hl45).trans hl46)
     refine lw_op0 Z Z (ow_store (X := (One g)) (us := [(.slice A1 x1.1.length c1), (.int .i64 x3), (.int .i64 x24)]) (cs' := #[(.slice A1 x1.1.length c1), (.int .i64 x3), (.int .i64 x24)]) Z Z Z Z ho134 (Tryd.sizeOf42 _) Z Z Z Z hm4 (.inl hg2) Z hC46 fun w47 ho135 hb47 hl47 hC47 => ?_)
     have ho136 := ho133.go hb47 (fun e => hn1 e)
     refine lw_nil (ew_then (cw_ret ?_))
     have hw28 : VRep RRule w47 (Add g2 (Add g1 M)) ({ Tests := x1.1, Action := x3, Chain := x24 } : Rule) (.agg #[(.slice A1 x1.1.length c1), (.int .i64 x3), (.int .i64 x24)]) := shut_Rule (VRep.mono (lz21.trans hl47) hv1)
     obtain rfl := Option.some.inj h
     exact ew_ret (res1 Z (.cell Z (own_loadVarA ho135 (Tryd.isAgg42 _) (Tryd.sizeOf42 _) Z))) ⟨_, Z, ⟨(hw28.mono hC47.back), ho136⟩, hC47.bx⟩
    ·
     obtain rfl := hbb11.trans hc11
     refine cw_false Z (cw_region (lw_op Z Z Z (ow_move Z Z ?_)))
     have lz22 := ((lz17.trans hl38).trans hl39)
     replace h := bind_some h
     obtain ⟨x25, hx25, h⟩ := h
     refine lw_op Z Z Z (ow_call Z Z Tryd.call79 (w_spec_l20Tests (hG.mono lz22) hC39.old (VRep.mono lz22 hxs) ho111 hm3 hx25) fun v25 w48 hv25 => ?_)
     obtain ⟨⟨hv25, ho138⟩, hb48⟩ := hv25
     have hC48 := hC39.go hb48 (fun b e => Or.inr e)
     have ho139 := ho112.go hb48 (fun e => hn1 e.symm)
     have ho140 := ho113.go hb48 (fun e => hn2 e.symm)
     refine lw_op Z Z Z (ow_fieldAddr Z Z Tryd.underlying42 Z (Tryd.sizeOf27 _) ?_)
     obtain ⟨A4, c4, rfl, -⟩ := vslice_shape hv25
     refine lw_op0 Z Z (ow_store (X := (One g)) (us := [(.slice A4 x25.1.length c4)]) (cs' := #[(.slice A4 x25.1.length c4), (.int .i64 x3), (.int .i64 0)]) Z Z Z Z ho140 (Tryd.sizeOf27 _) Z Z Z Z hm5 (.inl hg4) Z hC48 fun w49 ho141 hb49 hl49 hC49 => ?_)
     have ho142 := ho138.go hb49 (fun e => hn2 e)
     have ho143 := ho139.go hb49 (fun e => hn3 e)
     refine lw_nil (ew_blockN (ew_then (cw_seq (cw_region (lw_op Z Z Z (ow_loadOwnA Z Z Z ho141 (Tryd.isAgg42 _) (Tryd.sizeOf42 _) Z (lw_op0 Z Z (ow_store (X := (One g)) (us := [(.slice A4 x25.1.length c4), (.int .i64 x3), (.int .i64 0)]) (cs' := #[(.slice A4 x25.1.length c4), (.int .i64 x3), (.int .i64 0)]) Z Z Z Z ho143 (Tryd.sizeOf42 _) Z Z Z Z hm4 (.inl hg2) Z hC49 fun w50 ho144 hb50 hl50 hC50 => ?_))))))))
     have ho145 := ho142.go hb50 (fun e => hn1 e)
     refine lw_nil (ew_then (cw_ret ?_))
     have hw30 : VRep RRule w50 (Add g2 (Add g1 M)) ({ Tests := x25.1, Action := x3, Chain := 0 } : Rule) (.agg #[(.slice A4 x25.1.length c4), (.int .i64 x3), (.int .i64 0)]) := shut_Rule (VRep.mono (hl49.trans hl50) hv25)
     obtain rfl := Option.some.inj h
     exact ew_ret (res1 Z (.cell Z (own_loadVarA ho144 (Tryd.isAgg42 _) (Tryd.sizeOf42 _) Z))) ⟨_, Z, ⟨(hw30.mono hC50.back), ho145⟩, hC50.bx⟩
  ·
   obtain rfl := hbb9.trans hc9
   refine cw_false Z (cw_skip (ew_then (cw_seq (cw_region (lw_op Z Z Z (ow_loadOwnA Z Z Z ho110 (Tryd.isAgg42 _) (Tryd.sizeOf42 _) Z ?_))))))
   have lz23 := ((((hl3.trans hl4).trans hl5).trans hl6).trans hl38)
   refine lw_op0 Z Z (ow_store (X := (One g)) (us := [(.slice A1 x1.1.length c1), (.int .i64 x3), (.int .i64 0)]) (cs' := #[(.slice A1 x1.1.length c1), (.int .i64 x3), (.int .i64 0)]) Z Z Z Z ho109 (Tryd.sizeOf42 _) Z Z Z Z hm4 (.inl hg2) Z hC38 fun w51 ho147 hb51 hl51 hC51 => ?_)
   have ho148 := ho108.go hb51 (fun e => hn1 e)
   refine lw_nil (ew_then (cw_ret ?_))
   have hw32 : VRep RRule w51 (Add g2 (Add g1 M)) ({ Tests := x1.1, Action := x3, Chain := 0 } : Rule) (.agg #[(.slice A1 x1.1.length c1), (.int .i64 x3), (.int .i64 0)]) := shut_Rule (VRep.mono (lz23.trans hl51) hv1)
   obtain rfl := Option.some.inj h
   exact ew_ret (res1 Z (.cell Z (own_loadVarA ho147 (Tryd.isAgg42 _) (Tryd.sizeOf42 _) Z))) ⟨_, Z, ⟨(hw32.mono hC51.back), ho148⟩, hC51.bx⟩

theorem w_spec_l20Rules {w : World} {M : Nat → Prop} (hG : ARep (RArr 4 RShape) w M shapes ⟨0, 0, none⟩) (hO : ∀ b, M b → b < w.heap.size) {g : Nat} {Ax : Option Addr} {cx : Nat} {a_xs : List Int} {a_pos : Int} (hxs : VRep (RSlice RU8) w M a_xs (.slice Ax a_xs.length cx)) (hown : Own w g 111 #[.slice Ax a_xs.length cx, .int .i64 a_pos]) (hgM : M g) {a_first : Int} {a_chains : Int} {a_n : Int} {r : ((List Rule)) × Int} (h : F.spec_l20Rules a_xs a_pos a_first a_chains a_n = some r) :
  Calls Tryd.prog 59 [(.pointer (some ⟨g, 0, none⟩)), (.int .i64 a_first), (.int .i64 a_chains), (.int .i64 a_n)].toArray w fun e w' => ∃ v, e = .returned v ∧ (VRep (RSlice RRule) w' M r.1 v ∧ Own w' g 111 #[.slice Ax a_xs.length cx, .int .i64 r.2]) ∧ BX (One g) w w' := by
 obtain ⟨i42, hi42, hz42, hs42, hy42⟩ := info42
 have hX : ∀ b, (One g) b → M b := fun b e => e ▸ hgM
 have hC : Cx (One g) w M w M := Cx.start hO hX
 refine walk (N := 46) Tryd.func59 Z Tryd.ntmps59 Z (cw_seq (cw_region (lw_op Z Z Z (ow_assign Z Z (lw_nil (ew_then (cw_seq (cw_region (lw_op Z Z Z (ow_buildSlice0 (R := RRule) (e := 42) Z (by kernel_rfl) hC fun p1 w1 M1 hr1 hb1 hl1 hC1 hM1 hat1 => ?_))))))))))
 have ho1 := hown.no hb1
 have hm1 := hM1 _ hgM
 refine lw_op Z Z Z (ow_assign Z Z (lw_nil (ew_then (cw_seq (cw_seq (cw_region (lw_op Z Z Z (ow_move Z Z ?_))))))))
 replace h := bind_some h
 obtain ⟨x1, hx1, h⟩ := h
 refine lw_op Z Z Z (ow_call Z Z Tryd.call60 (w_spec_l20Rd_pick (hG.mono hl1) hC1.old (VRep.mono hl1 hxs) ho1 hm1 hx1) fun v1 w2 hv1 => ?_)
 obtain ⟨⟨hv1, ho2⟩, hb2⟩ := hv1
 have hl2 := Le.of_bx M1 hb2 (fun b e => (by rw [show b = g from e]; exact hm1))
 have hC2 := hC1.go hb2 (fun b e => Or.inr e)
 have hr2 := hr1.go hb2 (fun k hk e => (orow_ne hr1 ho1 (by decide)) (hk.trans (congrArg some e))) hl2 (fun _ h => h)
 obtain rfl := vint_eq hv1
 refine lw_op Z Z Z (ow_assign Z Z (lw_nil (ew_then ?_)))
 replace h := bind_some h
 obtain ⟨lr1, hlr1, h⟩ := h
 refine cw_for hlr1 (fun s a w' => ∃ (M' : Nat → Prop) (v0c : Value), Fits 46 [(0, (.pointer (some ⟨g, 0, none⟩))), (1, (.int .i64 a_first)), (2, (.int .i64 a_chains)), (3, (.int .i64 a_n)), (9, v0c), (10, (.int .i64 s.2.1))] a ∧ Le w2 M1 w' M' ∧ Cx (One g) w M w' M' ∧ OwnRow RRule w.heap.size 42 w' M' s.1 v0c ∧ Own w' g 111 #[(.slice Ax a_xs.length cx), (.int .i64 s.2.2)] ∧ M' g) ?_ ?_ ?_
 ·
  intro a ha
  exact ⟨M1, (.slice (some p1) 0 0), ha.sub ⟨Z, Z, Z, Z, Z, Z, trivial⟩, Le.refl _ _, hC2, hr2, ho2, hm1⟩
 ·
  rintro ⟨y1, k1, k2⟩ a w3 sr1 ⟨M2, v2, hF1, hl3, hC3, hw1, ho3, hm2⟩ hb3 hR1
  refine cw_at (E := [(0, (.pointer (some ⟨g, 0, none⟩))), (1, (.int .i64 a_first)), (2, (.int .i64 a_chains)), (3, (.int .i64 a_n)), (9, v2), (10, (.int .i64 k1))]) hF1 (cw_seq (cw_seq (cw_region (lw_op Z Z Z (ow_move Z Z (lw_op Z Z Z (ow_gtr Z Z Z fun bb1 hbb1 => lw_nil (ew_then ?_))))))))
  replace hb3 := cond_some hb3
  rcases hb3 with ⟨hc1, hb3⟩ | ⟨hc1, hb3⟩
  ·
   obtain rfl := hbb1.trans hc1
   refine cw_true Z (cw_skip (ew_then (cw_seq (cw_block (cw_region (lw_op Z Z Z (ow_move Z Z (lw_op Z Z Z (ow_move Z Z (lw_op Z Z Z (ow_move Z Z (lw_op Z Z Z (ow_move Z Z ?_)))))))))))))
   have lz1 := ((hl1.trans hl2).trans hl3)
   replace hb3 := bind_some hb3
   obtain ⟨x2, hx2, hb3⟩ := hb3
   refine lw_op Z Z Z (ow_call Z Z Tryd.call89 (w_spec_l20Rule (hG.mono lz1) hC3.old (VRep.mono lz1 hxs) ho3 hm2 hx2) fun v5 w4 hv5 => ?_)
   obtain ⟨⟨hv5, ho4⟩, hb4⟩ := hv5
   have hl4 := Le.of_bx M2 hb4 (fun b e => (by rw [show b = g from e]; exact hm2))
   have hC4 := hC3.go hb4 (fun b e => Or.inr e)
   have hr3 := hw1.go hb4 (fun k hk e => (orow_ne hw1 ho3 (by decide)) (hk.trans (congrArg some e))) hl4 (fun _ h => h)
   obtain ⟨A1, c1, rfl, hw2⟩ := open_Rule hv5
   refine lw_op Z Z Z (ow_buildSlice (R := RRule) (xs := [x2.1]) (cs := #[(.slice A1 x2.1.Tests.length c1), (.int .i64 x2.1.Action), (.int .i64 x2.1.Chain)]) (e := 42) Z Z (by kernel_rfl) Z Z ⟨_, _, Z, hv5.cells, Z⟩ hC4 fun p2 w5 hw3 hb5 hl5 hC5 => ?_)
   have ho5 := ho4.no hb5
   have hr4 := hr3.no hb5
   replace hb3 := bind_some hb3
   obtain ⟨z1, hz1, hb3⟩ := hb3
   refine lw_op Z Z Z (ow_append (R := RRule) Z Z Z Z Tryd.underlying36 hi42 hz42 hs42 hy42 Z Z Z Z hr4 hw3 hz1 hC5 fun v6 w6 M3 hr5 hb6 hl6 hC6 hM2 hat2 => ?_)
   have ho6 := ho5.go hb6 (fun e => (orow_ne hr4 ho5 (by decide)) e)
   have hm3 := hM2 _ hm2
   refine lw_op Z Z Z (ow_assign Z Z (lw_nil (ew_blockN (ew_then (cw_region (lw_op Z Z Z (ow_move Z Z (lw_op Z Z Z (ow_sub Z Z Z (lw_op Z Z Z (ow_assign Z Z (lw_nil ?_))))))))))))
   have lz2 := (((hl3.trans hl4).trans hl5).trans hl6)
   exact ew_nxt (z1, (W (k1 - 1)), x2.2) hb3 fun a ha => ⟨M3, v6, (ha.sub ⟨Z, Z, Z, Z, Z, Z, trivial⟩), lz2, hC6, hr5, ho6, hm3⟩
  ·
   obtain rfl := hbb1.trans hc1
   exact cw_false Z (cw_exit (ew_thenX (ew_thenX (ew_blockX (ew_brk (y1, k1, k2) hb3 fun a ha => ⟨M2, v2, (ha.sub ⟨Z, Z, Z, Z, Z, Z, trivial⟩), hl3, hC3, hw1, ho3, hm2⟩)))))
 ·
  rintro ⟨y2, k3, k4⟩ a w7 hlr2 ⟨M4, v7, hF2, hl7, hC7, hw4, ho7, hm4⟩
  subst hlr2
  refine ew_at (E := [(0, (.pointer (some ⟨g, 0, none⟩))), (1, (.int .i64 a_first)), (2, (.int .i64 a_chains)), (3, (.int .i64 a_n)), (9, v7), (10, (.int .i64 k3))]) hF2 (ew_then (cw_seq (cw_seq (cw_region (lw_op Z Z Z (ow_move Z Z (lw_op Z Z Z (ow_move Z Z ?_))))))))
  have lz3 := ((hl1.trans hl2).trans hl7)
  replace h := bind_some h
  obtain ⟨x3, hx3, h⟩ := h
  refine lw_op Z Z Z (ow_call Z Z Tryd.call81 (w_spec_l20Rd_odd (hG.mono lz3) hC7.old (VRep.mono lz3 hxs) ho7 hm4 hx3) fun v10 w8 hv10 => ?_)
  obtain ⟨⟨hv10, ho8⟩, hb7⟩ := hv10
  have hl8 := Le.of_bx M4 hb7 (fun b e => (by rw [show b = g from e]; exact hm4))
  have hC8 := hC7.go hb7 (fun b e => Or.inr e)
  have hr6 := hw4.go hb7 (fun k hk e => (orow_ne hw4 ho7 (by decide)) (hk.trans (congrArg some e))) hl8 (fun _ h => h)
  obtain ⟨bb2, hbb2, rfl⟩ := vbool_ex hv10
  refine lw_nil (ew_then ?_)
  replace h := cond_some h
  rcases h with ⟨hc2, h⟩ | ⟨hc2, h⟩
  ·
   obtain rfl := hbb2.trans hc2
   refine cw_true Z (cw_seq (cw_region (lw_op Z Z Z (ow_move Z Z ?_))))
   replace h := bind_some h
   obtain ⟨x4, hx4, h⟩ := h
   refine lw_op Z Z Z (ow_call Z Z Tryd.call60 (w_spec_l20Rd_pick (hG.mono (lz3.trans hl8)) hC8.old (VRep.mono (lz3.trans hl8) hxs) ho8 hm4 hx4) fun v11 w9 hv11 => ?_)
   obtain ⟨⟨hv11, ho9⟩, hb8⟩ := hv11
   have hl9 := Le.of_bx M4 hb8 (fun b e => (by rw [show b = g from e]; exact hm4))
   have hC9 := hC8.go hb8 (fun b e => Or.inr e)
   have hr7 := hr6.go hb8 (fun k hk e => (orow_ne hr6 ho8 (by decide)) (hk.trans (congrArg some e))) hl9 (fun _ h => h)
   obtain rfl := vint_eq hv11
   refine lw_op Z Z Z (ow_eqlI Z Z Z fun bb3 hbb3 => lw_nil (ew_then ?_))
   replace h := cond_some h
   rcases h with ⟨hc3, h⟩ | ⟨hc3, h⟩
   ·
    obtain rfl := hbb3.trans hc3
    refine cw_true Z (cw_region (lw_op Z Z Z (ow_move Z Z (lw_op Z Z Z (ow_move Z Z (lw_op Z Z Z (ow_move Z Z (lw_op Z Z Z (ow_move Z Z ?_)))))))))
    have lz4 := ((lz3.trans hl8).trans hl9)
    replace h := bind_some h
    obtain ⟨x5, hx5, h⟩ := h
    refine lw_op Z Z Z (ow_call Z Z Tryd.call89 (w_spec_l20Rule (hG.mono lz4) hC9.old (VRep.mono lz4 hxs) ho9 hm4 hx5) fun v12 w10 hv12 => ?_)
    obtain ⟨⟨hv12, ho10⟩, hb9⟩ := hv12
    have hl10 := Le.of_bx M4 hb9 (fun b e => (by rw [show b = g from e]; exact hm4))
    have hC10 := hC9.go hb9 (fun b e => Or.inr e)
    have hr8 := hr7.go hb9 (fun k hk e => (orow_ne hr7 ho9 (by decide)) (hk.trans (congrArg some e))) hl10 (fun _ h => h)
    obtain ⟨A2, c2, rfl, hw5⟩ := open_Rule hv12
    refine lw_op Z Z Z (ow_buildSlice (R := RRule) (xs := [x5.1]) (cs := #[(.slice A2 x5.1.Tests.length c2), (.int .i64 x5.1.Action), (.int .i64 x5.1.Chain)]) (e := 42) Z Z (by kernel_rfl) Z Z ⟨_, _, Z, hv12.cells, Z⟩ hC10 fun p3 w11 hw6 hb10 hl11 hC11 => ?_)
    have ho11 := ho10.no hb10
    have hr9 := hr8.no hb10
    replace h := bind_some h
    obtain ⟨z2, hz2, h⟩ := h
    refine lw_op Z Z Z (ow_append (R := RRule) Z Z Z Z Tryd.underlying36 hi42 hz42 hs42 hy42 Z Z Z Z hr9 hw6 hz2 hC11 fun v13 w12 M5 hr10 hb11 hl12 hC12 hM3 hat3 => ?_)
    have ho12 := ho11.go hb11 (fun e => (orow_ne hr9 ho11 (by decide)) e)
    refine lw_op Z Z Z (ow_assign Z Z (lw_nil (ew_then (cw_seq (cw_region (lw_op Z Z Z (ow_move Z Z (lw_op Z Z Z (ow_assign Z Z (lw_nil (ew_then (cw_ret ?_))))))))))))
    obtain rfl := Option.some.inj h
    exact ew_ret (res1 Z (.tmp Z)) ⟨_, Z, ⟨(hr10.freezeBack hC12 hO), ho12⟩, hC12.bx⟩
   ·
    obtain rfl := hbb3.trans hc3
    refine cw_false Z ?_
    replace h := bind_some h
    obtain ⟨lr2, hlr3, h⟩ := h
    refine cw_for hlr3 (fun s a w' => ∃ (M' : Nat → Prop) (v0c : Value), Fits 46 [(9, v0c)] a ∧ Le w9 M4 w' M' ∧ Cx (One g) w M w' M' ∧ OwnRow RRule w.heap.size 42 w' M' s v0c ∧ Own w' g 111 #[(.slice Ax a_xs.length cx), (.int .i64 x4.2)] ∧ M' g) ?_ ?_ ?_
    ·
     intro a ha
     exact ⟨M4, v7, ha.sub ⟨Z, trivial⟩, Le.refl _ _, hC9, hr7, ho9, hm4⟩
    ·
     rintro y3 a w13 sr2 ⟨M6, v14, hF3, hl13, hC13, hw7, ho13, hm6⟩ hb12 hR2
     refine cw_at (E := [(9, v14)]) hF3 (cw_seq (cw_seq (cw_region (lw_op Z Z Z (ow_move Z Z (lw_op Z Z Z (ow_lenOwn Z Z hw7 Tryd.underlying36 (lw_op Z Z Z (ow_leq Z Z Z fun bb4 hbb4 => lw_nil (ew_then ?_))))))))))
     replace hb12 := cond_some hb12
     rcases hb12 with ⟨hc4, hb12⟩ | ⟨hc4, hb12⟩
     ·
      obtain rfl := hbb4.trans hc4
      refine cw_true Z (cw_skip (ew_then (cw_block (cw_region (lw_op Z Z Z (ow_move Z Z (lw_op Z Z Z (ow_build (v := .agg #[(.slice none 0 0), (.int .i64 5), (.int .i64 0)]) Z Z (by kernel_rfl) ?_))))))))
      have hw8 : VRep RRule w13 M6 ({ Tests := ([] : List Test), Action := 5, Chain := 0 } : Rule) (.agg #[(.slice none 0 0), (.int .i64 5), (.int .i64 0)]) := shut_Rule (vslice_nil (R := RTest) (w := w13) (M := M6))
      refine lw_op Z Z Z (ow_buildSlice (R := RRule) (xs := [({ Tests := ([] : List Test), Action := 5, Chain := 0 } : Rule)]) (cs := #[(.slice none 0 0), (.int .i64 5), (.int .i64 0)]) (e := 42) Z Z (by kernel_rfl) Z Z ⟨_, _, Z, hw8.cells, Z⟩ hC13 fun p4 w14 hw9 hb13 hl14 hC14 => ?_)
      have ho14 := ho13.no hb13
      have hr11 := hw7.no hb13
      replace hb12 := bind_some hb12
      obtain ⟨z3, hz3, hb12⟩ := hb12
      refine lw_op Z Z Z (ow_append (R := RRule) Z Z Z Z Tryd.underlying36 hi42 hz42 hs42 hy42 Z Z Z Z hr11 hw9 hz3 hC14 fun v15 w15 M7 hr12 hb14 hl15 hC15 hM4 hat4 => ?_)
      have ho15 := ho14.go hb14 (fun e => (orow_ne hr11 ho14 (by decide)) e)
      have hm7 := hM4 _ hm6
      refine lw_op Z Z Z (ow_assign Z Z (lw_nil (ew_blockN ?_)))
      have lz5 := ((hl13.trans hl14).trans hl15)
      exact ew_nxt z3 hb12 fun a ha => ⟨M7, v15, (ha.sub ⟨Z, trivial⟩), lz5, hC15, hr12, ho15, hm7⟩
     ·
      obtain rfl := hbb4.trans hc4
      exact cw_false Z (cw_exit (ew_thenX (ew_thenX (ew_blockX (ew_brk y3 hb12 fun a ha => ⟨M6, v14, (ha.sub ⟨Z, trivial⟩), hl13, hC13, hw7, ho13, hm6⟩)))))
    ·
     rintro y4 a w16 hlr4 ⟨M8, v16, hF4, hl16, hC16, hw10, ho16, hm8⟩
     subst hlr4
     refine ew_at (E := [(9, v16)]) hF4 (ew_then (cw_seq (cw_region (lw_op Z Z Z (ow_move Z Z (lw_op Z Z Z (ow_assign Z Z (lw_nil (ew_then (cw_ret ?_))))))))))
     obtain rfl := Option.some.inj h
     exact ew_ret (res1 Z (.tmp Z)) ⟨_, Z, ⟨(hw10.freezeBack hC16 hO), ho16⟩, hC16.bx⟩
  ·
   obtain rfl := hbb2.trans hc2
   refine cw_false Z (cw_skip (ew_then (cw_seq (cw_region (lw_op Z Z Z (ow_move Z Z (lw_op Z Z Z (ow_assign Z Z (lw_nil (ew_then (cw_ret ?_)))))))))))
   obtain rfl := Option.some.inj h
   exact ew_ret (res1 Z (.tmp Z)) ⟨_, Z, ⟨(hr6.freezeBack hC8 hO), ho8⟩, hC8.bx⟩

theorem wo_spec_l20Rules {w : World} {M : Nat → Prop} (hG : ARep (RArr 4 RShape) w M shapes ⟨0, 0, none⟩) (hO : ∀ b, M b → b < w.heap.size) {g : Nat} {Ax : Option Addr} {cx : Nat} {a_xs : List Int} {a_pos : Int} (hxs : VRep (RSlice RU8) w M a_xs (.slice Ax a_xs.length cx)) (hown : Own w g 111 #[.slice Ax a_xs.length cx, .int .i64 a_pos]) (hgM : M g) {a_first : Int} {a_chains : Int} {a_n : Int} {r : ((List Rule)) × Int} (h : F.spec_l20Rules a_xs a_pos a_first a_chains a_n = some r) :
  Calls Tryd.prog 59 [(.pointer (some ⟨g, 0, none⟩)), (.int .i64 a_first), (.int .i64 a_chains), (.int .i64 a_n)].toArray w fun e w' => ∃ v, e = .returned v ∧ ((∃ M', OwnRow RRule w.heap.size 42 w' M' r.1 v ∧ Cx (One g) w M w' M') ∧ Own w' g 111 #[.slice Ax a_xs.length cx, .int .i64 r.2]) ∧ BX (One g) w w' := by
 obtain ⟨i42, hi42, hz42, hs42, hy42⟩ := info42
 have hX : ∀ b, (One g) b → M b := fun b e => e ▸ hgM
 have hC : Cx (One g) w M w M := Cx.start hO hX
 refine walk (N := 46) Tryd.func59 Z Tryd.ntmps59 Z (cw_seq (cw_region (lw_op Z Z Z (ow_assign Z Z (lw_nil (ew_then (cw_seq (cw_region (lw_op Z Z Z (ow_buildSlice0 (R := RRule) (e := 42) Z (by kernel_rfl) hC fun p1 w1 M1 hr1 hb1 hl1 hC1 hM1 hat1 => ?_))))))))))
 have ho1 := hown.no hb1
 have hm1 := hM1 _ hgM
 refine lw_op Z Z Z (ow_assign Z Z (lw_nil (ew_then (cw_seq (cw_seq (cw_region (lw_op Z Z Z (ow_move Z Z ?_))))))))
 replace h := bind_some h
 obtain ⟨x1, hx1, h⟩ := h
 refine lw_op Z Z Z (ow_call Z Z Tryd.call60 (w_spec_l20Rd_pick (hG.mono hl1) hC1.old (VRep.mono hl1 hxs) ho1 hm1 hx1) fun v1 w2 hv1 => ?_)
 obtain ⟨⟨hv1, ho2⟩, hb2⟩ := hv1
 have hl2 := Le.of_bx M1 hb2 (fun b e => (by rw [show b = g from e]; exact hm1))
 have hC2 := hC1.go hb2 (fun b e => Or.inr e)
 have hr2 := hr1.go hb2 (fun k hk e => (orow_ne hr1 ho1 (by decide)) (hk.trans (congrArg some e))) hl2 (fun _ h => h)
 obtain rfl := vint_eq hv1
 refine lw_op Z Z Z (ow_assign Z Z (lw_nil (ew_then ?_)))
 replace h := bind_some h
 obtain ⟨lr1, hlr1, h⟩ := h
 refine cw_for hlr1 (fun s a w' => ∃ (M' : Nat → Prop) (v0c : Value), Fits 46 [(0, (.pointer (some ⟨g, 0, none⟩))), (1, (.int .i64 a_first)), (2, (.int .i64 a_chains)), (3, (.int .i64 a_n)), (9, v0c), (10, (.int .i64 s.2.1))] a ∧ Le w2 M1 w' M' ∧ Cx (One g) w M w' M' ∧ OwnRow RRule w.heap.size 42 w' M' s.1 v0c ∧ Own w' g 111 #[(.slice Ax a_xs.length cx), (.int .i64 s.2.2)] ∧ M' g) ?_ ?_ ?_
 ·
  intro a ha
  exact ⟨M1, (.slice (some p1) 0 0), ha.sub ⟨Z, Z, Z, Z, Z, Z, trivial⟩, Le.refl _ _, hC2, hr2, ho2, hm1⟩
 ·
  rintro ⟨y1, k1, k2⟩ a w3 sr1 ⟨M2, v2, hF1, hl3, hC3, hw1, ho3, hm2⟩ hb3 hR1
  refine cw_at (E := [(0, (.pointer (some ⟨g, 0, none⟩))), (1, (.int .i64 a_first)), (2, (.int .i64 a_chains)), (3, (.int .i64 a_n)), (9, v2), (10, (.int .i64 k1))]) hF1 (cw_seq (cw_seq (cw_region (lw_op Z Z Z (ow_move Z Z (lw_op Z Z Z (ow_gtr Z Z Z fun bb1 hbb1 => lw_nil (ew_then ?_))))))))
  replace hb3 := cond_some hb3
  rcases hb3 with ⟨hc1, hb3⟩ | ⟨hc1, hb3⟩
  ·
   obtain rfl := hbb1.trans hc1
   refine cw_true Z (cw_skip (ew_then (cw_seq (cw_block (cw_region (lw_op Z Z Z (ow_move Z Z (lw_op Z Z Z (ow_move Z Z (lw_op Z Z Z (ow_move Z Z (lw_op Z Z Z (ow_move Z Z ?_)))))))))))))
   have lz1 := ((hl1.trans hl2).trans hl3)
   replace hb3 := bind_some hb3
   obtain ⟨x2, hx2, hb3⟩ := hb3
   refine lw_op Z Z Z (ow_call Z Z Tryd.call89 (w_spec_l20Rule (hG.mono lz1) hC3.old (VRep.mono lz1 hxs) ho3 hm2 hx2) fun v5 w4 hv5 => ?_)
   obtain ⟨⟨hv5, ho4⟩, hb4⟩ := hv5
   have hl4 := Le.of_bx M2 hb4 (fun b e => (by rw [show b = g from e]; exact hm2))
   have hC4 := hC3.go hb4 (fun b e => Or.inr e)
   have hr3 := hw1.go hb4 (fun k hk e => (orow_ne hw1 ho3 (by decide)) (hk.trans (congrArg some e))) hl4 (fun _ h => h)
   obtain ⟨A1, c1, rfl, hw2⟩ := open_Rule hv5
   refine lw_op Z Z Z (ow_buildSlice (R := RRule) (xs := [x2.1]) (cs := #[(.slice A1 x2.1.Tests.length c1), (.int .i64 x2.1.Action), (.int .i64 x2.1.Chain)]) (e := 42) Z Z (by kernel_rfl) Z Z ⟨_, _, Z, hv5.cells, Z⟩ hC4 fun p2 w5 hw3 hb5 hl5 hC5 => ?_)
   have ho5 := ho4.no hb5
   have hr4 := hr3.no hb5
   replace hb3 := bind_some hb3
   obtain ⟨z1, hz1, hb3⟩ := hb3
   refine lw_op Z Z Z (ow_append (R := RRule) Z Z Z Z Tryd.underlying36 hi42 hz42 hs42 hy42 Z Z Z Z hr4 hw3 hz1 hC5 fun v6 w6 M3 hr5 hb6 hl6 hC6 hM2 hat2 => ?_)
   have ho6 := ho5.go hb6 (fun e => (orow_ne hr4 ho5 (by decide)) e)
   have hm3 := hM2 _ hm2
   refine lw_op Z Z Z (ow_assign Z Z (lw_nil (ew_blockN (ew_then (cw_region (lw_op Z Z Z (ow_move Z Z (lw_op Z Z Z (ow_sub Z Z Z (lw_op Z Z Z (ow_assign Z Z (lw_nil ?_))))))))))))
   have lz2 := (((hl3.trans hl4).trans hl5).trans hl6)
   exact ew_nxt (z1, (W (k1 - 1)), x2.2) hb3 fun a ha => ⟨M3, v6, (ha.sub ⟨Z, Z, Z, Z, Z, Z, trivial⟩), lz2, hC6, hr5, ho6, hm3⟩
  ·
   obtain rfl := hbb1.trans hc1
   exact cw_false Z (cw_exit (ew_thenX (ew_thenX (ew_blockX (ew_brk (y1, k1, k2) hb3 fun a ha => ⟨M2, v2, (ha.sub ⟨Z, Z, Z, Z, Z, Z, trivial⟩), hl3, hC3, hw1, ho3, hm2⟩)))))
 ·
  rintro ⟨y2, k3, k4⟩ a w7 hlr2 ⟨M4, v7, hF2, hl7, hC7, hw4, ho7, hm4⟩
  subst hlr2
  refine ew_at (E := [(0, (.pointer (some ⟨g, 0, none⟩))), (1, (.int .i64 a_first)), (2, (.int .i64 a_chains)), (3, (.int .i64 a_n)), (9, v7), (10, (.int .i64 k3))]) hF2 (ew_then (cw_seq (cw_seq (cw_region (lw_op Z Z Z (ow_move Z Z (lw_op Z Z Z (ow_move Z Z ?_))))))))
  have lz3 := ((hl1.trans hl2).trans hl7)
  replace h := bind_some h
  obtain ⟨x3, hx3, h⟩ := h
  refine lw_op Z Z Z (ow_call Z Z Tryd.call81 (w_spec_l20Rd_odd (hG.mono lz3) hC7.old (VRep.mono lz3 hxs) ho7 hm4 hx3) fun v10 w8 hv10 => ?_)
  obtain ⟨⟨hv10, ho8⟩, hb7⟩ := hv10
  have hl8 := Le.of_bx M4 hb7 (fun b e => (by rw [show b = g from e]; exact hm4))
  have hC8 := hC7.go hb7 (fun b e => Or.inr e)
  have hr6 := hw4.go hb7 (fun k hk e => (orow_ne hw4 ho7 (by decide)) (hk.trans (congrArg some e))) hl8 (fun _ h => h)
  obtain ⟨bb2, hbb2, rfl⟩ := vbool_ex hv10
  refine lw_nil (ew_then ?_)
  replace h := cond_some h
  rcases h with ⟨hc2, h⟩ | ⟨hc2, h⟩
  ·
   obtain rfl := hbb2.trans hc2
   refine cw_true Z (cw_seq (cw_region (lw_op Z Z Z (ow_move Z Z ?_))))
   replace h := bind_some h
   obtain ⟨x4, hx4, h⟩ := h
   refine lw_op Z Z Z (ow_call Z Z Tryd.call60 (w_spec_l20Rd_pick (hG.mono (lz3.trans hl8)) hC8.old (VRep.mono (lz3.trans hl8) hxs) ho8 hm4 hx4) fun v11 w9 hv11 => ?_)
   obtain ⟨⟨hv11, ho9⟩, hb8⟩ := hv11
   have hl9 := Le.of_bx M4 hb8 (fun b e => (by rw [show b = g from e]; exact hm4))
   have hC9 := hC8.go hb8 (fun b e => Or.inr e)
   have hr7 := hr6.go hb8 (fun k hk e => (orow_ne hr6 ho8 (by decide)) (hk.trans (congrArg some e))) hl9 (fun _ h => h)
   obtain rfl := vint_eq hv11
   refine lw_op Z Z Z (ow_eqlI Z Z Z fun bb3 hbb3 => lw_nil (ew_then ?_))
   replace h := cond_some h
   rcases h with ⟨hc3, h⟩ | ⟨hc3, h⟩
   ·
    obtain rfl := hbb3.trans hc3
    refine cw_true Z (cw_region (lw_op Z Z Z (ow_move Z Z (lw_op Z Z Z (ow_move Z Z (lw_op Z Z Z (ow_move Z Z (lw_op Z Z Z (ow_move Z Z ?_)))))))))
    have lz4 := ((lz3.trans hl8).trans hl9)
    replace h := bind_some h
    obtain ⟨x5, hx5, h⟩ := h
    refine lw_op Z Z Z (ow_call Z Z Tryd.call89 (w_spec_l20Rule (hG.mono lz4) hC9.old (VRep.mono lz4 hxs) ho9 hm4 hx5) fun v12 w10 hv12 => ?_)
    obtain ⟨⟨hv12, ho10⟩, hb9⟩ := hv12
    have hl10 := Le.of_bx M4 hb9 (fun b e => (by rw [show b = g from e]; exact hm4))
    have hC10 := hC9.go hb9 (fun b e => Or.inr e)
    have hr8 := hr7.go hb9 (fun k hk e => (orow_ne hr7 ho9 (by decide)) (hk.trans (congrArg some e))) hl10 (fun _ h => h)
    obtain ⟨A2, c2, rfl, hw5⟩ := open_Rule hv12
    refine lw_op Z Z Z (ow_buildSlice (R := RRule) (xs := [x5.1]) (cs := #[(.slice A2 x5.1.Tests.length c2), (.int .i64 x5.1.Action), (.int .i64 x5.1.Chain)]) (e := 42) Z Z (by kernel_rfl) Z Z ⟨_, _, Z, hv12.cells, Z⟩ hC10 fun p3 w11 hw6 hb10 hl11 hC11 => ?_)
    have ho11 := ho10.no hb10
    have hr9 := hr8.no hb10
    replace h := bind_some h
    obtain ⟨z2, hz2, h⟩ := h
    refine lw_op Z Z Z (ow_append (R := RRule) Z Z Z Z Tryd.underlying36 hi42 hz42 hs42 hy42 Z Z Z Z hr9 hw6 hz2 hC11 fun v13 w12 M5 hr10 hb11 hl12 hC12 hM3 hat3 => ?_)
    have ho12 := ho11.go hb11 (fun e => (orow_ne hr9 ho11 (by decide)) e)
    refine lw_op Z Z Z (ow_assign Z Z (lw_nil (ew_then (cw_seq (cw_region (lw_op Z Z Z (ow_move Z Z (lw_op Z Z Z (ow_assign Z Z (lw_nil (ew_then (cw_ret ?_))))))))))))
    obtain rfl := Option.some.inj h
    exact ew_ret (res1 Z (.tmp Z)) ⟨_, Z, ⟨⟨M5, hr10, hC12⟩, ho12⟩, hC12.bx⟩
   ·
    obtain rfl := hbb3.trans hc3
    refine cw_false Z ?_
    replace h := bind_some h
    obtain ⟨lr2, hlr3, h⟩ := h
    refine cw_for hlr3 (fun s a w' => ∃ (M' : Nat → Prop) (v0c : Value), Fits 46 [(9, v0c)] a ∧ Le w9 M4 w' M' ∧ Cx (One g) w M w' M' ∧ OwnRow RRule w.heap.size 42 w' M' s v0c ∧ Own w' g 111 #[(.slice Ax a_xs.length cx), (.int .i64 x4.2)] ∧ M' g) ?_ ?_ ?_
    ·
     intro a ha
     exact ⟨M4, v7, ha.sub ⟨Z, trivial⟩, Le.refl _ _, hC9, hr7, ho9, hm4⟩
    ·
     rintro y3 a w13 sr2 ⟨M6, v14, hF3, hl13, hC13, hw7, ho13, hm6⟩ hb12 hR2
     refine cw_at (E := [(9, v14)]) hF3 (cw_seq (cw_seq (cw_region (lw_op Z Z Z (ow_move Z Z (lw_op Z Z Z (ow_lenOwn Z Z hw7 Tryd.underlying36 (lw_op Z Z Z (ow_leq Z Z Z fun bb4 hbb4 => lw_nil (ew_then ?_))))))))))
     replace hb12 := cond_some hb12
     rcases hb12 with ⟨hc4, hb12⟩ | ⟨hc4, hb12⟩
     ·
      obtain rfl := hbb4.trans hc4
      refine cw_true Z (cw_skip (ew_then (cw_block (cw_region (lw_op Z Z Z (ow_move Z Z (lw_op Z Z Z (ow_build (v := .agg #[(.slice none 0 0), (.int .i64 5), (.int .i64 0)]) Z Z (by kernel_rfl) ?_))))))))
      have hw8 : VRep RRule w13 M6 ({ Tests := ([] : List Test), Action := 5, Chain := 0 } : Rule) (.agg #[(.slice none 0 0), (.int .i64 5), (.int .i64 0)]) := shut_Rule (vslice_nil (R := RTest) (w := w13) (M := M6))
      refine lw_op Z Z Z (ow_buildSlice (R := RRule) (xs := [({ Tests := ([] : List Test), Action := 5, Chain := 0 } : Rule)]) (cs := #[(.slice none 0 0), (.int .i64 5), (.int .i64 0)]) (e := 42) Z Z (by kernel_rfl) Z Z ⟨_, _, Z, hw8.cells, Z⟩ hC13 fun p4 w14 hw9 hb13 hl14 hC14 => ?_)
      have ho14 := ho13.no hb13
      have hr11 := hw7.no hb13
      replace hb12 := bind_some hb12
      obtain ⟨z3, hz3, hb12⟩ := hb12
      refine lw_op Z Z Z (ow_append (R := RRule) Z Z Z Z Tryd.underlying36 hi42 hz42 hs42 hy42 Z Z Z Z hr11 hw9 hz3 hC14 fun v15 w15 M7 hr12 hb14 hl15 hC15 hM4 hat4 => ?_)
      have ho15 := ho14.go hb14 (fun e => (orow_ne hr11 ho14 (by decide)) e)
      have hm7 := hM4 _ hm6
      refine lw_op Z Z Z (ow_assign Z Z (lw_nil (ew_blockN ?_)))
      have lz5 := ((hl13.trans hl14).trans hl15)
      exact ew_nxt z3 hb12 fun a ha => ⟨M7, v15, (ha.sub ⟨Z, trivial⟩), lz5, hC15, hr12, ho15, hm7⟩
     ·
      obtain rfl := hbb4.trans hc4
      exact cw_false Z (cw_exit (ew_thenX (ew_thenX (ew_blockX (ew_brk y3 hb12 fun a ha => ⟨M6, v14, (ha.sub ⟨Z, trivial⟩), hl13, hC13, hw7, ho13, hm6⟩)))))
    ·
     rintro y4 a w16 hlr4 ⟨M8, v16, hF4, hl16, hC16, hw10, ho16, hm8⟩
     subst hlr4
     refine ew_at (E := [(9, v16)]) hF4 (ew_then (cw_seq (cw_region (lw_op Z Z Z (ow_move Z Z (lw_op Z Z Z (ow_assign Z Z (lw_nil (ew_then (cw_ret ?_))))))))))
     obtain rfl := Option.some.inj h
     exact ew_ret (res1 Z (.tmp Z)) ⟨_, Z, ⟨⟨M8, hw10, hC16⟩, ho16⟩, hC16.bx⟩
  ·
   obtain rfl := hbb2.trans hc2
   refine cw_false Z (cw_skip (ew_then (cw_seq (cw_region (lw_op Z Z Z (ow_move Z Z (lw_op Z Z Z (ow_assign Z Z (lw_nil (ew_then (cw_ret ?_)))))))))))
   obtain rfl := Option.some.inj h
   exact ew_ret (res1 Z (.tmp Z)) ⟨_, Z, ⟨⟨M4, hr6, hC8⟩, ho8⟩, hC8.bx⟩

theorem w_spec_l20Ruleset {w : World} {M : Nat → Prop} (hG : ARep (RArr 4 RShape) w M shapes ⟨0, 0, none⟩) (hO : ∀ b, M b → b < w.heap.size) {g : Nat} {Ax : Option Addr} {cx : Nat} {a_xs : List Int} {a_pos : Int} (hxs : VRep (RSlice RU8) w M a_xs (.slice Ax a_xs.length cx)) (hown : Own w g 111 #[.slice Ax a_xs.length cx, .int .i64 a_pos]) (hgM : M g) {a_n : Int} {r : Ruleset × Int} (h : F.spec_l20Ruleset a_xs a_pos a_n = some r) :
  Calls Tryd.prog 65 [(.pointer (some ⟨g, 0, none⟩)), (.int .i64 a_n)].toArray w fun e w' => ∃ v, e = .returned v ∧ (VRep RRuleset w' M r.1 v ∧ Own w' g 111 #[.slice Ax a_xs.length cx, .int .i64 r.2]) ∧ BX (One g) w w' := by
 obtain ⟨i36, hi36, hz36, hs36, hy36⟩ := info36
 obtain ⟨i42, hi42, hz42, hs42, hy42⟩ := info42
 have hX : ∀ b, (One g) b → M b := fun b e => e ▸ hgM
 have hC : Cx (One g) w M w M := Cx.start hO hX
 refine walk (N := 80) Tryd.func65 Z Tryd.ntmps65 Z (cw_seq (cw_region (lw_op Z Z Z (ow_alloc Z (Tryd.zeroValue45 _) hC fun g1 w1 hg1 hg2 ho1 hb1 hl1 hC1 => ?_))))
 have hn1 := Nat.ne_of_lt (Nat.lt_of_lt_of_le hown.lt hg1)
 have ho2 := hown.no hb1
 have hm1 : (Add g1 M) g := .inr hgM
 have hm2 : (Add g1 M) g1 := .inl Z
 refine lw_nil (ew_then (cw_seq (cw_region (lw_op Z Z Z (ow_move Z Z ?_)))))
 replace h := bind_some h
 obtain ⟨x1, hx1, h⟩ := h
 refine lw_op Z Z Z (ow_call Z Z Tryd.call60 (w_spec_l20Rd_pick (hG.mono hl1) hC1.old (VRep.mono hl1 hxs) ho2 hm1 hx1) fun v1 w2 hv1 => ?_)
 obtain ⟨⟨hv1, ho3⟩, hb2⟩ := hv1
 have hl2 := Le.of_bx (Add g1 M) hb2 (fun b e => (by rw [show b = g from e]; exact hm1))
 have hC2 := hC1.go hb2 (fun b e => Or.inr e)
 have ho4 := ho1.go hb2 (fun e => hn1 e.symm)
 obtain rfl := vint_eq hv1
 refine lw_op Z Z Z (ow_eqlI Z Z Z fun bb1 hbb1 => lw_op Z Z Z (ow_build (v := .agg #[(.slice none 0 0), (.bool bb1)]) Z Z (by kernel_rfl) (lw_op Z Z Z (ow_alloc Z (Tryd.zeroValue45 _) hC2 fun g2 w3 hg3 hg4 ho5 hb3 hl3 hC3 => ?_))))
 have hn2 := Nat.ne_of_lt (Nat.lt_of_lt_of_le ho3.lt hg3)
 have ho6 := ho3.no hb3
 have hm3 : (Add g2 (Add g1 M)) g := .inr hm1
 have hn3 := Nat.ne_of_lt (Nat.lt_of_lt_of_le ho4.lt hg3)
 have ho7 := ho4.no hb3
 have hm4 : (Add g2 (Add g1 M)) g1 := .inr hm2
 have hm5 : (Add g2 (Add g1 M)) g2 := .inl Z
 refine lw_op0 Z Z (ow_store (X := (One g)) (us := [(.slice none 0 0), (.bool bb1)]) (cs' := #[(.slice none 0 0), (.bool bb1)]) Z Z Z Z ho5 (Tryd.sizeOf45 _) Z Z Z Z hm5 (.inl hg4) Z hC3 fun w4 ho8 hb4 hl4 hC4 => ?_)
 have ho9 := ho6.go hb4 (fun e => hn2 e)
 have ho10 := ho7.go hb4 (fun e => hn3 e)
 refine lw_nil (ew_then (cw_seq (cw_region (lw_op Z Z Z (ow_move Z Z ?_)))))
 have lz1 := (((hl1.trans hl2).trans hl3).trans hl4)
 replace h := bind_some h
 obtain ⟨x2, hx2, h⟩ := h
 refine lw_op Z Z Z (ow_call Z Z Tryd.call60 (w_spec_l20Rd_pick (hG.mono lz1) hC4.old (VRep.mono lz1 hxs) ho9 hm3 hx2) fun v2 w5 hv2 => ?_)
 obtain ⟨⟨hv2, ho11⟩, hb5⟩ := hv2
 have hl5 := Le.of_bx (Add g2 (Add g1 M)) hb5 (fun b e => (by rw [show b = g from e]; exact hm3))
 have hC5 := hC4.go hb5 (fun b e => Or.inr e)
 have ho12 := ho10.go hb5 (fun e => hn1 e.symm)
 have ho13 := ho8.go hb5 (fun e => hn2 e.symm)
 obtain rfl := vint_eq hv2
 refine lw_op Z Z Z (ow_add Z Z Z (lw_op Z Z Z (ow_assign Z Z (lw_nil (ew_then (cw_seq (cw_seq (cw_region (lw_op Z Z Z (ow_assign Z Z (lw_nil (ew_then ?_))))))))))))
 have hr1 : HRow RRule w.heap.size 36 42 w5 (Add g2 (Add g1 M)) ([] : List (List Rule)) (.slice none 0 0) := hrow_nil
 replace h := bind_some h
 obtain ⟨lr1, hlr1, h⟩ := h
 refine cw_for hlr1 (fun s a w' => ∃ (M' : Nat → Prop) (v2c : Value), Fits 80 [(0, (.pointer (some ⟨g, 0, none⟩))), (1, (.int .i64 a_n)), (4, (.pointer (some ⟨g1, 0, none⟩))), (5, (.pointer (some ⟨g2, 0, none⟩))), (6, (.int .i64 (W (1 + x2.1)))), (7, (.int .i64 s.1))] a ∧ Le w5 (Add g2 (Add g1 M)) w' M' ∧ Cx (One g) w M w' M' ∧ HRow RRule w.heap.size 36 42 w' M' s.2.2 v2c ∧ Own w' g 111 #[(.slice Ax a_xs.length cx), (.int .i64 s.2.1)] ∧ M' g ∧ Own w' g1 45 #[(.slice none 0 0), (.bool false)] ∧ M' g1 ∧ Own w' g2 45 #[v2c, (.bool bb1)] ∧ M' g2) ?_ ?_ ?_
 ·
  intro a ha
  exact ⟨(Add g2 (Add g1 M)), (.slice none 0 0), ha.sub ⟨Z, Z, Z, Z, Z, Z, trivial⟩, Le.refl _ _, hC5, hr1, ho11, hm3, ho12, hm4, ho13, hm5⟩
 ·
  rintro ⟨k1, k2, y1⟩ a w6 sr1 ⟨M1, v5, hF1, hl6, hC6, hw2, ho14, hm6, ho15, hm7, ho16, hm8⟩ hb6 hR1
  refine cw_at (E := [(0, (.pointer (some ⟨g, 0, none⟩))), (1, (.int .i64 a_n)), (4, (.pointer (some ⟨g1, 0, none⟩))), (5, (.pointer (some ⟨g2, 0, none⟩))), (6, (.int .i64 (W (1 + x2.1)))), (7, (.int .i64 k1))]) hF1 (cw_seq (cw_seq (cw_region (lw_op Z Z Z (ow_move Z Z (lw_op Z Z Z (ow_move Z Z (lw_op Z Z Z (ow_lss Z Z Z fun bb2 hbb2 => lw_nil (ew_then ?_))))))))))
  replace hb6 := cond_some hb6
  rcases hb6 with ⟨hc1, hb6⟩ | ⟨hc1, hb6⟩
  ·
   obtain rfl := hbb2.trans hc1
   refine cw_true Z (cw_skip (ew_then (cw_seq (cw_block ?_))))
   have lz2 := ((lz1.trans hl5).trans hl6)
   replace hb6 := bind_some hb6
   obtain ⟨x3, hx3, hb6⟩ := hb6
   replace hb6 := bind_some hb6
   obtain ⟨z1, hz1, hb6⟩ := hb6
   refine cw_sub (E' := [(0, (.pointer (some ⟨g, 0, none⟩))), (1, (.int .i64 a_n)), (4, (.pointer (some ⟨g1, 0, none⟩))), (5, (.pointer (some ⟨g2, 0, none⟩))), (6, (.int .i64 (W (1 + x2.1)))), (7, (.int .i64 k1))]) ⟨Z, Z, Z, Z, Z, Z, trivial⟩ (cw_drawC (g := g) (T := 111) 8 1 [none, none, none, none, none, none, some 0, none] [#[(.slice Ax a_xs.length cx), (.int .i64 k2)], #[(.slice Ax a_xs.length cx), (.int .i64 x3.2)]] [PEq (.pointer (some ⟨g2, 0, none⟩)), PEq v5, PEq (.pointer (some ⟨g, 0, none⟩)), PEq (.int .i64 k1), PEq (.int .i64 (W (k1 + 1))), PEq (.int .i64 (W (1 + x2.1))), PNR RRule w.heap.size 42 (One g) w M w6 M1 x3.1, PNL RRule w.heap.size 42 (One g) w M w6 M1 x3.1] (by kernel_rfl) Z (by kernel_rfl) (by kernel_rfl) ho14 ⟨(PEq.monoY hm6 _), (PEq.monoY hm6 _), (PEq.monoY hm6 _), (PEq.monoY hm6 _), (PEq.monoY hm6 _), (PEq.monoY hm6 _), (PNR.monoY hm6 ho14.lt (.inr Z)), (PNL.monoY hm6 ho14.lt (.inr Z)), trivial⟩ ⟨?_, ?_, ?_, ?_, ?_, ?_, ?_, ?_, trivial⟩ ?_)
   ·
    intro wa D hSa hda
    exact dg_sub (E' := [(5, (.pointer (some ⟨g2, 0, none⟩)))]) ⟨Z, trivial⟩ (dg_plain Z (ow_fieldAddr Z Z Tryd.underlying45 Z (Tryd.sizeOf43 _) ⟨BX.refl _ _, Z⟩))
   ·
    intro wa D hSa hda
    exact dg_sub (E' := [(20, (.pointer (some ⟨g2, 0, none⟩)))]) ⟨dpE hda 0 Z Z, trivial⟩ (dg_plain Z (ow_loadOwn1 Z Z Z (ho16.go hSa (fun e => hn2 e.symm)) (Tryd.isAgg43 _) Z ⟨BX.refl _ _, Z⟩))
   ·
    intro wa D hSa hda
    exact dg_sub (E' := [(0, (.pointer (some ⟨g, 0, none⟩)))]) ⟨Z, trivial⟩ (dg_plain Z (ow_move Z Z ⟨BX.refl _ _, Z⟩))
   ·
    intro wa D hSa hda
    exact dg_sub (E' := [(7, (.int .i64 k1))]) ⟨Z, trivial⟩ (dg_plain Z (ow_move Z Z ⟨BX.refl _ _, Z⟩))
   ·
    intro wa D hSa hda
    exact dg_sub (E' := [(23, (.int .i64 k1))]) ⟨dpE hda 3 Z Z, trivial⟩ (dg_plain Z (ow_add Z Z Z ⟨BX.refl _ _, Z⟩))
   ·
    intro wa D hSa hda
    exact dg_sub (E' := [(6, (.int .i64 (W (1 + x2.1))))]) ⟨Z, trivial⟩ (dg_plain Z (ow_move Z Z ⟨BX.refl _ _, Z⟩))
   ·
    intro wa D hSa hda
    obtain ⟨hSa, hOa⟩ := hSa
    have hOa : Own wa g 111 #[(.slice Ax a_xs.length cx), (.int .i64 k2)] := hOa
    have hla := leY hm6 hSa
    have hCa := hC6.go hSa (fun b e => Or.inr e)
    refine dg_sub (E' := [(22, (.pointer (some ⟨g, 0, none⟩))), (24, (.int .i64 (W (k1 + 1)))), (25, (.int .i64 (W (1 + x2.1))))]) ⟨dpE hda 2 Z Z, dpE hda 4 Z Z, dpE hda 5 Z Z, trivial⟩ (dg_plain Z (ow_call Z Z Tryd.call59 (wo_spec_l20Rules (hG.mono (lz2.trans hla)) hCa.old (VRep.mono hla (VRep.mono lz2 hxs)) hOa hm6 hx3) fun va wb hva => ?_))
    obtain ⟨⟨⟨Mb, hrb, hkb⟩, hOb⟩, hbb⟩ := hva
    exact ⟨⟨⟨hSa.trans hbb, hOb⟩, hbb⟩, Mb, hrb.base hCa.bx.size, hla.trans (hkb.leY (fun b e => by rw [show b = g from e]; exact hm6)), hCa.trans2 hkb (fun b e => .inr e), hkb.sup, fun b e => Nat.le_trans hSa.size (hrb.block e).1⟩
   ·
    intro wa D hSa hda
    have hd6 : PNR RRule w.heap.size 42 (One g) w M w6 M1 x3.1 (D 6) wa := dpA hda 6 Z
    obtain ⟨Mb, hrb, hlb, hCb, hmb, hgb⟩ := hd6
    generalize hqb : (D 6) = va at hrb hgb
    obtain ⟨Ab, cb, rfl⟩ := hrb.len
    exact dg_sub (E' := [(26, .slice Ab x3.1.length cb)]) ⟨congrArg some hqb, trivial⟩ (dg_plain Z (ow_buildSlice (R := RHd) (xs := [.slice Ab x3.1.length cb]) (cs := #[.slice Ab x3.1.length cb]) (e := 36) Z Z (by kernel_rfl) Z Z ⟨_, _, Z, ⟨Z, Z⟩, Z⟩ hCb fun pb wc hwc hbc hlc hCc => ⟨hbc, _, Mb, hwc, hrb.no hbc, hlb.trans hlc, hCc, hmb, hgb⟩))
   ·
    intro w7 D hS1 hd1
    obtain ⟨hS1, ho17⟩ := hS1
    have ho17 : Own w7 g 111 #[(.slice Ax a_xs.length cx), (.int .i64 x3.2)] := ho17
    have d1 : PNL RRule w.heap.size 42 (One g) w M w6 M1 x3.1 (D 7) w7 := dpA hd1 7 Z
    obtain ⟨v6, M2, hw3, hr2, hl7, hC7, hk1, hge1⟩ := d1
    generalize hq1 : (D 7) = v7 at hw3
    have hm9 := hk1 _ hm6
    have hm10 := hk1 _ hm7
    have ho18 := ho15.go hS1 (fun e => hn1 e.symm)
    have hm11 := hk1 _ hm8
    have ho19 := ho16.go hS1 (fun e => hn2 e.symm)
    refine lw_sub (E' := [(27, v7), (21, v5), (0, (.pointer (some ⟨g, 0, none⟩))), (1, (.int .i64 a_n)), (4, (.pointer (some ⟨g1, 0, none⟩))), (5, (.pointer (some ⟨g2, 0, none⟩))), (6, (.int .i64 (W (1 + x2.1)))), (7, (.int .i64 k1))]) ⟨(congrArg some hq1), dpE hd1 1 Z Z, Z, Z, Z, Z, Z, Z, trivial⟩ (lw_op Z Z Z (ow_appendH Z Z Z Z Tryd.underlying43 hi36 hz36 hs36 hy36 Z Z Z Z hw2 hS1 ho14 (by decide) (by decide) (by decide) hw3 hr2 hl7 hk1 hge1 hz1 hC7 hX hO fun v8 w8 M3 hr3 hb7 hl8 hC8 hk2 => ?_))
    have hm12 := (hk2 _ _ _ ho17 (by decide) (by decide)).2 hm9
    have ho20 := ho17.go hb7 (fun e => (hk2 _ _ _ ho17 (by decide) (by decide)).1 e)
    have hm13 := (hk2 _ _ _ ho18 (by decide) (by decide)).2 hm10
    have ho21 := ho18.go hb7 (fun e => (hk2 _ _ _ ho18 (by decide) (by decide)).1 e)
    have hm14 := (hk2 _ _ _ ho19 (by decide) (by decide)).2 hm11
    have ho22 := ho19.go hb7 (fun e => (hk2 _ _ _ ho19 (by decide) (by decide)).1 e)
    refine lw_op Z Z Z (ow_fieldAddr Z Z Tryd.underlying45 Z (Tryd.sizeOf43 _) ?_)
    obtain ⟨A1, c1, rfl⟩ := hr3.len
    refine lw_op0 Z Z (ow_store (X := (One g)) (us := [(.slice A1 z1.length c1)]) (cs' := #[(.slice A1 z1.length c1), (.bool bb1)]) Z Z Z Z ho22 (Tryd.sizeOf43 _) Z Z Z Z hm14 (.inl hg4) Z hC8 fun w9 ho23 hb8 hl9 hC9 => ?_)
    have ho24 := ho20.go hb8 (fun e => hn2 e)
    have ho25 := ho21.go hb8 (fun e => hn3 e)
    have hr4 := HRow.goOwn hr3 hb8 ho22 hl9 (by decide) (by decide)
    refine lw_nil (ew_blockN (ew_then (cw_region (lw_op Z Z Z (ow_move Z Z (lw_op Z Z Z (ow_add Z Z Z (lw_op Z Z Z (ow_assign Z Z (lw_nil ?_))))))))))
    have lz3 := (((hl6.trans hl7).trans hl8).trans hl9)
    exact ew_nxt ((W (k1 + 1)), x3.2, z1) hb6 fun a ha => ⟨M3, (.slice A1 z1.length c1), (ha.sub ⟨Z, Z, Z, Z, Z, Z, trivial⟩), lz3, hC9, hr4, ho24, hm12, ho25, hm13, ho23, hm14⟩
  ·
   obtain rfl := hbb2.trans hc1
   exact cw_false Z (cw_exit (ew_thenX (ew_thenX (ew_blockX (ew_brk (k1, k2, y1) hb6 fun a ha => ⟨M1, v5, (ha.sub ⟨Z, Z, Z, Z, Z, Z, trivial⟩), hl6, hC6, hw2, ho14, hm6, ho15, hm7, ho16, hm8⟩)))))
 ·
  rintro ⟨k3, k4, y2⟩ a w10 hlr2 ⟨M4, v11, hF2, hl10, hC10, hw4, ho26, hm15, ho27, hm16, ho28, hm17⟩
  subst hlr2
  refine ew_at (E := [(0, (.pointer (some ⟨g, 0, none⟩))), (1, (.int .i64 a_n)), (4, (.pointer (some ⟨g1, 0, none⟩))), (5, (.pointer (some ⟨g2, 0, none⟩))), (6, (.int .i64 (W (1 + x2.1)))), (7, (.int .i64 k3))]) hF2 (ew_then (cw_seq (cw_seq (cw_region (lw_op Z Z Z (ow_move Z Z (lw_op Z Z Z (ow_move Z Z ?_))))))))
  have lz4 := ((lz1.trans hl5).trans hl10)
  replace h := bind_some h
  obtain ⟨x4, hx4, h⟩ := h
  refine lw_op Z Z Z (ow_call Z Z Tryd.call81 (w_spec_l20Rd_odd (hG.mono lz4) hC10.old (VRep.mono lz4 hxs) ho26 hm15 hx4) fun v12 w11 hv12 => ?_)
  obtain ⟨⟨hv12, ho29⟩, hb9⟩ := hv12
  have hl11 := Le.of_bx M4 hb9 (fun b e => (by rw [show b = g from e]; exact hm15))
  have hC11 := hC10.go hb9 (fun b e => Or.inr e)
  have ho30 := ho27.go hb9 (fun e => hn1 e.symm)
  have ho31 := ho28.go hb9 (fun e => hn2 e.symm)
  have hr5 := HRow.goOwn hw4 hb9 ho26 hl11 (by decide) (by decide)
  obtain ⟨bb3, hbb3, rfl⟩ := vbool_ex hv12
  refine lw_nil (ew_then ?_)
  replace h := cond_some h
  rcases h with ⟨hc2, h⟩ | ⟨hc2, h⟩
  ·
   obtain rfl := hbb3.trans hc2
   refine cw_true Z (cw_seq (cw_region (lw_op Z Z Z (ow_move Z Z ?_))))
   replace h := bind_some h
   obtain ⟨x5, hx5, h⟩ := h
   refine lw_op Z Z Z (ow_call Z Z Tryd.call60 (w_spec_l20Rd_pick (hG.mono (lz4.trans hl11)) hC11.old (VRep.mono (lz4.trans hl11) hxs) ho29 hm15 hx5) fun v13 w12 hv13 => ?_)
   obtain ⟨⟨hv13, ho32⟩, hb10⟩ := hv13
   have hl12 := Le.of_bx M4 hb10 (fun b e => (by rw [show b = g from e]; exact hm15))
   have hC12 := hC11.go hb10 (fun b e => Or.inr e)
   have ho33 := ho30.go hb10 (fun e => hn1 e.symm)
   have ho34 := ho31.go hb10 (fun e => hn2 e.symm)
   have hr6 := HRow.goOwn hr5 hb10 ho29 hl12 (by decide) (by decide)
   obtain rfl := vint_eq hv13
   refine lw_nil (ew_then (cw_block (cw_seq (cw_region (lw_op Z Z Z (ow_eqlI Z Z Z fun bb4 hbb4 => lw_op Z Z Z (ow_assign Z Z (lw_nil (ew_then ?_)))))))))
   replace h := cond_some h
   rcases h with ⟨hc3, h⟩ | ⟨hc3, h⟩
   ·
    obtain rfl := hbb4.trans hc3
    refine cw_true Z ?_
    obtain ⟨M5, hr7, hl13, hC13, hk3⟩ := HRow.flat hr6 hC12 hX hO (by decide)
    have hm19 : M5 g1 := hk3 _ _ _ ho33 (by decide) hm16
    have hm20 : M5 g2 := hk3 _ _ _ ho34 (by decide) hm17
    refine cw_region (lw_op Z Z Z (ow_buildSlice0 (R := (RSlice RRule)) (e := 36) Z (by kernel_rfl) hC13 fun p1 w13 M6 hr8 hb11 hl14 hC14 hM1 hat1 => ?_))
    have ho35 := ho32.no hb11
    have ho36 := ho33.no hb11
    have hm22 := hM1 _ hm19
    have ho37 := ho34.no hb11
    have hm23 := hM1 _ hm20
    refine lw_op Z Z Z (ow_fieldAddr Z Z Tryd.underlying45 Z (Tryd.sizeOf43 _) (lw_op0 Z Z (ow_store (X := (One g)) (us := [(.slice (some p1) 0 0)]) (cs' := #[(.slice (some p1) 0 0), (.bool bb1)]) Z Z Z Z ho37 (Tryd.sizeOf43 _) Z Z Z Z hm23 (.inl hg4) Z hC14 fun w14 ho38 hb12 hl15 hC15 => ?_)))
    have ho39 := ho35.go hb12 (fun e => hn2 e)
    have ho40 := ho36.go hb12 (fun e => hn3 e)
    refine lw_nil (ew_blockN (ew_then (cw_seq (cw_region (lw_op Z Z Z (ow_loadOwnA Z Z Z ho38 (Tryd.isAgg45 _) (Tryd.sizeOf45 _) Z (lw_op0 Z Z (ow_store (X := (One g)) (us := [(.slice (some p1) 0 0), (.bool bb1)]) (cs' := #[(.slice (some p1) 0 0), (.bool bb1)]) Z Z Z Z ho40 (Tryd.sizeOf45 _) Z Z Z Z hm22 (.inl hg2) Z hC15 fun w15 ho41 hb13 hl16 hC16 => ?_))))))))
    have ho42 := ho39.go hb13 (fun e => hn1 e)
    refine lw_nil (ew_then (cw_ret ?_))
    have hw6 : VRep RRuleset w15 M6 ({ Chains := ([] : List (List Rule)), Accept := (x1.1 == 0) } : Ruleset) (.agg #[(.slice (some p1) 0 0), (.bool bb1)]) := by subst hbb1; exact shut_Ruleset (VRep.mono hl16 vslice_nil)
    obtain rfl := Option.some.inj h
    exact ew_ret (res1 Z (.cell Z (own_loadVarA ho41 (Tryd.isAgg45 _) (Tryd.sizeOf45 _) Z))) ⟨_, Z, ⟨(hw6.mono hC16.back), ho42⟩, hC16.bx⟩
   ·
    obtain rfl := hbb4.trans hc3
    refine cw_false Z (cw_seq (cw_region (lw_op Z Z Z (ow_eqlI Z Z Z fun bb5 hbb5 => lw_op Z Z Z (ow_assign Z Z (lw_nil (ew_then ?_)))))))
    replace h := cond_some h
    rcases h with ⟨hc4, h⟩ | ⟨hc4, h⟩
    ·
     obtain rfl := hbb5.trans hc4
     refine cw_true Z ?_
     have lz5 := ((lz4.trans hl11).trans hl12)
     replace h := bind_some h
     obtain ⟨x6, hx6, h⟩ := h
     replace h := bind_some h
     obtain ⟨x7, hx7, h⟩ := h
     replace h := bind_some h
     obtain ⟨x8, hx8, h⟩ := h
     replace h := bind_some h
     obtain ⟨z2, hz2, h⟩ := h
     obtain ⟨v14, v15, v16, hq2, hr13, hr14, hw7⟩ := HRow.cons hr6 hx6
     have hq2 : y2 = x6 :: v16 := hq2
     obtain ⟨A2, c2, rfl⟩ := hr14.len
     have hY4 : ¬ (OrRow g (.slice A2 x6.length c2)) g1 := fun e => e.elim (fun e => (fun e => hn1 e.symm) e) (fun e => orow_ne hr14 ho33 (by decide) e)
     have hY5 : ¬ (OrRow g (.slice A2 x6.length c2)) g2 := fun e => e.elim (fun e => (fun e => hn2 e.symm) e) (fun e => orow_ne hr14 ho34 (by decide) e)
     have hY1 : ∀ b, (OrRow g (.slice A2 x6.length c2)) b → M4 b := fun b e => e.elim (fun e => by rw [show b = g from e]; exact hm15) (fun e => hr14.mem b e)
     have hY2 : ∀ b, (OrRow g (.slice A2 x6.length c2)) b → w.heap.size ≤ b ∨ (One g) b := fun b e => e.elim (fun e => .inr e) (fun e => .inl (hr14.block e).1)
     have hY3 : ∀ b, (Value.ownBlock v11) = some b → ¬ (OrRow g (.slice A2 x6.length c2)) b := fun b hb e => e.elim (fun e => orow_ne hr13 ho32 (by decide) (hb.trans (congrArg some e))) (fun e => orow_row_ne hr13 hr14 (by decide) hb e)
     refine cw_sub (E' := [(0, (.pointer (some ⟨g, 0, none⟩))), (4, (.pointer (some ⟨g1, 0, none⟩))), (5, (.pointer (some ⟨g2, 0, none⟩))), (6, (.int .i64 (W (1 + x2.1))))]) ⟨Z, Z, Z, Z, trivial⟩ (cw_drawCR (g := g) (Tg := 111) (R := RRule) (B := w.heap.size) (e := 42) (M := M4) (xs := x6) (v := (.slice A2 x6.length c2)) 15 2 [none, none, none, none, none, none, none, none, none, some 0, none, none, none, none, some 1] [#[(.slice Ax a_xs.length cx), (.int .i64 x5.2)], #[(.slice Ax a_xs.length cx), (.int .i64 x7.2)], #[(.slice Ax a_xs.length cx), (.int .i64 x7.2)]] [PEq (.pointer (some ⟨g2, 0, none⟩)), PEq v11, PEq (.pointer (some ⟨g2, 0, none⟩)), PEq v11, PEq (.pointer (some ⟨blk v11, (0 : Int).toNat * RHd.size, none⟩)), PEq (.slice A2 x6.length c2), PEq (.int .i64 (W (1 + x2.1))), PV (RSlice RInt) M4 [0, (W (1 + x2.1))], PEq (.pointer (some ⟨g, 0, none⟩)), PEq (.int .i64 x7.1), PA RInt M4 x8, PEq (.int .i64 x8), PV RRule M4 ({ Tests := ([] : List Test), Action := 3, Chain := x8 } : Rule), PV (RSlice RRule) M4 [({ Tests := ([] : List Test), Action := 3, Chain := x8 } : Rule)], PApp2 RRule w.heap.size 42 (One g) w M w12 M4 z2] (by kernel_rfl) Z (by kernel_rfl) (by kernel_rfl) ho32 hr14 ⟨(PEq.monoR _), (PEq.monoR _), (PEq.monoR _), (PEq.monoR _), (PEq.monoR _), (PEq.monoR _), (PEq.monoR _), (PV.monoR hY1 _ _), (PEq.monoR _), (PEq.monoR _), (PA.monoR hY1 _ _), (PEq.monoR _), (PV.monoR hY1 _ _), (PV.monoR hY1 _ _), PApp2.mono, trivial⟩ ⟨?_, ?_, ?_, ?_, ?_, ?_, ?_, ?_, ?_, ?_, ?_, ?_, ?_, ?_, ?_, trivial⟩ ?_)
     ·
      intro wa D hSa hda
      exact dg_sub (E' := [(5, (.pointer (some ⟨g2, 0, none⟩)))]) ⟨Z, trivial⟩ (dg_plain Z (ow_fieldAddr Z Z Tryd.underlying45 Z (Tryd.sizeOf43 _) ⟨BX.refl _ _, Z⟩))
     ·
      intro wa D hSa hda
      exact dg_sub (E' := [(47, (.pointer (some ⟨g2, 0, none⟩)))]) ⟨dpE hda 0 Z Z, trivial⟩ (dg_plain Z (ow_loadOwn1 Z Z Z (ho34.go hSa hY5) (Tryd.isAgg43 _) Z ⟨BX.refl _ _, Z⟩))
     ·
      intro wa D hSa hda
      exact dg_sub (E' := [(5, (.pointer (some ⟨g2, 0, none⟩)))]) ⟨Z, trivial⟩ (dg_plain Z (ow_fieldAddr Z Z Tryd.underlying45 Z (Tryd.sizeOf43 _) ⟨BX.refl _ _, Z⟩))
     ·
      intro wa D hSa hda
      exact dg_sub (E' := [(49, (.pointer (some ⟨g2, 0, none⟩)))]) ⟨dpE hda 2 Z Z, trivial⟩ (dg_plain Z (ow_loadOwn1 Z Z Z (ho34.go hSa hY5) (Tryd.isAgg43 _) Z ⟨BX.refl _ _, Z⟩))
     ·
      intro wa D hSa hda
      have hra := hr13.go hSa hY3 (Le.of_bx M4 hSa hY1) (fun _ h => h)
      exact dg_sub (E' := [(50, v11)]) ⟨dpE hda 3 Z Z, trivial⟩ (dg_plain Z (ow_indexRow (R := RHd) (j := 0) Z Z Z hra Tryd.underlying43 (Tryd.sizeOf36 _) Z ⟨BX.refl _ _, Z⟩))
     ·
      intro wa D hSa hda
      have hra := hr13.go hSa hY3 (Le.of_bx M4 hSa hY1) (fun _ h => h)
      exact dg_sub (E' := [(51, (.pointer (some ⟨blk v11, (0 : Int).toNat * RHd.size, none⟩)))]) ⟨dpE hda 4 Z Z, trivial⟩ (dg_plain Z (ow_loadElRow (R := RHd) (S := RHd) (j := 0) (y := (.slice A2 x6.length c2)) Z Z Z hra (orow_blk (j := 0) (y := (.slice A2 x6.length c2)) hra Z) Z (Fld.whole RHd) (Tryd.sizeOf36 _) (Tryd.isAgg36 _) fun va hva => ⟨BX.refl _ _, rhd_eq hva⟩))
     ·
      intro wa D hSa hda
      exact dg_sub (E' := [(6, (.int .i64 (W (1 + x2.1))))]) ⟨Z, trivial⟩ (dg_plain Z (ow_move Z Z ⟨BX.refl _ _, Z⟩))
     ·
      intro wa D hSa hda
      have hCa := hC12.go hSa hY2
      exact dg_sub (E' := [(53, (.int .i64 (W (1 + x2.1))))]) ⟨dpE hda 6 Z Z, trivial⟩ (dg_plain Z (ow_buildSlice (R := RInt) (xs := [0, (W (1 + x2.1))]) (cs := #[.int .i64 0, .int .i64 (W (1 + x2.1))]) (e := 3) Z Z (by kernel_rfl) Z Z ⟨_, _, Z, (vint _).cells, _, _, Z, (vint _).cells, Z⟩ hCa fun pb wc hwc hbc hlc hCc => ⟨hbc, hwc⟩))
     ·
      intro wa D hSa hda
      exact dg_sub (E' := [(0, (.pointer (some ⟨g, 0, none⟩)))]) ⟨Z, trivial⟩ (dg_plain Z (ow_move Z Z ⟨BX.refl _ _, Z⟩))
     ·
      intro wa D hSa hda
      obtain ⟨hSa, hOa, hRa⟩ := hSa
      have hOa : Own wa g 111 #[(.slice Ax a_xs.length cx), (.int .i64 x5.2)] := hOa
      have hRa := hRa (by decide)
      have hla := Le.of_bx M4 hSa hY1
      have hCa := hC12.go hSa hY2
      refine dg_sub (E' := [(55, (.pointer (some ⟨g, 0, none⟩)))]) ⟨dpE hda 8 Z Z, trivial⟩ (dg_plain Z (ow_call Z Z Tryd.call60 (w_spec_l20Rd_pick (hG.mono (lz5.trans hla)) hCa.old (VRep.mono hla (VRep.mono lz5 hxs)) hOa hm15 hx7) fun va wb hva => ?_))
      obtain ⟨⟨hva, hOb⟩, hbb⟩ := hva
      obtain rfl := vint_eq hva
      exact ⟨⟨⟨hSa.trans (hbb.mono fun _ _ e => .inl e), hOb, fun _ => hRa.go hbb (fun b hb e => orow_ne hRa hOa (by decide) (hb.trans (congrArg some e))) (leY hm15 hbb) (fun _ h => h)⟩, hbb.mono fun _ _ e => .inl e⟩, Z⟩
     ·
      intro wa D hSa hda
      have d7a : PV (RSlice RInt) M4 [0, (W (1 + x2.1))] (D 7) wa := dpA hda 7 Z
      generalize hqa : (D 7) = va at d7a
      exact dg_sub (E' := [(54, va), (56, (.int .i64 x7.1))]) ⟨congrArg some hqa, dpE hda 9 Z Z, trivial⟩ (dg_plain Z (ow_indexSlice (R := RInt) Z Z Z d7a Tryd.underlying52 (Tryd.sizeOf3 _) hx8 fun pa hpa => ⟨BX.refl _ _, _, Z, hpa⟩))
     ·
      intro wa D hSa hda
      have d10a : PA RInt M4 x8 (D 10) wa := dpA hda 10 Z
      obtain ⟨pa, hqa, hpa⟩ := d10a
      refine dg_sub (E' := [(57, .pointer (some pa))]) ⟨congrArg some hqa, trivial⟩ (dg_plain Z (ow_load (R := RInt) Z Z hpa (Tryd.sizeOf3 _) (Tryd.isAgg3 _) fun va hva => ?_))
      obtain rfl := vint_eq hva
      exact ⟨BX.refl _ _, Z⟩
     ·
      intro wa D hSa hda
      exact dg_sub (E' := [(58, (.int .i64 x8))]) ⟨dpE hda 11 Z Z, trivial⟩ (dg_plain Z (ow_build (v := .agg #[.slice none 0 0, .int .i64 3, .int .i64 x8]) Z Z (by kernel_rfl) ⟨BX.refl _ _, shut_Rule vslice_nil⟩))
     ·
      intro wa D hSa hda
      have hCa := hC12.go hSa hY2
      have d12a : PV RRule M4 ({ Tests := ([] : List Test), Action := 3, Chain := x8 } : Rule) (D 12) wa := dpA hda 12 Z
      generalize hqa : (D 12) = va at d12a
      obtain ⟨Aq, cq, rfl, hwq⟩ := open_Rule d12a
      exact dg_sub (E' := [(59, .agg #[.slice Aq ([] : List Test).length cq, .int .i64 3, .int .i64 x8])]) ⟨congrArg some hqa, trivial⟩ (dg_plain Z (ow_buildSlice (R := RRule) (xs := [({ Tests := ([] : List Test), Action := 3, Chain := x8 } : Rule)]) (cs := #[.slice Aq ([] : List Test).length cq, .int .i64 3, .int .i64 x8]) (e := 42) Z Z (by kernel_rfl) Z Z ⟨_, _, Z, d12a.cells, Z⟩ hCa fun pb wc hwc hbc hlc hCc => ⟨hbc, hwc⟩))
     ·
      intro wa D hSa hda
      obtain ⟨hSa, hOa, hRa⟩ := hSa
      have hOa : Own wa g 111 #[(.slice Ax a_xs.length cx), (.int .i64 x7.2)] := hOa
      have hRa := hRa (by decide)
      have hla := Le.of_bx M4 hSa hY1
      have hCa := hC12.go hSa hY2
      have d13a : PV (RSlice RRule) M4 [({ Tests := ([] : List Test), Action := 3, Chain := x8 } : Rule)] (D 13) wa := dpA hda 13 Z
      generalize hqa : (D 13) = ua at d13a
      exact dg_sub (E' := [(52, (.slice A2 x6.length c2)), (60, ua)]) ⟨dpE hda 5 Z Z, congrArg some hqa, trivial⟩ (dg_plain Z (ow_append (R := RRule) Z Z Z Z Tryd.underlying36 hi42 hz42 hs42 hy42 Z Z Z Z hRa d13a hz2 hCa fun vb wb Mb hrb hbb hlb hCb hMb hatb => ⟨⟨⟨hSa.trans (hbb.mono fun _ _ e => .inr e), hOa.go hbb (fun e => orow_ne hRa hOa (by decide) e), fun h => absurd h (by decide)⟩, hbb.mono fun _ _ e => .inr e⟩, Mb, hrb, hla.trans hlb, hCb, hMb⟩))
     ·
      intro w16 D hS2 hd2
      obtain ⟨hS2, ho44⟩ := hS2
      have ho44 : Own w16 g 111 #[(.slice Ax a_xs.length cx), (.int .i64 x7.2)] := ho44
      have d2 : PApp2 RRule w.heap.size 42 (One g) w M w12 M4 z2 (D 14) w16 := dpA hd2 14 Z
      obtain ⟨M7, hr15, hl17, hC17, hk4⟩ := d2
      generalize hq3 : (D 14) = v17 at hr15
      obtain ⟨A3, c3, rfl⟩ := hr15.len
      have hr16 := hr13.go hS2 hY3 hl17 hk4
      have hw8 := hw7.mono hl17
      have hm25 := hk4 _ hm16
      have ho45 := ho33.go hS2 hY4
      have ho46 := ho34.go hS2 hY5
      refine lw_sub (E' := [(61, (.slice A3 z2.length c3)), (48, v11), (0, (.pointer (some ⟨g, 0, none⟩))), (4, (.pointer (some ⟨g1, 0, none⟩))), (5, (.pointer (some ⟨g2, 0, none⟩))), (6, (.int .i64 (W (1 + x2.1))))]) ⟨(congrArg some hq3), dpE hd2 1 Z Z, Z, Z, Z, Z, trivial⟩ (lw_op Z Z Z (ow_indexRow (R := RHd) (j := 0) Z Z Z hr16 Tryd.underlying43 (Tryd.sizeOf36 _) Z ?_))
      have hq4 := orow_blk (j := 0) (y := (.slice A2 x6.length c2)) hr16 Z
      refine lw_op0 Z Z (ow_storeElRow (X := (One g)) (R := RHd) (S := RHd) (j := 0) (y := (.slice A2 x6.length c2)) Z Z Z Z hr16 hq4 Z (FldSet.whole RHd) (Tryd.sizeOf36 _) (rhd Z) (Nat.le_refl _) hC17 fun w17 hr17 hb14 hl18 hC18 => ?_)
      have ho47 := ho44.go hb14 (fun e => orow_ne hr16 ho44 (by decide) (by rw [hq4]; exact congrArg some e.symm))
      have ho48 := ho45.go hb14 (fun e => orow_ne hr16 ho45 (by decide) (by rw [hq4]; exact congrArg some e.symm))
      have ho49 := ho46.go hb14 (fun e => orow_ne hr16 ho46 (by decide) (by rw [hq4]; exact congrArg some e.symm))
      have hr18 := hr15.go hb14 (fun k hk e => orow_row_ne hr15 hr16 (by decide) hk (by rw [hq4]; exact congrArg some e.symm)) hl18 (fun _ h => h)
      have hr19 : HRow RRule w.heap.size 36 42 w17 M7 (List.set y2 (0 : Int).toNat z2) v11 := by rw [hq2]; exact ⟨(.slice A3 z2.length c3) :: v15, hr17, hr18, hw8.mono hl18⟩
      refine lw_nil (ew_blockN (ew_then (cw_seq ?_)))
      obtain ⟨M8, hr20, hl19, hC19, hk5⟩ := HRow.flat hr19 hC18 hX hO (by decide)
      have hm28 : M8 g1 := hk5 _ _ _ ho48 (by decide) hm25
      refine cw_region (lw_op Z Z Z (ow_loadOwnA Z Z Z ho49 (Tryd.isAgg45 _) (Tryd.sizeOf45 _) Z ?_))
      have hw9 := hr20.freezeDel
      have hC20 := hr20.cxDel hC19 hX hO
      have hm31 : (Del v11 M8) g1 := ⟨hm28, fun e => (orow_ne hr20 ho48 (by decide)) e⟩
      obtain ⟨A4, c4, rfl, -⟩ := vslice_shape hw9
      refine lw_op0 Z Z (ow_store (X := (One g)) (us := [(.slice A4 (List.set y2 (0 : Int).toNat z2).length c4), (.bool bb1)]) (cs' := #[(.slice A4 (List.set y2 (0 : Int).toNat z2).length c4), (.bool bb1)]) Z Z Z Z ho48 (Tryd.sizeOf45 _) Z Z Z Z hm31 (.inl hg2) Z hC20 fun w18 ho50 hb15 hl21 hC21 => ?_)
      have ho51 := ho47.go hb15 (fun e => hn1 e)
      refine lw_nil (ew_then (cw_ret ?_))
      have hw11 : VRep RRuleset w18 (Del (.slice A4 (List.set y2 (0 : Int).toNat z2).length c4) M8) ({ Chains := (List.set y2 (0 : Int).toNat z2), Accept := (x1.1 == 0) } : Ruleset) (.agg #[(.slice A4 (List.set y2 (0 : Int).toNat z2).length c4), (.bool bb1)]) := by subst hbb1; exact shut_Ruleset (VRep.mono hl21 hw9)
      obtain rfl := Option.some.inj h
      exact ew_ret (res1 Z (.cell Z (own_loadVarA ho50 (Tryd.isAgg45 _) (Tryd.sizeOf45 _) Z))) ⟨_, Z, ⟨(hw11.mono hC21.back), ho51⟩, hC21.bx⟩
    ·
     obtain rfl := hbb5.trans hc4
     refine cw_false Z (cw_seq (cw_region (lw_op Z Z Z (ow_eqlI Z Z Z fun bb6 hbb6 => lw_op Z Z Z (ow_assign Z Z (lw_nil (ew_then ?_)))))))
     replace h := cond_some h
     rcases h with ⟨hc5, h⟩ | ⟨hc5, h⟩
     ·
      obtain rfl := hbb6.trans hc5
      refine cw_true Z (cw_seq ?_)
      obtain ⟨M9, hr21, hl22, hC22, hk6⟩ := HRow.flat hr6 hC12 hX hO (by decide)
      have hm34 : M9 g1 := hk6 _ _ _ ho33 (by decide) hm16
      refine cw_region (lw_op Z Z Z (ow_fieldAddr Z Z Tryd.underlying45 Z (Tryd.sizeOf43 _) (lw_op Z Z Z (ow_loadOwn1 Z Z Z ho34 (Tryd.isAgg43 _) Z (lw_op Z Z Z (ow_move Z Z (lw_op Z Z Z (ow_sub Z Z Z (lw_op Z Z Z (ow_build (v := .agg #[(.slice none 0 0), (.int .i64 3), (.int .i64 0)]) Z Z (by kernel_rfl) ?_))))))))))
      have hw12 : VRep RRule w12 M9 ({ Tests := ([] : List Test), Action := 3, Chain := 0 } : Rule) (.agg #[(.slice none 0 0), (.int .i64 3), (.int .i64 0)]) := shut_Rule (vslice_nil (R := RTest) (w := w12) (M := M9))
      refine lw_op Z Z Z (ow_buildSlice (R := RRule) (xs := [({ Tests := ([] : List Test), Action := 3, Chain := 0 } : Rule)]) (cs := #[(.slice none 0 0), (.int .i64 3), (.int .i64 0)]) (e := 42) Z Z (by kernel_rfl) Z Z ⟨_, _, Z, hw12.cells, Z⟩ hC22 fun p2 w19 hw13 hb16 hl23 hC23 => ?_)
      have ho53 := ho32.no hb16
      have ho54 := ho33.no hb16
      have ho55 := ho34.no hb16
      have hr22 := hr21.no hb16
      replace h := bind_some h
      obtain ⟨x9, hx9, h⟩ := h
      refine lw_op Z Z Z (ow_indexRow (R := (RSlice RRule)) Z Z Z hr22 Tryd.underlying43 (Tryd.sizeOf36 _) hx9 (lw_op0 Z Z (ow_storeElRow (X := (One g)) (R := (RSlice RRule)) (S := (RSlice RRule)) Z Z Z Z hr22 (orow_blk hr22 hx9) hx9 (FldSet.whole (RSlice RRule)) (Tryd.sizeOf36 _) hw13 (Nat.le_refl _) hC23 fun w20 ho56 hb17 hl24 hC24 => ?_)))
      have ho57 := ho53.go hb17 (fun e => (orow_ne hr22 ho53 (by decide)) (by rw [orow_blk hr22 hx9]; exact congrArg some e.symm))
      have ho58 := ho54.go hb17 (fun e => (orow_ne hr22 ho54 (by decide)) (by rw [orow_blk hr22 hx9]; exact congrArg some e.symm))
      have ho59 := ho55.go hb17 (fun e => (orow_ne hr22 ho55 (by decide)) (by rw [orow_blk hr22 hx9]; exact congrArg some e.symm))
      refine lw_nil (ew_then (cw_region (lw_op Z Z Z (ow_fieldAddr Z Z Tryd.underlying45 Z (Tryd.sizeOf43 _) (lw_op Z Z Z (ow_loadOwn1 Z Z Z ho59 (Tryd.isAgg43 _) Z (lw_op Z Z Z (ow_move Z Z (lw_op Z Z Z (ow_sub Z Z Z (lw_op Z Z Z (ow_build (v := .agg #[(.slice none 0 0), (.int .i64 3), (.int .i64 (W ((W (1 + x2.1)) - 1)))]) Z Z (by kernel_rfl) ?_))))))))))))
      have hw14 : VRep RRule w20 M9 ({ Tests := ([] : List Test), Action := 3, Chain := (W ((W (1 + x2.1)) - 1)) } : Rule) (.agg #[(.slice none 0 0), (.int .i64 3), (.int .i64 (W ((W (1 + x2.1)) - 1)))]) := shut_Rule (vslice_nil (R := RTest) (w := w20) (M := M9))
      refine lw_op Z Z Z (ow_buildSlice (R := RRule) (xs := [({ Tests := ([] : List Test), Action := 3, Chain := (W ((W (1 + x2.1)) - 1)) } : Rule)]) (cs := #[(.slice none 0 0), (.int .i64 3), (.int .i64 (W ((W (1 + x2.1)) - 1)))]) (e := 42) Z Z (by kernel_rfl) Z Z ⟨_, _, Z, hw14.cells, Z⟩ hC24 fun p3 w21 hw15 hb18 hl25 hC25 => ?_)
      have ho60 := ho57.no hb18
      have ho61 := ho58.no hb18
      have ho62 := ho59.no hb18
      have hr23 := ho56.no hb18
      replace h := bind_some h
      obtain ⟨x10, hx10, h⟩ := h
      refine lw_op Z Z Z (ow_indexRow (R := (RSlice RRule)) Z Z Z hr23 Tryd.underlying43 (Tryd.sizeOf36 _) hx10 (lw_op0 Z Z (ow_storeElRow (X := (One g)) (R := (RSlice RRule)) (S := (RSlice RRule)) Z Z Z Z hr23 (orow_blk hr23 hx10) hx10 (FldSet.whole (RSlice RRule)) (Tryd.sizeOf36 _) hw15 (Nat.le_refl _) hC25 fun w22 ho63 hb19 hl26 hC26 => ?_)))
      have ho64 := ho60.go hb19 (fun e => (orow_ne hr23 ho60 (by decide)) (by rw [orow_blk hr23 hx10]; exact congrArg some e.symm))
      have ho65 := ho61.go hb19 (fun e => (orow_ne hr23 ho61 (by decide)) (by rw [orow_blk hr23 hx10]; exact congrArg some e.symm))
      have ho66 := ho62.go hb19 (fun e => (orow_ne hr23 ho62 (by decide)) (by rw [orow_blk hr23 hx10]; exact congrArg some e.symm))
      refine lw_nil (ew_blockN (ew_then (cw_seq (cw_region (lw_op Z Z Z (ow_loadOwnA Z Z Z ho66 (Tryd.isAgg45 _) (Tryd.sizeOf45 _) Z ?_))))))
      have hw16 := ho63.freezeDel
      have hC27 := ho63.cxDel hC26 hX hO
      have hm37 : (Del v11 M9) g1 := ⟨hm34, fun e => (orow_ne ho63 ho65 (by decide)) e⟩
      obtain ⟨A5, c5, rfl, -⟩ := vslice_shape hw16
      refine lw_op0 Z Z (ow_store (X := (One g)) (us := [(.slice A5 (List.set (List.set y2 ((W ((W (1 + x2.1)) - 1)) : Int).toNat [({ Tests := ([] : List Test), Action := 3, Chain := 0 } : Rule)]) (0 : Int).toNat [({ Tests := ([] : List Test), Action := 3, Chain := (W ((W (1 + x2.1)) - 1)) } : Rule)]).length c5), (.bool bb1)]) (cs' := #[(.slice A5 (List.set (List.set y2 ((W ((W (1 + x2.1)) - 1)) : Int).toNat [({ Tests := ([] : List Test), Action := 3, Chain := 0 } : Rule)]) (0 : Int).toNat [({ Tests := ([] : List Test), Action := 3, Chain := (W ((W (1 + x2.1)) - 1)) } : Rule)]).length c5), (.bool bb1)]) Z Z Z Z ho65 (Tryd.sizeOf45 _) Z Z Z Z hm37 (.inl hg2) Z hC27 fun w23 ho67 hb20 hl28 hC28 => ?_)
      have ho68 := ho64.go hb20 (fun e => hn1 e)
      refine lw_nil (ew_then (cw_ret ?_))
      have hw18 : VRep RRuleset w23 (Del (.slice A5 (List.set (List.set y2 ((W ((W (1 + x2.1)) - 1)) : Int).toNat [({ Tests := ([] : List Test), Action := 3, Chain := 0 } : Rule)]) (0 : Int).toNat [({ Tests := ([] : List Test), Action := 3, Chain := (W ((W (1 + x2.1)) - 1)) } : Rule)]).length c5) M9) ({ Chains := (List.set (List.set y2 ((W ((W (1 + x2.1)) - 1)) : Int).toNat [({ Tests := ([] : List Test), Action := 3, Chain := 0 } : Rule)]) (0 : Int).toNat [({ Tests := ([] : List Test), Action := 3, Chain := (W ((W (1 + x2.1)) - 1)) } : Rule)]), Accept := (x1.1 == 0) } : Ruleset) (.agg #[(.slice A5 (List.set (List.set y2 ((W ((W (1 + x2.1)) - 1)) : Int).toNat [({ Tests := ([] : List Test), Action := 3, Chain := 0 } : Rule)]) (0 : Int).toNat [({ Tests := ([] : List Test), Action := 3, Chain := (W ((W (1 + x2.1)) - 1)) } : Rule)]).length c5), (.bool bb1)]) := by subst hbb1; exact shut_Ruleset (VRep.mono hl28 hw16)
      obtain rfl := Option.some.inj h
      exact ew_ret (res1 Z (.cell Z (own_loadVarA ho67 (Tryd.isAgg45 _) (Tryd.sizeOf45 _) Z))) ⟨_, Z, ⟨(hw18.mono hC28.back), ho68⟩, hC28.bx⟩
     ·
      obtain rfl := hbb6.trans hc5
      refine cw_false Z ?_
      obtain ⟨M10, hr24, hl29, hC29, hk7⟩ := HRow.flat hr6 hC12 hX hO (by decide)
      have hm39 : M10 g := hk7 _ _ _ ho32 (by decide) hm15
      have hm40 : M10 g1 := hk7 _ _ _ ho33 (by decide) hm16
      replace h := bind_some h
      obtain ⟨x11, hx11, h⟩ := h
      have lz6 := (((lz4.trans hl11).trans hl12).trans hl29)
      refine cw_sub (E' := [(0, (.pointer (some ⟨g, 0, none⟩))), (4, (.pointer (some ⟨g1, 0, none⟩))), (5, (.pointer (some ⟨g2, 0, none⟩))), (6, (.int .i64 (W (1 + x2.1))))]) ⟨Z, Z, Z, Z, trivial⟩ (cw_drawC (g := g) (T := 111) 5 1 [none, none, none, none, some 0] [#[(.slice Ax a_xs.length cx), (.int .i64 x5.2)], #[(.slice Ax a_xs.length cx), (.int .i64 x11.2)]] [PEq (.pointer (some ⟨g2, 0, none⟩)), PEq v11, PEq (.pointer (some ⟨g, 0, none⟩)), PEq (.int .i64 (W (1 + x2.1))), PV (RSlice RRule) M10 x11.1] (by kernel_rfl) Z (by kernel_rfl) (by kernel_rfl) ho32 ⟨(PEq.monoY hm39 _), (PEq.monoY hm39 _), (PEq.monoY hm39 _), (PEq.monoY hm39 _), (PV.monoY hm39 _ _), trivial⟩ ⟨?_, ?_, ?_, ?_, ?_, trivial⟩ ?_)
      ·
       intro w25 D hS3 hd3
       exact dg_sub (E' := [(5, (.pointer (some ⟨g2, 0, none⟩)))]) ⟨Z, trivial⟩ (dg_plain Z (ow_fieldAddr Z Z Tryd.underlying45 Z (Tryd.sizeOf43 _) ⟨BX.refl _ _, Z⟩))
      ·
       intro w26 D hS4 hd4
       have ho76 := ho34.go hS4 (fun e => hn2 e.symm)
       exact dg_sub (E' := [(35, (.pointer (some ⟨g2, 0, none⟩)))]) ⟨(dpE hd4 0 Z Z), trivial⟩ (dg_plain Z (ow_loadOwn1 Z Z Z ho76 (Tryd.isAgg43 _) Z ⟨BX.refl _ _, Z⟩))
      ·
       intro w27 D hS5 hd5
       exact dg_sub (E' := [(0, (.pointer (some ⟨g, 0, none⟩)))]) ⟨Z, trivial⟩ (dg_plain Z (ow_move Z Z ⟨BX.refl _ _, Z⟩))
      ·
       intro w28 D hS6 hd6
       exact dg_sub (E' := [(6, (.int .i64 (W (1 + x2.1))))]) ⟨Z, trivial⟩ (dg_plain Z (ow_move Z Z ⟨BX.refl _ _, Z⟩))
      ·
       intro w29 D hS7 hd7
       obtain ⟨hS7, ho81⟩ := hS7
       have ho81 : Own w29 g 111 #[(.slice Ax a_xs.length cx), (.int .i64 x5.2)] := ho81
       have hl35 := leY hm39 hS7
       have hC35 := hC29.go hS7 (fun b e => Or.inr e)
       refine dg_sub (E' := [(37, (.pointer (some ⟨g, 0, none⟩))), (38, (.int .i64 (W (1 + x2.1))))]) ⟨(dpE hd7 2 Z Z), (dpE hd7 3 Z Z), trivial⟩ (dg_plain Z (ow_call Z Z Tryd.call59 (w_spec_l20Rules (hG.mono (lz6.trans hl35)) hC35.old (VRep.mono (lz6.trans hl35) hxs) ho81 hm39 hx11) fun v19 w30 hv19 => ?_))
       obtain ⟨⟨hv19, ho84⟩, hb22⟩ := hv19
       exact ⟨⟨⟨hS7.trans hb22, ho84⟩, hb22⟩, hv19⟩
      ·
       intro w31 D hS8 hd8
       have d10 : PV (RSlice RRule) M10 x11.1 (D 4) w31 := dpA hd8 4 Z
       obtain ⟨hS8, ho87⟩ := hS8
       have ho87 : Own w31 g 111 #[(.slice Ax a_xs.length cx), (.int .i64 x11.2)] := ho87
       have hl37 := leY hm39 hS8
       have hC37 := hC29.go hS8 (fun b e => Or.inr e)
       have ho88 := ho33.go hS8 (fun e => hn1 e.symm)
       have ho89 := ho34.go hS8 (fun e => hn2 e.symm)
       have hr32 := hr24.go hS8 (fun k hk e => (orow_ne hr24 ho32 (by decide)) (hk.trans (congrArg some e))) hl37 (fun _ h => h)
       generalize hq5 : (D 4) = v20 at d10
       refine lw_sub (E' := [(36, v11), (39, v20), (0, (.pointer (some ⟨g, 0, none⟩))), (4, (.pointer (some ⟨g1, 0, none⟩))), (5, (.pointer (some ⟨g2, 0, none⟩))), (6, (.int .i64 (W (1 + x2.1))))]) ⟨(dpE hd8 1 Z Z), (congrArg some hq5), Z, Z, Z, Z, trivial⟩ ?_
       replace h := bind_some h
       obtain ⟨x12, hx12, h⟩ := h
       refine lw_op Z Z Z (ow_indexRow (R := (RSlice RRule)) Z Z Z hr32 Tryd.underlying43 (Tryd.sizeOf36 _) hx12 (lw_op0 Z Z (ow_storeElRow (X := (One g)) (R := (RSlice RRule)) (S := (RSlice RRule)) Z Z Z Z hr32 (orow_blk hr32 hx12) hx12 (FldSet.whole (RSlice RRule)) (Tryd.sizeOf36 _) d10 (Nat.le_refl _) hC37 fun w32 ho90 hb23 hl38 hC38 => ?_)))
       have ho91 := ho87.go hb23 (fun e => (orow_ne hr32 ho87 (by decide)) (by rw [orow_blk hr32 hx12]; exact congrArg some e.symm))
       have ho92 := ho88.go hb23 (fun e => (orow_ne hr32 ho88 (by decide)) (by rw [orow_blk hr32 hx12]; exact congrArg some e.symm))
       have ho93 := ho89.go hb23 (fun e => (orow_ne hr32 ho89 (by decide)) (by rw [orow_blk hr32 hx12]; exact congrArg some e.symm))
       refine lw_nil (ew_blockN (ew_then (cw_seq (cw_region (lw_op Z Z Z (ow_loadOwnA Z Z Z ho93 (Tryd.isAgg45 _) (Tryd.sizeOf45 _) Z ?_))))))
       have hw19 := ho90.freezeDel
       have hC39 := ho90.cxDel hC38 hX hO
       have hm43 : (Del v11 M10) g1 := ⟨hm40, fun e => (orow_ne ho90 ho92 (by decide)) e⟩
       obtain ⟨A6, c6, rfl, -⟩ := vslice_shape hw19
       refine lw_op0 Z Z (ow_store (X := (One g)) (us := [(.slice A6 (List.set y2 (0 : Int).toNat x11.1).length c6), (.bool bb1)]) (cs' := #[(.slice A6 (List.set y2 (0 : Int).toNat x11.1).length c6), (.bool bb1)]) Z Z Z Z ho92 (Tryd.sizeOf45 _) Z Z Z Z hm43 (.inl hg2) Z hC39 fun w33 ho94 hb24 hl40 hC40 => ?_)
       have ho95 := ho91.go hb24 (fun e => hn1 e)
       refine lw_nil (ew_then (cw_ret ?_))
       have hw21 : VRep RRuleset w33 (Del (.slice A6 (List.set y2 (0 : Int).toNat x11.1).length c6) M10) ({ Chains := (List.set y2 (0 : Int).toNat x11.1), Accept := (x1.1 == 0) } : Ruleset) (.agg #[(.slice A6 (List.set y2 (0 : Int).toNat x11.1).length c6), (.bool bb1)]) := by subst hbb1; exact shut_Ruleset (VRep.mono hl40 hw19)
       obtain rfl := Option.some.inj h
       exact ew_ret (res1 Z (.cell Z (own_loadVarA ho94 (Tryd.isAgg45 _) (Tryd.sizeOf45 _) Z))) ⟨_, Z, ⟨(hw21.mono hC40.back), ho95⟩, hC40.bx⟩
  ·
   obtain rfl := hbb3.trans hc2
   refine cw_false Z (cw_skip (ew_then (cw_seq ?_)))
   obtain ⟨M11, hr33, hl41, hC41, hk8⟩ := HRow.flat hr5 hC11 hX hO (by decide)
   have hm46 : M11 g1 := hk8 _ _ _ ho30 (by decide) hm16
   refine cw_region (lw_op Z Z Z (ow_loadOwnA Z Z Z ho31 (Tryd.isAgg45 _) (Tryd.sizeOf45 _) Z ?_))
   have hw22 := hr33.freezeDel
   have hC42 := hr33.cxDel hC41 hX hO
   have hm49 : (Del v11 M11) g1 := ⟨hm46, fun e => (orow_ne hr33 ho30 (by decide)) e⟩
   obtain ⟨A7, c7, rfl, -⟩ := vslice_shape hw22
   refine lw_op0 Z Z (ow_store (X := (One g)) (us := [(.slice A7 y2.length c7), (.bool bb1)]) (cs' := #[(.slice A7 y2.length c7), (.bool bb1)]) Z Z Z Z ho30 (Tryd.sizeOf45 _) Z Z Z Z hm49 (.inl hg2) Z hC42 fun w34 ho97 hb25 hl43 hC43 => ?_)
   have ho98 := ho29.go hb25 (fun e => hn1 e)
   refine lw_nil (ew_then (cw_ret ?_))
   have hw24 : VRep RRuleset w34 (Del (.slice A7 y2.length c7) M11) ({ Chains := y2, Accept := (x1.1 == 0) } : Ruleset) (.agg #[(.slice A7 y2.length c7), (.bool bb1)]) := by subst hbb1; exact shut_Ruleset (VRep.mono hl43 hw22)
   obtain rfl := Option.some.inj h
   exact ew_ret (res1 Z (.cell Z (own_loadVarA ho97 (Tryd.isAgg45 _) (Tryd.sizeOf45 _) Z))) ⟨_, Z, ⟨(hw24.mono hC43.back), ho98⟩, hC43.bx⟩

theorem w_spec_DrawCallsOf {w : World} {M : Nat → Prop} (hG : ARep (RArr 4 RShape) w M shapes ⟨0, 0, none⟩) (hO : ∀ b, M b → b < w.heap.size) {v0p : Value} {a_code : List Int} (h0 : VRep (RSlice RU8) w M a_code v0p) {r : Ruleset × Int} (h : F.spec_DrawCallsOf a_code = some r) :
  Calls Tryd.prog 31 [v0p].toArray w fun e w' => ∃ v, e = .returned v ∧ (∃ u0 u1, v = .tuple #[u0, u1] ∧ VRep RRuleset w' M r.1 u0 ∧ VRep RInt w' M r.2 u1) ∧ BX No w w' := by
 have hC : Cx No w M w M := Cx.start hO (fun _ e => e.elim)
 refine walk (N := 21) Tryd.func31 Z Tryd.ntmps31 Z (cw_seq (cw_region (lw_op Z Z Z (ow_alloc Z (Tryd.zeroValue45 _) hC fun g1 w1 hg1 hg2 ho1 hb1 hl1 hC1 => ?_))))
 have hm1 : (Add g1 M) g1 := .inl Z
 refine lw_op Z Z Z (ow_assign Z Z (lw_nil (ew_then (cw_seq (cw_region (lw_op Z Z Z (ow_move Z Z ?_)))))))
 replace h := bind_some h
 obtain ⟨x1, hx1, h⟩ := h
 refine lw_op Z Z Z (ow_call Z Z Tryd.call47 (w_spec_l20Open (hG.mono hl1) hC1.old (VRep.mono hl1 h0) hx1) fun v1 w2 hv1 => ?_)
 obtain ⟨⟨g2, A1, c1, rfl, hg3, ho2, hw1⟩, hb2⟩ := hv1
 have hl2 := (Le.no (Add g1 M) hb2).add hg3
 have hg4 := Nat.le_trans hC1.bx.size hg3
 have hC2 := (hC1.no hb2).add ho2.lt hg4
 have hn1 := Nat.ne_of_lt (Nat.lt_of_lt_of_le ho1.lt hg3)
 have ho3 := ho1.no hb2
 have hm2 : (Add g2 (Add g1 M)) g1 := .inr hm1
 have hm3 : (Add g2 (Add g1 M)) g2 := .inl Z
 refine lw_op Z Z Z (ow_assign Z Z (lw_nil (ew_then (cw_seq (cw_region (lw_op Z Z Z (ow_move Z Z ?_)))))))
 replace h := bind_some h
 obtain ⟨x2, hx2, h⟩ := h
 refine lw_op Z Z Z (ow_call Z Z Tryd.call65 (w_spec_l20Ruleset (hG.mono (hl1.trans hl2)) hC2.old hw1 ho2 hm3 hx2) fun v2 w3 hv2 => ?_)
 obtain ⟨⟨hv2, ho4⟩, hb3⟩ := hv2
 have hl3 := Le.of_bx (Add g2 (Add g1 M)) hb3 (fun b e => (by rw [show b = g2 from e]; exact hm3))
 have hC3 := hC2.go hb3 (fun b e => (by rw [show b = g2 from e]; exact (.inl hg4)))
 have ho5 := ho3.go hb3 (fun e => hn1 e)
 refine lw_op Z Z Z (ow_alloc Z (Tryd.zeroValue45 _) hC3 fun g3 w4 hg5 hg6 ho6 hb4 hl4 hC4 => ?_)
 have hn2 := Nat.ne_of_lt (Nat.lt_of_lt_of_le ho5.lt hg5)
 have ho7 := ho5.no hb4
 have hm4 : (Add g3 (Add g2 (Add g1 M))) g1 := .inr hm2
 have hn3 := Nat.ne_of_lt (Nat.lt_of_lt_of_le ho4.lt hg5)
 have ho8 := ho4.no hb4
 have hm5 : (Add g3 (Add g2 (Add g1 M))) g2 := .inr hm3
 have hm6 : (Add g3 (Add g2 (Add g1 M))) g3 := .inl Z
 obtain ⟨A2, c2, rfl, hw2⟩ := open_Ruleset hv2
 refine lw_op0 Z Z (ow_store (X := No) (us := [(.slice A2 x2.1.Chains.length c2), (.bool x2.1.Accept)]) (cs' := #[(.slice A2 x2.1.Chains.length c2), (.bool x2.1.Accept)]) Z Z Z Z ho6 (Tryd.sizeOf45 _) Z Z Z Z hm6 (.inl hg6) Z hC4 fun w5 ho9 hb5 hl5 hC5 => ?_)
 have ho10 := ho7.go hb5 (fun e => hn2 e)
 have ho11 := ho8.go hb5 (fun e => hn3 e)
 refine lw_nil (ew_then (cw_seq ?_))
 replace h := bind_some h
 obtain ⟨x3, hx3, h⟩ := h
 replace h := bind_some h
 obtain ⟨x4, hx4, h⟩ := h
 have lz1 := ((((hl1.trans hl2).trans hl3).trans hl4).trans hl5)
 have lz2 := ((hl3.trans hl4).trans hl5)
 have lz3 := (hl4.trans hl5)
 refine cw_sub (E' := [(2, (.pointer (some ⟨g1, 0, none⟩))), (3, (.int .i64 0)), (4, (.pointer (some ⟨g2, 0, none⟩))), (5, (.pointer (some ⟨g3, 0, none⟩)))]) ⟨Z, Z, Z, Z, trivial⟩ (cw_drawS (g := g2) (T := 111) (h := g1) (U := 45) 12 3 11 [none, none, none, none, none, none, some 0, none, some 1, none, none, some 2] [#[(.slice A1 x1.1.length c1), (.int .i64 x2.2)], #[(.slice A1 x1.1.length c1), (.int .i64 x3.2)], #[(.slice A1 x1.1.length c1), (.int .i64 x4.2)], #[(.slice A1 x1.1.length c1), (.int .i64 x4.2)]] [#[(.slice none 0 0), (.bool false)], #[(.slice none 0 0), (.bool false)], #[(.slice none 0 0), (.bool false)], #[(.slice A2 x2.1.Chains.length c2), (.bool x2.1.Accept)]] [PEq (.agg #[(.slice A2 x2.1.Chains.length c2), (.bool x2.1.Accept)]), PEq (.pointer (some ⟨g2, 0, none⟩)), PEq (.pointer (some ⟨g3, 0, none⟩)), PV (RSlice (RSlice RRule)) (Add g3 (Add g2 (Add g1 M))) x2.1.Chains, PEq (.int .i64 (x2.1.Chains.length : Int)), PEq (.int .i64 (W ((x2.1.Chains.length : Int) + 1))), PEq (.int .i64 x3.1), PEq (.pointer (some ⟨g2, 0, none⟩)), PEq (.int .i64 x4.1), PEq (.int .i64 (W ((x4.1).tdiv 13))), PEq (.int .i64 (W (x3.1 - (W ((x4.1).tdiv 13))))), PAny] (by kernel_rfl) Z (by kernel_rfl) (by kernel_rfl) (by kernel_rfl) Z ho11 ho10 ⟨(PEq.monoY2 hm5 hm4 _), (PEq.monoY2 hm5 hm4 _), (PEq.monoY2 hm5 hm4 _), (PV.monoY2 hm5 hm4 _ _), (PEq.monoY2 hm5 hm4 _), (PEq.monoY2 hm5 hm4 _), (PEq.monoY2 hm5 hm4 _), (PEq.monoY2 hm5 hm4 _), (PEq.monoY2 hm5 hm4 _), (PEq.monoY2 hm5 hm4 _), (PEq.monoY2 hm5 hm4 _), PAny.monoY, trivial⟩ ⟨?_, ?_, ?_, ?_, ?_, ?_, ?_, ?_, ?_, ?_, ?_, ?_, trivial⟩ ?_)
 ·
  intro w9 D hS1 hd1
  have ho22 := ho9.go hS1 (fun e => e.elim (fun e => hn3 e.symm) (fun e => hn2 e.symm))
  exact dg_sub (E' := [(5, (.pointer (some ⟨g3, 0, none⟩)))]) ⟨Z, trivial⟩ (dg_plain Z (ow_loadOwnA Z Z Z ho22 (Tryd.isAgg45 _) (Tryd.sizeOf45 _) Z ⟨BX.refl _ _, Z⟩))
 ·
  intro w10 D hS2 hd2
  exact dg_sub (E' := [(4, (.pointer (some ⟨g2, 0, none⟩)))]) ⟨Z, trivial⟩ (dg_plain Z (ow_move Z Z ⟨BX.refl _ _, Z⟩))
 ·
  intro w11 D hS3 hd3
  exact dg_sub (E' := [(5, (.pointer (some ⟨g3, 0, none⟩)))]) ⟨Z, trivial⟩ (dg_plain Z (ow_fieldAddr Z Z Tryd.underlying45 Z (Tryd.sizeOf43 _) ⟨BX.refl _ _, Z⟩))
 ·
  intro w12 D hS4 hd4
  have hl12 := leY2 hm5 hm4 hS4
  have ho28 := ho9.go hS4 (fun e => e.elim (fun e => hn3 e.symm) (fun e => hn2 e.symm))
  exact dg_sub (E' := [(12, (.pointer (some ⟨g3, 0, none⟩)))]) ⟨(dpE hd4 2 Z Z), trivial⟩ (dg_plain Z (ow_loadOwn1 Z Z Z ho28 (Tryd.isAgg43 _) Z ⟨BX.refl _ _, (VRep.mono (lz3.trans hl12) hw2)⟩))
 ·
  intro w13 D hS5 hd5
  have d2 : PV (RSlice (RSlice RRule)) (Add g3 (Add g2 (Add g1 M))) x2.1.Chains (D 3) w13 := dpA hd5 3 Z
  generalize hq1 : (D 3) = v5 at d2
  exact dg_sub (E' := [(13, v5)]) ⟨(congrArg some hq1), trivial⟩ (dg_plain Z (ow_len Z Z d2 Tryd.underlying43 Z ⟨BX.refl _ _, Z⟩))
 ·
  intro w14 D hS6 hd6
  exact dg_sub (E' := [(14, (.int .i64 (x2.1.Chains.length : Int)))]) ⟨(dpE hd6 4 Z Z), trivial⟩ (dg_plain Z (ow_add Z Z Z ⟨BX.refl _ _, Z⟩))
 ·
  intro w15 D hS7 hd7
  obtain ⟨hS7, ho33, ho34⟩ := hS7
  have ho33 : Own w15 g2 111 #[(.slice A1 x1.1.length c1), (.int .i64 x2.2)] := ho33
  have ho34 : Own w15 g1 45 #[(.slice none 0 0), (.bool false)] := ho34
  have hl15 := leY2 hm5 hm4 hS7
  have hC15 := hC5.go hS7 (fun b e => e.elim (fun e => (by rw [show b = g2 from e]; exact (.inl hg4))) (fun e => (by rw [show b = g1 from e]; exact (.inl hg2))))
  refine dg_sub (E' := [(11, (.pointer (some ⟨g2, 0, none⟩))), (15, (.int .i64 (W ((x2.1.Chains.length : Int) + 1))))]) ⟨(dpE hd7 1 Z Z), (dpE hd7 5 Z Z), trivial⟩ (dg_plain Z (ow_call Z Z Tryd.call60 (w_spec_l20Rd_pick (hG.mono (lz1.trans hl15)) hC15.old (VRep.mono (lz2.trans hl15) hw1) ho33 hm5 hx3) fun v6 w16 hv6 => ?_))
  obtain ⟨⟨hv6, ho37⟩, hb9⟩ := hv6
  have ho38 := ho34.go hb9 (fun e => hn1 e)
  obtain rfl := vint_eq hv6
  exact ⟨⟨⟨hS7.trans (hb9.mono fun _ _ e => .inl e), ho37, ho38⟩, (hb9.mono fun _ _ e => .inl e)⟩, Z⟩
 ·
  intro w17 D hS8 hd8
  exact dg_sub (E' := [(4, (.pointer (some ⟨g2, 0, none⟩)))]) ⟨Z, trivial⟩ (dg_plain Z (ow_move Z Z ⟨BX.refl _ _, Z⟩))
 ·
  intro w18 D hS9 hd9
  obtain ⟨hS9, ho42, ho43⟩ := hS9
  have ho42 : Own w18 g2 111 #[(.slice A1 x1.1.length c1), (.int .i64 x3.2)] := ho42
  have ho43 : Own w18 g1 45 #[(.slice none 0 0), (.bool false)] := ho43
  have hl18 := leY2 hm5 hm4 hS9
  have hC18 := hC5.go hS9 (fun b e => e.elim (fun e => (by rw [show b = g2 from e]; exact (.inl hg4))) (fun e => (by rw [show b = g1 from e]; exact (.inl hg2))))
  refine dg_sub (E' := [(17, (.pointer (some ⟨g2, 0, none⟩)))]) ⟨(dpE hd9 7 Z Z), trivial⟩ (dg_plain Z (ow_call Z Z Tryd.call60 (w_spec_l20Rd_pick (hG.mono (lz1.trans hl18)) hC18.old (VRep.mono (lz2.trans hl18) hw1) ho42 hm5 hx4) fun v7 w19 hv7 => ?_))
  obtain ⟨⟨hv7, ho46⟩, hb10⟩ := hv7
  have ho47 := ho43.go hb10 (fun e => hn1 e)
  obtain rfl := vint_eq hv7
  exact ⟨⟨⟨hS9.trans (hb10.mono fun _ _ e => .inl e), ho46, ho47⟩, (hb10.mono fun _ _ e => .inl e)⟩, Z⟩
 ·
  intro w20 D hS10 hd10
  exact dg_sub (E' := [(18, (.int .i64 x4.1))]) ⟨(dpE hd10 8 Z Z), trivial⟩ (dg_plain Z (ow_quo Z Z Z (by decide) ⟨BX.refl _ _, Z⟩))
 ·
  intro w21 D hS11 hd11
  exact dg_sub (E' := [(16, (.int .i64 x3.1)), (19, (.int .i64 (W ((x4.1).tdiv 13))))]) ⟨(dpE hd11 6 Z Z), (dpE hd11 9 Z Z), trivial⟩ (dg_plain Z (ow_sub Z Z Z ⟨BX.refl _ _, Z⟩))
 ·
  intro w22 D hS12 hd12
  obtain ⟨hS12, ho53, ho54⟩ := hS12
  have ho53 : Own w22 g2 111 #[(.slice A1 x1.1.length c1), (.int .i64 x4.2)] := ho53
  have ho54 : Own w22 g1 45 #[(.slice none 0 0), (.bool false)] := ho54
  have hC22 := hC5.go hS12 (fun b e => e.elim (fun e => (by rw [show b = g2 from e]; exact (.inl hg4))) (fun e => (by rw [show b = g1 from e]; exact (.inl hg2))))
  refine dg_sub (E' := [(10, (.agg #[(.slice A2 x2.1.Chains.length c2), (.bool x2.1.Accept)])), (2, (.pointer (some ⟨g1, 0, none⟩)))]) ⟨(dpE hd12 0 Z Z), Z, trivial⟩ (dg_plain Z (ow_store (X := No) (us := [(.slice A2 x2.1.Chains.length c2), (.bool x2.1.Accept)]) (cs' := #[(.slice A2 x2.1.Chains.length c2), (.bool x2.1.Accept)]) Z Z Z Z ho54 (Tryd.sizeOf45 _) Z Z Z Z hm4 (.inl hg2) Z hC22 fun w23 ho57 hb11 hl23 hC23 => ?_))
  have ho58 := ho53.go hb11 (fun e => hn1 e.symm)
  exact ⟨⟨⟨hS12.trans (hb11.mono fun _ _ e => .inr e), ho58, ho57⟩, (hb11.mono fun _ _ e => .inr e)⟩, trivial⟩
 ·
  intro w24 D hS13 hd13
  obtain ⟨hS13, ho60, ho61⟩ := hS13
  have ho60 : Own w24 g2 111 #[(.slice A1 x1.1.length c1), (.int .i64 x4.2)] := ho60
  have ho61 : Own w24 g1 45 #[(.slice A2 x2.1.Chains.length c2), (.bool x2.1.Accept)] := ho61
  have hl24 := leY2 hm5 hm4 hS13
  have hC24 := hC5.go hS13 (fun b e => e.elim (fun e => (by rw [show b = g2 from e]; exact (.inl hg4))) (fun e => (by rw [show b = g1 from e]; exact (.inl hg2))))
  refine lw_sub (E' := [(20, (.int .i64 (W (x3.1 - (W ((x4.1).tdiv 13)))))), (2, (.pointer (some ⟨g1, 0, none⟩))), (3, (.int .i64 0)), (4, (.pointer (some ⟨g2, 0, none⟩))), (5, (.pointer (some ⟨g3, 0, none⟩)))]) ⟨(dpE hd13 10 Z Z), Z, Z, Z, Z, trivial⟩ (lw_op Z Z Z (ow_assign Z Z (lw_nil (ew_then (cw_ret ?_)))))
  have hw6 : VRep RRuleset w24 (Add g3 (Add g2 (Add g1 M))) ({ Chains := x2.1.Chains, Accept := x2.1.Accept } : Ruleset) (.agg #[(.slice A2 x2.1.Chains.length c2), (.bool x2.1.Accept)]) := shut_Ruleset (VRep.mono (lz3.trans hl24) hw2)
  obtain rfl := Option.some.inj h
  exact ew_ret (res2 Z (.cell Z (own_loadVarA ho61 (Tryd.isAgg45 _) (Tryd.sizeOf45 _) Z)) (.tmp Z)) ⟨_, Z, ⟨_, _, Z, (hw6.mono hC24.back), ((vint _))⟩, hC24.bx⟩

theorem w_spec_DrawCallDepth {w : World} {M : Nat → Prop} (hG : ARep (RArr 4 RShape) w M shapes ⟨0, 0, none⟩) (hO : ∀ b, M b → b < w.heap.size) {v0p : Value} {a_code : List Int} (h0 : VRep (RSlice RU8) w M a_code v0p) {r : Ruleset × Int} (h : F.spec_DrawCallDepth a_code = some r) :
  Calls Tryd.prog 27 [v0p].toArray w fun e w' => ∃ v, e = .returned v ∧ (∃ u0 u1, v = .tuple #[u0, u1] ∧ VRep RRuleset w' M r.1 u0 ∧ VRep RInt w' M r.2 u1) ∧ BX No w w' := by
 have hC : Cx No w M w M := Cx.start hO (fun _ e => e.elim)
 refine walk (N := 8) Tryd.func27 Z Tryd.ntmps27 Z (cw_seq (cw_region (lw_op Z Z Z (ow_alloc Z (Tryd.zeroValue45 _) hC fun g1 w1 hg1 hg2 ho1 hb1 hl1 hC1 => ?_))))
 have hm1 : (Add g1 M) g1 := .inl Z
 refine lw_op Z Z Z (ow_assign Z Z (lw_nil (ew_then (cw_seq (cw_region (lw_op Z Z Z (ow_move Z Z ?_)))))))
 replace h := bind_some h
 obtain ⟨x1, hx1, h⟩ := h
 refine lw_op Z Z Z (ow_call Z Z Tryd.call31 (w_spec_DrawCallsOf (hG.mono hl1) hC1.old (VRep.mono hl1 h0) hx1) fun v1 w2 hv1 => ?_)
 obtain ⟨⟨v2, v3, rfl, hv2, hv3⟩, hb2⟩ := hv1
 have hC2 := hC1.no hb2
 have ho2 := ho1.no hb2
 obtain rfl := vint_eq hv3
 refine lw_op Z Z Z (ow_extract Z Z Z (lw_op Z Z Z (ow_extract Z Z Z ?_)))
 obtain ⟨A1, c1, rfl, hw1⟩ := open_Ruleset hv2
 refine lw_op0 Z Z (ow_store (X := No) (us := [(.slice A1 x1.1.Chains.length c1), (.bool x1.1.Accept)]) (cs' := #[(.slice A1 x1.1.Chains.length c1), (.bool x1.1.Accept)]) Z Z Z Z ho2 (Tryd.sizeOf45 _) Z Z Z Z hm1 (.inl hg2) Z hC2 fun w3 ho3 hb3 hl3 hC3 => lw_op Z Z Z (ow_assign Z Z (lw_nil (ew_then (cw_ret ?_)))))
 have hw2 : VRep RRuleset w3 (Add g1 M) ({ Chains := x1.1.Chains, Accept := x1.1.Accept } : Ruleset) (.agg #[(.slice A1 x1.1.Chains.length c1), (.bool x1.1.Accept)]) := shut_Ruleset (VRep.mono hl3 hw1)
 obtain rfl := Option.some.inj h
 exact ew_ret (res2 Z (.cell Z (own_loadVarA ho3 (Tryd.isAgg45 _) (Tryd.sizeOf45 _) Z)) (.tmp Z)) ⟨_, Z, ⟨_, _, Z, (hw2.mono hC3.back), ((vint _))⟩, hC3.bx⟩

theorem w_impl_FieldTop {w : World} {M : Nat → Prop} (hG : ARep (RArr 4 RShape) w M shapes ⟨0, 0, none⟩) (hO : ∀ b, M b → b < w.heap.size) {a_n : Int} {r : Int} (h : F.impl_FieldTop a_n = some r) :
  Calls Tryd.prog 83 [(.int .i64 a_n)].toArray w fun e w' => ∃ v, e = .returned v ∧ VRep RInt w' M r v ∧ BX No w w' := by
 have hC : Cx No w M w M := Cx.start hO (fun _ e => e.elim)
 refine walk (N := 13) Tryd.func83 Z Tryd.ntmps83 Z (cw_seq (cw_region (lw_op Z Z Z (ow_assign Z Z (lw_nil (ew_then (cw_seq (cw_seq (cw_region (lw_op Z Z Z (ow_move Z Z (lw_op Z Z Z (ow_lss Z Z Z fun bb1 hbb1 => lw_op Z Z Z (ow_move Z Z ?_))))))))))))))
 replace h := cond_some h
 rcases h with ⟨hc1, h⟩ | ⟨hc1, h⟩
 ·
  obtain rfl := hbb1.trans hc1
  refine lw_off Z Z Z Z Z Z (lw_off Z Z Z Z Z Z (lw_op Z Z Z (ow_pickT Z Z Z (lw_nil (ew_then (cw_true Z (cw_seq (cw_region (lw_op Z Z Z (ow_assign Z Z (lw_nil (ew_then (cw_ret (ew_thenR ?_))))))))))))))
  obtain rfl := Option.some.inj h
  exact ew_ret (res1 Z (.tmp Z)) ⟨_, Z, ((vint _)), hC.bx⟩
 ·
  obtain rfl := hbb1.trans hc1
  refine lw_on Z Z Z Z Z Z (ow_move Z Z (lw_on Z Z Z Z Z Z (ow_geq Z Z Z fun bb2 hbb2 => lw_op Z Z Z (ow_pickF Z Z Z (lw_nil (ew_then ?_))))))
  replace h := cond_some h
  rcases h with ⟨hc2, h⟩ | ⟨hc2, h⟩
  ·
   obtain rfl := hbb2.trans hc2
   refine cw_true Z (cw_seq (cw_region (lw_op Z Z Z (ow_assign Z Z (lw_nil (ew_then (cw_ret (ew_thenR ?_))))))))
   obtain rfl := Option.some.inj h
   exact ew_ret (res1 Z (.tmp Z)) ⟨_, Z, ((vint _)), hC.bx⟩
  ·
   obtain rfl := hbb2.trans hc2
   refine cw_false Z (cw_skip (ew_then (cw_seq (cw_region (lw_op Z Z Z (ow_move Z Z ?_))))))
   replace h := bind_some h
   obtain ⟨x1, hx1, h⟩ := h
   refine lw_op Z Z Z (ow_indexArr (R := RShape) Z Z Z hG Tryd.underlying77 (Tryd.sizeOf76 _) hx1 fun p1 hp1 => lw_op Z Z Z (ow_fieldAddr Z Z Tryd.underlying76 Z (Tryd.sizeOf3 _) (lw_op Z Z Z (ow_load (R := RInt) Z Z (hp1.fld fld_Shape_top) (Tryd.sizeOf3 _) (Tryd.isAgg3 _) fun v1 hv1 => ?_))))
   obtain rfl := vint_eq hv1
   refine lw_op Z Z Z (ow_assign Z Z (lw_nil (ew_then (cw_ret ?_))))
   obtain rfl := Option.some.inj h
   exact ew_ret (res1 Z (.tmp Z)) ⟨_, Z, ((vint _)), hC.bx⟩

theorem w_impl_TestValid {w : World} {M : Nat → Prop} (hG : ARep (RArr 4 RShape) w M shapes ⟨0, 0, none⟩) (hO : ∀ b, M b → b < w.heap.size) {v0p : Value} {a_t : Test} (h0 : VRep RTest w M a_t v0p) {r : Bool} (h : F.impl_TestValid a_t = some r) :
  Calls Tryd.prog 85 [v0p].toArray w fun e w' => ∃ v, e = .returned v ∧ VRep RBool w' M r v ∧ BX No w w' := by
 have hC : Cx No w M w M := Cx.start hO (fun _ e => e.elim)
 refine walk (N := 31) Tryd.func85 Z Tryd.ntmps85 Z (cw_seq (cw_region (lw_op Z Z Z (ow_box (R := RTest) Z Z h0 hC fun p1 w1 hp1 hb1 hl1 hC1 => lw_op Z Z Z (ow_assign Z Z (lw_nil (ew_then (cw_seq ?_))))))))
 replace h := cond_some h
 rcases h with ⟨hc1, h⟩ | ⟨hc1, h⟩
 ·
  replace h := cond_some h
  rcases h with ⟨hc2, h⟩ | ⟨hc2, h⟩
  ·
   replace h := cond_some h
   rcases h with ⟨hc3, h⟩ | ⟨hc3, h⟩
   ·
    replace h := cond_some h
    rcases h with ⟨hc4, h⟩ | ⟨hc4, h⟩
    ·
     replace h := bind_some h
     obtain ⟨x1, hx1, h⟩ := h
     refine cw_sub (E' := [(1, (.pointer (some p1))), (2, (.bool false))]) ⟨Z, Z, trivial⟩ (cw_drawQ 26 [PA RInt M a_t.Field, PEq (.int .i64 a_t.Field), PEq (.bool true), PEq (.bool true), PA RInt M a_t.Field, PEq (.int .i64 a_t.Field), PEq (.bool true), PEq (.bool true), PEq (.bool true), PA RInt M a_t.Lo, PEq (.int .i64 a_t.Lo), PEq (.bool true), PEq (.bool true), PEq (.bool true), PA RInt M a_t.Lo, PEq (.int .i64 a_t.Lo), PA RInt M a_t.Hi, PEq (.int .i64 a_t.Hi), PEq (.bool true), PEq (.bool true), PEq (.bool true), PA RInt M a_t.Hi, PEq (.int .i64 a_t.Hi), PA RInt M a_t.Field, PEq (.int .i64 a_t.Field), PEq (.int .i64 x1)] (by kernel_rfl) Z (by kernel_rfl) ⟨PA.mono _ _ _, PEq.mono _, PEq.mono _, PEq.mono _, PA.mono _ _ _, PEq.mono _, PEq.mono _, PEq.mono _, PEq.mono _, PA.mono _ _ _, PEq.mono _, PEq.mono _, PEq.mono _, PEq.mono _, PA.mono _ _ _, PEq.mono _, PA.mono _ _ _, PEq.mono _, PEq.mono _, PEq.mono _, PEq.mono _, PA.mono _ _ _, PEq.mono _, PA.mono _ _ _, PEq.mono _, PEq.mono _, trivial⟩ ⟨?_, ?_, ?_, ?_, ?_, ?_, ?_, ?_, ?_, ?_, ?_, ?_, ?_, ?_, ?_, ?_, ?_, ?_, ?_, ?_, ?_, ?_, ?_, ?_, ?_, ?_, trivial⟩ ?_)
     ·
      intro w3 D hS1 hd1
      have hl3 := Le.no M hS1
      exact dg_sub (E' := [(1, (.pointer (some p1)))]) ⟨Z, trivial⟩ (dg_plain Z (ow_fieldAddr Z Z Tryd.underlying31 Z (Tryd.sizeOf3 _) ⟨BX.refl _ _, ⟨_, Z, (ARep.mono hl3 (hp1.fld fld_Test_Field))⟩⟩))
     ·
      intro w4 D hS2 hd2
      have d1 : PA RInt M a_t.Field (D 0) w4 := dpA hd2 0 Z
      obtain ⟨p2, e1, ha1⟩ := d1
      refine dg_sub (E' := [(3, (.pointer (some p2)))]) ⟨(congrArg some e1), trivial⟩ (dg_plain Z (ow_load (R := RInt) Z Z ha1 (Tryd.sizeOf3 _) (Tryd.isAgg3 _) fun v9 hv9 => ?_))
      obtain rfl := vint_eq hv9
      exact ⟨BX.refl _ _, Z⟩
     ·
      intro w5 D hS3 hd3
      refine dg_sub (E' := [(4, (.int .i64 a_t.Field))]) ⟨(dpE hd3 1 Z Z), trivial⟩ (dg_plain Z (ow_geq Z Z Z fun bb5 hbb5 => ?_))
      obtain rfl := hbb5.trans hc1
      exact ⟨BX.refl _ _, Z⟩
     ·
      intro w6 D hS4 hd4
      exact dg_sub (E' := [(5, (.bool true))]) ⟨(dpE hd4 2 Z Z), trivial⟩ (dg_plain Z (ow_move Z Z ⟨BX.refl _ _, Z⟩))
     ·
      intro w7 D hS5 hd5
      have hl7 := Le.no M hS5
      exact dg_sub (E' := [(6, (.bool true)), (1, (.pointer (some p1)))]) ⟨(dpE hd5 3 Z Z), Z, trivial⟩ (dg_on Z Z Z Z (ow_fieldAddr Z Z Tryd.underlying31 Z (Tryd.sizeOf3 _) ⟨BX.refl _ _, ⟨_, Z, (ARep.mono hl7 (hp1.fld fld_Test_Field))⟩⟩))
     ·
      intro w8 D hS6 hd6
      have d5 : PA RInt M a_t.Field (D 4) w8 := dpA hd6 4 Z
      obtain ⟨p3, e2, ha2⟩ := d5
      refine dg_sub (E' := [(7, (.pointer (some p3))), (6, (.bool true))]) ⟨(congrArg some e2), (dpE hd6 3 Z Z), trivial⟩ (dg_on Z Z Z Z (ow_load (R := RInt) Z Z ha2 (Tryd.sizeOf3 _) (Tryd.isAgg3 _) fun v10 hv10 => ?_))
      obtain rfl := vint_eq hv10
      exact ⟨BX.refl _ _, Z⟩
     ·
      intro w9 D hS7 hd7
      refine dg_sub (E' := [(8, (.int .i64 a_t.Field)), (6, (.bool true))]) ⟨(dpE hd7 5 Z Z), (dpE hd7 3 Z Z), trivial⟩ (dg_on Z Z Z Z (ow_lss Z Z Z fun bb6 hbb6 => ?_))
      obtain rfl := hbb6.trans hc2
      exact ⟨BX.refl _ _, Z⟩
     ·
      intro w10 D hS8 hd8
      exact dg_sub (E' := [(6, (.bool true)), (9, (.bool true))]) ⟨(dpE hd8 3 Z Z), (dpE hd8 6 Z Z), trivial⟩ (dg_plain Z (ow_pickT Z Z Z ⟨BX.refl _ _, Z⟩))
     ·
      intro w11 D hS9 hd9
      exact dg_sub (E' := [(10, (.bool true))]) ⟨(dpE hd9 7 Z Z), trivial⟩ (dg_plain Z (ow_move Z Z ⟨BX.refl _ _, Z⟩))
     ·
      intro w12 D hS10 hd10
      have hl12 := Le.no M hS10
      exact dg_sub (E' := [(11, (.bool true)), (1, (.pointer (some p1)))]) ⟨(dpE hd10 8 Z Z), Z, trivial⟩ (dg_on Z Z Z Z (ow_fieldAddr Z Z Tryd.underlying31 Z (Tryd.sizeOf3 _) ⟨BX.refl _ _, ⟨_, Z, (ARep.mono hl12 (hp1.fld fld_Test_Lo))⟩⟩))
     ·
      intro w13 D hS11 hd11
      have d14 : PA RInt M a_t.Lo (D 9) w13 := dpA hd11 9 Z
      obtain ⟨p4, e3, ha3⟩ := d14
      refine dg_sub (E' := [(12, (.pointer (some p4))), (11, (.bool true))]) ⟨(congrArg some e3), (dpE hd11 8 Z Z), trivial⟩ (dg_on Z Z Z Z (ow_load (R := RInt) Z Z ha3 (Tryd.sizeOf3 _) (Tryd.isAgg3 _) fun v11 hv11 => ?_))
      obtain rfl := vint_eq hv11
      exact ⟨BX.refl _ _, Z⟩
     ·
      intro w14 D hS12 hd12
      refine dg_sub (E' := [(13, (.int .i64 a_t.Lo)), (11, (.bool true))]) ⟨(dpE hd12 10 Z Z), (dpE hd12 8 Z Z), trivial⟩ (dg_on Z Z Z Z (ow_geq Z Z Z fun bb7 hbb7 => ?_))
      obtain rfl := hbb7.trans hc3
      exact ⟨BX.refl _ _, Z⟩
     ·
      intro w15 D hS13 hd13
      exact dg_sub (E' := [(11, (.bool true)), (14, (.bool true))]) ⟨(dpE hd13 8 Z Z), (dpE hd13 11 Z Z), trivial⟩ (dg_plain Z (ow_pickT Z Z Z ⟨BX.refl _ _, Z⟩))
     ·
      intro w16 D hS14 hd14
      exact dg_sub (E' := [(15, (.bool true))]) ⟨(dpE hd14 12 Z Z), trivial⟩ (dg_plain Z (ow_move Z Z ⟨BX.refl _ _, Z⟩))
     ·
      intro w17 D hS15 hd15
      have hl17 := Le.no M hS15
      exact dg_sub (E' := [(16, (.bool true)), (1, (.pointer (some p1)))]) ⟨(dpE hd15 13 Z Z), Z, trivial⟩ (dg_on Z Z Z Z (ow_fieldAddr Z Z Tryd.underlying31 Z (Tryd.sizeOf3 _) ⟨BX.refl _ _, ⟨_, Z, (ARep.mono hl17 (hp1.fld fld_Test_Lo))⟩⟩))
     ·
      intro w18 D hS16 hd16
      have d23 : PA RInt M a_t.Lo (D 14) w18 := dpA hd16 14 Z
      obtain ⟨p5, e4, ha4⟩ := d23
      refine dg_sub (E' := [(17, (.pointer (some p5))), (16, (.bool true))]) ⟨(congrArg some e4), (dpE hd16 13 Z Z), trivial⟩ (dg_on Z Z Z Z (ow_load (R := RInt) Z Z ha4 (Tryd.sizeOf3 _) (Tryd.isAgg3 _) fun v12 hv12 => ?_))
      obtain rfl := vint_eq hv12
      exact ⟨BX.refl _ _, Z⟩
     ·
      intro w19 D hS17 hd17
      have hl19 := Le.no M hS17
      exact dg_sub (E' := [(16, (.bool true)), (1, (.pointer (some p1)))]) ⟨(dpE hd17 13 Z Z), Z, trivial⟩ (dg_on Z Z Z Z (ow_fieldAddr Z Z Tryd.underlying31 Z (Tryd.sizeOf3 _) ⟨BX.refl _ _, ⟨_, Z, (ARep.mono hl19 (hp1.fld fld_Test_Hi))⟩⟩))
     ·
      intro w20 D hS18 hd18
      have d26 : PA RInt M a_t.Hi (D 16) w20 := dpA hd18 16 Z
      obtain ⟨p6, e5, ha5⟩ := d26
      refine dg_sub (E' := [(19, (.pointer (some p6))), (16, (.bool true))]) ⟨(congrArg some e5), (dpE hd18 13 Z Z), trivial⟩ (dg_on Z Z Z Z (ow_load (R := RInt) Z Z ha5 (Tryd.sizeOf3 _) (Tryd.isAgg3 _) fun v13 hv13 => ?_))
      obtain rfl := vint_eq hv13
      exact ⟨BX.refl _ _, Z⟩
     ·
      intro w21 D hS19 hd19
      refine dg_sub (E' := [(18, (.int .i64 a_t.Lo)), (20, (.int .i64 a_t.Hi)), (16, (.bool true))]) ⟨(dpE hd19 15 Z Z), (dpE hd19 17 Z Z), (dpE hd19 13 Z Z), trivial⟩ (dg_on Z Z Z Z (ow_leq Z Z Z fun bb8 hbb8 => ?_))
      obtain rfl := hbb8.trans hc4
      exact ⟨BX.refl _ _, Z⟩
     ·
      intro w22 D hS20 hd20
      exact dg_sub (E' := [(16, (.bool true)), (21, (.bool true))]) ⟨(dpE hd20 13 Z Z), (dpE hd20 18 Z Z), trivial⟩ (dg_plain Z (ow_pickT Z Z Z ⟨BX.refl _ _, Z⟩))
     ·
      intro w23 D hS21 hd21
      exact dg_sub (E' := [(22, (.bool true))]) ⟨(dpE hd21 19 Z Z), trivial⟩ (dg_plain Z (ow_move Z Z ⟨BX.refl _ _, Z⟩))
     ·
      intro w24 D hS22 hd22
      have hl24 := Le.no M hS22
      exact dg_sub (E' := [(23, (.bool true)), (1, (.pointer (some p1)))]) ⟨(dpE hd22 20 Z Z), Z, trivial⟩ (dg_on Z Z Z Z (ow_fieldAddr Z Z Tryd.underlying31 Z (Tryd.sizeOf3 _) ⟨BX.refl _ _, ⟨_, Z, (ARep.mono hl24 (hp1.fld fld_Test_Hi))⟩⟩))
     ·
      intro w25 D hS23 hd23
      have d36 : PA RInt M a_t.Hi (D 21) w25 := dpA hd23 21 Z
      obtain ⟨p7, e6, ha6⟩ := d36
      refine dg_sub (E' := [(24, (.pointer (some p7))), (23, (.bool true))]) ⟨(congrArg some e6), (dpE hd23 20 Z Z), trivial⟩ (dg_on Z Z Z Z (ow_load (R := RInt) Z Z ha6 (Tryd.sizeOf3 _) (Tryd.isAgg3 _) fun v14 hv14 => ?_))
      obtain rfl := vint_eq hv14
      exact ⟨BX.refl _ _, Z⟩
     ·
      intro w26 D hS24 hd24
      have hl26 := Le.no M hS24
      exact dg_sub (E' := [(23, (.bool true)), (1, (.pointer (some p1)))]) ⟨(dpE hd24 20 Z Z), Z, trivial⟩ (dg_on Z Z Z Z (ow_fieldAddr Z Z Tryd.underlying31 Z (Tryd.sizeOf3 _) ⟨BX.refl _ _, ⟨_, Z, (ARep.mono hl26 (hp1.fld fld_Test_Field))⟩⟩))
     ·
      intro w27 D hS25 hd25
      have d39 : PA RInt M a_t.Field (D 23) w27 := dpA hd25 23 Z
      obtain ⟨p8, e7, ha7⟩ := d39
      refine dg_sub (E' := [(26, (.pointer (some p8))), (23, (.bool true))]) ⟨(congrArg some e7), (dpE hd25 20 Z Z), trivial⟩ (dg_on Z Z Z Z (ow_load (R := RInt) Z Z ha7 (Tryd.sizeOf3 _) (Tryd.isAgg3 _) fun v15 hv15 => ?_))
      obtain rfl := vint_eq hv15
      exact ⟨BX.refl _ _, Z⟩
     ·
      intro w28 D hS26 hd26
      have hl28 := Le.no M hS26
      have hC28 := hC1.no hS26
      refine dg_sub (E' := [(27, (.int .i64 a_t.Field)), (23, (.bool true))]) ⟨(dpE hd26 24 Z Z), (dpE hd26 20 Z Z), trivial⟩ (dg_on Z Z Z Z (ow_call Z Z Tryd.call83 (w_impl_FieldTop (hG.mono (hl1.trans hl28)) hC28.old hx1) fun v16 w29 hv16 => ?_))
      obtain ⟨hv16, hb3⟩ := hv16
      obtain rfl := vint_eq hv16
      exact ⟨hb3, Z⟩
     ·
      intro w30 D hS27 hd27
      have hC30 := hC1.no hS27
      refine lw_sub (E' := [(23, (.bool true)), (25, (.int .i64 a_t.Hi)), (28, (.int .i64 x1)), (1, (.pointer (some p1))), (2, (.bool false))]) ⟨(dpE hd27 20 Z Z), (dpE hd27 22 Z Z), (dpE hd27 25 Z Z), Z, Z, trivial⟩ (lw_on Z Z Z Z Z Z (ow_leq Z Z Z fun bb9 hbb9 => lw_op Z Z Z (ow_pickT Z Z Z (lw_op Z Z Z (ow_assign Z Z (lw_nil (ew_then (cw_ret ?_))))))))
      obtain rfl := Option.some.inj h
      exact ew_ret (res1 Z (.tmp Z)) ⟨_, Z, ((vbool_of hbb9)), hC30.bx⟩
    ·
     refine cw_sub (E' := [(1, (.pointer (some p1))), (2, (.bool false))]) ⟨Z, Z, trivial⟩ (cw_drawQ 26 [PA RInt M a_t.Field, PEq (.int .i64 a_t.Field), PEq (.bool true), PEq (.bool true), PA RInt M a_t.Field, PEq (.int .i64 a_t.Field), PEq (.bool true), PEq (.bool true), PEq (.bool true), PA RInt M a_t.Lo, PEq (.int .i64 a_t.Lo), PEq (.bool true), PEq (.bool true), PEq (.bool true), PA RInt M a_t.Lo, PEq (.int .i64 a_t.Lo), PA RInt M a_t.Hi, PEq (.int .i64 a_t.Hi), PEq (.bool false), PEq (.bool false), PEq (.bool false), PEq undef, PEq undef, PEq undef, PEq undef, PEq undef] (by kernel_rfl) Z (by kernel_rfl) ⟨PA.mono _ _ _, PEq.mono _, PEq.mono _, PEq.mono _, PA.mono _ _ _, PEq.mono _, PEq.mono _, PEq.mono _, PEq.mono _, PA.mono _ _ _, PEq.mono _, PEq.mono _, PEq.mono _, PEq.mono _, PA.mono _ _ _, PEq.mono _, PA.mono _ _ _, PEq.mono _, PEq.mono _, PEq.mono _, PEq.mono _, PEq.mono _, PEq.mono _, PEq.mono _, PEq.mono _, PEq.mono _, trivial⟩ ⟨?_, ?_, ?_, ?_, ?_, ?_, ?_, ?_, ?_, ?_, ?_, ?_, ?_, ?_, ?_, ?_, ?_, ?_, ?_, ?_, ?_, ?_, ?_, ?_, ?_, ?_, trivial⟩ ?_)
     ·
      intro w31 D hS28 hd28
      have hl31 := Le.no M hS28
      exact dg_sub (E' := [(1, (.pointer (some p1)))]) ⟨Z, trivial⟩ (dg_plain Z (ow_fieldAddr Z Z Tryd.underlying31 Z (Tryd.sizeOf3 _) ⟨BX.refl _ _, ⟨_, Z, (ARep.mono hl31 (hp1.fld fld_Test_Field))⟩⟩))
     ·
      intro w32 D hS29 hd29
      have d70 : PA RInt M a_t.Field (D 0) w32 := dpA hd29 0 Z
      obtain ⟨p9, e8, ha8⟩ := d70
      refine dg_sub (E' := [(3, (.pointer (some p9)))]) ⟨(congrArg some e8), trivial⟩ (dg_plain Z (ow_load (R := RInt) Z Z ha8 (Tryd.sizeOf3 _) (Tryd.isAgg3 _) fun v17 hv17 => ?_))
      obtain rfl := vint_eq hv17
      exact ⟨BX.refl _ _, Z⟩
     ·
      intro w33 D hS30 hd30
      refine dg_sub (E' := [(4, (.int .i64 a_t.Field))]) ⟨(dpE hd30 1 Z Z), trivial⟩ (dg_plain Z (ow_geq Z Z Z fun bb10 hbb10 => ?_))
      obtain rfl := hbb10.trans hc1
      exact ⟨BX.refl _ _, Z⟩
     ·
      intro w34 D hS31 hd31
      exact dg_sub (E' := [(5, (.bool true))]) ⟨(dpE hd31 2 Z Z), trivial⟩ (dg_plain Z (ow_move Z Z ⟨BX.refl _ _, Z⟩))
     ·
      intro w35 D hS32 hd32
      have hl35 := Le.no M hS32
      exact dg_sub (E' := [(6, (.bool true)), (1, (.pointer (some p1)))]) ⟨(dpE hd32 3 Z Z), Z, trivial⟩ (dg_on Z Z Z Z (ow_fieldAddr Z Z Tryd.underlying31 Z (Tryd.sizeOf3 _) ⟨BX.refl _ _, ⟨_, Z, (ARep.mono hl35 (hp1.fld fld_Test_Field))⟩⟩))
     ·
      intro w36 D hS33 hd33
      have d74 : PA RInt M a_t.Field (D 4) w36 := dpA hd33 4 Z
      obtain ⟨p10, e9, ha9⟩ := d74
      refine dg_sub (E' := [(7, (.pointer (some p10))), (6, (.bool true))]) ⟨(congrArg some e9), (dpE hd33 3 Z Z), trivial⟩ (dg_on Z Z Z Z (ow_load (R := RInt) Z Z ha9 (Tryd.sizeOf3 _) (Tryd.isAgg3 _) fun v18 hv18 => ?_))
      obtain rfl := vint_eq hv18
      exact ⟨BX.refl _ _, Z⟩
     ·
      intro w37 D hS34 hd34
      refine dg_sub (E' := [(8, (.int .i64 a_t.Field)), (6, (.bool true))]) ⟨(dpE hd34 5 Z Z), (dpE hd34 3 Z Z), trivial⟩ (dg_on Z Z Z Z (ow_lss Z Z Z fun bb11 hbb11 => ?_))
      obtain rfl := hbb11.trans hc2
      exact ⟨BX.refl _ _, Z⟩
     ·
      intro w38 D hS35 hd35
      exact dg_sub (E' := [(6, (.bool true)), (9, (.bool true))]) ⟨(dpE hd35 3 Z Z), (dpE hd35 6 Z Z), trivial⟩ (dg_plain Z (ow_pickT Z Z Z ⟨BX.refl _ _, Z⟩))
     ·
      intro w39 D hS36 hd36
      exact dg_sub (E' := [(10, (.bool true))]) ⟨(dpE hd36 7 Z Z), trivial⟩ (dg_plain Z (ow_move Z Z ⟨BX.refl _ _, Z⟩))
     ·
      intro w40 D hS37 hd37
      have hl40 := Le.no M hS37
      exact dg_sub (E' := [(11, (.bool true)), (1, (.pointer (some p1)))]) ⟨(dpE hd37 8 Z Z), Z, trivial⟩ (dg_on Z Z Z Z (ow_fieldAddr Z Z Tryd.underlying31 Z (Tryd.sizeOf3 _) ⟨BX.refl _ _, ⟨_, Z, (ARep.mono hl40 (hp1.fld fld_Test_Lo))⟩⟩))
     ·
      intro w41 D hS38 hd38
      have d83 : PA RInt M a_t.Lo (D 9) w41 := dpA hd38 9 Z
      obtain ⟨p11, e10, ha10⟩ := d83
      refine dg_sub (E' := [(12, (.pointer (some p11))), (11, (.bool true))]) ⟨(congrArg some e10), (dpE hd38 8 Z Z), trivial⟩ (dg_on Z Z Z Z (ow_load (R := RInt) Z Z ha10 (Tryd.sizeOf3 _) (Tryd.isAgg3 _) fun v19 hv19 => ?_))
      obtain rfl := vint_eq hv19
      exact ⟨BX.refl _ _, Z⟩
     ·
      intro w42 D hS39 hd39
      refine dg_sub (E' := [(13, (.int .i64 a_t.Lo)), (11, (.bool true))]) ⟨(dpE hd39 10 Z Z), (dpE hd39 8 Z Z), trivial⟩ (dg_on Z Z Z Z (ow_geq Z Z Z fun bb12 hbb12 => ?_))
      obtain rfl := hbb12.trans hc3
      exact ⟨BX.refl _ _, Z⟩
     ·
      intro w43 D hS40 hd40
      exact dg_sub (E' := [(11, (.bool true)), (14, (.bool true))]) ⟨(dpE hd40 8 Z Z), (dpE hd40 11 Z Z), trivial⟩ (dg_plain Z (ow_pickT Z Z Z ⟨BX.refl _ _, Z⟩))
     ·
      intro w44 D hS41 hd41
      exact dg_sub (E' := [(15, (.bool true))]) ⟨(dpE hd41 12 Z Z), trivial⟩ (dg_plain Z (ow_move Z Z ⟨BX.refl _ _, Z⟩))
     ·
      intro w45 D hS42 hd42
      have hl45 := Le.no M hS42
      exact dg_sub (E' := [(16, (.bool true)), (1, (.pointer (some p1)))]) ⟨(dpE hd42 13 Z Z), Z, trivial⟩ (dg_on Z Z Z Z (ow_fieldAddr Z Z Tryd.underlying31 Z (Tryd.sizeOf3 _) ⟨BX.refl _ _, ⟨_, Z, (ARep.mono hl45 (hp1.fld fld_Test_Lo))⟩⟩))
     ·
      intro w46 D hS43 hd43
      have d92 : PA RInt M a_t.Lo (D 14) w46 := dpA hd43 14 Z
      obtain ⟨p12, e11, ha11⟩ := d92
      refine dg_sub (E' := [(17, (.pointer (some p12))), (16, (.bool true))]) ⟨(congrArg some e11), (dpE hd43 13 Z Z), trivial⟩ (dg_on Z Z Z Z (ow_load (R := RInt) Z Z ha11 (Tryd.sizeOf3 _) (Tryd.isAgg3 _) fun v20 hv20 => ?_))
      obtain rfl := vint_eq hv20
      exact ⟨BX.refl _ _, Z⟩
     ·
      intro w47 D hS44 hd44
      have hl47 := Le.no M hS44
      exact dg_sub (E' := [(16, (.bool true)), (1, (.pointer (some p1)))]) ⟨(dpE hd44 13 Z Z), Z, trivial⟩ (dg_on Z Z Z Z (ow_fieldAddr Z Z Tryd.underlying31 Z (Tryd.sizeOf3 _) ⟨BX.refl _ _, ⟨_, Z, (ARep.mono hl47 (hp1.fld fld_Test_Hi))⟩⟩))
     ·
      intro w48 D hS45 hd45
      have d95 : PA RInt M a_t.Hi (D 16) w48 := dpA hd45 16 Z
      obtain ⟨p13, e12, ha12⟩ := d95
      refine dg_sub (E' := [(19, (.pointer (some p13))), (16, (.bool true))]) ⟨(congrArg some e12), (dpE hd45 13 Z Z), trivial⟩ (dg_on Z Z Z Z (ow_load (R := RInt) Z Z ha12 (Tryd.sizeOf3 _) (Tryd.isAgg3 _) fun v21 hv21 => ?_))
      obtain rfl := vint_eq hv21
      exact ⟨BX.refl _ _, Z⟩
     ·
      intro w49 D hS46 hd46
      refine dg_sub (E' := [(18, (.int .i64 a_t.Lo)), (20, (.int .i64 a_t.Hi)), (16, (.bool true))]) ⟨(dpE hd46 15 Z Z), (dpE hd46 17 Z Z), (dpE hd46 13 Z Z), trivial⟩ (dg_on Z Z Z Z (ow_leq Z Z Z fun bb13 hbb13 => ?_))
      obtain rfl := hbb13.trans hc4
      exact ⟨BX.refl _ _, Z⟩
     ·
      intro w50 D hS47 hd47
      exact dg_sub (E' := [(16, (.bool true)), (21, (.bool false))]) ⟨(dpE hd47 13 Z Z), (dpE hd47 18 Z Z), trivial⟩ (dg_plain Z (ow_pickT Z Z Z ⟨BX.refl _ _, Z⟩))
     ·
      intro w51 D hS48 hd48
      exact dg_sub (E' := [(22, (.bool false))]) ⟨(dpE hd48 19 Z Z), trivial⟩ (dg_plain Z (ow_move Z Z ⟨BX.refl _ _, Z⟩))
     ·
      intro w52 D hS49 hd49
      exact dg_sub (E' := [(23, (.bool false)), (1, (.pointer (some p1)))]) ⟨(dpE hd49 20 Z Z), Z, trivial⟩ (dg_off Z Z Z Z ⟨BX.refl _ _, Z⟩)
     ·
      intro w53 D hS50 hd50
      exact dg_sub (E' := [(24, undef), (23, (.bool false))]) ⟨(dpE hd50 21 Z Z), (dpE hd50 20 Z Z), trivial⟩ (dg_off Z Z Z Z ⟨BX.refl _ _, Z⟩)
     ·
      intro w54 D hS51 hd51
      exact dg_sub (E' := [(23, (.bool false)), (1, (.pointer (some p1)))]) ⟨(dpE hd51 20 Z Z), Z, trivial⟩ (dg_off Z Z Z Z ⟨BX.refl _ _, Z⟩)
     ·
      intro w55 D hS52 hd52
      exact dg_sub (E' := [(26, undef), (23, (.bool false))]) ⟨(dpE hd52 23 Z Z), (dpE hd52 20 Z Z), trivial⟩ (dg_off Z Z Z Z ⟨BX.refl _ _, Z⟩)
     ·
      intro w56 D hS53 hd53
      exact dg_sub (E' := [(27, undef), (23, (.bool false))]) ⟨(dpE hd53 24 Z Z), (dpE hd53 20 Z Z), trivial⟩ (dg_off Z Z Z Z ⟨BX.refl _ _, Z⟩)
     ·
      intro w57 D hS54 hd54
      have hC57 := hC1.no hS54
      refine lw_sub (E' := [(23, (.bool false)), (25, undef), (28, undef), (1, (.pointer (some p1))), (2, (.bool false))]) ⟨(dpE hd54 20 Z Z), (dpE hd54 22 Z Z), (dpE hd54 25 Z Z), Z, Z, trivial⟩ (lw_off Z Z Z Z Z Z (lw_op Z Z Z (ow_pickF Z Z Z (lw_op Z Z Z (ow_assign Z Z (lw_nil (ew_then (cw_ret ?_))))))))
      obtain rfl := Option.some.inj h
      exact ew_ret (res1 Z (.tmp Z)) ⟨_, Z, ((vbool _)), hC57.bx⟩
   ·
    refine cw_sub (E' := [(1, (.pointer (some p1))), (2, (.bool false))]) ⟨Z, Z, trivial⟩ (cw_drawQ 26 [PA RInt M a_t.Field, PEq (.int .i64 a_t.Field), PEq (.bool true), PEq (.bool true), PA RInt M a_t.Field, PEq (.int .i64 a_t.Field), PEq (.bool true), PEq (.bool true), PEq (.bool true), PA RInt M a_t.Lo, PEq (.int .i64 a_t.Lo), PEq (.bool false), PEq (.bool false), PEq (.bool false), PEq undef, PEq undef, PEq undef, PEq undef, PEq undef, PEq (.bool false), PEq (.bool false), PEq undef, PEq undef, PEq undef, PEq undef, PEq undef] (by kernel_rfl) Z (by kernel_rfl) ⟨PA.mono _ _ _, PEq.mono _, PEq.mono _, PEq.mono _, PA.mono _ _ _, PEq.mono _, PEq.mono _, PEq.mono _, PEq.mono _, PA.mono _ _ _, PEq.mono _, PEq.mono _, PEq.mono _, PEq.mono _, PEq.mono _, PEq.mono _, PEq.mono _, PEq.mono _, PEq.mono _, PEq.mono _, PEq.mono _, PEq.mono _, PEq.mono _, PEq.mono _, PEq.mono _, PEq.mono _, trivial⟩ ⟨?_, ?_, ?_, ?_, ?_, ?_, ?_, ?_, ?_, ?_, ?_, ?_, ?_, ?_, ?_, ?_, ?_, ?_, ?_, ?_, ?_, ?_, ?_, ?_, ?_, ?_, trivial⟩ ?_)
    ·
     intro w58 D hS55 hd55
     have hl58 := Le.no M hS55
     exact dg_sub (E' := [(1, (.pointer (some p1)))]) ⟨Z, trivial⟩ (dg_plain Z (ow_fieldAddr Z Z Tryd.underlying31 Z (Tryd.sizeOf3 _) ⟨BX.refl _ _, ⟨_, Z, (ARep.mono hl58 (hp1.fld fld_Test_Field))⟩⟩))
    ·
     intro w59 D hS56 hd56
     have d139 : PA RInt M a_t.Field (D 0) w59 := dpA hd56 0 Z
     obtain ⟨p14, e13, ha13⟩ := d139
     refine dg_sub (E' := [(3, (.pointer (some p14)))]) ⟨(congrArg some e13), trivial⟩ (dg_plain Z (ow_load (R := RInt) Z Z ha13 (Tryd.sizeOf3 _) (Tryd.isAgg3 _) fun v22 hv22 => ?_))
     obtain rfl := vint_eq hv22
     exact ⟨BX.refl _ _, Z⟩
    ·
     intro w60 D hS57 hd57
     refine dg_sub (E' := [(4, (.int .i64 a_t.Field))]) ⟨(dpE hd57 1 Z Z), trivial⟩ (dg_plain Z (ow_geq Z Z Z fun bb14 hbb14 => ?_))
     obtain rfl := hbb14.trans hc1
     exact ⟨BX.refl _ _, Z⟩
    ·
     intro w61 D hS58 hd58
     exact dg_sub (E' := [(5, (.bool true))]) ⟨(dpE hd58 2 Z Z), trivial⟩ (dg_plain Z (ow_move Z Z ⟨BX.refl _ _, Z⟩))
    ·
     intro w62 D hS59 hd59
     have hl62 := Le.no M hS59
     exact dg_sub (E' := [(6, (.bool true)), (1, (.pointer (some p1)))]) ⟨(dpE hd59 3 Z Z), Z, trivial⟩ (dg_on Z Z Z Z (ow_fieldAddr Z Z Tryd.underlying31 Z (Tryd.sizeOf3 _) ⟨BX.refl _ _, ⟨_, Z, (ARep.mono hl62 (hp1.fld fld_Test_Field))⟩⟩))
    ·
     intro w63 D hS60 hd60
     have d143 : PA RInt M a_t.Field (D 4) w63 := dpA hd60 4 Z
     obtain ⟨p15, e14, ha14⟩ := d143
     refine dg_sub (E' := [(7, (.pointer (some p15))), (6, (.bool true))]) ⟨(congrArg some e14), (dpE hd60 3 Z Z), trivial⟩ (dg_on Z Z Z Z (ow_load (R := RInt) Z Z ha14 (Tryd.sizeOf3 _) (Tryd.isAgg3 _) fun v23 hv23 => ?_))
     obtain rfl := vint_eq hv23
     exact ⟨BX.refl _ _, Z⟩
    ·
     intro w64 D hS61 hd61
     refine dg_sub (E' := [(8, (.int .i64 a_t.Field)), (6, (.bool true))]) ⟨(dpE hd61 5 Z Z), (dpE hd61 3 Z Z), trivial⟩ (dg_on Z Z Z Z (ow_lss Z Z Z fun bb15 hbb15 => ?_))
     obtain rfl := hbb15.trans hc2
     exact ⟨BX.refl _ _, Z⟩
    ·
     intro w65 D hS62 hd62
     exact dg_sub (E' := [(6, (.bool true)), (9, (.bool true))]) ⟨(dpE hd62 3 Z Z), (dpE hd62 6 Z Z), trivial⟩ (dg_plain Z (ow_pickT Z Z Z ⟨BX.refl _ _, Z⟩))
    ·
     intro w66 D hS63 hd63
     exact dg_sub (E' := [(10, (.bool true))]) ⟨(dpE hd63 7 Z Z), trivial⟩ (dg_plain Z (ow_move Z Z ⟨BX.refl _ _, Z⟩))
    ·
     intro w67 D hS64 hd64
     have hl67 := Le.no M hS64
     exact dg_sub (E' := [(11, (.bool true)), (1, (.pointer (some p1)))]) ⟨(dpE hd64 8 Z Z), Z, trivial⟩ (dg_on Z Z Z Z (ow_fieldAddr Z Z Tryd.underlying31 Z (Tryd.sizeOf3 _) ⟨BX.refl _ _, ⟨_, Z, (ARep.mono hl67 (hp1.fld fld_Test_Lo))⟩⟩))
    ·
     intro w68 D hS65 hd65
     have d152 : PA RInt M a_t.Lo (D 9) w68 := dpA hd65 9 Z
     obtain ⟨p16, e15, ha15⟩ := d152
     refine dg_sub (E' := [(12, (.pointer (some p16))), (11, (.bool true))]) ⟨(congrArg some e15), (dpE hd65 8 Z Z), trivial⟩ (dg_on Z Z Z Z (ow_load (R := RInt) Z Z ha15 (Tryd.sizeOf3 _) (Tryd.isAgg3 _) fun v24 hv24 => ?_))
     obtain rfl := vint_eq hv24
     exact ⟨BX.refl _ _, Z⟩
    ·
     intro w69 D hS66 hd66
     refine dg_sub (E' := [(13, (.int .i64 a_t.Lo)), (11, (.bool true))]) ⟨(dpE hd66 10 Z Z), (dpE hd66 8 Z Z), trivial⟩ (dg_on Z Z Z Z (ow_geq Z Z Z fun bb16 hbb16 => ?_))
     obtain rfl := hbb16.trans hc3
     exact ⟨BX.refl _ _, Z⟩
    ·
     intro w70 D hS67 hd67
     exact dg_sub (E' := [(11, (.bool true)), (14, (.bool false))]) ⟨(dpE hd67 8 Z Z), (dpE hd67 11 Z Z), trivial⟩ (dg_plain Z (ow_pickT Z Z Z ⟨BX.refl _ _, Z⟩))
    ·
     intro w71 D hS68 hd68
     exact dg_sub (E' := [(15, (.bool false))]) ⟨(dpE hd68 12 Z Z), trivial⟩ (dg_plain Z (ow_move Z Z ⟨BX.refl _ _, Z⟩))
    ·
     intro w72 D hS69 hd69
     exact dg_sub (E' := [(16, (.bool false)), (1, (.pointer (some p1)))]) ⟨(dpE hd69 13 Z Z), Z, trivial⟩ (dg_off Z Z Z Z ⟨BX.refl _ _, Z⟩)
    ·
     intro w73 D hS70 hd70
     exact dg_sub (E' := [(17, undef), (16, (.bool false))]) ⟨(dpE hd70 14 Z Z), (dpE hd70 13 Z Z), trivial⟩ (dg_off Z Z Z Z ⟨BX.refl _ _, Z⟩)
    ·
     intro w74 D hS71 hd71
     exact dg_sub (E' := [(16, (.bool false)), (1, (.pointer (some p1)))]) ⟨(dpE hd71 13 Z Z), Z, trivial⟩ (dg_off Z Z Z Z ⟨BX.refl _ _, Z⟩)
    ·
     intro w75 D hS72 hd72
     exact dg_sub (E' := [(19, undef), (16, (.bool false))]) ⟨(dpE hd72 16 Z Z), (dpE hd72 13 Z Z), trivial⟩ (dg_off Z Z Z Z ⟨BX.refl _ _, Z⟩)
    ·
     intro w76 D hS73 hd73
     exact dg_sub (E' := [(18, undef), (20, undef), (16, (.bool false))]) ⟨(dpE hd73 15 Z Z), (dpE hd73 17 Z Z), (dpE hd73 13 Z Z), trivial⟩ (dg_off Z Z Z Z ⟨BX.refl _ _, Z⟩)
    ·
     intro w77 D hS74 hd74
     exact dg_sub (E' := [(16, (.bool false)), (21, undef)]) ⟨(dpE hd74 13 Z Z), (dpE hd74 18 Z Z), trivial⟩ (dg_plain Z (ow_pickF Z Z Z ⟨BX.refl _ _, Z⟩))
    ·
     intro w78 D hS75 hd75
     exact dg_sub (E' := [(22, (.bool false))]) ⟨(dpE hd75 19 Z Z), trivial⟩ (dg_plain Z (ow_move Z Z ⟨BX.refl _ _, Z⟩))
    ·
     intro w79 D hS76 hd76
     exact dg_sub (E' := [(23, (.bool false)), (1, (.pointer (some p1)))]) ⟨(dpE hd76 20 Z Z), Z, trivial⟩ (dg_off Z Z Z Z ⟨BX.refl _ _, Z⟩)
    ·
     intro w80 D hS77 hd77
     exact dg_sub (E' := [(24, undef), (23, (.bool false))]) ⟨(dpE hd77 21 Z Z), (dpE hd77 20 Z Z), trivial⟩ (dg_off Z Z Z Z ⟨BX.refl _ _, Z⟩)
    ·
     intro w81 D hS78 hd78
     exact dg_sub (E' := [(23, (.bool false)), (1, (.pointer (some p1)))]) ⟨(dpE hd78 20 Z Z), Z, trivial⟩ (dg_off Z Z Z Z ⟨BX.refl _ _, Z⟩)
    ·
     intro w82 D hS79 hd79
     exact dg_sub (E' := [(26, undef), (23, (.bool false))]) ⟨(dpE hd79 23 Z Z), (dpE hd79 20 Z Z), trivial⟩ (dg_off Z Z Z Z ⟨BX.refl _ _, Z⟩)
    ·
     intro w83 D hS80 hd80
     exact dg_sub (E' := [(27, undef), (23, (.bool false))]) ⟨(dpE hd80 24 Z Z), (dpE hd80 20 Z Z), trivial⟩ (dg_off Z Z Z Z ⟨BX.refl _ _, Z⟩)
    ·
     intro w84 D hS81 hd81
     have hC84 := hC1.no hS81
     refine lw_sub (E' := [(23, (.bool false)), (25, undef), (28, undef), (1, (.pointer (some p1))), (2, (.bool false))]) ⟨(dpE hd81 20 Z Z), (dpE hd81 22 Z Z), (dpE hd81 25 Z Z), Z, Z, trivial⟩ (lw_off Z Z Z Z Z Z (lw_op Z Z Z (ow_pickF Z Z Z (lw_op Z Z Z (ow_assign Z Z (lw_nil (ew_then (cw_ret ?_))))))))
     obtain rfl := Option.some.inj h
     exact ew_ret (res1 Z (.tmp Z)) ⟨_, Z, ((vbool _)), hC84.bx⟩
  ·
   refine cw_sub (E' := [(1, (.pointer (some p1))), (2, (.bool false))]) ⟨Z, Z, trivial⟩ (cw_drawQ 26 [PA RInt M a_t.Field, PEq (.int .i64 a_t.Field), PEq (.bool true), PEq (.bool true), PA RInt M a_t.Field, PEq (.int .i64 a_t.Field), PEq (.bool false), PEq (.bool false), PEq (.bool false), PEq undef, PEq undef, PEq undef, PEq (.bool false), PEq (.bool false), PEq undef, PEq undef, PEq undef, PEq undef, PEq undef, PEq (.bool false), PEq (.bool false), PEq undef, PEq undef, PEq undef, PEq undef, PEq undef] (by kernel_rfl) Z (by kernel_rfl) ⟨PA.mono _ _ _, PEq.mono _, PEq.mono _, PEq.mono _, PA.mono _ _ _, PEq.mono _, PEq.mono _, PEq.mono _, PEq.mono _, PEq.mono _, PEq.mono _, PEq.mono _, PEq.mono _, PEq.mono _, PEq.mono _, PEq.mono _, PEq.mono _, PEq.mono _, PEq.mono _, PEq.mono _, PEq.mono _, PEq.mono _, PEq.mono _, PEq.mono _, PEq.mono _, PEq.mono _, trivial⟩ ⟨?_, ?_, ?_, ?_, ?_, ?_, ?_, ?_, ?_, ?_, ?_, ?_, ?_, ?_, ?_, ?_, ?_, ?_, ?_, ?_, ?_, ?_, ?_, ?_, ?_, ?_, trivial⟩ ?_)
   ·
    intro w85 D hS82 hd82
    have hl85 := Le.no M hS82
    exact dg_sub (E' := [(1, (.pointer (some p1)))]) ⟨Z, trivial⟩ (dg_plain Z (ow_fieldAddr Z Z Tryd.underlying31 Z (Tryd.sizeOf3 _) ⟨BX.refl _ _, ⟨_, Z, (ARep.mono hl85 (hp1.fld fld_Test_Field))⟩⟩))
   ·
    intro w86 D hS83 hd83
    have d208 : PA RInt M a_t.Field (D 0) w86 := dpA hd83 0 Z
    obtain ⟨p17, e16, ha16⟩ := d208
    refine dg_sub (E' := [(3, (.pointer (some p17)))]) ⟨(congrArg some e16), trivial⟩ (dg_plain Z (ow_load (R := RInt) Z Z ha16 (Tryd.sizeOf3 _) (Tryd.isAgg3 _) fun v25 hv25 => ?_))
    obtain rfl := vint_eq hv25
    exact ⟨BX.refl _ _, Z⟩
   ·
    intro w87 D hS84 hd84
    refine dg_sub (E' := [(4, (.int .i64 a_t.Field))]) ⟨(dpE hd84 1 Z Z), trivial⟩ (dg_plain Z (ow_geq Z Z Z fun bb17 hbb17 => ?_))
    obtain rfl := hbb17.trans hc1
    exact ⟨BX.refl _ _, Z⟩
   ·
    intro w88 D hS85 hd85
    exact dg_sub (E' := [(5, (.bool true))]) ⟨(dpE hd85 2 Z Z), trivial⟩ (dg_plain Z (ow_move Z Z ⟨BX.refl _ _, Z⟩))
   ·
    intro w89 D hS86 hd86
    have hl89 := Le.no M hS86
    exact dg_sub (E' := [(6, (.bool true)), (1, (.pointer (some p1)))]) ⟨(dpE hd86 3 Z Z), Z, trivial⟩ (dg_on Z Z Z Z (ow_fieldAddr Z Z Tryd.underlying31 Z (Tryd.sizeOf3 _) ⟨BX.refl _ _, ⟨_, Z, (ARep.mono hl89 (hp1.fld fld_Test_Field))⟩⟩))
   ·
    intro w90 D hS87 hd87
    have d212 : PA RInt M a_t.Field (D 4) w90 := dpA hd87 4 Z
    obtain ⟨p18, e17, ha17⟩ := d212
    refine dg_sub (E' := [(7, (.pointer (some p18))), (6, (.bool true))]) ⟨(congrArg some e17), (dpE hd87 3 Z Z), trivial⟩ (dg_on Z Z Z Z (ow_load (R := RInt) Z Z ha17 (Tryd.sizeOf3 _) (Tryd.isAgg3 _) fun v26 hv26 => ?_))
    obtain rfl := vint_eq hv26
    exact ⟨BX.refl _ _, Z⟩
   ·
    intro w91 D hS88 hd88
    refine dg_sub (E' := [(8, (.int .i64 a_t.Field)), (6, (.bool true))]) ⟨(dpE hd88 5 Z Z), (dpE hd88 3 Z Z), trivial⟩ (dg_on Z Z Z Z (ow_lss Z Z Z fun bb18 hbb18 => ?_))
    obtain rfl := hbb18.trans hc2
    exact ⟨BX.refl _ _, Z⟩
   ·
    intro w92 D hS89 hd89
    exact dg_sub (E' := [(6, (.bool true)), (9, (.bool false))]) ⟨(dpE hd89 3 Z Z), (dpE hd89 6 Z Z), trivial⟩ (dg_plain Z (ow_pickT Z Z Z ⟨BX.refl _ _, Z⟩))
   ·
    intro w93 D hS90 hd90
    exact dg_sub (E' := [(10, (.bool false))]) ⟨(dpE hd90 7 Z Z), trivial⟩ (dg_plain Z (ow_move Z Z ⟨BX.refl _ _, Z⟩))
   ·
    intro w94 D hS91 hd91
    exact dg_sub (E' := [(11, (.bool false)), (1, (.pointer (some p1)))]) ⟨(dpE hd91 8 Z Z), Z, trivial⟩ (dg_off Z Z Z Z ⟨BX.refl _ _, Z⟩)
   ·
    intro w95 D hS92 hd92
    exact dg_sub (E' := [(12, undef), (11, (.bool false))]) ⟨(dpE hd92 9 Z Z), (dpE hd92 8 Z Z), trivial⟩ (dg_off Z Z Z Z ⟨BX.refl _ _, Z⟩)
   ·
    intro w96 D hS93 hd93
    exact dg_sub (E' := [(13, undef), (11, (.bool false))]) ⟨(dpE hd93 10 Z Z), (dpE hd93 8 Z Z), trivial⟩ (dg_off Z Z Z Z ⟨BX.refl _ _, Z⟩)
   ·
    intro w97 D hS94 hd94
    exact dg_sub (E' := [(11, (.bool false)), (14, undef)]) ⟨(dpE hd94 8 Z Z), (dpE hd94 11 Z Z), trivial⟩ (dg_plain Z (ow_pickF Z Z Z ⟨BX.refl _ _, Z⟩))
   ·
    intro w98 D hS95 hd95
    exact dg_sub (E' := [(15, (.bool false))]) ⟨(dpE hd95 12 Z Z), trivial⟩ (dg_plain Z (ow_move Z Z ⟨BX.refl _ _, Z⟩))
   ·
    intro w99 D hS96 hd96
    exact dg_sub (E' := [(16, (.bool false)), (1, (.pointer (some p1)))]) ⟨(dpE hd96 13 Z Z), Z, trivial⟩ (dg_off Z Z Z Z ⟨BX.refl _ _, Z⟩)
   ·
    intro w100 D hS97 hd97
    exact dg_sub (E' := [(17, undef), (16, (.bool false))]) ⟨(dpE hd97 14 Z Z), (dpE hd97 13 Z Z), trivial⟩ (dg_off Z Z Z Z ⟨BX.refl _ _, Z⟩)
   ·
    intro w101 D hS98 hd98
    exact dg_sub (E' := [(16, (.bool false)), (1, (.pointer (some p1)))]) ⟨(dpE hd98 13 Z Z), Z, trivial⟩ (dg_off Z Z Z Z ⟨BX.refl _ _, Z⟩)
   ·
    intro w102 D hS99 hd99
    exact dg_sub (E' := [(19, undef), (16, (.bool false))]) ⟨(dpE hd99 16 Z Z), (dpE hd99 13 Z Z), trivial⟩ (dg_off Z Z Z Z ⟨BX.refl _ _, Z⟩)
   ·
    intro w103 D hS100 hd100
    exact dg_sub (E' := [(18, undef), (20, undef), (16, (.bool false))]) ⟨(dpE hd100 15 Z Z), (dpE hd100 17 Z Z), (dpE hd100 13 Z Z), trivial⟩ (dg_off Z Z Z Z ⟨BX.refl _ _, Z⟩)
   ·
    intro w104 D hS101 hd101
    exact dg_sub (E' := [(16, (.bool false)), (21, undef)]) ⟨(dpE hd101 13 Z Z), (dpE hd101 18 Z Z), trivial⟩ (dg_plain Z (ow_pickF Z Z Z ⟨BX.refl _ _, Z⟩))
   ·
    intro w105 D hS102 hd102
    exact dg_sub (E' := [(22, (.bool false))]) ⟨(dpE hd102 19 Z Z), trivial⟩ (dg_plain Z (ow_move Z Z ⟨BX.refl _ _, Z⟩))
   ·
    intro w106 D hS103 hd103
    exact dg_sub (E' := [(23, (.bool false)), (1, (.pointer (some p1)))]) ⟨(dpE hd103 20 Z Z), Z, trivial⟩ (dg_off Z Z Z Z ⟨BX.refl _ _, Z⟩)
   ·
    intro w107 D hS104 hd104
    exact dg_sub (E' := [(24, undef), (23, (.bool false))]) ⟨(dpE hd104 21 Z Z), (dpE hd104 20 Z Z), trivial⟩ (dg_off Z Z Z Z ⟨BX.refl _ _, Z⟩)
   ·
    intro w108 D hS105 hd105
    exact dg_sub (E' := [(23, (.bool false)), (1, (.pointer (some p1)))]) ⟨(dpE hd105 20 Z Z), Z, trivial⟩ (dg_off Z Z Z Z ⟨BX.refl _ _, Z⟩)
   ·
    intro w109 D hS106 hd106
    exact dg_sub (E' := [(26, undef), (23, (.bool false))]) ⟨(dpE hd106 23 Z Z), (dpE hd106 20 Z Z), trivial⟩ (dg_off Z Z Z Z ⟨BX.refl _ _, Z⟩)
   ·
    intro w110 D hS107 hd107
    exact dg_sub (E' := [(27, undef), (23, (.bool false))]) ⟨(dpE hd107 24 Z Z), (dpE hd107 20 Z Z), trivial⟩ (dg_off Z Z Z Z ⟨BX.refl _ _, Z⟩)
   ·
    intro w111 D hS108 hd108
    have hC111 := hC1.no hS108
    refine lw_sub (E' := [(23, (.bool false)), (25, undef), (28, undef), (1, (.pointer (some p1))), (2, (.bool false))]) ⟨(dpE hd108 20 Z Z), (dpE hd108 22 Z Z), (dpE hd108 25 Z Z), Z, Z, trivial⟩ (lw_off Z Z Z Z Z Z (lw_op Z Z Z (ow_pickF Z Z Z (lw_op Z Z Z (ow_assign Z Z (lw_nil (ew_then (cw_ret ?_))))))))
    obtain rfl := Option.some.inj h
    exact ew_ret (res1 Z (.tmp Z)) ⟨_, Z, ((vbool _)), hC111.bx⟩
 ·
  refine cw_sub (E' := [(1, (.pointer (some p1))), (2, (.bool false))]) ⟨Z, Z, trivial⟩ (cw_drawQ 26 [PA RInt M a_t.Field, PEq (.int .i64 a_t.Field), PEq (.bool false), PEq (.bool false), PEq undef, PEq undef, PEq undef, PEq (.bool false), PEq (.bool false), PEq undef, PEq undef, PEq undef, PEq (.bool false), PEq (.bool false), PEq undef, PEq undef, PEq undef, PEq undef, PEq undef, PEq (.bool false), PEq (.bool false), PEq undef, PEq undef, PEq undef, PEq undef, PEq undef] (by kernel_rfl) Z (by kernel_rfl) ⟨PA.mono _ _ _, PEq.mono _, PEq.mono _, PEq.mono _, PEq.mono _, PEq.mono _, PEq.mono _, PEq.mono _, PEq.mono _, PEq.mono _, PEq.mono _, PEq.mono _, PEq.mono _, PEq.mono _, PEq.mono _, PEq.mono _, PEq.mono _, PEq.mono _, PEq.mono _, PEq.mono _, PEq.mono _, PEq.mono _, PEq.mono _, PEq.mono _, PEq.mono _, PEq.mono _, trivial⟩ ⟨?_, ?_, ?_, ?_, ?_, ?_, ?_, ?_, ?_, ?_, ?_, ?_, ?_, ?_, ?_, ?_, ?_, ?_, ?_, ?_, ?_, ?_, ?_, ?_, ?_, ?_, trivial⟩ ?_)
  ·
   intro w112 D hS109 hd109
   have hl112 := Le.no M hS109
   exact dg_sub (E' := [(1, (.pointer (some p1)))]) ⟨Z, trivial⟩ (dg_plain Z (ow_fieldAddr Z Z Tryd.underlying31 Z (Tryd.sizeOf3 _) ⟨BX.refl _ _, ⟨_, Z, (ARep.mono hl112 (hp1.fld fld_Test_Field))⟩⟩))
  ·
   intro w113 D hS110 hd110
   have d277 : PA RInt M a_t.Field (D 0) w113 := dpA hd110 0 Z
   obtain ⟨p19, e18, ha18⟩ := d277
   refine dg_sub (E' := [(3, (.pointer (some p19)))]) ⟨(congrArg some e18), trivial⟩ (dg_plain Z (ow_load (R := RInt) Z Z ha18 (Tryd.sizeOf3 _) (Tryd.isAgg3 _) fun v27 hv27 => ?_))
   obtain rfl := vint_eq hv27
   exact ⟨BX.refl _ _, Z⟩
  ·
   intro w114 D hS111 hd111
   refine dg_sub (E' := [(4, (.int .i64 a_t.Field))]) ⟨(dpE hd111 1 Z Z), trivial⟩ (dg_plain Z (ow_geq Z Z Z fun bb19 hbb19 => ?_))
   obtain rfl := hbb19.trans hc1
   exact ⟨BX.refl _ _, Z⟩
  ·
   intro w115 D hS112 hd112
   exact dg_sub (E' := [(5, (.bool false))]) ⟨(dpE hd112 2 Z Z), trivial⟩ (dg_plain Z (ow_move Z Z ⟨BX.refl _ _, Z⟩))
  ·
   intro w116 D hS113 hd113
   exact dg_sub (E' := [(6, (.bool false)), (1, (.pointer (some p1)))]) ⟨(dpE hd113 3 Z Z), Z, trivial⟩ (dg_off Z Z Z Z ⟨BX.refl _ _, Z⟩)
  ·
   intro w117 D hS114 hd114
   exact dg_sub (E' := [(7, undef), (6, (.bool false))]) ⟨(dpE hd114 4 Z Z), (dpE hd114 3 Z Z), trivial⟩ (dg_off Z Z Z Z ⟨BX.refl _ _, Z⟩)
  ·
   intro w118 D hS115 hd115
   exact dg_sub (E' := [(8, undef), (6, (.bool false))]) ⟨(dpE hd115 5 Z Z), (dpE hd115 3 Z Z), trivial⟩ (dg_off Z Z Z Z ⟨BX.refl _ _, Z⟩)
  ·
   intro w119 D hS116 hd116
   exact dg_sub (E' := [(6, (.bool false)), (9, undef)]) ⟨(dpE hd116 3 Z Z), (dpE hd116 6 Z Z), trivial⟩ (dg_plain Z (ow_pickF Z Z Z ⟨BX.refl _ _, Z⟩))
  ·
   intro w120 D hS117 hd117
   exact dg_sub (E' := [(10, (.bool false))]) ⟨(dpE hd117 7 Z Z), trivial⟩ (dg_plain Z (ow_move Z Z ⟨BX.refl _ _, Z⟩))
  ·
   intro w121 D hS118 hd118
   exact dg_sub (E' := [(11, (.bool false)), (1, (.pointer (some p1)))]) ⟨(dpE hd118 8 Z Z), Z, trivial⟩ (dg_off Z Z Z Z ⟨BX.refl _ _, Z⟩)
  ·
   intro w122 D hS119 hd119
   exact dg_sub (E' := [(12, undef), (11, (.bool false))]) ⟨(dpE hd119 9 Z Z), (dpE hd119 8 Z Z), trivial⟩ (dg_off Z Z Z Z ⟨BX.refl _ _, Z⟩)
  ·
   intro w123 D hS120 hd120
   exact dg_sub (E' := [(13, undef), (11, (.bool false))]) ⟨(dpE hd120 10 Z Z), (dpE hd120 8 Z Z), trivial⟩ (dg_off Z Z Z Z ⟨BX.refl _ _, Z⟩)
  ·
   intro w124 D hS121 hd121
   exact dg_sub (E' := [(11, (.bool false)), (14, undef)]) ⟨(dpE hd121 8 Z Z), (dpE hd121 11 Z Z), trivial⟩ (dg_plain Z (ow_pickF Z Z Z ⟨BX.refl _ _, Z⟩))
  ·
   intro w125 D hS122 hd122
   exact dg_sub (E' := [(15, (.bool false))]) ⟨(dpE hd122 12 Z Z), trivial⟩ (dg_plain Z (ow_move Z Z ⟨BX.refl _ _, Z⟩))
  ·
   intro w126 D hS123 hd123
   exact dg_sub (E' := [(16, (.bool false)), (1, (.pointer (some p1)))]) ⟨(dpE hd123 13 Z Z), Z, trivial⟩ (dg_off Z Z Z Z ⟨BX.refl _ _, Z⟩)
  ·
   intro w127 D hS124 hd124
   exact dg_sub (E' := [(17, undef), (16, (.bool false))]) ⟨(dpE hd124 14 Z Z), (dpE hd124 13 Z Z), trivial⟩ (dg_off Z Z Z Z ⟨BX.refl _ _, Z⟩)
  ·
   intro w128 D hS125 hd125
   exact dg_sub (E' := [(16, (.bool false)), (1, (.pointer (some p1)))]) ⟨(dpE hd125 13 Z Z), Z, trivial⟩ (dg_off Z Z Z Z ⟨BX.refl _ _, Z⟩)
  ·
   intro w129 D hS126 hd126
   exact dg_sub (E' := [(19, undef), (16, (.bool false))]) ⟨(dpE hd126 16 Z Z), (dpE hd126 13 Z Z), trivial⟩ (dg_off Z Z Z Z ⟨BX.refl _ _, Z⟩)
  ·
   intro w130 D hS127 hd127
   exact dg_sub (E' := [(18, undef), (20, undef), (16, (.bool false))]) ⟨(dpE hd127 15 Z Z), (dpE hd127 17 Z Z), (dpE hd127 13 Z Z), trivial⟩ (dg_off Z Z Z Z ⟨BX.refl _ _, Z⟩)
  ·
   intro w131 D hS128 hd128
   exact dg_sub (E' := [(16, (.bool false)), (21, undef)]) ⟨(dpE hd128 13 Z Z), (dpE hd128 18 Z Z), trivial⟩ (dg_plain Z (ow_pickF Z Z Z ⟨BX.refl _ _, Z⟩))
  ·
   intro w132 D hS129 hd129
   exact dg_sub (E' := [(22, (.bool false))]) ⟨(dpE hd129 19 Z Z), trivial⟩ (dg_plain Z (ow_move Z Z ⟨BX.refl _ _, Z⟩))
  ·
   intro w133 D hS130 hd130
   exact dg_sub (E' := [(23, (.bool false)), (1, (.pointer (some p1)))]) ⟨(dpE hd130 20 Z Z), Z, trivial⟩ (dg_off Z Z Z Z ⟨BX.refl _ _, Z⟩)
  ·
   intro w134 D hS131 hd131
   exact dg_sub (E' := [(24, undef), (23, (.bool false))]) ⟨(dpE hd131 21 Z Z), (dpE hd131 20 Z Z), trivial⟩ (dg_off Z Z Z Z ⟨BX.refl _ _, Z⟩)
  ·
   intro w135 D hS132 hd132
   exact dg_sub (E' := [(23, (.bool false)), (1, (.pointer (some p1)))]) ⟨(dpE hd132 20 Z Z), Z, trivial⟩ (dg_off Z Z Z Z ⟨BX.refl _ _, Z⟩)
  ·
   intro w136 D hS133 hd133
   exact dg_sub (E' := [(26, undef), (23, (.bool false))]) ⟨(dpE hd133 23 Z Z), (dpE hd133 20 Z Z), trivial⟩ (dg_off Z Z Z Z ⟨BX.refl _ _, Z⟩)
  ·
   intro w137 D hS134 hd134
   exact dg_sub (E' := [(27, undef), (23, (.bool false))]) ⟨(dpE hd134 24 Z Z), (dpE hd134 20 Z Z), trivial⟩ (dg_off Z Z Z Z ⟨BX.refl _ _, Z⟩)
  ·
   intro w138 D hS135 hd135
   have hC138 := hC1.no hS135
   refine lw_sub (E' := [(23, (.bool false)), (25, undef), (28, undef), (1, (.pointer (some p1))), (2, (.bool false))]) ⟨(dpE hd135 20 Z Z), (dpE hd135 22 Z Z), (dpE hd135 25 Z Z), Z, Z, trivial⟩ (lw_off Z Z Z Z Z Z (lw_op Z Z Z (ow_pickF Z Z Z (lw_op Z Z Z (ow_assign Z Z (lw_nil (ew_then (cw_ret ?_))))))))
   obtain rfl := Option.some.inj h
   exact ew_ret (res1 Z (.tmp Z)) ⟨_, Z, ((vbool _)), hC138.bx⟩

theorem w_impl_TestsValid {w : World} {M : Nat → Prop} (hG : ARep (RArr 4 RShape) w M shapes ⟨0, 0, none⟩) (hO : ∀ b, M b → b < w.heap.size) {v0p : Value} {a_list : List Test} (h0 : VRep (RSlice RTest) w M a_list v0p) {r : Bool} (h : F.impl_TestsValid a_list = some r) :
  Calls Tryd.prog 56 [v0p].toArray w fun e w' => ∃ v, e = .returned v ∧ VRep RBool w' M r v ∧ BX No w w' := by
 have hC : Cx No w M w M := Cx.start hO (fun _ e => e.elim)
 refine walk (N := 18) Tryd.func56 Z Tryd.ntmps56 Z (cw_seq (cw_region (lw_op Z Z Z (ow_assign Z Z (lw_nil (ew_then (cw_seq (cw_seq (cw_region (lw_op Z Z Z (ow_move Z Z (lw_op Z Z Z (ow_len Z Z h0 Tryd.underlying27 Z (lw_op Z Z Z (ow_gtr Z Z Z fun bb1 hbb1 => lw_nil (ew_then ?_))))))))))))))))
 replace h := cond_some h
 rcases h with ⟨hc1, h⟩ | ⟨hc1, h⟩
 ·
  obtain rfl := hbb1.trans hc1
  refine cw_true Z (cw_seq (cw_region (lw_op Z Z Z (ow_assign Z Z (lw_nil (ew_then (cw_ret (ew_thenR ?_))))))))
  obtain rfl := Option.some.inj h
  exact ew_ret (res1 Z (.tmp Z)) ⟨_, Z, ((vbool _)), hC.bx⟩
 ·
  obtain rfl := hbb1.trans hc1
  refine cw_false Z (cw_skip (ew_then (cw_seq (cw_seq (cw_region (lw_op Z Z Z (ow_move Z Z (lw_op Z Z Z (ow_len Z Z h0 Tryd.underlying27 Z (lw_op Z Z Z (ow_move Z Z (lw_nil (ew_then ?_)))))))))))))
  replace h := bind_some h
  obtain ⟨lr1, hlr1, h⟩ := h
  refine cw_for hlr1 (fun s a w' => ∃ (M' : Nat → Prop), Fits 18 [(8, v0p), (9, (.int .i64 (a_list.length : Int))), (10, (.int .i64 s))] a ∧ Le w M w' M' ∧ Cx No w M w' M') ?_ ?_ ?_
  ·
   intro a ha
   exact ⟨M, ha.sub ⟨Z, Z, Z, trivial⟩, Le.refl _ _, hC⟩
  ·
   rintro k1 a w1 sr1 ⟨M1, hF1, hl1, hC1⟩ hb1 hR1
   refine cw_at (E := [(8, v0p), (9, (.int .i64 (a_list.length : Int))), (10, (.int .i64 k1))]) hF1 (cw_seq (cw_region (lw_op Z Z Z (ow_lss Z Z Z fun bb2 hbb2 => lw_nil (ew_then (cw_seq ?_))))))
   replace hb1 := cond_some hb1
   rcases hb1 with ⟨hc2, hb1⟩ | ⟨hc2, hb1⟩
   ·
    obtain rfl := hbb2.trans hc2
    refine cw_true Z (cw_skip (ew_then (cw_seq (cw_block (cw_seq (cw_region ?_))))))
    replace hb1 := bind_some hb1
    obtain ⟨x1, hx1, hb1⟩ := hb1
    refine lw_op Z Z Z (ow_indexSlice (R := RTest) Z Z Z (VRep.mono hl1 h0) Tryd.underlying27 (Tryd.sizeOf31 _) hx1 fun p1 hp1 => lw_op Z Z Z (ow_load (R := RTest) Z Z hp1 (Tryd.sizeOf31 _) (Tryd.isAgg31 _) fun v2 hv2 => lw_allocStore (R := RTest) Z Z Z Z Z Z Z Tryd.zeroValue31 Tryd.sizeOf31 Z Z Z (by simp) hv2 hC1 fun p2 w2 hp2 hb2 hl2 hC2 => lw_nil (ew_then (cw_seq (cw_region (lw_op Z Z Z (ow_load (R := RTest) Z Z hp2 (Tryd.sizeOf31 _) (Tryd.isAgg31 _) fun v3 hv3 => ?_)))))))
    replace hb1 := bind_some hb1
    obtain ⟨x2, hx2, hb1⟩ := hb1
    refine lw_op Z Z Z (ow_call Z Z Tryd.call85 (w_impl_TestValid (hG.mono (hl1.trans hl2)) hC2.old hv3 hx2) fun v4 w3 hv4 => ?_)
    obtain ⟨hv4, hb3⟩ := hv4
    have hl3 := Le.no M1 hb3
    have hC3 := hC2.no hb3
    obtain rfl := vbool_eq hv4
    refine lw_op Z Z Z (ow_not Z Z (lw_nil (ew_then ?_)))
    replace hb1 := cond_some hb1
    rcases hb1 with ⟨hc3, hb1⟩ | ⟨hc3, hb1⟩
    ·
     subst hc3
     refine cw_false Z (cw_skip (ew_blockN (ew_then (cw_region (lw_op Z Z Z (ow_add Z Z Z (lw_op Z Z Z (ow_move Z Z (lw_nil ?_)))))))))
     have lz1 := ((hl1.trans hl2).trans hl3)
     exact ew_nxt (W (k1 + 1)) hb1 fun a ha => ⟨M1, (ha.sub ⟨Z, Z, Z, trivial⟩), lz1, hC3⟩
    ·
     subst hc3
     refine cw_true Z (cw_seq (cw_region (lw_op Z Z Z (ow_assign Z Z (lw_nil (ew_then (cw_ret (ew_blockR (ew_thenR (ew_thenR (ew_blockR (ew_brkR (ew_thenR ?_)))))))))))))
     have e1 := hR1 _ (Option.some.inj hb1).symm
     subst e1
     obtain rfl := Option.some.inj h
     exact ew_ret (res1 Z (.tmp Z)) ⟨_, Z, ((vbool _)), hC3.bx⟩
   ·
    obtain rfl := hbb2.trans hc2
    exact cw_false Z (cw_exit (ew_thenX (ew_thenX (ew_blockX (ew_brk k1 hb1 fun a ha => ⟨M1, (ha.sub ⟨Z, Z, Z, trivial⟩), hl1, hC1⟩)))))
  ·
   rintro k2 a w4 hlr2 ⟨M2, hF2, hl4, hC4⟩
   subst hlr2
   refine ew_at (E := [(8, v0p), (9, (.int .i64 (a_list.length : Int))), (10, (.int .i64 k2))]) hF2 (ew_then (cw_seq (cw_region (lw_op Z Z Z (ow_assign Z Z (lw_nil (ew_then (cw_ret ?_))))))))
   obtain rfl := Option.some.inj h
   exact ew_ret (res1 Z (.tmp Z)) ⟨_, Z, ((vbool _)), hC4.bx⟩

theorem w_impl_RuleValid {w : World} {M : Nat → Prop} (hG : ARep (RArr 4 RShape) w M shapes ⟨0, 0, none⟩) (hO : ∀ b, M b → b < w.heap.size) {v0p : Value} {a_r : Rule} (h0 : VRep RRule w M a_r v0p) {r : Bool} (h : F.impl_RuleValid a_r = some r) :
  Calls Tryd.prog 76 [v0p].toArray w fun e w' => ∃ v, e = .returned v ∧ VRep RBool w' M r v ∧ BX No w w' := by
 have hC : Cx No w M w M := Cx.start hO (fun _ e => e.elim)
 refine walk (N := 27) Tryd.func76 Z Tryd.ntmps76 Z (cw_seq (cw_region (lw_op Z Z Z (ow_box (R := RRule) Z Z h0 hC fun p1 w1 hp1 hb1 hl1 hC1 => lw_op Z Z Z (ow_assign Z Z (lw_nil (ew_then (cw_seq (cw_seq (cw_region (lw_op Z Z Z (ow_fieldAddr Z Z Tryd.underlying42 Z (Tryd.sizeOf27 _) (lw_op Z Z Z (ow_load (R := (RSlice RTest)) Z Z (hp1.fld fld_Rule_Tests) (Tryd.sizeOf27 _) (Tryd.isAgg27 _) fun v1 hv1 => ?_))))))))))))))
 replace h := bind_some h
 obtain ⟨x1, hx1, h⟩ := h
 refine lw_op Z Z Z (ow_call Z Z Tryd.call56 (w_impl_TestsValid (hG.mono hl1) hC1.old hv1 hx1) fun v2 w2 hv2 => ?_)
 obtain ⟨hv2, hb2⟩ := hv2
 have hl2 := Le.no M hb2
 have hC2 := hC1.no hb2
 obtain rfl := vbool_eq hv2
 refine lw_op Z Z Z (ow_not Z Z (lw_nil (ew_then ?_)))
 replace h := cond_some h
 rcases h with ⟨hc1, h⟩ | ⟨hc1, h⟩
 ·
  subst hc1
  refine cw_false Z (cw_skip (ew_then (cw_seq (cw_seq (cw_region (lw_op Z Z Z (ow_fieldAddr Z Z Tryd.underlying42 Z (Tryd.sizeOf3 _) (lw_op Z Z Z (ow_load (R := RInt) Z Z (ARep.mono hl2 (hp1.fld fld_Rule_Action)) (Tryd.sizeOf3 _) (Tryd.isAgg3 _) fun v3 hv3 => ?_)))))))))
  obtain rfl := vint_eq hv3
  refine lw_nil (ew_then (cw_block (cw_seq (cw_region (lw_op Z Z Z (ow_eqlI Z Z Z fun bb1 hbb1 => lw_op Z Z Z (ow_assign Z Z (lw_nil (ew_then ?_)))))))))
  replace h := cond_some h
  rcases h with ⟨hc2, h⟩ | ⟨hc2, h⟩
  ·
   obtain rfl := hbb1.trans hc2
   refine cw_true Z (cw_seq (cw_region (lw_op Z Z Z (ow_fieldAddr Z Z Tryd.underlying42 Z (Tryd.sizeOf3 _) (lw_op Z Z Z (ow_load (R := RInt) Z Z (ARep.mono hl2 (hp1.fld fld_Rule_Chain)) (Tryd.sizeOf3 _) (Tryd.isAgg3 _) fun v4 hv4 => ?_))))))
   obtain rfl := vint_eq hv4
   refine lw_op Z Z Z (ow_geq Z Z Z fun bb2 hbb2 => lw_op Z Z Z (ow_move Z Z ?_))
   replace h := cond_some h
   rcases h with ⟨hc3, h⟩ | ⟨hc3, h⟩
   ·
    obtain rfl := hbb2.trans hc3
    refine lw_on Z Z Z Z Z Z (ow_fieldAddr Z Z Tryd.underlying42 Z (Tryd.sizeOf3 _) (lw_on Z Z Z Z Z Z (ow_load (R := RInt) Z Z (ARep.mono hl2 (hp1.fld fld_Rule_Chain)) (Tryd.sizeOf3 _) (Tryd.isAgg3 _) fun v5 hv5 => ?_)))
    obtain rfl := vint_eq hv5
    refine lw_on Z Z Z Z Z Z (ow_lss Z Z Z fun bb3 hbb3 => lw_op Z Z Z (ow_pickT Z Z Z (lw_op Z Z Z (ow_assign Z Z (lw_nil (ew_then (cw_ret (ew_blockR (ew_thenR ?_)))))))))
    obtain rfl := Option.some.inj h
    exact ew_ret (res1 Z (.tmp Z)) ⟨_, Z, ((vbool_of hbb3)), hC2.bx⟩
   ·
    obtain rfl := hbb2.trans hc3
    refine lw_off Z Z Z Z Z Z (lw_off Z Z Z Z Z Z (lw_off Z Z Z Z Z Z (lw_op Z Z Z (ow_pickF Z Z Z (lw_op Z Z Z (ow_assign Z Z (lw_nil (ew_then (cw_ret (ew_blockR (ew_thenR ?_)))))))))))
    obtain rfl := Option.some.inj h
    exact ew_ret (res1 Z (.tmp Z)) ⟨_, Z, ((vbool _)), hC2.bx⟩
  ·
   obtain rfl := hbb1.trans hc2
   refine cw_false Z (cw_seq (cw_seq (cw_region (lw_op Z Z Z (ow_eqlI Z Z Z fun bb4 hbb4 => lw_op Z Z Z (ow_assign Z Z (lw_nil (ew_then ?_))))))))
   replace h := cond_some h
   rcases h with ⟨hc4, h⟩ | ⟨hc4, h⟩
   ·
    obtain rfl := hbb4.trans hc4
    refine cw_true Z (cw_skip (ew_then (cw_true Z (cw_seq (cw_region (lw_op Z Z Z (ow_fieldAddr Z Z Tryd.underlying42 Z (Tryd.sizeOf3 _) (lw_op Z Z Z (ow_load (R := RInt) Z Z (ARep.mono hl2 (hp1.fld fld_Rule_Chain)) (Tryd.sizeOf3 _) (Tryd.isAgg3 _) fun v6 hv6 => ?_)))))))))
    obtain rfl := vint_eq hv6
    refine lw_op Z Z Z (ow_eqlI Z Z Z fun bb5 hbb5 => lw_op Z Z Z (ow_assign Z Z (lw_nil (ew_then (cw_ret (ew_blockR (ew_thenR ?_)))))))
    obtain rfl := Option.some.inj h
    exact ew_ret (res1 Z (.tmp Z)) ⟨_, Z, ((vbool_of hbb5)), hC2.bx⟩
   ·
    obtain rfl := hbb4.trans hc4
    refine cw_false Z (cw_seq (cw_region (lw_op Z Z Z (ow_eqlI Z Z Z fun bb6 hbb6 => lw_op Z Z Z (ow_assign Z Z (lw_nil (ew_then ?_)))))))
    replace h := cond_some h
    rcases h with ⟨hc5, h⟩ | ⟨hc5, h⟩
    ·
     obtain rfl := hbb6.trans hc5
     refine cw_true Z (cw_skip (ew_then (cw_true Z (cw_seq (cw_region (lw_op Z Z Z (ow_fieldAddr Z Z Tryd.underlying42 Z (Tryd.sizeOf3 _) (lw_op Z Z Z (ow_load (R := RInt) Z Z (ARep.mono hl2 (hp1.fld fld_Rule_Chain)) (Tryd.sizeOf3 _) (Tryd.isAgg3 _) fun v7 hv7 => ?_)))))))))
     obtain rfl := vint_eq hv7
     refine lw_op Z Z Z (ow_eqlI Z Z Z fun bb7 hbb7 => lw_op Z Z Z (ow_assign Z Z (lw_nil (ew_then (cw_ret (ew_blockR (ew_thenR ?_)))))))
     obtain rfl := Option.some.inj h
     exact ew_ret (res1 Z (.tmp Z)) ⟨_, Z, ((vbool_of hbb7)), hC2.bx⟩
    ·
     obtain rfl := hbb6.trans hc5
     refine cw_false Z (cw_seq (cw_region (lw_op Z Z Z (ow_eqlI Z Z Z fun bb8 hbb8 => lw_op Z Z Z (ow_assign Z Z (lw_nil (ew_then ?_)))))))
     replace h := cond_some h
     rcases h with ⟨hc6, h⟩ | ⟨hc6, h⟩
     ·
      obtain rfl := hbb8.trans hc6
      refine cw_true Z (cw_skip (ew_then (cw_true Z (cw_seq (cw_region (lw_op Z Z Z (ow_fieldAddr Z Z Tryd.underlying42 Z (Tryd.sizeOf3 _) (lw_op Z Z Z (ow_load (R := RInt) Z Z (ARep.mono hl2 (hp1.fld fld_Rule_Chain)) (Tryd.sizeOf3 _) (Tryd.isAgg3 _) fun v8 hv8 => ?_)))))))))
      obtain rfl := vint_eq hv8
      refine lw_op Z Z Z (ow_eqlI Z Z Z fun bb9 hbb9 => lw_op Z Z Z (ow_assign Z Z (lw_nil (ew_then (cw_ret (ew_blockR (ew_thenR ?_)))))))
      obtain rfl := Option.some.inj h
      exact ew_ret (res1 Z (.tmp Z)) ⟨_, Z, ((vbool_of hbb9)), hC2.bx⟩
     ·
      obtain rfl := hbb8.trans hc6
      refine cw_false Z (cw_region (lw_op Z Z Z (ow_eqlI Z Z Z fun bb10 hbb10 => lw_op Z Z Z (ow_assign Z Z (lw_nil (ew_then ?_))))))
      replace h := cond_some h
      rcases h with ⟨hc7, h⟩ | ⟨hc7, h⟩
      ·
       obtain rfl := hbb10.trans hc7
       refine cw_true Z (cw_seq (cw_region (lw_op Z Z Z (ow_fieldAddr Z Z Tryd.underlying42 Z (Tryd.sizeOf3 _) (lw_op Z Z Z (ow_load (R := RInt) Z Z (ARep.mono hl2 (hp1.fld fld_Rule_Chain)) (Tryd.sizeOf3 _) (Tryd.isAgg3 _) fun v9 hv9 => ?_))))))
       obtain rfl := vint_eq hv9
       refine lw_op Z Z Z (ow_eqlI Z Z Z fun bb11 hbb11 => lw_op Z Z Z (ow_assign Z Z (lw_nil (ew_then (cw_ret (ew_blockR (ew_thenR ?_)))))))
       obtain rfl := Option.some.inj h
       exact ew_ret (res1 Z (.tmp Z)) ⟨_, Z, ((vbool_of hbb11)), hC2.bx⟩
      ·
       obtain rfl := hbb10.trans hc7
       refine cw_false Z (cw_skip (ew_blockN (ew_then (cw_seq (cw_region (lw_op Z Z Z (ow_assign Z Z (lw_nil (ew_then (cw_ret ?_))))))))))
       obtain rfl := Option.some.inj h
       exact ew_ret (res1 Z (.tmp Z)) ⟨_, Z, ((vbool _)), hC2.bx⟩
 ·
  subst hc1
  refine cw_true Z (cw_seq (cw_region (lw_op Z Z Z (ow_assign Z Z (lw_nil (ew_then (cw_ret (ew_thenR ?_))))))))
  obtain rfl := Option.some.inj h
  exact ew_ret (res1 Z (.tmp Z)) ⟨_, Z, ((vbool _)), hC2.bx⟩

theorem w_impl_RulesValid {w : World} {M : Nat → Prop} (hG : ARep (RArr 4 RShape) w M shapes ⟨0, 0, none⟩) (hO : ∀ b, M b → b < w.heap.size) {v0p : Value} {a_list : List Rule} (h0 : VRep (RSlice RRule) w M a_list v0p) {r : Bool} (h : F.impl_RulesValid a_list = some r) :
  Calls Tryd.prog 66 [v0p].toArray w fun e w' => ∃ v, e = .returned v ∧ VRep RBool w' M r v ∧ BX No w w' := by
 have hC : Cx No w M w M := Cx.start hO (fun _ e => e.elim)
 refine walk (N := 18) Tryd.func66 Z Tryd.ntmps66 Z (cw_seq (cw_region (lw_op Z Z Z (ow_assign Z Z (lw_nil (ew_then (cw_seq (cw_seq (cw_region (lw_op Z Z Z (ow_move Z Z (lw_op Z Z Z (ow_len Z Z h0 Tryd.underlying36 Z (lw_op Z Z Z (ow_gtr Z Z Z fun bb1 hbb1 => lw_nil (ew_then ?_))))))))))))))))
 replace h := cond_some h
 rcases h with ⟨hc1, h⟩ | ⟨hc1, h⟩
 ·
  obtain rfl := hbb1.trans hc1
  refine cw_true Z (cw_seq (cw_region (lw_op Z Z Z (ow_assign Z Z (lw_nil (ew_then (cw_ret (ew_thenR ?_))))))))
  obtain rfl := Option.some.inj h
  exact ew_ret (res1 Z (.tmp Z)) ⟨_, Z, ((vbool _)), hC.bx⟩
 ·
  obtain rfl := hbb1.trans hc1
  refine cw_false Z (cw_skip (ew_then (cw_seq (cw_seq (cw_region (lw_op Z Z Z (ow_move Z Z (lw_op Z Z Z (ow_len Z Z h0 Tryd.underlying36 Z (lw_op Z Z Z (ow_move Z Z (lw_nil (ew_then ?_)))))))))))))
  replace h := bind_some h
  obtain ⟨lr1, hlr1, h⟩ := h
  refine cw_for hlr1 (fun s a w' => ∃ (M' : Nat → Prop), Fits 18 [(8, v0p), (9, (.int .i64 (a_list.length : Int))), (10, (.int .i64 s))] a ∧ Le w M w' M' ∧ Cx No w M w' M') ?_ ?_ ?_
  ·
   intro a ha
   exact ⟨M, ha.sub ⟨Z, Z, Z, trivial⟩, Le.refl _ _, hC⟩
  ·
   rintro k1 a w1 sr1 ⟨M1, hF1, hl1, hC1⟩ hb1 hR1
   refine cw_at (E := [(8, v0p), (9, (.int .i64 (a_list.length : Int))), (10, (.int .i64 k1))]) hF1 (cw_seq (cw_region (lw_op Z Z Z (ow_lss Z Z Z fun bb2 hbb2 => lw_nil (ew_then (cw_seq ?_))))))
   replace hb1 := cond_some hb1
   rcases hb1 with ⟨hc2, hb1⟩ | ⟨hc2, hb1⟩
   ·
    obtain rfl := hbb2.trans hc2
    refine cw_true Z (cw_skip (ew_then (cw_seq (cw_block (cw_seq (cw_region ?_))))))
    replace hb1 := bind_some hb1
    obtain ⟨x1, hx1, hb1⟩ := hb1
    refine lw_op Z Z Z (ow_indexSlice (R := RRule) Z Z Z (VRep.mono hl1 h0) Tryd.underlying36 (Tryd.sizeOf42 _) hx1 fun p1 hp1 => lw_op Z Z Z (ow_load (R := RRule) Z Z hp1 (Tryd.sizeOf42 _) (Tryd.isAgg42 _) fun v2 hv2 => lw_allocStore (R := RRule) Z Z Z Z Z Z Z Tryd.zeroValue42 Tryd.sizeOf42 Z Z Z (by simp) hv2 hC1 fun p2 w2 hp2 hb2 hl2 hC2 => lw_nil (ew_then (cw_seq (cw_region (lw_op Z Z Z (ow_load (R := RRule) Z Z hp2 (Tryd.sizeOf42 _) (Tryd.isAgg42 _) fun v3 hv3 => ?_)))))))
    replace hb1 := bind_some hb1
    obtain ⟨x2, hx2, hb1⟩ := hb1
    refine lw_op Z Z Z (ow_call Z Z Tryd.call76 (w_impl_RuleValid (hG.mono (hl1.trans hl2)) hC2.old hv3 hx2) fun v4 w3 hv4 => ?_)
    obtain ⟨hv4, hb3⟩ := hv4
    have hl3 := Le.no M1 hb3
    have hC3 := hC2.no hb3
    obtain rfl := vbool_eq hv4
    refine lw_op Z Z Z (ow_not Z Z (lw_nil (ew_then ?_)))
    replace hb1 := cond_some hb1
    rcases hb1 with ⟨hc3, hb1⟩ | ⟨hc3, hb1⟩
    ·
     subst hc3
     refine cw_false Z (cw_skip (ew_blockN (ew_then (cw_region (lw_op Z Z Z (ow_add Z Z Z (lw_op Z Z Z (ow_move Z Z (lw_nil ?_)))))))))
     have lz1 := ((hl1.trans hl2).trans hl3)
     exact ew_nxt (W (k1 + 1)) hb1 fun a ha => ⟨M1, (ha.sub ⟨Z, Z, Z, trivial⟩), lz1, hC3⟩
    ·
     subst hc3
     refine cw_true Z (cw_seq (cw_region (lw_op Z Z Z (ow_assign Z Z (lw_nil (ew_then (cw_ret (ew_blockR (ew_thenR (ew_thenR (ew_blockR (ew_brkR (ew_thenR ?_)))))))))))))
     have e1 := hR1 _ (Option.some.inj hb1).symm
     subst e1
     obtain rfl := Option.some.inj h
     exact ew_ret (res1 Z (.tmp Z)) ⟨_, Z, ((vbool _)), hC3.bx⟩
   ·
    obtain rfl := hbb2.trans hc2
    exact cw_false Z (cw_exit (ew_thenX (ew_thenX (ew_blockX (ew_brk k1 hb1 fun a ha => ⟨M1, (ha.sub ⟨Z, Z, Z, trivial⟩), hl1, hC1⟩)))))
  ·
   rintro k2 a w4 hlr2 ⟨M2, hF2, hl4, hC4⟩
   subst hlr2
   refine ew_at (E := [(8, v0p), (9, (.int .i64 (a_list.length : Int))), (10, (.int .i64 k2))]) hF2 (ew_then (cw_seq (cw_region (lw_op Z Z Z (ow_assign Z Z (lw_nil (ew_then (cw_ret ?_))))))))
   obtain rfl := Option.some.inj h
   exact ew_ret (res1 Z (.tmp Z)) ⟨_, Z, ((vbool _)), hC4.bx⟩

theorem w_impl_callsIn {w : World} {M : Nat → Prop} (_hG : ARep (RArr 4 RShape) w M shapes ⟨0, 0, none⟩) (hO : ∀ b, M b → b < w.heap.size) {v0p : Value} {a_rules : List Rule} (h0 : VRep (RSlice RRule) w M a_rules v0p) {r : (List Int)} (h : F.impl_callsIn a_rules = some r) :
  Calls Tryd.prog 67 [v0p].toArray w fun e w' => ∃ v, e = .returned v ∧ VRep (RSlice RInt) w' M r v ∧ BX No w w' := by
 obtain ⟨i3, hi3, hz3, hs3, hy3⟩ := info3
 have hC : Cx No w M w M := Cx.start hO (fun _ e => e.elim)
 clear _hG
 refine walk (N := 34) Tryd.func67 Z Tryd.ntmps67 Z (cw_seq (cw_region (lw_op Z Z Z (ow_assign Z Z (lw_nil (ew_then (cw_seq (cw_region (lw_op Z Z Z (ow_alloc Z (Tryd.zeroValue121 _) hC fun g1 w1 hg1 hg2 ho1 hb1 hl1 hC1 => ?_))))))))))
 have hm1 : (Add g1 M) g1 := .inl Z
 have ho2 : OwnA (RArr 5 RBool) w1 (Add g1 M) g1 121 [false, false, false, false, false] := OwnA.of ho1 ⟨Z, ⟨_, _, Z, (vbool _).cells, _, _, Z, (vbool _).cells, _, _, Z, (vbool _).cells, _, _, Z, (vbool _).cells, _, _, Z, (vbool _).cells, Z⟩⟩
 refine lw_nil (ew_then (cw_seq (cw_seq (cw_region (lw_op Z Z Z (ow_move Z Z (lw_op Z Z Z (ow_len Z Z (VRep.mono hl1 h0) Tryd.underlying36 Z (lw_op Z Z Z (ow_move Z Z (lw_nil (ew_then ?_))))))))))))
 replace h := bind_some h
 obtain ⟨lr1, hlr1, h⟩ := h
 refine cw_for hlr1 (fun s a w' => ∃ (M' : Nat → Prop), Fits 34 [(3, (.pointer (some ⟨g1, 0, none⟩))), (9, v0p), (10, (.int .i64 (a_rules.length : Int))), (11, (.int .i64 s.1))] a ∧ Le w1 (Add g1 M) w' M' ∧ Cx No w M w' M' ∧ OwnA (RArr 5 RBool) w' M' g1 121 s.2 ∧ M' g1) ?_ ?_ ?_
 ·
  intro a ha
  exact ⟨(Add g1 M), ha.sub ⟨Z, Z, Z, Z, trivial⟩, Le.refl _ _, hC1, ho2, hm1⟩
 ·
  rintro ⟨k1, y1⟩ a w2 sr1 ⟨M1, hF1, hl2, hC2, ho3, hm2⟩ hb2 hR1
  refine cw_at (E := [(3, (.pointer (some ⟨g1, 0, none⟩))), (9, v0p), (10, (.int .i64 (a_rules.length : Int))), (11, (.int .i64 k1))]) hF1 (cw_seq (cw_region (lw_op Z Z Z (ow_lss Z Z Z fun bb1 hbb1 => lw_nil (ew_then (cw_seq ?_))))))
  replace hb2 := cond_some hb2
  rcases hb2 with ⟨hc1, hb2⟩ | ⟨hc1, hb2⟩
  ·
   obtain rfl := hbb1.trans hc1
   refine cw_true Z (cw_skip (ew_then (cw_seq (cw_block (cw_seq (cw_region ?_))))))
   replace hb2 := bind_some hb2
   obtain ⟨x1, hx1, hb2⟩ := hb2
   refine lw_op Z Z Z (ow_indexSlice (R := RRule) Z Z Z (VRep.mono (hl1.trans hl2) h0) Tryd.underlying36 (Tryd.sizeOf42 _) hx1 fun p1 hp1 => lw_op Z Z Z (ow_load (R := RRule) Z Z hp1 (Tryd.sizeOf42 _) (Tryd.isAgg42 _) fun v3 hv3 => lw_allocStore (R := RRule) Z Z Z Z Z Z Z Tryd.zeroValue42 Tryd.sizeOf42 Z Z Z (by simp) hv3 hC2 fun p2 w3 hp2 hb3 hl3 hC3 => ?_))
   have ho4 := ho3.no hb3 hl3
   refine lw_nil (ew_then (cw_seq (cw_region (lw_op Z Z Z (ow_fieldAddr Z Z Tryd.underlying42 Z (Tryd.sizeOf3 _) (lw_op Z Z Z (ow_load (R := RInt) Z Z (hp2.fld fld_Rule_Action) (Tryd.sizeOf3 _) (Tryd.isAgg3 _) fun v4 hv4 => ?_)))))))
   obtain rfl := vint_eq hv4
   refine lw_op Z Z Z (ow_eqlI Z Z Z fun bb2 hbb2 => lw_nil (ew_then ?_))
   replace hb2 := cond_some hb2
   rcases hb2 with ⟨hc2, hb2⟩ | ⟨hc2, hb2⟩
   ·
    obtain rfl := hbb2.trans hc2
    refine cw_true Z (cw_region (lw_op Z Z Z (ow_fieldAddr Z Z Tryd.underlying42 Z (Tryd.sizeOf3 _) (lw_op Z Z Z (ow_load (R := RInt) Z Z (hp2.fld fld_Rule_Chain) (Tryd.sizeOf3 _) (Tryd.isAgg3 _) fun v5 hv5 => ?_)))))
    obtain rfl := vint_eq hv5
    replace hb2 := bind_some hb2
    obtain ⟨x2, hx2, hb2⟩ := hb2
    refine lw_op Z Z Z (ow_indexA (R := RBool) Z Z Z Z ho4 Tryd.underlying121 (Tryd.sizeOf4 _) hx2 (lw_op0 Z Z (ow_storeElA (X := No) (R := RBool) Z Z Z Z ho4 hx2 (Tryd.sizeOf4 _) (vbool _) hm2 (.inl hg2) hC3 fun w4 ho5 hb4 hl4 hC4 => lw_nil (ew_blockN (ew_then (cw_region (lw_op Z Z Z (ow_add Z Z Z (lw_op Z Z Z (ow_move Z Z (lw_nil ?_)))))))))))
    have lz1 := ((hl2.trans hl3).trans hl4)
    exact ew_nxt ((W (k1 + 1)), (List.set y1 (x1.Chain : Int).toNat true)) hb2 fun a ha => ⟨M1, (ha.sub ⟨Z, Z, Z, Z, trivial⟩), lz1, hC4, ho5, hm2⟩
   ·
    obtain rfl := hbb2.trans hc2
    exact cw_false Z (cw_skip (ew_blockN (ew_then (cw_region (lw_op Z Z Z (ow_add Z Z Z (lw_op Z Z Z (ow_move Z Z (lw_nil (ew_nxt ((W (k1 + 1)), y1) hb2 fun a ha => ⟨M1, (ha.sub ⟨Z, Z, Z, Z, trivial⟩), (hl2.trans hl3), hC3, ho4, hm2⟩))))))))))
  ·
   obtain rfl := hbb1.trans hc1
   exact cw_false Z (cw_exit (ew_thenX (ew_thenX (ew_blockX (ew_brk (k1, y1) hb2 fun a ha => ⟨M1, (ha.sub ⟨Z, Z, Z, Z, trivial⟩), hl2, hC2, ho3, hm2⟩)))))
 ·
  rintro ⟨k2, y2⟩ a w5 hlr2 ⟨M2, hF2, hl5, hC5, ho6, hm3⟩
  subst hlr2
  refine ew_at (E := [(3, (.pointer (some ⟨g1, 0, none⟩))), (9, v0p), (10, (.int .i64 (a_rules.length : Int))), (11, (.int .i64 k2))]) hF2 (ew_then (cw_seq (cw_region (lw_op Z Z Z (ow_assign Z Z (lw_nil (ew_then (cw_seq (cw_seq (cw_region (lw_op Z Z Z (ow_loadA (R := (RArr 5 RBool)) Z Z Z ho6 (Tryd.sizeOf121 _) (Tryd.isAgg121 _) fun v8 hv8 => lw_op Z Z Z (ow_move Z Z (lw_nil (ew_then ?_)))))))))))))))
  have hr1 : OwnRow RInt w.heap.size 3 w5 M2 ([] : List Int) (.slice none 0 0) := ownrow_nil
  replace h := bind_some h
  obtain ⟨lr2, hlr3, h⟩ := h
  refine cw_for hlr3 (fun s a w' => ∃ (M' : Nat → Prop) (v0c : Value), Fits 34 [(6, v0c), (22, v8), (23, (.int .i64 s.2))] a ∧ Le w5 M2 w' M' ∧ Cx No w M w' M' ∧ OwnRow RInt w.heap.size 3 w' M' s.1 v0c) ?_ ?_ ?_
  ·
   intro a ha
   exact ⟨M2, (.slice none 0 0), ha.sub ⟨Z, Z, Z, trivial⟩, Le.refl _ _, hC5, hr1⟩
  ·
   rintro ⟨y3, k3⟩ a w6 sr2 ⟨M3, v9, hF3, hl6, hC6, hw1⟩ hb5 hR2
   refine cw_at (E := [(6, v9), (22, v8), (23, (.int .i64 k3))]) hF3 (cw_seq (cw_region (lw_op Z Z Z (ow_lss Z Z Z fun bb3 hbb3 => lw_nil (ew_then (cw_seq ?_))))))
   replace hb5 := cond_some hb5
   rcases hb5 with ⟨hc3, hb5⟩ | ⟨hc3, hb5⟩
   ·
    obtain rfl := hbb3.trans hc3
    refine cw_true Z (cw_skip (ew_then (cw_seq (cw_block (cw_seq (cw_region (lw_op Z Z Z (ow_move Z Z ?_))))))))
    replace hb5 := bind_some hb5
    obtain ⟨x3, hx3, hb5⟩ := hb5
    refine lw_op Z Z Z (ow_index (R := RBool) Z Z Z (VRep.mono hl6 hv8) Tryd.underlying121 (Tryd.sizeOf4 _) (Tryd.isAgg4 _) hx3 fun v11 hv11 => ?_)
    obtain rfl := vbool_eq hv11
    refine lw_op Z Z Z (ow_assign Z Z (lw_op Z Z Z (ow_assign Z Z (lw_nil (ew_then (cw_seq (cw_region (lw_op Z Z Z (ow_move Z Z (lw_nil (ew_then ?_)))))))))))
    replace hb5 := cond_some hb5
    rcases hb5 with ⟨hc4, hb5⟩ | ⟨hc4, hb5⟩
    ·
     subst hc4
     refine cw_true Z (cw_region (lw_op Z Z Z (ow_move Z Z (lw_op Z Z Z (ow_move Z Z (lw_op Z Z Z (ow_buildSlice (R := RInt) (xs := [k3]) (cs := #[(.int .i64 k3)]) (e := 3) Z Z (by kernel_rfl) Z Z ⟨_, _, Z, (vint _).cells, Z⟩ hC6 fun p3 w7 hw2 hb6 hl7 hC7 => ?_)))))))
     have hr2 := hw1.no hb6
     replace hb5 := bind_some hb5
     obtain ⟨z1, hz1, hb5⟩ := hb5
     refine lw_op Z Z Z (ow_append (R := RInt) Z Z Z Z Tryd.underlying52 hi3 hz3 hs3 hy3 Z Z Z Z hr2 hw2 hz1 hC7 fun v12 w8 M4 hr3 hb7 hl8 hC8 hM1 hat1 => lw_op Z Z Z (ow_assign Z Z (lw_nil (ew_blockN (ew_then (cw_region (lw_op Z Z Z (ow_add Z Z Z (lw_op Z Z Z (ow_move Z Z (lw_nil ?_)))))))))))
     have lz2 := ((hl6.trans hl7).trans hl8)
     exact ew_nxt (z1, (W (k3 + 1))) hb5 fun a ha => ⟨M4, v12, (ha.sub ⟨Z, Z, Z, trivial⟩), lz2, hC8, hr3⟩
    ·
     subst hc4
     exact cw_false Z (cw_skip (ew_blockN (ew_then (cw_region (lw_op Z Z Z (ow_add Z Z Z (lw_op Z Z Z (ow_move Z Z (lw_nil (ew_nxt (y3, (W (k3 + 1))) hb5 fun a ha => ⟨M3, v9, (ha.sub ⟨Z, Z, Z, trivial⟩), hl6, hC6, hw1⟩))))))))))
   ·
    obtain rfl := hbb3.trans hc3
    exact cw_false Z (cw_exit (ew_thenX (ew_thenX (ew_blockX (ew_brk (y3, k3) hb5 fun a ha => ⟨M3, v9, (ha.sub ⟨Z, Z, Z, trivial⟩), hl6, hC6, hw1⟩)))))
  ·
   rintro ⟨y4, k4⟩ a w9 hlr4 ⟨M5, v13, hF4, hl9, hC9, hw3⟩
   subst hlr4
   refine ew_at (E := [(6, v13), (22, v8), (23, (.int .i64 k4))]) hF4 (ew_then (cw_seq (cw_region (lw_op Z Z Z (ow_move Z Z (lw_op Z Z Z (ow_assign Z Z (lw_nil (ew_then (cw_ret ?_))))))))))
   obtain rfl := Option.some.inj h
   exact ew_ret (res1 Z (.tmp Z)) ⟨_, Z, (hw3.freezeBack hC9 hO), hC9.bx⟩

theorem w_impl_visitCalls (n_ : Nat) : ∀ {w : World} {M : Nat → Prop} (hG : ARep (RArr 4 RShape) w M shapes ⟨0, 0, none⟩) (hO : ∀ b, M b → b < w.heap.size) {v0p : Value} {a_chains : List (List Rule)} (h0 : VRep (RSlice (RSlice RRule)) w M a_chains v0p) {a_chain : Int} {g : Nat} {a_colours : List Int} (hown : OwnA (RArr 5 RInt) w M g 96 a_colours) (hgM : M g) {r : Bool × (List Int)} (h : F.impl_visitCalls n_ a_chains a_chain a_colours = some r),
  Calls Tryd.prog 73 [v0p, (.int .i64 a_chain), (.pointer (some ⟨g, 0, none⟩))].toArray w fun e w' => ∃ v, e = .returned v ∧ (VRep RBool w' M r.1 v ∧ OwnA (RArr 5 RInt) w' M g 96 r.2) ∧ BX (One g) w w' := by
 induction n_ with
 | zero =>
  intro w M hG hO v0p a_chains h0 a_chain g a_colours hown hgM r h
  exact (Option.some_ne_none _ (show (none : Option (Bool × (List Int))) = some r from h).symm).elim
 | succ n_ ih =>
 intro w M hG hO v0p a_chains h0 a_chain g a_colours hown hgM r h
 have hX : ∀ b, (One g) b → M b := fun b e => e ▸ hgM
 have hC : Cx (One g) w M w M := Cx.start hO hX
 refine walk (N := 48) Tryd.func73 Z Tryd.ntmps73 Z (cw_seq (cw_region (lw_op Z Z Z (ow_assign Z Z (lw_nil (ew_then (cw_seq (cw_seq (cw_region (lw_op Z Z Z (ow_move Z Z (lw_op Z Z Z (ow_move Z Z (lw_op Z Z Z (ow_len Z Z h0 Tryd.underlying43 Z (lw_op Z Z Z (ow_geq Z Z Z fun bb1 hbb1 => lw_nil (ew_then ?_))))))))))))))))))
 replace h := cond_some h
 rcases h with ⟨hc1, h⟩ | ⟨hc1, h⟩
 ·
  obtain rfl := hbb1.trans hc1
  refine cw_true Z (cw_seq (cw_region (lw_op Z Z Z (ow_assign Z Z (lw_nil (ew_then (cw_ret (ew_thenR ?_))))))))
  obtain rfl := Option.some.inj h
  exact ew_ret (res1 Z (.tmp Z)) ⟨_, Z, ⟨((vbool _)), (hown.mono hC.back)⟩, hC.bx⟩
 ·
  obtain rfl := hbb1.trans hc1
  refine cw_false Z (cw_skip (ew_then (cw_seq (cw_seq (cw_region (lw_op Z Z Z (ow_move Z Z (lw_op Z Z Z (ow_move Z Z (lw_op Z Z Z (ow_nilCheck Z Z ?_)))))))))))
  replace h := bind_some h
  obtain ⟨x1, hx1, h⟩ := h
  refine lw_op Z Z Z (ow_indexA (R := RInt) Z Z Z Z hown Tryd.underlying96 (Tryd.sizeOf3 _) hx1 (lw_op Z Z Z (ow_loadElA (R := RInt) Z Z Z hown hx1 (Tryd.sizeOf3 _) (Tryd.isAgg3 _) fun v1 hv1 => ?_)))
  obtain rfl := vint_eq hv1
  refine lw_nil (ew_then (cw_block (cw_seq (cw_region (lw_op Z Z Z (ow_eqlI Z Z Z fun bb2 hbb2 => lw_op Z Z Z (ow_assign Z Z (lw_nil (ew_then ?_)))))))))
  replace h := cond_some h
  rcases h with ⟨hc2, h⟩ | ⟨hc2, h⟩
  ·
   obtain rfl := hbb2.trans hc2
   refine cw_true Z (cw_seq (cw_region (lw_op Z Z Z (ow_assign Z Z (lw_nil (ew_then (cw_ret (ew_blockR (ew_thenR ?_)))))))))
   obtain rfl := Option.some.inj h
   exact ew_ret (res1 Z (.tmp Z)) ⟨_, Z, ⟨((vbool _)), (hown.mono hC.back)⟩, hC.bx⟩
  ·
   obtain rfl := hbb2.trans hc2
   refine cw_false Z (cw_seq (cw_region (lw_op Z Z Z (ow_eqlI Z Z Z fun bb3 hbb3 => lw_op Z Z Z (ow_assign Z Z (lw_nil (ew_then ?_)))))))
   replace h := cond_some h
   rcases h with ⟨hc3, h⟩ | ⟨hc3, h⟩
   ·
    obtain rfl := hbb3.trans hc3
    refine cw_true Z (cw_seq (cw_region (lw_op Z Z Z (ow_assign Z Z (lw_nil (ew_then (cw_ret (ew_blockR (ew_thenR ?_)))))))))
    obtain rfl := Option.some.inj h
    exact ew_ret (res1 Z (.tmp Z)) ⟨_, Z, ⟨((vbool _)), (hown.mono hC.back)⟩, hC.bx⟩
   ·
    obtain rfl := hbb3.trans hc3
    refine cw_false Z (cw_skip (ew_blockN (ew_then (cw_seq (cw_region (lw_op Z Z Z (ow_move Z Z (lw_op Z Z Z (ow_move Z Z (lw_op Z Z Z (ow_nilCheck Z Z (lw_op Z Z Z (ow_indexA (R := RInt) Z Z Z Z hown Tryd.underlying96 (Tryd.sizeOf3 _) hx1 (lw_op0 Z Z (ow_storeElA (X := (One g)) (R := RInt) Z Z Z Z hown hx1 (Tryd.sizeOf3 _) (vint _) hgM (.inr Z) hC fun w1 ho1 hb1 hl1 hC1 => lw_nil (ew_then (cw_seq (cw_region (lw_op Z Z Z (ow_assign Z Z (lw_nil (ew_then (cw_seq (cw_seq (cw_region (lw_op Z Z Z (ow_move Z Z (lw_op Z Z Z (ow_move Z Z ?_)))))))))))))))))))))))))))))
    replace h := bind_some h
    obtain ⟨x2, hx2, h⟩ := h
    refine lw_op Z Z Z (ow_indexSlice (R := (RSlice RRule)) Z Z Z (VRep.mono hl1 h0) Tryd.underlying43 (Tryd.sizeOf36 _) hx2 fun p1 hp1 => lw_op Z Z Z (ow_load (R := (RSlice RRule)) Z Z hp1 (Tryd.sizeOf36 _) (Tryd.isAgg36 _) fun v2 hv2 => ?_))
    replace h := bind_some h
    obtain ⟨x3, hx3, h⟩ := h
    refine lw_op Z Z Z (ow_call Z Z Tryd.call67 (w_impl_callsIn (hG.mono hl1) hC1.old hv2 hx3) fun v3 w2 hv3 => ?_)
    obtain ⟨hv3, hb2⟩ := hv3
    have hl2 := Le.no M hb2
    have hC2 := hC1.no hb2
    have ho2 := ho1.no hb2 hl2
    refine lw_op Z Z Z (ow_len Z Z hv3 Tryd.underlying52 Z (lw_op Z Z Z (ow_move Z Z (lw_nil (ew_then ?_)))))
    replace h := bind_some h
    obtain ⟨lr1, hlr1, h⟩ := h
    refine cw_for hlr1 (fun s a w' => ∃ (M' : Nat → Prop), Fits 48 [(0, v0p), (1, (.int .i64 a_chain)), (2, (.pointer (some ⟨g, 0, none⟩))), (7, (.bool s.1)), (31, v3), (32, (.int .i64 (x3.length : Int))), (33, (.int .i64 s.2.1))] a ∧ Le w2 M w' M' ∧ Cx (One g) w M w' M' ∧ OwnA (RArr 5 RInt) w' M' g 96 s.2.2 ∧ M' g) ?_ ?_ ?_
    ·
     intro a ha
     exact ⟨M, ha.sub ⟨Z, Z, Z, Z, Z, Z, Z, trivial⟩, Le.refl _ _, hC2, ho2, hgM⟩
    ·
     rintro ⟨y1, k1, y2⟩ a w3 sr1 ⟨M1, hF1, hl3, hC3, ho3, hm1⟩ hb3 hR1
     refine cw_at (E := [(0, v0p), (1, (.int .i64 a_chain)), (2, (.pointer (some ⟨g, 0, none⟩))), (7, (.bool y1)), (31, v3), (32, (.int .i64 (x3.length : Int))), (33, (.int .i64 k1))]) hF1 (cw_seq (cw_region (lw_op Z Z Z (ow_lss Z Z Z fun bb4 hbb4 => lw_nil (ew_then (cw_seq ?_))))))
     replace hb3 := cond_some hb3
     rcases hb3 with ⟨hc4, hb3⟩ | ⟨hc4, hb3⟩
     ·
      obtain rfl := hbb4.trans hc4
      refine cw_true Z (cw_skip (ew_then (cw_seq (cw_block (cw_seq (cw_region ?_))))))
      replace hb3 := bind_some hb3
      obtain ⟨x4, hx4, hb3⟩ := hb3
      refine lw_op Z Z Z (ow_indexSlice (R := RInt) Z Z Z (VRep.mono hl3 hv3) Tryd.underlying52 (Tryd.sizeOf3 _) hx4 fun p2 hp2 => lw_op Z Z Z (ow_load (R := RInt) Z Z hp2 (Tryd.sizeOf3 _) (Tryd.isAgg3 _) fun v7 hv7 => ?_))
      obtain rfl := vint_eq hv7
      refine lw_op Z Z Z (ow_assign Z Z (lw_nil (ew_then (cw_seq (cw_region (lw_op Z Z Z (ow_move Z Z (lw_op Z Z Z (ow_move Z Z (lw_op Z Z Z (ow_move Z Z ?_)))))))))))
      have lz1 := ((hl1.trans hl2).trans hl3)
      replace hb3 := bind_some hb3
      obtain ⟨x5, hx5, hb3⟩ := hb3
      refine lw_op Z Z Z (ow_call Z Z Tryd.call73 (ih (hG.mono lz1) hC3.old (VRep.mono lz1 h0) ho3 hm1 hx5) fun v8 w4 hv8 => ?_)
      obtain ⟨⟨hv8, ho4⟩, hb4⟩ := hv8
      have hl4 := Le.of_bx M1 hb4 (fun b e => (by rw [show b = g from e]; exact hm1))
      have hC4 := hC3.go hb4 (fun b e => Or.inr e)
      obtain ⟨bb5, hbb5, rfl⟩ := vbool_ex hv8
      refine lw_op Z Z Z (ow_not Z Z (lw_nil (ew_then ?_)))
      replace hb3 := cond_some hb3
      rcases hb3 with ⟨hc5, hb3⟩ | ⟨hc5, hb3⟩
      ·
       obtain rfl := hbb5.trans hc5
       exact cw_false Z (cw_skip (ew_blockN (ew_then (cw_region (lw_op Z Z Z (ow_add Z Z Z (lw_op Z Z Z (ow_move Z Z (lw_nil (ew_nxt (y1, (W (k1 + 1)), x5.2) hb3 fun a ha => ⟨M1, (ha.sub ⟨Z, Z, Z, Z, Z, Z, Z, trivial⟩), (hl3.trans hl4), hC4, ho4, hm1⟩))))))))))
      ·
       obtain rfl := hbb5.trans hc5
       exact cw_true Z (cw_region (lw_op Z Z Z (ow_assign Z Z (lw_nil (ew_blockN (ew_then (cw_region (lw_op Z Z Z (ow_add Z Z Z (lw_op Z Z Z (ow_move Z Z (lw_nil (ew_nxt (false, (W (k1 + 1)), x5.2) hb3 fun a ha => ⟨M1, (ha.sub ⟨Z, Z, Z, Z, Z, Z, Z, trivial⟩), (hl3.trans hl4), hC4, ho4, hm1⟩)))))))))))))
     ·
      obtain rfl := hbb4.trans hc4
      exact cw_false Z (cw_exit (ew_thenX (ew_thenX (ew_blockX (ew_brk (y1, k1, y2) hb3 fun a ha => ⟨M1, (ha.sub ⟨Z, Z, Z, Z, Z, Z, Z, trivial⟩), hl3, hC3, ho3, hm1⟩)))))
    ·
     rintro ⟨y3, k2, y4⟩ a w5 hlr2 ⟨M2, hF2, hl5, hC5, ho5, hm2⟩
     subst hlr2
     refine ew_at (E := [(0, v0p), (1, (.int .i64 a_chain)), (2, (.pointer (some ⟨g, 0, none⟩))), (7, (.bool y3)), (31, v3), (32, (.int .i64 (x3.length : Int))), (33, (.int .i64 k2))]) hF2 (ew_then (cw_seq (cw_region (lw_op Z Z Z (ow_move Z Z (lw_op Z Z Z (ow_move Z Z (lw_op Z Z Z (ow_nilCheck Z Z ?_)))))))))
     replace h := bind_some h
     obtain ⟨x6, hx6, h⟩ := h
     refine lw_op Z Z Z (ow_indexA (R := RInt) Z Z Z Z ho5 Tryd.underlying96 (Tryd.sizeOf3 _) hx6 (lw_op0 Z Z (ow_storeElA (X := (One g)) (R := RInt) Z Z Z Z ho5 hx6 (Tryd.sizeOf3 _) (vint _) hm2 (.inr Z) hC5 fun w6 ho6 hb5 hl6 hC6 => lw_nil (ew_then (cw_seq (cw_region (lw_op Z Z Z (ow_move Z Z (lw_op Z Z Z (ow_assign Z Z (lw_nil (ew_then (cw_ret ?_)))))))))))))
     obtain rfl := Option.some.inj h
     exact ew_ret (res1 Z (.tmp Z)) ⟨_, Z, ⟨((vbool _)), (ho6.mono hC6.back)⟩, hC6.bx⟩

theorem w_impl_acyclic {w : World} {M : Nat → Prop} (hG : ARep (RArr 4 RShape) w M shapes ⟨0, 0, none⟩) (hO : ∀ b, M b → b < w.heap.size) {v0p : Value} {a_chains : List (List Rule)} (h0 : VRep (RSlice (RSlice RRule)) w M a_chains v0p) {r : Bool} (h : F.impl_acyclic a_chains = some r) :
  Calls Tryd.prog 68 [v0p].toArray w fun e w' => ∃ v, e = .returned v ∧ VRep RBool w' M r v ∧ BX No w w' := by
 have hC : Cx No w M w M := Cx.start hO (fun _ e => e.elim)
 refine walk (N := 15) Tryd.func68 Z Tryd.ntmps68 Z (cw_seq (cw_region (lw_op Z Z Z (ow_assign Z Z (lw_nil (ew_then (cw_seq (cw_region (lw_op Z Z Z (ow_alloc Z (Tryd.zeroValue96 _) hC fun g1 w1 hg1 hg2 ho1 hb1 hl1 hC1 => ?_))))))))))
 have hm1 : (Add g1 M) g1 := .inl Z
 have ho2 : OwnA (RArr 5 RInt) w1 (Add g1 M) g1 96 [0, 0, 0, 0, 0] := OwnA.of ho1 ⟨Z, ⟨_, _, Z, (vint _).cells, _, _, Z, (vint _).cells, _, _, Z, (vint _).cells, _, _, Z, (vint _).cells, _, _, Z, (vint _).cells, Z⟩⟩
 refine lw_nil (ew_then (cw_seq (cw_seq (cw_region (lw_op Z Z Z (ow_move Z Z (lw_op Z Z Z (ow_len Z Z (VRep.mono hl1 h0) Tryd.underlying43 Z (lw_op Z Z Z (ow_move Z Z (lw_nil (ew_then ?_))))))))))))
 replace h := bind_some h
 obtain ⟨lr1, hlr1, h⟩ := h
 refine cw_for hlr1 (fun s a w' => ∃ (M' : Nat → Prop), Fits 15 [(0, v0p), (3, (.pointer (some ⟨g1, 0, none⟩))), (6, (.int .i64 (a_chains.length : Int))), (7, (.int .i64 s.1))] a ∧ Le w1 (Add g1 M) w' M' ∧ Cx No w M w' M' ∧ OwnA (RArr 5 RInt) w' M' g1 96 s.2 ∧ M' g1) ?_ ?_ ?_
 ·
  intro a ha
  exact ⟨(Add g1 M), ha.sub ⟨Z, Z, Z, Z, trivial⟩, Le.refl _ _, hC1, ho2, hm1⟩
 ·
  rintro ⟨k1, y1⟩ a w2 sr1 ⟨M1, hF1, hl2, hC2, ho3, hm2⟩ hb2 hR1
  refine cw_at (E := [(0, v0p), (3, (.pointer (some ⟨g1, 0, none⟩))), (6, (.int .i64 (a_chains.length : Int))), (7, (.int .i64 k1))]) hF1 (cw_seq (cw_region (lw_op Z Z Z (ow_lss Z Z Z fun bb1 hbb1 => lw_nil (ew_then (cw_seq ?_))))))
  replace hb2 := cond_some hb2
  rcases hb2 with ⟨hc1, hb2⟩ | ⟨hc1, hb2⟩
  ·
   obtain rfl := hbb1.trans hc1
   refine cw_true Z (cw_skip (ew_then (cw_seq (cw_block (cw_seq (cw_region (lw_op Z Z Z (ow_move Z Z (lw_op Z Z Z (ow_assign Z Z (lw_nil (ew_then (cw_seq (cw_region (lw_op Z Z Z (ow_move Z Z (lw_op Z Z Z (ow_move Z Z ?_))))))))))))))))))
   replace hb2 := bind_some hb2
   obtain ⟨x1, hx1, hb2⟩ := hb2
   refine lw_op Z Z Z (ow_call Z Z Tryd.call73 (w_impl_visitCalls 10 (hG.mono (hl1.trans hl2)) hC2.old (VRep.mono (hl1.trans hl2) h0) ho3 hm2 hx1) fun v3 w3 hv3 => ?_)
   obtain ⟨⟨hv3, ho4⟩, hb3⟩ := hv3
   have hl3 := Le.of_bx M1 hb3 (fun b e => (by rw [show b = g1 from e]; exact hm2))
   have hC3 := hC2.go hb3 (fun b e => (by rw [show b = g1 from e]; exact (.inl hg2)))
   obtain ⟨bb2, hbb2, rfl⟩ := vbool_ex hv3
   refine lw_op Z Z Z (ow_not Z Z (lw_nil (ew_then ?_)))
   replace hb2 := cond_some hb2
   rcases hb2 with ⟨hc2, hb2⟩ | ⟨hc2, hb2⟩
   ·
    obtain rfl := hbb2.trans hc2
    exact cw_false Z (cw_skip (ew_blockN (ew_then (cw_region (lw_op Z Z Z (ow_add Z Z Z (lw_op Z Z Z (ow_move Z Z (lw_nil (ew_nxt ((W (k1 + 1)), x1.2) hb2 fun a ha => ⟨M1, (ha.sub ⟨Z, Z, Z, Z, trivial⟩), (hl2.trans hl3), hC3, ho4, hm2⟩))))))))))
   ·
    obtain rfl := hbb2.trans hc2
    refine cw_true Z (cw_seq (cw_region (lw_op Z Z Z (ow_assign Z Z (lw_nil (ew_then (cw_ret (ew_blockR (ew_thenR (ew_thenR (ew_blockR (ew_brkR (ew_thenR ?_)))))))))))))
    have e1 := hR1 _ (Option.some.inj hb2).symm
    subst e1
    obtain rfl := Option.some.inj h
    exact ew_ret (res1 Z (.tmp Z)) ⟨_, Z, ((vbool _)), hC3.bx⟩
  ·
   obtain rfl := hbb1.trans hc1
   exact cw_false Z (cw_exit (ew_thenX (ew_thenX (ew_blockX (ew_brk (k1, y1) hb2 fun a ha => ⟨M1, (ha.sub ⟨Z, Z, Z, Z, trivial⟩), hl2, hC2, ho3, hm2⟩)))))
 ·
  rintro ⟨k2, y2⟩ a w4 hlr2 ⟨M2, hF2, hl4, hC4, ho5, hm3⟩
  subst hlr2
  refine ew_at (E := [(0, v0p), (3, (.pointer (some ⟨g1, 0, none⟩))), (6, (.int .i64 (a_chains.length : Int))), (7, (.int .i64 k2))]) hF2 (ew_then (cw_seq (cw_region (lw_op Z Z Z (ow_assign Z Z (lw_nil (ew_then (cw_ret ?_))))))))
  obtain rfl := Option.some.inj h
  exact ew_ret (res1 Z (.tmp Z)) ⟨_, Z, ((vbool _)), hC4.bx⟩

theorem w_impl_RulesetValid {w : World} {M : Nat → Prop} (hG : ARep (RArr 4 RShape) w M shapes ⟨0, 0, none⟩) (hO : ∀ b, M b → b < w.heap.size) {v0p : Value} {a_s : Ruleset} (h0 : VRep RRuleset w M a_s v0p) {r : Bool} (h : F.impl_RulesetValid a_s = some r) :
  Calls Tryd.prog 25 [v0p].toArray w fun e w' => ∃ v, e = .returned v ∧ VRep RBool w' M r v ∧ BX No w w' := by
 have hC : Cx No w M w M := Cx.start hO (fun _ e => e.elim)
 refine walk (N := 54) Tryd.func25 Z Tryd.ntmps25 Z (cw_seq (cw_region (lw_op Z Z Z (ow_box (R := RRuleset) Z Z h0 hC fun p1 w1 hp1 hb1 hl1 hC1 => lw_op Z Z Z (ow_assign Z Z (lw_nil (ew_then (cw_seq (cw_seq (cw_region (lw_op Z Z Z (ow_fieldAddr Z Z Tryd.underlying45 Z (Tryd.sizeOf43 _) (lw_op Z Z Z (ow_load (R := (RSlice (RSlice RRule))) Z Z (hp1.fld fld_Ruleset_Chains) (Tryd.sizeOf43 _) (Tryd.isAgg43 _) fun v1 hv1 => lw_op Z Z Z (ow_len Z Z hv1 Tryd.underlying43 Z (lw_op Z Z Z (ow_lss Z Z Z fun bb1 hbb1 => lw_op Z Z Z (ow_move Z Z ?_))))))))))))))))))
 replace h := cond_some h
 rcases h with ⟨hc1, h⟩ | ⟨hc1, h⟩
 ·
  obtain rfl := hbb1.trans hc1
  refine lw_off Z Z Z Z Z Z (lw_off Z Z Z Z Z Z (lw_off Z Z Z Z Z Z (lw_off Z Z Z Z Z Z (lw_op Z Z Z (ow_pickT Z Z Z (lw_nil (ew_then (cw_true Z (cw_seq (cw_region (lw_op Z Z Z (ow_assign Z Z (lw_nil (ew_then (cw_ret (ew_thenR ?_))))))))))))))))
  obtain rfl := Option.some.inj h
  exact ew_ret (res1 Z (.tmp Z)) ⟨_, Z, ((vbool _)), hC1.bx⟩
 ·
  obtain rfl := hbb1.trans hc1
  refine lw_on Z Z Z Z Z Z (ow_fieldAddr Z Z Tryd.underlying45 Z (Tryd.sizeOf43 _) (lw_on Z Z Z Z Z Z (ow_load (R := (RSlice (RSlice RRule))) Z Z (hp1.fld fld_Ruleset_Chains) (Tryd.sizeOf43 _) (Tryd.isAgg43 _) fun v2 hv2 => lw_on Z Z Z Z Z Z (ow_len Z Z hv2 Tryd.underlying43 Z (lw_on Z Z Z Z Z Z (ow_gtr Z Z Z fun bb2 hbb2 => lw_op Z Z Z (ow_pickF Z Z Z (lw_nil (ew_then ?_)))))))))
  replace h := cond_some h
  rcases h with ⟨hc2, h⟩ | ⟨hc2, h⟩
  ·
   obtain rfl := hbb2.trans hc2
   refine cw_true Z (cw_seq (cw_region (lw_op Z Z Z (ow_assign Z Z (lw_nil (ew_then (cw_ret (ew_thenR ?_))))))))
   obtain rfl := Option.some.inj h
   exact ew_ret (res1 Z (.tmp Z)) ⟨_, Z, ((vbool _)), hC1.bx⟩
  ·
   obtain rfl := hbb2.trans hc2
   refine cw_false Z (cw_skip (ew_then (cw_seq (cw_seq (cw_region (lw_op Z Z Z (ow_fieldAddr Z Z Tryd.underlying45 Z (Tryd.sizeOf43 _) (lw_op Z Z Z (ow_load (R := (RSlice (RSlice RRule))) Z Z (hp1.fld fld_Ruleset_Chains) (Tryd.sizeOf43 _) (Tryd.isAgg43 _) fun v3 hv3 => lw_op Z Z Z (ow_len Z Z hv3 Tryd.underlying43 Z (lw_op Z Z Z (ow_move Z Z (lw_nil (ew_then ?_))))))))))))))
   replace h := bind_some h
   obtain ⟨lr1, hlr1, h⟩ := h
   refine cw_for hlr1 (fun s a w' => ∃ (M' : Nat → Prop), Fits 54 [(1, (.pointer (some p1))), (20, v3), (21, (.int .i64 (a_s.Chains.length : Int))), (22, (.int .i64 s))] a ∧ Le w1 M w' M' ∧ Cx No w M w' M') ?_ ?_ ?_
   ·
    intro a ha
    exact ⟨M, ha.sub ⟨Z, Z, Z, Z, trivial⟩, Le.refl _ _, hC1⟩
   ·
    rintro k1 a w2 sr1 ⟨M1, hF1, hl2, hC2⟩ hb2 hR1
    refine cw_at (E := [(1, (.pointer (some p1))), (20, v3), (21, (.int .i64 (a_s.Chains.length : Int))), (22, (.int .i64 k1))]) hF1 (cw_seq (cw_region (lw_op Z Z Z (ow_lss Z Z Z fun bb3 hbb3 => lw_nil (ew_then (cw_seq ?_))))))
    replace hb2 := cond_some hb2
    rcases hb2 with ⟨hc3, hb2⟩ | ⟨hc3, hb2⟩
    ·
     obtain rfl := hbb3.trans hc3
     refine cw_true Z (cw_skip (ew_then (cw_seq (cw_block (cw_seq (cw_region ?_))))))
     replace hb2 := bind_some hb2
     obtain ⟨x1, hx1, hb2⟩ := hb2
     refine lw_op Z Z Z (ow_indexSlice (R := (RSlice RRule)) Z Z Z (VRep.mono hl2 hv3) Tryd.underlying43 (Tryd.sizeOf36 _) hx1 fun p2 hp2 => lw_op Z Z Z (ow_load (R := (RSlice RRule)) Z Z hp2 (Tryd.sizeOf36 _) (Tryd.isAgg36 _) fun v5 hv5 => lw_op Z Z Z (ow_assign Z Z (lw_nil (ew_then (cw_seq (cw_region (lw_op Z Z Z (ow_move Z Z ?_)))))))))
     replace hb2 := bind_some hb2
     obtain ⟨x2, hx2, hb2⟩ := hb2
     refine lw_op Z Z Z (ow_call Z Z Tryd.call66 (w_impl_RulesValid (hG.mono (hl1.trans hl2)) hC2.old hv5 hx2) fun v6 w3 hv6 => ?_)
     obtain ⟨hv6, hb3⟩ := hv6
     have hl3 := Le.no M1 hb3
     have hC3 := hC2.no hb3
     obtain rfl := vbool_eq hv6
     refine lw_op Z Z Z (ow_not Z Z (lw_nil (ew_then ?_)))
     replace hb2 := cond_some hb2
     rcases hb2 with ⟨hc4, hb2⟩ | ⟨hc4, hb2⟩
     ·
      subst hc4
      exact cw_false Z (cw_skip (ew_blockN (ew_then (cw_region (lw_op Z Z Z (ow_add Z Z Z (lw_op Z Z Z (ow_move Z Z (lw_nil (ew_nxt (W (k1 + 1)) hb2 fun a ha => ⟨M1, (ha.sub ⟨Z, Z, Z, Z, trivial⟩), (hl2.trans hl3), hC3⟩))))))))))
     ·
      subst hc4
      refine cw_true Z (cw_seq (cw_region (lw_op Z Z Z (ow_assign Z Z (lw_nil (ew_then (cw_ret (ew_blockR (ew_thenR (ew_thenR (ew_blockR (ew_brkR (ew_thenR ?_)))))))))))))
      have e1 := hR1 _ (Option.some.inj hb2).symm
      subst e1
      obtain rfl := Option.some.inj h
      exact ew_ret (res1 Z (.tmp Z)) ⟨_, Z, ((vbool _)), hC3.bx⟩
    ·
     obtain rfl := hbb3.trans hc3
     exact cw_false Z (cw_exit (ew_thenX (ew_thenX (ew_blockX (ew_brk k1 hb2 fun a ha => ⟨M1, (ha.sub ⟨Z, Z, Z, Z, trivial⟩), hl2, hC2⟩)))))
   ·
    rintro k2 a w4 hlr2 ⟨M2, hF2, hl4, hC4⟩
    subst hlr2
    refine ew_at (E := [(1, (.pointer (some p1))), (20, v3), (21, (.int .i64 (a_s.Chains.length : Int))), (22, (.int .i64 k2))]) hF2 (ew_then (cw_seq (cw_seq (cw_region (lw_op Z Z Z (ow_fieldAddr Z Z Tryd.underlying45 Z (Tryd.sizeOf43 _) (lw_op Z Z Z (ow_load (R := (RSlice (RSlice RRule))) Z Z (ARep.mono hl4 (hp1.fld fld_Ruleset_Chains)) (Tryd.sizeOf43 _) (Tryd.isAgg43 _) fun v8 hv8 => lw_op Z Z Z (ow_len Z Z hv8 Tryd.underlying43 Z (lw_op Z Z Z (ow_move Z Z (lw_nil (ew_then ?_)))))))))))))
    replace h := bind_some h
    obtain ⟨lr2, hlr3, h⟩ := h
    refine cw_for hlr3 (fun s a w' => ∃ (M' : Nat → Prop), Fits 54 [(1, (.pointer (some p1))), (31, v8), (32, (.int .i64 (a_s.Chains.length : Int))), (33, (.int .i64 s))] a ∧ Le w4 M2 w' M' ∧ Cx No w M w' M') ?_ ?_ ?_
    ·
     intro a ha
     exact ⟨M2, ha.sub ⟨Z, Z, Z, Z, trivial⟩, Le.refl _ _, hC4⟩
    ·
     rintro k3 a w5 sr2 ⟨M3, hF3, hl5, hC5⟩ hb4 hR2
     refine cw_at (E := [(1, (.pointer (some p1))), (31, v8), (32, (.int .i64 (a_s.Chains.length : Int))), (33, (.int .i64 k3))]) hF3 (cw_seq (cw_region (lw_op Z Z Z (ow_lss Z Z Z fun bb4 hbb4 => lw_nil (ew_then (cw_seq ?_))))))
     replace hb4 := cond_some hb4
     rcases hb4 with ⟨hc5, hb4⟩ | ⟨hc5, hb4⟩
     ·
      obtain rfl := hbb4.trans hc5
      refine cw_true Z (cw_skip (ew_then (cw_seq (cw_block (cw_seq (cw_region ?_))))))
      replace hb4 := bind_some hb4
      obtain ⟨x3, hx3, hb4⟩ := hb4
      refine lw_op Z Z Z (ow_indexSlice (R := (RSlice RRule)) Z Z Z (VRep.mono hl5 hv8) Tryd.underlying43 (Tryd.sizeOf36 _) hx3 fun p3 hp3 => lw_op Z Z Z (ow_load (R := (RSlice RRule)) Z Z hp3 (Tryd.sizeOf36 _) (Tryd.isAgg36 _) fun v10 hv10 => lw_op Z Z Z (ow_assign Z Z (lw_nil (ew_then (cw_seq (cw_region (lw_op Z Z Z (ow_move Z Z ?_)))))))))
      replace hb4 := bind_some hb4
      obtain ⟨x4, hx4, hb4⟩ := hb4
      have lz1 := ((hl1.trans hl4).trans hl5)
      refine lw_op Z Z Z (ow_call Z Z Tryd.call67 (w_impl_callsIn (hG.mono lz1) hC5.old hv10 hx4) fun v11 w6 hv11 => ?_)
      obtain ⟨hv11, hb5⟩ := hv11
      have hl6 := Le.no M3 hb5
      have hC6 := hC5.no hb5
      refine lw_op Z Z Z (ow_len Z Z hv11 Tryd.underlying52 Z (lw_op Z Z Z (ow_move Z Z (lw_nil (ew_then ?_)))))
      replace hb4 := bind_some hb4
      obtain ⟨lr3, hlr4, hb4⟩ := hb4
      refine cw_for hlr4 (fun s a w' => ∃ (M' : Nat → Prop), Fits 54 [(1, (.pointer (some p1))), (31, v8), (32, (.int .i64 (a_s.Chains.length : Int))), (33, (.int .i64 k3)), (38, v11), (39, (.int .i64 (x4.length : Int))), (40, (.int .i64 s))] a ∧ Le w6 M3 w' M' ∧ Cx No w M w' M') ?_ ?_ ?_
      ·
       intro a ha
       exact ⟨M3, ha.sub ⟨Z, Z, Z, Z, Z, Z, Z, trivial⟩, Le.refl _ _, hC6⟩
      ·
       rintro k4 a w7 sr3 ⟨M4, hF4, hl7, hC7⟩ hb6 hR3
       refine cw_at (E := [(1, (.pointer (some p1))), (31, v8), (32, (.int .i64 (a_s.Chains.length : Int))), (33, (.int .i64 k3)), (38, v11), (39, (.int .i64 (x4.length : Int))), (40, (.int .i64 k4))]) hF4 (cw_seq (cw_region (lw_op Z Z Z (ow_lss Z Z Z fun bb5 hbb5 => lw_nil (ew_then (cw_seq ?_))))))
       replace hb6 := cond_some hb6
       rcases hb6 with ⟨hc6, hb6⟩ | ⟨hc6, hb6⟩
       ·
        obtain rfl := hbb5.trans hc6
        refine cw_true Z (cw_skip (ew_then (cw_seq (cw_block (cw_seq (cw_region ?_))))))
        replace hb6 := bind_some hb6
        obtain ⟨x5, hx5, hb6⟩ := hb6
        refine lw_op Z Z Z (ow_indexSlice (R := RInt) Z Z Z (VRep.mono hl7 hv11) Tryd.underlying52 (Tryd.sizeOf3 _) hx5 fun p4 hp4 => lw_op Z Z Z (ow_load (R := RInt) Z Z hp4 (Tryd.sizeOf3 _) (Tryd.isAgg3 _) fun v13 hv13 => ?_))
        obtain rfl := vint_eq hv13
        refine lw_op Z Z Z (ow_assign Z Z (lw_nil (ew_then (cw_seq (cw_region (lw_op Z Z Z (ow_move Z Z (lw_op Z Z Z (ow_fieldAddr Z Z Tryd.underlying45 Z (Tryd.sizeOf43 _) ?_)))))))))
        have lz2 := (((hl4.trans hl5).trans hl6).trans hl7)
        refine lw_op Z Z Z (ow_load (R := (RSlice (RSlice RRule))) Z Z (ARep.mono lz2 (hp1.fld fld_Ruleset_Chains)) (Tryd.sizeOf43 _) (Tryd.isAgg43 _) fun v14 hv14 => lw_op Z Z Z (ow_len Z Z hv14 Tryd.underlying43 Z (lw_op Z Z Z (ow_geq Z Z Z fun bb6 hbb6 => lw_nil (ew_then ?_)))))
        replace hb6 := cond_some hb6
        rcases hb6 with ⟨hc7, hb6⟩ | ⟨hc7, hb6⟩
        ·
         obtain rfl := hbb6.trans hc7
         refine cw_true Z (cw_seq (cw_region (lw_op Z Z Z (ow_assign Z Z (lw_nil (ew_then (cw_ret (ew_blockR (ew_thenR (ew_thenR (ew_blockR (ew_brkR (ew_blockR (ew_thenR (ew_thenR (ew_blockR (ew_brkR (ew_thenR ?_))))))))))))))))))
         have e2 := hR3 _ (Option.some.inj hb6).symm
         subst e2
         have e3 := hR2 _ (Option.some.inj hb4).symm
         subst e3
         obtain rfl := Option.some.inj h
         exact ew_ret (res1 Z (.tmp Z)) ⟨_, Z, ((vbool _)), hC7.bx⟩
        ·
         obtain rfl := hbb6.trans hc7
         exact cw_false Z (cw_skip (ew_blockN (ew_then (cw_region (lw_op Z Z Z (ow_add Z Z Z (lw_op Z Z Z (ow_move Z Z (lw_nil (ew_nxt (W (k4 + 1)) hb6 fun a ha => ⟨M4, (ha.sub ⟨Z, Z, Z, Z, Z, Z, Z, trivial⟩), hl7, hC7⟩))))))))))
       ·
        obtain rfl := hbb5.trans hc6
        exact cw_false Z (cw_exit (ew_thenX (ew_thenX (ew_blockX (ew_brk k4 hb6 fun a ha => ⟨M4, (ha.sub ⟨Z, Z, Z, Z, Z, Z, Z, trivial⟩), hl7, hC7⟩)))))
      ·
       rintro k5 a w8 hlr5 ⟨M5, hF5, hl8, hC8⟩
       subst hlr5
       refine ew_at (E := [(1, (.pointer (some p1))), (31, v8), (32, (.int .i64 (a_s.Chains.length : Int))), (33, (.int .i64 k3)), (38, v11), (39, (.int .i64 (x4.length : Int))), (40, (.int .i64 k5))]) hF5 (ew_blockN (ew_then (cw_region (lw_op Z Z Z (ow_add Z Z Z (lw_op Z Z Z (ow_move Z Z (lw_nil ?_))))))))
       have lz3 := ((hl5.trans hl6).trans hl8)
       exact ew_nxt (W (k3 + 1)) hb4 fun a ha => ⟨M5, (ha.sub ⟨Z, Z, Z, Z, trivial⟩), lz3, hC8⟩
     ·
      obtain rfl := hbb4.trans hc5
      exact cw_false Z (cw_exit (ew_thenX (ew_thenX (ew_blockX (ew_brk k3 hb4 fun a ha => ⟨M3, (ha.sub ⟨Z, Z, Z, Z, trivial⟩), hl5, hC5⟩)))))
    ·
     rintro k6 a w9 hlr6 ⟨M6, hF6, hl9, hC9⟩
     subst hlr6
     refine ew_at (E := [(1, (.pointer (some p1))), (31, v8), (32, (.int .i64 (a_s.Chains.length : Int))), (33, (.int .i64 k6))]) hF6 (ew_then (cw_seq (cw_region (lw_op Z Z Z (ow_fieldAddr Z Z Tryd.underlying45 Z (Tryd.sizeOf43 _) (lw_op Z Z Z (ow_load (R := (RSlice (RSlice RRule))) Z Z (ARep.mono (hl4.trans hl9) (hp1.fld fld_Ruleset_Chains)) (Tryd.sizeOf43 _) (Tryd.isAgg43 _) fun v17 hv17 => ?_)))))))
     replace h := bind_some h
     obtain ⟨x6, hx6, h⟩ := h
     have lz4 := ((hl1.trans hl4).trans hl9)
     refine lw_op Z Z Z (ow_call Z Z Tryd.call68 (w_impl_acyclic (hG.mono lz4) hC9.old hv17 hx6) fun v18 w10 hv18 => ?_)
     obtain ⟨hv18, hb7⟩ := hv18
     have hC10 := hC9.no hb7
     obtain rfl := vbool_eq hv18
     refine lw_op Z Z Z (ow_assign Z Z (lw_nil (ew_then (cw_ret ?_))))
     obtain rfl := Option.some.inj h
     exact ew_ret (res1 Z (.tmp Z)) ⟨_, Z, ((vbool _)), hC10.bx⟩

theorem w_impl_depthOf (n_ : Nat) : ∀ {w : World} {M : Nat → Prop} (hG : ARep (RArr 4 RShape) w M shapes ⟨0, 0, none⟩) (hO : ∀ b, M b → b < w.heap.size) {v0p : Value} {a_chains : List (List Rule)} (h0 : VRep (RSlice (RSlice RRule)) w M a_chains v0p) {a_chain : Int} {r : Int} (h : F.impl_depthOf n_ a_chains a_chain = some r),
  Calls Tryd.prog 72 [v0p, (.int .i64 a_chain)].toArray w fun e w' => ∃ v, e = .returned v ∧ VRep RInt w' M r v ∧ BX No w w' := by
 induction n_ with
 | zero =>
  intro w M hG hO v0p a_chains h0 a_chain r h
  exact (Option.some_ne_none _ (show (none : Option Int) = some r from h).symm).elim
 | succ n_ ih =>
 intro w M hG hO v0p a_chains h0 a_chain r h
 have hC : Cx No w M w M := Cx.start hO (fun _ e => e.elim)
 refine walk (N := 26) Tryd.func72 Z Tryd.ntmps72 Z (cw_seq (cw_region (lw_op Z Z Z (ow_assign Z Z (lw_nil (ew_then (cw_seq (cw_region (lw_op Z Z Z (ow_assign Z Z (lw_nil (ew_then (cw_seq (cw_seq (cw_region (lw_op Z Z Z (ow_move Z Z (lw_op Z Z Z (ow_move Z Z ?_)))))))))))))))))))
 replace h := bind_some h
 obtain ⟨x1, hx1, h⟩ := h
 refine lw_op Z Z Z (ow_indexSlice (R := (RSlice RRule)) Z Z Z h0 Tryd.underlying43 (Tryd.sizeOf36 _) hx1 fun p1 hp1 => lw_op Z Z Z (ow_load (R := (RSlice RRule)) Z Z hp1 (Tryd.sizeOf36 _) (Tryd.isAgg36 _) fun v1 hv1 => ?_))
 replace h := bind_some h
 obtain ⟨x2, hx2, h⟩ := h
 refine lw_op Z Z Z (ow_call Z Z Tryd.call67 (w_impl_callsIn hG hC.old hv1 hx2) fun v2 w1 hv2 => ?_)
 obtain ⟨hv2, hb1⟩ := hv2
 have hl1 := Le.no M hb1
 have hC1 := hC.no hb1
 refine lw_op Z Z Z (ow_len Z Z hv2 Tryd.underlying52 Z (lw_op Z Z Z (ow_move Z Z (lw_nil (ew_then ?_)))))
 replace h := bind_some h
 obtain ⟨lr1, hlr1, h⟩ := h
 refine cw_for hlr1 (fun s a w' => ∃ (M' : Nat → Prop), Fits 26 [(0, v0p), (5, (.int .i64 s.1)), (12, v2), (13, (.int .i64 (x2.length : Int))), (14, (.int .i64 s.2))] a ∧ Le w1 M w' M' ∧ Cx No w M w' M') ?_ ?_ ?_
 ·
  intro a ha
  exact ⟨M, ha.sub ⟨Z, Z, Z, Z, Z, trivial⟩, Le.refl _ _, hC1⟩
 ·
  rintro ⟨k1, k2⟩ a w2 sr1 ⟨M1, hF1, hl2, hC2⟩ hb2 hR1
  refine cw_at (E := [(0, v0p), (5, (.int .i64 k1)), (12, v2), (13, (.int .i64 (x2.length : Int))), (14, (.int .i64 k2))]) hF1 (cw_seq (cw_region (lw_op Z Z Z (ow_lss Z Z Z fun bb1 hbb1 => lw_nil (ew_then (cw_seq ?_))))))
  replace hb2 := cond_some hb2
  rcases hb2 with ⟨hc1, hb2⟩ | ⟨hc1, hb2⟩
  ·
   obtain rfl := hbb1.trans hc1
   refine cw_true Z (cw_skip (ew_then (cw_seq (cw_block (cw_seq (cw_region ?_))))))
   replace hb2 := bind_some hb2
   obtain ⟨x3, hx3, hb2⟩ := hb2
   refine lw_op Z Z Z (ow_indexSlice (R := RInt) Z Z Z (VRep.mono hl2 hv2) Tryd.underlying52 (Tryd.sizeOf3 _) hx3 fun p2 hp2 => lw_op Z Z Z (ow_load (R := RInt) Z Z hp2 (Tryd.sizeOf3 _) (Tryd.isAgg3 _) fun v5 hv5 => ?_))
   obtain rfl := vint_eq hv5
   refine lw_op Z Z Z (ow_assign Z Z (lw_nil (ew_then (cw_region (lw_op Z Z Z (ow_move Z Z (lw_op Z Z Z (ow_move Z Z (lw_op Z Z Z (ow_move Z Z ?_))))))))))
   replace hb2 := bind_some hb2
   obtain ⟨x4, hx4, hb2⟩ := hb2
   refine lw_op Z Z Z (ow_call Z Z Tryd.call72 (ih (hG.mono (hl1.trans hl2)) hC2.old (VRep.mono (hl1.trans hl2) h0) hx4) fun v6 w3 hv6 => ?_)
   obtain ⟨hv6, hb3⟩ := hv6
   have hl3 := Le.no M1 hb3
   have hC3 := hC2.no hb3
   obtain rfl := vint_eq hv6
   exact lw_op Z Z Z (ow_add Z Z Z (lw_op Z Z Z (ow_max Z Z Z (lw_op Z Z Z (ow_assign Z Z (lw_nil (ew_blockN (ew_then (cw_region (lw_op Z Z Z (ow_add Z Z Z (lw_op Z Z Z (ow_move Z Z (lw_nil (ew_nxt ((imax k1 (W (1 + x4))), (W (k2 + 1))) hb2 fun a ha => ⟨M1, (ha.sub ⟨Z, Z, Z, Z, Z, trivial⟩), (hl2.trans hl3), hC3⟩)))))))))))))))
  ·
   obtain rfl := hbb1.trans hc1
   exact cw_false Z (cw_exit (ew_thenX (ew_thenX (ew_blockX (ew_brk (k1, k2) hb2 fun a ha => ⟨M1, (ha.sub ⟨Z, Z, Z, Z, Z, trivial⟩), hl2, hC2⟩)))))
 ·
  rintro ⟨k3, k4⟩ a w4 hlr2 ⟨M2, hF2, hl4, hC4⟩
  subst hlr2
  refine ew_at (E := [(0, v0p), (5, (.int .i64 k3)), (12, v2), (13, (.int .i64 (x2.length : Int))), (14, (.int .i64 k4))]) hF2 (ew_then (cw_seq (cw_region (lw_op Z Z Z (ow_move Z Z (lw_op Z Z Z (ow_assign Z Z (lw_nil (ew_then (cw_ret ?_))))))))))
  obtain rfl := Option.some.inj h
  exact ew_ret (res1 Z (.tmp Z)) ⟨_, Z, ((vint _)), hC4.bx⟩

theorem w_impl_CallDepth {w : World} {M : Nat → Prop} (hG : ARep (RArr 4 RShape) w M shapes ⟨0, 0, none⟩) (hO : ∀ b, M b → b < w.heap.size) {v0p : Value} {a_s : Ruleset} (h0 : VRep RRuleset w M a_s v0p) {a_chain : Int} {r : Int} (h : F.impl_CallDepth a_s a_chain = some r) :
  Calls Tryd.prog 28 [v0p, (.int .i64 a_chain)].toArray w fun e w' => ∃ v, e = .returned v ∧ VRep RInt w' M r v ∧ BX No w w' := by
 have hC : Cx No w M w M := Cx.start hO (fun _ e => e.elim)
 refine walk (N := 23) Tryd.func28 Z Tryd.ntmps28 Z (cw_seq (cw_region (lw_op Z Z Z (ow_box (R := RRuleset) Z Z h0 hC fun p1 w1 hp1 hb1 hl1 hC1 => lw_op Z Z Z (ow_assign Z Z (lw_nil (ew_then (cw_seq (cw_seq (cw_region (lw_op Z Z Z (ow_load (R := RRuleset) Z Z hp1 (Tryd.sizeOf45 _) (Tryd.isAgg45 _) fun v1 hv1 => ?_))))))))))))
 replace h := bind_some h
 obtain ⟨x1, hx1, h⟩ := h
 refine lw_op Z Z Z (ow_call Z Z Tryd.call25 (w_impl_RulesetValid (hG.mono hl1) hC1.old hv1 hx1) fun v2 w2 hv2 => ?_)
 obtain ⟨hv2, hb2⟩ := hv2
 have hl2 := Le.no M hb2
 have hC2 := hC1.no hb2
 obtain rfl := vbool_eq hv2
 refine lw_op Z Z Z (ow_not Z Z (lw_op Z Z Z (ow_move Z Z ?_)))
 replace h := cond_some h
 rcases h with ⟨hc1, h⟩ | ⟨hc1, h⟩
 ·
  subst hc1
  refine lw_on Z Z Z Z Z Z (ow_move Z Z (lw_on Z Z Z Z Z Z (ow_lss Z Z Z fun bb1 hbb1 => lw_op Z Z Z (ow_pickF Z Z Z (lw_op Z Z Z (ow_move Z Z ?_))))))
  replace h := cond_some h
  rcases h with ⟨hc2, h⟩ | ⟨hc2, h⟩
  ·
   obtain rfl := hbb1.trans hc2
   refine lw_off Z Z Z Z Z Z (lw_off Z Z Z Z Z Z (lw_off Z Z Z Z Z Z (lw_off Z Z Z Z Z Z (lw_off Z Z Z Z Z Z (lw_op Z Z Z (ow_pickT Z Z Z (lw_nil (ew_then (cw_true Z (cw_seq (cw_region (lw_op Z Z Z (ow_assign Z Z (lw_nil (ew_then (cw_ret (ew_thenR ?_)))))))))))))))))
   obtain rfl := Option.some.inj h
   exact ew_ret (res1 Z (.tmp Z)) ⟨_, Z, ((vint _)), hC2.bx⟩
  ·
   obtain rfl := hbb1.trans hc2
   refine lw_on Z Z Z Z Z Z (ow_move Z Z (lw_on Z Z Z Z Z Z (ow_fieldAddr Z Z Tryd.underlying45 Z (Tryd.sizeOf43 _) (lw_on Z Z Z Z Z Z (ow_load (R := (RSlice (RSlice RRule))) Z Z (ARep.mono hl2 (hp1.fld fld_Ruleset_Chains)) (Tryd.sizeOf43 _) (Tryd.isAgg43 _) fun v3 hv3 => lw_on Z Z Z Z Z Z (ow_len Z Z hv3 Tryd.underlying43 Z (lw_on Z Z Z Z Z Z (ow_geq Z Z Z fun bb2 hbb2 => lw_op Z Z Z (ow_pickF Z Z Z (lw_nil (ew_then ?_)))))))))))
   replace h := cond_some h
   rcases h with ⟨hc3, h⟩ | ⟨hc3, h⟩
   ·
    obtain rfl := hbb2.trans hc3
    refine cw_true Z (cw_seq (cw_region (lw_op Z Z Z (ow_assign Z Z (lw_nil (ew_then (cw_ret (ew_thenR ?_))))))))
    obtain rfl := Option.some.inj h
    exact ew_ret (res1 Z (.tmp Z)) ⟨_, Z, ((vint _)), hC2.bx⟩
   ·
    obtain rfl := hbb2.trans hc3
    refine cw_false Z (cw_skip (ew_then (cw_seq (cw_region (lw_op Z Z Z (ow_fieldAddr Z Z Tryd.underlying45 Z (Tryd.sizeOf43 _) (lw_op Z Z Z (ow_load (R := (RSlice (RSlice RRule))) Z Z (ARep.mono hl2 (hp1.fld fld_Ruleset_Chains)) (Tryd.sizeOf43 _) (Tryd.isAgg43 _) fun v4 hv4 => lw_op Z Z Z (ow_move Z Z ?_)))))))))
    replace h := bind_some h
    obtain ⟨x2, hx2, h⟩ := h
    refine lw_op Z Z Z (ow_call Z Z Tryd.call72 (w_impl_depthOf 10 (hG.mono (hl1.trans hl2)) hC2.old hv4 hx2) fun v5 w3 hv5 => ?_)
    obtain ⟨hv5, hb3⟩ := hv5
    have hC3 := hC2.no hb3
    obtain rfl := vint_eq hv5
    refine lw_op Z Z Z (ow_assign Z Z (lw_nil (ew_then (cw_ret ?_))))
    obtain rfl := Option.some.inj h
    exact ew_ret (res1 Z (.tmp Z)) ⟨_, Z, ((vint _)), hC3.bx⟩
 ·
  subst hc1
  refine lw_off Z Z Z Z Z Z (lw_off Z Z Z Z Z Z (lw_op Z Z Z (ow_pickT Z Z Z (lw_op Z Z Z (ow_move Z Z (lw_off Z Z Z Z Z Z (lw_off Z Z Z Z Z Z (lw_off Z Z Z Z Z Z (lw_off Z Z Z Z Z Z (lw_off Z Z Z Z Z Z (lw_op Z Z Z (ow_pickT Z Z Z (lw_nil (ew_then (cw_true Z (cw_seq (cw_region (lw_op Z Z Z (ow_assign Z Z (lw_nil (ew_then (cw_ret (ew_thenR ?_)))))))))))))))))))))))
  obtain rfl := Option.some.inj h
  exact ew_ret (res1 Z (.tmp Z)) ⟨_, Z, ((vint _)), hC2.bx⟩

theorem w_spec_l1In {w : World} {M : Nat → Prop} (_hG : ARep (RArr 4 RShape) w M shapes ⟨0, 0, none⟩) (hO : ∀ b, M b → b < w.heap.size) {a_n : Int} {a_lo : Int} {a_hi : Int} {r : Bool} (h : F.spec_l1In a_n a_lo a_hi = some r) :
  Calls Tryd.prog 70 [(.int .i64 a_n), (.int .i64 a_lo), (.int .i64 a_hi)].toArray w fun e w' => ∃ v, e = .returned v ∧ VRep RBool w' M r v ∧ BX No w w' := by
 have hC : Cx No w M w M := Cx.start hO (fun _ e => e.elim)
 clear _hG
 refine walk (N := 15) Tryd.func70 Z Tryd.ntmps70 Z (cw_seq (cw_region (lw_op Z Z Z (ow_assign Z Z (lw_nil (ew_then (cw_seq (cw_region (lw_op Z Z Z (ow_move Z Z (lw_op Z Z Z (ow_move Z Z (lw_op Z Z Z (ow_geq Z Z Z fun bb1 hbb1 => lw_op Z Z Z (ow_move Z Z ?_)))))))))))))))
 replace h := cond_some h
 rcases h with ⟨hc1, h⟩ | ⟨hc1, h⟩
 ·
  obtain rfl := hbb1.trans hc1
  refine lw_on Z Z Z Z Z Z (ow_move Z Z (lw_on Z Z Z Z Z Z (ow_move Z Z (lw_on Z Z Z Z Z Z (ow_leq Z Z Z fun bb2 hbb2 => lw_op Z Z Z (ow_pickT Z Z Z (lw_op Z Z Z (ow_assign Z Z (lw_nil (ew_then (cw_ret ?_)))))))))))
  obtain rfl := Option.some.inj h
  exact ew_ret (res1 Z (.tmp Z)) ⟨_, Z, ((vbool_of hbb2)), hC.bx⟩
 ·
  obtain rfl := hbb1.trans hc1
  refine lw_off Z Z Z Z Z Z (lw_off Z Z Z Z Z Z (lw_off Z Z Z Z Z Z (lw_op Z Z Z (ow_pickF Z Z Z (lw_op Z Z Z (ow_assign Z Z (lw_nil (ew_then (cw_ret ?_)))))))))
  obtain rfl := Option.some.inj h
  exact ew_ret (res1 Z (.tmp Z)) ⟨_, Z, ((vbool _)), hC.bx⟩

theorem w_spec_TestValid {w : World} {M : Nat → Prop} (hG : ARep (RArr 4 RShape) w M shapes ⟨0, 0, none⟩) (hO : ∀ b, M b → b < w.heap.size) {v0p : Value} {a_t : Test} (h0 : VRep RTest w M a_t v0p) {r : Bool} (h : F.spec_TestValid a_t = some r) :
  Calls Tryd.prog 91 [v0p].toArray w fun e w' => ∃ v, e = .returned v ∧ VRep RBool w' M r v ∧ BX No w w' := by
 have hC : Cx No w M w M := Cx.start hO (fun _ e => e.elim)
 refine walk (N := 21) Tryd.func91 Z Tryd.ntmps91 Z (cw_seq (cw_region (lw_op Z Z Z (ow_box (R := RTest) Z Z h0 hC fun p1 w1 hp1 hb1 hl1 hC1 => lw_op Z Z Z (ow_assign Z Z (lw_nil (ew_then (cw_seq ?_))))))))
 replace h := bind_some h
 obtain ⟨x1, hx1, h⟩ := h
 replace h := cond_some h
 rcases h with ⟨hc1, h⟩ | ⟨hc1, h⟩
 ·
  subst hc1
  replace h := bind_some h
  obtain ⟨x2, hx2, h⟩ := h
  replace h := cond_some h
  rcases h with ⟨hc2, h⟩ | ⟨hc2, h⟩
  ·
   subst hc2
   replace h := bind_some h
   obtain ⟨x3, hx3, h⟩ := h
   refine cw_sub (E' := [(1, (.pointer (some p1))), (2, (.bool false))]) ⟨Z, Z, trivial⟩ (cw_drawQ 16 [PA RInt M a_t.Field, PEq (.int .i64 a_t.Field), PEq (.bool true), PEq (.bool true), PA RInt M a_t.Lo, PEq (.int .i64 a_t.Lo), PA RInt M a_t.Hi, PEq (.int .i64 a_t.Hi), PEq (.bool true), PEq (.bool true), PEq (.bool true), PA RInt M a_t.Hi, PEq (.int .i64 a_t.Hi), PA RInt M a_t.Field, PEq (.int .i64 a_t.Field), PEq (.int .i64 x3)] (by kernel_rfl) Z (by kernel_rfl) ⟨PA.mono _ _ _, PEq.mono _, PEq.mono _, PEq.mono _, PA.mono _ _ _, PEq.mono _, PA.mono _ _ _, PEq.mono _, PEq.mono _, PEq.mono _, PEq.mono _, PA.mono _ _ _, PEq.mono _, PA.mono _ _ _, PEq.mono _, PEq.mono _, trivial⟩ ⟨?_, ?_, ?_, ?_, ?_, ?_, ?_, ?_, ?_, ?_, ?_, ?_, ?_, ?_, ?_, ?_, trivial⟩ ?_)
   ·
    intro w5 D hS1 hd1
    have hl5 := Le.no M hS1
    exact dg_sub (E' := [(1, (.pointer (some p1)))]) ⟨Z, trivial⟩ (dg_plain Z (ow_fieldAddr Z Z Tryd.underlying31 Z (Tryd.sizeOf3 _) ⟨BX.refl _ _, ⟨_, Z, (ARep.mono hl5 (hp1.fld fld_Test_Field))⟩⟩))
   ·
    intro w6 D hS2 hd2
    have d1 : PA RInt M a_t.Field (D 0) w6 := dpA hd2 0 Z
    obtain ⟨p2, e1, ha1⟩ := d1
    refine dg_sub (E' := [(3, (.pointer (some p2)))]) ⟨(congrArg some e1), trivial⟩ (dg_plain Z (ow_load (R := RInt) Z Z ha1 (Tryd.sizeOf3 _) (Tryd.isAgg3 _) fun v9 hv9 => ?_))
    obtain rfl := vint_eq hv9
    exact ⟨BX.refl _ _, Z⟩
   ·
    intro w7 D hS3 hd3
    have hl7 := Le.no M hS3
    have hC7 := hC1.no hS3
    refine dg_sub (E' := [(4, (.int .i64 a_t.Field))]) ⟨(dpE hd3 1 Z Z), trivial⟩ (dg_plain Z (ow_call Z Z Tryd.call70 (w_spec_l1In (hG.mono (hl1.trans hl7)) hC7.old hx1) fun v10 w8 hv10 => ?_))
    obtain ⟨hv10, hb5⟩ := hv10
    obtain rfl := vbool_eq hv10
    exact ⟨hb5, Z⟩
   ·
    intro w9 D hS4 hd4
    exact dg_sub (E' := [(5, (.bool true))]) ⟨(dpE hd4 2 Z Z), trivial⟩ (dg_plain Z (ow_move Z Z ⟨BX.refl _ _, Z⟩))
   ·
    intro w10 D hS5 hd5
    have hl10 := Le.no M hS5
    exact dg_sub (E' := [(6, (.bool true)), (1, (.pointer (some p1)))]) ⟨(dpE hd5 3 Z Z), Z, trivial⟩ (dg_on Z Z Z Z (ow_fieldAddr Z Z Tryd.underlying31 Z (Tryd.sizeOf3 _) ⟨BX.refl _ _, ⟨_, Z, (ARep.mono hl10 (hp1.fld fld_Test_Lo))⟩⟩))
   ·
    intro w11 D hS6 hd6
    have d6 : PA RInt M a_t.Lo (D 4) w11 := dpA hd6 4 Z
    obtain ⟨p3, e2, ha2⟩ := d6
    refine dg_sub (E' := [(7, (.pointer (some p3))), (6, (.bool true))]) ⟨(congrArg some e2), (dpE hd6 3 Z Z), trivial⟩ (dg_on Z Z Z Z (ow_load (R := RInt) Z Z ha2 (Tryd.sizeOf3 _) (Tryd.isAgg3 _) fun v11 hv11 => ?_))
    obtain rfl := vint_eq hv11
    exact ⟨BX.refl _ _, Z⟩
   ·
    intro w12 D hS7 hd7
    have hl12 := Le.no M hS7
    exact dg_sub (E' := [(6, (.bool true)), (1, (.pointer (some p1)))]) ⟨(dpE hd7 3 Z Z), Z, trivial⟩ (dg_on Z Z Z Z (ow_fieldAddr Z Z Tryd.underlying31 Z (Tryd.sizeOf3 _) ⟨BX.refl _ _, ⟨_, Z, (ARep.mono hl12 (hp1.fld fld_Test_Hi))⟩⟩))
   ·
    intro w13 D hS8 hd8
    have d9 : PA RInt M a_t.Hi (D 6) w13 := dpA hd8 6 Z
    obtain ⟨p4, e3, ha3⟩ := d9
    refine dg_sub (E' := [(9, (.pointer (some p4))), (6, (.bool true))]) ⟨(congrArg some e3), (dpE hd8 3 Z Z), trivial⟩ (dg_on Z Z Z Z (ow_load (R := RInt) Z Z ha3 (Tryd.sizeOf3 _) (Tryd.isAgg3 _) fun v12 hv12 => ?_))
    obtain rfl := vint_eq hv12
    exact ⟨BX.refl _ _, Z⟩
   ·
    intro w14 D hS9 hd9
    have hl14 := Le.no M hS9
    have hC14 := hC1.no hS9
    refine dg_sub (E' := [(8, (.int .i64 a_t.Lo)), (10, (.int .i64 a_t.Hi)), (6, (.bool true))]) ⟨(dpE hd9 5 Z Z), (dpE hd9 7 Z Z), (dpE hd9 3 Z Z), trivial⟩ (dg_on Z Z Z Z (ow_call Z Z Tryd.call70 (w_spec_l1In (hG.mono (hl1.trans hl14)) hC14.old hx2) fun v13 w15 hv13 => ?_))
    obtain ⟨hv13, hb6⟩ := hv13
    obtain rfl := vbool_eq hv13
    exact ⟨hb6, Z⟩
   ·
    intro w16 D hS10 hd10
    exact dg_sub (E' := [(6, (.bool true)), (11, (.bool true))]) ⟨(dpE hd10 3 Z Z), (dpE hd10 8 Z Z), trivial⟩ (dg_plain Z (ow_pickT Z Z Z ⟨BX.refl _ _, Z⟩))
   ·
    intro w17 D hS11 hd11
    exact dg_sub (E' := [(12, (.bool true))]) ⟨(dpE hd11 9 Z Z), trivial⟩ (dg_plain Z (ow_move Z Z ⟨BX.refl _ _, Z⟩))
   ·
    intro w18 D hS12 hd12
    have hl18 := Le.no M hS12
    exact dg_sub (E' := [(13, (.bool true)), (1, (.pointer (some p1)))]) ⟨(dpE hd12 10 Z Z), Z, trivial⟩ (dg_on Z Z Z Z (ow_fieldAddr Z Z Tryd.underlying31 Z (Tryd.sizeOf3 _) ⟨BX.refl _ _, ⟨_, Z, (ARep.mono hl18 (hp1.fld fld_Test_Hi))⟩⟩))
   ·
    intro w19 D hS13 hd13
    have d20 : PA RInt M a_t.Hi (D 11) w19 := dpA hd13 11 Z
    obtain ⟨p5, e4, ha4⟩ := d20
    refine dg_sub (E' := [(14, (.pointer (some p5))), (13, (.bool true))]) ⟨(congrArg some e4), (dpE hd13 10 Z Z), trivial⟩ (dg_on Z Z Z Z (ow_load (R := RInt) Z Z ha4 (Tryd.sizeOf3 _) (Tryd.isAgg3 _) fun v14 hv14 => ?_))
    obtain rfl := vint_eq hv14
    exact ⟨BX.refl _ _, Z⟩
   ·
    intro w20 D hS14 hd14
    have hl20 := Le.no M hS14
    exact dg_sub (E' := [(13, (.bool true)), (1, (.pointer (some p1)))]) ⟨(dpE hd14 10 Z Z), Z, trivial⟩ (dg_on Z Z Z Z (ow_fieldAddr Z Z Tryd.underlying31 Z (Tryd.sizeOf3 _) ⟨BX.refl _ _, ⟨_, Z, (ARep.mono hl20 (hp1.fld fld_Test_Field))⟩⟩))
   ·
    intro w21 D hS15 hd15
    have d23 : PA RInt M a_t.Field (D 13) w21 := dpA hd15 13 Z
    obtain ⟨p6, e5, ha5⟩ := d23
    refine dg_sub (E' := [(16, (.pointer (some p6))), (13, (.bool true))]) ⟨(congrArg some e5), (dpE hd15 10 Z Z), trivial⟩ (dg_on Z Z Z Z (ow_load (R := RInt) Z Z ha5 (Tryd.sizeOf3 _) (Tryd.isAgg3 _) fun v15 hv15 => ?_))
    obtain rfl := vint_eq hv15
    exact ⟨BX.refl _ _, Z⟩
   ·
    intro w22 D hS16 hd16
    have hl22 := Le.no M hS16
    have hC22 := hC1.no hS16
    refine dg_sub (E' := [(17, (.int .i64 a_t.Field)), (13, (.bool true))]) ⟨(dpE hd16 14 Z Z), (dpE hd16 10 Z Z), trivial⟩ (dg_on Z Z Z Z (ow_call Z Z Tryd.call53 (w_spec_FieldTop (hG.mono (hl1.trans hl22)) hC22.old hx3) fun v16 w23 hv16 => ?_))
    obtain ⟨hv16, hb7⟩ := hv16
    obtain rfl := vint_eq hv16
    exact ⟨hb7, Z⟩
   ·
    intro w24 D hS17 hd17
    have hC24 := hC1.no hS17
    refine lw_sub (E' := [(13, (.bool true)), (15, (.int .i64 a_t.Hi)), (18, (.int .i64 x3)), (1, (.pointer (some p1))), (2, (.bool false))]) ⟨(dpE hd17 10 Z Z), (dpE hd17 12 Z Z), (dpE hd17 15 Z Z), Z, Z, trivial⟩ (lw_on Z Z Z Z Z Z (ow_leq Z Z Z fun bb1 hbb1 => lw_op Z Z Z (ow_pickT Z Z Z (lw_op Z Z Z (ow_assign Z Z (lw_nil (ew_then (cw_ret ?_))))))))
    obtain rfl := Option.some.inj h
    exact ew_ret (res1 Z (.tmp Z)) ⟨_, Z, ((vbool_of hbb1)), hC24.bx⟩
  ·
   subst hc2
   refine cw_sub (E' := [(1, (.pointer (some p1))), (2, (.bool false))]) ⟨Z, Z, trivial⟩ (cw_drawQ 16 [PA RInt M a_t.Field, PEq (.int .i64 a_t.Field), PEq (.bool true), PEq (.bool true), PA RInt M a_t.Lo, PEq (.int .i64 a_t.Lo), PA RInt M a_t.Hi, PEq (.int .i64 a_t.Hi), PEq (.bool false), PEq (.bool false), PEq (.bool false), PEq undef, PEq undef, PEq undef, PEq undef, PEq undef] (by kernel_rfl) Z (by kernel_rfl) ⟨PA.mono _ _ _, PEq.mono _, PEq.mono _, PEq.mono _, PA.mono _ _ _, PEq.mono _, PA.mono _ _ _, PEq.mono _, PEq.mono _, PEq.mono _, PEq.mono _, PEq.mono _, PEq.mono _, PEq.mono _, PEq.mono _, PEq.mono _, trivial⟩ ⟨?_, ?_, ?_, ?_, ?_, ?_, ?_, ?_, ?_, ?_, ?_, ?_, ?_, ?_, ?_, ?_, trivial⟩ ?_)
   ·
    intro w25 D hS18 hd18
    have hl25 := Le.no M hS18
    exact dg_sub (E' := [(1, (.pointer (some p1)))]) ⟨Z, trivial⟩ (dg_plain Z (ow_fieldAddr Z Z Tryd.underlying31 Z (Tryd.sizeOf3 _) ⟨BX.refl _ _, ⟨_, Z, (ARep.mono hl25 (hp1.fld fld_Test_Field))⟩⟩))
   ·
    intro w26 D hS19 hd19
    have d44 : PA RInt M a_t.Field (D 0) w26 := dpA hd19 0 Z
    obtain ⟨p7, e6, ha6⟩ := d44
    refine dg_sub (E' := [(3, (.pointer (some p7)))]) ⟨(congrArg some e6), trivial⟩ (dg_plain Z (ow_load (R := RInt) Z Z ha6 (Tryd.sizeOf3 _) (Tryd.isAgg3 _) fun v17 hv17 => ?_))
    obtain rfl := vint_eq hv17
    exact ⟨BX.refl _ _, Z⟩
   ·
    intro w27 D hS20 hd20
    have hl27 := Le.no M hS20
    have hC27 := hC1.no hS20
    refine dg_sub (E' := [(4, (.int .i64 a_t.Field))]) ⟨(dpE hd20 1 Z Z), trivial⟩ (dg_plain Z (ow_call Z Z Tryd.call70 (w_spec_l1In (hG.mono (hl1.trans hl27)) hC27.old hx1) fun v18 w28 hv18 => ?_))
    obtain ⟨hv18, hb8⟩ := hv18
    obtain rfl := vbool_eq hv18
    exact ⟨hb8, Z⟩
   ·
    intro w29 D hS21 hd21
    exact dg_sub (E' := [(5, (.bool true))]) ⟨(dpE hd21 2 Z Z), trivial⟩ (dg_plain Z (ow_move Z Z ⟨BX.refl _ _, Z⟩))
   ·
    intro w30 D hS22 hd22
    have hl30 := Le.no M hS22
    exact dg_sub (E' := [(6, (.bool true)), (1, (.pointer (some p1)))]) ⟨(dpE hd22 3 Z Z), Z, trivial⟩ (dg_on Z Z Z Z (ow_fieldAddr Z Z Tryd.underlying31 Z (Tryd.sizeOf3 _) ⟨BX.refl _ _, ⟨_, Z, (ARep.mono hl30 (hp1.fld fld_Test_Lo))⟩⟩))
   ·
    intro w31 D hS23 hd23
    have d49 : PA RInt M a_t.Lo (D 4) w31 := dpA hd23 4 Z
    obtain ⟨p8, e7, ha7⟩ := d49
    refine dg_sub (E' := [(7, (.pointer (some p8))), (6, (.bool true))]) ⟨(congrArg some e7), (dpE hd23 3 Z Z), trivial⟩ (dg_on Z Z Z Z (ow_load (R := RInt) Z Z ha7 (Tryd.sizeOf3 _) (Tryd.isAgg3 _) fun v19 hv19 => ?_))
    obtain rfl := vint_eq hv19
    exact ⟨BX.refl _ _, Z⟩
   ·
    intro w32 D hS24 hd24
    have hl32 := Le.no M hS24
    exact dg_sub (E' := [(6, (.bool true)), (1, (.pointer (some p1)))]) ⟨(dpE hd24 3 Z Z), Z, trivial⟩ (dg_on Z Z Z Z (ow_fieldAddr Z Z Tryd.underlying31 Z (Tryd.sizeOf3 _) ⟨BX.refl _ _, ⟨_, Z, (ARep.mono hl32 (hp1.fld fld_Test_Hi))⟩⟩))
   ·
    intro w33 D hS25 hd25
    have d52 : PA RInt M a_t.Hi (D 6) w33 := dpA hd25 6 Z
    obtain ⟨p9, e8, ha8⟩ := d52
    refine dg_sub (E' := [(9, (.pointer (some p9))), (6, (.bool true))]) ⟨(congrArg some e8), (dpE hd25 3 Z Z), trivial⟩ (dg_on Z Z Z Z (ow_load (R := RInt) Z Z ha8 (Tryd.sizeOf3 _) (Tryd.isAgg3 _) fun v20 hv20 => ?_))
    obtain rfl := vint_eq hv20
    exact ⟨BX.refl _ _, Z⟩
   ·
    intro w34 D hS26 hd26
    have hl34 := Le.no M hS26
    have hC34 := hC1.no hS26
    refine dg_sub (E' := [(8, (.int .i64 a_t.Lo)), (10, (.int .i64 a_t.Hi)), (6, (.bool true))]) ⟨(dpE hd26 5 Z Z), (dpE hd26 7 Z Z), (dpE hd26 3 Z Z), trivial⟩ (dg_on Z Z Z Z (ow_call Z Z Tryd.call70 (w_spec_l1In (hG.mono (hl1.trans hl34)) hC34.old hx2) fun v21 w35 hv21 => ?_))
    obtain ⟨hv21, hb9⟩ := hv21
    obtain rfl := vbool_eq hv21
    exact ⟨hb9, Z⟩
   ·
    intro w36 D hS27 hd27
    exact dg_sub (E' := [(6, (.bool true)), (11, (.bool false))]) ⟨(dpE hd27 3 Z Z), (dpE hd27 8 Z Z), trivial⟩ (dg_plain Z (ow_pickT Z Z Z ⟨BX.refl _ _, Z⟩))
   ·
    intro w37 D hS28 hd28
    exact dg_sub (E' := [(12, (.bool false))]) ⟨(dpE hd28 9 Z Z), trivial⟩ (dg_plain Z (ow_move Z Z ⟨BX.refl _ _, Z⟩))
   ·
    intro w38 D hS29 hd29
    exact dg_sub (E' := [(13, (.bool false)), (1, (.pointer (some p1)))]) ⟨(dpE hd29 10 Z Z), Z, trivial⟩ (dg_off Z Z Z Z ⟨BX.refl _ _, Z⟩)
   ·
    intro w39 D hS30 hd30
    exact dg_sub (E' := [(14, undef), (13, (.bool false))]) ⟨(dpE hd30 11 Z Z), (dpE hd30 10 Z Z), trivial⟩ (dg_off Z Z Z Z ⟨BX.refl _ _, Z⟩)
   ·
    intro w40 D hS31 hd31
    exact dg_sub (E' := [(13, (.bool false)), (1, (.pointer (some p1)))]) ⟨(dpE hd31 10 Z Z), Z, trivial⟩ (dg_off Z Z Z Z ⟨BX.refl _ _, Z⟩)
   ·
    intro w41 D hS32 hd32
    exact dg_sub (E' := [(16, undef), (13, (.bool false))]) ⟨(dpE hd32 13 Z Z), (dpE hd32 10 Z Z), trivial⟩ (dg_off Z Z Z Z ⟨BX.refl _ _, Z⟩)
   ·
    intro w42 D hS33 hd33
    exact dg_sub (E' := [(17, undef), (13, (.bool false))]) ⟨(dpE hd33 14 Z Z), (dpE hd33 10 Z Z), trivial⟩ (dg_off Z Z Z Z ⟨BX.refl _ _, Z⟩)
   ·
    intro w43 D hS34 hd34
    have hC43 := hC1.no hS34
    refine lw_sub (E' := [(13, (.bool false)), (15, undef), (18, undef), (1, (.pointer (some p1))), (2, (.bool false))]) ⟨(dpE hd34 10 Z Z), (dpE hd34 12 Z Z), (dpE hd34 15 Z Z), Z, Z, trivial⟩ (lw_off Z Z Z Z Z Z (lw_op Z Z Z (ow_pickF Z Z Z (lw_op Z Z Z (ow_assign Z Z (lw_nil (ew_then (cw_ret ?_))))))))
    obtain rfl := Option.some.inj h
    exact ew_ret (res1 Z (.tmp Z)) ⟨_, Z, ((vbool _)), hC43.bx⟩
 ·
  subst hc1
  refine cw_sub (E' := [(1, (.pointer (some p1))), (2, (.bool false))]) ⟨Z, Z, trivial⟩ (cw_drawQ 16 [PA RInt M a_t.Field, PEq (.int .i64 a_t.Field), PEq (.bool false), PEq (.bool false), PEq undef, PEq undef, PEq undef, PEq undef, PEq undef, PEq (.bool false), PEq (.bool false), PEq undef, PEq undef, PEq undef, PEq undef, PEq undef] (by kernel_rfl) Z (by kernel_rfl) ⟨PA.mono _ _ _, PEq.mono _, PEq.mono _, PEq.mono _, PEq.mono _, PEq.mono _, PEq.mono _, PEq.mono _, PEq.mono _, PEq.mono _, PEq.mono _, PEq.mono _, PEq.mono _, PEq.mono _, PEq.mono _, PEq.mono _, trivial⟩ ⟨?_, ?_, ?_, ?_, ?_, ?_, ?_, ?_, ?_, ?_, ?_, ?_, ?_, ?_, ?_, ?_, trivial⟩ ?_)
  ·
   intro w44 D hS35 hd35
   have hl44 := Le.no M hS35
   exact dg_sub (E' := [(1, (.pointer (some p1)))]) ⟨Z, trivial⟩ (dg_plain Z (ow_fieldAddr Z Z Tryd.underlying31 Z (Tryd.sizeOf3 _) ⟨BX.refl _ _, ⟨_, Z, (ARep.mono hl44 (hp1.fld fld_Test_Field))⟩⟩))
  ·
   intro w45 D hS36 hd36
   have d87 : PA RInt M a_t.Field (D 0) w45 := dpA hd36 0 Z
   obtain ⟨p10, e9, ha9⟩ := d87
   refine dg_sub (E' := [(3, (.pointer (some p10)))]) ⟨(congrArg some e9), trivial⟩ (dg_plain Z (ow_load (R := RInt) Z Z ha9 (Tryd.sizeOf3 _) (Tryd.isAgg3 _) fun v22 hv22 => ?_))
   obtain rfl := vint_eq hv22
   exact ⟨BX.refl _ _, Z⟩
  ·
   intro w46 D hS37 hd37
   have hl46 := Le.no M hS37
   have hC46 := hC1.no hS37
   refine dg_sub (E' := [(4, (.int .i64 a_t.Field))]) ⟨(dpE hd37 1 Z Z), trivial⟩ (dg_plain Z (ow_call Z Z Tryd.call70 (w_spec_l1In (hG.mono (hl1.trans hl46)) hC46.old hx1) fun v23 w47 hv23 => ?_))
   obtain ⟨hv23, hb10⟩ := hv23
   obtain rfl := vbool_eq hv23
   exact ⟨hb10, Z⟩
  ·
   intro w48 D hS38 hd38
   exact dg_sub (E' := [(5, (.bool false))]) ⟨(dpE hd38 2 Z Z), trivial⟩ (dg_plain Z (ow_move Z Z ⟨BX.refl _ _, Z⟩))
  ·
   intro w49 D hS39 hd39
   exact dg_sub (E' := [(6, (.bool false)), (1, (.pointer (some p1)))]) ⟨(dpE hd39 3 Z Z), Z, trivial⟩ (dg_off Z Z Z Z ⟨BX.refl _ _, Z⟩)
  ·
   intro w50 D hS40 hd40
   exact dg_sub (E' := [(7, undef), (6, (.bool false))]) ⟨(dpE hd40 4 Z Z), (dpE hd40 3 Z Z), trivial⟩ (dg_off Z Z Z Z ⟨BX.refl _ _, Z⟩)
  ·
   intro w51 D hS41 hd41
   exact dg_sub (E' := [(6, (.bool false)), (1, (.pointer (some p1)))]) ⟨(dpE hd41 3 Z Z), Z, trivial⟩ (dg_off Z Z Z Z ⟨BX.refl _ _, Z⟩)
  ·
   intro w52 D hS42 hd42
   exact dg_sub (E' := [(9, undef), (6, (.bool false))]) ⟨(dpE hd42 6 Z Z), (dpE hd42 3 Z Z), trivial⟩ (dg_off Z Z Z Z ⟨BX.refl _ _, Z⟩)
  ·
   intro w53 D hS43 hd43
   exact dg_sub (E' := [(8, undef), (10, undef), (6, (.bool false))]) ⟨(dpE hd43 5 Z Z), (dpE hd43 7 Z Z), (dpE hd43 3 Z Z), trivial⟩ (dg_off Z Z Z Z ⟨BX.refl _ _, Z⟩)
  ·
   intro w54 D hS44 hd44
   exact dg_sub (E' := [(6, (.bool false)), (11, undef)]) ⟨(dpE hd44 3 Z Z), (dpE hd44 8 Z Z), trivial⟩ (dg_plain Z (ow_pickF Z Z Z ⟨BX.refl _ _, Z⟩))
  ·
   intro w55 D hS45 hd45
   exact dg_sub (E' := [(12, (.bool false))]) ⟨(dpE hd45 9 Z Z), trivial⟩ (dg_plain Z (ow_move Z Z ⟨BX.refl _ _, Z⟩))
  ·
   intro w56 D hS46 hd46
   exact dg_sub (E' := [(13, (.bool false)), (1, (.pointer (some p1)))]) ⟨(dpE hd46 10 Z Z), Z, trivial⟩ (dg_off Z Z Z Z ⟨BX.refl _ _, Z⟩)
  ·
   intro w57 D hS47 hd47
   exact dg_sub (E' := [(14, undef), (13, (.bool false))]) ⟨(dpE hd47 11 Z Z), (dpE hd47 10 Z Z), trivial⟩ (dg_off Z Z Z Z ⟨BX.refl _ _, Z⟩)
  ·
   intro w58 D hS48 hd48
   exact dg_sub (E' := [(13, (.bool false)), (1, (.pointer (some p1)))]) ⟨(dpE hd48 10 Z Z), Z, trivial⟩ (dg_off Z Z Z Z ⟨BX.refl _ _, Z⟩)
  ·
   intro w59 D hS49 hd49
   exact dg_sub (E' := [(16, undef), (13, (.bool false))]) ⟨(dpE hd49 13 Z Z), (dpE hd49 10 Z Z), trivial⟩ (dg_off Z Z Z Z ⟨BX.refl _ _, Z⟩)
  ·
   intro w60 D hS50 hd50
   exact dg_sub (E' := [(17, undef), (13, (.bool false))]) ⟨(dpE hd50 14 Z Z), (dpE hd50 10 Z Z), trivial⟩ (dg_off Z Z Z Z ⟨BX.refl _ _, Z⟩)
  ·
   intro w61 D hS51 hd51
   have hC61 := hC1.no hS51
   refine lw_sub (E' := [(13, (.bool false)), (15, undef), (18, undef), (1, (.pointer (some p1))), (2, (.bool false))]) ⟨(dpE hd51 10 Z Z), (dpE hd51 12 Z Z), (dpE hd51 15 Z Z), Z, Z, trivial⟩ (lw_off Z Z Z Z Z Z (lw_op Z Z Z (ow_pickF Z Z Z (lw_op Z Z Z (ow_assign Z Z (lw_nil (ew_then (cw_ret ?_))))))))
   obtain rfl := Option.some.inj h
   exact ew_ret (res1 Z (.tmp Z)) ⟨_, Z, ((vbool _)), hC61.bx⟩

theorem w_spec_TestsValid {w : World} {M : Nat → Prop} (hG : ARep (RArr 4 RShape) w M shapes ⟨0, 0, none⟩) (hO : ∀ b, M b → b < w.heap.size) {v0p : Value} {a_list : List Test} (h0 : VRep (RSlice RTest) w M a_list v0p) {r : Bool} (h : F.spec_TestsValid a_list = some r) :
  Calls Tryd.prog 98 [v0p].toArray w fun e w' => ∃ v, e = .returned v ∧ VRep RBool w' M r v ∧ BX No w w' := by
 have hC : Cx No w M w M := Cx.start hO (fun _ e => e.elim)
 refine walk (N := 19) Tryd.func98 Z Tryd.ntmps98 Z (cw_seq (cw_region (lw_op Z Z Z (ow_assign Z Z (lw_nil (ew_then (cw_seq (cw_seq (cw_region (lw_op Z Z Z (ow_assign Z Z (lw_nil (ew_then ?_)))))))))))))
 replace h := bind_some h
 obtain ⟨lr1, hlr1, h⟩ := h
 refine cw_for hlr1 (fun s a w' => ∃ (M' : Nat → Prop), Fits 19 [(0, v0p), (3, (.int .i64 s))] a ∧ Le w M w' M' ∧ Cx No w M w' M') ?_ ?_ ?_
 ·
  intro a ha
  exact ⟨M, ha.sub ⟨Z, Z, trivial⟩, Le.refl _ _, hC⟩
 ·
  rintro k1 a w1 sr1 ⟨M1, hF1, hl1, hC1⟩ hb1 hR1
  refine cw_at (E := [(0, v0p), (3, (.int .i64 k1))]) hF1 (cw_seq (cw_seq (cw_region (lw_op Z Z Z (ow_move Z Z (lw_op Z Z Z (ow_move Z Z (lw_op Z Z Z (ow_len Z Z (VRep.mono hl1 h0) Tryd.underlying27 Z (lw_op Z Z Z (ow_lss Z Z Z fun bb1 hbb1 => lw_nil (ew_then ?_))))))))))))
  replace hb1 := cond_some hb1
  rcases hb1 with ⟨hc1, hb1⟩ | ⟨hc1, hb1⟩
  ·
   obtain rfl := hbb1.trans hc1
   refine cw_true Z (cw_skip (ew_then (cw_seq (cw_block (cw_seq (cw_region (lw_op Z Z Z (ow_move Z Z (lw_op Z Z Z (ow_move Z Z ?_))))))))))
   replace hb1 := bind_some hb1
   obtain ⟨x1, hx1, hb1⟩ := hb1
   refine lw_op Z Z Z (ow_indexSlice (R := RTest) Z Z Z (VRep.mono hl1 h0) Tryd.underlying27 (Tryd.sizeOf31 _) hx1 fun p1 hp1 => lw_op Z Z Z (ow_load (R := RTest) Z Z hp1 (Tryd.sizeOf31 _) (Tryd.isAgg31 _) fun v2 hv2 => ?_))
   replace hb1 := bind_some hb1
   obtain ⟨x2, hx2, hb1⟩ := hb1
   refine lw_op Z Z Z (ow_call Z Z Tryd.call91 (w_spec_TestValid (hG.mono hl1) hC1.old hv2 hx2) fun v3 w2 hv3 => ?_)
   obtain ⟨hv3, hb2⟩ := hv3
   have hl2 := Le.no M1 hb2
   have hC2 := hC1.no hb2
   obtain rfl := vbool_eq hv3
   refine lw_op Z Z Z (ow_not Z Z (lw_nil (ew_then ?_)))
   replace hb1 := cond_some hb1
   rcases hb1 with ⟨hc2, hb1⟩ | ⟨hc2, hb1⟩
   ·
    subst hc2
    exact cw_false Z (cw_skip (ew_blockN (ew_then (cw_region (lw_op Z Z Z (ow_move Z Z (lw_op Z Z Z (ow_add Z Z Z (lw_op Z Z Z (ow_assign Z Z (lw_nil (ew_nxt (W (k1 + 1)) hb1 fun a ha => ⟨M1, (ha.sub ⟨Z, Z, trivial⟩), (hl1.trans hl2), hC2⟩))))))))))))
   ·
    subst hc2
    refine cw_true Z (cw_seq (cw_region (lw_op Z Z Z (ow_assign Z Z (lw_nil (ew_then (cw_ret (ew_blockR (ew_thenR (ew_thenR (ew_blockR (ew_brkR (ew_thenR ?_)))))))))))))
    have e1 := hR1 _ (Option.some.inj hb1).symm
    subst e1
    obtain rfl := Option.some.inj h
    exact ew_ret (res1 Z (.tmp Z)) ⟨_, Z, ((vbool _)), hC2.bx⟩
  ·
   obtain rfl := hbb1.trans hc1
   exact cw_false Z (cw_exit (ew_thenX (ew_thenX (ew_blockX (ew_brk k1 hb1 fun a ha => ⟨M1, (ha.sub ⟨Z, Z, trivial⟩), hl1, hC1⟩)))))
 ·
  rintro k2 a w3 hlr2 ⟨M2, hF2, hl3, hC3⟩
  subst hlr2
  refine ew_at (E := [(0, v0p), (3, (.int .i64 k2))]) hF2 (ew_then (cw_seq (cw_region (lw_op Z Z Z (ow_move Z Z (lw_op Z Z Z (ow_len Z Z (VRep.mono hl3 h0) Tryd.underlying27 Z (lw_op Z Z Z (ow_leq Z Z Z fun bb2 hbb2 => lw_op Z Z Z (ow_assign Z Z (lw_nil (ew_then (cw_ret ?_)))))))))))))
  obtain rfl := Option.some.inj h
  exact ew_ret (res1 Z (.tmp Z)) ⟨_, Z, ((vbool_of hbb2)), hC3.bx⟩


end Go.PF
