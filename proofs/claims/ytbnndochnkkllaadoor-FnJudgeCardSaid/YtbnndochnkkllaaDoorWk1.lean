/- The walks; no condition. -/
import Derived.Test.YtbnndochnkkllaaDoorProg
import Derived.Test.YtbnndochnkkllaaDoorWk0
import Derived.Test.YtbnndochnkkllaaDoorPFFresh
set_option maxRecDepth 100000
set_option maxHeartbeats 4000000
namespace Go.PF
open Go Go.RowKit Go.Proofs

theorem w_spec_l20Rule {w : World} {M : Nat → Prop} (hG : ARep (RArr 4 RShape) w M shapes ⟨0, 0, none⟩) (hO : ∀ b, M b → b < w.heap.size) {g : Nat} {Ax : Option Addr} {cx : Nat} {a_xs : List Int} {a_pos : Int} (hxs : VRep (RSlice RU8) w M a_xs (.slice Ax a_xs.length cx)) (hown : Own w g 183 #[.slice Ax a_xs.length cx, .int .i64 a_pos]) (hgM : M g) {a_first : Int} {a_chains : Int} {a_n : Int} {r : Rule × Int} (h : F.spec_l20Rule a_xs a_pos a_first a_chains a_n = some r) :
  Calls Tryd.prog 194 [(.pointer (some ⟨g, 0, none⟩)), (.int .i64 a_first), (.int .i64 a_chains), (.int .i64 a_n)].toArray w fun e w' => ∃ v, e = .returned v ∧ (VRep RRule w' M r.1 v ∧ Own w' g 183 #[.slice Ax a_xs.length cx, .int .i64 r.2]) ∧ BX (One g) w w' := by
 have hX : ∀ b, (One g) b → M b := fun b e => e ▸ hgM
 have hC : Cx (One g) w M w M := Cx.start hO hX
 refine walk (N := 58) Tryd.func194 Z Tryd.ntmps194 Z (cw_seq (cw_region (lw_op Z Z Z (ow_alloc Z (Tryd.zeroValue38 _) hC fun g1 w1 hg1 hg2 ho1 hb1 hl1 hC1 => ?_))))
 have hn1 := Nat.ne_of_lt (Nat.lt_of_lt_of_le hown.lt hg1)
 have ho2 := hown.no hb1
 have hm1 : (Add g1 M) g := .inr hgM
 have hm2 : (Add g1 M) g1 := .inl Z
 refine lw_nil (ew_then (cw_seq (cw_region (lw_op Z Z Z (ow_move Z Z ?_)))))
 replace h := bind_some h
 obtain ⟨x1, hx1, h⟩ := h
 refine lw_op Z Z Z (ow_call Z Z Tryd.call189 (w_spec_l20Tests (hG.mono hl1) hC1.old (VRep.mono hl1 hxs) ho2 hm1 hx1) fun v1 w2 hv1 => ?_)
 obtain ⟨⟨hv1, ho3⟩, hb2⟩ := hv1
 have hl2 := Le.of_bx (Add g1 M) hb2 (fun b e => (by rw [show b = g from e]; exact hm1))
 have hC2 := hC1.go hb2 (fun b e => Or.inr e)
 have ho4 := ho1.go hb2 (fun e => hn1 e.symm)
 refine lw_op Z Z Z (ow_buildSlice (R := RInt) (xs := [1, 1, 2, 2, 3, 3, 4, 5]) (cs := #[(.int .i64 1), (.int .i64 1), (.int .i64 2), (.int .i64 2), (.int .i64 3), (.int .i64 3), (.int .i64 4), (.int .i64 5)]) (e := 3) Z Z (by kernel_rfl) Z Z ⟨_, _, Z, (vint _).cells, _, _, Z, (vint _).cells, _, _, Z, (vint _).cells, _, _, Z, (vint _).cells, _, _, Z, (vint _).cells, _, _, Z, (vint _).cells, _, _, Z, (vint _).cells, _, _, Z, (vint _).cells, Z⟩ hC2 fun p1 w3 hw1 hb3 hl3 hC3 => ?_)
 have ho5 := ho3.no hb3
 have ho6 := ho4.no hb3
 refine lw_op Z Z Z (ow_move Z Z ?_)
 have lz1 := ((hl1.trans hl2).trans hl3)
 replace h := bind_some h
 obtain ⟨x2, hx2, h⟩ := h
 refine lw_op Z Z Z (ow_call Z Z Tryd.call137 (w_spec_l20Rd_pick (hG.mono lz1) hC3.old (VRep.mono lz1 hxs) ho5 hm1 hx2) fun v2 w4 hv2 => ?_)
 obtain ⟨⟨hv2, ho7⟩, hb4⟩ := hv2
 have hl4 := Le.of_bx (Add g1 M) hb4 (fun b e => (by rw [show b = g from e]; exact hm1))
 have hC4 := hC3.go hb4 (fun b e => Or.inr e)
 have ho8 := ho6.go hb4 (fun e => hn1 e.symm)
 obtain rfl := vint_eq hv2
 replace h := bind_some h
 obtain ⟨x3, hx3, h⟩ := h
 refine lw_op Z Z Z (ow_indexSlice (R := RInt) Z Z Z (VRep.mono hl4 hw1) Tryd.underlying34 (Tryd.sizeOf3 _) hx3 fun p2 hp2 => lw_op Z Z Z (ow_load (R := RInt) Z Z hp2 (Tryd.sizeOf3 _) (Tryd.isAgg3 _) fun v3 hv3 => ?_))
 obtain rfl := vint_eq hv3
 obtain ⟨A1, c1, rfl, -⟩ := vslice_shape hv1
 refine lw_op Z Z Z (ow_build (v := .agg #[(.slice A1 x1.1.length c1), (.int .i64 x3), (.int .i64 0)]) Z Z (by kernel_rfl) (lw_op Z Z Z (ow_alloc Z (Tryd.zeroValue38 _) hC4 fun g2 w5 hg3 hg4 ho9 hb5 hl5 hC5 => ?_)))
 have hn2 := Nat.ne_of_lt (Nat.lt_of_lt_of_le ho7.lt hg3)
 have ho10 := ho7.no hb5
 have hm3 : (Add g2 (Add g1 M)) g := .inr hm1
 have hn3 := Nat.ne_of_lt (Nat.lt_of_lt_of_le ho8.lt hg3)
 have ho11 := ho8.no hb5
 have hm4 : (Add g2 (Add g1 M)) g1 := .inr hm2
 have hm5 : (Add g2 (Add g1 M)) g2 := .inl Z
 refine lw_op0 Z Z (ow_store (X := (One g)) (us := [(.slice A1 x1.1.length c1), (.int .i64 x3), (.int .i64 0)]) (cs' := #[(.slice A1 x1.1.length c1), (.int .i64 x3), (.int .i64 0)]) Z Z Z Z ho9 (Tryd.sizeOf38 _) Z Z Z Z hm5 (.inl hg4) Z hC5 fun w6 ho12 hb6 hl6 hC6 => ?_)
 have ho13 := ho10.go hb6 (fun e => hn2 e)
 have ho14 := ho11.go hb6 (fun e => hn3 e)
 refine lw_nil (ew_then (cw_seq (cw_seq (cw_region (lw_op Z Z Z (ow_fieldAddr Z Z Tryd.underlying38 Z (Tryd.sizeOf3 _) (lw_op Z Z Z (ow_loadOwn1 Z Z Z ho12 (Tryd.isAgg3 _) Z (lw_op Z Z Z (ow_eqlI Z Z Z fun bb1 hbb1 => lw_nil (ew_then ?_)))))))))))
 replace h := cond_some h
 rcases h with ⟨hc1, h⟩ | ⟨hc1, h⟩
 ·
  obtain rfl := hbb1.trans hc1
  refine cw_true Z (cw_seq (cw_region (lw_op Z Z Z (ow_move Z Z (lw_op Z Z Z (ow_move Z Z (lw_op Z Z Z (ow_geq Z Z Z fun bb2 hbb2 => lw_nil (ew_then ?_)))))))))
  replace h := cond_some h
  rcases h with ⟨hc2, h⟩ | ⟨hc2, h⟩
  ·
   obtain rfl := hbb2.trans hc2
   refine cw_true Z (cw_region (lw_op Z Z Z (ow_fieldAddr Z Z Tryd.underlying38 Z (Tryd.sizeOf3 _) (lw_op0 Z Z (ow_store (X := (One g)) (us := [(.int .i64 2)]) (cs' := #[(.slice A1 x1.1.length c1), (.int .i64 2), (.int .i64 0)]) Z Z Z Z ho12 (Tryd.sizeOf3 _) Z Z Z Z hm5 (.inl hg4) Z hC6 fun w7 ho15 hb7 hl7 hC7 => ?_)))))
   have ho16 := ho13.go hb7 (fun e => hn2 e)
   have ho17 := ho14.go hb7 (fun e => hn3 e)
   refine lw_nil (ew_then (cw_seq (cw_seq (cw_region (lw_op Z Z Z (ow_move Z Z (lw_op Z Z Z (ow_move Z Z ?_))))))))
   have lz2 := ((((lz1.trans hl4).trans hl5).trans hl6).trans hl7)
   replace h := bind_some h
   obtain ⟨x4, hx4, h⟩ := h
   refine lw_op Z Z Z (ow_call Z Z Tryd.call172 (w_spec_l20Rd_odd (hG.mono lz2) hC7.old (VRep.mono lz2 hxs) ho16 hm3 hx4) fun v4 w8 hv4 => ?_)
   obtain ⟨⟨hv4, ho18⟩, hb8⟩ := hv4
   have hl8 := Le.of_bx (Add g2 (Add g1 M)) hb8 (fun b e => (by rw [show b = g from e]; exact hm3))
   have hC8 := hC7.go hb8 (fun b e => Or.inr e)
   have ho19 := ho17.go hb8 (fun e => hn1 e.symm)
   have ho20 := ho15.go hb8 (fun e => hn2 e.symm)
   obtain ⟨bb3, hbb3, rfl⟩ := vbool_ex hv4
   refine lw_nil (ew_then ?_)
   replace h := cond_some h
   rcases h with ⟨hc3, h⟩ | ⟨hc3, h⟩
   ·
    obtain rfl := hbb3.trans hc3
    refine cw_true Z (cw_seq (cw_region (lw_op Z Z Z (ow_move Z Z ?_))))
    replace h := bind_some h
    obtain ⟨x5, hx5, h⟩ := h
    refine lw_op Z Z Z (ow_call Z Z Tryd.call137 (w_spec_l20Rd_pick (hG.mono (lz2.trans hl8)) hC8.old (VRep.mono (lz2.trans hl8) hxs) ho18 hm3 hx5) fun v5 w9 hv5 => ?_)
    obtain ⟨⟨hv5, ho21⟩, hb9⟩ := hv5
    have hl9 := Le.of_bx (Add g2 (Add g1 M)) hb9 (fun b e => (by rw [show b = g from e]; exact hm3))
    have hC9 := hC8.go hb9 (fun b e => Or.inr e)
    have ho22 := ho19.go hb9 (fun e => hn1 e.symm)
    have ho23 := ho20.go hb9 (fun e => hn2 e.symm)
    obtain rfl := vint_eq hv5
    refine lw_nil (ew_then (cw_block (cw_seq (cw_region (lw_op Z Z Z (ow_eqlI Z Z Z fun bb4 hbb4 => lw_op Z Z Z (ow_assign Z Z (lw_nil (ew_then ?_)))))))))
    replace h := cond_some h
    rcases h with ⟨hc4, h⟩ | ⟨hc4, h⟩
    ·
     obtain rfl := hbb4.trans hc4
     refine cw_true Z (cw_region (lw_op Z Z Z (ow_buildSlice (R := RInt) (xs := [0, 6]) (cs := #[(.int .i64 0), (.int .i64 6)]) (e := 3) Z Z (by kernel_rfl) Z Z ⟨_, _, Z, (vint _).cells, _, _, Z, (vint _).cells, Z⟩ hC9 fun p3 w10 hw3 hb10 hl10 hC10 => ?_)))
     have ho24 := ho21.no hb10
     have ho25 := ho22.no hb10
     have ho26 := ho23.no hb10
     refine lw_op Z Z Z (ow_move Z Z ?_)
     have lz3 := (((lz2.trans hl8).trans hl9).trans hl10)
     replace h := bind_some h
     obtain ⟨x6, hx6, h⟩ := h
     refine lw_op Z Z Z (ow_call Z Z Tryd.call137 (w_spec_l20Rd_pick (hG.mono lz3) hC10.old (VRep.mono lz3 hxs) ho24 hm3 hx6) fun v6 w11 hv6 => ?_)
     obtain ⟨⟨hv6, ho27⟩, hb11⟩ := hv6
     have hl11 := Le.of_bx (Add g2 (Add g1 M)) hb11 (fun b e => (by rw [show b = g from e]; exact hm3))
     have hC11 := hC10.go hb11 (fun b e => Or.inr e)
     have ho28 := ho25.go hb11 (fun e => hn1 e.symm)
     have ho29 := ho26.go hb11 (fun e => hn2 e.symm)
     obtain rfl := vint_eq hv6
     replace h := bind_some h
     obtain ⟨x7, hx7, h⟩ := h
     refine lw_op Z Z Z (ow_indexSlice (R := RInt) Z Z Z (VRep.mono hl11 hw3) Tryd.underlying34 (Tryd.sizeOf3 _) hx7 fun p4 hp4 => lw_op Z Z Z (ow_load (R := RInt) Z Z hp4 (Tryd.sizeOf3 _) (Tryd.isAgg3 _) fun v7 hv7 => ?_))
     obtain rfl := vint_eq hv7
     refine lw_op Z Z Z (ow_fieldAddr Z Z Tryd.underlying38 Z (Tryd.sizeOf3 _) (lw_op0 Z Z (ow_store (X := (One g)) (us := [(.int .i64 x7)]) (cs' := #[(.slice A1 x1.1.length c1), (.int .i64 x7), (.int .i64 0)]) Z Z Z Z ho29 (Tryd.sizeOf3 _) Z Z Z Z hm5 (.inl hg4) Z hC11 fun w12 ho30 hb12 hl12 hC12 => ?_)))
     have ho31 := ho27.go hb12 (fun e => hn2 e)
     have ho32 := ho28.go hb12 (fun e => hn3 e)
     refine lw_nil (ew_blockN (ew_then (cw_seq (cw_region (lw_op Z Z Z (ow_loadOwnA Z Z Z ho30 (Tryd.isAgg38 _) (Tryd.sizeOf38 _) Z ?_))))))
     have lz4 := (((((((((hl3.trans hl4).trans hl5).trans hl6).trans hl7).trans hl8).trans hl9).trans hl10).trans hl11).trans hl12)
     refine lw_op0 Z Z (ow_store (X := (One g)) (us := [(.slice A1 x1.1.length c1), (.int .i64 x7), (.int .i64 0)]) (cs' := #[(.slice A1 x1.1.length c1), (.int .i64 x7), (.int .i64 0)]) Z Z Z Z ho32 (Tryd.sizeOf38 _) Z Z Z Z hm4 (.inl hg2) Z hC12 fun w13 ho33 hb13 hl13 hC13 => ?_)
     have ho34 := ho31.go hb13 (fun e => hn1 e)
     refine lw_nil (ew_then (cw_ret ?_))
     have hw5 : VRep RRule w13 (Add g2 (Add g1 M)) ({ Tests := x1.1, Action := x7, Chain := 0 } : Rule) (.agg #[(.slice A1 x1.1.length c1), (.int .i64 x7), (.int .i64 0)]) := shut_Rule (VRep.mono (lz4.trans hl13) hv1)
     obtain rfl := Option.some.inj h
     exact ew_ret (res1 Z (.cell Z (own_loadVarA ho33 (Tryd.isAgg38 _) (Tryd.sizeOf38 _) Z))) ⟨_, Z, ⟨(hw5.mono hC13.back), ho34⟩, hC13.bx⟩
    ·
     obtain rfl := hbb4.trans hc4
     refine cw_false Z (cw_seq (cw_region (lw_op Z Z Z (ow_eqlI Z Z Z fun bb5 hbb5 => lw_op Z Z Z (ow_assign Z Z (lw_nil (ew_then ?_)))))))
     replace h := cond_some h
     rcases h with ⟨hc5, h⟩ | ⟨hc5, h⟩
     ·
      obtain rfl := hbb5.trans hc5
      refine cw_true Z (cw_region (lw_op Z Z Z (ow_buildSlice (R := RInt) (xs := [(-1), 5, 1]) (cs := #[(.int .i64 (-1)), (.int .i64 5), (.int .i64 1)]) (e := 3) Z Z (by kernel_rfl) Z Z ⟨_, _, Z, (vint _).cells, _, _, Z, (vint _).cells, _, _, Z, (vint _).cells, Z⟩ hC9 fun p5 w14 hw6 hb14 hl14 hC14 => ?_)))
      have ho36 := ho21.no hb14
      have ho37 := ho22.no hb14
      have ho38 := ho23.no hb14
      refine lw_op Z Z Z (ow_move Z Z ?_)
      have lz5 := (((lz2.trans hl8).trans hl9).trans hl14)
      replace h := bind_some h
      obtain ⟨x8, hx8, h⟩ := h
      refine lw_op Z Z Z (ow_call Z Z Tryd.call137 (w_spec_l20Rd_pick (hG.mono lz5) hC14.old (VRep.mono lz5 hxs) ho36 hm3 hx8) fun v8 w15 hv8 => ?_)
      obtain ⟨⟨hv8, ho39⟩, hb15⟩ := hv8
      have hl15 := Le.of_bx (Add g2 (Add g1 M)) hb15 (fun b e => (by rw [show b = g from e]; exact hm3))
      have hC15 := hC14.go hb15 (fun b e => Or.inr e)
      have ho40 := ho37.go hb15 (fun e => hn1 e.symm)
      have ho41 := ho38.go hb15 (fun e => hn2 e.symm)
      obtain rfl := vint_eq hv8
      replace h := bind_some h
      obtain ⟨x9, hx9, h⟩ := h
      refine lw_op Z Z Z (ow_indexSlice (R := RInt) Z Z Z (VRep.mono hl15 hw6) Tryd.underlying34 (Tryd.sizeOf3 _) hx9 fun p6 hp6 => lw_op Z Z Z (ow_load (R := RInt) Z Z hp6 (Tryd.sizeOf3 _) (Tryd.isAgg3 _) fun v9 hv9 => ?_))
      obtain rfl := vint_eq hv9
      refine lw_op Z Z Z (ow_fieldAddr Z Z Tryd.underlying38 Z (Tryd.sizeOf3 _) (lw_op0 Z Z (ow_store (X := (One g)) (us := [(.int .i64 x9)]) (cs' := #[(.slice A1 x1.1.length c1), (.int .i64 2), (.int .i64 x9)]) Z Z Z Z ho41 (Tryd.sizeOf3 _) Z Z Z Z hm5 (.inl hg4) Z hC15 fun w16 ho42 hb16 hl16 hC16 => ?_)))
      have ho43 := ho39.go hb16 (fun e => hn2 e)
      have ho44 := ho40.go hb16 (fun e => hn3 e)
      refine lw_nil (ew_blockN (ew_then (cw_seq (cw_region (lw_op Z Z Z (ow_loadOwnA Z Z Z ho42 (Tryd.isAgg38 _) (Tryd.sizeOf38 _) Z ?_))))))
      have lz6 := (((((((((hl3.trans hl4).trans hl5).trans hl6).trans hl7).trans hl8).trans hl9).trans hl14).trans hl15).trans hl16)
      refine lw_op0 Z Z (ow_store (X := (One g)) (us := [(.slice A1 x1.1.length c1), (.int .i64 2), (.int .i64 x9)]) (cs' := #[(.slice A1 x1.1.length c1), (.int .i64 2), (.int .i64 x9)]) Z Z Z Z ho44 (Tryd.sizeOf38 _) Z Z Z Z hm4 (.inl hg2) Z hC16 fun w17 ho45 hb17 hl17 hC17 => ?_)
      have ho46 := ho43.go hb17 (fun e => hn1 e)
      refine lw_nil (ew_then (cw_ret ?_))
      have hw8 : VRep RRule w17 (Add g2 (Add g1 M)) ({ Tests := x1.1, Action := 2, Chain := x9 } : Rule) (.agg #[(.slice A1 x1.1.length c1), (.int .i64 2), (.int .i64 x9)]) := shut_Rule (VRep.mono (lz6.trans hl17) hv1)
      obtain rfl := Option.some.inj h
      exact ew_ret (res1 Z (.cell Z (own_loadVarA ho45 (Tryd.isAgg38 _) (Tryd.sizeOf38 _) Z))) ⟨_, Z, ⟨(hw8.mono hC17.back), ho46⟩, hC17.bx⟩
     ·
      obtain rfl := hbb5.trans hc5
      refine cw_false Z (cw_region (lw_op Z Z Z (ow_move Z Z ?_)))
      have lz7 := ((lz2.trans hl8).trans hl9)
      replace h := bind_some h
      obtain ⟨x10, hx10, h⟩ := h
      refine lw_op Z Z Z (ow_call Z Z Tryd.call189 (w_spec_l20Tests (hG.mono lz7) hC9.old (VRep.mono lz7 hxs) ho21 hm3 hx10) fun v10 w18 hv10 => ?_)
      obtain ⟨⟨hv10, ho48⟩, hb18⟩ := hv10
      have hC18 := hC9.go hb18 (fun b e => Or.inr e)
      have ho49 := ho22.go hb18 (fun e => hn1 e.symm)
      have ho50 := ho23.go hb18 (fun e => hn2 e.symm)
      refine lw_op Z Z Z (ow_fieldAddr Z Z Tryd.underlying38 Z (Tryd.sizeOf36 _) ?_)
      obtain ⟨A2, c2, rfl, -⟩ := vslice_shape hv10
      refine lw_op0 Z Z (ow_store (X := (One g)) (us := [(.slice A2 x10.1.length c2)]) (cs' := #[(.slice A2 x10.1.length c2), (.int .i64 2), (.int .i64 0)]) Z Z Z Z ho50 (Tryd.sizeOf36 _) Z Z Z Z hm5 (.inl hg4) Z hC18 fun w19 ho51 hb19 hl19 hC19 => ?_)
      have ho52 := ho48.go hb19 (fun e => hn2 e)
      have ho53 := ho49.go hb19 (fun e => hn3 e)
      refine lw_nil (ew_blockN (ew_then (cw_seq (cw_region (lw_op Z Z Z (ow_loadOwnA Z Z Z ho51 (Tryd.isAgg38 _) (Tryd.sizeOf38 _) Z (lw_op0 Z Z (ow_store (X := (One g)) (us := [(.slice A2 x10.1.length c2), (.int .i64 2), (.int .i64 0)]) (cs' := #[(.slice A2 x10.1.length c2), (.int .i64 2), (.int .i64 0)]) Z Z Z Z ho53 (Tryd.sizeOf38 _) Z Z Z Z hm4 (.inl hg2) Z hC19 fun w20 ho54 hb20 hl20 hC20 => ?_))))))))
      have ho55 := ho52.go hb20 (fun e => hn1 e)
      refine lw_nil (ew_then (cw_ret ?_))
      have hw10 : VRep RRule w20 (Add g2 (Add g1 M)) ({ Tests := x10.1, Action := 2, Chain := 0 } : Rule) (.agg #[(.slice A2 x10.1.length c2), (.int .i64 2), (.int .i64 0)]) := shut_Rule (VRep.mono (hl19.trans hl20) hv10)
      obtain rfl := Option.some.inj h
      exact ew_ret (res1 Z (.cell Z (own_loadVarA ho54 (Tryd.isAgg38 _) (Tryd.sizeOf38 _) Z))) ⟨_, Z, ⟨(hw10.mono hC20.back), ho55⟩, hC20.bx⟩
   ·
    obtain rfl := hbb3.trans hc3
    refine cw_false Z (cw_skip (ew_then (cw_seq (cw_region (lw_op Z Z Z (ow_loadOwnA Z Z Z ho20 (Tryd.isAgg38 _) (Tryd.sizeOf38 _) Z ?_))))))
    have lz8 := (((((hl3.trans hl4).trans hl5).trans hl6).trans hl7).trans hl8)
    refine lw_op0 Z Z (ow_store (X := (One g)) (us := [(.slice A1 x1.1.length c1), (.int .i64 2), (.int .i64 0)]) (cs' := #[(.slice A1 x1.1.length c1), (.int .i64 2), (.int .i64 0)]) Z Z Z Z ho19 (Tryd.sizeOf38 _) Z Z Z Z hm4 (.inl hg2) Z hC8 fun w21 ho57 hb21 hl21 hC21 => ?_)
    have ho58 := ho18.go hb21 (fun e => hn1 e)
    refine lw_nil (ew_then (cw_ret ?_))
    have hw12 : VRep RRule w21 (Add g2 (Add g1 M)) ({ Tests := x1.1, Action := 2, Chain := 0 } : Rule) (.agg #[(.slice A1 x1.1.length c1), (.int .i64 2), (.int .i64 0)]) := shut_Rule (VRep.mono (lz8.trans hl21) hv1)
    obtain rfl := Option.some.inj h
    exact ew_ret (res1 Z (.cell Z (own_loadVarA ho57 (Tryd.isAgg38 _) (Tryd.sizeOf38 _) Z))) ⟨_, Z, ⟨(hw12.mono hC21.back), ho58⟩, hC21.bx⟩
  ·
   obtain rfl := hbb2.trans hc2
   refine cw_false Z (cw_region (lw_op Z Z Z (ow_move Z Z (lw_op Z Z Z (ow_move Z Z (lw_op Z Z Z (ow_move Z Z (lw_op Z Z Z (ow_move Z Z (lw_op Z Z Z (ow_sub Z Z Z ?_)))))))))))
   have lz9 := (((lz1.trans hl4).trans hl5).trans hl6)
   replace h := bind_some h
   obtain ⟨x11, hx11, h⟩ := h
   refine lw_op Z Z Z (ow_call Z Z Tryd.call137 (w_spec_l20Rd_pick (hG.mono lz9) hC6.old (VRep.mono lz9 hxs) ho13 hm3 hx11) fun v11 w22 hv11 => ?_)
   obtain ⟨⟨hv11, ho60⟩, hb22⟩ := hv11
   have hl22 := Le.of_bx (Add g2 (Add g1 M)) hb22 (fun b e => (by rw [show b = g from e]; exact hm3))
   have hC22 := hC6.go hb22 (fun b e => Or.inr e)
   have ho61 := ho14.go hb22 (fun e => hn1 e.symm)
   have ho62 := ho12.go hb22 (fun e => hn2 e.symm)
   obtain rfl := vint_eq hv11
   refine lw_op Z Z Z (ow_add Z Z Z (lw_op Z Z Z (ow_fieldAddr Z Z Tryd.underlying38 Z (Tryd.sizeOf3 _) (lw_op0 Z Z (ow_store (X := (One g)) (us := [(.int .i64 (W (a_first + x11.1)))]) (cs' := #[(.slice A1 x1.1.length c1), (.int .i64 x3), (.int .i64 (W (a_first + x11.1)))]) Z Z Z Z ho62 (Tryd.sizeOf3 _) Z Z Z Z hm5 (.inl hg4) Z hC22 fun w23 ho63 hb23 hl23 hC23 => ?_)))))
   have ho64 := ho60.go hb23 (fun e => hn2 e)
   have ho65 := ho61.go hb23 (fun e => hn3 e)
   refine lw_nil (ew_then (cw_seq (cw_seq (cw_region (lw_op Z Z Z (ow_move Z Z (lw_op Z Z Z (ow_move Z Z ?_))))))))
   have lz10 := ((lz9.trans hl22).trans hl23)
   replace h := bind_some h
   obtain ⟨x12, hx12, h⟩ := h
   refine lw_op Z Z Z (ow_call Z Z Tryd.call172 (w_spec_l20Rd_odd (hG.mono lz10) hC23.old (VRep.mono lz10 hxs) ho64 hm3 hx12) fun v12 w24 hv12 => ?_)
   obtain ⟨⟨hv12, ho66⟩, hb24⟩ := hv12
   have hl24 := Le.of_bx (Add g2 (Add g1 M)) hb24 (fun b e => (by rw [show b = g from e]; exact hm3))
   have hC24 := hC23.go hb24 (fun b e => Or.inr e)
   have ho67 := ho65.go hb24 (fun e => hn1 e.symm)
   have ho68 := ho63.go hb24 (fun e => hn2 e.symm)
   obtain ⟨bb6, hbb6, rfl⟩ := vbool_ex hv12
   refine lw_nil (ew_then ?_)
   replace h := cond_some h
   rcases h with ⟨hc6, h⟩ | ⟨hc6, h⟩
   ·
    obtain rfl := hbb6.trans hc6
    refine cw_true Z (cw_seq (cw_region (lw_op Z Z Z (ow_move Z Z ?_))))
    replace h := bind_some h
    obtain ⟨x13, hx13, h⟩ := h
    refine lw_op Z Z Z (ow_call Z Z Tryd.call137 (w_spec_l20Rd_pick (hG.mono (lz10.trans hl24)) hC24.old (VRep.mono (lz10.trans hl24) hxs) ho66 hm3 hx13) fun v13 w25 hv13 => ?_)
    obtain ⟨⟨hv13, ho69⟩, hb25⟩ := hv13
    have hl25 := Le.of_bx (Add g2 (Add g1 M)) hb25 (fun b e => (by rw [show b = g from e]; exact hm3))
    have hC25 := hC24.go hb25 (fun b e => Or.inr e)
    have ho70 := ho67.go hb25 (fun e => hn1 e.symm)
    have ho71 := ho68.go hb25 (fun e => hn2 e.symm)
    obtain rfl := vint_eq hv13
    refine lw_nil (ew_then (cw_block (cw_seq (cw_region (lw_op Z Z Z (ow_eqlI Z Z Z fun bb7 hbb7 => lw_op Z Z Z (ow_assign Z Z (lw_nil (ew_then ?_)))))))))
    replace h := cond_some h
    rcases h with ⟨hc7, h⟩ | ⟨hc7, h⟩
    ·
     obtain rfl := hbb7.trans hc7
     refine cw_true Z (cw_region (lw_op Z Z Z (ow_buildSlice (R := RInt) (xs := [0, 6]) (cs := #[(.int .i64 0), (.int .i64 6)]) (e := 3) Z Z (by kernel_rfl) Z Z ⟨_, _, Z, (vint _).cells, _, _, Z, (vint _).cells, Z⟩ hC25 fun p7 w26 hw13 hb26 hl26 hC26 => ?_)))
     have ho72 := ho69.no hb26
     have ho73 := ho70.no hb26
     have ho74 := ho71.no hb26
     refine lw_op Z Z Z (ow_move Z Z ?_)
     have lz11 := (((lz10.trans hl24).trans hl25).trans hl26)
     replace h := bind_some h
     obtain ⟨x14, hx14, h⟩ := h
     refine lw_op Z Z Z (ow_call Z Z Tryd.call137 (w_spec_l20Rd_pick (hG.mono lz11) hC26.old (VRep.mono lz11 hxs) ho72 hm3 hx14) fun v14 w27 hv14 => ?_)
     obtain ⟨⟨hv14, ho75⟩, hb27⟩ := hv14
     have hl27 := Le.of_bx (Add g2 (Add g1 M)) hb27 (fun b e => (by rw [show b = g from e]; exact hm3))
     have hC27 := hC26.go hb27 (fun b e => Or.inr e)
     have ho76 := ho73.go hb27 (fun e => hn1 e.symm)
     have ho77 := ho74.go hb27 (fun e => hn2 e.symm)
     obtain rfl := vint_eq hv14
     replace h := bind_some h
     obtain ⟨x15, hx15, h⟩ := h
     refine lw_op Z Z Z (ow_indexSlice (R := RInt) Z Z Z (VRep.mono hl27 hw13) Tryd.underlying34 (Tryd.sizeOf3 _) hx15 fun p8 hp8 => lw_op Z Z Z (ow_load (R := RInt) Z Z hp8 (Tryd.sizeOf3 _) (Tryd.isAgg3 _) fun v15 hv15 => ?_))
     obtain rfl := vint_eq hv15
     refine lw_op Z Z Z (ow_fieldAddr Z Z Tryd.underlying38 Z (Tryd.sizeOf3 _) (lw_op0 Z Z (ow_store (X := (One g)) (us := [(.int .i64 x15)]) (cs' := #[(.slice A1 x1.1.length c1), (.int .i64 x15), (.int .i64 (W (a_first + x11.1)))]) Z Z Z Z ho77 (Tryd.sizeOf3 _) Z Z Z Z hm5 (.inl hg4) Z hC27 fun w28 ho78 hb28 hl28 hC28 => ?_)))
     have ho79 := ho75.go hb28 (fun e => hn2 e)
     have ho80 := ho76.go hb28 (fun e => hn3 e)
     refine lw_nil (ew_blockN (ew_then (cw_seq (cw_region (lw_op Z Z Z (ow_loadOwnA Z Z Z ho78 (Tryd.isAgg38 _) (Tryd.sizeOf38 _) Z ?_))))))
     have lz12 := ((((((((((hl3.trans hl4).trans hl5).trans hl6).trans hl22).trans hl23).trans hl24).trans hl25).trans hl26).trans hl27).trans hl28)
     refine lw_op0 Z Z (ow_store (X := (One g)) (us := [(.slice A1 x1.1.length c1), (.int .i64 x15), (.int .i64 (W (a_first + x11.1)))]) (cs' := #[(.slice A1 x1.1.length c1), (.int .i64 x15), (.int .i64 (W (a_first + x11.1)))]) Z Z Z Z ho80 (Tryd.sizeOf38 _) Z Z Z Z hm4 (.inl hg2) Z hC28 fun w29 ho81 hb29 hl29 hC29 => ?_)
     have ho82 := ho79.go hb29 (fun e => hn1 e)
     refine lw_nil (ew_then (cw_ret ?_))
     have hw15 : VRep RRule w29 (Add g2 (Add g1 M)) ({ Tests := x1.1, Action := x15, Chain := (W (a_first + x11.1)) } : Rule) (.agg #[(.slice A1 x1.1.length c1), (.int .i64 x15), (.int .i64 (W (a_first + x11.1)))]) := shut_Rule (VRep.mono (lz12.trans hl29) hv1)
     obtain rfl := Option.some.inj h
     exact ew_ret (res1 Z (.cell Z (own_loadVarA ho81 (Tryd.isAgg38 _) (Tryd.sizeOf38 _) Z))) ⟨_, Z, ⟨(hw15.mono hC29.back), ho82⟩, hC29.bx⟩
    ·
     obtain rfl := hbb7.trans hc7
     refine cw_false Z (cw_seq (cw_region (lw_op Z Z Z (ow_eqlI Z Z Z fun bb8 hbb8 => lw_op Z Z Z (ow_assign Z Z (lw_nil (ew_then ?_)))))))
     replace h := cond_some h
     rcases h with ⟨hc8, h⟩ | ⟨hc8, h⟩
     ·
      obtain rfl := hbb8.trans hc8
      refine cw_true Z (cw_region (lw_op Z Z Z (ow_buildSlice (R := RInt) (xs := [(-1), 5, 1]) (cs := #[(.int .i64 (-1)), (.int .i64 5), (.int .i64 1)]) (e := 3) Z Z (by kernel_rfl) Z Z ⟨_, _, Z, (vint _).cells, _, _, Z, (vint _).cells, _, _, Z, (vint _).cells, Z⟩ hC25 fun p9 w30 hw16 hb30 hl30 hC30 => ?_)))
      have ho84 := ho69.no hb30
      have ho85 := ho70.no hb30
      have ho86 := ho71.no hb30
      refine lw_op Z Z Z (ow_move Z Z ?_)
      have lz13 := (((lz10.trans hl24).trans hl25).trans hl30)
      replace h := bind_some h
      obtain ⟨x16, hx16, h⟩ := h
      refine lw_op Z Z Z (ow_call Z Z Tryd.call137 (w_spec_l20Rd_pick (hG.mono lz13) hC30.old (VRep.mono lz13 hxs) ho84 hm3 hx16) fun v16 w31 hv16 => ?_)
      obtain ⟨⟨hv16, ho87⟩, hb31⟩ := hv16
      have hl31 := Le.of_bx (Add g2 (Add g1 M)) hb31 (fun b e => (by rw [show b = g from e]; exact hm3))
      have hC31 := hC30.go hb31 (fun b e => Or.inr e)
      have ho88 := ho85.go hb31 (fun e => hn1 e.symm)
      have ho89 := ho86.go hb31 (fun e => hn2 e.symm)
      obtain rfl := vint_eq hv16
      replace h := bind_some h
      obtain ⟨x17, hx17, h⟩ := h
      refine lw_op Z Z Z (ow_indexSlice (R := RInt) Z Z Z (VRep.mono hl31 hw16) Tryd.underlying34 (Tryd.sizeOf3 _) hx17 fun p10 hp10 => lw_op Z Z Z (ow_load (R := RInt) Z Z hp10 (Tryd.sizeOf3 _) (Tryd.isAgg3 _) fun v17 hv17 => ?_))
      obtain rfl := vint_eq hv17
      refine lw_op Z Z Z (ow_fieldAddr Z Z Tryd.underlying38 Z (Tryd.sizeOf3 _) (lw_op0 Z Z (ow_store (X := (One g)) (us := [(.int .i64 x17)]) (cs' := #[(.slice A1 x1.1.length c1), (.int .i64 x3), (.int .i64 x17)]) Z Z Z Z ho89 (Tryd.sizeOf3 _) Z Z Z Z hm5 (.inl hg4) Z hC31 fun w32 ho90 hb32 hl32 hC32 => ?_)))
      have ho91 := ho87.go hb32 (fun e => hn2 e)
      have ho92 := ho88.go hb32 (fun e => hn3 e)
      refine lw_nil (ew_blockN (ew_then (cw_seq (cw_region (lw_op Z Z Z (ow_loadOwnA Z Z Z ho90 (Tryd.isAgg38 _) (Tryd.sizeOf38 _) Z ?_))))))
      have lz14 := ((((((((((hl3.trans hl4).trans hl5).trans hl6).trans hl22).trans hl23).trans hl24).trans hl25).trans hl30).trans hl31).trans hl32)
      refine lw_op0 Z Z (ow_store (X := (One g)) (us := [(.slice A1 x1.1.length c1), (.int .i64 x3), (.int .i64 x17)]) (cs' := #[(.slice A1 x1.1.length c1), (.int .i64 x3), (.int .i64 x17)]) Z Z Z Z ho92 (Tryd.sizeOf38 _) Z Z Z Z hm4 (.inl hg2) Z hC32 fun w33 ho93 hb33 hl33 hC33 => ?_)
      have ho94 := ho91.go hb33 (fun e => hn1 e)
      refine lw_nil (ew_then (cw_ret ?_))
      have hw18 : VRep RRule w33 (Add g2 (Add g1 M)) ({ Tests := x1.1, Action := x3, Chain := x17 } : Rule) (.agg #[(.slice A1 x1.1.length c1), (.int .i64 x3), (.int .i64 x17)]) := shut_Rule (VRep.mono (lz14.trans hl33) hv1)
      obtain rfl := Option.some.inj h
      exact ew_ret (res1 Z (.cell Z (own_loadVarA ho93 (Tryd.isAgg38 _) (Tryd.sizeOf38 _) Z))) ⟨_, Z, ⟨(hw18.mono hC33.back), ho94⟩, hC33.bx⟩
     ·
      obtain rfl := hbb8.trans hc8
      refine cw_false Z (cw_region (lw_op Z Z Z (ow_move Z Z ?_)))
      have lz15 := ((lz10.trans hl24).trans hl25)
      replace h := bind_some h
      obtain ⟨x18, hx18, h⟩ := h
      refine lw_op Z Z Z (ow_call Z Z Tryd.call189 (w_spec_l20Tests (hG.mono lz15) hC25.old (VRep.mono lz15 hxs) ho69 hm3 hx18) fun v18 w34 hv18 => ?_)
      obtain ⟨⟨hv18, ho96⟩, hb34⟩ := hv18
      have hC34 := hC25.go hb34 (fun b e => Or.inr e)
      have ho97 := ho70.go hb34 (fun e => hn1 e.symm)
      have ho98 := ho71.go hb34 (fun e => hn2 e.symm)
      refine lw_op Z Z Z (ow_fieldAddr Z Z Tryd.underlying38 Z (Tryd.sizeOf36 _) ?_)
      obtain ⟨A3, c3, rfl, -⟩ := vslice_shape hv18
      refine lw_op0 Z Z (ow_store (X := (One g)) (us := [(.slice A3 x18.1.length c3)]) (cs' := #[(.slice A3 x18.1.length c3), (.int .i64 x3), (.int .i64 (W (a_first + x11.1)))]) Z Z Z Z ho98 (Tryd.sizeOf36 _) Z Z Z Z hm5 (.inl hg4) Z hC34 fun w35 ho99 hb35 hl35 hC35 => ?_)
      have ho100 := ho96.go hb35 (fun e => hn2 e)
      have ho101 := ho97.go hb35 (fun e => hn3 e)
      refine lw_nil (ew_blockN (ew_then (cw_seq (cw_region (lw_op Z Z Z (ow_loadOwnA Z Z Z ho99 (Tryd.isAgg38 _) (Tryd.sizeOf38 _) Z (lw_op0 Z Z (ow_store (X := (One g)) (us := [(.slice A3 x18.1.length c3), (.int .i64 x3), (.int .i64 (W (a_first + x11.1)))]) (cs' := #[(.slice A3 x18.1.length c3), (.int .i64 x3), (.int .i64 (W (a_first + x11.1)))]) Z Z Z Z ho101 (Tryd.sizeOf38 _) Z Z Z Z hm4 (.inl hg2) Z hC35 fun w36 ho102 hb36 hl36 hC36 => ?_))))))))
      have ho103 := ho100.go hb36 (fun e => hn1 e)
      refine lw_nil (ew_then (cw_ret ?_))
      have hw20 : VRep RRule w36 (Add g2 (Add g1 M)) ({ Tests := x18.1, Action := x3, Chain := (W (a_first + x11.1)) } : Rule) (.agg #[(.slice A3 x18.1.length c3), (.int .i64 x3), (.int .i64 (W (a_first + x11.1)))]) := shut_Rule (VRep.mono (hl35.trans hl36) hv18)
      obtain rfl := Option.some.inj h
      exact ew_ret (res1 Z (.cell Z (own_loadVarA ho102 (Tryd.isAgg38 _) (Tryd.sizeOf38 _) Z))) ⟨_, Z, ⟨(hw20.mono hC36.back), ho103⟩, hC36.bx⟩
   ·
    obtain rfl := hbb6.trans hc6
    refine cw_false Z (cw_skip (ew_then (cw_seq (cw_region (lw_op Z Z Z (ow_loadOwnA Z Z Z ho68 (Tryd.isAgg38 _) (Tryd.sizeOf38 _) Z ?_))))))
    have lz16 := ((((((hl3.trans hl4).trans hl5).trans hl6).trans hl22).trans hl23).trans hl24)
    refine lw_op0 Z Z (ow_store (X := (One g)) (us := [(.slice A1 x1.1.length c1), (.int .i64 x3), (.int .i64 (W (a_first + x11.1)))]) (cs' := #[(.slice A1 x1.1.length c1), (.int .i64 x3), (.int .i64 (W (a_first + x11.1)))]) Z Z Z Z ho67 (Tryd.sizeOf38 _) Z Z Z Z hm4 (.inl hg2) Z hC24 fun w37 ho105 hb37 hl37 hC37 => ?_)
    have ho106 := ho66.go hb37 (fun e => hn1 e)
    refine lw_nil (ew_then (cw_ret ?_))
    have hw22 : VRep RRule w37 (Add g2 (Add g1 M)) ({ Tests := x1.1, Action := x3, Chain := (W (a_first + x11.1)) } : Rule) (.agg #[(.slice A1 x1.1.length c1), (.int .i64 x3), (.int .i64 (W (a_first + x11.1)))]) := shut_Rule (VRep.mono (lz16.trans hl37) hv1)
    obtain rfl := Option.some.inj h
    exact ew_ret (res1 Z (.cell Z (own_loadVarA ho105 (Tryd.isAgg38 _) (Tryd.sizeOf38 _) Z))) ⟨_, Z, ⟨(hw22.mono hC37.back), ho106⟩, hC37.bx⟩
 ·
  obtain rfl := hbb1.trans hc1
  refine cw_false Z (cw_skip (ew_then (cw_seq (cw_seq (cw_region (lw_op Z Z Z (ow_move Z Z (lw_op Z Z Z (ow_move Z Z ?_)))))))))
  have lz17 := (((lz1.trans hl4).trans hl5).trans hl6)
  replace h := bind_some h
  obtain ⟨x19, hx19, h⟩ := h
  refine lw_op Z Z Z (ow_call Z Z Tryd.call172 (w_spec_l20Rd_odd (hG.mono lz17) hC6.old (VRep.mono lz17 hxs) ho13 hm3 hx19) fun v19 w38 hv19 => ?_)
  obtain ⟨⟨hv19, ho108⟩, hb38⟩ := hv19
  have hl38 := Le.of_bx (Add g2 (Add g1 M)) hb38 (fun b e => (by rw [show b = g from e]; exact hm3))
  have hC38 := hC6.go hb38 (fun b e => Or.inr e)
  have ho109 := ho14.go hb38 (fun e => hn1 e.symm)
  have ho110 := ho12.go hb38 (fun e => hn2 e.symm)
  obtain ⟨bb9, hbb9, rfl⟩ := vbool_ex hv19
  refine lw_nil (ew_then ?_)
  replace h := cond_some h
  rcases h with ⟨hc9, h⟩ | ⟨hc9, h⟩
  ·
   obtain rfl := hbb9.trans hc9
   refine cw_true Z (cw_seq (cw_region (lw_op Z Z Z (ow_move Z Z ?_))))
   replace h := bind_some h
   obtain ⟨x20, hx20, h⟩ := h
   refine lw_op Z Z Z (ow_call Z Z Tryd.call137 (w_spec_l20Rd_pick (hG.mono (lz17.trans hl38)) hC38.old (VRep.mono (lz17.trans hl38) hxs) ho108 hm3 hx20) fun v20 w39 hv20 => ?_)
   obtain ⟨⟨hv20, ho111⟩, hb39⟩ := hv20
   have hl39 := Le.of_bx (Add g2 (Add g1 M)) hb39 (fun b e => (by rw [show b = g from e]; exact hm3))
   have hC39 := hC38.go hb39 (fun b e => Or.inr e)
   have ho112 := ho109.go hb39 (fun e => hn1 e.symm)
   have ho113 := ho110.go hb39 (fun e => hn2 e.symm)
   obtain rfl := vint_eq hv20
   refine lw_nil (ew_then (cw_block (cw_seq (cw_region (lw_op Z Z Z (ow_eqlI Z Z Z fun bb10 hbb10 => lw_op Z Z Z (ow_assign Z Z (lw_nil (ew_then ?_)))))))))
   replace h := cond_some h
   rcases h with ⟨hc10, h⟩ | ⟨hc10, h⟩
   ·
    obtain rfl := hbb10.trans hc10
    refine cw_true Z (cw_region (lw_op Z Z Z (ow_buildSlice (R := RInt) (xs := [0, 6]) (cs := #[(.int .i64 0), (.int .i64 6)]) (e := 3) Z Z (by kernel_rfl) Z Z ⟨_, _, Z, (vint _).cells, _, _, Z, (vint _).cells, Z⟩ hC39 fun p11 w40 hw23 hb40 hl40 hC40 => ?_)))
    have ho114 := ho111.no hb40
    have ho115 := ho112.no hb40
    have ho116 := ho113.no hb40
    refine lw_op Z Z Z (ow_move Z Z ?_)
    have lz18 := (((lz17.trans hl38).trans hl39).trans hl40)
    replace h := bind_some h
    obtain ⟨x21, hx21, h⟩ := h
    refine lw_op Z Z Z (ow_call Z Z Tryd.call137 (w_spec_l20Rd_pick (hG.mono lz18) hC40.old (VRep.mono lz18 hxs) ho114 hm3 hx21) fun v21 w41 hv21 => ?_)
    obtain ⟨⟨hv21, ho117⟩, hb41⟩ := hv21
    have hl41 := Le.of_bx (Add g2 (Add g1 M)) hb41 (fun b e => (by rw [show b = g from e]; exact hm3))
    have hC41 := hC40.go hb41 (fun b e => Or.inr e)
    have ho118 := ho115.go hb41 (fun e => hn1 e.symm)
    have ho119 := ho116.go hb41 (fun e => hn2 e.symm)
    obtain rfl := vint_eq hv21
    replace h := bind_some h
    obtain ⟨x22, hx22, h⟩ := h
    refine lw_op Z Z Z (ow_indexSlice (R := RInt) Z Z Z (VRep.mono hl41 hw23) Tryd.underlying34 (Tryd.sizeOf3 _) hx22 fun p12 hp12 => lw_op Z Z Z (ow_load (R := RInt) Z Z hp12 (Tryd.sizeOf3 _) (Tryd.isAgg3 _) fun v22 hv22 => ?_))
    obtain rfl := vint_eq hv22
    refine lw_op Z Z Z (ow_fieldAddr Z Z Tryd.underlying38 Z (Tryd.sizeOf3 _) (lw_op0 Z Z (ow_store (X := (One g)) (us := [(.int .i64 x22)]) (cs' := #[(.slice A1 x1.1.length c1), (.int .i64 x22), (.int .i64 0)]) Z Z Z Z ho119 (Tryd.sizeOf3 _) Z Z Z Z hm5 (.inl hg4) Z hC41 fun w42 ho120 hb42 hl42 hC42 => ?_)))
    have ho121 := ho117.go hb42 (fun e => hn2 e)
    have ho122 := ho118.go hb42 (fun e => hn3 e)
    refine lw_nil (ew_blockN (ew_then (cw_seq (cw_region (lw_op Z Z Z (ow_loadOwnA Z Z Z ho120 (Tryd.isAgg38 _) (Tryd.sizeOf38 _) Z ?_))))))
    have lz19 := ((((((((hl3.trans hl4).trans hl5).trans hl6).trans hl38).trans hl39).trans hl40).trans hl41).trans hl42)
    refine lw_op0 Z Z (ow_store (X := (One g)) (us := [(.slice A1 x1.1.length c1), (.int .i64 x22), (.int .i64 0)]) (cs' := #[(.slice A1 x1.1.length c1), (.int .i64 x22), (.int .i64 0)]) Z Z Z Z ho122 (Tryd.sizeOf38 _) Z Z Z Z hm4 (.inl hg2) Z hC42 fun w43 ho123 hb43 hl43 hC43 => ?_)
    have ho124 := ho121.go hb43 (fun e => hn1 e)
    refine lw_nil (ew_then (cw_ret ?_))
    have hw25 : VRep RRule w43 (Add g2 (Add g1 M)) ({ Tests := x1.1, Action := x22, Chain := 0 } : Rule) (.agg #[(.slice A1 x1.1.length c1), (.int .i64 x22), (.int .i64 0)]) := shut_Rule (VRep.mono (lz19.trans hl43) hv1)
    obtain rfl := Option.some.inj h
    exact ew_ret (res1 Z (.cell Z (own_loadVarA ho123 (Tryd.isAgg38 _) (Tryd.sizeOf38 _) Z))) ⟨_, Z, ⟨(hw25.mono hC43.back), ho124⟩, hC43.bx⟩
   ·
    obtain rfl := hbb10.trans hc10
    refine cw_false Z (cw_seq (cw_region (lw_op Z Z Z (ow_eqlI Z Z Z fun bb11 hbb11 => lw_op Z Z Z (ow_assign Z Z (lw_nil (ew_then ?_)))))))
    replace h := cond_some h
    rcases h with ⟨hc11, h⟩ | ⟨hc11, h⟩
    ·
     obtain rfl := hbb11.trans hc11
     refine cw_true Z (cw_region (lw_op Z Z Z (ow_buildSlice (R := RInt) (xs := [(-1), 5, 1]) (cs := #[(.int .i64 (-1)), (.int .i64 5), (.int .i64 1)]) (e := 3) Z Z (by kernel_rfl) Z Z ⟨_, _, Z, (vint _).cells, _, _, Z, (vint _).cells, _, _, Z, (vint _).cells, Z⟩ hC39 fun p13 w44 hw26 hb44 hl44 hC44 => ?_)))
     have ho126 := ho111.no hb44
     have ho127 := ho112.no hb44
     have ho128 := ho113.no hb44
     refine lw_op Z Z Z (ow_move Z Z ?_)
     have lz20 := (((lz17.trans hl38).trans hl39).trans hl44)
     replace h := bind_some h
     obtain ⟨x23, hx23, h⟩ := h
     refine lw_op Z Z Z (ow_call Z Z Tryd.call137 (w_spec_l20Rd_pick (hG.mono lz20) hC44.old (VRep.mono lz20 hxs) ho126 hm3 hx23) fun v23 w45 hv23 => ?_)
     obtain ⟨⟨hv23, ho129⟩, hb45⟩ := hv23
     have hl45 := Le.of_bx (Add g2 (Add g1 M)) hb45 (fun b e => (by rw [show b = g from e]; exact hm3))
     have hC45 := hC44.go hb45 (fun b e => Or.inr e)
     have ho130 := ho127.go hb45 (fun e => hn1 e.symm)
     have ho131 := ho128.go hb45 (fun e => hn2 e.symm)
     obtain rfl := vint_eq hv23
     replace h := bind_some h
     obtain ⟨x24, hx24, h⟩ := h
     refine lw_op Z Z Z (ow_indexSlice (R := RInt) Z Z Z (VRep.mono hl45 hw26) Tryd.underlying34 (Tryd.sizeOf3 _) hx24 fun p14 hp14 => lw_op Z Z Z (ow_load (R := RInt) Z Z hp14 (Tryd.sizeOf3 _) (Tryd.isAgg3 _) fun v24 hv24 => ?_))
     obtain rfl := vint_eq hv24
     refine lw_op Z Z Z (ow_fieldAddr Z Z Tryd.underlying38 Z (Tryd.sizeOf3 _) (lw_op0 Z Z (ow_store (X := (One g)) (us := [(.int .i64 x24)]) (cs' := #[(.slice A1 x1.1.length c1), (.int .i64 x3), (.int .i64 x24)]) Z Z Z Z ho131 (Tryd.sizeOf3 _) Z Z Z Z hm5 (.inl hg4) Z hC45 fun w46 ho132 hb46 hl46 hC46 => ?_)))
     have ho133 := ho129.go hb46 (fun e => hn2 e)
     have ho134 := ho130.go hb46 (fun e => hn3 e)
     refine lw_nil (ew_blockN (ew_then (cw_seq (cw_region (lw_op Z Z Z (ow_loadOwnA Z Z Z ho132 (Tryd.isAgg38 _) (Tryd.sizeOf38 _) Z ?_))))))
     have lz21 := ((((((((hl3.trans hl4).trans hl5).trans hl6).trans hl38).trans hl39).trans hl44).trans hl45).trans hl46)
     refine lw_op0 Z Z (ow_store (X := (One g)) (us := [(.slice A1 x1.1.length c1), (.int .i64 x3), (.int .i64 x24)]) (cs' := #[(.slice A1 x1.1.length c1), (.int .i64 x3), (.int .i64 x24)]) Z Z Z Z ho134 (Tryd.sizeOf38 _) Z Z Z Z hm4 (.inl hg2) Z hC46 fun w47 ho135 hb47 hl47 hC47 => ?_)
     have ho136 := ho133.go hb47 (fun e => hn1 e)
     refine lw_nil (ew_then (cw_ret ?_))
     have hw28 : VRep RRule w47 (Add g2 (Add g1 M)) ({ Tests := x1.1, Action := x3, Chain := x24 } : Rule) (.agg #[(.slice A1 x1.1.length c1), (.int .i64 x3), (.int .i64 x24)]) := shut_Rule (VRep.mono (lz21.trans hl47) hv1)
     obtain rfl := Option.some.inj h
     exact ew_ret (res1 Z (.cell Z (own_loadVarA ho135 (Tryd.isAgg38 _) (Tryd.sizeOf38 _) Z))) ⟨_, Z, ⟨(hw28.mono hC47.back), ho136⟩, hC47.bx⟩
    ·
     obtain rfl := hbb11.trans hc11
     refine cw_false Z (cw_region (lw_op Z Z Z (ow_move Z Z ?_)))
     have lz22 := ((lz17.trans hl38).trans hl39)
     replace h := bind_some h
     obtain ⟨x25, hx25, h⟩ := h
     refine lw_op Z Z Z (ow_call Z Z Tryd.call189 (w_spec_l20Tests (hG.mono lz22) hC39.old (VRep.mono lz22 hxs) ho111 hm3 hx25) fun v25 w48 hv25 => ?_)
     obtain ⟨⟨hv25, ho138⟩, hb48⟩ := hv25
     have hC48 := hC39.go hb48 (fun b e => Or.inr e)
     have ho139 := ho112.go hb48 (fun e => hn1 e.symm)
     have ho140 := ho113.go hb48 (fun e => hn2 e.symm)
     refine lw_op Z Z Z (ow_fieldAddr Z Z Tryd.underlying38 Z (Tryd.sizeOf36 _) ?_)
     obtain ⟨A4, c4, rfl, -⟩ := vslice_shape hv25
     refine lw_op0 Z Z (ow_store (X := (One g)) (us := [(.slice A4 x25.1.length c4)]) (cs' := #[(.slice A4 x25.1.length c4), (.int .i64 x3), (.int .i64 0)]) Z Z Z Z ho140 (Tryd.sizeOf36 _) Z Z Z Z hm5 (.inl hg4) Z hC48 fun w49 ho141 hb49 hl49 hC49 => ?_)
     have ho142 := ho138.go hb49 (fun e => hn2 e)
     have ho143 := ho139.go hb49 (fun e => hn3 e)
     refine lw_nil (ew_blockN (ew_then (cw_seq (cw_region (lw_op Z Z Z (ow_loadOwnA Z Z Z ho141 (Tryd.isAgg38 _) (Tryd.sizeOf38 _) Z (lw_op0 Z Z (ow_store (X := (One g)) (us := [(.slice A4 x25.1.length c4), (.int .i64 x3), (.int .i64 0)]) (cs' := #[(.slice A4 x25.1.length c4), (.int .i64 x3), (.int .i64 0)]) Z Z Z Z ho143 (Tryd.sizeOf38 _) Z Z Z Z hm4 (.inl hg2) Z hC49 fun w50 ho144 hb50 hl50 hC50 => ?_))))))))
     have ho145 := ho142.go hb50 (fun e => hn1 e)
     refine lw_nil (ew_then (cw_ret ?_))
     have hw30 : VRep RRule w50 (Add g2 (Add g1 M)) ({ Tests := x25.1, Action := x3, Chain := 0 } : Rule) (.agg #[(.slice A4 x25.1.length c4), (.int .i64 x3), (.int .i64 0)]) := shut_Rule (VRep.mono (hl49.trans hl50) hv25)
     obtain rfl := Option.some.inj h
     exact ew_ret (res1 Z (.cell Z (own_loadVarA ho144 (Tryd.isAgg38 _) (Tryd.sizeOf38 _) Z))) ⟨_, Z, ⟨(hw30.mono hC50.back), ho145⟩, hC50.bx⟩
  ·
   obtain rfl := hbb9.trans hc9
   refine cw_false Z (cw_skip (ew_then (cw_seq (cw_region (lw_op Z Z Z (ow_loadOwnA Z Z Z ho110 (Tryd.isAgg38 _) (Tryd.sizeOf38 _) Z ?_))))))
   have lz23 := ((((hl3.trans hl4).trans hl5).trans hl6).trans hl38)
   refine lw_op0 Z Z (ow_store (X := (One g)) (us := [(.slice A1 x1.1.length c1), (.int .i64 x3), (.int .i64 0)]) (cs' := #[(.slice A1 x1.1.length c1), (.int .i64 x3), (.int .i64 0)]) Z Z Z Z ho109 (Tryd.sizeOf38 _) Z Z Z Z hm4 (.inl hg2) Z hC38 fun w51 ho147 hb51 hl51 hC51 => ?_)
   have ho148 := ho108.go hb51 (fun e => hn1 e)
   refine lw_nil (ew_then (cw_ret ?_))
   have hw32 : VRep RRule w51 (Add g2 (Add g1 M)) ({ Tests := x1.1, Action := x3, Chain := 0 } : Rule) (.agg #[(.slice A1 x1.1.length c1), (.int .i64 x3), (.int .i64 0)]) := shut_Rule (VRep.mono (lz23.trans hl51) hv1)
   obtain rfl := Option.some.inj h
   exact ew_ret (res1 Z (.cell Z (own_loadVarA ho147 (Tryd.isAgg38 _) (Tryd.sizeOf38 _) Z))) ⟨_, Z, ⟨(hw32.mono hC51.back), ho148⟩, hC51.bx⟩

theorem w_spec_l20Rules {w : World} {M : Nat → Prop} (hG : ARep (RArr 4 RShape) w M shapes ⟨0, 0, none⟩) (hO : ∀ b, M b → b < w.heap.size) {g : Nat} {Ax : Option Addr} {cx : Nat} {a_xs : List Int} {a_pos : Int} (hxs : VRep (RSlice RU8) w M a_xs (.slice Ax a_xs.length cx)) (hown : Own w g 183 #[.slice Ax a_xs.length cx, .int .i64 a_pos]) (hgM : M g) {a_first : Int} {a_chains : Int} {a_n : Int} {r : ((List Rule)) × Int} (h : F.spec_l20Rules a_xs a_pos a_first a_chains a_n = some r) :
  Calls Tryd.prog 171 [(.pointer (some ⟨g, 0, none⟩)), (.int .i64 a_first), (.int .i64 a_chains), (.int .i64 a_n)].toArray w fun e w' => ∃ v, e = .returned v ∧ (VRep (RSlice RRule) w' M r.1 v ∧ Own w' g 183 #[.slice Ax a_xs.length cx, .int .i64 r.2]) ∧ BX (One g) w w' := by
 obtain ⟨i38, hi38, hz38, hs38, hy38⟩ := info38
 have hX : ∀ b, (One g) b → M b := fun b e => e ▸ hgM
 have hC : Cx (One g) w M w M := Cx.start hO hX
 refine walk (N := 46) Tryd.func171 Z Tryd.ntmps171 Z (cw_seq (cw_region (lw_op Z Z Z (ow_assign Z Z (lw_nil (ew_then (cw_seq (cw_region (lw_op Z Z Z (ow_buildSlice0 (R := RRule) (e := 38) Z (by kernel_rfl) hC fun p1 w1 M1 hr1 hb1 hl1 hC1 hM1 hat1 => ?_))))))))))
 have ho1 := hown.no hb1
 have hm1 := hM1 _ hgM
 refine lw_op Z Z Z (ow_assign Z Z (lw_nil (ew_then (cw_seq (cw_seq (cw_region (lw_op Z Z Z (ow_move Z Z ?_))))))))
 replace h := bind_some h
 obtain ⟨x1, hx1, h⟩ := h
 refine lw_op Z Z Z (ow_call Z Z Tryd.call137 (w_spec_l20Rd_pick (hG.mono hl1) hC1.old (VRep.mono hl1 hxs) ho1 hm1 hx1) fun v1 w2 hv1 => ?_)
 obtain ⟨⟨hv1, ho2⟩, hb2⟩ := hv1
 have hl2 := Le.of_bx M1 hb2 (fun b e => (by rw [show b = g from e]; exact hm1))
 have hC2 := hC1.go hb2 (fun b e => Or.inr e)
 have hr2 := hr1.go hb2 (fun k hk e => (orow_ne hr1 ho1 (by decide)) (hk.trans (congrArg some e))) hl2 (fun _ h => h)
 obtain rfl := vint_eq hv1
 refine lw_op Z Z Z (ow_assign Z Z (lw_nil (ew_then ?_)))
 replace h := bind_some h
 obtain ⟨lr1, hlr1, h⟩ := h
 refine cw_for hlr1 (fun s a w' => ∃ (M' : Nat → Prop) (v0c : Value), Fits 46 [(0, (.pointer (some ⟨g, 0, none⟩))), (1, (.int .i64 a_first)), (2, (.int .i64 a_chains)), (3, (.int .i64 a_n)), (9, v0c), (10, (.int .i64 s.2.1))] a ∧ Le w2 M1 w' M' ∧ Cx (One g) w M w' M' ∧ OwnRow RRule w.heap.size 38 w' M' s.1 v0c ∧ Own w' g 183 #[(.slice Ax a_xs.length cx), (.int .i64 s.2.2)] ∧ M' g) ?_ ?_ ?_
 ·
  intro a ha
  exact ⟨M1, (.slice (some p1) 0 0), ha.sub ⟨Z, Z, Z, Z, Z, Z, trivial⟩, Le.refl _ _, hC2, hr2, ho2, hm1⟩
 ·
  rintro ⟨y1, k1, k2⟩ a w3 sr1 ⟨M2, v2, hF1, hl3, hC3, hw1, ho3, hm2⟩ hb3 hR1
  refine cw_at (E := [(0, (.pointer (some ⟨g, 0, none⟩))), (1, (.int .i64 a_first)), (2, (.int .i64 a_chains)), (3, (.int .i64 a_n)), (9, v2), (10, (.int .i64 k1))]) hF1 (cw_seq (cw_seq (cw_region (lw_op Z Z Z (ow_move Z Z (lw_op Z Z Z (ow_gtr Z Z Z fun bb1 hbb1 => lw_nil (ew_then ?_))))))))
  replace hb3 := cond_some hb3
  rcases hb3 with ⟨hc1, hb3⟩ | ⟨hc1, hb3⟩
  ·
   obtain rfl := hbb1.trans hc1
   refine cw_true Z (cw_skip (ew_then (cw_seq (cw_block (cw_region (lw_op Z Z Z (ow_move Z Z (lw_op Z Z Z (ow_move Z Z (lw_op Z Z Z (ow_move Z Z (lw_op Z Z Z (ow_move Z Z ?_)))))))))))))
   have lz1 := ((hl1.trans hl2).trans hl3)
   replace hb3 := bind_some hb3
   obtain ⟨x2, hx2, hb3⟩ := hb3
   refine lw_op Z Z Z (ow_call Z Z Tryd.call194 (w_spec_l20Rule (hG.mono lz1) hC3.old (VRep.mono lz1 hxs) ho3 hm2 hx2) fun v5 w4 hv5 => ?_)
   obtain ⟨⟨hv5, ho4⟩, hb4⟩ := hv5
   have hl4 := Le.of_bx M2 hb4 (fun b e => (by rw [show b = g from e]; exact hm2))
   have hC4 := hC3.go hb4 (fun b e => Or.inr e)
   have hr3 := hw1.go hb4 (fun k hk e => (orow_ne hw1 ho3 (by decide)) (hk.trans (congrArg some e))) hl4 (fun _ h => h)
   obtain ⟨A1, c1, rfl, hw2⟩ := open_Rule hv5
   refine lw_op Z Z Z (ow_buildSlice (R := RRule) (xs := [x2.1]) (cs := #[(.slice A1 x2.1.Tests.length c1), (.int .i64 x2.1.Action), (.int .i64 x2.1.Chain)]) (e := 38) Z Z (by kernel_rfl) Z Z ⟨_, _, Z, hv5.cells, Z⟩ hC4 fun p2 w5 hw3 hb5 hl5 hC5 => ?_)
   have ho5 := ho4.no hb5
   have hr4 := hr3.no hb5
   replace hb3 := bind_some hb3
   obtain ⟨z1, hz1, hb3⟩ := hb3
   refine lw_op Z Z Z (ow_append (R := RRule) Z Z Z Z Tryd.underlying39 hi38 hz38 hs38 hy38 Z Z Z Z hr4 hw3 hz1 hC5 fun v6 w6 M3 hr5 hb6 hl6 hC6 hM2 hat2 => ?_)
   have ho6 := ho5.go hb6 (fun e => (orow_ne hr4 ho5 (by decide)) e)
   have hm3 := hM2 _ hm2
   refine lw_op Z Z Z (ow_assign Z Z (lw_nil (ew_blockN (ew_then (cw_region (lw_op Z Z Z (ow_move Z Z (lw_op Z Z Z (ow_sub Z Z Z (lw_op Z Z Z (ow_assign Z Z (lw_nil ?_))))))))))))
   have lz2 := (((hl3.trans hl4).trans hl5).trans hl6)
   exact ew_nxt (z1, (W (k1 - 1)), x2.2) hb3 fun a ha => ⟨M3, v6, (ha.sub ⟨Z, Z, Z, Z, Z, Z, trivial⟩), lz2, hC6, hr5, ho6, hm3⟩
  ·
   obtain rfl := hbb1.trans hc1
   exact cw_false Z (cw_exit (ew_thenX (ew_thenX (ew_blockX (ew_brk (y1, k1, k2) hb3 fun a ha => ⟨M2, v2, (ha.sub ⟨Z, Z, Z, Z, Z, Z, trivial⟩), hl3, hC3, hw1, ho3, hm2⟩)))))
 ·
  rintro ⟨y2, k3, k4⟩ a w7 hlr2 ⟨M4, v7, hF2, hl7, hC7, hw4, ho7, hm4⟩
  subst hlr2
  refine ew_at (E := [(0, (.pointer (some ⟨g, 0, none⟩))), (1, (.int .i64 a_first)), (2, (.int .i64 a_chains)), (3, (.int .i64 a_n)), (9, v7), (10, (.int .i64 k3))]) hF2 (ew_then (cw_seq (cw_seq (cw_region (lw_op Z Z Z (ow_move Z Z (lw_op Z Z Z (ow_move Z Z ?_))))))))
  have lz3 := ((hl1.trans hl2).trans hl7)
  replace h := bind_some h
  obtain ⟨x3, hx3, h⟩ := h
  refine lw_op Z Z Z (ow_call Z Z Tryd.call172 (w_spec_l20Rd_odd (hG.mono lz3) hC7.old (VRep.mono lz3 hxs) ho7 hm4 hx3) fun v10 w8 hv10 => ?_)
  obtain ⟨⟨hv10, ho8⟩, hb7⟩ := hv10
  have hl8 := Le.of_bx M4 hb7 (fun b e => (by rw [show b = g from e]; exact hm4))
  have hC8 := hC7.go hb7 (fun b e => Or.inr e)
  have hr6 := hw4.go hb7 (fun k hk e => (orow_ne hw4 ho7 (by decide)) (hk.trans (congrArg some e))) hl8 (fun _ h => h)
  obtain ⟨bb2, hbb2, rfl⟩ := vbool_ex hv10
  refine lw_nil (ew_then ?_)
  replace h := cond_some h
  rcases h with ⟨hc2, h⟩ | ⟨hc2, h⟩
  ·
   obtain rfl := hbb2.trans hc2
   refine cw_true Z (cw_seq (cw_region (lw_op Z Z Z (ow_move Z Z ?_))))
   replace h := bind_some h
   obtain ⟨x4, hx4, h⟩ := h
   refine lw_op Z Z Z (ow_call Z Z Tryd.call137 (w_spec_l20Rd_pick (hG.mono (lz3.trans hl8)) hC8.old (VRep.mono (lz3.trans hl8) hxs) ho8 hm4 hx4) fun v11 w9 hv11 => ?_)
   obtain ⟨⟨hv11, ho9⟩, hb8⟩ := hv11
   have hl9 := Le.of_bx M4 hb8 (fun b e => (by rw [show b = g from e]; exact hm4))
   have hC9 := hC8.go hb8 (fun b e => Or.inr e)
   have hr7 := hr6.go hb8 (fun k hk e => (orow_ne hr6 ho8 (by decide)) (hk.trans (congrArg some e))) hl9 (fun _ h => h)
   obtain rfl := vint_eq hv11
   refine lw_op Z Z Z (ow_eqlI Z Z Z fun bb3 hbb3 => lw_nil (ew_then ?_))
   replace h := cond_some h
   rcases h with ⟨hc3, h⟩ | ⟨hc3, h⟩
   ·
    obtain rfl := hbb3.trans hc3
    refine cw_true Z (cw_region (lw_op Z Z Z (ow_move Z Z (lw_op Z Z Z (ow_move Z Z (lw_op Z Z Z (ow_move Z Z (lw_op Z Z Z (ow_move Z Z ?_)))))))))
    have lz4 := ((lz3.trans hl8).trans hl9)
    replace h := bind_some h
    obtain ⟨x5, hx5, h⟩ := h
    refine lw_op Z Z Z (ow_call Z Z Tryd.call194 (w_spec_l20Rule (hG.mono lz4) hC9.old (VRep.mono lz4 hxs) ho9 hm4 hx5) fun v12 w10 hv12 => ?_)
    obtain ⟨⟨hv12, ho10⟩, hb9⟩ := hv12
    have hl10 := Le.of_bx M4 hb9 (fun b e => (by rw [show b = g from e]; exact hm4))
    have hC10 := hC9.go hb9 (fun b e => Or.inr e)
    have hr8 := hr7.go hb9 (fun k hk e => (orow_ne hr7 ho9 (by decide)) (hk.trans (congrArg some e))) hl10 (fun _ h => h)
    obtain ⟨A2, c2, rfl, hw5⟩ := open_Rule hv12
    refine lw_op Z Z Z (ow_buildSlice (R := RRule) (xs := [x5.1]) (cs := #[(.slice A2 x5.1.Tests.length c2), (.int .i64 x5.1.Action), (.int .i64 x5.1.Chain)]) (e := 38) Z Z (by kernel_rfl) Z Z ⟨_, _, Z, hv12.cells, Z⟩ hC10 fun p3 w11 hw6 hb10 hl11 hC11 => ?_)
    have ho11 := ho10.no hb10
    have hr9 := hr8.no hb10
    replace h := bind_some h
    obtain ⟨z2, hz2, h⟩ := h
    refine lw_op Z Z Z (ow_append (R := RRule) Z Z Z Z Tryd.underlying39 hi38 hz38 hs38 hy38 Z Z Z Z hr9 hw6 hz2 hC11 fun v13 w12 M5 hr10 hb11 hl12 hC12 hM3 hat3 => ?_)
    have ho12 := ho11.go hb11 (fun e => (orow_ne hr9 ho11 (by decide)) e)
    refine lw_op Z Z Z (ow_assign Z Z (lw_nil (ew_then (cw_seq (cw_region (lw_op Z Z Z (ow_move Z Z (lw_op Z Z Z (ow_assign Z Z (lw_nil (ew_then (cw_ret ?_))))))))))))
    obtain rfl := Option.some.inj h
    exact ew_ret (res1 Z (.tmp Z)) ⟨_, Z, ⟨(hr10.freezeBack hC12 hO), ho12⟩, hC12.bx⟩
   ·
    obtain rfl := hbb3.trans hc3
    refine cw_false Z ?_
    replace h := bind_some h
    obtain ⟨lr2, hlr3, h⟩ := h
    refine cw_for hlr3 (fun s a w' => ∃ (M' : Nat → Prop) (v0c : Value), Fits 46 [(9, v0c)] a ∧ Le w9 M4 w' M' ∧ Cx (One g) w M w' M' ∧ OwnRow RRule w.heap.size 38 w' M' s v0c ∧ Own w' g 183 #[(.slice Ax a_xs.length cx), (.int .i64 x4.2)] ∧ M' g) ?_ ?_ ?_
    ·
     intro a ha
     exact ⟨M4, v7, ha.sub ⟨Z, trivial⟩, Le.refl _ _, hC9, hr7, ho9, hm4⟩
    ·
     rintro y3 a w13 sr2 ⟨M6, v14, hF3, hl13, hC13, hw7, ho13, hm6⟩ hb12 hR2
     refine cw_at (E := [(9, v14)]) hF3 (cw_seq (cw_seq (cw_region (lw_op Z Z Z (ow_move Z Z (lw_op Z Z Z (ow_lenOwn Z Z hw7 Tryd.underlying39 (lw_op Z Z Z (ow_leq Z Z Z fun bb4 hbb4 => lw_nil (ew_then ?_))))))))))
     replace hb12 := cond_some hb12
     rcases hb12 with ⟨hc4, hb12⟩ | ⟨hc4, hb12⟩
     ·
      obtain rfl := hbb4.trans hc4
      refine cw_true Z (cw_skip (ew_then (cw_block (cw_region (lw_op Z Z Z (ow_move Z Z (lw_op Z Z Z (ow_build (v := .agg #[(.slice none 0 0), (.int .i64 5), (.int .i64 0)]) Z Z (by kernel_rfl) ?_))))))))
      have hw8 : VRep RRule w13 M6 ({ Tests := ([] : List Test), Action := 5, Chain := 0 } : Rule) (.agg #[(.slice none 0 0), (.int .i64 5), (.int .i64 0)]) := shut_Rule (vslice_nil (R := RTest) (w := w13) (M := M6))
      refine lw_op Z Z Z (ow_buildSlice (R := RRule) (xs := [({ Tests := ([] : List Test), Action := 5, Chain := 0 } : Rule)]) (cs := #[(.slice none 0 0), (.int .i64 5), (.int .i64 0)]) (e := 38) Z Z (by kernel_rfl) Z Z ⟨_, _, Z, hw8.cells, Z⟩ hC13 fun p4 w14 hw9 hb13 hl14 hC14 => ?_)
      have ho14 := ho13.no hb13
      have hr11 := hw7.no hb13
      replace hb12 := bind_some hb12
      obtain ⟨z3, hz3, hb12⟩ := hb12
      refine lw_op Z Z Z (ow_append (R := RRule) Z Z Z Z Tryd.underlying39 hi38 hz38 hs38 hy38 Z Z Z Z hr11 hw9 hz3 hC14 fun v15 w15 M7 hr12 hb14 hl15 hC15 hM4 hat4 => ?_)
      have ho15 := ho14.go hb14 (fun e => (orow_ne hr11 ho14 (by decide)) e)
      have hm7 := hM4 _ hm6
      refine lw_op Z Z Z (ow_assign Z Z (lw_nil (ew_blockN ?_)))
      have lz5 := ((hl13.trans hl14).trans hl15)
      exact ew_nxt z3 hb12 fun a ha => ⟨M7, v15, (ha.sub ⟨Z, trivial⟩), lz5, hC15, hr12, ho15, hm7⟩
     ·
      obtain rfl := hbb4.trans hc4
      exact cw_false Z (cw_exit (ew_thenX (ew_thenX (ew_blockX (ew_brk y3 hb12 fun a ha => ⟨M6, v14, (ha.sub ⟨Z, trivial⟩), hl13, hC13, hw7, ho13, hm6⟩)))))
    ·
     rintro y4 a w16 hlr4 ⟨M8, v16, hF4, hl16, hC16, hw10, ho16, hm8⟩
     subst hlr4
     refine ew_at (E := [(9, v16)]) hF4 (ew_then (cw_seq (cw_region (lw_op Z Z Z (ow_move Z Z (lw_op Z Z Z (ow_assign Z Z (lw_nil (ew_then (cw_ret ?_))))))))))
     obtain rfl := Option.some.inj h
     exact ew_ret (res1 Z (.tmp Z)) ⟨_, Z, ⟨(hw10.freezeBack hC16 hO), ho16⟩, hC16.bx⟩
  ·
   obtain rfl := hbb2.trans hc2
   refine cw_false Z (cw_skip (ew_then (cw_seq (cw_region (lw_op Z Z Z (ow_move Z Z (lw_op Z Z Z (ow_assign Z Z (lw_nil (ew_then (cw_ret ?_)))))))))))
   obtain rfl := Option.some.inj h
   exact ew_ret (res1 Z (.tmp Z)) ⟨_, Z, ⟨(hr6.freezeBack hC8 hO), ho8⟩, hC8.bx⟩

theorem wo_spec_l20Rules {w : World} {M : Nat → Prop} (hG : ARep (RArr 4 RShape) w M shapes ⟨0, 0, none⟩) (hO : ∀ b, M b → b < w.heap.size) {g : Nat} {Ax : Option Addr} {cx : Nat} {a_xs : List Int} {a_pos : Int} (hxs : VRep (RSlice RU8) w M a_xs (.slice Ax a_xs.length cx)) (hown : Own w g 183 #[.slice Ax a_xs.length cx, .int .i64 a_pos]) (hgM : M g) {a_first : Int} {a_chains : Int} {a_n : Int} {r : ((List Rule)) × Int} (h : F.spec_l20Rules a_xs a_pos a_first a_chains a_n = some r) :
  Calls Tryd.prog 171 [(.pointer (some ⟨g, 0, none⟩)), (.int .i64 a_first), (.int .i64 a_chains), (.int .i64 a_n)].toArray w fun e w' => ∃ v, e = .returned v ∧ ((∃ M', OwnRow RRule w.heap.size 38 w' M' r.1 v ∧ Cx (One g) w M w' M') ∧ Own w' g 183 #[.slice Ax a_xs.length cx, .int .i64 r.2]) ∧ BX (One g) w w' := by
 obtain ⟨i38, hi38, hz38, hs38, hy38⟩ := info38
 have hX : ∀ b, (One g) b → M b := fun b e => e ▸ hgM
 have hC : Cx (One g) w M w M := Cx.start hO hX
 refine walk (N := 46) Tryd.func171 Z Tryd.ntmps171 Z (cw_seq (cw_region (lw_op Z Z Z (ow_assign Z Z (lw_nil (ew_then (cw_seq (cw_region (lw_op Z Z Z (ow_buildSlice0 (R := RRule) (e := 38) Z (by kernel_rfl) hC fun p1 w1 M1 hr1 hb1 hl1 hC1 hM1 hat1 => ?_))))))))))
 have ho1 := hown.no hb1
 have hm1 := hM1 _ hgM
 refine lw_op Z Z Z (ow_assign Z Z (lw_nil (ew_then (cw_seq (cw_seq (cw_region (lw_op Z Z Z (ow_move Z Z ?_))))))))
 replace h := bind_some h
 obtain ⟨x1, hx1, h⟩ := h
 refine lw_op Z Z Z (ow_call Z Z Tryd.call137 (w_spec_l20Rd_pick (hG.mono hl1) hC1.old (VRep.mono hl1 hxs) ho1 hm1 hx1) fun v1 w2 hv1 => ?_)
 obtain ⟨⟨hv1, ho2⟩, hb2⟩ := hv1
 have hl2 := Le.of_bx M1 hb2 (fun b e => (by rw [show b = g from e]; exact hm1))
 have hC2 := hC1.go hb2 (fun b e => Or.inr e)
 have hr2 := hr1.go hb2 (fun k hk e => (orow_ne hr1 ho1 (by decide)) (hk.trans (congrArg some e))) hl2 (fun _ h => h)
 obtain rfl := vint_eq hv1
 refine lw_op Z Z Z (ow_assign Z Z (lw_nil (ew_then ?_)))
 replace h := bind_some h
 obtain ⟨lr1, hlr1, h⟩ := h
 refine cw_for hlr1 (fun s a w' => ∃ (M' : Nat → Prop) (v0c : Value), Fits 46 [(0, (.pointer (some ⟨g, 0, none⟩))), (1, (.int .i64 a_first)), (2, (.int .i64 a_chains)), (3, (.int .i64 a_n)), (9, v0c), (10, (.int .i64 s.2.1))] a ∧ Le w2 M1 w' M' ∧ Cx (One g) w M w' M' ∧ OwnRow RRule w.heap.size 38 w' M' s.1 v0c ∧ Own w' g 183 #[(.slice Ax a_xs.length cx), (.int .i64 s.2.2)] ∧ M' g) ?_ ?_ ?_
 ·
  intro a ha
  exact ⟨M1, (.slice (some p1) 0 0), ha.sub ⟨Z, Z, Z, Z, Z, Z, trivial⟩, Le.refl _ _, hC2, hr2, ho2, hm1⟩
 ·
  rintro ⟨y1, k1, k2⟩ a w3 sr1 ⟨M2, v2, hF1, hl3, hC3, hw1, ho3, hm2⟩ hb3 hR1
  refine cw_at (E := [(0, (.pointer (some ⟨g, 0, none⟩))), (1, (.int .i64 a_first)), (2, (.int .i64 a_chains)), (3, (.int .i64 a_n)), (9, v2), (10, (.int .i64 k1))]) hF1 (cw_seq (cw_seq (cw_region (lw_op Z Z Z (ow_move Z Z (lw_op Z Z Z (ow_gtr Z Z Z fun bb1 hbb1 => lw_nil (ew_then ?_))))))))
  replace hb3 := cond_some hb3
  rcases hb3 with ⟨hc1, hb3⟩ | ⟨hc1, hb3⟩
  ·
   obtain rfl := hbb1.trans hc1
   refine cw_true Z (cw_skip (ew_then (cw_seq (cw_block (cw_region (lw_op Z Z Z (ow_move Z Z (lw_op Z Z Z (ow_move Z Z (lw_op Z Z Z (ow_move Z Z (lw_op Z Z Z (ow_move Z Z ?_)))))))))))))
   have lz1 := ((hl1.trans hl2).trans hl3)
   replace hb3 := bind_some hb3
   obtain ⟨x2, hx2, hb3⟩ := hb3
   refine lw_op Z Z Z (ow_call Z Z Tryd.call194 (w_spec_l20Rule (hG.mono lz1) hC3.old (VRep.mono lz1 hxs) ho3 hm2 hx2) fun v5 w4 hv5 => ?_)
   obtain ⟨⟨hv5, ho4⟩, hb4⟩ := hv5
   have hl4 := Le.of_bx M2 hb4 (fun b e => (by rw [show b = g from e]; exact hm2))
   have hC4 := hC3.go hb4 (fun b e => Or.inr e)
   have hr3 := hw1.go hb4 (fun k hk e => (orow_ne hw1 ho3 (by decide)) (hk.trans (congrArg some e))) hl4 (fun _ h => h)
   obtain ⟨A1, c1, rfl, hw2⟩ := open_Rule hv5
   refine lw_op Z Z Z (ow_buildSlice (R := RRule) (xs := [x2.1]) (cs := #[(.slice A1 x2.1.Tests.length c1), (.int .i64 x2.1.Action), (.int .i64 x2.1.Chain)]) (e := 38) Z Z (by kernel_rfl) Z Z ⟨_, _, Z, hv5.cells, Z⟩ hC4 fun p2 w5 hw3 hb5 hl5 hC5 => ?_)
   have ho5 := ho4.no hb5
   have hr4 := hr3.no hb5
   replace hb3 := bind_some hb3
   obtain ⟨z1, hz1, hb3⟩ := hb3
   refine lw_op Z Z Z (ow_append (R := RRule) Z Z Z Z Tryd.underlying39 hi38 hz38 hs38 hy38 Z Z Z Z hr4 hw3 hz1 hC5 fun v6 w6 M3 hr5 hb6 hl6 hC6 hM2 hat2 => ?_)
   have ho6 := ho5.go hb6 (fun e => (orow_ne hr4 ho5 (by decide)) e)
   have hm3 := hM2 _ hm2
   refine lw_op Z Z Z (ow_assign Z Z (lw_nil (ew_blockN (ew_then (cw_region (lw_op Z Z Z (ow_move Z Z (lw_op Z Z Z (ow_sub Z Z Z (lw_op Z Z Z (ow_assign Z Z (lw_nil ?_))))))))))))
   have lz2 := (((hl3.trans hl4).trans hl5).trans hl6)
   exact ew_nxt (z1, (W (k1 - 1)), x2.2) hb3 fun a ha => ⟨M3, v6, (ha.sub ⟨Z, Z, Z, Z, Z, Z, trivial⟩), lz2, hC6, hr5, ho6, hm3⟩
  ·
   obtain rfl := hbb1.trans hc1
   exact cw_false Z (cw_exit (ew_thenX (ew_thenX (ew_blockX (ew_brk (y1, k1, k2) hb3 fun a ha => ⟨M2, v2, (ha.sub ⟨Z, Z, Z, Z, Z, Z, trivial⟩), hl3, hC3, hw1, ho3, hm2⟩)))))
 ·
  rintro ⟨y2, k3, k4⟩ a w7 hlr2 ⟨M4, v7, hF2, hl7, hC7, hw4, ho7, hm4⟩
  subst hlr2
  refine ew_at (E := [(0, (.pointer (some ⟨g, 0, none⟩))), (1, (.int .i64 a_first)), (2, (.int .i64 a_chains)), (3, (.int .i64 a_n)), (9, v7), (10, (.int .i64 k3))]) hF2 (ew_then (cw_seq (cw_seq (cw_region (lw_op Z Z Z (ow_move Z Z (lw_op Z Z Z (ow_move Z Z ?_))))))))
  have lz3 := ((hl1.trans hl2).trans hl7)
  replace h := bind_some h
  obtain ⟨x3, hx3, h⟩ := h
  refine lw_op Z Z Z (ow_call Z Z Tryd.call172 (w_spec_l20Rd_odd (hG.mono lz3) hC7.old (VRep.mono lz3 hxs) ho7 hm4 hx3) fun v10 w8 hv10 => ?_)
  obtain ⟨⟨hv10, ho8⟩, hb7⟩ := hv10
  have hl8 := Le.of_bx M4 hb7 (fun b e => (by rw [show b = g from e]; exact hm4))
  have hC8 := hC7.go hb7 (fun b e => Or.inr e)
  have hr6 := hw4.go hb7 (fun k hk e => (orow_ne hw4 ho7 (by decide)) (hk.trans (congrArg some e))) hl8 (fun _ h => h)
  obtain ⟨bb2, hbb2, rfl⟩ := vbool_ex hv10
  refine lw_nil (ew_then ?_)
  replace h := cond_some h
  rcases h with ⟨hc2, h⟩ | ⟨hc2, h⟩
  ·
   obtain rfl := hbb2.trans hc2
   refine cw_true Z (cw_seq (cw_region (lw_op Z Z Z (ow_move Z Z ?_))))
   replace h := bind_some h
   obtain ⟨x4, hx4, h⟩ := h
   refine lw_op Z Z Z (ow_call Z Z Tryd.call137 (w_spec_l20Rd_pick (hG.mono (lz3.trans hl8)) hC8.old (VRep.mono (lz3.trans hl8) hxs) ho8 hm4 hx4) fun v11 w9 hv11 => ?_)
   obtain ⟨⟨hv11, ho9⟩, hb8⟩ := hv11
   have hl9 := Le.of_bx M4 hb8 (fun b e => (by rw [show b = g from e]; exact hm4))
   have hC9 := hC8.go hb8 (fun b e => Or.inr e)
   have hr7 := hr6.go hb8 (fun k hk e => (orow_ne hr6 ho8 (by decide)) (hk.trans (congrArg some e))) hl9 (fun _ h => h)
   obtain rfl := vint_eq hv11
   refine lw_op Z Z Z (ow_eqlI Z Z Z fun bb3 hbb3 => lw_nil (ew_then ?_))
   replace h := cond_some h
   rcases h with ⟨hc3, h⟩ | ⟨hc3, h⟩
   ·
    obtain rfl := hbb3.trans hc3
    refine cw_true Z (cw_region (lw_op Z Z Z (ow_move Z Z (lw_op Z Z Z (ow_move Z Z (lw_op Z Z Z (ow_move Z Z (lw_op Z Z Z (ow_move Z Z ?_)))))))))
    have lz4 := ((lz3.trans hl8).trans hl9)
    replace h := bind_some h
    obtain ⟨x5, hx5, h⟩ := h
    refine lw_op Z Z Z (ow_call Z Z Tryd.call194 (w_spec_l20Rule (hG.mono lz4) hC9.old (VRep.mono lz4 hxs) ho9 hm4 hx5) fun v12 w10 hv12 => ?_)
    obtain ⟨⟨hv12, ho10⟩, hb9⟩ := hv12
    have hl10 := Le.of_bx M4 hb9 (fun b e => (by rw [show b = g from e]; exact hm4))
    have hC10 := hC9.go hb9 (fun b e => Or.inr e)
    have hr8 := hr7.go hb9 (fun k hk e => (orow_ne hr7 ho9 (by decide)) (hk.trans (congrArg some e))) hl10 (fun _ h => h)
    obtain ⟨A2, c2, rfl, hw5⟩ := open_Rule hv12
    refine lw_op Z Z Z (ow_buildSlice (R := RRule) (xs := [x5.1]) (cs := #[(.slice A2 x5.1.Tests.length c2), (.int .i64 x5.1.Action), (.int .i64 x5.1.Chain)]) (e := 38) Z Z (by kernel_rfl) Z Z ⟨_, _, Z, hv12.cells, Z⟩ hC10 fun p3 w11 hw6 hb10 hl11 hC11 => ?_)
    have ho11 := ho10.no hb10
    have hr9 := hr8.no hb10
    replace h := bind_some h
    obtain ⟨z2, hz2, h⟩ := h
    refine lw_op Z Z Z (ow_append (R := RRule) Z Z Z Z Tryd.underlying39 hi38 hz38 hs38 hy38 Z Z Z Z hr9 hw6 hz2 hC11 fun v13 w12 M5 hr10 hb11 hl12 hC12 hM3 hat3 => ?_)
    have ho12 := ho11.go hb11 (fun e => (orow_ne hr9 ho11 (by decide)) e)
    refine lw_op Z Z Z (ow_assign Z Z (lw_nil (ew_then (cw_seq (cw_region (lw_op Z Z Z (ow_move Z Z (lw_op Z Z Z (ow_assign Z Z (lw_nil (ew_then (cw_ret ?_))))))))))))
    obtain rfl := Option.some.inj h
    exact ew_ret (res1 Z (.tmp Z)) ⟨_, Z, ⟨⟨M5, hr10, hC12⟩, ho12⟩, hC12.bx⟩
   ·
    obtain rfl := hbb3.trans hc3
    refine cw_false Z ?_
    replace h := bind_some h
    obtain ⟨lr2, hlr3, h⟩ := h
    refine cw_for hlr3 (fun s a w' => ∃ (M' : Nat → Prop) (v0c : Value), Fits 46 [(9, v0c)] a ∧ Le w9 M4 w' M' ∧ Cx (One g) w M w' M' ∧ OwnRow RRule w.heap.size 38 w' M' s v0c ∧ Own w' g 183 #[(.slice Ax a_xs.length cx), (.int .i64 x4.2)] ∧ M' g) ?_ ?_ ?_
    ·
     intro a ha
     exact ⟨M4, v7, ha.sub ⟨Z, trivial⟩, Le.refl _ _, hC9, hr7, ho9, hm4⟩
    ·
     rintro y3 a w13 sr2 ⟨M6, v14, hF3, hl13, hC13, hw7, ho13, hm6⟩ hb12 hR2
     refine cw_at (E := [(9, v14)]) hF3 (cw_seq (cw_seq (cw_region (lw_op Z Z Z (ow_move Z Z (lw_op Z Z Z (ow_lenOwn Z Z hw7 Tryd.underlying39 (lw_op Z Z Z (ow_leq Z Z Z fun bb4 hbb4 => lw_nil (ew_then ?_))))))))))
     replace hb12 := cond_some hb12
     rcases hb12 with ⟨hc4, hb12⟩ | ⟨hc4, hb12⟩
     ·
      obtain rfl := hbb4.trans hc4
      refine cw_true Z (cw_skip (ew_then (cw_block (cw_region (lw_op Z Z Z (ow_move Z Z (lw_op Z Z Z (ow_build (v := .agg #[(.slice none 0 0), (.int .i64 5), (.int .i64 0)]) Z Z (by kernel_rfl) ?_))))))))
      have hw8 : VRep RRule w13 M6 ({ Tests := ([] : List Test), Action := 5, Chain := 0 } : Rule) (.agg #[(.slice none 0 0), (.int .i64 5), (.int .i64 0)]) := shut_Rule (vslice_nil (R := RTest) (w := w13) (M := M6))
      refine lw_op Z Z Z (ow_buildSlice (R := RRule) (xs := [({ Tests := ([] : List Test), Action := 5, Chain := 0 } : Rule)]) (cs := #[(.slice none 0 0), (.int .i64 5), (.int .i64 0)]) (e := 38) Z Z (by kernel_rfl) Z Z ⟨_, _, Z, hw8.cells, Z⟩ hC13 fun p4 w14 hw9 hb13 hl14 hC14 => ?_)
      have ho14 := ho13.no hb13
      have hr11 := hw7.no hb13
      replace hb12 := bind_some hb12
      obtain ⟨z3, hz3, hb12⟩ := hb12
      refine lw_op Z Z Z (ow_append (R := RRule) Z Z Z Z Tryd.underlying39 hi38 hz38 hs38 hy38 Z Z Z Z hr11 hw9 hz3 hC14 fun v15 w15 M7 hr12 hb14 hl15 hC15 hM4 hat4 => ?_)
      have ho15 := ho14.go hb14 (fun e => (orow_ne hr11 ho14 (by decide)) e)
      have hm7 := hM4 _ hm6
      refine lw_op Z Z Z (ow_assign Z Z (lw_nil (ew_blockN ?_)))
      have lz5 := ((hl13.trans hl14).trans hl15)
      exact ew_nxt z3 hb12 fun a ha => ⟨M7, v15, (ha.sub ⟨Z, trivial⟩), lz5, hC15, hr12, ho15, hm7⟩
     ·
      obtain rfl := hbb4.trans hc4
      exact cw_false Z (cw_exit (ew_thenX (ew_thenX (ew_blockX (ew_brk y3 hb12 fun a ha => ⟨M6, v14, (ha.sub ⟨Z, trivial⟩), hl13, hC13, hw7, ho13, hm6⟩)))))
    ·
     rintro y4 a w16 hlr4 ⟨M8, v16, hF4, hl16, hC16, hw10, ho16, hm8⟩
     subst hlr4
     refine ew_at (E := [(9, v16)]) hF4 (ew_then (cw_seq (cw_region (lw_op Z Z Z (ow_move Z Z (lw_op Z Z Z (ow_assign Z Z (lw_nil (ew_then (cw_ret ?_))))))))))
     obtain rfl := Option.some.inj h
     exact ew_ret (res1 Z (.tmp Z)) ⟨_, Z, ⟨⟨M8, hw10, hC16⟩, ho16⟩, hC16.bx⟩
  ·
   obtain rfl := hbb2.trans hc2
   refine cw_false Z (cw_skip (ew_then (cw_seq (cw_region (lw_op Z Z Z (ow_move Z Z (lw_op Z Z Z (ow_assign Z Z (lw_nil (ew_then (cw_ret ?_)))))))))))
   obtain rfl := Option.some.inj h
   exact ew_ret (res1 Z (.tmp Z)) ⟨_, Z, ⟨⟨M4, hr6, hC8⟩, ho8⟩, hC8.bx⟩

theorem w_spec_l20Ruleset {w : World} {M : Nat → Prop} (hG : ARep (RArr 4 RShape) w M shapes ⟨0, 0, none⟩) (hO : ∀ b, M b → b < w.heap.size) {g : Nat} {Ax : Option Addr} {cx : Nat} {a_xs : List Int} {a_pos : Int} (hxs : VRep (RSlice RU8) w M a_xs (.slice Ax a_xs.length cx)) (hown : Own w g 183 #[.slice Ax a_xs.length cx, .int .i64 a_pos]) (hgM : M g) {a_n : Int} {r : Ruleset × Int} (h : F.spec_l20Ruleset a_xs a_pos a_n = some r) :
  Calls Tryd.prog 136 [(.pointer (some ⟨g, 0, none⟩)), (.int .i64 a_n)].toArray w fun e w' => ∃ v, e = .returned v ∧ (VRep RRuleset w' M r.1 v ∧ Own w' g 183 #[.slice Ax a_xs.length cx, .int .i64 r.2]) ∧ BX (One g) w w' := by
 obtain ⟨i38, hi38, hz38, hs38, hy38⟩ := info38
 obtain ⟨i39, hi39, hz39, hs39, hy39⟩ := info39
 have hX : ∀ b, (One g) b → M b := fun b e => e ▸ hgM
 have hC : Cx (One g) w M w M := Cx.start hO hX
 refine walk (N := 80) Tryd.func136 Z Tryd.ntmps136 Z (cw_seq (cw_region (lw_op Z Z Z (ow_alloc Z (Tryd.zeroValue25 _) hC fun g1 w1 hg1 hg2 ho1 hb1 hl1 hC1 => ?_))))
 have hn1 := Nat.ne_of_lt (Nat.lt_of_lt_of_le hown.lt hg1)
 have ho2 := hown.no hb1
 have hm1 : (Add g1 M) g := .inr hgM
 have hm2 : (Add g1 M) g1 := .inl Z
 refine lw_nil (ew_then (cw_seq (cw_region (lw_op Z Z Z (ow_move Z Z ?_)))))
 replace h := bind_some h
 obtain ⟨x1, hx1, h⟩ := h
 refine lw_op Z Z Z (ow_call Z Z Tryd.call137 (w_spec_l20Rd_pick (hG.mono hl1) hC1.old (VRep.mono hl1 hxs) ho2 hm1 hx1) fun v1 w2 hv1 => ?_)
 obtain ⟨⟨hv1, ho3⟩, hb2⟩ := hv1
 have hl2 := Le.of_bx (Add g1 M) hb2 (fun b e => (by rw [show b = g from e]; exact hm1))
 have hC2 := hC1.go hb2 (fun b e => Or.inr e)
 have ho4 := ho1.go hb2 (fun e => hn1 e.symm)
 obtain rfl := vint_eq hv1
 refine lw_op Z Z Z (ow_eqlI Z Z Z fun bb1 hbb1 => lw_op Z Z Z (ow_build (v := .agg #[(.slice none 0 0), (.bool bb1)]) Z Z (by kernel_rfl) (lw_op Z Z Z (ow_alloc Z (Tryd.zeroValue25 _) hC2 fun g2 w3 hg3 hg4 ho5 hb3 hl3 hC3 => ?_))))
 have hn2 := Nat.ne_of_lt (Nat.lt_of_lt_of_le ho3.lt hg3)
 have ho6 := ho3.no hb3
 have hm3 : (Add g2 (Add g1 M)) g := .inr hm1
 have hn3 := Nat.ne_of_lt (Nat.lt_of_lt_of_le ho4.lt hg3)
 have ho7 := ho4.no hb3
 have hm4 : (Add g2 (Add g1 M)) g1 := .inr hm2
 have hm5 : (Add g2 (Add g1 M)) g2 := .inl Z
 refine lw_op0 Z Z (ow_store (X := (One g)) (us := [(.slice none 0 0), (.bool bb1)]) (cs' := #[(.slice none 0 0), (.bool bb1)]) Z Z Z Z ho5 (Tryd.sizeOf25 _) Z Z Z Z hm5 (.inl hg4) Z hC3 fun w4 ho8 hb4 hl4 hC4 => ?_)
 have ho9 := ho6.go hb4 (fun e => hn2 e)
 have ho10 := ho7.go hb4 (fun e => hn3 e)
 refine lw_nil (ew_then (cw_seq (cw_region (lw_op Z Z Z (ow_move Z Z ?_)))))
 have lz1 := (((hl1.trans hl2).trans hl3).trans hl4)
 replace h := bind_some h
 obtain ⟨x2, hx2, h⟩ := h
 refine lw_op Z Z Z (ow_call Z Z Tryd.call137 (w_spec_l20Rd_pick (hG.mono lz1) hC4.old (VRep.mono lz1 hxs) ho9 hm3 hx2) fun v2 w5 hv2 => ?_)
 obtain ⟨⟨hv2, ho11⟩, hb5⟩ := hv2
 have hl5 := Le.of_bx (Add g2 (Add g1 M)) hb5 (fun b e => (by rw [show b = g from e]; exact hm3))
 have hC5 := hC4.go hb5 (fun b e => Or.inr e)
 have ho12 := ho10.go hb5 (fun e => hn1 e.symm)
 have ho13 := ho8.go hb5 (fun e => hn2 e.symm)
 obtain rfl := vint_eq hv2
 refine lw_op Z Z Z (ow_add Z Z Z (lw_op Z Z Z (ow_assign Z Z (lw_nil (ew_then (cw_seq (cw_seq (cw_region (lw_op Z Z Z (ow_assign Z Z (lw_nil (ew_then ?_))))))))))))
 have hr1 : HRow RRule w.heap.size 39 38 w5 (Add g2 (Add g1 M)) ([] : List (List Rule)) (.slice none 0 0) := hrow_nil
 replace h := bind_some h
 obtain ⟨lr1, hlr1, h⟩ := h
 refine cw_for hlr1 (fun s a w' => ∃ (M' : Nat → Prop) (v2c : Value), Fits 80 [(0, (.pointer (some ⟨g, 0, none⟩))), (1, (.int .i64 a_n)), (4, (.pointer (some ⟨g1, 0, none⟩))), (5, (.pointer (some ⟨g2, 0, none⟩))), (6, (.int .i64 (W (1 + x2.1)))), (7, (.int .i64 s.1))] a ∧ Le w5 (Add g2 (Add g1 M)) w' M' ∧ Cx (One g) w M w' M' ∧ HRow RRule w.heap.size 39 38 w' M' s.2.2 v2c ∧ Own w' g 183 #[(.slice Ax a_xs.length cx), (.int .i64 s.2.1)] ∧ M' g ∧ Own w' g1 25 #[(.slice none 0 0), (.bool false)] ∧ M' g1 ∧ Own w' g2 25 #[v2c, (.bool bb1)] ∧ M' g2) ?_ ?_ ?_
 ·
  intro a ha
  exact ⟨(Add g2 (Add g1 M)), (.slice none 0 0), ha.sub ⟨Z, Z, Z, Z, Z, Z, trivial⟩, Le.refl _ _, hC5, hr1, ho11, hm3, ho12, hm4, ho13, hm5⟩
 ·
  rintro ⟨k1, k2, y1⟩ a w6 sr1 ⟨M1, v5, hF1, hl6, hC6, hw2, ho14, hm6, ho15, hm7, ho16, hm8⟩ hb6 hR1
  refine cw_at (E := [(0, (.pointer (some ⟨g, 0, none⟩))), (1, (.int .i64 a_n)), (4, (.pointer (some ⟨g1, 0, none⟩))), (5, (.pointer (some ⟨g2, 0, none⟩))), (6, (.int .i64 (W (1 + x2.1)))), (7, (.int .i64 k1))]) hF1 (cw_seq (cw_seq (cw_region (lw_op Z Z Z (ow_move Z Z (lw_op Z Z Z (ow_move Z Z (lw_op Z Z Z (ow_lss Z Z Z fun bb2 hbb2 => lw_nil (ew_then ?_))))))))))
  replace hb6 := cond_some hb6
  rcases hb6 with ⟨hc1, hb6⟩ | ⟨hc1, hb6⟩
  ·
   obtain rfl := hbb2.trans hc1
   refine cw_true Z (cw_skip (ew_then (cw_seq (cw_block ?_))))
   have lz2 := ((lz1.trans hl5).trans hl6)
   replace hb6 := bind_some hb6
   obtain ⟨x3, hx3, hb6⟩ := hb6
   replace hb6 := bind_some hb6
   obtain ⟨z1, hz1, hb6⟩ := hb6
   refine cw_sub (E' := [(0, (.pointer (some ⟨g, 0, none⟩))), (1, (.int .i64 a_n)), (4, (.pointer (some ⟨g1, 0, none⟩))), (5, (.pointer (some ⟨g2, 0, none⟩))), (6, (.int .i64 (W (1 + x2.1)))), (7, (.int .i64 k1))]) ⟨Z, Z, Z, Z, Z, Z, trivial⟩ (cw_drawC (g := g) (T := 183) 8 1 [none, none, none, none, none, none, some 0, none] [#[(.slice Ax a_xs.length cx), (.int .i64 k2)], #[(.slice Ax a_xs.length cx), (.int .i64 x3.2)]] [PEq (.pointer (some ⟨g2, 0, none⟩)), PEq v5, PEq (.pointer (some ⟨g, 0, none⟩)), PEq (.int .i64 k1), PEq (.int .i64 (W (k1 + 1))), PEq (.int .i64 (W (1 + x2.1))), PNR RRule w.heap.size 38 (One g) w M w6 M1 x3.1, PNL RRule w.heap.size 38 (One g) w M w6 M1 x3.1] (by kernel_rfl) Z (by kernel_rfl) (by kernel_rfl) ho14 ⟨(PEq.monoY hm6 _), (PEq.monoY hm6 _), (PEq.monoY hm6 _), (PEq.monoY hm6 _), (PEq.monoY hm6 _), (PEq.monoY hm6 _), (PNR.monoY hm6 ho14.lt (.inr Z)), (PNL.monoY hm6 ho14.lt (.inr Z)), trivial⟩ ⟨?_, ?_, ?_, ?_, ?_, ?_, ?_, ?_, trivial⟩ ?_)
   ·
    intro wa D hSa hda
    exact dg_sub (E' := [(5, (.pointer (some ⟨g2, 0, none⟩)))]) ⟨Z, trivial⟩ (dg_plain Z (ow_fieldAddr Z Z Tryd.underlying25 Z (Tryd.sizeOf23 _) ⟨BX.refl _ _, Z⟩))
   ·
    intro wa D hSa hda
    exact dg_sub (E' := [(20, (.pointer (some ⟨g2, 0, none⟩)))]) ⟨dpE hda 0 Z Z, trivial⟩ (dg_plain Z (ow_loadOwn1 Z Z Z (ho16.go hSa (fun e => hn2 e.symm)) (Tryd.isAgg23 _) Z ⟨BX.refl _ _, Z⟩))
   ·
    intro wa D hSa hda
    exact dg_sub (E' := [(0, (.pointer (some ⟨g, 0, none⟩)))]) ⟨Z, trivial⟩ (dg_plain Z (ow_move Z Z ⟨BX.refl _ _, Z⟩))
   ·
    intro wa D hSa hda
    exact dg_sub (E' := [(7, (.int .i64 k1))]) ⟨Z, trivial⟩ (dg_plain Z (ow_move Z Z ⟨BX.refl _ _, Z⟩))
   ·
    intro wa D hSa hda
    exact dg_sub (E' := [(23, (.int .i64 k1))]) ⟨dpE hda 3 Z Z, trivial⟩ (dg_plain Z (ow_add Z Z Z ⟨BX.refl _ _, Z⟩))
   ·
    intro wa D hSa hda
    exact dg_sub (E' := [(6, (.int .i64 (W (1 + x2.1))))]) ⟨Z, trivial⟩ (dg_plain Z (ow_move Z Z ⟨BX.refl _ _, Z⟩))
   ·
    intro wa D hSa hda
    obtain ⟨hSa, hOa⟩ := hSa
    have hOa : Own wa g 183 #[(.slice Ax a_xs.length cx), (.int .i64 k2)] := hOa
    have hla := leY hm6 hSa
    have hCa := hC6.go hSa (fun b e => Or.inr e)
    refine dg_sub (E' := [(22, (.pointer (some ⟨g, 0, none⟩))), (24, (.int .i64 (W (k1 + 1)))), (25, (.int .i64 (W (1 + x2.1))))]) ⟨dpE hda 2 Z Z, dpE hda 4 Z Z, dpE hda 5 Z Z, trivial⟩ (dg_plain Z (ow_call Z Z Tryd.call171 (wo_spec_l20Rules (hG.mono (lz2.trans hla)) hCa.old (VRep.mono hla (VRep.mono lz2 hxs)) hOa hm6 hx3) fun va wb hva => ?_))
    obtain ⟨⟨⟨Mb, hrb, hkb⟩, hOb⟩, hbb⟩ := hva
    exact ⟨⟨⟨hSa.trans hbb, hOb⟩, hbb⟩, Mb, hrb.base hCa.bx.size, hla.trans (hkb.leY (fun b e => by rw [show b = g from e]; exact hm6)), hCa.trans2 hkb (fun b e => .inr e), hkb.sup, fun b e => Nat.le_trans hSa.size (hrb.block e).1⟩
   ·
    intro wa D hSa hda
    have hd6 : PNR RRule w.heap.size 38 (One g) w M w6 M1 x3.1 (D 6) wa := dpA hda 6 Z
    obtain ⟨Mb, hrb, hlb, hCb, hmb, hgb⟩ := hd6
    generalize hqb : (D 6) = va at hrb hgb
    obtain ⟨Ab, cb, rfl⟩ := hrb.len
    exact dg_sub (E' := [(26, .slice Ab x3.1.length cb)]) ⟨congrArg some hqb, trivial⟩ (dg_plain Z (ow_buildSlice (R := RHd) (xs := [.slice Ab x3.1.length cb]) (cs := #[.slice Ab x3.1.length cb]) (e := 39) Z Z (by kernel_rfl) Z Z ⟨_, _, Z, ⟨Z, Z⟩, Z⟩ hCb fun pb wc hwc hbc hlc hCc => ⟨hbc, _, Mb, hwc, hrb.no hbc, hlb.trans hlc, hCc, hmb, hgb⟩))
   ·
    intro w7 D hS1 hd1
    obtain ⟨hS1, ho17⟩ := hS1
    have ho17 : Own w7 g 183 #[(.slice Ax a_xs.length cx), (.int .i64 x3.2)] := ho17
    have d1 : PNL RRule w.heap.size 38 (One g) w M w6 M1 x3.1 (D 7) w7 := dpA hd1 7 Z
    obtain ⟨v6, M2, hw3, hr2, hl7, hC7, hk1, hge1⟩ := d1
    generalize hq1 : (D 7) = v7 at hw3
    have hm9 := hk1 _ hm6
    have hm10 := hk1 _ hm7
    have ho18 := ho15.go hS1 (fun e => hn1 e.symm)
    have hm11 := hk1 _ hm8
    have ho19 := ho16.go hS1 (fun e => hn2 e.symm)
    refine lw_sub (E' := [(27, v7), (21, v5), (0, (.pointer (some ⟨g, 0, none⟩))), (1, (.int .i64 a_n)), (4, (.pointer (some ⟨g1, 0, none⟩))), (5, (.pointer (some ⟨g2, 0, none⟩))), (6, (.int .i64 (W (1 + x2.1)))), (7, (.int .i64 k1))]) ⟨(congrArg some hq1), dpE hd1 1 Z Z, Z, Z, Z, Z, Z, Z, trivial⟩ (lw_op Z Z Z (ow_appendH Z Z Z Z Tryd.underlying23 hi39 hz39 hs39 hy39 Z Z Z Z hw2 hS1 ho14 (by decide) (by decide) (by decide) hw3 hr2 hl7 hk1 hge1 hz1 hC7 hX hO fun v8 w8 M3 hr3 hb7 hl8 hC8 hk2 => ?_))
    have hm12 := (hk2 _ _ _ ho17 (by decide) (by decide)).2 hm9
    have ho20 := ho17.go hb7 (fun e => (hk2 _ _ _ ho17 (by decide) (by decide)).1 e)
    have hm13 := (hk2 _ _ _ ho18 (by decide) (by decide)).2 hm10
    have ho21 := ho18.go hb7 (fun e => (hk2 _ _ _ ho18 (by decide) (by decide)).1 e)
    have hm14 := (hk2 _ _ _ ho19 (by decide) (by decide)).2 hm11
    have ho22 := ho19.go hb7 (fun e => (hk2 _ _ _ ho19 (by decide) (by decide)).1 e)
    refine lw_op Z Z Z (ow_fieldAddr Z Z Tryd.underlying25 Z (Tryd.sizeOf23 _) ?_)
    obtain ⟨A1, c1, rfl⟩ := hr3.len
    refine lw_op0 Z Z (ow_store (X := (One g)) (us := [(.slice A1 z1.length c1)]) (cs' := #[(.slice A1 z1.length c1), (.bool bb1)]) Z Z Z Z ho22 (Tryd.sizeOf23 _) Z Z Z Z hm14 (.inl hg4) Z hC8 fun w9 ho23 hb8 hl9 hC9 => ?_)
    have ho24 := ho20.go hb8 (fun e => hn2 e)
    have ho25 := ho21.go hb8 (fun e => hn3 e)
    have hr4 := HRow.goOwn hr3 hb8 ho22 hl9 (by decide) (by decide)
    refine lw_nil (ew_blockN (ew_then (cw_region (lw_op Z Z Z (ow_move Z Z (lw_op Z Z Z (ow_add Z Z Z (lw_op Z Z Z (ow_assign Z Z (lw_nil ?_))))))))))
    have lz3 := (((hl6.trans hl7).trans hl8).trans hl9)
    exact ew_nxt ((W (k1 + 1)), x3.2, z1) hb6 fun a ha => ⟨M3, (.slice A1 z1.length c1), (ha.sub ⟨Z, Z, Z, Z, Z, Z, trivial⟩), lz3, hC9, hr4, ho24, hm12, ho25, hm13, ho23, hm14⟩
  ·
   obtain rfl := hbb2.trans hc1
   exact cw_false Z (cw_exit (ew_thenX (ew_thenX (ew_blockX (ew_brk (k1, k2, y1) hb6 fun a ha => ⟨M1, v5, (ha.sub ⟨Z, Z, Z, Z, Z, Z, trivial⟩), hl6, hC6, hw2, ho14, hm6, ho15, hm7, ho16, hm8⟩)))))
 ·
  rintro ⟨k3, k4, y2⟩ a w10 hlr2 ⟨M4, v11, hF2, hl10, hC10, hw4, ho26, hm15, ho27, hm16, ho28, hm17⟩
  subst hlr2
  refine ew_at (E := [(0, (.pointer (some ⟨g, 0, none⟩))), (1, (.int .i64 a_n)), (4, (.pointer (some ⟨g1, 0, none⟩))), (5, (.pointer (some ⟨g2, 0, none⟩))), (6, (.int .i64 (W (1 + x2.1)))), (7, (.int .i64 k3))]) hF2 (ew_then (cw_seq (cw_seq (cw_region (lw_op Z Z Z (ow_move Z Z (lw_op Z Z Z (ow_move Z Z ?_))))))))
  have lz4 := ((lz1.trans hl5).trans hl10)
  replace h := bind_some h
  obtain ⟨x4, hx4, h⟩ := h
  refine lw_op Z Z Z (ow_call Z Z Tryd.call172 (w_spec_l20Rd_odd (hG.mono lz4) hC10.old (VRep.mono lz4 hxs) ho26 hm15 hx4) fun v12 w11 hv12 => ?_)
  obtain ⟨⟨hv12, ho29⟩, hb9⟩ := hv12
  have hl11 := Le.of_bx M4 hb9 (fun b e => (by rw [show b = g from e]; exact hm15))
  have hC11 := hC10.go hb9 (fun b e => Or.inr e)
  have ho30 := ho27.go hb9 (fun e => hn1 e.symm)
  have ho31 := ho28.go hb9 (fun e => hn2 e.symm)
  have hr5 := HRow.goOwn hw4 hb9 ho26 hl11 (by decide) (by decide)
  obtain ⟨bb3, hbb3, rfl⟩ := vbool_ex hv12
  refine lw_nil (ew_then ?_)
  replace h := cond_some h
  rcases h with ⟨hc2, h⟩ | ⟨hc2, h⟩
  ·
   obtain rfl := hbb3.trans hc2
   refine cw_true Z (cw_seq (cw_region (lw_op Z Z Z (ow_move Z Z ?_))))
   replace h := bind_some h
   obtain ⟨x5, hx5, h⟩ := h
   refine lw_op Z Z Z (ow_call Z Z Tryd.call137 (w_spec_l20Rd_pick (hG.mono (lz4.trans hl11)) hC11.old (VRep.mono (lz4.trans hl11) hxs) ho29 hm15 hx5) fun v13 w12 hv13 => ?_)
   obtain ⟨⟨hv13, ho32⟩, hb10⟩ := hv13
   have hl12 := Le.of_bx M4 hb10 (fun b e => (by rw [show b = g from e]; exact hm15))
   have hC12 := hC11.go hb10 (fun b e => Or.inr e)
   have ho33 := ho30.go hb10 (fun e => hn1 e.symm)
   have ho34 := ho31.go hb10 (fun e => hn2 e.symm)
   have hr6 := HRow.goOwn hr5 hb10 ho29 hl12 (by decide) (by decide)
   obtain rfl := vint_eq hv13
   refine lw_nil (ew_then (cw_block (cw_seq (cw_region (lw_op Z Z Z (ow_eqlI Z Z Z fun bb4 hbb4 => lw_op Z Z Z (ow_assign Z Z (lw_nil (ew_then ?_)))))))))
   replace h := cond_some h
   rcases h with ⟨hc3, h⟩ | ⟨hc3, h⟩
   ·
    obtain rfl := hbb4.trans hc3
    refine cw_true Z ?_
    obtain ⟨M5, hr7, hl13, hC13, hk3⟩ := HRow.flat hr6 hC12 hX hO (by decide)
    have hm19 : M5 g1 := hk3 _ _ _ ho33 (by decide) hm16
    have hm20 : M5 g2 := hk3 _ _ _ ho34 (by decide) hm17
    refine cw_region (lw_op Z Z Z (ow_buildSlice0 (R := (RSlice RRule)) (e := 39) Z (by kernel_rfl) hC13 fun p1 w13 M6 hr8 hb11 hl14 hC14 hM1 hat1 => ?_))
    have ho35 := ho32.no hb11
    have ho36 := ho33.no hb11
    have hm22 := hM1 _ hm19
    have ho37 := ho34.no hb11
    have hm23 := hM1 _ hm20
    refine lw_op Z Z Z (ow_fieldAddr Z Z Tryd.underlying25 Z (Tryd.sizeOf23 _) (lw_op0 Z Z (ow_store (X := (One g)) (us := [(.slice (some p1) 0 0)]) (cs' := #[(.slice (some p1) 0 0), (.bool bb1)]) Z Z Z Z ho37 (Tryd.sizeOf23 _) Z Z Z Z hm23 (.inl hg4) Z hC14 fun w14 ho38 hb12 hl15 hC15 => ?_)))
    have ho39 := ho35.go hb12 (fun e => hn2 e)
    have ho40 := ho36.go hb12 (fun e => hn3 e)
    refine lw_nil (ew_blockN (ew_then (cw_seq (cw_region (lw_op Z Z Z (ow_loadOwnA Z Z Z ho38 (Tryd.isAgg25 _) (Tryd.sizeOf25 _) Z (lw_op0 Z Z (ow_store (X := (One g)) (us := [(.slice (some p1) 0 0), (.bool bb1)]) (cs' := #[(.slice (some p1) 0 0), (.bool bb1)]) Z Z Z Z ho40 (Tryd.sizeOf25 _) Z Z Z Z hm22 (.inl hg2) Z hC15 fun w15 ho41 hb13 hl16 hC16 => ?_))))))))
    have ho42 := ho39.go hb13 (fun e => hn1 e)
    refine lw_nil (ew_then (cw_ret ?_))
    have hw6 : VRep RRuleset w15 M6 ({ Chains := ([] : List (List Rule)), Accept := (x1.1 == 0) } : Ruleset) (.agg #[(.slice (some p1) 0 0), (.bool bb1)]) := by subst hbb1; exact shut_Ruleset (VRep.mono hl16 vslice_nil)
    obtain rfl := Option.some.inj h
    exact ew_ret (res1 Z (.cell Z (own_loadVarA ho41 (Tryd.isAgg25 _) (Tryd.sizeOf25 _) Z))) ⟨_, Z, ⟨(hw6.mono hC16.back), ho42⟩, hC16.bx⟩
   ·
    obtain rfl := hbb4.trans hc3
    refine cw_false Z (cw_seq (cw_region (lw_op Z Z Z (ow_eqlI Z Z Z fun bb5 hbb5 => lw_op Z Z Z (ow_assign Z Z (lw_nil (ew_then ?_)))))))
    replace h := cond_some h
    rcases h with ⟨hc4, h⟩ | ⟨hc4, h⟩
    ·
     obtain rfl := hbb5.trans hc4
     refine cw_true Z ?_
     have lz5 := ((lz4.trans hl11).trans hl12)
     replace h := bind_some h
     obtain ⟨x6, hx6, h⟩ := h
     replace h := bind_some h
     obtain ⟨x7, hx7, h⟩ := h
     replace h := bind_some h
     obtain ⟨x8, hx8, h⟩ := h
     replace h := bind_some h
     obtain ⟨z2, hz2, h⟩ := h
     obtain ⟨v14, v15, v16, hq2, hr13, hr14, hw7⟩ := HRow.cons hr6 hx6
     have hq2 : y2 = x6 :: v16 := hq2
     obtain ⟨A2, c2, rfl⟩ := hr14.len
     have hY4 : ¬ (OrRow g (.slice A2 x6.length c2)) g1 := fun e => e.elim (fun e => (fun e => hn1 e.symm) e) (fun e => orow_ne hr14 ho33 (by decide) e)
     have hY5 : ¬ (OrRow g (.slice A2 x6.length c2)) g2 := fun e => e.elim (fun e => (fun e => hn2 e.symm) e) (fun e => orow_ne hr14 ho34 (by decide) e)
     have hY1 : ∀ b, (OrRow g (.slice A2 x6.length c2)) b → M4 b := fun b e => e.elim (fun e => by rw [show b = g from e]; exact hm15) (fun e => hr14.mem b e)
     have hY2 : ∀ b, (OrRow g (.slice A2 x6.length c2)) b → w.heap.size ≤ b ∨ (One g) b := fun b e => e.elim (fun e => .inr e) (fun e => .inl (hr14.block e).1)
     have hY3 : ∀ b, (Value.ownBlock v11) = some b → ¬ (OrRow g (.slice A2 x6.length c2)) b := fun b hb e => e.elim (fun e => orow_ne hr13 ho32 (by decide) (hb.trans (congrArg some e))) (fun e => orow_row_ne hr13 hr14 (by decide) hb e)
     refine cw_sub (E' := [(0, (.pointer (some ⟨g, 0, none⟩))), (4, (.pointer (some ⟨g1, 0, none⟩))), (5, (.pointer (some ⟨g2, 0, none⟩))), (6, (.int .i64 (W (1 + x2.1))))]) ⟨Z, Z, Z, Z, trivial⟩ (cw_drawCR (g := g) (Tg := 183) (R := RRule) (B := w.heap.size) (e := 38) (M := M4) (xs := x6) (v := (.slice A2 x6.length c2)) 15 2 [none, none, none, none, none, none, none, none, none, some 0, none, none, none, none, some 1] [#[(.slice Ax a_xs.length cx), (.int .i64 x5.2)], #[(.slice Ax a_xs.length cx), (.int .i64 x7.2)], #[(.slice Ax a_xs.length cx), (.int .i64 x7.2)]] [PEq (.pointer (some ⟨g2, 0, none⟩)), PEq v11, PEq (.pointer (some ⟨g2, 0, none⟩)), PEq v11, PEq (.pointer (some ⟨blk v11, (0 : Int).toNat * RHd.size, none⟩)), PEq (.slice A2 x6.length c2), PEq (.int .i64 (W (1 + x2.1))), PV (RSlice RInt) M4 [0, (W (1 + x2.1))], PEq (.pointer (some ⟨g, 0, none⟩)), PEq (.int .i64 x7.1), PA RInt M4 x8, PEq (.int .i64 x8), PV RRule M4 ({ Tests := ([] : List Test), Action := 3, Chain := x8 } : Rule), PV (RSlice RRule) M4 [({ Tests := ([] : List Test), Action := 3, Chain := x8 } : Rule)], PApp2 RRule w.heap.size 38 (One g) w M w12 M4 z2] (by kernel_rfl) Z (by kernel_rfl) (by kernel_rfl) ho32 hr14 ⟨(PEq.monoR _), (PEq.monoR _), (PEq.monoR _), (PEq.monoR _), (PEq.monoR _), (PEq.monoR _), (PEq.monoR _), (PV.monoR hY1 _ _), (PEq.monoR _), (PEq.monoR _), (PA.monoR hY1 _ _), (PEq.monoR _), (PV.monoR hY1 _ _), (PV.monoR hY1 _ _), PApp2.mono, trivial⟩ ⟨?_, ?_, ?_, ?_, ?_, ?_, ?_, ?_, ?_, ?_, ?_, ?_, ?_, ?_, ?_, trivial⟩ ?_)
     ·
      intro wa D hSa hda
      exact dg_sub (E' := [(5, (.pointer (some ⟨g2, 0, none⟩)))]) ⟨Z, trivial⟩ (dg_plain Z (ow_fieldAddr Z Z Tryd.underlying25 Z (Tryd.sizeOf23 _) ⟨BX.refl _ _, Z⟩))
     ·
      intro wa D hSa hda
      exact dg_sub (E' := [(47, (.pointer (some ⟨g2, 0, none⟩)))]) ⟨dpE hda 0 Z Z, trivial⟩ (dg_plain Z (ow_loadOwn1 Z Z Z (ho34.go hSa hY5) (Tryd.isAgg23 _) Z ⟨BX.refl _ _, Z⟩))
     ·
      intro wa D hSa hda
      exact dg_sub (E' := [(5, (.pointer (some ⟨g2, 0, none⟩)))]) ⟨Z, trivial⟩ (dg_plain Z (ow_fieldAddr Z Z Tryd.underlying25 Z (Tryd.sizeOf23 _) ⟨BX.refl _ _, Z⟩))
     ·
      intro wa D hSa hda
      exact dg_sub (E' := [(49, (.pointer (some ⟨g2, 0, none⟩)))]) ⟨dpE hda 2 Z Z, trivial⟩ (dg_plain Z (ow_loadOwn1 Z Z Z (ho34.go hSa hY5) (Tryd.isAgg23 _) Z ⟨BX.refl _ _, Z⟩))
     ·
      intro wa D hSa hda
      have hra := hr13.go hSa hY3 (Le.of_bx M4 hSa hY1) (fun _ h => h)
      exact dg_sub (E' := [(50, v11)]) ⟨dpE hda 3 Z Z, trivial⟩ (dg_plain Z (ow_indexRow (R := RHd) (j := 0) Z Z Z hra Tryd.underlying23 (Tryd.sizeOf39 _) Z ⟨BX.refl _ _, Z⟩))
     ·
      intro wa D hSa hda
      have hra := hr13.go hSa hY3 (Le.of_bx M4 hSa hY1) (fun _ h => h)
      exact dg_sub (E' := [(51, (.pointer (some ⟨blk v11, (0 : Int).toNat * RHd.size, none⟩)))]) ⟨dpE hda 4 Z Z, trivial⟩ (dg_plain Z (ow_loadElRow (R := RHd) (S := RHd) (j := 0) (y := (.slice A2 x6.length c2)) Z Z Z hra (orow_blk (j := 0) (y := (.slice A2 x6.length c2)) hra Z) Z (Fld.whole RHd) (Tryd.sizeOf39 _) (Tryd.isAgg39 _) fun va hva => ⟨BX.refl _ _, rhd_eq hva⟩))
     ·
      intro wa D hSa hda
      exact dg_sub (E' := [(6, (.int .i64 (W (1 + x2.1))))]) ⟨Z, trivial⟩ (dg_plain Z (ow_move Z Z ⟨BX.refl _ _, Z⟩))
     ·
      intro wa D hSa hda
      have hCa := hC12.go hSa hY2
      exact dg_sub (E' := [(53, (.int .i64 (W (1 + x2.1))))]) ⟨dpE hda 6 Z Z, trivial⟩ (dg_plain Z (ow_buildSlice (R := RInt) (xs := [0, (W (1 + x2.1))]) (cs := #[.int .i64 0, .int .i64 (W (1 + x2.1))]) (e := 3) Z Z (by kernel_rfl) Z Z ⟨_, _, Z, (vint _).cells, _, _, Z, (vint _).cells, Z⟩ hCa fun pb wc hwc hbc hlc hCc => ⟨hbc, hwc⟩))
     ·
      intro wa D hSa hda
      exact dg_sub (E' := [(0, (.pointer (some ⟨g, 0, none⟩)))]) ⟨Z, trivial⟩ (dg_plain Z (ow_move Z Z ⟨BX.refl _ _, Z⟩))
     ·
      intro wa D hSa hda
      obtain ⟨hSa, hOa, hRa⟩ := hSa
      have hOa : Own wa g 183 #[(.slice Ax a_xs.length cx), (.int .i64 x5.2)] := hOa
      have hRa := hRa (by decide)
      have hla := Le.of_bx M4 hSa hY1
      have hCa := hC12.go hSa hY2
      refine dg_sub (E' := [(55, (.pointer (some ⟨g, 0, none⟩)))]) ⟨dpE hda 8 Z Z, trivial⟩ (dg_plain Z (ow_call Z Z Tryd.call137 (w_spec_l20Rd_pick (hG.mono (lz5.trans hla)) hCa.old (VRep.mono hla (VRep.mono lz5 hxs)) hOa hm15 hx7) fun va wb hva => ?_))
      obtain ⟨⟨hva, hOb⟩, hbb⟩ := hva
      obtain rfl := vint_eq hva
      exact ⟨⟨⟨hSa.trans (hbb.mono fun _ _ e => .inl e), hOb, fun _ => hRa.go hbb (fun b hb e => orow_ne hRa hOa (by decide) (hb.trans (congrArg some e))) (leY hm15 hbb) (fun _ h => h)⟩, hbb.mono fun _ _ e => .inl e⟩, Z⟩
     ·
      intro wa D hSa hda
      have d7a : PV (RSlice RInt) M4 [0, (W (1 + x2.1))] (D 7) wa := dpA hda 7 Z
      generalize hqa : (D 7) = va at d7a
      exact dg_sub (E' := [(54, va), (56, (.int .i64 x7.1))]) ⟨congrArg some hqa, dpE hda 9 Z Z, trivial⟩ (dg_plain Z (ow_indexSlice (R := RInt) Z Z Z d7a Tryd.underlying34 (Tryd.sizeOf3 _) hx8 fun pa hpa => ⟨BX.refl _ _, _, Z, hpa⟩))
     ·
      intro wa D hSa hda
      have d10a : PA RInt M4 x8 (D 10) wa := dpA hda 10 Z
      obtain ⟨pa, hqa, hpa⟩ := d10a
      refine dg_sub (E' := [(57, .pointer (some pa))]) ⟨congrArg some hqa, trivial⟩ (dg_plain Z (ow_load (R := RInt) Z Z hpa (Tryd.sizeOf3 _) (Tryd.isAgg3 _) fun va hva => ?_))
      obtain rfl := vint_eq hva
      exact ⟨BX.refl _ _, Z⟩
     ·
      intro wa D hSa hda
      exact dg_sub (E' := [(58, (.int .i64 x8))]) ⟨dpE hda 11 Z Z, trivial⟩ (dg_plain Z (ow_build (v := .agg #[.slice none 0 0, .int .i64 3, .int .i64 x8]) Z Z (by kernel_rfl) ⟨BX.refl _ _, shut_Rule vslice_nil⟩))
     ·
      intro wa D hSa hda
      have hCa := hC12.go hSa hY2
      have d12a : PV RRule M4 ({ Tests := ([] : List Test), Action := 3, Chain := x8 } : Rule) (D 12) wa := dpA hda 12 Z
      generalize hqa : (D 12) = va at d12a
      obtain ⟨Aq, cq, rfl, hwq⟩ := open_Rule d12a
      exact dg_sub (E' := [(59, .agg #[.slice Aq ([] : List Test).length cq, .int .i64 3, .int .i64 x8])]) ⟨congrArg some hqa, trivial⟩ (dg_plain Z (ow_buildSlice (R := RRule) (xs := [({ Tests := ([] : List Test), Action := 3, Chain := x8 } : Rule)]) (cs := #[.slice Aq ([] : List Test).length cq, .int .i64 3, .int .i64 x8]) (e := 38) Z Z (by kernel_rfl) Z Z ⟨_, _, Z, d12a.cells, Z⟩ hCa fun pb wc hwc hbc hlc hCc => ⟨hbc, hwc⟩))
     ·
      intro wa D hSa hda
      obtain ⟨hSa, hOa, hRa⟩ := hSa
      have hOa : Own wa g 183 #[(.slice Ax a_xs.length cx), (.int .i64 x7.2)] := hOa
      have hRa := hRa (by decide)
      have hla := Le.of_bx M4 hSa hY1
      have hCa := hC12.go hSa hY2
      have d13a : PV (RSlice RRule) M4 [({ Tests := ([] : List Test), Action := 3, Chain := x8 } : Rule)] (D 13) wa := dpA hda 13 Z
      generalize hqa : (D 13) = ua at d13a
      exact dg_sub (E' := [(52, (.slice A2 x6.length c2)), (60, ua)]) ⟨dpE hda 5 Z Z, congrArg some hqa, trivial⟩ (dg_plain Z (ow_append (R := RRule) Z Z Z Z Tryd.underlying39 hi38 hz38 hs38 hy38 Z Z Z Z hRa d13a hz2 hCa fun vb wb Mb hrb hbb hlb hCb hMb hatb => ⟨⟨⟨hSa.trans (hbb.mono fun _ _ e => .inr e), hOa.go hbb (fun e => orow_ne hRa hOa (by decide) e), fun h => absurd h (by decide)⟩, hbb.mono fun _ _ e => .inr e⟩, Mb, hrb, hla.trans hlb, hCb, hMb⟩))
     ·
      intro w16 D hS2 hd2
      obtain ⟨hS2, ho44⟩ := hS2
      have ho44 : Own w16 g 183 #[(.slice Ax a_xs.length cx), (.int .i64 x7.2)] := ho44
      have d2 : PApp2 RRule w.heap.size 38 (One g) w M w12 M4 z2 (D 14) w16 := dpA hd2 14 Z
      obtain ⟨M7, hr15, hl17, hC17, hk4⟩ := d2
      generalize hq3 : (D 14) = v17 at hr15
      obtain ⟨A3, c3, rfl⟩ := hr15.len
      have hr16 := hr13.go hS2 hY3 hl17 hk4
      have hw8 := hw7.mono hl17
      have hm25 := hk4 _ hm16
      have ho45 := ho33.go hS2 hY4
      have ho46 := ho34.go hS2 hY5
      refine lw_sub (E' := [(61, (.slice A3 z2.length c3)), (48, v11), (0, (.pointer (some ⟨g, 0, none⟩))), (4, (.pointer (some ⟨g1, 0, none⟩))), (5, (.pointer (some ⟨g2, 0, none⟩))), (6, (.int .i64 (W (1 + x2.1))))]) ⟨(congrArg some hq3), dpE hd2 1 Z Z, Z, Z, Z, Z, trivial⟩ (lw_op Z Z Z (ow_indexRow (R := RHd) (j := 0) Z Z Z hr16 Tryd.underlying23 (Tryd.sizeOf39 _) Z ?_))
      have hq4 := orow_blk (j := 0) (y := (.slice A2 x6.length c2)) hr16 Z
      refine lw_op0 Z Z (ow_storeElRow (X := (One g)) (R := RHd) (S := RHd) (j := 0) (y := (.slice A2 x6.length c2)) Z Z Z Z hr16 hq4 Z (FldSet.whole RHd) (Tryd.sizeOf39 _) (rhd Z) (Nat.le_refl _) hC17 fun w17 hr17 hb14 hl18 hC18 => ?_)
      have ho47 := ho44.go hb14 (fun e => orow_ne hr16 ho44 (by decide) (by rw [hq4]; exact congrArg some e.symm))
      have ho48 := ho45.go hb14 (fun e => orow_ne hr16 ho45 (by decide) (by rw [hq4]; exact congrArg some e.symm))
      have ho49 := ho46.go hb14 (fun e => orow_ne hr16 ho46 (by decide) (by rw [hq4]; exact congrArg some e.symm))
      have hr18 := hr15.go hb14 (fun k hk e => orow_row_ne hr15 hr16 (by decide) hk (by rw [hq4]; exact congrArg some e.symm)) hl18 (fun _ h => h)
      have hr19 : HRow RRule w.heap.size 39 38 w17 M7 (List.set y2 (0 : Int).toNat z2) v11 := by rw [hq2]; exact ⟨(.slice A3 z2.length c3) :: v15, hr17, hr18, hw8.mono hl18⟩
      refine lw_nil (ew_blockN (ew_then (cw_seq ?_)))
      obtain ⟨M8, hr20, hl19, hC19, hk5⟩ := HRow.flat hr19 hC18 hX hO (by decide)
      have hm28 : M8 g1 := hk5 _ _ _ ho48 (by decide) hm25
      refine cw_region (lw_op Z Z Z (ow_loadOwnA Z Z Z ho49 (Tryd.isAgg25 _) (Tryd.sizeOf25 _) Z ?_))
      have hw9 := hr20.freezeDel
      have hC20 := hr20.cxDel hC19 hX hO
      have hm31 : (Del v11 M8) g1 := ⟨hm28, fun e => (orow_ne hr20 ho48 (by decide)) e⟩
      obtain ⟨A4, c4, rfl, -⟩ := vslice_shape hw9
      refine lw_op0 Z Z (ow_store (X := (One g)) (us := [(.slice A4 (List.set y2 (0 : Int).toNat z2).length c4), (.bool bb1)]) (cs' := #[(.slice A4 (List.set y2 (0 : Int).toNat z2).length c4), (.bool bb1)]) Z Z Z Z ho48 (Tryd.sizeOf25 _) Z Z Z Z hm31 (.inl hg2) Z hC20 fun w18 ho50 hb15 hl21 hC21 => ?_)
      have ho51 := ho47.go hb15 (fun e => hn1 e)
      refine lw_nil (ew_then (cw_ret ?_))
      have hw11 : VRep RRuleset w18 (Del (.slice A4 (List.set y2 (0 : Int).toNat z2).length c4) M8) ({ Chains := (List.set y2 (0 : Int).toNat z2), Accept := (x1.1 == 0) } : Ruleset) (.agg #[(.slice A4 (List.set y2 (0 : Int).toNat z2).length c4), (.bool bb1)]) := by subst hbb1; exact shut_Ruleset (VRep.mono hl21 hw9)
      obtain rfl := Option.some.inj h
      exact ew_ret (res1 Z (.cell Z (own_loadVarA ho50 (Tryd.isAgg25 _) (Tryd.sizeOf25 _) Z))) ⟨_, Z, ⟨(hw11.mono hC21.back), ho51⟩, hC21.bx⟩
    ·
     obtain rfl := hbb5.trans hc4
     refine cw_false Z (cw_seq (cw_region (lw_op Z Z Z (ow_eqlI Z Z Z fun bb6 hbb6 => lw_op Z Z Z (ow_assign Z Z (lw_nil (ew_then ?_)))))))
     replace h := cond_some h
     rcases h with ⟨hc5, h⟩ | ⟨hc5, h⟩
     ·
      obtain rfl := hbb6.trans hc5
      refine cw_true Z (cw_seq ?_)
      obtain ⟨M9, hr21, hl22, hC22, hk6⟩ := HRow.flat hr6 hC12 hX hO (by decide)
      have hm34 : M9 g1 := hk6 _ _ _ ho33 (by decide) hm16
      refine cw_region (lw_op Z Z Z (ow_fieldAddr Z Z Tryd.underlying25 Z (Tryd.sizeOf23 _) (lw_op Z Z Z (ow_loadOwn1 Z Z Z ho34 (Tryd.isAgg23 _) Z (lw_op Z Z Z (ow_move Z Z (lw_op Z Z Z (ow_sub Z Z Z (lw_op Z Z Z (ow_build (v := .agg #[(.slice none 0 0), (.int .i64 3), (.int .i64 0)]) Z Z (by kernel_rfl) ?_))))))))))
      have hw12 : VRep RRule w12 M9 ({ Tests := ([] : List Test), Action := 3, Chain := 0 } : Rule) (.agg #[(.slice none 0 0), (.int .i64 3), (.int .i64 0)]) := shut_Rule (vslice_nil (R := RTest) (w := w12) (M := M9))
      refine lw_op Z Z Z (ow_buildSlice (R := RRule) (xs := [({ Tests := ([] : List Test), Action := 3, Chain := 0 } : Rule)]) (cs := #[(.slice none 0 0), (.int .i64 3), (.int .i64 0)]) (e := 38) Z Z (by kernel_rfl) Z Z ⟨_, _, Z, hw12.cells, Z⟩ hC22 fun p2 w19 hw13 hb16 hl23 hC23 => ?_)
      have ho53 := ho32.no hb16
      have ho54 := ho33.no hb16
      have ho55 := ho34.no hb16
      have hr22 := hr21.no hb16
      replace h := bind_some h
      obtain ⟨x9, hx9, h⟩ := h
      refine lw_op Z Z Z (ow_indexRow (R := (RSlice RRule)) Z Z Z hr22 Tryd.underlying23 (Tryd.sizeOf39 _) hx9 (lw_op0 Z Z (ow_storeElRow (X := (One g)) (R := (RSlice RRule)) (S := (RSlice RRule)) Z Z Z Z hr22 (orow_blk hr22 hx9) hx9 (FldSet.whole (RSlice RRule)) (Tryd.sizeOf39 _) hw13 (Nat.le_refl _) hC23 fun w20 ho56 hb17 hl24 hC24 => ?_)))
      have ho57 := ho53.go hb17 (fun e => (orow_ne hr22 ho53 (by decide)) (by rw [orow_blk hr22 hx9]; exact congrArg some e.symm))
      have ho58 := ho54.go hb17 (fun e => (orow_ne hr22 ho54 (by decide)) (by rw [orow_blk hr22 hx9]; exact congrArg some e.symm))
      have ho59 := ho55.go hb17 (fun e => (orow_ne hr22 ho55 (by decide)) (by rw [orow_blk hr22 hx9]; exact congrArg some e.symm))
      refine lw_nil (ew_then (cw_region (lw_op Z Z Z (ow_fieldAddr Z Z Tryd.underlying25 Z (Tryd.sizeOf23 _) (lw_op Z Z Z (ow_loadOwn1 Z Z Z ho59 (Tryd.isAgg23 _) Z (lw_op Z Z Z (ow_move Z Z (lw_op Z Z Z (ow_sub Z Z Z (lw_op Z Z Z (ow_build (v := .agg #[(.slice none 0 0), (.int .i64 3), (.int .i64 (W ((W (1 + x2.1)) - 1)))]) Z Z (by kernel_rfl) ?_))))))))))))
      have hw14 : VRep RRule w20 M9 ({ Tests := ([] : List Test), Action := 3, Chain := (W ((W (1 + x2.1)) - 1)) } : Rule) (.agg #[(.slice none 0 0), (.int .i64 3), (.int .i64 (W ((W (1 + x2.1)) - 1)))]) := shut_Rule (vslice_nil (R := RTest) (w := w20) (M := M9))
      refine lw_op Z Z Z (ow_buildSlice (R := RRule) (xs := [({ Tests := ([] : List Test), Action := 3, Chain := (W ((W (1 + x2.1)) - 1)) } : Rule)]) (cs := #[(.slice none 0 0), (.int .i64 3), (.int .i64 (W ((W (1 + x2.1)) - 1)))]) (e := 38) Z Z (by kernel_rfl) Z Z ⟨_, _, Z, hw14.cells, Z⟩ hC24 fun p3 w21 hw15 hb18 hl25 hC25 => ?_)
      have ho60 := ho57.no hb18
      have ho61 := ho58.no hb18
      have ho62 := ho59.no hb18
      have hr23 := ho56.no hb18
      replace h := bind_some h
      obtain ⟨x10, hx10, h⟩ := h
      refine lw_op Z Z Z (ow_indexRow (R := (RSlice RRule)) Z Z Z hr23 Tryd.underlying23 (Tryd.sizeOf39 _) hx10 (lw_op0 Z Z (ow_storeElRow (X := (One g)) (R := (RSlice RRule)) (S := (RSlice RRule)) Z Z Z Z hr23 (orow_blk hr23 hx10) hx10 (FldSet.whole (RSlice RRule)) (Tryd.sizeOf39 _) hw15 (Nat.le_refl _) hC25 fun w22 ho63 hb19 hl26 hC26 => ?_)))
      have ho64 := ho60.go hb19 (fun e => (orow_ne hr23 ho60 (by decide)) (by rw [orow_blk hr23 hx10]; exact congrArg some e.symm))
      have ho65 := ho61.go hb19 (fun e => (orow_ne hr23 ho61 (by decide)) (by rw [orow_blk hr23 hx10]; exact congrArg some e.symm))
      have ho66 := ho62.go hb19 (fun e => (orow_ne hr23 ho62 (by decide)) (by rw [orow_blk hr23 hx10]; exact congrArg some e.symm))
      refine lw_nil (ew_blockN (ew_then (cw_seq (cw_region (lw_op Z Z Z (ow_loadOwnA Z Z Z ho66 (Tryd.isAgg25 _) (Tryd.sizeOf25 _) Z ?_))))))
      have hw16 := ho63.freezeDel
      have hC27 := ho63.cxDel hC26 hX hO
      have hm37 : (Del v11 M9) g1 := ⟨hm34, fun e => (orow_ne ho63 ho65 (by decide)) e⟩
      obtain ⟨A5, c5, rfl, -⟩ := vslice_shape hw16
      refine lw_op0 Z Z (ow_store (X := (One g)) (us := [(.slice A5 (List.set (List.set y2 ((W ((W (1 + x2.1)) - 1)) : Int).toNat [({ Tests := ([] : List Test), Action := 3, Chain := 0 } : Rule)]) (0 : Int).toNat [({ Tests := ([] : List Test), Action := 3, Chain := (W ((W (1 + x2.1)) - 1)) } : Rule)]).length c5), (.bool bb1)]) (cs' := #[(.slice A5 (List.set (List.set y2 ((W ((W (1 + x2.1)) - 1)) : Int).toNat [({ Tests := ([] : List Test), Action := 3, Chain := 0 } : Rule)]) (0 : Int).toNat [({ Tests := ([] : List Test), Action := 3, Chain := (W ((W (1 + x2.1)) - 1)) } : Rule)]).length c5), (.bool bb1)]) Z Z Z Z ho65 (Tryd.sizeOf25 _) Z Z Z Z hm37 (.inl hg2) Z hC27 fun w23 ho67 hb20 hl28 hC28 => ?_)
      have ho68 := ho64.go hb20 (fun e => hn1 e)
      refine lw_nil (ew_then (cw_ret ?_))
      have hw18 : VRep RRuleset w23 (Del (.slice A5 (List.set (List.set y2 ((W ((W (1 + x2.1)) - 1)) : Int).toNat [({ Tests := ([] : List Test), Action := 3, Chain := 0 } : Rule)]) (0 : Int).toNat [({ Tests := ([] : List Test), Action := 3, Chain := (W ((W (1 + x2.1)) - 1)) } : Rule)]).length c5) M9) ({ Chains := (List.set (List.set y2 ((W ((W (1 + x2.1)) - 1)) : Int).toNat [({ Tests := ([] : List Test), Action := 3, Chain := 0 } : Rule)]) (0 : Int).toNat [({ Tests := ([] : List Test), Action := 3, Chain := (W ((W (1 + x2.1)) - 1)) } : Rule)]), Accept := (x1.1 == 0) } : Ruleset) (.agg #[(.slice A5 (List.set (List.set y2 ((W ((W (1 + x2.1)) - 1)) : Int).toNat [({ Tests := ([] : List Test), Action := 3, Chain := 0 } : Rule)]) (0 : Int).toNat [({ Tests := ([] : List Test), Action := 3, Chain := (W ((W (1 + x2.1)) - 1)) } : Rule)]).length c5), (.bool bb1)]) := by subst hbb1; exact shut_Ruleset (VRep.mono hl28 hw16)
      obtain rfl := Option.some.inj h
      exact ew_ret (res1 Z (.cell Z (own_loadVarA ho67 (Tryd.isAgg25 _) (Tryd.sizeOf25 _) Z))) ⟨_, Z, ⟨(hw18.mono hC28.back), ho68⟩, hC28.bx⟩
     ·
      obtain rfl := hbb6.trans hc5
      refine cw_false Z ?_
      obtain ⟨M10, hr24, hl29, hC29, hk7⟩ := HRow.flat hr6 hC12 hX hO (by decide)
      have hm39 : M10 g := hk7 _ _ _ ho32 (by decide) hm15
      have hm40 : M10 g1 := hk7 _ _ _ ho33 (by decide) hm16
      replace h := bind_some h
      obtain ⟨x11, hx11, h⟩ := h
      have lz6 := (((lz4.trans hl11).trans hl12).trans hl29)
      refine cw_sub (E' := [(0, (.pointer (some ⟨g, 0, none⟩))), (4, (.pointer (some ⟨g1, 0, none⟩))), (5, (.pointer (some ⟨g2, 0, none⟩))), (6, (.int .i64 (W (1 + x2.1))))]) ⟨Z, Z, Z, Z, trivial⟩ (cw_drawC (g := g) (T := 183) 5 1 [none, none, none, none, some 0] [#[(.slice Ax a_xs.length cx), (.int .i64 x5.2)], #[(.slice Ax a_xs.length cx), (.int .i64 x11.2)]] [PEq (.pointer (some ⟨g2, 0, none⟩)), PEq v11, PEq (.pointer (some ⟨g, 0, none⟩)), PEq (.int .i64 (W (1 + x2.1))), PV (RSlice RRule) M10 x11.1] (by kernel_rfl) Z (by kernel_rfl) (by kernel_rfl) ho32 ⟨(PEq.monoY hm39 _), (PEq.monoY hm39 _), (PEq.monoY hm39 _), (PEq.monoY hm39 _), (PV.monoY hm39 _ _), trivial⟩ ⟨?_, ?_, ?_, ?_, ?_, trivial⟩ ?_)
      ·
       intro w25 D hS3 hd3
       exact dg_sub (E' := [(5, (.pointer (some ⟨g2, 0, none⟩)))]) ⟨Z, trivial⟩ (dg_plain Z (ow_fieldAddr Z Z Tryd.underlying25 Z (Tryd.sizeOf23 _) ⟨BX.refl _ _, Z⟩))
      ·
       intro w26 D hS4 hd4
       have ho76 := ho34.go hS4 (fun e => hn2 e.symm)
       exact dg_sub (E' := [(35, (.pointer (some ⟨g2, 0, none⟩)))]) ⟨(dpE hd4 0 Z Z), trivial⟩ (dg_plain Z (ow_loadOwn1 Z Z Z ho76 (Tryd.isAgg23 _) Z ⟨BX.refl _ _, Z⟩))
      ·
       intro w27 D hS5 hd5
       exact dg_sub (E' := [(0, (.pointer (some ⟨g, 0, none⟩)))]) ⟨Z, trivial⟩ (dg_plain Z (ow_move Z Z ⟨BX.refl _ _, Z⟩))
      ·
       intro w28 D hS6 hd6
       exact dg_sub (E' := [(6, (.int .i64 (W (1 + x2.1))))]) ⟨Z, trivial⟩ (dg_plain Z (ow_move Z Z ⟨BX.refl _ _, Z⟩))
      ·
       intro w29 D hS7 hd7
       obtain ⟨hS7, ho81⟩ := hS7
       have ho81 : Own w29 g 183 #[(.slice Ax a_xs.length cx), (.int .i64 x5.2)] := ho81
       have hl35 := leY hm39 hS7
       have hC35 := hC29.go hS7 (fun b e => Or.inr e)
       refine dg_sub (E' := [(37, (.pointer (some ⟨g, 0, none⟩))), (38, (.int .i64 (W (1 + x2.1))))]) ⟨(dpE hd7 2 Z Z), (dpE hd7 3 Z Z), trivial⟩ (dg_plain Z (ow_call Z Z Tryd.call171 (w_spec_l20Rules (hG.mono (lz6.trans hl35)) hC35.old (VRep.mono (lz6.trans hl35) hxs) ho81 hm39 hx11) fun v19 w30 hv19 => ?_))
       obtain ⟨⟨hv19, ho84⟩, hb22⟩ := hv19
       exact ⟨⟨⟨hS7.trans hb22, ho84⟩, hb22⟩, hv19⟩
      ·
       intro w31 D hS8 hd8
       have d10 : PV (RSlice RRule) M10 x11.1 (D 4) w31 := dpA hd8 4 Z
       obtain ⟨hS8, ho87⟩ := hS8
       have ho87 : Own w31 g 183 #[(.slice Ax a_xs.length cx), (.int .i64 x11.2)] := ho87
       have hl37 := leY hm39 hS8
       have hC37 := hC29.go hS8 (fun b e => Or.inr e)
       have ho88 := ho33.go hS8 (fun e => hn1 e.symm)
       have ho89 := ho34.go hS8 (fun e => hn2 e.symm)
       have hr32 := hr24.go hS8 (fun k hk e => (orow_ne hr24 ho32 (by decide)) (hk.trans (congrArg some e))) hl37 (fun _ h => h)
       generalize hq5 : (D 4) = v20 at d10
       refine lw_sub (E' := [(36, v11), (39, v20), (0, (.pointer (some ⟨g, 0, none⟩))), (4, (.pointer (some ⟨g1, 0, none⟩))), (5, (.pointer (some ⟨g2, 0, none⟩))), (6, (.int .i64 (W (1 + x2.1))))]) ⟨(dpE hd8 1 Z Z), (congrArg some hq5), Z, Z, Z, Z, trivial⟩ ?_
       replace h := bind_some h
       obtain ⟨x12, hx12, h⟩ := h
       refine lw_op Z Z Z (ow_indexRow (R := (RSlice RRule)) Z Z Z hr32 Tryd.underlying23 (Tryd.sizeOf39 _) hx12 (lw_op0 Z Z (ow_storeElRow (X := (One g)) (R := (RSlice RRule)) (S := (RSlice RRule)) Z Z Z Z hr32 (orow_blk hr32 hx12) hx12 (FldSet.whole (RSlice RRule)) (Tryd.sizeOf39 _) d10 (Nat.le_refl _) hC37 fun w32 ho90 hb23 hl38 hC38 => ?_)))
       have ho91 := ho87.go hb23 (fun e => (orow_ne hr32 ho87 (by decide)) (by rw [orow_blk hr32 hx12]; exact congrArg some e.symm))
       have ho92 := ho88.go hb23 (fun e => (orow_ne hr32 ho88 (by decide)) (by rw [orow_blk hr32 hx12]; exact congrArg some e.symm))
       have ho93 := ho89.go hb23 (fun e => (orow_ne hr32 ho89 (by decide)) (by rw [orow_blk hr32 hx12]; exact congrArg some e.symm))
       refine lw_nil (ew_blockN (ew_then (cw_seq (cw_region (lw_op Z Z Z (ow_loadOwnA Z Z Z ho93 (Tryd.isAgg25 _) (Tryd.sizeOf25 _) Z ?_))))))
       have hw19 := ho90.freezeDel
       have hC39 := ho90.cxDel hC38 hX hO
       have hm43 : (Del v11 M10) g1 := ⟨hm40, fun e => (orow_ne ho90 ho92 (by decide)) e⟩
       obtain ⟨A6, c6, rfl, -⟩ := vslice_shape hw19
       refine lw_op0 Z Z (ow_store (X := (One g)) (us := [(.slice A6 (List.set y2 (0 : Int).toNat x11.1).length c6), (.bool bb1)]) (cs' := #[(.slice A6 (List.set y2 (0 : Int).toNat x11.1).length c6), (.bool bb1)]) Z Z Z Z ho92 (Tryd.sizeOf25 _) Z Z Z Z hm43 (.inl hg2) Z hC39 fun w33 ho94 hb24 hl40 hC40 => ?_)
       have ho95 := ho91.go hb24 (fun e => hn1 e)
       refine lw_nil (ew_then (cw_ret ?_))
       have hw21 : VRep RRuleset w33 (Del (.slice A6 (List.set y2 (0 : Int).toNat x11.1).length c6) M10) ({ Chains := (List.set y2 (0 : Int).toNat x11.1), Accept := (x1.1 == 0) } : Ruleset) (.agg #[(.slice A6 (List.set y2 (0 : Int).toNat x11.1).length c6), (.bool bb1)]) := by subst hbb1; exact shut_Ruleset (VRep.mono hl40 hw19)
       obtain rfl := Option.some.inj h
       exact ew_ret (res1 Z (.cell Z (own_loadVarA ho94 (Tryd.isAgg25 _) (Tryd.sizeOf25 _) Z))) ⟨_, Z, ⟨(hw21.mono hC40.back), ho95⟩, hC40.bx⟩
  ·
   obtain rfl := hbb3.trans hc2
   refine cw_false Z (cw_skip (ew_then (cw_seq ?_)))
   obtain ⟨M11, hr33, hl41, hC41, hk8⟩ := HRow.flat hr5 hC11 hX hO (by decide)
   have hm46 : M11 g1 := hk8 _ _ _ ho30 (by decide) hm16
   refine cw_region (lw_op Z Z Z (ow_loadOwnA Z Z Z ho31 (Tryd.isAgg25 _) (Tryd.sizeOf25 _) Z ?_))
   have hw22 := hr33.freezeDel
   have hC42 := hr33.cxDel hC41 hX hO
   have hm49 : (Del v11 M11) g1 := ⟨hm46, fun e => (orow_ne hr33 ho30 (by decide)) e⟩
   obtain ⟨A7, c7, rfl, -⟩ := vslice_shape hw22
   refine lw_op0 Z Z (ow_store (X := (One g)) (us := [(.slice A7 y2.length c7), (.bool bb1)]) (cs' := #[(.slice A7 y2.length c7), (.bool bb1)]) Z Z Z Z ho30 (Tryd.sizeOf25 _) Z Z Z Z hm49 (.inl hg2) Z hC42 fun w34 ho97 hb25 hl43 hC43 => ?_)
   have ho98 := ho29.go hb25 (fun e => hn1 e)
   refine lw_nil (ew_then (cw_ret ?_))
   have hw24 : VRep RRuleset w34 (Del (.slice A7 y2.length c7) M11) ({ Chains := y2, Accept := (x1.1 == 0) } : Ruleset) (.agg #[(.slice A7 y2.length c7), (.bool bb1)]) := by subst hbb1; exact shut_Ruleset (VRep.mono hl43 hw22)
   obtain rfl := Option.some.inj h
   exact ew_ret (res1 Z (.cell Z (own_loadVarA ho97 (Tryd.isAgg25 _) (Tryd.sizeOf25 _) Z))) ⟨_, Z, ⟨(hw24.mono hC43.back), ho98⟩, hC43.bx⟩

theorem w_spec_l1In {w : World} {M : Nat → Prop} (_hG : ARep (RArr 4 RShape) w M shapes ⟨0, 0, none⟩) (hO : ∀ b, M b → b < w.heap.size) {a_n : Int} {a_lo : Int} {a_hi : Int} {r : Bool} (h : F.spec_l1In a_n a_lo a_hi = some r) :
  Calls Tryd.prog 118 [(.int .i64 a_n), (.int .i64 a_lo), (.int .i64 a_hi)].toArray w fun e w' => ∃ v, e = .returned v ∧ VRep RBool w' M r v ∧ BX No w w' := by
 have hC : Cx No w M w M := Cx.start hO (fun _ e => e.elim)
 clear _hG
 refine walk (N := 15) Tryd.func118 Z Tryd.ntmps118 Z (cw_seq (cw_region (lw_op Z Z Z (ow_assign Z Z (lw_nil (ew_then (cw_seq (cw_region (lw_op Z Z Z (ow_move Z Z (lw_op Z Z Z (ow_move Z Z (lw_op Z Z Z (ow_geq Z Z Z fun bb1 hbb1 => lw_op Z Z Z (ow_move Z Z ?_)))))))))))))))
 replace h := cond_some h
 rcases h with ⟨hc1, h⟩ | ⟨hc1, h⟩
 ·
  obtain rfl := hbb1.trans hc1
  refine lw_on Z Z Z Z Z Z (ow_move Z Z (lw_on Z Z Z Z Z Z (ow_move Z Z (lw_on Z Z Z Z Z Z (ow_leq Z Z Z fun bb2 hbb2 => lw_op Z Z Z (ow_pickT Z Z Z (lw_op Z Z Z (ow_assign Z Z (lw_nil (ew_then (cw_ret ?_)))))))))))
  obtain rfl := Option.some.inj h
  exact ew_ret (res1 Z (.tmp Z)) ⟨_, Z, ((vbool_of hbb2)), hC.bx⟩
 ·
  obtain rfl := hbb1.trans hc1
  refine lw_off Z Z Z Z Z Z (lw_off Z Z Z Z Z Z (lw_off Z Z Z Z Z Z (lw_op Z Z Z (ow_pickF Z Z Z (lw_op Z Z Z (ow_assign Z Z (lw_nil (ew_then (cw_ret ?_)))))))))
  obtain rfl := Option.some.inj h
  exact ew_ret (res1 Z (.tmp Z)) ⟨_, Z, ((vbool _)), hC.bx⟩

theorem w_spec_TestValid {w : World} {M : Nat → Prop} (hG : ARep (RArr 4 RShape) w M shapes ⟨0, 0, none⟩) (hO : ∀ b, M b → b < w.heap.size) {v0p : Value} {a_t : Test} (h0 : VRep RTest w M a_t v0p) {r : Bool} (h : F.spec_TestValid a_t = some r) :
  Calls Tryd.prog 157 [v0p].toArray w fun e w' => ∃ v, e = .returned v ∧ VRep RBool w' M r v ∧ BX No w w' := by
 have hC : Cx No w M w M := Cx.start hO (fun _ e => e.elim)
 refine walk (N := 21) Tryd.func157 Z Tryd.ntmps157 Z (cw_seq (cw_region (lw_op Z Z Z (ow_box (R := RTest) Z Z h0 hC fun p1 w1 hp1 hb1 hl1 hC1 => lw_op Z Z Z (ow_assign Z Z (lw_nil (ew_then (cw_seq ?_))))))))
 replace h := bind_some h
 obtain ⟨x1, hx1, h⟩ := h
 replace h := cond_some h
 rcases h with ⟨hc1, h⟩ | ⟨hc1, h⟩
 ·
  subst hc1
  replace h := bind_some h
  obtain ⟨x2, hx2, h⟩ := h
  replace h := cond_some h
  rcases h with ⟨hc2, h⟩ | ⟨hc2, h⟩
  ·
   subst hc2
   replace h := bind_some h
   obtain ⟨x3, hx3, h⟩ := h
   refine cw_sub (E' := [(1, (.pointer (some p1))), (2, (.bool false))]) ⟨Z, Z, trivial⟩ (cw_drawQ 16 [PA RInt M a_t.Field, PEq (.int .i64 a_t.Field), PEq (.bool true), PEq (.bool true), PA RInt M a_t.Lo, PEq (.int .i64 a_t.Lo), PA RInt M a_t.Hi, PEq (.int .i64 a_t.Hi), PEq (.bool true), PEq (.bool true), PEq (.bool true), PA RInt M a_t.Hi, PEq (.int .i64 a_t.Hi), PA RInt M a_t.Field, PEq (.int .i64 a_t.Field), PEq (.int .i64 x3)] (by kernel_rfl) Z (by kernel_rfl) ⟨PA.mono _ _ _, PEq.mono _, PEq.mono _, PEq.mono _, PA.mono _ _ _, PEq.mono _, PA.mono _ _ _, PEq.mono _, PEq.mono _, PEq.mono _, PEq.mono _, PA.mono _ _ _, PEq.mono _, PA.mono _ _ _, PEq.mono _, PEq.mono _, trivial⟩ ⟨?_, ?_, ?_, ?_, ?_, ?_, ?_, ?_, ?_, ?_, ?_, ?_, ?_, ?_, ?_, ?_, trivial⟩ ?_)
   ·
    intro w5 D hS1 hd1
    have hl5 := Le.no M hS1
    exact dg_sub (E' := [(1, (.pointer (some p1)))]) ⟨Z, trivial⟩ (dg_plain Z (ow_fieldAddr Z Z Tryd.underlying128 Z (Tryd.sizeOf3 _) ⟨BX.refl _ _, ⟨_, Z, (ARep.mono hl5 (hp1.fld fld_Test_Field))⟩⟩))
   ·
    intro w6 D hS2 hd2
    have d1 : PA RInt M a_t.Field (D 0) w6 := dpA hd2 0 Z
    obtain ⟨p2, e1, ha1⟩ := d1
    refine dg_sub (E' := [(3, (.pointer (some p2)))]) ⟨(congrArg some e1), trivial⟩ (dg_plain Z (ow_load (R := RInt) Z Z ha1 (Tryd.sizeOf3 _) (Tryd.isAgg3 _) fun v9 hv9 => ?_))
    obtain rfl := vint_eq hv9
    exact ⟨BX.refl _ _, Z⟩
   ·
    intro w7 D hS3 hd3
    have hl7 := Le.no M hS3
    have hC7 := hC1.no hS3
    refine dg_sub (E' := [(4, (.int .i64 a_t.Field))]) ⟨(dpE hd3 1 Z Z), trivial⟩ (dg_plain Z (ow_call Z Z Tryd.call118 (w_spec_l1In (hG.mono (hl1.trans hl7)) hC7.old hx1) fun v10 w8 hv10 => ?_))
    obtain ⟨hv10, hb5⟩ := hv10
    obtain rfl := vbool_eq hv10
    exact ⟨hb5, Z⟩
   ·
    intro w9 D hS4 hd4
    exact dg_sub (E' := [(5, (.bool true))]) ⟨(dpE hd4 2 Z Z), trivial⟩ (dg_plain Z (ow_move Z Z ⟨BX.refl _ _, Z⟩))
   ·
    intro w10 D hS5 hd5
    have hl10 := Le.no M hS5
    exact dg_sub (E' := [(6, (.bool true)), (1, (.pointer (some p1)))]) ⟨(dpE hd5 3 Z Z), Z, trivial⟩ (dg_on Z Z Z Z (ow_fieldAddr Z Z Tryd.underlying128 Z (Tryd.sizeOf3 _) ⟨BX.refl _ _, ⟨_, Z, (ARep.mono hl10 (hp1.fld fld_Test_Lo))⟩⟩))
   ·
    intro w11 D hS6 hd6
    have d6 : PA RInt M a_t.Lo (D 4) w11 := dpA hd6 4 Z
    obtain ⟨p3, e2, ha2⟩ := d6
    refine dg_sub (E' := [(7, (.pointer (some p3))), (6, (.bool true))]) ⟨(congrArg some e2), (dpE hd6 3 Z Z), trivial⟩ (dg_on Z Z Z Z (ow_load (R := RInt) Z Z ha2 (Tryd.sizeOf3 _) (Tryd.isAgg3 _) fun v11 hv11 => ?_))
    obtain rfl := vint_eq hv11
    exact ⟨BX.refl _ _, Z⟩
   ·
    intro w12 D hS7 hd7
    have hl12 := Le.no M hS7
    exact dg_sub (E' := [(6, (.bool true)), (1, (.pointer (some p1)))]) ⟨(dpE hd7 3 Z Z), Z, trivial⟩ (dg_on Z Z Z Z (ow_fieldAddr Z Z Tryd.underlying128 Z (Tryd.sizeOf3 _) ⟨BX.refl _ _, ⟨_, Z, (ARep.mono hl12 (hp1.fld fld_Test_Hi))⟩⟩))
   ·
    intro w13 D hS8 hd8
    have d9 : PA RInt M a_t.Hi (D 6) w13 := dpA hd8 6 Z
    obtain ⟨p4, e3, ha3⟩ := d9
    refine dg_sub (E' := [(9, (.pointer (some p4))), (6, (.bool true))]) ⟨(congrArg some e3), (dpE hd8 3 Z Z), trivial⟩ (dg_on Z Z Z Z (ow_load (R := RInt) Z Z ha3 (Tryd.sizeOf3 _) (Tryd.isAgg3 _) fun v12 hv12 => ?_))
    obtain rfl := vint_eq hv12
    exact ⟨BX.refl _ _, Z⟩
   ·
    intro w14 D hS9 hd9
    have hl14 := Le.no M hS9
    have hC14 := hC1.no hS9
    refine dg_sub (E' := [(8, (.int .i64 a_t.Lo)), (10, (.int .i64 a_t.Hi)), (6, (.bool true))]) ⟨(dpE hd9 5 Z Z), (dpE hd9 7 Z Z), (dpE hd9 3 Z Z), trivial⟩ (dg_on Z Z Z Z (ow_call Z Z Tryd.call118 (w_spec_l1In (hG.mono (hl1.trans hl14)) hC14.old hx2) fun v13 w15 hv13 => ?_))
    obtain ⟨hv13, hb6⟩ := hv13
    obtain rfl := vbool_eq hv13
    exact ⟨hb6, Z⟩
   ·
    intro w16 D hS10 hd10
    exact dg_sub (E' := [(6, (.bool true)), (11, (.bool true))]) ⟨(dpE hd10 3 Z Z), (dpE hd10 8 Z Z), trivial⟩ (dg_plain Z (ow_pickT Z Z Z ⟨BX.refl _ _, Z⟩))
   ·
    intro w17 D hS11 hd11
    exact dg_sub (E' := [(12, (.bool true))]) ⟨(dpE hd11 9 Z Z), trivial⟩ (dg_plain Z (ow_move Z Z ⟨BX.refl _ _, Z⟩))
   ·
    intro w18 D hS12 hd12
    have hl18 := Le.no M hS12
    exact dg_sub (E' := [(13, (.bool true)), (1, (.pointer (some p1)))]) ⟨(dpE hd12 10 Z Z), Z, trivial⟩ (dg_on Z Z Z Z (ow_fieldAddr Z Z Tryd.underlying128 Z (Tryd.sizeOf3 _) ⟨BX.refl _ _, ⟨_, Z, (ARep.mono hl18 (hp1.fld fld_Test_Hi))⟩⟩))
   ·
    intro w19 D hS13 hd13
    have d20 : PA RInt M a_t.Hi (D 11) w19 := dpA hd13 11 Z
    obtain ⟨p5, e4, ha4⟩ := d20
    refine dg_sub (E' := [(14, (.pointer (some p5))), (13, (.bool true))]) ⟨(congrArg some e4), (dpE hd13 10 Z Z), trivial⟩ (dg_on Z Z Z Z (ow_load (R := RInt) Z Z ha4 (Tryd.sizeOf3 _) (Tryd.isAgg3 _) fun v14 hv14 => ?_))
    obtain rfl := vint_eq hv14
    exact ⟨BX.refl _ _, Z⟩
   ·
    intro w20 D hS14 hd14
    have hl20 := Le.no M hS14
    exact dg_sub (E' := [(13, (.bool true)), (1, (.pointer (some p1)))]) ⟨(dpE hd14 10 Z Z), Z, trivial⟩ (dg_on Z Z Z Z (ow_fieldAddr Z Z Tryd.underlying128 Z (Tryd.sizeOf3 _) ⟨BX.refl _ _, ⟨_, Z, (ARep.mono hl20 (hp1.fld fld_Test_Field))⟩⟩))
   ·
    intro w21 D hS15 hd15
    have d23 : PA RInt M a_t.Field (D 13) w21 := dpA hd15 13 Z
    obtain ⟨p6, e5, ha5⟩ := d23
    refine dg_sub (E' := [(16, (.pointer (some p6))), (13, (.bool true))]) ⟨(congrArg some e5), (dpE hd15 10 Z Z), trivial⟩ (dg_on Z Z Z Z (ow_load (R := RInt) Z Z ha5 (Tryd.sizeOf3 _) (Tryd.isAgg3 _) fun v15 hv15 => ?_))
    obtain rfl := vint_eq hv15
    exact ⟨BX.refl _ _, Z⟩
   ·
    intro w22 D hS16 hd16
    have hl22 := Le.no M hS16
    have hC22 := hC1.no hS16
    refine dg_sub (E' := [(17, (.int .i64 a_t.Field)), (13, (.bool true))]) ⟨(dpE hd16 14 Z Z), (dpE hd16 10 Z Z), trivial⟩ (dg_on Z Z Z Z (ow_call Z Z Tryd.call88 (w_spec_FieldTop (hG.mono (hl1.trans hl22)) hC22.old hx3) fun v16 w23 hv16 => ?_))
    obtain ⟨hv16, hb7⟩ := hv16
    obtain rfl := vint_eq hv16
    exact ⟨hb7, Z⟩
   ·
    intro w24 D hS17 hd17
    have hC24 := hC1.no hS17
    refine lw_sub (E' := [(13, (.bool true)), (15, (.int .i64 a_t.Hi)), (18, (.int .i64 x3)), (1, (.pointer (some p1))), (2, (.bool false))]) ⟨(dpE hd17 10 Z Z), (dpE hd17 12 Z Z), (dpE hd17 15 Z Z), Z, Z, trivial⟩ (lw_on Z Z Z Z Z Z (ow_leq Z Z Z fun bb1 hbb1 => lw_op Z Z Z (ow_pickT Z Z Z (lw_op Z Z Z (ow_assign Z Z (lw_nil (ew_then (cw_ret ?_))))))))
    obtain rfl := Option.some.inj h
    exact ew_ret (res1 Z (.tmp Z)) ⟨_, Z, ((vbool_of hbb1)), hC24.bx⟩
  ·
   subst hc2
   refine cw_sub (E' := [(1, (.pointer (some p1))), (2, (.bool false))]) ⟨Z, Z, trivial⟩ (cw_drawQ 16 [PA RInt M a_t.Field, PEq (.int .i64 a_t.Field), PEq (.bool true), PEq (.bool true), PA RInt M a_t.Lo, PEq (.int .i64 a_t.Lo), PA RInt M a_t.Hi, PEq (.int .i64 a_t.Hi), PEq (.bool false), PEq (.bool false), PEq (.bool false), PEq undef, PEq undef, PEq undef, PEq undef, PEq undef] (by kernel_rfl) Z (by kernel_rfl) ⟨PA.mono _ _ _, PEq.mono _, PEq.mono _, PEq.mono _, PA.mono _ _ _, PEq.mono _, PA.mono _ _ _, PEq.mono _, PEq.mono _, PEq.mono _, PEq.mono _, PEq.mono _, PEq.mono _, PEq.mono _, PEq.mono _, PEq.mono _, trivial⟩ ⟨?_, ?_, ?_, ?_, ?_, ?_, ?_, ?_, ?_, ?_, ?_, ?_, ?_, ?_, ?_, ?_, trivial⟩ ?_)
   ·
    intro w25 D hS18 hd18
    have hl25 := Le.no M hS18
    exact dg_sub (E' := [(1, (.pointer (some p1)))]) ⟨Z, trivial⟩ (dg_plain Z (ow_fieldAddr Z Z Tryd.underlying128 Z (Tryd.sizeOf3 _) ⟨BX.refl _ _, ⟨_, Z, (ARep.mono hl25 (hp1.fld fld_Test_Field))⟩⟩))
   ·
    intro w26 D hS19 hd19
    have d44 : PA RInt M a_t.Field (D 0) w26 := dpA hd19 0 Z
    obtain ⟨p7, e6, ha6⟩ := d44
    refine dg_sub (E' := [(3, (.pointer (some p7)))]) ⟨(congrArg some e6), trivial⟩ (dg_plain Z (ow_load (R := RInt) Z Z ha6 (Tryd.sizeOf3 _) (Tryd.isAgg3 _) fun v17 hv17 => ?_))
    obtain rfl := vint_eq hv17
    exact ⟨BX.refl _ _, Z⟩
   ·
    intro w27 D hS20 hd20
    have hl27 := Le.no M hS20
    have hC27 := hC1.no hS20
    refine dg_sub (E' := [(4, (.int .i64 a_t.Field))]) ⟨(dpE hd20 1 Z Z), trivial⟩ (dg_plain Z (ow_call Z Z Tryd.call118 (w_spec_l1In (hG.mono (hl1.trans hl27)) hC27.old hx1) fun v18 w28 hv18 => ?_))
    obtain ⟨hv18, hb8⟩ := hv18
    obtain rfl := vbool_eq hv18
    exact ⟨hb8, Z⟩
   ·
    intro w29 D hS21 hd21
    exact dg_sub (E' := [(5, (.bool true))]) ⟨(dpE hd21 2 Z Z), trivial⟩ (dg_plain Z (ow_move Z Z ⟨BX.refl _ _, Z⟩))
   ·
    intro w30 D hS22 hd22
    have hl30 := Le.no M hS22
    exact dg_sub (E' := [(6, (.bool true)), (1, (.pointer (some p1)))]) ⟨(dpE hd22 3 Z Z), Z, trivial⟩ (dg_on Z Z Z Z (ow_fieldAddr Z Z Tryd.underlying128 Z (Tryd.sizeOf3 _) ⟨BX.refl _ _, ⟨_, Z, (ARep.mono hl30 (hp1.fld fld_Test_Lo))⟩⟩))
   ·
    intro w31 D hS23 hd23
    have d49 : PA RInt M a_t.Lo (D 4) w31 := dpA hd23 4 Z
    obtain ⟨p8, e7, ha7⟩ := d49
    refine dg_sub (E' := [(7, (.pointer (some p8))), (6, (.bool true))]) ⟨(congrArg some e7), (dpE hd23 3 Z Z), trivial⟩ (dg_on Z Z Z Z (ow_load (R := RInt) Z Z ha7 (Tryd.sizeOf3 _) (Tryd.isAgg3 _) fun v19 hv19 => ?_))
    obtain rfl := vint_eq hv19
    exact ⟨BX.refl _ _, Z⟩
   ·
    intro w32 D hS24 hd24
    have hl32 := Le.no M hS24
    exact dg_sub (E' := [(6, (.bool true)), (1, (.pointer (some p1)))]) ⟨(dpE hd24 3 Z Z), Z, trivial⟩ (dg_on Z Z Z Z (ow_fieldAddr Z Z Tryd.underlying128 Z (Tryd.sizeOf3 _) ⟨BX.refl _ _, ⟨_, Z, (ARep.mono hl32 (hp1.fld fld_Test_Hi))⟩⟩))
   ·
    intro w33 D hS25 hd25
    have d52 : PA RInt M a_t.Hi (D 6) w33 := dpA hd25 6 Z
    obtain ⟨p9, e8, ha8⟩ := d52
    refine dg_sub (E' := [(9, (.pointer (some p9))), (6, (.bool true))]) ⟨(congrArg some e8), (dpE hd25 3 Z Z), trivial⟩ (dg_on Z Z Z Z (ow_load (R := RInt) Z Z ha8 (Tryd.sizeOf3 _) (Tryd.isAgg3 _) fun v20 hv20 => ?_))
    obtain rfl := vint_eq hv20
    exact ⟨BX.refl _ _, Z⟩
   ·
    intro w34 D hS26 hd26
    have hl34 := Le.no M hS26
    have hC34 := hC1.no hS26
    refine dg_sub (E' := [(8, (.int .i64 a_t.Lo)), (10, (.int .i64 a_t.Hi)), (6, (.bool true))]) ⟨(dpE hd26 5 Z Z), (dpE hd26 7 Z Z), (dpE hd26 3 Z Z), trivial⟩ (dg_on Z Z Z Z (ow_call Z Z Tryd.call118 (w_spec_l1In (hG.mono (hl1.trans hl34)) hC34.old hx2) fun v21 w35 hv21 => ?_))
    obtain ⟨hv21, hb9⟩ := hv21
    obtain rfl := vbool_eq hv21
    exact ⟨hb9, Z⟩
   ·
    intro w36 D hS27 hd27
    exact dg_sub (E' := [(6, (.bool true)), (11, (.bool false))]) ⟨(dpE hd27 3 Z Z), (dpE hd27 8 Z Z), trivial⟩ (dg_plain Z (ow_pickT Z Z Z ⟨BX.refl _ _, Z⟩))
   ·
    intro w37 D hS28 hd28
    exact dg_sub (E' := [(12, (.bool false))]) ⟨(dpE hd28 9 Z Z), trivial⟩ (dg_plain Z (ow_move Z Z ⟨BX.refl _ _, Z⟩))
   ·
    intro w38 D hS29 hd29
    exact dg_sub (E' := [(13, (.bool false)), (1, (.pointer (some p1)))]) ⟨(dpE hd29 10 Z Z), Z, trivial⟩ (dg_off Z Z Z Z ⟨BX.refl _ _, Z⟩)
   ·
    intro w39 D hS30 hd30
    exact dg_sub (E' := [(14, undef), (13, (.bool false))]) ⟨(dpE hd30 11 Z Z), (dpE hd30 10 Z Z), trivial⟩ (dg_off Z Z Z Z ⟨BX.refl _ _, Z⟩)
   ·
    intro w40 D hS31 hd31
    exact dg_sub (E' := [(13, (.bool false)), (1, (.pointer (some p1)))]) ⟨(dpE hd31 10 Z Z), Z, trivial⟩ (dg_off Z Z Z Z ⟨BX.refl _ _, Z⟩)
   ·
    intro w41 D hS32 hd32
    exact dg_sub (E' := [(16, undef), (13, (.bool false))]) ⟨(dpE hd32 13 Z Z), (dpE hd32 10 Z Z), trivial⟩ (dg_off Z Z Z Z ⟨BX.refl _ _, Z⟩)
   ·
    intro w42 D hS33 hd33
    exact dg_sub (E' := [(17, undef), (13, (.bool false))]) ⟨(dpE hd33 14 Z Z), (dpE hd33 10 Z Z), trivial⟩ (dg_off Z Z Z Z ⟨BX.refl _ _, Z⟩)
   ·
    intro w43 D hS34 hd34
    have hC43 := hC1.no hS34
    refine lw_sub (E' := [(13, (.bool false)), (15, undef), (18, undef), (1, (.pointer (some p1))), (2, (.bool false))]) ⟨(dpE hd34 10 Z Z), (dpE hd34 12 Z Z), (dpE hd34 15 Z Z), Z, Z, trivial⟩ (lw_off Z Z Z Z Z Z (lw_op Z Z Z (ow_pickF Z Z Z (lw_op Z Z Z (ow_assign Z Z (lw_nil (ew_then (cw_ret ?_))))))))
    obtain rfl := Option.some.inj h
    exact ew_ret (res1 Z (.tmp Z)) ⟨_, Z, ((vbool _)), hC43.bx⟩
 ·
  subst hc1
  refine cw_sub (E' := [(1, (.pointer (some p1))), (2, (.bool false))]) ⟨Z, Z, trivial⟩ (cw_drawQ 16 [PA RInt M a_t.Field, PEq (.int .i64 a_t.Field), PEq (.bool false), PEq (.bool false), PEq undef, PEq undef, PEq undef, PEq undef, PEq undef, PEq (.bool false), PEq (.bool false), PEq undef, PEq undef, PEq undef, PEq undef, PEq undef] (by kernel_rfl) Z (by kernel_rfl) ⟨PA.mono _ _ _, PEq.mono _, PEq.mono _, PEq.mono _, PEq.mono _, PEq.mono _, PEq.mono _, PEq.mono _, PEq.mono _, PEq.mono _, PEq.mono _, PEq.mono _, PEq.mono _, PEq.mono _, PEq.mono _, PEq.mono _, trivial⟩ ⟨?_, ?_, ?_, ?_, ?_, ?_, ?_, ?_, ?_, ?_, ?_, ?_, ?_, ?_, ?_, ?_, trivial⟩ ?_)
  ·
   intro w44 D hS35 hd35
   have hl44 := Le.no M hS35
   exact dg_sub (E' := [(1, (.pointer (some p1)))]) ⟨Z, trivial⟩ (dg_plain Z (ow_fieldAddr Z Z Tryd.underlying128 Z (Tryd.sizeOf3 _) ⟨BX.refl _ _, ⟨_, Z, (ARep.mono hl44 (hp1.fld fld_Test_Field))⟩⟩))
  ·
   intro w45 D hS36 hd36
   have d87 : PA RInt M a_t.Field (D 0) w45 := dpA hd36 0 Z
   obtain ⟨p10, e9, ha9⟩ := d87
   refine dg_sub (E' := [(3, (.pointer (some p10)))]) ⟨(congrArg some e9), trivial⟩ (dg_plain Z (ow_load (R := RInt) Z Z ha9 (Tryd.sizeOf3 _) (Tryd.isAgg3 _) fun v22 hv22 => ?_))
   obtain rfl := vint_eq hv22
   exact ⟨BX.refl _ _, Z⟩
  ·
   intro w46 D hS37 hd37
   have hl46 := Le.no M hS37
   have hC46 := hC1.no hS37
   refine dg_sub (E' := [(4, (.int .i64 a_t.Field))]) ⟨(dpE hd37 1 Z Z), trivial⟩ (dg_plain Z (ow_call Z Z Tryd.call118 (w_spec_l1In (hG.mono (hl1.trans hl46)) hC46.old hx1) fun v23 w47 hv23 => ?_))
   obtain ⟨hv23, hb10⟩ := hv23
   obtain rfl := vbool_eq hv23
   exact ⟨hb10, Z⟩
  ·
   intro w48 D hS38 hd38
   exact dg_sub (E' := [(5, (.bool false))]) ⟨(dpE hd38 2 Z Z), trivial⟩ (dg_plain Z (ow_move Z Z ⟨BX.refl _ _, Z⟩))
  ·
   intro w49 D hS39 hd39
   exact dg_sub (E' := [(6, (.bool false)), (1, (.pointer (some p1)))]) ⟨(dpE hd39 3 Z Z), Z, trivial⟩ (dg_off Z Z Z Z ⟨BX.refl _ _, Z⟩)
  ·
   intro w50 D hS40 hd40
   exact dg_sub (E' := [(7, undef), (6, (.bool false))]) ⟨(dpE hd40 4 Z Z), (dpE hd40 3 Z Z), trivial⟩ (dg_off Z Z Z Z ⟨BX.refl _ _, Z⟩)
  ·
   intro w51 D hS41 hd41
   exact dg_sub (E' := [(6, (.bool false)), (1, (.pointer (some p1)))]) ⟨(dpE hd41 3 Z Z), Z, trivial⟩ (dg_off Z Z Z Z ⟨BX.refl _ _, Z⟩)
  ·
   intro w52 D hS42 hd42
   exact dg_sub (E' := [(9, undef), (6, (.bool false))]) ⟨(dpE hd42 6 Z Z), (dpE hd42 3 Z Z), trivial⟩ (dg_off Z Z Z Z ⟨BX.refl _ _, Z⟩)
  ·
   intro w53 D hS43 hd43
   exact dg_sub (E' := [(8, undef), (10, undef), (6, (.bool false))]) ⟨(dpE hd43 5 Z Z), (dpE hd43 7 Z Z), (dpE hd43 3 Z Z), trivial⟩ (dg_off Z Z Z Z ⟨BX.refl _ _, Z⟩)
  ·
   intro w54 D hS44 hd44
   exact dg_sub (E' := [(6, (.bool false)), (11, undef)]) ⟨(dpE hd44 3 Z Z), (dpE hd44 8 Z Z), trivial⟩ (dg_plain Z (ow_pickF Z Z Z ⟨BX.refl _ _, Z⟩))
  ·
   intro w55 D hS45 hd45
   exact dg_sub (E' := [(12, (.bool false))]) ⟨(dpE hd45 9 Z Z), trivial⟩ (dg_plain Z (ow_move Z Z ⟨BX.refl _ _, Z⟩))
  ·
   intro w56 D hS46 hd46
   exact dg_sub (E' := [(13, (.bool false)), (1, (.pointer (some p1)))]) ⟨(dpE hd46 10 Z Z), Z, trivial⟩ (dg_off Z Z Z Z ⟨BX.refl _ _, Z⟩)
  ·
   intro w57 D hS47 hd47
   exact dg_sub (E' := [(14, undef), (13, (.bool false))]) ⟨(dpE hd47 11 Z Z), (dpE hd47 10 Z Z), trivial⟩ (dg_off Z Z Z Z ⟨BX.refl _ _, Z⟩)
  ·
   intro w58 D hS48 hd48
   exact dg_sub (E' := [(13, (.bool false)), (1, (.pointer (some p1)))]) ⟨(dpE hd48 10 Z Z), Z, trivial⟩ (dg_off Z Z Z Z ⟨BX.refl _ _, Z⟩)
  ·
   intro w59 D hS49 hd49
   exact dg_sub (E' := [(16, undef), (13, (.bool false))]) ⟨(dpE hd49 13 Z Z), (dpE hd49 10 Z Z), trivial⟩ (dg_off Z Z Z Z ⟨BX.refl _ _, Z⟩)
  ·
   intro w60 D hS50 hd50
   exact dg_sub (E' := [(17, undef), (13, (.bool false))]) ⟨(dpE hd50 14 Z Z), (dpE hd50 10 Z Z), trivial⟩ (dg_off Z Z Z Z ⟨BX.refl _ _, Z⟩)
  ·
   intro w61 D hS51 hd51
   have hC61 := hC1.no hS51
   refine lw_sub (E' := [(13, (.bool false)), (15, undef), (18, undef), (1, (.pointer (some p1))), (2, (.bool false))]) ⟨(dpE hd51 10 Z Z), (dpE hd51 12 Z Z), (dpE hd51 15 Z Z), Z, Z, trivial⟩ (lw_off Z Z Z Z Z Z (lw_op Z Z Z (ow_pickF Z Z Z (lw_op Z Z Z (ow_assign Z Z (lw_nil (ew_then (cw_ret ?_))))))))
   obtain rfl := Option.some.inj h
   exact ew_ret (res1 Z (.tmp Z)) ⟨_, Z, ((vbool _)), hC61.bx⟩

theorem w_spec_l20Packet {w : World} {M : Nat → Prop} (hG : ARep (RArr 4 RShape) w M shapes ⟨0, 0, none⟩) (hO : ∀ b, M b → b < w.heap.size) {g : Nat} {Ax : Option Addr} {cx : Nat} {a_xs : List Int} {a_pos : Int} (hxs : VRep (RSlice RU8) w M a_xs (.slice Ax a_xs.length cx)) (hown : Own w g 183 #[.slice Ax a_xs.length cx, .int .i64 a_pos]) (hgM : M g) {a_n : Int} {r : Packet × Int} (h : F.spec_l20Packet a_xs a_pos a_n = some r) :
  Calls Tryd.prog 173 [(.pointer (some ⟨g, 0, none⟩)), (.int .i64 a_n)].toArray w fun e w' => ∃ v, e = .returned v ∧ (VRep RPacket w' M r.1 v ∧ Own w' g 183 #[.slice Ax a_xs.length cx, .int .i64 r.2]) ∧ BX (One g) w w' := by
 have hX : ∀ b, (One g) b → M b := fun b e => e ▸ hgM
 have hC : Cx (One g) w M w M := Cx.start hO hX
 refine walk (N := 71) Tryd.func173 Z Tryd.ntmps173 Z (cw_seq (cw_region (lw_op Z Z Z (ow_alloc Z (Tryd.zeroValue27 _) hC fun g1 w1 hg1 hg2 ho1 hb1 hl1 hC1 => ?_))))
 have hn1 := Nat.ne_of_lt (Nat.lt_of_lt_of_le hown.lt hg1)
 have ho2 := hown.no hb1
 have hm1 : (Add g1 M) g := .inr hgM
 have hm2 : (Add g1 M) g1 := .inl Z
 refine lw_nil (ew_then (cw_seq (cw_region (lw_op Z Z Z (ow_move Z Z ?_)))))
 replace h := bind_some h
 obtain ⟨x1, hx1, h⟩ := h
 refine lw_op Z Z Z (ow_call Z Z Tryd.call137 (w_spec_l20Rd_pick (hG.mono hl1) hC1.old (VRep.mono hl1 hxs) ho2 hm1 hx1) fun v1 w2 hv1 => ?_)
 obtain ⟨⟨hv1, ho3⟩, hb2⟩ := hv1
 have hl2 := Le.of_bx (Add g1 M) hb2 (fun b e => (by rw [show b = g from e]; exact hm1))
 have hC2 := hC1.go hb2 (fun b e => Or.inr e)
 have ho4 := ho1.go hb2 (fun e => hn1 e.symm)
 obtain rfl := vint_eq hv1
 refine lw_op Z Z Z (ow_move Z Z ?_)
 replace h := bind_some h
 obtain ⟨x2, hx2, h⟩ := h
 refine lw_op Z Z Z (ow_call Z Z Tryd.call137 (w_spec_l20Rd_pick (hG.mono (hl1.trans hl2)) hC2.old (VRep.mono (hl1.trans hl2) hxs) ho3 hm1 hx2) fun v2 w3 hv2 => ?_)
 obtain ⟨⟨hv2, ho5⟩, hb3⟩ := hv2
 have hl3 := Le.of_bx (Add g1 M) hb3 (fun b e => (by rw [show b = g from e]; exact hm1))
 have hC3 := hC2.go hb3 (fun b e => Or.inr e)
 have ho6 := ho4.go hb3 (fun e => hn1 e.symm)
 obtain rfl := vint_eq hv2
 refine lw_op Z Z Z (ow_move Z Z ?_)
 have lz1 := ((hl1.trans hl2).trans hl3)
 replace h := bind_some h
 obtain ⟨x3, hx3, h⟩ := h
 refine lw_op Z Z Z (ow_call Z Z Tryd.call137 (w_spec_l20Rd_pick (hG.mono lz1) hC3.old (VRep.mono lz1 hxs) ho5 hm1 hx3) fun v3 w4 hv3 => ?_)
 obtain ⟨⟨hv3, ho7⟩, hb4⟩ := hv3
 have hl4 := Le.of_bx (Add g1 M) hb4 (fun b e => (by rw [show b = g from e]; exact hm1))
 have hC4 := hC3.go hb4 (fun b e => Or.inr e)
 have ho8 := ho6.go hb4 (fun e => hn1 e.symm)
 obtain rfl := vint_eq hv3
 refine lw_op Z Z Z (ow_move Z Z ?_)
 replace h := bind_some h
 obtain ⟨x4, hx4, h⟩ := h
 refine lw_op Z Z Z (ow_call Z Z Tryd.call137 (w_spec_l20Rd_pick (hG.mono (lz1.trans hl4)) hC4.old (VRep.mono (lz1.trans hl4) hxs) ho7 hm1 hx4) fun v4 w5 hv4 => ?_)
 obtain ⟨⟨hv4, ho9⟩, hb5⟩ := hv4
 have hl5 := Le.of_bx (Add g1 M) hb5 (fun b e => (by rw [show b = g from e]; exact hm1))
 have hC5 := hC4.go hb5 (fun b e => Or.inr e)
 have ho10 := ho8.go hb5 (fun e => hn1 e.symm)
 obtain rfl := vint_eq hv4
 refine lw_op Z Z Z (ow_build (v := .agg #[(.int .i64 x1.1), (.int .i64 x2.1), (.int .i64 x3.1), (.int .i64 x4.1)]) Z Z (by kernel_rfl) (lw_op Z Z Z (ow_alloc Z (Tryd.zeroValue27 _) hC5 fun g2 w6 hg3 hg4 ho11 hb6 hl6 hC6 => ?_)))
 have hn2 := Nat.ne_of_lt (Nat.lt_of_lt_of_le ho9.lt hg3)
 have ho12 := ho9.no hb6
 have hm3 : (Add g2 (Add g1 M)) g := .inr hm1
 have hn3 := Nat.ne_of_lt (Nat.lt_of_lt_of_le ho10.lt hg3)
 have ho13 := ho10.no hb6
 have hm4 : (Add g2 (Add g1 M)) g1 := .inr hm2
 have hm5 : (Add g2 (Add g1 M)) g2 := .inl Z
 refine lw_op0 Z Z (ow_store (X := (One g)) (us := [(.int .i64 x1.1), (.int .i64 x2.1), (.int .i64 x3.1), (.int .i64 x4.1)]) (cs' := #[(.int .i64 x1.1), (.int .i64 x2.1), (.int .i64 x3.1), (.int .i64 x4.1)]) Z Z Z Z ho11 (Tryd.sizeOf27 _) Z Z Z Z hm5 (.inl hg4) Z hC6 fun w7 ho14 hb7 hl7 hC7 => ?_)
 have ho15 := ho12.go hb7 (fun e => hn2 e)
 have ho16 := ho13.go hb7 (fun e => hn3 e)
 refine lw_nil (ew_then (cw_seq (cw_seq (cw_region (lw_op Z Z Z (ow_move Z Z ?_))))))
 have lz2 := ((((lz1.trans hl4).trans hl5).trans hl6).trans hl7)
 replace h := bind_some h
 obtain ⟨x5, hx5, h⟩ := h
 refine lw_op Z Z Z (ow_call Z Z Tryd.call137 (w_spec_l20Rd_pick (hG.mono lz2) hC7.old (VRep.mono lz2 hxs) ho15 hm3 hx5) fun v5 w8 hv5 => ?_)
 obtain ⟨⟨hv5, ho17⟩, hb8⟩ := hv5
 have hl8 := Le.of_bx (Add g2 (Add g1 M)) hb8 (fun b e => (by rw [show b = g from e]; exact hm3))
 have hC8 := hC7.go hb8 (fun b e => Or.inr e)
 have ho18 := ho16.go hb8 (fun e => hn1 e.symm)
 have ho19 := ho14.go hb8 (fun e => hn2 e.symm)
 obtain rfl := vint_eq hv5
 refine lw_op Z Z Z (ow_eqlI Z Z Z fun bb1 hbb1 => lw_nil (ew_then ?_))
 replace h := cond_some h
 rcases h with ⟨hc1, h⟩ | ⟨hc1, h⟩
 ·
  obtain rfl := hbb1.trans hc1
  refine cw_true Z (cw_seq (cw_region (lw_op Z Z Z (ow_move Z Z ?_))))
  replace h := bind_some h
  obtain ⟨x6, hx6, h⟩ := h
  refine lw_op Z Z Z (ow_call Z Z Tryd.call137 (w_spec_l20Rd_pick (hG.mono (lz2.trans hl8)) hC8.old (VRep.mono (lz2.trans hl8) hxs) ho17 hm3 hx6) fun v6 w9 hv6 => ?_)
  obtain ⟨⟨hv6, ho20⟩, hb9⟩ := hv6
  have hl9 := Le.of_bx (Add g2 (Add g1 M)) hb9 (fun b e => (by rw [show b = g from e]; exact hm3))
  have hC9 := hC8.go hb9 (fun b e => Or.inr e)
  have ho21 := ho18.go hb9 (fun e => hn1 e.symm)
  have ho22 := ho19.go hb9 (fun e => hn2 e.symm)
  obtain rfl := vint_eq hv6
  refine lw_op Z Z Z (ow_mul Z Z Z (lw_op Z Z Z (ow_move Z Z ?_)))
  have lz3 := ((lz2.trans hl8).trans hl9)
  replace h := bind_some h
  obtain ⟨x7, hx7, h⟩ := h
  refine lw_op Z Z Z (ow_call Z Z Tryd.call137 (w_spec_l20Rd_pick (hG.mono lz3) hC9.old (VRep.mono lz3 hxs) ho20 hm3 hx7) fun v7 w10 hv7 => ?_)
  obtain ⟨⟨hv7, ho23⟩, hb10⟩ := hv7
  have hl10 := Le.of_bx (Add g2 (Add g1 M)) hb10 (fun b e => (by rw [show b = g from e]; exact hm3))
  have hC10 := hC9.go hb10 (fun b e => Or.inr e)
  have ho24 := ho21.go hb10 (fun e => hn1 e.symm)
  have ho25 := ho22.go hb10 (fun e => hn2 e.symm)
  obtain rfl := vint_eq hv7
  refine lw_op Z Z Z (ow_add Z Z Z (lw_op Z Z Z (ow_fieldAddr Z Z Tryd.underlying27 Z (Tryd.sizeOf3 _) (lw_op0 Z Z (ow_store (X := (One g)) (us := [(.int .i64 (W ((W (x6.1 * 256)) + x7.1)))]) (cs' := #[(.int .i64 (W ((W (x6.1 * 256)) + x7.1))), (.int .i64 x2.1), (.int .i64 x3.1), (.int .i64 x4.1)]) Z Z Z Z ho25 (Tryd.sizeOf3 _) Z Z Z Z hm5 (.inl hg4) Z hC10 fun w11 ho26 hb11 hl11 hC11 => ?_)))))
  have ho27 := ho23.go hb11 (fun e => hn2 e)
  have ho28 := ho24.go hb11 (fun e => hn3 e)
  refine lw_nil (ew_then (cw_seq (cw_region (lw_op Z Z Z (ow_move Z Z ?_)))))
  have lz4 := ((lz3.trans hl10).trans hl11)
  replace h := bind_some h
  obtain ⟨x8, hx8, h⟩ := h
  refine lw_op Z Z Z (ow_call Z Z Tryd.call137 (w_spec_l20Rd_pick (hG.mono lz4) hC11.old (VRep.mono lz4 hxs) ho27 hm3 hx8) fun v8 w12 hv8 => ?_)
  obtain ⟨⟨hv8, ho29⟩, hb12⟩ := hv8
  have hl12 := Le.of_bx (Add g2 (Add g1 M)) hb12 (fun b e => (by rw [show b = g from e]; exact hm3))
  have hC12 := hC11.go hb12 (fun b e => Or.inr e)
  have ho30 := ho28.go hb12 (fun e => hn1 e.symm)
  have ho31 := ho26.go hb12 (fun e => hn2 e.symm)
  obtain rfl := vint_eq hv8
  refine lw_op Z Z Z (ow_mul Z Z Z (lw_op Z Z Z (ow_move Z Z ?_)))
  replace h := bind_some h
  obtain ⟨x9, hx9, h⟩ := h
  refine lw_op Z Z Z (ow_call Z Z Tryd.call137 (w_spec_l20Rd_pick (hG.mono (lz4.trans hl12)) hC12.old (VRep.mono (lz4.trans hl12) hxs) ho29 hm3 hx9) fun v9 w13 hv9 => ?_)
  obtain ⟨⟨hv9, ho32⟩, hb13⟩ := hv9
  have hl13 := Le.of_bx (Add g2 (Add g1 M)) hb13 (fun b e => (by rw [show b = g from e]; exact hm3))
  have hC13 := hC12.go hb13 (fun b e => Or.inr e)
  have ho33 := ho30.go hb13 (fun e => hn1 e.symm)
  have ho34 := ho31.go hb13 (fun e => hn2 e.symm)
  obtain rfl := vint_eq hv9
  refine lw_op Z Z Z (ow_add Z Z Z (lw_op Z Z Z (ow_fieldAddr Z Z Tryd.underlying27 Z (Tryd.sizeOf3 _) (lw_op0 Z Z (ow_store (X := (One g)) (us := [(.int .i64 (W ((W (x8.1 * 16384)) + x9.1)))]) (cs' := #[(.int .i64 (W ((W (x6.1 * 256)) + x7.1))), (.int .i64 (W ((W (x8.1 * 16384)) + x9.1))), (.int .i64 x3.1), (.int .i64 x4.1)]) Z Z Z Z ho34 (Tryd.sizeOf3 _) Z Z Z Z hm5 (.inl hg4) Z hC13 fun w14 ho35 hb14 hl14 hC14 => ?_)))))
  have ho36 := ho32.go hb14 (fun e => hn2 e)
  have ho37 := ho33.go hb14 (fun e => hn3 e)
  refine lw_nil (ew_then (cw_region (lw_op Z Z Z (ow_move Z Z ?_))))
  have lz5 := (((lz4.trans hl12).trans hl13).trans hl14)
  replace h := bind_some h
  obtain ⟨x10, hx10, h⟩ := h
  refine lw_op Z Z Z (ow_call Z Z Tryd.call137 (w_spec_l20Rd_pick (hG.mono lz5) hC14.old (VRep.mono lz5 hxs) ho36 hm3 hx10) fun v10 w15 hv10 => ?_)
  obtain ⟨⟨hv10, ho38⟩, hb15⟩ := hv10
  have hl15 := Le.of_bx (Add g2 (Add g1 M)) hb15 (fun b e => (by rw [show b = g from e]; exact hm3))
  have hC15 := hC14.go hb15 (fun b e => Or.inr e)
  have ho39 := ho37.go hb15 (fun e => hn1 e.symm)
  have ho40 := ho35.go hb15 (fun e => hn2 e.symm)
  obtain rfl := vint_eq hv10
  refine lw_op Z Z Z (ow_fieldAddr Z Z Tryd.underlying27 Z (Tryd.sizeOf3 _) (lw_op0 Z Z (ow_store (X := (One g)) (us := [(.int .i64 x10.1)]) (cs' := #[(.int .i64 (W ((W (x6.1 * 256)) + x7.1))), (.int .i64 (W ((W (x8.1 * 16384)) + x9.1))), (.int .i64 x10.1), (.int .i64 x4.1)]) Z Z Z Z ho40 (Tryd.sizeOf3 _) Z Z Z Z hm5 (.inl hg4) Z hC15 fun w16 ho41 hb16 hl16 hC16 => ?_)))
  have ho42 := ho38.go hb16 (fun e => hn2 e)
  have ho43 := ho39.go hb16 (fun e => hn3 e)
  refine lw_nil (ew_then (cw_seq (cw_seq (cw_region (lw_op Z Z Z (ow_move Z Z (lw_op Z Z Z (ow_move Z Z ?_))))))))
  have lz6 := ((lz5.trans hl15).trans hl16)
  replace h := bind_some h
  obtain ⟨x11, hx11, h⟩ := h
  refine lw_op Z Z Z (ow_call Z Z Tryd.call172 (w_spec_l20Rd_odd (hG.mono lz6) hC16.old (VRep.mono lz6 hxs) ho42 hm3 hx11) fun v11 w17 hv11 => ?_)
  obtain ⟨⟨hv11, ho44⟩, hb17⟩ := hv11
  have hl17 := Le.of_bx (Add g2 (Add g1 M)) hb17 (fun b e => (by rw [show b = g from e]; exact hm3))
  have hC17 := hC16.go hb17 (fun b e => Or.inr e)
  have ho45 := ho43.go hb17 (fun e => hn1 e.symm)
  have ho46 := ho41.go hb17 (fun e => hn2 e.symm)
  obtain ⟨bb2, hbb2, rfl⟩ := vbool_ex hv11
  refine lw_nil (ew_then ?_)
  replace h := cond_some h
  rcases h with ⟨hc2, h⟩ | ⟨hc2, h⟩
  ·
   obtain rfl := hbb2.trans hc2
   refine cw_true Z (cw_seq (cw_region (lw_op Z Z Z (ow_move Z Z ?_))))
   replace h := bind_some h
   obtain ⟨x12, hx12, h⟩ := h
   refine lw_op Z Z Z (ow_call Z Z Tryd.call137 (w_spec_l20Rd_pick (hG.mono (lz6.trans hl17)) hC17.old (VRep.mono (lz6.trans hl17) hxs) ho44 hm3 hx12) fun v12 w18 hv12 => ?_)
   obtain ⟨⟨hv12, ho47⟩, hb18⟩ := hv12
   have hl18 := Le.of_bx (Add g2 (Add g1 M)) hb18 (fun b e => (by rw [show b = g from e]; exact hm3))
   have hC18 := hC17.go hb18 (fun b e => Or.inr e)
   have ho48 := ho45.go hb18 (fun e => hn1 e.symm)
   have ho49 := ho46.go hb18 (fun e => hn2 e.symm)
   obtain rfl := vint_eq hv12
   refine lw_nil (ew_then (cw_block (cw_seq (cw_region (lw_op Z Z Z (ow_eqlI Z Z Z fun bb3 hbb3 => lw_op Z Z Z (ow_assign Z Z (lw_nil (ew_then ?_)))))))))
   replace h := cond_some h
   rcases h with ⟨hc3, h⟩ | ⟨hc3, h⟩
   ·
    obtain rfl := hbb3.trans hc3
    refine cw_true Z (cw_region (lw_op Z Z Z (ow_buildSlice (R := RInt) (xs := [(-1), 65536]) (cs := #[(.int .i64 (-1)), (.int .i64 65536)]) (e := 3) Z Z (by kernel_rfl) Z Z ⟨_, _, Z, (vint _).cells, _, _, Z, (vint _).cells, Z⟩ hC18 fun p1 w19 hw2 hb19 hl19 hC19 => ?_)))
    have ho50 := ho47.no hb19
    have ho51 := ho48.no hb19
    have ho52 := ho49.no hb19
    refine lw_op Z Z Z (ow_move Z Z ?_)
    have lz7 := (((lz6.trans hl17).trans hl18).trans hl19)
    replace h := bind_some h
    obtain ⟨x13, hx13, h⟩ := h
    refine lw_op Z Z Z (ow_call Z Z Tryd.call137 (w_spec_l20Rd_pick (hG.mono lz7) hC19.old (VRep.mono lz7 hxs) ho50 hm3 hx13) fun v13 w20 hv13 => ?_)
    obtain ⟨⟨hv13, ho53⟩, hb20⟩ := hv13
    have hl20 := Le.of_bx (Add g2 (Add g1 M)) hb20 (fun b e => (by rw [show b = g from e]; exact hm3))
    have hC20 := hC19.go hb20 (fun b e => Or.inr e)
    have ho54 := ho51.go hb20 (fun e => hn1 e.symm)
    have ho55 := ho52.go hb20 (fun e => hn2 e.symm)
    obtain rfl := vint_eq hv13
    replace h := bind_some h
    obtain ⟨x14, hx14, h⟩ := h
    refine lw_op Z Z Z (ow_indexSlice (R := RInt) Z Z Z (VRep.mono hl20 hw2) Tryd.underlying34 (Tryd.sizeOf3 _) hx14 fun p2 hp2 => lw_op Z Z Z (ow_load (R := RInt) Z Z hp2 (Tryd.sizeOf3 _) (Tryd.isAgg3 _) fun v14 hv14 => ?_))
    obtain rfl := vint_eq hv14
    refine lw_op Z Z Z (ow_fieldAddr Z Z Tryd.underlying27 Z (Tryd.sizeOf3 _) (lw_op0 Z Z (ow_store (X := (One g)) (us := [(.int .i64 x14)]) (cs' := #[(.int .i64 x14), (.int .i64 (W ((W (x8.1 * 16384)) + x9.1))), (.int .i64 x10.1), (.int .i64 x4.1)]) Z Z Z Z ho55 (Tryd.sizeOf3 _) Z Z Z Z hm5 (.inl hg4) Z hC20 fun w21 ho56 hb21 hl21 hC21 => ?_)))
    have ho57 := ho53.go hb21 (fun e => hn2 e)
    have ho58 := ho54.go hb21 (fun e => hn3 e)
    refine lw_nil (ew_blockN (ew_then (cw_seq (cw_region (lw_op Z Z Z (ow_loadOwnA Z Z Z ho56 (Tryd.isAgg27 _) (Tryd.sizeOf27 _) Z (lw_op0 Z Z (ow_store (X := (One g)) (us := [(.int .i64 x14), (.int .i64 (W ((W (x8.1 * 16384)) + x9.1))), (.int .i64 x10.1), (.int .i64 x4.1)]) (cs' := #[(.int .i64 x14), (.int .i64 (W ((W (x8.1 * 16384)) + x9.1))), (.int .i64 x10.1), (.int .i64 x4.1)]) Z Z Z Z ho58 (Tryd.sizeOf27 _) Z Z Z Z hm4 (.inl hg2) Z hC21 fun w22 ho59 hb22 hl22 hC22 => ?_))))))))
    have ho60 := ho57.go hb22 (fun e => hn1 e)
    refine lw_nil (ew_then (cw_ret ?_))
    have hw4 : VRep RPacket w22 (Add g2 (Add g1 M)) ({ From := x14, To := (W ((W (x8.1 * 16384)) + x9.1)), Port := x10.1, Proto := x4.1 } : Packet) (.agg #[(.int .i64 x14), (.int .i64 (W ((W (x8.1 * 16384)) + x9.1))), (.int .i64 x10.1), (.int .i64 x4.1)]) := shut_Packet
    obtain rfl := Option.some.inj h
    exact ew_ret (res1 Z (.cell Z (own_loadVarA ho59 (Tryd.isAgg27 _) (Tryd.sizeOf27 _) Z))) ⟨_, Z, ⟨(hw4.mono hC22.back), ho60⟩, hC22.bx⟩
   ·
    obtain rfl := hbb3.trans hc3
    refine cw_false Z (cw_seq (cw_region (lw_op Z Z Z (ow_eqlI Z Z Z fun bb4 hbb4 => lw_op Z Z Z (ow_assign Z Z (lw_nil (ew_then ?_)))))))
    replace h := cond_some h
    rcases h with ⟨hc4, h⟩ | ⟨hc4, h⟩
    ·
     obtain rfl := hbb4.trans hc4
     refine cw_true Z (cw_region (lw_op Z Z Z (ow_buildSlice (R := RInt) (xs := [(-1), 65536]) (cs := #[(.int .i64 (-1)), (.int .i64 65536)]) (e := 3) Z Z (by kernel_rfl) Z Z ⟨_, _, Z, (vint _).cells, _, _, Z, (vint _).cells, Z⟩ hC18 fun p3 w23 hw5 hb23 hl23 hC23 => ?_)))
     have ho62 := ho47.no hb23
     have ho63 := ho48.no hb23
     have ho64 := ho49.no hb23
     refine lw_op Z Z Z (ow_move Z Z ?_)
     have lz8 := (((lz6.trans hl17).trans hl18).trans hl23)
     replace h := bind_some h
     obtain ⟨x15, hx15, h⟩ := h
     refine lw_op Z Z Z (ow_call Z Z Tryd.call137 (w_spec_l20Rd_pick (hG.mono lz8) hC23.old (VRep.mono lz8 hxs) ho62 hm3 hx15) fun v15 w24 hv15 => ?_)
     obtain ⟨⟨hv15, ho65⟩, hb24⟩ := hv15
     have hl24 := Le.of_bx (Add g2 (Add g1 M)) hb24 (fun b e => (by rw [show b = g from e]; exact hm3))
     have hC24 := hC23.go hb24 (fun b e => Or.inr e)
     have ho66 := ho63.go hb24 (fun e => hn1 e.symm)
     have ho67 := ho64.go hb24 (fun e => hn2 e.symm)
     obtain rfl := vint_eq hv15
     replace h := bind_some h
     obtain ⟨x16, hx16, h⟩ := h
     refine lw_op Z Z Z (ow_indexSlice (R := RInt) Z Z Z (VRep.mono hl24 hw5) Tryd.underlying34 (Tryd.sizeOf3 _) hx16 fun p4 hp4 => lw_op Z Z Z (ow_load (R := RInt) Z Z hp4 (Tryd.sizeOf3 _) (Tryd.isAgg3 _) fun v16 hv16 => ?_))
     obtain rfl := vint_eq hv16
     refine lw_op Z Z Z (ow_fieldAddr Z Z Tryd.underlying27 Z (Tryd.sizeOf3 _) (lw_op0 Z Z (ow_store (X := (One g)) (us := [(.int .i64 x16)]) (cs' := #[(.int .i64 (W ((W (x6.1 * 256)) + x7.1))), (.int .i64 x16), (.int .i64 x10.1), (.int .i64 x4.1)]) Z Z Z Z ho67 (Tryd.sizeOf3 _) Z Z Z Z hm5 (.inl hg4) Z hC24 fun w25 ho68 hb25 hl25 hC25 => ?_)))
     have ho69 := ho65.go hb25 (fun e => hn2 e)
     have ho70 := ho66.go hb25 (fun e => hn3 e)
     refine lw_nil (ew_blockN (ew_then (cw_seq (cw_region (lw_op Z Z Z (ow_loadOwnA Z Z Z ho68 (Tryd.isAgg27 _) (Tryd.sizeOf27 _) Z (lw_op0 Z Z (ow_store (X := (One g)) (us := [(.int .i64 (W ((W (x6.1 * 256)) + x7.1))), (.int .i64 x16), (.int .i64 x10.1), (.int .i64 x4.1)]) (cs' := #[(.int .i64 (W ((W (x6.1 * 256)) + x7.1))), (.int .i64 x16), (.int .i64 x10.1), (.int .i64 x4.1)]) Z Z Z Z ho70 (Tryd.sizeOf27 _) Z Z Z Z hm4 (.inl hg2) Z hC25 fun w26 ho71 hb26 hl26 hC26 => ?_))))))))
     have ho72 := ho69.go hb26 (fun e => hn1 e)
     refine lw_nil (ew_then (cw_ret ?_))
     have hw7 : VRep RPacket w26 (Add g2 (Add g1 M)) ({ From := (W ((W (x6.1 * 256)) + x7.1)), To := x16, Port := x10.1, Proto := x4.1 } : Packet) (.agg #[(.int .i64 (W ((W (x6.1 * 256)) + x7.1))), (.int .i64 x16), (.int .i64 x10.1), (.int .i64 x4.1)]) := shut_Packet
     obtain rfl := Option.some.inj h
     exact ew_ret (res1 Z (.cell Z (own_loadVarA ho71 (Tryd.isAgg27 _) (Tryd.sizeOf27 _) Z))) ⟨_, Z, ⟨(hw7.mono hC26.back), ho72⟩, hC26.bx⟩
    ·
     obtain rfl := hbb4.trans hc4
     refine cw_false Z (cw_seq (cw_region (lw_op Z Z Z (ow_eqlI Z Z Z fun bb5 hbb5 => lw_op Z Z Z (ow_assign Z Z (lw_nil (ew_then ?_)))))))
     replace h := cond_some h
     rcases h with ⟨hc5, h⟩ | ⟨hc5, h⟩
     ·
      obtain rfl := hbb5.trans hc5
      refine cw_true Z (cw_region (lw_op Z Z Z (ow_buildSlice (R := RInt) (xs := [(-1), 256]) (cs := #[(.int .i64 (-1)), (.int .i64 256)]) (e := 3) Z Z (by kernel_rfl) Z Z ⟨_, _, Z, (vint _).cells, _, _, Z, (vint _).cells, Z⟩ hC18 fun p5 w27 hw8 hb27 hl27 hC27 => ?_)))
      have ho74 := ho47.no hb27
      have ho75 := ho48.no hb27
      have ho76 := ho49.no hb27
      refine lw_op Z Z Z (ow_move Z Z ?_)
      have lz9 := (((lz6.trans hl17).trans hl18).trans hl27)
      replace h := bind_some h
      obtain ⟨x17, hx17, h⟩ := h
      refine lw_op Z Z Z (ow_call Z Z Tryd.call137 (w_spec_l20Rd_pick (hG.mono lz9) hC27.old (VRep.mono lz9 hxs) ho74 hm3 hx17) fun v17 w28 hv17 => ?_)
      obtain ⟨⟨hv17, ho77⟩, hb28⟩ := hv17
      have hl28 := Le.of_bx (Add g2 (Add g1 M)) hb28 (fun b e => (by rw [show b = g from e]; exact hm3))
      have hC28 := hC27.go hb28 (fun b e => Or.inr e)
      have ho78 := ho75.go hb28 (fun e => hn1 e.symm)
      have ho79 := ho76.go hb28 (fun e => hn2 e.symm)
      obtain rfl := vint_eq hv17
      replace h := bind_some h
      obtain ⟨x18, hx18, h⟩ := h
      refine lw_op Z Z Z (ow_indexSlice (R := RInt) Z Z Z (VRep.mono hl28 hw8) Tryd.underlying34 (Tryd.sizeOf3 _) hx18 fun p6 hp6 => lw_op Z Z Z (ow_load (R := RInt) Z Z hp6 (Tryd.sizeOf3 _) (Tryd.isAgg3 _) fun v18 hv18 => ?_))
      obtain rfl := vint_eq hv18
      refine lw_op Z Z Z (ow_fieldAddr Z Z Tryd.underlying27 Z (Tryd.sizeOf3 _) (lw_op0 Z Z (ow_store (X := (One g)) (us := [(.int .i64 x18)]) (cs' := #[(.int .i64 (W ((W (x6.1 * 256)) + x7.1))), (.int .i64 (W ((W (x8.1 * 16384)) + x9.1))), (.int .i64 x18), (.int .i64 x4.1)]) Z Z Z Z ho79 (Tryd.sizeOf3 _) Z Z Z Z hm5 (.inl hg4) Z hC28 fun w29 ho80 hb29 hl29 hC29 => ?_)))
      have ho81 := ho77.go hb29 (fun e => hn2 e)
      have ho82 := ho78.go hb29 (fun e => hn3 e)
      refine lw_nil (ew_blockN (ew_then (cw_seq (cw_region (lw_op Z Z Z (ow_loadOwnA Z Z Z ho80 (Tryd.isAgg27 _) (Tryd.sizeOf27 _) Z (lw_op0 Z Z (ow_store (X := (One g)) (us := [(.int .i64 (W ((W (x6.1 * 256)) + x7.1))), (.int .i64 (W ((W (x8.1 * 16384)) + x9.1))), (.int .i64 x18), (.int .i64 x4.1)]) (cs' := #[(.int .i64 (W ((W (x6.1 * 256)) + x7.1))), (.int .i64 (W ((W (x8.1 * 16384)) + x9.1))), (.int .i64 x18), (.int .i64 x4.1)]) Z Z Z Z ho82 (Tryd.sizeOf27 _) Z Z Z Z hm4 (.inl hg2) Z hC29 fun w30 ho83 hb30 hl30 hC30 => ?_))))))))
      have ho84 := ho81.go hb30 (fun e => hn1 e)
      refine lw_nil (ew_then (cw_ret ?_))
      have hw10 : VRep RPacket w30 (Add g2 (Add g1 M)) ({ From := (W ((W (x6.1 * 256)) + x7.1)), To := (W ((W (x8.1 * 16384)) + x9.1)), Port := x18, Proto := x4.1 } : Packet) (.agg #[(.int .i64 (W ((W (x6.1 * 256)) + x7.1))), (.int .i64 (W ((W (x8.1 * 16384)) + x9.1))), (.int .i64 x18), (.int .i64 x4.1)]) := shut_Packet
      obtain rfl := Option.some.inj h
      exact ew_ret (res1 Z (.cell Z (own_loadVarA ho83 (Tryd.isAgg27 _) (Tryd.sizeOf27 _) Z))) ⟨_, Z, ⟨(hw10.mono hC30.back), ho84⟩, hC30.bx⟩
     ·
      obtain rfl := hbb5.trans hc5
      refine cw_false Z (cw_region (lw_op Z Z Z (ow_buildSlice (R := RInt) (xs := [(-1), 8]) (cs := #[(.int .i64 (-1)), (.int .i64 8)]) (e := 3) Z Z (by kernel_rfl) Z Z ⟨_, _, Z, (vint _).cells, _, _, Z, (vint _).cells, Z⟩ hC18 fun p7 w31 hw11 hb31 hl31 hC31 => ?_)))
      have ho86 := ho47.no hb31
      have ho87 := ho48.no hb31
      have ho88 := ho49.no hb31
      refine lw_op Z Z Z (ow_move Z Z ?_)
      have lz10 := (((lz6.trans hl17).trans hl18).trans hl31)
      replace h := bind_some h
      obtain ⟨x19, hx19, h⟩ := h
      refine lw_op Z Z Z (ow_call Z Z Tryd.call137 (w_spec_l20Rd_pick (hG.mono lz10) hC31.old (VRep.mono lz10 hxs) ho86 hm3 hx19) fun v19 w32 hv19 => ?_)
      obtain ⟨⟨hv19, ho89⟩, hb32⟩ := hv19
      have hl32 := Le.of_bx (Add g2 (Add g1 M)) hb32 (fun b e => (by rw [show b = g from e]; exact hm3))
      have hC32 := hC31.go hb32 (fun b e => Or.inr e)
      have ho90 := ho87.go hb32 (fun e => hn1 e.symm)
      have ho91 := ho88.go hb32 (fun e => hn2 e.symm)
      obtain rfl := vint_eq hv19
      replace h := bind_some h
      obtain ⟨x20, hx20, h⟩ := h
      refine lw_op Z Z Z (ow_indexSlice (R := RInt) Z Z Z (VRep.mono hl32 hw11) Tryd.underlying34 (Tryd.sizeOf3 _) hx20 fun p8 hp8 => lw_op Z Z Z (ow_load (R := RInt) Z Z hp8 (Tryd.sizeOf3 _) (Tryd.isAgg3 _) fun v20 hv20 => ?_))
      obtain rfl := vint_eq hv20
      refine lw_op Z Z Z (ow_fieldAddr Z Z Tryd.underlying27 Z (Tryd.sizeOf3 _) (lw_op0 Z Z (ow_store (X := (One g)) (us := [(.int .i64 x20)]) (cs' := #[(.int .i64 (W ((W (x6.1 * 256)) + x7.1))), (.int .i64 (W ((W (x8.1 * 16384)) + x9.1))), (.int .i64 x10.1), (.int .i64 x20)]) Z Z Z Z ho91 (Tryd.sizeOf3 _) Z Z Z Z hm5 (.inl hg4) Z hC32 fun w33 ho92 hb33 hl33 hC33 => ?_)))
      have ho93 := ho89.go hb33 (fun e => hn2 e)
      have ho94 := ho90.go hb33 (fun e => hn3 e)
      refine lw_nil (ew_blockN (ew_then (cw_seq (cw_region (lw_op Z Z Z (ow_loadOwnA Z Z Z ho92 (Tryd.isAgg27 _) (Tryd.sizeOf27 _) Z (lw_op0 Z Z (ow_store (X := (One g)) (us := [(.int .i64 (W ((W (x6.1 * 256)) + x7.1))), (.int .i64 (W ((W (x8.1 * 16384)) + x9.1))), (.int .i64 x10.1), (.int .i64 x20)]) (cs' := #[(.int .i64 (W ((W (x6.1 * 256)) + x7.1))), (.int .i64 (W ((W (x8.1 * 16384)) + x9.1))), (.int .i64 x10.1), (.int .i64 x20)]) Z Z Z Z ho94 (Tryd.sizeOf27 _) Z Z Z Z hm4 (.inl hg2) Z hC33 fun w34 ho95 hb34 hl34 hC34 => ?_))))))))
      have ho96 := ho93.go hb34 (fun e => hn1 e)
      refine lw_nil (ew_then (cw_ret ?_))
      have hw13 : VRep RPacket w34 (Add g2 (Add g1 M)) ({ From := (W ((W (x6.1 * 256)) + x7.1)), To := (W ((W (x8.1 * 16384)) + x9.1)), Port := x10.1, Proto := x20 } : Packet) (.agg #[(.int .i64 (W ((W (x6.1 * 256)) + x7.1))), (.int .i64 (W ((W (x8.1 * 16384)) + x9.1))), (.int .i64 x10.1), (.int .i64 x20)]) := shut_Packet
      obtain rfl := Option.some.inj h
      exact ew_ret (res1 Z (.cell Z (own_loadVarA ho95 (Tryd.isAgg27 _) (Tryd.sizeOf27 _) Z))) ⟨_, Z, ⟨(hw13.mono hC34.back), ho96⟩, hC34.bx⟩
  ·
   obtain rfl := hbb2.trans hc2
   refine cw_false Z (cw_skip (ew_then (cw_seq (cw_region (lw_op Z Z Z (ow_loadOwnA Z Z Z ho46 (Tryd.isAgg27 _) (Tryd.sizeOf27 _) Z (lw_op0 Z Z (ow_store (X := (One g)) (us := [(.int .i64 (W ((W (x6.1 * 256)) + x7.1))), (.int .i64 (W ((W (x8.1 * 16384)) + x9.1))), (.int .i64 x10.1), (.int .i64 x4.1)]) (cs' := #[(.int .i64 (W ((W (x6.1 * 256)) + x7.1))), (.int .i64 (W ((W (x8.1 * 16384)) + x9.1))), (.int .i64 x10.1), (.int .i64 x4.1)]) Z Z Z Z ho45 (Tryd.sizeOf27 _) Z Z Z Z hm4 (.inl hg2) Z hC17 fun w35 ho98 hb35 hl35 hC35 => ?_))))))))
   have ho99 := ho44.go hb35 (fun e => hn1 e)
   refine lw_nil (ew_then (cw_ret ?_))
   have hw15 : VRep RPacket w35 (Add g2 (Add g1 M)) ({ From := (W ((W (x6.1 * 256)) + x7.1)), To := (W ((W (x8.1 * 16384)) + x9.1)), Port := x10.1, Proto := x4.1 } : Packet) (.agg #[(.int .i64 (W ((W (x6.1 * 256)) + x7.1))), (.int .i64 (W ((W (x8.1 * 16384)) + x9.1))), (.int .i64 x10.1), (.int .i64 x4.1)]) := shut_Packet
   obtain rfl := Option.some.inj h
   exact ew_ret (res1 Z (.cell Z (own_loadVarA ho98 (Tryd.isAgg27 _) (Tryd.sizeOf27 _) Z))) ⟨_, Z, ⟨(hw15.mono hC35.back), ho99⟩, hC35.bx⟩
 ·
  obtain rfl := hbb1.trans hc1
  refine cw_false Z (cw_skip (ew_then (cw_seq (cw_seq (cw_region (lw_op Z Z Z (ow_move Z Z (lw_op Z Z Z (ow_move Z Z ?_)))))))))
  replace h := bind_some h
  obtain ⟨x21, hx21, h⟩ := h
  refine lw_op Z Z Z (ow_call Z Z Tryd.call172 (w_spec_l20Rd_odd (hG.mono (lz2.trans hl8)) hC8.old (VRep.mono (lz2.trans hl8) hxs) ho17 hm3 hx21) fun v21 w36 hv21 => ?_)
  obtain ⟨⟨hv21, ho101⟩, hb36⟩ := hv21
  have hl36 := Le.of_bx (Add g2 (Add g1 M)) hb36 (fun b e => (by rw [show b = g from e]; exact hm3))
  have hC36 := hC8.go hb36 (fun b e => Or.inr e)
  have ho102 := ho18.go hb36 (fun e => hn1 e.symm)
  have ho103 := ho19.go hb36 (fun e => hn2 e.symm)
  obtain ⟨bb6, hbb6, rfl⟩ := vbool_ex hv21
  refine lw_nil (ew_then ?_)
  replace h := cond_some h
  rcases h with ⟨hc6, h⟩ | ⟨hc6, h⟩
  ·
   obtain rfl := hbb6.trans hc6
   refine cw_true Z (cw_seq (cw_region (lw_op Z Z Z (ow_move Z Z ?_))))
   have lz11 := ((lz2.trans hl8).trans hl36)
   replace h := bind_some h
   obtain ⟨x22, hx22, h⟩ := h
   refine lw_op Z Z Z (ow_call Z Z Tryd.call137 (w_spec_l20Rd_pick (hG.mono lz11) hC36.old (VRep.mono lz11 hxs) ho101 hm3 hx22) fun v22 w37 hv22 => ?_)
   obtain ⟨⟨hv22, ho104⟩, hb37⟩ := hv22
   have hl37 := Le.of_bx (Add g2 (Add g1 M)) hb37 (fun b e => (by rw [show b = g from e]; exact hm3))
   have hC37 := hC36.go hb37 (fun b e => Or.inr e)
   have ho105 := ho102.go hb37 (fun e => hn1 e.symm)
   have ho106 := ho103.go hb37 (fun e => hn2 e.symm)
   obtain rfl := vint_eq hv22
   refine lw_nil (ew_then (cw_block (cw_seq (cw_region (lw_op Z Z Z (ow_eqlI Z Z Z fun bb7 hbb7 => lw_op Z Z Z (ow_assign Z Z (lw_nil (ew_then ?_)))))))))
   replace h := cond_some h
   rcases h with ⟨hc7, h⟩ | ⟨hc7, h⟩
   ·
    obtain rfl := hbb7.trans hc7
    refine cw_true Z (cw_region (lw_op Z Z Z (ow_buildSlice (R := RInt) (xs := [(-1), 65536]) (cs := #[(.int .i64 (-1)), (.int .i64 65536)]) (e := 3) Z Z (by kernel_rfl) Z Z ⟨_, _, Z, (vint _).cells, _, _, Z, (vint _).cells, Z⟩ hC37 fun p9 w38 hw16 hb38 hl38 hC38 => ?_)))
    have ho107 := ho104.no hb38
    have ho108 := ho105.no hb38
    have ho109 := ho106.no hb38
    refine lw_op Z Z Z (ow_move Z Z ?_)
    have lz12 := ((lz11.trans hl37).trans hl38)
    replace h := bind_some h
    obtain ⟨x23, hx23, h⟩ := h
    refine lw_op Z Z Z (ow_call Z Z Tryd.call137 (w_spec_l20Rd_pick (hG.mono lz12) hC38.old (VRep.mono lz12 hxs) ho107 hm3 hx23) fun v23 w39 hv23 => ?_)
    obtain ⟨⟨hv23, ho110⟩, hb39⟩ := hv23
    have hl39 := Le.of_bx (Add g2 (Add g1 M)) hb39 (fun b e => (by rw [show b = g from e]; exact hm3))
    have hC39 := hC38.go hb39 (fun b e => Or.inr e)
    have ho111 := ho108.go hb39 (fun e => hn1 e.symm)
    have ho112 := ho109.go hb39 (fun e => hn2 e.symm)
    obtain rfl := vint_eq hv23
    replace h := bind_some h
    obtain ⟨x24, hx24, h⟩ := h
    refine lw_op Z Z Z (ow_indexSlice (R := RInt) Z Z Z (VRep.mono hl39 hw16) Tryd.underlying34 (Tryd.sizeOf3 _) hx24 fun p10 hp10 => lw_op Z Z Z (ow_load (R := RInt) Z Z hp10 (Tryd.sizeOf3 _) (Tryd.isAgg3 _) fun v24 hv24 => ?_))
    obtain rfl := vint_eq hv24
    refine lw_op Z Z Z (ow_fieldAddr Z Z Tryd.underlying27 Z (Tryd.sizeOf3 _) (lw_op0 Z Z (ow_store (X := (One g)) (us := [(.int .i64 x24)]) (cs' := #[(.int .i64 x24), (.int .i64 x2.1), (.int .i64 x3.1), (.int .i64 x4.1)]) Z Z Z Z ho112 (Tryd.sizeOf3 _) Z Z Z Z hm5 (.inl hg4) Z hC39 fun w40 ho113 hb40 hl40 hC40 => ?_)))
    have ho114 := ho110.go hb40 (fun e => hn2 e)
    have ho115 := ho111.go hb40 (fun e => hn3 e)
    refine lw_nil (ew_blockN (ew_then (cw_seq (cw_region (lw_op Z Z Z (ow_loadOwnA Z Z Z ho113 (Tryd.isAgg27 _) (Tryd.sizeOf27 _) Z (lw_op0 Z Z (ow_store (X := (One g)) (us := [(.int .i64 x24), (.int .i64 x2.1), (.int .i64 x3.1), (.int .i64 x4.1)]) (cs' := #[(.int .i64 x24), (.int .i64 x2.1), (.int .i64 x3.1), (.int .i64 x4.1)]) Z Z Z Z ho115 (Tryd.sizeOf27 _) Z Z Z Z hm4 (.inl hg2) Z hC40 fun w41 ho116 hb41 hl41 hC41 => ?_))))))))
    have ho117 := ho114.go hb41 (fun e => hn1 e)
    refine lw_nil (ew_then (cw_ret ?_))
    have hw18 : VRep RPacket w41 (Add g2 (Add g1 M)) ({ From := x24, To := x2.1, Port := x3.1, Proto := x4.1 } : Packet) (.agg #[(.int .i64 x24), (.int .i64 x2.1), (.int .i64 x3.1), (.int .i64 x4.1)]) := shut_Packet
    obtain rfl := Option.some.inj h
    exact ew_ret (res1 Z (.cell Z (own_loadVarA ho116 (Tryd.isAgg27 _) (Tryd.sizeOf27 _) Z))) ⟨_, Z, ⟨(hw18.mono hC41.back), ho117⟩, hC41.bx⟩
   ·
    obtain rfl := hbb7.trans hc7
    refine cw_false Z (cw_seq (cw_region (lw_op Z Z Z (ow_eqlI Z Z Z fun bb8 hbb8 => lw_op Z Z Z (ow_assign Z Z (lw_nil (ew_then ?_)))))))
    replace h := cond_some h
    rcases h with ⟨hc8, h⟩ | ⟨hc8, h⟩
    ·
     obtain rfl := hbb8.trans hc8
     refine cw_true Z (cw_region (lw_op Z Z Z (ow_buildSlice (R := RInt) (xs := [(-1), 65536]) (cs := #[(.int .i64 (-1)), (.int .i64 65536)]) (e := 3) Z Z (by kernel_rfl) Z Z ⟨_, _, Z, (vint _).cells, _, _, Z, (vint _).cells, Z⟩ hC37 fun p11 w42 hw19 hb42 hl42 hC42 => ?_)))
     have ho119 := ho104.no hb42
     have ho120 := ho105.no hb42
     have ho121 := ho106.no hb42
     refine lw_op Z Z Z (ow_move Z Z ?_)
     have lz13 := ((lz11.trans hl37).trans hl42)
     replace h := bind_some h
     obtain ⟨x25, hx25, h⟩ := h
     refine lw_op Z Z Z (ow_call Z Z Tryd.call137 (w_spec_l20Rd_pick (hG.mono lz13) hC42.old (VRep.mono lz13 hxs) ho119 hm3 hx25) fun v25 w43 hv25 => ?_)
     obtain ⟨⟨hv25, ho122⟩, hb43⟩ := hv25
     have hl43 := Le.of_bx (Add g2 (Add g1 M)) hb43 (fun b e => (by rw [show b = g from e]; exact hm3))
     have hC43 := hC42.go hb43 (fun b e => Or.inr e)
     have ho123 := ho120.go hb43 (fun e => hn1 e.symm)
     have ho124 := ho121.go hb43 (fun e => hn2 e.symm)
     obtain rfl := vint_eq hv25
     replace h := bind_some h
     obtain ⟨x26, hx26, h⟩ := h
     refine lw_op Z Z Z (ow_indexSlice (R := RInt) Z Z Z (VRep.mono hl43 hw19) Tryd.underlying34 (Tryd.sizeOf3 _) hx26 fun p12 hp12 => lw_op Z Z Z (ow_load (R := RInt) Z Z hp12 (Tryd.sizeOf3 _) (Tryd.isAgg3 _) fun v26 hv26 => ?_))
     obtain rfl := vint_eq hv26
     refine lw_op Z Z Z (ow_fieldAddr Z Z Tryd.underlying27 Z (Tryd.sizeOf3 _) (lw_op0 Z Z (ow_store (X := (One g)) (us := [(.int .i64 x26)]) (cs' := #[(.int .i64 x1.1), (.int .i64 x26), (.int .i64 x3.1), (.int .i64 x4.1)]) Z Z Z Z ho124 (Tryd.sizeOf3 _) Z Z Z Z hm5 (.inl hg4) Z hC43 fun w44 ho125 hb44 hl44 hC44 => ?_)))
     have ho126 := ho122.go hb44 (fun e => hn2 e)
     have ho127 := ho123.go hb44 (fun e => hn3 e)
     refine lw_nil (ew_blockN (ew_then (cw_seq (cw_region (lw_op Z Z Z (ow_loadOwnA Z Z Z ho125 (Tryd.isAgg27 _) (Tryd.sizeOf27 _) Z (lw_op0 Z Z (ow_store (X := (One g)) (us := [(.int .i64 x1.1), (.int .i64 x26), (.int .i64 x3.1), (.int .i64 x4.1)]) (cs' := #[(.int .i64 x1.1), (.int .i64 x26), (.int .i64 x3.1), (.int .i64 x4.1)]) Z Z Z Z ho127 (Tryd.sizeOf27 _) Z Z Z Z hm4 (.inl hg2) Z hC44 fun w45 ho128 hb45 hl45 hC45 => ?_))))))))
     have ho129 := ho126.go hb45 (fun e => hn1 e)
     refine lw_nil (ew_then (cw_ret ?_))
     have hw21 : VRep RPacket w45 (Add g2 (Add g1 M)) ({ From := x1.1, To := x26, Port := x3.1, Proto := x4.1 } : Packet) (.agg #[(.int .i64 x1.1), (.int .i64 x26), (.int .i64 x3.1), (.int .i64 x4.1)]) := shut_Packet
     obtain rfl := Option.some.inj h
     exact ew_ret (res1 Z (.cell Z (own_loadVarA ho128 (Tryd.isAgg27 _) (Tryd.sizeOf27 _) Z))) ⟨_, Z, ⟨(hw21.mono hC45.back), ho129⟩, hC45.bx⟩
    ·
     obtain rfl := hbb8.trans hc8
     refine cw_false Z (cw_seq (cw_region (lw_op Z Z Z (ow_eqlI Z Z Z fun bb9 hbb9 => lw_op Z Z Z (ow_assign Z Z (lw_nil (ew_then ?_)))))))
     replace h := cond_some h
     rcases h with ⟨hc9, h⟩ | ⟨hc9, h⟩
     ·
      obtain rfl := hbb9.trans hc9
      refine cw_true Z (cw_region (lw_op Z Z Z (ow_buildSlice (R := RInt) (xs := [(-1), 256]) (cs := #[(.int .i64 (-1)), (.int .i64 256)]) (e := 3) Z Z (by kernel_rfl) Z Z ⟨_, _, Z, (vint _).cells, _, _, Z, (vint _).cells, Z⟩ hC37 fun p13 w46 hw22 hb46 hl46 hC46 => ?_)))
      have ho131 := ho104.no hb46
      have ho132 := ho105.no hb46
      have ho133 := ho106.no hb46
      refine lw_op Z Z Z (ow_move Z Z ?_)
      have lz14 := ((lz11.trans hl37).trans hl46)
      replace h := bind_some h
      obtain ⟨x27, hx27, h⟩ := h
      refine lw_op Z Z Z (ow_call Z Z Tryd.call137 (w_spec_l20Rd_pick (hG.mono lz14) hC46.old (VRep.mono lz14 hxs) ho131 hm3 hx27) fun v27 w47 hv27 => ?_)
      obtain ⟨⟨hv27, ho134⟩, hb47⟩ := hv27
      have hl47 := Le.of_bx (Add g2 (Add g1 M)) hb47 (fun b e => (by rw [show b = g from e]; exact hm3))
      have hC47 := hC46.go hb47 (fun b e => Or.inr e)
      have ho135 := ho132.go hb47 (fun e => hn1 e.symm)
      have ho136 := ho133.go hb47 (fun e => hn2 e.symm)
      obtain rfl := vint_eq hv27
      replace h := bind_some h
      obtain ⟨x28, hx28, h⟩ := h
      refine lw_op Z Z Z (ow_indexSlice (R := RInt) Z Z Z (VRep.mono hl47 hw22) Tryd.underlying34 (Tryd.sizeOf3 _) hx28 fun p14 hp14 => lw_op Z Z Z (ow_load (R := RInt) Z Z hp14 (Tryd.sizeOf3 _) (Tryd.isAgg3 _) fun v28 hv28 => ?_))
      obtain rfl := vint_eq hv28
      refine lw_op Z Z Z (ow_fieldAddr Z Z Tryd.underlying27 Z (Tryd.sizeOf3 _) (lw_op0 Z Z (ow_store (X := (One g)) (us := [(.int .i64 x28)]) (cs' := #[(.int .i64 x1.1), (.int .i64 x2.1), (.int .i64 x28), (.int .i64 x4.1)]) Z Z Z Z ho136 (Tryd.sizeOf3 _) Z Z Z Z hm5 (.inl hg4) Z hC47 fun w48 ho137 hb48 hl48 hC48 => ?_)))
      have ho138 := ho134.go hb48 (fun e => hn2 e)
      have ho139 := ho135.go hb48 (fun e => hn3 e)
      refine lw_nil (ew_blockN (ew_then (cw_seq (cw_region (lw_op Z Z Z (ow_loadOwnA Z Z Z ho137 (Tryd.isAgg27 _) (Tryd.sizeOf27 _) Z (lw_op0 Z Z (ow_store (X := (One g)) (us := [(.int .i64 x1.1), (.int .i64 x2.1), (.int .i64 x28), (.int .i64 x4.1)]) (cs' := #[(.int .i64 x1.1), (.int .i64 x2.1), (.int .i64 x28), (.int .i64 x4.1)]) Z Z Z Z ho139 (Tryd.sizeOf27 _) Z Z Z Z hm4 (.inl hg2) Z hC48 fun w49 ho140 hb49 hl49 hC49 => ?_))))))))
      have ho141 := ho138.go hb49 (fun e => hn1 e)
      refine lw_nil (ew_then (cw_ret ?_))
      have hw24 : VRep RPacket w49 (Add g2 (Add g1 M)) ({ From := x1.1, To := x2.1, Port := x28, Proto := x4.1 } : Packet) (.agg #[(.int .i64 x1.1), (.int .i64 x2.1), (.int .i64 x28), (.int .i64 x4.1)]) := shut_Packet
      obtain rfl := Option.some.inj h
      exact ew_ret (res1 Z (.cell Z (own_loadVarA ho140 (Tryd.isAgg27 _) (Tryd.sizeOf27 _) Z))) ⟨_, Z, ⟨(hw24.mono hC49.back), ho141⟩, hC49.bx⟩
     ·
      obtain rfl := hbb9.trans hc9
      refine cw_false Z (cw_region (lw_op Z Z Z (ow_buildSlice (R := RInt) (xs := [(-1), 8]) (cs := #[(.int .i64 (-1)), (.int .i64 8)]) (e := 3) Z Z (by kernel_rfl) Z Z ⟨_, _, Z, (vint _).cells, _, _, Z, (vint _).cells, Z⟩ hC37 fun p15 w50 hw25 hb50 hl50 hC50 => ?_)))
      have ho143 := ho104.no hb50
      have ho144 := ho105.no hb50
      have ho145 := ho106.no hb50
      refine lw_op Z Z Z (ow_move Z Z ?_)
      have lz15 := ((lz11.trans hl37).trans hl50)
      replace h := bind_some h
      obtain ⟨x29, hx29, h⟩ := h
      refine lw_op Z Z Z (ow_call Z Z Tryd.call137 (w_spec_l20Rd_pick (hG.mono lz15) hC50.old (VRep.mono lz15 hxs) ho143 hm3 hx29) fun v29 w51 hv29 => ?_)
      obtain ⟨⟨hv29, ho146⟩, hb51⟩ := hv29
      have hl51 := Le.of_bx (Add g2 (Add g1 M)) hb51 (fun b e => (by rw [show b = g from e]; exact hm3))
      have hC51 := hC50.go hb51 (fun b e => Or.inr e)
      have ho147 := ho144.go hb51 (fun e => hn1 e.symm)
      have ho148 := ho145.go hb51 (fun e => hn2 e.symm)
      obtain rfl := vint_eq hv29
      replace h := bind_some h
      obtain ⟨x30, hx30, h⟩ := h
      refine lw_op Z Z Z (ow_indexSlice (R := RInt) Z Z Z (VRep.mono hl51 hw25) Tryd.underlying34 (Tryd.sizeOf3 _) hx30 fun p16 hp16 => lw_op Z Z Z (ow_load (R := RInt) Z Z hp16 (Tryd.sizeOf3 _) (Tryd.isAgg3 _) fun v30 hv30 => ?_))
      obtain rfl := vint_eq hv30
      refine lw_op Z Z Z (ow_fieldAddr Z Z Tryd.underlying27 Z (Tryd.sizeOf3 _) (lw_op0 Z Z (ow_store (X := (One g)) (us := [(.int .i64 x30)]) (cs' := #[(.int .i64 x1.1), (.int .i64 x2.1), (.int .i64 x3.1), (.int .i64 x30)]) Z Z Z Z ho148 (Tryd.sizeOf3 _) Z Z Z Z hm5 (.inl hg4) Z hC51 fun w52 ho149 hb52 hl52 hC52 => ?_)))
      have ho150 := ho146.go hb52 (fun e => hn2 e)
      have ho151 := ho147.go hb52 (fun e => hn3 e)
      refine lw_nil (ew_blockN (ew_then (cw_seq (cw_region (lw_op Z Z Z (ow_loadOwnA Z Z Z ho149 (Tryd.isAgg27 _) (Tryd.sizeOf27 _) Z (lw_op0 Z Z (ow_store (X := (One g)) (us := [(.int .i64 x1.1), (.int .i64 x2.1), (.int .i64 x3.1), (.int .i64 x30)]) (cs' := #[(.int .i64 x1.1), (.int .i64 x2.1), (.int .i64 x3.1), (.int .i64 x30)]) Z Z Z Z ho151 (Tryd.sizeOf27 _) Z Z Z Z hm4 (.inl hg2) Z hC52 fun w53 ho152 hb53 hl53 hC53 => ?_))))))))
      have ho153 := ho150.go hb53 (fun e => hn1 e)
      refine lw_nil (ew_then (cw_ret ?_))
      have hw27 : VRep RPacket w53 (Add g2 (Add g1 M)) ({ From := x1.1, To := x2.1, Port := x3.1, Proto := x30 } : Packet) (.agg #[(.int .i64 x1.1), (.int .i64 x2.1), (.int .i64 x3.1), (.int .i64 x30)]) := shut_Packet
      obtain rfl := Option.some.inj h
      exact ew_ret (res1 Z (.cell Z (own_loadVarA ho152 (Tryd.isAgg27 _) (Tryd.sizeOf27 _) Z))) ⟨_, Z, ⟨(hw27.mono hC53.back), ho153⟩, hC53.bx⟩
  ·
   obtain rfl := hbb6.trans hc6
   refine cw_false Z (cw_skip (ew_then (cw_seq (cw_region (lw_op Z Z Z (ow_loadOwnA Z Z Z ho103 (Tryd.isAgg27 _) (Tryd.sizeOf27 _) Z (lw_op0 Z Z (ow_store (X := (One g)) (us := [(.int .i64 x1.1), (.int .i64 x2.1), (.int .i64 x3.1), (.int .i64 x4.1)]) (cs' := #[(.int .i64 x1.1), (.int .i64 x2.1), (.int .i64 x3.1), (.int .i64 x4.1)]) Z Z Z Z ho102 (Tryd.sizeOf27 _) Z Z Z Z hm4 (.inl hg2) Z hC36 fun w54 ho155 hb54 hl54 hC54 => ?_))))))))
   have ho156 := ho101.go hb54 (fun e => hn1 e)
   refine lw_nil (ew_then (cw_ret ?_))
   have hw29 : VRep RPacket w54 (Add g2 (Add g1 M)) ({ From := x1.1, To := x2.1, Port := x3.1, Proto := x4.1 } : Packet) (.agg #[(.int .i64 x1.1), (.int .i64 x2.1), (.int .i64 x3.1), (.int .i64 x4.1)]) := shut_Packet
   obtain rfl := Option.some.inj h
   exact ew_ret (res1 Z (.cell Z (own_loadVarA ho155 (Tryd.isAgg27 _) (Tryd.sizeOf27 _) Z))) ⟨_, Z, ⟨(hw29.mono hC54.back), ho156⟩, hC54.bx⟩

theorem w_spec_l20Near {w : World} {M : Nat → Prop} (hG : ARep (RArr 4 RShape) w M shapes ⟨0, 0, none⟩) (hO : ∀ b, M b → b < w.heap.size) {g : Nat} {Ax : Option Addr} {cx : Nat} {a_xs : List Int} {a_pos : Int} (hxs : VRep (RSlice RU8) w M a_xs (.slice Ax a_xs.length cx)) (hown : Own w g 183 #[.slice Ax a_xs.length cx, .int .i64 a_pos]) (hgM : M g) {v1p : Value} {a_list : List Test} (h1 : VRep (RSlice RTest) w M a_list v1p) {a_n : Int} {r : Packet × Int} (h : F.spec_l20Near a_xs a_pos a_list a_n = some r) :
  Calls Tryd.prog 138 [(.pointer (some ⟨g, 0, none⟩)), v1p, (.int .i64 a_n)].toArray w fun e w' => ∃ v, e = .returned v ∧ (VRep RPacket w' M r.1 v ∧ Own w' g 183 #[.slice Ax a_xs.length cx, .int .i64 r.2]) ∧ BX (One g) w w' := by
 have hX : ∀ b, (One g) b → M b := fun b e => e ▸ hgM
 have hC : Cx (One g) w M w M := Cx.start hO hX
 refine walk (N := 85) Tryd.func138 Z Tryd.ntmps138 Z (cw_seq (cw_region (lw_op Z Z Z (ow_alloc Z (Tryd.zeroValue27 _) hC fun g1 w1 hg1 hg2 ho1 hb1 hl1 hC1 => ?_))))
 have hn1 := Nat.ne_of_lt (Nat.lt_of_lt_of_le hown.lt hg1)
 have ho2 := hown.no hb1
 have hm1 : (Add g1 M) g := .inr hgM
 have hm2 : (Add g1 M) g1 := .inl Z
 refine lw_nil (ew_then (cw_seq (cw_region (lw_op Z Z Z (ow_move Z Z (lw_op Z Z Z (ow_move Z Z ?_)))))))
 replace h := bind_some h
 obtain ⟨x1, hx1, h⟩ := h
 refine lw_op Z Z Z (ow_call Z Z Tryd.call173 (w_spec_l20Packet (hG.mono hl1) hC1.old (VRep.mono hl1 hxs) ho2 hm1 hx1) fun v1 w2 hv1 => ?_)
 obtain ⟨⟨hv1, ho3⟩, hb2⟩ := hv1
 have hl2 := Le.of_bx (Add g1 M) hb2 (fun b e => (by rw [show b = g from e]; exact hm1))
 have hC2 := hC1.go hb2 (fun b e => Or.inr e)
 have ho4 := ho1.go hb2 (fun e => hn1 e.symm)
 refine lw_op Z Z Z (ow_alloc Z (Tryd.zeroValue27 _) hC2 fun g2 w3 hg3 hg4 ho5 hb3 hl3 hC3 => ?_)
 have hn2 := Nat.ne_of_lt (Nat.lt_of_lt_of_le ho3.lt hg3)
 have ho6 := ho3.no hb3
 have hm3 : (Add g2 (Add g1 M)) g := .inr hm1
 have hn3 := Nat.ne_of_lt (Nat.lt_of_lt_of_le ho4.lt hg3)
 have ho7 := ho4.no hb3
 have hm4 : (Add g2 (Add g1 M)) g1 := .inr hm2
 have hm5 : (Add g2 (Add g1 M)) g2 := .inl Z
 obtain rfl := open_Packet hv1
 refine lw_op0 Z Z (ow_store (X := (One g)) (us := [(.int .i64 x1.1.From), (.int .i64 x1.1.To), (.int .i64 x1.1.Port), (.int .i64 x1.1.Proto)]) (cs' := #[(.int .i64 x1.1.From), (.int .i64 x1.1.To), (.int .i64 x1.1.Port), (.int .i64 x1.1.Proto)]) Z Z Z Z ho5 (Tryd.sizeOf27 _) Z Z Z Z hm5 (.inl hg4) Z hC3 fun w4 ho8 hb4 hl4 hC4 => ?_)
 have ho9 := ho6.go hb4 (fun e => hn2 e)
 have ho10 := ho7.go hb4 (fun e => hn3 e)
 refine lw_nil (ew_then (cw_seq (cw_seq (cw_region (lw_op Z Z Z (ow_assign Z Z (lw_nil (ew_then ?_))))))))
 replace h := bind_some h
 obtain ⟨lr1, hlr1, h⟩ := h
 refine cw_for hlr1 (fun s a w' => ∃ (M' : Nat → Prop), Fits 85 [(0, (.pointer (some ⟨g, 0, none⟩))), (1, v1p), (6, (.pointer (some ⟨g1, 0, none⟩))), (7, (.pointer (some ⟨g2, 0, none⟩))), (8, (.int .i64 s.1))] a ∧ Le w4 (Add g2 (Add g1 M)) w' M' ∧ Cx (One g) w M w' M' ∧ Own w' g 183 #[(.slice Ax a_xs.length cx), (.int .i64 s.2.1)] ∧ M' g ∧ Own w' g1 27 #[(.int .i64 0), (.int .i64 0), (.int .i64 0), (.int .i64 0)] ∧ M' g1 ∧ Own w' g2 27 #[(.int .i64 s.2.2.1), (.int .i64 s.2.2.2.1), (.int .i64 s.2.2.2.2.1), (.int .i64 s.2.2.2.2.2)] ∧ M' g2) ?_ ?_ ?_
 ·
  intro a ha
  exact ⟨(Add g2 (Add g1 M)), ha.sub ⟨Z, Z, Z, Z, Z, trivial⟩, Le.refl _ _, hC4, ho9, hm3, ho10, hm4, ho8, hm5⟩
 ·
  rintro ⟨k1, k2, k3, k4, k5, k6⟩ a w5 sr1 ⟨M1, hF1, hl5, hC5, ho11, hm6, ho12, hm7, ho13, hm8⟩ hb5 hR1
  refine cw_at (E := [(0, (.pointer (some ⟨g, 0, none⟩))), (1, v1p), (6, (.pointer (some ⟨g1, 0, none⟩))), (7, (.pointer (some ⟨g2, 0, none⟩))), (8, (.int .i64 k1))]) hF1 (cw_seq (cw_seq (cw_region (lw_op Z Z Z (ow_move Z Z (lw_op Z Z Z (ow_move Z Z ?_)))))))
  have lz1 := ((((hl1.trans hl2).trans hl3).trans hl4).trans hl5)
  refine lw_op Z Z Z (ow_len Z Z (VRep.mono lz1 h1) Tryd.underlying36 Z (lw_op Z Z Z (ow_lss Z Z Z fun bb1 hbb1 => lw_nil (ew_then ?_))))
  replace hb5 := cond_some hb5
  rcases hb5 with ⟨hc1, hb5⟩ | ⟨hc1, hb5⟩
  ·
   obtain rfl := hbb1.trans hc1
   refine cw_true Z (cw_skip (ew_then (cw_seq (cw_block (cw_seq (cw_seq (cw_region (lw_op Z Z Z (ow_move Z Z (lw_op Z Z Z (ow_move Z Z ?_)))))))))))
   replace hb5 := bind_some hb5
   obtain ⟨x2, hx2, hb5⟩ := hb5
   refine lw_op Z Z Z (ow_indexSlice (R := RTest) Z Z Z (VRep.mono lz1 h1) Tryd.underlying36 (Tryd.sizeOf128 _) hx2 fun p1 hp1 => lw_op Z Z Z (ow_load (R := RTest) Z Z hp1 (Tryd.sizeOf128 _) (Tryd.isAgg128 _) fun v8 hv8 => ?_))
   replace hb5 := bind_some hb5
   obtain ⟨x3, hx3, hb5⟩ := hb5
   refine lw_op Z Z Z (ow_call Z Z Tryd.call157 (w_spec_TestValid (hG.mono lz1) hC5.old hv8 hx3) fun v9 w6 hv9 => ?_)
   obtain ⟨hv9, hb6⟩ := hv9
   have hl6 := Le.no M1 hb6
   have hC6 := hC5.no hb6
   have ho14 := ho11.no hb6
   have ho15 := ho12.no hb6
   have ho16 := ho13.no hb6
   obtain rfl := vbool_eq hv9
   refine lw_op Z Z Z (ow_not Z Z (lw_op Z Z Z (ow_move Z Z ?_)))
   replace hb5 := cond_some hb5
   rcases hb5 with ⟨hc2, hb5⟩ | ⟨hc2, hb5⟩
   ·
    subst hc2
    refine lw_on Z Z Z Z Z Z (ow_move Z Z ?_)
    replace hb5 := bind_some hb5
    obtain ⟨x4, hx4, hb5⟩ := hb5
    refine lw_on Z Z Z Z Z Z (ow_call Z Z Tryd.call137 (w_spec_l20Rd_pick (hG.mono (lz1.trans hl6)) hC6.old (VRep.mono (lz1.trans hl6) hxs) ho14 hm6 hx4) fun v10 w7 hv10 => ?_)
    obtain ⟨⟨hv10, ho17⟩, hb7⟩ := hv10
    have hl7 := Le.of_bx M1 hb7 (fun b e => (by rw [show b = g from e]; exact hm6))
    have hC7 := hC6.go hb7 (fun b e => Or.inr e)
    have ho18 := ho15.go hb7 (fun e => hn1 e.symm)
    have ho19 := ho16.go hb7 (fun e => hn2 e.symm)
    obtain rfl := vint_eq hv10
    refine lw_on Z Z Z Z Z Z (ow_eqlI Z Z Z fun bb2 hbb2 => lw_op Z Z Z (ow_pickF Z Z Z (lw_nil (ew_then ?_))))
    replace hb5 := cond_some hb5
    rcases hb5 with ⟨hc3, hb5⟩ | ⟨hc3, hb5⟩
    ·
     obtain rfl := hbb2.trans hc3
     refine cw_true Z (cw_exit (ew_thenX (ew_blockX (ew_then (cw_region (lw_op Z Z Z (ow_move Z Z (lw_op Z Z Z (ow_add Z Z Z (lw_op Z Z Z (ow_assign Z Z (lw_nil ?_))))))))))))
     have lz2 := ((hl5.trans hl6).trans hl7)
     exact ew_nxt ((W (k1 + 1)), x4.2, k3, k4, k5, k6) hb5 fun a ha => ⟨M1, (ha.sub ⟨Z, Z, Z, Z, Z, trivial⟩), lz2, hC7, ho17, hm6, ho18, hm7, ho19, hm8⟩
    ·
     obtain rfl := hbb2.trans hc3
     refine cw_false Z (cw_skip (ew_then (cw_seq ?_)))
     replace hb5 := bind_some hb5
     obtain ⟨x5, hx5, hb5⟩ := hb5
     replace hb5 := bind_some hb5
     obtain ⟨x6, hx6, hb5⟩ := hb5
     have lz3 := ((lz1.trans hl6).trans hl7)
     refine cw_sub (E' := [(0, (.pointer (some ⟨g, 0, none⟩))), (1, v1p), (6, (.pointer (some ⟨g1, 0, none⟩))), (7, (.pointer (some ⟨g2, 0, none⟩))), (8, (.int .i64 k1))]) ⟨Z, Z, Z, Z, Z, trivial⟩ (cw_drawC (g := g) (T := 183) 33 1 [none, none, none, none, none, none, none, none, none, none, none, none, none, none, none, none, none, none, none, none, none, none, none, none, none, none, none, none, none, none, none, none, some 0] [#[(.slice Ax a_xs.length cx), (.int .i64 x4.2)], #[(.slice Ax a_xs.length cx), (.int .i64 x6.2)]] [PV (RSlice RTest) M1 a_list, PEq (.int .i64 k1), PA RTest M1 x2, PA RInt M1 x2.Lo, PEq (.int .i64 x2.Lo), PV (RSlice RTest) M1 a_list, PEq (.int .i64 k1), PA RTest M1 x2, PA RInt M1 x2.Hi, PEq (.int .i64 x2.Hi), PV (RSlice RTest) M1 a_list, PEq (.int .i64 k1), PA RTest M1 x2, PA RInt M1 x2.Lo, PEq (.int .i64 x2.Lo), PEq (.int .i64 (W (x2.Lo - 1))), PEq (.int .i64 (imax 0 (W (x2.Lo - 1)))), PV (RSlice RTest) M1 a_list, PEq (.int .i64 k1), PA RTest M1 x2, PA RInt M1 x2.Field, PEq (.int .i64 x2.Field), PEq (.int .i64 x5), PV (RSlice RTest) M1 a_list, PEq (.int .i64 k1), PA RTest M1 x2, PA RInt M1 x2.Hi, PEq (.int .i64 x2.Hi), PEq (.int .i64 (W (x2.Hi + 1))), PEq (.int .i64 (imin x5 (W (x2.Hi + 1)))), PV (RSlice RInt) M1 [x2.Lo, x2.Hi, (imax 0 (W (x2.Lo - 1))), (imin x5 (W (x2.Hi + 1)))], PEq (.pointer (some ⟨g, 0, none⟩)), PEq (.int .i64 x6.1)] (by kernel_rfl) Z (by kernel_rfl) (by kernel_rfl) ho17 ⟨(PV.monoY hm6 _ _), (PEq.monoY hm6 _), (PA.monoY hm6 _ _), (PA.monoY hm6 _ _), (PEq.monoY hm6 _), (PV.monoY hm6 _ _), (PEq.monoY hm6 _), (PA.monoY hm6 _ _), (PA.monoY hm6 _ _), (PEq.monoY hm6 _), (PV.monoY hm6 _ _), (PEq.monoY hm6 _), (PA.monoY hm6 _ _), (PA.monoY hm6 _ _), (PEq.monoY hm6 _), (PEq.monoY hm6 _), (PEq.monoY hm6 _), (PV.monoY hm6 _ _), (PEq.monoY hm6 _), (PA.monoY hm6 _ _), (PA.monoY hm6 _ _), (PEq.monoY hm6 _), (PEq.monoY hm6 _), (PV.monoY hm6 _ _), (PEq.monoY hm6 _), (PA.monoY hm6 _ _), (PA.monoY hm6 _ _), (PEq.monoY hm6 _), (PEq.monoY hm6 _), (PEq.monoY hm6 _), (PV.monoY hm6 _ _), (PEq.monoY hm6 _), (PEq.monoY hm6 _), trivial⟩ ⟨?_, ?_, ?_, ?_, ?_, ?_, ?_, ?_, ?_, ?_, ?_, ?_, ?_, ?_, ?_, ?_, ?_, ?_, ?_, ?_, ?_, ?_, ?_, ?_, ?_, ?_, ?_, ?_, ?_, ?_, ?_, ?_, ?_, trivial⟩ ?_)
     ·
      intro w11 D hS1 hd1
      have hl11 := leY hm6 hS1
      exact dg_sub (E' := [(1, v1p)]) ⟨Z, trivial⟩ (dg_plain Z (ow_move Z Z ⟨BX.refl _ _, (VRep.mono (lz3.trans hl11) h1)⟩))
     ·
      intro w12 D hS2 hd2
      exact dg_sub (E' := [(8, (.int .i64 k1))]) ⟨Z, trivial⟩ (dg_plain Z (ow_move Z Z ⟨BX.refl _ _, Z⟩))
     ·
      intro w13 D hS3 hd3
      have d1 : PV (RSlice RTest) M1 a_list (D 0) w13 := dpA hd3 0 Z
      generalize hq1 : (D 0) = v18 at d1
      exact dg_sub (E' := [(30, v18), (31, (.int .i64 k1))]) ⟨(congrArg some hq1), (dpE hd3 1 Z Z), trivial⟩ (dg_plain Z (ow_indexSlice (R := RTest) Z Z Z d1 Tryd.underlying36 (Tryd.sizeOf128 _) hx2 fun p8 hp8 => ⟨BX.refl _ _, ⟨_, Z, hp8⟩⟩))
     ·
      intro w14 D hS4 hd4
      have d3 : PA RTest M1 x2 (D 2) w14 := dpA hd4 2 Z
      obtain ⟨p9, e1, ha1⟩ := d3
      exact dg_sub (E' := [(32, (.pointer (some p9)))]) ⟨(congrArg some e1), trivial⟩ (dg_plain Z (ow_fieldAddr Z Z Tryd.underlying128 Z (Tryd.sizeOf3 _) ⟨BX.refl _ _, ⟨_, Z, (ha1.fld fld_Test_Lo)⟩⟩))
     ·
      intro w15 D hS5 hd5
      have d4 : PA RInt M1 x2.Lo (D 3) w15 := dpA hd5 3 Z
      obtain ⟨p10, e2, ha2⟩ := d4
      refine dg_sub (E' := [(33, (.pointer (some p10)))]) ⟨(congrArg some e2), trivial⟩ (dg_plain Z (ow_load (R := RInt) Z Z ha2 (Tryd.sizeOf3 _) (Tryd.isAgg3 _) fun v19 hv19 => ?_))
      obtain rfl := vint_eq hv19
      exact ⟨BX.refl _ _, Z⟩
     ·
      intro w16 D hS6 hd6
      have hl16 := leY hm6 hS6
      exact dg_sub (E' := [(1, v1p)]) ⟨Z, trivial⟩ (dg_plain Z (ow_move Z Z ⟨BX.refl _ _, (VRep.mono (lz3.trans hl16) h1)⟩))
     ·
      intro w17 D hS7 hd7
      exact dg_sub (E' := [(8, (.int .i64 k1))]) ⟨Z, trivial⟩ (dg_plain Z (ow_move Z Z ⟨BX.refl _ _, Z⟩))
     ·
      intro w18 D hS8 hd8
      have d5 : PV (RSlice RTest) M1 a_list (D 5) w18 := dpA hd8 5 Z
      generalize hq2 : (D 5) = v20 at d5
      exact dg_sub (E' := [(35, v20), (36, (.int .i64 k1))]) ⟨(congrArg some hq2), (dpE hd8 6 Z Z), trivial⟩ (dg_plain Z (ow_indexSlice (R := RTest) Z Z Z d5 Tryd.underlying36 (Tryd.sizeOf128 _) hx2 fun p11 hp11 => ⟨BX.refl _ _, ⟨_, Z, hp11⟩⟩))
     ·
      intro w19 D hS9 hd9
      have d7 : PA RTest M1 x2 (D 7) w19 := dpA hd9 7 Z
      obtain ⟨p12, e3, ha3⟩ := d7
      exact dg_sub (E' := [(37, (.pointer (some p12)))]) ⟨(congrArg some e3), trivial⟩ (dg_plain Z (ow_fieldAddr Z Z Tryd.underlying128 Z (Tryd.sizeOf3 _) ⟨BX.refl _ _, ⟨_, Z, (ha3.fld fld_Test_Hi)⟩⟩))
     ·
      intro w20 D hS10 hd10
      have d8 : PA RInt M1 x2.Hi (D 8) w20 := dpA hd10 8 Z
      obtain ⟨p13, e4, ha4⟩ := d8
      refine dg_sub (E' := [(38, (.pointer (some p13)))]) ⟨(congrArg some e4), trivial⟩ (dg_plain Z (ow_load (R := RInt) Z Z ha4 (Tryd.sizeOf3 _) (Tryd.isAgg3 _) fun v21 hv21 => ?_))
      obtain rfl := vint_eq hv21
      exact ⟨BX.refl _ _, Z⟩
     ·
      intro w21 D hS11 hd11
      have hl21 := leY hm6 hS11
      exact dg_sub (E' := [(1, v1p)]) ⟨Z, trivial⟩ (dg_plain Z (ow_move Z Z ⟨BX.refl _ _, (VRep.mono (lz3.trans hl21) h1)⟩))
     ·
      intro w22 D hS12 hd12
      exact dg_sub (E' := [(8, (.int .i64 k1))]) ⟨Z, trivial⟩ (dg_plain Z (ow_move Z Z ⟨BX.refl _ _, Z⟩))
     ·
      intro w23 D hS13 hd13
      have d9 : PV (RSlice RTest) M1 a_list (D 10) w23 := dpA hd13 10 Z
      generalize hq3 : (D 10) = v22 at d9
      exact dg_sub (E' := [(40, v22), (41, (.int .i64 k1))]) ⟨(congrArg some hq3), (dpE hd13 11 Z Z), trivial⟩ (dg_plain Z (ow_indexSlice (R := RTest) Z Z Z d9 Tryd.underlying36 (Tryd.sizeOf128 _) hx2 fun p14 hp14 => ⟨BX.refl _ _, ⟨_, Z, hp14⟩⟩))
     ·
      intro w24 D hS14 hd14
      have d11 : PA RTest M1 x2 (D 12) w24 := dpA hd14 12 Z
      obtain ⟨p15, e5, ha5⟩ := d11
      exact dg_sub (E' := [(42, (.pointer (some p15)))]) ⟨(congrArg some e5), trivial⟩ (dg_plain Z (ow_fieldAddr Z Z Tryd.underlying128 Z (Tryd.sizeOf3 _) ⟨BX.refl _ _, ⟨_, Z, (ha5.fld fld_Test_Lo)⟩⟩))
     ·
      intro w25 D hS15 hd15
      have d12 : PA RInt M1 x2.Lo (D 13) w25 := dpA hd15 13 Z
      obtain ⟨p16, e6, ha6⟩ := d12
      refine dg_sub (E' := [(43, (.pointer (some p16)))]) ⟨(congrArg some e6), trivial⟩ (dg_plain Z (ow_load (R := RInt) Z Z ha6 (Tryd.sizeOf3 _) (Tryd.isAgg3 _) fun v23 hv23 => ?_))
      obtain rfl := vint_eq hv23
      exact ⟨BX.refl _ _, Z⟩
     ·
      intro w26 D hS16 hd16
      exact dg_sub (E' := [(44, (.int .i64 x2.Lo))]) ⟨(dpE hd16 14 Z Z), trivial⟩ (dg_plain Z (ow_sub Z Z Z ⟨BX.refl _ _, Z⟩))
     ·
      intro w27 D hS17 hd17
      exact dg_sub (E' := [(45, (.int .i64 (W (x2.Lo - 1))))]) ⟨(dpE hd17 15 Z Z), trivial⟩ (dg_plain Z (ow_max Z Z Z ⟨BX.refl _ _, Z⟩))
     ·
      intro w28 D hS18 hd18
      have hl28 := leY hm6 hS18
      exact dg_sub (E' := [(1, v1p)]) ⟨Z, trivial⟩ (dg_plain Z (ow_move Z Z ⟨BX.refl _ _, (VRep.mono (lz3.trans hl28) h1)⟩))
     ·
      intro w29 D hS19 hd19
      exact dg_sub (E' := [(8, (.int .i64 k1))]) ⟨Z, trivial⟩ (dg_plain Z (ow_move Z Z ⟨BX.refl _ _, Z⟩))
     ·
      intro w30 D hS20 hd20
      have d15 : PV (RSlice RTest) M1 a_list (D 17) w30 := dpA hd20 17 Z
      generalize hq4 : (D 17) = v24 at d15
      exact dg_sub (E' := [(47, v24), (48, (.int .i64 k1))]) ⟨(congrArg some hq4), (dpE hd20 18 Z Z), trivial⟩ (dg_plain Z (ow_indexSlice (R := RTest) Z Z Z d15 Tryd.underlying36 (Tryd.sizeOf128 _) hx2 fun p17 hp17 => ⟨BX.refl _ _, ⟨_, Z, hp17⟩⟩))
     ·
      intro w31 D hS21 hd21
      have d17 : PA RTest M1 x2 (D 19) w31 := dpA hd21 19 Z
      obtain ⟨p18, e7, ha7⟩ := d17
      exact dg_sub (E' := [(49, (.pointer (some p18)))]) ⟨(congrArg some e7), trivial⟩ (dg_plain Z (ow_fieldAddr Z Z Tryd.underlying128 Z (Tryd.sizeOf3 _) ⟨BX.refl _ _, ⟨_, Z, (ha7.fld fld_Test_Field)⟩⟩))
     ·
      intro w32 D hS22 hd22
      have d18 : PA RInt M1 x2.Field (D 20) w32 := dpA hd22 20 Z
      obtain ⟨p19, e8, ha8⟩ := d18
      refine dg_sub (E' := [(50, (.pointer (some p19)))]) ⟨(congrArg some e8), trivial⟩ (dg_plain Z (ow_load (R := RInt) Z Z ha8 (Tryd.sizeOf3 _) (Tryd.isAgg3 _) fun v25 hv25 => ?_))
      obtain rfl := vint_eq hv25
      exact ⟨BX.refl _ _, Z⟩
     ·
      intro w33 D hS23 hd23
      have hl33 := leY hm6 hS23
      have hC33 := hC7.go hS23 (fun b e => Or.inr e)
      refine dg_sub (E' := [(51, (.int .i64 x2.Field))]) ⟨(dpE hd23 21 Z Z), trivial⟩ (dg_plain Z (ow_call Z Z Tryd.call88 (w_spec_FieldTop (hG.mono (lz3.trans hl33)) hC33.old hx5) fun v26 w34 hv26 => ?_))
      obtain ⟨hv26, hb11⟩ := hv26
      obtain rfl := vint_eq hv26
      exact ⟨hb11, Z⟩
     ·
      intro w35 D hS24 hd24
      have hl35 := leY hm6 hS24
      exact dg_sub (E' := [(1, v1p)]) ⟨Z, trivial⟩ (dg_plain Z (ow_move Z Z ⟨BX.refl _ _, (VRep.mono (lz3.trans hl35) h1)⟩))
     ·
      intro w36 D hS25 hd25
      exact dg_sub (E' := [(8, (.int .i64 k1))]) ⟨Z, trivial⟩ (dg_plain Z (ow_move Z Z ⟨BX.refl _ _, Z⟩))
     ·
      intro w37 D hS26 hd26
      have d20 : PV (RSlice RTest) M1 a_list (D 23) w37 := dpA hd26 23 Z
      generalize hq5 : (D 23) = v27 at d20
      exact dg_sub (E' := [(53, v27), (54, (.int .i64 k1))]) ⟨(congrArg some hq5), (dpE hd26 24 Z Z), trivial⟩ (dg_plain Z (ow_indexSlice (R := RTest) Z Z Z d20 Tryd.underlying36 (Tryd.sizeOf128 _) hx2 fun p20 hp20 => ⟨BX.refl _ _, ⟨_, Z, hp20⟩⟩))
     ·
      intro w38 D hS27 hd27
      have d22 : PA RTest M1 x2 (D 25) w38 := dpA hd27 25 Z
      obtain ⟨p21, e9, ha9⟩ := d22
      exact dg_sub (E' := [(55, (.pointer (some p21)))]) ⟨(congrArg some e9), trivial⟩ (dg_plain Z (ow_fieldAddr Z Z Tryd.underlying128 Z (Tryd.sizeOf3 _) ⟨BX.refl _ _, ⟨_, Z, (ha9.fld fld_Test_Hi)⟩⟩))
     ·
      intro w39 D hS28 hd28
      have d23 : PA RInt M1 x2.Hi (D 26) w39 := dpA hd28 26 Z
      obtain ⟨p22, e10, ha10⟩ := d23
      refine dg_sub (E' := [(56, (.pointer (some p22)))]) ⟨(congrArg some e10), trivial⟩ (dg_plain Z (ow_load (R := RInt) Z Z ha10 (Tryd.sizeOf3 _) (Tryd.isAgg3 _) fun v28 hv28 => ?_))
      obtain rfl := vint_eq hv28
      exact ⟨BX.refl _ _, Z⟩
     ·
      intro w40 D hS29 hd29
      exact dg_sub (E' := [(57, (.int .i64 x2.Hi))]) ⟨(dpE hd29 27 Z Z), trivial⟩ (dg_plain Z (ow_add Z Z Z ⟨BX.refl _ _, Z⟩))
     ·
      intro w41 D hS30 hd30
      exact dg_sub (E' := [(52, (.int .i64 x5)), (58, (.int .i64 (W (x2.Hi + 1))))]) ⟨(dpE hd30 22 Z Z), (dpE hd30 28 Z Z), trivial⟩ (dg_plain Z (ow_min Z Z Z ⟨BX.refl _ _, Z⟩))
     ·
      intro w42 D hS31 hd31
      have hC42 := hC7.go hS31 (fun b e => Or.inr e)
      exact dg_sub (E' := [(34, (.int .i64 x2.Lo)), (39, (.int .i64 x2.Hi)), (46, (.int .i64 (imax 0 (W (x2.Lo - 1))))), (59, (.int .i64 (imin x5 (W (x2.Hi + 1)))))]) ⟨(dpE hd31 4 Z Z), (dpE hd31 9 Z Z), (dpE hd31 16 Z Z), (dpE hd31 29 Z Z), trivial⟩ (dg_plain Z (ow_buildSlice (R := RInt) (xs := [x2.Lo, x2.Hi, (imax 0 (W (x2.Lo - 1))), (imin x5 (W (x2.Hi + 1)))]) (cs := #[(.int .i64 x2.Lo), (.int .i64 x2.Hi), (.int .i64 (imax 0 (W (x2.Lo - 1)))), (.int .i64 (imin x5 (W (x2.Hi + 1))))]) (e := 3) Z Z (by kernel_rfl) Z Z ⟨_, _, Z, (vint _).cells, _, _, Z, (vint _).cells, _, _, Z, (vint _).cells, _, _, Z, (vint _).cells, Z⟩ hC42 fun p23 w43 hw2 hb12 hl43 hC43 => ⟨hb12, hw2⟩))
     ·
      intro w44 D hS32 hd32
      exact dg_sub (E' := [(0, (.pointer (some ⟨g, 0, none⟩)))]) ⟨Z, trivial⟩ (dg_plain Z (ow_move Z Z ⟨BX.refl _ _, Z⟩))
     ·
      intro w45 D hS33 hd33
      obtain ⟨hS33, ho97⟩ := hS33
      have ho97 : Own w45 g 183 #[(.slice Ax a_xs.length cx), (.int .i64 x4.2)] := ho97
      have hl45 := leY hm6 hS33
      have hC45 := hC7.go hS33 (fun b e => Or.inr e)
      refine dg_sub (E' := [(61, (.pointer (some ⟨g, 0, none⟩)))]) ⟨(dpE hd33 31 Z Z), trivial⟩ (dg_plain Z (ow_call Z Z Tryd.call137 (w_spec_l20Rd_pick (hG.mono (lz3.trans hl45)) hC45.old (VRep.mono (lz3.trans hl45) hxs) ho97 hm6 hx6) fun v29 w46 hv29 => ?_))
      obtain ⟨⟨hv29, ho100⟩, hb13⟩ := hv29
      obtain rfl := vint_eq hv29
      exact ⟨⟨⟨hS33.trans hb13, ho100⟩, hb13⟩, Z⟩
     ·
      intro w47 D hS34 hd34
      have d63 : PV (RSlice RInt) M1 [x2.Lo, x2.Hi, (imax 0 (W (x2.Lo - 1))), (imin x5 (W (x2.Hi + 1)))] (D 30) w47 := dpA hd34 30 Z
      obtain ⟨hS34, ho103⟩ := hS34
      have ho103 : Own w47 g 183 #[(.slice Ax a_xs.length cx), (.int .i64 x6.2)] := ho103
      have hl47 := leY hm6 hS34
      have hC47 := hC7.go hS34 (fun b e => Or.inr e)
      have ho104 := ho18.go hS34 (fun e => hn1 e.symm)
      have ho105 := ho19.go hS34 (fun e => hn2 e.symm)
      generalize hq6 : (D 30) = v30 at d63
      refine lw_sub (E' := [(60, v30), (62, (.int .i64 x6.1)), (0, (.pointer (some ⟨g, 0, none⟩))), (1, v1p), (6, (.pointer (some ⟨g1, 0, none⟩))), (7, (.pointer (some ⟨g2, 0, none⟩))), (8, (.int .i64 k1))]) ⟨(congrArg some hq6), (dpE hd34 32 Z Z), Z, Z, Z, Z, Z, trivial⟩ ?_
      replace hb5 := bind_some hb5
      obtain ⟨x7, hx7, hb5⟩ := hb5
      refine lw_op Z Z Z (ow_indexSlice (R := RInt) Z Z Z d63 Tryd.underlying34 (Tryd.sizeOf3 _) hx7 fun p24 hp24 => lw_op Z Z Z (ow_load (R := RInt) Z Z hp24 (Tryd.sizeOf3 _) (Tryd.isAgg3 _) fun v31 hv31 => ?_))
      obtain rfl := vint_eq hv31
      refine lw_op Z Z Z (ow_assign Z Z (lw_nil (ew_then (cw_seq (cw_region (lw_op Z Z Z (ow_move Z Z (lw_op Z Z Z (ow_move Z Z (lw_op Z Z Z (ow_indexSlice (R := RTest) Z Z Z (VRep.mono (lz3.trans hl47) h1) Tryd.underlying36 (Tryd.sizeOf128 _) hx2 fun p25 hp25 => lw_op Z Z Z (ow_fieldAddr Z Z Tryd.underlying128 Z (Tryd.sizeOf3 _) (lw_op Z Z Z (ow_load (R := RInt) Z Z (hp25.fld fld_Test_Field) (Tryd.sizeOf3 _) (Tryd.isAgg3 _) fun v32 hv32 => ?_))))))))))))))
      obtain rfl := vint_eq hv32
      refine lw_nil (ew_then (cw_block (cw_seq (cw_region (lw_op Z Z Z (ow_eqlI Z Z Z fun bb3 hbb3 => lw_op Z Z Z (ow_assign Z Z (lw_nil (ew_then ?_)))))))))
      replace hb5 := cond_some hb5
      rcases hb5 with ⟨hc4, hb5⟩ | ⟨hc4, hb5⟩
      ·
       obtain rfl := hbb3.trans hc4
       refine cw_true Z (cw_region (lw_op Z Z Z (ow_move Z Z (lw_op Z Z Z (ow_fieldAddr Z Z Tryd.underlying27 Z (Tryd.sizeOf3 _) (lw_op0 Z Z (ow_store (X := (One g)) (us := [(.int .i64 x7)]) (cs' := #[(.int .i64 x7), (.int .i64 k4), (.int .i64 k5), (.int .i64 k6)]) Z Z Z Z ho105 (Tryd.sizeOf3 _) Z Z Z Z hm8 (.inl hg4) Z hC47 fun w48 ho106 hb14 hl48 hC48 => ?_)))))))
       have ho107 := ho103.go hb14 (fun e => hn2 e)
       have ho108 := ho104.go hb14 (fun e => hn3 e)
       refine lw_nil (ew_blockN (ew_blockN (ew_then (cw_region (lw_op Z Z Z (ow_move Z Z (lw_op Z Z Z (ow_add Z Z Z (lw_op Z Z Z (ow_assign Z Z (lw_nil ?_)))))))))))
       have lz5 := ((((hl5.trans hl6).trans hl7).trans hl47).trans hl48)
       exact ew_nxt ((W (k1 + 1)), x6.2, x7, k4, k5, k6) hb5 fun a ha => ⟨M1, (ha.sub ⟨Z, Z, Z, Z, Z, trivial⟩), lz5, hC48, ho107, hm6, ho108, hm7, ho106, hm8⟩
      ·
       obtain rfl := hbb3.trans hc4
       refine cw_false Z (cw_seq (cw_region (lw_op Z Z Z (ow_eqlI Z Z Z fun bb4 hbb4 => lw_op Z Z Z (ow_assign Z Z (lw_nil (ew_then ?_)))))))
       replace hb5 := cond_some hb5
       rcases hb5 with ⟨hc5, hb5⟩ | ⟨hc5, hb5⟩
       ·
        obtain rfl := hbb4.trans hc5
        refine cw_true Z (cw_region (lw_op Z Z Z (ow_move Z Z (lw_op Z Z Z (ow_fieldAddr Z Z Tryd.underlying27 Z (Tryd.sizeOf3 _) (lw_op0 Z Z (ow_store (X := (One g)) (us := [(.int .i64 x7)]) (cs' := #[(.int .i64 k3), (.int .i64 x7), (.int .i64 k5), (.int .i64 k6)]) Z Z Z Z ho105 (Tryd.sizeOf3 _) Z Z Z Z hm8 (.inl hg4) Z hC47 fun w49 ho109 hb15 hl49 hC49 => ?_)))))))
        have ho110 := ho103.go hb15 (fun e => hn2 e)
        have ho111 := ho104.go hb15 (fun e => hn3 e)
        refine lw_nil (ew_blockN (ew_blockN (ew_then (cw_region (lw_op Z Z Z (ow_move Z Z (lw_op Z Z Z (ow_add Z Z Z (lw_op Z Z Z (ow_assign Z Z (lw_nil ?_)))))))))))
        have lz6 := ((((hl5.trans hl6).trans hl7).trans hl47).trans hl49)
        exact ew_nxt ((W (k1 + 1)), x6.2, k3, x7, k5, k6) hb5 fun a ha => ⟨M1, (ha.sub ⟨Z, Z, Z, Z, Z, trivial⟩), lz6, hC49, ho110, hm6, ho111, hm7, ho109, hm8⟩
       ·
        obtain rfl := hbb4.trans hc5
        refine cw_false Z (cw_seq (cw_region (lw_op Z Z Z (ow_eqlI Z Z Z fun bb5 hbb5 => lw_op Z Z Z (ow_assign Z Z (lw_nil (ew_then ?_)))))))
        replace hb5 := cond_some hb5
        rcases hb5 with ⟨hc6, hb5⟩ | ⟨hc6, hb5⟩
        ·
         obtain rfl := hbb5.trans hc6
         refine cw_true Z (cw_region (lw_op Z Z Z (ow_move Z Z (lw_op Z Z Z (ow_fieldAddr Z Z Tryd.underlying27 Z (Tryd.sizeOf3 _) (lw_op0 Z Z (ow_store (X := (One g)) (us := [(.int .i64 x7)]) (cs' := #[(.int .i64 k3), (.int .i64 k4), (.int .i64 x7), (.int .i64 k6)]) Z Z Z Z ho105 (Tryd.sizeOf3 _) Z Z Z Z hm8 (.inl hg4) Z hC47 fun w50 ho112 hb16 hl50 hC50 => ?_)))))))
         have ho113 := ho103.go hb16 (fun e => hn2 e)
         have ho114 := ho104.go hb16 (fun e => hn3 e)
         refine lw_nil (ew_blockN (ew_blockN (ew_then (cw_region (lw_op Z Z Z (ow_move Z Z (lw_op Z Z Z (ow_add Z Z Z (lw_op Z Z Z (ow_assign Z Z (lw_nil ?_)))))))))))
         have lz7 := ((((hl5.trans hl6).trans hl7).trans hl47).trans hl50)
         exact ew_nxt ((W (k1 + 1)), x6.2, k3, k4, x7, k6) hb5 fun a ha => ⟨M1, (ha.sub ⟨Z, Z, Z, Z, Z, trivial⟩), lz7, hC50, ho113, hm6, ho114, hm7, ho112, hm8⟩
        ·
         obtain rfl := hbb5.trans hc6
         refine cw_false Z (cw_region (lw_op Z Z Z (ow_move Z Z (lw_op Z Z Z (ow_fieldAddr Z Z Tryd.underlying27 Z (Tryd.sizeOf3 _) (lw_op0 Z Z (ow_store (X := (One g)) (us := [(.int .i64 x7)]) (cs' := #[(.int .i64 k3), (.int .i64 k4), (.int .i64 k5), (.int .i64 x7)]) Z Z Z Z ho105 (Tryd.sizeOf3 _) Z Z Z Z hm8 (.inl hg4) Z hC47 fun w51 ho115 hb17 hl51 hC51 => ?_)))))))
         have ho116 := ho103.go hb17 (fun e => hn2 e)
         have ho117 := ho104.go hb17 (fun e => hn3 e)
         refine lw_nil (ew_blockN (ew_blockN (ew_then (cw_region (lw_op Z Z Z (ow_move Z Z (lw_op Z Z Z (ow_add Z Z Z (lw_op Z Z Z (ow_assign Z Z (lw_nil ?_)))))))))))
         have lz8 := ((((hl5.trans hl6).trans hl7).trans hl47).trans hl51)
         exact ew_nxt ((W (k1 + 1)), x6.2, k3, k4, k5, x7) hb5 fun a ha => ⟨M1, (ha.sub ⟨Z, Z, Z, Z, Z, trivial⟩), lz8, hC51, ho116, hm6, ho117, hm7, ho115, hm8⟩
   ·
    subst hc2
    exact lw_off Z Z Z Z Z Z (lw_off Z Z Z Z Z Z (lw_off Z Z Z Z Z Z (lw_op Z Z Z (ow_pickT Z Z Z (lw_nil (ew_then (cw_true Z (cw_exit (ew_thenX (ew_blockX (ew_then (cw_region (lw_op Z Z Z (ow_move Z Z (lw_op Z Z Z (ow_add Z Z Z (lw_op Z Z Z (ow_assign Z Z (lw_nil (ew_nxt ((W (k1 + 1)), k2, k3, k4, k5, k6) hb5 fun a ha => ⟨M1, (ha.sub ⟨Z, Z, Z, Z, Z, trivial⟩), (hl5.trans hl6), hC6, ho14, hm6, ho15, hm7, ho16, hm8⟩))))))))))))))))))))
  ·
   obtain rfl := hbb1.trans hc1
   exact cw_false Z (cw_exit (ew_thenX (ew_thenX (ew_blockX (ew_brk (k1, k2, k3, k4, k5, k6) hb5 fun a ha => ⟨M1, (ha.sub ⟨Z, Z, Z, Z, Z, trivial⟩), hl5, hC5, ho11, hm6, ho12, hm7, ho13, hm8⟩)))))
 ·
  rintro ⟨k7, k8, k9, k10, k11, k12⟩ a w52 hlr2 ⟨M2, hF2, hl52, hC52, ho118, hm9, ho119, hm10, ho120, hm11⟩
  subst hlr2
  refine ew_at (E := [(0, (.pointer (some ⟨g, 0, none⟩))), (1, v1p), (6, (.pointer (some ⟨g1, 0, none⟩))), (7, (.pointer (some ⟨g2, 0, none⟩))), (8, (.int .i64 k7))]) hF2 (ew_then (cw_seq (cw_region (lw_op Z Z Z (ow_loadOwnA Z Z Z ho120 (Tryd.isAgg27 _) (Tryd.sizeOf27 _) Z (lw_op0 Z Z (ow_store (X := (One g)) (us := [(.int .i64 k9), (.int .i64 k10), (.int .i64 k11), (.int .i64 k12)]) (cs' := #[(.int .i64 k9), (.int .i64 k10), (.int .i64 k11), (.int .i64 k12)]) Z Z Z Z ho119 (Tryd.sizeOf27 _) Z Z Z Z hm10 (.inl hg2) Z hC52 fun w53 ho121 hb18 hl53 hC53 => ?_)))))))
  have ho122 := ho118.go hb18 (fun e => hn1 e)
  refine lw_nil (ew_then (cw_ret ?_))
  have hw4 : VRep RPacket w53 M2 ({ From := k9, To := k10, Port := k11, Proto := k12 } : Packet) (.agg #[(.int .i64 k9), (.int .i64 k10), (.int .i64 k11), (.int .i64 k12)]) := shut_Packet
  obtain rfl := Option.some.inj h
  exact ew_ret (res1 Z (.cell Z (own_loadVarA ho121 (Tryd.isAgg27 _) (Tryd.sizeOf27 _) Z))) ⟨_, Z, ⟨(hw4.mono hC53.back), ho122⟩, hC53.bx⟩

theorem w_spec_l20Case {w : World} {M : Nat → Prop} (hG : ARep (RArr 4 RShape) w M shapes ⟨0, 0, none⟩) (hO : ∀ b, M b → b < w.heap.size) {g : Nat} {Ax : Option Addr} {cx : Nat} {a_xs : List Int} {a_pos : Int} (hxs : VRep (RSlice RU8) w M a_xs (.slice Ax a_xs.length cx)) (hown : Own w g 183 #[.slice Ax a_xs.length cx, .int .i64 a_pos]) (hgM : M g) {a_n : Int} {r : Ruleset × Packet × Int} (h : F.spec_l20Case a_xs a_pos a_n = some r) :
  Calls Tryd.prog 75 [(.pointer (some ⟨g, 0, none⟩)), (.int .i64 a_n)].toArray w fun e w' => ∃ v, e = .returned v ∧ ((∃ u0 u1, v = .tuple #[u0, u1] ∧ VRep RRuleset w' M r.1 u0 ∧ VRep RPacket w' M r.2.1 u1) ∧ Own w' g 183 #[.slice Ax a_xs.length cx, .int .i64 r.2.2]) ∧ BX (One g) w w' := by
 obtain ⟨i128, hi128, hz128, hs128, hy128⟩ := info128
 have hX : ∀ b, (One g) b → M b := fun b e => e ▸ hgM
 have hC : Cx (One g) w M w M := Cx.start hO hX
 refine walk (N := 50) Tryd.func75 Z Tryd.ntmps75 Z (cw_seq (cw_region (lw_op Z Z Z (ow_alloc Z (Tryd.zeroValue25 _) hC fun g1 w1 hg1 hg2 ho1 hb1 hl1 hC1 => ?_))))
 have hn1 := Nat.ne_of_lt (Nat.lt_of_lt_of_le hown.lt hg1)
 have ho2 := hown.no hb1
 have hm1 : (Add g1 M) g := .inr hgM
 have hm2 : (Add g1 M) g1 := .inl Z
 refine lw_op Z Z Z (ow_alloc Z (Tryd.zeroValue27 _) hC1 fun g2 w2 hg3 hg4 ho3 hb2 hl2 hC2 => ?_)
 have hn2 := Nat.ne_of_lt (Nat.lt_of_lt_of_le ho2.lt hg3)
 have ho4 := ho2.no hb2
 have hm3 : (Add g2 (Add g1 M)) g := .inr hm1
 have hn3 := Nat.ne_of_lt (Nat.lt_of_lt_of_le ho1.lt hg3)
 have ho5 := ho1.no hb2
 have hm4 : (Add g2 (Add g1 M)) g1 := .inr hm2
 have hm5 : (Add g2 (Add g1 M)) g2 := .inl Z
 refine lw_nil (ew_then (cw_seq (cw_region (lw_op Z Z Z (ow_move Z Z (lw_op Z Z Z (ow_move Z Z ?_)))))))
 replace h := bind_some h
 obtain ⟨x1, hx1, h⟩ := h
 refine lw_op Z Z Z (ow_call Z Z Tryd.call136 (w_spec_l20Ruleset (hG.mono (hl1.trans hl2)) hC2.old (VRep.mono (hl1.trans hl2) hxs) ho4 hm3 hx1) fun v1 w3 hv1 => ?_)
 obtain ⟨⟨hv1, ho6⟩, hb3⟩ := hv1
 have hl3 := Le.of_bx (Add g2 (Add g1 M)) hb3 (fun b e => (by rw [show b = g from e]; exact hm3))
 have hC3 := hC2.go hb3 (fun b e => Or.inr e)
 have ho7 := ho5.go hb3 (fun e => hn1 e.symm)
 have ho8 := ho3.go hb3 (fun e => hn2 e.symm)
 refine lw_allocStore (R := RRuleset) Z Z Z Z Z Z Z Tryd.zeroValue25 Tryd.sizeOf25 Z Z Z (by simp) hv1 hC3 fun p1 w4 hp1 hb4 hl4 hC4 => ?_
 have ho9 := ho6.no hb4
 have ho10 := ho7.no hb4
 have ho11 := ho8.no hb4
 refine lw_nil (ew_then (cw_seq (cw_region (lw_op Z Z Z (ow_buildSlice0 (R := RTest) (e := 128) Z (by kernel_rfl) hC4 fun p2 w5 M1 hr1 hb5 hl5 hC5 hM1 hat1 => ?_)))))
 have ho12 := ho9.no hb5
 have hm6 := hM1 _ hm3
 have ho13 := ho10.no hb5
 have hm7 := hM1 _ hm4
 have ho14 := ho11.no hb5
 have hm8 := hM1 _ hm5
 refine lw_op Z Z Z (ow_assign Z Z (lw_nil (ew_then (cw_seq (cw_seq (cw_region (lw_op Z Z Z (ow_assign Z Z (lw_nil (ew_then ?_))))))))))
 replace h := bind_some h
 obtain ⟨lr1, hlr1, h⟩ := h
 refine cw_for hlr1 (fun s a w' => ∃ (M' : Nat → Prop) (v0c : Value), Fits 50 [(0, (.pointer (some ⟨g, 0, none⟩))), (1, (.int .i64 a_n)), (4, (.pointer (some ⟨g1, 0, none⟩))), (5, (.pointer (some ⟨g2, 0, none⟩))), (6, (.pointer (some p1))), (7, v0c), (8, (.int .i64 s.2.1))] a ∧ Le w5 M1 w' M' ∧ Cx (One g) w M w' M' ∧ OwnRow RTest w.heap.size 128 w' M' s.1 v0c ∧ Own w' g 183 #[(.slice Ax a_xs.length cx), (.int .i64 s.2.2)] ∧ M' g ∧ Own w' g1 25 #[(.slice none 0 0), (.bool false)] ∧ M' g1 ∧ Own w' g2 27 #[(.int .i64 0), (.int .i64 0), (.int .i64 0), (.int .i64 0)] ∧ M' g2) ?_ ?_ ?_
 ·
  intro a ha
  exact ⟨M1, (.slice (some p2) 0 0), ha.sub ⟨Z, Z, Z, Z, Z, Z, Z, trivial⟩, Le.refl _ _, hC5, hr1, ho12, hm6, ho13, hm7, ho14, hm8⟩
 ·
  rintro ⟨y1, k1, k2⟩ a w6 sr1 ⟨M2, v2, hF1, hl6, hC6, hw1, ho15, hm9, ho16, hm10, ho17, hm11⟩ hb6 hR1
  refine cw_at (E := [(0, (.pointer (some ⟨g, 0, none⟩))), (1, (.int .i64 a_n)), (4, (.pointer (some ⟨g1, 0, none⟩))), (5, (.pointer (some ⟨g2, 0, none⟩))), (6, (.pointer (some p1))), (7, v2), (8, (.int .i64 k1))]) hF1 (cw_seq (cw_seq (cw_region (lw_op Z Z Z (ow_move Z Z (lw_op Z Z Z (ow_fieldAddr Z Z Tryd.underlying25 Z (Tryd.sizeOf23 _) (lw_op Z Z Z (ow_load (R := (RSlice (RSlice RRule))) Z Z (ARep.mono (hl5.trans hl6) (hp1.fld fld_Ruleset_Chains)) (Tryd.sizeOf23 _) (Tryd.isAgg23 _) fun v5 hv5 => lw_op Z Z Z (ow_len Z Z hv5 Tryd.underlying23 Z (lw_op Z Z Z (ow_lss Z Z Z fun bb1 hbb1 => lw_nil (ew_then ?_)))))))))))))
  replace hb6 := cond_some hb6
  rcases hb6 with ⟨hc1, hb6⟩ | ⟨hc1, hb6⟩
  ·
   obtain rfl := hbb1.trans hc1
   refine cw_true Z (cw_skip (ew_then (cw_seq (cw_block (cw_seq (cw_region (lw_op Z Z Z (ow_assign Z Z (lw_nil (ew_then ?_))))))))))
   replace hb6 := bind_some hb6
   obtain ⟨lr2, hlr2, hb6⟩ := hb6
   refine cw_for hlr2 (fun s a w' => ∃ (M' : Nat → Prop) (v0c : Value), Fits 50 [(0, (.pointer (some ⟨g, 0, none⟩))), (1, (.int .i64 a_n)), (4, (.pointer (some ⟨g1, 0, none⟩))), (5, (.pointer (some ⟨g2, 0, none⟩))), (6, (.pointer (some p1))), (7, v0c), (8, (.int .i64 k1)), (9, (.int .i64 s.2.1))] a ∧ Le w6 M2 w' M' ∧ Cx (One g) w M w' M' ∧ OwnRow RTest w.heap.size 128 w' M' s.1 v0c ∧ Own w' g 183 #[(.slice Ax a_xs.length cx), (.int .i64 s.2.2)] ∧ M' g ∧ Own w' g1 25 #[(.slice none 0 0), (.bool false)] ∧ M' g1 ∧ Own w' g2 27 #[(.int .i64 0), (.int .i64 0), (.int .i64 0), (.int .i64 0)] ∧ M' g2) ?_ ?_ ?_
   ·
    intro a ha
    exact ⟨M2, v2, ha.sub ⟨Z, Z, Z, Z, Z, Z, Z, Z, trivial⟩, Le.refl _ _, hC6, hw1, ho15, hm9, ho16, hm10, ho17, hm11⟩
   ·
    rintro ⟨y2, k3, k4⟩ a w7 sr2 ⟨M3, v6, hF2, hl7, hC7, hw2, ho18, hm12, ho19, hm13, ho20, hm14⟩ hb7 hR2
    refine cw_at (E := [(0, (.pointer (some ⟨g, 0, none⟩))), (1, (.int .i64 a_n)), (4, (.pointer (some ⟨g1, 0, none⟩))), (5, (.pointer (some ⟨g2, 0, none⟩))), (6, (.pointer (some p1))), (7, v6), (8, (.int .i64 k1)), (9, (.int .i64 k3))]) hF2 (cw_seq (cw_seq (cw_region (lw_op Z Z Z (ow_move Z Z (lw_op Z Z Z (ow_fieldAddr Z Z Tryd.underlying25 Z (Tryd.sizeOf23 _) ?_)))))))
    have lz1 := ((hl5.trans hl6).trans hl7)
    refine lw_op Z Z Z (ow_load (R := (RSlice (RSlice RRule))) Z Z (ARep.mono lz1 (hp1.fld fld_Ruleset_Chains)) (Tryd.sizeOf23 _) (Tryd.isAgg23 _) fun v9 hv9 => lw_op Z Z Z (ow_move Z Z ?_))
    replace hb7 := bind_some hb7
    obtain ⟨x2, hx2, hb7⟩ := hb7
    refine lw_op Z Z Z (ow_indexSlice (R := (RSlice RRule)) Z Z Z hv9 Tryd.underlying23 (Tryd.sizeOf39 _) hx2 fun p3 hp3 => lw_op Z Z Z (ow_load (R := (RSlice RRule)) Z Z hp3 (Tryd.sizeOf39 _) (Tryd.isAgg39 _) fun v10 hv10 => lw_op Z Z Z (ow_len Z Z hv10 Tryd.underlying39 Z (lw_op Z Z Z (ow_lss Z Z Z fun bb2 hbb2 => lw_nil (ew_then ?_))))))
    replace hb7 := cond_some hb7
    rcases hb7 with ⟨hc2, hb7⟩ | ⟨hc2, hb7⟩
    ·
     obtain rfl := hbb2.trans hc2
     refine cw_true Z (cw_skip (ew_then (cw_seq (cw_block (cw_seq (cw_region (lw_op Z Z Z (ow_move Z Z ?_))))))))
     have lz2 := ((((((hl1.trans hl2).trans hl3).trans hl4).trans hl5).trans hl6).trans hl7)
     replace hb7 := bind_some hb7
     obtain ⟨x3, hx3, hb7⟩ := hb7
     refine lw_op Z Z Z (ow_call Z Z Tryd.call137 (w_spec_l20Rd_pick (hG.mono lz2) hC7.old (VRep.mono lz2 hxs) ho18 hm12 hx3) fun v11 w8 hv11 => ?_)
     obtain ⟨⟨hv11, ho21⟩, hb8⟩ := hv11
     have hl8 := Le.of_bx M3 hb8 (fun b e => (by rw [show b = g from e]; exact hm12))
     have hC8 := hC7.go hb8 (fun b e => Or.inr e)
     have ho22 := ho19.go hb8 (fun e => hn1 e.symm)
     have ho23 := ho20.go hb8 (fun e => hn2 e.symm)
     have hr2 := hw2.go hb8 (fun k hk e => (orow_ne hw2 ho18 (by decide)) (hk.trans (congrArg some e))) hl8 (fun _ h => h)
     obtain rfl := vint_eq hv11
     refine lw_op Z Z Z (ow_eqlI Z Z Z fun bb3 hbb3 => lw_nil (ew_then ?_))
     replace hb7 := cond_some hb7
     rcases hb7 with ⟨hc3, hb7⟩ | ⟨hc3, hb7⟩
     ·
      obtain rfl := hbb3.trans hc3
      refine cw_true Z (cw_region (lw_op Z Z Z (ow_move Z Z (lw_op Z Z Z (ow_fieldAddr Z Z Tryd.underlying25 Z (Tryd.sizeOf23 _) (lw_op Z Z Z (ow_load (R := (RSlice (RSlice RRule))) Z Z (ARep.mono (lz1.trans hl8) (hp1.fld fld_Ruleset_Chains)) (Tryd.sizeOf23 _) (Tryd.isAgg23 _) fun v12 hv12 => lw_op Z Z Z (ow_move Z Z (lw_op Z Z Z (ow_indexSlice (R := (RSlice RRule)) Z Z Z hv12 Tryd.underlying23 (Tryd.sizeOf39 _) hx2 fun p4 hp4 => lw_op Z Z Z (ow_load (R := (RSlice RRule)) Z Z hp4 (Tryd.sizeOf39 _) (Tryd.isAgg39 _) fun v13 hv13 => lw_op Z Z Z (ow_move Z Z ?_))))))))))))
      replace hb7 := bind_some hb7
      obtain ⟨x4, hx4, hb7⟩ := hb7
      refine lw_op Z Z Z (ow_indexSlice (R := RRule) Z Z Z hv13 Tryd.underlying39 (Tryd.sizeOf38 _) hx4 fun p5 hp5 => lw_op Z Z Z (ow_fieldAddr Z Z Tryd.underlying38 Z (Tryd.sizeOf36 _) (lw_op Z Z Z (ow_load (R := (RSlice RTest)) Z Z (hp5.fld fld_Rule_Tests) (Tryd.sizeOf36 _) (Tryd.isAgg36 _) fun v14 hv14 => ?_))))
      replace hb7 := bind_some hb7
      obtain ⟨z1, hz1, hb7⟩ := hb7
      refine lw_op Z Z Z (ow_append (R := RTest) Z Z Z Z Tryd.underlying36 hi128 hz128 hs128 hy128 Z Z Z Z hr2 hv14 hz1 hC8 fun v15 w9 M4 hr3 hb9 hl9 hC9 hM2 hat2 => ?_)
      have ho24 := ho21.go hb9 (fun e => (orow_ne hr2 ho21 (by decide)) e)
      have hm15 := hM2 _ hm12
      have ho25 := ho22.go hb9 (fun e => (orow_ne hr2 ho22 (by decide)) e)
      have hm16 := hM2 _ hm13
      have ho26 := ho23.go hb9 (fun e => (orow_ne hr2 ho23 (by decide)) e)
      have hm17 := hM2 _ hm14
      refine lw_op Z Z Z (ow_assign Z Z (lw_nil (ew_blockN (ew_then (cw_region (lw_op Z Z Z (ow_move Z Z (lw_op Z Z Z (ow_add Z Z Z (lw_op Z Z Z (ow_assign Z Z (lw_nil ?_))))))))))))
      have lz3 := ((hl7.trans hl8).trans hl9)
      exact ew_nxt (z1, (W (k3 + 1)), x3.2) hb7 fun a ha => ⟨M4, v15, (ha.sub ⟨Z, Z, Z, Z, Z, Z, Z, Z, trivial⟩), lz3, hC9, hr3, ho24, hm15, ho25, hm16, ho26, hm17⟩
     ·
      obtain rfl := hbb3.trans hc3
      exact cw_false Z (cw_skip (ew_blockN (ew_then (cw_region (lw_op Z Z Z (ow_move Z Z (lw_op Z Z Z (ow_add Z Z Z (lw_op Z Z Z (ow_assign Z Z (lw_nil (ew_nxt (y2, (W (k3 + 1)), x3.2) hb7 fun a ha => ⟨M3, v6, (ha.sub ⟨Z, Z, Z, Z, Z, Z, Z, Z, trivial⟩), (hl7.trans hl8), hC8, hr2, ho21, hm12, ho22, hm13, ho23, hm14⟩))))))))))))
    ·
     obtain rfl := hbb2.trans hc2
     exact cw_false Z (cw_exit (ew_thenX (ew_thenX (ew_blockX (ew_brk (y2, k3, k4) hb7 fun a ha => ⟨M3, v6, (ha.sub ⟨Z, Z, Z, Z, Z, Z, Z, Z, trivial⟩), hl7, hC7, hw2, ho18, hm12, ho19, hm13, ho20, hm14⟩)))))
   ·
    rintro ⟨y3, k5, k6⟩ a w10 hlr3 ⟨M5, v16, hF3, hl10, hC10, hw3, ho27, hm18, ho28, hm19, ho29, hm20⟩
    subst hlr3
    exact ew_at (E := [(0, (.pointer (some ⟨g, 0, none⟩))), (1, (.int .i64 a_n)), (4, (.pointer (some ⟨g1, 0, none⟩))), (5, (.pointer (some ⟨g2, 0, none⟩))), (6, (.pointer (some p1))), (7, v16), (8, (.int .i64 k1)), (9, (.int .i64 k5))]) hF3 (ew_blockN (ew_then (cw_region (lw_op Z Z Z (ow_move Z Z (lw_op Z Z Z (ow_add Z Z Z (lw_op Z Z Z (ow_assign Z Z (lw_nil (ew_nxt (y3, (W (k1 + 1)), k6) hb6 fun a ha => ⟨M5, v16, (ha.sub ⟨Z, Z, Z, Z, Z, Z, Z, trivial⟩), (hl6.trans hl10), hC10, hw3, ho27, hm18, ho28, hm19, ho29, hm20⟩)))))))))))
  ·
   obtain rfl := hbb1.trans hc1
   exact cw_false Z (cw_exit (ew_thenX (ew_thenX (ew_blockX (ew_brk (y1, k1, k2) hb6 fun a ha => ⟨M2, v2, (ha.sub ⟨Z, Z, Z, Z, Z, Z, Z, trivial⟩), hl6, hC6, hw1, ho15, hm9, ho16, hm10, ho17, hm11⟩)))))
 ·
  rintro ⟨y4, k7, k8⟩ a w11 hlr4 ⟨M6, v19, hF4, hl11, hC11, hw4, ho30, hm21, ho31, hm22, ho32, hm23⟩
  subst hlr4
  refine ew_at (E := [(0, (.pointer (some ⟨g, 0, none⟩))), (1, (.int .i64 a_n)), (4, (.pointer (some ⟨g1, 0, none⟩))), (5, (.pointer (some ⟨g2, 0, none⟩))), (6, (.pointer (some p1))), (7, v19), (8, (.int .i64 k7))]) hF4 (ew_then (cw_seq ?_))
  replace h := bind_some h
  obtain ⟨x5, hx5, h⟩ := h
  have lz4 := (((((hl1.trans hl2).trans hl3).trans hl4).trans hl5).trans hl11)
  have lz5 := (hl5.trans hl11)
  have hw6 := hw4.freezeDel
  have hC14 := hw4.cxDel hC11 hX hO
  have hl14 := Le.del w11 M6 v19
  have hm27 : (Del v19 M6) g := ⟨hm21, fun e => (orow_ne hw4 ho30 (by decide)) e⟩
  have hm28 : (Del v19 M6) g1 := ⟨hm22, fun e => (orow_ne hw4 ho31 (by decide)) e⟩
  have hm29 : (Del v19 M6) g2 := ⟨hm23, fun e => (orow_ne hw4 ho32 (by decide)) e⟩
  refine cw_sub (E' := [(0, (.pointer (some ⟨g, 0, none⟩))), (1, (.int .i64 a_n)), (4, (.pointer (some ⟨g1, 0, none⟩))), (5, (.pointer (some ⟨g2, 0, none⟩))), (6, (.pointer (some p1))), (7, v19)]) ⟨Z, Z, Z, Z, Z, Z, trivial⟩ (cw_drawC (g := g) (T := 183) 5 1 [none, none, none, none, some 0] [#[(.slice Ax a_xs.length cx), (.int .i64 k8)], #[(.slice Ax a_xs.length cx), (.int .i64 x5.2)]] [PV RRuleset (Del v19 M6) x1.1, PEq (.pointer (some ⟨g, 0, none⟩)), PV (RSlice RTest) (Del v19 M6) y4, PEq (.int .i64 a_n), PV RPacket (Del v19 M6) x5.1] (by kernel_rfl) Z (by kernel_rfl) (by kernel_rfl) ho30 ⟨(PV.monoY hm27 _ _), (PEq.monoY hm27 _), (PV.monoY hm27 _ _), (PEq.monoY hm27 _), (PV.monoY hm27 _ _), trivial⟩ ⟨?_, ?_, ?_, ?_, ?_, trivial⟩ ?_)
  ·
   intro w13 D hS1 hd1
   have hl15 := leY hm27 hS1
   refine dg_sub (E' := [(6, (.pointer (some p1)))]) ⟨Z, trivial⟩ ?_
   have lz6 := ((lz5.trans hl14).trans hl15)
   exact dg_plain Z (ow_load (R := RRuleset) Z Z (ARep.mono lz6 hp1) (Tryd.sizeOf25 _) (Tryd.isAgg25 _) fun v24 hv24 => ⟨BX.refl _ _, hv24⟩)
  ·
   intro w14 D hS2 hd2
   exact dg_sub (E' := [(0, (.pointer (some ⟨g, 0, none⟩)))]) ⟨Z, trivial⟩ (dg_plain Z (ow_move Z Z ⟨BX.refl _ _, Z⟩))
  ·
   intro w15 D hS3 hd3
   have hl17 := leY hm27 hS3
   exact dg_sub (E' := [(7, v19)]) ⟨Z, trivial⟩ (dg_plain Z (ow_move Z Z ⟨BX.refl _ _, (VRep.mono hl17 hw6)⟩))
  ·
   intro w16 D hS4 hd4
   exact dg_sub (E' := [(1, (.int .i64 a_n))]) ⟨Z, trivial⟩ (dg_plain Z (ow_move Z Z ⟨BX.refl _ _, Z⟩))
  ·
   intro w17 D hS5 hd5
   obtain ⟨hS5, ho44⟩ := hS5
   have ho44 : Own w17 g 183 #[(.slice Ax a_xs.length cx), (.int .i64 k8)] := ho44
   have hl19 := leY hm27 hS5
   have hC19 := hC14.go hS5 (fun b e => Or.inr e)
   have d2 : PV (RSlice RTest) (Del v19 M6) y4 (D 2) w17 := dpA hd5 2 Z
   generalize hq1 : (D 2) = v25 at d2
   refine dg_sub (E' := [(46, (.pointer (some ⟨g, 0, none⟩))), (47, v25), (48, (.int .i64 a_n))]) ⟨(dpE hd5 1 Z Z), (congrArg some hq1), (dpE hd5 3 Z Z), trivial⟩ ?_
   have lz7 := ((lz4.trans hl14).trans hl19)
   refine dg_plain Z (ow_call Z Z Tryd.call138 (w_spec_l20Near (hG.mono lz7) hC19.old (VRep.mono lz7 hxs) ho44 hm27 d2 hx5) fun v26 w18 hv26 => ?_)
   obtain ⟨⟨hv26, ho47⟩, hb11⟩ := hv26
   exact ⟨⟨⟨hS5.trans hb11, ho47⟩, hb11⟩, hv26⟩
  ·
   intro w19 D hS6 hd6
   have d4 : PV RRuleset (Del v19 M6) x1.1 (D 0) w19 := dpA hd6 0 Z
   have d8 : PV RPacket (Del v19 M6) x5.1 (D 4) w19 := dpA hd6 4 Z
   obtain ⟨hS6, ho50⟩ := hS6
   have ho50 : Own w19 g 183 #[(.slice Ax a_xs.length cx), (.int .i64 x5.2)] := ho50
   have hC21 := hC14.go hS6 (fun b e => Or.inr e)
   have ho51 := ho31.go hS6 (fun e => hn1 e.symm)
   have ho52 := ho32.go hS6 (fun e => hn2 e.symm)
   generalize hq2 : (D 0) = v27 at d4
   generalize hq3 : (D 4) = v28 at d8
   refine lw_sub (E' := [(45, v27), (49, v28), (0, (.pointer (some ⟨g, 0, none⟩))), (1, (.int .i64 a_n)), (4, (.pointer (some ⟨g1, 0, none⟩))), (5, (.pointer (some ⟨g2, 0, none⟩))), (6, (.pointer (some p1))), (7, v19)]) ⟨(congrArg some hq2), (congrArg some hq3), Z, Z, Z, Z, Z, Z, trivial⟩ ?_
   obtain ⟨A1, c1, rfl, hw7⟩ := open_Ruleset d4
   refine lw_op0 Z Z (ow_store (X := (One g)) (us := [(.slice A1 x1.1.Chains.length c1), (.bool x1.1.Accept)]) (cs' := #[(.slice A1 x1.1.Chains.length c1), (.bool x1.1.Accept)]) Z Z Z Z ho51 (Tryd.sizeOf25 _) Z Z Z Z hm28 (.inl hg2) Z hC21 fun w20 ho53 hb12 hl22 hC22 => ?_)
   have ho54 := ho50.go hb12 (fun e => hn1 e)
   have ho55 := ho52.go hb12 (fun e => hn3 e.symm)
   obtain rfl := open_Packet d8
   refine lw_op0 Z Z (ow_store (X := (One g)) (us := [(.int .i64 x5.1.From), (.int .i64 x5.1.To), (.int .i64 x5.1.Port), (.int .i64 x5.1.Proto)]) (cs' := #[(.int .i64 x5.1.From), (.int .i64 x5.1.To), (.int .i64 x5.1.Port), (.int .i64 x5.1.Proto)]) Z Z Z Z ho55 (Tryd.sizeOf27 _) Z Z Z Z hm29 (.inl hg4) Z hC22 fun w21 ho56 hb13 hl23 hC23 => ?_)
   have ho57 := ho54.go hb13 (fun e => hn2 e)
   have ho58 := ho53.go hb13 (fun e => hn3 e)
   refine lw_nil (ew_then (cw_ret ?_))
   have hw8 : VRep RRuleset w21 (Del v19 M6) ({ Chains := x1.1.Chains, Accept := x1.1.Accept } : Ruleset) (.agg #[(.slice A1 x1.1.Chains.length c1), (.bool x1.1.Accept)]) := shut_Ruleset (VRep.mono (hl22.trans hl23) hw7)
   have hw9 : VRep RPacket w21 (Del v19 M6) ({ From := x5.1.From, To := x5.1.To, Port := x5.1.Port, Proto := x5.1.Proto } : Packet) (.agg #[(.int .i64 x5.1.From), (.int .i64 x5.1.To), (.int .i64 x5.1.Port), (.int .i64 x5.1.Proto)]) := shut_Packet
   obtain rfl := Option.some.inj h
   exact ew_ret (res2 Z (.cell Z (own_loadVarA ho58 (Tryd.isAgg25 _) (Tryd.sizeOf25 _) Z)) (.cell Z (own_loadVarA ho56 (Tryd.isAgg27 _) (Tryd.sizeOf27 _) Z))) ⟨_, Z, ⟨⟨_, _, Z, (hw8.mono hC23.back), (hw9.mono hC23.back)⟩, ho57⟩, hC23.bx⟩

theorem w_spec_l20Open {w : World} {M : Nat → Prop} (_hG : ARep (RArr 4 RShape) w M shapes ⟨0, 0, none⟩) (hO : ∀ b, M b → b < w.heap.size) {v0p : Value} {a_code : List Int} (h0 : VRep (RSlice RU8) w M a_code v0p) {r : List Int × Int} (h : F.spec_l20Open a_code = some r) :
  Calls Tryd.prog 76 [v0p].toArray w fun e w' => ∃ v, e = .returned v ∧ (∃ g A c, v = .pointer (some ⟨g, 0, none⟩) ∧ w.heap.size ≤ g ∧ Own w' g 183 #[.slice A r.1.length c, .int .i64 r.2] ∧ VRep (RSlice RU8) w' (Add g M) r.1 (.slice A r.1.length c)) ∧ BX No w w' := by
 have hC : Cx No w M w M := Cx.start hO (fun _ e => e.elim)
 clear _hG
 refine walk (N := 11) Tryd.func76 Z Tryd.ntmps76 Z (cw_seq (cw_region (lw_op Z Z Z (ow_assign Z Z (lw_nil (ew_then (cw_seq (cw_seq (cw_region (lw_op Z Z Z (ow_move Z Z (lw_op Z Z Z (ow_len Z Z h0 Tryd.underlying22 Z (lw_op Z Z Z (ow_gtr Z Z Z fun bb1 hbb1 => lw_nil (ew_then ?_))))))))))))))))
 replace h := cond_some h
 rcases h with ⟨hc1, h⟩ | ⟨hc1, h⟩
 ·
  obtain rfl := hbb1.trans hc1
  refine cw_true Z (cw_region (lw_op Z Z Z (ow_move Z Z ?_)))
  replace h := bind_some h
  obtain ⟨y1, hy1, h⟩ := h
  refine lw_op Z Z Z (ow_sliceTo (R := RU8) Z Z Z h0 Tryd.underlying22 (Tryd.sizeOf5 _) (takeF_some hy1).2 fun v1 hv1 => ?_)
  rw [← (takeF_some hy1).1] at hv1
  refine lw_op Z Z Z (ow_assign Z Z (lw_nil (ew_then (cw_seq (cw_region (lw_op Z Z Z (ow_move Z Z ?_)))))))
  obtain ⟨A1, c1, rfl, -⟩ := vslice_shape hv1
  refine lw_op Z Z Z (ow_build (v := .agg #[(.slice A1 y1.length c1), (.int .i64 0)]) Z Z (by kernel_rfl) (lw_op Z Z Z (ow_boxOwn Z Z hC fun g1 w1 hg1 hg2 ho1 hb1 hl1 hC1 => lw_op Z Z Z (ow_assign Z Z (lw_nil (ew_then (cw_ret ?_)))))))
  obtain rfl := Option.some.inj h
  exact ew_ret (res1 Z (.tmp Z)) ⟨_, Z, ⟨_, _, _, Z, hg2, ho1, (VRep.mono hl1 hv1)⟩, hC1.bx⟩
 ·
  obtain rfl := hbb1.trans hc1
  refine cw_false Z (cw_skip (ew_then (cw_seq (cw_region (lw_op Z Z Z (ow_move Z Z ?_))))))
  obtain ⟨A2, c2, rfl, -⟩ := vslice_shape h0
  refine lw_op Z Z Z (ow_build (v := .agg #[(.slice A2 a_code.length c2), (.int .i64 0)]) Z Z (by kernel_rfl) (lw_op Z Z Z (ow_boxOwn Z Z hC fun g2 w2 hg3 hg4 ho2 hb2 hl2 hC2 => lw_op Z Z Z (ow_assign Z Z (lw_nil (ew_then (cw_ret ?_)))))))
  obtain rfl := Option.some.inj h
  exact ew_ret (res1 Z (.tmp Z)) ⟨_, Z, ⟨_, _, _, Z, hg4, ho2, (VRep.mono hl2 h0)⟩, hC2.bx⟩

theorem w_spec_DrawJudge {w : World} {M : Nat → Prop} (hG : ARep (RArr 4 RShape) w M shapes ⟨0, 0, none⟩) (hO : ∀ b, M b → b < w.heap.size) {v0p : Value} {a_code : List Int} (h0 : VRep (RSlice RU8) w M a_code v0p) {r : Ruleset × Packet} (h : F.spec_DrawJudge a_code = some r) :
  Calls Tryd.prog 15 [v0p].toArray w fun e w' => ∃ v, e = .returned v ∧ (∃ u0 u1, v = .tuple #[u0, u1] ∧ VRep RRuleset w' M r.1 u0 ∧ VRep RPacket w' M r.2 u1) ∧ BX No w w' := by
 have hC : Cx No w M w M := Cx.start hO (fun _ e => e.elim)
 refine walk (N := 9) Tryd.func15 Z Tryd.ntmps15 Z (cw_seq (cw_region (lw_op Z Z Z (ow_alloc Z (Tryd.zeroValue25 _) hC fun g1 w1 hg1 hg2 ho1 hb1 hl1 hC1 => ?_))))
 have hm1 : (Add g1 M) g1 := .inl Z
 refine lw_op Z Z Z (ow_alloc Z (Tryd.zeroValue27 _) hC1 fun g2 w2 hg3 hg4 ho2 hb2 hl2 hC2 => ?_)
 have hn1 := Nat.ne_of_lt (Nat.lt_of_lt_of_le ho1.lt hg3)
 have ho3 := ho1.no hb2
 have hm2 : (Add g2 (Add g1 M)) g1 := .inr hm1
 have hm3 : (Add g2 (Add g1 M)) g2 := .inl Z
 refine lw_nil (ew_then (cw_seq (cw_region (lw_op Z Z Z (ow_move Z Z ?_)))))
 replace h := bind_some h
 obtain ⟨x1, hx1, h⟩ := h
 refine lw_op Z Z Z (ow_call Z Z Tryd.call76 (w_spec_l20Open (hG.mono (hl1.trans hl2)) hC2.old (VRep.mono (hl1.trans hl2) h0) hx1) fun v1 w3 hv1 => ?_)
 obtain ⟨⟨g3, A1, c1, rfl, hg5, ho4, hw1⟩, hb3⟩ := hv1
 have hl3 := (Le.no (Add g2 (Add g1 M)) hb3).add hg5
 have hg6 := Nat.le_trans hC2.bx.size hg5
 have hC3 := (hC2.no hb3).add ho4.lt hg6
 have hn2 := Nat.ne_of_lt (Nat.lt_of_lt_of_le ho3.lt hg5)
 have ho5 := ho3.no hb3
 have hm4 : (Add g3 (Add g2 (Add g1 M))) g1 := .inr hm2
 have hn3 := Nat.ne_of_lt (Nat.lt_of_lt_of_le ho2.lt hg5)
 have ho6 := ho2.no hb3
 have hm5 : (Add g3 (Add g2 (Add g1 M))) g2 := .inr hm3
 have hm6 : (Add g3 (Add g2 (Add g1 M))) g3 := .inl Z
 replace h := bind_some h
 obtain ⟨x2, hx2, h⟩ := h
 have lz1 := ((hl1.trans hl2).trans hl3)
 refine lw_op Z Z Z (ow_call Z Z Tryd.call75 (w_spec_l20Case (hG.mono lz1) hC3.old hw1 ho4 hm6 hx2) fun v2 w4 hv2 => ?_)
 obtain ⟨⟨⟨v3, v4, rfl, hv3, hv4⟩, ho7⟩, hb4⟩ := hv2
 have hC4 := hC3.go hb4 (fun b e => (by rw [show b = g3 from e]; exact (.inl hg6)))
 have ho8 := ho5.go hb4 (fun e => hn2 e)
 have ho9 := ho6.go hb4 (fun e => hn3 e)
 refine lw_op Z Z Z (ow_extract Z Z Z (lw_op Z Z Z (ow_extract Z Z Z ?_)))
 obtain ⟨A2, c2, rfl, hw2⟩ := open_Ruleset hv3
 refine lw_op0 Z Z (ow_store (X := No) (us := [(.slice A2 x2.1.Chains.length c2), (.bool x2.1.Accept)]) (cs' := #[(.slice A2 x2.1.Chains.length c2), (.bool x2.1.Accept)]) Z Z Z Z ho8 (Tryd.sizeOf25 _) Z Z Z Z hm4 (.inl hg2) Z hC4 fun w5 ho10 hb5 hl5 hC5 => ?_)
 have ho11 := ho9.go hb5 (fun e => hn1 e.symm)
 obtain rfl := open_Packet hv4
 refine lw_op0 Z Z (ow_store (X := No) (us := [(.int .i64 x2.2.1.From), (.int .i64 x2.2.1.To), (.int .i64 x2.2.1.Port), (.int .i64 x2.2.1.Proto)]) (cs' := #[(.int .i64 x2.2.1.From), (.int .i64 x2.2.1.To), (.int .i64 x2.2.1.Port), (.int .i64 x2.2.1.Proto)]) Z Z Z Z ho11 (Tryd.sizeOf27 _) Z Z Z Z hm5 (.inl hg4) Z hC5 fun w6 ho13 hb6 hl6 hC6 => ?_)
 have ho14 := ho10.go hb6 (fun e => hn1 e)
 refine lw_nil (ew_then (cw_ret ?_))
 have hw3 : VRep RRuleset w6 (Add g3 (Add g2 (Add g1 M))) ({ Chains := x2.1.Chains, Accept := x2.1.Accept } : Ruleset) (.agg #[(.slice A2 x2.1.Chains.length c2), (.bool x2.1.Accept)]) := shut_Ruleset (VRep.mono (hl5.trans hl6) hw2)
 have hw4 : VRep RPacket w6 (Add g3 (Add g2 (Add g1 M))) ({ From := x2.2.1.From, To := x2.2.1.To, Port := x2.2.1.Port, Proto := x2.2.1.Proto } : Packet) (.agg #[(.int .i64 x2.2.1.From), (.int .i64 x2.2.1.To), (.int .i64 x2.2.1.Port), (.int .i64 x2.2.1.Proto)]) := shut_Packet
 obtain rfl := Option.some.inj h
 exact ew_ret (res2 Z (.cell Z (own_loadVarA ho14 (Tryd.isAgg25 _) (Tryd.sizeOf25 _) Z)) (.cell Z (own_loadVarA ho13 (Tryd.isAgg27 _) (Tryd.sizeOf27 _) Z))) ⟨_, Z, ⟨_, _, Z, (hw3.mono hC6.back), (hw4.mono hC6.back)⟩, hC6.bx⟩

theorem w_impl_callsIn {w : World} {M : Nat → Prop} (_hG : ARep (RArr 4 RShape) w M shapes ⟨0, 0, none⟩) (hO : ∀ b, M b → b < w.heap.size) {v0p : Value} {a_rules : List Rule} (h0 : VRep (RSlice RRule) w M a_rules v0p) {r : (List Int)} (h : F.impl_callsIn a_rules = some r) :
  Calls Tryd.prog 120 [v0p].toArray w fun e w' => ∃ v, e = .returned v ∧ VRep (RSlice RInt) w' M r v ∧ BX No w w' := by
 obtain ⟨i3, hi3, hz3, hs3, hy3⟩ := info3
 have hC : Cx No w M w M := Cx.start hO (fun _ e => e.elim)
 clear _hG
 refine walk (N := 34) Tryd.func120 Z Tryd.ntmps120 Z (cw_seq (cw_region (lw_op Z Z Z (ow_assign Z Z (lw_nil (ew_then (cw_seq (cw_region (lw_op Z Z Z (ow_alloc Z (Tryd.zeroValue213 _) hC fun g1 w1 hg1 hg2 ho1 hb1 hl1 hC1 => ?_))))))))))
 have hm1 : (Add g1 M) g1 := .inl Z
 have ho2 : OwnA (RArr 5 RBool) w1 (Add g1 M) g1 213 [false, false, false, false, false] := OwnA.of ho1 ⟨Z, ⟨_, _, Z, (vbool _).cells, _, _, Z, (vbool _).cells, _, _, Z, (vbool _).cells, _, _, Z, (vbool _).cells, _, _, Z, (vbool _).cells, Z⟩⟩
 refine lw_nil (ew_then (cw_seq (cw_seq (cw_region (lw_op Z Z Z (ow_move Z Z (lw_op Z Z Z (ow_len Z Z (VRep.mono hl1 h0) Tryd.underlying39 Z (lw_op Z Z Z (ow_move Z Z (lw_nil (ew_then ?_))))))))))))
 replace h := bind_some h
 obtain ⟨lr1, hlr1, h⟩ := h
 refine cw_for hlr1 (fun s a w' => ∃ (M' : Nat → Prop), Fits 34 [(3, (.pointer (some ⟨g1, 0, none⟩))), (9, v0p), (10, (.int .i64 (a_rules.length : Int))), (11, (.int .i64 s.1))] a ∧ Le w1 (Add g1 M) w' M' ∧ Cx No w M w' M' ∧ OwnA (RArr 5 RBool) w' M' g1 213 s.2 ∧ M' g1) ?_ ?_ ?_
 ·
  intro a ha
  exact ⟨(Add g1 M), ha.sub ⟨Z, Z, Z, Z, trivial⟩, Le.refl _ _, hC1, ho2, hm1⟩
 ·
  rintro ⟨k1, y1⟩ a w2 sr1 ⟨M1, hF1, hl2, hC2, ho3, hm2⟩ hb2 hR1
  refine cw_at (E := [(3, (.pointer (some ⟨g1, 0, none⟩))), (9, v0p), (10, (.int .i64 (a_rules.length : Int))), (11, (.int .i64 k1))]) hF1 (cw_seq (cw_region (lw_op Z Z Z (ow_lss Z Z Z fun bb1 hbb1 => lw_nil (ew_then (cw_seq ?_))))))
  replace hb2 := cond_some hb2
  rcases hb2 with ⟨hc1, hb2⟩ | ⟨hc1, hb2⟩
  ·
   obtain rfl := hbb1.trans hc1
   refine cw_true Z (cw_skip (ew_then (cw_seq (cw_block (cw_seq (cw_region ?_))))))
   replace hb2 := bind_some hb2
   obtain ⟨x1, hx1, hb2⟩ := hb2
   refine lw_op Z Z Z (ow_indexSlice (R := RRule) Z Z Z (VRep.mono (hl1.trans hl2) h0) Tryd.underlying39 (Tryd.sizeOf38 _) hx1 fun p1 hp1 => lw_op Z Z Z (ow_load (R := RRule) Z Z hp1 (Tryd.sizeOf38 _) (Tryd.isAgg38 _) fun v3 hv3 => lw_allocStore (R := RRule) Z Z Z Z Z Z Z Tryd.zeroValue38 Tryd.sizeOf38 Z Z Z (by simp) hv3 hC2 fun p2 w3 hp2 hb3 hl3 hC3 => ?_))
   have ho4 := ho3.no hb3 hl3
   refine lw_nil (ew_then (cw_seq (cw_region (lw_op Z Z Z (ow_fieldAddr Z Z Tryd.underlying38 Z (Tryd.sizeOf3 _) (lw_op Z Z Z (ow_load (R := RInt) Z Z (hp2.fld fld_Rule_Action) (Tryd.sizeOf3 _) (Tryd.isAgg3 _) fun v4 hv4 => ?_)))))))
   obtain rfl := vint_eq hv4
   refine lw_op Z Z Z (ow_eqlI Z Z Z fun bb2 hbb2 => lw_nil (ew_then ?_))
   replace hb2 := cond_some hb2
   rcases hb2 with ⟨hc2, hb2⟩ | ⟨hc2, hb2⟩
   ·
    obtain rfl := hbb2.trans hc2
    refine cw_true Z (cw_region (lw_op Z Z Z (ow_fieldAddr Z Z Tryd.underlying38 Z (Tryd.sizeOf3 _) (lw_op Z Z Z (ow_load (R := RInt) Z Z (hp2.fld fld_Rule_Chain) (Tryd.sizeOf3 _) (Tryd.isAgg3 _) fun v5 hv5 => ?_)))))
    obtain rfl := vint_eq hv5
    replace hb2 := bind_some hb2
    obtain ⟨x2, hx2, hb2⟩ := hb2
    refine lw_op Z Z Z (ow_indexA (R := RBool) Z Z Z Z ho4 Tryd.underlying213 (Tryd.sizeOf4 _) hx2 (lw_op0 Z Z (ow_storeElA (X := No) (R := RBool) Z Z Z Z ho4 hx2 (Tryd.sizeOf4 _) (vbool _) hm2 (.inl hg2) hC3 fun w4 ho5 hb4 hl4 hC4 => lw_nil (ew_blockN (ew_then (cw_region (lw_op Z Z Z (ow_add Z Z Z (lw_op Z Z Z (ow_move Z Z (lw_nil ?_)))))))))))
    have lz1 := ((hl2.trans hl3).trans hl4)
    exact ew_nxt ((W (k1 + 1)), (List.set y1 (x1.Chain : Int).toNat true)) hb2 fun a ha => ⟨M1, (ha.sub ⟨Z, Z, Z, Z, trivial⟩), lz1, hC4, ho5, hm2⟩
   ·
    obtain rfl := hbb2.trans hc2
    exact cw_false Z (cw_skip (ew_blockN (ew_then (cw_region (lw_op Z Z Z (ow_add Z Z Z (lw_op Z Z Z (ow_move Z Z (lw_nil (ew_nxt ((W (k1 + 1)), y1) hb2 fun a ha => ⟨M1, (ha.sub ⟨Z, Z, Z, Z, trivial⟩), (hl2.trans hl3), hC3, ho4, hm2⟩))))))))))
  ·
   obtain rfl := hbb1.trans hc1
   exact cw_false Z (cw_exit (ew_thenX (ew_thenX (ew_blockX (ew_brk (k1, y1) hb2 fun a ha => ⟨M1, (ha.sub ⟨Z, Z, Z, Z, trivial⟩), hl2, hC2, ho3, hm2⟩)))))
 ·
  rintro ⟨k2, y2⟩ a w5 hlr2 ⟨M2, hF2, hl5, hC5, ho6, hm3⟩
  subst hlr2
  refine ew_at (E := [(3, (.pointer (some ⟨g1, 0, none⟩))), (9, v0p), (10, (.int .i64 (a_rules.length : Int))), (11, (.int .i64 k2))]) hF2 (ew_then (cw_seq (cw_region (lw_op Z Z Z (ow_assign Z Z (lw_nil (ew_then (cw_seq (cw_seq (cw_region (lw_op Z Z Z (ow_loadA (R := (RArr 5 RBool)) Z Z Z ho6 (Tryd.sizeOf213 _) (Tryd.isAgg213 _) fun v8 hv8 => lw_op Z Z Z (ow_move Z Z (lw_nil (ew_then ?_)))))))))))))))
  have hr1 : OwnRow RInt w.heap.size 3 w5 M2 ([] : List Int) (.slice none 0 0) := ownrow_nil
  replace h := bind_some h
  obtain ⟨lr2, hlr3, h⟩ := h
  refine cw_for hlr3 (fun s a w' => ∃ (M' : Nat → Prop) (v0c : Value), Fits 34 [(6, v0c), (22, v8), (23, (.int .i64 s.2))] a ∧ Le w5 M2 w' M' ∧ Cx No w M w' M' ∧ OwnRow RInt w.heap.size 3 w' M' s.1 v0c) ?_ ?_ ?_
  ·
   intro a ha
   exact ⟨M2, (.slice none 0 0), ha.sub ⟨Z, Z, Z, trivial⟩, Le.refl _ _, hC5, hr1⟩
  ·
   rintro ⟨y3, k3⟩ a w6 sr2 ⟨M3, v9, hF3, hl6, hC6, hw1⟩ hb5 hR2
   refine cw_at (E := [(6, v9), (22, v8), (23, (.int .i64 k3))]) hF3 (cw_seq (cw_region (lw_op Z Z Z (ow_lss Z Z Z fun bb3 hbb3 => lw_nil (ew_then (cw_seq ?_))))))
   replace hb5 := cond_some hb5
   rcases hb5 with ⟨hc3, hb5⟩ | ⟨hc3, hb5⟩
   ·
    obtain rfl := hbb3.trans hc3
    refine cw_true Z (cw_skip (ew_then (cw_seq (cw_block (cw_seq (cw_region (lw_op Z Z Z (ow_move Z Z ?_))))))))
    replace hb5 := bind_some hb5
    obtain ⟨x3, hx3, hb5⟩ := hb5
    refine lw_op Z Z Z (ow_index (R := RBool) Z Z Z (VRep.mono hl6 hv8) Tryd.underlying213 (Tryd.sizeOf4 _) (Tryd.isAgg4 _) hx3 fun v11 hv11 => ?_)
    obtain rfl := vbool_eq hv11
    refine lw_op Z Z Z (ow_assign Z Z (lw_op Z Z Z (ow_assign Z Z (lw_nil (ew_then (cw_seq (cw_region (lw_op Z Z Z (ow_move Z Z (lw_nil (ew_then ?_)))))))))))
    replace hb5 := cond_some hb5
    rcases hb5 with ⟨hc4, hb5⟩ | ⟨hc4, hb5⟩
    ·
     subst hc4
     refine cw_true Z (cw_region (lw_op Z Z Z (ow_move Z Z (lw_op Z Z Z (ow_move Z Z (lw_op Z Z Z (ow_buildSlice (R := RInt) (xs := [k3]) (cs := #[(.int .i64 k3)]) (e := 3) Z Z (by kernel_rfl) Z Z ⟨_, _, Z, (vint _).cells, Z⟩ hC6 fun p3 w7 hw2 hb6 hl7 hC7 => ?_)))))))
     have hr2 := hw1.no hb6
     replace hb5 := bind_some hb5
     obtain ⟨z1, hz1, hb5⟩ := hb5
     refine lw_op Z Z Z (ow_append (R := RInt) Z Z Z Z Tryd.underlying34 hi3 hz3 hs3 hy3 Z Z Z Z hr2 hw2 hz1 hC7 fun v12 w8 M4 hr3 hb7 hl8 hC8 hM1 hat1 => lw_op Z Z Z (ow_assign Z Z (lw_nil (ew_blockN (ew_then (cw_region (lw_op Z Z Z (ow_add Z Z Z (lw_op Z Z Z (ow_move Z Z (lw_nil ?_)))))))))))
     have lz2 := ((hl6.trans hl7).trans hl8)
     exact ew_nxt (z1, (W (k3 + 1))) hb5 fun a ha => ⟨M4, v12, (ha.sub ⟨Z, Z, Z, trivial⟩), lz2, hC8, hr3⟩
    ·
     subst hc4
     exact cw_false Z (cw_skip (ew_blockN (ew_then (cw_region (lw_op Z Z Z (ow_add Z Z Z (lw_op Z Z Z (ow_move Z Z (lw_nil (ew_nxt (y3, (W (k3 + 1))) hb5 fun a ha => ⟨M3, v9, (ha.sub ⟨Z, Z, Z, trivial⟩), hl6, hC6, hw1⟩))))))))))
   ·
    obtain rfl := hbb3.trans hc3
    exact cw_false Z (cw_exit (ew_thenX (ew_thenX (ew_blockX (ew_brk (y3, k3) hb5 fun a ha => ⟨M3, v9, (ha.sub ⟨Z, Z, Z, trivial⟩), hl6, hC6, hw1⟩)))))
  ·
   rintro ⟨y4, k4⟩ a w9 hlr4 ⟨M5, v13, hF4, hl9, hC9, hw3⟩
   subst hlr4
   refine ew_at (E := [(6, v13), (22, v8), (23, (.int .i64 k4))]) hF4 (ew_then (cw_seq (cw_region (lw_op Z Z Z (ow_move Z Z (lw_op Z Z Z (ow_assign Z Z (lw_nil (ew_then (cw_ret ?_))))))))))
   obtain rfl := Option.some.inj h
   exact ew_ret (res1 Z (.tmp Z)) ⟨_, Z, (hw3.freezeBack hC9 hO), hC9.bx⟩

theorem w_impl_FieldTop {w : World} {M : Nat → Prop} (hG : ARep (RArr 4 RShape) w M shapes ⟨0, 0, none⟩) (hO : ∀ b, M b → b < w.heap.size) {a_n : Int} {r : Int} (h : F.impl_FieldTop a_n = some r) :
  Calls Tryd.prog 142 [(.int .i64 a_n)].toArray w fun e w' => ∃ v, e = .returned v ∧ VRep RInt w' M r v ∧ BX No w w' := by
 have hC : Cx No w M w M := Cx.start hO (fun _ e => e.elim)
 refine walk (N := 13) Tryd.func142 Z Tryd.ntmps142 Z (cw_seq (cw_region (lw_op Z Z Z (ow_assign Z Z (lw_nil (ew_then (cw_seq (cw_seq (cw_region (lw_op Z Z Z (ow_move Z Z (lw_op Z Z Z (ow_lss Z Z Z fun bb1 hbb1 => lw_op Z Z Z (ow_move Z Z ?_))))))))))))))
 replace h := cond_some h
 rcases h with ⟨hc1, h⟩ | ⟨hc1, h⟩
 ·
  obtain rfl := hbb1.trans hc1
  refine lw_off Z Z Z Z Z Z (lw_off Z Z Z Z Z Z (lw_op Z Z Z (ow_pickT Z Z Z (lw_nil (ew_then (cw_true Z (cw_seq (cw_region (lw_op Z Z Z (ow_assign Z Z (lw_nil (ew_then (cw_ret (ew_thenR ?_))))))))))))))
  obtain rfl := Option.some.inj h
  exact ew_ret (res1 Z (.tmp Z)) ⟨_, Z, ((vint _)), hC.bx⟩
 ·
  obtain rfl := hbb1.trans hc1
  refine lw_on Z Z Z Z Z Z (ow_move Z Z (lw_on Z Z Z Z Z Z (ow_geq Z Z Z fun bb2 hbb2 => lw_op Z Z Z (ow_pickF Z Z Z (lw_nil (ew_then ?_))))))
  replace h := cond_some h
  rcases h with ⟨hc2, h⟩ | ⟨hc2, h⟩
  ·
   obtain rfl := hbb2.trans hc2
   refine cw_true Z (cw_seq (cw_region (lw_op Z Z Z (ow_assign Z Z (lw_nil (ew_then (cw_ret (ew_thenR ?_))))))))
   obtain rfl := Option.some.inj h
   exact ew_ret (res1 Z (.tmp Z)) ⟨_, Z, ((vint _)), hC.bx⟩
  ·
   obtain rfl := hbb2.trans hc2
   refine cw_false Z (cw_skip (ew_then (cw_seq (cw_region (lw_op Z Z Z (ow_move Z Z ?_))))))
   replace h := bind_some h
   obtain ⟨x1, hx1, h⟩ := h
   refine lw_op Z Z Z (ow_indexArr (R := RShape) Z Z Z hG Tryd.underlying135 (Tryd.sizeOf134 _) hx1 fun p1 hp1 => lw_op Z Z Z (ow_fieldAddr Z Z Tryd.underlying134 Z (Tryd.sizeOf3 _) (lw_op Z Z Z (ow_load (R := RInt) Z Z (hp1.fld fld_Shape_top) (Tryd.sizeOf3 _) (Tryd.isAgg3 _) fun v1 hv1 => ?_))))
   obtain rfl := vint_eq hv1
   refine lw_op Z Z Z (ow_assign Z Z (lw_nil (ew_then (cw_ret ?_))))
   obtain rfl := Option.some.inj h
   exact ew_ret (res1 Z (.tmp Z)) ⟨_, Z, ((vint _)), hC.bx⟩


end Go.PF
