/- The walks; no condition. -/
import Derived.Test.YtgglogmjjaahhaaDoorProg
import Derived.Test.YtgglogmjjaahhaaDoorWk1
import Derived.Test.YtgglogmjjaahhaaDoorPFDrop
set_option maxRecDepth 100000
set_option maxHeartbeats 4000000
namespace Go.PF
open Go Go.RowKit Go.Proofs

theorem w_spec_l20Test {w : World} {M : Nat → Prop} (hG : ARep (RArr 4 RShape) w M shapes ⟨0, 0, none⟩) (hO : ∀ b, M b → b < w.heap.size) {g : Nat} {Ax : Option Addr} {cx : Nat} {a_xs : List Int} {a_pos : Int} (hxs : VRep (RSlice RU8) w M a_xs (.slice Ax a_xs.length cx)) (hown : Own w g 111 #[.slice Ax a_xs.length cx, .int .i64 a_pos]) (hgM : M g) {a_n : Int} {r : Test × Int} (h : F.spec_l20Test a_xs a_pos a_n = some r) :
  Calls Tryd.prog 102 [(.pointer (some ⟨g, 0, none⟩)), (.int .i64 a_n)].toArray w fun e w' => ∃ v, e = .returned v ∧ (VRep RTest w' M r.1 v ∧ Own w' g 111 #[.slice Ax a_xs.length cx, .int .i64 r.2]) ∧ BX (One g) w w' := by
 have hX : ∀ b, (One g) b → M b := fun b e => e ▸ hgM
 have hC : Cx (One g) w M w M := Cx.start hO hX
 refine walk (N := 83) Tryd.func102 Z Tryd.ntmps102 Z (cw_seq (cw_region (lw_op Z Z Z (ow_alloc Z (Tryd.zeroValue31 _) hC fun g1 w1 hg1 hg2 ho1 hb1 hl1 hC1 => ?_))))
 have hn1 := Nat.ne_of_lt (Nat.lt_of_lt_of_le hown.lt hg1)
 have ho2 := hown.no hb1
 have hm1 : (Add g1 M) g := .inr hgM
 have hm2 : (Add g1 M) g1 := .inl Z
 refine lw_nil (ew_then (cw_seq (cw_region (lw_op Z Z Z (ow_move Z Z ?_)))))
 replace h := bind_some h
 obtain ⟨x1, hx1, h⟩ := h
 refine lw_op Z Z Z (ow_call Z Z Tryd.call60 (w_spec_l20Rd_pick (hG.mono hl1) hC1.old (VRep.mono hl1 hxs) ho2 hm1 hx1) fun v1 w2 hv1 => ?_)
 obtain ⟨⟨hv1, ho3⟩, hb2⟩ := hv1
 have hl2 := Le.of_bx (Add g1 M) hb2 (fun b e => (by rw [show b = g from e]; exact hm1))
 have hC2 := hC1.go hb2 (fun b e => Or.inr e)
 have ho4 := ho1.go hb2 (fun e => hn1 e.symm)
 obtain rfl := vint_eq hv1
 refine lw_op Z Z Z (ow_move Z Z ?_)
 replace h := bind_some h
 obtain ⟨x2, hx2, h⟩ := h
 refine lw_op Z Z Z (ow_call Z Z Tryd.call60 (w_spec_l20Rd_pick (hG.mono (hl1.trans hl2)) hC2.old (VRep.mono (hl1.trans hl2) hxs) ho3 hm1 hx2) fun v2 w3 hv2 => ?_)
 obtain ⟨⟨hv2, ho5⟩, hb3⟩ := hv2
 have hl3 := Le.of_bx (Add g1 M) hb3 (fun b e => (by rw [show b = g from e]; exact hm1))
 have hC3 := hC2.go hb3 (fun b e => Or.inr e)
 have ho6 := ho4.go hb3 (fun e => hn1 e.symm)
 obtain rfl := vint_eq hv2
 refine lw_op Z Z Z (ow_eqlI Z Z Z fun bb1 hbb1 => lw_op Z Z Z (ow_build (v := .agg #[(Zv x1.1), (Zv 0), (Zv 0), (.bool bb1)]) Z Z (by kernel_rfl) (lw_op Z Z Z (ow_alloc Z (Tryd.zeroValue31 _) hC3 fun g2 w4 hg3 hg4 ho7 hb4 hl4 hC4 => ?_))))
 have hn2 := Nat.ne_of_lt (Nat.lt_of_lt_of_le ho5.lt hg3)
 have ho8 := ho5.no hb4
 have hm3 : (Add g2 (Add g1 M)) g := .inr hm1
 have hn3 := Nat.ne_of_lt (Nat.lt_of_lt_of_le ho6.lt hg3)
 have ho9 := ho6.no hb4
 have hm4 : (Add g2 (Add g1 M)) g1 := .inr hm2
 have hm5 : (Add g2 (Add g1 M)) g2 := .inl Z
 refine lw_op0 Z Z (ow_store (X := (One g)) (us := [(Zv x1.1), (Zv 0), (Zv 0), (.bool bb1)]) (cs' := #[(Zv x1.1), (Zv 0), (Zv 0), (.bool bb1)]) Z Z Z Z ho7 (Tryd.sizeOf31 _) Z Z Z Z hm5 (.inl hg4) Z hC4 fun w5 ho10 hb5 hl5 hC5 => ?_)
 have ho11 := ho8.go hb5 (fun e => hn2 e)
 have ho12 := ho9.go hb5 (fun e => hn3 e)
 refine lw_nil (ew_then (cw_seq (cw_region (lw_op Z Z Z (ow_fieldAddr Z Z Tryd.underlying31 Z (Tryd.sizeOf3 _) (lw_op Z Z Z (ow_loadOwn1 Z Z Z ho10 (Tryd.isAgg3 _) Z ?_)))))))
 replace h := bind_some h
 obtain ⟨x3, hx3, h⟩ := h
 have lz1 := ((((hl1.trans hl2).trans hl3).trans hl4).trans hl5)
 refine lw_op Z Z Z (ow_call Z Z Tryd.call53 (w_spec_FieldTop (hG.mono lz1) hC5.old hx3) fun v3 w6 hv3 => ?_)
 obtain ⟨hv3, hb6⟩ := hv3
 have hl6 := Le.no (Add g2 (Add g1 M)) hb6
 have hC6 := hC5.no hb6
 have ho13 := ho11.no hb6
 have ho14 := ho12.no hb6
 have ho15 := ho10.no hb6
 obtain rfl := vint_eq hv3
 refine lw_op Z Z Z (ow_assign Z Z (lw_nil (ew_then (cw_seq (cw_region (lw_op Z Z Z (ow_move Z Z (lw_op Z Z Z (ow_move Z Z ?_)))))))))
 replace h := bind_some h
 obtain ⟨x4, hx4, h⟩ := h
 refine lw_op Z Z Z (ow_call Z Z Tryd.call105 (w_spec_l20Span (hG.mono (lz1.trans hl6)) hC6.old (VRep.mono (lz1.trans hl6) hxs) ho13 hm3 hx4) fun v4 w7 hv4 => ?_)
 obtain ⟨⟨hv4, ho16⟩, hb7⟩ := hv4
 have hl7 := Le.of_bx (Add g2 (Add g1 M)) hb7 (fun b e => (by rw [show b = g from e]; exact hm3))
 have hC7 := hC6.go hb7 (fun b e => Or.inr e)
 have ho17 := ho14.go hb7 (fun e => hn1 e.symm)
 have ho18 := ho15.go hb7 (fun e => hn2 e.symm)
 refine lw_op Z Z Z (ow_alloc Z (Tryd.zeroValue79 _) hC7 fun g3 w8 hg5 hg6 ho19 hb8 hl8 hC8 => ?_)
 have hn4 := Nat.ne_of_lt (Nat.lt_of_lt_of_le ho16.lt hg5)
 have ho20 := ho16.no hb8
 have hm6 : (Add g3 (Add g2 (Add g1 M))) g := .inr hm3
 have hn5 := Nat.ne_of_lt (Nat.lt_of_lt_of_le ho17.lt hg5)
 have ho21 := ho17.no hb8
 have hm7 : (Add g3 (Add g2 (Add g1 M))) g1 := .inr hm4
 have hn6 := Nat.ne_of_lt (Nat.lt_of_lt_of_le ho18.lt hg5)
 have ho22 := ho18.no hb8
 have hm8 : (Add g3 (Add g2 (Add g1 M))) g2 := .inr hm5
 have hm9 : (Add g3 (Add g2 (Add g1 M))) g3 := .inl Z
 obtain rfl := open_Span hv4
 refine lw_op0 Z Z (ow_store (X := (One g)) (us := [(Zv x4.1.Lo), (Zv x4.1.Hi)]) (cs' := #[(Zv x4.1.Lo), (Zv x4.1.Hi)]) Z Z Z Z ho19 (Tryd.sizeOf79 _) Z Z Z Z hm9 (.inl hg6) Z hC8 fun w9 ho23 hb9 hl9 hC9 => ?_)
 have ho24 := ho20.go hb9 (fun e => hn4 e)
 have ho25 := ho21.go hb9 (fun e => hn5 e)
 have ho26 := ho22.go hb9 (fun e => hn6 e)
 refine lw_nil (ew_then (cw_seq (cw_seq (cw_region (lw_op Z Z Z (ow_fieldAddr Z Z Tryd.underlying31 Z (Tryd.sizeOf3 _) (lw_op Z Z Z (ow_loadOwn1 Z Z Z ho26 (Tryd.isAgg3 _) Z (lw_op Z Z Z (ow_lss Z Z Z fun bb2 hbb2 => lw_op Z Z Z (ow_move Z Z ?_)))))))))))
 replace h := cond_some h
 rcases h with ⟨hc1, h⟩ | ⟨hc1, h⟩
 ·
  obtain rfl := hbb2.trans hc1
  refine lw_on Z Z Z Z Z Z (ow_move Z Z ?_)
  have lz2 := ((((lz1.trans hl6).trans hl7).trans hl8).trans hl9)
  replace h := bind_some h
  obtain ⟨x5, hx5, h⟩ := h
  refine lw_on Z Z Z Z Z Z (ow_call Z Z Tryd.call60 (w_spec_l20Rd_pick (hG.mono lz2) hC9.old (VRep.mono lz2 hxs) ho24 hm6 hx5) fun v5 w10 hv5 => ?_)
  obtain ⟨⟨hv5, ho27⟩, hb10⟩ := hv5
  have hl10 := Le.of_bx (Add g3 (Add g2 (Add g1 M))) hb10 (fun b e => (by rw [show b = g from e]; exact hm6))
  have hC10 := hC9.go hb10 (fun b e => Or.inr e)
  have ho28 := ho25.go hb10 (fun e => hn1 e.symm)
  have ho29 := ho26.go hb10 (fun e => hn2 e.symm)
  have ho30 := ho23.go hb10 (fun e => hn4 e.symm)
  obtain rfl := vint_eq hv5
  refine lw_on Z Z Z Z Z Z (ow_eqlI Z Z Z fun bb3 hbb3 => lw_op Z Z Z (ow_pickT Z Z Z (lw_nil (ew_then ?_))))
  replace h := cond_some h
  rcases h with ⟨hc2, h⟩ | ⟨hc2, h⟩
  ·
   obtain rfl := hbb3.trans hc2
   refine cw_true Z (cw_seq (cw_region (lw_op Z Z Z (ow_move Z Z ?_))))
   replace h := bind_some h
   obtain ⟨x6, hx6, h⟩ := h
   refine lw_op Z Z Z (ow_call Z Z Tryd.call60 (w_spec_l20Rd_pick (hG.mono (lz2.trans hl10)) hC10.old (VRep.mono (lz2.trans hl10) hxs) ho27 hm6 hx6) fun v6 w11 hv6 => ?_)
   obtain ⟨⟨hv6, ho31⟩, hb11⟩ := hv6
   have hl11 := Le.of_bx (Add g3 (Add g2 (Add g1 M))) hb11 (fun b e => (by rw [show b = g from e]; exact hm6))
   have hC11 := hC10.go hb11 (fun b e => Or.inr e)
   have ho32 := ho28.go hb11 (fun e => hn1 e.symm)
   have ho33 := ho29.go hb11 (fun e => hn2 e.symm)
   have ho34 := ho30.go hb11 (fun e => hn4 e.symm)
   obtain rfl := vint_eq hv6
   refine lw_op Z Z Z (ow_build (v := .agg #[(Zv x6.1), (Zv 0)]) Z Z (by kernel_rfl) (lw_op0 Z Z (ow_store (X := (One g)) (us := [(Zv x6.1), (Zv 0)]) (cs' := #[(Zv x6.1), (Zv 0)]) Z Z Z Z ho34 (Tryd.sizeOf79 _) Z Z Z Z hm9 (.inl hg6) Z hC11 fun w12 ho35 hb12 hl12 hC12 => ?_)))
   have ho36 := ho31.go hb12 (fun e => hn4 e)
   have ho37 := ho32.go hb12 (fun e => hn5 e)
   have ho38 := ho33.go hb12 (fun e => hn6 e)
   refine lw_nil (ew_then ?_)
   replace h := bind_some h
   obtain ⟨x7, hx7, h⟩ := h
   have lz3 := (((lz2.trans hl10).trans hl11).trans hl12)
   refine cw_sub (E' := [(0, (Zw g 0)), (1, (Zv a_n)), (4, (Zw g1 0)), (5, (Zw g2 0)), (6, (Zv x3)), (7, (Zw g3 0))]) ⟨Z, Z, Z, Z, Z, Z, Zt⟩ (cw_drawC (g := g) (T := 111) 4 1 [none, none, none, some 0] [#[(.slice Ax a_xs.length cx), (Zv x6.2)], #[(.slice Ax a_xs.length cx), (Zv x7.2)]] [PEq (Zw g3 0), PEq (Zv x6.1), PEq (Zw g 0), PEq (Zv x7.1)] (by kernel_rfl) Z (by kernel_rfl) (by kernel_rfl) ho36 ⟨(PEq.monoY hm6 _), (PEq.monoY hm6 _), (PEq.monoY hm6 _), (PEq.monoY hm6 _), Zt⟩ ⟨?_, ?_, ?_, ?_, Zt⟩ ?_)
   · exact fun w14 D hS1 hd1 => dg_sub (E' := [(7, (Zw g3 0))]) ⟨Z, Zt⟩ (dg_plain Z (ow_fieldAddr Z Z Tryd.underlying79 Z (Tryd.sizeOf3 _) Zb))
   ·
    intro w15 D hS2 hd2
    have ho48 := ho35.go hS2 (fun e => hn4 e.symm)
    exact dg_sub (E' := [(31, (Zw g3 0))]) ⟨dpE hd2 0 Z Z, Zt⟩ (dg_plain Z (ow_loadOwn1 Z Z Z ho48 (Tryd.isAgg3 _) Z Zb))
   · exact fun w16 D hS3 hd3 => dg_sub (E' := [(0, (Zw g 0))]) ⟨Z, Zt⟩ (dg_plain Z (ow_move Z Z Zb))
   ·
    intro w17 D hS4 hd4
    obtain ⟨hS4, ho52⟩ := hS4
    have ho52 : Own w17 g 111 #[(.slice Ax a_xs.length cx), (Zv x6.2)] := ho52
    have hl17 := leY hm6 hS4
    have hC17 := hC12.go hS4 (fun b e => Or.inr e)
    refine dg_sub (E' := [(33, (Zw g 0))]) ⟨dpE hd4 2 Z Z, Zt⟩ (dg_plain Z (ow_call Z Z Tryd.call60 (w_spec_l20Rd_pick (hG.mono (lz3.trans hl17)) hC17.old (VRep.mono (lz3.trans hl17) hxs) ho52 hm6 hx7) fun v8 w18 hv8 => ?_))
    obtain ⟨⟨hv8, ho56⟩, hb14⟩ := hv8
    obtain rfl := vint_eq hv8
    exact ⟨⟨⟨hS4.trans hb14, ho56⟩, hb14⟩, Z⟩
   ·
    intro w19 D hS5 hd5
    obtain ⟨hS5, ho60⟩ := hS5
    have ho60 : Own w19 g 111 #[(.slice Ax a_xs.length cx), (Zv x7.2)] := ho60
    have hl19 := leY hm6 hS5
    have hC19 := hC12.go hS5 (fun b e => Or.inr e)
    have ho61 := ho37.go hS5 (fun e => hn1 e.symm)
    have ho62 := ho38.go hS5 (fun e => hn2 e.symm)
    have ho63 := ho35.go hS5 (fun e => hn4 e.symm)
    refine lw_sub (E' := [(32, (Zv x6.1)), (34, (Zv x7.1)), (0, (Zw g 0)), (1, (Zv a_n)), (4, (Zw g1 0)), (5, (Zw g2 0)), (6, (Zv x3)), (7, (Zw g3 0))]) ⟨dpE hd5 1 Z Z, dpE hd5 3 Z Z, Z, Z, Z, Z, Z, Z, Zt⟩ (lw_op Z Z Z (ow_add Z Z Z (lw_op Z Z Z (ow_fieldAddr Z Z Tryd.underlying79 Z (Tryd.sizeOf3 _) (lw_op0 Z Z (ow_store (X := (One g)) (us := [(Zv (W (x6.1 + x7.1)))]) (cs' := #[(Zv x6.1), (Zv (W (x6.1 + x7.1)))]) Z Z Z Z ho63 (Tryd.sizeOf3 _) Z Z Z Z hm9 (.inl hg6) Z hC19 fun w20 ho64 hb15 hl20 hC20 => ?_))))))
    have ho65 := ho60.go hb15 (fun e => hn4 e)
    have ho66 := ho61.go hb15 (fun e => hn5 e)
    have ho67 := ho62.go hb15 (fun e => hn6 e)
    refine lw_nil (ew_then (cw_seq (cw_seq (cw_region (lw_op Z Z Z (ow_move Z Z ?_))))))
    have lz6 := ((lz3.trans hl19).trans hl20)
    replace h := bind_some h
    obtain ⟨x8, hx8, h⟩ := h
    refine lw_op Z Z Z (ow_call Z Z Tryd.call60 (w_spec_l20Rd_pick (hG.mono lz6) hC20.old (VRep.mono lz6 hxs) ho65 hm6 hx8) fun v9 w21 hv9 => ?_)
    obtain ⟨⟨hv9, ho68⟩, hb16⟩ := hv9
    have hl21 := Le.of_bx (Add g3 (Add g2 (Add g1 M))) hb16 (fun b e => (by rw [show b = g from e]; exact hm6))
    have hC21 := hC20.go hb16 (fun b e => Or.inr e)
    have ho69 := ho66.go hb16 (fun e => hn1 e.symm)
    have ho70 := ho67.go hb16 (fun e => hn2 e.symm)
    have ho71 := ho64.go hb16 (fun e => hn4 e.symm)
    obtain rfl := vint_eq hv9
    refine lw_op Z Z Z (ow_eqlI Z Z Z fun bb4 hbb4 => lw_nil (ew_then ?_))
    replace h := cond_some h
    rcases h with ⟨hc3, h⟩ | ⟨hc3, h⟩
    ·
     obtain rfl := hbb4.trans hc3
     refine cw_true Z ?_
     replace h := bind_some h
     obtain ⟨x9, hx9, h⟩ := h
     have lz7 := (lz6.trans hl21)
     refine cw_sub (E' := [(0, (Zw g 0)), (1, (Zv a_n)), (4, (Zw g1 0)), (5, (Zw g2 0)), (6, (Zv x3)), (7, (Zw g3 0))]) ⟨Z, Z, Z, Z, Z, Z, Zt⟩ (cw_drawC (g := g) (T := 111) 12 1 [none, none, none, none, none, none, none, none, none, none, none, some 0] [#[(.slice Ax a_xs.length cx), (Zv x8.2)], #[(.slice Ax a_xs.length cx), (Zv x9.2)]] [PEq (Zv x3), PV RSpan (Add g3 (Add g2 (Add g1 M))) ({ Lo := 0, Hi := x3 } : Span), PEq (Zw g3 1), PEq (Zv (W (x6.1 + x7.1))), PV RSpan (Add g3 (Add g2 (Add g1 M))) ({ Lo := 0, Hi := (W (x6.1 + x7.1)) } : Span), PEq (Zw g3 0), PEq (Zv x6.1), PEq (Zv x3), PV RSpan (Add g3 (Add g2 (Add g1 M))) ({ Lo := x6.1, Hi := x3 } : Span), PV (RSlice RSpan) (Add g3 (Add g2 (Add g1 M))) [({ Lo := 0, Hi := x3 } : Span), ({ Lo := 0, Hi := (W (x6.1 + x7.1)) } : Span), ({ Lo := x6.1, Hi := x3 } : Span)], PEq (Zw g 0), PEq (Zv x9.1)] (by kernel_rfl) Z (by kernel_rfl) (by kernel_rfl) ho68 ⟨(PEq.monoY hm6 _), (PV.monoY hm6 _ _), (PEq.monoY hm6 _), (PEq.monoY hm6 _), (PV.monoY hm6 _ _), (PEq.monoY hm6 _), (PEq.monoY hm6 _), (PEq.monoY hm6 _), (PV.monoY hm6 _ _), (PV.monoY hm6 _ _), (PEq.monoY hm6 _), (PEq.monoY hm6 _), Zt⟩ ⟨?_, ?_, ?_, ?_, ?_, ?_, ?_, ?_, ?_, ?_, ?_, ?_, Zt⟩ ?_)
     · exact fun w24 D hS6 hd6 => dg_sub (E' := [(6, (Zv x3))]) ⟨Z, Zt⟩ (dg_plain Z (ow_move Z Z Zb))
     ·
      intro w25 D hS7 hd7
      refine dg_sub (E' := [(40, (Zv x3))]) ⟨dpE hd7 0 Z Z, Zt⟩ (dg_plain Z (ow_build (v := .agg #[(Zv 0), (Zv x3)]) Z Z (by kernel_rfl) ?_))
      have hw7 : VRep RSpan w25 (Add g3 (Add g2 (Add g1 M))) ({ Lo := 0, Hi := x3 } : Span) (.agg #[(Zv 0), (Zv x3)]) := shut_Span
      exact ⟨BX.refl _ _, hw7⟩
     · exact fun w26 D hS8 hd8 => dg_sub (E' := [(7, (Zw g3 0))]) ⟨Z, Zt⟩ (dg_plain Z (ow_fieldAddr Z Z Tryd.underlying79 Z (Tryd.sizeOf3 _) Zb))
     ·
      intro w27 D hS9 hd9
      have ho91 := ho71.go hS9 (fun e => hn4 e.symm)
      exact dg_sub (E' := [(42, (Zw g3 1))]) ⟨dpE hd9 2 Z Z, Zt⟩ (dg_plain Z (ow_loadOwn1 Z Z Z ho91 (Tryd.isAgg3 _) Z Zb))
     ·
      intro w28 D hS10 hd10
      refine dg_sub (E' := [(43, (Zv (W (x6.1 + x7.1))))]) ⟨dpE hd10 3 Z Z, Zt⟩ (dg_plain Z (ow_build (v := .agg #[(Zv 0), (Zv (W (x6.1 + x7.1)))]) Z Z (by kernel_rfl) ?_))
      have hw8 : VRep RSpan w28 (Add g3 (Add g2 (Add g1 M))) ({ Lo := 0, Hi := (W (x6.1 + x7.1)) } : Span) (.agg #[(Zv 0), (Zv (W (x6.1 + x7.1)))]) := shut_Span
      exact ⟨BX.refl _ _, hw8⟩
     · exact fun w29 D hS11 hd11 => dg_sub (E' := [(7, (Zw g3 0))]) ⟨Z, Zt⟩ (dg_plain Z (ow_fieldAddr Z Z Tryd.underlying79 Z (Tryd.sizeOf3 _) Zb))
     ·
      intro w30 D hS12 hd12
      have ho100 := ho71.go hS12 (fun e => hn4 e.symm)
      exact dg_sub (E' := [(45, (Zw g3 0))]) ⟨dpE hd12 5 Z Z, Zt⟩ (dg_plain Z (ow_loadOwn1 Z Z Z ho100 (Tryd.isAgg3 _) Z Zb))
     · exact fun w31 D hS13 hd13 => dg_sub (E' := [(6, (Zv x3))]) ⟨Z, Zt⟩ (dg_plain Z (ow_move Z Z Zb))
     ·
      intro w32 D hS14 hd14
      refine dg_sub (E' := [(46, (Zv x6.1)), (47, (Zv x3))]) ⟨dpE hd14 6 Z Z, dpE hd14 7 Z Z, Zt⟩ (dg_plain Z (ow_build (v := .agg #[(Zv x6.1), (Zv x3)]) Z Z (by kernel_rfl) ?_))
      have hw9 : VRep RSpan w32 (Add g3 (Add g2 (Add g1 M))) ({ Lo := x6.1, Hi := x3 } : Span) (.agg #[(Zv x6.1), (Zv x3)]) := shut_Span
      exact ⟨BX.refl _ _, hw9⟩
     ·
      intro w33 D hS15 hd15
      have hC33 := hC21.go hS15 (fun b e => Or.inr e)
      have d13 : PV RSpan (Add g3 (Add g2 (Add g1 M))) ({ Lo := 0, Hi := x3 } : Span) (D 1) w33 := dpA hd15 1 Z
      have d14 : PV RSpan (Add g3 (Add g2 (Add g1 M))) ({ Lo := 0, Hi := (W (x6.1 + x7.1)) } : Span) (D 4) w33 := dpA hd15 4 Z
      have d15 : PV RSpan (Add g3 (Add g2 (Add g1 M))) ({ Lo := x6.1, Hi := x3 } : Span) (D 8) w33 := dpA hd15 8 Z
      generalize hq1 : (D 1) = v11 at d13
      generalize hq2 : (D 4) = v12 at d14
      generalize hq3 : (D 8) = v13 at d15
      refine dg_sub (E' := [(41, v11), (44, v12), (48, v13)]) ⟨congrArg some hq1, congrArg some hq2, congrArg some hq3, Zt⟩ ?_
      obtain rfl := open_Span d13
      obtain rfl := open_Span d14
      obtain rfl := open_Span d15
      exact dg_plain Z (ow_buildSlice (R := RSpan) (xs := [({ Lo := 0, Hi := x3 } : Span), ({ Lo := 0, Hi := (W (x6.1 + x7.1)) } : Span), ({ Lo := x6.1, Hi := x3 } : Span)]) (cs := #[(Zv ({ Lo := 0, Hi := x3 } : Span).Lo), (Zv ({ Lo := 0, Hi := x3 } : Span).Hi), (Zv ({ Lo := 0, Hi := (W (x6.1 + x7.1)) } : Span).Lo), (Zv ({ Lo := 0, Hi := (W (x6.1 + x7.1)) } : Span).Hi), (Zv ({ Lo := x6.1, Hi := x3 } : Span).Lo), (Zv ({ Lo := x6.1, Hi := x3 } : Span).Hi)]) (e := 79) Z Z (by kernel_rfl) Z Z ⟨_, _, Z, d13.cells, _, _, Z, d14.cells, _, _, Z, d15.cells, Z⟩ hC33 fun p2 w34 hw10 hb19 hl34 hC34 => ⟨hb19, hw10⟩)
     · exact fun w35 D hS16 hd16 => dg_sub (E' := [(0, (Zw g 0))]) ⟨Z, Zt⟩ (dg_plain Z (ow_move Z Z Zb))
     ·
      intro w36 D hS17 hd17
      obtain ⟨hS17, ho116⟩ := hS17
      have ho116 : Own w36 g 111 #[(.slice Ax a_xs.length cx), (Zv x8.2)] := ho116
      have hl36 := leY hm6 hS17
      have hC36 := hC21.go hS17 (fun b e => Or.inr e)
      refine dg_sub (E' := [(50, (Zw g 0))]) ⟨dpE hd17 10 Z Z, Zt⟩ (dg_plain Z (ow_call Z Z Tryd.call60 (w_spec_l20Rd_pick (hG.mono (lz7.trans hl36)) hC36.old (VRep.mono (lz7.trans hl36) hxs) ho116 hm6 hx9) fun v14 w37 hv14 => ?_))
      obtain ⟨⟨hv14, ho120⟩, hb20⟩ := hv14
      obtain rfl := vint_eq hv14
      exact ⟨⟨⟨hS17.trans hb20, ho120⟩, hb20⟩, Z⟩
     ·
      intro w38 D hS18 hd18
      have d26 : PV (RSlice RSpan) (Add g3 (Add g2 (Add g1 M))) [({ Lo := 0, Hi := x3 } : Span), ({ Lo := 0, Hi := (W (x6.1 + x7.1)) } : Span), ({ Lo := x6.1, Hi := x3 } : Span)] (D 9) w38 := dpA hd18 9 Z
      obtain ⟨hS18, ho124⟩ := hS18
      have ho124 : Own w38 g 111 #[(.slice Ax a_xs.length cx), (Zv x9.2)] := ho124
      have hl38 := leY hm6 hS18
      have hC38 := hC21.go hS18 (fun b e => Or.inr e)
      have ho125 := ho69.go hS18 (fun e => hn1 e.symm)
      have ho126 := ho70.go hS18 (fun e => hn2 e.symm)
      have ho127 := ho71.go hS18 (fun e => hn4 e.symm)
      generalize hq4 : (D 9) = v15 at d26
      refine lw_sub (E' := [(49, v15), (51, (Zv x9.1)), (0, (Zw g 0)), (1, (Zv a_n)), (4, (Zw g1 0)), (5, (Zw g2 0)), (6, (Zv x3)), (7, (Zw g3 0))]) ⟨congrArg some hq4, dpE hd18 11 Z Z, Z, Z, Z, Z, Z, Z, Zt⟩ ?_
      replace h := bind_some h
      obtain ⟨x10, hx10, h⟩ := h
      refine lw_op Z Z Z (ow_indexSlice (R := RSpan) Z Z Z d26 Tryd.underlying71 (Tryd.sizeOf79 _) hx10 fun p3 hp3 => lw_op Z Z Z (ow_load (R := RSpan) Z Z hp3 (Tryd.sizeOf79 _) (Tryd.isAgg79 _) fun v16 hv16 => ?_))
      obtain rfl := open_Span hv16
      refine lw_op0 Z Z (ow_store (X := (One g)) (us := [(Zv x10.Lo), (Zv x10.Hi)]) (cs' := #[(Zv x10.Lo), (Zv x10.Hi)]) Z Z Z Z ho127 (Tryd.sizeOf79 _) Z Z Z Z hm9 (.inl hg6) Z hC38 fun w39 ho128 hb21 hl39 hC39 => ?_)
      have ho129 := ho124.go hb21 (fun e => hn4 e)
      have ho130 := ho125.go hb21 (fun e => hn5 e)
      have ho131 := ho126.go hb21 (fun e => hn6 e)
      refine lw_nil (ew_then (cw_seq (cw_region (lw_op Z Z Z (ow_fieldAddr Z Z Tryd.underlying79 Z (Tryd.sizeOf3 _) (lw_op Z Z Z (ow_loadOwn1 Z Z Z ho128 (Tryd.isAgg3 _) Z (lw_op Z Z Z (ow_fieldAddr Z Z Tryd.underlying31 Z (Tryd.sizeOf3 _) (lw_op0 Z Z (ow_store (X := (One g)) (us := [(Zv x10.Lo)]) (cs' := #[(Zv x1.1), (Zv x10.Lo), (Zv 0), (.bool bb1)]) Z Z Z Z ho131 (Tryd.sizeOf3 _) Z Z Z Z hm8 (.inl hg4) Z hC39 fun w40 ho132 hb22 hl40 hC40 => ?_)))))))))))
      have ho133 := ho129.go hb22 (fun e => hn2 e)
      have ho134 := ho130.go hb22 (fun e => hn3 e)
      have ho135 := ho128.go hb22 (fun e => hn6 e.symm)
      refine lw_nil (ew_then (cw_seq (cw_region (lw_op Z Z Z (ow_fieldAddr Z Z Tryd.underlying79 Z (Tryd.sizeOf3 _) (lw_op Z Z Z (ow_loadOwn1 Z Z Z ho135 (Tryd.isAgg3 _) Z (lw_op Z Z Z (ow_fieldAddr Z Z Tryd.underlying31 Z (Tryd.sizeOf3 _) (lw_op0 Z Z (ow_store (X := (One g)) (us := [(Zv x10.Hi)]) (cs' := #[(Zv x1.1), (Zv x10.Lo), (Zv x10.Hi), (.bool bb1)]) Z Z Z Z ho132 (Tryd.sizeOf3 _) Z Z Z Z hm8 (.inl hg4) Z hC40 fun w41 ho136 hb23 hl41 hC41 => ?_)))))))))))
      have ho137 := ho133.go hb23 (fun e => hn2 e)
      have ho138 := ho134.go hb23 (fun e => hn3 e)
      refine lw_nil (ew_then (cw_seq (cw_seq (cw_region (lw_op Z Z Z (ow_move Z Z (lw_op Z Z Z (ow_move Z Z ?_))))))))
      have lz8 := ((((lz7.trans hl38).trans hl39).trans hl40).trans hl41)
      replace h := bind_some h
      obtain ⟨x11, hx11, h⟩ := h
      refine lw_op Z Z Z (ow_call Z Z Tryd.call81 (w_spec_l20Rd_odd (hG.mono lz8) hC41.old (VRep.mono lz8 hxs) ho137 hm6 hx11) fun v17 w42 hv17 => ?_)
      obtain ⟨⟨hv17, ho140⟩, hb24⟩ := hv17
      have hl42 := Le.of_bx (Add g3 (Add g2 (Add g1 M))) hb24 (fun b e => (by rw [show b = g from e]; exact hm6))
      have hC42 := hC41.go hb24 (fun b e => Or.inr e)
      have ho141 := ho138.go hb24 (fun e => hn1 e.symm)
      have ho142 := ho136.go hb24 (fun e => hn2 e.symm)
      obtain ⟨bb5, hbb5, rfl⟩ := vbool_ex hv17
      refine lw_nil (ew_then ?_)
      replace h := cond_some h
      rcases h with ⟨hc4, h⟩ | ⟨hc4, h⟩
      ·
       obtain rfl := hbb5.trans hc4
       refine cw_true Z (cw_seq (cw_region (lw_op Z Z Z (ow_move Z Z ?_))))
       replace h := bind_some h
       obtain ⟨x12, hx12, h⟩ := h
       refine lw_op Z Z Z (ow_call Z Z Tryd.call60 (w_spec_l20Rd_pick (hG.mono (lz8.trans hl42)) hC42.old (VRep.mono (lz8.trans hl42) hxs) ho140 hm6 hx12) fun v18 w43 hv18 => ?_)
       obtain ⟨⟨hv18, ho144⟩, hb25⟩ := hv18
       have hl43 := Le.of_bx (Add g3 (Add g2 (Add g1 M))) hb25 (fun b e => (by rw [show b = g from e]; exact hm6))
       have hC43 := hC42.go hb25 (fun b e => Or.inr e)
       have ho145 := ho141.go hb25 (fun e => hn1 e.symm)
       have ho146 := ho142.go hb25 (fun e => hn2 e.symm)
       obtain rfl := vint_eq hv18
       refine lw_nil (ew_then (cw_block (cw_seq (cw_region (lw_op Z Z Z (ow_eqlI Z Z Z fun bb6 hbb6 => lw_op Z Z Z (ow_assign Z Z (lw_nil (ew_then ?_)))))))))
       replace h := cond_some h
       rcases h with ⟨hc5, h⟩ | ⟨hc5, h⟩
       ·
        obtain rfl := hbb6.trans hc5
        refine cw_true Z (cw_region (lw_op Z Z Z (ow_buildSlice (R := RInt) (xs := [(-1), 4]) (cs := #[(Zv (-1)), (Zv 4)]) (e := 3) Z Z (by kernel_rfl) Z Z ⟨_, _, Z, (vint _).cells, _, _, Z, (vint _).cells, Z⟩ hC43 fun p4 w44 hw11 hb26 hl44 hC44 => ?_)))
        have ho148 := ho144.no hb26
        have ho149 := ho145.no hb26
        have ho150 := ho146.no hb26
        refine lw_op Z Z Z (ow_move Z Z ?_)
        have lz9 := (((lz8.trans hl42).trans hl43).trans hl44)
        replace h := bind_some h
        obtain ⟨x13, hx13, h⟩ := h
        refine lw_op Z Z Z (ow_call Z Z Tryd.call60 (w_spec_l20Rd_pick (hG.mono lz9) hC44.old (VRep.mono lz9 hxs) ho148 hm6 hx13) fun v19 w45 hv19 => ?_)
        obtain ⟨⟨hv19, ho152⟩, hb27⟩ := hv19
        have hl45 := Le.of_bx (Add g3 (Add g2 (Add g1 M))) hb27 (fun b e => (by rw [show b = g from e]; exact hm6))
        have hC45 := hC44.go hb27 (fun b e => Or.inr e)
        have ho153 := ho149.go hb27 (fun e => hn1 e.symm)
        have ho154 := ho150.go hb27 (fun e => hn2 e.symm)
        obtain rfl := vint_eq hv19
        replace h := bind_some h
        obtain ⟨x14, hx14, h⟩ := h
        refine lw_op Z Z Z (ow_indexSlice (R := RInt) Z Z Z (VRep.mono hl45 hw11) Tryd.underlying52 (Tryd.sizeOf3 _) hx14 fun p5 hp5 => lw_op Z Z Z (ow_load (R := RInt) Z Z hp5 (Tryd.sizeOf3 _) (Tryd.isAgg3 _) fun v20 hv20 => ?_))
        obtain rfl := vint_eq hv20
        refine lw_op Z Z Z (ow_fieldAddr Z Z Tryd.underlying31 Z (Tryd.sizeOf3 _) (lw_op0 Z Z (ow_store (X := (One g)) (us := [(Zv x14)]) (cs' := #[(Zv x14), (Zv x10.Lo), (Zv x10.Hi), (.bool bb1)]) Z Z Z Z ho154 (Tryd.sizeOf3 _) Z Z Z Z hm8 (.inl hg4) Z hC45 fun w46 ho156 hb28 hl46 hC46 => ?_)))
        have ho157 := ho152.go hb28 (fun e => hn2 e)
        have ho158 := ho153.go hb28 (fun e => hn3 e)
        refine lw_nil (ew_blockN (ew_then (cw_seq (cw_region (lw_op Z Z Z (ow_loadOwnA Z Z Z ho156 (Tryd.isAgg31 _) (Tryd.sizeOf31 _) Z (lw_op0 Z Z (ow_store (X := (One g)) (us := [(Zv x14), (Zv x10.Lo), (Zv x10.Hi), (.bool bb1)]) (cs' := #[(Zv x14), (Zv x10.Lo), (Zv x10.Hi), (.bool bb1)]) Z Z Z Z ho158 (Tryd.sizeOf31 _) Z Z Z Z hm7 (.inl hg2) Z hC46 fun w47 ho160 hb29 hl47 hC47 => ?_))))))))
        have ho161 := ho157.go hb29 (fun e => hn1 e)
        refine lw_nil (ew_then (cw_ret ?_))
        have hw13 : VRep RTest w47 (Add g3 (Add g2 (Add g1 M))) ({ Field := x14, Lo := x10.Lo, Hi := x10.Hi, Not := (x2.1 == 0) } : Test) (.agg #[(Zv x14), (Zv x10.Lo), (Zv x10.Hi), (.bool bb1)]) := by subst hbb1; exact shut_Test
        obtain rfl := sj h
        exact ew_ret (res1 Z (.cell Z (own_loadVarA ho160 (Tryd.isAgg31 _) (Tryd.sizeOf31 _) Z))) ⟨_, Z, ⟨(hw13.mono hC47.back), ho161⟩, hC47.bx⟩
       ·
        obtain rfl := hbb6.trans hc5
        refine cw_false Z (cw_seq (cw_region (lw_op Z Z Z (ow_eqlI Z Z Z fun bb7 hbb7 => lw_op Z Z Z (ow_assign Z Z (lw_nil (ew_then ?_)))))))
        replace h := cond_some h
        rcases h with ⟨hc6, h⟩ | ⟨hc6, h⟩
        ·
         obtain rfl := hbb7.trans hc6
         refine cw_true Z (cw_region (lw_op Z Z Z (ow_fieldAddr Z Z Tryd.underlying31 Z (Tryd.sizeOf3 _) (lw_op Z Z Z (ow_loadOwn1 Z Z Z ho146 (Tryd.isAgg3 _) Z (lw_op Z Z Z (ow_add Z Z Z (lw_op Z Z Z (ow_fieldAddr Z Z Tryd.underlying31 Z (Tryd.sizeOf3 _) (lw_op0 Z Z (ow_store (X := (One g)) (us := [(Zv (W (x10.Hi + 1)))]) (cs' := #[(Zv x1.1), (Zv (W (x10.Hi + 1))), (Zv x10.Hi), (.bool bb1)]) Z Z Z Z ho146 (Tryd.sizeOf3 _) Z Z Z Z hm8 (.inl hg4) Z hC43 fun w48 ho164 hb30 hl48 hC48 => ?_)))))))))))
         have ho165 := ho144.go hb30 (fun e => hn2 e)
         have ho166 := ho145.go hb30 (fun e => hn3 e)
         refine lw_nil (ew_blockN (ew_then (cw_seq (cw_region (lw_op Z Z Z (ow_loadOwnA Z Z Z ho164 (Tryd.isAgg31 _) (Tryd.sizeOf31 _) Z (lw_op0 Z Z (ow_store (X := (One g)) (us := [(Zv x1.1), (Zv (W (x10.Hi + 1))), (Zv x10.Hi), (.bool bb1)]) (cs' := #[(Zv x1.1), (Zv (W (x10.Hi + 1))), (Zv x10.Hi), (.bool bb1)]) Z Z Z Z ho166 (Tryd.sizeOf31 _) Z Z Z Z hm7 (.inl hg2) Z hC48 fun w49 ho168 hb31 hl49 hC49 => ?_))))))))
         have ho169 := ho165.go hb31 (fun e => hn1 e)
         refine lw_nil (ew_then (cw_ret ?_))
         have hw15 : VRep RTest w49 (Add g3 (Add g2 (Add g1 M))) ({ Field := x1.1, Lo := (W (x10.Hi + 1)), Hi := x10.Hi, Not := (x2.1 == 0) } : Test) (.agg #[(Zv x1.1), (Zv (W (x10.Hi + 1))), (Zv x10.Hi), (.bool bb1)]) := by subst hbb1; exact shut_Test
         obtain rfl := sj h
         exact ew_ret (res1 Z (.cell Z (own_loadVarA ho168 (Tryd.isAgg31 _) (Tryd.sizeOf31 _) Z))) ⟨_, Z, ⟨(hw15.mono hC49.back), ho169⟩, hC49.bx⟩
        ·
         obtain rfl := hbb7.trans hc6
         refine cw_false Z (cw_region (lw_op Z Z Z (ow_move Z Z (lw_op Z Z Z (ow_add Z Z Z (lw_op Z Z Z (ow_fieldAddr Z Z Tryd.underlying31 Z (Tryd.sizeOf3 _) (lw_op0 Z Z (ow_store (X := (One g)) (us := [(Zv (W (x3 + 1)))]) (cs' := #[(Zv x1.1), (Zv x10.Lo), (Zv (W (x3 + 1))), (.bool bb1)]) Z Z Z Z ho146 (Tryd.sizeOf3 _) Z Z Z Z hm8 (.inl hg4) Z hC43 fun w50 ho172 hb32 hl50 hC50 => ?_)))))))))
         have ho173 := ho144.go hb32 (fun e => hn2 e)
         have ho174 := ho145.go hb32 (fun e => hn3 e)
         refine lw_nil (ew_blockN (ew_then (cw_seq (cw_region (lw_op Z Z Z (ow_loadOwnA Z Z Z ho172 (Tryd.isAgg31 _) (Tryd.sizeOf31 _) Z (lw_op0 Z Z (ow_store (X := (One g)) (us := [(Zv x1.1), (Zv x10.Lo), (Zv (W (x3 + 1))), (.bool bb1)]) (cs' := #[(Zv x1.1), (Zv x10.Lo), (Zv (W (x3 + 1))), (.bool bb1)]) Z Z Z Z ho174 (Tryd.sizeOf31 _) Z Z Z Z hm7 (.inl hg2) Z hC50 fun w51 ho176 hb33 hl51 hC51 => ?_))))))))
         have ho177 := ho173.go hb33 (fun e => hn1 e)
         refine lw_nil (ew_then (cw_ret ?_))
         have hw17 : VRep RTest w51 (Add g3 (Add g2 (Add g1 M))) ({ Field := x1.1, Lo := x10.Lo, Hi := (W (x3 + 1)), Not := (x2.1 == 0) } : Test) (.agg #[(Zv x1.1), (Zv x10.Lo), (Zv (W (x3 + 1))), (.bool bb1)]) := by subst hbb1; exact shut_Test
         obtain rfl := sj h
         exact ew_ret (res1 Z (.cell Z (own_loadVarA ho176 (Tryd.isAgg31 _) (Tryd.sizeOf31 _) Z))) ⟨_, Z, ⟨(hw17.mono hC51.back), ho177⟩, hC51.bx⟩
      ·
       obtain rfl := hbb5.trans hc4
       refine cw_false Z (cw_skip (ew_then (cw_seq (cw_region (lw_op Z Z Z (ow_loadOwnA Z Z Z ho142 (Tryd.isAgg31 _) (Tryd.sizeOf31 _) Z (lw_op0 Z Z (ow_store (X := (One g)) (us := [(Zv x1.1), (Zv x10.Lo), (Zv x10.Hi), (.bool bb1)]) (cs' := #[(Zv x1.1), (Zv x10.Lo), (Zv x10.Hi), (.bool bb1)]) Z Z Z Z ho141 (Tryd.sizeOf31 _) Z Z Z Z hm7 (.inl hg2) Z hC42 fun w52 ho180 hb34 hl52 hC52 => ?_))))))))
       have ho181 := ho140.go hb34 (fun e => hn1 e)
       refine lw_nil (ew_then (cw_ret ?_))
       have hw19 : VRep RTest w52 (Add g3 (Add g2 (Add g1 M))) ({ Field := x1.1, Lo := x10.Lo, Hi := x10.Hi, Not := (x2.1 == 0) } : Test) (.agg #[(Zv x1.1), (Zv x10.Lo), (Zv x10.Hi), (.bool bb1)]) := by subst hbb1; exact shut_Test
       obtain rfl := sj h
       exact ew_ret (res1 Z (.cell Z (own_loadVarA ho180 (Tryd.isAgg31 _) (Tryd.sizeOf31 _) Z))) ⟨_, Z, ⟨(hw19.mono hC52.back), ho181⟩, hC52.bx⟩
    ·
     obtain rfl := hbb4.trans hc3
     refine cw_false Z (cw_skip (ew_then (cw_seq (cw_region (lw_op Z Z Z (ow_fieldAddr Z Z Tryd.underlying79 Z (Tryd.sizeOf3 _) (lw_op Z Z Z (ow_loadOwn1 Z Z Z ho71 (Tryd.isAgg3 _) Z (lw_op Z Z Z (ow_fieldAddr Z Z Tryd.underlying31 Z (Tryd.sizeOf3 _) (lw_op0 Z Z (ow_store (X := (One g)) (us := [(Zv x6.1)]) (cs' := #[(Zv x1.1), (Zv x6.1), (Zv 0), (.bool bb1)]) Z Z Z Z ho70 (Tryd.sizeOf3 _) Z Z Z Z hm8 (.inl hg4) Z hC21 fun w53 ho184 hb35 hl53 hC53 => ?_))))))))))))
     have ho185 := ho68.go hb35 (fun e => hn2 e)
     have ho186 := ho69.go hb35 (fun e => hn3 e)
     have ho187 := ho71.go hb35 (fun e => hn6 e.symm)
     refine lw_nil (ew_then (cw_seq (cw_region (lw_op Z Z Z (ow_fieldAddr Z Z Tryd.underlying79 Z (Tryd.sizeOf3 _) (lw_op Z Z Z (ow_loadOwn1 Z Z Z ho187 (Tryd.isAgg3 _) Z (lw_op Z Z Z (ow_fieldAddr Z Z Tryd.underlying31 Z (Tryd.sizeOf3 _) (lw_op0 Z Z (ow_store (X := (One g)) (us := [(Zv (W (x6.1 + x7.1)))]) (cs' := #[(Zv x1.1), (Zv x6.1), (Zv (W (x6.1 + x7.1))), (.bool bb1)]) Z Z Z Z ho184 (Tryd.sizeOf3 _) Z Z Z Z hm8 (.inl hg4) Z hC53 fun w54 ho188 hb36 hl54 hC54 => ?_)))))))))))
     have ho189 := ho185.go hb36 (fun e => hn2 e)
     have ho190 := ho186.go hb36 (fun e => hn3 e)
     refine lw_nil (ew_then (cw_seq (cw_seq (cw_region (lw_op Z Z Z (ow_move Z Z (lw_op Z Z Z (ow_move Z Z ?_))))))))
     have lz10 := (((lz6.trans hl21).trans hl53).trans hl54)
     replace h := bind_some h
     obtain ⟨x15, hx15, h⟩ := h
     refine lw_op Z Z Z (ow_call Z Z Tryd.call81 (w_spec_l20Rd_odd (hG.mono lz10) hC54.old (VRep.mono lz10 hxs) ho189 hm6 hx15) fun v21 w55 hv21 => ?_)
     obtain ⟨⟨hv21, ho192⟩, hb37⟩ := hv21
     have hl55 := Le.of_bx (Add g3 (Add g2 (Add g1 M))) hb37 (fun b e => (by rw [show b = g from e]; exact hm6))
     have hC55 := hC54.go hb37 (fun b e => Or.inr e)
     have ho193 := ho190.go hb37 (fun e => hn1 e.symm)
     have ho194 := ho188.go hb37 (fun e => hn2 e.symm)
     obtain ⟨bb8, hbb8, rfl⟩ := vbool_ex hv21
     refine lw_nil (ew_then ?_)
     replace h := cond_some h
     rcases h with ⟨hc7, h⟩ | ⟨hc7, h⟩
     ·
      obtain rfl := hbb8.trans hc7
      refine cw_true Z (cw_seq (cw_region (lw_op Z Z Z (ow_move Z Z ?_))))
      replace h := bind_some h
      obtain ⟨x16, hx16, h⟩ := h
      refine lw_op Z Z Z (ow_call Z Z Tryd.call60 (w_spec_l20Rd_pick (hG.mono (lz10.trans hl55)) hC55.old (VRep.mono (lz10.trans hl55) hxs) ho192 hm6 hx16) fun v22 w56 hv22 => ?_)
      obtain ⟨⟨hv22, ho196⟩, hb38⟩ := hv22
      have hl56 := Le.of_bx (Add g3 (Add g2 (Add g1 M))) hb38 (fun b e => (by rw [show b = g from e]; exact hm6))
      have hC56 := hC55.go hb38 (fun b e => Or.inr e)
      have ho197 := ho193.go hb38 (fun e => hn1 e.symm)
      have ho198 := ho194.go hb38 (fun e => hn2 e.symm)
      obtain rfl := vint_eq hv22
      refine lw_nil (ew_then (cw_block (cw_seq (cw_region (lw_op Z Z Z (ow_eqlI Z Z Z fun bb9 hbb9 => lw_op Z Z Z (ow_assign Z Z (lw_nil (ew_then ?_)))))))))
      replace h := cond_some h
      rcases h with ⟨hc8, h⟩ | ⟨hc8, h⟩
      ·
       obtain rfl := hbb9.trans hc8
       refine cw_true Z (cw_region (lw_op Z Z Z (ow_buildSlice (R := RInt) (xs := [(-1), 4]) (cs := #[(Zv (-1)), (Zv 4)]) (e := 3) Z Z (by kernel_rfl) Z Z ⟨_, _, Z, (vint _).cells, _, _, Z, (vint _).cells, Z⟩ hC56 fun p6 w57 hw20 hb39 hl57 hC57 => ?_)))
       have ho200 := ho196.no hb39
       have ho201 := ho197.no hb39
       have ho202 := ho198.no hb39
       refine lw_op Z Z Z (ow_move Z Z ?_)
       have lz11 := (((lz10.trans hl55).trans hl56).trans hl57)
       replace h := bind_some h
       obtain ⟨x17, hx17, h⟩ := h
       refine lw_op Z Z Z (ow_call Z Z Tryd.call60 (w_spec_l20Rd_pick (hG.mono lz11) hC57.old (VRep.mono lz11 hxs) ho200 hm6 hx17) fun v23 w58 hv23 => ?_)
       obtain ⟨⟨hv23, ho204⟩, hb40⟩ := hv23
       have hl58 := Le.of_bx (Add g3 (Add g2 (Add g1 M))) hb40 (fun b e => (by rw [show b = g from e]; exact hm6))
       have hC58 := hC57.go hb40 (fun b e => Or.inr e)
       have ho205 := ho201.go hb40 (fun e => hn1 e.symm)
       have ho206 := ho202.go hb40 (fun e => hn2 e.symm)
       obtain rfl := vint_eq hv23
       replace h := bind_some h
       obtain ⟨x18, hx18, h⟩ := h
       refine lw_op Z Z Z (ow_indexSlice (R := RInt) Z Z Z (VRep.mono hl58 hw20) Tryd.underlying52 (Tryd.sizeOf3 _) hx18 fun p7 hp7 => lw_op Z Z Z (ow_load (R := RInt) Z Z hp7 (Tryd.sizeOf3 _) (Tryd.isAgg3 _) fun v24 hv24 => ?_))
       obtain rfl := vint_eq hv24
       refine lw_op Z Z Z (ow_fieldAddr Z Z Tryd.underlying31 Z (Tryd.sizeOf3 _) (lw_op0 Z Z (ow_store (X := (One g)) (us := [(Zv x18)]) (cs' := #[(Zv x18), (Zv x6.1), (Zv (W (x6.1 + x7.1))), (.bool bb1)]) Z Z Z Z ho206 (Tryd.sizeOf3 _) Z Z Z Z hm8 (.inl hg4) Z hC58 fun w59 ho208 hb41 hl59 hC59 => ?_)))
       have ho209 := ho204.go hb41 (fun e => hn2 e)
       have ho210 := ho205.go hb41 (fun e => hn3 e)
       refine lw_nil (ew_blockN (ew_then (cw_seq (cw_region (lw_op Z Z Z (ow_loadOwnA Z Z Z ho208 (Tryd.isAgg31 _) (Tryd.sizeOf31 _) Z (lw_op0 Z Z (ow_store (X := (One g)) (us := [(Zv x18), (Zv x6.1), (Zv (W (x6.1 + x7.1))), (.bool bb1)]) (cs' := #[(Zv x18), (Zv x6.1), (Zv (W (x6.1 + x7.1))), (.bool bb1)]) Z Z Z Z ho210 (Tryd.sizeOf31 _) Z Z Z Z hm7 (.inl hg2) Z hC59 fun w60 ho212 hb42 hl60 hC60 => ?_))))))))
       have ho213 := ho209.go hb42 (fun e => hn1 e)
       refine lw_nil (ew_then (cw_ret ?_))
       have hw22 : VRep RTest w60 (Add g3 (Add g2 (Add g1 M))) ({ Field := x18, Lo := x6.1, Hi := (W (x6.1 + x7.1)), Not := (x2.1 == 0) } : Test) (.agg #[(Zv x18), (Zv x6.1), (Zv (W (x6.1 + x7.1))), (.bool bb1)]) := by subst hbb1; exact shut_Test
       obtain rfl := sj h
       exact ew_ret (res1 Z (.cell Z (own_loadVarA ho212 (Tryd.isAgg31 _) (Tryd.sizeOf31 _) Z))) ⟨_, Z, ⟨(hw22.mono hC60.back), ho213⟩, hC60.bx⟩
      ·
       obtain rfl := hbb9.trans hc8
       refine cw_false Z (cw_seq (cw_region (lw_op Z Z Z (ow_eqlI Z Z Z fun bb10 hbb10 => lw_op Z Z Z (ow_assign Z Z (lw_nil (ew_then ?_)))))))
       replace h := cond_some h
       rcases h with ⟨hc9, h⟩ | ⟨hc9, h⟩
       ·
        obtain rfl := hbb10.trans hc9
        refine cw_true Z (cw_region (lw_op Z Z Z (ow_fieldAddr Z Z Tryd.underlying31 Z (Tryd.sizeOf3 _) (lw_op Z Z Z (ow_loadOwn1 Z Z Z ho198 (Tryd.isAgg3 _) Z (lw_op Z Z Z (ow_add Z Z Z (lw_op Z Z Z (ow_fieldAddr Z Z Tryd.underlying31 Z (Tryd.sizeOf3 _) (lw_op0 Z Z (ow_store (X := (One g)) (us := [(Zv (W ((W (x6.1 + x7.1)) + 1)))]) (cs' := #[(Zv x1.1), (Zv (W ((W (x6.1 + x7.1)) + 1))), (Zv (W (x6.1 + x7.1))), (.bool bb1)]) Z Z Z Z ho198 (Tryd.sizeOf3 _) Z Z Z Z hm8 (.inl hg4) Z hC56 fun w61 ho216 hb43 hl61 hC61 => ?_)))))))))))
        have ho217 := ho196.go hb43 (fun e => hn2 e)
        have ho218 := ho197.go hb43 (fun e => hn3 e)
        refine lw_nil (ew_blockN (ew_then (cw_seq (cw_region (lw_op Z Z Z (ow_loadOwnA Z Z Z ho216 (Tryd.isAgg31 _) (Tryd.sizeOf31 _) Z (lw_op0 Z Z (ow_store (X := (One g)) (us := [(Zv x1.1), (Zv (W ((W (x6.1 + x7.1)) + 1))), (Zv (W (x6.1 + x7.1))), (.bool bb1)]) (cs' := #[(Zv x1.1), (Zv (W ((W (x6.1 + x7.1)) + 1))), (Zv (W (x6.1 + x7.1))), (.bool bb1)]) Z Z Z Z ho218 (Tryd.sizeOf31 _) Z Z Z Z hm7 (.inl hg2) Z hC61 fun w62 ho220 hb44 hl62 hC62 => ?_))))))))
        have ho221 := ho217.go hb44 (fun e => hn1 e)
        refine lw_nil (ew_then (cw_ret ?_))
        have hw24 : VRep RTest w62 (Add g3 (Add g2 (Add g1 M))) ({ Field := x1.1, Lo := (W ((W (x6.1 + x7.1)) + 1)), Hi := (W (x6.1 + x7.1)), Not := (x2.1 == 0) } : Test) (.agg #[(Zv x1.1), (Zv (W ((W (x6.1 + x7.1)) + 1))), (Zv (W (x6.1 + x7.1))), (.bool bb1)]) := by subst hbb1; exact shut_Test
        obtain rfl := sj h
        exact ew_ret (res1 Z (.cell Z (own_loadVarA ho220 (Tryd.isAgg31 _) (Tryd.sizeOf31 _) Z))) ⟨_, Z, ⟨(hw24.mono hC62.back), ho221⟩, hC62.bx⟩
       ·
        obtain rfl := hbb10.trans hc9
        refine cw_false Z (cw_region (lw_op Z Z Z (ow_move Z Z (lw_op Z Z Z (ow_add Z Z Z (lw_op Z Z Z (ow_fieldAddr Z Z Tryd.underlying31 Z (Tryd.sizeOf3 _) (lw_op0 Z Z (ow_store (X := (One g)) (us := [(Zv (W (x3 + 1)))]) (cs' := #[(Zv x1.1), (Zv x6.1), (Zv (W (x3 + 1))), (.bool bb1)]) Z Z Z Z ho198 (Tryd.sizeOf3 _) Z Z Z Z hm8 (.inl hg4) Z hC56 fun w63 ho224 hb45 hl63 hC63 => ?_)))))))))
        have ho225 := ho196.go hb45 (fun e => hn2 e)
        have ho226 := ho197.go hb45 (fun e => hn3 e)
        refine lw_nil (ew_blockN (ew_then (cw_seq (cw_region (lw_op Z Z Z (ow_loadOwnA Z Z Z ho224 (Tryd.isAgg31 _) (Tryd.sizeOf31 _) Z (lw_op0 Z Z (ow_store (X := (One g)) (us := [(Zv x1.1), (Zv x6.1), (Zv (W (x3 + 1))), (.bool bb1)]) (cs' := #[(Zv x1.1), (Zv x6.1), (Zv (W (x3 + 1))), (.bool bb1)]) Z Z Z Z ho226 (Tryd.sizeOf31 _) Z Z Z Z hm7 (.inl hg2) Z hC63 fun w64 ho228 hb46 hl64 hC64 => ?_))))))))
        have ho229 := ho225.go hb46 (fun e => hn1 e)
        refine lw_nil (ew_then (cw_ret ?_))
        have hw26 : VRep RTest w64 (Add g3 (Add g2 (Add g1 M))) ({ Field := x1.1, Lo := x6.1, Hi := (W (x3 + 1)), Not := (x2.1 == 0) } : Test) (.agg #[(Zv x1.1), (Zv x6.1), (Zv (W (x3 + 1))), (.bool bb1)]) := by subst hbb1; exact shut_Test
        obtain rfl := sj h
        exact ew_ret (res1 Z (.cell Z (own_loadVarA ho228 (Tryd.isAgg31 _) (Tryd.sizeOf31 _) Z))) ⟨_, Z, ⟨(hw26.mono hC64.back), ho229⟩, hC64.bx⟩
     ·
      obtain rfl := hbb8.trans hc7
      refine cw_false Z (cw_skip (ew_then (cw_seq (cw_region (lw_op Z Z Z (ow_loadOwnA Z Z Z ho194 (Tryd.isAgg31 _) (Tryd.sizeOf31 _) Z (lw_op0 Z Z (ow_store (X := (One g)) (us := [(Zv x1.1), (Zv x6.1), (Zv (W (x6.1 + x7.1))), (.bool bb1)]) (cs' := #[(Zv x1.1), (Zv x6.1), (Zv (W (x6.1 + x7.1))), (.bool bb1)]) Z Z Z Z ho193 (Tryd.sizeOf31 _) Z Z Z Z hm7 (.inl hg2) Z hC55 fun w65 ho232 hb47 hl65 hC65 => ?_))))))))
      have ho233 := ho192.go hb47 (fun e => hn1 e)
      refine lw_nil (ew_then (cw_ret ?_))
      have hw28 : VRep RTest w65 (Add g3 (Add g2 (Add g1 M))) ({ Field := x1.1, Lo := x6.1, Hi := (W (x6.1 + x7.1)), Not := (x2.1 == 0) } : Test) (.agg #[(Zv x1.1), (Zv x6.1), (Zv (W (x6.1 + x7.1))), (.bool bb1)]) := by subst hbb1; exact shut_Test
      obtain rfl := sj h
      exact ew_ret (res1 Z (.cell Z (own_loadVarA ho232 (Tryd.isAgg31 _) (Tryd.sizeOf31 _) Z))) ⟨_, Z, ⟨(hw28.mono hC65.back), ho233⟩, hC65.bx⟩
  ·
   obtain rfl := hbb3.trans hc2
   refine cw_false Z (cw_skip (ew_then (cw_seq (cw_seq (cw_region (lw_op Z Z Z (ow_move Z Z ?_)))))))
   replace h := bind_some h
   obtain ⟨x19, hx19, h⟩ := h
   refine lw_op Z Z Z (ow_call Z Z Tryd.call60 (w_spec_l20Rd_pick (hG.mono (lz2.trans hl10)) hC10.old (VRep.mono (lz2.trans hl10) hxs) ho27 hm6 hx19) fun v25 w66 hv25 => ?_)
   obtain ⟨⟨hv25, ho236⟩, hb48⟩ := hv25
   have hl66 := Le.of_bx (Add g3 (Add g2 (Add g1 M))) hb48 (fun b e => (by rw [show b = g from e]; exact hm6))
   have hC66 := hC10.go hb48 (fun b e => Or.inr e)
   have ho237 := ho28.go hb48 (fun e => hn1 e.symm)
   have ho238 := ho29.go hb48 (fun e => hn2 e.symm)
   have ho239 := ho30.go hb48 (fun e => hn4 e.symm)
   obtain rfl := vint_eq hv25
   refine lw_op Z Z Z (ow_eqlI Z Z Z fun bb11 hbb11 => lw_nil (ew_then ?_))
   replace h := cond_some h
   rcases h with ⟨hc10, h⟩ | ⟨hc10, h⟩
   ·
    obtain rfl := hbb11.trans hc10
    refine cw_true Z ?_
    replace h := bind_some h
    obtain ⟨x20, hx20, h⟩ := h
    have lz12 := ((lz2.trans hl10).trans hl66)
    refine cw_sub (E' := [(0, (Zw g 0)), (1, (Zv a_n)), (4, (Zw g1 0)), (5, (Zw g2 0)), (6, (Zv x3)), (7, (Zw g3 0))]) ⟨Z, Z, Z, Z, Z, Z, Zt⟩ (cw_drawC (g := g) (T := 111) 12 1 [none, none, none, none, none, none, none, none, none, none, none, some 0] [#[(.slice Ax a_xs.length cx), (Zv x19.2)], #[(.slice Ax a_xs.length cx), (Zv x20.2)]] [PEq (Zv x3), PV RSpan (Add g3 (Add g2 (Add g1 M))) ({ Lo := 0, Hi := x3 } : Span), PEq (Zw g3 1), PEq (Zv x4.1.Hi), PV RSpan (Add g3 (Add g2 (Add g1 M))) ({ Lo := 0, Hi := x4.1.Hi } : Span), PEq (Zw g3 0), PEq (Zv x4.1.Lo), PEq (Zv x3), PV RSpan (Add g3 (Add g2 (Add g1 M))) ({ Lo := x4.1.Lo, Hi := x3 } : Span), PV (RSlice RSpan) (Add g3 (Add g2 (Add g1 M))) [({ Lo := 0, Hi := x3 } : Span), ({ Lo := 0, Hi := x4.1.Hi } : Span), ({ Lo := x4.1.Lo, Hi := x3 } : Span)], PEq (Zw g 0), PEq (Zv x20.1)] (by kernel_rfl) Z (by kernel_rfl) (by kernel_rfl) ho236 ⟨(PEq.monoY hm6 _), (PV.monoY hm6 _ _), (PEq.monoY hm6 _), (PEq.monoY hm6 _), (PV.monoY hm6 _ _), (PEq.monoY hm6 _), (PEq.monoY hm6 _), (PEq.monoY hm6 _), (PV.monoY hm6 _ _), (PV.monoY hm6 _ _), (PEq.monoY hm6 _), (PEq.monoY hm6 _), Zt⟩ ⟨?_, ?_, ?_, ?_, ?_, ?_, ?_, ?_, ?_, ?_, ?_, ?_, Zt⟩ ?_)
    · exact fun w69 D hS19 hd19 => dg_sub (E' := [(6, (Zv x3))]) ⟨Z, Zt⟩ (dg_plain Z (ow_move Z Z Zb))
    ·
     intro w70 D hS20 hd20
     refine dg_sub (E' := [(40, (Zv x3))]) ⟨dpE hd20 0 Z Z, Zt⟩ (dg_plain Z (ow_build (v := .agg #[(Zv 0), (Zv x3)]) Z Z (by kernel_rfl) ?_))
     have hw33 : VRep RSpan w70 (Add g3 (Add g2 (Add g1 M))) ({ Lo := 0, Hi := x3 } : Span) (.agg #[(Zv 0), (Zv x3)]) := shut_Span
     exact ⟨BX.refl _ _, hw33⟩
    · exact fun w71 D hS21 hd21 => dg_sub (E' := [(7, (Zw g3 0))]) ⟨Z, Zt⟩ (dg_plain Z (ow_fieldAddr Z Z Tryd.underlying79 Z (Tryd.sizeOf3 _) Zb))
    ·
     intro w72 D hS22 hd22
     have ho259 := ho239.go hS22 (fun e => hn4 e.symm)
     exact dg_sub (E' := [(42, (Zw g3 1))]) ⟨dpE hd22 2 Z Z, Zt⟩ (dg_plain Z (ow_loadOwn1 Z Z Z ho259 (Tryd.isAgg3 _) Z Zb))
    ·
     intro w73 D hS23 hd23
     refine dg_sub (E' := [(43, (Zv x4.1.Hi))]) ⟨dpE hd23 3 Z Z, Zt⟩ (dg_plain Z (ow_build (v := .agg #[(Zv 0), (Zv x4.1.Hi)]) Z Z (by kernel_rfl) ?_))
     have hw34 : VRep RSpan w73 (Add g3 (Add g2 (Add g1 M))) ({ Lo := 0, Hi := x4.1.Hi } : Span) (.agg #[(Zv 0), (Zv x4.1.Hi)]) := shut_Span
     exact ⟨BX.refl _ _, hw34⟩
    · exact fun w74 D hS24 hd24 => dg_sub (E' := [(7, (Zw g3 0))]) ⟨Z, Zt⟩ (dg_plain Z (ow_fieldAddr Z Z Tryd.underlying79 Z (Tryd.sizeOf3 _) Zb))
    ·
     intro w75 D hS25 hd25
     have ho268 := ho239.go hS25 (fun e => hn4 e.symm)
     exact dg_sub (E' := [(45, (Zw g3 0))]) ⟨dpE hd25 5 Z Z, Zt⟩ (dg_plain Z (ow_loadOwn1 Z Z Z ho268 (Tryd.isAgg3 _) Z Zb))
    · exact fun w76 D hS26 hd26 => dg_sub (E' := [(6, (Zv x3))]) ⟨Z, Zt⟩ (dg_plain Z (ow_move Z Z Zb))
    ·
     intro w77 D hS27 hd27
     refine dg_sub (E' := [(46, (Zv x4.1.Lo)), (47, (Zv x3))]) ⟨dpE hd27 6 Z Z, dpE hd27 7 Z Z, Zt⟩ (dg_plain Z (ow_build (v := .agg #[(Zv x4.1.Lo), (Zv x3)]) Z Z (by kernel_rfl) ?_))
     have hw35 : VRep RSpan w77 (Add g3 (Add g2 (Add g1 M))) ({ Lo := x4.1.Lo, Hi := x3 } : Span) (.agg #[(Zv x4.1.Lo), (Zv x3)]) := shut_Span
     exact ⟨BX.refl _ _, hw35⟩
    ·
     intro w78 D hS28 hd28
     have hC78 := hC66.go hS28 (fun b e => Or.inr e)
     have d35 : PV RSpan (Add g3 (Add g2 (Add g1 M))) ({ Lo := 0, Hi := x3 } : Span) (D 1) w78 := dpA hd28 1 Z
     have d36 : PV RSpan (Add g3 (Add g2 (Add g1 M))) ({ Lo := 0, Hi := x4.1.Hi } : Span) (D 4) w78 := dpA hd28 4 Z
     have d37 : PV RSpan (Add g3 (Add g2 (Add g1 M))) ({ Lo := x4.1.Lo, Hi := x3 } : Span) (D 8) w78 := dpA hd28 8 Z
     generalize hq5 : (D 1) = v27 at d35
     generalize hq6 : (D 4) = v28 at d36
     generalize hq7 : (D 8) = v29 at d37
     refine dg_sub (E' := [(41, v27), (44, v28), (48, v29)]) ⟨congrArg some hq5, congrArg some hq6, congrArg some hq7, Zt⟩ ?_
     obtain rfl := open_Span d35
     obtain rfl := open_Span d36
     obtain rfl := open_Span d37
     exact dg_plain Z (ow_buildSlice (R := RSpan) (xs := [({ Lo := 0, Hi := x3 } : Span), ({ Lo := 0, Hi := x4.1.Hi } : Span), ({ Lo := x4.1.Lo, Hi := x3 } : Span)]) (cs := #[(Zv ({ Lo := 0, Hi := x3 } : Span).Lo), (Zv ({ Lo := 0, Hi := x3 } : Span).Hi), (Zv ({ Lo := 0, Hi := x4.1.Hi } : Span).Lo), (Zv ({ Lo := 0, Hi := x4.1.Hi } : Span).Hi), (Zv ({ Lo := x4.1.Lo, Hi := x3 } : Span).Lo), (Zv ({ Lo := x4.1.Lo, Hi := x3 } : Span).Hi)]) (e := 79) Z Z (by kernel_rfl) Z Z ⟨_, _, Z, d35.cells, _, _, Z, d36.cells, _, _, Z, d37.cells, Z⟩ hC78 fun p9 w79 hw36 hb51 hl79 hC79 => ⟨hb51, hw36⟩)
    · exact fun w80 D hS29 hd29 => dg_sub (E' := [(0, (Zw g 0))]) ⟨Z, Zt⟩ (dg_plain Z (ow_move Z Z Zb))
    ·
     intro w81 D hS30 hd30
     obtain ⟨hS30, ho284⟩ := hS30
     have ho284 : Own w81 g 111 #[(.slice Ax a_xs.length cx), (Zv x19.2)] := ho284
     have hl81 := leY hm6 hS30
     have hC81 := hC66.go hS30 (fun b e => Or.inr e)
     refine dg_sub (E' := [(50, (Zw g 0))]) ⟨dpE hd30 10 Z Z, Zt⟩ (dg_plain Z (ow_call Z Z Tryd.call60 (w_spec_l20Rd_pick (hG.mono (lz12.trans hl81)) hC81.old (VRep.mono (lz12.trans hl81) hxs) ho284 hm6 hx20) fun v30 w82 hv30 => ?_))
     obtain ⟨⟨hv30, ho288⟩, hb52⟩ := hv30
     obtain rfl := vint_eq hv30
     exact ⟨⟨⟨hS30.trans hb52, ho288⟩, hb52⟩, Z⟩
    ·
     intro w83 D hS31 hd31
     have d48 : PV (RSlice RSpan) (Add g3 (Add g2 (Add g1 M))) [({ Lo := 0, Hi := x3 } : Span), ({ Lo := 0, Hi := x4.1.Hi } : Span), ({ Lo := x4.1.Lo, Hi := x3 } : Span)] (D 9) w83 := dpA hd31 9 Z
     obtain ⟨hS31, ho292⟩ := hS31
     have ho292 : Own w83 g 111 #[(.slice Ax a_xs.length cx), (Zv x20.2)] := ho292
     have hl83 := leY hm6 hS31
     have hC83 := hC66.go hS31 (fun b e => Or.inr e)
     have ho293 := ho237.go hS31 (fun e => hn1 e.symm)
     have ho294 := ho238.go hS31 (fun e => hn2 e.symm)
     have ho295 := ho239.go hS31 (fun e => hn4 e.symm)
     generalize hq8 : (D 9) = v31 at d48
     refine lw_sub (E' := [(49, v31), (51, (Zv x20.1)), (0, (Zw g 0)), (1, (Zv a_n)), (4, (Zw g1 0)), (5, (Zw g2 0)), (6, (Zv x3)), (7, (Zw g3 0))]) ⟨congrArg some hq8, dpE hd31 11 Z Z, Z, Z, Z, Z, Z, Z, Zt⟩ ?_
     replace h := bind_some h
     obtain ⟨x21, hx21, h⟩ := h
     refine lw_op Z Z Z (ow_indexSlice (R := RSpan) Z Z Z d48 Tryd.underlying71 (Tryd.sizeOf79 _) hx21 fun p10 hp10 => lw_op Z Z Z (ow_load (R := RSpan) Z Z hp10 (Tryd.sizeOf79 _) (Tryd.isAgg79 _) fun v32 hv32 => ?_))
     obtain rfl := open_Span hv32
     refine lw_op0 Z Z (ow_store (X := (One g)) (us := [(Zv x21.Lo), (Zv x21.Hi)]) (cs' := #[(Zv x21.Lo), (Zv x21.Hi)]) Z Z Z Z ho295 (Tryd.sizeOf79 _) Z Z Z Z hm9 (.inl hg6) Z hC83 fun w84 ho296 hb53 hl84 hC84 => ?_)
     have ho297 := ho292.go hb53 (fun e => hn4 e)
     have ho298 := ho293.go hb53 (fun e => hn5 e)
     have ho299 := ho294.go hb53 (fun e => hn6 e)
     refine lw_nil (ew_then (cw_seq (cw_region (lw_op Z Z Z (ow_fieldAddr Z Z Tryd.underlying79 Z (Tryd.sizeOf3 _) (lw_op Z Z Z (ow_loadOwn1 Z Z Z ho296 (Tryd.isAgg3 _) Z (lw_op Z Z Z (ow_fieldAddr Z Z Tryd.underlying31 Z (Tryd.sizeOf3 _) (lw_op0 Z Z (ow_store (X := (One g)) (us := [(Zv x21.Lo)]) (cs' := #[(Zv x1.1), (Zv x21.Lo), (Zv 0), (.bool bb1)]) Z Z Z Z ho299 (Tryd.sizeOf3 _) Z Z Z Z hm8 (.inl hg4) Z hC84 fun w85 ho300 hb54 hl85 hC85 => ?_)))))))))))
     have ho301 := ho297.go hb54 (fun e => hn2 e)
     have ho302 := ho298.go hb54 (fun e => hn3 e)
     have ho303 := ho296.go hb54 (fun e => hn6 e.symm)
     refine lw_nil (ew_then (cw_seq (cw_region (lw_op Z Z Z (ow_fieldAddr Z Z Tryd.underlying79 Z (Tryd.sizeOf3 _) (lw_op Z Z Z (ow_loadOwn1 Z Z Z ho303 (Tryd.isAgg3 _) Z (lw_op Z Z Z (ow_fieldAddr Z Z Tryd.underlying31 Z (Tryd.sizeOf3 _) (lw_op0 Z Z (ow_store (X := (One g)) (us := [(Zv x21.Hi)]) (cs' := #[(Zv x1.1), (Zv x21.Lo), (Zv x21.Hi), (.bool bb1)]) Z Z Z Z ho300 (Tryd.sizeOf3 _) Z Z Z Z hm8 (.inl hg4) Z hC85 fun w86 ho304 hb55 hl86 hC86 => ?_)))))))))))
     have ho305 := ho301.go hb55 (fun e => hn2 e)
     have ho306 := ho302.go hb55 (fun e => hn3 e)
     refine lw_nil (ew_then (cw_seq (cw_seq (cw_region (lw_op Z Z Z (ow_move Z Z (lw_op Z Z Z (ow_move Z Z ?_))))))))
     have lz15 := ((((lz12.trans hl83).trans hl84).trans hl85).trans hl86)
     replace h := bind_some h
     obtain ⟨x22, hx22, h⟩ := h
     refine lw_op Z Z Z (ow_call Z Z Tryd.call81 (w_spec_l20Rd_odd (hG.mono lz15) hC86.old (VRep.mono lz15 hxs) ho305 hm6 hx22) fun v33 w87 hv33 => ?_)
     obtain ⟨⟨hv33, ho308⟩, hb56⟩ := hv33
     have hl87 := Le.of_bx (Add g3 (Add g2 (Add g1 M))) hb56 (fun b e => (by rw [show b = g from e]; exact hm6))
     have hC87 := hC86.go hb56 (fun b e => Or.inr e)
     have ho309 := ho306.go hb56 (fun e => hn1 e.symm)
     have ho310 := ho304.go hb56 (fun e => hn2 e.symm)
     obtain ⟨bb12, hbb12, rfl⟩ := vbool_ex hv33
     refine lw_nil (ew_then ?_)
     replace h := cond_some h
     rcases h with ⟨hc11, h⟩ | ⟨hc11, h⟩
     ·
      obtain rfl := hbb12.trans hc11
      refine cw_true Z (cw_seq (cw_region (lw_op Z Z Z (ow_move Z Z ?_))))
      replace h := bind_some h
      obtain ⟨x23, hx23, h⟩ := h
      refine lw_op Z Z Z (ow_call Z Z Tryd.call60 (w_spec_l20Rd_pick (hG.mono (lz15.trans hl87)) hC87.old (VRep.mono (lz15.trans hl87) hxs) ho308 hm6 hx23) fun v34 w88 hv34 => ?_)
      obtain ⟨⟨hv34, ho312⟩, hb57⟩ := hv34
      have hl88 := Le.of_bx (Add g3 (Add g2 (Add g1 M))) hb57 (fun b e => (by rw [show b = g from e]; exact hm6))
      have hC88 := hC87.go hb57 (fun b e => Or.inr e)
      have ho313 := ho309.go hb57 (fun e => hn1 e.symm)
      have ho314 := ho310.go hb57 (fun e => hn2 e.symm)
      obtain rfl := vint_eq hv34
      refine lw_nil (ew_then (cw_block (cw_seq (cw_region (lw_op Z Z Z (ow_eqlI Z Z Z fun bb13 hbb13 => lw_op Z Z Z (ow_assign Z Z (lw_nil (ew_then ?_)))))))))
      replace h := cond_some h
      rcases h with ⟨hc12, h⟩ | ⟨hc12, h⟩
      ·
       obtain rfl := hbb13.trans hc12
       refine cw_true Z (cw_region (lw_op Z Z Z (ow_buildSlice (R := RInt) (xs := [(-1), 4]) (cs := #[(Zv (-1)), (Zv 4)]) (e := 3) Z Z (by kernel_rfl) Z Z ⟨_, _, Z, (vint _).cells, _, _, Z, (vint _).cells, Z⟩ hC88 fun p11 w89 hw37 hb58 hl89 hC89 => ?_)))
       have ho316 := ho312.no hb58
       have ho317 := ho313.no hb58
       have ho318 := ho314.no hb58
       refine lw_op Z Z Z (ow_move Z Z ?_)
       have lz16 := (((lz15.trans hl87).trans hl88).trans hl89)
       replace h := bind_some h
       obtain ⟨x24, hx24, h⟩ := h
       refine lw_op Z Z Z (ow_call Z Z Tryd.call60 (w_spec_l20Rd_pick (hG.mono lz16) hC89.old (VRep.mono lz16 hxs) ho316 hm6 hx24) fun v35 w90 hv35 => ?_)
       obtain ⟨⟨hv35, ho320⟩, hb59⟩ := hv35
       have hl90 := Le.of_bx (Add g3 (Add g2 (Add g1 M))) hb59 (fun b e => (by rw [show b = g from e]; exact hm6))
       have hC90 := hC89.go hb59 (fun b e => Or.inr e)
       have ho321 := ho317.go hb59 (fun e => hn1 e.symm)
       have ho322 := ho318.go hb59 (fun e => hn2 e.symm)
       obtain rfl := vint_eq hv35
       replace h := bind_some h
       obtain ⟨x25, hx25, h⟩ := h
       refine lw_op Z Z Z (ow_indexSlice (R := RInt) Z Z Z (VRep.mono hl90 hw37) Tryd.underlying52 (Tryd.sizeOf3 _) hx25 fun p12 hp12 => lw_op Z Z Z (ow_load (R := RInt) Z Z hp12 (Tryd.sizeOf3 _) (Tryd.isAgg3 _) fun v36 hv36 => ?_))
       obtain rfl := vint_eq hv36
       refine lw_op Z Z Z (ow_fieldAddr Z Z Tryd.underlying31 Z (Tryd.sizeOf3 _) (lw_op0 Z Z (ow_store (X := (One g)) (us := [(Zv x25)]) (cs' := #[(Zv x25), (Zv x21.Lo), (Zv x21.Hi), (.bool bb1)]) Z Z Z Z ho322 (Tryd.sizeOf3 _) Z Z Z Z hm8 (.inl hg4) Z hC90 fun w91 ho324 hb60 hl91 hC91 => ?_)))
       have ho325 := ho320.go hb60 (fun e => hn2 e)
       have ho326 := ho321.go hb60 (fun e => hn3 e)
       refine lw_nil (ew_blockN (ew_then (cw_seq (cw_region (lw_op Z Z Z (ow_loadOwnA Z Z Z ho324 (Tryd.isAgg31 _) (Tryd.sizeOf31 _) Z (lw_op0 Z Z (ow_store (X := (One g)) (us := [(Zv x25), (Zv x21.Lo), (Zv x21.Hi), (.bool bb1)]) (cs' := #[(Zv x25), (Zv x21.Lo), (Zv x21.Hi), (.bool bb1)]) Z Z Z Z ho326 (Tryd.sizeOf31 _) Z Z Z Z hm7 (.inl hg2) Z hC91 fun w92 ho328 hb61 hl92 hC92 => ?_))))))))
       have ho329 := ho325.go hb61 (fun e => hn1 e)
       refine lw_nil (ew_then (cw_ret ?_))
       have hw39 : VRep RTest w92 (Add g3 (Add g2 (Add g1 M))) ({ Field := x25, Lo := x21.Lo, Hi := x21.Hi, Not := (x2.1 == 0) } : Test) (.agg #[(Zv x25), (Zv x21.Lo), (Zv x21.Hi), (.bool bb1)]) := by subst hbb1; exact shut_Test
       obtain rfl := sj h
       exact ew_ret (res1 Z (.cell Z (own_loadVarA ho328 (Tryd.isAgg31 _) (Tryd.sizeOf31 _) Z))) ⟨_, Z, ⟨(hw39.mono hC92.back), ho329⟩, hC92.bx⟩
      ·
       obtain rfl := hbb13.trans hc12
       refine cw_false Z (cw_seq (cw_region (lw_op Z Z Z (ow_eqlI Z Z Z fun bb14 hbb14 => lw_op Z Z Z (ow_assign Z Z (lw_nil (ew_then ?_)))))))
       replace h := cond_some h
       rcases h with ⟨hc13, h⟩ | ⟨hc13, h⟩
       ·
        obtain rfl := hbb14.trans hc13
        refine cw_true Z (cw_region (lw_op Z Z Z (ow_fieldAddr Z Z Tryd.underlying31 Z (Tryd.sizeOf3 _) (lw_op Z Z Z (ow_loadOwn1 Z Z Z ho314 (Tryd.isAgg3 _) Z (lw_op Z Z Z (ow_add Z Z Z (lw_op Z Z Z (ow_fieldAddr Z Z Tryd.underlying31 Z (Tryd.sizeOf3 _) (lw_op0 Z Z (ow_store (X := (One g)) (us := [(Zv (W (x21.Hi + 1)))]) (cs' := #[(Zv x1.1), (Zv (W (x21.Hi + 1))), (Zv x21.Hi), (.bool bb1)]) Z Z Z Z ho314 (Tryd.sizeOf3 _) Z Z Z Z hm8 (.inl hg4) Z hC88 fun w93 ho332 hb62 hl93 hC93 => ?_)))))))))))
        have ho333 := ho312.go hb62 (fun e => hn2 e)
        have ho334 := ho313.go hb62 (fun e => hn3 e)
        refine lw_nil (ew_blockN (ew_then (cw_seq (cw_region (lw_op Z Z Z (ow_loadOwnA Z Z Z ho332 (Tryd.isAgg31 _) (Tryd.sizeOf31 _) Z (lw_op0 Z Z (ow_store (X := (One g)) (us := [(Zv x1.1), (Zv (W (x21.Hi + 1))), (Zv x21.Hi), (.bool bb1)]) (cs' := #[(Zv x1.1), (Zv (W (x21.Hi + 1))), (Zv x21.Hi), (.bool bb1)]) Z Z Z Z ho334 (Tryd.sizeOf31 _) Z Z Z Z hm7 (.inl hg2) Z hC93 fun w94 ho336 hb63 hl94 hC94 => ?_))))))))
        have ho337 := ho333.go hb63 (fun e => hn1 e)
        refine lw_nil (ew_then (cw_ret ?_))
        have hw41 : VRep RTest w94 (Add g3 (Add g2 (Add g1 M))) ({ Field := x1.1, Lo := (W (x21.Hi + 1)), Hi := x21.Hi, Not := (x2.1 == 0) } : Test) (.agg #[(Zv x1.1), (Zv (W (x21.Hi + 1))), (Zv x21.Hi), (.bool bb1)]) := by subst hbb1; exact shut_Test
        obtain rfl := sj h
        exact ew_ret (res1 Z (.cell Z (own_loadVarA ho336 (Tryd.isAgg31 _) (Tryd.sizeOf31 _) Z))) ⟨_, Z, ⟨(hw41.mono hC94.back), ho337⟩, hC94.bx⟩
       ·
        obtain rfl := hbb14.trans hc13
        refine cw_false Z (cw_region (lw_op Z Z Z (ow_move Z Z (lw_op Z Z Z (ow_add Z Z Z (lw_op Z Z Z (ow_fieldAddr Z Z Tryd.underlying31 Z (Tryd.sizeOf3 _) (lw_op0 Z Z (ow_store (X := (One g)) (us := [(Zv (W (x3 + 1)))]) (cs' := #[(Zv x1.1), (Zv x21.Lo), (Zv (W (x3 + 1))), (.bool bb1)]) Z Z Z Z ho314 (Tryd.sizeOf3 _) Z Z Z Z hm8 (.inl hg4) Z hC88 fun w95 ho340 hb64 hl95 hC95 => ?_)))))))))
        have ho341 := ho312.go hb64 (fun e => hn2 e)
        have ho342 := ho313.go hb64 (fun e => hn3 e)
        refine lw_nil (ew_blockN (ew_then (cw_seq (cw_region (lw_op Z Z Z (ow_loadOwnA Z Z Z ho340 (Tryd.isAgg31 _) (Tryd.sizeOf31 _) Z (lw_op0 Z Z (ow_store (X := (One g)) (us := [(Zv x1.1), (Zv x21.Lo), (Zv (W (x3 + 1))), (.bool bb1)]) (cs' := #[(Zv x1.1), (Zv x21.Lo), (Zv (W (x3 + 1))), (.bool bb1)]) Z Z Z Z ho342 (Tryd.sizeOf31 _) Z Z Z Z hm7 (.inl hg2) Z hC95 fun w96 ho344 hb65 hl96 hC96 => ?_))))))))
        have ho345 := ho341.go hb65 (fun e => hn1 e)
        refine lw_nil (ew_then (cw_ret ?_))
        have hw43 : VRep RTest w96 (Add g3 (Add g2 (Add g1 M))) ({ Field := x1.1, Lo := x21.Lo, Hi := (W (x3 + 1)), Not := (x2.1 == 0) } : Test) (.agg #[(Zv x1.1), (Zv x21.Lo), (Zv (W (x3 + 1))), (.bool bb1)]) := by subst hbb1; exact shut_Test
        obtain rfl := sj h
        exact ew_ret (res1 Z (.cell Z (own_loadVarA ho344 (Tryd.isAgg31 _) (Tryd.sizeOf31 _) Z))) ⟨_, Z, ⟨(hw43.mono hC96.back), ho345⟩, hC96.bx⟩
     ·
      obtain rfl := hbb12.trans hc11
      refine cw_false Z (cw_skip (ew_then (cw_seq (cw_region (lw_op Z Z Z (ow_loadOwnA Z Z Z ho310 (Tryd.isAgg31 _) (Tryd.sizeOf31 _) Z (lw_op0 Z Z (ow_store (X := (One g)) (us := [(Zv x1.1), (Zv x21.Lo), (Zv x21.Hi), (.bool bb1)]) (cs' := #[(Zv x1.1), (Zv x21.Lo), (Zv x21.Hi), (.bool bb1)]) Z Z Z Z ho309 (Tryd.sizeOf31 _) Z Z Z Z hm7 (.inl hg2) Z hC87 fun w97 ho348 hb66 hl97 hC97 => ?_))))))))
      have ho349 := ho308.go hb66 (fun e => hn1 e)
      refine lw_nil (ew_then (cw_ret ?_))
      have hw45 : VRep RTest w97 (Add g3 (Add g2 (Add g1 M))) ({ Field := x1.1, Lo := x21.Lo, Hi := x21.Hi, Not := (x2.1 == 0) } : Test) (.agg #[(Zv x1.1), (Zv x21.Lo), (Zv x21.Hi), (.bool bb1)]) := by subst hbb1; exact shut_Test
      obtain rfl := sj h
      exact ew_ret (res1 Z (.cell Z (own_loadVarA ho348 (Tryd.isAgg31 _) (Tryd.sizeOf31 _) Z))) ⟨_, Z, ⟨(hw45.mono hC97.back), ho349⟩, hC97.bx⟩
   ·
    obtain rfl := hbb11.trans hc10
    refine cw_false Z (cw_skip (ew_then (cw_seq (cw_region (lw_op Z Z Z (ow_fieldAddr Z Z Tryd.underlying79 Z (Tryd.sizeOf3 _) (lw_op Z Z Z (ow_loadOwn1 Z Z Z ho239 (Tryd.isAgg3 _) Z (lw_op Z Z Z (ow_fieldAddr Z Z Tryd.underlying31 Z (Tryd.sizeOf3 _) (lw_op0 Z Z (ow_store (X := (One g)) (us := [(Zv x4.1.Lo)]) (cs' := #[(Zv x1.1), (Zv x4.1.Lo), (Zv 0), (.bool bb1)]) Z Z Z Z ho238 (Tryd.sizeOf3 _) Z Z Z Z hm8 (.inl hg4) Z hC66 fun w98 ho352 hb67 hl98 hC98 => ?_))))))))))))
    have ho353 := ho236.go hb67 (fun e => hn2 e)
    have ho354 := ho237.go hb67 (fun e => hn3 e)
    have ho355 := ho239.go hb67 (fun e => hn6 e.symm)
    refine lw_nil (ew_then (cw_seq (cw_region (lw_op Z Z Z (ow_fieldAddr Z Z Tryd.underlying79 Z (Tryd.sizeOf3 _) (lw_op Z Z Z (ow_loadOwn1 Z Z Z ho355 (Tryd.isAgg3 _) Z (lw_op Z Z Z (ow_fieldAddr Z Z Tryd.underlying31 Z (Tryd.sizeOf3 _) (lw_op0 Z Z (ow_store (X := (One g)) (us := [(Zv x4.1.Hi)]) (cs' := #[(Zv x1.1), (Zv x4.1.Lo), (Zv x4.1.Hi), (.bool bb1)]) Z Z Z Z ho352 (Tryd.sizeOf3 _) Z Z Z Z hm8 (.inl hg4) Z hC98 fun w99 ho356 hb68 hl99 hC99 => ?_)))))))))))
    have ho357 := ho353.go hb68 (fun e => hn2 e)
    have ho358 := ho354.go hb68 (fun e => hn3 e)
    refine lw_nil (ew_then (cw_seq (cw_seq (cw_region (lw_op Z Z Z (ow_move Z Z (lw_op Z Z Z (ow_move Z Z ?_))))))))
    have lz17 := ((((lz2.trans hl10).trans hl66).trans hl98).trans hl99)
    replace h := bind_some h
    obtain ⟨x26, hx26, h⟩ := h
    refine lw_op Z Z Z (ow_call Z Z Tryd.call81 (w_spec_l20Rd_odd (hG.mono lz17) hC99.old (VRep.mono lz17 hxs) ho357 hm6 hx26) fun v37 w100 hv37 => ?_)
    obtain ⟨⟨hv37, ho360⟩, hb69⟩ := hv37
    have hl100 := Le.of_bx (Add g3 (Add g2 (Add g1 M))) hb69 (fun b e => (by rw [show b = g from e]; exact hm6))
    have hC100 := hC99.go hb69 (fun b e => Or.inr e)
    have ho361 := ho358.go hb69 (fun e => hn1 e.symm)
    have ho362 := ho356.go hb69 (fun e => hn2 e.symm)
    obtain ⟨bb15, hbb15, rfl⟩ := vbool_ex hv37
    refine lw_nil (ew_then ?_)
    replace h := cond_some h
    rcases h with ⟨hc14, h⟩ | ⟨hc14, h⟩
    ·
     obtain rfl := hbb15.trans hc14
     refine cw_true Z (cw_seq (cw_region (lw_op Z Z Z (ow_move Z Z ?_))))
     replace h := bind_some h
     obtain ⟨x27, hx27, h⟩ := h
     refine lw_op Z Z Z (ow_call Z Z Tryd.call60 (w_spec_l20Rd_pick (hG.mono (lz17.trans hl100)) hC100.old (VRep.mono (lz17.trans hl100) hxs) ho360 hm6 hx27) fun v38 w101 hv38 => ?_)
     obtain ⟨⟨hv38, ho364⟩, hb70⟩ := hv38
     have hl101 := Le.of_bx (Add g3 (Add g2 (Add g1 M))) hb70 (fun b e => (by rw [show b = g from e]; exact hm6))
     have hC101 := hC100.go hb70 (fun b e => Or.inr e)
     have ho365 := ho361.go hb70 (fun e => hn1 e.symm)
     have ho366 := ho362.go hb70 (fun e => hn2 e.symm)
     obtain rfl := vint_eq hv38
     refine lw_nil (ew_then (cw_block (cw_seq (cw_region (lw_op Z Z Z (ow_eqlI Z Z Z fun bb16 hbb16 => lw_op Z Z Z (ow_assign Z Z (lw_nil (ew_then ?_)))))))))
     replace h := cond_some h
     rcases h with ⟨hc15, h⟩ | ⟨hc15, h⟩
     ·
      obtain rfl := hbb16.trans hc15
      refine cw_true Z (cw_region (lw_op Z Z Z (ow_buildSlice (R := RInt) (xs := [(-1), 4]) (cs := #[(Zv (-1)), (Zv 4)]) (e := 3) Z Z (by kernel_rfl) Z Z ⟨_, _, Z, (vint _).cells, _, _, Z, (vint _).cells, Z⟩ hC101 fun p13 w102 hw46 hb71 hl102 hC102 => ?_)))
      have ho368 := ho364.no hb71
      have ho369 := ho365.no hb71
      have ho370 := ho366.no hb71
      refine lw_op Z Z Z (ow_move Z Z ?_)
      have lz18 := (((lz17.trans hl100).trans hl101).trans hl102)
      replace h := bind_some h
      obtain ⟨x28, hx28, h⟩ := h
      refine lw_op Z Z Z (ow_call Z Z Tryd.call60 (w_spec_l20Rd_pick (hG.mono lz18) hC102.old (VRep.mono lz18 hxs) ho368 hm6 hx28) fun v39 w103 hv39 => ?_)
      obtain ⟨⟨hv39, ho372⟩, hb72⟩ := hv39
      have hl103 := Le.of_bx (Add g3 (Add g2 (Add g1 M))) hb72 (fun b e => (by rw [show b = g from e]; exact hm6))
      have hC103 := hC102.go hb72 (fun b e => Or.inr e)
      have ho373 := ho369.go hb72 (fun e => hn1 e.symm)
      have ho374 := ho370.go hb72 (fun e => hn2 e.symm)
      obtain rfl := vint_eq hv39
      replace h := bind_some h
      obtain ⟨x29, hx29, h⟩ := h
      refine lw_op Z Z Z (ow_indexSlice (R := RInt) Z Z Z (VRep.mono hl103 hw46) Tryd.underlying52 (Tryd.sizeOf3 _) hx29 fun p14 hp14 => lw_op Z Z Z (ow_load (R := RInt) Z Z hp14 (Tryd.sizeOf3 _) (Tryd.isAgg3 _) fun v40 hv40 => ?_))
      obtain rfl := vint_eq hv40
      refine lw_op Z Z Z (ow_fieldAddr Z Z Tryd.underlying31 Z (Tryd.sizeOf3 _) (lw_op0 Z Z (ow_store (X := (One g)) (us := [(Zv x29)]) (cs' := #[(Zv x29), (Zv x4.1.Lo), (Zv x4.1.Hi), (.bool bb1)]) Z Z Z Z ho374 (Tryd.sizeOf3 _) Z Z Z Z hm8 (.inl hg4) Z hC103 fun w104 ho376 hb73 hl104 hC104 => ?_)))
      have ho377 := ho372.go hb73 (fun e => hn2 e)
      have ho378 := ho373.go hb73 (fun e => hn3 e)
      refine lw_nil (ew_blockN (ew_then (cw_seq (cw_region (lw_op Z Z Z (ow_loadOwnA Z Z Z ho376 (Tryd.isAgg31 _) (Tryd.sizeOf31 _) Z (lw_op0 Z Z (ow_store (X := (One g)) (us := [(Zv x29), (Zv x4.1.Lo), (Zv x4.1.Hi), (.bool bb1)]) (cs' := #[(Zv x29), (Zv x4.1.Lo), (Zv x4.1.Hi), (.bool bb1)]) Z Z Z Z ho378 (Tryd.sizeOf31 _) Z Z Z Z hm7 (.inl hg2) Z hC104 fun w105 ho380 hb74 hl105 hC105 => ?_))))))))
      have ho381 := ho377.go hb74 (fun e => hn1 e)
      refine lw_nil (ew_then (cw_ret ?_))
      have hw48 : VRep RTest w105 (Add g3 (Add g2 (Add g1 M))) ({ Field := x29, Lo := x4.1.Lo, Hi := x4.1.Hi, Not := (x2.1 == 0) } : Test) (.agg #[(Zv x29), (Zv x4.1.Lo), (Zv x4.1.Hi), (.bool bb1)]) := by subst hbb1; exact shut_Test
      obtain rfl := sj h
      exact ew_ret (res1 Z (.cell Z (own_loadVarA ho380 (Tryd.isAgg31 _) (Tryd.sizeOf31 _) Z))) ⟨_, Z, ⟨(hw48.mono hC105.back), ho381⟩, hC105.bx⟩
     ·
      obtain rfl := hbb16.trans hc15
      refine cw_false Z (cw_seq (cw_region (lw_op Z Z Z (ow_eqlI Z Z Z fun bb17 hbb17 => lw_op Z Z Z (ow_assign Z Z (lw_nil (ew_then ?_)))))))
      replace h := cond_some h
      rcases h with ⟨hc16, h⟩ | ⟨hc16, h⟩
      ·
       obtain rfl := hbb17.trans hc16
       refine cw_true Z (cw_region (lw_op Z Z Z (ow_fieldAddr Z Z Tryd.underlying31 Z (Tryd.sizeOf3 _) (lw_op Z Z Z (ow_loadOwn1 Z Z Z ho366 (Tryd.isAgg3 _) Z (lw_op Z Z Z (ow_add Z Z Z (lw_op Z Z Z (ow_fieldAddr Z Z Tryd.underlying31 Z (Tryd.sizeOf3 _) (lw_op0 Z Z (ow_store (X := (One g)) (us := [(Zv (W (x4.1.Hi + 1)))]) (cs' := #[(Zv x1.1), (Zv (W (x4.1.Hi + 1))), (Zv x4.1.Hi), (.bool bb1)]) Z Z Z Z ho366 (Tryd.sizeOf3 _) Z Z Z Z hm8 (.inl hg4) Z hC101 fun w106 ho384 hb75 hl106 hC106 => ?_)))))))))))
       have ho385 := ho364.go hb75 (fun e => hn2 e)
       have ho386 := ho365.go hb75 (fun e => hn3 e)
       refine lw_nil (ew_blockN (ew_then (cw_seq (cw_region (lw_op Z Z Z (ow_loadOwnA Z Z Z ho384 (Tryd.isAgg31 _) (Tryd.sizeOf31 _) Z (lw_op0 Z Z (ow_store (X := (One g)) (us := [(Zv x1.1), (Zv (W (x4.1.Hi + 1))), (Zv x4.1.Hi), (.bool bb1)]) (cs' := #[(Zv x1.1), (Zv (W (x4.1.Hi + 1))), (Zv x4.1.Hi), (.bool bb1)]) Z Z Z Z ho386 (Tryd.sizeOf31 _) Z Z Z Z hm7 (.inl hg2) Z hC106 fun w107 ho388 hb76 hl107 hC107 => ?_))))))))
       have ho389 := ho385.go hb76 (fun e => hn1 e)
       refine lw_nil (ew_then (cw_ret ?_))
       have hw50 : VRep RTest w107 (Add g3 (Add g2 (Add g1 M))) ({ Field := x1.1, Lo := (W (x4.1.Hi + 1)), Hi := x4.1.Hi, Not := (x2.1 == 0) } : Test) (.agg #[(Zv x1.1), (Zv (W (x4.1.Hi + 1))), (Zv x4.1.Hi), (.bool bb1)]) := by subst hbb1; exact shut_Test
       obtain rfl := sj h
       exact ew_ret (res1 Z (.cell Z (own_loadVarA ho388 (Tryd.isAgg31 _) (Tryd.sizeOf31 _) Z))) ⟨_, Z, ⟨(hw50.mono hC107.back), ho389⟩, hC107.bx⟩
      ·
       obtain rfl := hbb17.trans hc16
       refine cw_false Z (cw_region (lw_op Z Z Z (ow_move Z Z (lw_op Z Z Z (ow_add Z Z Z (lw_op Z Z Z (ow_fieldAddr Z Z Tryd.underlying31 Z (Tryd.sizeOf3 _) (lw_op0 Z Z (ow_store (X := (One g)) (us := [(Zv (W (x3 + 1)))]) (cs' := #[(Zv x1.1), (Zv x4.1.Lo), (Zv (W (x3 + 1))), (.bool bb1)]) Z Z Z Z ho366 (Tryd.sizeOf3 _) Z Z Z Z hm8 (.inl hg4) Z hC101 fun w108 ho392 hb77 hl108 hC108 => ?_)))))))))
       have ho393 := ho364.go hb77 (fun e => hn2 e)
       have ho394 := ho365.go hb77 (fun e => hn3 e)
       refine lw_nil (ew_blockN (ew_then (cw_seq (cw_region (lw_op Z Z Z (ow_loadOwnA Z Z Z ho392 (Tryd.isAgg31 _) (Tryd.sizeOf31 _) Z (lw_op0 Z Z (ow_store (X := (One g)) (us := [(Zv x1.1), (Zv x4.1.Lo), (Zv (W (x3 + 1))), (.bool bb1)]) (cs' := #[(Zv x1.1), (Zv x4.1.Lo), (Zv (W (x3 + 1))), (.bool bb1)]) Z Z Z Z ho394 (Tryd.sizeOf31 _) Z Z Z Z hm7 (.inl hg2) Z hC108 fun w109 ho396 hb78 hl109 hC109 => ?_))))))))
       have ho397 := ho393.go hb78 (fun e => hn1 e)
       refine lw_nil (ew_then (cw_ret ?_))
       have hw52 : VRep RTest w109 (Add g3 (Add g2 (Add g1 M))) ({ Field := x1.1, Lo := x4.1.Lo, Hi := (W (x3 + 1)), Not := (x2.1 == 0) } : Test) (.agg #[(Zv x1.1), (Zv x4.1.Lo), (Zv (W (x3 + 1))), (.bool bb1)]) := by subst hbb1; exact shut_Test
       obtain rfl := sj h
       exact ew_ret (res1 Z (.cell Z (own_loadVarA ho396 (Tryd.isAgg31 _) (Tryd.sizeOf31 _) Z))) ⟨_, Z, ⟨(hw52.mono hC109.back), ho397⟩, hC109.bx⟩
    ·
     obtain rfl := hbb15.trans hc14
     refine cw_false Z (cw_skip (ew_then (cw_seq (cw_region (lw_op Z Z Z (ow_loadOwnA Z Z Z ho362 (Tryd.isAgg31 _) (Tryd.sizeOf31 _) Z (lw_op0 Z Z (ow_store (X := (One g)) (us := [(Zv x1.1), (Zv x4.1.Lo), (Zv x4.1.Hi), (.bool bb1)]) (cs' := #[(Zv x1.1), (Zv x4.1.Lo), (Zv x4.1.Hi), (.bool bb1)]) Z Z Z Z ho361 (Tryd.sizeOf31 _) Z Z Z Z hm7 (.inl hg2) Z hC100 fun w110 ho400 hb79 hl110 hC110 => ?_))))))))
     have ho401 := ho360.go hb79 (fun e => hn1 e)
     refine lw_nil (ew_then (cw_ret ?_))
     have hw54 : VRep RTest w110 (Add g3 (Add g2 (Add g1 M))) ({ Field := x1.1, Lo := x4.1.Lo, Hi := x4.1.Hi, Not := (x2.1 == 0) } : Test) (.agg #[(Zv x1.1), (Zv x4.1.Lo), (Zv x4.1.Hi), (.bool bb1)]) := by subst hbb1; exact shut_Test
     obtain rfl := sj h
     exact ew_ret (res1 Z (.cell Z (own_loadVarA ho400 (Tryd.isAgg31 _) (Tryd.sizeOf31 _) Z))) ⟨_, Z, ⟨(hw54.mono hC110.back), ho401⟩, hC110.bx⟩
 ·
  obtain rfl := hbb2.trans hc1
  refine lw_off Z Z Z Z Z Z (lw_off Z Z Z Z Z Z (lw_off Z Z Z Z Z Z (lw_op Z Z Z (ow_pickF Z Z Z (lw_nil (ew_then (cw_false Z (cw_skip (ew_then (cw_seq (cw_seq (cw_region (lw_op Z Z Z (ow_move Z Z ?_))))))))))))))
  have lz19 := ((((lz1.trans hl6).trans hl7).trans hl8).trans hl9)
  replace h := bind_some h
  obtain ⟨x30, hx30, h⟩ := h
  refine lw_op Z Z Z (ow_call Z Z Tryd.call60 (w_spec_l20Rd_pick (hG.mono lz19) hC9.old (VRep.mono lz19 hxs) ho24 hm6 hx30) fun v41 w111 hv41 => ?_)
  obtain ⟨⟨hv41, ho404⟩, hb80⟩ := hv41
  have hl111 := Le.of_bx (Add g3 (Add g2 (Add g1 M))) hb80 (fun b e => (by rw [show b = g from e]; exact hm6))
  have hC111 := hC9.go hb80 (fun b e => Or.inr e)
  have ho405 := ho25.go hb80 (fun e => hn1 e.symm)
  have ho406 := ho26.go hb80 (fun e => hn2 e.symm)
  have ho407 := ho23.go hb80 (fun e => hn4 e.symm)
  obtain rfl := vint_eq hv41
  refine lw_op Z Z Z (ow_eqlI Z Z Z fun bb18 hbb18 => lw_nil (ew_then ?_))
  replace h := cond_some h
  rcases h with ⟨hc17, h⟩ | ⟨hc17, h⟩
  ·
   obtain rfl := hbb18.trans hc17
   refine cw_true Z ?_
   replace h := bind_some h
   obtain ⟨x31, hx31, h⟩ := h
   have lz20 := (lz19.trans hl111)
   refine cw_sub (E' := [(0, (Zw g 0)), (1, (Zv a_n)), (4, (Zw g1 0)), (5, (Zw g2 0)), (6, (Zv x3)), (7, (Zw g3 0))]) ⟨Z, Z, Z, Z, Z, Z, Zt⟩ (cw_drawC (g := g) (T := 111) 12 1 [none, none, none, none, none, none, none, none, none, none, none, some 0] [#[(.slice Ax a_xs.length cx), (Zv x30.2)], #[(.slice Ax a_xs.length cx), (Zv x31.2)]] [PEq (Zv x3), PV RSpan (Add g3 (Add g2 (Add g1 M))) ({ Lo := 0, Hi := x3 } : Span), PEq (Zw g3 1), PEq (Zv x4.1.Hi), PV RSpan (Add g3 (Add g2 (Add g1 M))) ({ Lo := 0, Hi := x4.1.Hi } : Span), PEq (Zw g3 0), PEq (Zv x4.1.Lo), PEq (Zv x3), PV RSpan (Add g3 (Add g2 (Add g1 M))) ({ Lo := x4.1.Lo, Hi := x3 } : Span), PV (RSlice RSpan) (Add g3 (Add g2 (Add g1 M))) [({ Lo := 0, Hi := x3 } : Span), ({ Lo := 0, Hi := x4.1.Hi } : Span), ({ Lo := x4.1.Lo, Hi := x3 } : Span)], PEq (Zw g 0), PEq (Zv x31.1)] (by kernel_rfl) Z (by kernel_rfl) (by kernel_rfl) ho404 ⟨(PEq.monoY hm6 _), (PV.monoY hm6 _ _), (PEq.monoY hm6 _), (PEq.monoY hm6 _), (PV.monoY hm6 _ _), (PEq.monoY hm6 _), (PEq.monoY hm6 _), (PEq.monoY hm6 _), (PV.monoY hm6 _ _), (PV.monoY hm6 _ _), (PEq.monoY hm6 _), (PEq.monoY hm6 _), Zt⟩ ⟨?_, ?_, ?_, ?_, ?_, ?_, ?_, ?_, ?_, ?_, ?_, ?_, Zt⟩ ?_)
   · exact fun w114 D hS32 hd32 => dg_sub (E' := [(6, (Zv x3))]) ⟨Z, Zt⟩ (dg_plain Z (ow_move Z Z Zb))
   ·
    intro w115 D hS33 hd33
    refine dg_sub (E' := [(40, (Zv x3))]) ⟨dpE hd33 0 Z Z, Zt⟩ (dg_plain Z (ow_build (v := .agg #[(Zv 0), (Zv x3)]) Z Z (by kernel_rfl) ?_))
    have hw59 : VRep RSpan w115 (Add g3 (Add g2 (Add g1 M))) ({ Lo := 0, Hi := x3 } : Span) (.agg #[(Zv 0), (Zv x3)]) := shut_Span
    exact ⟨BX.refl _ _, hw59⟩
   · exact fun w116 D hS34 hd34 => dg_sub (E' := [(7, (Zw g3 0))]) ⟨Z, Zt⟩ (dg_plain Z (ow_fieldAddr Z Z Tryd.underlying79 Z (Tryd.sizeOf3 _) Zb))
   ·
    intro w117 D hS35 hd35
    have ho427 := ho407.go hS35 (fun e => hn4 e.symm)
    exact dg_sub (E' := [(42, (Zw g3 1))]) ⟨dpE hd35 2 Z Z, Zt⟩ (dg_plain Z (ow_loadOwn1 Z Z Z ho427 (Tryd.isAgg3 _) Z Zb))
   ·
    intro w118 D hS36 hd36
    refine dg_sub (E' := [(43, (Zv x4.1.Hi))]) ⟨dpE hd36 3 Z Z, Zt⟩ (dg_plain Z (ow_build (v := .agg #[(Zv 0), (Zv x4.1.Hi)]) Z Z (by kernel_rfl) ?_))
    have hw60 : VRep RSpan w118 (Add g3 (Add g2 (Add g1 M))) ({ Lo := 0, Hi := x4.1.Hi } : Span) (.agg #[(Zv 0), (Zv x4.1.Hi)]) := shut_Span
    exact ⟨BX.refl _ _, hw60⟩
   · exact fun w119 D hS37 hd37 => dg_sub (E' := [(7, (Zw g3 0))]) ⟨Z, Zt⟩ (dg_plain Z (ow_fieldAddr Z Z Tryd.underlying79 Z (Tryd.sizeOf3 _) Zb))
   ·
    intro w120 D hS38 hd38
    have ho436 := ho407.go hS38 (fun e => hn4 e.symm)
    exact dg_sub (E' := [(45, (Zw g3 0))]) ⟨dpE hd38 5 Z Z, Zt⟩ (dg_plain Z (ow_loadOwn1 Z Z Z ho436 (Tryd.isAgg3 _) Z Zb))
   · exact fun w121 D hS39 hd39 => dg_sub (E' := [(6, (Zv x3))]) ⟨Z, Zt⟩ (dg_plain Z (ow_move Z Z Zb))
   ·
    intro w122 D hS40 hd40
    refine dg_sub (E' := [(46, (Zv x4.1.Lo)), (47, (Zv x3))]) ⟨dpE hd40 6 Z Z, dpE hd40 7 Z Z, Zt⟩ (dg_plain Z (ow_build (v := .agg #[(Zv x4.1.Lo), (Zv x3)]) Z Z (by kernel_rfl) ?_))
    have hw61 : VRep RSpan w122 (Add g3 (Add g2 (Add g1 M))) ({ Lo := x4.1.Lo, Hi := x3 } : Span) (.agg #[(Zv x4.1.Lo), (Zv x3)]) := shut_Span
    exact ⟨BX.refl _ _, hw61⟩
   ·
    intro w123 D hS41 hd41
    have hC123 := hC111.go hS41 (fun b e => Or.inr e)
    have d57 : PV RSpan (Add g3 (Add g2 (Add g1 M))) ({ Lo := 0, Hi := x3 } : Span) (D 1) w123 := dpA hd41 1 Z
    have d58 : PV RSpan (Add g3 (Add g2 (Add g1 M))) ({ Lo := 0, Hi := x4.1.Hi } : Span) (D 4) w123 := dpA hd41 4 Z
    have d59 : PV RSpan (Add g3 (Add g2 (Add g1 M))) ({ Lo := x4.1.Lo, Hi := x3 } : Span) (D 8) w123 := dpA hd41 8 Z
    generalize hq9 : (D 1) = v43 at d57
    generalize hq10 : (D 4) = v44 at d58
    generalize hq11 : (D 8) = v45 at d59
    refine dg_sub (E' := [(41, v43), (44, v44), (48, v45)]) ⟨congrArg some hq9, congrArg some hq10, congrArg some hq11, Zt⟩ ?_
    obtain rfl := open_Span d57
    obtain rfl := open_Span d58
    obtain rfl := open_Span d59
    exact dg_plain Z (ow_buildSlice (R := RSpan) (xs := [({ Lo := 0, Hi := x3 } : Span), ({ Lo := 0, Hi := x4.1.Hi } : Span), ({ Lo := x4.1.Lo, Hi := x3 } : Span)]) (cs := #[(Zv ({ Lo := 0, Hi := x3 } : Span).Lo), (Zv ({ Lo := 0, Hi := x3 } : Span).Hi), (Zv ({ Lo := 0, Hi := x4.1.Hi } : Span).Lo), (Zv ({ Lo := 0, Hi := x4.1.Hi } : Span).Hi), (Zv ({ Lo := x4.1.Lo, Hi := x3 } : Span).Lo), (Zv ({ Lo := x4.1.Lo, Hi := x3 } : Span).Hi)]) (e := 79) Z Z (by kernel_rfl) Z Z ⟨_, _, Z, d57.cells, _, _, Z, d58.cells, _, _, Z, d59.cells, Z⟩ hC123 fun p16 w124 hw62 hb83 hl124 hC124 => ⟨hb83, hw62⟩)
   · exact fun w125 D hS42 hd42 => dg_sub (E' := [(0, (Zw g 0))]) ⟨Z, Zt⟩ (dg_plain Z (ow_move Z Z Zb))
   ·
    intro w126 D hS43 hd43
    obtain ⟨hS43, ho452⟩ := hS43
    have ho452 : Own w126 g 111 #[(.slice Ax a_xs.length cx), (Zv x30.2)] := ho452
    have hl126 := leY hm6 hS43
    have hC126 := hC111.go hS43 (fun b e => Or.inr e)
    refine dg_sub (E' := [(50, (Zw g 0))]) ⟨dpE hd43 10 Z Z, Zt⟩ (dg_plain Z (ow_call Z Z Tryd.call60 (w_spec_l20Rd_pick (hG.mono (lz20.trans hl126)) hC126.old (VRep.mono (lz20.trans hl126) hxs) ho452 hm6 hx31) fun v46 w127 hv46 => ?_))
    obtain ⟨⟨hv46, ho456⟩, hb84⟩ := hv46
    obtain rfl := vint_eq hv46
    exact ⟨⟨⟨hS43.trans hb84, ho456⟩, hb84⟩, Z⟩
   ·
    intro w128 D hS44 hd44
    have d70 : PV (RSlice RSpan) (Add g3 (Add g2 (Add g1 M))) [({ Lo := 0, Hi := x3 } : Span), ({ Lo := 0, Hi := x4.1.Hi } : Span), ({ Lo := x4.1.Lo, Hi := x3 } : Span)] (D 9) w128 := dpA hd44 9 Z
    obtain ⟨hS44, ho460⟩ := hS44
    have ho460 : Own w128 g 111 #[(.slice Ax a_xs.length cx), (Zv x31.2)] := ho460
    have hl128 := leY hm6 hS44
    have hC128 := hC111.go hS44 (fun b e => Or.inr e)
    have ho461 := ho405.go hS44 (fun e => hn1 e.symm)
    have ho462 := ho406.go hS44 (fun e => hn2 e.symm)
    have ho463 := ho407.go hS44 (fun e => hn4 e.symm)
    generalize hq12 : (D 9) = v47 at d70
    refine lw_sub (E' := [(49, v47), (51, (Zv x31.1)), (0, (Zw g 0)), (1, (Zv a_n)), (4, (Zw g1 0)), (5, (Zw g2 0)), (6, (Zv x3)), (7, (Zw g3 0))]) ⟨congrArg some hq12, dpE hd44 11 Z Z, Z, Z, Z, Z, Z, Z, Zt⟩ ?_
    replace h := bind_some h
    obtain ⟨x32, hx32, h⟩ := h
    refine lw_op Z Z Z (ow_indexSlice (R := RSpan) Z Z Z d70 Tryd.underlying71 (Tryd.sizeOf79 _) hx32 fun p17 hp17 => lw_op Z Z Z (ow_load (R := RSpan) Z Z hp17 (Tryd.sizeOf79 _) (Tryd.isAgg79 _) fun v48 hv48 => ?_))
    obtain rfl := open_Span hv48
    refine lw_op0 Z Z (ow_store (X := (One g)) (us := [(Zv x32.Lo), (Zv x32.Hi)]) (cs' := #[(Zv x32.Lo), (Zv x32.Hi)]) Z Z Z Z ho463 (Tryd.sizeOf79 _) Z Z Z Z hm9 (.inl hg6) Z hC128 fun w129 ho464 hb85 hl129 hC129 => ?_)
    have ho465 := ho460.go hb85 (fun e => hn4 e)
    have ho466 := ho461.go hb85 (fun e => hn5 e)
    have ho467 := ho462.go hb85 (fun e => hn6 e)
    refine lw_nil (ew_then (cw_seq (cw_region (lw_op Z Z Z (ow_fieldAddr Z Z Tryd.underlying79 Z (Tryd.sizeOf3 _) (lw_op Z Z Z (ow_loadOwn1 Z Z Z ho464 (Tryd.isAgg3 _) Z (lw_op Z Z Z (ow_fieldAddr Z Z Tryd.underlying31 Z (Tryd.sizeOf3 _) (lw_op0 Z Z (ow_store (X := (One g)) (us := [(Zv x32.Lo)]) (cs' := #[(Zv x1.1), (Zv x32.Lo), (Zv 0), (.bool bb1)]) Z Z Z Z ho467 (Tryd.sizeOf3 _) Z Z Z Z hm8 (.inl hg4) Z hC129 fun w130 ho468 hb86 hl130 hC130 => ?_)))))))))))
    have ho469 := ho465.go hb86 (fun e => hn2 e)
    have ho470 := ho466.go hb86 (fun e => hn3 e)
    have ho471 := ho464.go hb86 (fun e => hn6 e.symm)
    refine lw_nil (ew_then (cw_seq (cw_region (lw_op Z Z Z (ow_fieldAddr Z Z Tryd.underlying79 Z (Tryd.sizeOf3 _) (lw_op Z Z Z (ow_loadOwn1 Z Z Z ho471 (Tryd.isAgg3 _) Z (lw_op Z Z Z (ow_fieldAddr Z Z Tryd.underlying31 Z (Tryd.sizeOf3 _) (lw_op0 Z Z (ow_store (X := (One g)) (us := [(Zv x32.Hi)]) (cs' := #[(Zv x1.1), (Zv x32.Lo), (Zv x32.Hi), (.bool bb1)]) Z Z Z Z ho468 (Tryd.sizeOf3 _) Z Z Z Z hm8 (.inl hg4) Z hC130 fun w131 ho472 hb87 hl131 hC131 => ?_)))))))))))
    have ho473 := ho469.go hb87 (fun e => hn2 e)
    have ho474 := ho470.go hb87 (fun e => hn3 e)
    refine lw_nil (ew_then (cw_seq (cw_seq (cw_region (lw_op Z Z Z (ow_move Z Z (lw_op Z Z Z (ow_move Z Z ?_))))))))
    have lz23 := ((((lz20.trans hl128).trans hl129).trans hl130).trans hl131)
    replace h := bind_some h
    obtain ⟨x33, hx33, h⟩ := h
    refine lw_op Z Z Z (ow_call Z Z Tryd.call81 (w_spec_l20Rd_odd (hG.mono lz23) hC131.old (VRep.mono lz23 hxs) ho473 hm6 hx33) fun v49 w132 hv49 => ?_)
    obtain ⟨⟨hv49, ho476⟩, hb88⟩ := hv49
    have hl132 := Le.of_bx (Add g3 (Add g2 (Add g1 M))) hb88 (fun b e => (by rw [show b = g from e]; exact hm6))
    have hC132 := hC131.go hb88 (fun b e => Or.inr e)
    have ho477 := ho474.go hb88 (fun e => hn1 e.symm)
    have ho478 := ho472.go hb88 (fun e => hn2 e.symm)
    obtain ⟨bb19, hbb19, rfl⟩ := vbool_ex hv49
    refine lw_nil (ew_then ?_)
    replace h := cond_some h
    rcases h with ⟨hc18, h⟩ | ⟨hc18, h⟩
    ·
     obtain rfl := hbb19.trans hc18
     refine cw_true Z (cw_seq (cw_region (lw_op Z Z Z (ow_move Z Z ?_))))
     replace h := bind_some h
     obtain ⟨x34, hx34, h⟩ := h
     refine lw_op Z Z Z (ow_call Z Z Tryd.call60 (w_spec_l20Rd_pick (hG.mono (lz23.trans hl132)) hC132.old (VRep.mono (lz23.trans hl132) hxs) ho476 hm6 hx34) fun v50 w133 hv50 => ?_)
     obtain ⟨⟨hv50, ho480⟩, hb89⟩ := hv50
     have hl133 := Le.of_bx (Add g3 (Add g2 (Add g1 M))) hb89 (fun b e => (by rw [show b = g from e]; exact hm6))
     have hC133 := hC132.go hb89 (fun b e => Or.inr e)
     have ho481 := ho477.go hb89 (fun e => hn1 e.symm)
     have ho482 := ho478.go hb89 (fun e => hn2 e.symm)
     obtain rfl := vint_eq hv50
     refine lw_nil (ew_then (cw_block (cw_seq (cw_region (lw_op Z Z Z (ow_eqlI Z Z Z fun bb20 hbb20 => lw_op Z Z Z (ow_assign Z Z (lw_nil (ew_then ?_)))))))))
     replace h := cond_some h
     rcases h with ⟨hc19, h⟩ | ⟨hc19, h⟩
     ·
      obtain rfl := hbb20.trans hc19
      refine cw_true Z (cw_region (lw_op Z Z Z (ow_buildSlice (R := RInt) (xs := [(-1), 4]) (cs := #[(Zv (-1)), (Zv 4)]) (e := 3) Z Z (by kernel_rfl) Z Z ⟨_, _, Z, (vint _).cells, _, _, Z, (vint _).cells, Z⟩ hC133 fun p18 w134 hw63 hb90 hl134 hC134 => ?_)))
      have ho484 := ho480.no hb90
      have ho485 := ho481.no hb90
      have ho486 := ho482.no hb90
      refine lw_op Z Z Z (ow_move Z Z ?_)
      have lz24 := (((lz23.trans hl132).trans hl133).trans hl134)
      replace h := bind_some h
      obtain ⟨x35, hx35, h⟩ := h
      refine lw_op Z Z Z (ow_call Z Z Tryd.call60 (w_spec_l20Rd_pick (hG.mono lz24) hC134.old (VRep.mono lz24 hxs) ho484 hm6 hx35) fun v51 w135 hv51 => ?_)
      obtain ⟨⟨hv51, ho488⟩, hb91⟩ := hv51
      have hl135 := Le.of_bx (Add g3 (Add g2 (Add g1 M))) hb91 (fun b e => (by rw [show b = g from e]; exact hm6))
      have hC135 := hC134.go hb91 (fun b e => Or.inr e)
      have ho489 := ho485.go hb91 (fun e => hn1 e.symm)
      have ho490 := ho486.go hb91 (fun e => hn2 e.symm)
      obtain rfl := vint_eq hv51
      replace h := bind_some h
      obtain ⟨x36, hx36, h⟩ := h
      refine lw_op Z Z Z (ow_indexSlice (R := RInt) Z Z Z (VRep.mono hl135 hw63) Tryd.underlying52 (Tryd.sizeOf3 _) hx36 fun p19 hp19 => lw_op Z Z Z (ow_load (R := RInt) Z Z hp19 (Tryd.sizeOf3 _) (Tryd.isAgg3 _) fun v52 hv52 => ?_))
      obtain rfl := vint_eq hv52
      refine lw_op Z Z Z (ow_fieldAddr Z Z Tryd.underlying31 Z (Tryd.sizeOf3 _) (lw_op0 Z Z (ow_store (X := (One g)) (us := [(Zv x36)]) (cs' := #[(Zv x36), (Zv x32.Lo), (Zv x32.Hi), (.bool bb1)]) Z Z Z Z ho490 (Tryd.sizeOf3 _) Z Z Z Z hm8 (.inl hg4) Z hC135 fun w136 ho492 hb92 hl136 hC136 => ?_)))
      have ho493 := ho488.go hb92 (fun e => hn2 e)
      have ho494 := ho489.go hb92 (fun e => hn3 e)
      refine lw_nil (ew_blockN (ew_then (cw_seq (cw_region (lw_op Z Z Z (ow_loadOwnA Z Z Z ho492 (Tryd.isAgg31 _) (Tryd.sizeOf31 _) Z (lw_op0 Z Z (ow_store (X := (One g)) (us := [(Zv x36), (Zv x32.Lo), (Zv x32.Hi), (.bool bb1)]) (cs' := #[(Zv x36), (Zv x32.Lo), (Zv x32.Hi), (.bool bb1)]) Z Z Z Z ho494 (Tryd.sizeOf31 _) Z Z Z Z hm7 (.inl hg2) Z hC136 fun w137 ho496 hb93 hl137 hC137 => ?_))))))))
      have ho497 := ho493.go hb93 (fun e => hn1 e)
      refine lw_nil (ew_then (cw_ret ?_))
      have hw65 : VRep RTest w137 (Add g3 (Add g2 (Add g1 M))) ({ Field := x36, Lo := x32.Lo, Hi := x32.Hi, Not := (x2.1 == 0) } : Test) (.agg #[(Zv x36), (Zv x32.Lo), (Zv x32.Hi), (.bool bb1)]) := by subst hbb1; exact shut_Test
      obtain rfl := sj h
      exact ew_ret (res1 Z (.cell Z (own_loadVarA ho496 (Tryd.isAgg31 _) (Tryd.sizeOf31 _) Z))) ⟨_, Z, ⟨(hw65.mono hC137.back), ho497⟩, hC137.bx⟩
     ·
      obtain rfl := hbb20.trans hc19
      refine cw_false Z (cw_seq (cw_region (lw_op Z Z Z (ow_eqlI Z Z Z fun bb21 hbb21 => lw_op Z Z Z (ow_assign Z Z (lw_nil (ew_then ?_)))))))
      replace h := cond_some h
      rcases h with ⟨hc20, h⟩ | ⟨hc20, h⟩
      ·
       obtain rfl := hbb21.trans hc20
       refine cw_true Z (cw_region (lw_op Z Z Z (ow_fieldAddr Z Z Tryd.underlying31 Z (Tryd.sizeOf3 _) (lw_op Z Z Z (ow_loadOwn1 Z Z Z ho482 (Tryd.isAgg3 _) Z (lw_op Z Z Z (ow_add Z Z Z (lw_op Z Z Z (ow_fieldAddr Z Z Tryd.underlying31 Z (Tryd.sizeOf3 _) (lw_op0 Z Z (ow_store (X := (One g)) (us := [(Zv (W (x32.Hi + 1)))]) (cs' := #[(Zv x1.1), (Zv (W (x32.Hi + 1))), (Zv x32.Hi), (.bool bb1)]) Z Z Z Z ho482 (Tryd.sizeOf3 _) Z Z Z Z hm8 (.inl hg4) Z hC133 fun w138 ho500 hb94 hl138 hC138 => ?_)))))))))))
       have ho501 := ho480.go hb94 (fun e => hn2 e)
       have ho502 := ho481.go hb94 (fun e => hn3 e)
       refine lw_nil (ew_blockN (ew_then (cw_seq (cw_region (lw_op Z Z Z (ow_loadOwnA Z Z Z ho500 (Tryd.isAgg31 _) (Tryd.sizeOf31 _) Z (lw_op0 Z Z (ow_store (X := (One g)) (us := [(Zv x1.1), (Zv (W (x32.Hi + 1))), (Zv x32.Hi), (.bool bb1)]) (cs' := #[(Zv x1.1), (Zv (W (x32.Hi + 1))), (Zv x32.Hi), (.bool bb1)]) Z Z Z Z ho502 (Tryd.sizeOf31 _) Z Z Z Z hm7 (.inl hg2) Z hC138 fun w139 ho504 hb95 hl139 hC139 => ?_))))))))
       have ho505 := ho501.go hb95 (fun e => hn1 e)
       refine lw_nil (ew_then (cw_ret ?_))
       have hw67 : VRep RTest w139 (Add g3 (Add g2 (Add g1 M))) ({ Field := x1.1, Lo := (W (x32.Hi + 1)), Hi := x32.Hi, Not := (x2.1 == 0) } : Test) (.agg #[(Zv x1.1), (Zv (W (x32.Hi + 1))), (Zv x32.Hi), (.bool bb1)]) := by subst hbb1; exact shut_Test
       obtain rfl := sj h
       exact ew_ret (res1 Z (.cell Z (own_loadVarA ho504 (Tryd.isAgg31 _) (Tryd.sizeOf31 _) Z))) ⟨_, Z, ⟨(hw67.mono hC139.back), ho505⟩, hC139.bx⟩
      ·
       obtain rfl := hbb21.trans hc20
       refine cw_false Z (cw_region (lw_op Z Z Z (ow_move Z Z (lw_op Z Z Z (ow_add Z Z Z (lw_op Z Z Z (ow_fieldAddr Z Z Tryd.underlying31 Z (Tryd.sizeOf3 _) (lw_op0 Z Z (ow_store (X := (One g)) (us := [(Zv (W (x3 + 1)))]) (cs' := #[(Zv x1.1), (Zv x32.Lo), (Zv (W (x3 + 1))), (.bool bb1)]) Z Z Z Z ho482 (Tryd.sizeOf3 _) Z Z Z Z hm8 (.inl hg4) Z hC133 fun w140 ho508 hb96 hl140 hC140 => ?_)))))))))
       have ho509 := ho480.go hb96 (fun e => hn2 e)
       have ho510 := ho481.go hb96 (fun e => hn3 e)
       refine lw_nil (ew_blockN (ew_then (cw_seq (cw_region (lw_op Z Z Z (ow_loadOwnA Z Z Z ho508 (Tryd.isAgg31 _) (Tryd.sizeOf31 _) Z (lw_op0 Z Z (ow_store (X := (One g)) (us := [(Zv x1.1), (Zv x32.Lo), (Zv (W (x3 + 1))), (.bool bb1)]) (cs' := #[(Zv x1.1), (Zv x32.Lo), (Zv (W (x3 + 1))), (.bool bb1)]) Z Z Z Z ho510 (Tryd.sizeOf31 _) Z Z Z Z hm7 (.inl hg2) Z hC140 fun w141 ho512 hb97 hl141 hC141 => ?_))))))))
       have ho513 := ho509.go hb97 (fun e => hn1 e)
       refine lw_nil (ew_then (cw_ret ?_))
       have hw69 : VRep RTest w141 (Add g3 (Add g2 (Add g1 M))) ({ Field := x1.1, Lo := x32.Lo, Hi := (W (x3 + 1)), Not := (x2.1 == 0) } : Test) (.agg #[(Zv x1.1), (Zv x32.Lo), (Zv (W (x3 + 1))), (.bool bb1)]) := by subst hbb1; exact shut_Test
       obtain rfl := sj h
       exact ew_ret (res1 Z (.cell Z (own_loadVarA ho512 (Tryd.isAgg31 _) (Tryd.sizeOf31 _) Z))) ⟨_, Z, ⟨(hw69.mono hC141.back), ho513⟩, hC141.bx⟩
    ·
     obtain rfl := hbb19.trans hc18
     refine cw_false Z (cw_skip (ew_then (cw_seq (cw_region (lw_op Z Z Z (ow_loadOwnA Z Z Z ho478 (Tryd.isAgg31 _) (Tryd.sizeOf31 _) Z (lw_op0 Z Z (ow_store (X := (One g)) (us := [(Zv x1.1), (Zv x32.Lo), (Zv x32.Hi), (.bool bb1)]) (cs' := #[(Zv x1.1), (Zv x32.Lo), (Zv x32.Hi), (.bool bb1)]) Z Z Z Z ho477 (Tryd.sizeOf31 _) Z Z Z Z hm7 (.inl hg2) Z hC132 fun w142 ho516 hb98 hl142 hC142 => ?_))))))))
     have ho517 := ho476.go hb98 (fun e => hn1 e)
     refine lw_nil (ew_then (cw_ret ?_))
     have hw71 : VRep RTest w142 (Add g3 (Add g2 (Add g1 M))) ({ Field := x1.1, Lo := x32.Lo, Hi := x32.Hi, Not := (x2.1 == 0) } : Test) (.agg #[(Zv x1.1), (Zv x32.Lo), (Zv x32.Hi), (.bool bb1)]) := by subst hbb1; exact shut_Test
     obtain rfl := sj h
     exact ew_ret (res1 Z (.cell Z (own_loadVarA ho516 (Tryd.isAgg31 _) (Tryd.sizeOf31 _) Z))) ⟨_, Z, ⟨(hw71.mono hC142.back), ho517⟩, hC142.bx⟩
  ·
   obtain rfl := hbb18.trans hc17
   refine cw_false Z (cw_skip (ew_then (cw_seq (cw_region (lw_op Z Z Z (ow_fieldAddr Z Z Tryd.underlying79 Z (Tryd.sizeOf3 _) (lw_op Z Z Z (ow_loadOwn1 Z Z Z ho407 (Tryd.isAgg3 _) Z (lw_op Z Z Z (ow_fieldAddr Z Z Tryd.underlying31 Z (Tryd.sizeOf3 _) (lw_op0 Z Z (ow_store (X := (One g)) (us := [(Zv x4.1.Lo)]) (cs' := #[(Zv x1.1), (Zv x4.1.Lo), (Zv 0), (.bool bb1)]) Z Z Z Z ho406 (Tryd.sizeOf3 _) Z Z Z Z hm8 (.inl hg4) Z hC111 fun w143 ho520 hb99 hl143 hC143 => ?_))))))))))))
   have ho521 := ho404.go hb99 (fun e => hn2 e)
   have ho522 := ho405.go hb99 (fun e => hn3 e)
   have ho523 := ho407.go hb99 (fun e => hn6 e.symm)
   refine lw_nil (ew_then (cw_seq (cw_region (lw_op Z Z Z (ow_fieldAddr Z Z Tryd.underlying79 Z (Tryd.sizeOf3 _) (lw_op Z Z Z (ow_loadOwn1 Z Z Z ho523 (Tryd.isAgg3 _) Z (lw_op Z Z Z (ow_fieldAddr Z Z Tryd.underlying31 Z (Tryd.sizeOf3 _) (lw_op0 Z Z (ow_store (X := (One g)) (us := [(Zv x4.1.Hi)]) (cs' := #[(Zv x1.1), (Zv x4.1.Lo), (Zv x4.1.Hi), (.bool bb1)]) Z Z Z Z ho520 (Tryd.sizeOf3 _) Z Z Z Z hm8 (.inl hg4) Z hC143 fun w144 ho524 hb100 hl144 hC144 => ?_)))))))))))
   have ho525 := ho521.go hb100 (fun e => hn2 e)
   have ho526 := ho522.go hb100 (fun e => hn3 e)
   refine lw_nil (ew_then (cw_seq (cw_seq (cw_region (lw_op Z Z Z (ow_move Z Z (lw_op Z Z Z (ow_move Z Z ?_))))))))
   have lz25 := (((lz19.trans hl111).trans hl143).trans hl144)
   replace h := bind_some h
   obtain ⟨x37, hx37, h⟩ := h
   refine lw_op Z Z Z (ow_call Z Z Tryd.call81 (w_spec_l20Rd_odd (hG.mono lz25) hC144.old (VRep.mono lz25 hxs) ho525 hm6 hx37) fun v53 w145 hv53 => ?_)
   obtain ⟨⟨hv53, ho528⟩, hb101⟩ := hv53
   have hl145 := Le.of_bx (Add g3 (Add g2 (Add g1 M))) hb101 (fun b e => (by rw [show b = g from e]; exact hm6))
   have hC145 := hC144.go hb101 (fun b e => Or.inr e)
   have ho529 := ho526.go hb101 (fun e => hn1 e.symm)
   have ho530 := ho524.go hb101 (fun e => hn2 e.symm)
   obtain ⟨bb22, hbb22, rfl⟩ := vbool_ex hv53
   refine lw_nil (ew_then ?_)
   replace h := cond_some h
   rcases h with ⟨hc21, h⟩ | ⟨hc21, h⟩
   ·
    obtain rfl := hbb22.trans hc21
    refine cw_true Z (cw_seq (cw_region (lw_op Z Z Z (ow_move Z Z ?_))))
    replace h := bind_some h
    obtain ⟨x38, hx38, h⟩ := h
    refine lw_op Z Z Z (ow_call Z Z Tryd.call60 (w_spec_l20Rd_pick (hG.mono (lz25.trans hl145)) hC145.old (VRep.mono (lz25.trans hl145) hxs) ho528 hm6 hx38) fun v54 w146 hv54 => ?_)
    obtain ⟨⟨hv54, ho532⟩, hb102⟩ := hv54
    have hl146 := Le.of_bx (Add g3 (Add g2 (Add g1 M))) hb102 (fun b e => (by rw [show b = g from e]; exact hm6))
    have hC146 := hC145.go hb102 (fun b e => Or.inr e)
    have ho533 := ho529.go hb102 (fun e => hn1 e.symm)
    have ho534 := ho530.go hb102 (fun e => hn2 e.symm)
    obtain rfl := vint_eq hv54
    refine lw_nil (ew_then (cw_block (cw_seq (cw_region (lw_op Z Z Z (ow_eqlI Z Z Z fun bb23 hbb23 => lw_op Z Z Z (ow_assign Z Z (lw_nil (ew_then ?_)))))))))
    replace h := cond_some h
    rcases h with ⟨hc22, h⟩ | ⟨hc22, h⟩
    ·
     obtain rfl := hbb23.trans hc22
     refine cw_true Z (cw_region (lw_op Z Z Z (ow_buildSlice (R := RInt) (xs := [(-1), 4]) (cs := #[(Zv (-1)), (Zv 4)]) (e := 3) Z Z (by kernel_rfl) Z Z ⟨_, _, Z, (vint _).cells, _, _, Z, (vint _).cells, Z⟩ hC146 fun p20 w147 hw72 hb103 hl147 hC147 => ?_)))
     have ho536 := ho532.no hb103
     have ho537 := ho533.no hb103
     have ho538 := ho534.no hb103
     refine lw_op Z Z Z (ow_move Z Z ?_)
     have lz26 := (((lz25.trans hl145).trans hl146).trans hl147)
     replace h := bind_some h
     obtain ⟨x39, hx39, h⟩ := h
     refine lw_op Z Z Z (ow_call Z Z Tryd.call60 (w_spec_l20Rd_pick (hG.mono lz26) hC147.old (VRep.mono lz26 hxs) ho536 hm6 hx39) fun v55 w148 hv55 => ?_)
     obtain ⟨⟨hv55, ho540⟩, hb104⟩ := hv55
     have hl148 := Le.of_bx (Add g3 (Add g2 (Add g1 M))) hb104 (fun b e => (by rw [show b = g from e]; exact hm6))
     have hC148 := hC147.go hb104 (fun b e => Or.inr e)
     have ho541 := ho537.go hb104 (fun e => hn1 e.symm)
     have ho542 := ho538.go hb104 (fun e => hn2 e.symm)
     obtain rfl := vint_eq hv55
     replace h := bind_some h
     obtain ⟨x40, hx40, h⟩ := h
     refine lw_op Z Z Z (ow_indexSlice (R := RInt) Z Z Z (VRep.mono hl148 hw72) Tryd.underlying52 (Tryd.sizeOf3 _) hx40 fun p21 hp21 => lw_op Z Z Z (ow_load (R := RInt) Z Z hp21 (Tryd.sizeOf3 _) (Tryd.isAgg3 _) fun v56 hv56 => ?_))
     obtain rfl := vint_eq hv56
     refine lw_op Z Z Z (ow_fieldAddr Z Z Tryd.underlying31 Z (Tryd.sizeOf3 _) (lw_op0 Z Z (ow_store (X := (One g)) (us := [(Zv x40)]) (cs' := #[(Zv x40), (Zv x4.1.Lo), (Zv x4.1.Hi), (.bool bb1)]) Z Z Z Z ho542 (Tryd.sizeOf3 _) Z Z Z Z hm8 (.inl hg4) Z hC148 fun w149 ho544 hb105 hl149 hC149 => ?_)))
     have ho545 := ho540.go hb105 (fun e => hn2 e)
     have ho546 := ho541.go hb105 (fun e => hn3 e)
     refine lw_nil (ew_blockN (ew_then (cw_seq (cw_region (lw_op Z Z Z (ow_loadOwnA Z Z Z ho544 (Tryd.isAgg31 _) (Tryd.sizeOf31 _) Z (lw_op0 Z Z (ow_store (X := (One g)) (us := [(Zv x40), (Zv x4.1.Lo), (Zv x4.1.Hi), (.bool bb1)]) (cs' := #[(Zv x40), (Zv x4.1.Lo), (Zv x4.1.Hi), (.bool bb1)]) Z Z Z Z ho546 (Tryd.sizeOf31 _) Z Z Z Z hm7 (.inl hg2) Z hC149 fun w150 ho548 hb106 hl150 hC150 => ?_))))))))
     have ho549 := ho545.go hb106 (fun e => hn1 e)
     refine lw_nil (ew_then (cw_ret ?_))
     have hw74 : VRep RTest w150 (Add g3 (Add g2 (Add g1 M))) ({ Field := x40, Lo := x4.1.Lo, Hi := x4.1.Hi, Not := (x2.1 == 0) } : Test) (.agg #[(Zv x40), (Zv x4.1.Lo), (Zv x4.1.Hi), (.bool bb1)]) := by subst hbb1; exact shut_Test
     obtain rfl := sj h
     exact ew_ret (res1 Z (.cell Z (own_loadVarA ho548 (Tryd.isAgg31 _) (Tryd.sizeOf31 _) Z))) ⟨_, Z, ⟨(hw74.mono hC150.back), ho549⟩, hC150.bx⟩
    ·
     obtain rfl := hbb23.trans hc22
     refine cw_false Z (cw_seq (cw_region (lw_op Z Z Z (ow_eqlI Z Z Z fun bb24 hbb24 => lw_op Z Z Z (ow_assign Z Z (lw_nil (ew_then ?_)))))))
     replace h := cond_some h
     rcases h with ⟨hc23, h⟩ | ⟨hc23, h⟩
     ·
      obtain rfl := hbb24.trans hc23
      refine cw_true Z (cw_region (lw_op Z Z Z (ow_fieldAddr Z Z Tryd.underlying31 Z (Tryd.sizeOf3 _) (lw_op Z Z Z (ow_loadOwn1 Z Z Z ho534 (Tryd.isAgg3 _) Z (lw_op Z Z Z (ow_add Z Z Z (lw_op Z Z Z (ow_fieldAddr Z Z Tryd.underlying31 Z (Tryd.sizeOf3 _) (lw_op0 Z Z (ow_store (X := (One g)) (us := [(Zv (W (x4.1.Hi + 1)))]) (cs' := #[(Zv x1.1), (Zv (W (x4.1.Hi + 1))), (Zv x4.1.Hi), (.bool bb1)]) Z Z Z Z ho534 (Tryd.sizeOf3 _) Z Z Z Z hm8 (.inl hg4) Z hC146 fun w151 ho552 hb107 hl151 hC151 => ?_)))))))))))
      have ho553 := ho532.go hb107 (fun e => hn2 e)
      have ho554 := ho533.go hb107 (fun e => hn3 e)
      refine lw_nil (ew_blockN (ew_then (cw_seq (cw_region (lw_op Z Z Z (ow_loadOwnA Z Z Z ho552 (Tryd.isAgg31 _) (Tryd.sizeOf31 _) Z (lw_op0 Z Z (ow_store (X := (One g)) (us := [(Zv x1.1), (Zv (W (x4.1.Hi + 1))), (Zv x4.1.Hi), (.bool bb1)]) (cs' := #[(Zv x1.1), (Zv (W (x4.1.Hi + 1))), (Zv x4.1.Hi), (.bool bb1)]) Z Z Z Z ho554 (Tryd.sizeOf31 _) Z Z Z Z hm7 (.inl hg2) Z hC151 fun w152 ho556 hb108 hl152 hC152 => ?_))))))))
      have ho557 := ho553.go hb108 (fun e => hn1 e)
      refine lw_nil (ew_then (cw_ret ?_))
      have hw76 : VRep RTest w152 (Add g3 (Add g2 (Add g1 M))) ({ Field := x1.1, Lo := (W (x4.1.Hi + 1)), Hi := x4.1.Hi, Not := (x2.1 == 0) } : Test) (.agg #[(Zv x1.1), (Zv (W (x4.1.Hi + 1))), (Zv x4.1.Hi), (.bool bb1)]) := by subst hbb1; exact shut_Test
      obtain rfl := sj h
      exact ew_ret (res1 Z (.cell Z (own_loadVarA ho556 (Tryd.isAgg31 _) (Tryd.sizeOf31 _) Z))) ⟨_, Z, ⟨(hw76.mono hC152.back), ho557⟩, hC152.bx⟩
     ·
      obtain rfl := hbb24.trans hc23
      refine cw_false Z (cw_region (lw_op Z Z Z (ow_move Z Z (lw_op Z Z Z (ow_add Z Z Z (lw_op Z Z Z (ow_fieldAddr Z Z Tryd.underlying31 Z (Tryd.sizeOf3 _) (lw_op0 Z Z (ow_store (X := (One g)) (us := [(Zv (W (x3 + 1)))]) (cs' := #[(Zv x1.1), (Zv x4.1.Lo), (Zv (W (x3 + 1))), (.bool bb1)]) Z Z Z Z ho534 (Tryd.sizeOf3 _) Z Z Z Z hm8 (.inl hg4) Z hC146 fun w153 ho560 hb109 hl153 hC153 => ?_)))))))))
      have ho561 := ho532.go hb109 (fun e => hn2 e)
      have ho562 := ho533.go hb109 (fun e => hn3 e)
      refine lw_nil (ew_blockN (ew_then (cw_seq (cw_region (lw_op Z Z Z (ow_loadOwnA Z Z Z ho560 (Tryd.isAgg31 _) (Tryd.sizeOf31 _) Z (lw_op0 Z Z (ow_store (X := (One g)) (us := [(Zv x1.1), (Zv x4.1.Lo), (Zv (W (x3 + 1))), (.bool bb1)]) (cs' := #[(Zv x1.1), (Zv x4.1.Lo), (Zv (W (x3 + 1))), (.bool bb1)]) Z Z Z Z ho562 (Tryd.sizeOf31 _) Z Z Z Z hm7 (.inl hg2) Z hC153 fun w154 ho564 hb110 hl154 hC154 => ?_))))))))
      have ho565 := ho561.go hb110 (fun e => hn1 e)
      refine lw_nil (ew_then (cw_ret ?_))
      have hw78 : VRep RTest w154 (Add g3 (Add g2 (Add g1 M))) ({ Field := x1.1, Lo := x4.1.Lo, Hi := (W (x3 + 1)), Not := (x2.1 == 0) } : Test) (.agg #[(Zv x1.1), (Zv x4.1.Lo), (Zv (W (x3 + 1))), (.bool bb1)]) := by subst hbb1; exact shut_Test
      obtain rfl := sj h
      exact ew_ret (res1 Z (.cell Z (own_loadVarA ho564 (Tryd.isAgg31 _) (Tryd.sizeOf31 _) Z))) ⟨_, Z, ⟨(hw78.mono hC154.back), ho565⟩, hC154.bx⟩
   ·
    obtain rfl := hbb22.trans hc21
    refine cw_false Z (cw_skip (ew_then (cw_seq (cw_region (lw_op Z Z Z (ow_loadOwnA Z Z Z ho530 (Tryd.isAgg31 _) (Tryd.sizeOf31 _) Z (lw_op0 Z Z (ow_store (X := (One g)) (us := [(Zv x1.1), (Zv x4.1.Lo), (Zv x4.1.Hi), (.bool bb1)]) (cs' := #[(Zv x1.1), (Zv x4.1.Lo), (Zv x4.1.Hi), (.bool bb1)]) Z Z Z Z ho529 (Tryd.sizeOf31 _) Z Z Z Z hm7 (.inl hg2) Z hC145 fun w155 ho568 hb111 hl155 hC155 => ?_))))))))
    have ho569 := ho528.go hb111 (fun e => hn1 e)
    refine lw_nil (ew_then (cw_ret ?_))
    have hw80 : VRep RTest w155 (Add g3 (Add g2 (Add g1 M))) ({ Field := x1.1, Lo := x4.1.Lo, Hi := x4.1.Hi, Not := (x2.1 == 0) } : Test) (.agg #[(Zv x1.1), (Zv x4.1.Lo), (Zv x4.1.Hi), (.bool bb1)]) := by subst hbb1; exact shut_Test
    obtain rfl := sj h
    exact ew_ret (res1 Z (.cell Z (own_loadVarA ho568 (Tryd.isAgg31 _) (Tryd.sizeOf31 _) Z))) ⟨_, Z, ⟨(hw80.mono hC155.back), ho569⟩, hC155.bx⟩

theorem w_spec_l20Tests {w : World} {M : Nat → Prop} (hG : ARep (RArr 4 RShape) w M shapes ⟨0, 0, none⟩) (hO : ∀ b, M b → b < w.heap.size) {g : Nat} {Ax : Option Addr} {cx : Nat} {a_xs : List Int} {a_pos : Int} (hxs : VRep (RSlice RU8) w M a_xs (.slice Ax a_xs.length cx)) (hown : Own w g 111 #[.slice Ax a_xs.length cx, .int .i64 a_pos]) (hgM : M g) {a_n : Int} {r : ((List Test)) × Int} (h : F.spec_l20Tests a_xs a_pos a_n = some r) :
  Calls Tryd.prog 79 [(.pointer (some ⟨g, 0, none⟩)), (.int .i64 a_n)].toArray w fun e w' => ∃ v, e = .returned v ∧ (VRep (RSlice RTest) w' M r.1 v ∧ Own w' g 111 #[.slice Ax a_xs.length cx, .int .i64 r.2]) ∧ BX (One g) w w' := by
 obtain ⟨i31, hi31, hz31, hs31, hy31⟩ := info31
 have hX : ∀ b, (One g) b → M b := fun b e => e ▸ hgM
 have hC : Cx (One g) w M w M := Cx.start hO hX
 refine walk (N := 32) Tryd.func79 Z Tryd.ntmps79 Z (cw_seq (cw_region (lw_op Z Z Z (ow_assign Z Z (lw_nil (ew_then (cw_seq (cw_region (lw_op Z Z Z (ow_buildSlice0 (R := RTest) (e := 31) Z (by kernel_rfl) hC fun p1 w1 M1 hr1 hb1 hl1 hC1 hM1 hat1 => ?_))))))))))
 have ho1 := hown.no hb1
 have hm1 := hM1 _ hgM
 refine lw_op Z Z Z (ow_assign Z Z (lw_nil (ew_then (cw_seq (cw_seq (cw_region (lw_op Z Z Z (ow_move Z Z ?_))))))))
 replace h := bind_some h
 obtain ⟨x1, hx1, h⟩ := h
 refine lw_op Z Z Z (ow_call Z Z Tryd.call60 (w_spec_l20Rd_pick (hG.mono hl1) hC1.old (VRep.mono hl1 hxs) ho1 hm1 hx1) fun v1 w2 hv1 => ?_)
 obtain ⟨⟨hv1, ho2⟩, hb2⟩ := hv1
 have hl2 := Le.of_bx M1 hb2 (fun b e => (by rw [show b = g from e]; exact hm1))
 have hC2 := hC1.go hb2 (fun b e => Or.inr e)
 have hr2 := hr1.go hb2 (fun k hk e => (orow_ne hr1 ho1 (by decide)) (hk.trans (congrArg some e))) hl2 (fun _ h => h)
 obtain rfl := vint_eq hv1
 refine lw_op Z Z Z (ow_assign Z Z (lw_nil (ew_then ?_)))
 replace h := bind_some h
 obtain ⟨lr1, hlr1, h⟩ := h
 refine cw_for hlr1 (fun s a w' => ∃ (M' : Nat → Prop) (v0c : Value), Fits 32 [(0, (Zw g 0)), (1, (Zv a_n)), (5, v0c), (6, (Zv s.2.1))] a ∧ Le w2 M1 w' M' ∧ Cx (One g) w M w' M' ∧ OwnRow RTest w.heap.size 31 w' M' s.1 v0c ∧ Own w' g 111 #[(.slice Ax a_xs.length cx), (Zv s.2.2)] ∧ M' g) ?_ ?_ ?_
 · exact fun a ha => ⟨M1, (.slice (some p1) 0 0), ha.sub ⟨Z, Z, Z, Z, Zt⟩, Le.refl _ _, hC2, hr2, ho2, hm1⟩
 ·
  rintro ⟨y1, k1, k2⟩ a w3 sr1 ⟨M2, v2, hF1, hl3, hC3, hw1, ho3, hm2⟩ hb3 hR1
  refine cw_at (E := [(0, (Zw g 0)), (1, (Zv a_n)), (5, v2), (6, (Zv k1))]) hF1 (cw_seq (cw_seq (cw_region (lw_op Z Z Z (ow_move Z Z (lw_op Z Z Z (ow_gtr Z Z Z fun bb1 hbb1 => lw_nil (ew_then ?_))))))))
  replace hb3 := cond_some hb3
  rcases hb3 with ⟨hc1, hb3⟩ | ⟨hc1, hb3⟩
  ·
   obtain rfl := hbb1.trans hc1
   refine cw_true Z (cw_skip (ew_then (cw_seq (cw_block (cw_region (lw_op Z Z Z (ow_move Z Z (lw_op Z Z Z (ow_move Z Z ?_)))))))))
   have lz1 := ((hl1.trans hl2).trans hl3)
   replace hb3 := bind_some hb3
   obtain ⟨x2, hx2, hb3⟩ := hb3
   refine lw_op Z Z Z (ow_call Z Z Tryd.call102 (w_spec_l20Test (hG.mono lz1) hC3.old (VRep.mono lz1 hxs) ho3 hm2 hx2) fun v5 w4 hv5 => ?_)
   obtain ⟨⟨hv5, ho4⟩, hb4⟩ := hv5
   have hl4 := Le.of_bx M2 hb4 (fun b e => (by rw [show b = g from e]; exact hm2))
   have hC4 := hC3.go hb4 (fun b e => Or.inr e)
   have hr3 := hw1.go hb4 (fun k hk e => (orow_ne hw1 ho3 (by decide)) (hk.trans (congrArg some e))) hl4 (fun _ h => h)
   obtain rfl := open_Test hv5
   refine lw_op Z Z Z (ow_buildSlice (R := RTest) (xs := [x2.1]) (cs := #[(Zv x2.1.Field), (Zv x2.1.Lo), (Zv x2.1.Hi), (.bool x2.1.Not)]) (e := 31) Z Z (by kernel_rfl) Z Z ⟨_, _, Z, hv5.cells, Z⟩ hC4 fun p2 w5 hw2 hb5 hl5 hC5 => ?_)
   have ho5 := ho4.no hb5
   have hr4 := hr3.no hb5
   replace hb3 := bind_some hb3
   obtain ⟨z1, hz1, hb3⟩ := hb3
   refine lw_op Z Z Z (ow_append (R := RTest) Z Z Z Z Tryd.underlying27 hi31 hz31 hs31 hy31 Z Z Z Z hr4 hw2 hz1 hC5 fun v6 w6 M3 hr5 hb6 hl6 hC6 hM2 hat2 => ?_)
   have ho6 := ho5.go hb6 (fun e => (orow_ne hr4 ho5 (by decide)) e)
   have hm3 := hM2 _ hm2
   refine lw_op Z Z Z (ow_assign Z Z (lw_nil (ew_blockN (ew_then (cw_region (lw_op Z Z Z (ow_move Z Z (lw_op Z Z Z (ow_sub Z Z Z (lw_op Z Z Z (ow_assign Z Z (lw_nil ?_))))))))))))
   have lz2 := (((hl3.trans hl4).trans hl5).trans hl6)
   exact ew_nxt (z1, (W (k1 - 1)), x2.2) hb3 fun a ha => ⟨M3, v6, (ha.sub ⟨Z, Z, Z, Z, Zt⟩), lz2, hC6, hr5, ho6, hm3⟩
  ·
   obtain rfl := hbb1.trans hc1
   exact cw_false Z (cw_exit (ew_thenX (ew_thenX (ew_blockX (ew_brk (y1, k1, k2) hb3 fun a ha => ⟨M2, v2, (ha.sub ⟨Z, Z, Z, Z, Zt⟩), hl3, hC3, hw1, ho3, hm2⟩)))))
 ·
  rintro ⟨y2, k3, k4⟩ a w7 hlr2 ⟨M4, v7, hF2, hl7, hC7, hw3, ho7, hm4⟩
  subst hlr2
  refine ew_at (E := [(0, (Zw g 0)), (1, (Zv a_n)), (5, v7), (6, (Zv k3))]) hF2 (ew_then (cw_seq (cw_seq (cw_region (lw_op Z Z Z (ow_move Z Z (lw_op Z Z Z (ow_move Z Z ?_))))))))
  have lz3 := ((hl1.trans hl2).trans hl7)
  replace h := bind_some h
  obtain ⟨x3, hx3, h⟩ := h
  refine lw_op Z Z Z (ow_call Z Z Tryd.call81 (w_spec_l20Rd_odd (hG.mono lz3) hC7.old (VRep.mono lz3 hxs) ho7 hm4 hx3) fun v10 w8 hv10 => ?_)
  obtain ⟨⟨hv10, ho8⟩, hb7⟩ := hv10
  have hl8 := Le.of_bx M4 hb7 (fun b e => (by rw [show b = g from e]; exact hm4))
  have hC8 := hC7.go hb7 (fun b e => Or.inr e)
  have hr6 := hw3.go hb7 (fun k hk e => (orow_ne hw3 ho7 (by decide)) (hk.trans (congrArg some e))) hl8 (fun _ h => h)
  obtain ⟨bb2, hbb2, rfl⟩ := vbool_ex hv10
  refine lw_nil (ew_then ?_)
  replace h := cond_some h
  rcases h with ⟨hc2, h⟩ | ⟨hc2, h⟩
  ·
   obtain rfl := hbb2.trans hc2
   refine cw_true Z (cw_seq (cw_region (lw_op Z Z Z (ow_move Z Z ?_))))
   replace h := bind_some h
   obtain ⟨x4, hx4, h⟩ := h
   refine lw_op Z Z Z (ow_call Z Z Tryd.call60 (w_spec_l20Rd_pick (hG.mono (lz3.trans hl8)) hC8.old (VRep.mono (lz3.trans hl8) hxs) ho8 hm4 hx4) fun v11 w9 hv11 => ?_)
   obtain ⟨⟨hv11, ho9⟩, hb8⟩ := hv11
   have hl9 := Le.of_bx M4 hb8 (fun b e => (by rw [show b = g from e]; exact hm4))
   have hC9 := hC8.go hb8 (fun b e => Or.inr e)
   have hr7 := hr6.go hb8 (fun k hk e => (orow_ne hr6 ho8 (by decide)) (hk.trans (congrArg some e))) hl9 (fun _ h => h)
   obtain rfl := vint_eq hv11
   refine lw_op Z Z Z (ow_eqlI Z Z Z fun bb3 hbb3 => lw_nil (ew_then ?_))
   replace h := cond_some h
   rcases h with ⟨hc3, h⟩ | ⟨hc3, h⟩
   ·
    obtain rfl := hbb3.trans hc3
    refine cw_true Z (cw_region (lw_op Z Z Z (ow_move Z Z (lw_op Z Z Z (ow_move Z Z ?_)))))
    have lz4 := ((lz3.trans hl8).trans hl9)
    replace h := bind_some h
    obtain ⟨x5, hx5, h⟩ := h
    refine lw_op Z Z Z (ow_call Z Z Tryd.call102 (w_spec_l20Test (hG.mono lz4) hC9.old (VRep.mono lz4 hxs) ho9 hm4 hx5) fun v12 w10 hv12 => ?_)
    obtain ⟨⟨hv12, ho10⟩, hb9⟩ := hv12
    have hl10 := Le.of_bx M4 hb9 (fun b e => (by rw [show b = g from e]; exact hm4))
    have hC10 := hC9.go hb9 (fun b e => Or.inr e)
    have hr8 := hr7.go hb9 (fun k hk e => (orow_ne hr7 ho9 (by decide)) (hk.trans (congrArg some e))) hl10 (fun _ h => h)
    obtain rfl := open_Test hv12
    refine lw_op Z Z Z (ow_buildSlice (R := RTest) (xs := [x5.1]) (cs := #[(Zv x5.1.Field), (Zv x5.1.Lo), (Zv x5.1.Hi), (.bool x5.1.Not)]) (e := 31) Z Z (by kernel_rfl) Z Z ⟨_, _, Z, hv12.cells, Z⟩ hC10 fun p3 w11 hw4 hb10 hl11 hC11 => ?_)
    have ho11 := ho10.no hb10
    have hr9 := hr8.no hb10
    replace h := bind_some h
    obtain ⟨z2, hz2, h⟩ := h
    refine lw_op Z Z Z (ow_append (R := RTest) Z Z Z Z Tryd.underlying27 hi31 hz31 hs31 hy31 Z Z Z Z hr9 hw4 hz2 hC11 fun v13 w12 M5 hr10 hb11 hl12 hC12 hM3 hat3 => ?_)
    have ho12 := ho11.go hb11 (fun e => (orow_ne hr9 ho11 (by decide)) e)
    refine lw_op Z Z Z (ow_assign Z Z (lw_nil (ew_then (cw_seq (cw_region (lw_op Z Z Z (ow_move Z Z (lw_op Z Z Z (ow_assign Z Z (lw_nil (ew_then (cw_ret ?_))))))))))))
    obtain rfl := sj h
    exact ew_ret (res1 Z (.tmp Z)) ⟨_, Z, ⟨(hr10.freezeBack hC12 hO), ho12⟩, hC12.bx⟩
   ·
    obtain rfl := hbb3.trans hc3
    refine cw_false Z (cw_region ?_)
    replace h := bind_some h
    obtain ⟨mk1, hmk1, h⟩ := h
    refine lw_op Z Z Z (ow_make (R := RTest) Z Z Z Tryd.underlying27 hi31 hz31 hs31 hy31 Z Z (shut_Test) hmk1 hC9 fun v14 w13 M6 hr11 hb12 hl13 hC13 hM4 hat4 => ?_)
    have ho13 := ho9.no hb12
    refine lw_op Z Z Z (ow_assign Z Z (lw_nil (ew_then (cw_seq (cw_region (lw_op Z Z Z (ow_move Z Z (lw_op Z Z Z (ow_assign Z Z (lw_nil (ew_then (cw_ret ?_))))))))))))
    obtain rfl := sj h
    exact ew_ret (res1 Z (.tmp Z)) ⟨_, Z, ⟨(hr11.freezeBack hC13 hO), ho13⟩, hC13.bx⟩
  ·
   obtain rfl := hbb2.trans hc2
   refine cw_false Z (cw_skip (ew_then (cw_seq (cw_region (lw_op Z Z Z (ow_move Z Z (lw_op Z Z Z (ow_assign Z Z (lw_nil (ew_then (cw_ret ?_)))))))))))
   obtain rfl := sj h
   exact ew_ret (res1 Z (.tmp Z)) ⟨_, Z, ⟨(hr6.freezeBack hC8 hO), ho8⟩, hC8.bx⟩

theorem w_spec_l20Rule {w : World} {M : Nat → Prop} (hG : ARep (RArr 4 RShape) w M shapes ⟨0, 0, none⟩) (hO : ∀ b, M b → b < w.heap.size) {g : Nat} {Ax : Option Addr} {cx : Nat} {a_xs : List Int} {a_pos : Int} (hxs : VRep (RSlice RU8) w M a_xs (.slice Ax a_xs.length cx)) (hown : Own w g 111 #[.slice Ax a_xs.length cx, .int .i64 a_pos]) (hgM : M g) {a_first : Int} {a_chains : Int} {a_n : Int} {r : Rule × Int} (h : F.spec_l20Rule a_xs a_pos a_first a_chains a_n = some r) :
  Calls Tryd.prog 89 [(.pointer (some ⟨g, 0, none⟩)), (.int .i64 a_first), (.int .i64 a_chains), (.int .i64 a_n)].toArray w fun e w' => ∃ v, e = .returned v ∧ (VRep RRule w' M r.1 v ∧ Own w' g 111 #[.slice Ax a_xs.length cx, .int .i64 r.2]) ∧ BX (One g) w w' := by
 have hX : ∀ b, (One g) b → M b := fun b e => e ▸ hgM
 have hC : Cx (One g) w M w M := Cx.start hO hX
 refine walk (N := 58) Tryd.func89 Z Tryd.ntmps89 Z (cw_seq (cw_region (lw_op Z Z Z (ow_alloc Z (Tryd.zeroValue42 _) hC fun g1 w1 hg1 hg2 ho1 hb1 hl1 hC1 => ?_))))
 have hn1 := Nat.ne_of_lt (Nat.lt_of_lt_of_le hown.lt hg1)
 have ho2 := hown.no hb1
 have hm1 : (Add g1 M) g := .inr hgM
 have hm2 : (Add g1 M) g1 := .inl Z
 refine lw_nil (ew_then (cw_seq (cw_region (lw_op Z Z Z (ow_move Z Z ?_)))))
 replace h := bind_some h
 obtain ⟨x1, hx1, h⟩ := h
 refine lw_op Z Z Z (ow_call Z Z Tryd.call79 (w_spec_l20Tests (hG.mono hl1) hC1.old (VRep.mono hl1 hxs) ho2 hm1 hx1) fun v1 w2 hv1 => ?_)
 obtain ⟨⟨hv1, ho3⟩, hb2⟩ := hv1
 have hl2 := Le.of_bx (Add g1 M) hb2 (fun b e => (by rw [show b = g from e]; exact hm1))
 have hC2 := hC1.go hb2 (fun b e => Or.inr e)
 have ho4 := ho1.go hb2 (fun e => hn1 e.symm)
 refine lw_op Z Z Z (ow_buildSlice (R := RInt) (xs := [1, 1, 2, 2, 3, 3, 4, 5]) (cs := #[(Zv 1), (Zv 1), (Zv 2), (Zv 2), (Zv 3), (Zv 3), (Zv 4), (Zv 5)]) (e := 3) Z Z (by kernel_rfl) Z Z ⟨_, _, Z, (vint _).cells, _, _, Z, (vint _).cells, _, _, Z, (vint _).cells, _, _, Z, (vint _).cells, _, _, Z, (vint _).cells, _, _, Z, (vint _).cells, _, _, Z, (vint _).cells, _, _, Z, (vint _).cells, Z⟩ hC2 fun p1 w3 hw1 hb3 hl3 hC3 => ?_)
 have ho5 := ho3.no hb3
 have ho6 := ho4.no hb3
 refine lw_op Z Z Z (ow_move Z Z ?_)
 have lz1 := ((hl1.trans hl2).trans hl3)
 replace h := bind_some h
 obtain ⟨x2, hx2, h⟩ := h
 refine lw_op Z Z Z (ow_call Z Z Tryd.call60 (w_spec_l20Rd_pick (hG.mono lz1) hC3.old (VRep.mono lz1 hxs) ho5 hm1 hx2) fun v2 w4 hv2 => ?_)
 obtain ⟨⟨hv2, ho7⟩, hb4⟩ := hv2
 have hl4 := Le.of_bx (Add g1 M) hb4 (fun b e => (by rw [show b = g from e]; exact hm1))
 have hC4 := hC3.go hb4 (fun b e => Or.inr e)
 have ho8 := ho6.go hb4 (fun e => hn1 e.symm)
 obtain rfl := vint_eq hv2
 replace h := bind_some h
 obtain ⟨x3, hx3, h⟩ := h
 refine lw_op Z Z Z (ow_indexSlice (R := RInt) Z Z Z (VRep.mono hl4 hw1) Tryd.underlying52 (Tryd.sizeOf3 _) hx3 fun p2 hp2 => lw_op Z Z Z (ow_load (R := RInt) Z Z hp2 (Tryd.sizeOf3 _) (Tryd.isAgg3 _) fun v3 hv3 => ?_))
 obtain rfl := vint_eq hv3
 obtain ⟨A1, c1, rfl, -⟩ := vslice_shape hv1
 refine lw_op Z Z Z (ow_build (v := .agg #[(.slice A1 x1.1.length c1), (Zv x3), (Zv 0)]) Z Z (by kernel_rfl) (lw_op Z Z Z (ow_alloc Z (Tryd.zeroValue42 _) hC4 fun g2 w5 hg3 hg4 ho9 hb5 hl5 hC5 => ?_)))
 have hn2 := Nat.ne_of_lt (Nat.lt_of_lt_of_le ho7.lt hg3)
 have ho10 := ho7.no hb5
 have hm3 : (Add g2 (Add g1 M)) g := .inr hm1
 have hn3 := Nat.ne_of_lt (Nat.lt_of_lt_of_le ho8.lt hg3)
 have ho11 := ho8.no hb5
 have hm4 : (Add g2 (Add g1 M)) g1 := .inr hm2
 have hm5 : (Add g2 (Add g1 M)) g2 := .inl Z
 refine lw_op0 Z Z (ow_store (X := (One g)) (us := [(.slice A1 x1.1.length c1), (Zv x3), (Zv 0)]) (cs' := #[(.slice A1 x1.1.length c1), (Zv x3), (Zv 0)]) Z Z Z Z ho9 (Tryd.sizeOf42 _) Z Z Z Z hm5 (.inl hg4) Z hC5 fun w6 ho12 hb6 hl6 hC6 => ?_)
 have ho13 := ho10.go hb6 (fun e => hn2 e)
 have ho14 := ho11.go hb6 (fun e => hn3 e)
 refine lw_nil (ew_then (cw_seq (cw_seq (cw_region (lw_op Z Z Z (ow_fieldAddr Z Z Tryd.underlying42 Z (Tryd.sizeOf3 _) (lw_op Z Z Z (ow_loadOwn1 Z Z Z ho12 (Tryd.isAgg3 _) Z (lw_op Z Z Z (ow_eqlI Z Z Z fun bb1 hbb1 => lw_nil (ew_then ?_)))))))))))
 replace h := cond_some h
 rcases h with ⟨hc1, h⟩ | ⟨hc1, h⟩
 ·
  obtain rfl := hbb1.trans hc1
  refine cw_true Z (cw_seq (cw_region (lw_op Z Z Z (ow_move Z Z (lw_op Z Z Z (ow_move Z Z (lw_op Z Z Z (ow_geq Z Z Z fun bb2 hbb2 => lw_nil (ew_then ?_)))))))))
  replace h := cond_some h
  rcases h with ⟨hc2, h⟩ | ⟨hc2, h⟩
  ·
   obtain rfl := hbb2.trans hc2
   refine cw_true Z (cw_region (lw_op Z Z Z (ow_fieldAddr Z Z Tryd.underlying42 Z (Tryd.sizeOf3 _) (lw_op0 Z Z (ow_store (X := (One g)) (us := [(Zv 2)]) (cs' := #[(.slice A1 x1.1.length c1), (Zv 2), (Zv 0)]) Z Z Z Z ho12 (Tryd.sizeOf3 _) Z Z Z Z hm5 (.inl hg4) Z hC6 fun w7 ho15 hb7 hl7 hC7 => ?_)))))
   have ho16 := ho13.go hb7 (fun e => hn2 e)
   have ho17 := ho14.go hb7 (fun e => hn3 e)
   refine lw_nil (ew_then (cw_seq (cw_seq (cw_region (lw_op Z Z Z (ow_move Z Z (lw_op Z Z Z (ow_move Z Z ?_))))))))
   have lz2 := ((((lz1.trans hl4).trans hl5).trans hl6).trans hl7)
   replace h := bind_some h
   obtain ⟨x4, hx4, h⟩ := h
   refine lw_op Z Z Z (ow_call Z Z Tryd.call81 (w_spec_l20Rd_odd (hG.mono lz2) hC7.old (VRep.mono lz2 hxs) ho16 hm3 hx4) fun v4 w8 hv4 => ?_)
   obtain ⟨⟨hv4, ho18⟩, hb8⟩ := hv4
   have hl8 := Le.of_bx (Add g2 (Add g1 M)) hb8 (fun b e => (by rw [show b = g from e]; exact hm3))
   have hC8 := hC7.go hb8 (fun b e => Or.inr e)
   have ho19 := ho17.go hb8 (fun e => hn1 e.symm)
   have ho20 := ho15.go hb8 (fun e => hn2 e.symm)
   obtain ⟨bb3, hbb3, rfl⟩ := vbool_ex hv4
   refine lw_nil (ew_then ?_)
   replace h := cond_some h
   rcases h with ⟨hc3, h⟩ | ⟨hc3, h⟩
   ·
    obtain rfl := hbb3.trans hc3
    refine cw_true Z (cw_seq (cw_region (lw_op Z Z Z (ow_move Z Z ?_))))
    replace h := bind_some h
    obtain ⟨x5, hx5, h⟩ := h
    refine lw_op Z Z Z (ow_call Z Z Tryd.call60 (w_spec_l20Rd_pick (hG.mono (lz2.trans hl8)) hC8.old (VRep.mono (lz2.trans hl8) hxs) ho18 hm3 hx5) fun v5 w9 hv5 => ?_)
    obtain ⟨⟨hv5, ho21⟩, hb9⟩ := hv5
    have hl9 := Le.of_bx (Add g2 (Add g1 M)) hb9 (fun b e => (by rw [show b = g from e]; exact hm3))
    have hC9 := hC8.go hb9 (fun b e => Or.inr e)
    have ho22 := ho19.go hb9 (fun e => hn1 e.symm)
    have ho23 := ho20.go hb9 (fun e => hn2 e.symm)
    obtain rfl := vint_eq hv5
    refine lw_nil (ew_then (cw_block (cw_seq (cw_region (lw_op Z Z Z (ow_eqlI Z Z Z fun bb4 hbb4 => lw_op Z Z Z (ow_assign Z Z (lw_nil (ew_then ?_)))))))))
    replace h := cond_some h
    rcases h with ⟨hc4, h⟩ | ⟨hc4, h⟩
    ·
     obtain rfl := hbb4.trans hc4
     refine cw_true Z (cw_region (lw_op Z Z Z (ow_buildSlice (R := RInt) (xs := [0, 6]) (cs := #[(Zv 0), (Zv 6)]) (e := 3) Z Z (by kernel_rfl) Z Z ⟨_, _, Z, (vint _).cells, _, _, Z, (vint _).cells, Z⟩ hC9 fun p3 w10 hw3 hb10 hl10 hC10 => ?_)))
     have ho24 := ho21.no hb10
     have ho25 := ho22.no hb10
     have ho26 := ho23.no hb10
     refine lw_op Z Z Z (ow_move Z Z ?_)
     have lz3 := (((lz2.trans hl8).trans hl9).trans hl10)
     replace h := bind_some h
     obtain ⟨x6, hx6, h⟩ := h
     refine lw_op Z Z Z (ow_call Z Z Tryd.call60 (w_spec_l20Rd_pick (hG.mono lz3) hC10.old (VRep.mono lz3 hxs) ho24 hm3 hx6) fun v6 w11 hv6 => ?_)
     obtain ⟨⟨hv6, ho27⟩, hb11⟩ := hv6
     have hl11 := Le.of_bx (Add g2 (Add g1 M)) hb11 (fun b e => (by rw [show b = g from e]; exact hm3))
     have hC11 := hC10.go hb11 (fun b e => Or.inr e)
     have ho28 := ho25.go hb11 (fun e => hn1 e.symm)
     have ho29 := ho26.go hb11 (fun e => hn2 e.symm)
     obtain rfl := vint_eq hv6
     replace h := bind_some h
     obtain ⟨x7, hx7, h⟩ := h
     refine lw_op Z Z Z (ow_indexSlice (R := RInt) Z Z Z (VRep.mono hl11 hw3) Tryd.underlying52 (Tryd.sizeOf3 _) hx7 fun p4 hp4 => lw_op Z Z Z (ow_load (R := RInt) Z Z hp4 (Tryd.sizeOf3 _) (Tryd.isAgg3 _) fun v7 hv7 => ?_))
     obtain rfl := vint_eq hv7
     refine lw_op Z Z Z (ow_fieldAddr Z Z Tryd.underlying42 Z (Tryd.sizeOf3 _) (lw_op0 Z Z (ow_store (X := (One g)) (us := [(Zv x7)]) (cs' := #[(.slice A1 x1.1.length c1), (Zv x7), (Zv 0)]) Z Z Z Z ho29 (Tryd.sizeOf3 _) Z Z Z Z hm5 (.inl hg4) Z hC11 fun w12 ho30 hb12 hl12 hC12 => ?_)))
     have ho31 := ho27.go hb12 (fun e => hn2 e)
     have ho32 := ho28.go hb12 (fun e => hn3 e)
     refine lw_nil (ew_blockN (ew_then (cw_seq (cw_region (lw_op Z Z Z (ow_loadOwnA Z Z Z ho30 (Tryd.isAgg42 _) (Tryd.sizeOf42 _) Z ?_))))))
     have lz4 := (((((((((hl3.trans hl4).trans hl5).trans hl6).trans hl7).trans hl8).trans hl9).trans hl10).trans hl11).trans hl12)
     refine lw_op0 Z Z (ow_store (X := (One g)) (us := [(.slice A1 x1.1.length c1), (Zv x7), (Zv 0)]) (cs' := #[(.slice A1 x1.1.length c1), (Zv x7), (Zv 0)]) Z Z Z Z ho32 (Tryd.sizeOf42 _) Z Z Z Z hm4 (.inl hg2) Z hC12 fun w13 ho33 hb13 hl13 hC13 => ?_)
     have ho34 := ho31.go hb13 (fun e => hn1 e)
     refine lw_nil (ew_then (cw_ret ?_))
     have hw5 : VRep RRule w13 (Add g2 (Add g1 M)) ({ Tests := x1.1, Action := x7, Chain := 0 } : Rule) (.agg #[(.slice A1 x1.1.length c1), (Zv x7), (Zv 0)]) := shut_Rule (VRep.mono (lz4.trans hl13) hv1)
     obtain rfl := sj h
     exact ew_ret (res1 Z (.cell Z (own_loadVarA ho33 (Tryd.isAgg42 _) (Tryd.sizeOf42 _) Z))) ⟨_, Z, ⟨(hw5.mono hC13.back), ho34⟩, hC13.bx⟩
    ·
     obtain rfl := hbb4.trans hc4
     refine cw_false Z (cw_seq (cw_region (lw_op Z Z Z (ow_eqlI Z Z Z fun bb5 hbb5 => lw_op Z Z Z (ow_assign Z Z (lw_nil (ew_then ?_)))))))
     replace h := cond_some h
     rcases h with ⟨hc5, h⟩ | ⟨hc5, h⟩
     ·
      obtain rfl := hbb5.trans hc5
      refine cw_true Z (cw_region (lw_op Z Z Z (ow_buildSlice (R := RInt) (xs := [(-1), 5, 1]) (cs := #[(Zv (-1)), (Zv 5), (Zv 1)]) (e := 3) Z Z (by kernel_rfl) Z Z ⟨_, _, Z, (vint _).cells, _, _, Z, (vint _).cells, _, _, Z, (vint _).cells, Z⟩ hC9 fun p5 w14 hw6 hb14 hl14 hC14 => ?_)))
      have ho36 := ho21.no hb14
      have ho37 := ho22.no hb14
      have ho38 := ho23.no hb14
      refine lw_op Z Z Z (ow_move Z Z ?_)
      have lz5 := (((lz2.trans hl8).trans hl9).trans hl14)
      replace h := bind_some h
      obtain ⟨x8, hx8, h⟩ := h
      refine lw_op Z Z Z (ow_call Z Z Tryd.call60 (w_spec_l20Rd_pick (hG.mono lz5) hC14.old (VRep.mono lz5 hxs) ho36 hm3 hx8) fun v8 w15 hv8 => ?_)
      obtain ⟨⟨hv8, ho39⟩, hb15⟩ := hv8
      have hl15 := Le.of_bx (Add g2 (Add g1 M)) hb15 (fun b e => (by rw [show b = g from e]; exact hm3))
      have hC15 := hC14.go hb15 (fun b e => Or.inr e)
      have ho40 := ho37.go hb15 (fun e => hn1 e.symm)
      have ho41 := ho38.go hb15 (fun e => hn2 e.symm)
      obtain rfl := vint_eq hv8
      replace h := bind_some h
      obtain ⟨x9, hx9, h⟩ := h
      refine lw_op Z Z Z (ow_indexSlice (R := RInt) Z Z Z (VRep.mono hl15 hw6) Tryd.underlying52 (Tryd.sizeOf3 _) hx9 fun p6 hp6 => lw_op Z Z Z (ow_load (R := RInt) Z Z hp6 (Tryd.sizeOf3 _) (Tryd.isAgg3 _) fun v9 hv9 => ?_))
      obtain rfl := vint_eq hv9
      refine lw_op Z Z Z (ow_fieldAddr Z Z Tryd.underlying42 Z (Tryd.sizeOf3 _) (lw_op0 Z Z (ow_store (X := (One g)) (us := [(Zv x9)]) (cs' := #[(.slice A1 x1.1.length c1), (Zv 2), (Zv x9)]) Z Z Z Z ho41 (Tryd.sizeOf3 _) Z Z Z Z hm5 (.inl hg4) Z hC15 fun w16 ho42 hb16 hl16 hC16 => ?_)))
      have ho43 := ho39.go hb16 (fun e => hn2 e)
      have ho44 := ho40.go hb16 (fun e => hn3 e)
      refine lw_nil (ew_blockN (ew_then (cw_seq (cw_region (lw_op Z Z Z (ow_loadOwnA Z Z Z ho42 (Tryd.isAgg42 _) (Tryd.sizeOf42 _) Z ?_))))))
      have lz6 := (((((((((hl3.trans hl4).trans hl5).trans hl6).trans hl7).trans hl8).trans hl9).trans hl14).trans hl15).trans hl16)
      refine lw_op0 Z Z (ow_store (X := (One g)) (us := [(.slice A1 x1.1.length c1), (Zv 2), (Zv x9)]) (cs' := #[(.slice A1 x1.1.length c1), (Zv 2), (Zv x9)]) Z Z Z Z ho44 (Tryd.sizeOf42 _) Z Z Z Z hm4 (.inl hg2) Z hC16 fun w17 ho45 hb17 hl17 hC17 => ?_)
      have ho46 := ho43.go hb17 (fun e => hn1 e)
      refine lw_nil (ew_then (cw_ret ?_))
      have hw8 : VRep RRule w17 (Add g2 (Add g1 M)) ({ Tests := x1.1, Action := 2, Chain := x9 } : Rule) (.agg #[(.slice A1 x1.1.length c1), (Zv 2), (Zv x9)]) := shut_Rule (VRep.mono (lz6.trans hl17) hv1)
      obtain rfl := sj h
      exact ew_ret (res1 Z (.cell Z (own_loadVarA ho45 (Tryd.isAgg42 _) (Tryd.sizeOf42 _) Z))) ⟨_, Z, ⟨(hw8.mono hC17.back), ho46⟩, hC17.bx⟩
     ·
      obtain rfl := hbb5.trans hc5
      refine cw_false Z (cw_region (lw_op Z Z Z (ow_move Z Z ?_)))
      have lz7 := ((lz2.trans hl8).trans hl9)
      replace h := bind_some h
      obtain ⟨x10, hx10, h⟩ := h
      refine lw_op Z Z Z (ow_call Z Z Tryd.call79 (w_spec_l20Tests (hG.mono lz7) hC9.old (VRep.mono lz7 hxs) ho21 hm3 hx10) fun v10 w18 hv10 => ?_)
      obtain ⟨⟨hv10, ho48⟩, hb18⟩ := hv10
      have hC18 := hC9.go hb18 (fun b e => Or.inr e)
      have ho49 := ho22.go hb18 (fun e => hn1 e.symm)
      have ho50 := ho23.go hb18 (fun e => hn2 e.symm)
      refine lw_op Z Z Z (ow_fieldAddr Z Z Tryd.underlying42 Z (Tryd.sizeOf27 _) ?_)
      obtain ⟨A2, c2, rfl, -⟩ := vslice_shape hv10
      refine lw_op0 Z Z (ow_store (X := (One g)) (us := [(.slice A2 x10.1.length c2)]) (cs' := #[(.slice A2 x10.1.length c2), (Zv 2), (Zv 0)]) Z Z Z Z ho50 (Tryd.sizeOf27 _) Z Z Z Z hm5 (.inl hg4) Z hC18 fun w19 ho51 hb19 hl19 hC19 => ?_)
      have ho52 := ho48.go hb19 (fun e => hn2 e)
      have ho53 := ho49.go hb19 (fun e => hn3 e)
      refine lw_nil (ew_blockN (ew_then (cw_seq (cw_region (lw_op Z Z Z (ow_loadOwnA Z Z Z ho51 (Tryd.isAgg42 _) (Tryd.sizeOf42 _) Z (lw_op0 Z Z (ow_store (X := (One g)) (us := [(.slice A2 x10.1.length c2), (Zv 2), (Zv 0)]) (cs' := #[(.slice A2 x10.1.length c2), (Zv 2), (Zv 0)]) Z Z Z Z ho53 (Tryd.sizeOf42 _) Z Z Z Z hm4 (.inl hg2) Z hC19 fun w20 ho54 hb20 hl20 hC20 => ?_))))))))
      have ho55 := ho52.go hb20 (fun e => hn1 e)
      refine lw_nil (ew_then (cw_ret ?_))
      have hw10 : VRep RRule w20 (Add g2 (Add g1 M)) ({ Tests := x10.1, Action := 2, Chain := 0 } : Rule) (.agg #[(.slice A2 x10.1.length c2), (Zv 2), (Zv 0)]) := shut_Rule (VRep.mono (hl19.trans hl20) hv10)
      obtain rfl := sj h
      exact ew_ret (res1 Z (.cell Z (own_loadVarA ho54 (Tryd.isAgg42 _) (Tryd.sizeOf42 _) Z))) ⟨_, Z, ⟨(hw10.mono hC20.back), ho55⟩, hC20.bx⟩
   ·
    obtain rfl := hbb3.trans hc3
    refine cw_false Z (cw_skip (ew_then (cw_seq (cw_region (lw_op Z Z Z (ow_loadOwnA Z Z Z ho20 (Tryd.isAgg42 _) (Tryd.sizeOf42 _) Z ?_))))))
    have lz8 := (((((hl3.trans hl4).trans hl5).trans hl6).trans hl7).trans hl8)
    refine lw_op0 Z Z (ow_store (X := (One g)) (us := [(.slice A1 x1.1.length c1), (Zv 2), (Zv 0)]) (cs' := #[(.slice A1 x1.1.length c1), (Zv 2), (Zv 0)]) Z Z Z Z ho19 (Tryd.sizeOf42 _) Z Z Z Z hm4 (.inl hg2) Z hC8 fun w21 ho57 hb21 hl21 hC21 => ?_)
    have ho58 := ho18.go hb21 (fun e => hn1 e)
    refine lw_nil (ew_then (cw_ret ?_))
    have hw12 : VRep RRule w21 (Add g2 (Add g1 M)) ({ Tests := x1.1, Action := 2, Chain := 0 } : Rule) (.agg #[(.slice A1 x1.1.length c1), (Zv 2), (Zv 0)]) := shut_Rule (VRep.mono (lz8.trans hl21) hv1)
    obtain rfl := sj h
    exact ew_ret (res1 Z (.cell Z (own_loadVarA ho57 (Tryd.isAgg42 _) (Tryd.sizeOf42 _) Z))) ⟨_, Z, ⟨(hw12.mono hC21.back), ho58⟩, hC21.bx⟩
  ·
   obtain rfl := hbb2.trans hc2
   refine cw_false Z (cw_region (lw_op Z Z Z (ow_move Z Z (lw_op Z Z Z (ow_move Z Z (lw_op Z Z Z (ow_move Z Z (lw_op Z Z Z (ow_move Z Z (lw_op Z Z Z (ow_sub Z Z Z ?_)))))))))))
   have lz9 := (((lz1.trans hl4).trans hl5).trans hl6)
   replace h := bind_some h
   obtain ⟨x11, hx11, h⟩ := h
   refine lw_op Z Z Z (ow_call Z Z Tryd.call60 (w_spec_l20Rd_pick (hG.mono lz9) hC6.old (VRep.mono lz9 hxs) ho13 hm3 hx11) fun v11 w22 hv11 => ?_)
   obtain ⟨⟨hv11, ho60⟩, hb22⟩ := hv11
   have hl22 := Le.of_bx (Add g2 (Add g1 M)) hb22 (fun b e => (by rw [show b = g from e]; exact hm3))
   have hC22 := hC6.go hb22 (fun b e => Or.inr e)
   have ho61 := ho14.go hb22 (fun e => hn1 e.symm)
   have ho62 := ho12.go hb22 (fun e => hn2 e.symm)
   obtain rfl := vint_eq hv11
   refine lw_op Z Z Z (ow_add Z Z Z (lw_op Z Z Z (ow_fieldAddr Z Z Tryd.underlying42 Z (Tryd.sizeOf3 _) (lw_op0 Z Z (ow_store (X := (One g)) (us := [(Zv (W (a_first + x11.1)))]) (cs' := #[(.slice A1 x1.1.length c1), (Zv x3), (Zv (W (a_first + x11.1)))]) Z Z Z Z ho62 (Tryd.sizeOf3 _) Z Z Z Z hm5 (.inl hg4) Z hC22 fun w23 ho63 hb23 hl23 hC23 => ?_)))))
   have ho64 := ho60.go hb23 (fun e => hn2 e)
   have ho65 := ho61.go hb23 (fun e => hn3 e)
   refine lw_nil (ew_then (cw_seq (cw_seq (cw_region (lw_op Z Z Z (ow_move Z Z (lw_op Z Z Z (ow_move Z Z ?_))))))))
   have lz10 := ((lz9.trans hl22).trans hl23)
   replace h := bind_some h
   obtain ⟨x12, hx12, h⟩ := h
   refine lw_op Z Z Z (ow_call Z Z Tryd.call81 (w_spec_l20Rd_odd (hG.mono lz10) hC23.old (VRep.mono lz10 hxs) ho64 hm3 hx12) fun v12 w24 hv12 => ?_)
   obtain ⟨⟨hv12, ho66⟩, hb24⟩ := hv12
   have hl24 := Le.of_bx (Add g2 (Add g1 M)) hb24 (fun b e => (by rw [show b = g from e]; exact hm3))
   have hC24 := hC23.go hb24 (fun b e => Or.inr e)
   have ho67 := ho65.go hb24 (fun e => hn1 e.symm)
   have ho68 := ho63.go hb24 (fun e => hn2 e.symm)
   obtain ⟨bb6, hbb6, rfl⟩ := vbool_ex hv12
   refine lw_nil (ew_then ?_)
   replace h := cond_some h
   rcases h with ⟨hc6, h⟩ | ⟨hc6, h⟩
   ·
    obtain rfl := hbb6.trans hc6
    refine cw_true Z (cw_seq (cw_region (lw_op Z Z Z (ow_move Z Z ?_))))
    replace h := bind_some h
    obtain ⟨x13, hx13, h⟩ := h
    refine lw_op Z Z Z (ow_call Z Z Tryd.call60 (w_spec_l20Rd_pick (hG.mono (lz10.trans hl24)) hC24.old (VRep.mono (lz10.trans hl24) hxs) ho66 hm3 hx13) fun v13 w25 hv13 => ?_)
    obtain ⟨⟨hv13, ho69⟩, hb25⟩ := hv13
    have hl25 := Le.of_bx (Add g2 (Add g1 M)) hb25 (fun b e => (by rw [show b = g from e]; exact hm3))
    have hC25 := hC24.go hb25 (fun b e => Or.inr e)
    have ho70 := ho67.go hb25 (fun e => hn1 e.symm)
    have ho71 := ho68.go hb25 (fun e => hn2 e.symm)
    obtain rfl := vint_eq hv13
    refine lw_nil (ew_then (cw_block (cw_seq (cw_region (lw_op Z Z Z (ow_eqlI Z Z Z fun bb7 hbb7 => lw_op Z Z Z (ow_assign Z Z (lw_nil (ew_then ?_)))))))))
    replace h := cond_some h
    rcases h with ⟨hc7, h⟩ | ⟨hc7, h⟩
    ·
     obtain rfl := hbb7.trans hc7
     refine cw_true Z (cw_region (lw_op Z Z Z (ow_buildSlice (R := RInt) (xs := [0, 6]) (cs := #[(Zv 0), (Zv 6)]) (e := 3) Z Z (by kernel_rfl) Z Z ⟨_, _, Z, (vint _).cells, _, _, Z, (vint _).cells, Z⟩ hC25 fun p7 w26 hw13 hb26 hl26 hC26 => ?_)))
     have ho72 := ho69.no hb26
     have ho73 := ho70.no hb26
     have ho74 := ho71.no hb26
     refine lw_op Z Z Z (ow_move Z Z ?_)
     have lz11 := (((lz10.trans hl24).trans hl25).trans hl26)
     replace h := bind_some h
     obtain ⟨x14, hx14, h⟩ := h
     refine lw_op Z Z Z (ow_call Z Z Tryd.call60 (w_spec_l20Rd_pick (hG.mono lz11) hC26.old (VRep.mono lz11 hxs) ho72 hm3 hx14) fun v14 w27 hv14 => ?_)
     obtain ⟨⟨hv14, ho75⟩, hb27⟩ := hv14
     have hl27 := Le.of_bx (Add g2 (Add g1 M)) hb27 (fun b e => (by rw [show b = g from e]; exact hm3))
     have hC27 := hC26.go hb27 (fun b e => Or.inr e)
     have ho76 := ho73.go hb27 (fun e => hn1 e.symm)
     have ho77 := ho74.go hb27 (fun e => hn2 e.symm)
     obtain rfl := vint_eq hv14
     replace h := bind_some h
     obtain ⟨x15, hx15, h⟩ := h
     refine lw_op Z Z Z (ow_indexSlice (R := RInt) Z Z Z (VRep.mono hl27 hw13) Tryd.underlying52 (Tryd.sizeOf3 _) hx15 fun p8 hp8 => lw_op Z Z Z (ow_load (R := RInt) Z Z hp8 (Tryd.sizeOf3 _) (Tryd.isAgg3 _) fun v15 hv15 => ?_))
     obtain rfl := vint_eq hv15
     refine lw_op Z Z Z (ow_fieldAddr Z Z Tryd.underlying42 Z (Tryd.sizeOf3 _) (lw_op0 Z Z (ow_store (X := (One g)) (us := [(Zv x15)]) (cs' := #[(.slice A1 x1.1.length c1), (Zv x15), (Zv (W (a_first + x11.1)))]) Z Z Z Z ho77 (Tryd.sizeOf3 _) Z Z Z Z hm5 (.inl hg4) Z hC27 fun w28 ho78 hb28 hl28 hC28 => ?_)))
     have ho79 := ho75.go hb28 (fun e => hn2 e)
     have ho80 := ho76.go hb28 (fun e => hn3 e)
     refine lw_nil (ew_blockN (ew_then (cw_seq (cw_region (lw_op Z Z Z (ow_loadOwnA Z Z Z ho78 (Tryd.isAgg42 _) (Tryd.sizeOf42 _) Z ?_))))))
     have lz12 := ((((((((((hl3.trans hl4).trans hl5).trans hl6).trans hl22).trans hl23).trans hl24).trans hl25).trans hl26).trans hl27).trans hl28)
     refine lw_op0 Z Z (ow_store (X := (One g)) (us := [(.slice A1 x1.1.length c1), (Zv x15), (Zv (W (a_first + x11.1)))]) (cs' := #[(.slice A1 x1.1.length c1), (Zv x15), (Zv (W (a_first + x11.1)))]) Z Z Z Z ho80 (Tryd.sizeOf42 _) Z Z Z Z hm4 (.inl hg2) Z hC28 fun w29 ho81 hb29 hl29 hC29 => ?_)
     have ho82 := ho79.go hb29 (fun e => hn1 e)
     refine lw_nil (ew_then (cw_ret ?_))
     have hw15 : VRep RRule w29 (Add g2 (Add g1 M)) ({ Tests := x1.1, Action := x15, Chain := (W (a_first + x11.1)) } : Rule) (.agg #[(.slice A1 x1.1.length c1), (Zv x15), (Zv (W (a_first + x11.1)))]) := shut_Rule (VRep.mono (lz12.trans hl29) hv1)
     obtain rfl := sj h
     exact ew_ret (res1 Z (.cell Z (own_loadVarA ho81 (Tryd.isAgg42 _) (Tryd.sizeOf42 _) Z))) ⟨_, Z, ⟨(hw15.mono hC29.back), ho82⟩, hC29.bx⟩
    ·
     obtain rfl := hbb7.trans hc7
     refine cw_false Z (cw_seq (cw_region (lw_op Z Z Z (ow_eqlI Z Z Z fun bb8 hbb8 => lw_op Z Z Z (ow_assign Z Z (lw_nil (ew_then ?_)))))))
     replace h := cond_some h
     rcases h with ⟨hc8, h⟩ | ⟨hc8, h⟩
     ·
      obtain rfl := hbb8.trans hc8
      refine cw_true Z (cw_region (lw_op Z Z Z (ow_buildSlice (R := RInt) (xs := [(-1), 5, 1]) (cs := #[(Zv (-1)), (Zv 5), (Zv 1)]) (e := 3) Z Z (by kernel_rfl) Z Z ⟨_, _, Z, (vint _).cells, _, _, Z, (vint _).cells, _, _, Z, (vint _).cells, Z⟩ hC25 fun p9 w30 hw16 hb30 hl30 hC30 => ?_)))
      have ho84 := ho69.no hb30
      have ho85 := ho70.no hb30
      have ho86 := ho71.no hb30
      refine lw_op Z Z Z (ow_move Z Z ?_)
      have lz13 := (((lz10.trans hl24).trans hl25).trans hl30)
      replace h := bind_some h
      obtain ⟨x16, hx16, h⟩ := h
      refine lw_op Z Z Z (ow_call Z Z Tryd.call60 (w_spec_l20Rd_pick (hG.mono lz13) hC30.old (VRep.mono lz13 hxs) ho84 hm3 hx16) fun v16 w31 hv16 => ?_)
      obtain ⟨⟨hv16, ho87⟩, hb31⟩ := hv16
      have hl31 := Le.of_bx (Add g2 (Add g1 M)) hb31 (fun b e => (by rw [show b = g from e]; exact hm3))
      have hC31 := hC30.go hb31 (fun b e => Or.inr e)
      have ho88 := ho85.go hb31 (fun e => hn1 e.symm)
      have ho89 := ho86.go hb31 (fun e => hn2 e.symm)
      obtain rfl := vint_eq hv16
      replace h := bind_some h
      obtain ⟨x17, hx17, h⟩ := h
      refine lw_op Z Z Z (ow_indexSlice (R := RInt) Z Z Z (VRep.mono hl31 hw16) Tryd.underlying52 (Tryd.sizeOf3 _) hx17 fun p10 hp10 => lw_op Z Z Z (ow_load (R := RInt) Z Z hp10 (Tryd.sizeOf3 _) (Tryd.isAgg3 _) fun v17 hv17 => ?_))
      obtain rfl := vint_eq hv17
      refine lw_op Z Z Z (ow_fieldAddr Z Z Tryd.underlying42 Z (Tryd.sizeOf3 _) (lw_op0 Z Z (ow_store (X := (One g)) (us := [(Zv x17)]) (cs' := #[(.slice A1 x1.1.length c1), (Zv x3), (Zv x17)]) Z Z Z Z ho89 (Tryd.sizeOf3 _) Z Z Z Z hm5 (.inl hg4) Z hC31 fun w32 ho90 hb32 hl32 hC32 => ?_)))
      have ho91 := ho87.go hb32 (fun e => hn2 e)
      have ho92 := ho88.go hb32 (fun e => hn3 e)
      refine lw_nil (ew_blockN (ew_then (cw_seq (cw_region (lw_op Z Z Z (ow_loadOwnA Z Z Z ho90 (Tryd.isAgg42 _) (Tryd.sizeOf42 _) Z ?_))))))
      have lz14 := ((((((((((hl3.trans hl4).trans hl5).trans hl6).trans hl22).trans hl23).trans hl24).trans hl25).trans hl30).trans hl31).trans hl32)
      refine lw_op0 Z Z (ow_store (X := (One g)) (us := [(.slice A1 x1.1.length c1), (Zv x3), (Zv x17)]) (cs' := #[(.slice A1 x1.1.length c1), (Zv x3), (Zv x17)]) Z Z Z Z ho92 (Tryd.sizeOf42 _) Z Z Z Z hm4 (.inl hg2) Z hC32 fun w33 ho93 hb33 hl33 hC33 => ?_)
      have ho94 := ho91.go hb33 (fun e => hn1 e)
      refine lw_nil (ew_then (cw_ret ?_))
      have hw18 : VRep RRule w33 (Add g2 (Add g1 M)) ({ Tests := x1.1, Action := x3, Chain := x17 } : Rule) (.agg #[(.slice A1 x1.1.length c1), (Zv x3), (Zv x17)]) := shut_Rule (VRep.mono (lz14.trans hl33) hv1)
      obtain rfl := sj h
      exact ew_ret (res1 Z (.cell Z (own_loadVarA ho93 (Tryd.isAgg42 _) (Tryd.sizeOf42 _) Z))) ⟨_, Z, ⟨(hw18.mono hC33.back), ho94⟩, hC33.bx⟩
     ·
      obtain rfl := hbb8.trans hc8
      refine cw_false Z (cw_region (lw_op Z Z Z (ow_move Z Z ?_)))
      have lz15 := ((lz10.trans hl24).trans hl25)
      replace h := bind_some h
      obtain ⟨x18, hx18, h⟩ := h
      refine lw_op Z Z Z (ow_call Z Z Tryd.call79 (w_spec_l20Tests (hG.mono lz15) hC25.old (VRep.mono lz15 hxs) ho69 hm3 hx18) fun v18 w34 hv18 => ?_)
      obtain ⟨⟨hv18, ho96⟩, hb34⟩ := hv18
      have hC34 := hC25.go hb34 (fun b e => Or.inr e)
      have ho97 := ho70.go hb34 (fun e => hn1 e.symm)
      have ho98 := ho71.go hb34 (fun e => hn2 e.symm)
      refine lw_op Z Z Z (ow_fieldAddr Z Z Tryd.underlying42 Z (Tryd.sizeOf27 _) ?_)
      obtain ⟨A3, c3, rfl, -⟩ := vslice_shape hv18
      refine lw_op0 Z Z (ow_store (X := (One g)) (us := [(.slice A3 x18.1.length c3)]) (cs' := #[(.slice A3 x18.1.length c3), (Zv x3), (Zv (W (a_first + x11.1)))]) Z Z Z Z ho98 (Tryd.sizeOf27 _) Z Z Z Z hm5 (.inl hg4) Z hC34 fun w35 ho99 hb35 hl35 hC35 => ?_)
      have ho100 := ho96.go hb35 (fun e => hn2 e)
      have ho101 := ho97.go hb35 (fun e => hn3 e)
      refine lw_nil (ew_blockN (ew_then (cw_seq (cw_region (lw_op Z Z Z (ow_loadOwnA Z Z Z ho99 (Tryd.isAgg42 _) (Tryd.sizeOf42 _) Z (lw_op0 Z Z (ow_store (X := (One g)) (us := [(.slice A3 x18.1.length c3), (Zv x3), (Zv (W (a_first + x11.1)))]) (cs' := #[(.slice A3 x18.1.length c3), (Zv x3), (Zv (W (a_first + x11.1)))]) Z Z Z Z ho101 (Tryd.sizeOf42 _) Z Z Z Z hm4 (.inl hg2) Z hC35 fun w36 ho102 hb36 hl36 hC36 => ?_))))))))
      have ho103 := ho100.go hb36 (fun e => hn1 e)
      refine lw_nil (ew_then (cw_ret ?_))
      have hw20 : VRep RRule w36 (Add g2 (Add g1 M)) ({ Tests := x18.1, Action := x3, Chain := (W (a_first + x11.1)) } : Rule) (.agg #[(.slice A3 x18.1.length c3), (Zv x3), (Zv (W (a_first + x11.1)))]) := shut_Rule (VRep.mono (hl35.trans hl36) hv18)
      obtain rfl := sj h
      exact ew_ret (res1 Z (.cell Z (own_loadVarA ho102 (Tryd.isAgg42 _) (Tryd.sizeOf42 _) Z))) ⟨_, Z, ⟨(hw20.mono hC36.back), ho103⟩, hC36.bx⟩
   ·
    obtain rfl := hbb6.trans hc6
    refine cw_false Z (cw_skip (ew_then (cw_seq (cw_region (lw_op Z Z Z (ow_loadOwnA Z Z Z ho68 (Tryd.isAgg42 _) (Tryd.sizeOf42 _) Z ?_))))))
    have lz16 := ((((((hl3.trans hl4).trans hl5).trans hl6).trans hl22).trans hl23).trans hl24)
    refine lw_op0 Z Z (ow_store (X := (One g)) (us := [(.slice A1 x1.1.length c1), (Zv x3), (Zv (W (a_first + x11.1)))]) (cs' := #[(.slice A1 x1.1.length c1), (Zv x3), (Zv (W (a_first + x11.1)))]) Z Z Z Z ho67 (Tryd.sizeOf42 _) Z Z Z Z hm4 (.inl hg2) Z hC24 fun w37 ho105 hb37 hl37 hC37 => ?_)
    have ho106 := ho66.go hb37 (fun e => hn1 e)
    refine lw_nil (ew_then (cw_ret ?_))
    have hw22 : VRep RRule w37 (Add g2 (Add g1 M)) ({ Tests := x1.1, Action := x3, Chain := (W (a_first + x11.1)) } : Rule) (.agg #[(.slice A1 x1.1.length c1), (Zv x3), (Zv (W (a_first + x11.1)))]) := shut_Rule (VRep.mono (lz16.trans hl37) hv1)
    obtain rfl := sj h
    exact ew_ret (res1 Z (.cell Z (own_loadVarA ho105 (Tryd.isAgg42 _) (Tryd.sizeOf42 _) Z))) ⟨_, Z, ⟨(hw22.mono hC37.back), ho106⟩, hC37.bx⟩
 ·
  obtain rfl := hbb1.trans hc1
  refine cw_false Z (cw_skip (ew_then (cw_seq (cw_seq (cw_region (lw_op Z Z Z (ow_move Z Z (lw_op Z Z Z (ow_move Z Z ?_)))))))))
  have lz17 := (((lz1.trans hl4).trans hl5).trans hl6)
  replace h := bind_some h
  obtain ⟨x19, hx19, h⟩ := h
  refine lw_op Z Z Z (ow_call Z Z Tryd.call81 (w_spec_l20Rd_odd (hG.mono lz17) hC6.old (VRep.mono lz17 hxs) ho13 hm3 hx19) fun v19 w38 hv19 => ?_)
  obtain ⟨⟨hv19, ho108⟩, hb38⟩ := hv19
  have hl38 := Le.of_bx (Add g2 (Add g1 M)) hb38 (fun b e => (by rw [show b = g from e]; exact hm3))
  have hC38 := hC6.go hb38 (fun b e => Or.inr e)
  have ho109 := ho14.go hb38 (fun e => hn1 e.symm)
  have ho110 := ho12.go hb38 (fun e => hn2 e.symm)
  obtain ⟨bb9, hbb9, rfl⟩ := vbool_ex hv19
  refine lw_nil (ew_then ?_)
  replace h := cond_some h
  rcases h with ⟨hc9, h⟩ | ⟨hc9, h⟩
  ·
   obtain rfl := hbb9.trans hc9
   refine cw_true Z (cw_seq (cw_region (lw_op Z Z Z (ow_move Z Z ?_))))
   replace h := bind_some h
   obtain ⟨x20, hx20, h⟩ := h
   refine lw_op Z Z Z (ow_call Z Z Tryd.call60 (w_spec_l20Rd_pick (hG.mono (lz17.trans hl38)) hC38.old (VRep.mono (lz17.trans hl38) hxs) ho108 hm3 hx20) fun v20 w39 hv20 => ?_)
   obtain ⟨⟨hv20, ho111⟩, hb39⟩ := hv20
   have hl39 := Le.of_bx (Add g2 (Add g1 M)) hb39 (fun b e => (by rw [show b = g from e]; exact hm3))
   have hC39 := hC38.go hb39 (fun b e => Or.inr e)
   have ho112 := ho109.go hb39 (fun e => hn1 e.symm)
   have ho113 := ho110.go hb39 (fun e => hn2 e.symm)
   obtain rfl := vint_eq hv20
   refine lw_nil (ew_then (cw_block (cw_seq (cw_region (lw_op Z Z Z (ow_eqlI Z Z Z fun bb10 hbb10 => lw_op Z Z Z (ow_assign Z Z (lw_nil (ew_then ?_)))))))))
   replace h := cond_some h
   rcases h with ⟨hc10, h⟩ | ⟨hc10, h⟩
   ·
    obtain rfl := hbb10.trans hc10
    refine cw_true Z (cw_region (lw_op Z Z Z (ow_buildSlice (R := RInt) (xs := [0, 6]) (cs := #[(Zv 0), (Zv 6)]) (e := 3) Z Z (by kernel_rfl) Z Z ⟨_, _, Z, (vint _).cells, _, _, Z, (vint _).cells, Z⟩ hC39 fun p11 w40 hw23 hb40 hl40 hC40 => ?_)))
    have ho114 := ho111.no hb40
    have ho115 := ho112.no hb40
    have ho116 := ho113.no hb40
    refine lw_op Z Z Z (ow_move Z Z ?_)
    have lz18 := (((lz17.trans hl38).trans hl39).trans hl40)
    replace h := bind_some h
    obtain ⟨x21, hx21, h⟩ := h
    refine lw_op Z Z Z (ow_call Z Z Tryd.call60 (w_spec_l20Rd_pick (hG.mono lz18) hC40.old (VRep.mono lz18 hxs) ho114 hm3 hx21) fun v21 w41 hv21 => ?_)
    obtain ⟨⟨hv21, ho117⟩, hb41⟩ := hv21
    have hl41 := Le.of_bx (Add g2 (Add g1 M)) hb41 (fun b e => (by rw [show b = g from e]; exact hm3))
    have hC41 := hC40.go hb41 (fun b e => Or.inr e)
    have ho118 := ho115.go hb41 (fun e => hn1 e.symm)
    have ho119 := ho116.go hb41 (fun e => hn2 e.symm)
    obtain rfl := vint_eq hv21
    replace h := bind_some h
    obtain ⟨x22, hx22, h⟩ := h
    refine lw_op Z Z Z (ow_indexSlice (R := RInt) Z Z Z (VRep.mono hl41 hw23) Tryd.underlying52 (Tryd.sizeOf3 _) hx22 fun p12 hp12 => lw_op Z Z Z (ow_load (R := RInt) Z Z hp12 (Tryd.sizeOf3 _) (Tryd.isAgg3 _) fun v22 hv22 => ?_))
    obtain rfl := vint_eq hv22
    refine lw_op Z Z Z (ow_fieldAddr Z Z Tryd.underlying42 Z (Tryd.sizeOf3 _) (lw_op0 Z Z (ow_store (X := (One g)) (us := [(Zv x22)]) (cs' := #[(.slice A1 x1.1.length c1), (Zv x22), (Zv 0)]) Z Z Z Z ho119 (Tryd.sizeOf3 _) Z Z Z Z hm5 (.inl hg4) Z hC41 fun w42 ho120 hb42 hl42 hC42 => ?_)))
    have ho121 := ho117.go hb42 (fun e => hn2 e)
    have ho122 := ho118.go hb42 (fun e => hn3 e)
    refine lw_nil (ew_blockN (ew_then (cw_seq (cw_region (lw_op Z Z Z (ow_loadOwnA Z Z Z ho120 (Tryd.isAgg42 _) (Tryd.sizeOf42 _) Z ?_))))))
    have lz19 := ((((((((hl3.trans hl4).trans hl5).trans hl6).trans hl38).trans hl39).trans hl40).trans hl41).trans hl42)
    refine lw_op0 Z Z (ow_store (X := (One g)) (us := [(.slice A1 x1.1.length c1), (Zv x22), (Zv 0)]) (cs' := #[(.slice A1 x1.1.length c1), (Zv x22), (Zv 0)]) Z Z Z Z ho122 (Tryd.sizeOf42 _) Z Z Z Z hm4 (.inl hg2) Z hC42 fun w43 ho123 hb43 hl43 hC43 => ?_)
    have ho124 := ho121.go hb43 (fun e => hn1 e)
    refine lw_nil (ew_then (cw_ret ?_))
    have hw25 : VRep RRule w43 (Add g2 (Add g1 M)) ({ Tests := x1.1, Action := x22, Chain := 0 } : Rule) (.agg #[(.slice A1 x1.1.length c1), (Zv x22), (Zv 0)]) := shut_Rule (VRep.mono (lz19.trans hl43) hv1)
    obtain rfl := sj h
    exact ew_ret (res1 Z (.cell Z (own_loadVarA ho123 (Tryd.isAgg42 _) (Tryd.sizeOf42 _) Z))) ⟨_, Z, ⟨(hw25.mono hC43.back), ho124⟩, hC43.bx⟩
   ·
    obtain rfl := hbb10.trans hc10
    refine cw_false Z (cw_seq (cw_region (lw_op Z Z Z (ow_eqlI Z Z Z fun bb11 hbb11 => lw_op Z Z Z (ow_assign Z Z (lw_nil (ew_then ?_)))))))
    replace h := cond_some h
    rcases h with ⟨hc11, h⟩ | ⟨hc11, h⟩
    ·
     obtain rfl := hbb11.trans hc11
     refine cw_true Z (cw_region (lw_op Z Z Z (ow_buildSlice (R := RInt) (xs := [(-1), 5, 1]) (cs := #[(Zv (-1)), (Zv 5), (Zv 1)]) (e := 3) Z Z (by kernel_rfl) Z Z ⟨_, _, Z, (vint _).cells, _, _, Z, (vint _).cells, _, _, Z, (vint _).cells, Z⟩ hC39 fun p13 w44 hw26 hb44 hl44 hC44 => ?_)))
     have ho126 := ho111.no hb44
     have ho127 := ho112.no hb44
     have ho128 := ho113.no hb44
     refine lw_op Z Z Z (ow_move Z Z ?_)
     have lz20 := (((lz17.trans hl38).trans hl39).trans hl44)
     replace h := bind_some h
     obtain ⟨x23, hx23, h⟩ := h
     refine lw_op Z Z Z (ow_call Z Z Tryd.call60 (w_spec_l20Rd_pick (hG.mono lz20) hC44.old (VRep.mono lz20 hxs) ho126 hm3 hx23) fun v23 w45 hv23 => ?_)
     obtain ⟨⟨hv23, ho129⟩, hb45⟩ := hv23
     have hl45 := Le.of_bx (Add g2 (Add g1 M)) hb45 (fun b e => (by rw [show b = g from e]; exact hm3))
     have hC45 := hC44.go hb45 (fun b e => Or.inr e)
     have ho130 := ho127.go hb45 (fun e => hn1 e.symm)
     have ho131 := ho128.go hb45 (fun e => hn2 e.symm)
     obtain rfl := vint_eq hv23
     replace h := bind_some h
     obtain ⟨x24, hx24, h⟩ := h
     refine lw_op Z Z Z (ow_indexSlice (R := RInt) Z Z Z (VRep.mono hl45 hw26) Tryd.underlying52 (Tryd.sizeOf3 _) hx24 fun p14 hp14 => lw_op Z Z Z (ow_load (R := RInt) Z Z hp14 (Tryd.sizeOf3 _) (Tryd.isAgg3 _) fun v24 hv24 => ?_))
     obtain rfl := vint_eq hv24
     refine lw_op Z Z Z (ow_fieldAddr Z Z Tryd.underlying42 Z (Tryd.sizeOf3 _) (lw_op0 Z Z (ow_store (X := (One g)) (us := [(Zv x24)]) (cs' := #[(.slice A1 x1.1.length c1), (Zv x3), (Zv x24)]) Z Z Z Z ho131 (Tryd.sizeOf3 _) Z Z Z Z hm5 (.inl hg4) Z hC45 fun w46 ho132 hb46 hl46 hC46 => ?_)))
     have ho133 := ho129.go hb46 (fun e => hn2 e)
     have ho134 := ho130.go hb46 (fun e => hn3 e)
     refine lw_nil (ew_blockN (ew_then (cw_seq (cw_region (lw_op Z Z Z (ow_loadOwnA Z Z Z ho132 (Tryd.isAgg42 _) (Tryd.sizeOf42 _) Z ?_))))))
     have lz21 := ((((((((hl3.trans hl4).trans hl5).trans hl6).trans hl38).trans hl39).trans hl44).trans hl45).trans hl46)
     refine lw_op0 Z Z (ow_store (X := (One g)) (us := [(.slice A1 x1.1.length c1), (Zv x3), (Zv x24)]) (cs' := #[(.slice A1 x1.1.length c1), (Zv x3), (Zv x24)]) Z Z Z Z ho134 (Tryd.sizeOf42 _) Z Z Z Z hm4 (.inl hg2) Z hC46 fun w47 ho135 hb47 hl47 hC47 => ?_)
     have ho136 := ho133.go hb47 (fun e => hn1 e)
     refine lw_nil (ew_then (cw_ret ?_))
     have hw28 : VRep RRule w47 (Add g2 (Add g1 M)) ({ Tests := x1.1, Action := x3, Chain := x24 } : Rule) (.agg #[(.slice A1 x1.1.length c1), (Zv x3), (Zv x24)]) := shut_Rule (VRep.mono (lz21.trans hl47) hv1)
     obtain rfl := sj h
     exact ew_ret (res1 Z (.cell Z (own_loadVarA ho135 (Tryd.isAgg42 _) (Tryd.sizeOf42 _) Z))) ⟨_, Z, ⟨(hw28.mono hC47.back), ho136⟩, hC47.bx⟩
    ·
     obtain rfl := hbb11.trans hc11
     refine cw_false Z (cw_region (lw_op Z Z Z (ow_move Z Z ?_)))
     have lz22 := ((lz17.trans hl38).trans hl39)
     replace h := bind_some h
     obtain ⟨x25, hx25, h⟩ := h
     refine lw_op Z Z Z (ow_call Z Z Tryd.call79 (w_spec_l20Tests (hG.mono lz22) hC39.old (VRep.mono lz22 hxs) ho111 hm3 hx25) fun v25 w48 hv25 => ?_)
     obtain ⟨⟨hv25, ho138⟩, hb48⟩ := hv25
     have hC48 := hC39.go hb48 (fun b e => Or.inr e)
     have ho139 := ho112.go hb48 (fun e => hn1 e.symm)
     have ho140 := ho113.go hb48 (fun e => hn2 e.symm)
     refine lw_op Z Z Z (ow_fieldAddr Z Z Tryd.underlying42 Z (Tryd.sizeOf27 _) ?_)
     obtain ⟨A4, c4, rfl, -⟩ := vslice_shape hv25
     refine lw_op0 Z Z (ow_store (X := (One g)) (us := [(.slice A4 x25.1.length c4)]) (cs' := #[(.slice A4 x25.1.length c4), (Zv x3), (Zv 0)]) Z Z Z Z ho140 (Tryd.sizeOf27 _) Z Z Z Z hm5 (.inl hg4) Z hC48 fun w49 ho141 hb49 hl49 hC49 => ?_)
     have ho142 := ho138.go hb49 (fun e => hn2 e)
     have ho143 := ho139.go hb49 (fun e => hn3 e)
     refine lw_nil (ew_blockN (ew_then (cw_seq (cw_region (lw_op Z Z Z (ow_loadOwnA Z Z Z ho141 (Tryd.isAgg42 _) (Tryd.sizeOf42 _) Z (lw_op0 Z Z (ow_store (X := (One g)) (us := [(.slice A4 x25.1.length c4), (Zv x3), (Zv 0)]) (cs' := #[(.slice A4 x25.1.length c4), (Zv x3), (Zv 0)]) Z Z Z Z ho143 (Tryd.sizeOf42 _) Z Z Z Z hm4 (.inl hg2) Z hC49 fun w50 ho144 hb50 hl50 hC50 => ?_))))))))
     have ho145 := ho142.go hb50 (fun e => hn1 e)
     refine lw_nil (ew_then (cw_ret ?_))
     have hw30 : VRep RRule w50 (Add g2 (Add g1 M)) ({ Tests := x25.1, Action := x3, Chain := 0 } : Rule) (.agg #[(.slice A4 x25.1.length c4), (Zv x3), (Zv 0)]) := shut_Rule (VRep.mono (hl49.trans hl50) hv25)
     obtain rfl := sj h
     exact ew_ret (res1 Z (.cell Z (own_loadVarA ho144 (Tryd.isAgg42 _) (Tryd.sizeOf42 _) Z))) ⟨_, Z, ⟨(hw30.mono hC50.back), ho145⟩, hC50.bx⟩
  ·
   obtain rfl := hbb9.trans hc9
   refine cw_false Z (cw_skip (ew_then (cw_seq (cw_region (lw_op Z Z Z (ow_loadOwnA Z Z Z ho110 (Tryd.isAgg42 _) (Tryd.sizeOf42 _) Z ?_))))))
   have lz23 := ((((hl3.trans hl4).trans hl5).trans hl6).trans hl38)
   refine lw_op0 Z Z (ow_store (X := (One g)) (us := [(.slice A1 x1.1.length c1), (Zv x3), (Zv 0)]) (cs' := #[(.slice A1 x1.1.length c1), (Zv x3), (Zv 0)]) Z Z Z Z ho109 (Tryd.sizeOf42 _) Z Z Z Z hm4 (.inl hg2) Z hC38 fun w51 ho147 hb51 hl51 hC51 => ?_)
   have ho148 := ho108.go hb51 (fun e => hn1 e)
   refine lw_nil (ew_then (cw_ret ?_))
   have hw32 : VRep RRule w51 (Add g2 (Add g1 M)) ({ Tests := x1.1, Action := x3, Chain := 0 } : Rule) (.agg #[(.slice A1 x1.1.length c1), (Zv x3), (Zv 0)]) := shut_Rule (VRep.mono (lz23.trans hl51) hv1)
   obtain rfl := sj h
   exact ew_ret (res1 Z (.cell Z (own_loadVarA ho147 (Tryd.isAgg42 _) (Tryd.sizeOf42 _) Z))) ⟨_, Z, ⟨(hw32.mono hC51.back), ho148⟩, hC51.bx⟩

theorem wo_spec_l20Rules {w : World} {M : Nat → Prop} (hG : ARep (RArr 4 RShape) w M shapes ⟨0, 0, none⟩) (hO : ∀ b, M b → b < w.heap.size) {g : Nat} {Ax : Option Addr} {cx : Nat} {a_xs : List Int} {a_pos : Int} (hxs : VRep (RSlice RU8) w M a_xs (.slice Ax a_xs.length cx)) (hown : Own w g 111 #[.slice Ax a_xs.length cx, .int .i64 a_pos]) (hgM : M g) {a_first : Int} {a_chains : Int} {a_n : Int} {r : ((List Rule)) × Int} (h : F.spec_l20Rules a_xs a_pos a_first a_chains a_n = some r) :
  Calls Tryd.prog 59 [(.pointer (some ⟨g, 0, none⟩)), (.int .i64 a_first), (.int .i64 a_chains), (.int .i64 a_n)].toArray w fun e w' => ∃ v, e = .returned v ∧ ((∃ M', OwnRow RRule w.heap.size 42 w' M' r.1 v ∧ Cx (One g) w M w' M') ∧ Own w' g 111 #[.slice Ax a_xs.length cx, .int .i64 r.2]) ∧ BX (One g) w w' := by
 obtain ⟨i42, hi42, hz42, hs42, hy42⟩ := info42
 have hX : ∀ b, (One g) b → M b := fun b e => e ▸ hgM
 have hC : Cx (One g) w M w M := Cx.start hO hX
 refine walk (N := 46) Tryd.func59 Z Tryd.ntmps59 Z (cw_seq (cw_region (lw_op Z Z Z (ow_assign Z Z (lw_nil (ew_then (cw_seq (cw_region (lw_op Z Z Z (ow_buildSlice0 (R := RRule) (e := 42) Z (by kernel_rfl) hC fun p1 w1 M1 hr1 hb1 hl1 hC1 hM1 hat1 => ?_))))))))))
 have ho1 := hown.no hb1
 have hm1 := hM1 _ hgM
 refine lw_op Z Z Z (ow_assign Z Z (lw_nil (ew_then (cw_seq (cw_seq (cw_region (lw_op Z Z Z (ow_move Z Z ?_))))))))
 replace h := bind_some h
 obtain ⟨x1, hx1, h⟩ := h
 refine lw_op Z Z Z (ow_call Z Z Tryd.call60 (w_spec_l20Rd_pick (hG.mono hl1) hC1.old (VRep.mono hl1 hxs) ho1 hm1 hx1) fun v1 w2 hv1 => ?_)
 obtain ⟨⟨hv1, ho2⟩, hb2⟩ := hv1
 have hl2 := Le.of_bx M1 hb2 (fun b e => (by rw [show b = g from e]; exact hm1))
 have hC2 := hC1.go hb2 (fun b e => Or.inr e)
 have hr2 := hr1.go hb2 (fun k hk e => (orow_ne hr1 ho1 (by decide)) (hk.trans (congrArg some e))) hl2 (fun _ h => h)
 obtain rfl := vint_eq hv1
 refine lw_op Z Z Z (ow_assign Z Z (lw_nil (ew_then ?_)))
 replace h := bind_some h
 obtain ⟨lr1, hlr1, h⟩ := h
 refine cw_for hlr1 (fun s a w' => ∃ (M' : Nat → Prop) (v0c : Value), Fits 46 [(0, (Zw g 0)), (1, (Zv a_first)), (2, (Zv a_chains)), (3, (Zv a_n)), (9, v0c), (10, (Zv s.2.1))] a ∧ Le w2 M1 w' M' ∧ Cx (One g) w M w' M' ∧ OwnRow RRule w.heap.size 42 w' M' s.1 v0c ∧ Own w' g 111 #[(.slice Ax a_xs.length cx), (Zv s.2.2)] ∧ M' g) ?_ ?_ ?_
 · exact fun a ha => ⟨M1, (.slice (some p1) 0 0), ha.sub ⟨Z, Z, Z, Z, Z, Z, Zt⟩, Le.refl _ _, hC2, hr2, ho2, hm1⟩
 ·
  rintro ⟨y1, k1, k2⟩ a w3 sr1 ⟨M2, v2, hF1, hl3, hC3, hw1, ho3, hm2⟩ hb3 hR1
  refine cw_at (E := [(0, (Zw g 0)), (1, (Zv a_first)), (2, (Zv a_chains)), (3, (Zv a_n)), (9, v2), (10, (Zv k1))]) hF1 (cw_seq (cw_seq (cw_region (lw_op Z Z Z (ow_move Z Z (lw_op Z Z Z (ow_gtr Z Z Z fun bb1 hbb1 => lw_nil (ew_then ?_))))))))
  replace hb3 := cond_some hb3
  rcases hb3 with ⟨hc1, hb3⟩ | ⟨hc1, hb3⟩
  ·
   obtain rfl := hbb1.trans hc1
   refine cw_true Z (cw_skip (ew_then (cw_seq (cw_block (cw_region (lw_op Z Z Z (ow_move Z Z (lw_op Z Z Z (ow_move Z Z (lw_op Z Z Z (ow_move Z Z (lw_op Z Z Z (ow_move Z Z ?_)))))))))))))
   have lz1 := ((hl1.trans hl2).trans hl3)
   replace hb3 := bind_some hb3
   obtain ⟨x2, hx2, hb3⟩ := hb3
   refine lw_op Z Z Z (ow_call Z Z Tryd.call89 (w_spec_l20Rule (hG.mono lz1) hC3.old (VRep.mono lz1 hxs) ho3 hm2 hx2) fun v5 w4 hv5 => ?_)
   obtain ⟨⟨hv5, ho4⟩, hb4⟩ := hv5
   have hl4 := Le.of_bx M2 hb4 (fun b e => (by rw [show b = g from e]; exact hm2))
   have hC4 := hC3.go hb4 (fun b e => Or.inr e)
   have hr3 := hw1.go hb4 (fun k hk e => (orow_ne hw1 ho3 (by decide)) (hk.trans (congrArg some e))) hl4 (fun _ h => h)
   obtain ⟨A1, c1, rfl, hw2⟩ := open_Rule hv5
   refine lw_op Z Z Z (ow_buildSlice (R := RRule) (xs := [x2.1]) (cs := #[(.slice A1 x2.1.Tests.length c1), (Zv x2.1.Action), (Zv x2.1.Chain)]) (e := 42) Z Z (by kernel_rfl) Z Z ⟨_, _, Z, hv5.cells, Z⟩ hC4 fun p2 w5 hw3 hb5 hl5 hC5 => ?_)
   have ho5 := ho4.no hb5
   have hr4 := hr3.no hb5
   replace hb3 := bind_some hb3
   obtain ⟨z1, hz1, hb3⟩ := hb3
   refine lw_op Z Z Z (ow_append (R := RRule) Z Z Z Z Tryd.underlying36 hi42 hz42 hs42 hy42 Z Z Z Z hr4 hw3 hz1 hC5 fun v6 w6 M3 hr5 hb6 hl6 hC6 hM2 hat2 => ?_)
   have ho6 := ho5.go hb6 (fun e => (orow_ne hr4 ho5 (by decide)) e)
   have hm3 := hM2 _ hm2
   refine lw_op Z Z Z (ow_assign Z Z (lw_nil (ew_blockN (ew_then (cw_region (lw_op Z Z Z (ow_move Z Z (lw_op Z Z Z (ow_sub Z Z Z (lw_op Z Z Z (ow_assign Z Z (lw_nil ?_))))))))))))
   have lz2 := (((hl3.trans hl4).trans hl5).trans hl6)
   exact ew_nxt (z1, (W (k1 - 1)), x2.2) hb3 fun a ha => ⟨M3, v6, (ha.sub ⟨Z, Z, Z, Z, Z, Z, Zt⟩), lz2, hC6, hr5, ho6, hm3⟩
  ·
   obtain rfl := hbb1.trans hc1
   exact cw_false Z (cw_exit (ew_thenX (ew_thenX (ew_blockX (ew_brk (y1, k1, k2) hb3 fun a ha => ⟨M2, v2, (ha.sub ⟨Z, Z, Z, Z, Z, Z, Zt⟩), hl3, hC3, hw1, ho3, hm2⟩)))))
 ·
  rintro ⟨y2, k3, k4⟩ a w7 hlr2 ⟨M4, v7, hF2, hl7, hC7, hw4, ho7, hm4⟩
  subst hlr2
  refine ew_at (E := [(0, (Zw g 0)), (1, (Zv a_first)), (2, (Zv a_chains)), (3, (Zv a_n)), (9, v7), (10, (Zv k3))]) hF2 (ew_then (cw_seq (cw_seq (cw_region (lw_op Z Z Z (ow_move Z Z (lw_op Z Z Z (ow_move Z Z ?_))))))))
  have lz3 := ((hl1.trans hl2).trans hl7)
  replace h := bind_some h
  obtain ⟨x3, hx3, h⟩ := h
  refine lw_op Z Z Z (ow_call Z Z Tryd.call81 (w_spec_l20Rd_odd (hG.mono lz3) hC7.old (VRep.mono lz3 hxs) ho7 hm4 hx3) fun v10 w8 hv10 => ?_)
  obtain ⟨⟨hv10, ho8⟩, hb7⟩ := hv10
  have hl8 := Le.of_bx M4 hb7 (fun b e => (by rw [show b = g from e]; exact hm4))
  have hC8 := hC7.go hb7 (fun b e => Or.inr e)
  have hr6 := hw4.go hb7 (fun k hk e => (orow_ne hw4 ho7 (by decide)) (hk.trans (congrArg some e))) hl8 (fun _ h => h)
  obtain ⟨bb2, hbb2, rfl⟩ := vbool_ex hv10
  refine lw_nil (ew_then ?_)
  replace h := cond_some h
  rcases h with ⟨hc2, h⟩ | ⟨hc2, h⟩
  ·
   obtain rfl := hbb2.trans hc2
   refine cw_true Z (cw_seq (cw_region (lw_op Z Z Z (ow_move Z Z ?_))))
   replace h := bind_some h
   obtain ⟨x4, hx4, h⟩ := h
   refine lw_op Z Z Z (ow_call Z Z Tryd.call60 (w_spec_l20Rd_pick (hG.mono (lz3.trans hl8)) hC8.old (VRep.mono (lz3.trans hl8) hxs) ho8 hm4 hx4) fun v11 w9 hv11 => ?_)
   obtain ⟨⟨hv11, ho9⟩, hb8⟩ := hv11
   have hl9 := Le.of_bx M4 hb8 (fun b e => (by rw [show b = g from e]; exact hm4))
   have hC9 := hC8.go hb8 (fun b e => Or.inr e)
   have hr7 := hr6.go hb8 (fun k hk e => (orow_ne hr6 ho8 (by decide)) (hk.trans (congrArg some e))) hl9 (fun _ h => h)
   obtain rfl := vint_eq hv11
   refine lw_op Z Z Z (ow_eqlI Z Z Z fun bb3 hbb3 => lw_nil (ew_then ?_))
   replace h := cond_some h
   rcases h with ⟨hc3, h⟩ | ⟨hc3, h⟩
   ·
    obtain rfl := hbb3.trans hc3
    refine cw_true Z (cw_region (lw_op Z Z Z (ow_move Z Z (lw_op Z Z Z (ow_move Z Z (lw_op Z Z Z (ow_move Z Z (lw_op Z Z Z (ow_move Z Z ?_)))))))))
    have lz4 := ((lz3.trans hl8).trans hl9)
    replace h := bind_some h
    obtain ⟨x5, hx5, h⟩ := h
    refine lw_op Z Z Z (ow_call Z Z Tryd.call89 (w_spec_l20Rule (hG.mono lz4) hC9.old (VRep.mono lz4 hxs) ho9 hm4 hx5) fun v12 w10 hv12 => ?_)
    obtain ⟨⟨hv12, ho10⟩, hb9⟩ := hv12
    have hl10 := Le.of_bx M4 hb9 (fun b e => (by rw [show b = g from e]; exact hm4))
    have hC10 := hC9.go hb9 (fun b e => Or.inr e)
    have hr8 := hr7.go hb9 (fun k hk e => (orow_ne hr7 ho9 (by decide)) (hk.trans (congrArg some e))) hl10 (fun _ h => h)
    obtain ⟨A2, c2, rfl, hw5⟩ := open_Rule hv12
    refine lw_op Z Z Z (ow_buildSlice (R := RRule) (xs := [x5.1]) (cs := #[(.slice A2 x5.1.Tests.length c2), (Zv x5.1.Action), (Zv x5.1.Chain)]) (e := 42) Z Z (by kernel_rfl) Z Z ⟨_, _, Z, hv12.cells, Z⟩ hC10 fun p3 w11 hw6 hb10 hl11 hC11 => ?_)
    have ho11 := ho10.no hb10
    have hr9 := hr8.no hb10
    replace h := bind_some h
    obtain ⟨z2, hz2, h⟩ := h
    refine lw_op Z Z Z (ow_append (R := RRule) Z Z Z Z Tryd.underlying36 hi42 hz42 hs42 hy42 Z Z Z Z hr9 hw6 hz2 hC11 fun v13 w12 M5 hr10 hb11 hl12 hC12 hM3 hat3 => ?_)
    have ho12 := ho11.go hb11 (fun e => (orow_ne hr9 ho11 (by decide)) e)
    refine lw_op Z Z Z (ow_assign Z Z (lw_nil (ew_then (cw_seq (cw_region (lw_op Z Z Z (ow_move Z Z (lw_op Z Z Z (ow_assign Z Z (lw_nil (ew_then (cw_ret ?_))))))))))))
    obtain rfl := sj h
    exact ew_ret (res1 Z (.tmp Z)) ⟨_, Z, ⟨⟨M5, hr10, hC12⟩, ho12⟩, hC12.bx⟩
   ·
    obtain rfl := hbb3.trans hc3
    refine cw_false Z ?_
    replace h := bind_some h
    obtain ⟨lr2, hlr3, h⟩ := h
    refine cw_for hlr3 (fun s a w' => ∃ (M' : Nat → Prop) (v0c : Value), Fits 46 [(9, v0c)] a ∧ Le w9 M4 w' M' ∧ Cx (One g) w M w' M' ∧ OwnRow RRule w.heap.size 42 w' M' s v0c ∧ Own w' g 111 #[(.slice Ax a_xs.length cx), (Zv x4.2)] ∧ M' g) ?_ ?_ ?_
    · exact fun a ha => ⟨M4, v7, ha.sub ⟨Z, Zt⟩, Le.refl _ _, hC9, hr7, ho9, hm4⟩
    ·
     rintro y3 a w13 sr2 ⟨M6, v14, hF3, hl13, hC13, hw7, ho13, hm6⟩ hb12 hR2
     refine cw_at (E := [(9, v14)]) hF3 (cw_seq (cw_seq (cw_region (lw_op Z Z Z (ow_move Z Z (lw_op Z Z Z (ow_lenOwn Z Z hw7 Tryd.underlying36 (lw_op Z Z Z (ow_leq Z Z Z fun bb4 hbb4 => lw_nil (ew_then ?_))))))))))
     replace hb12 := cond_some hb12
     rcases hb12 with ⟨hc4, hb12⟩ | ⟨hc4, hb12⟩
     ·
      obtain rfl := hbb4.trans hc4
      refine cw_true Z (cw_skip (ew_then (cw_block (cw_region (lw_op Z Z Z (ow_move Z Z (lw_op Z Z Z (ow_build (v := .agg #[(.slice none 0 0), (Zv 5), (Zv 0)]) Z Z (by kernel_rfl) ?_))))))))
      have hw8 : VRep RRule w13 M6 ({ Tests := ([] : List Test), Action := 5, Chain := 0 } : Rule) (.agg #[(.slice none 0 0), (Zv 5), (Zv 0)]) := shut_Rule (vslice_nil (R := RTest) (w := w13) (M := M6))
      refine lw_op Z Z Z (ow_buildSlice (R := RRule) (xs := [({ Tests := ([] : List Test), Action := 5, Chain := 0 } : Rule)]) (cs := #[(.slice none 0 0), (Zv 5), (Zv 0)]) (e := 42) Z Z (by kernel_rfl) Z Z ⟨_, _, Z, hw8.cells, Z⟩ hC13 fun p4 w14 hw9 hb13 hl14 hC14 => ?_)
      have ho14 := ho13.no hb13
      have hr11 := hw7.no hb13
      replace hb12 := bind_some hb12
      obtain ⟨z3, hz3, hb12⟩ := hb12
      refine lw_op Z Z Z (ow_append (R := RRule) Z Z Z Z Tryd.underlying36 hi42 hz42 hs42 hy42 Z Z Z Z hr11 hw9 hz3 hC14 fun v15 w15 M7 hr12 hb14 hl15 hC15 hM4 hat4 => ?_)
      have ho15 := ho14.go hb14 (fun e => (orow_ne hr11 ho14 (by decide)) e)
      have hm7 := hM4 _ hm6
      refine lw_op Z Z Z (ow_assign Z Z (lw_nil (ew_blockN ?_)))
      have lz5 := ((hl13.trans hl14).trans hl15)
      exact ew_nxt z3 hb12 fun a ha => ⟨M7, v15, (ha.sub ⟨Z, Zt⟩), lz5, hC15, hr12, ho15, hm7⟩
     ·
      obtain rfl := hbb4.trans hc4
      exact cw_false Z (cw_exit (ew_thenX (ew_thenX (ew_blockX (ew_brk y3 hb12 fun a ha => ⟨M6, v14, (ha.sub ⟨Z, Zt⟩), hl13, hC13, hw7, ho13, hm6⟩)))))
    ·
     rintro y4 a w16 hlr4 ⟨M8, v16, hF4, hl16, hC16, hw10, ho16, hm8⟩
     subst hlr4
     refine ew_at (E := [(9, v16)]) hF4 (ew_then (cw_seq (cw_region (lw_op Z Z Z (ow_move Z Z (lw_op Z Z Z (ow_assign Z Z (lw_nil (ew_then (cw_ret ?_))))))))))
     obtain rfl := sj h
     exact ew_ret (res1 Z (.tmp Z)) ⟨_, Z, ⟨⟨M8, hw10, hC16⟩, ho16⟩, hC16.bx⟩
  ·
   obtain rfl := hbb2.trans hc2
   refine cw_false Z (cw_skip (ew_then (cw_seq (cw_region (lw_op Z Z Z (ow_move Z Z (lw_op Z Z Z (ow_assign Z Z (lw_nil (ew_then (cw_ret ?_)))))))))))
   obtain rfl := sj h
   exact ew_ret (res1 Z (.tmp Z)) ⟨_, Z, ⟨⟨M4, hr6, hC8⟩, ho8⟩, hC8.bx⟩

theorem w_spec_l20Rules {w : World} {M : Nat → Prop} (hG : ARep (RArr 4 RShape) w M shapes ⟨0, 0, none⟩) (hO : ∀ b, M b → b < w.heap.size) {g : Nat} {Ax : Option Addr} {cx : Nat} {a_xs : List Int} {a_pos : Int} (hxs : VRep (RSlice RU8) w M a_xs (.slice Ax a_xs.length cx)) (hown : Own w g 111 #[.slice Ax a_xs.length cx, .int .i64 a_pos]) (hgM : M g) {a_first : Int} {a_chains : Int} {a_n : Int} {r : ((List Rule)) × Int} (h : F.spec_l20Rules a_xs a_pos a_first a_chains a_n = some r) :
  Calls Tryd.prog 59 [(.pointer (some ⟨g, 0, none⟩)), (.int .i64 a_first), (.int .i64 a_chains), (.int .i64 a_n)].toArray w fun e w' => ∃ v, e = .returned v ∧ (VRep (RSlice RRule) w' M r.1 v ∧ Own w' g 111 #[.slice Ax a_xs.length cx, .int .i64 r.2]) ∧ BX (One g) w w' := by
 refine Calls.mono (wo_spec_l20Rules hG hO hxs hown hgM h) fun e w1 hz => ?_
 obtain ⟨v, e1, ⟨⟨M1, hr, hc⟩, ho⟩, hb⟩ := hz
 exact ⟨v, e1, ⟨hr.freezeBack hc hO, ho⟩, hb⟩

theorem w_spec_l20Ruleset {w : World} {M : Nat → Prop} (hG : ARep (RArr 4 RShape) w M shapes ⟨0, 0, none⟩) (hO : ∀ b, M b → b < w.heap.size) {g : Nat} {Ax : Option Addr} {cx : Nat} {a_xs : List Int} {a_pos : Int} (hxs : VRep (RSlice RU8) w M a_xs (.slice Ax a_xs.length cx)) (hown : Own w g 111 #[.slice Ax a_xs.length cx, .int .i64 a_pos]) (hgM : M g) {a_n : Int} {r : Ruleset × Int} (h : F.spec_l20Ruleset a_xs a_pos a_n = some r) :
  Calls Tryd.prog 65 [(.pointer (some ⟨g, 0, none⟩)), (.int .i64 a_n)].toArray w fun e w' => ∃ v, e = .returned v ∧ (VRep RRuleset w' M r.1 v ∧ Own w' g 111 #[.slice Ax a_xs.length cx, .int .i64 r.2]) ∧ BX (One g) w w' := by
 obtain ⟨i36, hi36, hz36, hs36, hy36⟩ := info36
 obtain ⟨i42, hi42, hz42, hs42, hy42⟩ := info42
 have hX : ∀ b, (One g) b → M b := fun b e => e ▸ hgM
 have hC : Cx (One g) w M w M := Cx.start hO hX
 refine walk (N := 80) Tryd.func65 Z Tryd.ntmps65 Z (cw_seq (cw_region (lw_op Z Z Z (ow_alloc Z (Tryd.zeroValue45 _) hC fun g1 w1 hg1 hg2 ho1 hb1 hl1 hC1 => ?_))))
 have hn1 := Nat.ne_of_lt (Nat.lt_of_lt_of_le hown.lt hg1)
 have ho2 := hown.no hb1
 have hm1 : (Add g1 M) g := .inr hgM
 have hm2 : (Add g1 M) g1 := .inl Z
 refine lw_nil (ew_then (cw_seq (cw_region (lw_op Z Z Z (ow_move Z Z ?_)))))
 replace h := bind_some h
 obtain ⟨x1, hx1, h⟩ := h
 refine lw_op Z Z Z (ow_call Z Z Tryd.call60 (w_spec_l20Rd_pick (hG.mono hl1) hC1.old (VRep.mono hl1 hxs) ho2 hm1 hx1) fun v1 w2 hv1 => ?_)
 obtain ⟨⟨hv1, ho3⟩, hb2⟩ := hv1
 have hl2 := Le.of_bx (Add g1 M) hb2 (fun b e => (by rw [show b = g from e]; exact hm1))
 have hC2 := hC1.go hb2 (fun b e => Or.inr e)
 have ho4 := ho1.go hb2 (fun e => hn1 e.symm)
 obtain rfl := vint_eq hv1
 refine lw_op Z Z Z (ow_eqlI Z Z Z fun bb1 hbb1 => lw_op Z Z Z (ow_build (v := .agg #[(.slice none 0 0), (.bool bb1)]) Z Z (by kernel_rfl) (lw_op Z Z Z (ow_alloc Z (Tryd.zeroValue45 _) hC2 fun g2 w3 hg3 hg4 ho5 hb3 hl3 hC3 => ?_))))
 have hn2 := Nat.ne_of_lt (Nat.lt_of_lt_of_le ho3.lt hg3)
 have ho6 := ho3.no hb3
 have hm3 : (Add g2 (Add g1 M)) g := .inr hm1
 have hn3 := Nat.ne_of_lt (Nat.lt_of_lt_of_le ho4.lt hg3)
 have ho7 := ho4.no hb3
 have hm4 : (Add g2 (Add g1 M)) g1 := .inr hm2
 have hm5 : (Add g2 (Add g1 M)) g2 := .inl Z
 refine lw_op0 Z Z (ow_store (X := (One g)) (us := [(.slice none 0 0), (.bool bb1)]) (cs' := #[(.slice none 0 0), (.bool bb1)]) Z Z Z Z ho5 (Tryd.sizeOf45 _) Z Z Z Z hm5 (.inl hg4) Z hC3 fun w4 ho8 hb4 hl4 hC4 => ?_)
 have ho9 := ho6.go hb4 (fun e => hn2 e)
 have ho10 := ho7.go hb4 (fun e => hn3 e)
 refine lw_nil (ew_then (cw_seq (cw_region (lw_op Z Z Z (ow_move Z Z ?_)))))
 have lz1 := (((hl1.trans hl2).trans hl3).trans hl4)
 replace h := bind_some h
 obtain ⟨x2, hx2, h⟩ := h
 refine lw_op Z Z Z (ow_call Z Z Tryd.call60 (w_spec_l20Rd_pick (hG.mono lz1) hC4.old (VRep.mono lz1 hxs) ho9 hm3 hx2) fun v2 w5 hv2 => ?_)
 obtain ⟨⟨hv2, ho11⟩, hb5⟩ := hv2
 have hl5 := Le.of_bx (Add g2 (Add g1 M)) hb5 (fun b e => (by rw [show b = g from e]; exact hm3))
 have hC5 := hC4.go hb5 (fun b e => Or.inr e)
 have ho12 := ho10.go hb5 (fun e => hn1 e.symm)
 have ho13 := ho8.go hb5 (fun e => hn2 e.symm)
 obtain rfl := vint_eq hv2
 refine lw_op Z Z Z (ow_add Z Z Z (lw_op Z Z Z (ow_assign Z Z (lw_nil (ew_then (cw_seq (cw_seq (cw_region (lw_op Z Z Z (ow_assign Z Z (lw_nil (ew_then ?_))))))))))))
 have hr1 : HRow RRule w.heap.size 36 42 w5 (Add g2 (Add g1 M)) ([] : List (List Rule)) (.slice none 0 0) := hrow_nil
 replace h := bind_some h
 obtain ⟨lr1, hlr1, h⟩ := h
 refine cw_for hlr1 (fun s a w' => ∃ (M' : Nat → Prop) (v2c : Value), Fits 80 [(0, (Zw g 0)), (1, (Zv a_n)), (4, (Zw g1 0)), (5, (Zw g2 0)), (6, (Zv (W (1 + x2.1)))), (7, (Zv s.1))] a ∧ Le w5 (Add g2 (Add g1 M)) w' M' ∧ Cx (One g) w M w' M' ∧ HRow RRule w.heap.size 36 42 w' M' s.2.2 v2c ∧ Own w' g 111 #[(.slice Ax a_xs.length cx), (Zv s.2.1)] ∧ M' g ∧ Own w' g1 45 #[(.slice none 0 0), (.bool false)] ∧ M' g1 ∧ Own w' g2 45 #[v2c, (.bool bb1)] ∧ M' g2) ?_ ?_ ?_
 · exact fun a ha => ⟨(Add g2 (Add g1 M)), (.slice none 0 0), ha.sub ⟨Z, Z, Z, Z, Z, Z, Zt⟩, Le.refl _ _, hC5, hr1, ho11, hm3, ho12, hm4, ho13, hm5⟩
 ·
  rintro ⟨k1, k2, y1⟩ a w6 sr1 ⟨M1, v5, hF1, hl6, hC6, hw2, ho14, hm6, ho15, hm7, ho16, hm8⟩ hb6 hR1
  refine cw_at (E := [(0, (Zw g 0)), (1, (Zv a_n)), (4, (Zw g1 0)), (5, (Zw g2 0)), (6, (Zv (W (1 + x2.1)))), (7, (Zv k1))]) hF1 (cw_seq (cw_seq (cw_region (lw_op Z Z Z (ow_move Z Z (lw_op Z Z Z (ow_move Z Z (lw_op Z Z Z (ow_lss Z Z Z fun bb2 hbb2 => lw_nil (ew_then ?_))))))))))
  replace hb6 := cond_some hb6
  rcases hb6 with ⟨hc1, hb6⟩ | ⟨hc1, hb6⟩
  ·
   obtain rfl := hbb2.trans hc1
   refine cw_true Z (cw_skip (ew_then (cw_seq (cw_block ?_))))
   have lz2 := ((lz1.trans hl5).trans hl6)
   replace hb6 := bind_some hb6
   obtain ⟨x3, hx3, hb6⟩ := hb6
   replace hb6 := bind_some hb6
   obtain ⟨z1, hz1, hb6⟩ := hb6
   refine cw_sub (E' := [(0, (Zw g 0)), (1, (Zv a_n)), (4, (Zw g1 0)), (5, (Zw g2 0)), (6, (Zv (W (1 + x2.1)))), (7, (Zv k1))]) ⟨Z, Z, Z, Z, Z, Z, Zt⟩ (cw_drawC (g := g) (T := 111) 8 1 [none, none, none, none, none, none, some 0, none] [#[(.slice Ax a_xs.length cx), (Zv k2)], #[(.slice Ax a_xs.length cx), (Zv x3.2)]] [PEq (Zw g2 0), PEq v5, PEq (Zw g 0), PEq (Zv k1), PEq (Zv (W (k1 + 1))), PEq (Zv (W (1 + x2.1))), PNR RRule w.heap.size 42 (One g) w M w6 M1 x3.1, PNL RRule w.heap.size 42 (One g) w M w6 M1 x3.1] (by kernel_rfl) Z (by kernel_rfl) (by kernel_rfl) ho14 ⟨(PEq.monoY hm6 _), (PEq.monoY hm6 _), (PEq.monoY hm6 _), (PEq.monoY hm6 _), (PEq.monoY hm6 _), (PEq.monoY hm6 _), (PNR.monoY hm6 ho14.lt (.inr Z)), (PNL.monoY hm6 ho14.lt (.inr Z)), Zt⟩ ⟨?_, ?_, ?_, ?_, ?_, ?_, ?_, ?_, Zt⟩ ?_)
   · exact fun wa D hSa hda => dg_sub (E' := [(5, (Zw g2 0))]) ⟨Z, Zt⟩ (dg_plain Z (ow_fieldAddr Z Z Tryd.underlying45 Z (Tryd.sizeOf43 _) Zb))
   · exact fun wa D hSa hda => dg_sub (E' := [(20, (Zw g2 0))]) ⟨dpE hda 0 Z Z, Zt⟩ (dg_plain Z (ow_loadOwn1 Z Z Z (ho16.go hSa (fun e => hn2 e.symm)) (Tryd.isAgg43 _) Z Zb))
   · exact fun wa D hSa hda => dg_sub (E' := [(0, (Zw g 0))]) ⟨Z, Zt⟩ (dg_plain Z (ow_move Z Z Zb))
   · exact fun wa D hSa hda => dg_sub (E' := [(7, (Zv k1))]) ⟨Z, Zt⟩ (dg_plain Z (ow_move Z Z Zb))
   · exact fun wa D hSa hda => dg_sub (E' := [(23, (Zv k1))]) ⟨dpE hda 3 Z Z, Zt⟩ (dg_plain Z (ow_add Z Z Z Zb))
   · exact fun wa D hSa hda => dg_sub (E' := [(6, (Zv (W (1 + x2.1))))]) ⟨Z, Zt⟩ (dg_plain Z (ow_move Z Z Zb))
   ·
    intro wa D hSa hda
    obtain ⟨hSa, hOa⟩ := hSa
    have hOa : Own wa g 111 #[(.slice Ax a_xs.length cx), (Zv k2)] := hOa
    have hla := leY hm6 hSa
    have hCa := hC6.go hSa (fun b e => Or.inr e)
    refine dg_sub (E' := [(22, (Zw g 0)), (24, (Zv (W (k1 + 1)))), (25, (Zv (W (1 + x2.1))))]) ⟨dpE hda 2 Z Z, dpE hda 4 Z Z, dpE hda 5 Z Z, Zt⟩ (dg_plain Z (ow_call Z Z Tryd.call59 (wo_spec_l20Rules (hG.mono (lz2.trans hla)) hCa.old (VRep.mono hla (VRep.mono lz2 hxs)) hOa hm6 hx3) fun va wb hva => ?_))
    obtain ⟨⟨⟨Mb, hrb, hkb⟩, hOb⟩, hbb⟩ := hva
    exact ⟨⟨⟨hSa.trans hbb, hOb⟩, hbb⟩, Mb, hrb.base hCa.bx.size, hla.trans (hkb.leY (fun b e => by rw [show b = g from e]; exact hm6)), hCa.trans2 hkb (fun b e => .inr e), hkb.sup, fun b e => Nat.le_trans hSa.size (hrb.block e).1⟩
   ·
    intro wa D hSa hda
    have hd6 : PNR RRule w.heap.size 42 (One g) w M w6 M1 x3.1 (D 6) wa := dpA hda 6 Z
    obtain ⟨Mb, hrb, hlb, hCb, hmb, hgb⟩ := hd6
    generalize hqb : (D 6) = va at hrb hgb
    obtain ⟨Ab, cb, rfl⟩ := hrb.len
    exact dg_sub (E' := [(26, .slice Ab x3.1.length cb)]) ⟨congrArg some hqb, Zt⟩ (dg_plain Z (ow_buildSlice (R := RHd) (xs := [.slice Ab x3.1.length cb]) (cs := #[.slice Ab x3.1.length cb]) (e := 36) Z Z (by kernel_rfl) Z Z ⟨_, _, Z, ⟨Z, Z⟩, Z⟩ hCb fun pb wc hwc hbc hlc hCc => ⟨hbc, _, Mb, hwc, hrb.no hbc, hlb.trans hlc, hCc, hmb, hgb⟩))
   ·
    intro w7 D hS1 hd1
    obtain ⟨hS1, ho17⟩ := hS1
    have ho17 : Own w7 g 111 #[(.slice Ax a_xs.length cx), (Zv x3.2)] := ho17
    have d1 : PNL RRule w.heap.size 42 (One g) w M w6 M1 x3.1 (D 7) w7 := dpA hd1 7 Z
    obtain ⟨v6, M2, hw3, hr2, hl7, hC7, hk1, hge1⟩ := d1
    generalize hq1 : (D 7) = v7 at hw3
    have hm9 := hk1 _ hm6
    have hm10 := hk1 _ hm7
    have ho18 := ho15.go hS1 (fun e => hn1 e.symm)
    have hm11 := hk1 _ hm8
    have ho19 := ho16.go hS1 (fun e => hn2 e.symm)
    refine lw_sub (E' := [(27, v7), (21, v5), (0, (Zw g 0)), (1, (Zv a_n)), (4, (Zw g1 0)), (5, (Zw g2 0)), (6, (Zv (W (1 + x2.1)))), (7, (Zv k1))]) ⟨congrArg some hq1, dpE hd1 1 Z Z, Z, Z, Z, Z, Z, Z, Zt⟩ (lw_op Z Z Z (ow_appendH Z Z Z Z Tryd.underlying43 hi36 hz36 hs36 hy36 Z Z Z Z hw2 hS1 ho14 (by decide) (by decide) (by decide) hw3 hr2 hl7 hk1 hge1 hz1 hC7 hX hO fun v8 w8 M3 hr3 hb7 hl8 hC8 hk2 => ?_))
    have hm12 := (hk2 _ _ _ ho17 (by decide) (by decide)).2 hm9
    have ho20 := ho17.go hb7 (fun e => (hk2 _ _ _ ho17 (by decide) (by decide)).1 e)
    have hm13 := (hk2 _ _ _ ho18 (by decide) (by decide)).2 hm10
    have ho21 := ho18.go hb7 (fun e => (hk2 _ _ _ ho18 (by decide) (by decide)).1 e)
    have hm14 := (hk2 _ _ _ ho19 (by decide) (by decide)).2 hm11
    have ho22 := ho19.go hb7 (fun e => (hk2 _ _ _ ho19 (by decide) (by decide)).1 e)
    refine lw_op Z Z Z (ow_fieldAddr Z Z Tryd.underlying45 Z (Tryd.sizeOf43 _) ?_)
    obtain ⟨A1, c1, rfl⟩ := hr3.len
    refine lw_op0 Z Z (ow_store (X := (One g)) (us := [(.slice A1 z1.length c1)]) (cs' := #[(.slice A1 z1.length c1), (.bool bb1)]) Z Z Z Z ho22 (Tryd.sizeOf43 _) Z Z Z Z hm14 (.inl hg4) Z hC8 fun w9 ho23 hb8 hl9 hC9 => ?_)
    have ho24 := ho20.go hb8 (fun e => hn2 e)
    have ho25 := ho21.go hb8 (fun e => hn3 e)
    have hr4 := HRow.goOwn hr3 hb8 ho22 hl9 (by decide) (by decide)
    refine lw_nil (ew_blockN (ew_then (cw_region (lw_op Z Z Z (ow_move Z Z (lw_op Z Z Z (ow_add Z Z Z (lw_op Z Z Z (ow_assign Z Z (lw_nil ?_))))))))))
    have lz3 := (((hl6.trans hl7).trans hl8).trans hl9)
    exact ew_nxt ((W (k1 + 1)), x3.2, z1) hb6 fun a ha => ⟨M3, (.slice A1 z1.length c1), (ha.sub ⟨Z, Z, Z, Z, Z, Z, Zt⟩), lz3, hC9, hr4, ho24, hm12, ho25, hm13, ho23, hm14⟩
  ·
   obtain rfl := hbb2.trans hc1
   exact cw_false Z (cw_exit (ew_thenX (ew_thenX (ew_blockX (ew_brk (k1, k2, y1) hb6 fun a ha => ⟨M1, v5, (ha.sub ⟨Z, Z, Z, Z, Z, Z, Zt⟩), hl6, hC6, hw2, ho14, hm6, ho15, hm7, ho16, hm8⟩)))))
 ·
  rintro ⟨k3, k4, y2⟩ a w10 hlr2 ⟨M4, v11, hF2, hl10, hC10, hw4, ho26, hm15, ho27, hm16, ho28, hm17⟩
  subst hlr2
  refine ew_at (E := [(0, (Zw g 0)), (1, (Zv a_n)), (4, (Zw g1 0)), (5, (Zw g2 0)), (6, (Zv (W (1 + x2.1)))), (7, (Zv k3))]) hF2 (ew_then (cw_seq (cw_seq (cw_region (lw_op Z Z Z (ow_move Z Z (lw_op Z Z Z (ow_move Z Z ?_))))))))
  have lz4 := ((lz1.trans hl5).trans hl10)
  replace h := bind_some h
  obtain ⟨x4, hx4, h⟩ := h
  refine lw_op Z Z Z (ow_call Z Z Tryd.call81 (w_spec_l20Rd_odd (hG.mono lz4) hC10.old (VRep.mono lz4 hxs) ho26 hm15 hx4) fun v12 w11 hv12 => ?_)
  obtain ⟨⟨hv12, ho29⟩, hb9⟩ := hv12
  have hl11 := Le.of_bx M4 hb9 (fun b e => (by rw [show b = g from e]; exact hm15))
  have hC11 := hC10.go hb9 (fun b e => Or.inr e)
  have ho30 := ho27.go hb9 (fun e => hn1 e.symm)
  have ho31 := ho28.go hb9 (fun e => hn2 e.symm)
  have hr5 := HRow.goOwn hw4 hb9 ho26 hl11 (by decide) (by decide)
  obtain ⟨bb3, hbb3, rfl⟩ := vbool_ex hv12
  refine lw_nil (ew_then ?_)
  replace h := cond_some h
  rcases h with ⟨hc2, h⟩ | ⟨hc2, h⟩
  ·
   obtain rfl := hbb3.trans hc2
   refine cw_true Z (cw_seq (cw_region (lw_op Z Z Z (ow_move Z Z ?_))))
   replace h := bind_some h
   obtain ⟨x5, hx5, h⟩ := h
   refine lw_op Z Z Z (ow_call Z Z Tryd.call60 (w_spec_l20Rd_pick (hG.mono (lz4.trans hl11)) hC11.old (VRep.mono (lz4.trans hl11) hxs) ho29 hm15 hx5) fun v13 w12 hv13 => ?_)
   obtain ⟨⟨hv13, ho32⟩, hb10⟩ := hv13
   have hl12 := Le.of_bx M4 hb10 (fun b e => (by rw [show b = g from e]; exact hm15))
   have hC12 := hC11.go hb10 (fun b e => Or.inr e)
   have ho33 := ho30.go hb10 (fun e => hn1 e.symm)
   have ho34 := ho31.go hb10 (fun e => hn2 e.symm)
   have hr6 := HRow.goOwn hr5 hb10 ho29 hl12 (by decide) (by decide)
   obtain rfl := vint_eq hv13
   refine lw_nil (ew_then (cw_block (cw_seq (cw_region (lw_op Z Z Z (ow_eqlI Z Z Z fun bb4 hbb4 => lw_op Z Z Z (ow_assign Z Z (lw_nil (ew_then ?_)))))))))
   replace h := cond_some h
   rcases h with ⟨hc3, h⟩ | ⟨hc3, h⟩
   ·
    obtain rfl := hbb4.trans hc3
    refine cw_true Z ?_
    obtain ⟨M5, hr7, hl13, hC13, hk3⟩ := HRow.flat hr6 hC12 hX hO (by decide)
    have hm19 : M5 g1 := hk3 _ _ _ ho33 (by decide) hm16
    have hm20 : M5 g2 := hk3 _ _ _ ho34 (by decide) hm17
    refine cw_region (lw_op Z Z Z (ow_buildSlice0 (R := (RSlice RRule)) (e := 36) Z (by kernel_rfl) hC13 fun p1 w13 M6 hr8 hb11 hl14 hC14 hM1 hat1 => ?_))
    have ho35 := ho32.no hb11
    have ho36 := ho33.no hb11
    have hm22 := hM1 _ hm19
    have ho37 := ho34.no hb11
    have hm23 := hM1 _ hm20
    refine lw_op Z Z Z (ow_fieldAddr Z Z Tryd.underlying45 Z (Tryd.sizeOf43 _) (lw_op0 Z Z (ow_store (X := (One g)) (us := [(.slice (some p1) 0 0)]) (cs' := #[(.slice (some p1) 0 0), (.bool bb1)]) Z Z Z Z ho37 (Tryd.sizeOf43 _) Z Z Z Z hm23 (.inl hg4) Z hC14 fun w14 ho38 hb12 hl15 hC15 => ?_)))
    have ho39 := ho35.go hb12 (fun e => hn2 e)
    have ho40 := ho36.go hb12 (fun e => hn3 e)
    refine lw_nil (ew_blockN (ew_then (cw_seq (cw_region (lw_op Z Z Z (ow_loadOwnA Z Z Z ho38 (Tryd.isAgg45 _) (Tryd.sizeOf45 _) Z (lw_op0 Z Z (ow_store (X := (One g)) (us := [(.slice (some p1) 0 0), (.bool bb1)]) (cs' := #[(.slice (some p1) 0 0), (.bool bb1)]) Z Z Z Z ho40 (Tryd.sizeOf45 _) Z Z Z Z hm22 (.inl hg2) Z hC15 fun w15 ho41 hb13 hl16 hC16 => ?_))))))))
    have ho42 := ho39.go hb13 (fun e => hn1 e)
    refine lw_nil (ew_then (cw_ret ?_))
    have hw6 : VRep RRuleset w15 M6 ({ Chains := ([] : List (List Rule)), Accept := (x1.1 == 0) } : Ruleset) (.agg #[(.slice (some p1) 0 0), (.bool bb1)]) := by subst hbb1; exact shut_Ruleset (VRep.mono hl16 vslice_nil)
    obtain rfl := sj h
    exact ew_ret (res1 Z (.cell Z (own_loadVarA ho41 (Tryd.isAgg45 _) (Tryd.sizeOf45 _) Z))) ⟨_, Z, ⟨(hw6.mono hC16.back), ho42⟩, hC16.bx⟩
   ·
    obtain rfl := hbb4.trans hc3
    refine cw_false Z (cw_seq (cw_region (lw_op Z Z Z (ow_eqlI Z Z Z fun bb5 hbb5 => lw_op Z Z Z (ow_assign Z Z (lw_nil (ew_then ?_)))))))
    replace h := cond_some h
    rcases h with ⟨hc4, h⟩ | ⟨hc4, h⟩
    ·
     obtain rfl := hbb5.trans hc4
     refine cw_true Z ?_
     have lz5 := ((lz4.trans hl11).trans hl12)
     replace h := bind_some h
     obtain ⟨x6, hx6, h⟩ := h
     replace h := bind_some h
     obtain ⟨x7, hx7, h⟩ := h
     replace h := bind_some h
     obtain ⟨x8, hx8, h⟩ := h
     replace h := bind_some h
     obtain ⟨z2, hz2, h⟩ := h
     obtain ⟨v14, v15, v16, hq2, hr13, hr14, hw7⟩ := HRow.cons hr6 hx6
     have hq2 : y2 = x6 :: v16 := hq2
     obtain ⟨A2, c2, rfl⟩ := hr14.len
     have hY4 : ¬ (OrRow g (.slice A2 x6.length c2)) g1 := fun e => e.elim (fun e => (fun e => hn1 e.symm) e) (fun e => orow_ne hr14 ho33 (by decide) e)
     have hY5 : ¬ (OrRow g (.slice A2 x6.length c2)) g2 := fun e => e.elim (fun e => (fun e => hn2 e.symm) e) (fun e => orow_ne hr14 ho34 (by decide) e)
     have hY1 : ∀ b, (OrRow g (.slice A2 x6.length c2)) b → M4 b := fun b e => e.elim (fun e => by rw [show b = g from e]; exact hm15) (fun e => hr14.mem b e)
     have hY2 : ∀ b, (OrRow g (.slice A2 x6.length c2)) b → w.heap.size ≤ b ∨ (One g) b := fun b e => e.elim (fun e => .inr e) (fun e => .inl (hr14.block e).1)
     have hY3 : ∀ b, (Value.ownBlock v11) = some b → ¬ (OrRow g (.slice A2 x6.length c2)) b := fun b hb e => e.elim (fun e => orow_ne hr13 ho32 (by decide) (hb.trans (congrArg some e))) (fun e => orow_row_ne hr13 hr14 (by decide) hb e)
     refine cw_sub (E' := [(0, (Zw g 0)), (4, (Zw g1 0)), (5, (Zw g2 0)), (6, (Zv (W (1 + x2.1))))]) ⟨Z, Z, Z, Z, Zt⟩ (cw_drawCR (g := g) (Tg := 111) (R := RRule) (B := w.heap.size) (e := 42) (M := M4) (xs := x6) (v := (.slice A2 x6.length c2)) 15 2 [none, none, none, none, none, none, none, none, none, some 0, none, none, none, none, some 1] [#[(.slice Ax a_xs.length cx), (Zv x5.2)], #[(.slice Ax a_xs.length cx), (Zv x7.2)], #[(.slice Ax a_xs.length cx), (Zv x7.2)]] [PEq (Zw g2 0), PEq v11, PEq (Zw g2 0), PEq v11, PEq (.pointer (some ⟨blk v11, (0 : Int).toNat * RHd.size, none⟩)), PEq (.slice A2 x6.length c2), PEq (Zv (W (1 + x2.1))), PV (RSlice RInt) M4 [0, (W (1 + x2.1))], PEq (Zw g 0), PEq (Zv x7.1), PA RInt M4 x8, PEq (Zv x8), PV RRule M4 ({ Tests := ([] : List Test), Action := 3, Chain := x8 } : Rule), PV (RSlice RRule) M4 [({ Tests := ([] : List Test), Action := 3, Chain := x8 } : Rule)], PApp2 RRule w.heap.size 42 (One g) w M w12 M4 z2] (by kernel_rfl) Z (by kernel_rfl) (by kernel_rfl) ho32 hr14 ⟨(PEq.monoR _), (PEq.monoR _), (PEq.monoR _), (PEq.monoR _), (PEq.monoR _), (PEq.monoR _), (PEq.monoR _), (PV.monoR hY1 _ _), (PEq.monoR _), (PEq.monoR _), (PA.monoR hY1 _ _), (PEq.monoR _), (PV.monoR hY1 _ _), (PV.monoR hY1 _ _), PApp2.mono, Zt⟩ ⟨?_, ?_, ?_, ?_, ?_, ?_, ?_, ?_, ?_, ?_, ?_, ?_, ?_, ?_, ?_, Zt⟩ ?_)
     · exact fun wa D hSa hda => dg_sub (E' := [(5, (Zw g2 0))]) ⟨Z, Zt⟩ (dg_plain Z (ow_fieldAddr Z Z Tryd.underlying45 Z (Tryd.sizeOf43 _) Zb))
     · exact fun wa D hSa hda => dg_sub (E' := [(47, (Zw g2 0))]) ⟨dpE hda 0 Z Z, Zt⟩ (dg_plain Z (ow_loadOwn1 Z Z Z (ho34.go hSa hY5) (Tryd.isAgg43 _) Z Zb))
     · exact fun wa D hSa hda => dg_sub (E' := [(5, (Zw g2 0))]) ⟨Z, Zt⟩ (dg_plain Z (ow_fieldAddr Z Z Tryd.underlying45 Z (Tryd.sizeOf43 _) Zb))
     · exact fun wa D hSa hda => dg_sub (E' := [(49, (Zw g2 0))]) ⟨dpE hda 2 Z Z, Zt⟩ (dg_plain Z (ow_loadOwn1 Z Z Z (ho34.go hSa hY5) (Tryd.isAgg43 _) Z Zb))
     ·
      intro wa D hSa hda
      have hra := hr13.go hSa hY3 (Le.of_bx M4 hSa hY1) (fun _ h => h)
      exact dg_sub (E' := [(50, v11)]) ⟨dpE hda 3 Z Z, Zt⟩ (dg_plain Z (ow_indexRow (R := RHd) (j := 0) Z Z Z hra Tryd.underlying43 (Tryd.sizeOf36 _) Z Zb))
     ·
      intro wa D hSa hda
      have hra := hr13.go hSa hY3 (Le.of_bx M4 hSa hY1) (fun _ h => h)
      exact dg_sub (E' := [(51, (.pointer (some ⟨blk v11, (0 : Int).toNat * RHd.size, none⟩)))]) ⟨dpE hda 4 Z Z, Zt⟩ (dg_plain Z (ow_loadElRow (R := RHd) (S := RHd) (j := 0) (y := (.slice A2 x6.length c2)) Z Z Z hra (orow_blk (j := 0) (y := (.slice A2 x6.length c2)) hra Z) Z (Fld.whole RHd) (Tryd.sizeOf36 _) (Tryd.isAgg36 _) fun va hva => ⟨BX.refl _ _, rhd_eq hva⟩))
     · exact fun wa D hSa hda => dg_sub (E' := [(6, (Zv (W (1 + x2.1))))]) ⟨Z, Zt⟩ (dg_plain Z (ow_move Z Z Zb))
     ·
      intro wa D hSa hda
      have hCa := hC12.go hSa hY2
      exact dg_sub (E' := [(53, (Zv (W (1 + x2.1))))]) ⟨dpE hda 6 Z Z, Zt⟩ (dg_plain Z (ow_buildSlice (R := RInt) (xs := [0, (W (1 + x2.1))]) (cs := #[Zv 0, Zv (W (1 + x2.1))]) (e := 3) Z Z (by kernel_rfl) Z Z ⟨_, _, Z, (vint _).cells, _, _, Z, (vint _).cells, Z⟩ hCa fun pb wc hwc hbc hlc hCc => ⟨hbc, hwc⟩))
     · exact fun wa D hSa hda => dg_sub (E' := [(0, (Zw g 0))]) ⟨Z, Zt⟩ (dg_plain Z (ow_move Z Z Zb))
     ·
      intro wa D hSa hda
      obtain ⟨hSa, hOa, hRa⟩ := hSa
      have hOa : Own wa g 111 #[(.slice Ax a_xs.length cx), (Zv x5.2)] := hOa
      have hRa := hRa (by decide)
      have hla := Le.of_bx M4 hSa hY1
      have hCa := hC12.go hSa hY2
      refine dg_sub (E' := [(55, (Zw g 0))]) ⟨dpE hda 8 Z Z, Zt⟩ (dg_plain Z (ow_call Z Z Tryd.call60 (w_spec_l20Rd_pick (hG.mono (lz5.trans hla)) hCa.old (VRep.mono hla (VRep.mono lz5 hxs)) hOa hm15 hx7) fun va wb hva => ?_))
      obtain ⟨⟨hva, hOb⟩, hbb⟩ := hva
      obtain rfl := vint_eq hva
      exact ⟨⟨⟨hSa.trans (hbb.mono fun _ _ e => .inl e), hOb, fun _ => hRa.go hbb (fun b hb e => orow_ne hRa hOa (by decide) (hb.trans (congrArg some e))) (leY hm15 hbb) (fun _ h => h)⟩, hbb.mono fun _ _ e => .inl e⟩, Z⟩
     ·
      intro wa D hSa hda
      have d7a : PV (RSlice RInt) M4 [0, (W (1 + x2.1))] (D 7) wa := dpA hda 7 Z
      generalize hqa : (D 7) = va at d7a
      exact dg_sub (E' := [(54, va), (56, (Zv x7.1))]) ⟨congrArg some hqa, dpE hda 9 Z Z, Zt⟩ (dg_plain Z (ow_indexSlice (R := RInt) Z Z Z d7a Tryd.underlying52 (Tryd.sizeOf3 _) hx8 fun pa hpa => ⟨BX.refl _ _, _, Z, hpa⟩))
     ·
      intro wa D hSa hda
      have d10a : PA RInt M4 x8 (D 10) wa := dpA hda 10 Z
      obtain ⟨pa, hqa, hpa⟩ := d10a
      refine dg_sub (E' := [(57, .pointer (some pa))]) ⟨congrArg some hqa, Zt⟩ (dg_plain Z (ow_load (R := RInt) Z Z hpa (Tryd.sizeOf3 _) (Tryd.isAgg3 _) fun va hva => ?_))
      obtain rfl := vint_eq hva
      exact Zb
     · exact fun wa D hSa hda => dg_sub (E' := [(58, (Zv x8))]) ⟨dpE hda 11 Z Z, Zt⟩ (dg_plain Z (ow_build (v := .agg #[.slice none 0 0, Zv 3, Zv x8]) Z Z (by kernel_rfl) ⟨BX.refl _ _, shut_Rule vslice_nil⟩))
     ·
      intro wa D hSa hda
      have hCa := hC12.go hSa hY2
      have d12a : PV RRule M4 ({ Tests := ([] : List Test), Action := 3, Chain := x8 } : Rule) (D 12) wa := dpA hda 12 Z
      generalize hqa : (D 12) = va at d12a
      obtain ⟨Aq, cq, rfl, hwq⟩ := open_Rule d12a
      exact dg_sub (E' := [(59, .agg #[.slice Aq ([] : List Test).length cq, Zv 3, Zv x8])]) ⟨congrArg some hqa, Zt⟩ (dg_plain Z (ow_buildSlice (R := RRule) (xs := [({ Tests := ([] : List Test), Action := 3, Chain := x8 } : Rule)]) (cs := #[.slice Aq ([] : List Test).length cq, Zv 3, Zv x8]) (e := 42) Z Z (by kernel_rfl) Z Z ⟨_, _, Z, d12a.cells, Z⟩ hCa fun pb wc hwc hbc hlc hCc => ⟨hbc, hwc⟩))
     ·
      intro wa D hSa hda
      obtain ⟨hSa, hOa, hRa⟩ := hSa
      have hOa : Own wa g 111 #[(.slice Ax a_xs.length cx), (Zv x7.2)] := hOa
      have hRa := hRa (by decide)
      have hla := Le.of_bx M4 hSa hY1
      have hCa := hC12.go hSa hY2
      have d13a : PV (RSlice RRule) M4 [({ Tests := ([] : List Test), Action := 3, Chain := x8 } : Rule)] (D 13) wa := dpA hda 13 Z
      generalize hqa : (D 13) = ua at d13a
      exact dg_sub (E' := [(52, (.slice A2 x6.length c2)), (60, ua)]) ⟨dpE hda 5 Z Z, congrArg some hqa, Zt⟩ (dg_plain Z (ow_append (R := RRule) Z Z Z Z Tryd.underlying36 hi42 hz42 hs42 hy42 Z Z Z Z hRa d13a hz2 hCa fun vb wb Mb hrb hbb hlb hCb hMb hatb => ⟨⟨⟨hSa.trans (hbb.mono fun _ _ e => .inr e), hOa.go hbb (fun e => orow_ne hRa hOa (by decide) e), fun h => absurd h (by decide)⟩, hbb.mono fun _ _ e => .inr e⟩, Mb, hrb, hla.trans hlb, hCb, hMb⟩))
     ·
      intro w16 D hS2 hd2
      obtain ⟨hS2, ho44⟩ := hS2
      have ho44 : Own w16 g 111 #[(.slice Ax a_xs.length cx), (Zv x7.2)] := ho44
      have d2 : PApp2 RRule w.heap.size 42 (One g) w M w12 M4 z2 (D 14) w16 := dpA hd2 14 Z
      obtain ⟨M7, hr15, hl17, hC17, hk4⟩ := d2
      generalize hq3 : (D 14) = v17 at hr15
      obtain ⟨A3, c3, rfl⟩ := hr15.len
      have hr16 := hr13.go hS2 hY3 hl17 hk4
      have hw8 := hw7.mono hl17
      have hm25 := hk4 _ hm16
      have ho45 := ho33.go hS2 hY4
      have ho46 := ho34.go hS2 hY5
      refine lw_sub (E' := [(61, (.slice A3 z2.length c3)), (48, v11), (0, (Zw g 0)), (4, (Zw g1 0)), (5, (Zw g2 0)), (6, (Zv (W (1 + x2.1))))]) ⟨congrArg some hq3, dpE hd2 1 Z Z, Z, Z, Z, Z, Zt⟩ (lw_op Z Z Z (ow_indexRow (R := RHd) (j := 0) Z Z Z hr16 Tryd.underlying43 (Tryd.sizeOf36 _) Z ?_))
      have hq4 := orow_blk (j := 0) (y := (.slice A2 x6.length c2)) hr16 Z
      refine lw_op0 Z Z (ow_storeElRow (X := (One g)) (R := RHd) (S := RHd) (j := 0) (y := (.slice A2 x6.length c2)) Z Z Z Z hr16 hq4 Z (FldSet.whole RHd) (Tryd.sizeOf36 _) (rhd Z) (Nat.le_refl _) hC17 fun w17 hr17 hb14 hl18 hC18 => ?_)
      have ho47 := ho44.go hb14 (fun e => orow_ne hr16 ho44 (by decide) (by rw [hq4]; exact congrArg some e.symm))
      have ho48 := ho45.go hb14 (fun e => orow_ne hr16 ho45 (by decide) (by rw [hq4]; exact congrArg some e.symm))
      have ho49 := ho46.go hb14 (fun e => orow_ne hr16 ho46 (by decide) (by rw [hq4]; exact congrArg some e.symm))
      have hr18 := hr15.go hb14 (fun k hk e => orow_row_ne hr15 hr16 (by decide) hk (by rw [hq4]; exact congrArg some e.symm)) hl18 (fun _ h => h)
      have hr19 : HRow RRule w.heap.size 36 42 w17 M7 (List.set y2 (0 : Int).toNat z2) v11 := by rw [hq2]; exact ⟨(.slice A3 z2.length c3) :: v15, hr17, hr18, hw8.mono hl18⟩
      refine lw_nil (ew_blockN (ew_then (cw_seq ?_)))
      obtain ⟨M8, hr20, hl19, hC19, hk5⟩ := HRow.flat hr19 hC18 hX hO (by decide)
      have hm28 : M8 g1 := hk5 _ _ _ ho48 (by decide) hm25
      refine cw_region (lw_op Z Z Z (ow_loadOwnA Z Z Z ho49 (Tryd.isAgg45 _) (Tryd.sizeOf45 _) Z ?_))
      have hw9 := hr20.freezeDel
      have hC20 := hr20.cxDel hC19 hX hO
      have hm31 : (Del v11 M8) g1 := ⟨hm28, fun e => (orow_ne hr20 ho48 (by decide)) e⟩
      obtain ⟨A4, c4, rfl, -⟩ := vslice_shape hw9
      refine lw_op0 Z Z (ow_store (X := (One g)) (us := [(.slice A4 (List.set y2 (0 : Int).toNat z2).length c4), (.bool bb1)]) (cs' := #[(.slice A4 (List.set y2 (0 : Int).toNat z2).length c4), (.bool bb1)]) Z Z Z Z ho48 (Tryd.sizeOf45 _) Z Z Z Z hm31 (.inl hg2) Z hC20 fun w18 ho50 hb15 hl21 hC21 => ?_)
      have ho51 := ho47.go hb15 (fun e => hn1 e)
      refine lw_nil (ew_then (cw_ret ?_))
      have hw11 : VRep RRuleset w18 (Del (.slice A4 (List.set y2 (0 : Int).toNat z2).length c4) M8) ({ Chains := (List.set y2 (0 : Int).toNat z2), Accept := (x1.1 == 0) } : Ruleset) (.agg #[(.slice A4 (List.set y2 (0 : Int).toNat z2).length c4), (.bool bb1)]) := by subst hbb1; exact shut_Ruleset (VRep.mono hl21 hw9)
      obtain rfl := sj h
      exact ew_ret (res1 Z (.cell Z (own_loadVarA ho50 (Tryd.isAgg45 _) (Tryd.sizeOf45 _) Z))) ⟨_, Z, ⟨(hw11.mono hC21.back), ho51⟩, hC21.bx⟩
    ·
     obtain rfl := hbb5.trans hc4
     refine cw_false Z (cw_seq (cw_region (lw_op Z Z Z (ow_eqlI Z Z Z fun bb6 hbb6 => lw_op Z Z Z (ow_assign Z Z (lw_nil (ew_then ?_)))))))
     replace h := cond_some h
     rcases h with ⟨hc5, h⟩ | ⟨hc5, h⟩
     ·
      obtain rfl := hbb6.trans hc5
      refine cw_true Z (cw_seq ?_)
      obtain ⟨M9, hr21, hl22, hC22, hk6⟩ := HRow.flat hr6 hC12 hX hO (by decide)
      have hm34 : M9 g1 := hk6 _ _ _ ho33 (by decide) hm16
      refine cw_region (lw_op Z Z Z (ow_fieldAddr Z Z Tryd.underlying45 Z (Tryd.sizeOf43 _) (lw_op Z Z Z (ow_loadOwn1 Z Z Z ho34 (Tryd.isAgg43 _) Z (lw_op Z Z Z (ow_move Z Z (lw_op Z Z Z (ow_sub Z Z Z (lw_op Z Z Z (ow_build (v := .agg #[(.slice none 0 0), (Zv 3), (Zv 0)]) Z Z (by kernel_rfl) ?_))))))))))
      have hw12 : VRep RRule w12 M9 ({ Tests := ([] : List Test), Action := 3, Chain := 0 } : Rule) (.agg #[(.slice none 0 0), (Zv 3), (Zv 0)]) := shut_Rule (vslice_nil (R := RTest) (w := w12) (M := M9))
      refine lw_op Z Z Z (ow_buildSlice (R := RRule) (xs := [({ Tests := ([] : List Test), Action := 3, Chain := 0 } : Rule)]) (cs := #[(.slice none 0 0), (Zv 3), (Zv 0)]) (e := 42) Z Z (by kernel_rfl) Z Z ⟨_, _, Z, hw12.cells, Z⟩ hC22 fun p2 w19 hw13 hb16 hl23 hC23 => ?_)
      have ho53 := ho32.no hb16
      have ho54 := ho33.no hb16
      have ho55 := ho34.no hb16
      have hr22 := hr21.no hb16
      replace h := bind_some h
      obtain ⟨x9, hx9, h⟩ := h
      refine lw_op Z Z Z (ow_indexRow (R := (RSlice RRule)) Z Z Z hr22 Tryd.underlying43 (Tryd.sizeOf36 _) hx9 (lw_op0 Z Z (ow_storeElRow (X := (One g)) (R := (RSlice RRule)) (S := (RSlice RRule)) Z Z Z Z hr22 (orow_blk hr22 hx9) hx9 (FldSet.whole (RSlice RRule)) (Tryd.sizeOf36 _) hw13 (Nat.le_refl _) hC23 fun w20 ho56 hb17 hl24 hC24 => ?_)))
      have ho57 := ho53.go hb17 (fun e => (orow_ne hr22 ho53 (by decide)) (by rw [orow_blk hr22 hx9]; exact congrArg some e.symm))
      have ho58 := ho54.go hb17 (fun e => (orow_ne hr22 ho54 (by decide)) (by rw [orow_blk hr22 hx9]; exact congrArg some e.symm))
      have ho59 := ho55.go hb17 (fun e => (orow_ne hr22 ho55 (by decide)) (by rw [orow_blk hr22 hx9]; exact congrArg some e.symm))
      refine lw_nil (ew_then (cw_region (lw_op Z Z Z (ow_fieldAddr Z Z Tryd.underlying45 Z (Tryd.sizeOf43 _) (lw_op Z Z Z (ow_loadOwn1 Z Z Z ho59 (Tryd.isAgg43 _) Z (lw_op Z Z Z (ow_move Z Z (lw_op Z Z Z (ow_sub Z Z Z (lw_op Z Z Z (ow_build (v := .agg #[(.slice none 0 0), (Zv 3), (Zv (W ((W (1 + x2.1)) - 1)))]) Z Z (by kernel_rfl) ?_))))))))))))
      have hw14 : VRep RRule w20 M9 ({ Tests := ([] : List Test), Action := 3, Chain := (W ((W (1 + x2.1)) - 1)) } : Rule) (.agg #[(.slice none 0 0), (Zv 3), (Zv (W ((W (1 + x2.1)) - 1)))]) := shut_Rule (vslice_nil (R := RTest) (w := w20) (M := M9))
      refine lw_op Z Z Z (ow_buildSlice (R := RRule) (xs := [({ Tests := ([] : List Test), Action := 3, Chain := (W ((W (1 + x2.1)) - 1)) } : Rule)]) (cs := #[(.slice none 0 0), (Zv 3), (Zv (W ((W (1 + x2.1)) - 1)))]) (e := 42) Z Z (by kernel_rfl) Z Z ⟨_, _, Z, hw14.cells, Z⟩ hC24 fun p3 w21 hw15 hb18 hl25 hC25 => ?_)
      have ho60 := ho57.no hb18
      have ho61 := ho58.no hb18
      have ho62 := ho59.no hb18
      have hr23 := ho56.no hb18
      replace h := bind_some h
      obtain ⟨x10, hx10, h⟩ := h
      refine lw_op Z Z Z (ow_indexRow (R := (RSlice RRule)) Z Z Z hr23 Tryd.underlying43 (Tryd.sizeOf36 _) hx10 (lw_op0 Z Z (ow_storeElRow (X := (One g)) (R := (RSlice RRule)) (S := (RSlice RRule)) Z Z Z Z hr23 (orow_blk hr23 hx10) hx10 (FldSet.whole (RSlice RRule)) (Tryd.sizeOf36 _) hw15 (Nat.le_refl _) hC25 fun w22 ho63 hb19 hl26 hC26 => ?_)))
      have ho64 := ho60.go hb19 (fun e => (orow_ne hr23 ho60 (by decide)) (by rw [orow_blk hr23 hx10]; exact congrArg some e.symm))
      have ho65 := ho61.go hb19 (fun e => (orow_ne hr23 ho61 (by decide)) (by rw [orow_blk hr23 hx10]; exact congrArg some e.symm))
      have ho66 := ho62.go hb19 (fun e => (orow_ne hr23 ho62 (by decide)) (by rw [orow_blk hr23 hx10]; exact congrArg some e.symm))
      refine lw_nil (ew_blockN (ew_then (cw_seq (cw_region (lw_op Z Z Z (ow_loadOwnA Z Z Z ho66 (Tryd.isAgg45 _) (Tryd.sizeOf45 _) Z ?_))))))
      have hw16 := ho63.freezeDel
      have hC27 := ho63.cxDel hC26 hX hO
      have hm37 : (Del v11 M9) g1 := ⟨hm34, fun e => (orow_ne ho63 ho65 (by decide)) e⟩
      obtain ⟨A5, c5, rfl, -⟩ := vslice_shape hw16
      refine lw_op0 Z Z (ow_store (X := (One g)) (us := [(.slice A5 (List.set (List.set y2 ((W ((W (1 + x2.1)) - 1)) : Int).toNat [({ Tests := ([] : List Test), Action := 3, Chain := 0 } : Rule)]) (0 : Int).toNat [({ Tests := ([] : List Test), Action := 3, Chain := (W ((W (1 + x2.1)) - 1)) } : Rule)]).length c5), (.bool bb1)]) (cs' := #[(.slice A5 (List.set (List.set y2 ((W ((W (1 + x2.1)) - 1)) : Int).toNat [({ Tests := ([] : List Test), Action := 3, Chain := 0 } : Rule)]) (0 : Int).toNat [({ Tests := ([] : List Test), Action := 3, Chain := (W ((W (1 + x2.1)) - 1)) } : Rule)]).length c5), (.bool bb1)]) Z Z Z Z ho65 (Tryd.sizeOf45 _) Z Z Z Z hm37 (.inl hg2) Z hC27 fun w23 ho67 hb20 hl28 hC28 => ?_)
      have ho68 := ho64.go hb20 (fun e => hn1 e)
      refine lw_nil (ew_then (cw_ret ?_))
      have hw18 : VRep RRuleset w23 (Del (.slice A5 (List.set (List.set y2 ((W ((W (1 + x2.1)) - 1)) : Int).toNat [({ Tests := ([] : List Test), Action := 3, Chain := 0 } : Rule)]) (0 : Int).toNat [({ Tests := ([] : List Test), Action := 3, Chain := (W ((W (1 + x2.1)) - 1)) } : Rule)]).length c5) M9) ({ Chains := (List.set (List.set y2 ((W ((W (1 + x2.1)) - 1)) : Int).toNat [({ Tests := ([] : List Test), Action := 3, Chain := 0 } : Rule)]) (0 : Int).toNat [({ Tests := ([] : List Test), Action := 3, Chain := (W ((W (1 + x2.1)) - 1)) } : Rule)]), Accept := (x1.1 == 0) } : Ruleset) (.agg #[(.slice A5 (List.set (List.set y2 ((W ((W (1 + x2.1)) - 1)) : Int).toNat [({ Tests := ([] : List Test), Action := 3, Chain := 0 } : Rule)]) (0 : Int).toNat [({ Tests := ([] : List Test), Action := 3, Chain := (W ((W (1 + x2.1)) - 1)) } : Rule)]).length c5), (.bool bb1)]) := by subst hbb1; exact shut_Ruleset (VRep.mono hl28 hw16)
      obtain rfl := sj h
      exact ew_ret (res1 Z (.cell Z (own_loadVarA ho67 (Tryd.isAgg45 _) (Tryd.sizeOf45 _) Z))) ⟨_, Z, ⟨(hw18.mono hC28.back), ho68⟩, hC28.bx⟩
     ·
      obtain rfl := hbb6.trans hc5
      refine cw_false Z ?_
      obtain ⟨M10, hr24, hl29, hC29, hk7⟩ := HRow.flat hr6 hC12 hX hO (by decide)
      have hm39 : M10 g := hk7 _ _ _ ho32 (by decide) hm15
      have hm40 : M10 g1 := hk7 _ _ _ ho33 (by decide) hm16
      replace h := bind_some h
      obtain ⟨x11, hx11, h⟩ := h
      have lz6 := (((lz4.trans hl11).trans hl12).trans hl29)
      refine cw_sub (E' := [(0, (Zw g 0)), (4, (Zw g1 0)), (5, (Zw g2 0)), (6, (Zv (W (1 + x2.1))))]) ⟨Z, Z, Z, Z, Zt⟩ (cw_drawC (g := g) (T := 111) 5 1 [none, none, none, none, some 0] [#[(.slice Ax a_xs.length cx), (Zv x5.2)], #[(.slice Ax a_xs.length cx), (Zv x11.2)]] [PEq (Zw g2 0), PEq v11, PEq (Zw g 0), PEq (Zv (W (1 + x2.1))), PV (RSlice RRule) M10 x11.1] (by kernel_rfl) Z (by kernel_rfl) (by kernel_rfl) ho32 ⟨(PEq.monoY hm39 _), (PEq.monoY hm39 _), (PEq.monoY hm39 _), (PEq.monoY hm39 _), (PV.monoY hm39 _ _), Zt⟩ ⟨?_, ?_, ?_, ?_, ?_, Zt⟩ ?_)
      · exact fun w25 D hS3 hd3 => dg_sub (E' := [(5, (Zw g2 0))]) ⟨Z, Zt⟩ (dg_plain Z (ow_fieldAddr Z Z Tryd.underlying45 Z (Tryd.sizeOf43 _) Zb))
      ·
       intro w26 D hS4 hd4
       have ho76 := ho34.go hS4 (fun e => hn2 e.symm)
       exact dg_sub (E' := [(35, (Zw g2 0))]) ⟨dpE hd4 0 Z Z, Zt⟩ (dg_plain Z (ow_loadOwn1 Z Z Z ho76 (Tryd.isAgg43 _) Z Zb))
      · exact fun w27 D hS5 hd5 => dg_sub (E' := [(0, (Zw g 0))]) ⟨Z, Zt⟩ (dg_plain Z (ow_move Z Z Zb))
      · exact fun w28 D hS6 hd6 => dg_sub (E' := [(6, (Zv (W (1 + x2.1))))]) ⟨Z, Zt⟩ (dg_plain Z (ow_move Z Z Zb))
      ·
       intro w29 D hS7 hd7
       obtain ⟨hS7, ho81⟩ := hS7
       have ho81 : Own w29 g 111 #[(.slice Ax a_xs.length cx), (Zv x5.2)] := ho81
       have hl35 := leY hm39 hS7
       have hC35 := hC29.go hS7 (fun b e => Or.inr e)
       refine dg_sub (E' := [(37, (Zw g 0)), (38, (Zv (W (1 + x2.1))))]) ⟨dpE hd7 2 Z Z, dpE hd7 3 Z Z, Zt⟩ (dg_plain Z (ow_call Z Z Tryd.call59 (w_spec_l20Rules (hG.mono (lz6.trans hl35)) hC35.old (VRep.mono (lz6.trans hl35) hxs) ho81 hm39 hx11) fun v19 w30 hv19 => ?_))
       obtain ⟨⟨hv19, ho84⟩, hb22⟩ := hv19
       exact ⟨⟨⟨hS7.trans hb22, ho84⟩, hb22⟩, hv19⟩
      ·
       intro w31 D hS8 hd8
       have d10 : PV (RSlice RRule) M10 x11.1 (D 4) w31 := dpA hd8 4 Z
       obtain ⟨hS8, ho87⟩ := hS8
       have ho87 : Own w31 g 111 #[(.slice Ax a_xs.length cx), (Zv x11.2)] := ho87
       have hl37 := leY hm39 hS8
       have hC37 := hC29.go hS8 (fun b e => Or.inr e)
       have ho88 := ho33.go hS8 (fun e => hn1 e.symm)
       have ho89 := ho34.go hS8 (fun e => hn2 e.symm)
       have hr32 := hr24.go hS8 (fun k hk e => (orow_ne hr24 ho32 (by decide)) (hk.trans (congrArg some e))) hl37 (fun _ h => h)
       generalize hq5 : (D 4) = v20 at d10
       refine lw_sub (E' := [(36, v11), (39, v20), (0, (Zw g 0)), (4, (Zw g1 0)), (5, (Zw g2 0)), (6, (Zv (W (1 + x2.1))))]) ⟨dpE hd8 1 Z Z, congrArg some hq5, Z, Z, Z, Z, Zt⟩ ?_
       replace h := bind_some h
       obtain ⟨x12, hx12, h⟩ := h
       refine lw_op Z Z Z (ow_indexRow (R := (RSlice RRule)) Z Z Z hr32 Tryd.underlying43 (Tryd.sizeOf36 _) hx12 (lw_op0 Z Z (ow_storeElRow (X := (One g)) (R := (RSlice RRule)) (S := (RSlice RRule)) Z Z Z Z hr32 (orow_blk hr32 hx12) hx12 (FldSet.whole (RSlice RRule)) (Tryd.sizeOf36 _) d10 (Nat.le_refl _) hC37 fun w32 ho90 hb23 hl38 hC38 => ?_)))
       have ho91 := ho87.go hb23 (fun e => (orow_ne hr32 ho87 (by decide)) (by rw [orow_blk hr32 hx12]; exact congrArg some e.symm))
       have ho92 := ho88.go hb23 (fun e => (orow_ne hr32 ho88 (by decide)) (by rw [orow_blk hr32 hx12]; exact congrArg some e.symm))
       have ho93 := ho89.go hb23 (fun e => (orow_ne hr32 ho89 (by decide)) (by rw [orow_blk hr32 hx12]; exact congrArg some e.symm))
       refine lw_nil (ew_blockN (ew_then (cw_seq (cw_region (lw_op Z Z Z (ow_loadOwnA Z Z Z ho93 (Tryd.isAgg45 _) (Tryd.sizeOf45 _) Z ?_))))))
       have hw19 := ho90.freezeDel
       have hC39 := ho90.cxDel hC38 hX hO
       have hm43 : (Del v11 M10) g1 := ⟨hm40, fun e => (orow_ne ho90 ho92 (by decide)) e⟩
       obtain ⟨A6, c6, rfl, -⟩ := vslice_shape hw19
       refine lw_op0 Z Z (ow_store (X := (One g)) (us := [(.slice A6 (List.set y2 (0 : Int).toNat x11.1).length c6), (.bool bb1)]) (cs' := #[(.slice A6 (List.set y2 (0 : Int).toNat x11.1).length c6), (.bool bb1)]) Z Z Z Z ho92 (Tryd.sizeOf45 _) Z Z Z Z hm43 (.inl hg2) Z hC39 fun w33 ho94 hb24 hl40 hC40 => ?_)
       have ho95 := ho91.go hb24 (fun e => hn1 e)
       refine lw_nil (ew_then (cw_ret ?_))
       have hw21 : VRep RRuleset w33 (Del (.slice A6 (List.set y2 (0 : Int).toNat x11.1).length c6) M10) ({ Chains := (List.set y2 (0 : Int).toNat x11.1), Accept := (x1.1 == 0) } : Ruleset) (.agg #[(.slice A6 (List.set y2 (0 : Int).toNat x11.1).length c6), (.bool bb1)]) := by subst hbb1; exact shut_Ruleset (VRep.mono hl40 hw19)
       obtain rfl := sj h
       exact ew_ret (res1 Z (.cell Z (own_loadVarA ho94 (Tryd.isAgg45 _) (Tryd.sizeOf45 _) Z))) ⟨_, Z, ⟨(hw21.mono hC40.back), ho95⟩, hC40.bx⟩
  ·
   obtain rfl := hbb3.trans hc2
   refine cw_false Z (cw_skip (ew_then (cw_seq ?_)))
   obtain ⟨M11, hr33, hl41, hC41, hk8⟩ := HRow.flat hr5 hC11 hX hO (by decide)
   have hm46 : M11 g1 := hk8 _ _ _ ho30 (by decide) hm16
   refine cw_region (lw_op Z Z Z (ow_loadOwnA Z Z Z ho31 (Tryd.isAgg45 _) (Tryd.sizeOf45 _) Z ?_))
   have hw22 := hr33.freezeDel
   have hC42 := hr33.cxDel hC41 hX hO
   have hm49 : (Del v11 M11) g1 := ⟨hm46, fun e => (orow_ne hr33 ho30 (by decide)) e⟩
   obtain ⟨A7, c7, rfl, -⟩ := vslice_shape hw22
   refine lw_op0 Z Z (ow_store (X := (One g)) (us := [(.slice A7 y2.length c7), (.bool bb1)]) (cs' := #[(.slice A7 y2.length c7), (.bool bb1)]) Z Z Z Z ho30 (Tryd.sizeOf45 _) Z Z Z Z hm49 (.inl hg2) Z hC42 fun w34 ho97 hb25 hl43 hC43 => ?_)
   have ho98 := ho29.go hb25 (fun e => hn1 e)
   refine lw_nil (ew_then (cw_ret ?_))
   have hw24 : VRep RRuleset w34 (Del (.slice A7 y2.length c7) M11) ({ Chains := y2, Accept := (x1.1 == 0) } : Ruleset) (.agg #[(.slice A7 y2.length c7), (.bool bb1)]) := by subst hbb1; exact shut_Ruleset (VRep.mono hl43 hw22)
   obtain rfl := sj h
   exact ew_ret (res1 Z (.cell Z (own_loadVarA ho97 (Tryd.isAgg45 _) (Tryd.sizeOf45 _) Z))) ⟨_, Z, ⟨(hw24.mono hC43.back), ho98⟩, hC43.bx⟩

theorem w_spec_l20Case {w : World} {M : Nat → Prop} (hG : ARep (RArr 4 RShape) w M shapes ⟨0, 0, none⟩) (hO : ∀ b, M b → b < w.heap.size) {g : Nat} {Ax : Option Addr} {cx : Nat} {a_xs : List Int} {a_pos : Int} (hxs : VRep (RSlice RU8) w M a_xs (.slice Ax a_xs.length cx)) (hown : Own w g 111 #[.slice Ax a_xs.length cx, .int .i64 a_pos]) (hgM : M g) {a_n : Int} {r : Ruleset × Packet × Int} (h : F.spec_l20Case a_xs a_pos a_n = some r) :
  Calls Tryd.prog 75 [(.pointer (some ⟨g, 0, none⟩)), (.int .i64 a_n)].toArray w fun e w' => ∃ v, e = .returned v ∧ ((∃ u0 u1, v = .tuple #[u0, u1] ∧ VRep RRuleset w' M r.1 u0 ∧ VRep RPacket w' M r.2.1 u1) ∧ Own w' g 111 #[.slice Ax a_xs.length cx, .int .i64 r.2.2]) ∧ BX (One g) w w' := by
 obtain ⟨i31, hi31, hz31, hs31, hy31⟩ := info31
 have hX : ∀ b, (One g) b → M b := fun b e => e ▸ hgM
 have hC : Cx (One g) w M w M := Cx.start hO hX
 refine walk (N := 50) Tryd.func75 Z Tryd.ntmps75 Z (cw_seq (cw_region (lw_op Z Z Z (ow_alloc Z (Tryd.zeroValue45 _) hC fun g1 w1 hg1 hg2 ho1 hb1 hl1 hC1 => ?_))))
 have hn1 := Nat.ne_of_lt (Nat.lt_of_lt_of_le hown.lt hg1)
 have ho2 := hown.no hb1
 have hm1 : (Add g1 M) g := .inr hgM
 have hm2 : (Add g1 M) g1 := .inl Z
 refine lw_op Z Z Z (ow_alloc Z (Tryd.zeroValue38 _) hC1 fun g2 w2 hg3 hg4 ho3 hb2 hl2 hC2 => ?_)
 have hn2 := Nat.ne_of_lt (Nat.lt_of_lt_of_le ho2.lt hg3)
 have ho4 := ho2.no hb2
 have hm3 : (Add g2 (Add g1 M)) g := .inr hm1
 have hn3 := Nat.ne_of_lt (Nat.lt_of_lt_of_le ho1.lt hg3)
 have ho5 := ho1.no hb2
 have hm4 : (Add g2 (Add g1 M)) g1 := .inr hm2
 have hm5 : (Add g2 (Add g1 M)) g2 := .inl Z
 refine lw_nil (ew_then (cw_seq (cw_region (lw_op Z Z Z (ow_move Z Z (lw_op Z Z Z (ow_move Z Z ?_)))))))
 replace h := bind_some h
 obtain ⟨x1, hx1, h⟩ := h
 refine lw_op Z Z Z (ow_call Z Z Tryd.call65 (w_spec_l20Ruleset (hG.mono (hl1.trans hl2)) hC2.old (VRep.mono (hl1.trans hl2) hxs) ho4 hm3 hx1) fun v1 w3 hv1 => ?_)
 obtain ⟨⟨hv1, ho6⟩, hb3⟩ := hv1
 have hl3 := Le.of_bx (Add g2 (Add g1 M)) hb3 (fun b e => (by rw [show b = g from e]; exact hm3))
 have hC3 := hC2.go hb3 (fun b e => Or.inr e)
 have ho7 := ho5.go hb3 (fun e => hn1 e.symm)
 have ho8 := ho3.go hb3 (fun e => hn2 e.symm)
 refine lw_allocStore (R := RRuleset) Z Z Z Z Z Z Z Tryd.zeroValue45 Tryd.sizeOf45 Z Z Z (by simp) hv1 hC3 fun p1 w4 hp1 hb4 hl4 hC4 => ?_
 have ho9 := ho6.no hb4
 have ho10 := ho7.no hb4
 have ho11 := ho8.no hb4
 refine lw_nil (ew_then (cw_seq (cw_region (lw_op Z Z Z (ow_buildSlice0 (R := RTest) (e := 31) Z (by kernel_rfl) hC4 fun p2 w5 M1 hr1 hb5 hl5 hC5 hM1 hat1 => ?_)))))
 have ho12 := ho9.no hb5
 have hm6 := hM1 _ hm3
 have ho13 := ho10.no hb5
 have hm7 := hM1 _ hm4
 have ho14 := ho11.no hb5
 have hm8 := hM1 _ hm5
 refine lw_op Z Z Z (ow_assign Z Z (lw_nil (ew_then (cw_seq (cw_seq (cw_region (lw_op Z Z Z (ow_assign Z Z (lw_nil (ew_then ?_))))))))))
 replace h := bind_some h
 obtain ⟨lr1, hlr1, h⟩ := h
 refine cw_for hlr1 (fun s a w' => ∃ (M' : Nat → Prop) (v0c : Value), Fits 50 [(0, (Zw g 0)), (1, (Zv a_n)), (4, (Zw g1 0)), (5, (Zw g2 0)), (6, (.pointer (some p1))), (7, v0c), (8, (Zv s.2.1))] a ∧ Le w5 M1 w' M' ∧ Cx (One g) w M w' M' ∧ OwnRow RTest w.heap.size 31 w' M' s.1 v0c ∧ Own w' g 111 #[(.slice Ax a_xs.length cx), (Zv s.2.2)] ∧ M' g ∧ Own w' g1 45 #[(.slice none 0 0), (.bool false)] ∧ M' g1 ∧ Own w' g2 38 #[(Zv 0), (Zv 0), (Zv 0), (Zv 0)] ∧ M' g2) ?_ ?_ ?_
 · exact fun a ha => ⟨M1, (.slice (some p2) 0 0), ha.sub ⟨Z, Z, Z, Z, Z, Z, Z, Zt⟩, Le.refl _ _, hC5, hr1, ho12, hm6, ho13, hm7, ho14, hm8⟩
 ·
  rintro ⟨y1, k1, k2⟩ a w6 sr1 ⟨M2, v2, hF1, hl6, hC6, hw1, ho15, hm9, ho16, hm10, ho17, hm11⟩ hb6 hR1
  refine cw_at (E := [(0, (Zw g 0)), (1, (Zv a_n)), (4, (Zw g1 0)), (5, (Zw g2 0)), (6, (.pointer (some p1))), (7, v2), (8, (Zv k1))]) hF1 (cw_seq (cw_seq (cw_region (lw_op Z Z Z (ow_move Z Z (lw_op Z Z Z (ow_fieldAddr Z Z Tryd.underlying45 Z (Tryd.sizeOf43 _) (lw_op Z Z Z (ow_load (R := (RSlice (RSlice RRule))) Z Z (ARep.mono (hl5.trans hl6) (hp1.fld fld_Ruleset_Chains)) (Tryd.sizeOf43 _) (Tryd.isAgg43 _) fun v5 hv5 => lw_op Z Z Z (ow_len Z Z hv5 Tryd.underlying43 Z (lw_op Z Z Z (ow_lss Z Z Z fun bb1 hbb1 => lw_nil (ew_then ?_)))))))))))))
  replace hb6 := cond_some hb6
  rcases hb6 with ⟨hc1, hb6⟩ | ⟨hc1, hb6⟩
  ·
   obtain rfl := hbb1.trans hc1
   refine cw_true Z (cw_skip (ew_then (cw_seq (cw_block (cw_seq (cw_region (lw_op Z Z Z (ow_assign Z Z (lw_nil (ew_then ?_))))))))))
   replace hb6 := bind_some hb6
   obtain ⟨lr2, hlr2, hb6⟩ := hb6
   refine cw_for hlr2 (fun s a w' => ∃ (M' : Nat → Prop) (v0c : Value), Fits 50 [(0, (Zw g 0)), (1, (Zv a_n)), (4, (Zw g1 0)), (5, (Zw g2 0)), (6, (.pointer (some p1))), (7, v0c), (8, (Zv k1)), (9, (Zv s.2.1))] a ∧ Le w6 M2 w' M' ∧ Cx (One g) w M w' M' ∧ OwnRow RTest w.heap.size 31 w' M' s.1 v0c ∧ Own w' g 111 #[(.slice Ax a_xs.length cx), (Zv s.2.2)] ∧ M' g ∧ Own w' g1 45 #[(.slice none 0 0), (.bool false)] ∧ M' g1 ∧ Own w' g2 38 #[(Zv 0), (Zv 0), (Zv 0), (Zv 0)] ∧ M' g2) ?_ ?_ ?_
   · exact fun a ha => ⟨M2, v2, ha.sub ⟨Z, Z, Z, Z, Z, Z, Z, Z, Zt⟩, Le.refl _ _, hC6, hw1, ho15, hm9, ho16, hm10, ho17, hm11⟩
   ·
    rintro ⟨y2, k3, k4⟩ a w7 sr2 ⟨M3, v6, hF2, hl7, hC7, hw2, ho18, hm12, ho19, hm13, ho20, hm14⟩ hb7 hR2
    refine cw_at (E := [(0, (Zw g 0)), (1, (Zv a_n)), (4, (Zw g1 0)), (5, (Zw g2 0)), (6, (.pointer (some p1))), (7, v6), (8, (Zv k1)), (9, (Zv k3))]) hF2 (cw_seq (cw_seq (cw_region (lw_op Z Z Z (ow_move Z Z (lw_op Z Z Z (ow_fieldAddr Z Z Tryd.underlying45 Z (Tryd.sizeOf43 _) ?_)))))))
    have lz1 := ((hl5.trans hl6).trans hl7)
    refine lw_op Z Z Z (ow_load (R := (RSlice (RSlice RRule))) Z Z (ARep.mono lz1 (hp1.fld fld_Ruleset_Chains)) (Tryd.sizeOf43 _) (Tryd.isAgg43 _) fun v9 hv9 => lw_op Z Z Z (ow_move Z Z ?_))
    replace hb7 := bind_some hb7
    obtain ⟨x2, hx2, hb7⟩ := hb7
    refine lw_op Z Z Z (ow_indexSlice (R := (RSlice RRule)) Z Z Z hv9 Tryd.underlying43 (Tryd.sizeOf36 _) hx2 fun p3 hp3 => lw_op Z Z Z (ow_load (R := (RSlice RRule)) Z Z hp3 (Tryd.sizeOf36 _) (Tryd.isAgg36 _) fun v10 hv10 => lw_op Z Z Z (ow_len Z Z hv10 Tryd.underlying36 Z (lw_op Z Z Z (ow_lss Z Z Z fun bb2 hbb2 => lw_nil (ew_then ?_))))))
    replace hb7 := cond_some hb7
    rcases hb7 with ⟨hc2, hb7⟩ | ⟨hc2, hb7⟩
    ·
     obtain rfl := hbb2.trans hc2
     refine cw_true Z (cw_skip (ew_then (cw_seq (cw_block (cw_seq (cw_region (lw_op Z Z Z (ow_move Z Z ?_))))))))
     have lz2 := ((((((hl1.trans hl2).trans hl3).trans hl4).trans hl5).trans hl6).trans hl7)
     replace hb7 := bind_some hb7
     obtain ⟨x3, hx3, hb7⟩ := hb7
     refine lw_op Z Z Z (ow_call Z Z Tryd.call60 (w_spec_l20Rd_pick (hG.mono lz2) hC7.old (VRep.mono lz2 hxs) ho18 hm12 hx3) fun v11 w8 hv11 => ?_)
     obtain ⟨⟨hv11, ho21⟩, hb8⟩ := hv11
     have hl8 := Le.of_bx M3 hb8 (fun b e => (by rw [show b = g from e]; exact hm12))
     have hC8 := hC7.go hb8 (fun b e => Or.inr e)
     have ho22 := ho19.go hb8 (fun e => hn1 e.symm)
     have ho23 := ho20.go hb8 (fun e => hn2 e.symm)
     have hr2 := hw2.go hb8 (fun k hk e => (orow_ne hw2 ho18 (by decide)) (hk.trans (congrArg some e))) hl8 (fun _ h => h)
     obtain rfl := vint_eq hv11
     refine lw_op Z Z Z (ow_eqlI Z Z Z fun bb3 hbb3 => lw_nil (ew_then ?_))
     replace hb7 := cond_some hb7
     rcases hb7 with ⟨hc3, hb7⟩ | ⟨hc3, hb7⟩
     ·
      obtain rfl := hbb3.trans hc3
      refine cw_true Z (cw_region (lw_op Z Z Z (ow_move Z Z (lw_op Z Z Z (ow_fieldAddr Z Z Tryd.underlying45 Z (Tryd.sizeOf43 _) (lw_op Z Z Z (ow_load (R := (RSlice (RSlice RRule))) Z Z (ARep.mono (lz1.trans hl8) (hp1.fld fld_Ruleset_Chains)) (Tryd.sizeOf43 _) (Tryd.isAgg43 _) fun v12 hv12 => lw_op Z Z Z (ow_move Z Z (lw_op Z Z Z (ow_indexSlice (R := (RSlice RRule)) Z Z Z hv12 Tryd.underlying43 (Tryd.sizeOf36 _) hx2 fun p4 hp4 => lw_op Z Z Z (ow_load (R := (RSlice RRule)) Z Z hp4 (Tryd.sizeOf36 _) (Tryd.isAgg36 _) fun v13 hv13 => lw_op Z Z Z (ow_move Z Z ?_))))))))))))
      replace hb7 := bind_some hb7
      obtain ⟨x4, hx4, hb7⟩ := hb7
      refine lw_op Z Z Z (ow_indexSlice (R := RRule) Z Z Z hv13 Tryd.underlying36 (Tryd.sizeOf42 _) hx4 fun p5 hp5 => lw_op Z Z Z (ow_fieldAddr Z Z Tryd.underlying42 Z (Tryd.sizeOf27 _) (lw_op Z Z Z (ow_load (R := (RSlice RTest)) Z Z (hp5.fld fld_Rule_Tests) (Tryd.sizeOf27 _) (Tryd.isAgg27 _) fun v14 hv14 => ?_))))
      replace hb7 := bind_some hb7
      obtain ⟨z1, hz1, hb7⟩ := hb7
      refine lw_op Z Z Z (ow_append (R := RTest) Z Z Z Z Tryd.underlying27 hi31 hz31 hs31 hy31 Z Z Z Z hr2 hv14 hz1 hC8 fun v15 w9 M4 hr3 hb9 hl9 hC9 hM2 hat2 => ?_)
      have ho24 := ho21.go hb9 (fun e => (orow_ne hr2 ho21 (by decide)) e)
      have hm15 := hM2 _ hm12
      have ho25 := ho22.go hb9 (fun e => (orow_ne hr2 ho22 (by decide)) e)
      have hm16 := hM2 _ hm13
      have ho26 := ho23.go hb9 (fun e => (orow_ne hr2 ho23 (by decide)) e)
      have hm17 := hM2 _ hm14
      refine lw_op Z Z Z (ow_assign Z Z (lw_nil (ew_blockN (ew_then (cw_region (lw_op Z Z Z (ow_move Z Z (lw_op Z Z Z (ow_add Z Z Z (lw_op Z Z Z (ow_assign Z Z (lw_nil ?_))))))))))))
      have lz3 := ((hl7.trans hl8).trans hl9)
      exact ew_nxt (z1, (W (k3 + 1)), x3.2) hb7 fun a ha => ⟨M4, v15, (ha.sub ⟨Z, Z, Z, Z, Z, Z, Z, Z, Zt⟩), lz3, hC9, hr3, ho24, hm15, ho25, hm16, ho26, hm17⟩
     ·
      obtain rfl := hbb3.trans hc3
      exact cw_false Z (cw_skip (ew_blockN (ew_then (cw_region (lw_op Z Z Z (ow_move Z Z (lw_op Z Z Z (ow_add Z Z Z (lw_op Z Z Z (ow_assign Z Z (lw_nil (ew_nxt (y2, (W (k3 + 1)), x3.2) hb7 fun a ha => ⟨M3, v6, (ha.sub ⟨Z, Z, Z, Z, Z, Z, Z, Z, Zt⟩), (hl7.trans hl8), hC8, hr2, ho21, hm12, ho22, hm13, ho23, hm14⟩))))))))))))
    ·
     obtain rfl := hbb2.trans hc2
     exact cw_false Z (cw_exit (ew_thenX (ew_thenX (ew_blockX (ew_brk (y2, k3, k4) hb7 fun a ha => ⟨M3, v6, (ha.sub ⟨Z, Z, Z, Z, Z, Z, Z, Z, Zt⟩), hl7, hC7, hw2, ho18, hm12, ho19, hm13, ho20, hm14⟩)))))
   ·
    rintro ⟨y3, k5, k6⟩ a w10 hlr3 ⟨M5, v16, hF3, hl10, hC10, hw3, ho27, hm18, ho28, hm19, ho29, hm20⟩
    subst hlr3
    exact ew_at (E := [(0, (Zw g 0)), (1, (Zv a_n)), (4, (Zw g1 0)), (5, (Zw g2 0)), (6, (.pointer (some p1))), (7, v16), (8, (Zv k1)), (9, (Zv k5))]) hF3 (ew_blockN (ew_then (cw_region (lw_op Z Z Z (ow_move Z Z (lw_op Z Z Z (ow_add Z Z Z (lw_op Z Z Z (ow_assign Z Z (lw_nil (ew_nxt (y3, (W (k1 + 1)), k6) hb6 fun a ha => ⟨M5, v16, (ha.sub ⟨Z, Z, Z, Z, Z, Z, Z, Zt⟩), (hl6.trans hl10), hC10, hw3, ho27, hm18, ho28, hm19, ho29, hm20⟩)))))))))))
  ·
   obtain rfl := hbb1.trans hc1
   exact cw_false Z (cw_exit (ew_thenX (ew_thenX (ew_blockX (ew_brk (y1, k1, k2) hb6 fun a ha => ⟨M2, v2, (ha.sub ⟨Z, Z, Z, Z, Z, Z, Z, Zt⟩), hl6, hC6, hw1, ho15, hm9, ho16, hm10, ho17, hm11⟩)))))
 ·
  rintro ⟨y4, k7, k8⟩ a w11 hlr4 ⟨M6, v19, hF4, hl11, hC11, hw4, ho30, hm21, ho31, hm22, ho32, hm23⟩
  subst hlr4
  refine ew_at (E := [(0, (Zw g 0)), (1, (Zv a_n)), (4, (Zw g1 0)), (5, (Zw g2 0)), (6, (.pointer (some p1))), (7, v19), (8, (Zv k7))]) hF4 (ew_then (cw_seq ?_))
  replace h := bind_some h
  obtain ⟨x5, hx5, h⟩ := h
  have lz4 := (((((hl1.trans hl2).trans hl3).trans hl4).trans hl5).trans hl11)
  have lz5 := (hl5.trans hl11)
  have hw6 := hw4.freezeDel
  have hC14 := hw4.cxDel hC11 hX hO
  have hl14 := Le.del w11 M6 v19
  have hm27 : (Del v19 M6) g := ⟨hm21, fun e => (orow_ne hw4 ho30 (by decide)) e⟩
  have hm28 : (Del v19 M6) g1 := ⟨hm22, fun e => (orow_ne hw4 ho31 (by decide)) e⟩
  have hm29 : (Del v19 M6) g2 := ⟨hm23, fun e => (orow_ne hw4 ho32 (by decide)) e⟩
  refine cw_sub (E' := [(0, (Zw g 0)), (1, (Zv a_n)), (4, (Zw g1 0)), (5, (Zw g2 0)), (6, (.pointer (some p1))), (7, v19)]) ⟨Z, Z, Z, Z, Z, Z, Zt⟩ (cw_drawC (g := g) (T := 111) 5 1 [none, none, none, none, some 0] [#[(.slice Ax a_xs.length cx), (Zv k8)], #[(.slice Ax a_xs.length cx), (Zv x5.2)]] [PV RRuleset (Del v19 M6) x1.1, PEq (Zw g 0), PV (RSlice RTest) (Del v19 M6) y4, PEq (Zv a_n), PV RPacket (Del v19 M6) x5.1] (by kernel_rfl) Z (by kernel_rfl) (by kernel_rfl) ho30 ⟨(PV.monoY hm27 _ _), (PEq.monoY hm27 _), (PV.monoY hm27 _ _), (PEq.monoY hm27 _), (PV.monoY hm27 _ _), Zt⟩ ⟨?_, ?_, ?_, ?_, ?_, Zt⟩ ?_)
  ·
   intro w13 D hS1 hd1
   have hl15 := leY hm27 hS1
   refine dg_sub (E' := [(6, (.pointer (some p1)))]) ⟨Z, Zt⟩ ?_
   have lz6 := ((lz5.trans hl14).trans hl15)
   exact dg_plain Z (ow_load (R := RRuleset) Z Z (ARep.mono lz6 hp1) (Tryd.sizeOf45 _) (Tryd.isAgg45 _) fun v24 hv24 => ⟨BX.refl _ _, hv24⟩)
  · exact fun w14 D hS2 hd2 => dg_sub (E' := [(0, (Zw g 0))]) ⟨Z, Zt⟩ (dg_plain Z (ow_move Z Z Zb))
  ·
   intro w15 D hS3 hd3
   have hl17 := leY hm27 hS3
   exact dg_sub (E' := [(7, v19)]) ⟨Z, Zt⟩ (dg_plain Z (ow_move Z Z ⟨BX.refl _ _, (VRep.mono hl17 hw6)⟩))
  · exact fun w16 D hS4 hd4 => dg_sub (E' := [(1, (Zv a_n))]) ⟨Z, Zt⟩ (dg_plain Z (ow_move Z Z Zb))
  ·
   intro w17 D hS5 hd5
   obtain ⟨hS5, ho44⟩ := hS5
   have ho44 : Own w17 g 111 #[(.slice Ax a_xs.length cx), (Zv k8)] := ho44
   have hl19 := leY hm27 hS5
   have hC19 := hC14.go hS5 (fun b e => Or.inr e)
   have d2 : PV (RSlice RTest) (Del v19 M6) y4 (D 2) w17 := dpA hd5 2 Z
   generalize hq1 : (D 2) = v25 at d2
   refine dg_sub (E' := [(46, (Zw g 0)), (47, v25), (48, (Zv a_n))]) ⟨dpE hd5 1 Z Z, congrArg some hq1, dpE hd5 3 Z Z, Zt⟩ ?_
   have lz7 := ((lz4.trans hl14).trans hl19)
   refine dg_plain Z (ow_call Z Z Tryd.call61 (w_spec_l20Near (hG.mono lz7) hC19.old (VRep.mono lz7 hxs) ho44 hm27 d2 hx5) fun v26 w18 hv26 => ?_)
   obtain ⟨⟨hv26, ho47⟩, hb11⟩ := hv26
   exact ⟨⟨⟨hS5.trans hb11, ho47⟩, hb11⟩, hv26⟩
  ·
   intro w19 D hS6 hd6
   have d4 : PV RRuleset (Del v19 M6) x1.1 (D 0) w19 := dpA hd6 0 Z
   have d8 : PV RPacket (Del v19 M6) x5.1 (D 4) w19 := dpA hd6 4 Z
   obtain ⟨hS6, ho50⟩ := hS6
   have ho50 : Own w19 g 111 #[(.slice Ax a_xs.length cx), (Zv x5.2)] := ho50
   have hC21 := hC14.go hS6 (fun b e => Or.inr e)
   have ho51 := ho31.go hS6 (fun e => hn1 e.symm)
   have ho52 := ho32.go hS6 (fun e => hn2 e.symm)
   generalize hq2 : (D 0) = v27 at d4
   generalize hq3 : (D 4) = v28 at d8
   refine lw_sub (E' := [(45, v27), (49, v28), (0, (Zw g 0)), (1, (Zv a_n)), (4, (Zw g1 0)), (5, (Zw g2 0)), (6, (.pointer (some p1))), (7, v19)]) ⟨congrArg some hq2, congrArg some hq3, Z, Z, Z, Z, Z, Z, Zt⟩ ?_
   obtain ⟨A1, c1, rfl, hw7⟩ := open_Ruleset d4
   refine lw_op0 Z Z (ow_store (X := (One g)) (us := [(.slice A1 x1.1.Chains.length c1), (.bool x1.1.Accept)]) (cs' := #[(.slice A1 x1.1.Chains.length c1), (.bool x1.1.Accept)]) Z Z Z Z ho51 (Tryd.sizeOf45 _) Z Z Z Z hm28 (.inl hg2) Z hC21 fun w20 ho53 hb12 hl22 hC22 => ?_)
   have ho54 := ho50.go hb12 (fun e => hn1 e)
   have ho55 := ho52.go hb12 (fun e => hn3 e.symm)
   obtain rfl := open_Packet d8
   refine lw_op0 Z Z (ow_store (X := (One g)) (us := [(Zv x5.1.From), (Zv x5.1.To), (Zv x5.1.Port), (Zv x5.1.Proto)]) (cs' := #[(Zv x5.1.From), (Zv x5.1.To), (Zv x5.1.Port), (Zv x5.1.Proto)]) Z Z Z Z ho55 (Tryd.sizeOf38 _) Z Z Z Z hm29 (.inl hg4) Z hC22 fun w21 ho56 hb13 hl23 hC23 => ?_)
   have ho57 := ho54.go hb13 (fun e => hn2 e)
   have ho58 := ho53.go hb13 (fun e => hn3 e)
   refine lw_nil (ew_then (cw_ret ?_))
   have hw8 : VRep RRuleset w21 (Del v19 M6) ({ Chains := x1.1.Chains, Accept := x1.1.Accept } : Ruleset) (.agg #[(.slice A1 x1.1.Chains.length c1), (.bool x1.1.Accept)]) := shut_Ruleset (VRep.mono (hl22.trans hl23) hw7)
   have hw9 : VRep RPacket w21 (Del v19 M6) ({ From := x5.1.From, To := x5.1.To, Port := x5.1.Port, Proto := x5.1.Proto } : Packet) (.agg #[(Zv x5.1.From), (Zv x5.1.To), (Zv x5.1.Port), (Zv x5.1.Proto)]) := shut_Packet
   obtain rfl := sj h
   exact ew_ret (res2 Z (.cell Z (own_loadVarA ho58 (Tryd.isAgg45 _) (Tryd.sizeOf45 _) Z)) (.cell Z (own_loadVarA ho56 (Tryd.isAgg38 _) (Tryd.sizeOf38 _) Z))) ⟨_, Z, ⟨⟨_, _, Z, (hw8.mono hC23.back), (hw9.mono hC23.back)⟩, ho57⟩, hC23.bx⟩

theorem w_spec_DrawJudge {w : World} {M : Nat → Prop} (hG : ARep (RArr 4 RShape) w M shapes ⟨0, 0, none⟩) (hO : ∀ b, M b → b < w.heap.size) {v0p : Value} {a_code : List Int} (h0 : VRep (RSlice RU8) w M a_code v0p) {r : Ruleset × Packet} (h : F.spec_DrawJudge a_code = some r) :
  Calls Tryd.prog 42 [v0p].toArray w fun e w' => ∃ v, e = .returned v ∧ (∃ u0 u1, v = .tuple #[u0, u1] ∧ VRep RRuleset w' M r.1 u0 ∧ VRep RPacket w' M r.2 u1) ∧ BX No w w' := by
 have hC : Cx No w M w M := Cx.start hO (fun _ e => e.elim)
 refine walk (N := 9) Tryd.func42 Z Tryd.ntmps42 Z (cw_seq (cw_region (lw_op Z Z Z (ow_alloc Z (Tryd.zeroValue45 _) hC fun g1 w1 hg1 hg2 ho1 hb1 hl1 hC1 => ?_))))
 have hm1 : (Add g1 M) g1 := .inl Z
 refine lw_op Z Z Z (ow_alloc Z (Tryd.zeroValue38 _) hC1 fun g2 w2 hg3 hg4 ho2 hb2 hl2 hC2 => ?_)
 have hn1 := Nat.ne_of_lt (Nat.lt_of_lt_of_le ho1.lt hg3)
 have ho3 := ho1.no hb2
 have hm2 : (Add g2 (Add g1 M)) g1 := .inr hm1
 have hm3 : (Add g2 (Add g1 M)) g2 := .inl Z
 refine lw_nil (ew_then (cw_seq (cw_region (lw_op Z Z Z (ow_move Z Z ?_)))))
 replace h := bind_some h
 obtain ⟨x1, hx1, h⟩ := h
 refine lw_op Z Z Z (ow_call Z Z Tryd.call47 (w_spec_l20Open (hG.mono (hl1.trans hl2)) hC2.old (VRep.mono (hl1.trans hl2) h0) hx1) fun v1 w3 hv1 => ?_)
 obtain ⟨⟨g3, A1, c1, rfl, hg5, ho4, hw1⟩, hb3⟩ := hv1
 have hl3 := (Le.no (Add g2 (Add g1 M)) hb3).add hg5
 have hg6 := Nat.le_trans hC2.bx.size hg5
 have hC3 := (hC2.no hb3).add ho4.lt hg6
 have hn2 := Nat.ne_of_lt (Nat.lt_of_lt_of_le ho3.lt hg5)
 have ho5 := ho3.no hb3
 have hm4 : (Add g3 (Add g2 (Add g1 M))) g1 := .inr hm2
 have hn3 := Nat.ne_of_lt (Nat.lt_of_lt_of_le ho2.lt hg5)
 have ho6 := ho2.no hb3
 have hm5 : (Add g3 (Add g2 (Add g1 M))) g2 := .inr hm3
 have hm6 : (Add g3 (Add g2 (Add g1 M))) g3 := .inl Z
 replace h := bind_some h
 obtain ⟨x2, hx2, h⟩ := h
 have lz1 := ((hl1.trans hl2).trans hl3)
 refine lw_op Z Z Z (ow_call Z Z Tryd.call75 (w_spec_l20Case (hG.mono lz1) hC3.old hw1 ho4 hm6 hx2) fun v2 w4 hv2 => ?_)
 obtain ⟨⟨⟨v3, v4, rfl, hv3, hv4⟩, ho7⟩, hb4⟩ := hv2
 have hC4 := hC3.go hb4 (fun b e => (by rw [show b = g3 from e]; exact (.inl hg6)))
 have ho8 := ho5.go hb4 (fun e => hn2 e)
 have ho9 := ho6.go hb4 (fun e => hn3 e)
 refine lw_op Z Z Z (ow_extract Z Z Z (lw_op Z Z Z (ow_extract Z Z Z ?_)))
 obtain ⟨A2, c2, rfl, hw2⟩ := open_Ruleset hv3
 refine lw_op0 Z Z (ow_store (X := No) (us := [(.slice A2 x2.1.Chains.length c2), (.bool x2.1.Accept)]) (cs' := #[(.slice A2 x2.1.Chains.length c2), (.bool x2.1.Accept)]) Z Z Z Z ho8 (Tryd.sizeOf45 _) Z Z Z Z hm4 (.inl hg2) Z hC4 fun w5 ho10 hb5 hl5 hC5 => ?_)
 have ho11 := ho9.go hb5 (fun e => hn1 e.symm)
 obtain rfl := open_Packet hv4
 refine lw_op0 Z Z (ow_store (X := No) (us := [(Zv x2.2.1.From), (Zv x2.2.1.To), (Zv x2.2.1.Port), (Zv x2.2.1.Proto)]) (cs' := #[(Zv x2.2.1.From), (Zv x2.2.1.To), (Zv x2.2.1.Port), (Zv x2.2.1.Proto)]) Z Z Z Z ho11 (Tryd.sizeOf38 _) Z Z Z Z hm5 (.inl hg4) Z hC5 fun w6 ho13 hb6 hl6 hC6 => ?_)
 have ho14 := ho10.go hb6 (fun e => hn1 e)
 refine lw_nil (ew_then (cw_ret ?_))
 have hw3 : VRep RRuleset w6 (Add g3 (Add g2 (Add g1 M))) ({ Chains := x2.1.Chains, Accept := x2.1.Accept } : Ruleset) (.agg #[(.slice A2 x2.1.Chains.length c2), (.bool x2.1.Accept)]) := shut_Ruleset (VRep.mono (hl5.trans hl6) hw2)
 have hw4 : VRep RPacket w6 (Add g3 (Add g2 (Add g1 M))) ({ From := x2.2.1.From, To := x2.2.1.To, Port := x2.2.1.Port, Proto := x2.2.1.Proto } : Packet) (.agg #[(Zv x2.2.1.From), (Zv x2.2.1.To), (Zv x2.2.1.Port), (Zv x2.2.1.Proto)]) := shut_Packet
 obtain rfl := sj h
 exact ew_ret (res2 Z (.cell Z (own_loadVarA ho14 (Tryd.isAgg45 _) (Tryd.sizeOf45 _) Z)) (.cell Z (own_loadVarA ho13 (Tryd.isAgg38 _) (Tryd.sizeOf38 _) Z))) ⟨_, Z, ⟨_, _, Z, (hw3.mono hC6.back), (hw4.mono hC6.back)⟩, hC6.bx⟩

theorem w_laws_FnReturnLast {w : World} {M : Nat → Prop} (hG : ARep (RArr 4 RShape) w M shapes ⟨0, 0, none⟩) (hO : ∀ b, M b → b < w.heap.size) {v0p : Value} {a_code : List Int} (h0 : VRep (RSlice RU8) w M a_code v0p) {r : Bool} (h : F.laws_FnReturnLast a_code = some r) :
  Calls Tryd.prog 11 [v0p].toArray w fun e w' => ∃ v, e = .returned v ∧ VRep RBool w' M r v ∧ BX No w w' := by
 obtain ⟨i36, hi36, hz36, hs36, hy36⟩ := info36
 obtain ⟨i42, hi42, hz42, hs42, hy42⟩ := info42
 have hC : Cx No w M w M := Cx.start hO (fun _ e => e.elim)
 refine walk (N := 66) Tryd.func11 Z Tryd.ntmps11 Z (cw_seq (cw_region (lw_op Z Z Z (ow_assign Z Z (lw_nil (ew_then (cw_seq (cw_seq (cw_region (lw_op Z Z Z (ow_move Z Z (lw_op Z Z Z (ow_len Z Z h0 Tryd.underlying22 Z (lw_op Z Z Z (ow_gtr Z Z Z fun bb1 hbb1 => lw_nil (ew_then ?_))))))))))))))))
 replace h := cond_some h
 rcases h with ⟨hc1, h⟩ | ⟨hc1, h⟩
 ·
  obtain rfl := hbb1.trans hc1
  refine cw_true Z (cw_seq (cw_region (lw_op Z Z Z (ow_assign Z Z (lw_nil (ew_then (cw_ret (ew_thenR ?_))))))))
  obtain rfl := sj h
  exact ew_ret (res1 Z (.tmp Z)) ⟨_, Z, ((vbool _)), hC.bx⟩
 ·
  obtain rfl := hbb1.trans hc1
  refine cw_false Z (cw_skip (ew_then (cw_seq (cw_region (lw_op Z Z Z (ow_move Z Z ?_))))))
  replace h := bind_some h
  obtain ⟨x1, hx1, h⟩ := h
  refine lw_op Z Z Z (ow_call Z Z Tryd.call42 (w_spec_DrawJudge hG hC.old h0 hx1) fun v1 w1 hv1 => ?_)
  obtain ⟨⟨v2, v3, rfl, hv2, hv3⟩, hb1⟩ := hv1
  have hl1 := Le.no M hb1
  have hC1 := hC.no hb1
  refine lw_op Z Z Z (ow_move Z Z (lw_op Z Z Z (ow_extract Z Z Z (lw_op Z Z Z (ow_extract Z Z Z (lw_op Z Z Z (ow_alloc Z (Tryd.zeroValue45 _) hC1 fun g1 w2 hg1 hg2 ho1 hb2 hl2 hC2 => ?_)))))))
  have hm1 : (Add g1 M) g1 := .inl Z
  refine lw_op Z Z Z (ow_alloc Z (Tryd.zeroValue38 _) hC2 fun g2 w3 hg3 hg4 ho2 hb3 hl3 hC3 => ?_)
  have hn1 := Nat.ne_of_lt (Nat.lt_of_lt_of_le ho1.lt hg3)
  have ho3 := ho1.no hb3
  have hm2 : (Add g2 (Add g1 M)) g1 := .inr hm1
  have hm3 : (Add g2 (Add g1 M)) g2 := .inl Z
  obtain ⟨A1, c1, rfl, hw1⟩ := open_Ruleset hv2
  refine lw_op0 Z Z (ow_store (X := No) (us := [(.slice A1 x1.1.Chains.length c1), (.bool x1.1.Accept)]) (cs' := #[(.slice A1 x1.1.Chains.length c1), (.bool x1.1.Accept)]) Z Z Z Z ho3 (Tryd.sizeOf45 _) Z Z Z Z hm2 (.inl hg2) Z hC3 fun w4 ho4 hb4 hl4 hC4 => ?_)
  have ho5 := ho2.go hb4 (fun e => hn1 e.symm)
  obtain rfl := open_Packet hv3
  refine lw_op0 Z Z (ow_store (X := No) (us := [(Zv x1.2.From), (Zv x1.2.To), (Zv x1.2.Port), (Zv x1.2.Proto)]) (cs' := #[(Zv x1.2.From), (Zv x1.2.To), (Zv x1.2.Port), (Zv x1.2.Proto)]) Z Z Z Z ho5 (Tryd.sizeOf38 _) Z Z Z Z hm3 (.inl hg4) Z hC4 fun w5 ho6 hb5 hl5 hC5 => ?_)
  have ho7 := ho4.go hb5 (fun e => hn1 e)
  refine lw_nil (ew_then (cw_seq (cw_region (lw_op Z Z Z (ow_loadOwnA Z Z Z ho7 (Tryd.isAgg45 _) (Tryd.sizeOf45 _) Z ?_)))))
  have lz1 := (((hl2.trans hl3).trans hl4).trans hl5)
  have hw2 : VRep RRuleset w5 (Add g2 (Add g1 M)) ({ Chains := x1.1.Chains, Accept := x1.1.Accept } : Ruleset) (.agg #[(.slice A1 x1.1.Chains.length c1), (.bool x1.1.Accept)]) := shut_Ruleset (VRep.mono lz1 hw1)
  refine lw_op Z Z Z (ow_loadOwnA Z Z Z ho6 (Tryd.isAgg38 _) (Tryd.sizeOf38 _) Z ?_)
  have hw3 : VRep RPacket w5 (Add g2 (Add g1 M)) ({ From := x1.2.From, To := x1.2.To, Port := x1.2.Port, Proto := x1.2.Proto } : Packet) (.agg #[(Zv x1.2.From), (Zv x1.2.To), (Zv x1.2.Port), (Zv x1.2.Proto)]) := shut_Packet
  replace h := bind_some h
  obtain ⟨x2, hx2, h⟩ := h
  have lz2 := ((((hl1.trans hl2).trans hl3).trans hl4).trans hl5)
  refine lw_op Z Z Z (ow_call Z Z Tryd.call22 (w_impl_Judge (hG.mono lz2) hC5.old hw2 hw3 hx2) fun v4 w6 hv4 => ?_)
  obtain ⟨hv4, hb6⟩ := hv4
  have hl6 := Le.no (Add g2 (Add g1 M)) hb6
  have hC6 := hC5.no hb6
  have ho8 := ho7.no hb6
  have ho9 := ho6.no hb6
  obtain rfl := vbool_eq hv4
  refine lw_op Z Z Z (ow_assign Z Z (lw_nil (ew_then (cw_seq (cw_seq (cw_region (lw_op Z Z Z (ow_move Z Z (lw_op Z Z Z (ow_loadOwnA Z Z Z ho8 (Tryd.isAgg45 _) (Tryd.sizeOf45 _) Z ?_))))))))))
  have hw4 : VRep RRuleset w6 (Add g2 (Add g1 M)) ({ Chains := x1.1.Chains, Accept := x1.1.Accept } : Ruleset) (.agg #[(.slice A1 x1.1.Chains.length c1), (.bool x1.1.Accept)]) := shut_Ruleset (VRep.mono (lz1.trans hl6) hw1)
  refine lw_op Z Z Z (ow_loadOwnA Z Z Z ho9 (Tryd.isAgg38 _) (Tryd.sizeOf38 _) Z ?_)
  have hw5 : VRep RPacket w6 (Add g2 (Add g1 M)) ({ From := x1.2.From, To := x1.2.To, Port := x1.2.Port, Proto := x1.2.Proto } : Packet) (.agg #[(Zv x1.2.From), (Zv x1.2.To), (Zv x1.2.Port), (Zv x1.2.Proto)]) := shut_Packet
  replace h := bind_some h
  obtain ⟨x3, hx3, h⟩ := h
  refine lw_op Z Z Z (ow_call Z Z Tryd.call23 (w_spec_Judge (hG.mono (lz2.trans hl6)) hC6.old hw4 hw5 hx3) fun v5 w7 hv5 => ?_)
  obtain ⟨hv5, hb7⟩ := hv5
  have hl7 := Le.no (Add g2 (Add g1 M)) hb7
  have hC7 := hC6.no hb7
  have ho10 := ho8.no hb7
  have ho11 := ho9.no hb7
  obtain rfl := vbool_eq hv5
  refine lw_op Z Z Z (ow_neqB Z Z Z Tryd.underlying4 fun bb2 hbb2 => lw_nil (ew_then ?_))
  replace h := cond_some h
  rcases h with ⟨hc2, h⟩ | ⟨hc2, h⟩
  ·
   obtain rfl := hbb2.trans hc2
   refine cw_true Z (cw_seq (cw_region (lw_op Z Z Z (ow_assign Z Z (lw_nil (ew_then (cw_ret (ew_thenR ?_))))))))
   obtain rfl := sj h
   exact ew_ret (res1 Z (.tmp Z)) ⟨_, Z, ((vbool _)), hC7.bx⟩
  ·
   obtain rfl := hbb2.trans hc2
   refine cw_false Z (cw_skip (ew_then (cw_seq (cw_seq (cw_region (lw_op Z Z Z (ow_loadOwnA Z Z Z ho10 (Tryd.isAgg45 _) (Tryd.sizeOf45 _) Z ?_)))))))
   have lz3 := ((lz1.trans hl6).trans hl7)
   have hw6 : VRep RRuleset w7 (Add g2 (Add g1 M)) ({ Chains := x1.1.Chains, Accept := x1.1.Accept } : Ruleset) (.agg #[(.slice A1 x1.1.Chains.length c1), (.bool x1.1.Accept)]) := shut_Ruleset (VRep.mono lz3 hw1)
   replace h := bind_some h
   obtain ⟨x4, hx4, h⟩ := h
   have lz4 := ((lz2.trans hl6).trans hl7)
   refine lw_op Z Z Z (ow_call Z Z Tryd.call26 (w_spec_RulesetValid (hG.mono lz4) hC7.old hw6 hx4) fun v6 w8 hv6 => ?_)
   obtain ⟨hv6, hb8⟩ := hv6
   have hl8 := Le.no (Add g2 (Add g1 M)) hb8
   have hC8 := hC7.no hb8
   have ho12 := ho10.no hb8
   have ho13 := ho11.no hb8
   obtain rfl := vbool_eq hv6
   refine lw_op Z Z Z (ow_not Z Z (lw_nil (ew_then ?_)))
   replace h := cond_some h
   rcases h with ⟨hc3, h⟩ | ⟨hc3, h⟩
   ·
    subst hc3
    refine cw_false Z (cw_skip (ew_then (cw_seq (cw_region (lw_op Z Z Z (ow_fieldAddr Z Z Tryd.underlying45 Z (Tryd.sizeOf4 _) (lw_op Z Z Z (ow_loadOwn1 Z Z Z ho12 (Tryd.isAgg4 _) Z (lw_op Z Z Z (ow_build (v := .agg #[(.slice none 0 0), (.bool x1.1.Accept)]) Z Z (by kernel_rfl) (lw_op Z Z Z (ow_alloc Z (Tryd.zeroValue45 _) hC8 fun g3 w9 hg5 hg6 ho14 hb9 hl9 hC9 => ?_))))))))))))
    have hn2 := Nat.ne_of_lt (Nat.lt_of_lt_of_le ho12.lt hg5)
    have ho15 := ho12.no hb9
    have hm4 : (Add g3 (Add g2 (Add g1 M))) g1 := .inr hm2
    have hn3 := Nat.ne_of_lt (Nat.lt_of_lt_of_le ho13.lt hg5)
    have ho16 := ho13.no hb9
    have hm5 : (Add g3 (Add g2 (Add g1 M))) g2 := .inr hm3
    have hm6 : (Add g3 (Add g2 (Add g1 M))) g3 := .inl Z
    refine lw_op0 Z Z (ow_store (X := No) (us := [(.slice none 0 0), (.bool x1.1.Accept)]) (cs' := #[(.slice none 0 0), (.bool x1.1.Accept)]) Z Z Z Z ho14 (Tryd.sizeOf45 _) Z Z Z Z hm6 (.inl hg6) Z hC9 fun w10 ho17 hb10 hl10 hC10 => ?_)
    have ho18 := ho15.go hb10 (fun e => hn2 e)
    have ho19 := ho16.go hb10 (fun e => hn3 e)
    refine lw_nil (ew_then (cw_seq (cw_seq (cw_region (lw_op Z Z Z (ow_assign Z Z (lw_nil (ew_then ?_))))))))
    have hr1 : OwnRow (RSlice RRule) w.heap.size 36 w10 (Add g3 (Add g2 (Add g1 M))) ([] : List (List Rule)) (.slice none 0 0) := ownrow_nil
    replace h := bind_some h
    obtain ⟨lr1, hlr1, h⟩ := h
    refine cw_for hlr1 (fun s a w' => ∃ (M' : Nat → Prop) (v1c : Value), Fits 66 [(3, (Zw g1 0)), (4, (Zw g2 0)), (5, (.bool x2)), (6, (Zw g3 0)), (7, (Zv s.1))] a ∧ Le w10 (Add g3 (Add g2 (Add g1 M))) w' M' ∧ Cx No w M w' M' ∧ OwnRow (RSlice RRule) w.heap.size 36 w' M' s.2 v1c ∧ Own w' g1 45 #[(.slice A1 x1.1.Chains.length c1), (.bool x1.1.Accept)] ∧ M' g1 ∧ Own w' g2 38 #[(Zv x1.2.From), (Zv x1.2.To), (Zv x1.2.Port), (Zv x1.2.Proto)] ∧ M' g2 ∧ Own w' g3 45 #[v1c, (.bool x1.1.Accept)] ∧ M' g3) ?_ ?_ ?_
    · exact fun a ha => ⟨(Add g3 (Add g2 (Add g1 M))), (.slice none 0 0), ha.sub ⟨Z, Z, Z, Z, Z, Zt⟩, Le.refl _ _, hC10, hr1, ho18, hm4, ho19, hm5, ho17, hm6⟩
    ·
     rintro ⟨k1, y1⟩ a w11 sr1 ⟨M1, v8, hF1, hl11, hC11, hw8, ho20, hm7, ho21, hm8, ho22, hm9⟩ hb11 hR1
     refine cw_at (E := [(3, (Zw g1 0)), (4, (Zw g2 0)), (5, (.bool x2)), (6, (Zw g3 0)), (7, (Zv k1))]) hF1 (cw_seq (cw_seq (cw_region (lw_op Z Z Z (ow_move Z Z (lw_op Z Z Z (ow_fieldAddr Z Z Tryd.underlying45 Z (Tryd.sizeOf43 _) (lw_op Z Z Z (ow_loadOwn1 Z Z Z ho20 (Tryd.isAgg43 _) Z ?_)))))))))
     have lz5 := ((((lz3.trans hl8).trans hl9).trans hl10).trans hl11)
     refine lw_op Z Z Z (ow_len Z Z (VRep.mono lz5 hw1) Tryd.underlying43 Z (lw_op Z Z Z (ow_lss Z Z Z fun bb3 hbb3 => lw_nil (ew_then ?_))))
     replace hb11 := cond_some hb11
     rcases hb11 with ⟨hc4, hb11⟩ | ⟨hc4, hb11⟩
     ·
      obtain rfl := hbb3.trans hc4
      refine cw_true Z (cw_skip (ew_then (cw_seq (cw_block (cw_seq (cw_seq (cw_region (lw_op Z Z Z (ow_fieldAddr Z Z Tryd.underlying45 Z (Tryd.sizeOf43 _) (lw_op Z Z Z (ow_loadOwn1 Z Z Z ho20 (Tryd.isAgg43 _) Z (lw_op Z Z Z (ow_move Z Z ?_)))))))))))))
      replace hb11 := bind_some hb11
      obtain ⟨x5, hx5, hb11⟩ := hb11
      refine lw_op Z Z Z (ow_indexSlice (R := (RSlice RRule)) Z Z Z (VRep.mono lz5 hw1) Tryd.underlying43 (Tryd.sizeOf36 _) hx5 fun p1 hp1 => lw_op Z Z Z (ow_load (R := (RSlice RRule)) Z Z hp1 (Tryd.sizeOf36 _) (Tryd.isAgg36 _) fun v9 hv9 => lw_op Z Z Z (ow_len Z Z hv9 Tryd.underlying36 Z (lw_op Z Z Z (ow_eqlI Z Z Z fun bb4 hbb4 => lw_nil (ew_then ?_))))))
      replace hb11 := cond_some hb11
      rcases hb11 with ⟨hc5, hb11⟩ | ⟨hc5, hb11⟩
      ·
       obtain rfl := hbb4.trans hc5
       refine cw_true Z (cw_seq (cw_region ?_))
       replace hb11 := bind_some hb11
       obtain ⟨x6, hx6, hb11⟩ := hb11
       have lz6 := ((((lz4.trans hl8).trans hl9).trans hl10).trans hl11)
       refine lw_op Z Z Z (ow_call Z Z Tryd.call18 (w_laws_alive (hG.mono lz6) hC11.old hx6) fun v10 w12 hv10 => ?_)
       obtain ⟨hv10, hb12⟩ := hv10
       have hC12 := hC11.no hb12
       obtain rfl := vbool_eq hv10
       refine lw_op Z Z Z (ow_assign Z Z (lw_nil (ew_then (cw_ret (ew_thenR (ew_blockR (ew_thenR (ew_thenR (ew_blockR (ew_brkR (ew_thenR ?_)))))))))))
       have e1 := hR1 _ (sj hb11).symm
       subst e1
       obtain rfl := sj h
       exact ew_ret (res1 Z (.tmp Z)) ⟨_, Z, ((vbool _)), hC12.bx⟩
      ·
       obtain rfl := hbb4.trans hc5
       refine cw_false Z (cw_skip (ew_then ?_))
       replace hb11 := bind_some hb11
       obtain ⟨z1, hz1, hb11⟩ := hb11
       replace hb11 := bind_some hb11
       obtain ⟨z2, hz2, hb11⟩ := hb11
       have hw9 : VRep RRule w11 M1 ({ Tests := ([] : List Test), Action := 4, Chain := 0 } : Rule) (.agg #[.slice none 0 0, Zv 4, Zv 0]) := shut_Rule vslice_nil
       refine cw_sub (E' := [(3, (Zw g1 0)), (4, (Zw g2 0)), (5, (.bool x2)), (6, (Zw g3 0)), (7, (Zv k1))]) ⟨Z, Z, Z, Z, Z, Zt⟩ (cw_drawDN 42 13 2 [none, none, none, none, none, none, none, none, none, none, none, some 0, some 1] [2, 2, 0, 0, 0, 0, 0, 0, 0, 0, 0, 1, 2] [PEq (Zw g3 0), PEq v8, PLit0, PEq (Zw g1 0), PEq (.slice A1 x1.1.Chains.length c1), PEq (Zv k1), PAt (RSlice RRule) w11 M1 x5, PVt (RSlice RRule) w11 M1 x5, PNZ RRule w11.heap.size 42 w11 M1 z1, PEq (.agg #[.slice none 0 0, Zv 4, Zv 0]), PLq RRule w11 M1 [({ Tests := ([] : List Test), Action := 4, Chain := 0 } : Rule)], PV (RSlice RRule) M1 z2, PV (RSlice (RSlice RRule)) M1 [z2]] (by kernel_rfl) Z (by kernel_rfl) (by kernel_rfl) (by kernel_rfl) ⟨(Zq), (Zq), PLit0.mono, (Zq), (Zq), (Zq), PAt.mono, PVt.mono, PNZ.mono, (Zq), PLq.mono, (PV.mono _ _ _), (PV.mono _ _ _), Zt⟩ ⟨(fun _ => PEq.monoD _), (fun _ => PEq.monoD _), (fun h => by cases h), (fun h => by cases h), (fun h => by cases h), (fun h => by cases h), (fun h => by cases h), (fun h => by cases h), (fun h => by cases h), (fun h => by cases h), (fun h => by cases h), Z, Z, Zt⟩ ⟨?_, ?_, ?_, ?_, ?_, ?_, ?_, ?_, ?_, ?_, ?_, ?_, ?_, Zt⟩ ?_)
       · exact fun wa D hSa hda => dg_sub (E' := [(6, (Zw g3 0))]) ⟨Z, Zt⟩ (dg_plain Z (ow_fieldAddr Z Z Tryd.underlying45 Z (Tryd.sizeOf43 _) Zb))
       · exact fun wa D hSa hda => dg_sub (E' := [(46, (Zw g3 0))]) ⟨dpE hda 0 Z Z, Zt⟩ (dg_plain Z (ow_loadOwn1 Z Z Z (ho22.no hSa) (Tryd.isAgg43 _) Z Zb))
       ·
        intro wa D hSa hda
        have hCa := hC11.no hSa
        exact dg_sub (E' := []) trivial (dg_plain Z (ow_buildSlice0I (R := RRule) (e := 42) Z (by kernel_rfl) hCa fun pb wb hwb hbb hlb hCb => ⟨hbb, _, Z⟩))
       · exact fun wa D hSa hda => dg_sub (E' := [(3, (Zw g1 0))]) ⟨Z, Zt⟩ (dg_plain Z (ow_fieldAddr Z Z Tryd.underlying45 Z (Tryd.sizeOf43 _) Zb))
       · exact fun wa D hSa hda => dg_sub (E' := [(49, (Zw g1 0))]) ⟨dpE hda 3 Z Z, Zt⟩ (dg_plain Z (ow_loadOwn1 Z Z Z (ho20.no hSa) (Tryd.isAgg43 _) Z Zb))
       · exact fun wa D hSa hda => dg_sub (E' := [(7, (Zv k1))]) ⟨Z, Zt⟩ (dg_plain Z (ow_move Z Z Zb))
       · exact fun wa D hSa hda => dg_sub (E' := [(50, (.slice A1 x1.1.Chains.length c1)), (51, (Zv k1))]) ⟨dpE hda 4 Z Z, dpE hda 5 Z Z, Zt⟩ (dg_plain Z (ow_indexT (R := (RSlice RRule)) Z Z Z (VRep.mono lz5 hw1) Tryd.underlying43 (Tryd.sizeOf36 _) hx5 fun p hp => ⟨BX.refl _ _, _, Z, hp⟩))
       ·
        intro wa D hSa hda
        have d6a : PAt (RSlice RRule) w11 M1 x5 (D 6) wa := dpA hda 6 Z
        obtain ⟨pa, hqa, hpa⟩ := d6a
        exact dg_sub (E' := [(52, .pointer (some pa))]) ⟨congrArg some hqa, Zt⟩ (dg_plain Z (ow_loadT (R := (RSlice RRule)) Z Z hpa hSa (Tryd.sizeOf36 _) (Tryd.isAgg36 _) fun v hv => ⟨BX.refl _ _, hv⟩))
       ·
        intro wa D hSa hda
        have d2a : PLit0 (D 2) wa := dpA hda 2 Z
        obtain ⟨pa, hqa⟩ := d2a
        have d7a : PVt (RSlice RRule) w11 M1 x5 (D 7) wa := dpA hda 7 Z
        generalize hqb : (D 7) = ub at d7a
        exact dg_sub (E' := [(48, .slice (some pa) 0 0), (53, ub)]) ⟨congrArg some hqa, congrArg some hqb, Zt⟩ (dg_plain Z (ow_appendCopyZ (R := RRule) (B := w11.heap.size) Z Z Z Z Z Tryd.underlying36 hi42 hz42 hs42 hy42 Z Z Z Z d7a hSa hz1 (Nat.le_refl _) fun vb wb hvb hbb => ⟨hbb, hvb⟩))
       · exact fun wa D hSa hda => dg_sub (E' := []) trivial (dg_plain Z (ow_build (v := (.agg #[.slice none 0 0, Zv 4, Zv 0])) Z Z (by kernel_rfl) Zb))
       · exact fun wa D hSa hda => dg_sub (E' := [(55, (.agg #[.slice none 0 0, Zv 4, Zv 0]))]) ⟨dpE hda 9 Z Z, Zt⟩ (dg_plain Z (ow_buildSliceZ (R := RRule) (xs := [({ Tests := ([] : List Test), Action := 4, Chain := 0 } : Rule)]) (cs := #[.slice none 0 0, Zv 4, Zv 0]) (e := 42) Z Z (by kernel_rfl) Z ⟨_, _, Z, hw9.cells, Z⟩ fun vb wb hvb hbb => ⟨hbb, hvb⟩))
       ·
        intro wa D hSa hda
        have hSa : BX No w11 wa := hSa
        have d8a : PNZ RRule w11.heap.size 42 w11 M1 z1 (D 8) wa := dpA hda 8 Z
        have d10a : PLq RRule w11 M1 [({ Tests := ([] : List Test), Action := 4, Chain := 0 } : Rule)] (D 10) wa := dpA hda 10 Z
        exact dg_sub (E' := [(54, (D 8)), (56, (D 10))]) ⟨Z, Z, Zt⟩ (dg_plain Z (ow_growZ (R := RRule) Z Z Z Z Tryd.underlying36 hi42 hz42 hs42 hy42 Z Z Z Z d8a hSa d10a (by simp) hz2 hC11.old fun vb wb hvb hgb => ⟨⟨hgb.1, hgb⟩, hvb⟩))
       ·
        intro wa D hSa hda
        have hSa : BX No w11 wa := hSa
        have hCa := hC11.no hSa
        have d11a : PV (RSlice RRule) M1 z2 (D 11) wa := dpA hda 11 Z
        generalize hqa : (D 11) = va at d11a
        obtain ⟨Ab, cb, rfl, -⟩ := vslice_shape d11a
        exact dg_sub (E' := [(57, .slice Ab z2.length cb)]) ⟨congrArg some hqa, Zt⟩ (dg_plain Z (ow_buildSlice (R := (RSlice RRule)) (xs := [z2]) (cs := #[.slice Ab z2.length cb]) (e := 36) Z Z (by kernel_rfl) Z Z ⟨_, _, Z, d11a.cells, Z⟩ hCa fun pb wc hwc hbc hlc hCc => ⟨⟨hSa.trans hbc, GrowT.no hSa hbc⟩, hwc⟩))
       ·
        intro w13 D hS1 hd1
        have d1 : PEq v8 (D 1) w13 := (dpA hd1 1 Z) (by decide)
        have d2 : PV (RSlice (RSlice RRule)) M1 [z2] (D 12) w13 := (dpA hd1 12 Z) (by decide)
        generalize hq1 : (D 12) = v11 at d2
        have hl13 := Le.no M1 hS1
        have hC13 := hC11.no hS1
        have ho26 := ho20.no hS1
        have ho27 := ho21.no hS1
        have ho28 := ho22.no hS1
        have hr3 := hw8.no hS1
        refine lw_sub (E' := [(58, v11), (47, v8), (3, (Zw g1 0)), (4, (Zw g2 0)), (5, (.bool x2)), (6, (Zw g3 0)), (7, (Zv k1))]) ⟨congrArg some hq1, congrArg some d1, Z, Z, Z, Z, Z, Zt⟩ ?_
        replace hb11 := bind_some hb11
        obtain ⟨z3, hz3, hb11⟩ := hb11
        refine lw_op Z Z Z (ow_append (R := (RSlice RRule)) Z Z Z Z Tryd.underlying43 hi36 hz36 hs36 hy36 Z Z Z Z hr3 d2 hz3 hC13 fun v12 w14 M2 hr4 hb13 hl14 hC14 hM1 hat1 => ?_)
        have ho29 := ho26.go hb13 (fun e => (orow_ne hr3 ho26 (by decide)) e)
        have hm10 := hM1 _ hm7
        have ho30 := ho27.go hb13 (fun e => (orow_ne hr3 ho27 (by decide)) e)
        have hm11 := hM1 _ hm8
        have ho31 := ho28.go hb13 (fun e => (orow_ne hr3 ho28 (by decide)) e)
        have hm12 := hM1 _ hm9
        refine lw_op Z Z Z (ow_fieldAddr Z Z Tryd.underlying45 Z (Tryd.sizeOf43 _) ?_)
        obtain ⟨A2, c2, rfl⟩ := hr4.len
        refine lw_op0 Z Z (ow_store (X := No) (us := [(.slice A2 z3.length c2)]) (cs' := #[(.slice A2 z3.length c2), (.bool x1.1.Accept)]) Z Z Z Z ho31 (Tryd.sizeOf43 _) Z Z Z Z hm12 (.inl hg6) Z hC14 fun w15 ho32 hb14 hl15 hC15 => ?_)
        have ho33 := ho29.go hb14 (fun e => hn2 e)
        have ho34 := ho30.go hb14 (fun e => hn3 e)
        have hr5 := hr4.go hb14 (fun k hk e => (orow_ne hr4 ho31 (by decide)) (hk.trans (congrArg some e))) hl15 (fun _ h => h)
        refine lw_nil (ew_blockN (ew_then (cw_region (lw_op Z Z Z (ow_move Z Z (lw_op Z Z Z (ow_add Z Z Z (lw_op Z Z Z (ow_assign Z Z (lw_nil ?_))))))))))
        have lz8 := (((hl11.trans hl13).trans hl14).trans hl15)
        exact ew_nxt ((W (k1 + 1)), z3) hb11 fun a ha => ⟨M2, (.slice A2 z3.length c2), (ha.sub ⟨Z, Z, Z, Z, Z, Zt⟩), lz8, hC15, hr5, ho33, hm10, ho34, hm11, ho32, hm12⟩
     ·
      obtain rfl := hbb3.trans hc4
      exact cw_false Z (cw_exit (ew_thenX (ew_thenX (ew_blockX (ew_brk (k1, y1) hb11 fun a ha => ⟨M1, v8, (ha.sub ⟨Z, Z, Z, Z, Z, Zt⟩), hl11, hC11, hw8, ho20, hm7, ho21, hm8, ho22, hm9⟩)))))
    ·
     rintro ⟨k2, y2⟩ a w16 hlr2 ⟨M3, v14, hF2, hl16, hC16, hw10, ho35, hm13, ho36, hm14, ho37, hm15⟩
     subst hlr2
     refine ew_at (E := [(3, (Zw g1 0)), (4, (Zw g2 0)), (5, (.bool x2)), (6, (Zw g3 0)), (7, (Zv k2))]) hF2 (ew_then (cw_seq (cw_region (lw_op Z Z Z (ow_loadOwnA Z Z Z ho37 (Tryd.isAgg45 _) (Tryd.sizeOf45 _) Z ?_)))))
     have hw11 := hw10.freezeDel
     have hC17 := hw10.cxDel hC16 (fun _ e => e.elim) hO
     have hl17 := Le.del w16 M3 v14
     obtain ⟨A3, c3, rfl, -⟩ := vslice_shape hw11
     have hw12 : VRep RRuleset w16 (Del (.slice A3 y2.length c3) M3) ({ Chains := y2, Accept := x1.1.Accept } : Ruleset) (.agg #[(.slice A3 y2.length c3), (.bool x1.1.Accept)]) := shut_Ruleset hw11
     refine lw_op Z Z Z (ow_loadOwnA Z Z Z ho36 (Tryd.isAgg38 _) (Tryd.sizeOf38 _) Z ?_)
     have hw13 : VRep RPacket w16 (Del (.slice A3 y2.length c3) M3) ({ From := x1.2.From, To := x1.2.To, Port := x1.2.Port, Proto := x1.2.Proto } : Packet) (.agg #[(Zv x1.2.From), (Zv x1.2.To), (Zv x1.2.Port), (Zv x1.2.Proto)]) := shut_Packet
     replace h := bind_some h
     obtain ⟨x7, hx7, h⟩ := h
     have lz9 := (((((lz4.trans hl8).trans hl9).trans hl10).trans hl16).trans hl17)
     refine lw_op Z Z Z (ow_call Z Z Tryd.call22 (w_impl_Judge (hG.mono lz9) hC17.old hw12 hw13 hx7) fun v15 w17 hv15 => ?_)
     obtain ⟨hv15, hb15⟩ := hv15
     have hC18 := hC17.no hb15
     obtain rfl := vbool_eq hv15
     refine lw_op Z Z Z (ow_move Z Z (lw_op Z Z Z (ow_eqlB Z Z Z Tryd.underlying4 fun bb5 hbb5 => lw_op Z Z Z (ow_assign Z Z (lw_nil (ew_then (cw_ret ?_)))))))
     obtain rfl := sj h
     exact ew_ret (res1 Z (.tmp Z)) ⟨_, Z, ((vbool_of hbb5)), hC18.bx⟩
   ·
    subst hc3
    refine cw_true Z (cw_seq (cw_region ?_))
    replace h := bind_some h
    obtain ⟨x8, hx8, h⟩ := h
    refine lw_op Z Z Z (ow_call Z Z Tryd.call18 (w_laws_alive (hG.mono (lz4.trans hl8)) hC8.old hx8) fun v16 w18 hv16 => ?_)
    obtain ⟨hv16, hb16⟩ := hv16
    have hC19 := hC8.no hb16
    obtain rfl := vbool_eq hv16
    refine lw_op Z Z Z (ow_assign Z Z (lw_nil (ew_then (cw_ret (ew_thenR ?_)))))
    obtain rfl := sj h
    exact ew_ret (res1 Z (.tmp Z)) ⟨_, Z, ((vbool _)), hC19.bx⟩


end Go.PF
