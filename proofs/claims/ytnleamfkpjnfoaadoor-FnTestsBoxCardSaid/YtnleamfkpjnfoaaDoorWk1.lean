/- The walks; no condition. -/
import Derived.Test.YtnleamfkpjnfoaaDoorProg
import Derived.Test.YtnleamfkpjnfoaaDoorWk0
import Derived.Test.YtnleamfkpjnfoaaDoorPFNew
set_option maxRecDepth 100000
set_option maxHeartbeats 4000000
namespace Go.PF
open Go Go.RowKit Go.Proofs

theorem w_spec_l20Test {w : World} {M : Nat → Prop} (hG : ARep (RArr 4 RShape) w M shapes ⟨0, 0, none⟩) (hO : ∀ b, M b → b < w.heap.size) {g : Nat} {Ax : Option Addr} {cx : Nat} {a_xs : List Int} {a_pos : Int} (hxs : VRep (RSlice RU8) w M a_xs (.slice Ax a_xs.length cx)) (hown : Own w g 98 #[.slice Ax a_xs.length cx, .int .i64 a_pos]) (hgM : M g) {a_n : Int} {r : Test × Int} (h : F.spec_l20Test a_xs a_pos a_n = some r) :
  Calls Tryd.prog 91 [(.pointer (some ⟨g, 0, none⟩)), (.int .i64 a_n)].toArray w fun e w' => ∃ v, e = .returned v ∧ (VRep RTest w' M r.1 v ∧ Own w' g 98 #[.slice Ax a_xs.length cx, .int .i64 r.2]) ∧ BX (One g) w w' := by
 have hX : ∀ b, (One g) b → M b := fun b e => e ▸ hgM
 have hC : Cx (One g) w M w M := Cx.start hO hX
 refine walk (N := 83) Tryd.func91 rfl Tryd.ntmps91 rfl ?_
 refine cw_seq (cw_region (lw_op rfl rfl rfl (ow_alloc rfl (Tryd.zeroValue31 _) hC fun g1 w1 hg1 hg2 ho1 hb1 hl1 hC1 => ?_)))
 have hn1 := Nat.ne_of_lt (Nat.lt_of_lt_of_le hown.lt hg1)
 have ho2 := hown.no hb1
 have hm1 : (Add g1 M) g := .inr hgM
 have hm2 : (Add g1 M) g1 := .inl rfl
 refine lw_nil (ew_then (cw_seq (cw_region (lw_op rfl rfl rfl (ow_move rfl rfl ?_)))))
 replace h := bind_some h
 obtain ⟨x1, hx1, h⟩ := h
 refine lw_op rfl rfl rfl (ow_call rfl rfl Tryd.call87 (w_spec_l20Rd_pick (hG.mono hl1) hC1.old (VRep.mono hl1 hxs) ho2 hm1 hx1) fun v1 w2 hv1 => ?_)
 obtain ⟨⟨hv1, ho3⟩, hb2⟩ := hv1
 have hl2 := Le.of_bx (Add g1 M) hb2 (fun b e => (by rw [show b = g from e]; exact hm1))
 have hC2 := hC1.go hb2 (fun b e => Or.inr e)
 have ho4 := ho1.go hb2 (fun e => hn1 e.symm)
 obtain rfl := vint_eq hv1
 refine lw_op rfl rfl rfl (ow_move rfl rfl ?_)
 replace h := bind_some h
 obtain ⟨x2, hx2, h⟩ := h
 refine lw_op rfl rfl rfl (ow_call rfl rfl Tryd.call87 (w_spec_l20Rd_pick (hG.mono (hl1.trans hl2)) hC2.old (VRep.mono (hl1.trans hl2) hxs) ho3 hm1 hx2) fun v2 w3 hv2 => ?_)
 obtain ⟨⟨hv2, ho5⟩, hb3⟩ := hv2
 have hl3 := Le.of_bx (Add g1 M) hb3 (fun b e => (by rw [show b = g from e]; exact hm1))
 have hC3 := hC2.go hb3 (fun b e => Or.inr e)
 have ho6 := ho4.go hb3 (fun e => hn1 e.symm)
 obtain rfl := vint_eq hv2
 refine lw_op rfl rfl rfl (ow_eqlI rfl rfl rfl fun bb1 hbb1 => ?_)
 refine lw_op rfl rfl rfl (ow_build (v := .agg #[(.int .i64 x1.1), (.int .i64 0), (.int .i64 0), (.bool bb1)]) rfl rfl (by kernel_rfl) ?_)
 have hw1 : VRep RTest w3 (Add g1 M) ({ Field := x1.1, Lo := 0, Hi := 0, Not := (x2.1 == 0) } : Test) (.agg #[(.int .i64 x1.1), (.int .i64 0), (.int .i64 0), (.bool bb1)]) := by subst hbb1; exact shut_Test
 refine lw_op rfl rfl rfl (ow_alloc rfl (Tryd.zeroValue31 _) hC3 fun g2 w4 hg3 hg4 ho7 hb4 hl4 hC4 => ?_)
 have hn2 := Nat.ne_of_lt (Nat.lt_of_lt_of_le ho5.lt hg3)
 have ho8 := ho5.no hb4
 have hm3 : (Add g2 (Add g1 M)) g := .inr hm1
 have hn3 := Nat.ne_of_lt (Nat.lt_of_lt_of_le ho6.lt hg3)
 have ho9 := ho6.no hb4
 have hm4 : (Add g2 (Add g1 M)) g1 := .inr hm2
 have hm5 : (Add g2 (Add g1 M)) g2 := .inl rfl
 refine lw_op0 rfl rfl (ow_store (X := (One g)) (us := [(.int .i64 x1.1), (.int .i64 0), (.int .i64 0), (.bool bb1)]) (cs' := #[(.int .i64 x1.1), (.int .i64 0), (.int .i64 0), (.bool bb1)]) rfl rfl rfl rfl ho7 (Tryd.sizeOf31 _) rfl rfl rfl rfl hm5 (.inl hg4) rfl hC4 fun w5 ho10 hb5 hl5 hC5 => ?_)
 have ho11 := ho8.go hb5 (fun e => hn2 e)
 have ho12 := ho9.go hb5 (fun e => hn3 e)
 refine lw_nil (ew_then (cw_seq (cw_region (lw_op rfl rfl rfl (ow_fieldAddr rfl rfl Tryd.underlying31 rfl (Tryd.sizeOf3 _) ?_)))))
 refine lw_op rfl rfl rfl (ow_loadOwn1 rfl rfl rfl ho10 (Tryd.isAgg3 _) rfl ?_)
 replace h := bind_some h
 obtain ⟨x3, hx3, h⟩ := h
 refine lw_op rfl rfl rfl (ow_call rfl rfl Tryd.call81 (w_spec_FieldTop (hG.mono ((((hl1.trans hl2).trans hl3).trans hl4).trans hl5)) hC5.old hx3) fun v3 w6 hv3 => ?_)
 obtain ⟨hv3, hb6⟩ := hv3
 have hl6 := Le.no (Add g2 (Add g1 M)) hb6
 have hC6 := hC5.no hb6
 have ho13 := ho11.no hb6
 have ho14 := ho12.no hb6
 have ho15 := ho10.no hb6
 obtain rfl := vint_eq hv3
 refine lw_op rfl rfl rfl (ow_assign rfl rfl ?_)
 refine lw_nil (ew_then (cw_seq (cw_region (lw_op rfl rfl rfl (ow_move rfl rfl ?_)))))
 refine lw_op rfl rfl rfl (ow_move rfl rfl ?_)
 replace h := bind_some h
 obtain ⟨x4, hx4, h⟩ := h
 refine lw_op rfl rfl rfl (ow_call rfl rfl Tryd.call109 (w_spec_l20Span (hG.mono (((((hl1.trans hl2).trans hl3).trans hl4).trans hl5).trans hl6)) hC6.old (VRep.mono (((((hl1.trans hl2).trans hl3).trans hl4).trans hl5).trans hl6) hxs) ho13 hm3 hx4) fun v4 w7 hv4 => ?_)
 obtain ⟨⟨hv4, ho16⟩, hb7⟩ := hv4
 have hl7 := Le.of_bx (Add g2 (Add g1 M)) hb7 (fun b e => (by rw [show b = g from e]; exact hm3))
 have hC7 := hC6.go hb7 (fun b e => Or.inr e)
 have ho17 := ho14.go hb7 (fun e => hn1 e.symm)
 have ho18 := ho15.go hb7 (fun e => hn2 e.symm)
 refine lw_op rfl rfl rfl (ow_alloc rfl (Tryd.zeroValue76 _) hC7 fun g3 w8 hg5 hg6 ho19 hb8 hl8 hC8 => ?_)
 have hn4 := Nat.ne_of_lt (Nat.lt_of_lt_of_le ho16.lt hg5)
 have ho20 := ho16.no hb8
 have hm6 : (Add g3 (Add g2 (Add g1 M))) g := .inr hm3
 have hn5 := Nat.ne_of_lt (Nat.lt_of_lt_of_le ho17.lt hg5)
 have ho21 := ho17.no hb8
 have hm7 : (Add g3 (Add g2 (Add g1 M))) g1 := .inr hm4
 have hn6 := Nat.ne_of_lt (Nat.lt_of_lt_of_le ho18.lt hg5)
 have ho22 := ho18.no hb8
 have hm8 : (Add g3 (Add g2 (Add g1 M))) g2 := .inr hm5
 have hm9 : (Add g3 (Add g2 (Add g1 M))) g3 := .inl rfl
 obtain rfl := open_Span hv4
 refine lw_op0 rfl rfl (ow_store (X := (One g)) (us := [(.int .i64 x4.1.Lo), (.int .i64 x4.1.Hi)]) (cs' := #[(.int .i64 x4.1.Lo), (.int .i64 x4.1.Hi)]) rfl rfl rfl rfl ho19 (Tryd.sizeOf76 _) rfl rfl rfl rfl hm9 (.inl hg6) rfl hC8 fun w9 ho23 hb9 hl9 hC9 => ?_)
 have ho24 := ho20.go hb9 (fun e => hn4 e)
 have ho25 := ho21.go hb9 (fun e => hn5 e)
 have ho26 := ho22.go hb9 (fun e => hn6 e)
 refine lw_nil (ew_then (cw_seq (cw_seq (cw_region (lw_op rfl rfl rfl (ow_fieldAddr rfl rfl Tryd.underlying31 rfl (Tryd.sizeOf3 _) ?_))))))
 refine lw_op rfl rfl rfl (ow_loadOwn1 rfl rfl rfl ho26 (Tryd.isAgg3 _) rfl ?_)
 refine lw_op rfl rfl rfl (ow_lss rfl rfl rfl fun bb2 hbb2 => ?_)
 refine lw_op rfl rfl rfl (ow_move rfl rfl ?_)
 replace h := cond_some h
 rcases h with ⟨hc1, h⟩ | ⟨hc1, h⟩
 ·
  obtain rfl := hbb2.trans hc1
  refine lw_on rfl rfl rfl rfl rfl rfl (ow_move rfl rfl ?_)
  replace h := bind_some h
  obtain ⟨x5, hx5, h⟩ := h
  refine lw_on rfl rfl rfl rfl rfl rfl (ow_call rfl rfl Tryd.call87 (w_spec_l20Rd_pick (hG.mono ((((((((hl1.trans hl2).trans hl3).trans hl4).trans hl5).trans hl6).trans hl7).trans hl8).trans hl9)) hC9.old (VRep.mono ((((((((hl1.trans hl2).trans hl3).trans hl4).trans hl5).trans hl6).trans hl7).trans hl8).trans hl9) hxs) ho24 hm6 hx5) fun v5 w10 hv5 => ?_)
  obtain ⟨⟨hv5, ho27⟩, hb10⟩ := hv5
  have hl10 := Le.of_bx (Add g3 (Add g2 (Add g1 M))) hb10 (fun b e => (by rw [show b = g from e]; exact hm6))
  have hC10 := hC9.go hb10 (fun b e => Or.inr e)
  have ho28 := ho25.go hb10 (fun e => hn1 e.symm)
  have ho29 := ho26.go hb10 (fun e => hn2 e.symm)
  have ho30 := ho23.go hb10 (fun e => hn4 e.symm)
  obtain rfl := vint_eq hv5
  refine lw_on rfl rfl rfl rfl rfl rfl (ow_eqlI rfl rfl rfl fun bb3 hbb3 => ?_)
  refine lw_op rfl rfl rfl (ow_pickT rfl rfl rfl ?_)
  refine lw_nil (ew_then ?_)
  replace h := cond_some h
  rcases h with ⟨hc2, h⟩ | ⟨hc2, h⟩
  ·
   obtain rfl := hbb3.trans hc2
   refine cw_true rfl ?_
   refine cw_seq (cw_region (lw_op rfl rfl rfl (ow_move rfl rfl ?_)))
   replace h := bind_some h
   obtain ⟨x6, hx6, h⟩ := h
   refine lw_op rfl rfl rfl (ow_call rfl rfl Tryd.call87 (w_spec_l20Rd_pick (hG.mono (((((((((hl1.trans hl2).trans hl3).trans hl4).trans hl5).trans hl6).trans hl7).trans hl8).trans hl9).trans hl10)) hC10.old (VRep.mono (((((((((hl1.trans hl2).trans hl3).trans hl4).trans hl5).trans hl6).trans hl7).trans hl8).trans hl9).trans hl10) hxs) ho27 hm6 hx6) fun v6 w11 hv6 => ?_)
   obtain ⟨⟨hv6, ho31⟩, hb11⟩ := hv6
   have hl11 := Le.of_bx (Add g3 (Add g2 (Add g1 M))) hb11 (fun b e => (by rw [show b = g from e]; exact hm6))
   have hC11 := hC10.go hb11 (fun b e => Or.inr e)
   have ho32 := ho28.go hb11 (fun e => hn1 e.symm)
   have ho33 := ho29.go hb11 (fun e => hn2 e.symm)
   have ho34 := ho30.go hb11 (fun e => hn4 e.symm)
   obtain rfl := vint_eq hv6
   refine lw_op rfl rfl rfl (ow_build (v := .agg #[(.int .i64 x6.1), (.int .i64 0)]) rfl rfl (by kernel_rfl) ?_)
   have hw2 : VRep RSpan w11 (Add g3 (Add g2 (Add g1 M))) ({ Lo := x6.1, Hi := 0 } : Span) (.agg #[(.int .i64 x6.1), (.int .i64 0)]) := shut_Span
   refine lw_op0 rfl rfl (ow_store (X := (One g)) (us := [(.int .i64 x6.1), (.int .i64 0)]) (cs' := #[(.int .i64 x6.1), (.int .i64 0)]) rfl rfl rfl rfl ho34 (Tryd.sizeOf76 _) rfl rfl rfl rfl hm9 (.inl hg6) rfl hC11 fun w12 ho35 hb12 hl12 hC12 => ?_)
   have ho36 := ho31.go hb12 (fun e => hn4 e)
   have ho37 := ho32.go hb12 (fun e => hn5 e)
   have ho38 := ho33.go hb12 (fun e => hn6 e)
   refine lw_nil (ew_then ?_)
   replace h := bind_some h
   obtain ⟨x7, hx7, h⟩ := h
   refine cw_sub (E' := [(0, (.pointer (some ⟨g, 0, none⟩))), (1, (.int .i64 a_n)), (4, (.pointer (some ⟨g1, 0, none⟩))), (5, (.pointer (some ⟨g2, 0, none⟩))), (6, (.int .i64 x3)), (7, (.pointer (some ⟨g3, 0, none⟩)))]) ⟨rfl, rfl, rfl, rfl, rfl, rfl, trivial⟩ ?_
   refine cw_drawC (g := g) (T := 98) 4 1 [none, none, none, some 0] [#[(.slice Ax a_xs.length cx), (.int .i64 x6.2)], #[(.slice Ax a_xs.length cx), (.int .i64 x7.2)]] [PEq (.pointer (some ⟨g3, 0, none⟩)), PEq (.int .i64 x6.1), PEq (.pointer (some ⟨g, 0, none⟩)), PEq (.int .i64 x7.1)] (by kernel_rfl) rfl (by kernel_rfl) (by kernel_rfl) ho36 ⟨(PEq.monoY hm6 _), (PEq.monoY hm6 _), (PEq.monoY hm6 _), (PEq.monoY hm6 _), trivial⟩ ⟨?_, ?_, ?_, ?_, trivial⟩ ?_
   ·
    intro w14 D hS1 hd1
    have hl14 := leY hm6 hS1
    have hC14 := hC12.go hS1 (fun b e => Or.inr e)
    have ho43 := ho37.go hS1 (fun e => hn1 e.symm)
    have ho44 := ho38.go hS1 (fun e => hn2 e.symm)
    have ho45 := ho35.go hS1 (fun e => hn4 e.symm)
    refine dg_sub (E' := [(7, (.pointer (some ⟨g3, 0, none⟩)))]) ⟨rfl, trivial⟩ ?_
    refine dg_plain rfl (ow_fieldAddr rfl rfl Tryd.underlying76 rfl (Tryd.sizeOf3 _) ?_)
    exact ⟨BX.refl _ _, rfl⟩
   ·
    intro w15 D hS2 hd2
    have hl15 := leY hm6 hS2
    have hC15 := hC12.go hS2 (fun b e => Or.inr e)
    have ho46 := ho37.go hS2 (fun e => hn1 e.symm)
    have ho47 := ho38.go hS2 (fun e => hn2 e.symm)
    have ho48 := ho35.go hS2 (fun e => hn4 e.symm)
    have hd2 : PEq (.pointer (some ⟨g3, 0, none⟩)) (D 0) w15 ∧ True := hd2
    obtain ⟨d1, -⟩ := hd2
    refine dg_sub (E' := [(31, (.pointer (some ⟨g3, 0, none⟩)))]) ⟨(congrArg some d1), trivial⟩ ?_
    refine dg_plain rfl (ow_loadOwn1 rfl rfl rfl ho48 (Tryd.isAgg3 _) rfl ?_)
    exact ⟨BX.refl _ _, rfl⟩
   ·
    intro w16 D hS3 hd3
    have hl16 := leY hm6 hS3
    have hC16 := hC12.go hS3 (fun b e => Or.inr e)
    have ho49 := ho37.go hS3 (fun e => hn1 e.symm)
    have ho50 := ho38.go hS3 (fun e => hn2 e.symm)
    have ho51 := ho35.go hS3 (fun e => hn4 e.symm)
    refine dg_sub (E' := [(0, (.pointer (some ⟨g, 0, none⟩)))]) ⟨rfl, trivial⟩ ?_
    refine dg_plain rfl (ow_move rfl rfl ?_)
    exact ⟨BX.refl _ _, rfl⟩
   ·
    intro w17 D hS4 hd4
    obtain ⟨hS4, ho52⟩ := hS4
    have ho52 : Own w17 g 98 #[(.slice Ax a_xs.length cx), (.int .i64 x6.2)] := ho52
    have hl17 := leY hm6 hS4
    have hC17 := hC12.go hS4 (fun b e => Or.inr e)
    have ho53 := ho37.go hS4 (fun e => hn1 e.symm)
    have ho54 := ho38.go hS4 (fun e => hn2 e.symm)
    have ho55 := ho35.go hS4 (fun e => hn4 e.symm)
    have hd4 : PEq (.pointer (some ⟨g, 0, none⟩)) (D 2) w17 ∧ True := hd4
    obtain ⟨d2, -⟩ := hd4
    refine dg_sub (E' := [(33, (.pointer (some ⟨g, 0, none⟩)))]) ⟨(congrArg some d2), trivial⟩ ?_
    refine dg_plain rfl (ow_call rfl rfl Tryd.call87 (w_spec_l20Rd_pick (hG.mono ((((((((((((hl1.trans hl2).trans hl3).trans hl4).trans hl5).trans hl6).trans hl7).trans hl8).trans hl9).trans hl10).trans hl11).trans hl12).trans hl17)) hC17.old (VRep.mono ((((((((((((hl1.trans hl2).trans hl3).trans hl4).trans hl5).trans hl6).trans hl7).trans hl8).trans hl9).trans hl10).trans hl11).trans hl12).trans hl17) hxs) ho52 hm6 hx7) fun v8 w18 hv8 => ?_)
    obtain ⟨⟨hv8, ho56⟩, hb14⟩ := hv8
    have hl18 := Le.of_bx (Add g3 (Add g2 (Add g1 M))) hb14 (fun b e => (by rw [show b = g from e]; exact hm6))
    have hC18 := hC17.go hb14 (fun b e => Or.inr e)
    have ho57 := ho53.go hb14 (fun e => hn1 e.symm)
    have ho58 := ho54.go hb14 (fun e => hn2 e.symm)
    have ho59 := ho55.go hb14 (fun e => hn4 e.symm)
    obtain rfl := vint_eq hv8
    exact ⟨⟨⟨hS4.trans hb14, ho56⟩, hb14⟩, rfl⟩
   ·
    intro w19 D hS5 hd5
    have hd5 : PEq (.pointer (some ⟨g3, 0, none⟩)) (D 0) w19 ∧ PEq (.int .i64 x6.1) (D 1) w19 ∧ PEq (.pointer (some ⟨g, 0, none⟩)) (D 2) w19 ∧ PEq (.int .i64 x7.1) (D 3) w19 ∧ True := hd5
    obtain ⟨-, d4, -, d6, -⟩ := hd5
    obtain ⟨hS5, ho60⟩ := hS5
    have ho60 : Own w19 g 98 #[(.slice Ax a_xs.length cx), (.int .i64 x7.2)] := ho60
    have hl19 := leY hm6 hS5
    have hC19 := hC12.go hS5 (fun b e => Or.inr e)
    have ho61 := ho37.go hS5 (fun e => hn1 e.symm)
    have ho62 := ho38.go hS5 (fun e => hn2 e.symm)
    have ho63 := ho35.go hS5 (fun e => hn4 e.symm)
    refine lw_sub (E' := [(32, (.int .i64 x6.1)), (34, (.int .i64 x7.1)), (0, (.pointer (some ⟨g, 0, none⟩))), (1, (.int .i64 a_n)), (4, (.pointer (some ⟨g1, 0, none⟩))), (5, (.pointer (some ⟨g2, 0, none⟩))), (6, (.int .i64 x3)), (7, (.pointer (some ⟨g3, 0, none⟩)))]) ⟨(congrArg some d4), (congrArg some d6), rfl, rfl, rfl, rfl, rfl, rfl, trivial⟩ ?_
    refine lw_op rfl rfl rfl (ow_add rfl rfl rfl ?_)
    refine lw_op rfl rfl rfl (ow_fieldAddr rfl rfl Tryd.underlying76 rfl (Tryd.sizeOf3 _) ?_)
    refine lw_op0 rfl rfl (ow_store (X := (One g)) (us := [(.int .i64 (W (x6.1 + x7.1)))]) (cs' := #[(.int .i64 x6.1), (.int .i64 (W (x6.1 + x7.1)))]) rfl rfl rfl rfl ho63 (Tryd.sizeOf3 _) rfl rfl rfl rfl hm9 (.inl hg6) rfl hC19 fun w20 ho64 hb15 hl20 hC20 => ?_)
    have ho65 := ho60.go hb15 (fun e => hn4 e)
    have ho66 := ho61.go hb15 (fun e => hn5 e)
    have ho67 := ho62.go hb15 (fun e => hn6 e)
    refine lw_nil (ew_then (cw_seq (cw_seq (cw_region (lw_op rfl rfl rfl (ow_move rfl rfl ?_))))))
    replace h := bind_some h
    obtain ⟨x8, hx8, h⟩ := h
    refine lw_op rfl rfl rfl (ow_call rfl rfl Tryd.call87 (w_spec_l20Rd_pick (hG.mono (((((((((((((hl1.trans hl2).trans hl3).trans hl4).trans hl5).trans hl6).trans hl7).trans hl8).trans hl9).trans hl10).trans hl11).trans hl12).trans hl19).trans hl20)) hC20.old (VRep.mono (((((((((((((hl1.trans hl2).trans hl3).trans hl4).trans hl5).trans hl6).trans hl7).trans hl8).trans hl9).trans hl10).trans hl11).trans hl12).trans hl19).trans hl20) hxs) ho65 hm6 hx8) fun v9 w21 hv9 => ?_)
    obtain ⟨⟨hv9, ho68⟩, hb16⟩ := hv9
    have hl21 := Le.of_bx (Add g3 (Add g2 (Add g1 M))) hb16 (fun b e => (by rw [show b = g from e]; exact hm6))
    have hC21 := hC20.go hb16 (fun b e => Or.inr e)
    have ho69 := ho66.go hb16 (fun e => hn1 e.symm)
    have ho70 := ho67.go hb16 (fun e => hn2 e.symm)
    have ho71 := ho64.go hb16 (fun e => hn4 e.symm)
    obtain rfl := vint_eq hv9
    refine lw_op rfl rfl rfl (ow_eqlI rfl rfl rfl fun bb4 hbb4 => ?_)
    refine lw_nil (ew_then ?_)
    replace h := cond_some h
    rcases h with ⟨hc3, h⟩ | ⟨hc3, h⟩
    ·
     obtain rfl := hbb4.trans hc3
     refine cw_true rfl ?_
     replace h := bind_some h
     obtain ⟨x9, hx9, h⟩ := h
     refine cw_sub (E' := [(0, (.pointer (some ⟨g, 0, none⟩))), (1, (.int .i64 a_n)), (4, (.pointer (some ⟨g1, 0, none⟩))), (5, (.pointer (some ⟨g2, 0, none⟩))), (6, (.int .i64 x3)), (7, (.pointer (some ⟨g3, 0, none⟩)))]) ⟨rfl, rfl, rfl, rfl, rfl, rfl, trivial⟩ ?_
     refine cw_drawC (g := g) (T := 98) 12 1 [none, none, none, none, none, none, none, none, none, none, none, some 0] [#[(.slice Ax a_xs.length cx), (.int .i64 x8.2)], #[(.slice Ax a_xs.length cx), (.int .i64 x9.2)]] [PEq (.int .i64 x3), PV RSpan (Add g3 (Add g2 (Add g1 M))) ({ Lo := 0, Hi := x3 } : Span), PEq (.pointer (some ⟨g3, 1, none⟩)), PEq (.int .i64 (W (x6.1 + x7.1))), PV RSpan (Add g3 (Add g2 (Add g1 M))) ({ Lo := 0, Hi := (W (x6.1 + x7.1)) } : Span), PEq (.pointer (some ⟨g3, 0, none⟩)), PEq (.int .i64 x6.1), PEq (.int .i64 x3), PV RSpan (Add g3 (Add g2 (Add g1 M))) ({ Lo := x6.1, Hi := x3 } : Span), PV (RSlice RSpan) (Add g3 (Add g2 (Add g1 M))) [({ Lo := 0, Hi := x3 } : Span), ({ Lo := 0, Hi := (W (x6.1 + x7.1)) } : Span), ({ Lo := x6.1, Hi := x3 } : Span)], PEq (.pointer (some ⟨g, 0, none⟩)), PEq (.int .i64 x9.1)] (by kernel_rfl) rfl (by kernel_rfl) (by kernel_rfl) ho68 ⟨(PEq.monoY hm6 _), (PV.monoY hm6 _ _), (PEq.monoY hm6 _), (PEq.monoY hm6 _), (PV.monoY hm6 _ _), (PEq.monoY hm6 _), (PEq.monoY hm6 _), (PEq.monoY hm6 _), (PV.monoY hm6 _ _), (PV.monoY hm6 _ _), (PEq.monoY hm6 _), (PEq.monoY hm6 _), trivial⟩ ⟨?_, ?_, ?_, ?_, ?_, ?_, ?_, ?_, ?_, ?_, ?_, ?_, trivial⟩ ?_
     ·
      intro w24 D hS6 hd6
      have hl24 := leY hm6 hS6
      have hC24 := hC21.go hS6 (fun b e => Or.inr e)
      have ho80 := ho69.go hS6 (fun e => hn1 e.symm)
      have ho81 := ho70.go hS6 (fun e => hn2 e.symm)
      have ho82 := ho71.go hS6 (fun e => hn4 e.symm)
      refine dg_sub (E' := [(6, (.int .i64 x3))]) ⟨rfl, trivial⟩ ?_
      refine dg_plain rfl (ow_move rfl rfl ?_)
      exact ⟨BX.refl _ _, rfl⟩
     ·
      intro w25 D hS7 hd7
      have hl25 := leY hm6 hS7
      have hC25 := hC21.go hS7 (fun b e => Or.inr e)
      have ho83 := ho69.go hS7 (fun e => hn1 e.symm)
      have ho84 := ho70.go hS7 (fun e => hn2 e.symm)
      have ho85 := ho71.go hS7 (fun e => hn4 e.symm)
      have hd7 : PEq (.int .i64 x3) (D 0) w25 ∧ True := hd7
      obtain ⟨d7, -⟩ := hd7
      refine dg_sub (E' := [(40, (.int .i64 x3))]) ⟨(congrArg some d7), trivial⟩ ?_
      refine dg_plain rfl (ow_build (v := .agg #[(.int .i64 0), (.int .i64 x3)]) rfl rfl (by kernel_rfl) ?_)
      have hw7 : VRep RSpan w25 (Add g3 (Add g2 (Add g1 M))) ({ Lo := 0, Hi := x3 } : Span) (.agg #[(.int .i64 0), (.int .i64 x3)]) := shut_Span
      exact ⟨BX.refl _ _, hw7⟩
     ·
      intro w26 D hS8 hd8
      have hl26 := leY hm6 hS8
      have hC26 := hC21.go hS8 (fun b e => Or.inr e)
      have ho86 := ho69.go hS8 (fun e => hn1 e.symm)
      have ho87 := ho70.go hS8 (fun e => hn2 e.symm)
      have ho88 := ho71.go hS8 (fun e => hn4 e.symm)
      refine dg_sub (E' := [(7, (.pointer (some ⟨g3, 0, none⟩)))]) ⟨rfl, trivial⟩ ?_
      refine dg_plain rfl (ow_fieldAddr rfl rfl Tryd.underlying76 rfl (Tryd.sizeOf3 _) ?_)
      exact ⟨BX.refl _ _, rfl⟩
     ·
      intro w27 D hS9 hd9
      have hl27 := leY hm6 hS9
      have hC27 := hC21.go hS9 (fun b e => Or.inr e)
      have ho89 := ho69.go hS9 (fun e => hn1 e.symm)
      have ho90 := ho70.go hS9 (fun e => hn2 e.symm)
      have ho91 := ho71.go hS9 (fun e => hn4 e.symm)
      have hd9 : PEq (.pointer (some ⟨g3, 1, none⟩)) (D 2) w27 ∧ True := hd9
      obtain ⟨d8, -⟩ := hd9
      refine dg_sub (E' := [(42, (.pointer (some ⟨g3, 1, none⟩)))]) ⟨(congrArg some d8), trivial⟩ ?_
      refine dg_plain rfl (ow_loadOwn1 rfl rfl rfl ho91 (Tryd.isAgg3 _) rfl ?_)
      exact ⟨BX.refl _ _, rfl⟩
     ·
      intro w28 D hS10 hd10
      have hl28 := leY hm6 hS10
      have hC28 := hC21.go hS10 (fun b e => Or.inr e)
      have ho92 := ho69.go hS10 (fun e => hn1 e.symm)
      have ho93 := ho70.go hS10 (fun e => hn2 e.symm)
      have ho94 := ho71.go hS10 (fun e => hn4 e.symm)
      have hd10 : PEq (.int .i64 (W (x6.1 + x7.1))) (D 3) w28 ∧ True := hd10
      obtain ⟨d9, -⟩ := hd10
      refine dg_sub (E' := [(43, (.int .i64 (W (x6.1 + x7.1))))]) ⟨(congrArg some d9), trivial⟩ ?_
      refine dg_plain rfl (ow_build (v := .agg #[(.int .i64 0), (.int .i64 (W (x6.1 + x7.1)))]) rfl rfl (by kernel_rfl) ?_)
      have hw8 : VRep RSpan w28 (Add g3 (Add g2 (Add g1 M))) ({ Lo := 0, Hi := (W (x6.1 + x7.1)) } : Span) (.agg #[(.int .i64 0), (.int .i64 (W (x6.1 + x7.1)))]) := shut_Span
      exact ⟨BX.refl _ _, hw8⟩
     ·
      intro w29 D hS11 hd11
      have hl29 := leY hm6 hS11
      have hC29 := hC21.go hS11 (fun b e => Or.inr e)
      have ho95 := ho69.go hS11 (fun e => hn1 e.symm)
      have ho96 := ho70.go hS11 (fun e => hn2 e.symm)
      have ho97 := ho71.go hS11 (fun e => hn4 e.symm)
      refine dg_sub (E' := [(7, (.pointer (some ⟨g3, 0, none⟩)))]) ⟨rfl, trivial⟩ ?_
      refine dg_plain rfl (ow_fieldAddr rfl rfl Tryd.underlying76 rfl (Tryd.sizeOf3 _) ?_)
      exact ⟨BX.refl _ _, rfl⟩
     ·
      intro w30 D hS12 hd12
      have hl30 := leY hm6 hS12
      have hC30 := hC21.go hS12 (fun b e => Or.inr e)
      have ho98 := ho69.go hS12 (fun e => hn1 e.symm)
      have ho99 := ho70.go hS12 (fun e => hn2 e.symm)
      have ho100 := ho71.go hS12 (fun e => hn4 e.symm)
      have hd12 : PEq (.pointer (some ⟨g3, 0, none⟩)) (D 5) w30 ∧ True := hd12
      obtain ⟨d10, -⟩ := hd12
      refine dg_sub (E' := [(45, (.pointer (some ⟨g3, 0, none⟩)))]) ⟨(congrArg some d10), trivial⟩ ?_
      refine dg_plain rfl (ow_loadOwn1 rfl rfl rfl ho100 (Tryd.isAgg3 _) rfl ?_)
      exact ⟨BX.refl _ _, rfl⟩
     ·
      intro w31 D hS13 hd13
      have hl31 := leY hm6 hS13
      have hC31 := hC21.go hS13 (fun b e => Or.inr e)
      have ho101 := ho69.go hS13 (fun e => hn1 e.symm)
      have ho102 := ho70.go hS13 (fun e => hn2 e.symm)
      have ho103 := ho71.go hS13 (fun e => hn4 e.symm)
      refine dg_sub (E' := [(6, (.int .i64 x3))]) ⟨rfl, trivial⟩ ?_
      refine dg_plain rfl (ow_move rfl rfl ?_)
      exact ⟨BX.refl _ _, rfl⟩
     ·
      intro w32 D hS14 hd14
      have hl32 := leY hm6 hS14
      have hC32 := hC21.go hS14 (fun b e => Or.inr e)
      have ho104 := ho69.go hS14 (fun e => hn1 e.symm)
      have ho105 := ho70.go hS14 (fun e => hn2 e.symm)
      have ho106 := ho71.go hS14 (fun e => hn4 e.symm)
      have hd14 : PEq (.int .i64 x6.1) (D 6) w32 ∧ PEq (.int .i64 x3) (D 7) w32 ∧ True := hd14
      obtain ⟨d11, d12, -⟩ := hd14
      refine dg_sub (E' := [(46, (.int .i64 x6.1)), (47, (.int .i64 x3))]) ⟨(congrArg some d11), (congrArg some d12), trivial⟩ ?_
      refine dg_plain rfl (ow_build (v := .agg #[(.int .i64 x6.1), (.int .i64 x3)]) rfl rfl (by kernel_rfl) ?_)
      have hw9 : VRep RSpan w32 (Add g3 (Add g2 (Add g1 M))) ({ Lo := x6.1, Hi := x3 } : Span) (.agg #[(.int .i64 x6.1), (.int .i64 x3)]) := shut_Span
      exact ⟨BX.refl _ _, hw9⟩
     ·
      intro w33 D hS15 hd15
      have hl33 := leY hm6 hS15
      have hC33 := hC21.go hS15 (fun b e => Or.inr e)
      have ho107 := ho69.go hS15 (fun e => hn1 e.symm)
      have ho108 := ho70.go hS15 (fun e => hn2 e.symm)
      have ho109 := ho71.go hS15 (fun e => hn4 e.symm)
      have hd15 : PV RSpan (Add g3 (Add g2 (Add g1 M))) ({ Lo := 0, Hi := x3 } : Span) (D 1) w33 ∧ PV RSpan (Add g3 (Add g2 (Add g1 M))) ({ Lo := 0, Hi := (W (x6.1 + x7.1)) } : Span) (D 4) w33 ∧ PV RSpan (Add g3 (Add g2 (Add g1 M))) ({ Lo := x6.1, Hi := x3 } : Span) (D 8) w33 ∧ True := hd15
      obtain ⟨d13, d14, d15, -⟩ := hd15
      obtain ⟨v11, hq1⟩ : ∃ v, (D 1) = v := ⟨_, rfl⟩
      rw [hq1] at d13
      obtain ⟨v12, hq2⟩ : ∃ v, (D 4) = v := ⟨_, rfl⟩
      rw [hq2] at d14
      obtain ⟨v13, hq3⟩ : ∃ v, (D 8) = v := ⟨_, rfl⟩
      rw [hq3] at d15
      refine dg_sub (E' := [(41, v11), (44, v12), (48, v13)]) ⟨(congrArg some hq1), (congrArg some hq2), (congrArg some hq3), trivial⟩ ?_
      obtain rfl := open_Span d13
      obtain rfl := open_Span d14
      obtain rfl := open_Span d15
      refine dg_plain rfl (ow_buildSlice (R := RSpan) (xs := [({ Lo := 0, Hi := x3 } : Span), ({ Lo := 0, Hi := (W (x6.1 + x7.1)) } : Span), ({ Lo := x6.1, Hi := x3 } : Span)]) (cs := #[(.int .i64 ({ Lo := 0, Hi := x3 } : Span).Lo), (.int .i64 ({ Lo := 0, Hi := x3 } : Span).Hi), (.int .i64 ({ Lo := 0, Hi := (W (x6.1 + x7.1)) } : Span).Lo), (.int .i64 ({ Lo := 0, Hi := (W (x6.1 + x7.1)) } : Span).Hi), (.int .i64 ({ Lo := x6.1, Hi := x3 } : Span).Lo), (.int .i64 ({ Lo := x6.1, Hi := x3 } : Span).Hi)]) (e := 76) rfl rfl (by kernel_rfl) rfl rfl ⟨_, _, rfl, d13.cells, _, _, rfl, d14.cells, _, _, rfl, d15.cells, rfl⟩ hC33 fun p2 w34 hw10 hb19 hl34 hC34 => ?_)
      have ho110 := ho107.no hb19
      have ho111 := ho108.no hb19
      have ho112 := ho109.no hb19
      exact ⟨hb19, hw10⟩
     ·
      intro w35 D hS16 hd16
      have hl35 := leY hm6 hS16
      have hC35 := hC21.go hS16 (fun b e => Or.inr e)
      have ho113 := ho69.go hS16 (fun e => hn1 e.symm)
      have ho114 := ho70.go hS16 (fun e => hn2 e.symm)
      have ho115 := ho71.go hS16 (fun e => hn4 e.symm)
      refine dg_sub (E' := [(0, (.pointer (some ⟨g, 0, none⟩)))]) ⟨rfl, trivial⟩ ?_
      refine dg_plain rfl (ow_move rfl rfl ?_)
      exact ⟨BX.refl _ _, rfl⟩
     ·
      intro w36 D hS17 hd17
      obtain ⟨hS17, ho116⟩ := hS17
      have ho116 : Own w36 g 98 #[(.slice Ax a_xs.length cx), (.int .i64 x8.2)] := ho116
      have hl36 := leY hm6 hS17
      have hC36 := hC21.go hS17 (fun b e => Or.inr e)
      have ho117 := ho69.go hS17 (fun e => hn1 e.symm)
      have ho118 := ho70.go hS17 (fun e => hn2 e.symm)
      have ho119 := ho71.go hS17 (fun e => hn4 e.symm)
      have hd17 : PEq (.pointer (some ⟨g, 0, none⟩)) (D 10) w36 ∧ True := hd17
      obtain ⟨d16, -⟩ := hd17
      refine dg_sub (E' := [(50, (.pointer (some ⟨g, 0, none⟩)))]) ⟨(congrArg some d16), trivial⟩ ?_
      refine dg_plain rfl (ow_call rfl rfl Tryd.call87 (w_spec_l20Rd_pick (hG.mono (((((((((((((((hl1.trans hl2).trans hl3).trans hl4).trans hl5).trans hl6).trans hl7).trans hl8).trans hl9).trans hl10).trans hl11).trans hl12).trans hl19).trans hl20).trans hl21).trans hl36)) hC36.old (VRep.mono (((((((((((((((hl1.trans hl2).trans hl3).trans hl4).trans hl5).trans hl6).trans hl7).trans hl8).trans hl9).trans hl10).trans hl11).trans hl12).trans hl19).trans hl20).trans hl21).trans hl36) hxs) ho116 hm6 hx9) fun v14 w37 hv14 => ?_)
      obtain ⟨⟨hv14, ho120⟩, hb20⟩ := hv14
      have hl37 := Le.of_bx (Add g3 (Add g2 (Add g1 M))) hb20 (fun b e => (by rw [show b = g from e]; exact hm6))
      have hC37 := hC36.go hb20 (fun b e => Or.inr e)
      have ho121 := ho117.go hb20 (fun e => hn1 e.symm)
      have ho122 := ho118.go hb20 (fun e => hn2 e.symm)
      have ho123 := ho119.go hb20 (fun e => hn4 e.symm)
      obtain rfl := vint_eq hv14
      exact ⟨⟨⟨hS17.trans hb20, ho120⟩, hb20⟩, rfl⟩
     ·
      intro w38 D hS18 hd18
      have hd18 : PEq (.int .i64 x3) (D 0) w38 ∧ PV RSpan (Add g3 (Add g2 (Add g1 M))) ({ Lo := 0, Hi := x3 } : Span) (D 1) w38 ∧ PEq (.pointer (some ⟨g3, 1, none⟩)) (D 2) w38 ∧ PEq (.int .i64 (W (x6.1 + x7.1))) (D 3) w38 ∧ PV RSpan (Add g3 (Add g2 (Add g1 M))) ({ Lo := 0, Hi := (W (x6.1 + x7.1)) } : Span) (D 4) w38 ∧ PEq (.pointer (some ⟨g3, 0, none⟩)) (D 5) w38 ∧ PEq (.int .i64 x6.1) (D 6) w38 ∧ PEq (.int .i64 x3) (D 7) w38 ∧ PV RSpan (Add g3 (Add g2 (Add g1 M))) ({ Lo := x6.1, Hi := x3 } : Span) (D 8) w38 ∧ PV (RSlice RSpan) (Add g3 (Add g2 (Add g1 M))) [({ Lo := 0, Hi := x3 } : Span), ({ Lo := 0, Hi := (W (x6.1 + x7.1)) } : Span), ({ Lo := x6.1, Hi := x3 } : Span)] (D 9) w38 ∧ PEq (.pointer (some ⟨g, 0, none⟩)) (D 10) w38 ∧ PEq (.int .i64 x9.1) (D 11) w38 ∧ True := hd18
      obtain ⟨-, -, -, -, -, -, -, -, -, d26, -, d28, -⟩ := hd18
      obtain ⟨hS18, ho124⟩ := hS18
      have ho124 : Own w38 g 98 #[(.slice Ax a_xs.length cx), (.int .i64 x9.2)] := ho124
      have hl38 := leY hm6 hS18
      have hC38 := hC21.go hS18 (fun b e => Or.inr e)
      have ho125 := ho69.go hS18 (fun e => hn1 e.symm)
      have ho126 := ho70.go hS18 (fun e => hn2 e.symm)
      have ho127 := ho71.go hS18 (fun e => hn4 e.symm)
      obtain ⟨v15, hq4⟩ : ∃ v, (D 9) = v := ⟨_, rfl⟩
      rw [hq4] at d26
      refine lw_sub (E' := [(49, v15), (51, (.int .i64 x9.1)), (0, (.pointer (some ⟨g, 0, none⟩))), (1, (.int .i64 a_n)), (4, (.pointer (some ⟨g1, 0, none⟩))), (5, (.pointer (some ⟨g2, 0, none⟩))), (6, (.int .i64 x3)), (7, (.pointer (some ⟨g3, 0, none⟩)))]) ⟨(congrArg some hq4), (congrArg some d28), rfl, rfl, rfl, rfl, rfl, rfl, trivial⟩ ?_
      replace h := bind_some h
      obtain ⟨x10, hx10, h⟩ := h
      refine lw_op rfl rfl rfl (ow_indexSlice (R := RSpan) rfl rfl rfl d26 Tryd.underlying58 (Tryd.sizeOf76 _) hx10 fun p3 hp3 => ?_)
      refine lw_op rfl rfl rfl (ow_load (R := RSpan) rfl rfl hp3 (Tryd.sizeOf76 _) (Tryd.isAgg76 _) fun v16 hv16 => ?_)
      obtain rfl := open_Span hv16
      refine lw_op0 rfl rfl (ow_store (X := (One g)) (us := [(.int .i64 x10.Lo), (.int .i64 x10.Hi)]) (cs' := #[(.int .i64 x10.Lo), (.int .i64 x10.Hi)]) rfl rfl rfl rfl ho127 (Tryd.sizeOf76 _) rfl rfl rfl rfl hm9 (.inl hg6) rfl hC38 fun w39 ho128 hb21 hl39 hC39 => ?_)
      have ho129 := ho124.go hb21 (fun e => hn4 e)
      have ho130 := ho125.go hb21 (fun e => hn5 e)
      have ho131 := ho126.go hb21 (fun e => hn6 e)
      refine lw_nil (ew_then (cw_seq (cw_region (lw_op rfl rfl rfl (ow_fieldAddr rfl rfl Tryd.underlying76 rfl (Tryd.sizeOf3 _) ?_)))))
      refine lw_op rfl rfl rfl (ow_loadOwn1 rfl rfl rfl ho128 (Tryd.isAgg3 _) rfl ?_)
      refine lw_op rfl rfl rfl (ow_fieldAddr rfl rfl Tryd.underlying31 rfl (Tryd.sizeOf3 _) ?_)
      refine lw_op0 rfl rfl (ow_store (X := (One g)) (us := [(.int .i64 x10.Lo)]) (cs' := #[(.int .i64 x1.1), (.int .i64 x10.Lo), (.int .i64 0), (.bool bb1)]) rfl rfl rfl rfl ho131 (Tryd.sizeOf3 _) rfl rfl rfl rfl hm8 (.inl hg4) rfl hC39 fun w40 ho132 hb22 hl40 hC40 => ?_)
      have ho133 := ho129.go hb22 (fun e => hn2 e)
      have ho134 := ho130.go hb22 (fun e => hn3 e)
      have ho135 := ho128.go hb22 (fun e => hn6 e.symm)
      refine lw_nil (ew_then (cw_seq (cw_region (lw_op rfl rfl rfl (ow_fieldAddr rfl rfl Tryd.underlying76 rfl (Tryd.sizeOf3 _) ?_)))))
      refine lw_op rfl rfl rfl (ow_loadOwn1 rfl rfl rfl ho135 (Tryd.isAgg3 _) rfl ?_)
      refine lw_op rfl rfl rfl (ow_fieldAddr rfl rfl Tryd.underlying31 rfl (Tryd.sizeOf3 _) ?_)
      refine lw_op0 rfl rfl (ow_store (X := (One g)) (us := [(.int .i64 x10.Hi)]) (cs' := #[(.int .i64 x1.1), (.int .i64 x10.Lo), (.int .i64 x10.Hi), (.bool bb1)]) rfl rfl rfl rfl ho132 (Tryd.sizeOf3 _) rfl rfl rfl rfl hm8 (.inl hg4) rfl hC40 fun w41 ho136 hb23 hl41 hC41 => ?_)
      have ho137 := ho133.go hb23 (fun e => hn2 e)
      have ho138 := ho134.go hb23 (fun e => hn3 e)
      have ho139 := ho135.go hb23 (fun e => hn6 e.symm)
      refine lw_nil (ew_then (cw_seq (cw_seq (cw_region (lw_op rfl rfl rfl (ow_move rfl rfl ?_))))))
      refine lw_op rfl rfl rfl (ow_move rfl rfl ?_)
      replace h := bind_some h
      obtain ⟨x11, hx11, h⟩ := h
      refine lw_op rfl rfl rfl (ow_call rfl rfl Tryd.call92 (w_spec_l20Rd_odd (hG.mono ((((((((((((((((((hl1.trans hl2).trans hl3).trans hl4).trans hl5).trans hl6).trans hl7).trans hl8).trans hl9).trans hl10).trans hl11).trans hl12).trans hl19).trans hl20).trans hl21).trans hl38).trans hl39).trans hl40).trans hl41)) hC41.old (VRep.mono ((((((((((((((((((hl1.trans hl2).trans hl3).trans hl4).trans hl5).trans hl6).trans hl7).trans hl8).trans hl9).trans hl10).trans hl11).trans hl12).trans hl19).trans hl20).trans hl21).trans hl38).trans hl39).trans hl40).trans hl41) hxs) ho137 hm6 hx11) fun v17 w42 hv17 => ?_)
      obtain ⟨⟨hv17, ho140⟩, hb24⟩ := hv17
      have hl42 := Le.of_bx (Add g3 (Add g2 (Add g1 M))) hb24 (fun b e => (by rw [show b = g from e]; exact hm6))
      have hC42 := hC41.go hb24 (fun b e => Or.inr e)
      have ho141 := ho138.go hb24 (fun e => hn1 e.symm)
      have ho142 := ho136.go hb24 (fun e => hn2 e.symm)
      have ho143 := ho139.go hb24 (fun e => hn4 e.symm)
      obtain ⟨bb5, hbb5, rfl⟩ := vbool_ex hv17
      refine lw_nil (ew_then ?_)
      replace h := cond_some h
      rcases h with ⟨hc4, h⟩ | ⟨hc4, h⟩
      ·
       obtain rfl := hbb5.trans hc4
       refine cw_true rfl ?_
       refine cw_seq (cw_region (lw_op rfl rfl rfl (ow_move rfl rfl ?_)))
       replace h := bind_some h
       obtain ⟨x12, hx12, h⟩ := h
       refine lw_op rfl rfl rfl (ow_call rfl rfl Tryd.call87 (w_spec_l20Rd_pick (hG.mono (((((((((((((((((((hl1.trans hl2).trans hl3).trans hl4).trans hl5).trans hl6).trans hl7).trans hl8).trans hl9).trans hl10).trans hl11).trans hl12).trans hl19).trans hl20).trans hl21).trans hl38).trans hl39).trans hl40).trans hl41).trans hl42)) hC42.old (VRep.mono (((((((((((((((((((hl1.trans hl2).trans hl3).trans hl4).trans hl5).trans hl6).trans hl7).trans hl8).trans hl9).trans hl10).trans hl11).trans hl12).trans hl19).trans hl20).trans hl21).trans hl38).trans hl39).trans hl40).trans hl41).trans hl42) hxs) ho140 hm6 hx12) fun v18 w43 hv18 => ?_)
       obtain ⟨⟨hv18, ho144⟩, hb25⟩ := hv18
       have hl43 := Le.of_bx (Add g3 (Add g2 (Add g1 M))) hb25 (fun b e => (by rw [show b = g from e]; exact hm6))
       have hC43 := hC42.go hb25 (fun b e => Or.inr e)
       have ho145 := ho141.go hb25 (fun e => hn1 e.symm)
       have ho146 := ho142.go hb25 (fun e => hn2 e.symm)
       have ho147 := ho143.go hb25 (fun e => hn4 e.symm)
       obtain rfl := vint_eq hv18
       refine lw_nil (ew_then (cw_block ?_))
       refine cw_seq (cw_region (lw_op rfl rfl rfl (ow_eqlI rfl rfl rfl fun bb6 hbb6 => ?_)))
       refine lw_op rfl rfl rfl (ow_assign rfl rfl ?_)
       refine lw_nil (ew_then ?_)
       replace h := cond_some h
       rcases h with ⟨hc5, h⟩ | ⟨hc5, h⟩
       ·
        obtain rfl := hbb6.trans hc5
        refine cw_true rfl ?_
        refine cw_region (lw_op rfl rfl rfl (ow_buildSlice (R := RInt) (xs := [(-1), 4]) (cs := #[(.int .i64 (-1)), (.int .i64 4)]) (e := 3) rfl rfl (by kernel_rfl) rfl rfl ⟨_, _, rfl, (vint _).cells, _, _, rfl, (vint _).cells, rfl⟩ hC43 fun p4 w44 hw11 hb26 hl44 hC44 => ?_))
        have ho148 := ho144.no hb26
        have ho149 := ho145.no hb26
        have ho150 := ho146.no hb26
        have ho151 := ho147.no hb26
        refine lw_op rfl rfl rfl (ow_move rfl rfl ?_)
        replace h := bind_some h
        obtain ⟨x13, hx13, h⟩ := h
        refine lw_op rfl rfl rfl (ow_call rfl rfl Tryd.call87 (w_spec_l20Rd_pick (hG.mono (((((((((((((((((((((hl1.trans hl2).trans hl3).trans hl4).trans hl5).trans hl6).trans hl7).trans hl8).trans hl9).trans hl10).trans hl11).trans hl12).trans hl19).trans hl20).trans hl21).trans hl38).trans hl39).trans hl40).trans hl41).trans hl42).trans hl43).trans hl44)) hC44.old (VRep.mono (((((((((((((((((((((hl1.trans hl2).trans hl3).trans hl4).trans hl5).trans hl6).trans hl7).trans hl8).trans hl9).trans hl10).trans hl11).trans hl12).trans hl19).trans hl20).trans hl21).trans hl38).trans hl39).trans hl40).trans hl41).trans hl42).trans hl43).trans hl44) hxs) ho148 hm6 hx13) fun v19 w45 hv19 => ?_)
        obtain ⟨⟨hv19, ho152⟩, hb27⟩ := hv19
        have hl45 := Le.of_bx (Add g3 (Add g2 (Add g1 M))) hb27 (fun b e => (by rw [show b = g from e]; exact hm6))
        have hC45 := hC44.go hb27 (fun b e => Or.inr e)
        have ho153 := ho149.go hb27 (fun e => hn1 e.symm)
        have ho154 := ho150.go hb27 (fun e => hn2 e.symm)
        have ho155 := ho151.go hb27 (fun e => hn4 e.symm)
        obtain rfl := vint_eq hv19
        replace h := bind_some h
        obtain ⟨x14, hx14, h⟩ := h
        refine lw_op rfl rfl rfl (ow_indexSlice (R := RInt) rfl rfl rfl (VRep.mono hl45 hw11) Tryd.underlying84 (Tryd.sizeOf3 _) hx14 fun p5 hp5 => ?_)
        refine lw_op rfl rfl rfl (ow_load (R := RInt) rfl rfl hp5 (Tryd.sizeOf3 _) (Tryd.isAgg3 _) fun v20 hv20 => ?_)
        obtain rfl := vint_eq hv20
        refine lw_op rfl rfl rfl (ow_fieldAddr rfl rfl Tryd.underlying31 rfl (Tryd.sizeOf3 _) ?_)
        refine lw_op0 rfl rfl (ow_store (X := (One g)) (us := [(.int .i64 x14)]) (cs' := #[(.int .i64 x14), (.int .i64 x10.Lo), (.int .i64 x10.Hi), (.bool bb1)]) rfl rfl rfl rfl ho154 (Tryd.sizeOf3 _) rfl rfl rfl rfl hm8 (.inl hg4) rfl hC45 fun w46 ho156 hb28 hl46 hC46 => ?_)
        have ho157 := ho152.go hb28 (fun e => hn2 e)
        have ho158 := ho153.go hb28 (fun e => hn3 e)
        have ho159 := ho155.go hb28 (fun e => hn6 e.symm)
        refine lw_nil (ew_blockN ?_)
        refine ew_then (cw_seq (cw_region (lw_op rfl rfl rfl (ow_loadOwnA rfl rfl rfl ho156 (Tryd.isAgg31 _) (Tryd.sizeOf31 _) rfl ?_))))
        have hw12 : VRep RTest w46 (Add g3 (Add g2 (Add g1 M))) ({ Field := x14, Lo := x10.Lo, Hi := x10.Hi, Not := (x2.1 == 0) } : Test) (.agg #[(.int .i64 x14), (.int .i64 x10.Lo), (.int .i64 x10.Hi), (.bool bb1)]) := by subst hbb1; exact shut_Test
        refine lw_op0 rfl rfl (ow_store (X := (One g)) (us := [(.int .i64 x14), (.int .i64 x10.Lo), (.int .i64 x10.Hi), (.bool bb1)]) (cs' := #[(.int .i64 x14), (.int .i64 x10.Lo), (.int .i64 x10.Hi), (.bool bb1)]) rfl rfl rfl rfl ho158 (Tryd.sizeOf31 _) rfl rfl rfl rfl hm7 (.inl hg2) rfl hC46 fun w47 ho160 hb29 hl47 hC47 => ?_)
        have ho161 := ho157.go hb29 (fun e => hn1 e)
        have ho162 := ho156.go hb29 (fun e => hn3 e.symm)
        have ho163 := ho159.go hb29 (fun e => hn5 e.symm)
        refine lw_nil (ew_then (cw_ret ?_))
        have hw13 : VRep RTest w47 (Add g3 (Add g2 (Add g1 M))) ({ Field := x14, Lo := x10.Lo, Hi := x10.Hi, Not := (x2.1 == 0) } : Test) (.agg #[(.int .i64 x14), (.int .i64 x10.Lo), (.int .i64 x10.Hi), (.bool bb1)]) := by subst hbb1; exact shut_Test
        obtain rfl := Option.some.inj h
        exact ew_ret (res1 rfl (.cell rfl (own_loadVarA ho160 (Tryd.isAgg31 _) (Tryd.sizeOf31 _) rfl))) ⟨_, rfl, ⟨(hw13.mono hC47.back), ho161⟩, hC47.bx⟩
       ·
        obtain rfl := hbb6.trans hc5
        refine cw_false rfl ?_
        refine cw_seq (cw_region (lw_op rfl rfl rfl (ow_eqlI rfl rfl rfl fun bb7 hbb7 => ?_)))
        refine lw_op rfl rfl rfl (ow_assign rfl rfl ?_)
        refine lw_nil (ew_then ?_)
        replace h := cond_some h
        rcases h with ⟨hc6, h⟩ | ⟨hc6, h⟩
        ·
         obtain rfl := hbb7.trans hc6
         refine cw_true rfl ?_
         refine cw_region (lw_op rfl rfl rfl (ow_fieldAddr rfl rfl Tryd.underlying31 rfl (Tryd.sizeOf3 _) ?_))
         refine lw_op rfl rfl rfl (ow_loadOwn1 rfl rfl rfl ho146 (Tryd.isAgg3 _) rfl ?_)
         refine lw_op rfl rfl rfl (ow_add rfl rfl rfl ?_)
         refine lw_op rfl rfl rfl (ow_fieldAddr rfl rfl Tryd.underlying31 rfl (Tryd.sizeOf3 _) ?_)
         refine lw_op0 rfl rfl (ow_store (X := (One g)) (us := [(.int .i64 (W (x10.Hi + 1)))]) (cs' := #[(.int .i64 x1.1), (.int .i64 (W (x10.Hi + 1))), (.int .i64 x10.Hi), (.bool bb1)]) rfl rfl rfl rfl ho146 (Tryd.sizeOf3 _) rfl rfl rfl rfl hm8 (.inl hg4) rfl hC43 fun w48 ho164 hb30 hl48 hC48 => ?_)
         have ho165 := ho144.go hb30 (fun e => hn2 e)
         have ho166 := ho145.go hb30 (fun e => hn3 e)
         have ho167 := ho147.go hb30 (fun e => hn6 e.symm)
         refine lw_nil (ew_blockN ?_)
         refine ew_then (cw_seq (cw_region (lw_op rfl rfl rfl (ow_loadOwnA rfl rfl rfl ho164 (Tryd.isAgg31 _) (Tryd.sizeOf31 _) rfl ?_))))
         have hw14 : VRep RTest w48 (Add g3 (Add g2 (Add g1 M))) ({ Field := x1.1, Lo := (W (x10.Hi + 1)), Hi := x10.Hi, Not := (x2.1 == 0) } : Test) (.agg #[(.int .i64 x1.1), (.int .i64 (W (x10.Hi + 1))), (.int .i64 x10.Hi), (.bool bb1)]) := by subst hbb1; exact shut_Test
         refine lw_op0 rfl rfl (ow_store (X := (One g)) (us := [(.int .i64 x1.1), (.int .i64 (W (x10.Hi + 1))), (.int .i64 x10.Hi), (.bool bb1)]) (cs' := #[(.int .i64 x1.1), (.int .i64 (W (x10.Hi + 1))), (.int .i64 x10.Hi), (.bool bb1)]) rfl rfl rfl rfl ho166 (Tryd.sizeOf31 _) rfl rfl rfl rfl hm7 (.inl hg2) rfl hC48 fun w49 ho168 hb31 hl49 hC49 => ?_)
         have ho169 := ho165.go hb31 (fun e => hn1 e)
         have ho170 := ho164.go hb31 (fun e => hn3 e.symm)
         have ho171 := ho167.go hb31 (fun e => hn5 e.symm)
         refine lw_nil (ew_then (cw_ret ?_))
         have hw15 : VRep RTest w49 (Add g3 (Add g2 (Add g1 M))) ({ Field := x1.1, Lo := (W (x10.Hi + 1)), Hi := x10.Hi, Not := (x2.1 == 0) } : Test) (.agg #[(.int .i64 x1.1), (.int .i64 (W (x10.Hi + 1))), (.int .i64 x10.Hi), (.bool bb1)]) := by subst hbb1; exact shut_Test
         obtain rfl := Option.some.inj h
         exact ew_ret (res1 rfl (.cell rfl (own_loadVarA ho168 (Tryd.isAgg31 _) (Tryd.sizeOf31 _) rfl))) ⟨_, rfl, ⟨(hw15.mono hC49.back), ho169⟩, hC49.bx⟩
        ·
         obtain rfl := hbb7.trans hc6
         refine cw_false rfl ?_
         refine cw_region (lw_op rfl rfl rfl (ow_move rfl rfl ?_))
         refine lw_op rfl rfl rfl (ow_add rfl rfl rfl ?_)
         refine lw_op rfl rfl rfl (ow_fieldAddr rfl rfl Tryd.underlying31 rfl (Tryd.sizeOf3 _) ?_)
         refine lw_op0 rfl rfl (ow_store (X := (One g)) (us := [(.int .i64 (W (x3 + 1)))]) (cs' := #[(.int .i64 x1.1), (.int .i64 x10.Lo), (.int .i64 (W (x3 + 1))), (.bool bb1)]) rfl rfl rfl rfl ho146 (Tryd.sizeOf3 _) rfl rfl rfl rfl hm8 (.inl hg4) rfl hC43 fun w50 ho172 hb32 hl50 hC50 => ?_)
         have ho173 := ho144.go hb32 (fun e => hn2 e)
         have ho174 := ho145.go hb32 (fun e => hn3 e)
         have ho175 := ho147.go hb32 (fun e => hn6 e.symm)
         refine lw_nil (ew_blockN ?_)
         refine ew_then (cw_seq (cw_region (lw_op rfl rfl rfl (ow_loadOwnA rfl rfl rfl ho172 (Tryd.isAgg31 _) (Tryd.sizeOf31 _) rfl ?_))))
         have hw16 : VRep RTest w50 (Add g3 (Add g2 (Add g1 M))) ({ Field := x1.1, Lo := x10.Lo, Hi := (W (x3 + 1)), Not := (x2.1 == 0) } : Test) (.agg #[(.int .i64 x1.1), (.int .i64 x10.Lo), (.int .i64 (W (x3 + 1))), (.bool bb1)]) := by subst hbb1; exact shut_Test
         refine lw_op0 rfl rfl (ow_store (X := (One g)) (us := [(.int .i64 x1.1), (.int .i64 x10.Lo), (.int .i64 (W (x3 + 1))), (.bool bb1)]) (cs' := #[(.int .i64 x1.1), (.int .i64 x10.Lo), (.int .i64 (W (x3 + 1))), (.bool bb1)]) rfl rfl rfl rfl ho174 (Tryd.sizeOf31 _) rfl rfl rfl rfl hm7 (.inl hg2) rfl hC50 fun w51 ho176 hb33 hl51 hC51 => ?_)
         have ho177 := ho173.go hb33 (fun e => hn1 e)
         have ho178 := ho172.go hb33 (fun e => hn3 e.symm)
         have ho179 := ho175.go hb33 (fun e => hn5 e.symm)
         refine lw_nil (ew_then (cw_ret ?_))
         have hw17 : VRep RTest w51 (Add g3 (Add g2 (Add g1 M))) ({ Field := x1.1, Lo := x10.Lo, Hi := (W (x3 + 1)), Not := (x2.1 == 0) } : Test) (.agg #[(.int .i64 x1.1), (.int .i64 x10.Lo), (.int .i64 (W (x3 + 1))), (.bool bb1)]) := by subst hbb1; exact shut_Test
         obtain rfl := Option.some.inj h
         exact ew_ret (res1 rfl (.cell rfl (own_loadVarA ho176 (Tryd.isAgg31 _) (Tryd.sizeOf31 _) rfl))) ⟨_, rfl, ⟨(hw17.mono hC51.back), ho177⟩, hC51.bx⟩
      ·
       obtain rfl := hbb5.trans hc4
       refine cw_false rfl ?_
       refine cw_skip (ew_then (cw_seq (cw_region (lw_op rfl rfl rfl (ow_loadOwnA rfl rfl rfl ho142 (Tryd.isAgg31 _) (Tryd.sizeOf31 _) rfl ?_)))))
       have hw18 : VRep RTest w42 (Add g3 (Add g2 (Add g1 M))) ({ Field := x1.1, Lo := x10.Lo, Hi := x10.Hi, Not := (x2.1 == 0) } : Test) (.agg #[(.int .i64 x1.1), (.int .i64 x10.Lo), (.int .i64 x10.Hi), (.bool bb1)]) := by subst hbb1; exact shut_Test
       refine lw_op0 rfl rfl (ow_store (X := (One g)) (us := [(.int .i64 x1.1), (.int .i64 x10.Lo), (.int .i64 x10.Hi), (.bool bb1)]) (cs' := #[(.int .i64 x1.1), (.int .i64 x10.Lo), (.int .i64 x10.Hi), (.bool bb1)]) rfl rfl rfl rfl ho141 (Tryd.sizeOf31 _) rfl rfl rfl rfl hm7 (.inl hg2) rfl hC42 fun w52 ho180 hb34 hl52 hC52 => ?_)
       have ho181 := ho140.go hb34 (fun e => hn1 e)
       have ho182 := ho142.go hb34 (fun e => hn3 e.symm)
       have ho183 := ho143.go hb34 (fun e => hn5 e.symm)
       refine lw_nil (ew_then (cw_ret ?_))
       have hw19 : VRep RTest w52 (Add g3 (Add g2 (Add g1 M))) ({ Field := x1.1, Lo := x10.Lo, Hi := x10.Hi, Not := (x2.1 == 0) } : Test) (.agg #[(.int .i64 x1.1), (.int .i64 x10.Lo), (.int .i64 x10.Hi), (.bool bb1)]) := by subst hbb1; exact shut_Test
       obtain rfl := Option.some.inj h
       exact ew_ret (res1 rfl (.cell rfl (own_loadVarA ho180 (Tryd.isAgg31 _) (Tryd.sizeOf31 _) rfl))) ⟨_, rfl, ⟨(hw19.mono hC52.back), ho181⟩, hC52.bx⟩
    ·
     obtain rfl := hbb4.trans hc3
     refine cw_false rfl ?_
     refine cw_skip (ew_then (cw_seq (cw_region (lw_op rfl rfl rfl (ow_fieldAddr rfl rfl Tryd.underlying76 rfl (Tryd.sizeOf3 _) ?_)))))
     refine lw_op rfl rfl rfl (ow_loadOwn1 rfl rfl rfl ho71 (Tryd.isAgg3 _) rfl ?_)
     refine lw_op rfl rfl rfl (ow_fieldAddr rfl rfl Tryd.underlying31 rfl (Tryd.sizeOf3 _) ?_)
     refine lw_op0 rfl rfl (ow_store (X := (One g)) (us := [(.int .i64 x6.1)]) (cs' := #[(.int .i64 x1.1), (.int .i64 x6.1), (.int .i64 0), (.bool bb1)]) rfl rfl rfl rfl ho70 (Tryd.sizeOf3 _) rfl rfl rfl rfl hm8 (.inl hg4) rfl hC21 fun w53 ho184 hb35 hl53 hC53 => ?_)
     have ho185 := ho68.go hb35 (fun e => hn2 e)
     have ho186 := ho69.go hb35 (fun e => hn3 e)
     have ho187 := ho71.go hb35 (fun e => hn6 e.symm)
     refine lw_nil (ew_then (cw_seq (cw_region (lw_op rfl rfl rfl (ow_fieldAddr rfl rfl Tryd.underlying76 rfl (Tryd.sizeOf3 _) ?_)))))
     refine lw_op rfl rfl rfl (ow_loadOwn1 rfl rfl rfl ho187 (Tryd.isAgg3 _) rfl ?_)
     refine lw_op rfl rfl rfl (ow_fieldAddr rfl rfl Tryd.underlying31 rfl (Tryd.sizeOf3 _) ?_)
     refine lw_op0 rfl rfl (ow_store (X := (One g)) (us := [(.int .i64 (W (x6.1 + x7.1)))]) (cs' := #[(.int .i64 x1.1), (.int .i64 x6.1), (.int .i64 (W (x6.1 + x7.1))), (.bool bb1)]) rfl rfl rfl rfl ho184 (Tryd.sizeOf3 _) rfl rfl rfl rfl hm8 (.inl hg4) rfl hC53 fun w54 ho188 hb36 hl54 hC54 => ?_)
     have ho189 := ho185.go hb36 (fun e => hn2 e)
     have ho190 := ho186.go hb36 (fun e => hn3 e)
     have ho191 := ho187.go hb36 (fun e => hn6 e.symm)
     refine lw_nil (ew_then (cw_seq (cw_seq (cw_region (lw_op rfl rfl rfl (ow_move rfl rfl ?_))))))
     refine lw_op rfl rfl rfl (ow_move rfl rfl ?_)
     replace h := bind_some h
     obtain ⟨x15, hx15, h⟩ := h
     refine lw_op rfl rfl rfl (ow_call rfl rfl Tryd.call92 (w_spec_l20Rd_odd (hG.mono ((((((((((((((((hl1.trans hl2).trans hl3).trans hl4).trans hl5).trans hl6).trans hl7).trans hl8).trans hl9).trans hl10).trans hl11).trans hl12).trans hl19).trans hl20).trans hl21).trans hl53).trans hl54)) hC54.old (VRep.mono ((((((((((((((((hl1.trans hl2).trans hl3).trans hl4).trans hl5).trans hl6).trans hl7).trans hl8).trans hl9).trans hl10).trans hl11).trans hl12).trans hl19).trans hl20).trans hl21).trans hl53).trans hl54) hxs) ho189 hm6 hx15) fun v21 w55 hv21 => ?_)
     obtain ⟨⟨hv21, ho192⟩, hb37⟩ := hv21
     have hl55 := Le.of_bx (Add g3 (Add g2 (Add g1 M))) hb37 (fun b e => (by rw [show b = g from e]; exact hm6))
     have hC55 := hC54.go hb37 (fun b e => Or.inr e)
     have ho193 := ho190.go hb37 (fun e => hn1 e.symm)
     have ho194 := ho188.go hb37 (fun e => hn2 e.symm)
     have ho195 := ho191.go hb37 (fun e => hn4 e.symm)
     obtain ⟨bb8, hbb8, rfl⟩ := vbool_ex hv21
     refine lw_nil (ew_then ?_)
     replace h := cond_some h
     rcases h with ⟨hc7, h⟩ | ⟨hc7, h⟩
     ·
      obtain rfl := hbb8.trans hc7
      refine cw_true rfl ?_
      refine cw_seq (cw_region (lw_op rfl rfl rfl (ow_move rfl rfl ?_)))
      replace h := bind_some h
      obtain ⟨x16, hx16, h⟩ := h
      refine lw_op rfl rfl rfl (ow_call rfl rfl Tryd.call87 (w_spec_l20Rd_pick (hG.mono (((((((((((((((((hl1.trans hl2).trans hl3).trans hl4).trans hl5).trans hl6).trans hl7).trans hl8).trans hl9).trans hl10).trans hl11).trans hl12).trans hl19).trans hl20).trans hl21).trans hl53).trans hl54).trans hl55)) hC55.old (VRep.mono (((((((((((((((((hl1.trans hl2).trans hl3).trans hl4).trans hl5).trans hl6).trans hl7).trans hl8).trans hl9).trans hl10).trans hl11).trans hl12).trans hl19).trans hl20).trans hl21).trans hl53).trans hl54).trans hl55) hxs) ho192 hm6 hx16) fun v22 w56 hv22 => ?_)
      obtain ⟨⟨hv22, ho196⟩, hb38⟩ := hv22
      have hl56 := Le.of_bx (Add g3 (Add g2 (Add g1 M))) hb38 (fun b e => (by rw [show b = g from e]; exact hm6))
      have hC56 := hC55.go hb38 (fun b e => Or.inr e)
      have ho197 := ho193.go hb38 (fun e => hn1 e.symm)
      have ho198 := ho194.go hb38 (fun e => hn2 e.symm)
      have ho199 := ho195.go hb38 (fun e => hn4 e.symm)
      obtain rfl := vint_eq hv22
      refine lw_nil (ew_then (cw_block ?_))
      refine cw_seq (cw_region (lw_op rfl rfl rfl (ow_eqlI rfl rfl rfl fun bb9 hbb9 => ?_)))
      refine lw_op rfl rfl rfl (ow_assign rfl rfl ?_)
      refine lw_nil (ew_then ?_)
      replace h := cond_some h
      rcases h with ⟨hc8, h⟩ | ⟨hc8, h⟩
      ·
       obtain rfl := hbb9.trans hc8
       refine cw_true rfl ?_
       refine cw_region (lw_op rfl rfl rfl (ow_buildSlice (R := RInt) (xs := [(-1), 4]) (cs := #[(.int .i64 (-1)), (.int .i64 4)]) (e := 3) rfl rfl (by kernel_rfl) rfl rfl ⟨_, _, rfl, (vint _).cells, _, _, rfl, (vint _).cells, rfl⟩ hC56 fun p6 w57 hw20 hb39 hl57 hC57 => ?_))
       have ho200 := ho196.no hb39
       have ho201 := ho197.no hb39
       have ho202 := ho198.no hb39
       have ho203 := ho199.no hb39
       refine lw_op rfl rfl rfl (ow_move rfl rfl ?_)
       replace h := bind_some h
       obtain ⟨x17, hx17, h⟩ := h
       refine lw_op rfl rfl rfl (ow_call rfl rfl Tryd.call87 (w_spec_l20Rd_pick (hG.mono (((((((((((((((((((hl1.trans hl2).trans hl3).trans hl4).trans hl5).trans hl6).trans hl7).trans hl8).trans hl9).trans hl10).trans hl11).trans hl12).trans hl19).trans hl20).trans hl21).trans hl53).trans hl54).trans hl55).trans hl56).trans hl57)) hC57.old (VRep.mono (((((((((((((((((((hl1.trans hl2).trans hl3).trans hl4).trans hl5).trans hl6).trans hl7).trans hl8).trans hl9).trans hl10).trans hl11).trans hl12).trans hl19).trans hl20).trans hl21).trans hl53).trans hl54).trans hl55).trans hl56).trans hl57) hxs) ho200 hm6 hx17) fun v23 w58 hv23 => ?_)
       obtain ⟨⟨hv23, ho204⟩, hb40⟩ := hv23
       have hl58 := Le.of_bx (Add g3 (Add g2 (Add g1 M))) hb40 (fun b e => (by rw [show b = g from e]; exact hm6))
       have hC58 := hC57.go hb40 (fun b e => Or.inr e)
       have ho205 := ho201.go hb40 (fun e => hn1 e.symm)
       have ho206 := ho202.go hb40 (fun e => hn2 e.symm)
       have ho207 := ho203.go hb40 (fun e => hn4 e.symm)
       obtain rfl := vint_eq hv23
       replace h := bind_some h
       obtain ⟨x18, hx18, h⟩ := h
       refine lw_op rfl rfl rfl (ow_indexSlice (R := RInt) rfl rfl rfl (VRep.mono hl58 hw20) Tryd.underlying84 (Tryd.sizeOf3 _) hx18 fun p7 hp7 => ?_)
       refine lw_op rfl rfl rfl (ow_load (R := RInt) rfl rfl hp7 (Tryd.sizeOf3 _) (Tryd.isAgg3 _) fun v24 hv24 => ?_)
       obtain rfl := vint_eq hv24
       refine lw_op rfl rfl rfl (ow_fieldAddr rfl rfl Tryd.underlying31 rfl (Tryd.sizeOf3 _) ?_)
       refine lw_op0 rfl rfl (ow_store (X := (One g)) (us := [(.int .i64 x18)]) (cs' := #[(.int .i64 x18), (.int .i64 x6.1), (.int .i64 (W (x6.1 + x7.1))), (.bool bb1)]) rfl rfl rfl rfl ho206 (Tryd.sizeOf3 _) rfl rfl rfl rfl hm8 (.inl hg4) rfl hC58 fun w59 ho208 hb41 hl59 hC59 => ?_)
       have ho209 := ho204.go hb41 (fun e => hn2 e)
       have ho210 := ho205.go hb41 (fun e => hn3 e)
       have ho211 := ho207.go hb41 (fun e => hn6 e.symm)
       refine lw_nil (ew_blockN ?_)
       refine ew_then (cw_seq (cw_region (lw_op rfl rfl rfl (ow_loadOwnA rfl rfl rfl ho208 (Tryd.isAgg31 _) (Tryd.sizeOf31 _) rfl ?_))))
       have hw21 : VRep RTest w59 (Add g3 (Add g2 (Add g1 M))) ({ Field := x18, Lo := x6.1, Hi := (W (x6.1 + x7.1)), Not := (x2.1 == 0) } : Test) (.agg #[(.int .i64 x18), (.int .i64 x6.1), (.int .i64 (W (x6.1 + x7.1))), (.bool bb1)]) := by subst hbb1; exact shut_Test
       refine lw_op0 rfl rfl (ow_store (X := (One g)) (us := [(.int .i64 x18), (.int .i64 x6.1), (.int .i64 (W (x6.1 + x7.1))), (.bool bb1)]) (cs' := #[(.int .i64 x18), (.int .i64 x6.1), (.int .i64 (W (x6.1 + x7.1))), (.bool bb1)]) rfl rfl rfl rfl ho210 (Tryd.sizeOf31 _) rfl rfl rfl rfl hm7 (.inl hg2) rfl hC59 fun w60 ho212 hb42 hl60 hC60 => ?_)
       have ho213 := ho209.go hb42 (fun e => hn1 e)
       have ho214 := ho208.go hb42 (fun e => hn3 e.symm)
       have ho215 := ho211.go hb42 (fun e => hn5 e.symm)
       refine lw_nil (ew_then (cw_ret ?_))
       have hw22 : VRep RTest w60 (Add g3 (Add g2 (Add g1 M))) ({ Field := x18, Lo := x6.1, Hi := (W (x6.1 + x7.1)), Not := (x2.1 == 0) } : Test) (.agg #[(.int .i64 x18), (.int .i64 x6.1), (.int .i64 (W (x6.1 + x7.1))), (.bool bb1)]) := by subst hbb1; exact shut_Test
       obtain rfl := Option.some.inj h
       exact ew_ret (res1 rfl (.cell rfl (own_loadVarA ho212 (Tryd.isAgg31 _) (Tryd.sizeOf31 _) rfl))) ⟨_, rfl, ⟨(hw22.mono hC60.back), ho213⟩, hC60.bx⟩
      ·
       obtain rfl := hbb9.trans hc8
       refine cw_false rfl ?_
       refine cw_seq (cw_region (lw_op rfl rfl rfl (ow_eqlI rfl rfl rfl fun bb10 hbb10 => ?_)))
       refine lw_op rfl rfl rfl (ow_assign rfl rfl ?_)
       refine lw_nil (ew_then ?_)
       replace h := cond_some h
       rcases h with ⟨hc9, h⟩ | ⟨hc9, h⟩
       ·
        obtain rfl := hbb10.trans hc9
        refine cw_true rfl ?_
        refine cw_region (lw_op rfl rfl rfl (ow_fieldAddr rfl rfl Tryd.underlying31 rfl (Tryd.sizeOf3 _) ?_))
        refine lw_op rfl rfl rfl (ow_loadOwn1 rfl rfl rfl ho198 (Tryd.isAgg3 _) rfl ?_)
        refine lw_op rfl rfl rfl (ow_add rfl rfl rfl ?_)
        refine lw_op rfl rfl rfl (ow_fieldAddr rfl rfl Tryd.underlying31 rfl (Tryd.sizeOf3 _) ?_)
        refine lw_op0 rfl rfl (ow_store (X := (One g)) (us := [(.int .i64 (W ((W (x6.1 + x7.1)) + 1)))]) (cs' := #[(.int .i64 x1.1), (.int .i64 (W ((W (x6.1 + x7.1)) + 1))), (.int .i64 (W (x6.1 + x7.1))), (.bool bb1)]) rfl rfl rfl rfl ho198 (Tryd.sizeOf3 _) rfl rfl rfl rfl hm8 (.inl hg4) rfl hC56 fun w61 ho216 hb43 hl61 hC61 => ?_)
        have ho217 := ho196.go hb43 (fun e => hn2 e)
        have ho218 := ho197.go hb43 (fun e => hn3 e)
        have ho219 := ho199.go hb43 (fun e => hn6 e.symm)
        refine lw_nil (ew_blockN ?_)
        refine ew_then (cw_seq (cw_region (lw_op rfl rfl rfl (ow_loadOwnA rfl rfl rfl ho216 (Tryd.isAgg31 _) (Tryd.sizeOf31 _) rfl ?_))))
        have hw23 : VRep RTest w61 (Add g3 (Add g2 (Add g1 M))) ({ Field := x1.1, Lo := (W ((W (x6.1 + x7.1)) + 1)), Hi := (W (x6.1 + x7.1)), Not := (x2.1 == 0) } : Test) (.agg #[(.int .i64 x1.1), (.int .i64 (W ((W (x6.1 + x7.1)) + 1))), (.int .i64 (W (x6.1 + x7.1))), (.bool bb1)]) := by subst hbb1; exact shut_Test
        refine lw_op0 rfl rfl (ow_store (X := (One g)) (us := [(.int .i64 x1.1), (.int .i64 (W ((W (x6.1 + x7.1)) + 1))), (.int .i64 (W (x6.1 + x7.1))), (.bool bb1)]) (cs' := #[(.int .i64 x1.1), (.int .i64 (W ((W (x6.1 + x7.1)) + 1))), (.int .i64 (W (x6.1 + x7.1))), (.bool bb1)]) rfl rfl rfl rfl ho218 (Tryd.sizeOf31 _) rfl rfl rfl rfl hm7 (.inl hg2) rfl hC61 fun w62 ho220 hb44 hl62 hC62 => ?_)
        have ho221 := ho217.go hb44 (fun e => hn1 e)
        have ho222 := ho216.go hb44 (fun e => hn3 e.symm)
        have ho223 := ho219.go hb44 (fun e => hn5 e.symm)
        refine lw_nil (ew_then (cw_ret ?_))
        have hw24 : VRep RTest w62 (Add g3 (Add g2 (Add g1 M))) ({ Field := x1.1, Lo := (W ((W (x6.1 + x7.1)) + 1)), Hi := (W (x6.1 + x7.1)), Not := (x2.1 == 0) } : Test) (.agg #[(.int .i64 x1.1), (.int .i64 (W ((W (x6.1 + x7.1)) + 1))), (.int .i64 (W (x6.1 + x7.1))), (.bool bb1)]) := by subst hbb1; exact shut_Test
        obtain rfl := Option.some.inj h
        exact ew_ret (res1 rfl (.cell rfl (own_loadVarA ho220 (Tryd.isAgg31 _) (Tryd.sizeOf31 _) rfl))) ⟨_, rfl, ⟨(hw24.mono hC62.back), ho221⟩, hC62.bx⟩
       ·
        obtain rfl := hbb10.trans hc9
        refine cw_false rfl ?_
        refine cw_region (lw_op rfl rfl rfl (ow_move rfl rfl ?_))
        refine lw_op rfl rfl rfl (ow_add rfl rfl rfl ?_)
        refine lw_op rfl rfl rfl (ow_fieldAddr rfl rfl Tryd.underlying31 rfl (Tryd.sizeOf3 _) ?_)
        refine lw_op0 rfl rfl (ow_store (X := (One g)) (us := [(.int .i64 (W (x3 + 1)))]) (cs' := #[(.int .i64 x1.1), (.int .i64 x6.1), (.int .i64 (W (x3 + 1))), (.bool bb1)]) rfl rfl rfl rfl ho198 (Tryd.sizeOf3 _) rfl rfl rfl rfl hm8 (.inl hg4) rfl hC56 fun w63 ho224 hb45 hl63 hC63 => ?_)
        have ho225 := ho196.go hb45 (fun e => hn2 e)
        have ho226 := ho197.go hb45 (fun e => hn3 e)
        have ho227 := ho199.go hb45 (fun e => hn6 e.symm)
        refine lw_nil (ew_blockN ?_)
        refine ew_then (cw_seq (cw_region (lw_op rfl rfl rfl (ow_loadOwnA rfl rfl rfl ho224 (Tryd.isAgg31 _) (Tryd.sizeOf31 _) rfl ?_))))
        have hw25 : VRep RTest w63 (Add g3 (Add g2 (Add g1 M))) ({ Field := x1.1, Lo := x6.1, Hi := (W (x3 + 1)), Not := (x2.1 == 0) } : Test) (.agg #[(.int .i64 x1.1), (.int .i64 x6.1), (.int .i64 (W (x3 + 1))), (.bool bb1)]) := by subst hbb1; exact shut_Test
        refine lw_op0 rfl rfl (ow_store (X := (One g)) (us := [(.int .i64 x1.1), (.int .i64 x6.1), (.int .i64 (W (x3 + 1))), (.bool bb1)]) (cs' := #[(.int .i64 x1.1), (.int .i64 x6.1), (.int .i64 (W (x3 + 1))), (.bool bb1)]) rfl rfl rfl rfl ho226 (Tryd.sizeOf31 _) rfl rfl rfl rfl hm7 (.inl hg2) rfl hC63 fun w64 ho228 hb46 hl64 hC64 => ?_)
        have ho229 := ho225.go hb46 (fun e => hn1 e)
        have ho230 := ho224.go hb46 (fun e => hn3 e.symm)
        have ho231 := ho227.go hb46 (fun e => hn5 e.symm)
        refine lw_nil (ew_then (cw_ret ?_))
        have hw26 : VRep RTest w64 (Add g3 (Add g2 (Add g1 M))) ({ Field := x1.1, Lo := x6.1, Hi := (W (x3 + 1)), Not := (x2.1 == 0) } : Test) (.agg #[(.int .i64 x1.1), (.int .i64 x6.1), (.int .i64 (W (x3 + 1))), (.bool bb1)]) := by subst hbb1; exact shut_Test
        obtain rfl := Option.some.inj h
        exact ew_ret (res1 rfl (.cell rfl (own_loadVarA ho228 (Tryd.isAgg31 _) (Tryd.sizeOf31 _) rfl))) ⟨_, rfl, ⟨(hw26.mono hC64.back), ho229⟩, hC64.bx⟩
     ·
      obtain rfl := hbb8.trans hc7
      refine cw_false rfl ?_
      refine cw_skip (ew_then (cw_seq (cw_region (lw_op rfl rfl rfl (ow_loadOwnA rfl rfl rfl ho194 (Tryd.isAgg31 _) (Tryd.sizeOf31 _) rfl ?_)))))
      have hw27 : VRep RTest w55 (Add g3 (Add g2 (Add g1 M))) ({ Field := x1.1, Lo := x6.1, Hi := (W (x6.1 + x7.1)), Not := (x2.1 == 0) } : Test) (.agg #[(.int .i64 x1.1), (.int .i64 x6.1), (.int .i64 (W (x6.1 + x7.1))), (.bool bb1)]) := by subst hbb1; exact shut_Test
      refine lw_op0 rfl rfl (ow_store (X := (One g)) (us := [(.int .i64 x1.1), (.int .i64 x6.1), (.int .i64 (W (x6.1 + x7.1))), (.bool bb1)]) (cs' := #[(.int .i64 x1.1), (.int .i64 x6.1), (.int .i64 (W (x6.1 + x7.1))), (.bool bb1)]) rfl rfl rfl rfl ho193 (Tryd.sizeOf31 _) rfl rfl rfl rfl hm7 (.inl hg2) rfl hC55 fun w65 ho232 hb47 hl65 hC65 => ?_)
      have ho233 := ho192.go hb47 (fun e => hn1 e)
      have ho234 := ho194.go hb47 (fun e => hn3 e.symm)
      have ho235 := ho195.go hb47 (fun e => hn5 e.symm)
      refine lw_nil (ew_then (cw_ret ?_))
      have hw28 : VRep RTest w65 (Add g3 (Add g2 (Add g1 M))) ({ Field := x1.1, Lo := x6.1, Hi := (W (x6.1 + x7.1)), Not := (x2.1 == 0) } : Test) (.agg #[(.int .i64 x1.1), (.int .i64 x6.1), (.int .i64 (W (x6.1 + x7.1))), (.bool bb1)]) := by subst hbb1; exact shut_Test
      obtain rfl := Option.some.inj h
      exact ew_ret (res1 rfl (.cell rfl (own_loadVarA ho232 (Tryd.isAgg31 _) (Tryd.sizeOf31 _) rfl))) ⟨_, rfl, ⟨(hw28.mono hC65.back), ho233⟩, hC65.bx⟩
  ·
   obtain rfl := hbb3.trans hc2
   refine cw_false rfl ?_
   refine cw_skip (ew_then (cw_seq (cw_seq (cw_region (lw_op rfl rfl rfl (ow_move rfl rfl ?_))))))
   replace h := bind_some h
   obtain ⟨x19, hx19, h⟩ := h
   refine lw_op rfl rfl rfl (ow_call rfl rfl Tryd.call87 (w_spec_l20Rd_pick (hG.mono (((((((((hl1.trans hl2).trans hl3).trans hl4).trans hl5).trans hl6).trans hl7).trans hl8).trans hl9).trans hl10)) hC10.old (VRep.mono (((((((((hl1.trans hl2).trans hl3).trans hl4).trans hl5).trans hl6).trans hl7).trans hl8).trans hl9).trans hl10) hxs) ho27 hm6 hx19) fun v25 w66 hv25 => ?_)
   obtain ⟨⟨hv25, ho236⟩, hb48⟩ := hv25
   have hl66 := Le.of_bx (Add g3 (Add g2 (Add g1 M))) hb48 (fun b e => (by rw [show b = g from e]; exact hm6))
   have hC66 := hC10.go hb48 (fun b e => Or.inr e)
   have ho237 := ho28.go hb48 (fun e => hn1 e.symm)
   have ho238 := ho29.go hb48 (fun e => hn2 e.symm)
   have ho239 := ho30.go hb48 (fun e => hn4 e.symm)
   obtain rfl := vint_eq hv25
   refine lw_op rfl rfl rfl (ow_eqlI rfl rfl rfl fun bb11 hbb11 => ?_)
   refine lw_nil (ew_then ?_)
   replace h := cond_some h
   rcases h with ⟨hc10, h⟩ | ⟨hc10, h⟩
   ·
    obtain rfl := hbb11.trans hc10
    refine cw_true rfl ?_
    replace h := bind_some h
    obtain ⟨x20, hx20, h⟩ := h
    refine cw_sub (E' := [(0, (.pointer (some ⟨g, 0, none⟩))), (1, (.int .i64 a_n)), (4, (.pointer (some ⟨g1, 0, none⟩))), (5, (.pointer (some ⟨g2, 0, none⟩))), (6, (.int .i64 x3)), (7, (.pointer (some ⟨g3, 0, none⟩)))]) ⟨rfl, rfl, rfl, rfl, rfl, rfl, trivial⟩ ?_
    refine cw_drawC (g := g) (T := 98) 12 1 [none, none, none, none, none, none, none, none, none, none, none, some 0] [#[(.slice Ax a_xs.length cx), (.int .i64 x19.2)], #[(.slice Ax a_xs.length cx), (.int .i64 x20.2)]] [PEq (.int .i64 x3), PV RSpan (Add g3 (Add g2 (Add g1 M))) ({ Lo := 0, Hi := x3 } : Span), PEq (.pointer (some ⟨g3, 1, none⟩)), PEq (.int .i64 x4.1.Hi), PV RSpan (Add g3 (Add g2 (Add g1 M))) ({ Lo := 0, Hi := x4.1.Hi } : Span), PEq (.pointer (some ⟨g3, 0, none⟩)), PEq (.int .i64 x4.1.Lo), PEq (.int .i64 x3), PV RSpan (Add g3 (Add g2 (Add g1 M))) ({ Lo := x4.1.Lo, Hi := x3 } : Span), PV (RSlice RSpan) (Add g3 (Add g2 (Add g1 M))) [({ Lo := 0, Hi := x3 } : Span), ({ Lo := 0, Hi := x4.1.Hi } : Span), ({ Lo := x4.1.Lo, Hi := x3 } : Span)], PEq (.pointer (some ⟨g, 0, none⟩)), PEq (.int .i64 x20.1)] (by kernel_rfl) rfl (by kernel_rfl) (by kernel_rfl) ho236 ⟨(PEq.monoY hm6 _), (PV.monoY hm6 _ _), (PEq.monoY hm6 _), (PEq.monoY hm6 _), (PV.monoY hm6 _ _), (PEq.monoY hm6 _), (PEq.monoY hm6 _), (PEq.monoY hm6 _), (PV.monoY hm6 _ _), (PV.monoY hm6 _ _), (PEq.monoY hm6 _), (PEq.monoY hm6 _), trivial⟩ ⟨?_, ?_, ?_, ?_, ?_, ?_, ?_, ?_, ?_, ?_, ?_, ?_, trivial⟩ ?_
    ·
     intro w69 D hS19 hd19
     have hl69 := leY hm6 hS19
     have hC69 := hC66.go hS19 (fun b e => Or.inr e)
     have ho248 := ho237.go hS19 (fun e => hn1 e.symm)
     have ho249 := ho238.go hS19 (fun e => hn2 e.symm)
     have ho250 := ho239.go hS19 (fun e => hn4 e.symm)
     refine dg_sub (E' := [(6, (.int .i64 x3))]) ⟨rfl, trivial⟩ ?_
     refine dg_plain rfl (ow_move rfl rfl ?_)
     exact ⟨BX.refl _ _, rfl⟩
    ·
     intro w70 D hS20 hd20
     have hl70 := leY hm6 hS20
     have hC70 := hC66.go hS20 (fun b e => Or.inr e)
     have ho251 := ho237.go hS20 (fun e => hn1 e.symm)
     have ho252 := ho238.go hS20 (fun e => hn2 e.symm)
     have ho253 := ho239.go hS20 (fun e => hn4 e.symm)
     have hd20 : PEq (.int .i64 x3) (D 0) w70 ∧ True := hd20
     obtain ⟨d29, -⟩ := hd20
     refine dg_sub (E' := [(40, (.int .i64 x3))]) ⟨(congrArg some d29), trivial⟩ ?_
     refine dg_plain rfl (ow_build (v := .agg #[(.int .i64 0), (.int .i64 x3)]) rfl rfl (by kernel_rfl) ?_)
     have hw33 : VRep RSpan w70 (Add g3 (Add g2 (Add g1 M))) ({ Lo := 0, Hi := x3 } : Span) (.agg #[(.int .i64 0), (.int .i64 x3)]) := shut_Span
     exact ⟨BX.refl _ _, hw33⟩
    ·
     intro w71 D hS21 hd21
     have hl71 := leY hm6 hS21
     have hC71 := hC66.go hS21 (fun b e => Or.inr e)
     have ho254 := ho237.go hS21 (fun e => hn1 e.symm)
     have ho255 := ho238.go hS21 (fun e => hn2 e.symm)
     have ho256 := ho239.go hS21 (fun e => hn4 e.symm)
     refine dg_sub (E' := [(7, (.pointer (some ⟨g3, 0, none⟩)))]) ⟨rfl, trivial⟩ ?_
     refine dg_plain rfl (ow_fieldAddr rfl rfl Tryd.underlying76 rfl (Tryd.sizeOf3 _) ?_)
     exact ⟨BX.refl _ _, rfl⟩
    ·
     intro w72 D hS22 hd22
     have hl72 := leY hm6 hS22
     have hC72 := hC66.go hS22 (fun b e => Or.inr e)
     have ho257 := ho237.go hS22 (fun e => hn1 e.symm)
     have ho258 := ho238.go hS22 (fun e => hn2 e.symm)
     have ho259 := ho239.go hS22 (fun e => hn4 e.symm)
     have hd22 : PEq (.pointer (some ⟨g3, 1, none⟩)) (D 2) w72 ∧ True := hd22
     obtain ⟨d30, -⟩ := hd22
     refine dg_sub (E' := [(42, (.pointer (some ⟨g3, 1, none⟩)))]) ⟨(congrArg some d30), trivial⟩ ?_
     refine dg_plain rfl (ow_loadOwn1 rfl rfl rfl ho259 (Tryd.isAgg3 _) rfl ?_)
     exact ⟨BX.refl _ _, rfl⟩
    ·
     intro w73 D hS23 hd23
     have hl73 := leY hm6 hS23
     have hC73 := hC66.go hS23 (fun b e => Or.inr e)
     have ho260 := ho237.go hS23 (fun e => hn1 e.symm)
     have ho261 := ho238.go hS23 (fun e => hn2 e.symm)
     have ho262 := ho239.go hS23 (fun e => hn4 e.symm)
     have hd23 : PEq (.int .i64 x4.1.Hi) (D 3) w73 ∧ True := hd23
     obtain ⟨d31, -⟩ := hd23
     refine dg_sub (E' := [(43, (.int .i64 x4.1.Hi))]) ⟨(congrArg some d31), trivial⟩ ?_
     refine dg_plain rfl (ow_build (v := .agg #[(.int .i64 0), (.int .i64 x4.1.Hi)]) rfl rfl (by kernel_rfl) ?_)
     have hw34 : VRep RSpan w73 (Add g3 (Add g2 (Add g1 M))) ({ Lo := 0, Hi := x4.1.Hi } : Span) (.agg #[(.int .i64 0), (.int .i64 x4.1.Hi)]) := shut_Span
     exact ⟨BX.refl _ _, hw34⟩
    ·
     intro w74 D hS24 hd24
     have hl74 := leY hm6 hS24
     have hC74 := hC66.go hS24 (fun b e => Or.inr e)
     have ho263 := ho237.go hS24 (fun e => hn1 e.symm)
     have ho264 := ho238.go hS24 (fun e => hn2 e.symm)
     have ho265 := ho239.go hS24 (fun e => hn4 e.symm)
     refine dg_sub (E' := [(7, (.pointer (some ⟨g3, 0, none⟩)))]) ⟨rfl, trivial⟩ ?_
     refine dg_plain rfl (ow_fieldAddr rfl rfl Tryd.underlying76 rfl (Tryd.sizeOf3 _) ?_)
     exact ⟨BX.refl _ _, rfl⟩
    ·
     intro w75 D hS25 hd25
     have hl75 := leY hm6 hS25
     have hC75 := hC66.go hS25 (fun b e => Or.inr e)
     have ho266 := ho237.go hS25 (fun e => hn1 e.symm)
     have ho267 := ho238.go hS25 (fun e => hn2 e.symm)
     have ho268 := ho239.go hS25 (fun e => hn4 e.symm)
     have hd25 : PEq (.pointer (some ⟨g3, 0, none⟩)) (D 5) w75 ∧ True := hd25
     obtain ⟨d32, -⟩ := hd25
     refine dg_sub (E' := [(45, (.pointer (some ⟨g3, 0, none⟩)))]) ⟨(congrArg some d32), trivial⟩ ?_
     refine dg_plain rfl (ow_loadOwn1 rfl rfl rfl ho268 (Tryd.isAgg3 _) rfl ?_)
     exact ⟨BX.refl _ _, rfl⟩
    ·
     intro w76 D hS26 hd26
     have hl76 := leY hm6 hS26
     have hC76 := hC66.go hS26 (fun b e => Or.inr e)
     have ho269 := ho237.go hS26 (fun e => hn1 e.symm)
     have ho270 := ho238.go hS26 (fun e => hn2 e.symm)
     have ho271 := ho239.go hS26 (fun e => hn4 e.symm)
     refine dg_sub (E' := [(6, (.int .i64 x3))]) ⟨rfl, trivial⟩ ?_
     refine dg_plain rfl (ow_move rfl rfl ?_)
     exact ⟨BX.refl _ _, rfl⟩
    ·
     intro w77 D hS27 hd27
     have hl77 := leY hm6 hS27
     have hC77 := hC66.go hS27 (fun b e => Or.inr e)
     have ho272 := ho237.go hS27 (fun e => hn1 e.symm)
     have ho273 := ho238.go hS27 (fun e => hn2 e.symm)
     have ho274 := ho239.go hS27 (fun e => hn4 e.symm)
     have hd27 : PEq (.int .i64 x4.1.Lo) (D 6) w77 ∧ PEq (.int .i64 x3) (D 7) w77 ∧ True := hd27
     obtain ⟨d33, d34, -⟩ := hd27
     refine dg_sub (E' := [(46, (.int .i64 x4.1.Lo)), (47, (.int .i64 x3))]) ⟨(congrArg some d33), (congrArg some d34), trivial⟩ ?_
     refine dg_plain rfl (ow_build (v := .agg #[(.int .i64 x4.1.Lo), (.int .i64 x3)]) rfl rfl (by kernel_rfl) ?_)
     have hw35 : VRep RSpan w77 (Add g3 (Add g2 (Add g1 M))) ({ Lo := x4.1.Lo, Hi := x3 } : Span) (.agg #[(.int .i64 x4.1.Lo), (.int .i64 x3)]) := shut_Span
     exact ⟨BX.refl _ _, hw35⟩
    ·
     intro w78 D hS28 hd28
     have hl78 := leY hm6 hS28
     have hC78 := hC66.go hS28 (fun b e => Or.inr e)
     have ho275 := ho237.go hS28 (fun e => hn1 e.symm)
     have ho276 := ho238.go hS28 (fun e => hn2 e.symm)
     have ho277 := ho239.go hS28 (fun e => hn4 e.symm)
     have hd28 : PV RSpan (Add g3 (Add g2 (Add g1 M))) ({ Lo := 0, Hi := x3 } : Span) (D 1) w78 ∧ PV RSpan (Add g3 (Add g2 (Add g1 M))) ({ Lo := 0, Hi := x4.1.Hi } : Span) (D 4) w78 ∧ PV RSpan (Add g3 (Add g2 (Add g1 M))) ({ Lo := x4.1.Lo, Hi := x3 } : Span) (D 8) w78 ∧ True := hd28
     obtain ⟨d35, d36, d37, -⟩ := hd28
     obtain ⟨v27, hq5⟩ : ∃ v, (D 1) = v := ⟨_, rfl⟩
     rw [hq5] at d35
     obtain ⟨v28, hq6⟩ : ∃ v, (D 4) = v := ⟨_, rfl⟩
     rw [hq6] at d36
     obtain ⟨v29, hq7⟩ : ∃ v, (D 8) = v := ⟨_, rfl⟩
     rw [hq7] at d37
     refine dg_sub (E' := [(41, v27), (44, v28), (48, v29)]) ⟨(congrArg some hq5), (congrArg some hq6), (congrArg some hq7), trivial⟩ ?_
     obtain rfl := open_Span d35
     obtain rfl := open_Span d36
     obtain rfl := open_Span d37
     refine dg_plain rfl (ow_buildSlice (R := RSpan) (xs := [({ Lo := 0, Hi := x3 } : Span), ({ Lo := 0, Hi := x4.1.Hi } : Span), ({ Lo := x4.1.Lo, Hi := x3 } : Span)]) (cs := #[(.int .i64 ({ Lo := 0, Hi := x3 } : Span).Lo), (.int .i64 ({ Lo := 0, Hi := x3 } : Span).Hi), (.int .i64 ({ Lo := 0, Hi := x4.1.Hi } : Span).Lo), (.int .i64 ({ Lo := 0, Hi := x4.1.Hi } : Span).Hi), (.int .i64 ({ Lo := x4.1.Lo, Hi := x3 } : Span).Lo), (.int .i64 ({ Lo := x4.1.Lo, Hi := x3 } : Span).Hi)]) (e := 76) rfl rfl (by kernel_rfl) rfl rfl ⟨_, _, rfl, d35.cells, _, _, rfl, d36.cells, _, _, rfl, d37.cells, rfl⟩ hC78 fun p9 w79 hw36 hb51 hl79 hC79 => ?_)
     have ho278 := ho275.no hb51
     have ho279 := ho276.no hb51
     have ho280 := ho277.no hb51
     exact ⟨hb51, hw36⟩
    ·
     intro w80 D hS29 hd29
     have hl80 := leY hm6 hS29
     have hC80 := hC66.go hS29 (fun b e => Or.inr e)
     have ho281 := ho237.go hS29 (fun e => hn1 e.symm)
     have ho282 := ho238.go hS29 (fun e => hn2 e.symm)
     have ho283 := ho239.go hS29 (fun e => hn4 e.symm)
     refine dg_sub (E' := [(0, (.pointer (some ⟨g, 0, none⟩)))]) ⟨rfl, trivial⟩ ?_
     refine dg_plain rfl (ow_move rfl rfl ?_)
     exact ⟨BX.refl _ _, rfl⟩
    ·
     intro w81 D hS30 hd30
     obtain ⟨hS30, ho284⟩ := hS30
     have ho284 : Own w81 g 98 #[(.slice Ax a_xs.length cx), (.int .i64 x19.2)] := ho284
     have hl81 := leY hm6 hS30
     have hC81 := hC66.go hS30 (fun b e => Or.inr e)
     have ho285 := ho237.go hS30 (fun e => hn1 e.symm)
     have ho286 := ho238.go hS30 (fun e => hn2 e.symm)
     have ho287 := ho239.go hS30 (fun e => hn4 e.symm)
     have hd30 : PEq (.pointer (some ⟨g, 0, none⟩)) (D 10) w81 ∧ True := hd30
     obtain ⟨d38, -⟩ := hd30
     refine dg_sub (E' := [(50, (.pointer (some ⟨g, 0, none⟩)))]) ⟨(congrArg some d38), trivial⟩ ?_
     refine dg_plain rfl (ow_call rfl rfl Tryd.call87 (w_spec_l20Rd_pick (hG.mono (((((((((((hl1.trans hl2).trans hl3).trans hl4).trans hl5).trans hl6).trans hl7).trans hl8).trans hl9).trans hl10).trans hl66).trans hl81)) hC81.old (VRep.mono (((((((((((hl1.trans hl2).trans hl3).trans hl4).trans hl5).trans hl6).trans hl7).trans hl8).trans hl9).trans hl10).trans hl66).trans hl81) hxs) ho284 hm6 hx20) fun v30 w82 hv30 => ?_)
     obtain ⟨⟨hv30, ho288⟩, hb52⟩ := hv30
     have hl82 := Le.of_bx (Add g3 (Add g2 (Add g1 M))) hb52 (fun b e => (by rw [show b = g from e]; exact hm6))
     have hC82 := hC81.go hb52 (fun b e => Or.inr e)
     have ho289 := ho285.go hb52 (fun e => hn1 e.symm)
     have ho290 := ho286.go hb52 (fun e => hn2 e.symm)
     have ho291 := ho287.go hb52 (fun e => hn4 e.symm)
     obtain rfl := vint_eq hv30
     exact ⟨⟨⟨hS30.trans hb52, ho288⟩, hb52⟩, rfl⟩
    ·
     intro w83 D hS31 hd31
     have hd31 : PEq (.int .i64 x3) (D 0) w83 ∧ PV RSpan (Add g3 (Add g2 (Add g1 M))) ({ Lo := 0, Hi := x3 } : Span) (D 1) w83 ∧ PEq (.pointer (some ⟨g3, 1, none⟩)) (D 2) w83 ∧ PEq (.int .i64 x4.1.Hi) (D 3) w83 ∧ PV RSpan (Add g3 (Add g2 (Add g1 M))) ({ Lo := 0, Hi := x4.1.Hi } : Span) (D 4) w83 ∧ PEq (.pointer (some ⟨g3, 0, none⟩)) (D 5) w83 ∧ PEq (.int .i64 x4.1.Lo) (D 6) w83 ∧ PEq (.int .i64 x3) (D 7) w83 ∧ PV RSpan (Add g3 (Add g2 (Add g1 M))) ({ Lo := x4.1.Lo, Hi := x3 } : Span) (D 8) w83 ∧ PV (RSlice RSpan) (Add g3 (Add g2 (Add g1 M))) [({ Lo := 0, Hi := x3 } : Span), ({ Lo := 0, Hi := x4.1.Hi } : Span), ({ Lo := x4.1.Lo, Hi := x3 } : Span)] (D 9) w83 ∧ PEq (.pointer (some ⟨g, 0, none⟩)) (D 10) w83 ∧ PEq (.int .i64 x20.1) (D 11) w83 ∧ True := hd31
     obtain ⟨-, -, -, -, -, -, -, -, -, d48, -, d50, -⟩ := hd31
     obtain ⟨hS31, ho292⟩ := hS31
     have ho292 : Own w83 g 98 #[(.slice Ax a_xs.length cx), (.int .i64 x20.2)] := ho292
     have hl83 := leY hm6 hS31
     have hC83 := hC66.go hS31 (fun b e => Or.inr e)
     have ho293 := ho237.go hS31 (fun e => hn1 e.symm)
     have ho294 := ho238.go hS31 (fun e => hn2 e.symm)
     have ho295 := ho239.go hS31 (fun e => hn4 e.symm)
     obtain ⟨v31, hq8⟩ : ∃ v, (D 9) = v := ⟨_, rfl⟩
     rw [hq8] at d48
     refine lw_sub (E' := [(49, v31), (51, (.int .i64 x20.1)), (0, (.pointer (some ⟨g, 0, none⟩))), (1, (.int .i64 a_n)), (4, (.pointer (some ⟨g1, 0, none⟩))), (5, (.pointer (some ⟨g2, 0, none⟩))), (6, (.int .i64 x3)), (7, (.pointer (some ⟨g3, 0, none⟩)))]) ⟨(congrArg some hq8), (congrArg some d50), rfl, rfl, rfl, rfl, rfl, rfl, trivial⟩ ?_
     replace h := bind_some h
     obtain ⟨x21, hx21, h⟩ := h
     refine lw_op rfl rfl rfl (ow_indexSlice (R := RSpan) rfl rfl rfl d48 Tryd.underlying58 (Tryd.sizeOf76 _) hx21 fun p10 hp10 => ?_)
     refine lw_op rfl rfl rfl (ow_load (R := RSpan) rfl rfl hp10 (Tryd.sizeOf76 _) (Tryd.isAgg76 _) fun v32 hv32 => ?_)
     obtain rfl := open_Span hv32
     refine lw_op0 rfl rfl (ow_store (X := (One g)) (us := [(.int .i64 x21.Lo), (.int .i64 x21.Hi)]) (cs' := #[(.int .i64 x21.Lo), (.int .i64 x21.Hi)]) rfl rfl rfl rfl ho295 (Tryd.sizeOf76 _) rfl rfl rfl rfl hm9 (.inl hg6) rfl hC83 fun w84 ho296 hb53 hl84 hC84 => ?_)
     have ho297 := ho292.go hb53 (fun e => hn4 e)
     have ho298 := ho293.go hb53 (fun e => hn5 e)
     have ho299 := ho294.go hb53 (fun e => hn6 e)
     refine lw_nil (ew_then (cw_seq (cw_region (lw_op rfl rfl rfl (ow_fieldAddr rfl rfl Tryd.underlying76 rfl (Tryd.sizeOf3 _) ?_)))))
     refine lw_op rfl rfl rfl (ow_loadOwn1 rfl rfl rfl ho296 (Tryd.isAgg3 _) rfl ?_)
     refine lw_op rfl rfl rfl (ow_fieldAddr rfl rfl Tryd.underlying31 rfl (Tryd.sizeOf3 _) ?_)
     refine lw_op0 rfl rfl (ow_store (X := (One g)) (us := [(.int .i64 x21.Lo)]) (cs' := #[(.int .i64 x1.1), (.int .i64 x21.Lo), (.int .i64 0), (.bool bb1)]) rfl rfl rfl rfl ho299 (Tryd.sizeOf3 _) rfl rfl rfl rfl hm8 (.inl hg4) rfl hC84 fun w85 ho300 hb54 hl85 hC85 => ?_)
     have ho301 := ho297.go hb54 (fun e => hn2 e)
     have ho302 := ho298.go hb54 (fun e => hn3 e)
     have ho303 := ho296.go hb54 (fun e => hn6 e.symm)
     refine lw_nil (ew_then (cw_seq (cw_region (lw_op rfl rfl rfl (ow_fieldAddr rfl rfl Tryd.underlying76 rfl (Tryd.sizeOf3 _) ?_)))))
     refine lw_op rfl rfl rfl (ow_loadOwn1 rfl rfl rfl ho303 (Tryd.isAgg3 _) rfl ?_)
     refine lw_op rfl rfl rfl (ow_fieldAddr rfl rfl Tryd.underlying31 rfl (Tryd.sizeOf3 _) ?_)
     refine lw_op0 rfl rfl (ow_store (X := (One g)) (us := [(.int .i64 x21.Hi)]) (cs' := #[(.int .i64 x1.1), (.int .i64 x21.Lo), (.int .i64 x21.Hi), (.bool bb1)]) rfl rfl rfl rfl ho300 (Tryd.sizeOf3 _) rfl rfl rfl rfl hm8 (.inl hg4) rfl hC85 fun w86 ho304 hb55 hl86 hC86 => ?_)
     have ho305 := ho301.go hb55 (fun e => hn2 e)
     have ho306 := ho302.go hb55 (fun e => hn3 e)
     have ho307 := ho303.go hb55 (fun e => hn6 e.symm)
     refine lw_nil (ew_then (cw_seq (cw_seq (cw_region (lw_op rfl rfl rfl (ow_move rfl rfl ?_))))))
     refine lw_op rfl rfl rfl (ow_move rfl rfl ?_)
     replace h := bind_some h
     obtain ⟨x22, hx22, h⟩ := h
     refine lw_op rfl rfl rfl (ow_call rfl rfl Tryd.call92 (w_spec_l20Rd_odd (hG.mono ((((((((((((((hl1.trans hl2).trans hl3).trans hl4).trans hl5).trans hl6).trans hl7).trans hl8).trans hl9).trans hl10).trans hl66).trans hl83).trans hl84).trans hl85).trans hl86)) hC86.old (VRep.mono ((((((((((((((hl1.trans hl2).trans hl3).trans hl4).trans hl5).trans hl6).trans hl7).trans hl8).trans hl9).trans hl10).trans hl66).trans hl83).trans hl84).trans hl85).trans hl86) hxs) ho305 hm6 hx22) fun v33 w87 hv33 => ?_)
     obtain ⟨⟨hv33, ho308⟩, hb56⟩ := hv33
     have hl87 := Le.of_bx (Add g3 (Add g2 (Add g1 M))) hb56 (fun b e => (by rw [show b = g from e]; exact hm6))
     have hC87 := hC86.go hb56 (fun b e => Or.inr e)
     have ho309 := ho306.go hb56 (fun e => hn1 e.symm)
     have ho310 := ho304.go hb56 (fun e => hn2 e.symm)
     have ho311 := ho307.go hb56 (fun e => hn4 e.symm)
     obtain ⟨bb12, hbb12, rfl⟩ := vbool_ex hv33
     refine lw_nil (ew_then ?_)
     replace h := cond_some h
     rcases h with ⟨hc11, h⟩ | ⟨hc11, h⟩
     ·
      obtain rfl := hbb12.trans hc11
      refine cw_true rfl ?_
      refine cw_seq (cw_region (lw_op rfl rfl rfl (ow_move rfl rfl ?_)))
      replace h := bind_some h
      obtain ⟨x23, hx23, h⟩ := h
      refine lw_op rfl rfl rfl (ow_call rfl rfl Tryd.call87 (w_spec_l20Rd_pick (hG.mono (((((((((((((((hl1.trans hl2).trans hl3).trans hl4).trans hl5).trans hl6).trans hl7).trans hl8).trans hl9).trans hl10).trans hl66).trans hl83).trans hl84).trans hl85).trans hl86).trans hl87)) hC87.old (VRep.mono (((((((((((((((hl1.trans hl2).trans hl3).trans hl4).trans hl5).trans hl6).trans hl7).trans hl8).trans hl9).trans hl10).trans hl66).trans hl83).trans hl84).trans hl85).trans hl86).trans hl87) hxs) ho308 hm6 hx23) fun v34 w88 hv34 => ?_)
      obtain ⟨⟨hv34, ho312⟩, hb57⟩ := hv34
      have hl88 := Le.of_bx (Add g3 (Add g2 (Add g1 M))) hb57 (fun b e => (by rw [show b = g from e]; exact hm6))
      have hC88 := hC87.go hb57 (fun b e => Or.inr e)
      have ho313 := ho309.go hb57 (fun e => hn1 e.symm)
      have ho314 := ho310.go hb57 (fun e => hn2 e.symm)
      have ho315 := ho311.go hb57 (fun e => hn4 e.symm)
      obtain rfl := vint_eq hv34
      refine lw_nil (ew_then (cw_block ?_))
      refine cw_seq (cw_region (lw_op rfl rfl rfl (ow_eqlI rfl rfl rfl fun bb13 hbb13 => ?_)))
      refine lw_op rfl rfl rfl (ow_assign rfl rfl ?_)
      refine lw_nil (ew_then ?_)
      replace h := cond_some h
      rcases h with ⟨hc12, h⟩ | ⟨hc12, h⟩
      ·
       obtain rfl := hbb13.trans hc12
       refine cw_true rfl ?_
       refine cw_region (lw_op rfl rfl rfl (ow_buildSlice (R := RInt) (xs := [(-1), 4]) (cs := #[(.int .i64 (-1)), (.int .i64 4)]) (e := 3) rfl rfl (by kernel_rfl) rfl rfl ⟨_, _, rfl, (vint _).cells, _, _, rfl, (vint _).cells, rfl⟩ hC88 fun p11 w89 hw37 hb58 hl89 hC89 => ?_))
       have ho316 := ho312.no hb58
       have ho317 := ho313.no hb58
       have ho318 := ho314.no hb58
       have ho319 := ho315.no hb58
       refine lw_op rfl rfl rfl (ow_move rfl rfl ?_)
       replace h := bind_some h
       obtain ⟨x24, hx24, h⟩ := h
       refine lw_op rfl rfl rfl (ow_call rfl rfl Tryd.call87 (w_spec_l20Rd_pick (hG.mono (((((((((((((((((hl1.trans hl2).trans hl3).trans hl4).trans hl5).trans hl6).trans hl7).trans hl8).trans hl9).trans hl10).trans hl66).trans hl83).trans hl84).trans hl85).trans hl86).trans hl87).trans hl88).trans hl89)) hC89.old (VRep.mono (((((((((((((((((hl1.trans hl2).trans hl3).trans hl4).trans hl5).trans hl6).trans hl7).trans hl8).trans hl9).trans hl10).trans hl66).trans hl83).trans hl84).trans hl85).trans hl86).trans hl87).trans hl88).trans hl89) hxs) ho316 hm6 hx24) fun v35 w90 hv35 => ?_)
       obtain ⟨⟨hv35, ho320⟩, hb59⟩ := hv35
       have hl90 := Le.of_bx (Add g3 (Add g2 (Add g1 M))) hb59 (fun b e => (by rw [show b = g from e]; exact hm6))
       have hC90 := hC89.go hb59 (fun b e => Or.inr e)
       have ho321 := ho317.go hb59 (fun e => hn1 e.symm)
       have ho322 := ho318.go hb59 (fun e => hn2 e.symm)
       have ho323 := ho319.go hb59 (fun e => hn4 e.symm)
       obtain rfl := vint_eq hv35
       replace h := bind_some h
       obtain ⟨x25, hx25, h⟩ := h
       refine lw_op rfl rfl rfl (ow_indexSlice (R := RInt) rfl rfl rfl (VRep.mono hl90 hw37) Tryd.underlying84 (Tryd.sizeOf3 _) hx25 fun p12 hp12 => ?_)
       refine lw_op rfl rfl rfl (ow_load (R := RInt) rfl rfl hp12 (Tryd.sizeOf3 _) (Tryd.isAgg3 _) fun v36 hv36 => ?_)
       obtain rfl := vint_eq hv36
       refine lw_op rfl rfl rfl (ow_fieldAddr rfl rfl Tryd.underlying31 rfl (Tryd.sizeOf3 _) ?_)
       refine lw_op0 rfl rfl (ow_store (X := (One g)) (us := [(.int .i64 x25)]) (cs' := #[(.int .i64 x25), (.int .i64 x21.Lo), (.int .i64 x21.Hi), (.bool bb1)]) rfl rfl rfl rfl ho322 (Tryd.sizeOf3 _) rfl rfl rfl rfl hm8 (.inl hg4) rfl hC90 fun w91 ho324 hb60 hl91 hC91 => ?_)
       have ho325 := ho320.go hb60 (fun e => hn2 e)
       have ho326 := ho321.go hb60 (fun e => hn3 e)
       have ho327 := ho323.go hb60 (fun e => hn6 e.symm)
       refine lw_nil (ew_blockN ?_)
       refine ew_then (cw_seq (cw_region (lw_op rfl rfl rfl (ow_loadOwnA rfl rfl rfl ho324 (Tryd.isAgg31 _) (Tryd.sizeOf31 _) rfl ?_))))
       have hw38 : VRep RTest w91 (Add g3 (Add g2 (Add g1 M))) ({ Field := x25, Lo := x21.Lo, Hi := x21.Hi, Not := (x2.1 == 0) } : Test) (.agg #[(.int .i64 x25), (.int .i64 x21.Lo), (.int .i64 x21.Hi), (.bool bb1)]) := by subst hbb1; exact shut_Test
       refine lw_op0 rfl rfl (ow_store (X := (One g)) (us := [(.int .i64 x25), (.int .i64 x21.Lo), (.int .i64 x21.Hi), (.bool bb1)]) (cs' := #[(.int .i64 x25), (.int .i64 x21.Lo), (.int .i64 x21.Hi), (.bool bb1)]) rfl rfl rfl rfl ho326 (Tryd.sizeOf31 _) rfl rfl rfl rfl hm7 (.inl hg2) rfl hC91 fun w92 ho328 hb61 hl92 hC92 => ?_)
       have ho329 := ho325.go hb61 (fun e => hn1 e)
       have ho330 := ho324.go hb61 (fun e => hn3 e.symm)
       have ho331 := ho327.go hb61 (fun e => hn5 e.symm)
       refine lw_nil (ew_then (cw_ret ?_))
       have hw39 : VRep RTest w92 (Add g3 (Add g2 (Add g1 M))) ({ Field := x25, Lo := x21.Lo, Hi := x21.Hi, Not := (x2.1 == 0) } : Test) (.agg #[(.int .i64 x25), (.int .i64 x21.Lo), (.int .i64 x21.Hi), (.bool bb1)]) := by subst hbb1; exact shut_Test
       obtain rfl := Option.some.inj h
       exact ew_ret (res1 rfl (.cell rfl (own_loadVarA ho328 (Tryd.isAgg31 _) (Tryd.sizeOf31 _) rfl))) ⟨_, rfl, ⟨(hw39.mono hC92.back), ho329⟩, hC92.bx⟩
      ·
       obtain rfl := hbb13.trans hc12
       refine cw_false rfl ?_
       refine cw_seq (cw_region (lw_op rfl rfl rfl (ow_eqlI rfl rfl rfl fun bb14 hbb14 => ?_)))
       refine lw_op rfl rfl rfl (ow_assign rfl rfl ?_)
       refine lw_nil (ew_then ?_)
       replace h := cond_some h
       rcases h with ⟨hc13, h⟩ | ⟨hc13, h⟩
       ·
        obtain rfl := hbb14.trans hc13
        refine cw_true rfl ?_
        refine cw_region (lw_op rfl rfl rfl (ow_fieldAddr rfl rfl Tryd.underlying31 rfl (Tryd.sizeOf3 _) ?_))
        refine lw_op rfl rfl rfl (ow_loadOwn1 rfl rfl rfl ho314 (Tryd.isAgg3 _) rfl ?_)
        refine lw_op rfl rfl rfl (ow_add rfl rfl rfl ?_)
        refine lw_op rfl rfl rfl (ow_fieldAddr rfl rfl Tryd.underlying31 rfl (Tryd.sizeOf3 _) ?_)
        refine lw_op0 rfl rfl (ow_store (X := (One g)) (us := [(.int .i64 (W (x21.Hi + 1)))]) (cs' := #[(.int .i64 x1.1), (.int .i64 (W (x21.Hi + 1))), (.int .i64 x21.Hi), (.bool bb1)]) rfl rfl rfl rfl ho314 (Tryd.sizeOf3 _) rfl rfl rfl rfl hm8 (.inl hg4) rfl hC88 fun w93 ho332 hb62 hl93 hC93 => ?_)
        have ho333 := ho312.go hb62 (fun e => hn2 e)
        have ho334 := ho313.go hb62 (fun e => hn3 e)
        have ho335 := ho315.go hb62 (fun e => hn6 e.symm)
        refine lw_nil (ew_blockN ?_)
        refine ew_then (cw_seq (cw_region (lw_op rfl rfl rfl (ow_loadOwnA rfl rfl rfl ho332 (Tryd.isAgg31 _) (Tryd.sizeOf31 _) rfl ?_))))
        have hw40 : VRep RTest w93 (Add g3 (Add g2 (Add g1 M))) ({ Field := x1.1, Lo := (W (x21.Hi + 1)), Hi := x21.Hi, Not := (x2.1 == 0) } : Test) (.agg #[(.int .i64 x1.1), (.int .i64 (W (x21.Hi + 1))), (.int .i64 x21.Hi), (.bool bb1)]) := by subst hbb1; exact shut_Test
        refine lw_op0 rfl rfl (ow_store (X := (One g)) (us := [(.int .i64 x1.1), (.int .i64 (W (x21.Hi + 1))), (.int .i64 x21.Hi), (.bool bb1)]) (cs' := #[(.int .i64 x1.1), (.int .i64 (W (x21.Hi + 1))), (.int .i64 x21.Hi), (.bool bb1)]) rfl rfl rfl rfl ho334 (Tryd.sizeOf31 _) rfl rfl rfl rfl hm7 (.inl hg2) rfl hC93 fun w94 ho336 hb63 hl94 hC94 => ?_)
        have ho337 := ho333.go hb63 (fun e => hn1 e)
        have ho338 := ho332.go hb63 (fun e => hn3 e.symm)
        have ho339 := ho335.go hb63 (fun e => hn5 e.symm)
        refine lw_nil (ew_then (cw_ret ?_))
        have hw41 : VRep RTest w94 (Add g3 (Add g2 (Add g1 M))) ({ Field := x1.1, Lo := (W (x21.Hi + 1)), Hi := x21.Hi, Not := (x2.1 == 0) } : Test) (.agg #[(.int .i64 x1.1), (.int .i64 (W (x21.Hi + 1))), (.int .i64 x21.Hi), (.bool bb1)]) := by subst hbb1; exact shut_Test
        obtain rfl := Option.some.inj h
        exact ew_ret (res1 rfl (.cell rfl (own_loadVarA ho336 (Tryd.isAgg31 _) (Tryd.sizeOf31 _) rfl))) ⟨_, rfl, ⟨(hw41.mono hC94.back), ho337⟩, hC94.bx⟩
       ·
        obtain rfl := hbb14.trans hc13
        refine cw_false rfl ?_
        refine cw_region (lw_op rfl rfl rfl (ow_move rfl rfl ?_))
        refine lw_op rfl rfl rfl (ow_add rfl rfl rfl ?_)
        refine lw_op rfl rfl rfl (ow_fieldAddr rfl rfl Tryd.underlying31 rfl (Tryd.sizeOf3 _) ?_)
        refine lw_op0 rfl rfl (ow_store (X := (One g)) (us := [(.int .i64 (W (x3 + 1)))]) (cs' := #[(.int .i64 x1.1), (.int .i64 x21.Lo), (.int .i64 (W (x3 + 1))), (.bool bb1)]) rfl rfl rfl rfl ho314 (Tryd.sizeOf3 _) rfl rfl rfl rfl hm8 (.inl hg4) rfl hC88 fun w95 ho340 hb64 hl95 hC95 => ?_)
        have ho341 := ho312.go hb64 (fun e => hn2 e)
        have ho342 := ho313.go hb64 (fun e => hn3 e)
        have ho343 := ho315.go hb64 (fun e => hn6 e.symm)
        refine lw_nil (ew_blockN ?_)
        refine ew_then (cw_seq (cw_region (lw_op rfl rfl rfl (ow_loadOwnA rfl rfl rfl ho340 (Tryd.isAgg31 _) (Tryd.sizeOf31 _) rfl ?_))))
        have hw42 : VRep RTest w95 (Add g3 (Add g2 (Add g1 M))) ({ Field := x1.1, Lo := x21.Lo, Hi := (W (x3 + 1)), Not := (x2.1 == 0) } : Test) (.agg #[(.int .i64 x1.1), (.int .i64 x21.Lo), (.int .i64 (W (x3 + 1))), (.bool bb1)]) := by subst hbb1; exact shut_Test
        refine lw_op0 rfl rfl (ow_store (X := (One g)) (us := [(.int .i64 x1.1), (.int .i64 x21.Lo), (.int .i64 (W (x3 + 1))), (.bool bb1)]) (cs' := #[(.int .i64 x1.1), (.int .i64 x21.Lo), (.int .i64 (W (x3 + 1))), (.bool bb1)]) rfl rfl rfl rfl ho342 (Tryd.sizeOf31 _) rfl rfl rfl rfl hm7 (.inl hg2) rfl hC95 fun w96 ho344 hb65 hl96 hC96 => ?_)
        have ho345 := ho341.go hb65 (fun e => hn1 e)
        have ho346 := ho340.go hb65 (fun e => hn3 e.symm)
        have ho347 := ho343.go hb65 (fun e => hn5 e.symm)
        refine lw_nil (ew_then (cw_ret ?_))
        have hw43 : VRep RTest w96 (Add g3 (Add g2 (Add g1 M))) ({ Field := x1.1, Lo := x21.Lo, Hi := (W (x3 + 1)), Not := (x2.1 == 0) } : Test) (.agg #[(.int .i64 x1.1), (.int .i64 x21.Lo), (.int .i64 (W (x3 + 1))), (.bool bb1)]) := by subst hbb1; exact shut_Test
        obtain rfl := Option.some.inj h
        exact ew_ret (res1 rfl (.cell rfl (own_loadVarA ho344 (Tryd.isAgg31 _) (Tryd.sizeOf31 _) rfl))) ⟨_, rfl, ⟨(hw43.mono hC96.back), ho345⟩, hC96.bx⟩
     ·
      obtain rfl := hbb12.trans hc11
      refine cw_false rfl ?_
      refine cw_skip (ew_then (cw_seq (cw_region (lw_op rfl rfl rfl (ow_loadOwnA rfl rfl rfl ho310 (Tryd.isAgg31 _) (Tryd.sizeOf31 _) rfl ?_)))))
      have hw44 : VRep RTest w87 (Add g3 (Add g2 (Add g1 M))) ({ Field := x1.1, Lo := x21.Lo, Hi := x21.Hi, Not := (x2.1 == 0) } : Test) (.agg #[(.int .i64 x1.1), (.int .i64 x21.Lo), (.int .i64 x21.Hi), (.bool bb1)]) := by subst hbb1; exact shut_Test
      refine lw_op0 rfl rfl (ow_store (X := (One g)) (us := [(.int .i64 x1.1), (.int .i64 x21.Lo), (.int .i64 x21.Hi), (.bool bb1)]) (cs' := #[(.int .i64 x1.1), (.int .i64 x21.Lo), (.int .i64 x21.Hi), (.bool bb1)]) rfl rfl rfl rfl ho309 (Tryd.sizeOf31 _) rfl rfl rfl rfl hm7 (.inl hg2) rfl hC87 fun w97 ho348 hb66 hl97 hC97 => ?_)
      have ho349 := ho308.go hb66 (fun e => hn1 e)
      have ho350 := ho310.go hb66 (fun e => hn3 e.symm)
      have ho351 := ho311.go hb66 (fun e => hn5 e.symm)
      refine lw_nil (ew_then (cw_ret ?_))
      have hw45 : VRep RTest w97 (Add g3 (Add g2 (Add g1 M))) ({ Field := x1.1, Lo := x21.Lo, Hi := x21.Hi, Not := (x2.1 == 0) } : Test) (.agg #[(.int .i64 x1.1), (.int .i64 x21.Lo), (.int .i64 x21.Hi), (.bool bb1)]) := by subst hbb1; exact shut_Test
      obtain rfl := Option.some.inj h
      exact ew_ret (res1 rfl (.cell rfl (own_loadVarA ho348 (Tryd.isAgg31 _) (Tryd.sizeOf31 _) rfl))) ⟨_, rfl, ⟨(hw45.mono hC97.back), ho349⟩, hC97.bx⟩
   ·
    obtain rfl := hbb11.trans hc10
    refine cw_false rfl ?_
    refine cw_skip (ew_then (cw_seq (cw_region (lw_op rfl rfl rfl (ow_fieldAddr rfl rfl Tryd.underlying76 rfl (Tryd.sizeOf3 _) ?_)))))
    refine lw_op rfl rfl rfl (ow_loadOwn1 rfl rfl rfl ho239 (Tryd.isAgg3 _) rfl ?_)
    refine lw_op rfl rfl rfl (ow_fieldAddr rfl rfl Tryd.underlying31 rfl (Tryd.sizeOf3 _) ?_)
    refine lw_op0 rfl rfl (ow_store (X := (One g)) (us := [(.int .i64 x4.1.Lo)]) (cs' := #[(.int .i64 x1.1), (.int .i64 x4.1.Lo), (.int .i64 0), (.bool bb1)]) rfl rfl rfl rfl ho238 (Tryd.sizeOf3 _) rfl rfl rfl rfl hm8 (.inl hg4) rfl hC66 fun w98 ho352 hb67 hl98 hC98 => ?_)
    have ho353 := ho236.go hb67 (fun e => hn2 e)
    have ho354 := ho237.go hb67 (fun e => hn3 e)
    have ho355 := ho239.go hb67 (fun e => hn6 e.symm)
    refine lw_nil (ew_then (cw_seq (cw_region (lw_op rfl rfl rfl (ow_fieldAddr rfl rfl Tryd.underlying76 rfl (Tryd.sizeOf3 _) ?_)))))
    refine lw_op rfl rfl rfl (ow_loadOwn1 rfl rfl rfl ho355 (Tryd.isAgg3 _) rfl ?_)
    refine lw_op rfl rfl rfl (ow_fieldAddr rfl rfl Tryd.underlying31 rfl (Tryd.sizeOf3 _) ?_)
    refine lw_op0 rfl rfl (ow_store (X := (One g)) (us := [(.int .i64 x4.1.Hi)]) (cs' := #[(.int .i64 x1.1), (.int .i64 x4.1.Lo), (.int .i64 x4.1.Hi), (.bool bb1)]) rfl rfl rfl rfl ho352 (Tryd.sizeOf3 _) rfl rfl rfl rfl hm8 (.inl hg4) rfl hC98 fun w99 ho356 hb68 hl99 hC99 => ?_)
    have ho357 := ho353.go hb68 (fun e => hn2 e)
    have ho358 := ho354.go hb68 (fun e => hn3 e)
    have ho359 := ho355.go hb68 (fun e => hn6 e.symm)
    refine lw_nil (ew_then (cw_seq (cw_seq (cw_region (lw_op rfl rfl rfl (ow_move rfl rfl ?_))))))
    refine lw_op rfl rfl rfl (ow_move rfl rfl ?_)
    replace h := bind_some h
    obtain ⟨x26, hx26, h⟩ := h
    refine lw_op rfl rfl rfl (ow_call rfl rfl Tryd.call92 (w_spec_l20Rd_odd (hG.mono ((((((((((((hl1.trans hl2).trans hl3).trans hl4).trans hl5).trans hl6).trans hl7).trans hl8).trans hl9).trans hl10).trans hl66).trans hl98).trans hl99)) hC99.old (VRep.mono ((((((((((((hl1.trans hl2).trans hl3).trans hl4).trans hl5).trans hl6).trans hl7).trans hl8).trans hl9).trans hl10).trans hl66).trans hl98).trans hl99) hxs) ho357 hm6 hx26) fun v37 w100 hv37 => ?_)
    obtain ⟨⟨hv37, ho360⟩, hb69⟩ := hv37
    have hl100 := Le.of_bx (Add g3 (Add g2 (Add g1 M))) hb69 (fun b e => (by rw [show b = g from e]; exact hm6))
    have hC100 := hC99.go hb69 (fun b e => Or.inr e)
    have ho361 := ho358.go hb69 (fun e => hn1 e.symm)
    have ho362 := ho356.go hb69 (fun e => hn2 e.symm)
    have ho363 := ho359.go hb69 (fun e => hn4 e.symm)
    obtain ⟨bb15, hbb15, rfl⟩ := vbool_ex hv37
    refine lw_nil (ew_then ?_)
    replace h := cond_some h
    rcases h with ⟨hc14, h⟩ | ⟨hc14, h⟩
    ·
     obtain rfl := hbb15.trans hc14
     refine cw_true rfl ?_
     refine cw_seq (cw_region (lw_op rfl rfl rfl (ow_move rfl rfl ?_)))
     replace h := bind_some h
     obtain ⟨x27, hx27, h⟩ := h
     refine lw_op rfl rfl rfl (ow_call rfl rfl Tryd.call87 (w_spec_l20Rd_pick (hG.mono (((((((((((((hl1.trans hl2).trans hl3).trans hl4).trans hl5).trans hl6).trans hl7).trans hl8).trans hl9).trans hl10).trans hl66).trans hl98).trans hl99).trans hl100)) hC100.old (VRep.mono (((((((((((((hl1.trans hl2).trans hl3).trans hl4).trans hl5).trans hl6).trans hl7).trans hl8).trans hl9).trans hl10).trans hl66).trans hl98).trans hl99).trans hl100) hxs) ho360 hm6 hx27) fun v38 w101 hv38 => ?_)
     obtain ⟨⟨hv38, ho364⟩, hb70⟩ := hv38
     have hl101 := Le.of_bx (Add g3 (Add g2 (Add g1 M))) hb70 (fun b e => (by rw [show b = g from e]; exact hm6))
     have hC101 := hC100.go hb70 (fun b e => Or.inr e)
     have ho365 := ho361.go hb70 (fun e => hn1 e.symm)
     have ho366 := ho362.go hb70 (fun e => hn2 e.symm)
     have ho367 := ho363.go hb70 (fun e => hn4 e.symm)
     obtain rfl := vint_eq hv38
     refine lw_nil (ew_then (cw_block ?_))
     refine cw_seq (cw_region (lw_op rfl rfl rfl (ow_eqlI rfl rfl rfl fun bb16 hbb16 => ?_)))
     refine lw_op rfl rfl rfl (ow_assign rfl rfl ?_)
     refine lw_nil (ew_then ?_)
     replace h := cond_some h
     rcases h with ⟨hc15, h⟩ | ⟨hc15, h⟩
     ·
      obtain rfl := hbb16.trans hc15
      refine cw_true rfl ?_
      refine cw_region (lw_op rfl rfl rfl (ow_buildSlice (R := RInt) (xs := [(-1), 4]) (cs := #[(.int .i64 (-1)), (.int .i64 4)]) (e := 3) rfl rfl (by kernel_rfl) rfl rfl ⟨_, _, rfl, (vint _).cells, _, _, rfl, (vint _).cells, rfl⟩ hC101 fun p13 w102 hw46 hb71 hl102 hC102 => ?_))
      have ho368 := ho364.no hb71
      have ho369 := ho365.no hb71
      have ho370 := ho366.no hb71
      have ho371 := ho367.no hb71
      refine lw_op rfl rfl rfl (ow_move rfl rfl ?_)
      replace h := bind_some h
      obtain ⟨x28, hx28, h⟩ := h
      refine lw_op rfl rfl rfl (ow_call rfl rfl Tryd.call87 (w_spec_l20Rd_pick (hG.mono (((((((((((((((hl1.trans hl2).trans hl3).trans hl4).trans hl5).trans hl6).trans hl7).trans hl8).trans hl9).trans hl10).trans hl66).trans hl98).trans hl99).trans hl100).trans hl101).trans hl102)) hC102.old (VRep.mono (((((((((((((((hl1.trans hl2).trans hl3).trans hl4).trans hl5).trans hl6).trans hl7).trans hl8).trans hl9).trans hl10).trans hl66).trans hl98).trans hl99).trans hl100).trans hl101).trans hl102) hxs) ho368 hm6 hx28) fun v39 w103 hv39 => ?_)
      obtain ⟨⟨hv39, ho372⟩, hb72⟩ := hv39
      have hl103 := Le.of_bx (Add g3 (Add g2 (Add g1 M))) hb72 (fun b e => (by rw [show b = g from e]; exact hm6))
      have hC103 := hC102.go hb72 (fun b e => Or.inr e)
      have ho373 := ho369.go hb72 (fun e => hn1 e.symm)
      have ho374 := ho370.go hb72 (fun e => hn2 e.symm)
      have ho375 := ho371.go hb72 (fun e => hn4 e.symm)
      obtain rfl := vint_eq hv39
      replace h := bind_some h
      obtain ⟨x29, hx29, h⟩ := h
      refine lw_op rfl rfl rfl (ow_indexSlice (R := RInt) rfl rfl rfl (VRep.mono hl103 hw46) Tryd.underlying84 (Tryd.sizeOf3 _) hx29 fun p14 hp14 => ?_)
      refine lw_op rfl rfl rfl (ow_load (R := RInt) rfl rfl hp14 (Tryd.sizeOf3 _) (Tryd.isAgg3 _) fun v40 hv40 => ?_)
      obtain rfl := vint_eq hv40
      refine lw_op rfl rfl rfl (ow_fieldAddr rfl rfl Tryd.underlying31 rfl (Tryd.sizeOf3 _) ?_)
      refine lw_op0 rfl rfl (ow_store (X := (One g)) (us := [(.int .i64 x29)]) (cs' := #[(.int .i64 x29), (.int .i64 x4.1.Lo), (.int .i64 x4.1.Hi), (.bool bb1)]) rfl rfl rfl rfl ho374 (Tryd.sizeOf3 _) rfl rfl rfl rfl hm8 (.inl hg4) rfl hC103 fun w104 ho376 hb73 hl104 hC104 => ?_)
      have ho377 := ho372.go hb73 (fun e => hn2 e)
      have ho378 := ho373.go hb73 (fun e => hn3 e)
      have ho379 := ho375.go hb73 (fun e => hn6 e.symm)
      refine lw_nil (ew_blockN ?_)
      refine ew_then (cw_seq (cw_region (lw_op rfl rfl rfl (ow_loadOwnA rfl rfl rfl ho376 (Tryd.isAgg31 _) (Tryd.sizeOf31 _) rfl ?_))))
      have hw47 : VRep RTest w104 (Add g3 (Add g2 (Add g1 M))) ({ Field := x29, Lo := x4.1.Lo, Hi := x4.1.Hi, Not := (x2.1 == 0) } : Test) (.agg #[(.int .i64 x29), (.int .i64 x4.1.Lo), (.int .i64 x4.1.Hi), (.bool bb1)]) := by subst hbb1; exact shut_Test
      refine lw_op0 rfl rfl (ow_store (X := (One g)) (us := [(.int .i64 x29), (.int .i64 x4.1.Lo), (.int .i64 x4.1.Hi), (.bool bb1)]) (cs' := #[(.int .i64 x29), (.int .i64 x4.1.Lo), (.int .i64 x4.1.Hi), (.bool bb1)]) rfl rfl rfl rfl ho378 (Tryd.sizeOf31 _) rfl rfl rfl rfl hm7 (.inl hg2) rfl hC104 fun w105 ho380 hb74 hl105 hC105 => ?_)
      have ho381 := ho377.go hb74 (fun e => hn1 e)
      have ho382 := ho376.go hb74 (fun e => hn3 e.symm)
      have ho383 := ho379.go hb74 (fun e => hn5 e.symm)
      refine lw_nil (ew_then (cw_ret ?_))
      have hw48 : VRep RTest w105 (Add g3 (Add g2 (Add g1 M))) ({ Field := x29, Lo := x4.1.Lo, Hi := x4.1.Hi, Not := (x2.1 == 0) } : Test) (.agg #[(.int .i64 x29), (.int .i64 x4.1.Lo), (.int .i64 x4.1.Hi), (.bool bb1)]) := by subst hbb1; exact shut_Test
      obtain rfl := Option.some.inj h
      exact ew_ret (res1 rfl (.cell rfl (own_loadVarA ho380 (Tryd.isAgg31 _) (Tryd.sizeOf31 _) rfl))) ⟨_, rfl, ⟨(hw48.mono hC105.back), ho381⟩, hC105.bx⟩
     ·
      obtain rfl := hbb16.trans hc15
      refine cw_false rfl ?_
      refine cw_seq (cw_region (lw_op rfl rfl rfl (ow_eqlI rfl rfl rfl fun bb17 hbb17 => ?_)))
      refine lw_op rfl rfl rfl (ow_assign rfl rfl ?_)
      refine lw_nil (ew_then ?_)
      replace h := cond_some h
      rcases h with ⟨hc16, h⟩ | ⟨hc16, h⟩
      ·
       obtain rfl := hbb17.trans hc16
       refine cw_true rfl ?_
       refine cw_region (lw_op rfl rfl rfl (ow_fieldAddr rfl rfl Tryd.underlying31 rfl (Tryd.sizeOf3 _) ?_))
       refine lw_op rfl rfl rfl (ow_loadOwn1 rfl rfl rfl ho366 (Tryd.isAgg3 _) rfl ?_)
       refine lw_op rfl rfl rfl (ow_add rfl rfl rfl ?_)
       refine lw_op rfl rfl rfl (ow_fieldAddr rfl rfl Tryd.underlying31 rfl (Tryd.sizeOf3 _) ?_)
       refine lw_op0 rfl rfl (ow_store (X := (One g)) (us := [(.int .i64 (W (x4.1.Hi + 1)))]) (cs' := #[(.int .i64 x1.1), (.int .i64 (W (x4.1.Hi + 1))), (.int .i64 x4.1.Hi), (.bool bb1)]) rfl rfl rfl rfl ho366 (Tryd.sizeOf3 _) rfl rfl rfl rfl hm8 (.inl hg4) rfl hC101 fun w106 ho384 hb75 hl106 hC106 => ?_)
       have ho385 := ho364.go hb75 (fun e => hn2 e)
       have ho386 := ho365.go hb75 (fun e => hn3 e)
       have ho387 := ho367.go hb75 (fun e => hn6 e.symm)
       refine lw_nil (ew_blockN ?_)
       refine ew_then (cw_seq (cw_region (lw_op rfl rfl rfl (ow_loadOwnA rfl rfl rfl ho384 (Tryd.isAgg31 _) (Tryd.sizeOf31 _) rfl ?_))))
       have hw49 : VRep RTest w106 (Add g3 (Add g2 (Add g1 M))) ({ Field := x1.1, Lo := (W (x4.1.Hi + 1)), Hi := x4.1.Hi, Not := (x2.1 == 0) } : Test) (.agg #[(.int .i64 x1.1), (.int .i64 (W (x4.1.Hi + 1))), (.int .i64 x4.1.Hi), (.bool bb1)]) := by subst hbb1; exact shut_Test
       refine lw_op0 rfl rfl (ow_store (X := (One g)) (us := [(.int .i64 x1.1), (.int .i64 (W (x4.1.Hi + 1))), (.int .i64 x4.1.Hi), (.bool bb1)]) (cs' := #[(.int .i64 x1.1), (.int .i64 (W (x4.1.Hi + 1))), (.int .i64 x4.1.Hi), (.bool bb1)]) rfl rfl rfl rfl ho386 (Tryd.sizeOf31 _) rfl rfl rfl rfl hm7 (.inl hg2) rfl hC106 fun w107 ho388 hb76 hl107 hC107 => ?_)
       have ho389 := ho385.go hb76 (fun e => hn1 e)
       have ho390 := ho384.go hb76 (fun e => hn3 e.symm)
       have ho391 := ho387.go hb76 (fun e => hn5 e.symm)
       refine lw_nil (ew_then (cw_ret ?_))
       have hw50 : VRep RTest w107 (Add g3 (Add g2 (Add g1 M))) ({ Field := x1.1, Lo := (W (x4.1.Hi + 1)), Hi := x4.1.Hi, Not := (x2.1 == 0) } : Test) (.agg #[(.int .i64 x1.1), (.int .i64 (W (x4.1.Hi + 1))), (.int .i64 x4.1.Hi), (.bool bb1)]) := by subst hbb1; exact shut_Test
       obtain rfl := Option.some.inj h
       exact ew_ret (res1 rfl (.cell rfl (own_loadVarA ho388 (Tryd.isAgg31 _) (Tryd.sizeOf31 _) rfl))) ⟨_, rfl, ⟨(hw50.mono hC107.back), ho389⟩, hC107.bx⟩
      ·
       obtain rfl := hbb17.trans hc16
       refine cw_false rfl ?_
       refine cw_region (lw_op rfl rfl rfl (ow_move rfl rfl ?_))
       refine lw_op rfl rfl rfl (ow_add rfl rfl rfl ?_)
       refine lw_op rfl rfl rfl (ow_fieldAddr rfl rfl Tryd.underlying31 rfl (Tryd.sizeOf3 _) ?_)
       refine lw_op0 rfl rfl (ow_store (X := (One g)) (us := [(.int .i64 (W (x3 + 1)))]) (cs' := #[(.int .i64 x1.1), (.int .i64 x4.1.Lo), (.int .i64 (W (x3 + 1))), (.bool bb1)]) rfl rfl rfl rfl ho366 (Tryd.sizeOf3 _) rfl rfl rfl rfl hm8 (.inl hg4) rfl hC101 fun w108 ho392 hb77 hl108 hC108 => ?_)
       have ho393 := ho364.go hb77 (fun e => hn2 e)
       have ho394 := ho365.go hb77 (fun e => hn3 e)
       have ho395 := ho367.go hb77 (fun e => hn6 e.symm)
       refine lw_nil (ew_blockN ?_)
       refine ew_then (cw_seq (cw_region (lw_op rfl rfl rfl (ow_loadOwnA rfl rfl rfl ho392 (Tryd.isAgg31 _) (Tryd.sizeOf31 _) rfl ?_))))
       have hw51 : VRep RTest w108 (Add g3 (Add g2 (Add g1 M))) ({ Field := x1.1, Lo := x4.1.Lo, Hi := (W (x3 + 1)), Not := (x2.1 == 0) } : Test) (.agg #[(.int .i64 x1.1), (.int .i64 x4.1.Lo), (.int .i64 (W (x3 + 1))), (.bool bb1)]) := by subst hbb1; exact shut_Test
       refine lw_op0 rfl rfl (ow_store (X := (One g)) (us := [(.int .i64 x1.1), (.int .i64 x4.1.Lo), (.int .i64 (W (x3 + 1))), (.bool bb1)]) (cs' := #[(.int .i64 x1.1), (.int .i64 x4.1.Lo), (.int .i64 (W (x3 + 1))), (.bool bb1)]) rfl rfl rfl rfl ho394 (Tryd.sizeOf31 _) rfl rfl rfl rfl hm7 (.inl hg2) rfl hC108 fun w109 ho396 hb78 hl109 hC109 => ?_)
       have ho397 := ho393.go hb78 (fun e => hn1 e)
       have ho398 := ho392.go hb78 (fun e => hn3 e.symm)
       have ho399 := ho395.go hb78 (fun e => hn5 e.symm)
       refine lw_nil (ew_then (cw_ret ?_))
       have hw52 : VRep RTest w109 (Add g3 (Add g2 (Add g1 M))) ({ Field := x1.1, Lo := x4.1.Lo, Hi := (W (x3 + 1)), Not := (x2.1 == 0) } : Test) (.agg #[(.int .i64 x1.1), (.int .i64 x4.1.Lo), (.int .i64 (W (x3 + 1))), (.bool bb1)]) := by subst hbb1; exact shut_Test
       obtain rfl := Option.some.inj h
       exact ew_ret (res1 rfl (.cell rfl (own_loadVarA ho396 (Tryd.isAgg31 _) (Tryd.sizeOf31 _) rfl))) ⟨_, rfl, ⟨(hw52.mono hC109.back), ho397⟩, hC109.bx⟩
    ·
     obtain rfl := hbb15.trans hc14
     refine cw_false rfl ?_
     refine cw_skip (ew_then (cw_seq (cw_region (lw_op rfl rfl rfl (ow_loadOwnA rfl rfl rfl ho362 (Tryd.isAgg31 _) (Tryd.sizeOf31 _) rfl ?_)))))
     have hw53 : VRep RTest w100 (Add g3 (Add g2 (Add g1 M))) ({ Field := x1.1, Lo := x4.1.Lo, Hi := x4.1.Hi, Not := (x2.1 == 0) } : Test) (.agg #[(.int .i64 x1.1), (.int .i64 x4.1.Lo), (.int .i64 x4.1.Hi), (.bool bb1)]) := by subst hbb1; exact shut_Test
     refine lw_op0 rfl rfl (ow_store (X := (One g)) (us := [(.int .i64 x1.1), (.int .i64 x4.1.Lo), (.int .i64 x4.1.Hi), (.bool bb1)]) (cs' := #[(.int .i64 x1.1), (.int .i64 x4.1.Lo), (.int .i64 x4.1.Hi), (.bool bb1)]) rfl rfl rfl rfl ho361 (Tryd.sizeOf31 _) rfl rfl rfl rfl hm7 (.inl hg2) rfl hC100 fun w110 ho400 hb79 hl110 hC110 => ?_)
     have ho401 := ho360.go hb79 (fun e => hn1 e)
     have ho402 := ho362.go hb79 (fun e => hn3 e.symm)
     have ho403 := ho363.go hb79 (fun e => hn5 e.symm)
     refine lw_nil (ew_then (cw_ret ?_))
     have hw54 : VRep RTest w110 (Add g3 (Add g2 (Add g1 M))) ({ Field := x1.1, Lo := x4.1.Lo, Hi := x4.1.Hi, Not := (x2.1 == 0) } : Test) (.agg #[(.int .i64 x1.1), (.int .i64 x4.1.Lo), (.int .i64 x4.1.Hi), (.bool bb1)]) := by subst hbb1; exact shut_Test
     obtain rfl := Option.some.inj h
     exact ew_ret (res1 rfl (.cell rfl (own_loadVarA ho400 (Tryd.isAgg31 _) (Tryd.sizeOf31 _) rfl))) ⟨_, rfl, ⟨(hw54.mono hC110.back), ho401⟩, hC110.bx⟩
 ·
  obtain rfl := hbb2.trans hc1
  refine lw_off rfl rfl rfl rfl rfl rfl ?_
  refine lw_off rfl rfl rfl rfl rfl rfl ?_
  refine lw_off rfl rfl rfl rfl rfl rfl ?_
  refine lw_op rfl rfl rfl (ow_pickF rfl rfl rfl ?_)
  refine lw_nil (ew_then (cw_false rfl ?_))
  refine cw_skip (ew_then (cw_seq (cw_seq (cw_region (lw_op rfl rfl rfl (ow_move rfl rfl ?_))))))
  replace h := bind_some h
  obtain ⟨x30, hx30, h⟩ := h
  refine lw_op rfl rfl rfl (ow_call rfl rfl Tryd.call87 (w_spec_l20Rd_pick (hG.mono ((((((((hl1.trans hl2).trans hl3).trans hl4).trans hl5).trans hl6).trans hl7).trans hl8).trans hl9)) hC9.old (VRep.mono ((((((((hl1.trans hl2).trans hl3).trans hl4).trans hl5).trans hl6).trans hl7).trans hl8).trans hl9) hxs) ho24 hm6 hx30) fun v41 w111 hv41 => ?_)
  obtain ⟨⟨hv41, ho404⟩, hb80⟩ := hv41
  have hl111 := Le.of_bx (Add g3 (Add g2 (Add g1 M))) hb80 (fun b e => (by rw [show b = g from e]; exact hm6))
  have hC111 := hC9.go hb80 (fun b e => Or.inr e)
  have ho405 := ho25.go hb80 (fun e => hn1 e.symm)
  have ho406 := ho26.go hb80 (fun e => hn2 e.symm)
  have ho407 := ho23.go hb80 (fun e => hn4 e.symm)
  obtain rfl := vint_eq hv41
  refine lw_op rfl rfl rfl (ow_eqlI rfl rfl rfl fun bb18 hbb18 => ?_)
  refine lw_nil (ew_then ?_)
  replace h := cond_some h
  rcases h with ⟨hc17, h⟩ | ⟨hc17, h⟩
  ·
   obtain rfl := hbb18.trans hc17
   refine cw_true rfl ?_
   replace h := bind_some h
   obtain ⟨x31, hx31, h⟩ := h
   refine cw_sub (E' := [(0, (.pointer (some ⟨g, 0, none⟩))), (1, (.int .i64 a_n)), (4, (.pointer (some ⟨g1, 0, none⟩))), (5, (.pointer (some ⟨g2, 0, none⟩))), (6, (.int .i64 x3)), (7, (.pointer (some ⟨g3, 0, none⟩)))]) ⟨rfl, rfl, rfl, rfl, rfl, rfl, trivial⟩ ?_
   refine cw_drawC (g := g) (T := 98) 12 1 [none, none, none, none, none, none, none, none, none, none, none, some 0] [#[(.slice Ax a_xs.length cx), (.int .i64 x30.2)], #[(.slice Ax a_xs.length cx), (.int .i64 x31.2)]] [PEq (.int .i64 x3), PV RSpan (Add g3 (Add g2 (Add g1 M))) ({ Lo := 0, Hi := x3 } : Span), PEq (.pointer (some ⟨g3, 1, none⟩)), PEq (.int .i64 x4.1.Hi), PV RSpan (Add g3 (Add g2 (Add g1 M))) ({ Lo := 0, Hi := x4.1.Hi } : Span), PEq (.pointer (some ⟨g3, 0, none⟩)), PEq (.int .i64 x4.1.Lo), PEq (.int .i64 x3), PV RSpan (Add g3 (Add g2 (Add g1 M))) ({ Lo := x4.1.Lo, Hi := x3 } : Span), PV (RSlice RSpan) (Add g3 (Add g2 (Add g1 M))) [({ Lo := 0, Hi := x3 } : Span), ({ Lo := 0, Hi := x4.1.Hi } : Span), ({ Lo := x4.1.Lo, Hi := x3 } : Span)], PEq (.pointer (some ⟨g, 0, none⟩)), PEq (.int .i64 x31.1)] (by kernel_rfl) rfl (by kernel_rfl) (by kernel_rfl) ho404 ⟨(PEq.monoY hm6 _), (PV.monoY hm6 _ _), (PEq.monoY hm6 _), (PEq.monoY hm6 _), (PV.monoY hm6 _ _), (PEq.monoY hm6 _), (PEq.monoY hm6 _), (PEq.monoY hm6 _), (PV.monoY hm6 _ _), (PV.monoY hm6 _ _), (PEq.monoY hm6 _), (PEq.monoY hm6 _), trivial⟩ ⟨?_, ?_, ?_, ?_, ?_, ?_, ?_, ?_, ?_, ?_, ?_, ?_, trivial⟩ ?_
   ·
    intro w114 D hS32 hd32
    have hl114 := leY hm6 hS32
    have hC114 := hC111.go hS32 (fun b e => Or.inr e)
    have ho416 := ho405.go hS32 (fun e => hn1 e.symm)
    have ho417 := ho406.go hS32 (fun e => hn2 e.symm)
    have ho418 := ho407.go hS32 (fun e => hn4 e.symm)
    refine dg_sub (E' := [(6, (.int .i64 x3))]) ⟨rfl, trivial⟩ ?_
    refine dg_plain rfl (ow_move rfl rfl ?_)
    exact ⟨BX.refl _ _, rfl⟩
   ·
    intro w115 D hS33 hd33
    have hl115 := leY hm6 hS33
    have hC115 := hC111.go hS33 (fun b e => Or.inr e)
    have ho419 := ho405.go hS33 (fun e => hn1 e.symm)
    have ho420 := ho406.go hS33 (fun e => hn2 e.symm)
    have ho421 := ho407.go hS33 (fun e => hn4 e.symm)
    have hd33 : PEq (.int .i64 x3) (D 0) w115 ∧ True := hd33
    obtain ⟨d51, -⟩ := hd33
    refine dg_sub (E' := [(40, (.int .i64 x3))]) ⟨(congrArg some d51), trivial⟩ ?_
    refine dg_plain rfl (ow_build (v := .agg #[(.int .i64 0), (.int .i64 x3)]) rfl rfl (by kernel_rfl) ?_)
    have hw59 : VRep RSpan w115 (Add g3 (Add g2 (Add g1 M))) ({ Lo := 0, Hi := x3 } : Span) (.agg #[(.int .i64 0), (.int .i64 x3)]) := shut_Span
    exact ⟨BX.refl _ _, hw59⟩
   ·
    intro w116 D hS34 hd34
    have hl116 := leY hm6 hS34
    have hC116 := hC111.go hS34 (fun b e => Or.inr e)
    have ho422 := ho405.go hS34 (fun e => hn1 e.symm)
    have ho423 := ho406.go hS34 (fun e => hn2 e.symm)
    have ho424 := ho407.go hS34 (fun e => hn4 e.symm)
    refine dg_sub (E' := [(7, (.pointer (some ⟨g3, 0, none⟩)))]) ⟨rfl, trivial⟩ ?_
    refine dg_plain rfl (ow_fieldAddr rfl rfl Tryd.underlying76 rfl (Tryd.sizeOf3 _) ?_)
    exact ⟨BX.refl _ _, rfl⟩
   ·
    intro w117 D hS35 hd35
    have hl117 := leY hm6 hS35
    have hC117 := hC111.go hS35 (fun b e => Or.inr e)
    have ho425 := ho405.go hS35 (fun e => hn1 e.symm)
    have ho426 := ho406.go hS35 (fun e => hn2 e.symm)
    have ho427 := ho407.go hS35 (fun e => hn4 e.symm)
    have hd35 : PEq (.pointer (some ⟨g3, 1, none⟩)) (D 2) w117 ∧ True := hd35
    obtain ⟨d52, -⟩ := hd35
    refine dg_sub (E' := [(42, (.pointer (some ⟨g3, 1, none⟩)))]) ⟨(congrArg some d52), trivial⟩ ?_
    refine dg_plain rfl (ow_loadOwn1 rfl rfl rfl ho427 (Tryd.isAgg3 _) rfl ?_)
    exact ⟨BX.refl _ _, rfl⟩
   ·
    intro w118 D hS36 hd36
    have hl118 := leY hm6 hS36
    have hC118 := hC111.go hS36 (fun b e => Or.inr e)
    have ho428 := ho405.go hS36 (fun e => hn1 e.symm)
    have ho429 := ho406.go hS36 (fun e => hn2 e.symm)
    have ho430 := ho407.go hS36 (fun e => hn4 e.symm)
    have hd36 : PEq (.int .i64 x4.1.Hi) (D 3) w118 ∧ True := hd36
    obtain ⟨d53, -⟩ := hd36
    refine dg_sub (E' := [(43, (.int .i64 x4.1.Hi))]) ⟨(congrArg some d53), trivial⟩ ?_
    refine dg_plain rfl (ow_build (v := .agg #[(.int .i64 0), (.int .i64 x4.1.Hi)]) rfl rfl (by kernel_rfl) ?_)
    have hw60 : VRep RSpan w118 (Add g3 (Add g2 (Add g1 M))) ({ Lo := 0, Hi := x4.1.Hi } : Span) (.agg #[(.int .i64 0), (.int .i64 x4.1.Hi)]) := shut_Span
    exact ⟨BX.refl _ _, hw60⟩
   ·
    intro w119 D hS37 hd37
    have hl119 := leY hm6 hS37
    have hC119 := hC111.go hS37 (fun b e => Or.inr e)
    have ho431 := ho405.go hS37 (fun e => hn1 e.symm)
    have ho432 := ho406.go hS37 (fun e => hn2 e.symm)
    have ho433 := ho407.go hS37 (fun e => hn4 e.symm)
    refine dg_sub (E' := [(7, (.pointer (some ⟨g3, 0, none⟩)))]) ⟨rfl, trivial⟩ ?_
    refine dg_plain rfl (ow_fieldAddr rfl rfl Tryd.underlying76 rfl (Tryd.sizeOf3 _) ?_)
    exact ⟨BX.refl _ _, rfl⟩
   ·
    intro w120 D hS38 hd38
    have hl120 := leY hm6 hS38
    have hC120 := hC111.go hS38 (fun b e => Or.inr e)
    have ho434 := ho405.go hS38 (fun e => hn1 e.symm)
    have ho435 := ho406.go hS38 (fun e => hn2 e.symm)
    have ho436 := ho407.go hS38 (fun e => hn4 e.symm)
    have hd38 : PEq (.pointer (some ⟨g3, 0, none⟩)) (D 5) w120 ∧ True := hd38
    obtain ⟨d54, -⟩ := hd38
    refine dg_sub (E' := [(45, (.pointer (some ⟨g3, 0, none⟩)))]) ⟨(congrArg some d54), trivial⟩ ?_
    refine dg_plain rfl (ow_loadOwn1 rfl rfl rfl ho436 (Tryd.isAgg3 _) rfl ?_)
    exact ⟨BX.refl _ _, rfl⟩
   ·
    intro w121 D hS39 hd39
    have hl121 := leY hm6 hS39
    have hC121 := hC111.go hS39 (fun b e => Or.inr e)
    have ho437 := ho405.go hS39 (fun e => hn1 e.symm)
    have ho438 := ho406.go hS39 (fun e => hn2 e.symm)
    have ho439 := ho407.go hS39 (fun e => hn4 e.symm)
    refine dg_sub (E' := [(6, (.int .i64 x3))]) ⟨rfl, trivial⟩ ?_
    refine dg_plain rfl (ow_move rfl rfl ?_)
    exact ⟨BX.refl _ _, rfl⟩
   ·
    intro w122 D hS40 hd40
    have hl122 := leY hm6 hS40
    have hC122 := hC111.go hS40 (fun b e => Or.inr e)
    have ho440 := ho405.go hS40 (fun e => hn1 e.symm)
    have ho441 := ho406.go hS40 (fun e => hn2 e.symm)
    have ho442 := ho407.go hS40 (fun e => hn4 e.symm)
    have hd40 : PEq (.int .i64 x4.1.Lo) (D 6) w122 ∧ PEq (.int .i64 x3) (D 7) w122 ∧ True := hd40
    obtain ⟨d55, d56, -⟩ := hd40
    refine dg_sub (E' := [(46, (.int .i64 x4.1.Lo)), (47, (.int .i64 x3))]) ⟨(congrArg some d55), (congrArg some d56), trivial⟩ ?_
    refine dg_plain rfl (ow_build (v := .agg #[(.int .i64 x4.1.Lo), (.int .i64 x3)]) rfl rfl (by kernel_rfl) ?_)
    have hw61 : VRep RSpan w122 (Add g3 (Add g2 (Add g1 M))) ({ Lo := x4.1.Lo, Hi := x3 } : Span) (.agg #[(.int .i64 x4.1.Lo), (.int .i64 x3)]) := shut_Span
    exact ⟨BX.refl _ _, hw61⟩
   ·
    intro w123 D hS41 hd41
    have hl123 := leY hm6 hS41
    have hC123 := hC111.go hS41 (fun b e => Or.inr e)
    have ho443 := ho405.go hS41 (fun e => hn1 e.symm)
    have ho444 := ho406.go hS41 (fun e => hn2 e.symm)
    have ho445 := ho407.go hS41 (fun e => hn4 e.symm)
    have hd41 : PV RSpan (Add g3 (Add g2 (Add g1 M))) ({ Lo := 0, Hi := x3 } : Span) (D 1) w123 ∧ PV RSpan (Add g3 (Add g2 (Add g1 M))) ({ Lo := 0, Hi := x4.1.Hi } : Span) (D 4) w123 ∧ PV RSpan (Add g3 (Add g2 (Add g1 M))) ({ Lo := x4.1.Lo, Hi := x3 } : Span) (D 8) w123 ∧ True := hd41
    obtain ⟨d57, d58, d59, -⟩ := hd41
    obtain ⟨v43, hq9⟩ : ∃ v, (D 1) = v := ⟨_, rfl⟩
    rw [hq9] at d57
    obtain ⟨v44, hq10⟩ : ∃ v, (D 4) = v := ⟨_, rfl⟩
    rw [hq10] at d58
    obtain ⟨v45, hq11⟩ : ∃ v, (D 8) = v := ⟨_, rfl⟩
    rw [hq11] at d59
    refine dg_sub (E' := [(41, v43), (44, v44), (48, v45)]) ⟨(congrArg some hq9), (congrArg some hq10), (congrArg some hq11), trivial⟩ ?_
    obtain rfl := open_Span d57
    obtain rfl := open_Span d58
    obtain rfl := open_Span d59
    refine dg_plain rfl (ow_buildSlice (R := RSpan) (xs := [({ Lo := 0, Hi := x3 } : Span), ({ Lo := 0, Hi := x4.1.Hi } : Span), ({ Lo := x4.1.Lo, Hi := x3 } : Span)]) (cs := #[(.int .i64 ({ Lo := 0, Hi := x3 } : Span).Lo), (.int .i64 ({ Lo := 0, Hi := x3 } : Span).Hi), (.int .i64 ({ Lo := 0, Hi := x4.1.Hi } : Span).Lo), (.int .i64 ({ Lo := 0, Hi := x4.1.Hi } : Span).Hi), (.int .i64 ({ Lo := x4.1.Lo, Hi := x3 } : Span).Lo), (.int .i64 ({ Lo := x4.1.Lo, Hi := x3 } : Span).Hi)]) (e := 76) rfl rfl (by kernel_rfl) rfl rfl ⟨_, _, rfl, d57.cells, _, _, rfl, d58.cells, _, _, rfl, d59.cells, rfl⟩ hC123 fun p16 w124 hw62 hb83 hl124 hC124 => ?_)
    have ho446 := ho443.no hb83
    have ho447 := ho444.no hb83
    have ho448 := ho445.no hb83
    exact ⟨hb83, hw62⟩
   ·
    intro w125 D hS42 hd42
    have hl125 := leY hm6 hS42
    have hC125 := hC111.go hS42 (fun b e => Or.inr e)
    have ho449 := ho405.go hS42 (fun e => hn1 e.symm)
    have ho450 := ho406.go hS42 (fun e => hn2 e.symm)
    have ho451 := ho407.go hS42 (fun e => hn4 e.symm)
    refine dg_sub (E' := [(0, (.pointer (some ⟨g, 0, none⟩)))]) ⟨rfl, trivial⟩ ?_
    refine dg_plain rfl (ow_move rfl rfl ?_)
    exact ⟨BX.refl _ _, rfl⟩
   ·
    intro w126 D hS43 hd43
    obtain ⟨hS43, ho452⟩ := hS43
    have ho452 : Own w126 g 98 #[(.slice Ax a_xs.length cx), (.int .i64 x30.2)] := ho452
    have hl126 := leY hm6 hS43
    have hC126 := hC111.go hS43 (fun b e => Or.inr e)
    have ho453 := ho405.go hS43 (fun e => hn1 e.symm)
    have ho454 := ho406.go hS43 (fun e => hn2 e.symm)
    have ho455 := ho407.go hS43 (fun e => hn4 e.symm)
    have hd43 : PEq (.pointer (some ⟨g, 0, none⟩)) (D 10) w126 ∧ True := hd43
    obtain ⟨d60, -⟩ := hd43
    refine dg_sub (E' := [(50, (.pointer (some ⟨g, 0, none⟩)))]) ⟨(congrArg some d60), trivial⟩ ?_
    refine dg_plain rfl (ow_call rfl rfl Tryd.call87 (w_spec_l20Rd_pick (hG.mono ((((((((((hl1.trans hl2).trans hl3).trans hl4).trans hl5).trans hl6).trans hl7).trans hl8).trans hl9).trans hl111).trans hl126)) hC126.old (VRep.mono ((((((((((hl1.trans hl2).trans hl3).trans hl4).trans hl5).trans hl6).trans hl7).trans hl8).trans hl9).trans hl111).trans hl126) hxs) ho452 hm6 hx31) fun v46 w127 hv46 => ?_)
    obtain ⟨⟨hv46, ho456⟩, hb84⟩ := hv46
    have hl127 := Le.of_bx (Add g3 (Add g2 (Add g1 M))) hb84 (fun b e => (by rw [show b = g from e]; exact hm6))
    have hC127 := hC126.go hb84 (fun b e => Or.inr e)
    have ho457 := ho453.go hb84 (fun e => hn1 e.symm)
    have ho458 := ho454.go hb84 (fun e => hn2 e.symm)
    have ho459 := ho455.go hb84 (fun e => hn4 e.symm)
    obtain rfl := vint_eq hv46
    exact ⟨⟨⟨hS43.trans hb84, ho456⟩, hb84⟩, rfl⟩
   ·
    intro w128 D hS44 hd44
    have hd44 : PEq (.int .i64 x3) (D 0) w128 ∧ PV RSpan (Add g3 (Add g2 (Add g1 M))) ({ Lo := 0, Hi := x3 } : Span) (D 1) w128 ∧ PEq (.pointer (some ⟨g3, 1, none⟩)) (D 2) w128 ∧ PEq (.int .i64 x4.1.Hi) (D 3) w128 ∧ PV RSpan (Add g3 (Add g2 (Add g1 M))) ({ Lo := 0, Hi := x4.1.Hi } : Span) (D 4) w128 ∧ PEq (.pointer (some ⟨g3, 0, none⟩)) (D 5) w128 ∧ PEq (.int .i64 x4.1.Lo) (D 6) w128 ∧ PEq (.int .i64 x3) (D 7) w128 ∧ PV RSpan (Add g3 (Add g2 (Add g1 M))) ({ Lo := x4.1.Lo, Hi := x3 } : Span) (D 8) w128 ∧ PV (RSlice RSpan) (Add g3 (Add g2 (Add g1 M))) [({ Lo := 0, Hi := x3 } : Span), ({ Lo := 0, Hi := x4.1.Hi } : Span), ({ Lo := x4.1.Lo, Hi := x3 } : Span)] (D 9) w128 ∧ PEq (.pointer (some ⟨g, 0, none⟩)) (D 10) w128 ∧ PEq (.int .i64 x31.1) (D 11) w128 ∧ True := hd44
    obtain ⟨-, -, -, -, -, -, -, -, -, d70, -, d72, -⟩ := hd44
    obtain ⟨hS44, ho460⟩ := hS44
    have ho460 : Own w128 g 98 #[(.slice Ax a_xs.length cx), (.int .i64 x31.2)] := ho460
    have hl128 := leY hm6 hS44
    have hC128 := hC111.go hS44 (fun b e => Or.inr e)
    have ho461 := ho405.go hS44 (fun e => hn1 e.symm)
    have ho462 := ho406.go hS44 (fun e => hn2 e.symm)
    have ho463 := ho407.go hS44 (fun e => hn4 e.symm)
    obtain ⟨v47, hq12⟩ : ∃ v, (D 9) = v := ⟨_, rfl⟩
    rw [hq12] at d70
    refine lw_sub (E' := [(49, v47), (51, (.int .i64 x31.1)), (0, (.pointer (some ⟨g, 0, none⟩))), (1, (.int .i64 a_n)), (4, (.pointer (some ⟨g1, 0, none⟩))), (5, (.pointer (some ⟨g2, 0, none⟩))), (6, (.int .i64 x3)), (7, (.pointer (some ⟨g3, 0, none⟩)))]) ⟨(congrArg some hq12), (congrArg some d72), rfl, rfl, rfl, rfl, rfl, rfl, trivial⟩ ?_
    replace h := bind_some h
    obtain ⟨x32, hx32, h⟩ := h
    refine lw_op rfl rfl rfl (ow_indexSlice (R := RSpan) rfl rfl rfl d70 Tryd.underlying58 (Tryd.sizeOf76 _) hx32 fun p17 hp17 => ?_)
    refine lw_op rfl rfl rfl (ow_load (R := RSpan) rfl rfl hp17 (Tryd.sizeOf76 _) (Tryd.isAgg76 _) fun v48 hv48 => ?_)
    obtain rfl := open_Span hv48
    refine lw_op0 rfl rfl (ow_store (X := (One g)) (us := [(.int .i64 x32.Lo), (.int .i64 x32.Hi)]) (cs' := #[(.int .i64 x32.Lo), (.int .i64 x32.Hi)]) rfl rfl rfl rfl ho463 (Tryd.sizeOf76 _) rfl rfl rfl rfl hm9 (.inl hg6) rfl hC128 fun w129 ho464 hb85 hl129 hC129 => ?_)
    have ho465 := ho460.go hb85 (fun e => hn4 e)
    have ho466 := ho461.go hb85 (fun e => hn5 e)
    have ho467 := ho462.go hb85 (fun e => hn6 e)
    refine lw_nil (ew_then (cw_seq (cw_region (lw_op rfl rfl rfl (ow_fieldAddr rfl rfl Tryd.underlying76 rfl (Tryd.sizeOf3 _) ?_)))))
    refine lw_op rfl rfl rfl (ow_loadOwn1 rfl rfl rfl ho464 (Tryd.isAgg3 _) rfl ?_)
    refine lw_op rfl rfl rfl (ow_fieldAddr rfl rfl Tryd.underlying31 rfl (Tryd.sizeOf3 _) ?_)
    refine lw_op0 rfl rfl (ow_store (X := (One g)) (us := [(.int .i64 x32.Lo)]) (cs' := #[(.int .i64 x1.1), (.int .i64 x32.Lo), (.int .i64 0), (.bool bb1)]) rfl rfl rfl rfl ho467 (Tryd.sizeOf3 _) rfl rfl rfl rfl hm8 (.inl hg4) rfl hC129 fun w130 ho468 hb86 hl130 hC130 => ?_)
    have ho469 := ho465.go hb86 (fun e => hn2 e)
    have ho470 := ho466.go hb86 (fun e => hn3 e)
    have ho471 := ho464.go hb86 (fun e => hn6 e.symm)
    refine lw_nil (ew_then (cw_seq (cw_region (lw_op rfl rfl rfl (ow_fieldAddr rfl rfl Tryd.underlying76 rfl (Tryd.sizeOf3 _) ?_)))))
    refine lw_op rfl rfl rfl (ow_loadOwn1 rfl rfl rfl ho471 (Tryd.isAgg3 _) rfl ?_)
    refine lw_op rfl rfl rfl (ow_fieldAddr rfl rfl Tryd.underlying31 rfl (Tryd.sizeOf3 _) ?_)
    refine lw_op0 rfl rfl (ow_store (X := (One g)) (us := [(.int .i64 x32.Hi)]) (cs' := #[(.int .i64 x1.1), (.int .i64 x32.Lo), (.int .i64 x32.Hi), (.bool bb1)]) rfl rfl rfl rfl ho468 (Tryd.sizeOf3 _) rfl rfl rfl rfl hm8 (.inl hg4) rfl hC130 fun w131 ho472 hb87 hl131 hC131 => ?_)
    have ho473 := ho469.go hb87 (fun e => hn2 e)
    have ho474 := ho470.go hb87 (fun e => hn3 e)
    have ho475 := ho471.go hb87 (fun e => hn6 e.symm)
    refine lw_nil (ew_then (cw_seq (cw_seq (cw_region (lw_op rfl rfl rfl (ow_move rfl rfl ?_))))))
    refine lw_op rfl rfl rfl (ow_move rfl rfl ?_)
    replace h := bind_some h
    obtain ⟨x33, hx33, h⟩ := h
    refine lw_op rfl rfl rfl (ow_call rfl rfl Tryd.call92 (w_spec_l20Rd_odd (hG.mono (((((((((((((hl1.trans hl2).trans hl3).trans hl4).trans hl5).trans hl6).trans hl7).trans hl8).trans hl9).trans hl111).trans hl128).trans hl129).trans hl130).trans hl131)) hC131.old (VRep.mono (((((((((((((hl1.trans hl2).trans hl3).trans hl4).trans hl5).trans hl6).trans hl7).trans hl8).trans hl9).trans hl111).trans hl128).trans hl129).trans hl130).trans hl131) hxs) ho473 hm6 hx33) fun v49 w132 hv49 => ?_)
    obtain ⟨⟨hv49, ho476⟩, hb88⟩ := hv49
    have hl132 := Le.of_bx (Add g3 (Add g2 (Add g1 M))) hb88 (fun b e => (by rw [show b = g from e]; exact hm6))
    have hC132 := hC131.go hb88 (fun b e => Or.inr e)
    have ho477 := ho474.go hb88 (fun e => hn1 e.symm)
    have ho478 := ho472.go hb88 (fun e => hn2 e.symm)
    have ho479 := ho475.go hb88 (fun e => hn4 e.symm)
    obtain ⟨bb19, hbb19, rfl⟩ := vbool_ex hv49
    refine lw_nil (ew_then ?_)
    replace h := cond_some h
    rcases h with ⟨hc18, h⟩ | ⟨hc18, h⟩
    ·
     obtain rfl := hbb19.trans hc18
     refine cw_true rfl ?_
     refine cw_seq (cw_region (lw_op rfl rfl rfl (ow_move rfl rfl ?_)))
     replace h := bind_some h
     obtain ⟨x34, hx34, h⟩ := h
     refine lw_op rfl rfl rfl (ow_call rfl rfl Tryd.call87 (w_spec_l20Rd_pick (hG.mono ((((((((((((((hl1.trans hl2).trans hl3).trans hl4).trans hl5).trans hl6).trans hl7).trans hl8).trans hl9).trans hl111).trans hl128).trans hl129).trans hl130).trans hl131).trans hl132)) hC132.old (VRep.mono ((((((((((((((hl1.trans hl2).trans hl3).trans hl4).trans hl5).trans hl6).trans hl7).trans hl8).trans hl9).trans hl111).trans hl128).trans hl129).trans hl130).trans hl131).trans hl132) hxs) ho476 hm6 hx34) fun v50 w133 hv50 => ?_)
     obtain ⟨⟨hv50, ho480⟩, hb89⟩ := hv50
     have hl133 := Le.of_bx (Add g3 (Add g2 (Add g1 M))) hb89 (fun b e => (by rw [show b = g from e]; exact hm6))
     have hC133 := hC132.go hb89 (fun b e => Or.inr e)
     have ho481 := ho477.go hb89 (fun e => hn1 e.symm)
     have ho482 := ho478.go hb89 (fun e => hn2 e.symm)
     have ho483 := ho479.go hb89 (fun e => hn4 e.symm)
     obtain rfl := vint_eq hv50
     refine lw_nil (ew_then (cw_block ?_))
     refine cw_seq (cw_region (lw_op rfl rfl rfl (ow_eqlI rfl rfl rfl fun bb20 hbb20 => ?_)))
     refine lw_op rfl rfl rfl (ow_assign rfl rfl ?_)
     refine lw_nil (ew_then ?_)
     replace h := cond_some h
     rcases h with ⟨hc19, h⟩ | ⟨hc19, h⟩
     ·
      obtain rfl := hbb20.trans hc19
      refine cw_true rfl ?_
      refine cw_region (lw_op rfl rfl rfl (ow_buildSlice (R := RInt) (xs := [(-1), 4]) (cs := #[(.int .i64 (-1)), (.int .i64 4)]) (e := 3) rfl rfl (by kernel_rfl) rfl rfl ⟨_, _, rfl, (vint _).cells, _, _, rfl, (vint _).cells, rfl⟩ hC133 fun p18 w134 hw63 hb90 hl134 hC134 => ?_))
      have ho484 := ho480.no hb90
      have ho485 := ho481.no hb90
      have ho486 := ho482.no hb90
      have ho487 := ho483.no hb90
      refine lw_op rfl rfl rfl (ow_move rfl rfl ?_)
      replace h := bind_some h
      obtain ⟨x35, hx35, h⟩ := h
      refine lw_op rfl rfl rfl (ow_call rfl rfl Tryd.call87 (w_spec_l20Rd_pick (hG.mono ((((((((((((((((hl1.trans hl2).trans hl3).trans hl4).trans hl5).trans hl6).trans hl7).trans hl8).trans hl9).trans hl111).trans hl128).trans hl129).trans hl130).trans hl131).trans hl132).trans hl133).trans hl134)) hC134.old (VRep.mono ((((((((((((((((hl1.trans hl2).trans hl3).trans hl4).trans hl5).trans hl6).trans hl7).trans hl8).trans hl9).trans hl111).trans hl128).trans hl129).trans hl130).trans hl131).trans hl132).trans hl133).trans hl134) hxs) ho484 hm6 hx35) fun v51 w135 hv51 => ?_)
      obtain ⟨⟨hv51, ho488⟩, hb91⟩ := hv51
      have hl135 := Le.of_bx (Add g3 (Add g2 (Add g1 M))) hb91 (fun b e => (by rw [show b = g from e]; exact hm6))
      have hC135 := hC134.go hb91 (fun b e => Or.inr e)
      have ho489 := ho485.go hb91 (fun e => hn1 e.symm)
      have ho490 := ho486.go hb91 (fun e => hn2 e.symm)
      have ho491 := ho487.go hb91 (fun e => hn4 e.symm)
      obtain rfl := vint_eq hv51
      replace h := bind_some h
      obtain ⟨x36, hx36, h⟩ := h
      refine lw_op rfl rfl rfl (ow_indexSlice (R := RInt) rfl rfl rfl (VRep.mono hl135 hw63) Tryd.underlying84 (Tryd.sizeOf3 _) hx36 fun p19 hp19 => ?_)
      refine lw_op rfl rfl rfl (ow_load (R := RInt) rfl rfl hp19 (Tryd.sizeOf3 _) (Tryd.isAgg3 _) fun v52 hv52 => ?_)
      obtain rfl := vint_eq hv52
      refine lw_op rfl rfl rfl (ow_fieldAddr rfl rfl Tryd.underlying31 rfl (Tryd.sizeOf3 _) ?_)
      refine lw_op0 rfl rfl (ow_store (X := (One g)) (us := [(.int .i64 x36)]) (cs' := #[(.int .i64 x36), (.int .i64 x32.Lo), (.int .i64 x32.Hi), (.bool bb1)]) rfl rfl rfl rfl ho490 (Tryd.sizeOf3 _) rfl rfl rfl rfl hm8 (.inl hg4) rfl hC135 fun w136 ho492 hb92 hl136 hC136 => ?_)
      have ho493 := ho488.go hb92 (fun e => hn2 e)
      have ho494 := ho489.go hb92 (fun e => hn3 e)
      have ho495 := ho491.go hb92 (fun e => hn6 e.symm)
      refine lw_nil (ew_blockN ?_)
      refine ew_then (cw_seq (cw_region (lw_op rfl rfl rfl (ow_loadOwnA rfl rfl rfl ho492 (Tryd.isAgg31 _) (Tryd.sizeOf31 _) rfl ?_))))
      have hw64 : VRep RTest w136 (Add g3 (Add g2 (Add g1 M))) ({ Field := x36, Lo := x32.Lo, Hi := x32.Hi, Not := (x2.1 == 0) } : Test) (.agg #[(.int .i64 x36), (.int .i64 x32.Lo), (.int .i64 x32.Hi), (.bool bb1)]) := by subst hbb1; exact shut_Test
      refine lw_op0 rfl rfl (ow_store (X := (One g)) (us := [(.int .i64 x36), (.int .i64 x32.Lo), (.int .i64 x32.Hi), (.bool bb1)]) (cs' := #[(.int .i64 x36), (.int .i64 x32.Lo), (.int .i64 x32.Hi), (.bool bb1)]) rfl rfl rfl rfl ho494 (Tryd.sizeOf31 _) rfl rfl rfl rfl hm7 (.inl hg2) rfl hC136 fun w137 ho496 hb93 hl137 hC137 => ?_)
      have ho497 := ho493.go hb93 (fun e => hn1 e)
      have ho498 := ho492.go hb93 (fun e => hn3 e.symm)
      have ho499 := ho495.go hb93 (fun e => hn5 e.symm)
      refine lw_nil (ew_then (cw_ret ?_))
      have hw65 : VRep RTest w137 (Add g3 (Add g2 (Add g1 M))) ({ Field := x36, Lo := x32.Lo, Hi := x32.Hi, Not := (x2.1 == 0) } : Test) (.agg #[(.int .i64 x36), (.int .i64 x32.Lo), (.int .i64 x32.Hi), (.bool bb1)]) := by subst hbb1; exact shut_Test
      obtain rfl := Option.some.inj h
      exact ew_ret (res1 rfl (.cell rfl (own_loadVarA ho496 (Tryd.isAgg31 _) (Tryd.sizeOf31 _) rfl))) ⟨_, rfl, ⟨(hw65.mono hC137.back), ho497⟩, hC137.bx⟩
     ·
      obtain rfl := hbb20.trans hc19
      refine cw_false rfl ?_
      refine cw_seq (cw_region (lw_op rfl rfl rfl (ow_eqlI rfl rfl rfl fun bb21 hbb21 => ?_)))
      refine lw_op rfl rfl rfl (ow_assign rfl rfl ?_)
      refine lw_nil (ew_then ?_)
      replace h := cond_some h
      rcases h with ⟨hc20, h⟩ | ⟨hc20, h⟩
      ·
       obtain rfl := hbb21.trans hc20
       refine cw_true rfl ?_
       refine cw_region (lw_op rfl rfl rfl (ow_fieldAddr rfl rfl Tryd.underlying31 rfl (Tryd.sizeOf3 _) ?_))
       refine lw_op rfl rfl rfl (ow_loadOwn1 rfl rfl rfl ho482 (Tryd.isAgg3 _) rfl ?_)
       refine lw_op rfl rfl rfl (ow_add rfl rfl rfl ?_)
       refine lw_op rfl rfl rfl (ow_fieldAddr rfl rfl Tryd.underlying31 rfl (Tryd.sizeOf3 _) ?_)
       refine lw_op0 rfl rfl (ow_store (X := (One g)) (us := [(.int .i64 (W (x32.Hi + 1)))]) (cs' := #[(.int .i64 x1.1), (.int .i64 (W (x32.Hi + 1))), (.int .i64 x32.Hi), (.bool bb1)]) rfl rfl rfl rfl ho482 (Tryd.sizeOf3 _) rfl rfl rfl rfl hm8 (.inl hg4) rfl hC133 fun w138 ho500 hb94 hl138 hC138 => ?_)
       have ho501 := ho480.go hb94 (fun e => hn2 e)
       have ho502 := ho481.go hb94 (fun e => hn3 e)
       have ho503 := ho483.go hb94 (fun e => hn6 e.symm)
       refine lw_nil (ew_blockN ?_)
       refine ew_then (cw_seq (cw_region (lw_op rfl rfl rfl (ow_loadOwnA rfl rfl rfl ho500 (Tryd.isAgg31 _) (Tryd.sizeOf31 _) rfl ?_))))
       have hw66 : VRep RTest w138 (Add g3 (Add g2 (Add g1 M))) ({ Field := x1.1, Lo := (W (x32.Hi + 1)), Hi := x32.Hi, Not := (x2.1 == 0) } : Test) (.agg #[(.int .i64 x1.1), (.int .i64 (W (x32.Hi + 1))), (.int .i64 x32.Hi), (.bool bb1)]) := by subst hbb1; exact shut_Test
       refine lw_op0 rfl rfl (ow_store (X := (One g)) (us := [(.int .i64 x1.1), (.int .i64 (W (x32.Hi + 1))), (.int .i64 x32.Hi), (.bool bb1)]) (cs' := #[(.int .i64 x1.1), (.int .i64 (W (x32.Hi + 1))), (.int .i64 x32.Hi), (.bool bb1)]) rfl rfl rfl rfl ho502 (Tryd.sizeOf31 _) rfl rfl rfl rfl hm7 (.inl hg2) rfl hC138 fun w139 ho504 hb95 hl139 hC139 => ?_)
       have ho505 := ho501.go hb95 (fun e => hn1 e)
       have ho506 := ho500.go hb95 (fun e => hn3 e.symm)
       have ho507 := ho503.go hb95 (fun e => hn5 e.symm)
       refine lw_nil (ew_then (cw_ret ?_))
       have hw67 : VRep RTest w139 (Add g3 (Add g2 (Add g1 M))) ({ Field := x1.1, Lo := (W (x32.Hi + 1)), Hi := x32.Hi, Not := (x2.1 == 0) } : Test) (.agg #[(.int .i64 x1.1), (.int .i64 (W (x32.Hi + 1))), (.int .i64 x32.Hi), (.bool bb1)]) := by subst hbb1; exact shut_Test
       obtain rfl := Option.some.inj h
       exact ew_ret (res1 rfl (.cell rfl (own_loadVarA ho504 (Tryd.isAgg31 _) (Tryd.sizeOf31 _) rfl))) ⟨_, rfl, ⟨(hw67.mono hC139.back), ho505⟩, hC139.bx⟩
      ·
       obtain rfl := hbb21.trans hc20
       refine cw_false rfl ?_
       refine cw_region (lw_op rfl rfl rfl (ow_move rfl rfl ?_))
       refine lw_op rfl rfl rfl (ow_add rfl rfl rfl ?_)
       refine lw_op rfl rfl rfl (ow_fieldAddr rfl rfl Tryd.underlying31 rfl (Tryd.sizeOf3 _) ?_)
       refine lw_op0 rfl rfl (ow_store (X := (One g)) (us := [(.int .i64 (W (x3 + 1)))]) (cs' := #[(.int .i64 x1.1), (.int .i64 x32.Lo), (.int .i64 (W (x3 + 1))), (.bool bb1)]) rfl rfl rfl rfl ho482 (Tryd.sizeOf3 _) rfl rfl rfl rfl hm8 (.inl hg4) rfl hC133 fun w140 ho508 hb96 hl140 hC140 => ?_)
       have ho509 := ho480.go hb96 (fun e => hn2 e)
       have ho510 := ho481.go hb96 (fun e => hn3 e)
       have ho511 := ho483.go hb96 (fun e => hn6 e.symm)
       refine lw_nil (ew_blockN ?_)
       refine ew_then (cw_seq (cw_region (lw_op rfl rfl rfl (ow_loadOwnA rfl rfl rfl ho508 (Tryd.isAgg31 _) (Tryd.sizeOf31 _) rfl ?_))))
       have hw68 : VRep RTest w140 (Add g3 (Add g2 (Add g1 M))) ({ Field := x1.1, Lo := x32.Lo, Hi := (W (x3 + 1)), Not := (x2.1 == 0) } : Test) (.agg #[(.int .i64 x1.1), (.int .i64 x32.Lo), (.int .i64 (W (x3 + 1))), (.bool bb1)]) := by subst hbb1; exact shut_Test
       refine lw_op0 rfl rfl (ow_store (X := (One g)) (us := [(.int .i64 x1.1), (.int .i64 x32.Lo), (.int .i64 (W (x3 + 1))), (.bool bb1)]) (cs' := #[(.int .i64 x1.1), (.int .i64 x32.Lo), (.int .i64 (W (x3 + 1))), (.bool bb1)]) rfl rfl rfl rfl ho510 (Tryd.sizeOf31 _) rfl rfl rfl rfl hm7 (.inl hg2) rfl hC140 fun w141 ho512 hb97 hl141 hC141 => ?_)
       have ho513 := ho509.go hb97 (fun e => hn1 e)
       have ho514 := ho508.go hb97 (fun e => hn3 e.symm)
       have ho515 := ho511.go hb97 (fun e => hn5 e.symm)
       refine lw_nil (ew_then (cw_ret ?_))
       have hw69 : VRep RTest w141 (Add g3 (Add g2 (Add g1 M))) ({ Field := x1.1, Lo := x32.Lo, Hi := (W (x3 + 1)), Not := (x2.1 == 0) } : Test) (.agg #[(.int .i64 x1.1), (.int .i64 x32.Lo), (.int .i64 (W (x3 + 1))), (.bool bb1)]) := by subst hbb1; exact shut_Test
       obtain rfl := Option.some.inj h
       exact ew_ret (res1 rfl (.cell rfl (own_loadVarA ho512 (Tryd.isAgg31 _) (Tryd.sizeOf31 _) rfl))) ⟨_, rfl, ⟨(hw69.mono hC141.back), ho513⟩, hC141.bx⟩
    ·
     obtain rfl := hbb19.trans hc18
     refine cw_false rfl ?_
     refine cw_skip (ew_then (cw_seq (cw_region (lw_op rfl rfl rfl (ow_loadOwnA rfl rfl rfl ho478 (Tryd.isAgg31 _) (Tryd.sizeOf31 _) rfl ?_)))))
     have hw70 : VRep RTest w132 (Add g3 (Add g2 (Add g1 M))) ({ Field := x1.1, Lo := x32.Lo, Hi := x32.Hi, Not := (x2.1 == 0) } : Test) (.agg #[(.int .i64 x1.1), (.int .i64 x32.Lo), (.int .i64 x32.Hi), (.bool bb1)]) := by subst hbb1; exact shut_Test
     refine lw_op0 rfl rfl (ow_store (X := (One g)) (us := [(.int .i64 x1.1), (.int .i64 x32.Lo), (.int .i64 x32.Hi), (.bool bb1)]) (cs' := #[(.int .i64 x1.1), (.int .i64 x32.Lo), (.int .i64 x32.Hi), (.bool bb1)]) rfl rfl rfl rfl ho477 (Tryd.sizeOf31 _) rfl rfl rfl rfl hm7 (.inl hg2) rfl hC132 fun w142 ho516 hb98 hl142 hC142 => ?_)
     have ho517 := ho476.go hb98 (fun e => hn1 e)
     have ho518 := ho478.go hb98 (fun e => hn3 e.symm)
     have ho519 := ho479.go hb98 (fun e => hn5 e.symm)
     refine lw_nil (ew_then (cw_ret ?_))
     have hw71 : VRep RTest w142 (Add g3 (Add g2 (Add g1 M))) ({ Field := x1.1, Lo := x32.Lo, Hi := x32.Hi, Not := (x2.1 == 0) } : Test) (.agg #[(.int .i64 x1.1), (.int .i64 x32.Lo), (.int .i64 x32.Hi), (.bool bb1)]) := by subst hbb1; exact shut_Test
     obtain rfl := Option.some.inj h
     exact ew_ret (res1 rfl (.cell rfl (own_loadVarA ho516 (Tryd.isAgg31 _) (Tryd.sizeOf31 _) rfl))) ⟨_, rfl, ⟨(hw71.mono hC142.back), ho517⟩, hC142.bx⟩
  ·
   obtain rfl := hbb18.trans hc17
   refine cw_false rfl ?_
   refine cw_skip (ew_then (cw_seq (cw_region (lw_op rfl rfl rfl (ow_fieldAddr rfl rfl Tryd.underlying76 rfl (Tryd.sizeOf3 _) ?_)))))
   refine lw_op rfl rfl rfl (ow_loadOwn1 rfl rfl rfl ho407 (Tryd.isAgg3 _) rfl ?_)
   refine lw_op rfl rfl rfl (ow_fieldAddr rfl rfl Tryd.underlying31 rfl (Tryd.sizeOf3 _) ?_)
   refine lw_op0 rfl rfl (ow_store (X := (One g)) (us := [(.int .i64 x4.1.Lo)]) (cs' := #[(.int .i64 x1.1), (.int .i64 x4.1.Lo), (.int .i64 0), (.bool bb1)]) rfl rfl rfl rfl ho406 (Tryd.sizeOf3 _) rfl rfl rfl rfl hm8 (.inl hg4) rfl hC111 fun w143 ho520 hb99 hl143 hC143 => ?_)
   have ho521 := ho404.go hb99 (fun e => hn2 e)
   have ho522 := ho405.go hb99 (fun e => hn3 e)
   have ho523 := ho407.go hb99 (fun e => hn6 e.symm)
   refine lw_nil (ew_then (cw_seq (cw_region (lw_op rfl rfl rfl (ow_fieldAddr rfl rfl Tryd.underlying76 rfl (Tryd.sizeOf3 _) ?_)))))
   refine lw_op rfl rfl rfl (ow_loadOwn1 rfl rfl rfl ho523 (Tryd.isAgg3 _) rfl ?_)
   refine lw_op rfl rfl rfl (ow_fieldAddr rfl rfl Tryd.underlying31 rfl (Tryd.sizeOf3 _) ?_)
   refine lw_op0 rfl rfl (ow_store (X := (One g)) (us := [(.int .i64 x4.1.Hi)]) (cs' := #[(.int .i64 x1.1), (.int .i64 x4.1.Lo), (.int .i64 x4.1.Hi), (.bool bb1)]) rfl rfl rfl rfl ho520 (Tryd.sizeOf3 _) rfl rfl rfl rfl hm8 (.inl hg4) rfl hC143 fun w144 ho524 hb100 hl144 hC144 => ?_)
   have ho525 := ho521.go hb100 (fun e => hn2 e)
   have ho526 := ho522.go hb100 (fun e => hn3 e)
   have ho527 := ho523.go hb100 (fun e => hn6 e.symm)
   refine lw_nil (ew_then (cw_seq (cw_seq (cw_region (lw_op rfl rfl rfl (ow_move rfl rfl ?_))))))
   refine lw_op rfl rfl rfl (ow_move rfl rfl ?_)
   replace h := bind_some h
   obtain ⟨x37, hx37, h⟩ := h
   refine lw_op rfl rfl rfl (ow_call rfl rfl Tryd.call92 (w_spec_l20Rd_odd (hG.mono (((((((((((hl1.trans hl2).trans hl3).trans hl4).trans hl5).trans hl6).trans hl7).trans hl8).trans hl9).trans hl111).trans hl143).trans hl144)) hC144.old (VRep.mono (((((((((((hl1.trans hl2).trans hl3).trans hl4).trans hl5).trans hl6).trans hl7).trans hl8).trans hl9).trans hl111).trans hl143).trans hl144) hxs) ho525 hm6 hx37) fun v53 w145 hv53 => ?_)
   obtain ⟨⟨hv53, ho528⟩, hb101⟩ := hv53
   have hl145 := Le.of_bx (Add g3 (Add g2 (Add g1 M))) hb101 (fun b e => (by rw [show b = g from e]; exact hm6))
   have hC145 := hC144.go hb101 (fun b e => Or.inr e)
   have ho529 := ho526.go hb101 (fun e => hn1 e.symm)
   have ho530 := ho524.go hb101 (fun e => hn2 e.symm)
   have ho531 := ho527.go hb101 (fun e => hn4 e.symm)
   obtain ⟨bb22, hbb22, rfl⟩ := vbool_ex hv53
   refine lw_nil (ew_then ?_)
   replace h := cond_some h
   rcases h with ⟨hc21, h⟩ | ⟨hc21, h⟩
   ·
    obtain rfl := hbb22.trans hc21
    refine cw_true rfl ?_
    refine cw_seq (cw_region (lw_op rfl rfl rfl (ow_move rfl rfl ?_)))
    replace h := bind_some h
    obtain ⟨x38, hx38, h⟩ := h
    refine lw_op rfl rfl rfl (ow_call rfl rfl Tryd.call87 (w_spec_l20Rd_pick (hG.mono ((((((((((((hl1.trans hl2).trans hl3).trans hl4).trans hl5).trans hl6).trans hl7).trans hl8).trans hl9).trans hl111).trans hl143).trans hl144).trans hl145)) hC145.old (VRep.mono ((((((((((((hl1.trans hl2).trans hl3).trans hl4).trans hl5).trans hl6).trans hl7).trans hl8).trans hl9).trans hl111).trans hl143).trans hl144).trans hl145) hxs) ho528 hm6 hx38) fun v54 w146 hv54 => ?_)
    obtain ⟨⟨hv54, ho532⟩, hb102⟩ := hv54
    have hl146 := Le.of_bx (Add g3 (Add g2 (Add g1 M))) hb102 (fun b e => (by rw [show b = g from e]; exact hm6))
    have hC146 := hC145.go hb102 (fun b e => Or.inr e)
    have ho533 := ho529.go hb102 (fun e => hn1 e.symm)
    have ho534 := ho530.go hb102 (fun e => hn2 e.symm)
    have ho535 := ho531.go hb102 (fun e => hn4 e.symm)
    obtain rfl := vint_eq hv54
    refine lw_nil (ew_then (cw_block ?_))
    refine cw_seq (cw_region (lw_op rfl rfl rfl (ow_eqlI rfl rfl rfl fun bb23 hbb23 => ?_)))
    refine lw_op rfl rfl rfl (ow_assign rfl rfl ?_)
    refine lw_nil (ew_then ?_)
    replace h := cond_some h
    rcases h with ⟨hc22, h⟩ | ⟨hc22, h⟩
    ·
     obtain rfl := hbb23.trans hc22
     refine cw_true rfl ?_
     refine cw_region (lw_op rfl rfl rfl (ow_buildSlice (R := RInt) (xs := [(-1), 4]) (cs := #[(.int .i64 (-1)), (.int .i64 4)]) (e := 3) rfl rfl (by kernel_rfl) rfl rfl ⟨_, _, rfl, (vint _).cells, _, _, rfl, (vint _).cells, rfl⟩ hC146 fun p20 w147 hw72 hb103 hl147 hC147 => ?_))
     have ho536 := ho532.no hb103
     have ho537 := ho533.no hb103
     have ho538 := ho534.no hb103
     have ho539 := ho535.no hb103
     refine lw_op rfl rfl rfl (ow_move rfl rfl ?_)
     replace h := bind_some h
     obtain ⟨x39, hx39, h⟩ := h
     refine lw_op rfl rfl rfl (ow_call rfl rfl Tryd.call87 (w_spec_l20Rd_pick (hG.mono ((((((((((((((hl1.trans hl2).trans hl3).trans hl4).trans hl5).trans hl6).trans hl7).trans hl8).trans hl9).trans hl111).trans hl143).trans hl144).trans hl145).trans hl146).trans hl147)) hC147.old (VRep.mono ((((((((((((((hl1.trans hl2).trans hl3).trans hl4).trans hl5).trans hl6).trans hl7).trans hl8).trans hl9).trans hl111).trans hl143).trans hl144).trans hl145).trans hl146).trans hl147) hxs) ho536 hm6 hx39) fun v55 w148 hv55 => ?_)
     obtain ⟨⟨hv55, ho540⟩, hb104⟩ := hv55
     have hl148 := Le.of_bx (Add g3 (Add g2 (Add g1 M))) hb104 (fun b e => (by rw [show b = g from e]; exact hm6))
     have hC148 := hC147.go hb104 (fun b e => Or.inr e)
     have ho541 := ho537.go hb104 (fun e => hn1 e.symm)
     have ho542 := ho538.go hb104 (fun e => hn2 e.symm)
     have ho543 := ho539.go hb104 (fun e => hn4 e.symm)
     obtain rfl := vint_eq hv55
     replace h := bind_some h
     obtain ⟨x40, hx40, h⟩ := h
     refine lw_op rfl rfl rfl (ow_indexSlice (R := RInt) rfl rfl rfl (VRep.mono hl148 hw72) Tryd.underlying84 (Tryd.sizeOf3 _) hx40 fun p21 hp21 => ?_)
     refine lw_op rfl rfl rfl (ow_load (R := RInt) rfl rfl hp21 (Tryd.sizeOf3 _) (Tryd.isAgg3 _) fun v56 hv56 => ?_)
     obtain rfl := vint_eq hv56
     refine lw_op rfl rfl rfl (ow_fieldAddr rfl rfl Tryd.underlying31 rfl (Tryd.sizeOf3 _) ?_)
     refine lw_op0 rfl rfl (ow_store (X := (One g)) (us := [(.int .i64 x40)]) (cs' := #[(.int .i64 x40), (.int .i64 x4.1.Lo), (.int .i64 x4.1.Hi), (.bool bb1)]) rfl rfl rfl rfl ho542 (Tryd.sizeOf3 _) rfl rfl rfl rfl hm8 (.inl hg4) rfl hC148 fun w149 ho544 hb105 hl149 hC149 => ?_)
     have ho545 := ho540.go hb105 (fun e => hn2 e)
     have ho546 := ho541.go hb105 (fun e => hn3 e)
     have ho547 := ho543.go hb105 (fun e => hn6 e.symm)
     refine lw_nil (ew_blockN ?_)
     refine ew_then (cw_seq (cw_region (lw_op rfl rfl rfl (ow_loadOwnA rfl rfl rfl ho544 (Tryd.isAgg31 _) (Tryd.sizeOf31 _) rfl ?_))))
     have hw73 : VRep RTest w149 (Add g3 (Add g2 (Add g1 M))) ({ Field := x40, Lo := x4.1.Lo, Hi := x4.1.Hi, Not := (x2.1 == 0) } : Test) (.agg #[(.int .i64 x40), (.int .i64 x4.1.Lo), (.int .i64 x4.1.Hi), (.bool bb1)]) := by subst hbb1; exact shut_Test
     refine lw_op0 rfl rfl (ow_store (X := (One g)) (us := [(.int .i64 x40), (.int .i64 x4.1.Lo), (.int .i64 x4.1.Hi), (.bool bb1)]) (cs' := #[(.int .i64 x40), (.int .i64 x4.1.Lo), (.int .i64 x4.1.Hi), (.bool bb1)]) rfl rfl rfl rfl ho546 (Tryd.sizeOf31 _) rfl rfl rfl rfl hm7 (.inl hg2) rfl hC149 fun w150 ho548 hb106 hl150 hC150 => ?_)
     have ho549 := ho545.go hb106 (fun e => hn1 e)
     have ho550 := ho544.go hb106 (fun e => hn3 e.symm)
     have ho551 := ho547.go hb106 (fun e => hn5 e.symm)
     refine lw_nil (ew_then (cw_ret ?_))
     have hw74 : VRep RTest w150 (Add g3 (Add g2 (Add g1 M))) ({ Field := x40, Lo := x4.1.Lo, Hi := x4.1.Hi, Not := (x2.1 == 0) } : Test) (.agg #[(.int .i64 x40), (.int .i64 x4.1.Lo), (.int .i64 x4.1.Hi), (.bool bb1)]) := by subst hbb1; exact shut_Test
     obtain rfl := Option.some.inj h
     exact ew_ret (res1 rfl (.cell rfl (own_loadVarA ho548 (Tryd.isAgg31 _) (Tryd.sizeOf31 _) rfl))) ⟨_, rfl, ⟨(hw74.mono hC150.back), ho549⟩, hC150.bx⟩
    ·
     obtain rfl := hbb23.trans hc22
     refine cw_false rfl ?_
     refine cw_seq (cw_region (lw_op rfl rfl rfl (ow_eqlI rfl rfl rfl fun bb24 hbb24 => ?_)))
     refine lw_op rfl rfl rfl (ow_assign rfl rfl ?_)
     refine lw_nil (ew_then ?_)
     replace h := cond_some h
     rcases h with ⟨hc23, h⟩ | ⟨hc23, h⟩
     ·
      obtain rfl := hbb24.trans hc23
      refine cw_true rfl ?_
      refine cw_region (lw_op rfl rfl rfl (ow_fieldAddr rfl rfl Tryd.underlying31 rfl (Tryd.sizeOf3 _) ?_))
      refine lw_op rfl rfl rfl (ow_loadOwn1 rfl rfl rfl ho534 (Tryd.isAgg3 _) rfl ?_)
      refine lw_op rfl rfl rfl (ow_add rfl rfl rfl ?_)
      refine lw_op rfl rfl rfl (ow_fieldAddr rfl rfl Tryd.underlying31 rfl (Tryd.sizeOf3 _) ?_)
      refine lw_op0 rfl rfl (ow_store (X := (One g)) (us := [(.int .i64 (W (x4.1.Hi + 1)))]) (cs' := #[(.int .i64 x1.1), (.int .i64 (W (x4.1.Hi + 1))), (.int .i64 x4.1.Hi), (.bool bb1)]) rfl rfl rfl rfl ho534 (Tryd.sizeOf3 _) rfl rfl rfl rfl hm8 (.inl hg4) rfl hC146 fun w151 ho552 hb107 hl151 hC151 => ?_)
      have ho553 := ho532.go hb107 (fun e => hn2 e)
      have ho554 := ho533.go hb107 (fun e => hn3 e)
      have ho555 := ho535.go hb107 (fun e => hn6 e.symm)
      refine lw_nil (ew_blockN ?_)
      refine ew_then (cw_seq (cw_region (lw_op rfl rfl rfl (ow_loadOwnA rfl rfl rfl ho552 (Tryd.isAgg31 _) (Tryd.sizeOf31 _) rfl ?_))))
      have hw75 : VRep RTest w151 (Add g3 (Add g2 (Add g1 M))) ({ Field := x1.1, Lo := (W (x4.1.Hi + 1)), Hi := x4.1.Hi, Not := (x2.1 == 0) } : Test) (.agg #[(.int .i64 x1.1), (.int .i64 (W (x4.1.Hi + 1))), (.int .i64 x4.1.Hi), (.bool bb1)]) := by subst hbb1; exact shut_Test
      refine lw_op0 rfl rfl (ow_store (X := (One g)) (us := [(.int .i64 x1.1), (.int .i64 (W (x4.1.Hi + 1))), (.int .i64 x4.1.Hi), (.bool bb1)]) (cs' := #[(.int .i64 x1.1), (.int .i64 (W (x4.1.Hi + 1))), (.int .i64 x4.1.Hi), (.bool bb1)]) rfl rfl rfl rfl ho554 (Tryd.sizeOf31 _) rfl rfl rfl rfl hm7 (.inl hg2) rfl hC151 fun w152 ho556 hb108 hl152 hC152 => ?_)
      have ho557 := ho553.go hb108 (fun e => hn1 e)
      have ho558 := ho552.go hb108 (fun e => hn3 e.symm)
      have ho559 := ho555.go hb108 (fun e => hn5 e.symm)
      refine lw_nil (ew_then (cw_ret ?_))
      have hw76 : VRep RTest w152 (Add g3 (Add g2 (Add g1 M))) ({ Field := x1.1, Lo := (W (x4.1.Hi + 1)), Hi := x4.1.Hi, Not := (x2.1 == 0) } : Test) (.agg #[(.int .i64 x1.1), (.int .i64 (W (x4.1.Hi + 1))), (.int .i64 x4.1.Hi), (.bool bb1)]) := by subst hbb1; exact shut_Test
      obtain rfl := Option.some.inj h
      exact ew_ret (res1 rfl (.cell rfl (own_loadVarA ho556 (Tryd.isAgg31 _) (Tryd.sizeOf31 _) rfl))) ⟨_, rfl, ⟨(hw76.mono hC152.back), ho557⟩, hC152.bx⟩
     ·
      obtain rfl := hbb24.trans hc23
      refine cw_false rfl ?_
      refine cw_region (lw_op rfl rfl rfl (ow_move rfl rfl ?_))
      refine lw_op rfl rfl rfl (ow_add rfl rfl rfl ?_)
      refine lw_op rfl rfl rfl (ow_fieldAddr rfl rfl Tryd.underlying31 rfl (Tryd.sizeOf3 _) ?_)
      refine lw_op0 rfl rfl (ow_store (X := (One g)) (us := [(.int .i64 (W (x3 + 1)))]) (cs' := #[(.int .i64 x1.1), (.int .i64 x4.1.Lo), (.int .i64 (W (x3 + 1))), (.bool bb1)]) rfl rfl rfl rfl ho534 (Tryd.sizeOf3 _) rfl rfl rfl rfl hm8 (.inl hg4) rfl hC146 fun w153 ho560 hb109 hl153 hC153 => ?_)
      have ho561 := ho532.go hb109 (fun e => hn2 e)
      have ho562 := ho533.go hb109 (fun e => hn3 e)
      have ho563 := ho535.go hb109 (fun e => hn6 e.symm)
      refine lw_nil (ew_blockN ?_)
      refine ew_then (cw_seq (cw_region (lw_op rfl rfl rfl (ow_loadOwnA rfl rfl rfl ho560 (Tryd.isAgg31 _) (Tryd.sizeOf31 _) rfl ?_))))
      have hw77 : VRep RTest w153 (Add g3 (Add g2 (Add g1 M))) ({ Field := x1.1, Lo := x4.1.Lo, Hi := (W (x3 + 1)), Not := (x2.1 == 0) } : Test) (.agg #[(.int .i64 x1.1), (.int .i64 x4.1.Lo), (.int .i64 (W (x3 + 1))), (.bool bb1)]) := by subst hbb1; exact shut_Test
      refine lw_op0 rfl rfl (ow_store (X := (One g)) (us := [(.int .i64 x1.1), (.int .i64 x4.1.Lo), (.int .i64 (W (x3 + 1))), (.bool bb1)]) (cs' := #[(.int .i64 x1.1), (.int .i64 x4.1.Lo), (.int .i64 (W (x3 + 1))), (.bool bb1)]) rfl rfl rfl rfl ho562 (Tryd.sizeOf31 _) rfl rfl rfl rfl hm7 (.inl hg2) rfl hC153 fun w154 ho564 hb110 hl154 hC154 => ?_)
      have ho565 := ho561.go hb110 (fun e => hn1 e)
      have ho566 := ho560.go hb110 (fun e => hn3 e.symm)
      have ho567 := ho563.go hb110 (fun e => hn5 e.symm)
      refine lw_nil (ew_then (cw_ret ?_))
      have hw78 : VRep RTest w154 (Add g3 (Add g2 (Add g1 M))) ({ Field := x1.1, Lo := x4.1.Lo, Hi := (W (x3 + 1)), Not := (x2.1 == 0) } : Test) (.agg #[(.int .i64 x1.1), (.int .i64 x4.1.Lo), (.int .i64 (W (x3 + 1))), (.bool bb1)]) := by subst hbb1; exact shut_Test
      obtain rfl := Option.some.inj h
      exact ew_ret (res1 rfl (.cell rfl (own_loadVarA ho564 (Tryd.isAgg31 _) (Tryd.sizeOf31 _) rfl))) ⟨_, rfl, ⟨(hw78.mono hC154.back), ho565⟩, hC154.bx⟩
   ·
    obtain rfl := hbb22.trans hc21
    refine cw_false rfl ?_
    refine cw_skip (ew_then (cw_seq (cw_region (lw_op rfl rfl rfl (ow_loadOwnA rfl rfl rfl ho530 (Tryd.isAgg31 _) (Tryd.sizeOf31 _) rfl ?_)))))
    have hw79 : VRep RTest w145 (Add g3 (Add g2 (Add g1 M))) ({ Field := x1.1, Lo := x4.1.Lo, Hi := x4.1.Hi, Not := (x2.1 == 0) } : Test) (.agg #[(.int .i64 x1.1), (.int .i64 x4.1.Lo), (.int .i64 x4.1.Hi), (.bool bb1)]) := by subst hbb1; exact shut_Test
    refine lw_op0 rfl rfl (ow_store (X := (One g)) (us := [(.int .i64 x1.1), (.int .i64 x4.1.Lo), (.int .i64 x4.1.Hi), (.bool bb1)]) (cs' := #[(.int .i64 x1.1), (.int .i64 x4.1.Lo), (.int .i64 x4.1.Hi), (.bool bb1)]) rfl rfl rfl rfl ho529 (Tryd.sizeOf31 _) rfl rfl rfl rfl hm7 (.inl hg2) rfl hC145 fun w155 ho568 hb111 hl155 hC155 => ?_)
    have ho569 := ho528.go hb111 (fun e => hn1 e)
    have ho570 := ho530.go hb111 (fun e => hn3 e.symm)
    have ho571 := ho531.go hb111 (fun e => hn5 e.symm)
    refine lw_nil (ew_then (cw_ret ?_))
    have hw80 : VRep RTest w155 (Add g3 (Add g2 (Add g1 M))) ({ Field := x1.1, Lo := x4.1.Lo, Hi := x4.1.Hi, Not := (x2.1 == 0) } : Test) (.agg #[(.int .i64 x1.1), (.int .i64 x4.1.Lo), (.int .i64 x4.1.Hi), (.bool bb1)]) := by subst hbb1; exact shut_Test
    obtain rfl := Option.some.inj h
    exact ew_ret (res1 rfl (.cell rfl (own_loadVarA ho568 (Tryd.isAgg31 _) (Tryd.sizeOf31 _) rfl))) ⟨_, rfl, ⟨(hw80.mono hC155.back), ho569⟩, hC155.bx⟩

theorem w_spec_l20Tests {w : World} {M : Nat → Prop} (hG : ARep (RArr 4 RShape) w M shapes ⟨0, 0, none⟩) (hO : ∀ b, M b → b < w.heap.size) {g : Nat} {Ax : Option Addr} {cx : Nat} {a_xs : List Int} {a_pos : Int} (hxs : VRep (RSlice RU8) w M a_xs (.slice Ax a_xs.length cx)) (hown : Own w g 98 #[.slice Ax a_xs.length cx, .int .i64 a_pos]) (hgM : M g) {a_n : Int} {r : ((List Test)) × Int} (h : F.spec_l20Tests a_xs a_pos a_n = some r) :
  Calls Tryd.prog 53 [(.pointer (some ⟨g, 0, none⟩)), (.int .i64 a_n)].toArray w fun e w' => ∃ v, e = .returned v ∧ (VRep (RSlice RTest) w' M r.1 v ∧ Own w' g 98 #[.slice Ax a_xs.length cx, .int .i64 r.2]) ∧ BX (One g) w w' := by
 obtain ⟨i31, hi31, hz31, hs31, hy31⟩ := info31
 have hX : ∀ b, (One g) b → M b := fun b e => e ▸ hgM
 have hC : Cx (One g) w M w M := Cx.start hO hX
 refine walk (N := 32) Tryd.func53 rfl Tryd.ntmps53 rfl ?_
 refine cw_seq (cw_region (lw_op rfl rfl rfl (ow_assign rfl rfl ?_)))
 refine lw_nil (ew_then (cw_seq (cw_region (lw_op rfl rfl rfl (ow_buildSlice0 (R := RTest) (e := 31) rfl (by kernel_rfl) hC fun p1 w1 M1 hr1 hb1 hl1 hC1 hM1 hat1 => ?_)))))
 have ho1 := hown.no hb1
 have hm1 := hM1 _ hgM
 refine lw_op rfl rfl rfl (ow_assign rfl rfl ?_)
 refine lw_nil (ew_then (cw_seq (cw_seq (cw_region (lw_op rfl rfl rfl (ow_move rfl rfl ?_))))))
 replace h := bind_some h
 obtain ⟨x1, hx1, h⟩ := h
 refine lw_op rfl rfl rfl (ow_call rfl rfl Tryd.call87 (w_spec_l20Rd_pick (hG.mono hl1) hC1.old (VRep.mono hl1 hxs) ho1 hm1 hx1) fun v1 w2 hv1 => ?_)
 obtain ⟨⟨hv1, ho2⟩, hb2⟩ := hv1
 have hl2 := Le.of_bx M1 hb2 (fun b e => (by rw [show b = g from e]; exact hm1))
 have hC2 := hC1.go hb2 (fun b e => Or.inr e)
 have hr2 := hr1.go hb2 (fun k hk e => (orow_ne hr1 ho1 (by decide)) (hk.trans (congrArg some e))) hl2 (fun _ h => h)
 obtain rfl := vint_eq hv1
 refine lw_op rfl rfl rfl (ow_assign rfl rfl ?_)
 refine lw_nil (ew_then ?_)
 replace h := bind_some h
 obtain ⟨lr1, hlr1, h⟩ := h
 refine cw_for hlr1 (fun s a w' => ∃ (M' : Nat → Prop) (v0c : Value), Fits 32 [(0, (.pointer (some ⟨g, 0, none⟩))), (1, (.int .i64 a_n)), (5, v0c), (6, (.int .i64 s.2.1))] a ∧ Le w2 M1 w' M' ∧ Cx (One g) w M w' M' ∧ OwnRow RTest w.heap.size 31 w' M' s.1 v0c ∧ Own w' g 98 #[(.slice Ax a_xs.length cx), (.int .i64 s.2.2)] ∧ M' g) ?_ ?_ ?_
 ·
  intro a ha
  exact ⟨M1, (.slice (some p1) 0 0), ha.sub ⟨rfl, rfl, rfl, rfl, trivial⟩, Le.refl _ _, hC2, hr2, ho2, hm1⟩
 ·
  rintro ⟨y1, k1, k2⟩ a w3 sr1 ⟨M2, v2, hF1, hl3, hC3, hw1, ho3, hm2⟩ hb3 hR1
  refine cw_at (E := [(0, (.pointer (some ⟨g, 0, none⟩))), (1, (.int .i64 a_n)), (5, v2), (6, (.int .i64 k1))]) hF1 ?_
  refine cw_seq (cw_seq (cw_region (lw_op rfl rfl rfl (ow_move rfl rfl ?_))))
  refine lw_op rfl rfl rfl (ow_gtr rfl rfl rfl fun bb1 hbb1 => ?_)
  refine lw_nil (ew_then ?_)
  replace hb3 := cond_some hb3
  rcases hb3 with ⟨hc1, hb3⟩ | ⟨hc1, hb3⟩
  ·
   obtain rfl := hbb1.trans hc1
   refine cw_true rfl ?_
   refine cw_skip (ew_then (cw_seq (cw_block ?_)))
   refine cw_region (lw_op rfl rfl rfl (ow_move rfl rfl ?_))
   refine lw_op rfl rfl rfl (ow_move rfl rfl ?_)
   replace hb3 := bind_some hb3
   obtain ⟨x2, hx2, hb3⟩ := hb3
   refine lw_op rfl rfl rfl (ow_call rfl rfl Tryd.call91 (w_spec_l20Test (hG.mono ((hl1.trans hl2).trans hl3)) hC3.old (VRep.mono ((hl1.trans hl2).trans hl3) hxs) ho3 hm2 hx2) fun v5 w4 hv5 => ?_)
   obtain ⟨⟨hv5, ho4⟩, hb4⟩ := hv5
   have hl4 := Le.of_bx M2 hb4 (fun b e => (by rw [show b = g from e]; exact hm2))
   have hC4 := hC3.go hb4 (fun b e => Or.inr e)
   have hr3 := hw1.go hb4 (fun k hk e => (orow_ne hw1 ho3 (by decide)) (hk.trans (congrArg some e))) hl4 (fun _ h => h)
   obtain rfl := open_Test hv5
   refine lw_op rfl rfl rfl (ow_buildSlice (R := RTest) (xs := [x2.1]) (cs := #[(.int .i64 x2.1.Field), (.int .i64 x2.1.Lo), (.int .i64 x2.1.Hi), (.bool x2.1.Not)]) (e := 31) rfl rfl (by kernel_rfl) rfl rfl ⟨_, _, rfl, hv5.cells, rfl⟩ hC4 fun p2 w5 hw2 hb5 hl5 hC5 => ?_)
   have ho5 := ho4.no hb5
   have hr4 := hr3.no hb5
   replace hb3 := bind_some hb3
   obtain ⟨z1, hz1, hb3⟩ := hb3
   refine lw_op rfl rfl rfl (ow_append (R := RTest) rfl rfl rfl rfl Tryd.underlying23 hi31 hz31 hs31 hy31 rfl rfl rfl rfl hr4 hw2 hz1 hC5 fun v6 w6 M3 hr5 hb6 hl6 hC6 hM2 hat2 => ?_)
   have ho6 := ho5.go hb6 (fun e => (orow_ne hr4 ho5 (by decide)) e)
   have hm3 := hM2 _ hm2
   refine lw_op rfl rfl rfl (ow_assign rfl rfl ?_)
   refine lw_nil (ew_blockN ?_)
   refine ew_then (cw_region (lw_op rfl rfl rfl (ow_move rfl rfl ?_)))
   refine lw_op rfl rfl rfl (ow_sub rfl rfl rfl ?_)
   refine lw_op rfl rfl rfl (ow_assign rfl rfl ?_)
   refine lw_nil (ew_nxt (z1, (W (k1 - 1)), x2.2) hb3 fun a ha => ⟨M3, v6, ?_, (((hl3.trans hl4).trans hl5).trans hl6), hC6, hr5, ho6, hm3⟩)
   exact ha.sub ⟨rfl, rfl, rfl, rfl, trivial⟩
  ·
   obtain rfl := hbb1.trans hc1
   refine cw_false rfl ?_
   refine cw_exit ?_
   refine ew_thenX ?_
   refine ew_thenX ?_
   refine ew_blockX ?_
   refine ew_brk (y1, k1, k2) hb3 fun a ha => ⟨M2, v2, ?_, hl3, hC3, hw1, ho3, hm2⟩
   exact ha.sub ⟨rfl, rfl, rfl, rfl, trivial⟩
 ·
  rintro ⟨y2, k3, k4⟩ a w7 hlr2 ⟨M4, v7, hF2, hl7, hC7, hw3, ho7, hm4⟩
  subst hlr2
  refine ew_at (E := [(0, (.pointer (some ⟨g, 0, none⟩))), (1, (.int .i64 a_n)), (5, v7), (6, (.int .i64 k3))]) hF2 ?_
  refine ew_then (cw_seq (cw_seq (cw_region (lw_op rfl rfl rfl (ow_move rfl rfl ?_)))))
  refine lw_op rfl rfl rfl (ow_move rfl rfl ?_)
  replace h := bind_some h
  obtain ⟨x3, hx3, h⟩ := h
  refine lw_op rfl rfl rfl (ow_call rfl rfl Tryd.call92 (w_spec_l20Rd_odd (hG.mono ((hl1.trans hl2).trans hl7)) hC7.old (VRep.mono ((hl1.trans hl2).trans hl7) hxs) ho7 hm4 hx3) fun v10 w8 hv10 => ?_)
  obtain ⟨⟨hv10, ho8⟩, hb7⟩ := hv10
  have hl8 := Le.of_bx M4 hb7 (fun b e => (by rw [show b = g from e]; exact hm4))
  have hC8 := hC7.go hb7 (fun b e => Or.inr e)
  have hr6 := hw3.go hb7 (fun k hk e => (orow_ne hw3 ho7 (by decide)) (hk.trans (congrArg some e))) hl8 (fun _ h => h)
  obtain ⟨bb2, hbb2, rfl⟩ := vbool_ex hv10
  refine lw_nil (ew_then ?_)
  replace h := cond_some h
  rcases h with ⟨hc2, h⟩ | ⟨hc2, h⟩
  ·
   obtain rfl := hbb2.trans hc2
   refine cw_true rfl ?_
   refine cw_seq (cw_region (lw_op rfl rfl rfl (ow_move rfl rfl ?_)))
   replace h := bind_some h
   obtain ⟨x4, hx4, h⟩ := h
   refine lw_op rfl rfl rfl (ow_call rfl rfl Tryd.call87 (w_spec_l20Rd_pick (hG.mono (((hl1.trans hl2).trans hl7).trans hl8)) hC8.old (VRep.mono (((hl1.trans hl2).trans hl7).trans hl8) hxs) ho8 hm4 hx4) fun v11 w9 hv11 => ?_)
   obtain ⟨⟨hv11, ho9⟩, hb8⟩ := hv11
   have hl9 := Le.of_bx M4 hb8 (fun b e => (by rw [show b = g from e]; exact hm4))
   have hC9 := hC8.go hb8 (fun b e => Or.inr e)
   have hr7 := hr6.go hb8 (fun k hk e => (orow_ne hr6 ho8 (by decide)) (hk.trans (congrArg some e))) hl9 (fun _ h => h)
   obtain rfl := vint_eq hv11
   refine lw_op rfl rfl rfl (ow_eqlI rfl rfl rfl fun bb3 hbb3 => ?_)
   refine lw_nil (ew_then ?_)
   replace h := cond_some h
   rcases h with ⟨hc3, h⟩ | ⟨hc3, h⟩
   ·
    obtain rfl := hbb3.trans hc3
    refine cw_true rfl ?_
    refine cw_region (lw_op rfl rfl rfl (ow_move rfl rfl ?_))
    refine lw_op rfl rfl rfl (ow_move rfl rfl ?_)
    replace h := bind_some h
    obtain ⟨x5, hx5, h⟩ := h
    refine lw_op rfl rfl rfl (ow_call rfl rfl Tryd.call91 (w_spec_l20Test (hG.mono ((((hl1.trans hl2).trans hl7).trans hl8).trans hl9)) hC9.old (VRep.mono ((((hl1.trans hl2).trans hl7).trans hl8).trans hl9) hxs) ho9 hm4 hx5) fun v12 w10 hv12 => ?_)
    obtain ⟨⟨hv12, ho10⟩, hb9⟩ := hv12
    have hl10 := Le.of_bx M4 hb9 (fun b e => (by rw [show b = g from e]; exact hm4))
    have hC10 := hC9.go hb9 (fun b e => Or.inr e)
    have hr8 := hr7.go hb9 (fun k hk e => (orow_ne hr7 ho9 (by decide)) (hk.trans (congrArg some e))) hl10 (fun _ h => h)
    obtain rfl := open_Test hv12
    refine lw_op rfl rfl rfl (ow_buildSlice (R := RTest) (xs := [x5.1]) (cs := #[(.int .i64 x5.1.Field), (.int .i64 x5.1.Lo), (.int .i64 x5.1.Hi), (.bool x5.1.Not)]) (e := 31) rfl rfl (by kernel_rfl) rfl rfl ⟨_, _, rfl, hv12.cells, rfl⟩ hC10 fun p3 w11 hw4 hb10 hl11 hC11 => ?_)
    have ho11 := ho10.no hb10
    have hr9 := hr8.no hb10
    replace h := bind_some h
    obtain ⟨z2, hz2, h⟩ := h
    refine lw_op rfl rfl rfl (ow_append (R := RTest) rfl rfl rfl rfl Tryd.underlying23 hi31 hz31 hs31 hy31 rfl rfl rfl rfl hr9 hw4 hz2 hC11 fun v13 w12 M5 hr10 hb11 hl12 hC12 hM3 hat3 => ?_)
    have ho12 := ho11.go hb11 (fun e => (orow_ne hr9 ho11 (by decide)) e)
    have hm5 := hM3 _ hm4
    refine lw_op rfl rfl rfl (ow_assign rfl rfl ?_)
    refine lw_nil (ew_then (cw_seq (cw_region (lw_op rfl rfl rfl (ow_move rfl rfl ?_)))))
    refine lw_op rfl rfl rfl (ow_assign rfl rfl ?_)
    refine lw_nil (ew_then (cw_ret ?_))
    obtain rfl := Option.some.inj h
    exact ew_ret (res1 rfl (.tmp rfl)) ⟨_, rfl, ⟨(hr10.freezeBack hC12 hO), ho12⟩, hC12.bx⟩
   ·
    obtain rfl := hbb3.trans hc3
    refine cw_false rfl ?_
    refine cw_region ?_
    replace h := bind_some h
    obtain ⟨mk1, hmk1, h⟩ := h
    refine lw_op rfl rfl rfl (ow_make (R := RTest) rfl rfl rfl Tryd.underlying23 hi31 hz31 hs31 hy31 rfl rfl (shut_Test) hmk1 hC9 fun v14 w13 M6 hr11 hb12 hl13 hC13 hM4 hat4 => ?_)
    have ho13 := ho9.no hb12
    have hm6 := hM4 _ hm4
    have hr12 := hr7.go hb12 (fun _ _ e => e) hl13 hM4
    refine lw_op rfl rfl rfl (ow_assign rfl rfl ?_)
    refine lw_nil (ew_then (cw_seq (cw_region (lw_op rfl rfl rfl (ow_move rfl rfl ?_)))))
    refine lw_op rfl rfl rfl (ow_assign rfl rfl ?_)
    refine lw_nil (ew_then (cw_ret ?_))
    obtain rfl := Option.some.inj h
    exact ew_ret (res1 rfl (.tmp rfl)) ⟨_, rfl, ⟨(hr11.freezeBack hC13 hO), ho13⟩, hC13.bx⟩
  ·
   obtain rfl := hbb2.trans hc2
   refine cw_false rfl ?_
   refine cw_skip (ew_then (cw_seq (cw_region (lw_op rfl rfl rfl (ow_move rfl rfl ?_)))))
   refine lw_op rfl rfl rfl (ow_assign rfl rfl ?_)
   refine lw_nil (ew_then (cw_ret ?_))
   obtain rfl := Option.some.inj h
   exact ew_ret (res1 rfl (.tmp rfl)) ⟨_, rfl, ⟨(hr6.freezeBack hC8 hO), ho8⟩, hC8.bx⟩

theorem w_spec_l20Open {w : World} {M : Nat → Prop} (_hG : ARep (RArr 4 RShape) w M shapes ⟨0, 0, none⟩) (hO : ∀ b, M b → b < w.heap.size) {v0p : Value} {a_code : List Int} (h0 : VRep (RSlice RU8) w M a_code v0p) {r : List Int × Int} (h : F.spec_l20Open a_code = some r) :
  Calls Tryd.prog 54 [v0p].toArray w fun e w' => ∃ v, e = .returned v ∧ (∃ g A c, v = .pointer (some ⟨g, 0, none⟩) ∧ w.heap.size ≤ g ∧ Own w' g 98 #[.slice A r.1.length c, .int .i64 r.2] ∧ VRep (RSlice RU8) w' (Add g M) r.1 (.slice A r.1.length c)) ∧ BX No w w' := by
 have hC : Cx No w M w M := Cx.start hO (fun _ e => e.elim)
 clear _hG
 refine walk (N := 11) Tryd.func54 rfl Tryd.ntmps54 rfl ?_
 refine cw_seq (cw_region (lw_op rfl rfl rfl (ow_assign rfl rfl ?_)))
 refine lw_nil (ew_then (cw_seq (cw_seq (cw_region (lw_op rfl rfl rfl (ow_move rfl rfl ?_))))))
 refine lw_op rfl rfl rfl (ow_len rfl rfl h0 Tryd.underlying22 rfl ?_)
 refine lw_op rfl rfl rfl (ow_gtr rfl rfl rfl fun bb1 hbb1 => ?_)
 refine lw_nil (ew_then ?_)
 replace h := cond_some h
 rcases h with ⟨hc1, h⟩ | ⟨hc1, h⟩
 ·
  obtain rfl := hbb1.trans hc1
  refine cw_true rfl ?_
  refine cw_region (lw_op rfl rfl rfl (ow_move rfl rfl ?_))
  replace h := bind_some h
  obtain ⟨y1, hy1, h⟩ := h
  refine lw_op rfl rfl rfl (ow_sliceTo (R := RU8) rfl rfl rfl h0 Tryd.underlying22 (Tryd.sizeOf5 _) (takeF_some hy1).2 fun v1 hv1 => ?_)
  rw [← (takeF_some hy1).1] at hv1
  refine lw_op rfl rfl rfl (ow_assign rfl rfl ?_)
  refine lw_nil (ew_then (cw_seq (cw_region (lw_op rfl rfl rfl (ow_move rfl rfl ?_)))))
  obtain ⟨A1, c1, rfl, -⟩ := vslice_shape hv1
  refine lw_op rfl rfl rfl (ow_build (v := .agg #[(.slice A1 y1.length c1), (.int .i64 0)]) rfl rfl (by kernel_rfl) ?_)
  have hw1 : VRep Rl20Rd w M ({ b := y1, p := 0 } : l20Rd) (.agg #[(.slice A1 y1.length c1), (.int .i64 0)]) := shut_l20Rd hv1
  refine lw_op rfl rfl rfl (ow_boxOwn rfl rfl hC fun g1 w1 hg1 hg2 ho1 hb1 hl1 hC1 => ?_)
  have hm1 : (Add g1 M) g1 := .inl rfl
  refine lw_op rfl rfl rfl (ow_assign rfl rfl ?_)
  refine lw_nil (ew_then (cw_ret ?_))
  obtain rfl := Option.some.inj h
  exact ew_ret (res1 rfl (.tmp rfl)) ⟨_, rfl, ⟨_, _, _, rfl, hg2, ho1, (VRep.mono hl1 hv1)⟩, hC1.bx⟩
 ·
  obtain rfl := hbb1.trans hc1
  refine cw_false rfl ?_
  refine cw_skip (ew_then (cw_seq (cw_region (lw_op rfl rfl rfl (ow_move rfl rfl ?_)))))
  obtain ⟨A2, c2, rfl, -⟩ := vslice_shape h0
  refine lw_op rfl rfl rfl (ow_build (v := .agg #[(.slice A2 a_code.length c2), (.int .i64 0)]) rfl rfl (by kernel_rfl) ?_)
  have hw2 : VRep Rl20Rd w M ({ b := a_code, p := 0 } : l20Rd) (.agg #[(.slice A2 a_code.length c2), (.int .i64 0)]) := shut_l20Rd h0
  refine lw_op rfl rfl rfl (ow_boxOwn rfl rfl hC fun g2 w2 hg3 hg4 ho2 hb2 hl2 hC2 => ?_)
  have hm2 : (Add g2 M) g2 := .inl rfl
  refine lw_op rfl rfl rfl (ow_assign rfl rfl ?_)
  refine lw_nil (ew_then (cw_ret ?_))
  obtain rfl := Option.some.inj h
  exact ew_ret (res1 rfl (.tmp rfl)) ⟨_, rfl, ⟨_, _, _, rfl, hg4, ho2, (VRep.mono hl2 h0)⟩, hC2.bx⟩

theorem w_spec_DrawTestsBox {w : World} {M : Nat → Prop} (hG : ARep (RArr 4 RShape) w M shapes ⟨0, 0, none⟩) (hO : ∀ b, M b → b < w.heap.size) {v0p : Value} {a_code : List Int} (h0 : VRep (RSlice RU8) w M a_code v0p) {r : (List Test)} (h : F.spec_DrawTestsBox a_code = some r) :
  Calls Tryd.prog 15 [v0p].toArray w fun e w' => ∃ v, e = .returned v ∧ VRep (RSlice RTest) w' M r v ∧ BX No w w' := by
 have hC : Cx No w M w M := Cx.start hO (fun _ e => e.elim)
 refine walk (N := 6) Tryd.func15 rfl Tryd.ntmps15 rfl ?_
 refine cw_seq (cw_region (lw_op rfl rfl rfl (ow_assign rfl rfl ?_)))
 refine lw_nil (ew_then (cw_seq (cw_region (lw_op rfl rfl rfl (ow_move rfl rfl ?_)))))
 replace h := bind_some h
 obtain ⟨x1, hx1, h⟩ := h
 refine lw_op rfl rfl rfl (ow_call rfl rfl Tryd.call54 (w_spec_l20Open hG hC.old h0 hx1) fun v1 w1 hv1 => ?_)
 obtain ⟨⟨g1, A1, c1, rfl, hg1, ho1, hw1⟩, hb1⟩ := hv1
 have hl1 := (Le.no M hb1).add hg1
 have hg2 := Nat.le_trans hC.bx.size hg1
 have hC1 := (hC.no hb1).add ho1.lt hg2
 have hm1 : (Add g1 M) g1 := .inl rfl
 replace h := bind_some h
 obtain ⟨x2, hx2, h⟩ := h
 refine lw_op rfl rfl rfl (ow_call rfl rfl Tryd.call53 (w_spec_l20Tests (hG.mono hl1) hC1.old hw1 ho1 hm1 hx2) fun v2 w2 hv2 => ?_)
 obtain ⟨⟨hv2, ho2⟩, hb2⟩ := hv2
 have hl2 := Le.of_bx (Add g1 M) hb2 (fun b e => (by rw [show b = g1 from e]; exact hm1))
 have hC2 := hC1.go hb2 (fun b e => (by rw [show b = g1 from e]; exact (.inl hg2)))
 refine lw_op rfl rfl rfl (ow_assign rfl rfl ?_)
 refine lw_nil (ew_then (cw_ret ?_))
 obtain rfl := Option.some.inj h
 exact ew_ret (res1 rfl (.tmp rfl)) ⟨_, rfl, (VRep.mono hC2.back hv2), hC2.bx⟩

theorem w_impl_FieldTop {w : World} {M : Nat → Prop} (hG : ARep (RArr 4 RShape) w M shapes ⟨0, 0, none⟩) (hO : ∀ b, M b → b < w.heap.size) {a_n : Int} {r : Int} (h : F.impl_FieldTop a_n = some r) :
  Calls Tryd.prog 69 [(.int .i64 a_n)].toArray w fun e w' => ∃ v, e = .returned v ∧ VRep RInt w' M r v ∧ BX No w w' := by
 have hC : Cx No w M w M := Cx.start hO (fun _ e => e.elim)
 refine walk (N := 13) Tryd.func69 rfl Tryd.ntmps69 rfl ?_
 refine cw_seq (cw_region (lw_op rfl rfl rfl (ow_assign rfl rfl ?_)))
 refine lw_nil (ew_then (cw_seq (cw_seq (cw_region (lw_op rfl rfl rfl (ow_move rfl rfl ?_))))))
 refine lw_op rfl rfl rfl (ow_lss rfl rfl rfl fun bb1 hbb1 => ?_)
 refine lw_op rfl rfl rfl (ow_move rfl rfl ?_)
 replace h := cond_some h
 rcases h with ⟨hc1, h⟩ | ⟨hc1, h⟩
 ·
  obtain rfl := hbb1.trans hc1
  refine lw_off rfl rfl rfl rfl rfl rfl ?_
  refine lw_off rfl rfl rfl rfl rfl rfl ?_
  refine lw_op rfl rfl rfl (ow_pickT rfl rfl rfl ?_)
  refine lw_nil (ew_then (cw_true rfl ?_))
  refine cw_seq (cw_region (lw_op rfl rfl rfl (ow_assign rfl rfl ?_)))
  refine lw_nil (ew_then (cw_ret (ew_thenR ?_)))
  obtain rfl := Option.some.inj h
  exact ew_ret (res1 rfl (.tmp rfl)) ⟨_, rfl, ((vint _)), hC.bx⟩
 ·
  obtain rfl := hbb1.trans hc1
  refine lw_on rfl rfl rfl rfl rfl rfl (ow_move rfl rfl ?_)
  refine lw_on rfl rfl rfl rfl rfl rfl (ow_geq rfl rfl rfl fun bb2 hbb2 => ?_)
  refine lw_op rfl rfl rfl (ow_pickF rfl rfl rfl ?_)
  refine lw_nil (ew_then ?_)
  replace h := cond_some h
  rcases h with ⟨hc2, h⟩ | ⟨hc2, h⟩
  ·
   obtain rfl := hbb2.trans hc2
   refine cw_true rfl ?_
   refine cw_seq (cw_region (lw_op rfl rfl rfl (ow_assign rfl rfl ?_)))
   refine lw_nil (ew_then (cw_ret (ew_thenR ?_)))
   obtain rfl := Option.some.inj h
   exact ew_ret (res1 rfl (.tmp rfl)) ⟨_, rfl, ((vint _)), hC.bx⟩
  ·
   obtain rfl := hbb2.trans hc2
   refine cw_false rfl ?_
   refine cw_skip (ew_then (cw_seq (cw_region (lw_op rfl rfl rfl (ow_move rfl rfl ?_)))))
   replace h := bind_some h
   obtain ⟨x1, hx1, h⟩ := h
   refine lw_op rfl rfl rfl (ow_indexArr (R := RShape) rfl rfl rfl hG Tryd.underlying109 (Tryd.sizeOf108 _) hx1 fun p1 hp1 => ?_)
   refine lw_op rfl rfl rfl (ow_fieldAddr rfl rfl Tryd.underlying108 rfl (Tryd.sizeOf3 _) ?_)
   refine lw_op rfl rfl rfl (ow_load (R := RInt) rfl rfl (hp1.fld fld_Shape_top) (Tryd.sizeOf3 _) (Tryd.isAgg3 _) fun v1 hv1 => ?_)
   obtain rfl := vint_eq hv1
   refine lw_op rfl rfl rfl (ow_assign rfl rfl ?_)
   refine lw_nil (ew_then (cw_ret ?_))
   obtain rfl := Option.some.inj h
   exact ew_ret (res1 rfl (.tmp rfl)) ⟨_, rfl, ((vint _)), hC.bx⟩


end Go.PF
