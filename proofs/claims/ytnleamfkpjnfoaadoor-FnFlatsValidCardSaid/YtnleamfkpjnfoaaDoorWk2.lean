/- The walks; no condition. -/
import Derived.Test.YtnleamfkpjnfoaaDoorProg
import Derived.Test.YtnleamfkpjnfoaaDoorWk1
import Derived.Test.YtnleamfkpjnfoaaDoorPFHead
set_option maxRecDepth 100000
set_option maxHeartbeats 4000000
namespace Go.PF
open Go Go.RowKit Go.Proofs

theorem w_spec_l20Flats {w : World} {M : Nat → Prop} (hG : ARep (RArr 4 RShape) w M shapes ⟨0, 0, none⟩) (hO : ∀ b, M b → b < w.heap.size) {g : Nat} {Ax : Option Addr} {cx : Nat} {a_xs : List Int} {a_pos : Int} (hxs : VRep (RSlice RU8) w M a_xs (.slice Ax a_xs.length cx)) (hown : Own w g 98 #[.slice Ax a_xs.length cx, .int .i64 a_pos]) (hgM : M g) {a_n : Int} {r : ((List Flat)) × Int} (h : F.spec_l20Flats a_xs a_pos a_n = some r) :
  Calls Tryd.prog 63 [(.pointer (some ⟨g, 0, none⟩)), (.int .i64 a_n)].toArray w fun e w' => ∃ v, e = .returned v ∧ (VRep (RSlice RFlat) w' M r.1 v ∧ Own w' g 98 #[.slice Ax a_xs.length cx, .int .i64 r.2]) ∧ BX (One g) w w' := by
 obtain ⟨i41, hi41, hz41, hs41, hy41⟩ := info41
 obtain ⟨i58, hi58, hz58, hs58, hy58⟩ := info58
 have hX : ∀ b, (One g) b → M b := fun b e => e ▸ hgM
 have hC : Cx (One g) w M w M := Cx.start hO hX
 refine walk (N := 84) Tryd.func63 Z Tryd.ntmps63 Z (cw_seq (cw_region (lw_op Z Z Z (ow_assign Z Z (lw_nil (ew_then (cw_seq (cw_region (lw_op Z Z Z (ow_buildSlice0 (R := RFlat) (e := 41) Z (by kernel_rfl) hC fun p1 w1 M1 hr1 hb1 hl1 hC1 hM1 hat1 => ?_))))))))))
 have ho1 := hown.no hb1
 have hm1 := hM1 _ hgM
 refine lw_op Z Z Z (ow_assign Z Z (lw_nil (ew_then (cw_seq (cw_seq (cw_region (lw_op Z Z Z (ow_move Z Z ?_))))))))
 replace h := bind_some h
 obtain ⟨x1, hx1, h⟩ := h
 refine lw_op Z Z Z (ow_call Z Z Tryd.call87 (w_spec_l20Rd_pick (hG.mono hl1) hC1.old (VRep.mono hl1 hxs) ho1 hm1 hx1) fun v1 w2 hv1 => ?_)
 obtain ⟨⟨hv1, ho2⟩, hb2⟩ := hv1
 have hl2 := Le.of_bx M1 hb2 (fun b e => (by rw [show b = g from e]; exact hm1))
 have hC2 := hC1.go hb2 (fun b e => Or.inr e)
 have hr2 := hr1.go hb2 (fun k hk e => (orow_ne hr1 ho1 (by decide)) (hk.trans (congrArg some e))) hl2 (fun _ h => h)
 obtain rfl := vint_eq hv1
 refine lw_op Z Z Z (ow_assign Z Z (lw_nil (ew_then ?_)))
 replace h := bind_some h
 obtain ⟨lr1, hlr1, h⟩ := h
 refine cw_for hlr1 (fun s a w' => ∃ (M' : Nat → Prop) (v0c : Value), Fits 84 [(0, (.pointer (some ⟨g, 0, none⟩))), (1, (.int .i64 a_n)), (5, v0c), (6, (.int .i64 s.2.1))] a ∧ Le w2 M1 w' M' ∧ Cx (One g) w M w' M' ∧ OwnRow RFlat w.heap.size 41 w' M' s.1 v0c ∧ Own w' g 98 #[(.slice Ax a_xs.length cx), (.int .i64 s.2.2)] ∧ M' g) ?_ ?_ ?_
 ·
  intro a ha
  exact ⟨M1, (.slice (some p1) 0 0), ha.sub ⟨Z, Z, Z, Z, trivial⟩, Le.refl _ _, hC2, hr2, ho2, hm1⟩
 ·
  rintro ⟨y1, k1, k2⟩ a w3 sr1 ⟨M2, v2, hF1, hl3, hC3, hw1, ho3, hm2⟩ hb3 hR1
  refine cw_at (E := [(0, (.pointer (some ⟨g, 0, none⟩))), (1, (.int .i64 a_n)), (5, v2), (6, (.int .i64 k1))]) hF1 (cw_seq (cw_seq (cw_region (lw_op Z Z Z (ow_move Z Z (lw_op Z Z Z (ow_gtr Z Z Z fun bb1 hbb1 => lw_nil (ew_then ?_))))))))
  replace hb3 := cond_some hb3
  rcases hb3 with ⟨hc1, hb3⟩ | ⟨hc1, hb3⟩
  ·
   obtain rfl := hbb1.trans hc1
   refine cw_true Z (cw_skip (ew_then (cw_seq (cw_block (cw_seq (cw_region (lw_op Z Z Z (ow_move Z Z ?_))))))))
   have lz1 := ((hl1.trans hl2).trans hl3)
   replace hb3 := bind_some hb3
   obtain ⟨x2, hx2, hb3⟩ := hb3
   refine lw_op Z Z Z (ow_call Z Z Tryd.call73 (w_spec_l20Box (hG.mono lz1) hC3.old (VRep.mono lz1 hxs) ho3 hm2 hx2) fun v5 w4 hv5 => ?_)
   obtain ⟨⟨hv5, ho4⟩, hb4⟩ := hv5
   have hl4 := Le.of_bx M2 hb4 (fun b e => (by rw [show b = g from e]; exact hm2))
   have hC4 := hC3.go hb4 (fun b e => Or.inr e)
   have hr3 := hw1.go hb4 (fun k hk e => (orow_ne hw1 ho3 (by decide)) (hk.trans (congrArg some e))) hl4 (fun _ h => h)
   refine lw_op Z Z Z (ow_move Z Z ?_)
   replace hb3 := bind_some hb3
   obtain ⟨x3, hx3, hb3⟩ := hb3
   refine lw_op Z Z Z (ow_call Z Z Tryd.call87 (w_spec_l20Rd_pick (hG.mono (lz1.trans hl4)) hC4.old (VRep.mono (lz1.trans hl4) hxs) ho4 hm2 hx3) fun v6 w5 hv6 => ?_)
   obtain ⟨⟨hv6, ho5⟩, hb5⟩ := hv6
   have hl5 := Le.of_bx M2 hb5 (fun b e => (by rw [show b = g from e]; exact hm2))
   have hC5 := hC4.go hb5 (fun b e => Or.inr e)
   have hr4 := hr3.go hb5 (fun k hk e => (orow_ne hr3 ho4 (by decide)) (hk.trans (congrArg some e))) hl5 (fun _ h => h)
   obtain rfl := vint_eq hv6
   refine lw_op Z Z Z (ow_eqlI Z Z Z fun bb2 hbb2 => ?_)
   obtain ⟨A1, c1, rfl, hw2⟩ := open_Box hv5
   refine lw_op Z Z Z (ow_build (v := .agg #[(.slice A1 x2.1.Sides.length c1), (.bool bb2)]) Z Z (by kernel_rfl) (lw_op Z Z Z (ow_alloc Z (Tryd.zeroValue41 _) hC5 fun g1 w6 hg1 hg2 ho6 hb6 hl6 hC6 => ?_)))
   have hn1 := Nat.ne_of_lt (Nat.lt_of_lt_of_le ho5.lt hg1)
   have ho7 := ho5.no hb6
   have hm3 : (Add g1 M2) g := .inr hm2
   have hn2 := nb_fresh hr4 hg1
   have hr5 := hr4.add hb6 hg1
   have hm4 : (Add g1 M2) g1 := .inl Z
   refine lw_op0 Z Z (ow_store (X := (One g)) (us := [(.slice A1 x2.1.Sides.length c1), (.bool bb2)]) (cs' := #[(.slice A1 x2.1.Sides.length c1), (.bool bb2)]) Z Z Z Z ho6 (Tryd.sizeOf41 _) Z Z Z Z hm4 (.inl hg2) Z hC6 fun w7 ho8 hb7 hl7 hC7 => ?_)
   have ho9 := ho7.go hb7 (fun e => hn1 e)
   have hr6 := hr5.go hb7 (fun k hk e => hn2 (hk.trans (congrArg some e))) hl7 (fun _ h => h)
   refine lw_nil (ew_then (cw_seq (cw_seq (cw_region (lw_op Z Z Z (ow_move Z Z (lw_op Z Z Z (ow_lenOwn Z Z hr6 Tryd.underlying37 (lw_op Z Z Z (ow_gtr Z Z Z fun bb3 hbb3 => lw_op Z Z Z (ow_move Z Z ?_)))))))))))
   replace hb3 := cond_some hb3
   rcases hb3 with ⟨hc2, hb3⟩ | ⟨hc2, hb3⟩
   ·
    obtain rfl := hbb3.trans hc2
    refine lw_on Z Z Z Z Z Z (ow_move Z Z ?_)
    have lz2 := ((((lz1.trans hl4).trans hl5).trans hl6).trans hl7)
    replace hb3 := bind_some hb3
    obtain ⟨x4, hx4, hb3⟩ := hb3
    refine lw_on Z Z Z Z Z Z (ow_call Z Z Tryd.call87 (w_spec_l20Rd_pick (hG.mono lz2) hC7.old (VRep.mono lz2 hxs) ho9 hm3 hx4) fun v7 w8 hv7 => ?_)
    obtain ⟨⟨hv7, ho10⟩, hb8⟩ := hv7
    have hl8 := Le.of_bx (Add g1 M2) hb8 (fun b e => (by rw [show b = g from e]; exact hm3))
    have hC8 := hC7.go hb8 (fun b e => Or.inr e)
    have ho11 := ho8.go hb8 (fun e => hn1 e.symm)
    have hr7 := hr6.go hb8 (fun k hk e => (orow_ne hr6 ho9 (by decide)) (hk.trans (congrArg some e))) hl8 (fun _ h => h)
    obtain rfl := vint_eq hv7
    refine lw_on Z Z Z Z Z Z (ow_eqlI Z Z Z fun bb4 hbb4 => lw_op Z Z Z (ow_pickT Z Z Z (lw_nil (ew_then ?_))))
    replace hb3 := cond_some hb3
    rcases hb3 with ⟨hc3, hb3⟩ | ⟨hc3, hb3⟩
    ·
     obtain rfl := hbb4.trans hc3
     refine cw_true Z (cw_seq (cw_region (lw_op Z Z Z (ow_buildSlice0 (R := (RSlice RSpan)) (e := 58) Z (by kernel_rfl) hC8 fun p2 w9 M3 hr8 hb9 hl9 hC9 hM2 hat2 => ?_))))
     have ho12 := ho10.no hb9
     have hm5 := hM2 _ hm3
     have ho13 := ho11.no hb9
     have hm6 := hM2 _ hm4
     have hr9 := hr7.go hb9 (fun _ _ e => e) hl9 hM2
     refine lw_op Z Z Z (ow_move Z Z (lw_op Z Z Z (ow_move Z Z (lw_op Z Z Z (ow_lenOwn Z Z hr9 Tryd.underlying37 (lw_op Z Z Z (ow_sub Z Z Z ?_)))))))
     replace hb3 := bind_some hb3
     obtain ⟨x5, hx5, hb3⟩ := hb3
     refine lw_op Z Z Z (ow_indexRow (R := RFlat) Z Z Z hr9 Tryd.underlying37 (Tryd.sizeOf41 _) hx5 (lw_op Z Z Z (ow_fieldAddr Z Z Tryd.underlying41 Z (Tryd.sizeOf27 _) (lw_op Z Z Z (ow_fieldAddr Z Z Tryd.underlying27 Z (Tryd.sizeOf25 _) (lw_op Z Z Z (ow_loadElRow (R := RFlat) (S := (RSlice (RSlice RSpan))) Z Z Z hr9 (orow_blk hr9 hx5) hx5 (Fld.comp fld_Flat_Where fld_Box_Sides (by decide)) (Tryd.sizeOf25 _) (Tryd.isAgg25 _) fun v8 hv8 => ?_)))))))
     replace hb3 := bind_some hb3
     obtain ⟨z1, hz1, hb3⟩ := hb3
     refine lw_op Z Z Z (ow_append (R := (RSlice RSpan)) Z Z Z Z Tryd.underlying25 hi58 hz58 hs58 hy58 Z Z Z Z hr8 hv8 hz1 hC9 fun v9 w10 M4 hr10 hb10 hl10 hC10 hM3 hat3 => ?_)
     have ho14 := ho12.go hb10 (fun e => (orow_ne hr8 ho12 (by decide)) e)
     have hm7 := hM3 _ hm5
     have ho15 := ho13.go hb10 (fun e => (orow_ne hr8 ho13 (by decide)) e)
     have hm8 := hM3 _ hm6
     have hr11 := hr9.goRow hr8 hb10 hl10 hM3 (by decide)
     obtain ⟨A2, c2, rfl⟩ := hr10.len
     refine lw_op Z Z Z (ow_build (v := .agg #[(.slice A2 z1.length c2)]) Z Z (by kernel_rfl) (lw_op Z Z Z (ow_fieldAddr Z Z Tryd.underlying41 Z (Tryd.sizeOf27 _) (lw_op0 Z Z (ow_store (X := (One g)) (us := [(.slice A2 z1.length c2)]) (cs' := #[(.slice A2 z1.length c2), (.bool bb2)]) Z Z Z Z ho15 (Tryd.sizeOf27 _) Z Z Z Z hm8 (.inl hg2) Z hC10 fun w11 ho16 hb11 hl11 hC11 => ?_)))))
     have ho17 := ho14.go hb11 (fun e => hn1 e)
     have hr12 := hr11.go hb11 (fun k hk e => hn2 (hk.trans (congrArg some e))) hl11 (fun _ h => h)
     have hr13 := hr10.go hb11 (fun k hk e => (orow_ne hr10 ho15 (by decide)) (hk.trans (congrArg some e))) hl11 (fun _ h => h)
     refine lw_nil (ew_then (cw_seq (cw_region (lw_op Z Z Z (ow_move Z Z ?_)))))
     have lz3 := ((((lz2.trans hl8).trans hl9).trans hl10).trans hl11)
     replace hb3 := bind_some hb3
     obtain ⟨x6, hx6, hb3⟩ := hb3
     refine lw_op Z Z Z (ow_call Z Z Tryd.call87 (w_spec_l20Rd_pick (hG.mono lz3) hC11.old (VRep.mono lz3 hxs) ho17 hm7 hx6) fun v10 w12 hv10 => ?_)
     obtain ⟨⟨hv10, ho18⟩, hb12⟩ := hv10
     have hl12 := Le.of_bx M4 hb12 (fun b e => (by rw [show b = g from e]; exact hm7))
     have hC12 := hC11.go hb12 (fun b e => Or.inr e)
     have ho19 := ho16.go hb12 (fun e => hn1 e.symm)
     have hr14 := hr12.go hb12 (fun k hk e => (orow_ne hr12 ho17 (by decide)) (hk.trans (congrArg some e))) hl12 (fun _ h => h)
     have hr15 := hr13.go hb12 (fun k hk e => (orow_ne hr13 ho17 (by decide)) (hk.trans (congrArg some e))) hl12 (fun _ h => h)
     obtain rfl := vint_eq hv10
     refine lw_op Z Z Z (ow_assign Z Z (lw_nil (ew_then (cw_seq ?_))))
     replace hb3 := bind_some hb3
     obtain ⟨x7, hx7, hb3⟩ := hb3
     replace hb3 := bind_some hb3
     obtain ⟨x8, hx8, hb3⟩ := hb3
     have lz4 := (lz3.trans hl12)
     refine cw_sub (E' := [(0, (.pointer (some ⟨g, 0, none⟩))), (1, (.int .i64 a_n)), (5, v2), (6, (.int .i64 k1)), (7, (.pointer (some ⟨g1, 0, none⟩))), (8, (.int .i64 x6.1))]) ⟨Z, Z, Z, Z, Z, Z, trivial⟩ (cw_drawC (g := g) (T := 98) 8 1 [none, none, none, none, none, none, none, some 0] [#[(.slice Ax a_xs.length cx), (.int .i64 x6.2)], #[(.slice Ax a_xs.length cx), (.int .i64 x8.2)]] [PEq (.pointer (some ⟨g1, 0, none⟩)), PEq (.pointer (some ⟨g1, 0, none⟩)), PEq (.slice A2 z1.length c2), PEq (.int .i64 x6.1), PEq (.pointer (some ⟨g, 0, none⟩)), PEq (.int .i64 x6.1), PEq (.int .i64 x7), PV (RSlice RSpan) M4 x8.1] (by kernel_rfl) Z (by kernel_rfl) (by kernel_rfl) ho18 ⟨(PEq.monoY hm7 _), (PEq.monoY hm7 _), (PEq.monoY hm7 _), (PEq.monoY hm7 _), (PEq.monoY hm7 _), (PEq.monoY hm7 _), (PEq.monoY hm7 _), (PV.monoY hm7 _ _), trivial⟩ ⟨?_, ?_, ?_, ?_, ?_, ?_, ?_, ?_, trivial⟩ ?_)
     ·
      intro w15 D hS1 hd1
      exact dg_sub (E' := [(7, (.pointer (some ⟨g1, 0, none⟩)))]) ⟨Z, trivial⟩ (dg_plain Z (ow_fieldAddr Z Z Tryd.underlying41 Z (Tryd.sizeOf27 _) ⟨BX.refl _ _, Z⟩))
     ·
      intro w16 D hS2 hd2
      exact dg_sub (E' := [(44, (.pointer (some ⟨g1, 0, none⟩)))]) ⟨(dpE hd2 0 Z Z), trivial⟩ (dg_plain Z (ow_fieldAddr Z Z Tryd.underlying27 Z (Tryd.sizeOf25 _) ⟨BX.refl _ _, Z⟩))
     ·
      intro w17 D hS3 hd3
      have ho26 := ho19.go hS3 (fun e => hn1 e.symm)
      exact dg_sub (E' := [(45, (.pointer (some ⟨g1, 0, none⟩)))]) ⟨(dpE hd3 1 Z Z), trivial⟩ (dg_plain Z (ow_loadOwn1 Z Z Z ho26 (Tryd.isAgg25 _) Z ⟨BX.refl _ _, Z⟩))
     ·
      intro w18 D hS4 hd4
      exact dg_sub (E' := [(8, (.int .i64 x6.1))]) ⟨Z, trivial⟩ (dg_plain Z (ow_move Z Z ⟨BX.refl _ _, Z⟩))
     ·
      intro w19 D hS5 hd5
      exact dg_sub (E' := [(0, (.pointer (some ⟨g, 0, none⟩)))]) ⟨Z, trivial⟩ (dg_plain Z (ow_move Z Z ⟨BX.refl _ _, Z⟩))
     ·
      intro w20 D hS6 hd6
      exact dg_sub (E' := [(8, (.int .i64 x6.1))]) ⟨Z, trivial⟩ (dg_plain Z (ow_move Z Z ⟨BX.refl _ _, Z⟩))
     ·
      intro w21 D hS7 hd7
      have hl21 := leY hm7 hS7
      have hC21 := hC12.go hS7 (fun b e => Or.inr e)
      refine dg_sub (E' := [(49, (.int .i64 x6.1))]) ⟨(dpE hd7 5 Z Z), trivial⟩ (dg_plain Z (ow_call Z Z Tryd.call81 (w_spec_FieldTop (hG.mono (lz4.trans hl21)) hC21.old hx7) fun v13 w22 hv13 => ?_))
      obtain ⟨hv13, hb15⟩ := hv13
      obtain rfl := vint_eq hv13
      exact ⟨hb15, Z⟩
     ·
      intro w23 D hS8 hd8
      obtain ⟨hS8, ho32⟩ := hS8
      have ho32 : Own w23 g 98 #[(.slice Ax a_xs.length cx), (.int .i64 x6.2)] := ho32
      have hl23 := leY hm7 hS8
      have hC23 := hC12.go hS8 (fun b e => Or.inr e)
      refine dg_sub (E' := [(48, (.pointer (some ⟨g, 0, none⟩))), (50, (.int .i64 x7))]) ⟨(dpE hd8 4 Z Z), (dpE hd8 6 Z Z), trivial⟩ (dg_plain Z (ow_call Z Z Tryd.call98 (w_spec_l20Set (hG.mono (lz4.trans hl23)) hC23.old (VRep.mono (lz4.trans hl23) hxs) ho32 hm7 hx8) fun v14 w24 hv14 => ?_))
      obtain ⟨⟨hv14, ho34⟩, hb16⟩ := hv14
      exact ⟨⟨⟨hS8.trans hb16, ho34⟩, hb16⟩, hv14⟩
     ·
      intro w25 D hS9 hd9
      have d14 : PV (RSlice RSpan) M4 x8.1 (D 7) w25 := dpA hd9 7 Z
      obtain ⟨hS9, ho36⟩ := hS9
      have ho36 : Own w25 g 98 #[(.slice Ax a_xs.length cx), (.int .i64 x8.2)] := ho36
      have hl25 := leY hm7 hS9
      have hC25 := hC12.go hS9 (fun b e => Or.inr e)
      have ho37 := ho19.go hS9 (fun e => hn1 e.symm)
      have hr40 := hr14.go hS9 (fun k hk e => (orow_ne hr14 ho18 (by decide)) (hk.trans (congrArg some e))) hl25 (fun _ h => h)
      have hr41 := hr15.go hS9 (fun k hk e => (orow_ne hr15 ho18 (by decide)) (hk.trans (congrArg some e))) hl25 (fun _ h => h)
      generalize hq1 : (D 7) = v15 at d14
      refine lw_sub (E' := [(46, (.slice A2 z1.length c2)), (47, (.int .i64 x6.1)), (51, v15), (0, (.pointer (some ⟨g, 0, none⟩))), (1, (.int .i64 a_n)), (5, v2), (6, (.int .i64 k1)), (7, (.pointer (some ⟨g1, 0, none⟩))), (8, (.int .i64 x6.1))]) ⟨(dpE hd9 2 Z Z), (dpE hd9 3 Z Z), (congrArg some hq1), Z, Z, Z, Z, Z, Z, trivial⟩ ?_
      replace hb3 := bind_some hb3
      obtain ⟨x9, hx9, hb3⟩ := hb3
      refine lw_op Z Z Z (ow_indexRow (R := (RSlice RSpan)) Z Z Z hr41 Tryd.underlying25 (Tryd.sizeOf58 _) hx9 (lw_op0 Z Z (ow_storeElRow (X := (One g)) (R := (RSlice RSpan)) (S := (RSlice RSpan)) Z Z Z Z hr41 (orow_blk hr41 hx9) hx9 (FldSet.whole (RSlice RSpan)) (Tryd.sizeOf58 _) d14 (Nat.le_refl _) hC25 fun w26 ho38 hb17 hl26 hC26 => ?_)))
      have ho39 := ho36.go hb17 (fun e => (orow_ne hr41 ho36 (by decide)) (by rw [orow_blk hr41 hx9]; exact congrArg some e.symm))
      have ho40 := ho37.go hb17 (fun e => (orow_ne hr41 ho37 (by decide)) (by rw [orow_blk hr41 hx9]; exact congrArg some e.symm))
      have hr42 := hr40.go hb17 (fun k hk e => orow_row_ne hr40 hr41 (by decide) hk (by rw [orow_blk hr41 hx9]; exact congrArg some e.symm)) hl26 (fun _ h => h)
      refine lw_nil (ew_then (cw_region (lw_op Z Z Z (ow_move Z Z (lw_op Z Z Z (ow_move Z Z (lw_op Z Z Z (ow_lenOwn Z Z hr42 Tryd.underlying37 (lw_op Z Z Z (ow_sub Z Z Z (lw_op Z Z Z (ow_indexRow (R := RFlat) Z Z Z hr42 Tryd.underlying37 (Tryd.sizeOf41 _) hx5 (lw_op Z Z Z (ow_fieldAddr Z Z Tryd.underlying41 Z (Tryd.sizeOf4 _) (lw_op Z Z Z (ow_loadElRow (R := RFlat) (S := RBool) Z Z Z hr42 (orow_blk hr42 hx5) hx5 fld_Flat_Accept (Tryd.sizeOf4 _) (Tryd.isAgg4 _) fun v16 hv16 => ?_))))))))))))))))
      obtain ⟨bb5, hbb5, rfl⟩ := vbool_ex hv16
      refine lw_op Z Z Z (ow_fieldAddr Z Z Tryd.underlying41 Z (Tryd.sizeOf4 _) (lw_op0 Z Z (ow_store (X := (One g)) (us := [(.bool bb5)]) (cs' := #[(.slice A2 z1.length c2), (.bool bb5)]) Z Z Z Z ho40 (Tryd.sizeOf4 _) Z Z Z Z hm8 (.inl hg2) Z hC26 fun w27 ho41 hb18 hl27 hC27 => ?_)))
      have ho42 := ho39.go hb18 (fun e => hn1 e)
      have hr43 := hr42.go hb18 (fun k hk e => hn2 (hk.trans (congrArg some e))) hl27 (fun _ h => h)
      have hr44 := ho38.go hb18 (fun k hk e => (orow_ne ho38 ho40 (by decide)) (hk.trans (congrArg some e))) hl27 (fun _ h => h)
      refine lw_nil (ew_then (cw_region (lw_op Z Z Z (ow_move Z Z (lw_op Z Z Z (ow_loadOwnA Z Z Z ho41 (Tryd.isAgg41 _) (Tryd.sizeOf41 _) Z ?_))))))
      have hw4 := hr44.freezeDel
      have hC28 := hr44.cxDel hC27 hX hO
      have hl28 := Le.del w27 M4 (.slice A2 z1.length c2)
      have hm9 : (Del (.slice A2 z1.length c2) M4) g := ⟨hm7, fun e => (orow_ne hr44 ho42 (by decide)) e⟩
      have hr45 := hr43.goDel hr44 (by decide)
      have hw5 : VRep RFlat w27 (Del (.slice A2 z1.length c2) M4) ({ Where := ({ Sides := (List.set z1 (x6.1 : Int).toNat x8.1) } : Box), Accept := x5.Accept } : Flat) (.agg #[(.slice A2 z1.length c2), (.bool bb5)]) := by subst hbb5; exact shut_Flat hw4
      refine lw_op Z Z Z (ow_buildSlice (R := RFlat) (xs := [({ Where := ({ Sides := (List.set z1 (x6.1 : Int).toNat x8.1) } : Box), Accept := x5.Accept } : Flat)]) (cs := #[(.slice A2 z1.length c2), (.bool bb5)]) (e := 41) Z Z (by kernel_rfl) Z Z ⟨_, _, Z, hw5.cells, Z⟩ hC28 fun p3 w28 hw6 hb19 hl29 hC29 => ?_)
      have ho43 := ho42.no hb19
      have hr46 := hr45.no hb19
      replace hb3 := bind_some hb3
      obtain ⟨z2, hz2, hb3⟩ := hb3
      refine lw_op Z Z Z (ow_append (R := RFlat) Z Z Z Z Tryd.underlying37 hi41 hz41 hs41 hy41 Z Z Z Z hr46 hw6 hz2 hC29 fun v17 w29 M5 hr47 hb20 hl30 hC30 hM4 hat4 => ?_)
      have ho45 := ho43.go hb20 (fun e => (orow_ne hr46 ho43 (by decide)) e)
      have hm11 := hM4 _ hm9
      refine lw_op Z Z Z (ow_assign Z Z (lw_nil (ew_blockN (ew_then (cw_region (lw_op Z Z Z (ow_move Z Z (lw_op Z Z Z (ow_sub Z Z Z (lw_op Z Z Z (ow_assign Z Z (lw_nil ?_))))))))))))
      have lz8 := (((((((((((((((hl3.trans hl4).trans hl5).trans hl6).trans hl7).trans hl8).trans hl9).trans hl10).trans hl11).trans hl12).trans hl25).trans hl26).trans hl27).trans hl28).trans hl29).trans hl30)
      exact ew_nxt (z2, (W (k1 - 1)), x8.2) hb3 fun a ha => ⟨M5, v17, (ha.sub ⟨Z, Z, Z, Z, trivial⟩), lz8, hC30, hr47, ho45, hm11⟩
    ·
     obtain rfl := hbb4.trans hc3
     refine cw_false Z (cw_skip (ew_then (cw_region (lw_op Z Z Z (ow_move Z Z (lw_op Z Z Z (ow_loadOwnA Z Z Z ho11 (Tryd.isAgg41 _) (Tryd.sizeOf41 _) Z ?_)))))))
     have lz9 := (((hl5.trans hl6).trans hl7).trans hl8)
     have hw7 : VRep RFlat w8 (Add g1 M2) ({ Where := ({ Sides := x2.1.Sides } : Box), Accept := (x3.1 == 0) } : Flat) (.agg #[(.slice A1 x2.1.Sides.length c1), (.bool bb2)]) := by subst hbb2; exact shut_Flat (VRep.mono lz9 hw2)
     refine lw_op Z Z Z (ow_buildSlice (R := RFlat) (xs := [({ Where := ({ Sides := x2.1.Sides } : Box), Accept := (x3.1 == 0) } : Flat)]) (cs := #[(.slice A1 x2.1.Sides.length c1), (.bool bb2)]) (e := 41) Z Z (by kernel_rfl) Z Z ⟨_, _, Z, hw7.cells, Z⟩ hC8 fun p4 w30 hw8 hb21 hl31 hC31 => ?_)
     have ho47 := ho10.no hb21
     have hr48 := hr7.no hb21
     replace hb3 := bind_some hb3
     obtain ⟨z3, hz3, hb3⟩ := hb3
     refine lw_op Z Z Z (ow_append (R := RFlat) Z Z Z Z Tryd.underlying37 hi41 hz41 hs41 hy41 Z Z Z Z hr48 hw8 hz3 hC31 fun v18 w31 M6 hr49 hb22 hl32 hC32 hM5 hat5 => ?_)
     have ho49 := ho47.go hb22 (fun e => (orow_ne hr48 ho47 (by decide)) e)
     have hm13 := hM5 _ hm3
     refine lw_op Z Z Z (ow_assign Z Z (lw_nil (ew_blockN (ew_then (cw_region (lw_op Z Z Z (ow_move Z Z (lw_op Z Z Z (ow_sub Z Z Z (lw_op Z Z Z (ow_assign Z Z (lw_nil ?_))))))))))))
     have lz10 := (((((((hl3.trans hl4).trans hl5).trans hl6).trans hl7).trans hl8).trans hl31).trans hl32)
     exact ew_nxt (z3, (W (k1 - 1)), x4.2) hb3 fun a ha => ⟨M6, v18, (ha.sub ⟨Z, Z, Z, Z, trivial⟩), lz10, hC32, hr49, ho49, hm13⟩
   ·
    obtain rfl := hbb3.trans hc2
    refine lw_off Z Z Z Z Z Z (lw_off Z Z Z Z Z Z (lw_off Z Z Z Z Z Z (lw_op Z Z Z (ow_pickF Z Z Z (lw_nil (ew_then (cw_false Z (cw_skip (ew_then (cw_region (lw_op Z Z Z (ow_move Z Z (lw_op Z Z Z (ow_loadOwnA Z Z Z ho8 (Tryd.isAgg41 _) (Tryd.sizeOf41 _) Z ?_))))))))))))))
    have lz11 := ((hl5.trans hl6).trans hl7)
    have hw9 : VRep RFlat w7 (Add g1 M2) ({ Where := ({ Sides := x2.1.Sides } : Box), Accept := (x3.1 == 0) } : Flat) (.agg #[(.slice A1 x2.1.Sides.length c1), (.bool bb2)]) := by subst hbb2; exact shut_Flat (VRep.mono lz11 hw2)
    refine lw_op Z Z Z (ow_buildSlice (R := RFlat) (xs := [({ Where := ({ Sides := x2.1.Sides } : Box), Accept := (x3.1 == 0) } : Flat)]) (cs := #[(.slice A1 x2.1.Sides.length c1), (.bool bb2)]) (e := 41) Z Z (by kernel_rfl) Z Z ⟨_, _, Z, hw9.cells, Z⟩ hC7 fun p5 w32 hw10 hb23 hl33 hC33 => ?_)
    have ho51 := ho9.no hb23
    have hr50 := hr6.no hb23
    replace hb3 := bind_some hb3
    obtain ⟨z4, hz4, hb3⟩ := hb3
    refine lw_op Z Z Z (ow_append (R := RFlat) Z Z Z Z Tryd.underlying37 hi41 hz41 hs41 hy41 Z Z Z Z hr50 hw10 hz4 hC33 fun v19 w33 M7 hr51 hb24 hl34 hC34 hM6 hat6 => ?_)
    have ho53 := ho51.go hb24 (fun e => (orow_ne hr50 ho51 (by decide)) e)
    have hm15 := hM6 _ hm3
    refine lw_op Z Z Z (ow_assign Z Z (lw_nil (ew_blockN (ew_then (cw_region (lw_op Z Z Z (ow_move Z Z (lw_op Z Z Z (ow_sub Z Z Z (lw_op Z Z Z (ow_assign Z Z (lw_nil ?_))))))))))))
    have lz12 := ((((((hl3.trans hl4).trans hl5).trans hl6).trans hl7).trans hl33).trans hl34)
    exact ew_nxt (z4, (W (k1 - 1)), x3.2) hb3 fun a ha => ⟨M7, v19, (ha.sub ⟨Z, Z, Z, Z, trivial⟩), lz12, hC34, hr51, ho53, hm15⟩
  ·
   obtain rfl := hbb1.trans hc1
   exact cw_false Z (cw_exit (ew_thenX (ew_thenX (ew_blockX (ew_brk (y1, k1, k2) hb3 fun a ha => ⟨M2, v2, (ha.sub ⟨Z, Z, Z, Z, trivial⟩), hl3, hC3, hw1, ho3, hm2⟩)))))
 ·
  rintro ⟨y2, k3, k4⟩ a w34 hlr2 ⟨M8, v20, hF2, hl35, hC35, hw11, ho55, hm17⟩
  subst hlr2
  refine ew_at (E := [(0, (.pointer (some ⟨g, 0, none⟩))), (1, (.int .i64 a_n)), (5, v20), (6, (.int .i64 k3))]) hF2 (ew_then (cw_seq (cw_seq (cw_region (lw_op Z Z Z (ow_move Z Z (lw_op Z Z Z (ow_move Z Z ?_))))))))
  have lz13 := ((hl1.trans hl2).trans hl35)
  replace h := bind_some h
  obtain ⟨x10, hx10, h⟩ := h
  refine lw_op Z Z Z (ow_call Z Z Tryd.call92 (w_spec_l20Rd_odd (hG.mono lz13) hC35.old (VRep.mono lz13 hxs) ho55 hm17 hx10) fun v23 w35 hv23 => ?_)
  obtain ⟨⟨hv23, ho56⟩, hb25⟩ := hv23
  have hl36 := Le.of_bx M8 hb25 (fun b e => (by rw [show b = g from e]; exact hm17))
  have hC36 := hC35.go hb25 (fun b e => Or.inr e)
  have hr52 := hw11.go hb25 (fun k hk e => (orow_ne hw11 ho55 (by decide)) (hk.trans (congrArg some e))) hl36 (fun _ h => h)
  obtain ⟨bb6, hbb6, rfl⟩ := vbool_ex hv23
  refine lw_nil (ew_then ?_)
  replace h := cond_some h
  rcases h with ⟨hc4, h⟩ | ⟨hc4, h⟩
  ·
   obtain rfl := hbb6.trans hc4
   refine cw_true Z (cw_seq (cw_region (lw_op Z Z Z (ow_move Z Z ?_))))
   replace h := bind_some h
   obtain ⟨x11, hx11, h⟩ := h
   refine lw_op Z Z Z (ow_call Z Z Tryd.call87 (w_spec_l20Rd_pick (hG.mono (lz13.trans hl36)) hC36.old (VRep.mono (lz13.trans hl36) hxs) ho56 hm17 hx11) fun v24 w36 hv24 => ?_)
   obtain ⟨⟨hv24, ho57⟩, hb26⟩ := hv24
   have hl37 := Le.of_bx M8 hb26 (fun b e => (by rw [show b = g from e]; exact hm17))
   have hC37 := hC36.go hb26 (fun b e => Or.inr e)
   have hr53 := hr52.go hb26 (fun k hk e => (orow_ne hr52 ho56 (by decide)) (hk.trans (congrArg some e))) hl37 (fun _ h => h)
   obtain rfl := vint_eq hv24
   refine lw_op Z Z Z (ow_eqlI Z Z Z fun bb7 hbb7 => lw_nil (ew_then ?_))
   replace h := cond_some h
   rcases h with ⟨hc5, h⟩ | ⟨hc5, h⟩
   ·
    obtain rfl := hbb7.trans hc5
    refine cw_true Z (cw_region (lw_op Z Z Z (ow_move Z Z (lw_op Z Z Z (ow_build (v := .agg #[(.slice none 0 0), (.bool false)]) Z Z (by kernel_rfl) ?_)))))
    have hw12 : VRep RFlat w36 M8 ({ Where := ({ Sides := ([] : List (List Span)) } : Box), Accept := false } : Flat) (.agg #[(.slice none 0 0), (.bool false)]) := shut_Flat (vslice_nil (R := (RSlice RSpan)) (w := w36) (M := M8))
    refine lw_op Z Z Z (ow_buildSlice (R := RFlat) (xs := [({ Where := ({ Sides := ([] : List (List Span)) } : Box), Accept := false } : Flat)]) (cs := #[(.slice none 0 0), (.bool false)]) (e := 41) Z Z (by kernel_rfl) Z Z ⟨_, _, Z, hw12.cells, Z⟩ hC37 fun p6 w37 hw13 hb27 hl38 hC38 => ?_)
    have ho58 := ho57.no hb27
    have hr54 := hr53.no hb27
    replace h := bind_some h
    obtain ⟨z5, hz5, h⟩ := h
    refine lw_op Z Z Z (ow_append (R := RFlat) Z Z Z Z Tryd.underlying37 hi41 hz41 hs41 hy41 Z Z Z Z hr54 hw13 hz5 hC38 fun v25 w38 M9 hr55 hb28 hl39 hC39 hM7 hat7 => ?_)
    have ho59 := ho58.go hb28 (fun e => (orow_ne hr54 ho58 (by decide)) e)
    refine lw_op Z Z Z (ow_assign Z Z (lw_nil (ew_then (cw_seq (cw_region (lw_op Z Z Z (ow_move Z Z (lw_op Z Z Z (ow_assign Z Z (lw_nil (ew_then (cw_ret ?_))))))))))))
    obtain rfl := Option.some.inj h
    exact ew_ret (res1 Z (.tmp Z)) ⟨_, Z, ⟨(hr55.freezeBack hC39 hO), ho59⟩, hC39.bx⟩
   ·
    obtain rfl := hbb7.trans hc5
    refine cw_false Z ?_
    replace h := bind_some h
    obtain ⟨lr2, hlr3, h⟩ := h
    refine cw_for hlr3 (fun s a w' => ∃ (M' : Nat → Prop) (v0c : Value), Fits 84 [(5, v0c)] a ∧ Le w36 M8 w' M' ∧ Cx (One g) w M w' M' ∧ OwnRow RFlat w.heap.size 41 w' M' s v0c ∧ Own w' g 98 #[(.slice Ax a_xs.length cx), (.int .i64 x11.2)] ∧ M' g) ?_ ?_ ?_
    ·
     intro a ha
     exact ⟨M8, v20, ha.sub ⟨Z, trivial⟩, Le.refl _ _, hC37, hr53, ho57, hm17⟩
    ·
     rintro y3 a w39 sr2 ⟨M10, v26, hF3, hl40, hC40, hw14, ho60, hm19⟩ hb29 hR2
     refine cw_at (E := [(5, v26)]) hF3 (cw_seq (cw_seq (cw_region (lw_op Z Z Z (ow_move Z Z (lw_op Z Z Z (ow_lenOwn Z Z hw14 Tryd.underlying37 (lw_op Z Z Z (ow_leq Z Z Z fun bb8 hbb8 => lw_nil (ew_then ?_))))))))))
     replace hb29 := cond_some hb29
     rcases hb29 with ⟨hc6, hb29⟩ | ⟨hc6, hb29⟩
     ·
      obtain rfl := hbb8.trans hc6
      refine cw_true Z (cw_skip (ew_then (cw_block (cw_region (lw_op Z Z Z (ow_move Z Z ?_))))))
      replace hb29 := bind_some hb29
      obtain ⟨x12, hx12, hb29⟩ := hb29
      have lz14 := (((lz13.trans hl36).trans hl37).trans hl40)
      refine lw_op Z Z Z (ow_call Z Z Tryd.call59 (w_spec_BoxAll (hG.mono lz14) hC40.old hx12) fun v27 w40 hv27 => ?_)
      obtain ⟨hv27, hb30⟩ := hv27
      have hl41 := Le.no M10 hb30
      have hC41 := hC40.no hb30
      have ho61 := ho60.no hb30
      have hr56 := hw14.no hb30
      obtain ⟨A3, c3, rfl, hw15⟩ := open_Box hv27
      refine lw_op Z Z Z (ow_build (v := .agg #[(.slice A3 x12.Sides.length c3), (.bool false)]) Z Z (by kernel_rfl) ?_)
      have hw16 : VRep RFlat w40 M10 ({ Where := ({ Sides := x12.Sides } : Box), Accept := false } : Flat) (.agg #[(.slice A3 x12.Sides.length c3), (.bool false)]) := shut_Flat hw15
      refine lw_op Z Z Z (ow_buildSlice (R := RFlat) (xs := [({ Where := ({ Sides := x12.Sides } : Box), Accept := false } : Flat)]) (cs := #[(.slice A3 x12.Sides.length c3), (.bool false)]) (e := 41) Z Z (by kernel_rfl) Z Z ⟨_, _, Z, hw16.cells, Z⟩ hC41 fun p7 w41 hw17 hb31 hl42 hC42 => ?_)
      have ho62 := ho61.no hb31
      have hr57 := hr56.no hb31
      replace hb29 := bind_some hb29
      obtain ⟨z6, hz6, hb29⟩ := hb29
      refine lw_op Z Z Z (ow_append (R := RFlat) Z Z Z Z Tryd.underlying37 hi41 hz41 hs41 hy41 Z Z Z Z hr57 hw17 hz6 hC42 fun v28 w42 M11 hr58 hb32 hl43 hC43 hM8 hat8 => ?_)
      have ho63 := ho62.go hb32 (fun e => (orow_ne hr57 ho62 (by decide)) e)
      have hm20 := hM8 _ hm19
      refine lw_op Z Z Z (ow_assign Z Z (lw_nil (ew_blockN ?_)))
      have lz15 := (((hl40.trans hl41).trans hl42).trans hl43)
      exact ew_nxt z6 hb29 fun a ha => ⟨M11, v28, (ha.sub ⟨Z, trivial⟩), lz15, hC43, hr58, ho63, hm20⟩
     ·
      obtain rfl := hbb8.trans hc6
      exact cw_false Z (cw_exit (ew_thenX (ew_thenX (ew_blockX (ew_brk y3 hb29 fun a ha => ⟨M10, v26, (ha.sub ⟨Z, trivial⟩), hl40, hC40, hw14, ho60, hm19⟩)))))
    ·
     rintro y4 a w43 hlr4 ⟨M12, v29, hF4, hl44, hC44, hw18, ho64, hm21⟩
     subst hlr4
     refine ew_at (E := [(5, v29)]) hF4 (ew_then (cw_seq (cw_region (lw_op Z Z Z (ow_move Z Z (lw_op Z Z Z (ow_assign Z Z (lw_nil (ew_then (cw_ret ?_))))))))))
     obtain rfl := Option.some.inj h
     exact ew_ret (res1 Z (.tmp Z)) ⟨_, Z, ⟨(hw18.freezeBack hC44 hO), ho64⟩, hC44.bx⟩
  ·
   obtain rfl := hbb6.trans hc4
   refine cw_false Z (cw_skip (ew_then (cw_seq (cw_region (lw_op Z Z Z (ow_move Z Z (lw_op Z Z Z (ow_assign Z Z (lw_nil (ew_then (cw_ret ?_)))))))))))
   obtain rfl := Option.some.inj h
   exact ew_ret (res1 Z (.tmp Z)) ⟨_, Z, ⟨(hr52.freezeBack hC36 hO), ho56⟩, hC36.bx⟩

theorem w_spec_DrawFlatsValid {w : World} {M : Nat → Prop} (hG : ARep (RArr 4 RShape) w M shapes ⟨0, 0, none⟩) (hO : ∀ b, M b → b < w.heap.size) {v0p : Value} {a_code : List Int} (h0 : VRep (RSlice RU8) w M a_code v0p) {r : (List Flat)} (h : F.spec_DrawFlatsValid a_code = some r) :
  Calls Tryd.prog 23 [v0p].toArray w fun e w' => ∃ v, e = .returned v ∧ VRep (RSlice RFlat) w' M r v ∧ BX No w w' := by
 have hC : Cx No w M w M := Cx.start hO (fun _ e => e.elim)
 refine walk (N := 6) Tryd.func23 Z Tryd.ntmps23 Z (cw_seq (cw_region (lw_op Z Z Z (ow_assign Z Z (lw_nil (ew_then (cw_seq (cw_region (lw_op Z Z Z (ow_move Z Z ?_))))))))))
 replace h := bind_some h
 obtain ⟨x1, hx1, h⟩ := h
 refine lw_op Z Z Z (ow_call Z Z Tryd.call54 (w_spec_l20Open hG hC.old h0 hx1) fun v1 w1 hv1 => ?_)
 obtain ⟨⟨g1, A1, c1, rfl, hg1, ho1, hw1⟩, hb1⟩ := hv1
 have hl1 := (Le.no M hb1).add hg1
 have hg2 := Nat.le_trans hC.bx.size hg1
 have hC1 := (hC.no hb1).add ho1.lt hg2
 have hm1 : (Add g1 M) g1 := .inl Z
 replace h := bind_some h
 obtain ⟨x2, hx2, h⟩ := h
 refine lw_op Z Z Z (ow_call Z Z Tryd.call63 (w_spec_l20Flats (hG.mono hl1) hC1.old hw1 ho1 hm1 hx2) fun v2 w2 hv2 => ?_)
 obtain ⟨⟨hv2, ho2⟩, hb2⟩ := hv2
 have hC2 := hC1.go hb2 (fun b e => (by rw [show b = g1 from e]; exact (.inl hg2)))
 refine lw_op Z Z Z (ow_assign Z Z (lw_nil (ew_then (cw_ret ?_))))
 obtain rfl := Option.some.inj h
 exact ew_ret (res1 Z (.tmp Z)) ⟨_, Z, (VRep.mono hC2.back hv2), hC2.bx⟩

theorem w_impl_topValid {w : World} {M : Nat → Prop} (_hG : ARep (RArr 4 RShape) w M shapes ⟨0, 0, none⟩) (hO : ∀ b, M b → b < w.heap.size) {a_top : Int} {r : Bool} (h : F.impl_topValid a_top = some r) :
  Calls Tryd.prog 101 [(.int .i64 a_top)].toArray w fun e w' => ∃ v, e = .returned v ∧ VRep RBool w' M r v ∧ BX No w w' := by
 have hC : Cx No w M w M := Cx.start hO (fun _ e => e.elim)
 clear _hG
 refine walk (N := 9) Tryd.func101 Z Tryd.ntmps101 Z (cw_seq (cw_region (lw_op Z Z Z (ow_assign Z Z (lw_nil (ew_then (cw_seq (cw_region (lw_op Z Z Z (ow_move Z Z (lw_op Z Z Z (ow_geq Z Z Z fun bb1 hbb1 => lw_op Z Z Z (ow_move Z Z ?_)))))))))))))
 replace h := cond_some h
 rcases h with ⟨hc1, h⟩ | ⟨hc1, h⟩
 ·
  obtain rfl := hbb1.trans hc1
  refine lw_on Z Z Z Z Z Z (ow_move Z Z (lw_on Z Z Z Z Z Z (ow_leq Z Z Z fun bb2 hbb2 => lw_op Z Z Z (ow_pickT Z Z Z (lw_op Z Z Z (ow_assign Z Z (lw_nil (ew_then (cw_ret ?_)))))))))
  obtain rfl := Option.some.inj h
  exact ew_ret (res1 Z (.tmp Z)) ⟨_, Z, ((vbool_of hbb2)), hC.bx⟩
 ·
  obtain rfl := hbb1.trans hc1
  refine lw_off Z Z Z Z Z Z (lw_off Z Z Z Z Z Z (lw_op Z Z Z (ow_pickF Z Z Z (lw_op Z Z Z (ow_assign Z Z (lw_nil (ew_then (cw_ret ?_))))))))
  obtain rfl := Option.some.inj h
  exact ew_ret (res1 Z (.tmp Z)) ⟨_, Z, ((vbool _)), hC.bx⟩

theorem w_impl_SpansValid {w : World} {M : Nat → Prop} (hG : ARep (RArr 4 RShape) w M shapes ⟨0, 0, none⟩) (hO : ∀ b, M b → b < w.heap.size) {v0p : Value} {a_list : List Span} (h0 : VRep (RSlice RSpan) w M a_list v0p) {a_top : Int} {r : Bool} (h : F.impl_SpansValid a_list a_top = some r) :
  Calls Tryd.prog 68 [v0p, (.int .i64 a_top)].toArray w fun e w' => ∃ v, e = .returned v ∧ VRep RBool w' M r v ∧ BX No w w' := by
 have hC : Cx No w M w M := Cx.start hO (fun _ e => e.elim)
 refine walk (N := 43) Tryd.func68 Z Tryd.ntmps68 Z (cw_seq (cw_region (lw_op Z Z Z (ow_assign Z Z (lw_nil (ew_then (cw_seq (cw_seq (cw_region (lw_op Z Z Z (ow_move Z Z ?_)))))))))))
 replace h := bind_some h
 obtain ⟨x1, hx1, h⟩ := h
 refine lw_op Z Z Z (ow_call Z Z Tryd.call101 (w_impl_topValid hG hC.old hx1) fun v1 w1 hv1 => ?_)
 obtain ⟨hv1, hb1⟩ := hv1
 have hl1 := Le.no M hb1
 have hC1 := hC.no hb1
 obtain rfl := vbool_eq hv1
 refine lw_op Z Z Z (ow_not Z Z (lw_op Z Z Z (ow_move Z Z ?_)))
 replace h := cond_some h
 rcases h with ⟨hc1, h⟩ | ⟨hc1, h⟩
 ·
  subst hc1
  refine lw_on Z Z Z Z Z Z (ow_move Z Z (lw_on Z Z Z Z Z Z (ow_len Z Z (VRep.mono hl1 h0) Tryd.underlying58 Z (lw_on Z Z Z Z Z Z (ow_gtr Z Z Z fun bb1 hbb1 => lw_op Z Z Z (ow_pickF Z Z Z (lw_nil (ew_then ?_))))))))
  replace h := cond_some h
  rcases h with ⟨hc2, h⟩ | ⟨hc2, h⟩
  ·
   obtain rfl := hbb1.trans hc2
   refine cw_true Z (cw_seq (cw_region (lw_op Z Z Z (ow_assign Z Z (lw_nil (ew_then (cw_ret (ew_thenR ?_))))))))
   obtain rfl := Option.some.inj h
   exact ew_ret (res1 Z (.tmp Z)) ⟨_, Z, ((vbool _)), hC1.bx⟩
  ·
   obtain rfl := hbb1.trans hc2
   refine cw_false Z (cw_skip (ew_then (cw_seq (cw_region (lw_op Z Z Z (ow_assign Z Z (lw_nil (ew_then (cw_seq (cw_seq (cw_region (lw_op Z Z Z (ow_move Z Z (lw_op Z Z Z (ow_len Z Z (VRep.mono hl1 h0) Tryd.underlying58 Z (lw_op Z Z Z (ow_move Z Z (lw_nil (ew_then ?_)))))))))))))))))))
   replace h := bind_some h
   obtain ⟨lr1, hlr1, h⟩ := h
   refine cw_for hlr1 (fun s a w' => ∃ (M' : Nat → Prop), Fits 43 [(1, (.int .i64 a_top)), (5, (.int .i64 s.1)), (16, v0p), (17, (.int .i64 (a_list.length : Int))), (18, (.int .i64 s.2))] a ∧ Le w1 M w' M' ∧ Cx No w M w' M') ?_ ?_ ?_
   ·
    intro a ha
    exact ⟨M, ha.sub ⟨Z, Z, Z, Z, Z, trivial⟩, Le.refl _ _, hC1⟩
   ·
    rintro ⟨k1, k2⟩ a w2 sr1 ⟨M1, hF1, hl2, hC2⟩ hb2 hR1
    refine cw_at (E := [(1, (.int .i64 a_top)), (5, (.int .i64 k1)), (16, v0p), (17, (.int .i64 (a_list.length : Int))), (18, (.int .i64 k2))]) hF1 (cw_seq (cw_region (lw_op Z Z Z (ow_lss Z Z Z fun bb2 hbb2 => lw_nil (ew_then (cw_seq ?_))))))
    replace hb2 := cond_some hb2
    rcases hb2 with ⟨hc3, hb2⟩ | ⟨hc3, hb2⟩
    ·
     obtain rfl := hbb2.trans hc3
     refine cw_true Z (cw_skip (ew_then (cw_seq (cw_block (cw_seq (cw_region ?_))))))
     replace hb2 := bind_some hb2
     obtain ⟨x2, hx2, hb2⟩ := hb2
     refine lw_op Z Z Z (ow_indexSlice (R := RSpan) Z Z Z (VRep.mono (hl1.trans hl2) h0) Tryd.underlying58 (Tryd.sizeOf76 _) hx2 fun p1 hp1 => lw_op Z Z Z (ow_load (R := RSpan) Z Z hp1 (Tryd.sizeOf76 _) (Tryd.isAgg76 _) fun v4 hv4 => lw_allocStore (R := RSpan) Z Z Z Z Z Z Z Tryd.zeroValue76 Tryd.sizeOf76 Z Z Z (by simp) hv4 hC2 fun p2 w3 hp2 hb3 hl3 hC3 => lw_nil (ew_then (cw_seq (cw_seq (cw_region (lw_op Z Z Z (ow_fieldAddr Z Z Tryd.underlying76 Z (Tryd.sizeOf3 _) (lw_op Z Z Z (ow_load (R := RInt) Z Z (hp2.fld fld_Span_Lo) (Tryd.sizeOf3 _) (Tryd.isAgg3 _) fun v5 hv5 => ?_))))))))))
     obtain rfl := vint_eq hv5
     refine lw_op Z Z Z (ow_move Z Z (lw_op Z Z Z (ow_add Z Z Z (lw_op Z Z Z (ow_leq Z Z Z fun bb3 hbb3 => lw_op Z Z Z (ow_move Z Z ?_))))))
     replace hb2 := cond_some hb2
     rcases hb2 with ⟨hc4, hb2⟩ | ⟨hc4, hb2⟩
     ·
      obtain rfl := hbb3.trans hc4
      refine lw_off Z Z Z Z Z Z (lw_off Z Z Z Z Z Z (lw_off Z Z Z Z Z Z (lw_off Z Z Z Z Z Z (lw_off Z Z Z Z Z Z (lw_op Z Z Z (ow_pickT Z Z Z (lw_op Z Z Z (ow_move Z Z (lw_off Z Z Z Z Z Z (lw_off Z Z Z Z Z Z (lw_off Z Z Z Z Z Z (lw_off Z Z Z Z Z Z (lw_op Z Z Z (ow_pickT Z Z Z (lw_nil (ew_then (cw_true Z (cw_seq (cw_region (lw_op Z Z Z (ow_assign Z Z (lw_nil (ew_then (cw_ret (ew_thenR (ew_blockR (ew_thenR (ew_thenR ?_))))))))))))))))))))))))))))
      refine ew_blockR (ew_brkR (ew_thenR ?_))
      have e1 := hR1 _ (Option.some.inj hb2).symm
      subst e1
      obtain rfl := Option.some.inj h
      exact ew_ret (res1 Z (.tmp Z)) ⟨_, Z, ((vbool _)), hC3.bx⟩
     ·
      obtain rfl := hbb3.trans hc4
      refine lw_on Z Z Z Z Z Z (ow_fieldAddr Z Z Tryd.underlying76 Z (Tryd.sizeOf3 _) (lw_on Z Z Z Z Z Z (ow_load (R := RInt) Z Z (hp2.fld fld_Span_Lo) (Tryd.sizeOf3 _) (Tryd.isAgg3 _) fun v6 hv6 => ?_)))
      obtain rfl := vint_eq hv6
      refine lw_on Z Z Z Z Z Z (ow_fieldAddr Z Z Tryd.underlying76 Z (Tryd.sizeOf3 _) (lw_on Z Z Z Z Z Z (ow_load (R := RInt) Z Z (hp2.fld fld_Span_Hi) (Tryd.sizeOf3 _) (Tryd.isAgg3 _) fun v7 hv7 => ?_)))
      obtain rfl := vint_eq hv7
      refine lw_on Z Z Z Z Z Z (ow_gtr Z Z Z fun bb4 hbb4 => lw_op Z Z Z (ow_pickF Z Z Z (lw_op Z Z Z (ow_move Z Z ?_))))
      replace hb2 := cond_some hb2
      rcases hb2 with ⟨hc5, hb2⟩ | ⟨hc5, hb2⟩
      ·
       obtain rfl := hbb4.trans hc5
       refine lw_off Z Z Z Z Z Z (lw_off Z Z Z Z Z Z (lw_off Z Z Z Z Z Z (lw_off Z Z Z Z Z Z (lw_op Z Z Z (ow_pickT Z Z Z (lw_nil (ew_then (cw_true Z (cw_seq (cw_region (lw_op Z Z Z (ow_assign Z Z (lw_nil (ew_then (cw_ret (ew_thenR (ew_blockR (ew_thenR (ew_thenR (ew_blockR (ew_brkR (ew_thenR ?_))))))))))))))))))))))
       have e2 := hR1 _ (Option.some.inj hb2).symm
       subst e2
       obtain rfl := Option.some.inj h
       exact ew_ret (res1 Z (.tmp Z)) ⟨_, Z, ((vbool _)), hC3.bx⟩
      ·
       obtain rfl := hbb4.trans hc5
       refine lw_on Z Z Z Z Z Z (ow_fieldAddr Z Z Tryd.underlying76 Z (Tryd.sizeOf3 _) (lw_on Z Z Z Z Z Z (ow_load (R := RInt) Z Z (hp2.fld fld_Span_Hi) (Tryd.sizeOf3 _) (Tryd.isAgg3 _) fun v8 hv8 => ?_)))
       obtain rfl := vint_eq hv8
       refine lw_on Z Z Z Z Z Z (ow_move Z Z (lw_on Z Z Z Z Z Z (ow_gtr Z Z Z fun bb5 hbb5 => lw_op Z Z Z (ow_pickF Z Z Z (lw_nil (ew_then ?_))))))
       replace hb2 := cond_some hb2
       rcases hb2 with ⟨hc6, hb2⟩ | ⟨hc6, hb2⟩
       ·
        obtain rfl := hbb5.trans hc6
        refine cw_true Z (cw_seq (cw_region (lw_op Z Z Z (ow_assign Z Z (lw_nil (ew_then (cw_ret (ew_thenR (ew_blockR (ew_thenR (ew_thenR (ew_blockR (ew_brkR (ew_thenR ?_))))))))))))))
        have e3 := hR1 _ (Option.some.inj hb2).symm
        subst e3
        obtain rfl := Option.some.inj h
        exact ew_ret (res1 Z (.tmp Z)) ⟨_, Z, ((vbool _)), hC3.bx⟩
       ·
        obtain rfl := hbb5.trans hc6
        refine cw_false Z (cw_skip (ew_then (cw_region (lw_op Z Z Z (ow_fieldAddr Z Z Tryd.underlying76 Z (Tryd.sizeOf3 _) (lw_op Z Z Z (ow_load (R := RInt) Z Z (hp2.fld fld_Span_Hi) (Tryd.sizeOf3 _) (Tryd.isAgg3 _) fun v9 hv9 => ?_)))))))
        obtain rfl := vint_eq hv9
        exact lw_op Z Z Z (ow_assign Z Z (lw_nil (ew_blockN (ew_then (cw_region (lw_op Z Z Z (ow_add Z Z Z (lw_op Z Z Z (ow_move Z Z (lw_nil (ew_nxt (x2.Hi, (W (k2 + 1))) hb2 fun a ha => ⟨M1, (ha.sub ⟨Z, Z, Z, Z, Z, trivial⟩), (hl2.trans hl3), hC3⟩)))))))))))
    ·
     obtain rfl := hbb2.trans hc3
     exact cw_false Z (cw_exit (ew_thenX (ew_thenX (ew_blockX (ew_brk (k1, k2) hb2 fun a ha => ⟨M1, (ha.sub ⟨Z, Z, Z, Z, Z, trivial⟩), hl2, hC2⟩)))))
   ·
    rintro ⟨k3, k4⟩ a w4 hlr2 ⟨M2, hF2, hl4, hC4⟩
    subst hlr2
    refine ew_at (E := [(1, (.int .i64 a_top)), (5, (.int .i64 k3)), (16, v0p), (17, (.int .i64 (a_list.length : Int))), (18, (.int .i64 k4))]) hF2 (ew_then (cw_seq (cw_region (lw_op Z Z Z (ow_assign Z Z (lw_nil (ew_then (cw_ret ?_))))))))
    obtain rfl := Option.some.inj h
    exact ew_ret (res1 Z (.tmp Z)) ⟨_, Z, ((vbool _)), hC4.bx⟩
 ·
  subst hc1
  refine lw_off Z Z Z Z Z Z (lw_off Z Z Z Z Z Z (lw_off Z Z Z Z Z Z (lw_op Z Z Z (ow_pickT Z Z Z (lw_nil (ew_then (cw_true Z (cw_seq (cw_region (lw_op Z Z Z (ow_assign Z Z (lw_nil (ew_then (cw_ret (ew_thenR ?_)))))))))))))))
  obtain rfl := Option.some.inj h
  exact ew_ret (res1 Z (.tmp Z)) ⟨_, Z, ((vbool _)), hC1.bx⟩

theorem w_impl_FieldTop {w : World} {M : Nat → Prop} (hG : ARep (RArr 4 RShape) w M shapes ⟨0, 0, none⟩) (hO : ∀ b, M b → b < w.heap.size) {a_n : Int} {r : Int} (h : F.impl_FieldTop a_n = some r) :
  Calls Tryd.prog 69 [(.int .i64 a_n)].toArray w fun e w' => ∃ v, e = .returned v ∧ VRep RInt w' M r v ∧ BX No w w' := by
 have hC : Cx No w M w M := Cx.start hO (fun _ e => e.elim)
 refine walk (N := 13) Tryd.func69 Z Tryd.ntmps69 Z (cw_seq (cw_region (lw_op Z Z Z (ow_assign Z Z (lw_nil (ew_then (cw_seq (cw_seq (cw_region (lw_op Z Z Z (ow_move Z Z (lw_op Z Z Z (ow_lss Z Z Z fun bb1 hbb1 => lw_op Z Z Z (ow_move Z Z ?_))))))))))))))
 replace h := cond_some h
 rcases h with ⟨hc1, h⟩ | ⟨hc1, h⟩
 ·
  obtain rfl := hbb1.trans hc1
  refine lw_off Z Z Z Z Z Z (lw_off Z Z Z Z Z Z (lw_op Z Z Z (ow_pickT Z Z Z (lw_nil (ew_then (cw_true Z (cw_seq (cw_region (lw_op Z Z Z (ow_assign Z Z (lw_nil (ew_then (cw_ret (ew_thenR ?_))))))))))))))
  obtain rfl := Option.some.inj h
  exact ew_ret (res1 Z (.tmp Z)) ⟨_, Z, ((vint _)), hC.bx⟩
 ·
  obtain rfl := hbb1.trans hc1
  refine lw_on Z Z Z Z Z Z (ow_move Z Z (lw_on Z Z Z Z Z Z (ow_geq Z Z Z fun bb2 hbb2 => lw_op Z Z Z (ow_pickF Z Z Z (lw_nil (ew_then ?_))))))
  replace h := cond_some h
  rcases h with ⟨hc2, h⟩ | ⟨hc2, h⟩
  ·
   obtain rfl := hbb2.trans hc2
   refine cw_true Z (cw_seq (cw_region (lw_op Z Z Z (ow_assign Z Z (lw_nil (ew_then (cw_ret (ew_thenR ?_))))))))
   obtain rfl := Option.some.inj h
   exact ew_ret (res1 Z (.tmp Z)) ⟨_, Z, ((vint _)), hC.bx⟩
  ·
   obtain rfl := hbb2.trans hc2
   refine cw_false Z (cw_skip (ew_then (cw_seq (cw_region (lw_op Z Z Z (ow_move Z Z ?_))))))
   replace h := bind_some h
   obtain ⟨x1, hx1, h⟩ := h
   refine lw_op Z Z Z (ow_indexArr (R := RShape) Z Z Z hG Tryd.underlying109 (Tryd.sizeOf108 _) hx1 fun p1 hp1 => lw_op Z Z Z (ow_fieldAddr Z Z Tryd.underlying108 Z (Tryd.sizeOf3 _) (lw_op Z Z Z (ow_load (R := RInt) Z Z (hp1.fld fld_Shape_top) (Tryd.sizeOf3 _) (Tryd.isAgg3 _) fun v1 hv1 => ?_))))
   obtain rfl := vint_eq hv1
   refine lw_op Z Z Z (ow_assign Z Z (lw_nil (ew_then (cw_ret ?_))))
   obtain rfl := Option.some.inj h
   exact ew_ret (res1 Z (.tmp Z)) ⟨_, Z, ((vint _)), hC.bx⟩

theorem w_impl_BoxValid {w : World} {M : Nat → Prop} (hG : ARep (RArr 4 RShape) w M shapes ⟨0, 0, none⟩) (hO : ∀ b, M b → b < w.heap.size) {v0p : Value} {a_b : Box} (h0 : VRep RBox w M a_b v0p) {r : Bool} (h : F.impl_BoxValid a_b = some r) :
  Calls Tryd.prog 30 [v0p].toArray w fun e w' => ∃ v, e = .returned v ∧ VRep RBool w' M r v ∧ BX No w w' := by
 have hC : Cx No w M w M := Cx.start hO (fun _ e => e.elim)
 refine walk (N := 23) Tryd.func30 Z Tryd.ntmps30 Z (cw_seq (cw_region (lw_op Z Z Z (ow_box (R := RBox) Z Z h0 hC fun p1 w1 hp1 hb1 hl1 hC1 => lw_op Z Z Z (ow_assign Z Z (lw_nil (ew_then (cw_seq (cw_seq (cw_region (lw_op Z Z Z (ow_fieldAddr Z Z Tryd.underlying27 Z (Tryd.sizeOf25 _) (lw_op Z Z Z (ow_load (R := (RSlice (RSlice RSpan))) Z Z (hp1.fld fld_Box_Sides) (Tryd.sizeOf25 _) (Tryd.isAgg25 _) fun v1 hv1 => lw_op Z Z Z (ow_len Z Z hv1 Tryd.underlying25 Z (lw_op Z Z Z (ow_neqI Z Z Z fun bb1 hbb1 => lw_nil (ew_then ?_))))))))))))))))))
 replace h := cond_some h
 rcases h with ⟨hc1, h⟩ | ⟨hc1, h⟩
 ·
  obtain rfl := hbb1.trans hc1
  refine cw_true Z (cw_seq (cw_region (lw_op Z Z Z (ow_assign Z Z (lw_nil (ew_then (cw_ret (ew_thenR ?_))))))))
  obtain rfl := Option.some.inj h
  exact ew_ret (res1 Z (.tmp Z)) ⟨_, Z, ((vbool _)), hC1.bx⟩
 ·
  obtain rfl := hbb1.trans hc1
  refine cw_false Z (cw_skip (ew_then (cw_seq (cw_seq (cw_region (lw_op Z Z Z (ow_fieldAddr Z Z Tryd.underlying27 Z (Tryd.sizeOf25 _) (lw_op Z Z Z (ow_load (R := (RSlice (RSlice RSpan))) Z Z (hp1.fld fld_Box_Sides) (Tryd.sizeOf25 _) (Tryd.isAgg25 _) fun v2 hv2 => lw_op Z Z Z (ow_len Z Z hv2 Tryd.underlying25 Z (lw_op Z Z Z (ow_move Z Z (lw_nil (ew_then ?_))))))))))))))
  replace h := bind_some h
  obtain ⟨lr1, hlr1, h⟩ := h
  refine cw_for hlr1 (fun s a w' => ∃ (M' : Nat → Prop), Fits 23 [(10, v2), (11, (.int .i64 (a_b.Sides.length : Int))), (12, (.int .i64 s))] a ∧ Le w1 M w' M' ∧ Cx No w M w' M') ?_ ?_ ?_
  ·
   intro a ha
   exact ⟨M, ha.sub ⟨Z, Z, Z, trivial⟩, Le.refl _ _, hC1⟩
  ·
   rintro k1 a w2 sr1 ⟨M1, hF1, hl2, hC2⟩ hb2 hR1
   refine cw_at (E := [(10, v2), (11, (.int .i64 (a_b.Sides.length : Int))), (12, (.int .i64 k1))]) hF1 (cw_seq (cw_region (lw_op Z Z Z (ow_lss Z Z Z fun bb2 hbb2 => lw_nil (ew_then (cw_seq ?_))))))
   replace hb2 := cond_some hb2
   rcases hb2 with ⟨hc2, hb2⟩ | ⟨hc2, hb2⟩
   ·
    obtain rfl := hbb2.trans hc2
    refine cw_true Z (cw_skip (ew_then (cw_seq (cw_block (cw_seq (cw_region (lw_op Z Z Z (ow_move Z Z ?_))))))))
    replace hb2 := bind_some hb2
    obtain ⟨x1, hx1, hb2⟩ := hb2
    refine lw_op Z Z Z (ow_indexSlice (R := (RSlice RSpan)) Z Z Z (VRep.mono hl2 hv2) Tryd.underlying25 (Tryd.sizeOf58 _) hx1 fun p2 hp2 => lw_op Z Z Z (ow_load (R := (RSlice RSpan)) Z Z hp2 (Tryd.sizeOf58 _) (Tryd.isAgg58 _) fun v4 hv4 => lw_op Z Z Z (ow_assign Z Z (lw_op Z Z Z (ow_assign Z Z (lw_nil (ew_then (cw_seq (cw_region (lw_op Z Z Z (ow_move Z Z (lw_op Z Z Z (ow_move Z Z ?_)))))))))))))
    replace hb2 := bind_some hb2
    obtain ⟨x2, hx2, hb2⟩ := hb2
    refine lw_op Z Z Z (ow_call Z Z Tryd.call69 (w_impl_FieldTop (hG.mono (hl1.trans hl2)) hC2.old hx2) fun v5 w3 hv5 => ?_)
    obtain ⟨hv5, hb3⟩ := hv5
    have hl3 := Le.no M1 hb3
    have hC3 := hC2.no hb3
    obtain rfl := vint_eq hv5
    replace hb2 := bind_some hb2
    obtain ⟨x3, hx3, hb2⟩ := hb2
    have lz1 := ((hl1.trans hl2).trans hl3)
    refine lw_op Z Z Z (ow_call Z Z Tryd.call68 (w_impl_SpansValid (hG.mono lz1) hC3.old (VRep.mono hl3 hv4) hx3) fun v6 w4 hv6 => ?_)
    obtain ⟨hv6, hb4⟩ := hv6
    have hl4 := Le.no M1 hb4
    have hC4 := hC3.no hb4
    obtain rfl := vbool_eq hv6
    refine lw_op Z Z Z (ow_not Z Z (lw_nil (ew_then ?_)))
    replace hb2 := cond_some hb2
    rcases hb2 with ⟨hc3, hb2⟩ | ⟨hc3, hb2⟩
    ·
     subst hc3
     refine cw_false Z (cw_skip (ew_blockN (ew_then (cw_region (lw_op Z Z Z (ow_add Z Z Z (lw_op Z Z Z (ow_move Z Z (lw_nil ?_)))))))))
     have lz2 := ((hl2.trans hl3).trans hl4)
     exact ew_nxt (W (k1 + 1)) hb2 fun a ha => ⟨M1, (ha.sub ⟨Z, Z, Z, trivial⟩), lz2, hC4⟩
    ·
     subst hc3
     refine cw_true Z (cw_seq (cw_region (lw_op Z Z Z (ow_assign Z Z (lw_nil (ew_then (cw_ret (ew_blockR (ew_thenR (ew_thenR (ew_blockR (ew_brkR (ew_thenR ?_)))))))))))))
     have e1 := hR1 _ (Option.some.inj hb2).symm
     subst e1
     obtain rfl := Option.some.inj h
     exact ew_ret (res1 Z (.tmp Z)) ⟨_, Z, ((vbool _)), hC4.bx⟩
   ·
    obtain rfl := hbb2.trans hc2
    exact cw_false Z (cw_exit (ew_thenX (ew_thenX (ew_blockX (ew_brk k1 hb2 fun a ha => ⟨M1, (ha.sub ⟨Z, Z, Z, trivial⟩), hl2, hC2⟩)))))
  ·
   rintro k2 a w5 hlr2 ⟨M2, hF2, hl5, hC5⟩
   subst hlr2
   refine ew_at (E := [(10, v2), (11, (.int .i64 (a_b.Sides.length : Int))), (12, (.int .i64 k2))]) hF2 (ew_then (cw_seq (cw_region (lw_op Z Z Z (ow_assign Z Z (lw_nil (ew_then (cw_ret ?_))))))))
   obtain rfl := Option.some.inj h
   exact ew_ret (res1 Z (.tmp Z)) ⟨_, Z, ((vbool _)), hC5.bx⟩

theorem w_impl_FlatsValid {w : World} {M : Nat → Prop} (hG : ARep (RArr 4 RShape) w M shapes ⟨0, 0, none⟩) (hO : ∀ b, M b → b < w.heap.size) {v0p : Value} {a_list : List Flat} (h0 : VRep (RSlice RFlat) w M a_list v0p) {r : Bool} (h : F.impl_FlatsValid a_list = some r) :
  Calls Tryd.prog 24 [v0p].toArray w fun e w' => ∃ v, e = .returned v ∧ VRep RBool w' M r v ∧ BX No w w' := by
 have hC : Cx No w M w M := Cx.start hO (fun _ e => e.elim)
 refine walk (N := 19) Tryd.func24 Z Tryd.ntmps24 Z (cw_seq (cw_region (lw_op Z Z Z (ow_assign Z Z (lw_nil (ew_then (cw_seq (cw_seq (cw_region (lw_op Z Z Z (ow_move Z Z (lw_op Z Z Z (ow_len Z Z h0 Tryd.underlying37 Z (lw_op Z Z Z (ow_gtr Z Z Z fun bb1 hbb1 => lw_nil (ew_then ?_))))))))))))))))
 replace h := cond_some h
 rcases h with ⟨hc1, h⟩ | ⟨hc1, h⟩
 ·
  obtain rfl := hbb1.trans hc1
  refine cw_true Z (cw_seq (cw_region (lw_op Z Z Z (ow_assign Z Z (lw_nil (ew_then (cw_ret (ew_thenR ?_))))))))
  obtain rfl := Option.some.inj h
  exact ew_ret (res1 Z (.tmp Z)) ⟨_, Z, ((vbool _)), hC.bx⟩
 ·
  obtain rfl := hbb1.trans hc1
  refine cw_false Z (cw_skip (ew_then (cw_seq (cw_seq (cw_region (lw_op Z Z Z (ow_move Z Z (lw_op Z Z Z (ow_len Z Z h0 Tryd.underlying37 Z (lw_op Z Z Z (ow_move Z Z (lw_nil (ew_then ?_)))))))))))))
  replace h := bind_some h
  obtain ⟨lr1, hlr1, h⟩ := h
  refine cw_for hlr1 (fun s a w' => ∃ (M' : Nat → Prop), Fits 19 [(8, v0p), (9, (.int .i64 (a_list.length : Int))), (10, (.int .i64 s))] a ∧ Le w M w' M' ∧ Cx No w M w' M') ?_ ?_ ?_
  ·
   intro a ha
   exact ⟨M, ha.sub ⟨Z, Z, Z, trivial⟩, Le.refl _ _, hC⟩
  ·
   rintro k1 a w1 sr1 ⟨M1, hF1, hl1, hC1⟩ hb1 hR1
   refine cw_at (E := [(8, v0p), (9, (.int .i64 (a_list.length : Int))), (10, (.int .i64 k1))]) hF1 (cw_seq (cw_region (lw_op Z Z Z (ow_lss Z Z Z fun bb2 hbb2 => lw_nil (ew_then (cw_seq ?_))))))
   replace hb1 := cond_some hb1
   rcases hb1 with ⟨hc2, hb1⟩ | ⟨hc2, hb1⟩
   ·
    obtain rfl := hbb2.trans hc2
    refine cw_true Z (cw_skip (ew_then (cw_seq (cw_block (cw_seq (cw_region ?_))))))
    replace hb1 := bind_some hb1
    obtain ⟨x1, hx1, hb1⟩ := hb1
    refine lw_op Z Z Z (ow_indexSlice (R := RFlat) Z Z Z (VRep.mono hl1 h0) Tryd.underlying37 (Tryd.sizeOf41 _) hx1 fun p1 hp1 => lw_op Z Z Z (ow_load (R := RFlat) Z Z hp1 (Tryd.sizeOf41 _) (Tryd.isAgg41 _) fun v2 hv2 => lw_allocStore (R := RFlat) Z Z Z Z Z Z Z Tryd.zeroValue41 Tryd.sizeOf41 Z Z Z (by simp) hv2 hC1 fun p2 w2 hp2 hb2 hl2 hC2 => lw_nil (ew_then (cw_seq (cw_region (lw_op Z Z Z (ow_fieldAddr Z Z Tryd.underlying41 Z (Tryd.sizeOf27 _) (lw_op Z Z Z (ow_load (R := RBox) Z Z (hp2.fld fld_Flat_Where) (Tryd.sizeOf27 _) (Tryd.isAgg27 _) fun v3 hv3 => ?_)))))))))
    replace hb1 := bind_some hb1
    obtain ⟨x2, hx2, hb1⟩ := hb1
    refine lw_op Z Z Z (ow_call Z Z Tryd.call30 (w_impl_BoxValid (hG.mono (hl1.trans hl2)) hC2.old hv3 hx2) fun v4 w3 hv4 => ?_)
    obtain ⟨hv4, hb3⟩ := hv4
    have hl3 := Le.no M1 hb3
    have hC3 := hC2.no hb3
    obtain rfl := vbool_eq hv4
    refine lw_op Z Z Z (ow_not Z Z (lw_nil (ew_then ?_)))
    replace hb1 := cond_some hb1
    rcases hb1 with ⟨hc3, hb1⟩ | ⟨hc3, hb1⟩
    ·
     subst hc3
     refine cw_false Z (cw_skip (ew_blockN (ew_then (cw_region (lw_op Z Z Z (ow_add Z Z Z (lw_op Z Z Z (ow_move Z Z (lw_nil ?_)))))))))
     have lz1 := ((hl1.trans hl2).trans hl3)
     exact ew_nxt (W (k1 + 1)) hb1 fun a ha => ⟨M1, (ha.sub ⟨Z, Z, Z, trivial⟩), lz1, hC3⟩
    ·
     subst hc3
     refine cw_true Z (cw_seq (cw_region (lw_op Z Z Z (ow_assign Z Z (lw_nil (ew_then (cw_ret (ew_blockR (ew_thenR (ew_thenR (ew_blockR (ew_brkR (ew_thenR ?_)))))))))))))
     have e1 := hR1 _ (Option.some.inj hb1).symm
     subst e1
     obtain rfl := Option.some.inj h
     exact ew_ret (res1 Z (.tmp Z)) ⟨_, Z, ((vbool _)), hC3.bx⟩
   ·
    obtain rfl := hbb2.trans hc2
    exact cw_false Z (cw_exit (ew_thenX (ew_thenX (ew_blockX (ew_brk k1 hb1 fun a ha => ⟨M1, (ha.sub ⟨Z, Z, Z, trivial⟩), hl1, hC1⟩)))))
  ·
   rintro k2 a w4 hlr2 ⟨M2, hF2, hl4, hC4⟩
   subst hlr2
   refine ew_at (E := [(8, v0p), (9, (.int .i64 (a_list.length : Int))), (10, (.int .i64 k2))]) hF2 (ew_then (cw_seq (cw_region (lw_op Z Z Z (ow_assign Z Z (lw_nil (ew_then (cw_ret ?_))))))))
   obtain rfl := Option.some.inj h
   exact ew_ret (res1 Z (.tmp Z)) ⟨_, Z, ((vbool _)), hC4.bx⟩

theorem w_spec_SpansValid {w : World} {M : Nat → Prop} (hG : ARep (RArr 4 RShape) w M shapes ⟨0, 0, none⟩) (hO : ∀ b, M b → b < w.heap.size) {v0p : Value} {a_list : List Span} (h0 : VRep (RSlice RSpan) w M a_list v0p) {a_top : Int} {r : Bool} (h : F.spec_SpansValid a_list a_top = some r) :
  Calls Tryd.prog 80 [v0p, (.int .i64 a_top)].toArray w fun e w' => ∃ v, e = .returned v ∧ VRep RBool w' M r v ∧ BX No w w' := by
 have hC : Cx No w M w M := Cx.start hO (fun _ e => e.elim)
 refine walk (N := 60) Tryd.func80 Z Tryd.ntmps80 Z (cw_seq (cw_region (lw_op Z Z Z (ow_assign Z Z (lw_nil (ew_then (cw_seq (cw_seq (cw_region (lw_op Z Z Z (ow_assign Z Z (lw_nil (ew_then ?_)))))))))))))
 replace h := bind_some h
 obtain ⟨lr1, hlr1, h⟩ := h
 refine cw_for hlr1 (fun s a w' => ∃ (M' : Nat → Prop), Fits 60 [(0, v0p), (1, (.int .i64 a_top)), (5, (.int .i64 s))] a ∧ Le w M w' M' ∧ Cx No w M w' M') ?_ ?_ ?_
 ·
  intro a ha
  exact ⟨M, ha.sub ⟨Z, Z, Z, trivial⟩, Le.refl _ _, hC⟩
 ·
  rintro k1 a w1 sr1 ⟨M1, hF1, hl1, hC1⟩ hb1 hR1
  refine cw_at (E := [(0, v0p), (1, (.int .i64 a_top)), (5, (.int .i64 k1))]) hF1 (cw_seq (cw_seq (cw_region (lw_op Z Z Z (ow_move Z Z (lw_op Z Z Z (ow_move Z Z (lw_op Z Z Z (ow_len Z Z (VRep.mono hl1 h0) Tryd.underlying58 Z (lw_op Z Z Z (ow_lss Z Z Z fun bb1 hbb1 => lw_nil (ew_then ?_))))))))))))
  replace hb1 := cond_some hb1
  rcases hb1 with ⟨hc1, hb1⟩ | ⟨hc1, hb1⟩
  ·
   obtain rfl := hbb1.trans hc1
   refine cw_true Z (cw_skip (ew_then (cw_seq (cw_block (cw_seq ?_)))))
   replace hb1 := bind_some hb1
   obtain ⟨x1, hx1, hb1⟩ := hb1
   replace hb1 := bind_some hb1
   obtain ⟨x2, hx2, hb1⟩ := hb1
   replace hb1 := cond_some hb1
   rcases hb1 with ⟨hc2, hb1⟩ | ⟨hc2, hb1⟩
   ·
    subst hc2
    replace hb1 := bind_some hb1
    obtain ⟨x3, hx3, hb1⟩ := hb1
    replace hb1 := cond_some hb1
    rcases hb1 with ⟨hc3, hb1⟩ | ⟨hc3, hb1⟩
    ·
     subst hc3
     replace hb1 := cond_some hb1
     rcases hb1 with ⟨hc4, hb1⟩ | ⟨hc4, hb1⟩
     ·
      replace hb1 := bind_some hb1
      obtain ⟨x4, hx4, hb1⟩ := hb1
      refine cw_sub (E' := [(0, v0p), (1, (.int .i64 a_top)), (5, (.int .i64 k1))]) ⟨Z, Z, Z, trivial⟩ (cw_drawQ 38 [PV (RSlice RSpan) M1 a_list, PEq (.int .i64 k1), PA RSpan M1 x1, PA RInt M1 x1.Lo, PEq (.int .i64 x1.Lo), PV (RSlice RSpan) M1 a_list, PEq (.int .i64 k1), PA RSpan M1 x1, PA RInt M1 x1.Hi, PEq (.int .i64 x1.Hi), PEq (.bool true), PEq (.bool false), PEq (.bool false), PV (RSlice RSpan) M1 a_list, PEq (.int .i64 k1), PA RSpan M1 x1, PA RInt M1 x1.Hi, PEq (.int .i64 x1.Hi), PEq (.int .i64 a_top), PEq (.bool true), PEq (.bool false), PEq (.bool false), PEq (.bool false), PEq (.int .i64 k1), PEq (.bool true), PEq (.bool true), PV (RSlice RSpan) M1 a_list, PEq (.int .i64 k1), PA RSpan M1 x1, PA RInt M1 x1.Lo, PEq (.int .i64 x1.Lo), PV (RSlice RSpan) M1 a_list, PEq (.int .i64 k1), PEq (.int .i64 (W (k1 - 1))), PA RSpan M1 x4, PA RInt M1 x4.Hi, PEq (.int .i64 x4.Hi), PEq (.int .i64 (W (x4.Hi + 2)))] (by kernel_rfl) Z (by kernel_rfl) ⟨PV.mono _ _ _, PEq.mono _, PA.mono _ _ _, PA.mono _ _ _, PEq.mono _, PV.mono _ _ _, PEq.mono _, PA.mono _ _ _, PA.mono _ _ _, PEq.mono _, PEq.mono _, PEq.mono _, PEq.mono _, PV.mono _ _ _, PEq.mono _, PA.mono _ _ _, PA.mono _ _ _, PEq.mono _, PEq.mono _, PEq.mono _, PEq.mono _, PEq.mono _, PEq.mono _, PEq.mono _, PEq.mono _, PEq.mono _, PV.mono _ _ _, PEq.mono _, PA.mono _ _ _, PA.mono _ _ _, PEq.mono _, PV.mono _ _ _, PEq.mono _, PEq.mono _, PA.mono _ _ _, PA.mono _ _ _, PEq.mono _, PEq.mono _, trivial⟩ ⟨?_, ?_, ?_, ?_, ?_, ?_, ?_, ?_, ?_, ?_, ?_, ?_, ?_, ?_, ?_, ?_, ?_, ?_, ?_, ?_, ?_, ?_, ?_, ?_, ?_, ?_, ?_, ?_, ?_, ?_, ?_, ?_, ?_, ?_, ?_, ?_, ?_, ?_, trivial⟩ ?_)
      ·
       intro w4 D hS1 hd1
       have hl4 := Le.no M1 hS1
       exact dg_sub (E' := [(0, v0p)]) ⟨Z, trivial⟩ (dg_plain Z (ow_move Z Z ⟨BX.refl _ _, (VRep.mono (hl1.trans hl4) h0)⟩))
      ·
       intro w5 D hS2 hd2
       exact dg_sub (E' := [(5, (.int .i64 k1))]) ⟨Z, trivial⟩ (dg_plain Z (ow_move Z Z ⟨BX.refl _ _, Z⟩))
      ·
       intro w6 D hS3 hd3
       have d1 : PV (RSlice RSpan) M1 a_list (D 0) w6 := dpA hd3 0 Z
       generalize hq1 : (D 0) = v9 at d1
       exact dg_sub (E' := [(12, v9), (13, (.int .i64 k1))]) ⟨(congrArg some hq1), (dpE hd3 1 Z Z), trivial⟩ (dg_plain Z (ow_indexSlice (R := RSpan) Z Z Z d1 Tryd.underlying58 (Tryd.sizeOf76 _) hx1 fun p6 hp6 => ⟨BX.refl _ _, ⟨_, Z, hp6⟩⟩))
      ·
       intro w7 D hS4 hd4
       have d3 : PA RSpan M1 x1 (D 2) w7 := dpA hd4 2 Z
       obtain ⟨p7, e1, ha1⟩ := d3
       exact dg_sub (E' := [(14, (.pointer (some p7)))]) ⟨(congrArg some e1), trivial⟩ (dg_plain Z (ow_fieldAddr Z Z Tryd.underlying76 Z (Tryd.sizeOf3 _) ⟨BX.refl _ _, ⟨_, Z, (ha1.fld fld_Span_Lo)⟩⟩))
      ·
       intro w8 D hS5 hd5
       have d4 : PA RInt M1 x1.Lo (D 3) w8 := dpA hd5 3 Z
       obtain ⟨p8, e2, ha2⟩ := d4
       refine dg_sub (E' := [(15, (.pointer (some p8)))]) ⟨(congrArg some e2), trivial⟩ (dg_plain Z (ow_load (R := RInt) Z Z ha2 (Tryd.sizeOf3 _) (Tryd.isAgg3 _) fun v10 hv10 => ?_))
       obtain rfl := vint_eq hv10
       exact ⟨BX.refl _ _, Z⟩
      ·
       intro w9 D hS6 hd6
       have hl9 := Le.no M1 hS6
       exact dg_sub (E' := [(0, v0p)]) ⟨Z, trivial⟩ (dg_plain Z (ow_move Z Z ⟨BX.refl _ _, (VRep.mono (hl1.trans hl9) h0)⟩))
      ·
       intro w10 D hS7 hd7
       exact dg_sub (E' := [(5, (.int .i64 k1))]) ⟨Z, trivial⟩ (dg_plain Z (ow_move Z Z ⟨BX.refl _ _, Z⟩))
      ·
       intro w11 D hS8 hd8
       have d5 : PV (RSlice RSpan) M1 a_list (D 5) w11 := dpA hd8 5 Z
       generalize hq2 : (D 5) = v11 at d5
       exact dg_sub (E' := [(17, v11), (18, (.int .i64 k1))]) ⟨(congrArg some hq2), (dpE hd8 6 Z Z), trivial⟩ (dg_plain Z (ow_indexSlice (R := RSpan) Z Z Z d5 Tryd.underlying58 (Tryd.sizeOf76 _) hx1 fun p9 hp9 => ⟨BX.refl _ _, ⟨_, Z, hp9⟩⟩))
      ·
       intro w12 D hS9 hd9
       have d7 : PA RSpan M1 x1 (D 7) w12 := dpA hd9 7 Z
       obtain ⟨p10, e3, ha3⟩ := d7
       exact dg_sub (E' := [(19, (.pointer (some p10)))]) ⟨(congrArg some e3), trivial⟩ (dg_plain Z (ow_fieldAddr Z Z Tryd.underlying76 Z (Tryd.sizeOf3 _) ⟨BX.refl _ _, ⟨_, Z, (ha3.fld fld_Span_Hi)⟩⟩))
      ·
       intro w13 D hS10 hd10
       have d8 : PA RInt M1 x1.Hi (D 8) w13 := dpA hd10 8 Z
       obtain ⟨p11, e4, ha4⟩ := d8
       refine dg_sub (E' := [(20, (.pointer (some p11)))]) ⟨(congrArg some e4), trivial⟩ (dg_plain Z (ow_load (R := RInt) Z Z ha4 (Tryd.sizeOf3 _) (Tryd.isAgg3 _) fun v12 hv12 => ?_))
       obtain rfl := vint_eq hv12
       exact ⟨BX.refl _ _, Z⟩
      ·
       intro w14 D hS11 hd11
       have hl14 := Le.no M1 hS11
       have hC14 := hC1.no hS11
       refine dg_sub (E' := [(16, (.int .i64 x1.Lo)), (21, (.int .i64 x1.Hi))]) ⟨(dpE hd11 4 Z Z), (dpE hd11 9 Z Z), trivial⟩ (dg_plain Z (ow_call Z Z Tryd.call82 (w_spec_l1In (hG.mono (hl1.trans hl14)) hC14.old hx2) fun v13 w15 hv13 => ?_))
       obtain ⟨hv13, hb4⟩ := hv13
       obtain rfl := vbool_eq hv13
       exact ⟨hb4, Z⟩
      ·
       intro w16 D hS12 hd12
       exact dg_sub (E' := [(22, (.bool true))]) ⟨(dpE hd12 10 Z Z), trivial⟩ (dg_plain Z (ow_not Z Z ⟨BX.refl _ _, Z⟩))
      ·
       intro w17 D hS13 hd13
       exact dg_sub (E' := [(23, (.bool false))]) ⟨(dpE hd13 11 Z Z), trivial⟩ (dg_plain Z (ow_move Z Z ⟨BX.refl _ _, Z⟩))
      ·
       intro w18 D hS14 hd14
       have hl18 := Le.no M1 hS14
       exact dg_sub (E' := [(24, (.bool false)), (0, v0p)]) ⟨(dpE hd14 12 Z Z), Z, trivial⟩ (dg_on Z Z Z Z (ow_move Z Z ⟨BX.refl _ _, (VRep.mono (hl1.trans hl18) h0)⟩))
      ·
       intro w19 D hS15 hd15
       exact dg_sub (E' := [(24, (.bool false)), (5, (.int .i64 k1))]) ⟨(dpE hd15 12 Z Z), Z, trivial⟩ (dg_on Z Z Z Z (ow_move Z Z ⟨BX.refl _ _, Z⟩))
      ·
       intro w20 D hS16 hd16
       have d16 : PV (RSlice RSpan) M1 a_list (D 13) w20 := dpA hd16 13 Z
       generalize hq3 : (D 13) = v14 at d16
       exact dg_sub (E' := [(25, v14), (26, (.int .i64 k1)), (24, (.bool false))]) ⟨(congrArg some hq3), (dpE hd16 14 Z Z), (dpE hd16 12 Z Z), trivial⟩ (dg_on Z Z Z Z (ow_indexSlice (R := RSpan) Z Z Z d16 Tryd.underlying58 (Tryd.sizeOf76 _) hx1 fun p12 hp12 => ⟨BX.refl _ _, ⟨_, Z, hp12⟩⟩))
      ·
       intro w21 D hS17 hd17
       have d19 : PA RSpan M1 x1 (D 15) w21 := dpA hd17 15 Z
       obtain ⟨p13, e5, ha5⟩ := d19
       exact dg_sub (E' := [(27, (.pointer (some p13))), (24, (.bool false))]) ⟨(congrArg some e5), (dpE hd17 12 Z Z), trivial⟩ (dg_on Z Z Z Z (ow_fieldAddr Z Z Tryd.underlying76 Z (Tryd.sizeOf3 _) ⟨BX.refl _ _, ⟨_, Z, (ha5.fld fld_Span_Hi)⟩⟩))
      ·
       intro w22 D hS18 hd18
       have d21 : PA RInt M1 x1.Hi (D 16) w22 := dpA hd18 16 Z
       obtain ⟨p14, e6, ha6⟩ := d21
       refine dg_sub (E' := [(28, (.pointer (some p14))), (24, (.bool false))]) ⟨(congrArg some e6), (dpE hd18 12 Z Z), trivial⟩ (dg_on Z Z Z Z (ow_load (R := RInt) Z Z ha6 (Tryd.sizeOf3 _) (Tryd.isAgg3 _) fun v15 hv15 => ?_))
       obtain rfl := vint_eq hv15
       exact ⟨BX.refl _ _, Z⟩
      ·
       intro w23 D hS19 hd19
       exact dg_sub (E' := [(24, (.bool false)), (1, (.int .i64 a_top))]) ⟨(dpE hd19 12 Z Z), Z, trivial⟩ (dg_on Z Z Z Z (ow_move Z Z ⟨BX.refl _ _, Z⟩))
      ·
       intro w24 D hS20 hd20
       have hl24 := Le.no M1 hS20
       have hC24 := hC1.no hS20
       refine dg_sub (E' := [(29, (.int .i64 x1.Hi)), (30, (.int .i64 a_top)), (24, (.bool false))]) ⟨(dpE hd20 17 Z Z), (dpE hd20 18 Z Z), (dpE hd20 12 Z Z), trivial⟩ (dg_on Z Z Z Z (ow_call Z Z Tryd.call82 (w_spec_l1In (hG.mono (hl1.trans hl24)) hC24.old hx3) fun v16 w25 hv16 => ?_))
       obtain ⟨hv16, hb5⟩ := hv16
       obtain rfl := vbool_eq hv16
       exact ⟨hb5, Z⟩
      ·
       intro w26 D hS21 hd21
       exact dg_sub (E' := [(31, (.bool true)), (24, (.bool false))]) ⟨(dpE hd21 19 Z Z), (dpE hd21 12 Z Z), trivial⟩ (dg_on Z Z Z Z (ow_not Z Z ⟨BX.refl _ _, Z⟩))
      ·
       intro w27 D hS22 hd22
       exact dg_sub (E' := [(24, (.bool false)), (32, (.bool false))]) ⟨(dpE hd22 12 Z Z), (dpE hd22 20 Z Z), trivial⟩ (dg_plain Z (ow_pickF Z Z Z ⟨BX.refl _ _, Z⟩))
      ·
       intro w28 D hS23 hd23
       exact dg_sub (E' := [(33, (.bool false))]) ⟨(dpE hd23 21 Z Z), trivial⟩ (dg_plain Z (ow_move Z Z ⟨BX.refl _ _, Z⟩))
      ·
       intro w29 D hS24 hd24
       exact dg_sub (E' := [(34, (.bool false)), (5, (.int .i64 k1))]) ⟨(dpE hd24 22 Z Z), Z, trivial⟩ (dg_on Z Z Z Z (ow_move Z Z ⟨BX.refl _ _, Z⟩))
      ·
       intro w30 D hS25 hd25
       refine dg_sub (E' := [(35, (.int .i64 k1)), (34, (.bool false))]) ⟨(dpE hd25 23 Z Z), (dpE hd25 22 Z Z), trivial⟩ (dg_on Z Z Z Z (ow_gtr Z Z Z fun bb3 hbb3 => ?_))
       obtain rfl := hbb3.trans hc4
       exact ⟨BX.refl _ _, Z⟩
      ·
       intro w31 D hS26 hd26
       exact dg_sub (E' := [(36, (.bool true)), (34, (.bool false))]) ⟨(dpE hd26 24 Z Z), (dpE hd26 22 Z Z), trivial⟩ (dg_on Z Z Z Z (ow_move Z Z ⟨BX.refl _ _, Z⟩))
      ·
       intro w32 D hS27 hd27
       have hl32 := Le.no M1 hS27
       exact dg_sub (E' := [(37, (.bool true)), (0, v0p)]) ⟨(dpE hd27 25 Z Z), Z, trivial⟩ (dg_on Z Z Z Z (ow_move Z Z ⟨BX.refl _ _, (VRep.mono (hl1.trans hl32) h0)⟩))
      ·
       intro w33 D hS28 hd28
       exact dg_sub (E' := [(37, (.bool true)), (5, (.int .i64 k1))]) ⟨(dpE hd28 25 Z Z), Z, trivial⟩ (dg_on Z Z Z Z (ow_move Z Z ⟨BX.refl _ _, Z⟩))
      ·
       intro w34 D hS29 hd29
       have d42 : PV (RSlice RSpan) M1 a_list (D 26) w34 := dpA hd29 26 Z
       generalize hq4 : (D 26) = v17 at d42
       exact dg_sub (E' := [(38, v17), (39, (.int .i64 k1)), (37, (.bool true))]) ⟨(congrArg some hq4), (dpE hd29 27 Z Z), (dpE hd29 25 Z Z), trivial⟩ (dg_on Z Z Z Z (ow_indexSlice (R := RSpan) Z Z Z d42 Tryd.underlying58 (Tryd.sizeOf76 _) hx1 fun p15 hp15 => ⟨BX.refl _ _, ⟨_, Z, hp15⟩⟩))
      ·
       intro w35 D hS30 hd30
       have d45 : PA RSpan M1 x1 (D 28) w35 := dpA hd30 28 Z
       obtain ⟨p16, e7, ha7⟩ := d45
       exact dg_sub (E' := [(40, (.pointer (some p16))), (37, (.bool true))]) ⟨(congrArg some e7), (dpE hd30 25 Z Z), trivial⟩ (dg_on Z Z Z Z (ow_fieldAddr Z Z Tryd.underlying76 Z (Tryd.sizeOf3 _) ⟨BX.refl _ _, ⟨_, Z, (ha7.fld fld_Span_Lo)⟩⟩))
      ·
       intro w36 D hS31 hd31
       have d47 : PA RInt M1 x1.Lo (D 29) w36 := dpA hd31 29 Z
       obtain ⟨p17, e8, ha8⟩ := d47
       refine dg_sub (E' := [(41, (.pointer (some p17))), (37, (.bool true))]) ⟨(congrArg some e8), (dpE hd31 25 Z Z), trivial⟩ (dg_on Z Z Z Z (ow_load (R := RInt) Z Z ha8 (Tryd.sizeOf3 _) (Tryd.isAgg3 _) fun v18 hv18 => ?_))
       obtain rfl := vint_eq hv18
       exact ⟨BX.refl _ _, Z⟩
      ·
       intro w37 D hS32 hd32
       have hl37 := Le.no M1 hS32
       exact dg_sub (E' := [(37, (.bool true)), (0, v0p)]) ⟨(dpE hd32 25 Z Z), Z, trivial⟩ (dg_on Z Z Z Z (ow_move Z Z ⟨BX.refl _ _, (VRep.mono (hl1.trans hl37) h0)⟩))
      ·
       intro w38 D hS33 hd33
       exact dg_sub (E' := [(37, (.bool true)), (5, (.int .i64 k1))]) ⟨(dpE hd33 25 Z Z), Z, trivial⟩ (dg_on Z Z Z Z (ow_move Z Z ⟨BX.refl _ _, Z⟩))
      ·
       intro w39 D hS34 hd34
       exact dg_sub (E' := [(44, (.int .i64 k1)), (37, (.bool true))]) ⟨(dpE hd34 32 Z Z), (dpE hd34 25 Z Z), trivial⟩ (dg_on Z Z Z Z (ow_sub Z Z Z ⟨BX.refl _ _, Z⟩))
      ·
       intro w40 D hS35 hd35
       have d53 : PV (RSlice RSpan) M1 a_list (D 31) w40 := dpA hd35 31 Z
       generalize hq5 : (D 31) = v19 at d53
       exact dg_sub (E' := [(43, v19), (45, (.int .i64 (W (k1 - 1)))), (37, (.bool true))]) ⟨(congrArg some hq5), (dpE hd35 33 Z Z), (dpE hd35 25 Z Z), trivial⟩ (dg_on Z Z Z Z (ow_indexSlice (R := RSpan) Z Z Z d53 Tryd.underlying58 (Tryd.sizeOf76 _) hx4 fun p18 hp18 => ⟨BX.refl _ _, ⟨_, Z, hp18⟩⟩))
      ·
       intro w41 D hS36 hd36
       have d56 : PA RSpan M1 x4 (D 34) w41 := dpA hd36 34 Z
       obtain ⟨p19, e9, ha9⟩ := d56
       exact dg_sub (E' := [(46, (.pointer (some p19))), (37, (.bool true))]) ⟨(congrArg some e9), (dpE hd36 25 Z Z), trivial⟩ (dg_on Z Z Z Z (ow_fieldAddr Z Z Tryd.underlying76 Z (Tryd.sizeOf3 _) ⟨BX.refl _ _, ⟨_, Z, (ha9.fld fld_Span_Hi)⟩⟩))
      ·
       intro w42 D hS37 hd37
       have d58 : PA RInt M1 x4.Hi (D 35) w42 := dpA hd37 35 Z
       obtain ⟨p20, e10, ha10⟩ := d58
       refine dg_sub (E' := [(47, (.pointer (some p20))), (37, (.bool true))]) ⟨(congrArg some e10), (dpE hd37 25 Z Z), trivial⟩ (dg_on Z Z Z Z (ow_load (R := RInt) Z Z ha10 (Tryd.sizeOf3 _) (Tryd.isAgg3 _) fun v20 hv20 => ?_))
       obtain rfl := vint_eq hv20
       exact ⟨BX.refl _ _, Z⟩
      ·
       intro w43 D hS38 hd38
       exact dg_sub (E' := [(48, (.int .i64 x4.Hi)), (37, (.bool true))]) ⟨(dpE hd38 36 Z Z), (dpE hd38 25 Z Z), trivial⟩ (dg_on Z Z Z Z (ow_add Z Z Z ⟨BX.refl _ _, Z⟩))
      ·
       intro w44 D hS39 hd39
       have hl44 := Le.no M1 hS39
       have hC44 := hC1.no hS39
       refine lw_sub (E' := [(34, (.bool false)), (37, (.bool true)), (42, (.int .i64 x1.Lo)), (49, (.int .i64 (W (x4.Hi + 2)))), (0, v0p), (1, (.int .i64 a_top)), (5, (.int .i64 k1))]) ⟨(dpE hd39 22 Z Z), (dpE hd39 25 Z Z), (dpE hd39 30 Z Z), (dpE hd39 37 Z Z), Z, Z, Z, trivial⟩ (lw_on Z Z Z Z Z Z (ow_lss Z Z Z fun bb4 hbb4 => lw_on Z Z Z Z Z Z (ow_pickT Z Z Z (lw_op Z Z Z (ow_pickF Z Z Z (lw_nil (ew_then ?_)))))))
       replace hb1 := cond_some hb1
       rcases hb1 with ⟨hc5, hb1⟩ | ⟨hc5, hb1⟩
       ·
        obtain rfl := hbb4.trans hc5
        refine cw_true Z (cw_seq (cw_region (lw_op Z Z Z (ow_assign Z Z (lw_nil (ew_then (cw_ret (ew_blockR (ew_thenR (ew_thenR (ew_blockR (ew_brkR (ew_thenR ?_)))))))))))))
        have e11 := hR1 _ (Option.some.inj hb1).symm
        subst e11
        obtain rfl := Option.some.inj h
        exact ew_ret (res1 Z (.tmp Z)) ⟨_, Z, ((vbool _)), hC44.bx⟩
       ·
        obtain rfl := hbb4.trans hc5
        exact cw_false Z (cw_skip (ew_blockN (ew_then (cw_region (lw_op Z Z Z (ow_move Z Z (lw_op Z Z Z (ow_add Z Z Z (lw_op Z Z Z (ow_assign Z Z (lw_nil (ew_nxt (W (k1 + 1)) hb1 fun a ha => ⟨M1, (ha.sub ⟨Z, Z, Z, trivial⟩), (hl1.trans hl44), hC44⟩))))))))))))
     ·
      refine cw_sub (E' := [(0, v0p), (1, (.int .i64 a_top)), (5, (.int .i64 k1))]) ⟨Z, Z, Z, trivial⟩ (cw_drawQ 38 [PV (RSlice RSpan) M1 a_list, PEq (.int .i64 k1), PA RSpan M1 x1, PA RInt M1 x1.Lo, PEq (.int .i64 x1.Lo), PV (RSlice RSpan) M1 a_list, PEq (.int .i64 k1), PA RSpan M1 x1, PA RInt M1 x1.Hi, PEq (.int .i64 x1.Hi), PEq (.bool true), PEq (.bool false), PEq (.bool false), PV (RSlice RSpan) M1 a_list, PEq (.int .i64 k1), PA RSpan M1 x1, PA RInt M1 x1.Hi, PEq (.int .i64 x1.Hi), PEq (.int .i64 a_top), PEq (.bool true), PEq (.bool false), PEq (.bool false), PEq (.bool false), PEq (.int .i64 k1), PEq (.bool false), PEq (.bool false), PEq undef, PEq undef, PEq undef, PEq undef, PEq undef, PEq undef, PEq undef, PEq undef, PEq undef, PEq undef, PEq undef, PEq undef] (by kernel_rfl) Z (by kernel_rfl) ⟨PV.mono _ _ _, PEq.mono _, PA.mono _ _ _, PA.mono _ _ _, PEq.mono _, PV.mono _ _ _, PEq.mono _, PA.mono _ _ _, PA.mono _ _ _, PEq.mono _, PEq.mono _, PEq.mono _, PEq.mono _, PV.mono _ _ _, PEq.mono _, PA.mono _ _ _, PA.mono _ _ _, PEq.mono _, PEq.mono _, PEq.mono _, PEq.mono _, PEq.mono _, PEq.mono _, PEq.mono _, PEq.mono _, PEq.mono _, PEq.mono _, PEq.mono _, PEq.mono _, PEq.mono _, PEq.mono _, PEq.mono _, PEq.mono _, PEq.mono _, PEq.mono _, PEq.mono _, PEq.mono _, PEq.mono _, trivial⟩ ⟨?_, ?_, ?_, ?_, ?_, ?_, ?_, ?_, ?_, ?_, ?_, ?_, ?_, ?_, ?_, ?_, ?_, ?_, ?_, ?_, ?_, ?_, ?_, ?_, ?_, ?_, ?_, ?_, ?_, ?_, ?_, ?_, ?_, ?_, ?_, ?_, ?_, ?_, trivial⟩ ?_)
      ·
       intro w45 D hS40 hd40
       have hl45 := Le.no M1 hS40
       exact dg_sub (E' := [(0, v0p)]) ⟨Z, trivial⟩ (dg_plain Z (ow_move Z Z ⟨BX.refl _ _, (VRep.mono (hl1.trans hl45) h0)⟩))
      ·
       intro w46 D hS41 hd41
       exact dg_sub (E' := [(5, (.int .i64 k1))]) ⟨Z, trivial⟩ (dg_plain Z (ow_move Z Z ⟨BX.refl _ _, Z⟩))
      ·
       intro w47 D hS42 hd42
       have d100 : PV (RSlice RSpan) M1 a_list (D 0) w47 := dpA hd42 0 Z
       generalize hq6 : (D 0) = v21 at d100
       exact dg_sub (E' := [(12, v21), (13, (.int .i64 k1))]) ⟨(congrArg some hq6), (dpE hd42 1 Z Z), trivial⟩ (dg_plain Z (ow_indexSlice (R := RSpan) Z Z Z d100 Tryd.underlying58 (Tryd.sizeOf76 _) hx1 fun p21 hp21 => ⟨BX.refl _ _, ⟨_, Z, hp21⟩⟩))
      ·
       intro w48 D hS43 hd43
       have d102 : PA RSpan M1 x1 (D 2) w48 := dpA hd43 2 Z
       obtain ⟨p22, e12, ha11⟩ := d102
       exact dg_sub (E' := [(14, (.pointer (some p22)))]) ⟨(congrArg some e12), trivial⟩ (dg_plain Z (ow_fieldAddr Z Z Tryd.underlying76 Z (Tryd.sizeOf3 _) ⟨BX.refl _ _, ⟨_, Z, (ha11.fld fld_Span_Lo)⟩⟩))
      ·
       intro w49 D hS44 hd44
       have d103 : PA RInt M1 x1.Lo (D 3) w49 := dpA hd44 3 Z
       obtain ⟨p23, e13, ha12⟩ := d103
       refine dg_sub (E' := [(15, (.pointer (some p23)))]) ⟨(congrArg some e13), trivial⟩ (dg_plain Z (ow_load (R := RInt) Z Z ha12 (Tryd.sizeOf3 _) (Tryd.isAgg3 _) fun v22 hv22 => ?_))
       obtain rfl := vint_eq hv22
       exact ⟨BX.refl _ _, Z⟩
      ·
       intro w50 D hS45 hd45
       have hl50 := Le.no M1 hS45
       exact dg_sub (E' := [(0, v0p)]) ⟨Z, trivial⟩ (dg_plain Z (ow_move Z Z ⟨BX.refl _ _, (VRep.mono (hl1.trans hl50) h0)⟩))
      ·
       intro w51 D hS46 hd46
       exact dg_sub (E' := [(5, (.int .i64 k1))]) ⟨Z, trivial⟩ (dg_plain Z (ow_move Z Z ⟨BX.refl _ _, Z⟩))
      ·
       intro w52 D hS47 hd47
       have d104 : PV (RSlice RSpan) M1 a_list (D 5) w52 := dpA hd47 5 Z
       generalize hq7 : (D 5) = v23 at d104
       exact dg_sub (E' := [(17, v23), (18, (.int .i64 k1))]) ⟨(congrArg some hq7), (dpE hd47 6 Z Z), trivial⟩ (dg_plain Z (ow_indexSlice (R := RSpan) Z Z Z d104 Tryd.underlying58 (Tryd.sizeOf76 _) hx1 fun p24 hp24 => ⟨BX.refl _ _, ⟨_, Z, hp24⟩⟩))
      ·
       intro w53 D hS48 hd48
       have d106 : PA RSpan M1 x1 (D 7) w53 := dpA hd48 7 Z
       obtain ⟨p25, e14, ha13⟩ := d106
       exact dg_sub (E' := [(19, (.pointer (some p25)))]) ⟨(congrArg some e14), trivial⟩ (dg_plain Z (ow_fieldAddr Z Z Tryd.underlying76 Z (Tryd.sizeOf3 _) ⟨BX.refl _ _, ⟨_, Z, (ha13.fld fld_Span_Hi)⟩⟩))
      ·
       intro w54 D hS49 hd49
       have d107 : PA RInt M1 x1.Hi (D 8) w54 := dpA hd49 8 Z
       obtain ⟨p26, e15, ha14⟩ := d107
       refine dg_sub (E' := [(20, (.pointer (some p26)))]) ⟨(congrArg some e15), trivial⟩ (dg_plain Z (ow_load (R := RInt) Z Z ha14 (Tryd.sizeOf3 _) (Tryd.isAgg3 _) fun v24 hv24 => ?_))
       obtain rfl := vint_eq hv24
       exact ⟨BX.refl _ _, Z⟩
      ·
       intro w55 D hS50 hd50
       have hl55 := Le.no M1 hS50
       have hC55 := hC1.no hS50
       refine dg_sub (E' := [(16, (.int .i64 x1.Lo)), (21, (.int .i64 x1.Hi))]) ⟨(dpE hd50 4 Z Z), (dpE hd50 9 Z Z), trivial⟩ (dg_plain Z (ow_call Z Z Tryd.call82 (w_spec_l1In (hG.mono (hl1.trans hl55)) hC55.old hx2) fun v25 w56 hv25 => ?_))
       obtain ⟨hv25, hb6⟩ := hv25
       obtain rfl := vbool_eq hv25
       exact ⟨hb6, Z⟩
      ·
       intro w57 D hS51 hd51
       exact dg_sub (E' := [(22, (.bool true))]) ⟨(dpE hd51 10 Z Z), trivial⟩ (dg_plain Z (ow_not Z Z ⟨BX.refl _ _, Z⟩))
      ·
       intro w58 D hS52 hd52
       exact dg_sub (E' := [(23, (.bool false))]) ⟨(dpE hd52 11 Z Z), trivial⟩ (dg_plain Z (ow_move Z Z ⟨BX.refl _ _, Z⟩))
      ·
       intro w59 D hS53 hd53
       have hl59 := Le.no M1 hS53
       exact dg_sub (E' := [(24, (.bool false)), (0, v0p)]) ⟨(dpE hd53 12 Z Z), Z, trivial⟩ (dg_on Z Z Z Z (ow_move Z Z ⟨BX.refl _ _, (VRep.mono (hl1.trans hl59) h0)⟩))
      ·
       intro w60 D hS54 hd54
       exact dg_sub (E' := [(24, (.bool false)), (5, (.int .i64 k1))]) ⟨(dpE hd54 12 Z Z), Z, trivial⟩ (dg_on Z Z Z Z (ow_move Z Z ⟨BX.refl _ _, Z⟩))
      ·
       intro w61 D hS55 hd55
       have d115 : PV (RSlice RSpan) M1 a_list (D 13) w61 := dpA hd55 13 Z
       generalize hq8 : (D 13) = v26 at d115
       exact dg_sub (E' := [(25, v26), (26, (.int .i64 k1)), (24, (.bool false))]) ⟨(congrArg some hq8), (dpE hd55 14 Z Z), (dpE hd55 12 Z Z), trivial⟩ (dg_on Z Z Z Z (ow_indexSlice (R := RSpan) Z Z Z d115 Tryd.underlying58 (Tryd.sizeOf76 _) hx1 fun p27 hp27 => ⟨BX.refl _ _, ⟨_, Z, hp27⟩⟩))
      ·
       intro w62 D hS56 hd56
       have d118 : PA RSpan M1 x1 (D 15) w62 := dpA hd56 15 Z
       obtain ⟨p28, e16, ha15⟩ := d118
       exact dg_sub (E' := [(27, (.pointer (some p28))), (24, (.bool false))]) ⟨(congrArg some e16), (dpE hd56 12 Z Z), trivial⟩ (dg_on Z Z Z Z (ow_fieldAddr Z Z Tryd.underlying76 Z (Tryd.sizeOf3 _) ⟨BX.refl _ _, ⟨_, Z, (ha15.fld fld_Span_Hi)⟩⟩))
      ·
       intro w63 D hS57 hd57
       have d120 : PA RInt M1 x1.Hi (D 16) w63 := dpA hd57 16 Z
       obtain ⟨p29, e17, ha16⟩ := d120
       refine dg_sub (E' := [(28, (.pointer (some p29))), (24, (.bool false))]) ⟨(congrArg some e17), (dpE hd57 12 Z Z), trivial⟩ (dg_on Z Z Z Z (ow_load (R := RInt) Z Z ha16 (Tryd.sizeOf3 _) (Tryd.isAgg3 _) fun v27 hv27 => ?_))
       obtain rfl := vint_eq hv27
       exact ⟨BX.refl _ _, Z⟩
      ·
       intro w64 D hS58 hd58
       exact dg_sub (E' := [(24, (.bool false)), (1, (.int .i64 a_top))]) ⟨(dpE hd58 12 Z Z), Z, trivial⟩ (dg_on Z Z Z Z (ow_move Z Z ⟨BX.refl _ _, Z⟩))
      ·
       intro w65 D hS59 hd59
       have hl65 := Le.no M1 hS59
       have hC65 := hC1.no hS59
       refine dg_sub (E' := [(29, (.int .i64 x1.Hi)), (30, (.int .i64 a_top)), (24, (.bool false))]) ⟨(dpE hd59 17 Z Z), (dpE hd59 18 Z Z), (dpE hd59 12 Z Z), trivial⟩ (dg_on Z Z Z Z (ow_call Z Z Tryd.call82 (w_spec_l1In (hG.mono (hl1.trans hl65)) hC65.old hx3) fun v28 w66 hv28 => ?_))
       obtain ⟨hv28, hb7⟩ := hv28
       obtain rfl := vbool_eq hv28
       exact ⟨hb7, Z⟩
      ·
       intro w67 D hS60 hd60
       exact dg_sub (E' := [(31, (.bool true)), (24, (.bool false))]) ⟨(dpE hd60 19 Z Z), (dpE hd60 12 Z Z), trivial⟩ (dg_on Z Z Z Z (ow_not Z Z ⟨BX.refl _ _, Z⟩))
      ·
       intro w68 D hS61 hd61
       exact dg_sub (E' := [(24, (.bool false)), (32, (.bool false))]) ⟨(dpE hd61 12 Z Z), (dpE hd61 20 Z Z), trivial⟩ (dg_plain Z (ow_pickF Z Z Z ⟨BX.refl _ _, Z⟩))
      ·
       intro w69 D hS62 hd62
       exact dg_sub (E' := [(33, (.bool false))]) ⟨(dpE hd62 21 Z Z), trivial⟩ (dg_plain Z (ow_move Z Z ⟨BX.refl _ _, Z⟩))
      ·
       intro w70 D hS63 hd63
       exact dg_sub (E' := [(34, (.bool false)), (5, (.int .i64 k1))]) ⟨(dpE hd63 22 Z Z), Z, trivial⟩ (dg_on Z Z Z Z (ow_move Z Z ⟨BX.refl _ _, Z⟩))
      ·
       intro w71 D hS64 hd64
       refine dg_sub (E' := [(35, (.int .i64 k1)), (34, (.bool false))]) ⟨(dpE hd64 23 Z Z), (dpE hd64 22 Z Z), trivial⟩ (dg_on Z Z Z Z (ow_gtr Z Z Z fun bb5 hbb5 => ?_))
       obtain rfl := hbb5.trans hc4
       exact ⟨BX.refl _ _, Z⟩
      ·
       intro w72 D hS65 hd65
       exact dg_sub (E' := [(36, (.bool false)), (34, (.bool false))]) ⟨(dpE hd65 24 Z Z), (dpE hd65 22 Z Z), trivial⟩ (dg_on Z Z Z Z (ow_move Z Z ⟨BX.refl _ _, Z⟩))
      ·
       intro w73 D hS66 hd66
       exact dg_sub (E' := [(37, (.bool false)), (0, v0p)]) ⟨(dpE hd66 25 Z Z), Z, trivial⟩ (dg_off Z Z Z Z ⟨BX.refl _ _, Z⟩)
      ·
       intro w74 D hS67 hd67
       exact dg_sub (E' := [(37, (.bool false)), (5, (.int .i64 k1))]) ⟨(dpE hd67 25 Z Z), Z, trivial⟩ (dg_off Z Z Z Z ⟨BX.refl _ _, Z⟩)
      ·
       intro w75 D hS68 hd68
       exact dg_sub (E' := [(38, undef), (39, undef), (37, (.bool false))]) ⟨(dpE hd68 26 Z Z), (dpE hd68 27 Z Z), (dpE hd68 25 Z Z), trivial⟩ (dg_off Z Z Z Z ⟨BX.refl _ _, Z⟩)
      ·
       intro w76 D hS69 hd69
       exact dg_sub (E' := [(40, undef), (37, (.bool false))]) ⟨(dpE hd69 28 Z Z), (dpE hd69 25 Z Z), trivial⟩ (dg_off Z Z Z Z ⟨BX.refl _ _, Z⟩)
      ·
       intro w77 D hS70 hd70
       exact dg_sub (E' := [(41, undef), (37, (.bool false))]) ⟨(dpE hd70 29 Z Z), (dpE hd70 25 Z Z), trivial⟩ (dg_off Z Z Z Z ⟨BX.refl _ _, Z⟩)
      ·
       intro w78 D hS71 hd71
       exact dg_sub (E' := [(37, (.bool false)), (0, v0p)]) ⟨(dpE hd71 25 Z Z), Z, trivial⟩ (dg_off Z Z Z Z ⟨BX.refl _ _, Z⟩)
      ·
       intro w79 D hS72 hd72
       exact dg_sub (E' := [(37, (.bool false)), (5, (.int .i64 k1))]) ⟨(dpE hd72 25 Z Z), Z, trivial⟩ (dg_off Z Z Z Z ⟨BX.refl _ _, Z⟩)
      ·
       intro w80 D hS73 hd73
       exact dg_sub (E' := [(44, undef), (37, (.bool false))]) ⟨(dpE hd73 32 Z Z), (dpE hd73 25 Z Z), trivial⟩ (dg_off Z Z Z Z ⟨BX.refl _ _, Z⟩)
      ·
       intro w81 D hS74 hd74
       exact dg_sub (E' := [(43, undef), (45, undef), (37, (.bool false))]) ⟨(dpE hd74 31 Z Z), (dpE hd74 33 Z Z), (dpE hd74 25 Z Z), trivial⟩ (dg_off Z Z Z Z ⟨BX.refl _ _, Z⟩)
      ·
       intro w82 D hS75 hd75
       exact dg_sub (E' := [(46, undef), (37, (.bool false))]) ⟨(dpE hd75 34 Z Z), (dpE hd75 25 Z Z), trivial⟩ (dg_off Z Z Z Z ⟨BX.refl _ _, Z⟩)
      ·
       intro w83 D hS76 hd76
       exact dg_sub (E' := [(47, undef), (37, (.bool false))]) ⟨(dpE hd76 35 Z Z), (dpE hd76 25 Z Z), trivial⟩ (dg_off Z Z Z Z ⟨BX.refl _ _, Z⟩)
      ·
       intro w84 D hS77 hd77
       exact dg_sub (E' := [(48, undef), (37, (.bool false))]) ⟨(dpE hd77 36 Z Z), (dpE hd77 25 Z Z), trivial⟩ (dg_off Z Z Z Z ⟨BX.refl _ _, Z⟩)
      ·
       intro w85 D hS78 hd78
       have hl85 := Le.no M1 hS78
       have hC85 := hC1.no hS78
       exact lw_sub (E' := [(34, (.bool false)), (37, (.bool false)), (42, undef), (49, undef), (0, v0p), (1, (.int .i64 a_top)), (5, (.int .i64 k1))]) ⟨(dpE hd78 22 Z Z), (dpE hd78 25 Z Z), (dpE hd78 30 Z Z), (dpE hd78 37 Z Z), Z, Z, Z, trivial⟩ (lw_off Z Z Z Z Z Z (lw_on Z Z Z Z Z Z (ow_pickF Z Z Z (lw_op Z Z Z (ow_pickF Z Z Z (lw_nil (ew_then (cw_false Z (cw_skip (ew_blockN (ew_then (cw_region (lw_op Z Z Z (ow_move Z Z (lw_op Z Z Z (ow_add Z Z Z (lw_op Z Z Z (ow_assign Z Z (lw_nil (ew_nxt (W (k1 + 1)) hb1 fun a ha => ⟨M1, (ha.sub ⟨Z, Z, Z, trivial⟩), (hl1.trans hl85), hC85⟩))))))))))))))))))))
    ·
     subst hc3
     refine cw_sub (E' := [(0, v0p), (1, (.int .i64 a_top)), (5, (.int .i64 k1))]) ⟨Z, Z, Z, trivial⟩ (cw_drawQ 38 [PV (RSlice RSpan) M1 a_list, PEq (.int .i64 k1), PA RSpan M1 x1, PA RInt M1 x1.Lo, PEq (.int .i64 x1.Lo), PV (RSlice RSpan) M1 a_list, PEq (.int .i64 k1), PA RSpan M1 x1, PA RInt M1 x1.Hi, PEq (.int .i64 x1.Hi), PEq (.bool true), PEq (.bool false), PEq (.bool false), PV (RSlice RSpan) M1 a_list, PEq (.int .i64 k1), PA RSpan M1 x1, PA RInt M1 x1.Hi, PEq (.int .i64 x1.Hi), PEq (.int .i64 a_top), PEq (.bool false), PEq (.bool true), PEq (.bool true), PEq (.bool true), PEq undef, PEq undef, PEq undef, PEq undef, PEq undef, PEq undef, PEq undef, PEq undef, PEq undef, PEq undef, PEq undef, PEq undef, PEq undef, PEq undef, PEq undef] (by kernel_rfl) Z (by kernel_rfl) ⟨PV.mono _ _ _, PEq.mono _, PA.mono _ _ _, PA.mono _ _ _, PEq.mono _, PV.mono _ _ _, PEq.mono _, PA.mono _ _ _, PA.mono _ _ _, PEq.mono _, PEq.mono _, PEq.mono _, PEq.mono _, PV.mono _ _ _, PEq.mono _, PA.mono _ _ _, PA.mono _ _ _, PEq.mono _, PEq.mono _, PEq.mono _, PEq.mono _, PEq.mono _, PEq.mono _, PEq.mono _, PEq.mono _, PEq.mono _, PEq.mono _, PEq.mono _, PEq.mono _, PEq.mono _, PEq.mono _, PEq.mono _, PEq.mono _, PEq.mono _, PEq.mono _, PEq.mono _, PEq.mono _, PEq.mono _, trivial⟩ ⟨?_, ?_, ?_, ?_, ?_, ?_, ?_, ?_, ?_, ?_, ?_, ?_, ?_, ?_, ?_, ?_, ?_, ?_, ?_, ?_, ?_, ?_, ?_, ?_, ?_, ?_, ?_, ?_, ?_, ?_, ?_, ?_, ?_, ?_, ?_, ?_, ?_, ?_, trivial⟩ ?_)
     ·
      intro w86 D hS79 hd79
      have hl86 := Le.no M1 hS79
      exact dg_sub (E' := [(0, v0p)]) ⟨Z, trivial⟩ (dg_plain Z (ow_move Z Z ⟨BX.refl _ _, (VRep.mono (hl1.trans hl86) h0)⟩))
     ·
      intro w87 D hS80 hd80
      exact dg_sub (E' := [(5, (.int .i64 k1))]) ⟨Z, trivial⟩ (dg_plain Z (ow_move Z Z ⟨BX.refl _ _, Z⟩))
     ·
      intro w88 D hS81 hd81
      have d199 : PV (RSlice RSpan) M1 a_list (D 0) w88 := dpA hd81 0 Z
      generalize hq9 : (D 0) = v29 at d199
      exact dg_sub (E' := [(12, v29), (13, (.int .i64 k1))]) ⟨(congrArg some hq9), (dpE hd81 1 Z Z), trivial⟩ (dg_plain Z (ow_indexSlice (R := RSpan) Z Z Z d199 Tryd.underlying58 (Tryd.sizeOf76 _) hx1 fun p30 hp30 => ⟨BX.refl _ _, ⟨_, Z, hp30⟩⟩))
     ·
      intro w89 D hS82 hd82
      have d201 : PA RSpan M1 x1 (D 2) w89 := dpA hd82 2 Z
      obtain ⟨p31, e18, ha17⟩ := d201
      exact dg_sub (E' := [(14, (.pointer (some p31)))]) ⟨(congrArg some e18), trivial⟩ (dg_plain Z (ow_fieldAddr Z Z Tryd.underlying76 Z (Tryd.sizeOf3 _) ⟨BX.refl _ _, ⟨_, Z, (ha17.fld fld_Span_Lo)⟩⟩))
     ·
      intro w90 D hS83 hd83
      have d202 : PA RInt M1 x1.Lo (D 3) w90 := dpA hd83 3 Z
      obtain ⟨p32, e19, ha18⟩ := d202
      refine dg_sub (E' := [(15, (.pointer (some p32)))]) ⟨(congrArg some e19), trivial⟩ (dg_plain Z (ow_load (R := RInt) Z Z ha18 (Tryd.sizeOf3 _) (Tryd.isAgg3 _) fun v30 hv30 => ?_))
      obtain rfl := vint_eq hv30
      exact ⟨BX.refl _ _, Z⟩
     ·
      intro w91 D hS84 hd84
      have hl91 := Le.no M1 hS84
      exact dg_sub (E' := [(0, v0p)]) ⟨Z, trivial⟩ (dg_plain Z (ow_move Z Z ⟨BX.refl _ _, (VRep.mono (hl1.trans hl91) h0)⟩))
     ·
      intro w92 D hS85 hd85
      exact dg_sub (E' := [(5, (.int .i64 k1))]) ⟨Z, trivial⟩ (dg_plain Z (ow_move Z Z ⟨BX.refl _ _, Z⟩))
     ·
      intro w93 D hS86 hd86
      have d203 : PV (RSlice RSpan) M1 a_list (D 5) w93 := dpA hd86 5 Z
      generalize hq10 : (D 5) = v31 at d203
      exact dg_sub (E' := [(17, v31), (18, (.int .i64 k1))]) ⟨(congrArg some hq10), (dpE hd86 6 Z Z), trivial⟩ (dg_plain Z (ow_indexSlice (R := RSpan) Z Z Z d203 Tryd.underlying58 (Tryd.sizeOf76 _) hx1 fun p33 hp33 => ⟨BX.refl _ _, ⟨_, Z, hp33⟩⟩))
     ·
      intro w94 D hS87 hd87
      have d205 : PA RSpan M1 x1 (D 7) w94 := dpA hd87 7 Z
      obtain ⟨p34, e20, ha19⟩ := d205
      exact dg_sub (E' := [(19, (.pointer (some p34)))]) ⟨(congrArg some e20), trivial⟩ (dg_plain Z (ow_fieldAddr Z Z Tryd.underlying76 Z (Tryd.sizeOf3 _) ⟨BX.refl _ _, ⟨_, Z, (ha19.fld fld_Span_Hi)⟩⟩))
     ·
      intro w95 D hS88 hd88
      have d206 : PA RInt M1 x1.Hi (D 8) w95 := dpA hd88 8 Z
      obtain ⟨p35, e21, ha20⟩ := d206
      refine dg_sub (E' := [(20, (.pointer (some p35)))]) ⟨(congrArg some e21), trivial⟩ (dg_plain Z (ow_load (R := RInt) Z Z ha20 (Tryd.sizeOf3 _) (Tryd.isAgg3 _) fun v32 hv32 => ?_))
      obtain rfl := vint_eq hv32
      exact ⟨BX.refl _ _, Z⟩
     ·
      intro w96 D hS89 hd89
      have hl96 := Le.no M1 hS89
      have hC96 := hC1.no hS89
      refine dg_sub (E' := [(16, (.int .i64 x1.Lo)), (21, (.int .i64 x1.Hi))]) ⟨(dpE hd89 4 Z Z), (dpE hd89 9 Z Z), trivial⟩ (dg_plain Z (ow_call Z Z Tryd.call82 (w_spec_l1In (hG.mono (hl1.trans hl96)) hC96.old hx2) fun v33 w97 hv33 => ?_))
      obtain ⟨hv33, hb8⟩ := hv33
      obtain rfl := vbool_eq hv33
      exact ⟨hb8, Z⟩
     ·
      intro w98 D hS90 hd90
      exact dg_sub (E' := [(22, (.bool true))]) ⟨(dpE hd90 10 Z Z), trivial⟩ (dg_plain Z (ow_not Z Z ⟨BX.refl _ _, Z⟩))
     ·
      intro w99 D hS91 hd91
      exact dg_sub (E' := [(23, (.bool false))]) ⟨(dpE hd91 11 Z Z), trivial⟩ (dg_plain Z (ow_move Z Z ⟨BX.refl _ _, Z⟩))
     ·
      intro w100 D hS92 hd92
      have hl100 := Le.no M1 hS92
      exact dg_sub (E' := [(24, (.bool false)), (0, v0p)]) ⟨(dpE hd92 12 Z Z), Z, trivial⟩ (dg_on Z Z Z Z (ow_move Z Z ⟨BX.refl _ _, (VRep.mono (hl1.trans hl100) h0)⟩))
     ·
      intro w101 D hS93 hd93
      exact dg_sub (E' := [(24, (.bool false)), (5, (.int .i64 k1))]) ⟨(dpE hd93 12 Z Z), Z, trivial⟩ (dg_on Z Z Z Z (ow_move Z Z ⟨BX.refl _ _, Z⟩))
     ·
      intro w102 D hS94 hd94
      have d214 : PV (RSlice RSpan) M1 a_list (D 13) w102 := dpA hd94 13 Z
      generalize hq11 : (D 13) = v34 at d214
      exact dg_sub (E' := [(25, v34), (26, (.int .i64 k1)), (24, (.bool false))]) ⟨(congrArg some hq11), (dpE hd94 14 Z Z), (dpE hd94 12 Z Z), trivial⟩ (dg_on Z Z Z Z (ow_indexSlice (R := RSpan) Z Z Z d214 Tryd.underlying58 (Tryd.sizeOf76 _) hx1 fun p36 hp36 => ⟨BX.refl _ _, ⟨_, Z, hp36⟩⟩))
     ·
      intro w103 D hS95 hd95
      have d217 : PA RSpan M1 x1 (D 15) w103 := dpA hd95 15 Z
      obtain ⟨p37, e22, ha21⟩ := d217
      exact dg_sub (E' := [(27, (.pointer (some p37))), (24, (.bool false))]) ⟨(congrArg some e22), (dpE hd95 12 Z Z), trivial⟩ (dg_on Z Z Z Z (ow_fieldAddr Z Z Tryd.underlying76 Z (Tryd.sizeOf3 _) ⟨BX.refl _ _, ⟨_, Z, (ha21.fld fld_Span_Hi)⟩⟩))
     ·
      intro w104 D hS96 hd96
      have d219 : PA RInt M1 x1.Hi (D 16) w104 := dpA hd96 16 Z
      obtain ⟨p38, e23, ha22⟩ := d219
      refine dg_sub (E' := [(28, (.pointer (some p38))), (24, (.bool false))]) ⟨(congrArg some e23), (dpE hd96 12 Z Z), trivial⟩ (dg_on Z Z Z Z (ow_load (R := RInt) Z Z ha22 (Tryd.sizeOf3 _) (Tryd.isAgg3 _) fun v35 hv35 => ?_))
      obtain rfl := vint_eq hv35
      exact ⟨BX.refl _ _, Z⟩
     ·
      intro w105 D hS97 hd97
      exact dg_sub (E' := [(24, (.bool false)), (1, (.int .i64 a_top))]) ⟨(dpE hd97 12 Z Z), Z, trivial⟩ (dg_on Z Z Z Z (ow_move Z Z ⟨BX.refl _ _, Z⟩))
     ·
      intro w106 D hS98 hd98
      have hl106 := Le.no M1 hS98
      have hC106 := hC1.no hS98
      refine dg_sub (E' := [(29, (.int .i64 x1.Hi)), (30, (.int .i64 a_top)), (24, (.bool false))]) ⟨(dpE hd98 17 Z Z), (dpE hd98 18 Z Z), (dpE hd98 12 Z Z), trivial⟩ (dg_on Z Z Z Z (ow_call Z Z Tryd.call82 (w_spec_l1In (hG.mono (hl1.trans hl106)) hC106.old hx3) fun v36 w107 hv36 => ?_))
      obtain ⟨hv36, hb9⟩ := hv36
      obtain rfl := vbool_eq hv36
      exact ⟨hb9, Z⟩
     ·
      intro w108 D hS99 hd99
      exact dg_sub (E' := [(31, (.bool false)), (24, (.bool false))]) ⟨(dpE hd99 19 Z Z), (dpE hd99 12 Z Z), trivial⟩ (dg_on Z Z Z Z (ow_not Z Z ⟨BX.refl _ _, Z⟩))
     ·
      intro w109 D hS100 hd100
      exact dg_sub (E' := [(24, (.bool false)), (32, (.bool true))]) ⟨(dpE hd100 12 Z Z), (dpE hd100 20 Z Z), trivial⟩ (dg_plain Z (ow_pickF Z Z Z ⟨BX.refl _ _, Z⟩))
     ·
      intro w110 D hS101 hd101
      exact dg_sub (E' := [(33, (.bool true))]) ⟨(dpE hd101 21 Z Z), trivial⟩ (dg_plain Z (ow_move Z Z ⟨BX.refl _ _, Z⟩))
     ·
      intro w111 D hS102 hd102
      exact dg_sub (E' := [(34, (.bool true)), (5, (.int .i64 k1))]) ⟨(dpE hd102 22 Z Z), Z, trivial⟩ (dg_off Z Z Z Z ⟨BX.refl _ _, Z⟩)
     ·
      intro w112 D hS103 hd103
      exact dg_sub (E' := [(35, undef), (34, (.bool true))]) ⟨(dpE hd103 23 Z Z), (dpE hd103 22 Z Z), trivial⟩ (dg_off Z Z Z Z ⟨BX.refl _ _, Z⟩)
     ·
      intro w113 D hS104 hd104
      exact dg_sub (E' := [(36, undef), (34, (.bool true))]) ⟨(dpE hd104 24 Z Z), (dpE hd104 22 Z Z), trivial⟩ (dg_off Z Z Z Z ⟨BX.refl _ _, Z⟩)
     ·
      intro w114 D hS105 hd105
      exact dg_sub (E' := [(37, undef), (0, v0p)]) ⟨(dpE hd105 25 Z Z), Z, trivial⟩ (dg_off' Z Z Z Z ⟨BX.refl _ _, Z⟩)
     ·
      intro w115 D hS106 hd106
      exact dg_sub (E' := [(37, undef), (5, (.int .i64 k1))]) ⟨(dpE hd106 25 Z Z), Z, trivial⟩ (dg_off' Z Z Z Z ⟨BX.refl _ _, Z⟩)
     ·
      intro w116 D hS107 hd107
      exact dg_sub (E' := [(38, undef), (39, undef), (37, undef)]) ⟨(dpE hd107 26 Z Z), (dpE hd107 27 Z Z), (dpE hd107 25 Z Z), trivial⟩ (dg_off' Z Z Z Z ⟨BX.refl _ _, Z⟩)
     ·
      intro w117 D hS108 hd108
      exact dg_sub (E' := [(40, undef), (37, undef)]) ⟨(dpE hd108 28 Z Z), (dpE hd108 25 Z Z), trivial⟩ (dg_off' Z Z Z Z ⟨BX.refl _ _, Z⟩)
     ·
      intro w118 D hS109 hd109
      exact dg_sub (E' := [(41, undef), (37, undef)]) ⟨(dpE hd109 29 Z Z), (dpE hd109 25 Z Z), trivial⟩ (dg_off' Z Z Z Z ⟨BX.refl _ _, Z⟩)
     ·
      intro w119 D hS110 hd110
      exact dg_sub (E' := [(37, undef), (0, v0p)]) ⟨(dpE hd110 25 Z Z), Z, trivial⟩ (dg_off' Z Z Z Z ⟨BX.refl _ _, Z⟩)
     ·
      intro w120 D hS111 hd111
      exact dg_sub (E' := [(37, undef), (5, (.int .i64 k1))]) ⟨(dpE hd111 25 Z Z), Z, trivial⟩ (dg_off' Z Z Z Z ⟨BX.refl _ _, Z⟩)
     ·
      intro w121 D hS112 hd112
      exact dg_sub (E' := [(44, undef), (37, undef)]) ⟨(dpE hd112 32 Z Z), (dpE hd112 25 Z Z), trivial⟩ (dg_off' Z Z Z Z ⟨BX.refl _ _, Z⟩)
     ·
      intro w122 D hS113 hd113
      exact dg_sub (E' := [(43, undef), (45, undef), (37, undef)]) ⟨(dpE hd113 31 Z Z), (dpE hd113 33 Z Z), (dpE hd113 25 Z Z), trivial⟩ (dg_off' Z Z Z Z ⟨BX.refl _ _, Z⟩)
     ·
      intro w123 D hS114 hd114
      exact dg_sub (E' := [(46, undef), (37, undef)]) ⟨(dpE hd114 34 Z Z), (dpE hd114 25 Z Z), trivial⟩ (dg_off' Z Z Z Z ⟨BX.refl _ _, Z⟩)
     ·
      intro w124 D hS115 hd115
      exact dg_sub (E' := [(47, undef), (37, undef)]) ⟨(dpE hd115 35 Z Z), (dpE hd115 25 Z Z), trivial⟩ (dg_off' Z Z Z Z ⟨BX.refl _ _, Z⟩)
     ·
      intro w125 D hS116 hd116
      exact dg_sub (E' := [(48, undef), (37, undef)]) ⟨(dpE hd116 36 Z Z), (dpE hd116 25 Z Z), trivial⟩ (dg_off' Z Z Z Z ⟨BX.refl _ _, Z⟩)
     ·
      intro w126 D hS117 hd117
      have hC126 := hC1.no hS117
      refine lw_sub (E' := [(34, (.bool true)), (37, undef), (42, undef), (49, undef), (0, v0p), (1, (.int .i64 a_top)), (5, (.int .i64 k1))]) ⟨(dpE hd117 22 Z Z), (dpE hd117 25 Z Z), (dpE hd117 30 Z Z), (dpE hd117 37 Z Z), Z, Z, Z, trivial⟩ (lw_off' Z Z Z Z Z Z (lw_off Z Z Z Z Z Z (lw_op Z Z Z (ow_pickT Z Z Z (lw_nil (ew_then (cw_true Z (cw_seq (cw_region (lw_op Z Z Z (ow_assign Z Z (lw_nil (ew_then (cw_ret (ew_blockR (ew_thenR (ew_thenR (ew_blockR (ew_brkR (ew_thenR ?_))))))))))))))))))))
      have e24 := hR1 _ (Option.some.inj hb1).symm
      subst e24
      obtain rfl := Option.some.inj h
      exact ew_ret (res1 Z (.tmp Z)) ⟨_, Z, ((vbool _)), hC126.bx⟩
   ·
    subst hc2
    refine cw_sub (E' := [(0, v0p), (1, (.int .i64 a_top)), (5, (.int .i64 k1))]) ⟨Z, Z, Z, trivial⟩ (cw_drawQ 38 [PV (RSlice RSpan) M1 a_list, PEq (.int .i64 k1), PA RSpan M1 x1, PA RInt M1 x1.Lo, PEq (.int .i64 x1.Lo), PV (RSlice RSpan) M1 a_list, PEq (.int .i64 k1), PA RSpan M1 x1, PA RInt M1 x1.Hi, PEq (.int .i64 x1.Hi), PEq (.bool false), PEq (.bool true), PEq (.bool true), PEq undef, PEq undef, PEq undef, PEq undef, PEq undef, PEq undef, PEq undef, PEq undef, PEq (.bool true), PEq (.bool true), PEq undef, PEq undef, PEq undef, PEq undef, PEq undef, PEq undef, PEq undef, PEq undef, PEq undef, PEq undef, PEq undef, PEq undef, PEq undef, PEq undef, PEq undef] (by kernel_rfl) Z (by kernel_rfl) ⟨PV.mono _ _ _, PEq.mono _, PA.mono _ _ _, PA.mono _ _ _, PEq.mono _, PV.mono _ _ _, PEq.mono _, PA.mono _ _ _, PA.mono _ _ _, PEq.mono _, PEq.mono _, PEq.mono _, PEq.mono _, PEq.mono _, PEq.mono _, PEq.mono _, PEq.mono _, PEq.mono _, PEq.mono _, PEq.mono _, PEq.mono _, PEq.mono _, PEq.mono _, PEq.mono _, PEq.mono _, PEq.mono _, PEq.mono _, PEq.mono _, PEq.mono _, PEq.mono _, PEq.mono _, PEq.mono _, PEq.mono _, PEq.mono _, PEq.mono _, PEq.mono _, PEq.mono _, PEq.mono _, trivial⟩ ⟨?_, ?_, ?_, ?_, ?_, ?_, ?_, ?_, ?_, ?_, ?_, ?_, ?_, ?_, ?_, ?_, ?_, ?_, ?_, ?_, ?_, ?_, ?_, ?_, ?_, ?_, ?_, ?_, ?_, ?_, ?_, ?_, ?_, ?_, ?_, ?_, ?_, ?_, trivial⟩ ?_)
    ·
     intro w127 D hS118 hd118
     have hl127 := Le.no M1 hS118
     exact dg_sub (E' := [(0, v0p)]) ⟨Z, trivial⟩ (dg_plain Z (ow_move Z Z ⟨BX.refl _ _, (VRep.mono (hl1.trans hl127) h0)⟩))
    ·
     intro w128 D hS119 hd119
     exact dg_sub (E' := [(5, (.int .i64 k1))]) ⟨Z, trivial⟩ (dg_plain Z (ow_move Z Z ⟨BX.refl _ _, Z⟩))
    ·
     intro w129 D hS120 hd120
     have d298 : PV (RSlice RSpan) M1 a_list (D 0) w129 := dpA hd120 0 Z
     generalize hq12 : (D 0) = v37 at d298
     exact dg_sub (E' := [(12, v37), (13, (.int .i64 k1))]) ⟨(congrArg some hq12), (dpE hd120 1 Z Z), trivial⟩ (dg_plain Z (ow_indexSlice (R := RSpan) Z Z Z d298 Tryd.underlying58 (Tryd.sizeOf76 _) hx1 fun p39 hp39 => ⟨BX.refl _ _, ⟨_, Z, hp39⟩⟩))
    ·
     intro w130 D hS121 hd121
     have d300 : PA RSpan M1 x1 (D 2) w130 := dpA hd121 2 Z
     obtain ⟨p40, e25, ha23⟩ := d300
     exact dg_sub (E' := [(14, (.pointer (some p40)))]) ⟨(congrArg some e25), trivial⟩ (dg_plain Z (ow_fieldAddr Z Z Tryd.underlying76 Z (Tryd.sizeOf3 _) ⟨BX.refl _ _, ⟨_, Z, (ha23.fld fld_Span_Lo)⟩⟩))
    ·
     intro w131 D hS122 hd122
     have d301 : PA RInt M1 x1.Lo (D 3) w131 := dpA hd122 3 Z
     obtain ⟨p41, e26, ha24⟩ := d301
     refine dg_sub (E' := [(15, (.pointer (some p41)))]) ⟨(congrArg some e26), trivial⟩ (dg_plain Z (ow_load (R := RInt) Z Z ha24 (Tryd.sizeOf3 _) (Tryd.isAgg3 _) fun v38 hv38 => ?_))
     obtain rfl := vint_eq hv38
     exact ⟨BX.refl _ _, Z⟩
    ·
     intro w132 D hS123 hd123
     have hl132 := Le.no M1 hS123
     exact dg_sub (E' := [(0, v0p)]) ⟨Z, trivial⟩ (dg_plain Z (ow_move Z Z ⟨BX.refl _ _, (VRep.mono (hl1.trans hl132) h0)⟩))
    ·
     intro w133 D hS124 hd124
     exact dg_sub (E' := [(5, (.int .i64 k1))]) ⟨Z, trivial⟩ (dg_plain Z (ow_move Z Z ⟨BX.refl _ _, Z⟩))
    ·
     intro w134 D hS125 hd125
     have d302 : PV (RSlice RSpan) M1 a_list (D 5) w134 := dpA hd125 5 Z
     generalize hq13 : (D 5) = v39 at d302
     exact dg_sub (E' := [(17, v39), (18, (.int .i64 k1))]) ⟨(congrArg some hq13), (dpE hd125 6 Z Z), trivial⟩ (dg_plain Z (ow_indexSlice (R := RSpan) Z Z Z d302 Tryd.underlying58 (Tryd.sizeOf76 _) hx1 fun p42 hp42 => ⟨BX.refl _ _, ⟨_, Z, hp42⟩⟩))
    ·
     intro w135 D hS126 hd126
     have d304 : PA RSpan M1 x1 (D 7) w135 := dpA hd126 7 Z
     obtain ⟨p43, e27, ha25⟩ := d304
     exact dg_sub (E' := [(19, (.pointer (some p43)))]) ⟨(congrArg some e27), trivial⟩ (dg_plain Z (ow_fieldAddr Z Z Tryd.underlying76 Z (Tryd.sizeOf3 _) ⟨BX.refl _ _, ⟨_, Z, (ha25.fld fld_Span_Hi)⟩⟩))
    ·
     intro w136 D hS127 hd127
     have d305 : PA RInt M1 x1.Hi (D 8) w136 := dpA hd127 8 Z
     obtain ⟨p44, e28, ha26⟩ := d305
     refine dg_sub (E' := [(20, (.pointer (some p44)))]) ⟨(congrArg some e28), trivial⟩ (dg_plain Z (ow_load (R := RInt) Z Z ha26 (Tryd.sizeOf3 _) (Tryd.isAgg3 _) fun v40 hv40 => ?_))
     obtain rfl := vint_eq hv40
     exact ⟨BX.refl _ _, Z⟩
    ·
     intro w137 D hS128 hd128
     have hl137 := Le.no M1 hS128
     have hC137 := hC1.no hS128
     refine dg_sub (E' := [(16, (.int .i64 x1.Lo)), (21, (.int .i64 x1.Hi))]) ⟨(dpE hd128 4 Z Z), (dpE hd128 9 Z Z), trivial⟩ (dg_plain Z (ow_call Z Z Tryd.call82 (w_spec_l1In (hG.mono (hl1.trans hl137)) hC137.old hx2) fun v41 w138 hv41 => ?_))
     obtain ⟨hv41, hb10⟩ := hv41
     obtain rfl := vbool_eq hv41
     exact ⟨hb10, Z⟩
    ·
     intro w139 D hS129 hd129
     exact dg_sub (E' := [(22, (.bool false))]) ⟨(dpE hd129 10 Z Z), trivial⟩ (dg_plain Z (ow_not Z Z ⟨BX.refl _ _, Z⟩))
    ·
     intro w140 D hS130 hd130
     exact dg_sub (E' := [(23, (.bool true))]) ⟨(dpE hd130 11 Z Z), trivial⟩ (dg_plain Z (ow_move Z Z ⟨BX.refl _ _, Z⟩))
    ·
     intro w141 D hS131 hd131
     exact dg_sub (E' := [(24, (.bool true)), (0, v0p)]) ⟨(dpE hd131 12 Z Z), Z, trivial⟩ (dg_off Z Z Z Z ⟨BX.refl _ _, Z⟩)
    ·
     intro w142 D hS132 hd132
     exact dg_sub (E' := [(24, (.bool true)), (5, (.int .i64 k1))]) ⟨(dpE hd132 12 Z Z), Z, trivial⟩ (dg_off Z Z Z Z ⟨BX.refl _ _, Z⟩)
    ·
     intro w143 D hS133 hd133
     exact dg_sub (E' := [(25, undef), (26, undef), (24, (.bool true))]) ⟨(dpE hd133 13 Z Z), (dpE hd133 14 Z Z), (dpE hd133 12 Z Z), trivial⟩ (dg_off Z Z Z Z ⟨BX.refl _ _, Z⟩)
    ·
     intro w144 D hS134 hd134
     exact dg_sub (E' := [(27, undef), (24, (.bool true))]) ⟨(dpE hd134 15 Z Z), (dpE hd134 12 Z Z), trivial⟩ (dg_off Z Z Z Z ⟨BX.refl _ _, Z⟩)
    ·
     intro w145 D hS135 hd135
     exact dg_sub (E' := [(28, undef), (24, (.bool true))]) ⟨(dpE hd135 16 Z Z), (dpE hd135 12 Z Z), trivial⟩ (dg_off Z Z Z Z ⟨BX.refl _ _, Z⟩)
    ·
     intro w146 D hS136 hd136
     exact dg_sub (E' := [(24, (.bool true)), (1, (.int .i64 a_top))]) ⟨(dpE hd136 12 Z Z), Z, trivial⟩ (dg_off Z Z Z Z ⟨BX.refl _ _, Z⟩)
    ·
     intro w147 D hS137 hd137
     exact dg_sub (E' := [(29, undef), (30, undef), (24, (.bool true))]) ⟨(dpE hd137 17 Z Z), (dpE hd137 18 Z Z), (dpE hd137 12 Z Z), trivial⟩ (dg_off Z Z Z Z ⟨BX.refl _ _, Z⟩)
    ·
     intro w148 D hS138 hd138
     exact dg_sub (E' := [(31, undef), (24, (.bool true))]) ⟨(dpE hd138 19 Z Z), (dpE hd138 12 Z Z), trivial⟩ (dg_off Z Z Z Z ⟨BX.refl _ _, Z⟩)
    ·
     intro w149 D hS139 hd139
     exact dg_sub (E' := [(24, (.bool true)), (32, undef)]) ⟨(dpE hd139 12 Z Z), (dpE hd139 20 Z Z), trivial⟩ (dg_plain Z (ow_pickT Z Z Z ⟨BX.refl _ _, Z⟩))
    ·
     intro w150 D hS140 hd140
     exact dg_sub (E' := [(33, (.bool true))]) ⟨(dpE hd140 21 Z Z), trivial⟩ (dg_plain Z (ow_move Z Z ⟨BX.refl _ _, Z⟩))
    ·
     intro w151 D hS141 hd141
     exact dg_sub (E' := [(34, (.bool true)), (5, (.int .i64 k1))]) ⟨(dpE hd141 22 Z Z), Z, trivial⟩ (dg_off Z Z Z Z ⟨BX.refl _ _, Z⟩)
    ·
     intro w152 D hS142 hd142
     exact dg_sub (E' := [(35, undef), (34, (.bool true))]) ⟨(dpE hd142 23 Z Z), (dpE hd142 22 Z Z), trivial⟩ (dg_off Z Z Z Z ⟨BX.refl _ _, Z⟩)
    ·
     intro w153 D hS143 hd143
     exact dg_sub (E' := [(36, undef), (34, (.bool true))]) ⟨(dpE hd143 24 Z Z), (dpE hd143 22 Z Z), trivial⟩ (dg_off Z Z Z Z ⟨BX.refl _ _, Z⟩)
    ·
     intro w154 D hS144 hd144
     exact dg_sub (E' := [(37, undef), (0, v0p)]) ⟨(dpE hd144 25 Z Z), Z, trivial⟩ (dg_off' Z Z Z Z ⟨BX.refl _ _, Z⟩)
    ·
     intro w155 D hS145 hd145
     exact dg_sub (E' := [(37, undef), (5, (.int .i64 k1))]) ⟨(dpE hd145 25 Z Z), Z, trivial⟩ (dg_off' Z Z Z Z ⟨BX.refl _ _, Z⟩)
    ·
     intro w156 D hS146 hd146
     exact dg_sub (E' := [(38, undef), (39, undef), (37, undef)]) ⟨(dpE hd146 26 Z Z), (dpE hd146 27 Z Z), (dpE hd146 25 Z Z), trivial⟩ (dg_off' Z Z Z Z ⟨BX.refl _ _, Z⟩)
    ·
     intro w157 D hS147 hd147
     exact dg_sub (E' := [(40, undef), (37, undef)]) ⟨(dpE hd147 28 Z Z), (dpE hd147 25 Z Z), trivial⟩ (dg_off' Z Z Z Z ⟨BX.refl _ _, Z⟩)
    ·
     intro w158 D hS148 hd148
     exact dg_sub (E' := [(41, undef), (37, undef)]) ⟨(dpE hd148 29 Z Z), (dpE hd148 25 Z Z), trivial⟩ (dg_off' Z Z Z Z ⟨BX.refl _ _, Z⟩)
    ·
     intro w159 D hS149 hd149
     exact dg_sub (E' := [(37, undef), (0, v0p)]) ⟨(dpE hd149 25 Z Z), Z, trivial⟩ (dg_off' Z Z Z Z ⟨BX.refl _ _, Z⟩)
    ·
     intro w160 D hS150 hd150
     exact dg_sub (E' := [(37, undef), (5, (.int .i64 k1))]) ⟨(dpE hd150 25 Z Z), Z, trivial⟩ (dg_off' Z Z Z Z ⟨BX.refl _ _, Z⟩)
    ·
     intro w161 D hS151 hd151
     exact dg_sub (E' := [(44, undef), (37, undef)]) ⟨(dpE hd151 32 Z Z), (dpE hd151 25 Z Z), trivial⟩ (dg_off' Z Z Z Z ⟨BX.refl _ _, Z⟩)
    ·
     intro w162 D hS152 hd152
     exact dg_sub (E' := [(43, undef), (45, undef), (37, undef)]) ⟨(dpE hd152 31 Z Z), (dpE hd152 33 Z Z), (dpE hd152 25 Z Z), trivial⟩ (dg_off' Z Z Z Z ⟨BX.refl _ _, Z⟩)
    ·
     intro w163 D hS153 hd153
     exact dg_sub (E' := [(46, undef), (37, undef)]) ⟨(dpE hd153 34 Z Z), (dpE hd153 25 Z Z), trivial⟩ (dg_off' Z Z Z Z ⟨BX.refl _ _, Z⟩)
    ·
     intro w164 D hS154 hd154
     exact dg_sub (E' := [(47, undef), (37, undef)]) ⟨(dpE hd154 35 Z Z), (dpE hd154 25 Z Z), trivial⟩ (dg_off' Z Z Z Z ⟨BX.refl _ _, Z⟩)
    ·
     intro w165 D hS155 hd155
     exact dg_sub (E' := [(48, undef), (37, undef)]) ⟨(dpE hd155 36 Z Z), (dpE hd155 25 Z Z), trivial⟩ (dg_off' Z Z Z Z ⟨BX.refl _ _, Z⟩)
    ·
     intro w166 D hS156 hd156
     have hC166 := hC1.no hS156
     refine lw_sub (E' := [(34, (.bool true)), (37, undef), (42, undef), (49, undef), (0, v0p), (1, (.int .i64 a_top)), (5, (.int .i64 k1))]) ⟨(dpE hd156 22 Z Z), (dpE hd156 25 Z Z), (dpE hd156 30 Z Z), (dpE hd156 37 Z Z), Z, Z, Z, trivial⟩ (lw_off' Z Z Z Z Z Z (lw_off Z Z Z Z Z Z (lw_op Z Z Z (ow_pickT Z Z Z (lw_nil (ew_then (cw_true Z (cw_seq (cw_region (lw_op Z Z Z (ow_assign Z Z (lw_nil (ew_then (cw_ret (ew_blockR (ew_thenR (ew_thenR (ew_blockR (ew_brkR (ew_thenR ?_))))))))))))))))))))
     have e29 := hR1 _ (Option.some.inj hb1).symm
     subst e29
     obtain rfl := Option.some.inj h
     exact ew_ret (res1 Z (.tmp Z)) ⟨_, Z, ((vbool _)), hC166.bx⟩
  ·
   obtain rfl := hbb1.trans hc1
   exact cw_false Z (cw_exit (ew_thenX (ew_thenX (ew_blockX (ew_brk k1 hb1 fun a ha => ⟨M1, (ha.sub ⟨Z, Z, Z, trivial⟩), hl1, hC1⟩)))))
 ·
  rintro k2 a w167 hlr2 ⟨M2, hF2, hl167, hC167⟩
  subst hlr2
  refine ew_at (E := [(0, v0p), (1, (.int .i64 a_top)), (5, (.int .i64 k2))]) hF2 (ew_then (cw_seq (cw_region (lw_op Z Z Z (ow_move Z Z ?_)))))
  replace h := bind_some h
  obtain ⟨x5, hx5, h⟩ := h
  refine lw_op Z Z Z (ow_call Z Z Tryd.call82 (w_spec_l1In (hG.mono hl167) hC167.old hx5) fun v43 w168 hv43 => ?_)
  obtain ⟨hv43, hb11⟩ := hv43
  have hl168 := Le.no M2 hb11
  have hC168 := hC167.no hb11
  obtain rfl := vbool_eq hv43
  refine lw_op Z Z Z (ow_move Z Z ?_)
  replace h := cond_some h
  rcases h with ⟨hc6, h⟩ | ⟨hc6, h⟩
  ·
   subst hc6
   refine lw_on Z Z Z Z Z Z (ow_move Z Z (lw_on Z Z Z Z Z Z (ow_len Z Z (VRep.mono (hl167.trans hl168) h0) Tryd.underlying58 Z (lw_on Z Z Z Z Z Z (ow_leq Z Z Z fun bb6 hbb6 => lw_op Z Z Z (ow_pickT Z Z Z (lw_op Z Z Z (ow_assign Z Z (lw_nil (ew_then (cw_ret ?_)))))))))))
   obtain rfl := Option.some.inj h
   exact ew_ret (res1 Z (.tmp Z)) ⟨_, Z, ((vbool_of hbb6)), hC168.bx⟩
  ·
   subst hc6
   refine lw_off Z Z Z Z Z Z (lw_off Z Z Z Z Z Z (lw_off Z Z Z Z Z Z (lw_op Z Z Z (ow_pickF Z Z Z (lw_op Z Z Z (ow_assign Z Z (lw_nil (ew_then (cw_ret ?_)))))))))
   obtain rfl := Option.some.inj h
   exact ew_ret (res1 Z (.tmp Z)) ⟨_, Z, ((vbool _)), hC168.bx⟩

theorem w_spec_BoxValid {w : World} {M : Nat → Prop} (hG : ARep (RArr 4 RShape) w M shapes ⟨0, 0, none⟩) (hO : ∀ b, M b → b < w.heap.size) {v0p : Value} {a_b : Box} (h0 : VRep RBox w M a_b v0p) {r : Bool} (h : F.spec_BoxValid a_b = some r) :
  Calls Tryd.prog 38 [v0p].toArray w fun e w' => ∃ v, e = .returned v ∧ VRep RBool w' M r v ∧ BX No w w' := by
 have hC : Cx No w M w M := Cx.start hO (fun _ e => e.elim)
 refine walk (N := 28) Tryd.func38 Z Tryd.ntmps38 Z (cw_seq (cw_region (lw_op Z Z Z (ow_box (R := RBox) Z Z h0 hC fun p1 w1 hp1 hb1 hl1 hC1 => lw_op Z Z Z (ow_assign Z Z (lw_nil (ew_then (cw_seq (cw_seq (cw_region (lw_op Z Z Z (ow_assign Z Z (lw_nil (ew_then ?_))))))))))))))
 replace h := bind_some h
 obtain ⟨lr1, hlr1, h⟩ := h
 refine cw_for hlr1 (fun s a w' => ∃ (M' : Nat → Prop), Fits 28 [(1, (.pointer (some p1))), (3, (.int .i64 s))] a ∧ Le w1 M w' M' ∧ Cx No w M w' M') ?_ ?_ ?_
 ·
  intro a ha
  exact ⟨M, ha.sub ⟨Z, Z, trivial⟩, Le.refl _ _, hC1⟩
 ·
  rintro k1 a w2 sr1 ⟨M1, hF1, hl2, hC2⟩ hb2 hR1
  refine cw_at (E := [(1, (.pointer (some p1))), (3, (.int .i64 k1))]) hF1 (cw_seq (cw_seq (cw_region (lw_op Z Z Z (ow_move Z Z (lw_op Z Z Z (ow_fieldAddr Z Z Tryd.underlying27 Z (Tryd.sizeOf25 _) (lw_op Z Z Z (ow_load (R := (RSlice (RSlice RSpan))) Z Z (ARep.mono hl2 (hp1.fld fld_Box_Sides)) (Tryd.sizeOf25 _) (Tryd.isAgg25 _) fun v2 hv2 => lw_op Z Z Z (ow_len Z Z hv2 Tryd.underlying25 Z (lw_op Z Z Z (ow_lss Z Z Z fun bb1 hbb1 => lw_nil (ew_then ?_)))))))))))))
  replace hb2 := cond_some hb2
  rcases hb2 with ⟨hc1, hb2⟩ | ⟨hc1, hb2⟩
  ·
   obtain rfl := hbb1.trans hc1
   refine cw_true Z (cw_skip (ew_then (cw_seq (cw_block (cw_seq ?_)))))
   replace hb2 := cond_some hb2
   rcases hb2 with ⟨hc2, hb2⟩ | ⟨hc2, hb2⟩
   ·
    refine cw_sub (E' := [(1, (.pointer (some p1))), (3, (.int .i64 k1))]) ⟨Z, Z, trivial⟩ (cw_drawQ 10 [PEq (.int .i64 k1), PEq (.bool true), PEq (.bool true), PEq undef, PEq undef, PEq undef, PEq undef, PEq undef, PEq undef, PEq undef] (by kernel_rfl) Z (by kernel_rfl) ⟨PEq.mono _, PEq.mono _, PEq.mono _, PEq.mono _, PEq.mono _, PEq.mono _, PEq.mono _, PEq.mono _, PEq.mono _, PEq.mono _, trivial⟩ ⟨?_, ?_, ?_, ?_, ?_, ?_, ?_, ?_, ?_, ?_, trivial⟩ ?_)
    ·
     intro w3 D hS1 hd1
     exact dg_sub (E' := [(3, (.int .i64 k1))]) ⟨Z, trivial⟩ (dg_plain Z (ow_move Z Z ⟨BX.refl _ _, Z⟩))
    ·
     intro w4 D hS2 hd2
     refine dg_sub (E' := [(11, (.int .i64 k1))]) ⟨(dpE hd2 0 Z Z), trivial⟩ (dg_plain Z (ow_geq Z Z Z fun bb3 hbb3 => ?_))
     obtain rfl := hbb3.trans hc2
     exact ⟨BX.refl _ _, Z⟩
    ·
     intro w5 D hS3 hd3
     exact dg_sub (E' := [(12, (.bool true))]) ⟨(dpE hd3 1 Z Z), trivial⟩ (dg_plain Z (ow_move Z Z ⟨BX.refl _ _, Z⟩))
    ·
     intro w6 D hS4 hd4
     exact dg_sub (E' := [(13, (.bool true)), (1, (.pointer (some p1)))]) ⟨(dpE hd4 2 Z Z), Z, trivial⟩ (dg_off Z Z Z Z ⟨BX.refl _ _, Z⟩)
    ·
     intro w7 D hS5 hd5
     exact dg_sub (E' := [(14, undef), (13, (.bool true))]) ⟨(dpE hd5 3 Z Z), (dpE hd5 2 Z Z), trivial⟩ (dg_off Z Z Z Z ⟨BX.refl _ _, Z⟩)
    ·
     intro w8 D hS6 hd6
     exact dg_sub (E' := [(13, (.bool true)), (3, (.int .i64 k1))]) ⟨(dpE hd6 2 Z Z), Z, trivial⟩ (dg_off Z Z Z Z ⟨BX.refl _ _, Z⟩)
    ·
     intro w9 D hS7 hd7
     exact dg_sub (E' := [(15, undef), (16, undef), (13, (.bool true))]) ⟨(dpE hd7 4 Z Z), (dpE hd7 5 Z Z), (dpE hd7 2 Z Z), trivial⟩ (dg_off Z Z Z Z ⟨BX.refl _ _, Z⟩)
    ·
     intro w10 D hS8 hd8
     exact dg_sub (E' := [(17, undef), (13, (.bool true))]) ⟨(dpE hd8 6 Z Z), (dpE hd8 2 Z Z), trivial⟩ (dg_off Z Z Z Z ⟨BX.refl _ _, Z⟩)
    ·
     intro w11 D hS9 hd9
     exact dg_sub (E' := [(13, (.bool true)), (3, (.int .i64 k1))]) ⟨(dpE hd9 2 Z Z), Z, trivial⟩ (dg_off Z Z Z Z ⟨BX.refl _ _, Z⟩)
    ·
     intro w12 D hS10 hd10
     exact dg_sub (E' := [(19, undef), (13, (.bool true))]) ⟨(dpE hd10 8 Z Z), (dpE hd10 2 Z Z), trivial⟩ (dg_off Z Z Z Z ⟨BX.refl _ _, Z⟩)
    ·
     intro w13 D hS11 hd11
     have hC13 := hC2.no hS11
     refine lw_sub (E' := [(13, (.bool true)), (18, undef), (20, undef), (1, (.pointer (some p1))), (3, (.int .i64 k1))]) ⟨(dpE hd11 2 Z Z), (dpE hd11 7 Z Z), (dpE hd11 9 Z Z), Z, Z, trivial⟩ (lw_off Z Z Z Z Z Z (lw_off Z Z Z Z Z Z (lw_op Z Z Z (ow_pickT Z Z Z (lw_nil (ew_then (cw_true Z (cw_seq (cw_region (lw_op Z Z Z (ow_assign Z Z (lw_nil (ew_then (cw_ret (ew_blockR (ew_thenR (ew_thenR (ew_blockR (ew_brkR (ew_thenR ?_))))))))))))))))))))
     have e1 := hR1 _ (Option.some.inj hb2).symm
     subst e1
     obtain rfl := Option.some.inj h
     exact ew_ret (res1 Z (.tmp Z)) ⟨_, Z, ((vbool _)), hC13.bx⟩
   ·
    replace hb2 := bind_some hb2
    obtain ⟨x1, hx1, hb2⟩ := hb2
    replace hb2 := bind_some hb2
    obtain ⟨x2, hx2, hb2⟩ := hb2
    have lz2 := (hl1.trans hl2)
    refine cw_sub (E' := [(1, (.pointer (some p1))), (3, (.int .i64 k1))]) ⟨Z, Z, trivial⟩ (cw_drawQ 10 [PEq (.int .i64 k1), PEq (.bool false), PEq (.bool false), PA (RSlice (RSlice RSpan)) M1 a_b.Sides, PV (RSlice (RSlice RSpan)) M1 a_b.Sides, PEq (.int .i64 k1), PA (RSlice RSpan) M1 x1, PV (RSlice RSpan) M1 x1, PEq (.int .i64 k1), PEq (.int .i64 x2)] (by kernel_rfl) Z (by kernel_rfl) ⟨PEq.mono _, PEq.mono _, PEq.mono _, PA.mono _ _ _, PV.mono _ _ _, PEq.mono _, PA.mono _ _ _, PV.mono _ _ _, PEq.mono _, PEq.mono _, trivial⟩ ⟨?_, ?_, ?_, ?_, ?_, ?_, ?_, ?_, ?_, ?_, trivial⟩ ?_)
    ·
     intro w15 D hS12 hd12
     exact dg_sub (E' := [(3, (.int .i64 k1))]) ⟨Z, trivial⟩ (dg_plain Z (ow_move Z Z ⟨BX.refl _ _, Z⟩))
    ·
     intro w16 D hS13 hd13
     refine dg_sub (E' := [(11, (.int .i64 k1))]) ⟨(dpE hd13 0 Z Z), trivial⟩ (dg_plain Z (ow_geq Z Z Z fun bb4 hbb4 => ?_))
     obtain rfl := hbb4.trans hc2
     exact ⟨BX.refl _ _, Z⟩
    ·
     intro w17 D hS14 hd14
     exact dg_sub (E' := [(12, (.bool false))]) ⟨(dpE hd14 1 Z Z), trivial⟩ (dg_plain Z (ow_move Z Z ⟨BX.refl _ _, Z⟩))
    ·
     intro w18 D hS15 hd15
     have hl18 := Le.no M1 hS15
     exact dg_sub (E' := [(13, (.bool false)), (1, (.pointer (some p1)))]) ⟨(dpE hd15 2 Z Z), Z, trivial⟩ (dg_on Z Z Z Z (ow_fieldAddr Z Z Tryd.underlying27 Z (Tryd.sizeOf25 _) ⟨BX.refl _ _, ⟨_, Z, (ARep.mono (hl2.trans hl18) (hp1.fld fld_Box_Sides))⟩⟩))
    ·
     intro w19 D hS16 hd16
     have d29 : PA (RSlice (RSlice RSpan)) M1 a_b.Sides (D 3) w19 := dpA hd16 3 Z
     obtain ⟨p3, e2, ha1⟩ := d29
     exact dg_sub (E' := [(14, (.pointer (some p3))), (13, (.bool false))]) ⟨(congrArg some e2), (dpE hd16 2 Z Z), trivial⟩ (dg_on Z Z Z Z (ow_load (R := (RSlice (RSlice RSpan))) Z Z ha1 (Tryd.sizeOf25 _) (Tryd.isAgg25 _) fun v6 hv6 => ⟨BX.refl _ _, hv6⟩))
    ·
     intro w20 D hS17 hd17
     exact dg_sub (E' := [(13, (.bool false)), (3, (.int .i64 k1))]) ⟨(dpE hd17 2 Z Z), Z, trivial⟩ (dg_on Z Z Z Z (ow_move Z Z ⟨BX.refl _ _, Z⟩))
    ·
     intro w21 D hS18 hd18
     have d32 : PV (RSlice (RSlice RSpan)) M1 a_b.Sides (D 4) w21 := dpA hd18 4 Z
     generalize hq1 : (D 4) = v7 at d32
     exact dg_sub (E' := [(15, v7), (16, (.int .i64 k1)), (13, (.bool false))]) ⟨(congrArg some hq1), (dpE hd18 5 Z Z), (dpE hd18 2 Z Z), trivial⟩ (dg_on Z Z Z Z (ow_indexSlice (R := (RSlice RSpan)) Z Z Z d32 Tryd.underlying25 (Tryd.sizeOf58 _) hx1 fun p4 hp4 => ⟨BX.refl _ _, ⟨_, Z, hp4⟩⟩))
    ·
     intro w22 D hS19 hd19
     have d35 : PA (RSlice RSpan) M1 x1 (D 6) w22 := dpA hd19 6 Z
     obtain ⟨p5, e3, ha2⟩ := d35
     exact dg_sub (E' := [(17, (.pointer (some p5))), (13, (.bool false))]) ⟨(congrArg some e3), (dpE hd19 2 Z Z), trivial⟩ (dg_on Z Z Z Z (ow_load (R := (RSlice RSpan)) Z Z ha2 (Tryd.sizeOf58 _) (Tryd.isAgg58 _) fun v8 hv8 => ⟨BX.refl _ _, hv8⟩))
    ·
     intro w23 D hS20 hd20
     exact dg_sub (E' := [(13, (.bool false)), (3, (.int .i64 k1))]) ⟨(dpE hd20 2 Z Z), Z, trivial⟩ (dg_on Z Z Z Z (ow_move Z Z ⟨BX.refl _ _, Z⟩))
    ·
     intro w24 D hS21 hd21
     have hl24 := Le.no M1 hS21
     have hC24 := hC2.no hS21
     refine dg_sub (E' := [(19, (.int .i64 k1)), (13, (.bool false))]) ⟨(dpE hd21 8 Z Z), (dpE hd21 2 Z Z), trivial⟩ (dg_on Z Z Z Z (ow_call Z Z Tryd.call81 (w_spec_FieldTop (hG.mono (lz2.trans hl24)) hC24.old hx2) fun v9 w25 hv9 => ?_))
     obtain ⟨hv9, hb4⟩ := hv9
     obtain rfl := vint_eq hv9
     exact ⟨hb4, Z⟩
    ·
     intro w26 D hS22 hd22
     have d48 : PV (RSlice RSpan) M1 x1 (D 7) w26 := dpA hd22 7 Z
     have hl26 := Le.no M1 hS22
     have hC26 := hC2.no hS22
     generalize hq2 : (D 7) = v10 at d48
     refine lw_sub (E' := [(13, (.bool false)), (18, v10), (20, (.int .i64 x2)), (1, (.pointer (some p1))), (3, (.int .i64 k1))]) ⟨(dpE hd22 2 Z Z), (congrArg some hq2), (dpE hd22 9 Z Z), Z, Z, trivial⟩ ?_
     replace hb2 := bind_some hb2
     obtain ⟨x3, hx3, hb2⟩ := hb2
     refine lw_on Z Z Z Z Z Z (ow_call Z Z Tryd.call80 (w_spec_SpansValid (hG.mono (lz2.trans hl26)) hC26.old d48 hx3) fun v11 w27 hv11 => ?_)
     obtain ⟨hv11, hb5⟩ := hv11
     have hl27 := Le.no M1 hb5
     have hC27 := hC26.no hb5
     obtain rfl := vbool_eq hv11
     refine lw_on Z Z Z Z Z Z (ow_not Z Z (lw_op Z Z Z (ow_pickF Z Z Z (lw_nil (ew_then ?_)))))
     replace hb2 := cond_some hb2
     rcases hb2 with ⟨hc3, hb2⟩ | ⟨hc3, hb2⟩
     ·
      subst hc3
      refine cw_false Z (cw_skip (ew_blockN (ew_then (cw_region (lw_op Z Z Z (ow_move Z Z (lw_op Z Z Z (ow_add Z Z Z (lw_op Z Z Z (ow_assign Z Z (lw_nil ?_)))))))))))
      have lz3 := ((hl2.trans hl26).trans hl27)
      exact ew_nxt (W (k1 + 1)) hb2 fun a ha => ⟨M1, (ha.sub ⟨Z, Z, trivial⟩), lz3, hC27⟩
     ·
      subst hc3
      refine cw_true Z (cw_seq (cw_region (lw_op Z Z Z (ow_assign Z Z (lw_nil (ew_then (cw_ret (ew_blockR (ew_thenR (ew_thenR (ew_blockR (ew_brkR (ew_thenR ?_)))))))))))))
      have e4 := hR1 _ (Option.some.inj hb2).symm
      subst e4
      obtain rfl := Option.some.inj h
      exact ew_ret (res1 Z (.tmp Z)) ⟨_, Z, ((vbool _)), hC27.bx⟩
  ·
   obtain rfl := hbb1.trans hc1
   exact cw_false Z (cw_exit (ew_thenX (ew_thenX (ew_blockX (ew_brk k1 hb2 fun a ha => ⟨M1, (ha.sub ⟨Z, Z, trivial⟩), hl2, hC2⟩)))))
 ·
  rintro k2 a w28 hlr2 ⟨M2, hF2, hl28, hC28⟩
  subst hlr2
  refine ew_at (E := [(1, (.pointer (some p1))), (3, (.int .i64 k2))]) hF2 (ew_then (cw_seq (cw_region (lw_op Z Z Z (ow_fieldAddr Z Z Tryd.underlying27 Z (Tryd.sizeOf25 _) (lw_op Z Z Z (ow_load (R := (RSlice (RSlice RSpan))) Z Z (ARep.mono hl28 (hp1.fld fld_Box_Sides)) (Tryd.sizeOf25 _) (Tryd.isAgg25 _) fun v13 hv13 => lw_op Z Z Z (ow_len Z Z hv13 Tryd.underlying25 Z (lw_op Z Z Z (ow_eqlI Z Z Z fun bb5 hbb5 => lw_op Z Z Z (ow_assign Z Z (lw_nil (ew_then (cw_ret ?_))))))))))))))
  obtain rfl := Option.some.inj h
  exact ew_ret (res1 Z (.tmp Z)) ⟨_, Z, ((vbool_of hbb5)), hC28.bx⟩

theorem w_spec_FlatsValid {w : World} {M : Nat → Prop} (hG : ARep (RArr 4 RShape) w M shapes ⟨0, 0, none⟩) (hO : ∀ b, M b → b < w.heap.size) {v0p : Value} {a_list : List Flat} (h0 : VRep (RSlice RFlat) w M a_list v0p) {r : Bool} (h : F.spec_FlatsValid a_list = some r) :
  Calls Tryd.prog 25 [v0p].toArray w fun e w' => ∃ v, e = .returned v ∧ VRep RBool w' M r v ∧ BX No w w' := by
 have hC : Cx No w M w M := Cx.start hO (fun _ e => e.elim)
 refine walk (N := 20) Tryd.func25 Z Tryd.ntmps25 Z (cw_seq (cw_region (lw_op Z Z Z (ow_assign Z Z (lw_nil (ew_then (cw_seq (cw_seq (cw_region (lw_op Z Z Z (ow_assign Z Z (lw_nil (ew_then ?_)))))))))))))
 replace h := bind_some h
 obtain ⟨lr1, hlr1, h⟩ := h
 refine cw_for hlr1 (fun s a w' => ∃ (M' : Nat → Prop), Fits 20 [(0, v0p), (3, (.int .i64 s))] a ∧ Le w M w' M' ∧ Cx No w M w' M') ?_ ?_ ?_
 ·
  intro a ha
  exact ⟨M, ha.sub ⟨Z, Z, trivial⟩, Le.refl _ _, hC⟩
 ·
  rintro k1 a w1 sr1 ⟨M1, hF1, hl1, hC1⟩ hb1 hR1
  refine cw_at (E := [(0, v0p), (3, (.int .i64 k1))]) hF1 (cw_seq (cw_seq (cw_region (lw_op Z Z Z (ow_move Z Z (lw_op Z Z Z (ow_move Z Z (lw_op Z Z Z (ow_len Z Z (VRep.mono hl1 h0) Tryd.underlying37 Z (lw_op Z Z Z (ow_lss Z Z Z fun bb1 hbb1 => lw_nil (ew_then ?_))))))))))))
  replace hb1 := cond_some hb1
  rcases hb1 with ⟨hc1, hb1⟩ | ⟨hc1, hb1⟩
  ·
   obtain rfl := hbb1.trans hc1
   refine cw_true Z (cw_skip (ew_then (cw_seq (cw_block (cw_seq (cw_region (lw_op Z Z Z (ow_move Z Z (lw_op Z Z Z (ow_move Z Z ?_))))))))))
   replace hb1 := bind_some hb1
   obtain ⟨x1, hx1, hb1⟩ := hb1
   refine lw_op Z Z Z (ow_indexSlice (R := RFlat) Z Z Z (VRep.mono hl1 h0) Tryd.underlying37 (Tryd.sizeOf41 _) hx1 fun p1 hp1 => lw_op Z Z Z (ow_fieldAddr Z Z Tryd.underlying41 Z (Tryd.sizeOf27 _) (lw_op Z Z Z (ow_load (R := RBox) Z Z (hp1.fld fld_Flat_Where) (Tryd.sizeOf27 _) (Tryd.isAgg27 _) fun v2 hv2 => ?_))))
   replace hb1 := bind_some hb1
   obtain ⟨x2, hx2, hb1⟩ := hb1
   refine lw_op Z Z Z (ow_call Z Z Tryd.call38 (w_spec_BoxValid (hG.mono hl1) hC1.old hv2 hx2) fun v3 w2 hv3 => ?_)
   obtain ⟨hv3, hb2⟩ := hv3
   have hl2 := Le.no M1 hb2
   have hC2 := hC1.no hb2
   obtain rfl := vbool_eq hv3
   refine lw_op Z Z Z (ow_not Z Z (lw_nil (ew_then ?_)))
   replace hb1 := cond_some hb1
   rcases hb1 with ⟨hc2, hb1⟩ | ⟨hc2, hb1⟩
   ·
    subst hc2
    exact cw_false Z (cw_skip (ew_blockN (ew_then (cw_region (lw_op Z Z Z (ow_move Z Z (lw_op Z Z Z (ow_add Z Z Z (lw_op Z Z Z (ow_assign Z Z (lw_nil (ew_nxt (W (k1 + 1)) hb1 fun a ha => ⟨M1, (ha.sub ⟨Z, Z, trivial⟩), (hl1.trans hl2), hC2⟩))))))))))))
   ·
    subst hc2
    refine cw_true Z (cw_seq (cw_region (lw_op Z Z Z (ow_assign Z Z (lw_nil (ew_then (cw_ret (ew_blockR (ew_thenR (ew_thenR (ew_blockR (ew_brkR (ew_thenR ?_)))))))))))))
    have e1 := hR1 _ (Option.some.inj hb1).symm
    subst e1
    obtain rfl := Option.some.inj h
    exact ew_ret (res1 Z (.tmp Z)) ⟨_, Z, ((vbool _)), hC2.bx⟩
  ·
   obtain rfl := hbb1.trans hc1
   exact cw_false Z (cw_exit (ew_thenX (ew_thenX (ew_blockX (ew_brk k1 hb1 fun a ha => ⟨M1, (ha.sub ⟨Z, Z, trivial⟩), hl1, hC1⟩)))))
 ·
  rintro k2 a w3 hlr2 ⟨M2, hF2, hl3, hC3⟩
  subst hlr2
  refine ew_at (E := [(0, v0p), (3, (.int .i64 k2))]) hF2 (ew_then (cw_seq (cw_region (lw_op Z Z Z (ow_move Z Z (lw_op Z Z Z (ow_len Z Z (VRep.mono hl3 h0) Tryd.underlying37 Z (lw_op Z Z Z (ow_leq Z Z Z fun bb2 hbb2 => lw_op Z Z Z (ow_assign Z Z (lw_nil (ew_then (cw_ret ?_)))))))))))))
  obtain rfl := Option.some.inj h
  exact ew_ret (res1 Z (.tmp Z)) ⟨_, Z, ((vbool_of hbb2)), hC3.bx⟩

theorem w_laws_FnFlatsValid {w : World} {M : Nat → Prop} (hG : ARep (RArr 4 RShape) w M shapes ⟨0, 0, none⟩) (hO : ∀ b, M b → b < w.heap.size) {v0p : Value} {a_code : List Int} (h0 : VRep (RSlice RU8) w M a_code v0p) {r : Bool} (h : F.laws_FnFlatsValid a_code = some r) :
  Calls Tryd.prog 5 [v0p].toArray w fun e w' => ∃ v, e = .returned v ∧ VRep RBool w' M r v ∧ BX No w w' := by
 obtain ⟨i41, hi41, hz41, hs41, hy41⟩ := info41
 have hC : Cx No w M w M := Cx.start hO (fun _ e => e.elim)
 refine walk (N := 39) Tryd.func5 Z Tryd.ntmps5 Z (cw_seq (cw_region (lw_op Z Z Z (ow_assign Z Z (lw_nil (ew_then (cw_seq (cw_seq (cw_region (lw_op Z Z Z (ow_move Z Z (lw_op Z Z Z (ow_len Z Z h0 Tryd.underlying22 Z (lw_op Z Z Z (ow_gtr Z Z Z fun bb1 hbb1 => lw_nil (ew_then ?_))))))))))))))))
 replace h := cond_some h
 rcases h with ⟨hc1, h⟩ | ⟨hc1, h⟩
 ·
  obtain rfl := hbb1.trans hc1
  refine cw_true Z (cw_seq (cw_region (lw_op Z Z Z (ow_assign Z Z (lw_nil (ew_then (cw_ret (ew_thenR ?_))))))))
  obtain rfl := Option.some.inj h
  exact ew_ret (res1 Z (.tmp Z)) ⟨_, Z, ((vbool _)), hC.bx⟩
 ·
  obtain rfl := hbb1.trans hc1
  refine cw_false Z (cw_skip (ew_then (cw_seq (cw_region (lw_op Z Z Z (ow_move Z Z ?_))))))
  replace h := bind_some h
  obtain ⟨x1, hx1, h⟩ := h
  refine lw_op Z Z Z (ow_call Z Z Tryd.call23 (w_spec_DrawFlatsValid hG hC.old h0 hx1) fun v1 w1 hv1 => ?_)
  obtain ⟨hv1, hb1⟩ := hv1
  have hl1 := Le.no M hb1
  have hC1 := hC.no hb1
  refine lw_op Z Z Z (ow_assign Z Z (lw_nil (ew_then (cw_seq (cw_region (lw_op Z Z Z (ow_move Z Z ?_)))))))
  replace h := bind_some h
  obtain ⟨x2, hx2, h⟩ := h
  refine lw_op Z Z Z (ow_call Z Z Tryd.call24 (w_impl_FlatsValid (hG.mono hl1) hC1.old hv1 hx2) fun v2 w2 hv2 => ?_)
  obtain ⟨hv2, hb2⟩ := hv2
  have hl2 := Le.no M hb2
  have hC2 := hC1.no hb2
  obtain rfl := vbool_eq hv2
  refine lw_op Z Z Z (ow_assign Z Z (lw_nil (ew_then (cw_seq (cw_seq (cw_region (lw_op Z Z Z (ow_move Z Z (lw_op Z Z Z (ow_move Z Z ?_))))))))))
  replace h := bind_some h
  obtain ⟨x3, hx3, h⟩ := h
  refine lw_op Z Z Z (ow_call Z Z Tryd.call25 (w_spec_FlatsValid (hG.mono (hl1.trans hl2)) hC2.old (VRep.mono hl2 hv1) hx3) fun v3 w3 hv3 => ?_)
  obtain ⟨hv3, hb3⟩ := hv3
  have hl3 := Le.no M hb3
  have hC3 := hC2.no hb3
  obtain rfl := vbool_eq hv3
  refine lw_op Z Z Z (ow_neqB Z Z Z Tryd.underlying4 fun bb2 hbb2 => lw_nil (ew_then ?_))
  replace h := cond_some h
  rcases h with ⟨hc2, h⟩ | ⟨hc2, h⟩
  ·
   obtain rfl := hbb2.trans hc2
   refine cw_true Z (cw_seq (cw_region (lw_op Z Z Z (ow_assign Z Z (lw_nil (ew_then (cw_ret (ew_thenR ?_))))))))
   obtain rfl := Option.some.inj h
   exact ew_ret (res1 Z (.tmp Z)) ⟨_, Z, ((vbool _)), hC3.bx⟩
  ·
   obtain rfl := hbb2.trans hc2
   refine cw_false Z (cw_skip (ew_then (cw_seq (cw_region (lw_op Z Z Z (ow_move Z Z (lw_op Z Z Z (ow_not Z Z (lw_op Z Z Z (ow_move Z Z ?_))))))))))
   replace h := cond_some h
   rcases h with ⟨hc3, h⟩ | ⟨hc3, h⟩
   ·
    subst hc3
    refine lw_on Z Z Z Z Z Z (ow_move Z Z (lw_on Z Z Z Z Z Z (ow_move Z Z (lw_on Z Z Z Z Z Z (ow_len Z Z (VRep.mono (hl2.trans hl3) hv1) Tryd.underlying37 Z (lw_on Z Z Z Z Z Z (ow_quo Z Z Z (by decide) ?_)))))))
    replace h := bind_some h
    obtain ⟨y1, hy1, h⟩ := h
    refine lw_on Z Z Z Z Z Z (ow_sliceTo (R := RFlat) Z Z Z (VRep.mono (hl2.trans hl3) hv1) Tryd.underlying37 (Tryd.sizeOf41 _) (takeF_some hy1).2 fun v4 hv4 => ?_)
    rw [← (takeF_some hy1).1] at hv4
    replace h := bind_some h
    obtain ⟨x4, hx4, h⟩ := h
    have lz1 := ((hl1.trans hl2).trans hl3)
    refine lw_on Z Z Z Z Z Z (ow_call Z Z Tryd.call24 (w_impl_FlatsValid (hG.mono lz1) hC3.old hv4 hx4) fun v5 w4 hv5 => ?_)
    obtain ⟨hv5, hb4⟩ := hv5
    have hl4 := Le.no M hb4
    have hC4 := hC3.no hb4
    obtain rfl := vbool_eq hv5
    refine lw_op Z Z Z (ow_pickF Z Z Z (lw_op Z Z Z (ow_move Z Z ?_)))
    replace h := cond_some h
    rcases h with ⟨hc4, h⟩ | ⟨hc4, h⟩
    ·
     subst hc4
     refine lw_on Z Z Z Z Z Z (ow_buildSlice0 (R := RFlat) (e := 41) Z (by kernel_rfl) hC4 fun p1 w5 M1 hr1 hb5 hl5 hC5 hM1 hat1 => lw_on Z Z Z Z Z Z (ow_move Z Z ?_))
     replace h := bind_some h
     obtain ⟨z1, hz1, h⟩ := h
     have lz2 := (((hl2.trans hl3).trans hl4).trans hl5)
     refine lw_on Z Z Z Z Z Z (ow_append (R := RFlat) Z Z Z Z Tryd.underlying37 hi41 hz41 hs41 hy41 Z Z Z Z hr1 (VRep.mono lz2 hv1) hz1 hC5 fun v6 w6 M2 hr2 hb6 hl6 hC6 hM2 hat2 => lw_on Z Z Z Z Z Z (ow_build (v := .agg #[(.slice none 0 0), (.bool false)]) Z Z (by kernel_rfl) ?_))
     have hw1 : VRep RFlat w6 M2 ({ Where := ({ Sides := ([] : List (List Span)) } : Box), Accept := false } : Flat) (.agg #[(.slice none 0 0), (.bool false)]) := shut_Flat (vslice_nil (R := (RSlice RSpan)) (w := w6) (M := M2))
     refine lw_on Z Z Z Z Z Z (ow_buildSlice (R := RFlat) (xs := [({ Where := ({ Sides := ([] : List (List Span)) } : Box), Accept := false } : Flat)]) (cs := #[(.slice none 0 0), (.bool false)]) (e := 41) Z Z (by kernel_rfl) Z Z ⟨_, _, Z, hw1.cells, Z⟩ hC6 fun p2 w7 hw2 hb7 hl7 hC7 => ?_)
     have hr3 := hr2.no hb7
     replace h := bind_some h
     obtain ⟨z2, hz2, h⟩ := h
     refine lw_on Z Z Z Z Z Z (ow_append (R := RFlat) Z Z Z Z Tryd.underlying37 hi41 hz41 hs41 hy41 Z Z Z Z hr3 hw2 hz2 hC7 fun v7 w8 M3 hr4 hb8 hl8 hC8 hM3 hat3 => ?_)
     have hw3 := hr4.freezeDel
     have hC9 := hr4.cxDel hC8 (fun _ e => e.elim) hO
     have hl9 := Le.del w8 M3 v7
     replace h := bind_some h
     obtain ⟨x5, hx5, h⟩ := h
     have lz3 := ((((((lz1.trans hl4).trans hl5).trans hl6).trans hl7).trans hl8).trans hl9)
     refine lw_on Z Z Z Z Z Z (ow_call Z Z Tryd.call24 (w_impl_FlatsValid (hG.mono lz3) hC9.old hw3 hx5) fun v8 w9 hv8 => ?_)
     obtain ⟨hv8, hb9⟩ := hv8
     have hl10 := Le.no (Del v7 M3) hb9
     have hC10 := hC9.no hb9
     obtain rfl := vbool_eq hv8
     refine lw_on Z Z Z Z Z Z (ow_not Z Z (lw_op Z Z Z (ow_pickT Z Z Z (lw_op Z Z Z (ow_move Z Z ?_)))))
     replace h := cond_some h
     rcases h with ⟨hc5, h⟩ | ⟨hc5, h⟩
     ·
      subst hc5
      refine lw_off Z Z Z Z Z Z (lw_op Z Z Z (ow_pickF Z Z Z (lw_op Z Z Z (ow_assign Z Z (lw_nil (ew_then (cw_ret ?_)))))))
      obtain rfl := Option.some.inj h
      exact ew_ret (res1 Z (.tmp Z)) ⟨_, Z, ((vbool _)), hC10.bx⟩
     ·
      subst hc5
      replace h := bind_some h
      obtain ⟨x6, hx6, h⟩ := h
      refine lw_on Z Z Z Z Z Z (ow_call Z Z Tryd.call19 (w_laws_alive (hG.mono (lz3.trans hl10)) hC10.old hx6) fun v9 w10 hv9 => ?_)
      obtain ⟨hv9, hb10⟩ := hv9
      have hC11 := hC10.no hb10
      obtain rfl := vbool_eq hv9
      refine lw_op Z Z Z (ow_pickT Z Z Z (lw_op Z Z Z (ow_assign Z Z (lw_nil (ew_then (cw_ret ?_))))))
      obtain rfl := Option.some.inj h
      exact ew_ret (res1 Z (.tmp Z)) ⟨_, Z, ((vbool _)), hC11.bx⟩
    ·
     subst hc4
     refine lw_off Z Z Z Z Z Z (lw_off Z Z Z Z Z Z (lw_off Z Z Z Z Z Z (lw_off Z Z Z Z Z Z (lw_off Z Z Z Z Z Z (lw_off Z Z Z Z Z Z (lw_off Z Z Z Z Z Z (lw_off Z Z Z Z Z Z (lw_op Z Z Z (ow_pickF Z Z Z (lw_op Z Z Z (ow_move Z Z (lw_off Z Z Z Z Z Z (lw_op Z Z Z (ow_pickF Z Z Z (lw_op Z Z Z (ow_assign Z Z (lw_nil (ew_then (cw_ret ?_)))))))))))))))))))
     obtain rfl := Option.some.inj h
     exact ew_ret (res1 Z (.tmp Z)) ⟨_, Z, ((vbool _)), hC4.bx⟩
   ·
    subst hc3
    refine lw_off Z Z Z Z Z Z (lw_off Z Z Z Z Z Z (lw_off Z Z Z Z Z Z (lw_off Z Z Z Z Z Z (lw_off Z Z Z Z Z Z (lw_off Z Z Z Z Z Z (lw_op Z Z Z (ow_pickT Z Z Z (lw_op Z Z Z (ow_move Z Z (lw_on Z Z Z Z Z Z (ow_buildSlice0 (R := RFlat) (e := 41) Z (by kernel_rfl) hC3 fun p3 w11 M4 hr5 hb11 hl12 hC12 hM4 hat4 => lw_on Z Z Z Z Z Z (ow_move Z Z ?_))))))))))))
    replace h := bind_some h
    obtain ⟨z3, hz3, h⟩ := h
    have lz4 := ((hl2.trans hl3).trans hl12)
    refine lw_on Z Z Z Z Z Z (ow_append (R := RFlat) Z Z Z Z Tryd.underlying37 hi41 hz41 hs41 hy41 Z Z Z Z hr5 (VRep.mono lz4 hv1) hz3 hC12 fun v10 w12 M5 hr6 hb12 hl13 hC13 hM5 hat5 => lw_on Z Z Z Z Z Z (ow_build (v := .agg #[(.slice none 0 0), (.bool false)]) Z Z (by kernel_rfl) ?_))
    have hw4 : VRep RFlat w12 M5 ({ Where := ({ Sides := ([] : List (List Span)) } : Box), Accept := false } : Flat) (.agg #[(.slice none 0 0), (.bool false)]) := shut_Flat (vslice_nil (R := (RSlice RSpan)) (w := w12) (M := M5))
    refine lw_on Z Z Z Z Z Z (ow_buildSlice (R := RFlat) (xs := [({ Where := ({ Sides := ([] : List (List Span)) } : Box), Accept := false } : Flat)]) (cs := #[(.slice none 0 0), (.bool false)]) (e := 41) Z Z (by kernel_rfl) Z Z ⟨_, _, Z, hw4.cells, Z⟩ hC13 fun p4 w13 hw5 hb13 hl14 hC14 => ?_)
    have hr7 := hr6.no hb13
    replace h := bind_some h
    obtain ⟨z4, hz4, h⟩ := h
    refine lw_on Z Z Z Z Z Z (ow_append (R := RFlat) Z Z Z Z Tryd.underlying37 hi41 hz41 hs41 hy41 Z Z Z Z hr7 hw5 hz4 hC14 fun v11 w14 M6 hr8 hb14 hl15 hC15 hM6 hat6 => ?_)
    have hw6 := hr8.freezeDel
    have hC16 := hr8.cxDel hC15 (fun _ e => e.elim) hO
    have hl16 := Le.del w14 M6 v11
    replace h := bind_some h
    obtain ⟨x7, hx7, h⟩ := h
    have lz5 := (((((((hl1.trans hl2).trans hl3).trans hl12).trans hl13).trans hl14).trans hl15).trans hl16)
    refine lw_on Z Z Z Z Z Z (ow_call Z Z Tryd.call24 (w_impl_FlatsValid (hG.mono lz5) hC16.old hw6 hx7) fun v12 w15 hv12 => ?_)
    obtain ⟨hv12, hb15⟩ := hv12
    have hl17 := Le.no (Del v11 M6) hb15
    have hC17 := hC16.no hb15
    obtain rfl := vbool_eq hv12
    refine lw_on Z Z Z Z Z Z (ow_not Z Z (lw_op Z Z Z (ow_pickT Z Z Z (lw_op Z Z Z (ow_move Z Z ?_)))))
    replace h := cond_some h
    rcases h with ⟨hc6, h⟩ | ⟨hc6, h⟩
    ·
     subst hc6
     refine lw_off Z Z Z Z Z Z (lw_op Z Z Z (ow_pickF Z Z Z (lw_op Z Z Z (ow_assign Z Z (lw_nil (ew_then (cw_ret ?_)))))))
     obtain rfl := Option.some.inj h
     exact ew_ret (res1 Z (.tmp Z)) ⟨_, Z, ((vbool _)), hC17.bx⟩
    ·
     subst hc6
     replace h := bind_some h
     obtain ⟨x8, hx8, h⟩ := h
     refine lw_on Z Z Z Z Z Z (ow_call Z Z Tryd.call19 (w_laws_alive (hG.mono (lz5.trans hl17)) hC17.old hx8) fun v13 w16 hv13 => ?_)
     obtain ⟨hv13, hb16⟩ := hv13
     have hC18 := hC17.no hb16
     obtain rfl := vbool_eq hv13
     refine lw_op Z Z Z (ow_pickT Z Z Z (lw_op Z Z Z (ow_assign Z Z (lw_nil (ew_then (cw_ret ?_))))))
     obtain rfl := Option.some.inj h
     exact ew_ret (res1 Z (.tmp Z)) ⟨_, Z, ((vbool _)), hC18.bx⟩


end Go.PF
