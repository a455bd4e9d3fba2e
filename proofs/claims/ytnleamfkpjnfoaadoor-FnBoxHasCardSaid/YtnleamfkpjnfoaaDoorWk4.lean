/- The walks; no condition. -/
import Derived.Test.YtnleamfkpjnfoaaDoorProg
import Derived.Test.YtnleamfkpjnfoaaDoorWk3
import Derived.Test.YtnleamfkpjnfoaaDoorPFNew
set_option maxRecDepth 100000
set_option maxHeartbeats 4000000
namespace Go.PF
open Go Go.RowKit Go.Proofs

theorem w_spec_l20Inside {w : World} {M : Nat → Prop} (hG : ARep (RArr 4 RShape) w M shapes ⟨0, 0, none⟩) (hO : ∀ b, M b → b < w.heap.size) {g : Nat} {Ax : Option Addr} {cx : Nat} {a_xs : List Int} {a_pos : Int} (hxs : VRep (RSlice RU8) w M a_xs (.slice Ax a_xs.length cx)) (hown : Own w g 98 #[.slice Ax a_xs.length cx, .int .i64 a_pos]) (hgM : M g) {v1p : Value} {a_b : Box} (h1 : VRep RBox w M a_b v1p) {a_n : Int} {r : Packet × Int} (h : F.spec_l20Inside a_xs a_pos a_b a_n = some r) :
  Calls Tryd.prog 77 [(.pointer (some ⟨g, 0, none⟩)), v1p, (.int .i64 a_n)].toArray w fun e w' => ∃ v, e = .returned v ∧ (VRep RPacket w' M r.1 v ∧ Own w' g 98 #[.slice Ax a_xs.length cx, .int .i64 r.2]) ∧ BX (One g) w w' := by
 obtain ⟨i31, hi31, hz31, hs31, hy31⟩ := info31
 have hX : ∀ b, (One g) b → M b := fun b e => e ▸ hgM
 have hC : Cx (One g) w M w M := Cx.start hO hX
 refine walk (N := 57) Tryd.func77 rfl Tryd.ntmps77 rfl ?_
 refine cw_seq (cw_region (lw_op rfl rfl rfl (ow_box (R := RBox) rfl rfl h1 hC fun p1 w1 hp1 hb1 hl1 hC1 => ?_)))
 have ho1 := hown.no hb1
 refine lw_op rfl rfl rfl (ow_alloc rfl (Tryd.zeroValue45 _) hC1 fun g1 w2 hg1 hg2 ho2 hb2 hl2 hC2 => ?_)
 have hn1 := Nat.ne_of_lt (Nat.lt_of_lt_of_le ho1.lt hg1)
 have ho3 := ho1.no hb2
 have hm1 : (Add g1 M) g := .inr hgM
 have hm2 : (Add g1 M) g1 := .inl rfl
 refine lw_nil (ew_then (cw_seq (cw_region (lw_op rfl rfl rfl (ow_buildSlice0 (R := RTest) (e := 31) rfl (by kernel_rfl) hC2 fun p2 w3 M1 hr1 hb3 hl3 hC3 hM1 hat1 => ?_)))))
 have ho4 := ho3.no hb3
 have hm3 := hM1 _ hm1
 have ho5 := ho2.no hb3
 have hm4 := hM1 _ hm2
 refine lw_op rfl rfl rfl (ow_assign rfl rfl ?_)
 refine lw_nil (ew_then (cw_seq (cw_seq (cw_region (lw_op rfl rfl rfl (ow_assign rfl rfl ?_))))))
 refine lw_nil (ew_then ?_)
 replace h := bind_some h
 obtain ⟨lr1, hlr1, h⟩ := h
 refine cw_for hlr1 (fun s a w' => ∃ (M' : Nat → Prop) (v0c : Value), Fits 57 [(0, (.pointer (some ⟨g, 0, none⟩))), (2, (.int .i64 a_n)), (4, (.pointer (some p1))), (6, (.pointer (some ⟨g1, 0, none⟩))), (7, v0c), (8, (.int .i64 s.2.1))] a ∧ Le w3 M1 w' M' ∧ Cx (One g) w M w' M' ∧ OwnRow RTest w.heap.size 31 w' M' s.1 v0c ∧ Own w' g 98 #[(.slice Ax a_xs.length cx), (.int .i64 s.2.2)] ∧ M' g ∧ Own w' g1 45 #[(.int .i64 0), (.int .i64 0), (.int .i64 0), (.int .i64 0)] ∧ M' g1) ?_ ?_ ?_
 ·
  intro a ha
  exact ⟨M1, (.slice (some p2) 0 0), ha.sub ⟨rfl, rfl, rfl, rfl, rfl, rfl, trivial⟩, Le.refl _ _, hC3, hr1, ho4, hm3, ho5, hm4⟩
 ·
  rintro ⟨y1, k1, k2⟩ a w4 sr1 ⟨M2, v1, hF1, hl4, hC4, hw1, ho6, hm5, ho7, hm6⟩ hb4 hR1
  refine cw_at (E := [(0, (.pointer (some ⟨g, 0, none⟩))), (2, (.int .i64 a_n)), (4, (.pointer (some p1))), (6, (.pointer (some ⟨g1, 0, none⟩))), (7, v1), (8, (.int .i64 k1))]) hF1 ?_
  refine cw_seq (cw_seq (cw_region (lw_op rfl rfl rfl (ow_move rfl rfl ?_))))
  refine lw_op rfl rfl rfl (ow_fieldAddr rfl rfl Tryd.underlying27 rfl (Tryd.sizeOf25 _) ?_)
  refine lw_op rfl rfl rfl (ow_load (R := (RSlice (RSlice RSpan))) rfl rfl (ARep.mono ((hl2.trans hl3).trans hl4) (hp1.fld fld_Box_Sides)) (Tryd.sizeOf25 _) (Tryd.isAgg25 _) fun v4 hv4 => ?_)
  refine lw_op rfl rfl rfl (ow_len rfl rfl hv4 Tryd.underlying25 rfl ?_)
  refine lw_op rfl rfl rfl (ow_lss rfl rfl rfl fun bb1 hbb1 => ?_)
  refine lw_op rfl rfl rfl (ow_move rfl rfl ?_)
  replace hb4 := cond_some hb4
  rcases hb4 with ⟨hc1, hb4⟩ | ⟨hc1, hb4⟩
  ·
   obtain rfl := hbb1.trans hc1
   refine lw_on rfl rfl rfl rfl rfl rfl (ow_move rfl rfl ?_)
   refine lw_on rfl rfl rfl rfl rfl rfl (ow_lss rfl rfl rfl fun bb2 hbb2 => ?_)
   refine lw_op rfl rfl rfl (ow_pickT rfl rfl rfl ?_)
   refine lw_nil (ew_then ?_)
   replace hb4 := cond_some hb4
   rcases hb4 with ⟨hc2, hb4⟩ | ⟨hc2, hb4⟩
   ·
    obtain rfl := hbb2.trans hc2
    refine cw_true rfl ?_
    refine cw_skip (ew_then (cw_seq (cw_block ?_)))
    refine cw_seq (cw_region (lw_op rfl rfl rfl (ow_fieldAddr rfl rfl Tryd.underlying27 rfl (Tryd.sizeOf25 _) ?_)))
    refine lw_op rfl rfl rfl (ow_load (R := (RSlice (RSlice RSpan))) rfl rfl (ARep.mono ((hl2.trans hl3).trans hl4) (hp1.fld fld_Box_Sides)) (Tryd.sizeOf25 _) (Tryd.isAgg25 _) fun v5 hv5 => ?_)
    refine lw_op rfl rfl rfl (ow_move rfl rfl ?_)
    replace hb4 := bind_some hb4
    obtain ⟨x1, hx1, hb4⟩ := hb4
    refine lw_op rfl rfl rfl (ow_indexSlice (R := (RSlice RSpan)) rfl rfl rfl hv5 Tryd.underlying25 (Tryd.sizeOf58 _) hx1 fun p3 hp3 => ?_)
    refine lw_op rfl rfl rfl (ow_load (R := (RSlice RSpan)) rfl rfl hp3 (Tryd.sizeOf58 _) (Tryd.isAgg58 _) fun v6 hv6 => ?_)
    refine lw_op rfl rfl rfl (ow_len rfl rfl hv6 Tryd.underlying58 rfl ?_)
    refine lw_op rfl rfl rfl (ow_gtr rfl rfl rfl fun bb3 hbb3 => ?_)
    refine lw_nil (ew_then ?_)
    replace hb4 := cond_some hb4
    rcases hb4 with ⟨hc3, hb4⟩ | ⟨hc3, hb4⟩
    ·
     obtain rfl := hbb3.trans hc3
     refine cw_true rfl ?_
     refine cw_seq ?_
     replace hb4 := bind_some hb4
     obtain ⟨x2, hx2, hb4⟩ := hb4
     replace hb4 := bind_some hb4
     obtain ⟨x3, hx3, hb4⟩ := hb4
     refine cw_sub (E' := [(0, (.pointer (some ⟨g, 0, none⟩))), (2, (.int .i64 a_n)), (4, (.pointer (some p1))), (6, (.pointer (some ⟨g1, 0, none⟩))), (7, v1), (8, (.int .i64 k1))]) ⟨rfl, rfl, rfl, rfl, rfl, rfl, trivial⟩ ?_
     refine cw_drawC (g := g) (T := 98) 16 1 [none, none, none, none, none, none, none, none, none, none, none, none, some 0, none, none, none] [#[(.slice Ax a_xs.length cx), (.int .i64 k2)], #[(.slice Ax a_xs.length cx), (.int .i64 x2.2)]] [PA (RSlice (RSlice RSpan)) M2 a_b.Sides, PV (RSlice (RSlice RSpan)) M2 a_b.Sides, PEq (.int .i64 k1), PA (RSlice RSpan) M2 x1, PV (RSlice RSpan) M2 x1, PEq (.pointer (some ⟨g, 0, none⟩)), PA (RSlice (RSlice RSpan)) M2 a_b.Sides, PV (RSlice (RSlice RSpan)) M2 a_b.Sides, PEq (.int .i64 k1), PA (RSlice RSpan) M2 x1, PV (RSlice RSpan) M2 x1, PEq (.int .i64 (x1.length : Int)), PEq (.int .i64 x2.1), PA RSpan M2 x3, PV RSpan M2 x3, PNew w4 76 #[(.int .i64 0), (.int .i64 0)]] (by kernel_rfl) rfl (by kernel_rfl) (by kernel_rfl) ho6 ⟨(PA.monoY hm5 _ _), (PV.monoY hm5 _ _), (PEq.monoY hm5 _), (PA.monoY hm5 _ _), (PV.monoY hm5 _ _), (PEq.monoY hm5 _), (PA.monoY hm5 _ _), (PV.monoY hm5 _ _), (PEq.monoY hm5 _), (PA.monoY hm5 _ _), (PV.monoY hm5 _ _), (PEq.monoY hm5 _), (PEq.monoY hm5 _), (PA.monoY hm5 _ _), (PV.monoY hm5 _ _), (PNew.monoY ho6.lt _ _), trivial⟩ ⟨?_, ?_, ?_, ?_, ?_, ?_, ?_, ?_, ?_, ?_, ?_, ?_, ?_, ?_, ?_, ?_, trivial⟩ ?_
     ·
      intro w7 D hS1 hd1
      have hl7 := leY hm5 hS1
      have hC7 := hC4.go hS1 (fun b e => Or.inr e)
      have ho13 := ho7.go hS1 (fun e => hn1 e.symm)
      have hr4 := hw1.go hS1 (fun k hk e => (orow_ne hw1 ho6 (by decide)) (hk.trans (congrArg some e))) hl7 (fun _ h => h)
      refine dg_sub (E' := [(4, (.pointer (some p1)))]) ⟨rfl, trivial⟩ ?_
      refine dg_plain rfl (ow_fieldAddr rfl rfl Tryd.underlying27 rfl (Tryd.sizeOf25 _) ?_)
      exact ⟨BX.refl _ _, ⟨_, rfl, (ARep.mono (((hl2.trans hl3).trans hl4).trans hl7) (hp1.fld fld_Box_Sides))⟩⟩
     ·
      intro w8 D hS2 hd2
      have hl8 := leY hm5 hS2
      have hC8 := hC4.go hS2 (fun b e => Or.inr e)
      have ho14 := ho7.go hS2 (fun e => hn1 e.symm)
      have hr5 := hw1.go hS2 (fun k hk e => (orow_ne hw1 ho6 (by decide)) (hk.trans (congrArg some e))) hl8 (fun _ h => h)
      have hd2 : PA (RSlice (RSlice RSpan)) M2 a_b.Sides (D 0) w8 ∧ True := hd2
      obtain ⟨d1, -⟩ := hd2
      obtain ⟨p7, e1, ha1⟩ := d1
      refine dg_sub (E' := [(29, (.pointer (some p7)))]) ⟨(congrArg some e1), trivial⟩ ?_
      refine dg_plain rfl (ow_load (R := (RSlice (RSlice RSpan))) rfl rfl ha1 (Tryd.sizeOf25 _) (Tryd.isAgg25 _) fun v13 hv13 => ?_)
      exact ⟨BX.refl _ _, hv13⟩
     ·
      intro w9 D hS3 hd3
      have hl9 := leY hm5 hS3
      have hC9 := hC4.go hS3 (fun b e => Or.inr e)
      have ho15 := ho7.go hS3 (fun e => hn1 e.symm)
      have hr6 := hw1.go hS3 (fun k hk e => (orow_ne hw1 ho6 (by decide)) (hk.trans (congrArg some e))) hl9 (fun _ h => h)
      refine dg_sub (E' := [(8, (.int .i64 k1))]) ⟨rfl, trivial⟩ ?_
      refine dg_plain rfl (ow_move rfl rfl ?_)
      exact ⟨BX.refl _ _, rfl⟩
     ·
      intro w10 D hS4 hd4
      have hl10 := leY hm5 hS4
      have hC10 := hC4.go hS4 (fun b e => Or.inr e)
      have ho16 := ho7.go hS4 (fun e => hn1 e.symm)
      have hr7 := hw1.go hS4 (fun k hk e => (orow_ne hw1 ho6 (by decide)) (hk.trans (congrArg some e))) hl10 (fun _ h => h)
      have hd4 : PV (RSlice (RSlice RSpan)) M2 a_b.Sides (D 1) w10 ∧ PEq (.int .i64 k1) (D 2) w10 ∧ True := hd4
      obtain ⟨d2, d3, -⟩ := hd4
      obtain ⟨v14, hq1⟩ : ∃ v, (D 1) = v := ⟨_, rfl⟩
      rw [hq1] at d2
      refine dg_sub (E' := [(30, v14), (31, (.int .i64 k1))]) ⟨(congrArg some hq1), (congrArg some d3), trivial⟩ ?_
      refine dg_plain rfl (ow_indexSlice (R := (RSlice RSpan)) rfl rfl rfl d2 Tryd.underlying25 (Tryd.sizeOf58 _) hx1 fun p8 hp8 => ?_)
      exact ⟨BX.refl _ _, ⟨_, rfl, hp8⟩⟩
     ·
      intro w11 D hS5 hd5
      have hl11 := leY hm5 hS5
      have hC11 := hC4.go hS5 (fun b e => Or.inr e)
      have ho17 := ho7.go hS5 (fun e => hn1 e.symm)
      have hr8 := hw1.go hS5 (fun k hk e => (orow_ne hw1 ho6 (by decide)) (hk.trans (congrArg some e))) hl11 (fun _ h => h)
      have hd5 : PA (RSlice RSpan) M2 x1 (D 3) w11 ∧ True := hd5
      obtain ⟨d4, -⟩ := hd5
      obtain ⟨p9, e2, ha2⟩ := d4
      refine dg_sub (E' := [(32, (.pointer (some p9)))]) ⟨(congrArg some e2), trivial⟩ ?_
      refine dg_plain rfl (ow_load (R := (RSlice RSpan)) rfl rfl ha2 (Tryd.sizeOf58 _) (Tryd.isAgg58 _) fun v15 hv15 => ?_)
      exact ⟨BX.refl _ _, hv15⟩
     ·
      intro w12 D hS6 hd6
      have hl12 := leY hm5 hS6
      have hC12 := hC4.go hS6 (fun b e => Or.inr e)
      have ho18 := ho7.go hS6 (fun e => hn1 e.symm)
      have hr9 := hw1.go hS6 (fun k hk e => (orow_ne hw1 ho6 (by decide)) (hk.trans (congrArg some e))) hl12 (fun _ h => h)
      refine dg_sub (E' := [(0, (.pointer (some ⟨g, 0, none⟩)))]) ⟨rfl, trivial⟩ ?_
      refine dg_plain rfl (ow_move rfl rfl ?_)
      exact ⟨BX.refl _ _, rfl⟩
     ·
      intro w13 D hS7 hd7
      have hl13 := leY hm5 hS7
      have hC13 := hC4.go hS7 (fun b e => Or.inr e)
      have ho19 := ho7.go hS7 (fun e => hn1 e.symm)
      have hr10 := hw1.go hS7 (fun k hk e => (orow_ne hw1 ho6 (by decide)) (hk.trans (congrArg some e))) hl13 (fun _ h => h)
      refine dg_sub (E' := [(4, (.pointer (some p1)))]) ⟨rfl, trivial⟩ ?_
      refine dg_plain rfl (ow_fieldAddr rfl rfl Tryd.underlying27 rfl (Tryd.sizeOf25 _) ?_)
      exact ⟨BX.refl _ _, ⟨_, rfl, (ARep.mono (((hl2.trans hl3).trans hl4).trans hl13) (hp1.fld fld_Box_Sides))⟩⟩
     ·
      intro w14 D hS8 hd8
      have hl14 := leY hm5 hS8
      have hC14 := hC4.go hS8 (fun b e => Or.inr e)
      have ho20 := ho7.go hS8 (fun e => hn1 e.symm)
      have hr11 := hw1.go hS8 (fun k hk e => (orow_ne hw1 ho6 (by decide)) (hk.trans (congrArg some e))) hl14 (fun _ h => h)
      have hd8 : PA (RSlice (RSlice RSpan)) M2 a_b.Sides (D 6) w14 ∧ True := hd8
      obtain ⟨d5, -⟩ := hd8
      obtain ⟨p10, e3, ha3⟩ := d5
      refine dg_sub (E' := [(35, (.pointer (some p10)))]) ⟨(congrArg some e3), trivial⟩ ?_
      refine dg_plain rfl (ow_load (R := (RSlice (RSlice RSpan))) rfl rfl ha3 (Tryd.sizeOf25 _) (Tryd.isAgg25 _) fun v16 hv16 => ?_)
      exact ⟨BX.refl _ _, hv16⟩
     ·
      intro w15 D hS9 hd9
      have hl15 := leY hm5 hS9
      have hC15 := hC4.go hS9 (fun b e => Or.inr e)
      have ho21 := ho7.go hS9 (fun e => hn1 e.symm)
      have hr12 := hw1.go hS9 (fun k hk e => (orow_ne hw1 ho6 (by decide)) (hk.trans (congrArg some e))) hl15 (fun _ h => h)
      refine dg_sub (E' := [(8, (.int .i64 k1))]) ⟨rfl, trivial⟩ ?_
      refine dg_plain rfl (ow_move rfl rfl ?_)
      exact ⟨BX.refl _ _, rfl⟩
     ·
      intro w16 D hS10 hd10
      have hl16 := leY hm5 hS10
      have hC16 := hC4.go hS10 (fun b e => Or.inr e)
      have ho22 := ho7.go hS10 (fun e => hn1 e.symm)
      have hr13 := hw1.go hS10 (fun k hk e => (orow_ne hw1 ho6 (by decide)) (hk.trans (congrArg some e))) hl16 (fun _ h => h)
      have hd10 : PV (RSlice (RSlice RSpan)) M2 a_b.Sides (D 7) w16 ∧ PEq (.int .i64 k1) (D 8) w16 ∧ True := hd10
      obtain ⟨d6, d7, -⟩ := hd10
      obtain ⟨v17, hq2⟩ : ∃ v, (D 7) = v := ⟨_, rfl⟩
      rw [hq2] at d6
      refine dg_sub (E' := [(36, v17), (37, (.int .i64 k1))]) ⟨(congrArg some hq2), (congrArg some d7), trivial⟩ ?_
      refine dg_plain rfl (ow_indexSlice (R := (RSlice RSpan)) rfl rfl rfl d6 Tryd.underlying25 (Tryd.sizeOf58 _) hx1 fun p11 hp11 => ?_)
      exact ⟨BX.refl _ _, ⟨_, rfl, hp11⟩⟩
     ·
      intro w17 D hS11 hd11
      have hl17 := leY hm5 hS11
      have hC17 := hC4.go hS11 (fun b e => Or.inr e)
      have ho23 := ho7.go hS11 (fun e => hn1 e.symm)
      have hr14 := hw1.go hS11 (fun k hk e => (orow_ne hw1 ho6 (by decide)) (hk.trans (congrArg some e))) hl17 (fun _ h => h)
      have hd11 : PA (RSlice RSpan) M2 x1 (D 9) w17 ∧ True := hd11
      obtain ⟨d8, -⟩ := hd11
      obtain ⟨p12, e4, ha4⟩ := d8
      refine dg_sub (E' := [(38, (.pointer (some p12)))]) ⟨(congrArg some e4), trivial⟩ ?_
      refine dg_plain rfl (ow_load (R := (RSlice RSpan)) rfl rfl ha4 (Tryd.sizeOf58 _) (Tryd.isAgg58 _) fun v18 hv18 => ?_)
      exact ⟨BX.refl _ _, hv18⟩
     ·
      intro w18 D hS12 hd12
      have hl18 := leY hm5 hS12
      have hC18 := hC4.go hS12 (fun b e => Or.inr e)
      have ho24 := ho7.go hS12 (fun e => hn1 e.symm)
      have hr15 := hw1.go hS12 (fun k hk e => (orow_ne hw1 ho6 (by decide)) (hk.trans (congrArg some e))) hl18 (fun _ h => h)
      have hd12 : PV (RSlice RSpan) M2 x1 (D 10) w18 ∧ True := hd12
      obtain ⟨d9, -⟩ := hd12
      obtain ⟨v19, hq3⟩ : ∃ v, (D 10) = v := ⟨_, rfl⟩
      rw [hq3] at d9
      refine dg_sub (E' := [(39, v19)]) ⟨(congrArg some hq3), trivial⟩ ?_
      refine dg_plain rfl (ow_len rfl rfl d9 Tryd.underlying58 rfl ?_)
      exact ⟨BX.refl _ _, rfl⟩
     ·
      intro w19 D hS13 hd13
      obtain ⟨hS13, ho25⟩ := hS13
      have ho25 : Own w19 g 98 #[(.slice Ax a_xs.length cx), (.int .i64 k2)] := ho25
      have hl19 := leY hm5 hS13
      have hC19 := hC4.go hS13 (fun b e => Or.inr e)
      have ho26 := ho7.go hS13 (fun e => hn1 e.symm)
      have hr16 := hw1.go hS13 (fun k hk e => (orow_ne hw1 ho6 (by decide)) (hk.trans (congrArg some e))) hl19 (fun _ h => h)
      have hd13 : PEq (.pointer (some ⟨g, 0, none⟩)) (D 5) w19 ∧ PEq (.int .i64 (x1.length : Int)) (D 11) w19 ∧ True := hd13
      obtain ⟨d10, d11, -⟩ := hd13
      refine dg_sub (E' := [(34, (.pointer (some ⟨g, 0, none⟩))), (40, (.int .i64 (x1.length : Int)))]) ⟨(congrArg some d10), (congrArg some d11), trivial⟩ ?_
      refine dg_plain rfl (ow_call rfl rfl Tryd.call87 (w_spec_l20Rd_pick (hG.mono ((((hl1.trans hl2).trans hl3).trans hl4).trans hl19)) hC19.old (VRep.mono ((((hl1.trans hl2).trans hl3).trans hl4).trans hl19) hxs) ho25 hm5 hx2) fun v20 w20 hv20 => ?_)
      obtain ⟨⟨hv20, ho27⟩, hb7⟩ := hv20
      have hl20 := Le.of_bx M2 hb7 (fun b e => (by rw [show b = g from e]; exact hm5))
      have hC20 := hC19.go hb7 (fun b e => Or.inr e)
      have ho28 := ho26.go hb7 (fun e => hn1 e.symm)
      have hr17 := hr16.go hb7 (fun k hk e => (orow_ne hr16 ho25 (by decide)) (hk.trans (congrArg some e))) hl20 (fun _ h => h)
      obtain rfl := vint_eq hv20
      exact ⟨⟨⟨hS13.trans hb7, ho27⟩, hb7⟩, rfl⟩
     ·
      intro w21 D hS14 hd14
      have hl21 := leY hm5 hS14
      have hC21 := hC4.go hS14 (fun b e => Or.inr e)
      have ho29 := ho7.go hS14 (fun e => hn1 e.symm)
      have hr18 := hw1.go hS14 (fun k hk e => (orow_ne hw1 ho6 (by decide)) (hk.trans (congrArg some e))) hl21 (fun _ h => h)
      have hd14 : PV (RSlice RSpan) M2 x1 (D 4) w21 ∧ PEq (.int .i64 x2.1) (D 12) w21 ∧ True := hd14
      obtain ⟨d12, d13, -⟩ := hd14
      obtain ⟨v21, hq4⟩ : ∃ v, (D 4) = v := ⟨_, rfl⟩
      rw [hq4] at d12
      refine dg_sub (E' := [(33, v21), (41, (.int .i64 x2.1))]) ⟨(congrArg some hq4), (congrArg some d13), trivial⟩ ?_
      refine dg_plain rfl (ow_indexSlice (R := RSpan) rfl rfl rfl d12 Tryd.underlying58 (Tryd.sizeOf76 _) hx3 fun p13 hp13 => ?_)
      exact ⟨BX.refl _ _, ⟨_, rfl, hp13⟩⟩
     ·
      intro w22 D hS15 hd15
      have hl22 := leY hm5 hS15
      have hC22 := hC4.go hS15 (fun b e => Or.inr e)
      have ho30 := ho7.go hS15 (fun e => hn1 e.symm)
      have hr19 := hw1.go hS15 (fun k hk e => (orow_ne hw1 ho6 (by decide)) (hk.trans (congrArg some e))) hl22 (fun _ h => h)
      have hd15 : PA RSpan M2 x3 (D 13) w22 ∧ True := hd15
      obtain ⟨d14, -⟩ := hd15
      obtain ⟨p14, e5, ha5⟩ := d14
      refine dg_sub (E' := [(42, (.pointer (some p14)))]) ⟨(congrArg some e5), trivial⟩ ?_
      refine dg_plain rfl (ow_load (R := RSpan) rfl rfl ha5 (Tryd.sizeOf76 _) (Tryd.isAgg76 _) fun v22 hv22 => ?_)
      exact ⟨BX.refl _ _, hv22⟩
     ·
      intro w23 D hS16 hd16
      have hl23 := leY hm5 hS16
      have hC23 := hC4.go hS16 (fun b e => Or.inr e)
      have ho31 := ho7.go hS16 (fun e => hn1 e.symm)
      have hr20 := hw1.go hS16 (fun k hk e => (orow_ne hw1 ho6 (by decide)) (hk.trans (congrArg some e))) hl23 (fun _ h => h)
      refine dg_sub (E' := []) trivial ?_
      refine dg_plain rfl (ow_alloc rfl (Tryd.zeroValue76 _) hC23 fun g3 w24 hg5 hg6 ho32 hb8 hl24 hC24 => ?_)
      have hn4 := Nat.ne_of_lt (Nat.lt_of_lt_of_le ho31.lt hg5)
      have ho33 := ho31.no hb8
      have hm10 : (Add g3 M2) g1 := .inr hm6
      have hr21 := hr20.add hb8 hg5
      have hm11 : (Add g3 M2) g3 := .inl rfl
      exact ⟨hb8, ⟨_, rfl, Nat.le_trans hS16.size hg5, ho32⟩⟩
     ·
      intro w25 D hS17 hd17
      have hd17 : PA (RSlice (RSlice RSpan)) M2 a_b.Sides (D 0) w25 ∧ PV (RSlice (RSlice RSpan)) M2 a_b.Sides (D 1) w25 ∧ PEq (.int .i64 k1) (D 2) w25 ∧ PA (RSlice RSpan) M2 x1 (D 3) w25 ∧ PV (RSlice RSpan) M2 x1 (D 4) w25 ∧ PEq (.pointer (some ⟨g, 0, none⟩)) (D 5) w25 ∧ PA (RSlice (RSlice RSpan)) M2 a_b.Sides (D 6) w25 ∧ PV (RSlice (RSlice RSpan)) M2 a_b.Sides (D 7) w25 ∧ PEq (.int .i64 k1) (D 8) w25 ∧ PA (RSlice RSpan) M2 x1 (D 9) w25 ∧ PV (RSlice RSpan) M2 x1 (D 10) w25 ∧ PEq (.int .i64 (x1.length : Int)) (D 11) w25 ∧ PEq (.int .i64 x2.1) (D 12) w25 ∧ PA RSpan M2 x3 (D 13) w25 ∧ PV RSpan M2 x3 (D 14) w25 ∧ PNew w4 76 #[(.int .i64 0), (.int .i64 0)] (D 15) w25 ∧ True := hd17
      obtain ⟨-, -, -, -, -, -, -, -, -, -, -, -, -, -, d29, d30, -⟩ := hd17
      obtain ⟨g4, hq5, hg7, ho34⟩ := d30
      have hg8 := Nat.le_trans hC4.bx.size hg7
      obtain ⟨hS17, ho35⟩ := hS17
      have ho35 : Own w25 g 98 #[(.slice Ax a_xs.length cx), (.int .i64 x2.2)] := ho35
      have hl25 := (leY hm5 hS17).add hg7
      have hC25 := (hC4.go hS17 (fun b e => Or.inr e)).add ho34.lt hg8
      have hn5 := Nat.ne_of_lt (Nat.lt_of_lt_of_le ho6.lt hg7)
      have hn6 := Nat.ne_of_lt (Nat.lt_of_lt_of_le ho7.lt hg7)
      have hr22 := hw1.go hS17 (fun k hk e => (orow_ne hw1 ho6 (by decide)) (hk.trans (congrArg some e))) hl25 (fun _ h => .inr h)
      have hm12 : (Add g4 M2) g := .inr hm5
      have hm13 : (Add g4 M2) g1 := .inr hm6
      have ho36 := ho7.go hS17 (fun e => hn1 e.symm)
      have hm14 : (Add g4 M2) g4 := .inl rfl
      have d31 : VRep RSpan w25 (Add g4 M2) x3 (D 14) := VRep.leaf span_leaf d29
      obtain ⟨v23, hq6⟩ : ∃ v, (D 14) = v := ⟨_, rfl⟩
      rw [hq6] at d31
      refine lw_sub (E' := [(9, (.pointer (some ⟨g4, 0, none⟩))), (43, v23), (0, (.pointer (some ⟨g, 0, none⟩))), (2, (.int .i64 a_n)), (4, (.pointer (some p1))), (6, (.pointer (some ⟨g1, 0, none⟩))), (7, v1), (8, (.int .i64 k1))]) ⟨(congrArg some hq5), (congrArg some hq6), rfl, rfl, rfl, rfl, rfl, rfl, trivial⟩ ?_
      obtain rfl := open_Span d31
      refine lw_op0 rfl rfl (ow_store (X := (One g)) (us := [(.int .i64 x3.Lo), (.int .i64 x3.Hi)]) (cs' := #[(.int .i64 x3.Lo), (.int .i64 x3.Hi)]) rfl rfl rfl rfl ho34 (Tryd.sizeOf76 _) rfl rfl rfl rfl hm14 (.inl hg8) rfl hC25 fun w26 ho37 hb9 hl26 hC26 => ?_)
      have ho38 := ho35.go hb9 (fun e => hn5 e)
      have ho39 := ho36.go hb9 (fun e => hn6 e)
      have hr23 := hr22.go hb9 (fun k hk e => (orow_ne hr22 ho34 (by decide)) (hk.trans (congrArg some e))) hl26 (fun _ h => h)
      refine lw_nil (ew_then (cw_region (lw_op rfl rfl rfl (ow_move rfl rfl ?_))))
      refine lw_op rfl rfl rfl (ow_move rfl rfl ?_)
      refine lw_op rfl rfl rfl (ow_fieldAddr rfl rfl Tryd.underlying76 rfl (Tryd.sizeOf3 _) ?_)
      refine lw_op rfl rfl rfl (ow_loadOwn1 rfl rfl rfl ho37 (Tryd.isAgg3 _) rfl ?_)
      refine lw_op rfl rfl rfl (ow_fieldAddr rfl rfl Tryd.underlying76 rfl (Tryd.sizeOf3 _) ?_)
      refine lw_op rfl rfl rfl (ow_loadOwn1 rfl rfl rfl ho37 (Tryd.isAgg3 _) rfl ?_)
      refine lw_op rfl rfl rfl (ow_build (v := .agg #[(.int .i64 k1), (.int .i64 x3.Lo), (.int .i64 x3.Hi), (.bool false)]) rfl rfl (by kernel_rfl) ?_)
      have hw2 : VRep RTest w26 (Add g4 M2) ({ Field := k1, Lo := x3.Lo, Hi := x3.Hi, Not := false } : Test) (.agg #[(.int .i64 k1), (.int .i64 x3.Lo), (.int .i64 x3.Hi), (.bool false)]) := shut_Test
      refine lw_op rfl rfl rfl (ow_buildSlice (R := RTest) (xs := [({ Field := k1, Lo := x3.Lo, Hi := x3.Hi, Not := false } : Test)]) (cs := #[(.int .i64 k1), (.int .i64 x3.Lo), (.int .i64 x3.Hi), (.bool false)]) (e := 31) rfl rfl (by kernel_rfl) rfl rfl ⟨_, _, rfl, hw2.cells, rfl⟩ hC26 fun p15 w27 hw3 hb10 hl27 hC27 => ?_)
      have ho40 := ho38.no hb10
      have ho41 := ho39.no hb10
      have ho42 := ho37.no hb10
      have hr24 := hr23.no hb10
      replace hb4 := bind_some hb4
      obtain ⟨z1, hz1, hb4⟩ := hb4
      refine lw_op rfl rfl rfl (ow_append (R := RTest) rfl rfl rfl rfl Tryd.underlying23 hi31 hz31 hs31 hy31 rfl rfl rfl rfl hr24 hw3 hz1 hC27 fun v24 w28 M3 hr25 hb11 hl28 hC28 hM2 hat2 => ?_)
      have ho43 := ho40.go hb11 (fun e => (orow_ne hr24 ho40 (by decide)) e)
      have hm15 := hM2 _ hm12
      have ho44 := ho41.go hb11 (fun e => (orow_ne hr24 ho41 (by decide)) e)
      have hm16 := hM2 _ hm13
      have ho45 := ho42.go hb11 (fun e => (orow_ne hr24 ho42 (by decide)) e)
      have hm17 := hM2 _ hm14
      refine lw_op rfl rfl rfl (ow_assign rfl rfl ?_)
      refine lw_nil (ew_blockN ?_)
      refine ew_then (cw_region (lw_op rfl rfl rfl (ow_move rfl rfl ?_)))
      refine lw_op rfl rfl rfl (ow_add rfl rfl rfl ?_)
      refine lw_op rfl rfl rfl (ow_assign rfl rfl ?_)
      refine lw_nil (ew_nxt (z1, (W (k1 + 1)), x2.2) hb4 fun a ha => ⟨M3, v24, ?_, ((((hl4.trans hl25).trans hl26).trans hl27).trans hl28), hC28, hr25, ho43, hm15, ho44, hm16⟩)
      exact ha.sub ⟨rfl, rfl, rfl, rfl, rfl, rfl, trivial⟩
    ·
     obtain rfl := hbb3.trans hc3
     refine cw_false rfl ?_
     refine cw_skip (ew_blockN ?_)
     refine ew_then (cw_region (lw_op rfl rfl rfl (ow_move rfl rfl ?_)))
     refine lw_op rfl rfl rfl (ow_add rfl rfl rfl ?_)
     refine lw_op rfl rfl rfl (ow_assign rfl rfl ?_)
     refine lw_nil (ew_nxt (y1, (W (k1 + 1)), k2) hb4 fun a ha => ⟨M2, v1, ?_, hl4, hC4, hw1, ho6, hm5, ho7, hm6⟩)
     exact ha.sub ⟨rfl, rfl, rfl, rfl, rfl, rfl, trivial⟩
   ·
    obtain rfl := hbb2.trans hc2
    refine cw_false rfl ?_
    refine cw_exit ?_
    refine ew_thenX ?_
    refine ew_thenX ?_
    refine ew_blockX ?_
    refine ew_brk (y1, k1, k2) hb4 fun a ha => ⟨M2, v1, ?_, hl4, hC4, hw1, ho6, hm5, ho7, hm6⟩
    exact ha.sub ⟨rfl, rfl, rfl, rfl, rfl, rfl, trivial⟩
  ·
   obtain rfl := hbb1.trans hc1
   refine lw_off rfl rfl rfl rfl rfl rfl ?_
   refine lw_off rfl rfl rfl rfl rfl rfl ?_
   refine lw_op rfl rfl rfl (ow_pickF rfl rfl rfl ?_)
   refine lw_nil (ew_then (cw_false rfl ?_))
   refine cw_exit ?_
   refine ew_thenX ?_
   refine ew_thenX ?_
   refine ew_blockX ?_
   refine ew_brk (y1, k1, k2) hb4 fun a ha => ⟨M2, v1, ?_, hl4, hC4, hw1, ho6, hm5, ho7, hm6⟩
   exact ha.sub ⟨rfl, rfl, rfl, rfl, rfl, rfl, trivial⟩
 ·
  rintro ⟨y2, k3, k4⟩ a w29 hlr2 ⟨M4, v25, hF2, hl29, hC29, hw4, ho46, hm18, ho47, hm19⟩
  subst hlr2
  refine ew_at (E := [(0, (.pointer (some ⟨g, 0, none⟩))), (2, (.int .i64 a_n)), (4, (.pointer (some p1))), (6, (.pointer (some ⟨g1, 0, none⟩))), (7, v25), (8, (.int .i64 k3))]) hF2 ?_
  refine ew_then (cw_seq (cw_region (lw_op rfl rfl rfl (ow_move rfl rfl ?_))))
  refine lw_op rfl rfl rfl (ow_move rfl rfl ?_)
  refine lw_op rfl rfl rfl (ow_move rfl rfl ?_)
  have hw5 := hw4.freezeDel
  have hC30 := hw4.cxDel hC29 hX hO
  have hl30 := Le.del w29 M4 v25
  have hm20 : (Del v25 M4) g := ⟨hm18, fun e => (orow_ne hw4 ho46 (by decide)) e⟩
  have hm21 : (Del v25 M4) g1 := ⟨hm19, fun e => (orow_ne hw4 ho47 (by decide)) e⟩
  replace h := bind_some h
  obtain ⟨x4, hx4, h⟩ := h
  refine lw_op rfl rfl rfl (ow_call rfl rfl Tryd.call105 (w_spec_l20Near (hG.mono ((((hl1.trans hl2).trans hl3).trans hl29).trans hl30)) hC30.old (VRep.mono ((((hl1.trans hl2).trans hl3).trans hl29).trans hl30) hxs) ho46 hm20 hw5 hx4) fun v28 w30 hv28 => ?_)
  obtain ⟨⟨hv28, ho48⟩, hb12⟩ := hv28
  have hl31 := Le.of_bx (Del v25 M4) hb12 (fun b e => (by rw [show b = g from e]; exact hm20))
  have hC31 := hC30.go hb12 (fun b e => Or.inr e)
  have ho49 := ho47.go hb12 (fun e => hn1 e.symm)
  obtain rfl := open_Packet hv28
  refine lw_op0 rfl rfl (ow_store (X := (One g)) (us := [(.int .i64 x4.1.From), (.int .i64 x4.1.To), (.int .i64 x4.1.Port), (.int .i64 x4.1.Proto)]) (cs' := #[(.int .i64 x4.1.From), (.int .i64 x4.1.To), (.int .i64 x4.1.Port), (.int .i64 x4.1.Proto)]) rfl rfl rfl rfl ho49 (Tryd.sizeOf45 _) rfl rfl rfl rfl hm21 (.inl hg2) rfl hC31 fun w31 ho50 hb13 hl32 hC32 => ?_)
  have ho51 := ho48.go hb13 (fun e => hn1 e)
  refine lw_nil (ew_then (cw_ret ?_))
  have hw6 : VRep RPacket w31 (Del v25 M4) ({ From := x4.1.From, To := x4.1.To, Port := x4.1.Port, Proto := x4.1.Proto } : Packet) (.agg #[(.int .i64 x4.1.From), (.int .i64 x4.1.To), (.int .i64 x4.1.Port), (.int .i64 x4.1.Proto)]) := shut_Packet
  obtain rfl := Option.some.inj h
  exact ew_ret (res1 rfl (.cell rfl (own_loadVarA ho50 (Tryd.isAgg45 _) (Tryd.sizeOf45 _) rfl))) ⟨_, rfl, ⟨(hw6.mono hC32.back), ho51⟩, hC32.bx⟩

theorem w_spec_DrawBoxHas {w : World} {M : Nat → Prop} (hG : ARep (RArr 4 RShape) w M shapes ⟨0, 0, none⟩) (hO : ∀ b, M b → b < w.heap.size) {v0p : Value} {a_code : List Int} (h0 : VRep (RSlice RU8) w M a_code v0p) {r : Box × Packet} (h : F.spec_DrawBoxHas a_code = some r) :
  Calls Tryd.prog 36 [v0p].toArray w fun e w' => ∃ v, e = .returned v ∧ (∃ u0 u1, v = .tuple #[u0, u1] ∧ VRep RBox w' M r.1 u0 ∧ VRep RPacket w' M r.2 u1) ∧ BX No w w' := by
 have hC : Cx No w M w M := Cx.start hO (fun _ e => e.elim)
 refine walk (N := 14) Tryd.func36 rfl Tryd.ntmps36 rfl ?_
 refine cw_seq (cw_region (lw_op rfl rfl rfl (ow_alloc rfl (Tryd.zeroValue27 _) hC fun g1 w1 hg1 hg2 ho1 hb1 hl1 hC1 => ?_)))
 have hm1 : (Add g1 M) g1 := .inl rfl
 refine lw_op rfl rfl rfl (ow_alloc rfl (Tryd.zeroValue45 _) hC1 fun g2 w2 hg3 hg4 ho2 hb2 hl2 hC2 => ?_)
 have hn1 := Nat.ne_of_lt (Nat.lt_of_lt_of_le ho1.lt hg3)
 have ho3 := ho1.no hb2
 have hm2 : (Add g2 (Add g1 M)) g1 := .inr hm1
 have hm3 : (Add g2 (Add g1 M)) g2 := .inl rfl
 refine lw_nil (ew_then (cw_seq (cw_region (lw_op rfl rfl rfl (ow_move rfl rfl ?_)))))
 replace h := bind_some h
 obtain ⟨x1, hx1, h⟩ := h
 refine lw_op rfl rfl rfl (ow_call rfl rfl Tryd.call54 (w_spec_l20Open (hG.mono (hl1.trans hl2)) hC2.old (VRep.mono (hl1.trans hl2) h0) hx1) fun v1 w3 hv1 => ?_)
 obtain ⟨⟨g3, A1, c1, rfl, hg5, ho4, hw1⟩, hb3⟩ := hv1
 have hl3 := (Le.no (Add g2 (Add g1 M)) hb3).add hg5
 have hg6 := Nat.le_trans hC2.bx.size hg5
 have hC3 := (hC2.no hb3).add ho4.lt hg6
 have hn2 := Nat.ne_of_lt (Nat.lt_of_lt_of_le ho3.lt hg5)
 have ho5 := ho3.no hb3
 have hm4 : (Add g3 (Add g2 (Add g1 M))) g1 := .inr hm2
 have hn3 := Nat.ne_of_lt (Nat.lt_of_lt_of_le ho2.lt hg5)
 have ho6 := ho2.no hb3
 have hm5 : (Add g3 (Add g2 (Add g1 M))) g2 := .inr hm3
 have hm6 : (Add g3 (Add g2 (Add g1 M))) g3 := .inl rfl
 refine lw_op rfl rfl rfl (ow_assign rfl rfl ?_)
 refine lw_nil (ew_then (cw_seq (cw_region (lw_op rfl rfl rfl (ow_move rfl rfl ?_)))))
 replace h := bind_some h
 obtain ⟨x2, hx2, h⟩ := h
 refine lw_op rfl rfl rfl (ow_call rfl rfl Tryd.call73 (w_spec_l20Box (hG.mono ((hl1.trans hl2).trans hl3)) hC3.old hw1 ho4 hm6 hx2) fun v2 w4 hv2 => ?_)
 obtain ⟨⟨hv2, ho7⟩, hb4⟩ := hv2
 have hl4 := Le.of_bx (Add g3 (Add g2 (Add g1 M))) hb4 (fun b e => (by rw [show b = g3 from e]; exact hm6))
 have hC4 := hC3.go hb4 (fun b e => (by rw [show b = g3 from e]; exact (.inl hg6)))
 have ho8 := ho5.go hb4 (fun e => hn2 e)
 have ho9 := ho6.go hb4 (fun e => hn3 e)
 refine lw_allocStore (R := RBox) rfl rfl rfl rfl rfl rfl rfl Tryd.zeroValue27 Tryd.sizeOf27 rfl rfl rfl (by simp) hv2 hC4 fun p1 w5 hp1 hb5 hl5 hC5 => ?_
 have ho10 := ho8.no hb5
 have ho11 := ho9.no hb5
 have ho12 := ho7.no hb5
 refine lw_nil (ew_then (cw_seq ?_))
 replace h := bind_some h
 obtain ⟨x3, hx3, h⟩ := h
 refine cw_sub (E' := [(2, (.pointer (some ⟨g1, 0, none⟩))), (3, (.pointer (some ⟨g2, 0, none⟩))), (4, (.pointer (some ⟨g3, 0, none⟩))), (5, (.pointer (some p1)))]) ⟨rfl, rfl, rfl, rfl, trivial⟩ ?_
 refine cw_drawC (g := g3) (T := 98) 4 1 [none, none, none, some 0] [#[(.slice A1 x1.1.length c1), (.int .i64 x2.2)], #[(.slice A1 x1.1.length c1), (.int .i64 x3.2)]] [PV RBox (Add g3 (Add g2 (Add g1 M))) x2.1, PEq (.pointer (some ⟨g3, 0, none⟩)), PV RBox (Add g3 (Add g2 (Add g1 M))) x2.1, PV RPacket (Add g3 (Add g2 (Add g1 M))) x3.1] (by kernel_rfl) rfl (by kernel_rfl) (by kernel_rfl) ho12 ⟨(PV.monoY hm6 _ _), (PEq.monoY hm6 _), (PV.monoY hm6 _ _), (PV.monoY hm6 _ _), trivial⟩ ⟨?_, ?_, ?_, ?_, trivial⟩ ?_
 ·
  intro w7 D hS1 hd1
  have hl7 := leY hm6 hS1
  have hC7 := hC5.go hS1 (fun b e => (by rw [show b = g3 from e]; exact (.inl hg6)))
  have ho16 := ho10.go hS1 (fun e => hn2 e)
  have ho17 := ho11.go hS1 (fun e => hn3 e)
  refine dg_sub (E' := [(5, (.pointer (some p1)))]) ⟨rfl, trivial⟩ ?_
  refine dg_plain rfl (ow_load (R := RBox) rfl rfl (ARep.mono hl7 hp1) (Tryd.sizeOf27 _) (Tryd.isAgg27 _) fun v6 hv6 => ?_)
  exact ⟨BX.refl _ _, hv6⟩
 ·
  intro w8 D hS2 hd2
  have hl8 := leY hm6 hS2
  have hC8 := hC5.go hS2 (fun b e => (by rw [show b = g3 from e]; exact (.inl hg6)))
  have ho18 := ho10.go hS2 (fun e => hn2 e)
  have ho19 := ho11.go hS2 (fun e => hn3 e)
  refine dg_sub (E' := [(4, (.pointer (some ⟨g3, 0, none⟩)))]) ⟨rfl, trivial⟩ ?_
  refine dg_plain rfl (ow_move rfl rfl ?_)
  exact ⟨BX.refl _ _, rfl⟩
 ·
  intro w9 D hS3 hd3
  have hl9 := leY hm6 hS3
  have hC9 := hC5.go hS3 (fun b e => (by rw [show b = g3 from e]; exact (.inl hg6)))
  have ho20 := ho10.go hS3 (fun e => hn2 e)
  have ho21 := ho11.go hS3 (fun e => hn3 e)
  refine dg_sub (E' := [(5, (.pointer (some p1)))]) ⟨rfl, trivial⟩ ?_
  refine dg_plain rfl (ow_load (R := RBox) rfl rfl (ARep.mono hl9 hp1) (Tryd.sizeOf27 _) (Tryd.isAgg27 _) fun v7 hv7 => ?_)
  exact ⟨BX.refl _ _, hv7⟩
 ·
  intro w10 D hS4 hd4
  obtain ⟨hS4, ho22⟩ := hS4
  have ho22 : Own w10 g3 98 #[(.slice A1 x1.1.length c1), (.int .i64 x2.2)] := ho22
  have hl10 := leY hm6 hS4
  have hC10 := hC5.go hS4 (fun b e => (by rw [show b = g3 from e]; exact (.inl hg6)))
  have ho23 := ho10.go hS4 (fun e => hn2 e)
  have ho24 := ho11.go hS4 (fun e => hn3 e)
  have hd4 : PEq (.pointer (some ⟨g3, 0, none⟩)) (D 1) w10 ∧ PV RBox (Add g3 (Add g2 (Add g1 M))) x2.1 (D 2) w10 ∧ True := hd4
  obtain ⟨d1, d2, -⟩ := hd4
  obtain ⟨v8, hq1⟩ : ∃ v, (D 2) = v := ⟨_, rfl⟩
  rw [hq1] at d2
  refine dg_sub (E' := [(11, (.pointer (some ⟨g3, 0, none⟩))), (12, v8)]) ⟨(congrArg some d1), (congrArg some hq1), trivial⟩ ?_
  refine dg_plain rfl (ow_call rfl rfl Tryd.call77 (w_spec_l20Inside (hG.mono (((((hl1.trans hl2).trans hl3).trans hl4).trans hl5).trans hl10)) hC10.old (VRep.mono ((hl4.trans hl5).trans hl10) hw1) ho22 hm6 d2 hx3) fun v9 w11 hv9 => ?_)
  obtain ⟨⟨hv9, ho25⟩, hb7⟩ := hv9
  have hl11 := Le.of_bx (Add g3 (Add g2 (Add g1 M))) hb7 (fun b e => (by rw [show b = g3 from e]; exact hm6))
  have hC11 := hC10.go hb7 (fun b e => (by rw [show b = g3 from e]; exact (.inl hg6)))
  have ho26 := ho23.go hb7 (fun e => hn2 e)
  have ho27 := ho24.go hb7 (fun e => hn3 e)
  exact ⟨⟨⟨hS4.trans hb7, ho25⟩, hb7⟩, hv9⟩
 ·
  intro w12 D hS5 hd5
  have hd5 : PV RBox (Add g3 (Add g2 (Add g1 M))) x2.1 (D 0) w12 ∧ PEq (.pointer (some ⟨g3, 0, none⟩)) (D 1) w12 ∧ PV RBox (Add g3 (Add g2 (Add g1 M))) x2.1 (D 2) w12 ∧ PV RPacket (Add g3 (Add g2 (Add g1 M))) x3.1 (D 3) w12 ∧ True := hd5
  obtain ⟨d3, -, -, d6, -⟩ := hd5
  obtain ⟨hS5, ho28⟩ := hS5
  have ho28 : Own w12 g3 98 #[(.slice A1 x1.1.length c1), (.int .i64 x3.2)] := ho28
  have hl12 := leY hm6 hS5
  have hC12 := hC5.go hS5 (fun b e => (by rw [show b = g3 from e]; exact (.inl hg6)))
  have ho29 := ho10.go hS5 (fun e => hn2 e)
  have ho30 := ho11.go hS5 (fun e => hn3 e)
  obtain ⟨v10, hq2⟩ : ∃ v, (D 0) = v := ⟨_, rfl⟩
  rw [hq2] at d3
  obtain ⟨v11, hq3⟩ : ∃ v, (D 3) = v := ⟨_, rfl⟩
  rw [hq3] at d6
  refine lw_sub (E' := [(10, v10), (13, v11), (2, (.pointer (some ⟨g1, 0, none⟩))), (3, (.pointer (some ⟨g2, 0, none⟩))), (4, (.pointer (some ⟨g3, 0, none⟩))), (5, (.pointer (some p1)))]) ⟨(congrArg some hq2), (congrArg some hq3), rfl, rfl, rfl, rfl, trivial⟩ ?_
  obtain ⟨A2, c2, rfl, hw2⟩ := open_Box d3
  refine lw_op0 rfl rfl (ow_store (X := No) (us := [(.slice A2 x2.1.Sides.length c2)]) (cs' := #[(.slice A2 x2.1.Sides.length c2)]) rfl rfl rfl rfl ho29 (Tryd.sizeOf27 _) rfl rfl rfl rfl hm4 (.inl hg2) rfl hC12 fun w13 ho31 hb8 hl13 hC13 => ?_)
  have ho32 := ho30.go hb8 (fun e => hn1 e.symm)
  have ho33 := ho28.go hb8 (fun e => hn2 e.symm)
  obtain rfl := open_Packet d6
  refine lw_op0 rfl rfl (ow_store (X := No) (us := [(.int .i64 x3.1.From), (.int .i64 x3.1.To), (.int .i64 x3.1.Port), (.int .i64 x3.1.Proto)]) (cs' := #[(.int .i64 x3.1.From), (.int .i64 x3.1.To), (.int .i64 x3.1.Port), (.int .i64 x3.1.Proto)]) rfl rfl rfl rfl ho32 (Tryd.sizeOf45 _) rfl rfl rfl rfl hm5 (.inl hg4) rfl hC13 fun w14 ho34 hb9 hl14 hC14 => ?_)
  have ho35 := ho31.go hb9 (fun e => hn1 e)
  have ho36 := ho33.go hb9 (fun e => hn3 e.symm)
  refine lw_nil (ew_then (cw_ret ?_))
  have hw3 : VRep RBox w14 (Add g3 (Add g2 (Add g1 M))) ({ Sides := x2.1.Sides } : Box) (.agg #[(.slice A2 x2.1.Sides.length c2)]) := shut_Box (VRep.mono (hl13.trans hl14) hw2)
  have hw4 : VRep RPacket w14 (Add g3 (Add g2 (Add g1 M))) ({ From := x3.1.From, To := x3.1.To, Port := x3.1.Port, Proto := x3.1.Proto } : Packet) (.agg #[(.int .i64 x3.1.From), (.int .i64 x3.1.To), (.int .i64 x3.1.Port), (.int .i64 x3.1.Proto)]) := shut_Packet
  obtain rfl := Option.some.inj h
  exact ew_ret (res2 rfl (.cell rfl (own_loadVarA ho35 (Tryd.isAgg27 _) (Tryd.sizeOf27 _) rfl)) (.cell rfl (own_loadVarA ho34 (Tryd.isAgg45 _) (Tryd.sizeOf45 _) rfl))) ⟨_, rfl, ⟨_, _, rfl, (hw3.mono hC14.back), (hw4.mono hC14.back)⟩, hC14.bx⟩

theorem w_spec_SpansValid {w : World} {M : Nat → Prop} (hG : ARep (RArr 4 RShape) w M shapes ⟨0, 0, none⟩) (hO : ∀ b, M b → b < w.heap.size) {v0p : Value} {a_list : List Span} (h0 : VRep (RSlice RSpan) w M a_list v0p) {a_top : Int} {r : Bool} (h : F.spec_SpansValid a_list a_top = some r) :
  Calls Tryd.prog 80 [v0p, (.int .i64 a_top)].toArray w fun e w' => ∃ v, e = .returned v ∧ VRep RBool w' M r v ∧ BX No w w' := by
 have hC : Cx No w M w M := Cx.start hO (fun _ e => e.elim)
 refine walk (N := 60) Tryd.func80 rfl Tryd.ntmps80 rfl ?_
 refine cw_seq (cw_region (lw_op rfl rfl rfl (ow_assign rfl rfl ?_)))
 refine lw_nil (ew_then (cw_seq (cw_seq (cw_region (lw_op rfl rfl rfl (ow_assign rfl rfl ?_))))))
 refine lw_nil (ew_then ?_)
 replace h := bind_some h
 obtain ⟨lr1, hlr1, h⟩ := h
 refine cw_for hlr1 (fun s a w' => ∃ (M' : Nat → Prop), Fits 60 [(0, v0p), (1, (.int .i64 a_top)), (5, (.int .i64 s))] a ∧ Le w M w' M' ∧ Cx No w M w' M') ?_ ?_ ?_
 ·
  intro a ha
  exact ⟨M, ha.sub ⟨rfl, rfl, rfl, trivial⟩, Le.refl _ _, hC⟩
 ·
  rintro k1 a w1 sr1 ⟨M1, hF1, hl1, hC1⟩ hb1 hR1
  refine cw_at (E := [(0, v0p), (1, (.int .i64 a_top)), (5, (.int .i64 k1))]) hF1 ?_
  refine cw_seq (cw_seq (cw_region (lw_op rfl rfl rfl (ow_move rfl rfl ?_))))
  refine lw_op rfl rfl rfl (ow_move rfl rfl ?_)
  refine lw_op rfl rfl rfl (ow_len rfl rfl (VRep.mono hl1 h0) Tryd.underlying58 rfl ?_)
  refine lw_op rfl rfl rfl (ow_lss rfl rfl rfl fun bb1 hbb1 => ?_)
  refine lw_nil (ew_then ?_)
  replace hb1 := cond_some hb1
  rcases hb1 with ⟨hc1, hb1⟩ | ⟨hc1, hb1⟩
  ·
   obtain rfl := hbb1.trans hc1
   refine cw_true rfl ?_
   refine cw_skip (ew_then (cw_seq (cw_block ?_)))
   refine cw_seq ?_
   replace hb1 := bind_some hb1
   obtain ⟨x1, hx1, hb1⟩ := hb1
   replace hb1 := bind_some hb1
   obtain ⟨x2, hx2, hb1⟩ := hb1
   replace hb1 := cond_some hb1
   rcases hb1 with ⟨hc2, hb1⟩ | ⟨hc2, hb1⟩
   ·
    subst hc2
    replace hb1 := bind_some hb1
    obtain ⟨x3, hx3, hb1⟩ := hb1
    replace hb1 := cond_some hb1
    rcases hb1 with ⟨hc3, hb1⟩ | ⟨hc3, hb1⟩
    ·
     subst hc3
     replace hb1 := cond_some hb1
     rcases hb1 with ⟨hc4, hb1⟩ | ⟨hc4, hb1⟩
     ·
      replace hb1 := bind_some hb1
      obtain ⟨x4, hx4, hb1⟩ := hb1
      refine cw_sub (E' := [(0, v0p), (1, (.int .i64 a_top)), (5, (.int .i64 k1))]) ⟨rfl, rfl, rfl, trivial⟩ ?_
      refine cw_drawQ 38 [PV (RSlice RSpan) M1 a_list, PEq (.int .i64 k1), PA RSpan M1 x1, PA RInt M1 x1.Lo, PEq (.int .i64 x1.Lo), PV (RSlice RSpan) M1 a_list, PEq (.int .i64 k1), PA RSpan M1 x1, PA RInt M1 x1.Hi, PEq (.int .i64 x1.Hi), PEq (.bool true), PEq (.bool false), PEq (.bool false), PV (RSlice RSpan) M1 a_list, PEq (.int .i64 k1), PA RSpan M1 x1, PA RInt M1 x1.Hi, PEq (.int .i64 x1.Hi), PEq (.int .i64 a_top), PEq (.bool true), PEq (.bool false), PEq (.bool false), PEq (.bool false), PEq (.int .i64 k1), PEq (.bool true), PEq (.bool true), PV (RSlice RSpan) M1 a_list, PEq (.int .i64 k1), PA RSpan M1 x1, PA RInt M1 x1.Lo, PEq (.int .i64 x1.Lo), PV (RSlice RSpan) M1 a_list, PEq (.int .i64 k1), PEq (.int .i64 (W (k1 - 1))), PA RSpan M1 x4, PA RInt M1 x4.Hi, PEq (.int .i64 x4.Hi), PEq (.int .i64 (W (x4.Hi + 2)))] (by kernel_rfl) rfl (by kernel_rfl) ⟨PV.mono _ _ _, PEq.mono _, PA.mono _ _ _, PA.mono _ _ _, PEq.mono _, PV.mono _ _ _, PEq.mono _, PA.mono _ _ _, PA.mono _ _ _, PEq.mono _, PEq.mono _, PEq.mono _, PEq.mono _, PV.mono _ _ _, PEq.mono _, PA.mono _ _ _, PA.mono _ _ _, PEq.mono _, PEq.mono _, PEq.mono _, PEq.mono _, PEq.mono _, PEq.mono _, PEq.mono _, PEq.mono _, PEq.mono _, PV.mono _ _ _, PEq.mono _, PA.mono _ _ _, PA.mono _ _ _, PEq.mono _, PV.mono _ _ _, PEq.mono _, PEq.mono _, PA.mono _ _ _, PA.mono _ _ _, PEq.mono _, PEq.mono _, trivial⟩ ⟨?_, ?_, ?_, ?_, ?_, ?_, ?_, ?_, ?_, ?_, ?_, ?_, ?_, ?_, ?_, ?_, ?_, ?_, ?_, ?_, ?_, ?_, ?_, ?_, ?_, ?_, ?_, ?_, ?_, ?_, ?_, ?_, ?_, ?_, ?_, ?_, ?_, ?_, trivial⟩ ?_
      ·
       intro w4 D hS1 hd1
       have hl4 := Le.no M1 hS1
       have hC4 := hC1.no hS1
       refine dg_sub (E' := [(0, v0p)]) ⟨rfl, trivial⟩ ?_
       refine dg_plain rfl (ow_move rfl rfl ?_)
       exact ⟨BX.refl _ _, (VRep.mono (hl1.trans hl4) h0)⟩
      ·
       intro w5 D hS2 hd2
       have hl5 := Le.no M1 hS2
       have hC5 := hC1.no hS2
       refine dg_sub (E' := [(5, (.int .i64 k1))]) ⟨rfl, trivial⟩ ?_
       refine dg_plain rfl (ow_move rfl rfl ?_)
       exact ⟨BX.refl _ _, rfl⟩
      ·
       intro w6 D hS3 hd3
       have hl6 := Le.no M1 hS3
       have hC6 := hC1.no hS3
       have hd3 : PV (RSlice RSpan) M1 a_list (D 0) w6 ∧ PEq (.int .i64 k1) (D 1) w6 ∧ True := hd3
       obtain ⟨d1, d2, -⟩ := hd3
       obtain ⟨v9, hq1⟩ : ∃ v, (D 0) = v := ⟨_, rfl⟩
       rw [hq1] at d1
       refine dg_sub (E' := [(12, v9), (13, (.int .i64 k1))]) ⟨(congrArg some hq1), (congrArg some d2), trivial⟩ ?_
       refine dg_plain rfl (ow_indexSlice (R := RSpan) rfl rfl rfl d1 Tryd.underlying58 (Tryd.sizeOf76 _) hx1 fun p6 hp6 => ?_)
       exact ⟨BX.refl _ _, ⟨_, rfl, hp6⟩⟩
      ·
       intro w7 D hS4 hd4
       have hl7 := Le.no M1 hS4
       have hC7 := hC1.no hS4
       have hd4 : PA RSpan M1 x1 (D 2) w7 ∧ True := hd4
       obtain ⟨d3, -⟩ := hd4
       obtain ⟨p7, e1, ha1⟩ := d3
       refine dg_sub (E' := [(14, (.pointer (some p7)))]) ⟨(congrArg some e1), trivial⟩ ?_
       refine dg_plain rfl (ow_fieldAddr rfl rfl Tryd.underlying76 rfl (Tryd.sizeOf3 _) ?_)
       exact ⟨BX.refl _ _, ⟨_, rfl, (ha1.fld fld_Span_Lo)⟩⟩
      ·
       intro w8 D hS5 hd5
       have hl8 := Le.no M1 hS5
       have hC8 := hC1.no hS5
       have hd5 : PA RInt M1 x1.Lo (D 3) w8 ∧ True := hd5
       obtain ⟨d4, -⟩ := hd5
       obtain ⟨p8, e2, ha2⟩ := d4
       refine dg_sub (E' := [(15, (.pointer (some p8)))]) ⟨(congrArg some e2), trivial⟩ ?_
       refine dg_plain rfl (ow_load (R := RInt) rfl rfl ha2 (Tryd.sizeOf3 _) (Tryd.isAgg3 _) fun v10 hv10 => ?_)
       obtain rfl := vint_eq hv10
       exact ⟨BX.refl _ _, rfl⟩
      ·
       intro w9 D hS6 hd6
       have hl9 := Le.no M1 hS6
       have hC9 := hC1.no hS6
       refine dg_sub (E' := [(0, v0p)]) ⟨rfl, trivial⟩ ?_
       refine dg_plain rfl (ow_move rfl rfl ?_)
       exact ⟨BX.refl _ _, (VRep.mono (hl1.trans hl9) h0)⟩
      ·
       intro w10 D hS7 hd7
       have hl10 := Le.no M1 hS7
       have hC10 := hC1.no hS7
       refine dg_sub (E' := [(5, (.int .i64 k1))]) ⟨rfl, trivial⟩ ?_
       refine dg_plain rfl (ow_move rfl rfl ?_)
       exact ⟨BX.refl _ _, rfl⟩
      ·
       intro w11 D hS8 hd8
       have hl11 := Le.no M1 hS8
       have hC11 := hC1.no hS8
       have hd8 : PV (RSlice RSpan) M1 a_list (D 5) w11 ∧ PEq (.int .i64 k1) (D 6) w11 ∧ True := hd8
       obtain ⟨d5, d6, -⟩ := hd8
       obtain ⟨v11, hq2⟩ : ∃ v, (D 5) = v := ⟨_, rfl⟩
       rw [hq2] at d5
       refine dg_sub (E' := [(17, v11), (18, (.int .i64 k1))]) ⟨(congrArg some hq2), (congrArg some d6), trivial⟩ ?_
       refine dg_plain rfl (ow_indexSlice (R := RSpan) rfl rfl rfl d5 Tryd.underlying58 (Tryd.sizeOf76 _) hx1 fun p9 hp9 => ?_)
       exact ⟨BX.refl _ _, ⟨_, rfl, hp9⟩⟩
      ·
       intro w12 D hS9 hd9
       have hl12 := Le.no M1 hS9
       have hC12 := hC1.no hS9
       have hd9 : PA RSpan M1 x1 (D 7) w12 ∧ True := hd9
       obtain ⟨d7, -⟩ := hd9
       obtain ⟨p10, e3, ha3⟩ := d7
       refine dg_sub (E' := [(19, (.pointer (some p10)))]) ⟨(congrArg some e3), trivial⟩ ?_
       refine dg_plain rfl (ow_fieldAddr rfl rfl Tryd.underlying76 rfl (Tryd.sizeOf3 _) ?_)
       exact ⟨BX.refl _ _, ⟨_, rfl, (ha3.fld fld_Span_Hi)⟩⟩
      ·
       intro w13 D hS10 hd10
       have hl13 := Le.no M1 hS10
       have hC13 := hC1.no hS10
       have hd10 : PA RInt M1 x1.Hi (D 8) w13 ∧ True := hd10
       obtain ⟨d8, -⟩ := hd10
       obtain ⟨p11, e4, ha4⟩ := d8
       refine dg_sub (E' := [(20, (.pointer (some p11)))]) ⟨(congrArg some e4), trivial⟩ ?_
       refine dg_plain rfl (ow_load (R := RInt) rfl rfl ha4 (Tryd.sizeOf3 _) (Tryd.isAgg3 _) fun v12 hv12 => ?_)
       obtain rfl := vint_eq hv12
       exact ⟨BX.refl _ _, rfl⟩
      ·
       intro w14 D hS11 hd11
       have hl14 := Le.no M1 hS11
       have hC14 := hC1.no hS11
       have hd11 : PEq (.int .i64 x1.Lo) (D 4) w14 ∧ PEq (.int .i64 x1.Hi) (D 9) w14 ∧ True := hd11
       obtain ⟨d9, d10, -⟩ := hd11
       refine dg_sub (E' := [(16, (.int .i64 x1.Lo)), (21, (.int .i64 x1.Hi))]) ⟨(congrArg some d9), (congrArg some d10), trivial⟩ ?_
       refine dg_plain rfl (ow_call rfl rfl Tryd.call82 (w_spec_l1In (hG.mono (hl1.trans hl14)) hC14.old hx2) fun v13 w15 hv13 => ?_)
       obtain ⟨hv13, hb4⟩ := hv13
       have hl15 := Le.no M1 hb4
       have hC15 := hC14.no hb4
       obtain rfl := vbool_eq hv13
       exact ⟨hb4, rfl⟩
      ·
       intro w16 D hS12 hd12
       have hl16 := Le.no M1 hS12
       have hC16 := hC1.no hS12
       have hd12 : PEq (.bool true) (D 10) w16 ∧ True := hd12
       obtain ⟨d11, -⟩ := hd12
       refine dg_sub (E' := [(22, (.bool true))]) ⟨(congrArg some d11), trivial⟩ ?_
       refine dg_plain rfl (ow_not rfl rfl ?_)
       exact ⟨BX.refl _ _, rfl⟩
      ·
       intro w17 D hS13 hd13
       have hl17 := Le.no M1 hS13
       have hC17 := hC1.no hS13
       have hd13 : PEq (.bool false) (D 11) w17 ∧ PEq (.bool true) (D 10) w17 ∧ True := hd13
       obtain ⟨d12, d13, -⟩ := hd13
       refine dg_sub (E' := [(23, (.bool false))]) ⟨(congrArg some d12), trivial⟩ ?_
       refine dg_plain rfl (ow_move rfl rfl ?_)
       exact ⟨BX.refl _ _, rfl⟩
      ·
       intro w18 D hS14 hd14
       have hl18 := Le.no M1 hS14
       have hC18 := hC1.no hS14
       have hd14 : PEq (.bool false) (D 12) w18 ∧ True := hd14
       obtain ⟨d14, -⟩ := hd14
       refine dg_sub (E' := [(24, (.bool false)), (0, v0p)]) ⟨(congrArg some d14), rfl, trivial⟩ ?_
       refine dg_on rfl rfl rfl rfl (ow_move rfl rfl ?_)
       exact ⟨BX.refl _ _, (VRep.mono (hl1.trans hl18) h0)⟩
      ·
       intro w19 D hS15 hd15
       have hl19 := Le.no M1 hS15
       have hC19 := hC1.no hS15
       have hd15 : PEq (.bool false) (D 12) w19 ∧ True := hd15
       obtain ⟨d15, -⟩ := hd15
       refine dg_sub (E' := [(24, (.bool false)), (5, (.int .i64 k1))]) ⟨(congrArg some d15), rfl, trivial⟩ ?_
       refine dg_on rfl rfl rfl rfl (ow_move rfl rfl ?_)
       exact ⟨BX.refl _ _, rfl⟩
      ·
       intro w20 D hS16 hd16
       have hl20 := Le.no M1 hS16
       have hC20 := hC1.no hS16
       have hd16 : PV (RSlice RSpan) M1 a_list (D 13) w20 ∧ PEq (.int .i64 k1) (D 14) w20 ∧ PEq (.bool false) (D 12) w20 ∧ True := hd16
       obtain ⟨d16, d17, d18, -⟩ := hd16
       obtain ⟨v14, hq3⟩ : ∃ v, (D 13) = v := ⟨_, rfl⟩
       rw [hq3] at d16
       refine dg_sub (E' := [(25, v14), (26, (.int .i64 k1)), (24, (.bool false))]) ⟨(congrArg some hq3), (congrArg some d17), (congrArg some d18), trivial⟩ ?_
       refine dg_on rfl rfl rfl rfl (ow_indexSlice (R := RSpan) rfl rfl rfl d16 Tryd.underlying58 (Tryd.sizeOf76 _) hx1 fun p12 hp12 => ?_)
       exact ⟨BX.refl _ _, ⟨_, rfl, hp12⟩⟩
      ·
       intro w21 D hS17 hd17
       have hl21 := Le.no M1 hS17
       have hC21 := hC1.no hS17
       have hd17 : PA RSpan M1 x1 (D 15) w21 ∧ PEq (.bool false) (D 12) w21 ∧ True := hd17
       obtain ⟨d19, d20, -⟩ := hd17
       obtain ⟨p13, e5, ha5⟩ := d19
       refine dg_sub (E' := [(27, (.pointer (some p13))), (24, (.bool false))]) ⟨(congrArg some e5), (congrArg some d20), trivial⟩ ?_
       refine dg_on rfl rfl rfl rfl (ow_fieldAddr rfl rfl Tryd.underlying76 rfl (Tryd.sizeOf3 _) ?_)
       exact ⟨BX.refl _ _, ⟨_, rfl, (ha5.fld fld_Span_Hi)⟩⟩
      ·
       intro w22 D hS18 hd18
       have hl22 := Le.no M1 hS18
       have hC22 := hC1.no hS18
       have hd18 : PA RInt M1 x1.Hi (D 16) w22 ∧ PEq (.bool false) (D 12) w22 ∧ True := hd18
       obtain ⟨d21, d22, -⟩ := hd18
       obtain ⟨p14, e6, ha6⟩ := d21
       refine dg_sub (E' := [(28, (.pointer (some p14))), (24, (.bool false))]) ⟨(congrArg some e6), (congrArg some d22), trivial⟩ ?_
       refine dg_on rfl rfl rfl rfl (ow_load (R := RInt) rfl rfl ha6 (Tryd.sizeOf3 _) (Tryd.isAgg3 _) fun v15 hv15 => ?_)
       obtain rfl := vint_eq hv15
       exact ⟨BX.refl _ _, rfl⟩
      ·
       intro w23 D hS19 hd19
       have hl23 := Le.no M1 hS19
       have hC23 := hC1.no hS19
       have hd19 : PEq (.bool false) (D 12) w23 ∧ True := hd19
       obtain ⟨d23, -⟩ := hd19
       refine dg_sub (E' := [(24, (.bool false)), (1, (.int .i64 a_top))]) ⟨(congrArg some d23), rfl, trivial⟩ ?_
       refine dg_on rfl rfl rfl rfl (ow_move rfl rfl ?_)
       exact ⟨BX.refl _ _, rfl⟩
      ·
       intro w24 D hS20 hd20
       have hl24 := Le.no M1 hS20
       have hC24 := hC1.no hS20
       have hd20 : PEq (.int .i64 x1.Hi) (D 17) w24 ∧ PEq (.int .i64 a_top) (D 18) w24 ∧ PEq (.bool false) (D 12) w24 ∧ PEq (.bool false) (D 12) w24 ∧ True := hd20
       obtain ⟨d24, d25, d26, d27, -⟩ := hd20
       refine dg_sub (E' := [(29, (.int .i64 x1.Hi)), (30, (.int .i64 a_top)), (24, (.bool false))]) ⟨(congrArg some d24), (congrArg some d25), (congrArg some d26), trivial⟩ ?_
       refine dg_on rfl rfl rfl rfl (ow_call rfl rfl Tryd.call82 (w_spec_l1In (hG.mono (hl1.trans hl24)) hC24.old hx3) fun v16 w25 hv16 => ?_)
       obtain ⟨hv16, hb5⟩ := hv16
       have hl25 := Le.no M1 hb5
       have hC25 := hC24.no hb5
       obtain rfl := vbool_eq hv16
       exact ⟨hb5, rfl⟩
      ·
       intro w26 D hS21 hd21
       have hl26 := Le.no M1 hS21
       have hC26 := hC1.no hS21
       have hd21 : PEq (.bool true) (D 19) w26 ∧ PEq (.bool false) (D 12) w26 ∧ True := hd21
       obtain ⟨d28, d29, -⟩ := hd21
       refine dg_sub (E' := [(31, (.bool true)), (24, (.bool false))]) ⟨(congrArg some d28), (congrArg some d29), trivial⟩ ?_
       refine dg_on rfl rfl rfl rfl (ow_not rfl rfl ?_)
       exact ⟨BX.refl _ _, rfl⟩
      ·
       intro w27 D hS22 hd22
       have hl27 := Le.no M1 hS22
       have hC27 := hC1.no hS22
       have hd22 : PEq (.bool false) (D 12) w27 ∧ PEq (.bool false) (D 20) w27 ∧ True := hd22
       obtain ⟨d30, d31, -⟩ := hd22
       refine dg_sub (E' := [(24, (.bool false)), (32, (.bool false))]) ⟨(congrArg some d30), (congrArg some d31), trivial⟩ ?_
       refine dg_plain rfl (ow_pickF rfl rfl rfl ?_)
       exact ⟨BX.refl _ _, rfl⟩
      ·
       intro w28 D hS23 hd23
       have hl28 := Le.no M1 hS23
       have hC28 := hC1.no hS23
       have hd23 : PEq (.bool false) (D 21) w28 ∧ PEq (.bool true) (D 19) w28 ∧ True := hd23
       obtain ⟨d32, d33, -⟩ := hd23
       refine dg_sub (E' := [(33, (.bool false))]) ⟨(congrArg some d32), trivial⟩ ?_
       refine dg_plain rfl (ow_move rfl rfl ?_)
       exact ⟨BX.refl _ _, rfl⟩
      ·
       intro w29 D hS24 hd24
       have hl29 := Le.no M1 hS24
       have hC29 := hC1.no hS24
       have hd24 : PEq (.bool false) (D 22) w29 ∧ True := hd24
       obtain ⟨d34, -⟩ := hd24
       refine dg_sub (E' := [(34, (.bool false)), (5, (.int .i64 k1))]) ⟨(congrArg some d34), rfl, trivial⟩ ?_
       refine dg_on rfl rfl rfl rfl (ow_move rfl rfl ?_)
       exact ⟨BX.refl _ _, rfl⟩
      ·
       intro w30 D hS25 hd25
       have hl30 := Le.no M1 hS25
       have hC30 := hC1.no hS25
       have hd25 : PEq (.int .i64 k1) (D 23) w30 ∧ PEq (.bool false) (D 22) w30 ∧ True := hd25
       obtain ⟨d35, d36, -⟩ := hd25
       refine dg_sub (E' := [(35, (.int .i64 k1)), (34, (.bool false))]) ⟨(congrArg some d35), (congrArg some d36), trivial⟩ ?_
       refine dg_on rfl rfl rfl rfl (ow_gtr rfl rfl rfl fun bb3 hbb3 => ?_)
       obtain rfl := hbb3.trans hc4
       exact ⟨BX.refl _ _, rfl⟩
      ·
       intro w31 D hS26 hd26
       have hl31 := Le.no M1 hS26
       have hC31 := hC1.no hS26
       have hd26 : PEq (.bool true) (D 24) w31 ∧ PEq (.bool false) (D 22) w31 ∧ PEq (.bool false) (D 22) w31 ∧ True := hd26
       obtain ⟨d37, d38, d39, -⟩ := hd26
       refine dg_sub (E' := [(36, (.bool true)), (34, (.bool false))]) ⟨(congrArg some d37), (congrArg some d38), trivial⟩ ?_
       refine dg_on rfl rfl rfl rfl (ow_move rfl rfl ?_)
       exact ⟨BX.refl _ _, rfl⟩
      ·
       intro w32 D hS27 hd27
       have hl32 := Le.no M1 hS27
       have hC32 := hC1.no hS27
       have hd27 : PEq (.bool true) (D 25) w32 ∧ True := hd27
       obtain ⟨d40, -⟩ := hd27
       refine dg_sub (E' := [(37, (.bool true)), (0, v0p)]) ⟨(congrArg some d40), rfl, trivial⟩ ?_
       refine dg_on rfl rfl rfl rfl (ow_move rfl rfl ?_)
       exact ⟨BX.refl _ _, (VRep.mono (hl1.trans hl32) h0)⟩
      ·
       intro w33 D hS28 hd28
       have hl33 := Le.no M1 hS28
       have hC33 := hC1.no hS28
       have hd28 : PEq (.bool true) (D 25) w33 ∧ True := hd28
       obtain ⟨d41, -⟩ := hd28
       refine dg_sub (E' := [(37, (.bool true)), (5, (.int .i64 k1))]) ⟨(congrArg some d41), rfl, trivial⟩ ?_
       refine dg_on rfl rfl rfl rfl (ow_move rfl rfl ?_)
       exact ⟨BX.refl _ _, rfl⟩
      ·
       intro w34 D hS29 hd29
       have hl34 := Le.no M1 hS29
       have hC34 := hC1.no hS29
       have hd29 : PV (RSlice RSpan) M1 a_list (D 26) w34 ∧ PEq (.int .i64 k1) (D 27) w34 ∧ PEq (.bool true) (D 25) w34 ∧ True := hd29
       obtain ⟨d42, d43, d44, -⟩ := hd29
       obtain ⟨v17, hq4⟩ : ∃ v, (D 26) = v := ⟨_, rfl⟩
       rw [hq4] at d42
       refine dg_sub (E' := [(38, v17), (39, (.int .i64 k1)), (37, (.bool true))]) ⟨(congrArg some hq4), (congrArg some d43), (congrArg some d44), trivial⟩ ?_
       refine dg_on rfl rfl rfl rfl (ow_indexSlice (R := RSpan) rfl rfl rfl d42 Tryd.underlying58 (Tryd.sizeOf76 _) hx1 fun p15 hp15 => ?_)
       exact ⟨BX.refl _ _, ⟨_, rfl, hp15⟩⟩
      ·
       intro w35 D hS30 hd30
       have hl35 := Le.no M1 hS30
       have hC35 := hC1.no hS30
       have hd30 : PA RSpan M1 x1 (D 28) w35 ∧ PEq (.bool true) (D 25) w35 ∧ True := hd30
       obtain ⟨d45, d46, -⟩ := hd30
       obtain ⟨p16, e7, ha7⟩ := d45
       refine dg_sub (E' := [(40, (.pointer (some p16))), (37, (.bool true))]) ⟨(congrArg some e7), (congrArg some d46), trivial⟩ ?_
       refine dg_on rfl rfl rfl rfl (ow_fieldAddr rfl rfl Tryd.underlying76 rfl (Tryd.sizeOf3 _) ?_)
       exact ⟨BX.refl _ _, ⟨_, rfl, (ha7.fld fld_Span_Lo)⟩⟩
      ·
       intro w36 D hS31 hd31
       have hl36 := Le.no M1 hS31
       have hC36 := hC1.no hS31
       have hd31 : PA RInt M1 x1.Lo (D 29) w36 ∧ PEq (.bool true) (D 25) w36 ∧ True := hd31
       obtain ⟨d47, d48, -⟩ := hd31
       obtain ⟨p17, e8, ha8⟩ := d47
       refine dg_sub (E' := [(41, (.pointer (some p17))), (37, (.bool true))]) ⟨(congrArg some e8), (congrArg some d48), trivial⟩ ?_
       refine dg_on rfl rfl rfl rfl (ow_load (R := RInt) rfl rfl ha8 (Tryd.sizeOf3 _) (Tryd.isAgg3 _) fun v18 hv18 => ?_)
       obtain rfl := vint_eq hv18
       exact ⟨BX.refl _ _, rfl⟩
      ·
       intro w37 D hS32 hd32
       have hl37 := Le.no M1 hS32
       have hC37 := hC1.no hS32
       have hd32 : PEq (.bool true) (D 25) w37 ∧ True := hd32
       obtain ⟨d49, -⟩ := hd32
       refine dg_sub (E' := [(37, (.bool true)), (0, v0p)]) ⟨(congrArg some d49), rfl, trivial⟩ ?_
       refine dg_on rfl rfl rfl rfl (ow_move rfl rfl ?_)
       exact ⟨BX.refl _ _, (VRep.mono (hl1.trans hl37) h0)⟩
      ·
       intro w38 D hS33 hd33
       have hl38 := Le.no M1 hS33
       have hC38 := hC1.no hS33
       have hd33 : PEq (.bool true) (D 25) w38 ∧ True := hd33
       obtain ⟨d50, -⟩ := hd33
       refine dg_sub (E' := [(37, (.bool true)), (5, (.int .i64 k1))]) ⟨(congrArg some d50), rfl, trivial⟩ ?_
       refine dg_on rfl rfl rfl rfl (ow_move rfl rfl ?_)
       exact ⟨BX.refl _ _, rfl⟩
      ·
       intro w39 D hS34 hd34
       have hl39 := Le.no M1 hS34
       have hC39 := hC1.no hS34
       have hd34 : PEq (.int .i64 k1) (D 32) w39 ∧ PEq (.bool true) (D 25) w39 ∧ True := hd34
       obtain ⟨d51, d52, -⟩ := hd34
       refine dg_sub (E' := [(44, (.int .i64 k1)), (37, (.bool true))]) ⟨(congrArg some d51), (congrArg some d52), trivial⟩ ?_
       refine dg_on rfl rfl rfl rfl (ow_sub rfl rfl rfl ?_)
       exact ⟨BX.refl _ _, rfl⟩
      ·
       intro w40 D hS35 hd35
       have hl40 := Le.no M1 hS35
       have hC40 := hC1.no hS35
       have hd35 : PV (RSlice RSpan) M1 a_list (D 31) w40 ∧ PEq (.int .i64 (W (k1 - 1))) (D 33) w40 ∧ PEq (.bool true) (D 25) w40 ∧ True := hd35
       obtain ⟨d53, d54, d55, -⟩ := hd35
       obtain ⟨v19, hq5⟩ : ∃ v, (D 31) = v := ⟨_, rfl⟩
       rw [hq5] at d53
       refine dg_sub (E' := [(43, v19), (45, (.int .i64 (W (k1 - 1)))), (37, (.bool true))]) ⟨(congrArg some hq5), (congrArg some d54), (congrArg some d55), trivial⟩ ?_
       refine dg_on rfl rfl rfl rfl (ow_indexSlice (R := RSpan) rfl rfl rfl d53 Tryd.underlying58 (Tryd.sizeOf76 _) hx4 fun p18 hp18 => ?_)
       exact ⟨BX.refl _ _, ⟨_, rfl, hp18⟩⟩
      ·
       intro w41 D hS36 hd36
       have hl41 := Le.no M1 hS36
       have hC41 := hC1.no hS36
       have hd36 : PA RSpan M1 x4 (D 34) w41 ∧ PEq (.bool true) (D 25) w41 ∧ True := hd36
       obtain ⟨d56, d57, -⟩ := hd36
       obtain ⟨p19, e9, ha9⟩ := d56
       refine dg_sub (E' := [(46, (.pointer (some p19))), (37, (.bool true))]) ⟨(congrArg some e9), (congrArg some d57), trivial⟩ ?_
       refine dg_on rfl rfl rfl rfl (ow_fieldAddr rfl rfl Tryd.underlying76 rfl (Tryd.sizeOf3 _) ?_)
       exact ⟨BX.refl _ _, ⟨_, rfl, (ha9.fld fld_Span_Hi)⟩⟩
      ·
       intro w42 D hS37 hd37
       have hl42 := Le.no M1 hS37
       have hC42 := hC1.no hS37
       have hd37 : PA RInt M1 x4.Hi (D 35) w42 ∧ PEq (.bool true) (D 25) w42 ∧ True := hd37
       obtain ⟨d58, d59, -⟩ := hd37
       obtain ⟨p20, e10, ha10⟩ := d58
       refine dg_sub (E' := [(47, (.pointer (some p20))), (37, (.bool true))]) ⟨(congrArg some e10), (congrArg some d59), trivial⟩ ?_
       refine dg_on rfl rfl rfl rfl (ow_load (R := RInt) rfl rfl ha10 (Tryd.sizeOf3 _) (Tryd.isAgg3 _) fun v20 hv20 => ?_)
       obtain rfl := vint_eq hv20
       exact ⟨BX.refl _ _, rfl⟩
      ·
       intro w43 D hS38 hd38
       have hl43 := Le.no M1 hS38
       have hC43 := hC1.no hS38
       have hd38 : PEq (.int .i64 x4.Hi) (D 36) w43 ∧ PEq (.bool true) (D 25) w43 ∧ True := hd38
       obtain ⟨d60, d61, -⟩ := hd38
       refine dg_sub (E' := [(48, (.int .i64 x4.Hi)), (37, (.bool true))]) ⟨(congrArg some d60), (congrArg some d61), trivial⟩ ?_
       refine dg_on rfl rfl rfl rfl (ow_add rfl rfl rfl ?_)
       exact ⟨BX.refl _ _, rfl⟩
      ·
       intro w44 D hS39 hd39
       have hd39 : PV (RSlice RSpan) M1 a_list (D 0) w44 ∧ PEq (.int .i64 k1) (D 1) w44 ∧ PA RSpan M1 x1 (D 2) w44 ∧ PA RInt M1 x1.Lo (D 3) w44 ∧ PEq (.int .i64 x1.Lo) (D 4) w44 ∧ PV (RSlice RSpan) M1 a_list (D 5) w44 ∧ PEq (.int .i64 k1) (D 6) w44 ∧ PA RSpan M1 x1 (D 7) w44 ∧ PA RInt M1 x1.Hi (D 8) w44 ∧ PEq (.int .i64 x1.Hi) (D 9) w44 ∧ PEq (.bool true) (D 10) w44 ∧ PEq (.bool false) (D 11) w44 ∧ PEq (.bool false) (D 12) w44 ∧ PV (RSlice RSpan) M1 a_list (D 13) w44 ∧ PEq (.int .i64 k1) (D 14) w44 ∧ PA RSpan M1 x1 (D 15) w44 ∧ PA RInt M1 x1.Hi (D 16) w44 ∧ PEq (.int .i64 x1.Hi) (D 17) w44 ∧ PEq (.int .i64 a_top) (D 18) w44 ∧ PEq (.bool true) (D 19) w44 ∧ PEq (.bool false) (D 20) w44 ∧ PEq (.bool false) (D 21) w44 ∧ PEq (.bool false) (D 22) w44 ∧ PEq (.int .i64 k1) (D 23) w44 ∧ PEq (.bool true) (D 24) w44 ∧ PEq (.bool true) (D 25) w44 ∧ PV (RSlice RSpan) M1 a_list (D 26) w44 ∧ PEq (.int .i64 k1) (D 27) w44 ∧ PA RSpan M1 x1 (D 28) w44 ∧ PA RInt M1 x1.Lo (D 29) w44 ∧ PEq (.int .i64 x1.Lo) (D 30) w44 ∧ PV (RSlice RSpan) M1 a_list (D 31) w44 ∧ PEq (.int .i64 k1) (D 32) w44 ∧ PEq (.int .i64 (W (k1 - 1))) (D 33) w44 ∧ PA RSpan M1 x4 (D 34) w44 ∧ PA RInt M1 x4.Hi (D 35) w44 ∧ PEq (.int .i64 x4.Hi) (D 36) w44 ∧ PEq (.int .i64 (W (x4.Hi + 2))) (D 37) w44 ∧ True := hd39
       obtain ⟨-, -, -, -, -, -, -, -, -, -, -, -, -, -, -, -, -, -, -, -, -, -, d84, -, -, d87, -, -, -, -, d92, -, -, -, -, -, -, d99, -⟩ := hd39
       have hl44 := Le.no M1 hS39
       have hC44 := hC1.no hS39
       refine lw_sub (E' := [(34, (.bool false)), (37, (.bool true)), (42, (.int .i64 x1.Lo)), (49, (.int .i64 (W (x4.Hi + 2)))), (0, v0p), (1, (.int .i64 a_top)), (5, (.int .i64 k1))]) ⟨(congrArg some d84), (congrArg some d87), (congrArg some d92), (congrArg some d99), rfl, rfl, rfl, trivial⟩ ?_
       refine lw_on rfl rfl rfl rfl rfl rfl (ow_lss rfl rfl rfl fun bb4 hbb4 => ?_)
       refine lw_on rfl rfl rfl rfl rfl rfl (ow_pickT rfl rfl rfl ?_)
       refine lw_op rfl rfl rfl (ow_pickF rfl rfl rfl ?_)
       refine lw_nil (ew_then ?_)
       replace hb1 := cond_some hb1
       rcases hb1 with ⟨hc5, hb1⟩ | ⟨hc5, hb1⟩
       ·
        obtain rfl := hbb4.trans hc5
        refine cw_true rfl ?_
        refine cw_seq (cw_region (lw_op rfl rfl rfl (ow_assign rfl rfl ?_)))
        refine lw_nil (ew_then (cw_ret (ew_blockR ?_)))
        refine ew_thenR (ew_thenR (ew_blockR ?_))
        refine ew_brkR ?_
        refine ew_thenR ?_
        have e11 := hR1 _ (Option.some.inj hb1).symm
        subst e11
        obtain rfl := Option.some.inj h
        exact ew_ret (res1 rfl (.tmp rfl)) ⟨_, rfl, ((vbool _)), hC44.bx⟩
       ·
        obtain rfl := hbb4.trans hc5
        refine cw_false rfl ?_
        refine cw_skip (ew_blockN ?_)
        refine ew_then (cw_region (lw_op rfl rfl rfl (ow_move rfl rfl ?_)))
        refine lw_op rfl rfl rfl (ow_add rfl rfl rfl ?_)
        refine lw_op rfl rfl rfl (ow_assign rfl rfl ?_)
        refine lw_nil (ew_nxt (W (k1 + 1)) hb1 fun a ha => ⟨M1, ?_, (hl1.trans hl44), hC44⟩)
        exact ha.sub ⟨rfl, rfl, rfl, trivial⟩
     ·
      refine cw_sub (E' := [(0, v0p), (1, (.int .i64 a_top)), (5, (.int .i64 k1))]) ⟨rfl, rfl, rfl, trivial⟩ ?_
      refine cw_drawQ 38 [PV (RSlice RSpan) M1 a_list, PEq (.int .i64 k1), PA RSpan M1 x1, PA RInt M1 x1.Lo, PEq (.int .i64 x1.Lo), PV (RSlice RSpan) M1 a_list, PEq (.int .i64 k1), PA RSpan M1 x1, PA RInt M1 x1.Hi, PEq (.int .i64 x1.Hi), PEq (.bool true), PEq (.bool false), PEq (.bool false), PV (RSlice RSpan) M1 a_list, PEq (.int .i64 k1), PA RSpan M1 x1, PA RInt M1 x1.Hi, PEq (.int .i64 x1.Hi), PEq (.int .i64 a_top), PEq (.bool true), PEq (.bool false), PEq (.bool false), PEq (.bool false), PEq (.int .i64 k1), PEq (.bool false), PEq (.bool false), PEq undef, PEq undef, PEq undef, PEq undef, PEq undef, PEq undef, PEq undef, PEq undef, PEq undef, PEq undef, PEq undef, PEq undef] (by kernel_rfl) rfl (by kernel_rfl) ⟨PV.mono _ _ _, PEq.mono _, PA.mono _ _ _, PA.mono _ _ _, PEq.mono _, PV.mono _ _ _, PEq.mono _, PA.mono _ _ _, PA.mono _ _ _, PEq.mono _, PEq.mono _, PEq.mono _, PEq.mono _, PV.mono _ _ _, PEq.mono _, PA.mono _ _ _, PA.mono _ _ _, PEq.mono _, PEq.mono _, PEq.mono _, PEq.mono _, PEq.mono _, PEq.mono _, PEq.mono _, PEq.mono _, PEq.mono _, PEq.mono _, PEq.mono _, PEq.mono _, PEq.mono _, PEq.mono _, PEq.mono _, PEq.mono _, PEq.mono _, PEq.mono _, PEq.mono _, PEq.mono _, PEq.mono _, trivial⟩ ⟨?_, ?_, ?_, ?_, ?_, ?_, ?_, ?_, ?_, ?_, ?_, ?_, ?_, ?_, ?_, ?_, ?_, ?_, ?_, ?_, ?_, ?_, ?_, ?_, ?_, ?_, ?_, ?_, ?_, ?_, ?_, ?_, ?_, ?_, ?_, ?_, ?_, ?_, trivial⟩ ?_
      ·
       intro w45 D hS40 hd40
       have hl45 := Le.no M1 hS40
       have hC45 := hC1.no hS40
       refine dg_sub (E' := [(0, v0p)]) ⟨rfl, trivial⟩ ?_
       refine dg_plain rfl (ow_move rfl rfl ?_)
       exact ⟨BX.refl _ _, (VRep.mono (hl1.trans hl45) h0)⟩
      ·
       intro w46 D hS41 hd41
       have hl46 := Le.no M1 hS41
       have hC46 := hC1.no hS41
       refine dg_sub (E' := [(5, (.int .i64 k1))]) ⟨rfl, trivial⟩ ?_
       refine dg_plain rfl (ow_move rfl rfl ?_)
       exact ⟨BX.refl _ _, rfl⟩
      ·
       intro w47 D hS42 hd42
       have hl47 := Le.no M1 hS42
       have hC47 := hC1.no hS42
       have hd42 : PV (RSlice RSpan) M1 a_list (D 0) w47 ∧ PEq (.int .i64 k1) (D 1) w47 ∧ True := hd42
       obtain ⟨d100, d101, -⟩ := hd42
       obtain ⟨v21, hq6⟩ : ∃ v, (D 0) = v := ⟨_, rfl⟩
       rw [hq6] at d100
       refine dg_sub (E' := [(12, v21), (13, (.int .i64 k1))]) ⟨(congrArg some hq6), (congrArg some d101), trivial⟩ ?_
       refine dg_plain rfl (ow_indexSlice (R := RSpan) rfl rfl rfl d100 Tryd.underlying58 (Tryd.sizeOf76 _) hx1 fun p21 hp21 => ?_)
       exact ⟨BX.refl _ _, ⟨_, rfl, hp21⟩⟩
      ·
       intro w48 D hS43 hd43
       have hl48 := Le.no M1 hS43
       have hC48 := hC1.no hS43
       have hd43 : PA RSpan M1 x1 (D 2) w48 ∧ True := hd43
       obtain ⟨d102, -⟩ := hd43
       obtain ⟨p22, e12, ha11⟩ := d102
       refine dg_sub (E' := [(14, (.pointer (some p22)))]) ⟨(congrArg some e12), trivial⟩ ?_
       refine dg_plain rfl (ow_fieldAddr rfl rfl Tryd.underlying76 rfl (Tryd.sizeOf3 _) ?_)
       exact ⟨BX.refl _ _, ⟨_, rfl, (ha11.fld fld_Span_Lo)⟩⟩
      ·
       intro w49 D hS44 hd44
       have hl49 := Le.no M1 hS44
       have hC49 := hC1.no hS44
       have hd44 : PA RInt M1 x1.Lo (D 3) w49 ∧ True := hd44
       obtain ⟨d103, -⟩ := hd44
       obtain ⟨p23, e13, ha12⟩ := d103
       refine dg_sub (E' := [(15, (.pointer (some p23)))]) ⟨(congrArg some e13), trivial⟩ ?_
       refine dg_plain rfl (ow_load (R := RInt) rfl rfl ha12 (Tryd.sizeOf3 _) (Tryd.isAgg3 _) fun v22 hv22 => ?_)
       obtain rfl := vint_eq hv22
       exact ⟨BX.refl _ _, rfl⟩
      ·
       intro w50 D hS45 hd45
       have hl50 := Le.no M1 hS45
       have hC50 := hC1.no hS45
       refine dg_sub (E' := [(0, v0p)]) ⟨rfl, trivial⟩ ?_
       refine dg_plain rfl (ow_move rfl rfl ?_)
       exact ⟨BX.refl _ _, (VRep.mono (hl1.trans hl50) h0)⟩
      ·
       intro w51 D hS46 hd46
       have hl51 := Le.no M1 hS46
       have hC51 := hC1.no hS46
       refine dg_sub (E' := [(5, (.int .i64 k1))]) ⟨rfl, trivial⟩ ?_
       refine dg_plain rfl (ow_move rfl rfl ?_)
       exact ⟨BX.refl _ _, rfl⟩
      ·
       intro w52 D hS47 hd47
       have hl52 := Le.no M1 hS47
       have hC52 := hC1.no hS47
       have hd47 : PV (RSlice RSpan) M1 a_list (D 5) w52 ∧ PEq (.int .i64 k1) (D 6) w52 ∧ True := hd47
       obtain ⟨d104, d105, -⟩ := hd47
       obtain ⟨v23, hq7⟩ : ∃ v, (D 5) = v := ⟨_, rfl⟩
       rw [hq7] at d104
       refine dg_sub (E' := [(17, v23), (18, (.int .i64 k1))]) ⟨(congrArg some hq7), (congrArg some d105), trivial⟩ ?_
       refine dg_plain rfl (ow_indexSlice (R := RSpan) rfl rfl rfl d104 Tryd.underlying58 (Tryd.sizeOf76 _) hx1 fun p24 hp24 => ?_)
       exact ⟨BX.refl _ _, ⟨_, rfl, hp24⟩⟩
      ·
       intro w53 D hS48 hd48
       have hl53 := Le.no M1 hS48
       have hC53 := hC1.no hS48
       have hd48 : PA RSpan M1 x1 (D 7) w53 ∧ True := hd48
       obtain ⟨d106, -⟩ := hd48
       obtain ⟨p25, e14, ha13⟩ := d106
       refine dg_sub (E' := [(19, (.pointer (some p25)))]) ⟨(congrArg some e14), trivial⟩ ?_
       refine dg_plain rfl (ow_fieldAddr rfl rfl Tryd.underlying76 rfl (Tryd.sizeOf3 _) ?_)
       exact ⟨BX.refl _ _, ⟨_, rfl, (ha13.fld fld_Span_Hi)⟩⟩
      ·
       intro w54 D hS49 hd49
       have hl54 := Le.no M1 hS49
       have hC54 := hC1.no hS49
       have hd49 : PA RInt M1 x1.Hi (D 8) w54 ∧ True := hd49
       obtain ⟨d107, -⟩ := hd49
       obtain ⟨p26, e15, ha14⟩ := d107
       refine dg_sub (E' := [(20, (.pointer (some p26)))]) ⟨(congrArg some e15), trivial⟩ ?_
       refine dg_plain rfl (ow_load (R := RInt) rfl rfl ha14 (Tryd.sizeOf3 _) (Tryd.isAgg3 _) fun v24 hv24 => ?_)
       obtain rfl := vint_eq hv24
       exact ⟨BX.refl _ _, rfl⟩
      ·
       intro w55 D hS50 hd50
       have hl55 := Le.no M1 hS50
       have hC55 := hC1.no hS50
       have hd50 : PEq (.int .i64 x1.Lo) (D 4) w55 ∧ PEq (.int .i64 x1.Hi) (D 9) w55 ∧ True := hd50
       obtain ⟨d108, d109, -⟩ := hd50
       refine dg_sub (E' := [(16, (.int .i64 x1.Lo)), (21, (.int .i64 x1.Hi))]) ⟨(congrArg some d108), (congrArg some d109), trivial⟩ ?_
       refine dg_plain rfl (ow_call rfl rfl Tryd.call82 (w_spec_l1In (hG.mono (hl1.trans hl55)) hC55.old hx2) fun v25 w56 hv25 => ?_)
       obtain ⟨hv25, hb6⟩ := hv25
       have hl56 := Le.no M1 hb6
       have hC56 := hC55.no hb6
       obtain rfl := vbool_eq hv25
       exact ⟨hb6, rfl⟩
      ·
       intro w57 D hS51 hd51
       have hl57 := Le.no M1 hS51
       have hC57 := hC1.no hS51
       have hd51 : PEq (.bool true) (D 10) w57 ∧ True := hd51
       obtain ⟨d110, -⟩ := hd51
       refine dg_sub (E' := [(22, (.bool true))]) ⟨(congrArg some d110), trivial⟩ ?_
       refine dg_plain rfl (ow_not rfl rfl ?_)
       exact ⟨BX.refl _ _, rfl⟩
      ·
       intro w58 D hS52 hd52
       have hl58 := Le.no M1 hS52
       have hC58 := hC1.no hS52
       have hd52 : PEq (.bool false) (D 11) w58 ∧ PEq (.bool true) (D 10) w58 ∧ True := hd52
       obtain ⟨d111, d112, -⟩ := hd52
       refine dg_sub (E' := [(23, (.bool false))]) ⟨(congrArg some d111), trivial⟩ ?_
       refine dg_plain rfl (ow_move rfl rfl ?_)
       exact ⟨BX.refl _ _, rfl⟩
      ·
       intro w59 D hS53 hd53
       have hl59 := Le.no M1 hS53
       have hC59 := hC1.no hS53
       have hd53 : PEq (.bool false) (D 12) w59 ∧ True := hd53
       obtain ⟨d113, -⟩ := hd53
       refine dg_sub (E' := [(24, (.bool false)), (0, v0p)]) ⟨(congrArg some d113), rfl, trivial⟩ ?_
       refine dg_on rfl rfl rfl rfl (ow_move rfl rfl ?_)
       exact ⟨BX.refl _ _, (VRep.mono (hl1.trans hl59) h0)⟩
      ·
       intro w60 D hS54 hd54
       have hl60 := Le.no M1 hS54
       have hC60 := hC1.no hS54
       have hd54 : PEq (.bool false) (D 12) w60 ∧ True := hd54
       obtain ⟨d114, -⟩ := hd54
       refine dg_sub (E' := [(24, (.bool false)), (5, (.int .i64 k1))]) ⟨(congrArg some d114), rfl, trivial⟩ ?_
       refine dg_on rfl rfl rfl rfl (ow_move rfl rfl ?_)
       exact ⟨BX.refl _ _, rfl⟩
      ·
       intro w61 D hS55 hd55
       have hl61 := Le.no M1 hS55
       have hC61 := hC1.no hS55
       have hd55 : PV (RSlice RSpan) M1 a_list (D 13) w61 ∧ PEq (.int .i64 k1) (D 14) w61 ∧ PEq (.bool false) (D 12) w61 ∧ True := hd55
       obtain ⟨d115, d116, d117, -⟩ := hd55
       obtain ⟨v26, hq8⟩ : ∃ v, (D 13) = v := ⟨_, rfl⟩
       rw [hq8] at d115
       refine dg_sub (E' := [(25, v26), (26, (.int .i64 k1)), (24, (.bool false))]) ⟨(congrArg some hq8), (congrArg some d116), (congrArg some d117), trivial⟩ ?_
       refine dg_on rfl rfl rfl rfl (ow_indexSlice (R := RSpan) rfl rfl rfl d115 Tryd.underlying58 (Tryd.sizeOf76 _) hx1 fun p27 hp27 => ?_)
       exact ⟨BX.refl _ _, ⟨_, rfl, hp27⟩⟩
      ·
       intro w62 D hS56 hd56
       have hl62 := Le.no M1 hS56
       have hC62 := hC1.no hS56
       have hd56 : PA RSpan M1 x1 (D 15) w62 ∧ PEq (.bool false) (D 12) w62 ∧ True := hd56
       obtain ⟨d118, d119, -⟩ := hd56
       obtain ⟨p28, e16, ha15⟩ := d118
       refine dg_sub (E' := [(27, (.pointer (some p28))), (24, (.bool false))]) ⟨(congrArg some e16), (congrArg some d119), trivial⟩ ?_
       refine dg_on rfl rfl rfl rfl (ow_fieldAddr rfl rfl Tryd.underlying76 rfl (Tryd.sizeOf3 _) ?_)
       exact ⟨BX.refl _ _, ⟨_, rfl, (ha15.fld fld_Span_Hi)⟩⟩
      ·
       intro w63 D hS57 hd57
       have hl63 := Le.no M1 hS57
       have hC63 := hC1.no hS57
       have hd57 : PA RInt M1 x1.Hi (D 16) w63 ∧ PEq (.bool false) (D 12) w63 ∧ True := hd57
       obtain ⟨d120, d121, -⟩ := hd57
       obtain ⟨p29, e17, ha16⟩ := d120
       refine dg_sub (E' := [(28, (.pointer (some p29))), (24, (.bool false))]) ⟨(congrArg some e17), (congrArg some d121), trivial⟩ ?_
       refine dg_on rfl rfl rfl rfl (ow_load (R := RInt) rfl rfl ha16 (Tryd.sizeOf3 _) (Tryd.isAgg3 _) fun v27 hv27 => ?_)
       obtain rfl := vint_eq hv27
       exact ⟨BX.refl _ _, rfl⟩
      ·
       intro w64 D hS58 hd58
       have hl64 := Le.no M1 hS58
       have hC64 := hC1.no hS58
       have hd58 : PEq (.bool false) (D 12) w64 ∧ True := hd58
       obtain ⟨d122, -⟩ := hd58
       refine dg_sub (E' := [(24, (.bool false)), (1, (.int .i64 a_top))]) ⟨(congrArg some d122), rfl, trivial⟩ ?_
       refine dg_on rfl rfl rfl rfl (ow_move rfl rfl ?_)
       exact ⟨BX.refl _ _, rfl⟩
      ·
       intro w65 D hS59 hd59
       have hl65 := Le.no M1 hS59
       have hC65 := hC1.no hS59
       have hd59 : PEq (.int .i64 x1.Hi) (D 17) w65 ∧ PEq (.int .i64 a_top) (D 18) w65 ∧ PEq (.bool false) (D 12) w65 ∧ PEq (.bool false) (D 12) w65 ∧ True := hd59
       obtain ⟨d123, d124, d125, d126, -⟩ := hd59
       refine dg_sub (E' := [(29, (.int .i64 x1.Hi)), (30, (.int .i64 a_top)), (24, (.bool false))]) ⟨(congrArg some d123), (congrArg some d124), (congrArg some d125), trivial⟩ ?_
       refine dg_on rfl rfl rfl rfl (ow_call rfl rfl Tryd.call82 (w_spec_l1In (hG.mono (hl1.trans hl65)) hC65.old hx3) fun v28 w66 hv28 => ?_)
       obtain ⟨hv28, hb7⟩ := hv28
       have hl66 := Le.no M1 hb7
       have hC66 := hC65.no hb7
       obtain rfl := vbool_eq hv28
       exact ⟨hb7, rfl⟩
      ·
       intro w67 D hS60 hd60
       have hl67 := Le.no M1 hS60
       have hC67 := hC1.no hS60
       have hd60 : PEq (.bool true) (D 19) w67 ∧ PEq (.bool false) (D 12) w67 ∧ True := hd60
       obtain ⟨d127, d128, -⟩ := hd60
       refine dg_sub (E' := [(31, (.bool true)), (24, (.bool false))]) ⟨(congrArg some d127), (congrArg some d128), trivial⟩ ?_
       refine dg_on rfl rfl rfl rfl (ow_not rfl rfl ?_)
       exact ⟨BX.refl _ _, rfl⟩
      ·
       intro w68 D hS61 hd61
       have hl68 := Le.no M1 hS61
       have hC68 := hC1.no hS61
       have hd61 : PEq (.bool false) (D 12) w68 ∧ PEq (.bool false) (D 20) w68 ∧ True := hd61
       obtain ⟨d129, d130, -⟩ := hd61
       refine dg_sub (E' := [(24, (.bool false)), (32, (.bool false))]) ⟨(congrArg some d129), (congrArg some d130), trivial⟩ ?_
       refine dg_plain rfl (ow_pickF rfl rfl rfl ?_)
       exact ⟨BX.refl _ _, rfl⟩
      ·
       intro w69 D hS62 hd62
       have hl69 := Le.no M1 hS62
       have hC69 := hC1.no hS62
       have hd62 : PEq (.bool false) (D 21) w69 ∧ PEq (.bool true) (D 19) w69 ∧ True := hd62
       obtain ⟨d131, d132, -⟩ := hd62
       refine dg_sub (E' := [(33, (.bool false))]) ⟨(congrArg some d131), trivial⟩ ?_
       refine dg_plain rfl (ow_move rfl rfl ?_)
       exact ⟨BX.refl _ _, rfl⟩
      ·
       intro w70 D hS63 hd63
       have hl70 := Le.no M1 hS63
       have hC70 := hC1.no hS63
       have hd63 : PEq (.bool false) (D 22) w70 ∧ True := hd63
       obtain ⟨d133, -⟩ := hd63
       refine dg_sub (E' := [(34, (.bool false)), (5, (.int .i64 k1))]) ⟨(congrArg some d133), rfl, trivial⟩ ?_
       refine dg_on rfl rfl rfl rfl (ow_move rfl rfl ?_)
       exact ⟨BX.refl _ _, rfl⟩
      ·
       intro w71 D hS64 hd64
       have hl71 := Le.no M1 hS64
       have hC71 := hC1.no hS64
       have hd64 : PEq (.int .i64 k1) (D 23) w71 ∧ PEq (.bool false) (D 22) w71 ∧ True := hd64
       obtain ⟨d134, d135, -⟩ := hd64
       refine dg_sub (E' := [(35, (.int .i64 k1)), (34, (.bool false))]) ⟨(congrArg some d134), (congrArg some d135), trivial⟩ ?_
       refine dg_on rfl rfl rfl rfl (ow_gtr rfl rfl rfl fun bb5 hbb5 => ?_)
       obtain rfl := hbb5.trans hc4
       exact ⟨BX.refl _ _, rfl⟩
      ·
       intro w72 D hS65 hd65
       have hl72 := Le.no M1 hS65
       have hC72 := hC1.no hS65
       have hd65 : PEq (.bool false) (D 24) w72 ∧ PEq (.bool false) (D 22) w72 ∧ PEq (.bool false) (D 22) w72 ∧ True := hd65
       obtain ⟨d136, d137, d138, -⟩ := hd65
       refine dg_sub (E' := [(36, (.bool false)), (34, (.bool false))]) ⟨(congrArg some d136), (congrArg some d137), trivial⟩ ?_
       refine dg_on rfl rfl rfl rfl (ow_move rfl rfl ?_)
       exact ⟨BX.refl _ _, rfl⟩
      ·
       intro w73 D hS66 hd66
       have hl73 := Le.no M1 hS66
       have hC73 := hC1.no hS66
       have hd66 : PEq (.bool false) (D 25) w73 ∧ True := hd66
       obtain ⟨d139, -⟩ := hd66
       refine dg_sub (E' := [(37, (.bool false)), (0, v0p)]) ⟨(congrArg some d139), rfl, trivial⟩ ?_
       exact dg_off rfl rfl rfl rfl ⟨BX.refl _ _, rfl⟩
      ·
       intro w74 D hS67 hd67
       have hl74 := Le.no M1 hS67
       have hC74 := hC1.no hS67
       have hd67 : PEq (.bool false) (D 25) w74 ∧ True := hd67
       obtain ⟨d140, -⟩ := hd67
       refine dg_sub (E' := [(37, (.bool false)), (5, (.int .i64 k1))]) ⟨(congrArg some d140), rfl, trivial⟩ ?_
       exact dg_off rfl rfl rfl rfl ⟨BX.refl _ _, rfl⟩
      ·
       intro w75 D hS68 hd68
       have hl75 := Le.no M1 hS68
       have hC75 := hC1.no hS68
       have hd68 : PEq undef (D 26) w75 ∧ PEq undef (D 27) w75 ∧ PEq (.bool false) (D 25) w75 ∧ True := hd68
       obtain ⟨d141, d142, d143, -⟩ := hd68
       refine dg_sub (E' := [(38, undef), (39, undef), (37, (.bool false))]) ⟨(congrArg some d141), (congrArg some d142), (congrArg some d143), trivial⟩ ?_
       exact dg_off rfl rfl rfl rfl ⟨BX.refl _ _, rfl⟩
      ·
       intro w76 D hS69 hd69
       have hl76 := Le.no M1 hS69
       have hC76 := hC1.no hS69
       have hd69 : PEq undef (D 28) w76 ∧ PEq (.bool false) (D 25) w76 ∧ True := hd69
       obtain ⟨d144, d145, -⟩ := hd69
       refine dg_sub (E' := [(40, undef), (37, (.bool false))]) ⟨(congrArg some d144), (congrArg some d145), trivial⟩ ?_
       exact dg_off rfl rfl rfl rfl ⟨BX.refl _ _, rfl⟩
      ·
       intro w77 D hS70 hd70
       have hl77 := Le.no M1 hS70
       have hC77 := hC1.no hS70
       have hd70 : PEq undef (D 29) w77 ∧ PEq (.bool false) (D 25) w77 ∧ True := hd70
       obtain ⟨d146, d147, -⟩ := hd70
       refine dg_sub (E' := [(41, undef), (37, (.bool false))]) ⟨(congrArg some d146), (congrArg some d147), trivial⟩ ?_
       exact dg_off rfl rfl rfl rfl ⟨BX.refl _ _, rfl⟩
      ·
       intro w78 D hS71 hd71
       have hl78 := Le.no M1 hS71
       have hC78 := hC1.no hS71
       have hd71 : PEq (.bool false) (D 25) w78 ∧ True := hd71
       obtain ⟨d148, -⟩ := hd71
       refine dg_sub (E' := [(37, (.bool false)), (0, v0p)]) ⟨(congrArg some d148), rfl, trivial⟩ ?_
       exact dg_off rfl rfl rfl rfl ⟨BX.refl _ _, rfl⟩
      ·
       intro w79 D hS72 hd72
       have hl79 := Le.no M1 hS72
       have hC79 := hC1.no hS72
       have hd72 : PEq (.bool false) (D 25) w79 ∧ True := hd72
       obtain ⟨d149, -⟩ := hd72
       refine dg_sub (E' := [(37, (.bool false)), (5, (.int .i64 k1))]) ⟨(congrArg some d149), rfl, trivial⟩ ?_
       exact dg_off rfl rfl rfl rfl ⟨BX.refl _ _, rfl⟩
      ·
       intro w80 D hS73 hd73
       have hl80 := Le.no M1 hS73
       have hC80 := hC1.no hS73
       have hd73 : PEq undef (D 32) w80 ∧ PEq (.bool false) (D 25) w80 ∧ True := hd73
       obtain ⟨d150, d151, -⟩ := hd73
       refine dg_sub (E' := [(44, undef), (37, (.bool false))]) ⟨(congrArg some d150), (congrArg some d151), trivial⟩ ?_
       exact dg_off rfl rfl rfl rfl ⟨BX.refl _ _, rfl⟩
      ·
       intro w81 D hS74 hd74
       have hl81 := Le.no M1 hS74
       have hC81 := hC1.no hS74
       have hd74 : PEq undef (D 31) w81 ∧ PEq undef (D 33) w81 ∧ PEq (.bool false) (D 25) w81 ∧ True := hd74
       obtain ⟨d152, d153, d154, -⟩ := hd74
       refine dg_sub (E' := [(43, undef), (45, undef), (37, (.bool false))]) ⟨(congrArg some d152), (congrArg some d153), (congrArg some d154), trivial⟩ ?_
       exact dg_off rfl rfl rfl rfl ⟨BX.refl _ _, rfl⟩
      ·
       intro w82 D hS75 hd75
       have hl82 := Le.no M1 hS75
       have hC82 := hC1.no hS75
       have hd75 : PEq undef (D 34) w82 ∧ PEq (.bool false) (D 25) w82 ∧ True := hd75
       obtain ⟨d155, d156, -⟩ := hd75
       refine dg_sub (E' := [(46, undef), (37, (.bool false))]) ⟨(congrArg some d155), (congrArg some d156), trivial⟩ ?_
       exact dg_off rfl rfl rfl rfl ⟨BX.refl _ _, rfl⟩
      ·
       intro w83 D hS76 hd76
       have hl83 := Le.no M1 hS76
       have hC83 := hC1.no hS76
       have hd76 : PEq undef (D 35) w83 ∧ PEq (.bool false) (D 25) w83 ∧ True := hd76
       obtain ⟨d157, d158, -⟩ := hd76
       refine dg_sub (E' := [(47, undef), (37, (.bool false))]) ⟨(congrArg some d157), (congrArg some d158), trivial⟩ ?_
       exact dg_off rfl rfl rfl rfl ⟨BX.refl _ _, rfl⟩
      ·
       intro w84 D hS77 hd77
       have hl84 := Le.no M1 hS77
       have hC84 := hC1.no hS77
       have hd77 : PEq undef (D 36) w84 ∧ PEq (.bool false) (D 25) w84 ∧ True := hd77
       obtain ⟨d159, d160, -⟩ := hd77
       refine dg_sub (E' := [(48, undef), (37, (.bool false))]) ⟨(congrArg some d159), (congrArg some d160), trivial⟩ ?_
       exact dg_off rfl rfl rfl rfl ⟨BX.refl _ _, rfl⟩
      ·
       intro w85 D hS78 hd78
       have hd78 : PV (RSlice RSpan) M1 a_list (D 0) w85 ∧ PEq (.int .i64 k1) (D 1) w85 ∧ PA RSpan M1 x1 (D 2) w85 ∧ PA RInt M1 x1.Lo (D 3) w85 ∧ PEq (.int .i64 x1.Lo) (D 4) w85 ∧ PV (RSlice RSpan) M1 a_list (D 5) w85 ∧ PEq (.int .i64 k1) (D 6) w85 ∧ PA RSpan M1 x1 (D 7) w85 ∧ PA RInt M1 x1.Hi (D 8) w85 ∧ PEq (.int .i64 x1.Hi) (D 9) w85 ∧ PEq (.bool true) (D 10) w85 ∧ PEq (.bool false) (D 11) w85 ∧ PEq (.bool false) (D 12) w85 ∧ PV (RSlice RSpan) M1 a_list (D 13) w85 ∧ PEq (.int .i64 k1) (D 14) w85 ∧ PA RSpan M1 x1 (D 15) w85 ∧ PA RInt M1 x1.Hi (D 16) w85 ∧ PEq (.int .i64 x1.Hi) (D 17) w85 ∧ PEq (.int .i64 a_top) (D 18) w85 ∧ PEq (.bool true) (D 19) w85 ∧ PEq (.bool false) (D 20) w85 ∧ PEq (.bool false) (D 21) w85 ∧ PEq (.bool false) (D 22) w85 ∧ PEq (.int .i64 k1) (D 23) w85 ∧ PEq (.bool false) (D 24) w85 ∧ PEq (.bool false) (D 25) w85 ∧ PEq undef (D 26) w85 ∧ PEq undef (D 27) w85 ∧ PEq undef (D 28) w85 ∧ PEq undef (D 29) w85 ∧ PEq undef (D 30) w85 ∧ PEq undef (D 31) w85 ∧ PEq undef (D 32) w85 ∧ PEq undef (D 33) w85 ∧ PEq undef (D 34) w85 ∧ PEq undef (D 35) w85 ∧ PEq undef (D 36) w85 ∧ PEq undef (D 37) w85 ∧ True := hd78
       obtain ⟨-, -, -, -, -, -, -, -, -, -, -, -, -, -, -, -, -, -, -, -, -, -, d183, -, -, d186, -, -, -, -, d191, -, -, -, -, -, -, d198, -⟩ := hd78
       have hl85 := Le.no M1 hS78
       have hC85 := hC1.no hS78
       refine lw_sub (E' := [(34, (.bool false)), (37, (.bool false)), (42, undef), (49, undef), (0, v0p), (1, (.int .i64 a_top)), (5, (.int .i64 k1))]) ⟨(congrArg some d183), (congrArg some d186), (congrArg some d191), (congrArg some d198), rfl, rfl, rfl, trivial⟩ ?_
       refine lw_off rfl rfl rfl rfl rfl rfl ?_
       refine lw_on rfl rfl rfl rfl rfl rfl (ow_pickF rfl rfl rfl ?_)
       refine lw_op rfl rfl rfl (ow_pickF rfl rfl rfl ?_)
       refine lw_nil (ew_then (cw_false rfl ?_))
       refine cw_skip (ew_blockN ?_)
       refine ew_then (cw_region (lw_op rfl rfl rfl (ow_move rfl rfl ?_)))
       refine lw_op rfl rfl rfl (ow_add rfl rfl rfl ?_)
       refine lw_op rfl rfl rfl (ow_assign rfl rfl ?_)
       refine lw_nil (ew_nxt (W (k1 + 1)) hb1 fun a ha => ⟨M1, ?_, (hl1.trans hl85), hC85⟩)
       exact ha.sub ⟨rfl, rfl, rfl, trivial⟩
    ·
     subst hc3
     refine cw_sub (E' := [(0, v0p), (1, (.int .i64 a_top)), (5, (.int .i64 k1))]) ⟨rfl, rfl, rfl, trivial⟩ ?_
     refine cw_drawQ 38 [PV (RSlice RSpan) M1 a_list, PEq (.int .i64 k1), PA RSpan M1 x1, PA RInt M1 x1.Lo, PEq (.int .i64 x1.Lo), PV (RSlice RSpan) M1 a_list, PEq (.int .i64 k1), PA RSpan M1 x1, PA RInt M1 x1.Hi, PEq (.int .i64 x1.Hi), PEq (.bool true), PEq (.bool false), PEq (.bool false), PV (RSlice RSpan) M1 a_list, PEq (.int .i64 k1), PA RSpan M1 x1, PA RInt M1 x1.Hi, PEq (.int .i64 x1.Hi), PEq (.int .i64 a_top), PEq (.bool false), PEq (.bool true), PEq (.bool true), PEq (.bool true), PEq undef, PEq undef, PEq undef, PEq undef, PEq undef, PEq undef, PEq undef, PEq undef, PEq undef, PEq undef, PEq undef, PEq undef, PEq undef, PEq undef, PEq undef] (by kernel_rfl) rfl (by kernel_rfl) ⟨PV.mono _ _ _, PEq.mono _, PA.mono _ _ _, PA.mono _ _ _, PEq.mono _, PV.mono _ _ _, PEq.mono _, PA.mono _ _ _, PA.mono _ _ _, PEq.mono _, PEq.mono _, PEq.mono _, PEq.mono _, PV.mono _ _ _, PEq.mono _, PA.mono _ _ _, PA.mono _ _ _, PEq.mono _, PEq.mono _, PEq.mono _, PEq.mono _, PEq.mono _, PEq.mono _, PEq.mono _, PEq.mono _, PEq.mono _, PEq.mono _, PEq.mono _, PEq.mono _, PEq.mono _, PEq.mono _, PEq.mono _, PEq.mono _, PEq.mono _, PEq.mono _, PEq.mono _, PEq.mono _, PEq.mono _, trivial⟩ ⟨?_, ?_, ?_, ?_, ?_, ?_, ?_, ?_, ?_, ?_, ?_, ?_, ?_, ?_, ?_, ?_, ?_, ?_, ?_, ?_, ?_, ?_, ?_, ?_, ?_, ?_, ?_, ?_, ?_, ?_, ?_, ?_, ?_, ?_, ?_, ?_, ?_, ?_, trivial⟩ ?_
     ·
      intro w86 D hS79 hd79
      have hl86 := Le.no M1 hS79
      have hC86 := hC1.no hS79
      refine dg_sub (E' := [(0, v0p)]) ⟨rfl, trivial⟩ ?_
      refine dg_plain rfl (ow_move rfl rfl ?_)
      exact ⟨BX.refl _ _, (VRep.mono (hl1.trans hl86) h0)⟩
     ·
      intro w87 D hS80 hd80
      have hl87 := Le.no M1 hS80
      have hC87 := hC1.no hS80
      refine dg_sub (E' := [(5, (.int .i64 k1))]) ⟨rfl, trivial⟩ ?_
      refine dg_plain rfl (ow_move rfl rfl ?_)
      exact ⟨BX.refl _ _, rfl⟩
     ·
      intro w88 D hS81 hd81
      have hl88 := Le.no M1 hS81
      have hC88 := hC1.no hS81
      have hd81 : PV (RSlice RSpan) M1 a_list (D 0) w88 ∧ PEq (.int .i64 k1) (D 1) w88 ∧ True := hd81
      obtain ⟨d199, d200, -⟩ := hd81
      obtain ⟨v29, hq9⟩ : ∃ v, (D 0) = v := ⟨_, rfl⟩
      rw [hq9] at d199
      refine dg_sub (E' := [(12, v29), (13, (.int .i64 k1))]) ⟨(congrArg some hq9), (congrArg some d200), trivial⟩ ?_
      refine dg_plain rfl (ow_indexSlice (R := RSpan) rfl rfl rfl d199 Tryd.underlying58 (Tryd.sizeOf76 _) hx1 fun p30 hp30 => ?_)
      exact ⟨BX.refl _ _, ⟨_, rfl, hp30⟩⟩
     ·
      intro w89 D hS82 hd82
      have hl89 := Le.no M1 hS82
      have hC89 := hC1.no hS82
      have hd82 : PA RSpan M1 x1 (D 2) w89 ∧ True := hd82
      obtain ⟨d201, -⟩ := hd82
      obtain ⟨p31, e18, ha17⟩ := d201
      refine dg_sub (E' := [(14, (.pointer (some p31)))]) ⟨(congrArg some e18), trivial⟩ ?_
      refine dg_plain rfl (ow_fieldAddr rfl rfl Tryd.underlying76 rfl (Tryd.sizeOf3 _) ?_)
      exact ⟨BX.refl _ _, ⟨_, rfl, (ha17.fld fld_Span_Lo)⟩⟩
     ·
      intro w90 D hS83 hd83
      have hl90 := Le.no M1 hS83
      have hC90 := hC1.no hS83
      have hd83 : PA RInt M1 x1.Lo (D 3) w90 ∧ True := hd83
      obtain ⟨d202, -⟩ := hd83
      obtain ⟨p32, e19, ha18⟩ := d202
      refine dg_sub (E' := [(15, (.pointer (some p32)))]) ⟨(congrArg some e19), trivial⟩ ?_
      refine dg_plain rfl (ow_load (R := RInt) rfl rfl ha18 (Tryd.sizeOf3 _) (Tryd.isAgg3 _) fun v30 hv30 => ?_)
      obtain rfl := vint_eq hv30
      exact ⟨BX.refl _ _, rfl⟩
     ·
      intro w91 D hS84 hd84
      have hl91 := Le.no M1 hS84
      have hC91 := hC1.no hS84
      refine dg_sub (E' := [(0, v0p)]) ⟨rfl, trivial⟩ ?_
      refine dg_plain rfl (ow_move rfl rfl ?_)
      exact ⟨BX.refl _ _, (VRep.mono (hl1.trans hl91) h0)⟩
     ·
      intro w92 D hS85 hd85
      have hl92 := Le.no M1 hS85
      have hC92 := hC1.no hS85
      refine dg_sub (E' := [(5, (.int .i64 k1))]) ⟨rfl, trivial⟩ ?_
      refine dg_plain rfl (ow_move rfl rfl ?_)
      exact ⟨BX.refl _ _, rfl⟩
     ·
      intro w93 D hS86 hd86
      have hl93 := Le.no M1 hS86
      have hC93 := hC1.no hS86
      have hd86 : PV (RSlice RSpan) M1 a_list (D 5) w93 ∧ PEq (.int .i64 k1) (D 6) w93 ∧ True := hd86
      obtain ⟨d203, d204, -⟩ := hd86
      obtain ⟨v31, hq10⟩ : ∃ v, (D 5) = v := ⟨_, rfl⟩
      rw [hq10] at d203
      refine dg_sub (E' := [(17, v31), (18, (.int .i64 k1))]) ⟨(congrArg some hq10), (congrArg some d204), trivial⟩ ?_
      refine dg_plain rfl (ow_indexSlice (R := RSpan) rfl rfl rfl d203 Tryd.underlying58 (Tryd.sizeOf76 _) hx1 fun p33 hp33 => ?_)
      exact ⟨BX.refl _ _, ⟨_, rfl, hp33⟩⟩
     ·
      intro w94 D hS87 hd87
      have hl94 := Le.no M1 hS87
      have hC94 := hC1.no hS87
      have hd87 : PA RSpan M1 x1 (D 7) w94 ∧ True := hd87
      obtain ⟨d205, -⟩ := hd87
      obtain ⟨p34, e20, ha19⟩ := d205
      refine dg_sub (E' := [(19, (.pointer (some p34)))]) ⟨(congrArg some e20), trivial⟩ ?_
      refine dg_plain rfl (ow_fieldAddr rfl rfl Tryd.underlying76 rfl (Tryd.sizeOf3 _) ?_)
      exact ⟨BX.refl _ _, ⟨_, rfl, (ha19.fld fld_Span_Hi)⟩⟩
     ·
      intro w95 D hS88 hd88
      have hl95 := Le.no M1 hS88
      have hC95 := hC1.no hS88
      have hd88 : PA RInt M1 x1.Hi (D 8) w95 ∧ True := hd88
      obtain ⟨d206, -⟩ := hd88
      obtain ⟨p35, e21, ha20⟩ := d206
      refine dg_sub (E' := [(20, (.pointer (some p35)))]) ⟨(congrArg some e21), trivial⟩ ?_
      refine dg_plain rfl (ow_load (R := RInt) rfl rfl ha20 (Tryd.sizeOf3 _) (Tryd.isAgg3 _) fun v32 hv32 => ?_)
      obtain rfl := vint_eq hv32
      exact ⟨BX.refl _ _, rfl⟩
     ·
      intro w96 D hS89 hd89
      have hl96 := Le.no M1 hS89
      have hC96 := hC1.no hS89
      have hd89 : PEq (.int .i64 x1.Lo) (D 4) w96 ∧ PEq (.int .i64 x1.Hi) (D 9) w96 ∧ True := hd89
      obtain ⟨d207, d208, -⟩ := hd89
      refine dg_sub (E' := [(16, (.int .i64 x1.Lo)), (21, (.int .i64 x1.Hi))]) ⟨(congrArg some d207), (congrArg some d208), trivial⟩ ?_
      refine dg_plain rfl (ow_call rfl rfl Tryd.call82 (w_spec_l1In (hG.mono (hl1.trans hl96)) hC96.old hx2) fun v33 w97 hv33 => ?_)
      obtain ⟨hv33, hb8⟩ := hv33
      have hl97 := Le.no M1 hb8
      have hC97 := hC96.no hb8
      obtain rfl := vbool_eq hv33
      exact ⟨hb8, rfl⟩
     ·
      intro w98 D hS90 hd90
      have hl98 := Le.no M1 hS90
      have hC98 := hC1.no hS90
      have hd90 : PEq (.bool true) (D 10) w98 ∧ True := hd90
      obtain ⟨d209, -⟩ := hd90
      refine dg_sub (E' := [(22, (.bool true))]) ⟨(congrArg some d209), trivial⟩ ?_
      refine dg_plain rfl (ow_not rfl rfl ?_)
      exact ⟨BX.refl _ _, rfl⟩
     ·
      intro w99 D hS91 hd91
      have hl99 := Le.no M1 hS91
      have hC99 := hC1.no hS91
      have hd91 : PEq (.bool false) (D 11) w99 ∧ PEq (.bool true) (D 10) w99 ∧ True := hd91
      obtain ⟨d210, d211, -⟩ := hd91
      refine dg_sub (E' := [(23, (.bool false))]) ⟨(congrArg some d210), trivial⟩ ?_
      refine dg_plain rfl (ow_move rfl rfl ?_)
      exact ⟨BX.refl _ _, rfl⟩
     ·
      intro w100 D hS92 hd92
      have hl100 := Le.no M1 hS92
      have hC100 := hC1.no hS92
      have hd92 : PEq (.bool false) (D 12) w100 ∧ True := hd92
      obtain ⟨d212, -⟩ := hd92
      refine dg_sub (E' := [(24, (.bool false)), (0, v0p)]) ⟨(congrArg some d212), rfl, trivial⟩ ?_
      refine dg_on rfl rfl rfl rfl (ow_move rfl rfl ?_)
      exact ⟨BX.refl _ _, (VRep.mono (hl1.trans hl100) h0)⟩
     ·
      intro w101 D hS93 hd93
      have hl101 := Le.no M1 hS93
      have hC101 := hC1.no hS93
      have hd93 : PEq (.bool false) (D 12) w101 ∧ True := hd93
      obtain ⟨d213, -⟩ := hd93
      refine dg_sub (E' := [(24, (.bool false)), (5, (.int .i64 k1))]) ⟨(congrArg some d213), rfl, trivial⟩ ?_
      refine dg_on rfl rfl rfl rfl (ow_move rfl rfl ?_)
      exact ⟨BX.refl _ _, rfl⟩
     ·
      intro w102 D hS94 hd94
      have hl102 := Le.no M1 hS94
      have hC102 := hC1.no hS94
      have hd94 : PV (RSlice RSpan) M1 a_list (D 13) w102 ∧ PEq (.int .i64 k1) (D 14) w102 ∧ PEq (.bool false) (D 12) w102 ∧ True := hd94
      obtain ⟨d214, d215, d216, -⟩ := hd94
      obtain ⟨v34, hq11⟩ : ∃ v, (D 13) = v := ⟨_, rfl⟩
      rw [hq11] at d214
      refine dg_sub (E' := [(25, v34), (26, (.int .i64 k1)), (24, (.bool false))]) ⟨(congrArg some hq11), (congrArg some d215), (congrArg some d216), trivial⟩ ?_
      refine dg_on rfl rfl rfl rfl (ow_indexSlice (R := RSpan) rfl rfl rfl d214 Tryd.underlying58 (Tryd.sizeOf76 _) hx1 fun p36 hp36 => ?_)
      exact ⟨BX.refl _ _, ⟨_, rfl, hp36⟩⟩
     ·
      intro w103 D hS95 hd95
      have hl103 := Le.no M1 hS95
      have hC103 := hC1.no hS95
      have hd95 : PA RSpan M1 x1 (D 15) w103 ∧ PEq (.bool false) (D 12) w103 ∧ True := hd95
      obtain ⟨d217, d218, -⟩ := hd95
      obtain ⟨p37, e22, ha21⟩ := d217
      refine dg_sub (E' := [(27, (.pointer (some p37))), (24, (.bool false))]) ⟨(congrArg some e22), (congrArg some d218), trivial⟩ ?_
      refine dg_on rfl rfl rfl rfl (ow_fieldAddr rfl rfl Tryd.underlying76 rfl (Tryd.sizeOf3 _) ?_)
      exact ⟨BX.refl _ _, ⟨_, rfl, (ha21.fld fld_Span_Hi)⟩⟩
     ·
      intro w104 D hS96 hd96
      have hl104 := Le.no M1 hS96
      have hC104 := hC1.no hS96
      have hd96 : PA RInt M1 x1.Hi (D 16) w104 ∧ PEq (.bool false) (D 12) w104 ∧ True := hd96
      obtain ⟨d219, d220, -⟩ := hd96
      obtain ⟨p38, e23, ha22⟩ := d219
      refine dg_sub (E' := [(28, (.pointer (some p38))), (24, (.bool false))]) ⟨(congrArg some e23), (congrArg some d220), trivial⟩ ?_
      refine dg_on rfl rfl rfl rfl (ow_load (R := RInt) rfl rfl ha22 (Tryd.sizeOf3 _) (Tryd.isAgg3 _) fun v35 hv35 => ?_)
      obtain rfl := vint_eq hv35
      exact ⟨BX.refl _ _, rfl⟩
     ·
      intro w105 D hS97 hd97
      have hl105 := Le.no M1 hS97
      have hC105 := hC1.no hS97
      have hd97 : PEq (.bool false) (D 12) w105 ∧ True := hd97
      obtain ⟨d221, -⟩ := hd97
      refine dg_sub (E' := [(24, (.bool false)), (1, (.int .i64 a_top))]) ⟨(congrArg some d221), rfl, trivial⟩ ?_
      refine dg_on rfl rfl rfl rfl (ow_move rfl rfl ?_)
      exact ⟨BX.refl _ _, rfl⟩
     ·
      intro w106 D hS98 hd98
      have hl106 := Le.no M1 hS98
      have hC106 := hC1.no hS98
      have hd98 : PEq (.int .i64 x1.Hi) (D 17) w106 ∧ PEq (.int .i64 a_top) (D 18) w106 ∧ PEq (.bool false) (D 12) w106 ∧ PEq (.bool false) (D 12) w106 ∧ True := hd98
      obtain ⟨d222, d223, d224, d225, -⟩ := hd98
      refine dg_sub (E' := [(29, (.int .i64 x1.Hi)), (30, (.int .i64 a_top)), (24, (.bool false))]) ⟨(congrArg some d222), (congrArg some d223), (congrArg some d224), trivial⟩ ?_
      refine dg_on rfl rfl rfl rfl (ow_call rfl rfl Tryd.call82 (w_spec_l1In (hG.mono (hl1.trans hl106)) hC106.old hx3) fun v36 w107 hv36 => ?_)
      obtain ⟨hv36, hb9⟩ := hv36
      have hl107 := Le.no M1 hb9
      have hC107 := hC106.no hb9
      obtain rfl := vbool_eq hv36
      exact ⟨hb9, rfl⟩
     ·
      intro w108 D hS99 hd99
      have hl108 := Le.no M1 hS99
      have hC108 := hC1.no hS99
      have hd99 : PEq (.bool false) (D 19) w108 ∧ PEq (.bool false) (D 12) w108 ∧ True := hd99
      obtain ⟨d226, d227, -⟩ := hd99
      refine dg_sub (E' := [(31, (.bool false)), (24, (.bool false))]) ⟨(congrArg some d226), (congrArg some d227), trivial⟩ ?_
      refine dg_on rfl rfl rfl rfl (ow_not rfl rfl ?_)
      exact ⟨BX.refl _ _, rfl⟩
     ·
      intro w109 D hS100 hd100
      have hl109 := Le.no M1 hS100
      have hC109 := hC1.no hS100
      have hd100 : PEq (.bool false) (D 12) w109 ∧ PEq (.bool true) (D 20) w109 ∧ True := hd100
      obtain ⟨d228, d229, -⟩ := hd100
      refine dg_sub (E' := [(24, (.bool false)), (32, (.bool true))]) ⟨(congrArg some d228), (congrArg some d229), trivial⟩ ?_
      refine dg_plain rfl (ow_pickF rfl rfl rfl ?_)
      exact ⟨BX.refl _ _, rfl⟩
     ·
      intro w110 D hS101 hd101
      have hl110 := Le.no M1 hS101
      have hC110 := hC1.no hS101
      have hd101 : PEq (.bool true) (D 21) w110 ∧ PEq (.bool false) (D 19) w110 ∧ True := hd101
      obtain ⟨d230, d231, -⟩ := hd101
      refine dg_sub (E' := [(33, (.bool true))]) ⟨(congrArg some d230), trivial⟩ ?_
      refine dg_plain rfl (ow_move rfl rfl ?_)
      exact ⟨BX.refl _ _, rfl⟩
     ·
      intro w111 D hS102 hd102
      have hl111 := Le.no M1 hS102
      have hC111 := hC1.no hS102
      have hd102 : PEq (.bool true) (D 22) w111 ∧ True := hd102
      obtain ⟨d232, -⟩ := hd102
      refine dg_sub (E' := [(34, (.bool true)), (5, (.int .i64 k1))]) ⟨(congrArg some d232), rfl, trivial⟩ ?_
      exact dg_off rfl rfl rfl rfl ⟨BX.refl _ _, rfl⟩
     ·
      intro w112 D hS103 hd103
      have hl112 := Le.no M1 hS103
      have hC112 := hC1.no hS103
      have hd103 : PEq undef (D 23) w112 ∧ PEq (.bool true) (D 22) w112 ∧ True := hd103
      obtain ⟨d233, d234, -⟩ := hd103
      refine dg_sub (E' := [(35, undef), (34, (.bool true))]) ⟨(congrArg some d233), (congrArg some d234), trivial⟩ ?_
      exact dg_off rfl rfl rfl rfl ⟨BX.refl _ _, rfl⟩
     ·
      intro w113 D hS104 hd104
      have hl113 := Le.no M1 hS104
      have hC113 := hC1.no hS104
      have hd104 : PEq undef (D 24) w113 ∧ PEq (.bool true) (D 22) w113 ∧ PEq (.bool true) (D 22) w113 ∧ True := hd104
      obtain ⟨d235, d236, d237, -⟩ := hd104
      refine dg_sub (E' := [(36, undef), (34, (.bool true))]) ⟨(congrArg some d235), (congrArg some d236), trivial⟩ ?_
      exact dg_off rfl rfl rfl rfl ⟨BX.refl _ _, rfl⟩
     ·
      intro w114 D hS105 hd105
      have hl114 := Le.no M1 hS105
      have hC114 := hC1.no hS105
      have hd105 : PEq undef (D 25) w114 ∧ True := hd105
      obtain ⟨d238, -⟩ := hd105
      refine dg_sub (E' := [(37, undef), (0, v0p)]) ⟨(congrArg some d238), rfl, trivial⟩ ?_
      exact dg_off' rfl rfl rfl rfl ⟨BX.refl _ _, rfl⟩
     ·
      intro w115 D hS106 hd106
      have hl115 := Le.no M1 hS106
      have hC115 := hC1.no hS106
      have hd106 : PEq undef (D 25) w115 ∧ True := hd106
      obtain ⟨d239, -⟩ := hd106
      refine dg_sub (E' := [(37, undef), (5, (.int .i64 k1))]) ⟨(congrArg some d239), rfl, trivial⟩ ?_
      exact dg_off' rfl rfl rfl rfl ⟨BX.refl _ _, rfl⟩
     ·
      intro w116 D hS107 hd107
      have hl116 := Le.no M1 hS107
      have hC116 := hC1.no hS107
      have hd107 : PEq undef (D 26) w116 ∧ PEq undef (D 27) w116 ∧ PEq undef (D 25) w116 ∧ True := hd107
      obtain ⟨d240, d241, d242, -⟩ := hd107
      refine dg_sub (E' := [(38, undef), (39, undef), (37, undef)]) ⟨(congrArg some d240), (congrArg some d241), (congrArg some d242), trivial⟩ ?_
      exact dg_off' rfl rfl rfl rfl ⟨BX.refl _ _, rfl⟩
     ·
      intro w117 D hS108 hd108
      have hl117 := Le.no M1 hS108
      have hC117 := hC1.no hS108
      have hd108 : PEq undef (D 28) w117 ∧ PEq undef (D 25) w117 ∧ True := hd108
      obtain ⟨d243, d244, -⟩ := hd108
      refine dg_sub (E' := [(40, undef), (37, undef)]) ⟨(congrArg some d243), (congrArg some d244), trivial⟩ ?_
      exact dg_off' rfl rfl rfl rfl ⟨BX.refl _ _, rfl⟩
     ·
      intro w118 D hS109 hd109
      have hl118 := Le.no M1 hS109
      have hC118 := hC1.no hS109
      have hd109 : PEq undef (D 29) w118 ∧ PEq undef (D 25) w118 ∧ True := hd109
      obtain ⟨d245, d246, -⟩ := hd109
      refine dg_sub (E' := [(41, undef), (37, undef)]) ⟨(congrArg some d245), (congrArg some d246), trivial⟩ ?_
      exact dg_off' rfl rfl rfl rfl ⟨BX.refl _ _, rfl⟩
     ·
      intro w119 D hS110 hd110
      have hl119 := Le.no M1 hS110
      have hC119 := hC1.no hS110
      have hd110 : PEq undef (D 25) w119 ∧ True := hd110
      obtain ⟨d247, -⟩ := hd110
      refine dg_sub (E' := [(37, undef), (0, v0p)]) ⟨(congrArg some d247), rfl, trivial⟩ ?_
      exact dg_off' rfl rfl rfl rfl ⟨BX.refl _ _, rfl⟩
     ·
      intro w120 D hS111 hd111
      have hl120 := Le.no M1 hS111
      have hC120 := hC1.no hS111
      have hd111 : PEq undef (D 25) w120 ∧ True := hd111
      obtain ⟨d248, -⟩ := hd111
      refine dg_sub (E' := [(37, undef), (5, (.int .i64 k1))]) ⟨(congrArg some d248), rfl, trivial⟩ ?_
      exact dg_off' rfl rfl rfl rfl ⟨BX.refl _ _, rfl⟩
     ·
      intro w121 D hS112 hd112
      have hl121 := Le.no M1 hS112
      have hC121 := hC1.no hS112
      have hd112 : PEq undef (D 32) w121 ∧ PEq undef (D 25) w121 ∧ True := hd112
      obtain ⟨d249, d250, -⟩ := hd112
      refine dg_sub (E' := [(44, undef), (37, undef)]) ⟨(congrArg some d249), (congrArg some d250), trivial⟩ ?_
      exact dg_off' rfl rfl rfl rfl ⟨BX.refl _ _, rfl⟩
     ·
      intro w122 D hS113 hd113
      have hl122 := Le.no M1 hS113
      have hC122 := hC1.no hS113
      have hd113 : PEq undef (D 31) w122 ∧ PEq undef (D 33) w122 ∧ PEq undef (D 25) w122 ∧ True := hd113
      obtain ⟨d251, d252, d253, -⟩ := hd113
      refine dg_sub (E' := [(43, undef), (45, undef), (37, undef)]) ⟨(congrArg some d251), (congrArg some d252), (congrArg some d253), trivial⟩ ?_
      exact dg_off' rfl rfl rfl rfl ⟨BX.refl _ _, rfl⟩
     ·
      intro w123 D hS114 hd114
      have hl123 := Le.no M1 hS114
      have hC123 := hC1.no hS114
      have hd114 : PEq undef (D 34) w123 ∧ PEq undef (D 25) w123 ∧ True := hd114
      obtain ⟨d254, d255, -⟩ := hd114
      refine dg_sub (E' := [(46, undef), (37, undef)]) ⟨(congrArg some d254), (congrArg some d255), trivial⟩ ?_
      exact dg_off' rfl rfl rfl rfl ⟨BX.refl _ _, rfl⟩
     ·
      intro w124 D hS115 hd115
      have hl124 := Le.no M1 hS115
      have hC124 := hC1.no hS115
      have hd115 : PEq undef (D 35) w124 ∧ PEq undef (D 25) w124 ∧ True := hd115
      obtain ⟨d256, d257, -⟩ := hd115
      refine dg_sub (E' := [(47, undef), (37, undef)]) ⟨(congrArg some d256), (congrArg some d257), trivial⟩ ?_
      exact dg_off' rfl rfl rfl rfl ⟨BX.refl _ _, rfl⟩
     ·
      intro w125 D hS116 hd116
      have hl125 := Le.no M1 hS116
      have hC125 := hC1.no hS116
      have hd116 : PEq undef (D 36) w125 ∧ PEq undef (D 25) w125 ∧ True := hd116
      obtain ⟨d258, d259, -⟩ := hd116
      refine dg_sub (E' := [(48, undef), (37, undef)]) ⟨(congrArg some d258), (congrArg some d259), trivial⟩ ?_
      exact dg_off' rfl rfl rfl rfl ⟨BX.refl _ _, rfl⟩
     ·
      intro w126 D hS117 hd117
      have hd117 : PV (RSlice RSpan) M1 a_list (D 0) w126 ∧ PEq (.int .i64 k1) (D 1) w126 ∧ PA RSpan M1 x1 (D 2) w126 ∧ PA RInt M1 x1.Lo (D 3) w126 ∧ PEq (.int .i64 x1.Lo) (D 4) w126 ∧ PV (RSlice RSpan) M1 a_list (D 5) w126 ∧ PEq (.int .i64 k1) (D 6) w126 ∧ PA RSpan M1 x1 (D 7) w126 ∧ PA RInt M1 x1.Hi (D 8) w126 ∧ PEq (.int .i64 x1.Hi) (D 9) w126 ∧ PEq (.bool true) (D 10) w126 ∧ PEq (.bool false) (D 11) w126 ∧ PEq (.bool false) (D 12) w126 ∧ PV (RSlice RSpan) M1 a_list (D 13) w126 ∧ PEq (.int .i64 k1) (D 14) w126 ∧ PA RSpan M1 x1 (D 15) w126 ∧ PA RInt M1 x1.Hi (D 16) w126 ∧ PEq (.int .i64 x1.Hi) (D 17) w126 ∧ PEq (.int .i64 a_top) (D 18) w126 ∧ PEq (.bool false) (D 19) w126 ∧ PEq (.bool true) (D 20) w126 ∧ PEq (.bool true) (D 21) w126 ∧ PEq (.bool true) (D 22) w126 ∧ PEq undef (D 23) w126 ∧ PEq undef (D 24) w126 ∧ PEq undef (D 25) w126 ∧ PEq undef (D 26) w126 ∧ PEq undef (D 27) w126 ∧ PEq undef (D 28) w126 ∧ PEq undef (D 29) w126 ∧ PEq undef (D 30) w126 ∧ PEq undef (D 31) w126 ∧ PEq undef (D 32) w126 ∧ PEq undef (D 33) w126 ∧ PEq undef (D 34) w126 ∧ PEq undef (D 35) w126 ∧ PEq undef (D 36) w126 ∧ PEq undef (D 37) w126 ∧ True := hd117
      obtain ⟨-, -, -, -, -, -, -, -, -, -, -, -, -, -, -, -, -, -, -, -, -, -, d282, -, -, d285, -, -, -, -, d290, -, -, -, -, -, -, d297, -⟩ := hd117
      have hl126 := Le.no M1 hS117
      have hC126 := hC1.no hS117
      refine lw_sub (E' := [(34, (.bool true)), (37, undef), (42, undef), (49, undef), (0, v0p), (1, (.int .i64 a_top)), (5, (.int .i64 k1))]) ⟨(congrArg some d282), (congrArg some d285), (congrArg some d290), (congrArg some d297), rfl, rfl, rfl, trivial⟩ ?_
      refine lw_off' rfl rfl rfl rfl rfl rfl ?_
      refine lw_off rfl rfl rfl rfl rfl rfl ?_
      refine lw_op rfl rfl rfl (ow_pickT rfl rfl rfl ?_)
      refine lw_nil (ew_then (cw_true rfl ?_))
      refine cw_seq (cw_region (lw_op rfl rfl rfl (ow_assign rfl rfl ?_)))
      refine lw_nil (ew_then (cw_ret (ew_blockR ?_)))
      refine ew_thenR (ew_thenR (ew_blockR ?_))
      refine ew_brkR ?_
      refine ew_thenR ?_
      have e24 := hR1 _ (Option.some.inj hb1).symm
      subst e24
      obtain rfl := Option.some.inj h
      exact ew_ret (res1 rfl (.tmp rfl)) ⟨_, rfl, ((vbool _)), hC126.bx⟩
   ·
    subst hc2
    refine cw_sub (E' := [(0, v0p), (1, (.int .i64 a_top)), (5, (.int .i64 k1))]) ⟨rfl, rfl, rfl, trivial⟩ ?_
    refine cw_drawQ 38 [PV (RSlice RSpan) M1 a_list, PEq (.int .i64 k1), PA RSpan M1 x1, PA RInt M1 x1.Lo, PEq (.int .i64 x1.Lo), PV (RSlice RSpan) M1 a_list, PEq (.int .i64 k1), PA RSpan M1 x1, PA RInt M1 x1.Hi, PEq (.int .i64 x1.Hi), PEq (.bool false), PEq (.bool true), PEq (.bool true), PEq undef, PEq undef, PEq undef, PEq undef, PEq undef, PEq undef, PEq undef, PEq undef, PEq (.bool true), PEq (.bool true), PEq undef, PEq undef, PEq undef, PEq undef, PEq undef, PEq undef, PEq undef, PEq undef, PEq undef, PEq undef, PEq undef, PEq undef, PEq undef, PEq undef, PEq undef] (by kernel_rfl) rfl (by kernel_rfl) ⟨PV.mono _ _ _, PEq.mono _, PA.mono _ _ _, PA.mono _ _ _, PEq.mono _, PV.mono _ _ _, PEq.mono _, PA.mono _ _ _, PA.mono _ _ _, PEq.mono _, PEq.mono _, PEq.mono _, PEq.mono _, PEq.mono _, PEq.mono _, PEq.mono _, PEq.mono _, PEq.mono _, PEq.mono _, PEq.mono _, PEq.mono _, PEq.mono _, PEq.mono _, PEq.mono _, PEq.mono _, PEq.mono _, PEq.mono _, PEq.mono _, PEq.mono _, PEq.mono _, PEq.mono _, PEq.mono _, PEq.mono _, PEq.mono _, PEq.mono _, PEq.mono _, PEq.mono _, PEq.mono _, trivial⟩ ⟨?_, ?_, ?_, ?_, ?_, ?_, ?_, ?_, ?_, ?_, ?_, ?_, ?_, ?_, ?_, ?_, ?_, ?_, ?_, ?_, ?_, ?_, ?_, ?_, ?_, ?_, ?_, ?_, ?_, ?_, ?_, ?_, ?_, ?_, ?_, ?_, ?_, ?_, trivial⟩ ?_
    ·
     intro w127 D hS118 hd118
     have hl127 := Le.no M1 hS118
     have hC127 := hC1.no hS118
     refine dg_sub (E' := [(0, v0p)]) ⟨rfl, trivial⟩ ?_
     refine dg_plain rfl (ow_move rfl rfl ?_)
     exact ⟨BX.refl _ _, (VRep.mono (hl1.trans hl127) h0)⟩
    ·
     intro w128 D hS119 hd119
     have hl128 := Le.no M1 hS119
     have hC128 := hC1.no hS119
     refine dg_sub (E' := [(5, (.int .i64 k1))]) ⟨rfl, trivial⟩ ?_
     refine dg_plain rfl (ow_move rfl rfl ?_)
     exact ⟨BX.refl _ _, rfl⟩
    ·
     intro w129 D hS120 hd120
     have hl129 := Le.no M1 hS120
     have hC129 := hC1.no hS120
     have hd120 : PV (RSlice RSpan) M1 a_list (D 0) w129 ∧ PEq (.int .i64 k1) (D 1) w129 ∧ True := hd120
     obtain ⟨d298, d299, -⟩ := hd120
     obtain ⟨v37, hq12⟩ : ∃ v, (D 0) = v := ⟨_, rfl⟩
     rw [hq12] at d298
     refine dg_sub (E' := [(12, v37), (13, (.int .i64 k1))]) ⟨(congrArg some hq12), (congrArg some d299), trivial⟩ ?_
     refine dg_plain rfl (ow_indexSlice (R := RSpan) rfl rfl rfl d298 Tryd.underlying58 (Tryd.sizeOf76 _) hx1 fun p39 hp39 => ?_)
     exact ⟨BX.refl _ _, ⟨_, rfl, hp39⟩⟩
    ·
     intro w130 D hS121 hd121
     have hl130 := Le.no M1 hS121
     have hC130 := hC1.no hS121
     have hd121 : PA RSpan M1 x1 (D 2) w130 ∧ True := hd121
     obtain ⟨d300, -⟩ := hd121
     obtain ⟨p40, e25, ha23⟩ := d300
     refine dg_sub (E' := [(14, (.pointer (some p40)))]) ⟨(congrArg some e25), trivial⟩ ?_
     refine dg_plain rfl (ow_fieldAddr rfl rfl Tryd.underlying76 rfl (Tryd.sizeOf3 _) ?_)
     exact ⟨BX.refl _ _, ⟨_, rfl, (ha23.fld fld_Span_Lo)⟩⟩
    ·
     intro w131 D hS122 hd122
     have hl131 := Le.no M1 hS122
     have hC131 := hC1.no hS122
     have hd122 : PA RInt M1 x1.Lo (D 3) w131 ∧ True := hd122
     obtain ⟨d301, -⟩ := hd122
     obtain ⟨p41, e26, ha24⟩ := d301
     refine dg_sub (E' := [(15, (.pointer (some p41)))]) ⟨(congrArg some e26), trivial⟩ ?_
     refine dg_plain rfl (ow_load (R := RInt) rfl rfl ha24 (Tryd.sizeOf3 _) (Tryd.isAgg3 _) fun v38 hv38 => ?_)
     obtain rfl := vint_eq hv38
     exact ⟨BX.refl _ _, rfl⟩
    ·
     intro w132 D hS123 hd123
     have hl132 := Le.no M1 hS123
     have hC132 := hC1.no hS123
     refine dg_sub (E' := [(0, v0p)]) ⟨rfl, trivial⟩ ?_
     refine dg_plain rfl (ow_move rfl rfl ?_)
     exact ⟨BX.refl _ _, (VRep.mono (hl1.trans hl132) h0)⟩
    ·
     intro w133 D hS124 hd124
     have hl133 := Le.no M1 hS124
     have hC133 := hC1.no hS124
     refine dg_sub (E' := [(5, (.int .i64 k1))]) ⟨rfl, trivial⟩ ?_
     refine dg_plain rfl (ow_move rfl rfl ?_)
     exact ⟨BX.refl _ _, rfl⟩
    ·
     intro w134 D hS125 hd125
     have hl134 := Le.no M1 hS125
     have hC134 := hC1.no hS125
     have hd125 : PV (RSlice RSpan) M1 a_list (D 5) w134 ∧ PEq (.int .i64 k1) (D 6) w134 ∧ True := hd125
     obtain ⟨d302, d303, -⟩ := hd125
     obtain ⟨v39, hq13⟩ : ∃ v, (D 5) = v := ⟨_, rfl⟩
     rw [hq13] at d302
     refine dg_sub (E' := [(17, v39), (18, (.int .i64 k1))]) ⟨(congrArg some hq13), (congrArg some d303), trivial⟩ ?_
     refine dg_plain rfl (ow_indexSlice (R := RSpan) rfl rfl rfl d302 Tryd.underlying58 (Tryd.sizeOf76 _) hx1 fun p42 hp42 => ?_)
     exact ⟨BX.refl _ _, ⟨_, rfl, hp42⟩⟩
    ·
     intro w135 D hS126 hd126
     have hl135 := Le.no M1 hS126
     have hC135 := hC1.no hS126
     have hd126 : PA RSpan M1 x1 (D 7) w135 ∧ True := hd126
     obtain ⟨d304, -⟩ := hd126
     obtain ⟨p43, e27, ha25⟩ := d304
     refine dg_sub (E' := [(19, (.pointer (some p43)))]) ⟨(congrArg some e27), trivial⟩ ?_
     refine dg_plain rfl (ow_fieldAddr rfl rfl Tryd.underlying76 rfl (Tryd.sizeOf3 _) ?_)
     exact ⟨BX.refl _ _, ⟨_, rfl, (ha25.fld fld_Span_Hi)⟩⟩
    ·
     intro w136 D hS127 hd127
     have hl136 := Le.no M1 hS127
     have hC136 := hC1.no hS127
     have hd127 : PA RInt M1 x1.Hi (D 8) w136 ∧ True := hd127
     obtain ⟨d305, -⟩ := hd127
     obtain ⟨p44, e28, ha26⟩ := d305
     refine dg_sub (E' := [(20, (.pointer (some p44)))]) ⟨(congrArg some e28), trivial⟩ ?_
     refine dg_plain rfl (ow_load (R := RInt) rfl rfl ha26 (Tryd.sizeOf3 _) (Tryd.isAgg3 _) fun v40 hv40 => ?_)
     obtain rfl := vint_eq hv40
     exact ⟨BX.refl _ _, rfl⟩
    ·
     intro w137 D hS128 hd128
     have hl137 := Le.no M1 hS128
     have hC137 := hC1.no hS128
     have hd128 : PEq (.int .i64 x1.Lo) (D 4) w137 ∧ PEq (.int .i64 x1.Hi) (D 9) w137 ∧ True := hd128
     obtain ⟨d306, d307, -⟩ := hd128
     refine dg_sub (E' := [(16, (.int .i64 x1.Lo)), (21, (.int .i64 x1.Hi))]) ⟨(congrArg some d306), (congrArg some d307), trivial⟩ ?_
     refine dg_plain rfl (ow_call rfl rfl Tryd.call82 (w_spec_l1In (hG.mono (hl1.trans hl137)) hC137.old hx2) fun v41 w138 hv41 => ?_)
     obtain ⟨hv41, hb10⟩ := hv41
     have hl138 := Le.no M1 hb10
     have hC138 := hC137.no hb10
     obtain rfl := vbool_eq hv41
     exact ⟨hb10, rfl⟩
    ·
     intro w139 D hS129 hd129
     have hl139 := Le.no M1 hS129
     have hC139 := hC1.no hS129
     have hd129 : PEq (.bool false) (D 10) w139 ∧ True := hd129
     obtain ⟨d308, -⟩ := hd129
     refine dg_sub (E' := [(22, (.bool false))]) ⟨(congrArg some d308), trivial⟩ ?_
     refine dg_plain rfl (ow_not rfl rfl ?_)
     exact ⟨BX.refl _ _, rfl⟩
    ·
     intro w140 D hS130 hd130
     have hl140 := Le.no M1 hS130
     have hC140 := hC1.no hS130
     have hd130 : PEq (.bool true) (D 11) w140 ∧ PEq (.bool false) (D 10) w140 ∧ True := hd130
     obtain ⟨d309, d310, -⟩ := hd130
     refine dg_sub (E' := [(23, (.bool true))]) ⟨(congrArg some d309), trivial⟩ ?_
     refine dg_plain rfl (ow_move rfl rfl ?_)
     exact ⟨BX.refl _ _, rfl⟩
    ·
     intro w141 D hS131 hd131
     have hl141 := Le.no M1 hS131
     have hC141 := hC1.no hS131
     have hd131 : PEq (.bool true) (D 12) w141 ∧ True := hd131
     obtain ⟨d311, -⟩ := hd131
     refine dg_sub (E' := [(24, (.bool true)), (0, v0p)]) ⟨(congrArg some d311), rfl, trivial⟩ ?_
     exact dg_off rfl rfl rfl rfl ⟨BX.refl _ _, rfl⟩
    ·
     intro w142 D hS132 hd132
     have hl142 := Le.no M1 hS132
     have hC142 := hC1.no hS132
     have hd132 : PEq (.bool true) (D 12) w142 ∧ True := hd132
     obtain ⟨d312, -⟩ := hd132
     refine dg_sub (E' := [(24, (.bool true)), (5, (.int .i64 k1))]) ⟨(congrArg some d312), rfl, trivial⟩ ?_
     exact dg_off rfl rfl rfl rfl ⟨BX.refl _ _, rfl⟩
    ·
     intro w143 D hS133 hd133
     have hl143 := Le.no M1 hS133
     have hC143 := hC1.no hS133
     have hd133 : PEq undef (D 13) w143 ∧ PEq undef (D 14) w143 ∧ PEq (.bool true) (D 12) w143 ∧ True := hd133
     obtain ⟨d313, d314, d315, -⟩ := hd133
     refine dg_sub (E' := [(25, undef), (26, undef), (24, (.bool true))]) ⟨(congrArg some d313), (congrArg some d314), (congrArg some d315), trivial⟩ ?_
     exact dg_off rfl rfl rfl rfl ⟨BX.refl _ _, rfl⟩
    ·
     intro w144 D hS134 hd134
     have hl144 := Le.no M1 hS134
     have hC144 := hC1.no hS134
     have hd134 : PEq undef (D 15) w144 ∧ PEq (.bool true) (D 12) w144 ∧ True := hd134
     obtain ⟨d316, d317, -⟩ := hd134
     refine dg_sub (E' := [(27, undef), (24, (.bool true))]) ⟨(congrArg some d316), (congrArg some d317), trivial⟩ ?_
     exact dg_off rfl rfl rfl rfl ⟨BX.refl _ _, rfl⟩
    ·
     intro w145 D hS135 hd135
     have hl145 := Le.no M1 hS135
     have hC145 := hC1.no hS135
     have hd135 : PEq undef (D 16) w145 ∧ PEq (.bool true) (D 12) w145 ∧ True := hd135
     obtain ⟨d318, d319, -⟩ := hd135
     refine dg_sub (E' := [(28, undef), (24, (.bool true))]) ⟨(congrArg some d318), (congrArg some d319), trivial⟩ ?_
     exact dg_off rfl rfl rfl rfl ⟨BX.refl _ _, rfl⟩
    ·
     intro w146 D hS136 hd136
     have hl146 := Le.no M1 hS136
     have hC146 := hC1.no hS136
     have hd136 : PEq (.bool true) (D 12) w146 ∧ True := hd136
     obtain ⟨d320, -⟩ := hd136
     refine dg_sub (E' := [(24, (.bool true)), (1, (.int .i64 a_top))]) ⟨(congrArg some d320), rfl, trivial⟩ ?_
     exact dg_off rfl rfl rfl rfl ⟨BX.refl _ _, rfl⟩
    ·
     intro w147 D hS137 hd137
     have hl147 := Le.no M1 hS137
     have hC147 := hC1.no hS137
     have hd137 : PEq undef (D 17) w147 ∧ PEq undef (D 18) w147 ∧ PEq (.bool true) (D 12) w147 ∧ PEq (.bool true) (D 12) w147 ∧ True := hd137
     obtain ⟨d321, d322, d323, d324, -⟩ := hd137
     refine dg_sub (E' := [(29, undef), (30, undef), (24, (.bool true))]) ⟨(congrArg some d321), (congrArg some d322), (congrArg some d323), trivial⟩ ?_
     exact dg_off rfl rfl rfl rfl ⟨BX.refl _ _, rfl⟩
    ·
     intro w148 D hS138 hd138
     have hl148 := Le.no M1 hS138
     have hC148 := hC1.no hS138
     have hd138 : PEq undef (D 19) w148 ∧ PEq (.bool true) (D 12) w148 ∧ True := hd138
     obtain ⟨d325, d326, -⟩ := hd138
     refine dg_sub (E' := [(31, undef), (24, (.bool true))]) ⟨(congrArg some d325), (congrArg some d326), trivial⟩ ?_
     exact dg_off rfl rfl rfl rfl ⟨BX.refl _ _, rfl⟩
    ·
     intro w149 D hS139 hd139
     have hl149 := Le.no M1 hS139
     have hC149 := hC1.no hS139
     have hd139 : PEq (.bool true) (D 12) w149 ∧ PEq undef (D 20) w149 ∧ True := hd139
     obtain ⟨d327, d328, -⟩ := hd139
     refine dg_sub (E' := [(24, (.bool true)), (32, undef)]) ⟨(congrArg some d327), (congrArg some d328), trivial⟩ ?_
     refine dg_plain rfl (ow_pickT rfl rfl rfl ?_)
     exact ⟨BX.refl _ _, rfl⟩
    ·
     intro w150 D hS140 hd140
     have hl150 := Le.no M1 hS140
     have hC150 := hC1.no hS140
     have hd140 : PEq (.bool true) (D 21) w150 ∧ PEq undef (D 19) w150 ∧ True := hd140
     obtain ⟨d329, d330, -⟩ := hd140
     refine dg_sub (E' := [(33, (.bool true))]) ⟨(congrArg some d329), trivial⟩ ?_
     refine dg_plain rfl (ow_move rfl rfl ?_)
     exact ⟨BX.refl _ _, rfl⟩
    ·
     intro w151 D hS141 hd141
     have hl151 := Le.no M1 hS141
     have hC151 := hC1.no hS141
     have hd141 : PEq (.bool true) (D 22) w151 ∧ True := hd141
     obtain ⟨d331, -⟩ := hd141
     refine dg_sub (E' := [(34, (.bool true)), (5, (.int .i64 k1))]) ⟨(congrArg some d331), rfl, trivial⟩ ?_
     exact dg_off rfl rfl rfl rfl ⟨BX.refl _ _, rfl⟩
    ·
     intro w152 D hS142 hd142
     have hl152 := Le.no M1 hS142
     have hC152 := hC1.no hS142
     have hd142 : PEq undef (D 23) w152 ∧ PEq (.bool true) (D 22) w152 ∧ True := hd142
     obtain ⟨d332, d333, -⟩ := hd142
     refine dg_sub (E' := [(35, undef), (34, (.bool true))]) ⟨(congrArg some d332), (congrArg some d333), trivial⟩ ?_
     exact dg_off rfl rfl rfl rfl ⟨BX.refl _ _, rfl⟩
    ·
     intro w153 D hS143 hd143
     have hl153 := Le.no M1 hS143
     have hC153 := hC1.no hS143
     have hd143 : PEq undef (D 24) w153 ∧ PEq (.bool true) (D 22) w153 ∧ PEq (.bool true) (D 22) w153 ∧ True := hd143
     obtain ⟨d334, d335, d336, -⟩ := hd143
     refine dg_sub (E' := [(36, undef), (34, (.bool true))]) ⟨(congrArg some d334), (congrArg some d335), trivial⟩ ?_
     exact dg_off rfl rfl rfl rfl ⟨BX.refl _ _, rfl⟩
    ·
     intro w154 D hS144 hd144
     have hl154 := Le.no M1 hS144
     have hC154 := hC1.no hS144
     have hd144 : PEq undef (D 25) w154 ∧ True := hd144
     obtain ⟨d337, -⟩ := hd144
     refine dg_sub (E' := [(37, undef), (0, v0p)]) ⟨(congrArg some d337), rfl, trivial⟩ ?_
     exact dg_off' rfl rfl rfl rfl ⟨BX.refl _ _, rfl⟩
    ·
     intro w155 D hS145 hd145
     have hl155 := Le.no M1 hS145
     have hC155 := hC1.no hS145
     have hd145 : PEq undef (D 25) w155 ∧ True := hd145
     obtain ⟨d338, -⟩ := hd145
     refine dg_sub (E' := [(37, undef), (5, (.int .i64 k1))]) ⟨(congrArg some d338), rfl, trivial⟩ ?_
     exact dg_off' rfl rfl rfl rfl ⟨BX.refl _ _, rfl⟩
    ·
     intro w156 D hS146 hd146
     have hl156 := Le.no M1 hS146
     have hC156 := hC1.no hS146
     have hd146 : PEq undef (D 26) w156 ∧ PEq undef (D 27) w156 ∧ PEq undef (D 25) w156 ∧ True := hd146
     obtain ⟨d339, d340, d341, -⟩ := hd146
     refine dg_sub (E' := [(38, undef), (39, undef), (37, undef)]) ⟨(congrArg some d339), (congrArg some d340), (congrArg some d341), trivial⟩ ?_
     exact dg_off' rfl rfl rfl rfl ⟨BX.refl _ _, rfl⟩
    ·
     intro w157 D hS147 hd147
     have hl157 := Le.no M1 hS147
     have hC157 := hC1.no hS147
     have hd147 : PEq undef (D 28) w157 ∧ PEq undef (D 25) w157 ∧ True := hd147
     obtain ⟨d342, d343, -⟩ := hd147
     refine dg_sub (E' := [(40, undef), (37, undef)]) ⟨(congrArg some d342), (congrArg some d343), trivial⟩ ?_
     exact dg_off' rfl rfl rfl rfl ⟨BX.refl _ _, rfl⟩
    ·
     intro w158 D hS148 hd148
     have hl158 := Le.no M1 hS148
     have hC158 := hC1.no hS148
     have hd148 : PEq undef (D 29) w158 ∧ PEq undef (D 25) w158 ∧ True := hd148
     obtain ⟨d344, d345, -⟩ := hd148
     refine dg_sub (E' := [(41, undef), (37, undef)]) ⟨(congrArg some d344), (congrArg some d345), trivial⟩ ?_
     exact dg_off' rfl rfl rfl rfl ⟨BX.refl _ _, rfl⟩
    ·
     intro w159 D hS149 hd149
     have hl159 := Le.no M1 hS149
     have hC159 := hC1.no hS149
     have hd149 : PEq undef (D 25) w159 ∧ True := hd149
     obtain ⟨d346, -⟩ := hd149
     refine dg_sub (E' := [(37, undef), (0, v0p)]) ⟨(congrArg some d346), rfl, trivial⟩ ?_
     exact dg_off' rfl rfl rfl rfl ⟨BX.refl _ _, rfl⟩
    ·
     intro w160 D hS150 hd150
     have hl160 := Le.no M1 hS150
     have hC160 := hC1.no hS150
     have hd150 : PEq undef (D 25) w160 ∧ True := hd150
     obtain ⟨d347, -⟩ := hd150
     refine dg_sub (E' := [(37, undef), (5, (.int .i64 k1))]) ⟨(congrArg some d347), rfl, trivial⟩ ?_
     exact dg_off' rfl rfl rfl rfl ⟨BX.refl _ _, rfl⟩
    ·
     intro w161 D hS151 hd151
     have hl161 := Le.no M1 hS151
     have hC161 := hC1.no hS151
     have hd151 : PEq undef (D 32) w161 ∧ PEq undef (D 25) w161 ∧ True := hd151
     obtain ⟨d348, d349, -⟩ := hd151
     refine dg_sub (E' := [(44, undef), (37, undef)]) ⟨(congrArg some d348), (congrArg some d349), trivial⟩ ?_
     exact dg_off' rfl rfl rfl rfl ⟨BX.refl _ _, rfl⟩
    ·
     intro w162 D hS152 hd152
     have hl162 := Le.no M1 hS152
     have hC162 := hC1.no hS152
     have hd152 : PEq undef (D 31) w162 ∧ PEq undef (D 33) w162 ∧ PEq undef (D 25) w162 ∧ True := hd152
     obtain ⟨d350, d351, d352, -⟩ := hd152
     refine dg_sub (E' := [(43, undef), (45, undef), (37, undef)]) ⟨(congrArg some d350), (congrArg some d351), (congrArg some d352), trivial⟩ ?_
     exact dg_off' rfl rfl rfl rfl ⟨BX.refl _ _, rfl⟩
    ·
     intro w163 D hS153 hd153
     have hl163 := Le.no M1 hS153
     have hC163 := hC1.no hS153
     have hd153 : PEq undef (D 34) w163 ∧ PEq undef (D 25) w163 ∧ True := hd153
     obtain ⟨d353, d354, -⟩ := hd153
     refine dg_sub (E' := [(46, undef), (37, undef)]) ⟨(congrArg some d353), (congrArg some d354), trivial⟩ ?_
     exact dg_off' rfl rfl rfl rfl ⟨BX.refl _ _, rfl⟩
    ·
     intro w164 D hS154 hd154
     have hl164 := Le.no M1 hS154
     have hC164 := hC1.no hS154
     have hd154 : PEq undef (D 35) w164 ∧ PEq undef (D 25) w164 ∧ True := hd154
     obtain ⟨d355, d356, -⟩ := hd154
     refine dg_sub (E' := [(47, undef), (37, undef)]) ⟨(congrArg some d355), (congrArg some d356), trivial⟩ ?_
     exact dg_off' rfl rfl rfl rfl ⟨BX.refl _ _, rfl⟩
    ·
     intro w165 D hS155 hd155
     have hl165 := Le.no M1 hS155
     have hC165 := hC1.no hS155
     have hd155 : PEq undef (D 36) w165 ∧ PEq undef (D 25) w165 ∧ True := hd155
     obtain ⟨d357, d358, -⟩ := hd155
     refine dg_sub (E' := [(48, undef), (37, undef)]) ⟨(congrArg some d357), (congrArg some d358), trivial⟩ ?_
     exact dg_off' rfl rfl rfl rfl ⟨BX.refl _ _, rfl⟩
    ·
     intro w166 D hS156 hd156
     have hd156 : PV (RSlice RSpan) M1 a_list (D 0) w166 ∧ PEq (.int .i64 k1) (D 1) w166 ∧ PA RSpan M1 x1 (D 2) w166 ∧ PA RInt M1 x1.Lo (D 3) w166 ∧ PEq (.int .i64 x1.Lo) (D 4) w166 ∧ PV (RSlice RSpan) M1 a_list (D 5) w166 ∧ PEq (.int .i64 k1) (D 6) w166 ∧ PA RSpan M1 x1 (D 7) w166 ∧ PA RInt M1 x1.Hi (D 8) w166 ∧ PEq (.int .i64 x1.Hi) (D 9) w166 ∧ PEq (.bool false) (D 10) w166 ∧ PEq (.bool true) (D 11) w166 ∧ PEq (.bool true) (D 12) w166 ∧ PEq undef (D 13) w166 ∧ PEq undef (D 14) w166 ∧ PEq undef (D 15) w166 ∧ PEq undef (D 16) w166 ∧ PEq undef (D 17) w166 ∧ PEq undef (D 18) w166 ∧ PEq undef (D 19) w166 ∧ PEq undef (D 20) w166 ∧ PEq (.bool true) (D 21) w166 ∧ PEq (.bool true) (D 22) w166 ∧ PEq undef (D 23) w166 ∧ PEq undef (D 24) w166 ∧ PEq undef (D 25) w166 ∧ PEq undef (D 26) w166 ∧ PEq undef (D 27) w166 ∧ PEq undef (D 28) w166 ∧ PEq undef (D 29) w166 ∧ PEq undef (D 30) w166 ∧ PEq undef (D 31) w166 ∧ PEq undef (D 32) w166 ∧ PEq undef (D 33) w166 ∧ PEq undef (D 34) w166 ∧ PEq undef (D 35) w166 ∧ PEq undef (D 36) w166 ∧ PEq undef (D 37) w166 ∧ True := hd156
     obtain ⟨-, -, -, -, -, -, -, -, -, -, -, -, -, -, -, -, -, -, -, -, -, -, d381, -, -, d384, -, -, -, -, d389, -, -, -, -, -, -, d396, -⟩ := hd156
     have hl166 := Le.no M1 hS156
     have hC166 := hC1.no hS156
     refine lw_sub (E' := [(34, (.bool true)), (37, undef), (42, undef), (49, undef), (0, v0p), (1, (.int .i64 a_top)), (5, (.int .i64 k1))]) ⟨(congrArg some d381), (congrArg some d384), (congrArg some d389), (congrArg some d396), rfl, rfl, rfl, trivial⟩ ?_
     refine lw_off' rfl rfl rfl rfl rfl rfl ?_
     refine lw_off rfl rfl rfl rfl rfl rfl ?_
     refine lw_op rfl rfl rfl (ow_pickT rfl rfl rfl ?_)
     refine lw_nil (ew_then (cw_true rfl ?_))
     refine cw_seq (cw_region (lw_op rfl rfl rfl (ow_assign rfl rfl ?_)))
     refine lw_nil (ew_then (cw_ret (ew_blockR ?_)))
     refine ew_thenR (ew_thenR (ew_blockR ?_))
     refine ew_brkR ?_
     refine ew_thenR ?_
     have e29 := hR1 _ (Option.some.inj hb1).symm
     subst e29
     obtain rfl := Option.some.inj h
     exact ew_ret (res1 rfl (.tmp rfl)) ⟨_, rfl, ((vbool _)), hC166.bx⟩
  ·
   obtain rfl := hbb1.trans hc1
   refine cw_false rfl ?_
   refine cw_exit ?_
   refine ew_thenX ?_
   refine ew_thenX ?_
   refine ew_blockX ?_
   refine ew_brk k1 hb1 fun a ha => ⟨M1, ?_, hl1, hC1⟩
   exact ha.sub ⟨rfl, rfl, rfl, trivial⟩
 ·
  rintro k2 a w167 hlr2 ⟨M2, hF2, hl167, hC167⟩
  subst hlr2
  refine ew_at (E := [(0, v0p), (1, (.int .i64 a_top)), (5, (.int .i64 k2))]) hF2 ?_
  refine ew_then (cw_seq (cw_region (lw_op rfl rfl rfl (ow_move rfl rfl ?_))))
  replace h := bind_some h
  obtain ⟨x5, hx5, h⟩ := h
  refine lw_op rfl rfl rfl (ow_call rfl rfl Tryd.call82 (w_spec_l1In (hG.mono hl167) hC167.old hx5) fun v43 w168 hv43 => ?_)
  obtain ⟨hv43, hb11⟩ := hv43
  have hl168 := Le.no M2 hb11
  have hC168 := hC167.no hb11
  obtain rfl := vbool_eq hv43
  refine lw_op rfl rfl rfl (ow_move rfl rfl ?_)
  replace h := cond_some h
  rcases h with ⟨hc6, h⟩ | ⟨hc6, h⟩
  ·
   subst hc6
   refine lw_on rfl rfl rfl rfl rfl rfl (ow_move rfl rfl ?_)
   refine lw_on rfl rfl rfl rfl rfl rfl (ow_len rfl rfl (VRep.mono (hl167.trans hl168) h0) Tryd.underlying58 rfl ?_)
   refine lw_on rfl rfl rfl rfl rfl rfl (ow_leq rfl rfl rfl fun bb6 hbb6 => ?_)
   refine lw_op rfl rfl rfl (ow_pickT rfl rfl rfl ?_)
   refine lw_op rfl rfl rfl (ow_assign rfl rfl ?_)
   refine lw_nil (ew_then (cw_ret ?_))
   obtain rfl := Option.some.inj h
   exact ew_ret (res1 rfl (.tmp rfl)) ⟨_, rfl, ((vbool_of hbb6)), hC168.bx⟩
  ·
   subst hc6
   refine lw_off rfl rfl rfl rfl rfl rfl ?_
   refine lw_off rfl rfl rfl rfl rfl rfl ?_
   refine lw_off rfl rfl rfl rfl rfl rfl ?_
   refine lw_op rfl rfl rfl (ow_pickF rfl rfl rfl ?_)
   refine lw_op rfl rfl rfl (ow_assign rfl rfl ?_)
   refine lw_nil (ew_then (cw_ret ?_))
   obtain rfl := Option.some.inj h
   exact ew_ret (res1 rfl (.tmp rfl)) ⟨_, rfl, ((vbool _)), hC168.bx⟩

theorem w_spec_BoxValid {w : World} {M : Nat → Prop} (hG : ARep (RArr 4 RShape) w M shapes ⟨0, 0, none⟩) (hO : ∀ b, M b → b < w.heap.size) {v0p : Value} {a_b : Box} (h0 : VRep RBox w M a_b v0p) {r : Bool} (h : F.spec_BoxValid a_b = some r) :
  Calls Tryd.prog 38 [v0p].toArray w fun e w' => ∃ v, e = .returned v ∧ VRep RBool w' M r v ∧ BX No w w' := by
 have hC : Cx No w M w M := Cx.start hO (fun _ e => e.elim)
 refine walk (N := 28) Tryd.func38 rfl Tryd.ntmps38 rfl ?_
 refine cw_seq (cw_region (lw_op rfl rfl rfl (ow_box (R := RBox) rfl rfl h0 hC fun p1 w1 hp1 hb1 hl1 hC1 => ?_)))
 refine lw_op rfl rfl rfl (ow_assign rfl rfl ?_)
 refine lw_nil (ew_then (cw_seq (cw_seq (cw_region (lw_op rfl rfl rfl (ow_assign rfl rfl ?_))))))
 refine lw_nil (ew_then ?_)
 replace h := bind_some h
 obtain ⟨lr1, hlr1, h⟩ := h
 refine cw_for hlr1 (fun s a w' => ∃ (M' : Nat → Prop), Fits 28 [(1, (.pointer (some p1))), (3, (.int .i64 s))] a ∧ Le w1 M w' M' ∧ Cx No w M w' M') ?_ ?_ ?_
 ·
  intro a ha
  exact ⟨M, ha.sub ⟨rfl, rfl, trivial⟩, Le.refl _ _, hC1⟩
 ·
  rintro k1 a w2 sr1 ⟨M1, hF1, hl2, hC2⟩ hb2 hR1
  refine cw_at (E := [(1, (.pointer (some p1))), (3, (.int .i64 k1))]) hF1 ?_
  refine cw_seq (cw_seq (cw_region (lw_op rfl rfl rfl (ow_move rfl rfl ?_))))
  refine lw_op rfl rfl rfl (ow_fieldAddr rfl rfl Tryd.underlying27 rfl (Tryd.sizeOf25 _) ?_)
  refine lw_op rfl rfl rfl (ow_load (R := (RSlice (RSlice RSpan))) rfl rfl (ARep.mono hl2 (hp1.fld fld_Box_Sides)) (Tryd.sizeOf25 _) (Tryd.isAgg25 _) fun v2 hv2 => ?_)
  refine lw_op rfl rfl rfl (ow_len rfl rfl hv2 Tryd.underlying25 rfl ?_)
  refine lw_op rfl rfl rfl (ow_lss rfl rfl rfl fun bb1 hbb1 => ?_)
  refine lw_nil (ew_then ?_)
  replace hb2 := cond_some hb2
  rcases hb2 with ⟨hc1, hb2⟩ | ⟨hc1, hb2⟩
  ·
   obtain rfl := hbb1.trans hc1
   refine cw_true rfl ?_
   refine cw_skip (ew_then (cw_seq (cw_block ?_)))
   refine cw_seq ?_
   replace hb2 := cond_some hb2
   rcases hb2 with ⟨hc2, hb2⟩ | ⟨hc2, hb2⟩
   ·
    refine cw_sub (E' := [(1, (.pointer (some p1))), (3, (.int .i64 k1))]) ⟨rfl, rfl, trivial⟩ ?_
    refine cw_drawQ 10 [PEq (.int .i64 k1), PEq (.bool true), PEq (.bool true), PEq undef, PEq undef, PEq undef, PEq undef, PEq undef, PEq undef, PEq undef] (by kernel_rfl) rfl (by kernel_rfl) ⟨PEq.mono _, PEq.mono _, PEq.mono _, PEq.mono _, PEq.mono _, PEq.mono _, PEq.mono _, PEq.mono _, PEq.mono _, PEq.mono _, trivial⟩ ⟨?_, ?_, ?_, ?_, ?_, ?_, ?_, ?_, ?_, ?_, trivial⟩ ?_
    ·
     intro w3 D hS1 hd1
     have hl3 := Le.no M1 hS1
     have hC3 := hC2.no hS1
     refine dg_sub (E' := [(3, (.int .i64 k1))]) ⟨rfl, trivial⟩ ?_
     refine dg_plain rfl (ow_move rfl rfl ?_)
     exact ⟨BX.refl _ _, rfl⟩
    ·
     intro w4 D hS2 hd2
     have hl4 := Le.no M1 hS2
     have hC4 := hC2.no hS2
     have hd2 : PEq (.int .i64 k1) (D 0) w4 ∧ True := hd2
     obtain ⟨d1, -⟩ := hd2
     refine dg_sub (E' := [(11, (.int .i64 k1))]) ⟨(congrArg some d1), trivial⟩ ?_
     refine dg_plain rfl (ow_geq rfl rfl rfl fun bb3 hbb3 => ?_)
     obtain rfl := hbb3.trans hc2
     exact ⟨BX.refl _ _, rfl⟩
    ·
     intro w5 D hS3 hd3
     have hl5 := Le.no M1 hS3
     have hC5 := hC2.no hS3
     have hd3 : PEq (.bool true) (D 1) w5 ∧ True := hd3
     obtain ⟨d2, -⟩ := hd3
     refine dg_sub (E' := [(12, (.bool true))]) ⟨(congrArg some d2), trivial⟩ ?_
     refine dg_plain rfl (ow_move rfl rfl ?_)
     exact ⟨BX.refl _ _, rfl⟩
    ·
     intro w6 D hS4 hd4
     have hl6 := Le.no M1 hS4
     have hC6 := hC2.no hS4
     have hd4 : PEq (.bool true) (D 2) w6 ∧ True := hd4
     obtain ⟨d3, -⟩ := hd4
     refine dg_sub (E' := [(13, (.bool true)), (1, (.pointer (some p1)))]) ⟨(congrArg some d3), rfl, trivial⟩ ?_
     exact dg_off rfl rfl rfl rfl ⟨BX.refl _ _, rfl⟩
    ·
     intro w7 D hS5 hd5
     have hl7 := Le.no M1 hS5
     have hC7 := hC2.no hS5
     have hd5 : PEq undef (D 3) w7 ∧ PEq (.bool true) (D 2) w7 ∧ True := hd5
     obtain ⟨d4, d5, -⟩ := hd5
     refine dg_sub (E' := [(14, undef), (13, (.bool true))]) ⟨(congrArg some d4), (congrArg some d5), trivial⟩ ?_
     exact dg_off rfl rfl rfl rfl ⟨BX.refl _ _, rfl⟩
    ·
     intro w8 D hS6 hd6
     have hl8 := Le.no M1 hS6
     have hC8 := hC2.no hS6
     have hd6 : PEq (.bool true) (D 2) w8 ∧ True := hd6
     obtain ⟨d6, -⟩ := hd6
     refine dg_sub (E' := [(13, (.bool true)), (3, (.int .i64 k1))]) ⟨(congrArg some d6), rfl, trivial⟩ ?_
     exact dg_off rfl rfl rfl rfl ⟨BX.refl _ _, rfl⟩
    ·
     intro w9 D hS7 hd7
     have hl9 := Le.no M1 hS7
     have hC9 := hC2.no hS7
     have hd7 : PEq undef (D 4) w9 ∧ PEq undef (D 5) w9 ∧ PEq (.bool true) (D 2) w9 ∧ True := hd7
     obtain ⟨d7, d8, d9, -⟩ := hd7
     refine dg_sub (E' := [(15, undef), (16, undef), (13, (.bool true))]) ⟨(congrArg some d7), (congrArg some d8), (congrArg some d9), trivial⟩ ?_
     exact dg_off rfl rfl rfl rfl ⟨BX.refl _ _, rfl⟩
    ·
     intro w10 D hS8 hd8
     have hl10 := Le.no M1 hS8
     have hC10 := hC2.no hS8
     have hd8 : PEq undef (D 6) w10 ∧ PEq (.bool true) (D 2) w10 ∧ True := hd8
     obtain ⟨d10, d11, -⟩ := hd8
     refine dg_sub (E' := [(17, undef), (13, (.bool true))]) ⟨(congrArg some d10), (congrArg some d11), trivial⟩ ?_
     exact dg_off rfl rfl rfl rfl ⟨BX.refl _ _, rfl⟩
    ·
     intro w11 D hS9 hd9
     have hl11 := Le.no M1 hS9
     have hC11 := hC2.no hS9
     have hd9 : PEq (.bool true) (D 2) w11 ∧ True := hd9
     obtain ⟨d12, -⟩ := hd9
     refine dg_sub (E' := [(13, (.bool true)), (3, (.int .i64 k1))]) ⟨(congrArg some d12), rfl, trivial⟩ ?_
     exact dg_off rfl rfl rfl rfl ⟨BX.refl _ _, rfl⟩
    ·
     intro w12 D hS10 hd10
     have hl12 := Le.no M1 hS10
     have hC12 := hC2.no hS10
     have hd10 : PEq undef (D 8) w12 ∧ PEq (.bool true) (D 2) w12 ∧ PEq (.bool true) (D 2) w12 ∧ True := hd10
     obtain ⟨d13, d14, d15, -⟩ := hd10
     refine dg_sub (E' := [(19, undef), (13, (.bool true))]) ⟨(congrArg some d13), (congrArg some d14), trivial⟩ ?_
     exact dg_off rfl rfl rfl rfl ⟨BX.refl _ _, rfl⟩
    ·
     intro w13 D hS11 hd11
     have hd11 : PEq (.int .i64 k1) (D 0) w13 ∧ PEq (.bool true) (D 1) w13 ∧ PEq (.bool true) (D 2) w13 ∧ PEq undef (D 3) w13 ∧ PEq undef (D 4) w13 ∧ PEq undef (D 5) w13 ∧ PEq undef (D 6) w13 ∧ PEq undef (D 7) w13 ∧ PEq undef (D 8) w13 ∧ PEq undef (D 9) w13 ∧ True := hd11
     obtain ⟨-, -, d18, -, -, -, -, d23, -, d25, -⟩ := hd11
     have hl13 := Le.no M1 hS11
     have hC13 := hC2.no hS11
     refine lw_sub (E' := [(13, (.bool true)), (18, undef), (20, undef), (1, (.pointer (some p1))), (3, (.int .i64 k1))]) ⟨(congrArg some d18), (congrArg some d23), (congrArg some d25), rfl, rfl, trivial⟩ ?_
     refine lw_off rfl rfl rfl rfl rfl rfl ?_
     refine lw_off rfl rfl rfl rfl rfl rfl ?_
     refine lw_op rfl rfl rfl (ow_pickT rfl rfl rfl ?_)
     refine lw_nil (ew_then (cw_true rfl ?_))
     refine cw_seq (cw_region (lw_op rfl rfl rfl (ow_assign rfl rfl ?_)))
     refine lw_nil (ew_then (cw_ret (ew_blockR ?_)))
     refine ew_thenR (ew_thenR (ew_blockR ?_))
     refine ew_brkR ?_
     refine ew_thenR ?_
     have e1 := hR1 _ (Option.some.inj hb2).symm
     subst e1
     obtain rfl := Option.some.inj h
     exact ew_ret (res1 rfl (.tmp rfl)) ⟨_, rfl, ((vbool _)), hC13.bx⟩
   ·
    replace hb2 := bind_some hb2
    obtain ⟨x1, hx1, hb2⟩ := hb2
    replace hb2 := bind_some hb2
    obtain ⟨x2, hx2, hb2⟩ := hb2
    refine cw_sub (E' := [(1, (.pointer (some p1))), (3, (.int .i64 k1))]) ⟨rfl, rfl, trivial⟩ ?_
    refine cw_drawQ 10 [PEq (.int .i64 k1), PEq (.bool false), PEq (.bool false), PA (RSlice (RSlice RSpan)) M1 a_b.Sides, PV (RSlice (RSlice RSpan)) M1 a_b.Sides, PEq (.int .i64 k1), PA (RSlice RSpan) M1 x1, PV (RSlice RSpan) M1 x1, PEq (.int .i64 k1), PEq (.int .i64 x2)] (by kernel_rfl) rfl (by kernel_rfl) ⟨PEq.mono _, PEq.mono _, PEq.mono _, PA.mono _ _ _, PV.mono _ _ _, PEq.mono _, PA.mono _ _ _, PV.mono _ _ _, PEq.mono _, PEq.mono _, trivial⟩ ⟨?_, ?_, ?_, ?_, ?_, ?_, ?_, ?_, ?_, ?_, trivial⟩ ?_
    ·
     intro w15 D hS12 hd12
     have hl15 := Le.no M1 hS12
     have hC15 := hC2.no hS12
     refine dg_sub (E' := [(3, (.int .i64 k1))]) ⟨rfl, trivial⟩ ?_
     refine dg_plain rfl (ow_move rfl rfl ?_)
     exact ⟨BX.refl _ _, rfl⟩
    ·
     intro w16 D hS13 hd13
     have hl16 := Le.no M1 hS13
     have hC16 := hC2.no hS13
     have hd13 : PEq (.int .i64 k1) (D 0) w16 ∧ True := hd13
     obtain ⟨d26, -⟩ := hd13
     refine dg_sub (E' := [(11, (.int .i64 k1))]) ⟨(congrArg some d26), trivial⟩ ?_
     refine dg_plain rfl (ow_geq rfl rfl rfl fun bb4 hbb4 => ?_)
     obtain rfl := hbb4.trans hc2
     exact ⟨BX.refl _ _, rfl⟩
    ·
     intro w17 D hS14 hd14
     have hl17 := Le.no M1 hS14
     have hC17 := hC2.no hS14
     have hd14 : PEq (.bool false) (D 1) w17 ∧ True := hd14
     obtain ⟨d27, -⟩ := hd14
     refine dg_sub (E' := [(12, (.bool false))]) ⟨(congrArg some d27), trivial⟩ ?_
     refine dg_plain rfl (ow_move rfl rfl ?_)
     exact ⟨BX.refl _ _, rfl⟩
    ·
     intro w18 D hS15 hd15
     have hl18 := Le.no M1 hS15
     have hC18 := hC2.no hS15
     have hd15 : PEq (.bool false) (D 2) w18 ∧ True := hd15
     obtain ⟨d28, -⟩ := hd15
     refine dg_sub (E' := [(13, (.bool false)), (1, (.pointer (some p1)))]) ⟨(congrArg some d28), rfl, trivial⟩ ?_
     refine dg_on rfl rfl rfl rfl (ow_fieldAddr rfl rfl Tryd.underlying27 rfl (Tryd.sizeOf25 _) ?_)
     exact ⟨BX.refl _ _, ⟨_, rfl, (ARep.mono (hl2.trans hl18) (hp1.fld fld_Box_Sides))⟩⟩
    ·
     intro w19 D hS16 hd16
     have hl19 := Le.no M1 hS16
     have hC19 := hC2.no hS16
     have hd16 : PA (RSlice (RSlice RSpan)) M1 a_b.Sides (D 3) w19 ∧ PEq (.bool false) (D 2) w19 ∧ True := hd16
     obtain ⟨d29, d30, -⟩ := hd16
     obtain ⟨p3, e2, ha1⟩ := d29
     refine dg_sub (E' := [(14, (.pointer (some p3))), (13, (.bool false))]) ⟨(congrArg some e2), (congrArg some d30), trivial⟩ ?_
     refine dg_on rfl rfl rfl rfl (ow_load (R := (RSlice (RSlice RSpan))) rfl rfl ha1 (Tryd.sizeOf25 _) (Tryd.isAgg25 _) fun v6 hv6 => ?_)
     exact ⟨BX.refl _ _, hv6⟩
    ·
     intro w20 D hS17 hd17
     have hl20 := Le.no M1 hS17
     have hC20 := hC2.no hS17
     have hd17 : PEq (.bool false) (D 2) w20 ∧ True := hd17
     obtain ⟨d31, -⟩ := hd17
     refine dg_sub (E' := [(13, (.bool false)), (3, (.int .i64 k1))]) ⟨(congrArg some d31), rfl, trivial⟩ ?_
     refine dg_on rfl rfl rfl rfl (ow_move rfl rfl ?_)
     exact ⟨BX.refl _ _, rfl⟩
    ·
     intro w21 D hS18 hd18
     have hl21 := Le.no M1 hS18
     have hC21 := hC2.no hS18
     have hd18 : PV (RSlice (RSlice RSpan)) M1 a_b.Sides (D 4) w21 ∧ PEq (.int .i64 k1) (D 5) w21 ∧ PEq (.bool false) (D 2) w21 ∧ True := hd18
     obtain ⟨d32, d33, d34, -⟩ := hd18
     obtain ⟨v7, hq1⟩ : ∃ v, (D 4) = v := ⟨_, rfl⟩
     rw [hq1] at d32
     refine dg_sub (E' := [(15, v7), (16, (.int .i64 k1)), (13, (.bool false))]) ⟨(congrArg some hq1), (congrArg some d33), (congrArg some d34), trivial⟩ ?_
     refine dg_on rfl rfl rfl rfl (ow_indexSlice (R := (RSlice RSpan)) rfl rfl rfl d32 Tryd.underlying25 (Tryd.sizeOf58 _) hx1 fun p4 hp4 => ?_)
     exact ⟨BX.refl _ _, ⟨_, rfl, hp4⟩⟩
    ·
     intro w22 D hS19 hd19
     have hl22 := Le.no M1 hS19
     have hC22 := hC2.no hS19
     have hd19 : PA (RSlice RSpan) M1 x1 (D 6) w22 ∧ PEq (.bool false) (D 2) w22 ∧ True := hd19
     obtain ⟨d35, d36, -⟩ := hd19
     obtain ⟨p5, e3, ha2⟩ := d35
     refine dg_sub (E' := [(17, (.pointer (some p5))), (13, (.bool false))]) ⟨(congrArg some e3), (congrArg some d36), trivial⟩ ?_
     refine dg_on rfl rfl rfl rfl (ow_load (R := (RSlice RSpan)) rfl rfl ha2 (Tryd.sizeOf58 _) (Tryd.isAgg58 _) fun v8 hv8 => ?_)
     exact ⟨BX.refl _ _, hv8⟩
    ·
     intro w23 D hS20 hd20
     have hl23 := Le.no M1 hS20
     have hC23 := hC2.no hS20
     have hd20 : PEq (.bool false) (D 2) w23 ∧ True := hd20
     obtain ⟨d37, -⟩ := hd20
     refine dg_sub (E' := [(13, (.bool false)), (3, (.int .i64 k1))]) ⟨(congrArg some d37), rfl, trivial⟩ ?_
     refine dg_on rfl rfl rfl rfl (ow_move rfl rfl ?_)
     exact ⟨BX.refl _ _, rfl⟩
    ·
     intro w24 D hS21 hd21
     have hl24 := Le.no M1 hS21
     have hC24 := hC2.no hS21
     have hd21 : PEq (.int .i64 k1) (D 8) w24 ∧ PEq (.bool false) (D 2) w24 ∧ PEq (.bool false) (D 2) w24 ∧ True := hd21
     obtain ⟨d38, d39, d40, -⟩ := hd21
     refine dg_sub (E' := [(19, (.int .i64 k1)), (13, (.bool false))]) ⟨(congrArg some d38), (congrArg some d39), trivial⟩ ?_
     refine dg_on rfl rfl rfl rfl (ow_call rfl rfl Tryd.call81 (w_spec_FieldTop (hG.mono ((hl1.trans hl2).trans hl24)) hC24.old hx2) fun v9 w25 hv9 => ?_)
     obtain ⟨hv9, hb4⟩ := hv9
     have hl25 := Le.no M1 hb4
     have hC25 := hC24.no hb4
     obtain rfl := vint_eq hv9
     exact ⟨hb4, rfl⟩
    ·
     intro w26 D hS22 hd22
     have hd22 : PEq (.int .i64 k1) (D 0) w26 ∧ PEq (.bool false) (D 1) w26 ∧ PEq (.bool false) (D 2) w26 ∧ PA (RSlice (RSlice RSpan)) M1 a_b.Sides (D 3) w26 ∧ PV (RSlice (RSlice RSpan)) M1 a_b.Sides (D 4) w26 ∧ PEq (.int .i64 k1) (D 5) w26 ∧ PA (RSlice RSpan) M1 x1 (D 6) w26 ∧ PV (RSlice RSpan) M1 x1 (D 7) w26 ∧ PEq (.int .i64 k1) (D 8) w26 ∧ PEq (.int .i64 x2) (D 9) w26 ∧ True := hd22
     obtain ⟨-, -, d43, -, -, -, -, d48, -, d50, -⟩ := hd22
     have hl26 := Le.no M1 hS22
     have hC26 := hC2.no hS22
     obtain ⟨v10, hq2⟩ : ∃ v, (D 7) = v := ⟨_, rfl⟩
     rw [hq2] at d48
     refine lw_sub (E' := [(13, (.bool false)), (18, v10), (20, (.int .i64 x2)), (1, (.pointer (some p1))), (3, (.int .i64 k1))]) ⟨(congrArg some d43), (congrArg some hq2), (congrArg some d50), rfl, rfl, trivial⟩ ?_
     replace hb2 := bind_some hb2
     obtain ⟨x3, hx3, hb2⟩ := hb2
     refine lw_on rfl rfl rfl rfl rfl rfl (ow_call rfl rfl Tryd.call80 (w_spec_SpansValid (hG.mono ((hl1.trans hl2).trans hl26)) hC26.old d48 hx3) fun v11 w27 hv11 => ?_)
     obtain ⟨hv11, hb5⟩ := hv11
     have hl27 := Le.no M1 hb5
     have hC27 := hC26.no hb5
     obtain rfl := vbool_eq hv11
     refine lw_on rfl rfl rfl rfl rfl rfl (ow_not rfl rfl ?_)
     refine lw_op rfl rfl rfl (ow_pickF rfl rfl rfl ?_)
     refine lw_nil (ew_then ?_)
     replace hb2 := cond_some hb2
     rcases hb2 with ⟨hc3, hb2⟩ | ⟨hc3, hb2⟩
     ·
      subst hc3
      refine cw_false rfl ?_
      refine cw_skip (ew_blockN ?_)
      refine ew_then (cw_region (lw_op rfl rfl rfl (ow_move rfl rfl ?_)))
      refine lw_op rfl rfl rfl (ow_add rfl rfl rfl ?_)
      refine lw_op rfl rfl rfl (ow_assign rfl rfl ?_)
      refine lw_nil (ew_nxt (W (k1 + 1)) hb2 fun a ha => ⟨M1, ?_, ((hl2.trans hl26).trans hl27), hC27⟩)
      exact ha.sub ⟨rfl, rfl, trivial⟩
     ·
      subst hc3
      refine cw_true rfl ?_
      refine cw_seq (cw_region (lw_op rfl rfl rfl (ow_assign rfl rfl ?_)))
      refine lw_nil (ew_then (cw_ret (ew_blockR ?_)))
      refine ew_thenR (ew_thenR (ew_blockR ?_))
      refine ew_brkR ?_
      refine ew_thenR ?_
      have e4 := hR1 _ (Option.some.inj hb2).symm
      subst e4
      obtain rfl := Option.some.inj h
      exact ew_ret (res1 rfl (.tmp rfl)) ⟨_, rfl, ((vbool _)), hC27.bx⟩
  ·
   obtain rfl := hbb1.trans hc1
   refine cw_false rfl ?_
   refine cw_exit ?_
   refine ew_thenX ?_
   refine ew_thenX ?_
   refine ew_blockX ?_
   refine ew_brk k1 hb2 fun a ha => ⟨M1, ?_, hl2, hC2⟩
   exact ha.sub ⟨rfl, rfl, trivial⟩
 ·
  rintro k2 a w28 hlr2 ⟨M2, hF2, hl28, hC28⟩
  subst hlr2
  refine ew_at (E := [(1, (.pointer (some p1))), (3, (.int .i64 k2))]) hF2 ?_
  refine ew_then (cw_seq (cw_region (lw_op rfl rfl rfl (ow_fieldAddr rfl rfl Tryd.underlying27 rfl (Tryd.sizeOf25 _) ?_))))
  refine lw_op rfl rfl rfl (ow_load (R := (RSlice (RSlice RSpan))) rfl rfl (ARep.mono hl28 (hp1.fld fld_Box_Sides)) (Tryd.sizeOf25 _) (Tryd.isAgg25 _) fun v13 hv13 => ?_)
  refine lw_op rfl rfl rfl (ow_len rfl rfl hv13 Tryd.underlying25 rfl ?_)
  refine lw_op rfl rfl rfl (ow_eqlI rfl rfl rfl fun bb5 hbb5 => ?_)
  refine lw_op rfl rfl rfl (ow_assign rfl rfl ?_)
  refine lw_nil (ew_then (cw_ret ?_))
  obtain rfl := Option.some.inj h
  exact ew_ret (res1 rfl (.tmp rfl)) ⟨_, rfl, ((vbool_of hbb5)), hC28.bx⟩

theorem w_spec_PacketValid {w : World} {M : Nat → Prop} (hG : ARep (RArr 4 RShape) w M shapes ⟨0, 0, none⟩) (hO : ∀ b, M b → b < w.heap.size) {v0p : Value} {a_p : Packet} (h0 : VRep RPacket w M a_p v0p) {r : Bool} (h : F.spec_PacketValid a_p = some r) :
  Calls Tryd.prog 39 [v0p].toArray w fun e w' => ∃ v, e = .returned v ∧ VRep RBool w' M r v ∧ BX No w w' := by
 have hC : Cx No w M w M := Cx.start hO (fun _ e => e.elim)
 refine walk (N := 21) Tryd.func39 rfl Tryd.ntmps39 rfl ?_
 refine cw_seq (cw_region (lw_op rfl rfl rfl (ow_box (R := RPacket) rfl rfl h0 hC fun p1 w1 hp1 hb1 hl1 hC1 => ?_)))
 refine lw_op rfl rfl rfl (ow_assign rfl rfl ?_)
 refine lw_nil (ew_then (cw_seq (cw_region (lw_op rfl rfl rfl (ow_fieldAddr rfl rfl Tryd.underlying45 rfl (Tryd.sizeOf3 _) ?_)))))
 refine lw_op rfl rfl rfl (ow_load (R := RInt) rfl rfl (hp1.fld fld_Packet_From) (Tryd.sizeOf3 _) (Tryd.isAgg3 _) fun v1 hv1 => ?_)
 obtain rfl := vint_eq hv1
 replace h := bind_some h
 obtain ⟨x1, hx1, h⟩ := h
 refine lw_op rfl rfl rfl (ow_call rfl rfl Tryd.call82 (w_spec_l1In (hG.mono hl1) hC1.old hx1) fun v2 w2 hv2 => ?_)
 obtain ⟨hv2, hb2⟩ := hv2
 have hl2 := Le.no M hb2
 have hC2 := hC1.no hb2
 obtain rfl := vbool_eq hv2
 refine lw_op rfl rfl rfl (ow_move rfl rfl ?_)
 replace h := cond_some h
 rcases h with ⟨hc1, h⟩ | ⟨hc1, h⟩
 ·
  subst hc1
  refine lw_on rfl rfl rfl rfl rfl rfl (ow_fieldAddr rfl rfl Tryd.underlying45 rfl (Tryd.sizeOf3 _) ?_)
  refine lw_on rfl rfl rfl rfl rfl rfl (ow_load (R := RInt) rfl rfl (ARep.mono hl2 (hp1.fld fld_Packet_To)) (Tryd.sizeOf3 _) (Tryd.isAgg3 _) fun v3 hv3 => ?_)
  obtain rfl := vint_eq hv3
  replace h := bind_some h
  obtain ⟨x2, hx2, h⟩ := h
  refine lw_on rfl rfl rfl rfl rfl rfl (ow_call rfl rfl Tryd.call82 (w_spec_l1In (hG.mono (hl1.trans hl2)) hC2.old hx2) fun v4 w3 hv4 => ?_)
  obtain ⟨hv4, hb3⟩ := hv4
  have hl3 := Le.no M hb3
  have hC3 := hC2.no hb3
  obtain rfl := vbool_eq hv4
  refine lw_op rfl rfl rfl (ow_pickT rfl rfl rfl ?_)
  refine lw_op rfl rfl rfl (ow_move rfl rfl ?_)
  replace h := cond_some h
  rcases h with ⟨hc2, h⟩ | ⟨hc2, h⟩
  ·
   subst hc2
   refine lw_on rfl rfl rfl rfl rfl rfl (ow_fieldAddr rfl rfl Tryd.underlying45 rfl (Tryd.sizeOf3 _) ?_)
   refine lw_on rfl rfl rfl rfl rfl rfl (ow_load (R := RInt) rfl rfl (ARep.mono (hl2.trans hl3) (hp1.fld fld_Packet_Port)) (Tryd.sizeOf3 _) (Tryd.isAgg3 _) fun v5 hv5 => ?_)
   obtain rfl := vint_eq hv5
   replace h := bind_some h
   obtain ⟨x3, hx3, h⟩ := h
   refine lw_on rfl rfl rfl rfl rfl rfl (ow_call rfl rfl Tryd.call82 (w_spec_l1In (hG.mono ((hl1.trans hl2).trans hl3)) hC3.old hx3) fun v6 w4 hv6 => ?_)
   obtain ⟨hv6, hb4⟩ := hv6
   have hl4 := Le.no M hb4
   have hC4 := hC3.no hb4
   obtain rfl := vbool_eq hv6
   refine lw_op rfl rfl rfl (ow_pickT rfl rfl rfl ?_)
   refine lw_op rfl rfl rfl (ow_move rfl rfl ?_)
   replace h := cond_some h
   rcases h with ⟨hc3, h⟩ | ⟨hc3, h⟩
   ·
    subst hc3
    refine lw_on rfl rfl rfl rfl rfl rfl (ow_fieldAddr rfl rfl Tryd.underlying45 rfl (Tryd.sizeOf3 _) ?_)
    refine lw_on rfl rfl rfl rfl rfl rfl (ow_load (R := RInt) rfl rfl (ARep.mono ((hl2.trans hl3).trans hl4) (hp1.fld fld_Packet_Proto)) (Tryd.sizeOf3 _) (Tryd.isAgg3 _) fun v7 hv7 => ?_)
    obtain rfl := vint_eq hv7
    replace h := bind_some h
    obtain ⟨x4, hx4, h⟩ := h
    refine lw_on rfl rfl rfl rfl rfl rfl (ow_call rfl rfl Tryd.call82 (w_spec_l1In (hG.mono (((hl1.trans hl2).trans hl3).trans hl4)) hC4.old hx4) fun v8 w5 hv8 => ?_)
    obtain ⟨hv8, hb5⟩ := hv8
    have hl5 := Le.no M hb5
    have hC5 := hC4.no hb5
    obtain rfl := vbool_eq hv8
    refine lw_op rfl rfl rfl (ow_pickT rfl rfl rfl ?_)
    refine lw_op rfl rfl rfl (ow_assign rfl rfl ?_)
    refine lw_nil (ew_then (cw_ret ?_))
    obtain rfl := Option.some.inj h
    exact ew_ret (res1 rfl (.tmp rfl)) ⟨_, rfl, ((vbool _)), hC5.bx⟩
   ·
    subst hc3
    refine lw_off rfl rfl rfl rfl rfl rfl ?_
    refine lw_off rfl rfl rfl rfl rfl rfl ?_
    refine lw_off rfl rfl rfl rfl rfl rfl ?_
    refine lw_op rfl rfl rfl (ow_pickF rfl rfl rfl ?_)
    refine lw_op rfl rfl rfl (ow_assign rfl rfl ?_)
    refine lw_nil (ew_then (cw_ret ?_))
    obtain rfl := Option.some.inj h
    exact ew_ret (res1 rfl (.tmp rfl)) ⟨_, rfl, ((vbool _)), hC4.bx⟩
  ·
   subst hc2
   refine lw_off rfl rfl rfl rfl rfl rfl ?_
   refine lw_off rfl rfl rfl rfl rfl rfl ?_
   refine lw_off rfl rfl rfl rfl rfl rfl ?_
   refine lw_op rfl rfl rfl (ow_pickF rfl rfl rfl ?_)
   refine lw_op rfl rfl rfl (ow_move rfl rfl ?_)
   refine lw_off rfl rfl rfl rfl rfl rfl ?_
   refine lw_off rfl rfl rfl rfl rfl rfl ?_
   refine lw_off rfl rfl rfl rfl rfl rfl ?_
   refine lw_op rfl rfl rfl (ow_pickF rfl rfl rfl ?_)
   refine lw_op rfl rfl rfl (ow_assign rfl rfl ?_)
   refine lw_nil (ew_then (cw_ret ?_))
   obtain rfl := Option.some.inj h
   exact ew_ret (res1 rfl (.tmp rfl)) ⟨_, rfl, ((vbool _)), hC3.bx⟩
 ·
  subst hc1
  refine lw_off rfl rfl rfl rfl rfl rfl ?_
  refine lw_off rfl rfl rfl rfl rfl rfl ?_
  refine lw_off rfl rfl rfl rfl rfl rfl ?_
  refine lw_op rfl rfl rfl (ow_pickF rfl rfl rfl ?_)
  refine lw_op rfl rfl rfl (ow_move rfl rfl ?_)
  refine lw_off rfl rfl rfl rfl rfl rfl ?_
  refine lw_off rfl rfl rfl rfl rfl rfl ?_
  refine lw_off rfl rfl rfl rfl rfl rfl ?_
  refine lw_op rfl rfl rfl (ow_pickF rfl rfl rfl ?_)
  refine lw_op rfl rfl rfl (ow_move rfl rfl ?_)
  refine lw_off rfl rfl rfl rfl rfl rfl ?_
  refine lw_off rfl rfl rfl rfl rfl rfl ?_
  refine lw_off rfl rfl rfl rfl rfl rfl ?_
  refine lw_op rfl rfl rfl (ow_pickF rfl rfl rfl ?_)
  refine lw_op rfl rfl rfl (ow_assign rfl rfl ?_)
  refine lw_nil (ew_then (cw_ret ?_))
  obtain rfl := Option.some.inj h
  exact ew_ret (res1 rfl (.tmp rfl)) ⟨_, rfl, ((vbool _)), hC2.bx⟩

theorem w_spec_SpansHave {w : World} {M : Nat → Prop} (hG : ARep (RArr 4 RShape) w M shapes ⟨0, 0, none⟩) (hO : ∀ b, M b → b < w.heap.size) {v0p : Value} {a_list : List Span} (h0 : VRep (RSlice RSpan) w M a_list v0p) {a_n : Int} {r : Bool} (h : F.spec_SpansHave a_list a_n = some r) :
  Calls Tryd.prog 78 [v0p, (.int .i64 a_n)].toArray w fun e w' => ∃ v, e = .returned v ∧ VRep RBool w' M r v ∧ BX No w w' := by
 have hC : Cx No w M w M := Cx.start hO (fun _ e => e.elim)
 refine walk (N := 24) Tryd.func78 rfl Tryd.ntmps78 rfl ?_
 refine cw_seq (cw_region (lw_op rfl rfl rfl (ow_assign rfl rfl ?_)))
 refine lw_nil (ew_then (cw_seq (cw_seq (cw_region (lw_op rfl rfl rfl (ow_assign rfl rfl ?_))))))
 refine lw_nil (ew_then ?_)
 replace h := bind_some h
 obtain ⟨lr1, hlr1, h⟩ := h
 refine cw_for hlr1 (fun s a w' => ∃ (M' : Nat → Prop), Fits 24 [(0, v0p), (1, (.int .i64 a_n)), (5, (.int .i64 s))] a ∧ Le w M w' M' ∧ Cx No w M w' M') ?_ ?_ ?_
 ·
  intro a ha
  exact ⟨M, ha.sub ⟨rfl, rfl, rfl, trivial⟩, Le.refl _ _, hC⟩
 ·
  rintro k1 a w1 sr1 ⟨M1, hF1, hl1, hC1⟩ hb1 hR1
  refine cw_at (E := [(0, v0p), (1, (.int .i64 a_n)), (5, (.int .i64 k1))]) hF1 ?_
  refine cw_seq (cw_seq (cw_region (lw_op rfl rfl rfl (ow_move rfl rfl ?_))))
  refine lw_op rfl rfl rfl (ow_move rfl rfl ?_)
  refine lw_op rfl rfl rfl (ow_len rfl rfl (VRep.mono hl1 h0) Tryd.underlying58 rfl ?_)
  refine lw_op rfl rfl rfl (ow_lss rfl rfl rfl fun bb1 hbb1 => ?_)
  refine lw_nil (ew_then ?_)
  replace hb1 := cond_some hb1
  rcases hb1 with ⟨hc1, hb1⟩ | ⟨hc1, hb1⟩
  ·
   obtain rfl := hbb1.trans hc1
   refine cw_true rfl ?_
   refine cw_skip (ew_then (cw_seq (cw_block ?_)))
   refine cw_seq ?_
   replace hb1 := bind_some hb1
   obtain ⟨x1, hx1, hb1⟩ := hb1
   refine cw_sub (E' := [(0, v0p), (1, (.int .i64 a_n)), (5, (.int .i64 k1))]) ⟨rfl, rfl, rfl, trivial⟩ ?_
   refine cw_drawQ 11 [PEq (.int .i64 a_n), PV (RSlice RSpan) M1 a_list, PEq (.int .i64 k1), PA RSpan M1 x1, PA RInt M1 x1.Lo, PEq (.int .i64 x1.Lo), PV (RSlice RSpan) M1 a_list, PEq (.int .i64 k1), PA RSpan M1 x1, PA RInt M1 x1.Hi, PEq (.int .i64 x1.Hi)] (by kernel_rfl) rfl (by kernel_rfl) ⟨PEq.mono _, PV.mono _ _ _, PEq.mono _, PA.mono _ _ _, PA.mono _ _ _, PEq.mono _, PV.mono _ _ _, PEq.mono _, PA.mono _ _ _, PA.mono _ _ _, PEq.mono _, trivial⟩ ⟨?_, ?_, ?_, ?_, ?_, ?_, ?_, ?_, ?_, ?_, ?_, trivial⟩ ?_
   ·
    intro w2 D hS1 hd1
    have hl2 := Le.no M1 hS1
    have hC2 := hC1.no hS1
    refine dg_sub (E' := [(1, (.int .i64 a_n))]) ⟨rfl, trivial⟩ ?_
    refine dg_plain rfl (ow_move rfl rfl ?_)
    exact ⟨BX.refl _ _, rfl⟩
   ·
    intro w3 D hS2 hd2
    have hl3 := Le.no M1 hS2
    have hC3 := hC1.no hS2
    refine dg_sub (E' := [(0, v0p)]) ⟨rfl, trivial⟩ ?_
    refine dg_plain rfl (ow_move rfl rfl ?_)
    exact ⟨BX.refl _ _, (VRep.mono (hl1.trans hl3) h0)⟩
   ·
    intro w4 D hS3 hd3
    have hl4 := Le.no M1 hS3
    have hC4 := hC1.no hS3
    refine dg_sub (E' := [(5, (.int .i64 k1))]) ⟨rfl, trivial⟩ ?_
    refine dg_plain rfl (ow_move rfl rfl ?_)
    exact ⟨BX.refl _ _, rfl⟩
   ·
    intro w5 D hS4 hd4
    have hl5 := Le.no M1 hS4
    have hC5 := hC1.no hS4
    have hd4 : PV (RSlice RSpan) M1 a_list (D 1) w5 ∧ PEq (.int .i64 k1) (D 2) w5 ∧ True := hd4
    obtain ⟨d1, d2, -⟩ := hd4
    obtain ⟨v4, hq1⟩ : ∃ v, (D 1) = v := ⟨_, rfl⟩
    rw [hq1] at d1
    refine dg_sub (E' := [(13, v4), (14, (.int .i64 k1))]) ⟨(congrArg some hq1), (congrArg some d2), trivial⟩ ?_
    refine dg_plain rfl (ow_indexSlice (R := RSpan) rfl rfl rfl d1 Tryd.underlying58 (Tryd.sizeOf76 _) hx1 fun p3 hp3 => ?_)
    exact ⟨BX.refl _ _, ⟨_, rfl, hp3⟩⟩
   ·
    intro w6 D hS5 hd5
    have hl6 := Le.no M1 hS5
    have hC6 := hC1.no hS5
    have hd5 : PA RSpan M1 x1 (D 3) w6 ∧ True := hd5
    obtain ⟨d3, -⟩ := hd5
    obtain ⟨p4, e1, ha1⟩ := d3
    refine dg_sub (E' := [(15, (.pointer (some p4)))]) ⟨(congrArg some e1), trivial⟩ ?_
    refine dg_plain rfl (ow_fieldAddr rfl rfl Tryd.underlying76 rfl (Tryd.sizeOf3 _) ?_)
    exact ⟨BX.refl _ _, ⟨_, rfl, (ha1.fld fld_Span_Lo)⟩⟩
   ·
    intro w7 D hS6 hd6
    have hl7 := Le.no M1 hS6
    have hC7 := hC1.no hS6
    have hd6 : PA RInt M1 x1.Lo (D 4) w7 ∧ True := hd6
    obtain ⟨d4, -⟩ := hd6
    obtain ⟨p5, e2, ha2⟩ := d4
    refine dg_sub (E' := [(16, (.pointer (some p5)))]) ⟨(congrArg some e2), trivial⟩ ?_
    refine dg_plain rfl (ow_load (R := RInt) rfl rfl ha2 (Tryd.sizeOf3 _) (Tryd.isAgg3 _) fun v5 hv5 => ?_)
    obtain rfl := vint_eq hv5
    exact ⟨BX.refl _ _, rfl⟩
   ·
    intro w8 D hS7 hd7
    have hl8 := Le.no M1 hS7
    have hC8 := hC1.no hS7
    refine dg_sub (E' := [(0, v0p)]) ⟨rfl, trivial⟩ ?_
    refine dg_plain rfl (ow_move rfl rfl ?_)
    exact ⟨BX.refl _ _, (VRep.mono (hl1.trans hl8) h0)⟩
   ·
    intro w9 D hS8 hd8
    have hl9 := Le.no M1 hS8
    have hC9 := hC1.no hS8
    refine dg_sub (E' := [(5, (.int .i64 k1))]) ⟨rfl, trivial⟩ ?_
    refine dg_plain rfl (ow_move rfl rfl ?_)
    exact ⟨BX.refl _ _, rfl⟩
   ·
    intro w10 D hS9 hd9
    have hl10 := Le.no M1 hS9
    have hC10 := hC1.no hS9
    have hd9 : PV (RSlice RSpan) M1 a_list (D 6) w10 ∧ PEq (.int .i64 k1) (D 7) w10 ∧ True := hd9
    obtain ⟨d5, d6, -⟩ := hd9
    obtain ⟨v6, hq2⟩ : ∃ v, (D 6) = v := ⟨_, rfl⟩
    rw [hq2] at d5
    refine dg_sub (E' := [(18, v6), (19, (.int .i64 k1))]) ⟨(congrArg some hq2), (congrArg some d6), trivial⟩ ?_
    refine dg_plain rfl (ow_indexSlice (R := RSpan) rfl rfl rfl d5 Tryd.underlying58 (Tryd.sizeOf76 _) hx1 fun p6 hp6 => ?_)
    exact ⟨BX.refl _ _, ⟨_, rfl, hp6⟩⟩
   ·
    intro w11 D hS10 hd10
    have hl11 := Le.no M1 hS10
    have hC11 := hC1.no hS10
    have hd10 : PA RSpan M1 x1 (D 8) w11 ∧ True := hd10
    obtain ⟨d7, -⟩ := hd10
    obtain ⟨p7, e3, ha3⟩ := d7
    refine dg_sub (E' := [(20, (.pointer (some p7)))]) ⟨(congrArg some e3), trivial⟩ ?_
    refine dg_plain rfl (ow_fieldAddr rfl rfl Tryd.underlying76 rfl (Tryd.sizeOf3 _) ?_)
    exact ⟨BX.refl _ _, ⟨_, rfl, (ha3.fld fld_Span_Hi)⟩⟩
   ·
    intro w12 D hS11 hd11
    have hl12 := Le.no M1 hS11
    have hC12 := hC1.no hS11
    have hd11 : PA RInt M1 x1.Hi (D 9) w12 ∧ True := hd11
    obtain ⟨d8, -⟩ := hd11
    obtain ⟨p8, e4, ha4⟩ := d8
    refine dg_sub (E' := [(21, (.pointer (some p8)))]) ⟨(congrArg some e4), trivial⟩ ?_
    refine dg_plain rfl (ow_load (R := RInt) rfl rfl ha4 (Tryd.sizeOf3 _) (Tryd.isAgg3 _) fun v7 hv7 => ?_)
    obtain rfl := vint_eq hv7
    exact ⟨BX.refl _ _, rfl⟩
   ·
    intro w13 D hS12 hd12
    have hd12 : PEq (.int .i64 a_n) (D 0) w13 ∧ PV (RSlice RSpan) M1 a_list (D 1) w13 ∧ PEq (.int .i64 k1) (D 2) w13 ∧ PA RSpan M1 x1 (D 3) w13 ∧ PA RInt M1 x1.Lo (D 4) w13 ∧ PEq (.int .i64 x1.Lo) (D 5) w13 ∧ PV (RSlice RSpan) M1 a_list (D 6) w13 ∧ PEq (.int .i64 k1) (D 7) w13 ∧ PA RSpan M1 x1 (D 8) w13 ∧ PA RInt M1 x1.Hi (D 9) w13 ∧ PEq (.int .i64 x1.Hi) (D 10) w13 ∧ True := hd12
    obtain ⟨d9, -, -, -, -, d14, -, -, -, -, d19, -⟩ := hd12
    have hl13 := Le.no M1 hS12
    have hC13 := hC1.no hS12
    refine lw_sub (E' := [(12, (.int .i64 a_n)), (17, (.int .i64 x1.Lo)), (22, (.int .i64 x1.Hi)), (0, v0p), (1, (.int .i64 a_n)), (5, (.int .i64 k1))]) ⟨(congrArg some d9), (congrArg some d14), (congrArg some d19), rfl, rfl, rfl, trivial⟩ ?_
    replace hb1 := bind_some hb1
    obtain ⟨x2, hx2, hb1⟩ := hb1
    refine lw_op rfl rfl rfl (ow_call rfl rfl Tryd.call82 (w_spec_l1In (hG.mono (hl1.trans hl13)) hC13.old hx2) fun v8 w14 hv8 => ?_)
    obtain ⟨hv8, hb2⟩ := hv8
    have hl14 := Le.no M1 hb2
    have hC14 := hC13.no hb2
    obtain rfl := vbool_eq hv8
    refine lw_nil (ew_then ?_)
    replace hb1 := cond_some hb1
    rcases hb1 with ⟨hc2, hb1⟩ | ⟨hc2, hb1⟩
    ·
     subst hc2
     refine cw_true rfl ?_
     refine cw_seq (cw_region (lw_op rfl rfl rfl (ow_assign rfl rfl ?_)))
     refine lw_nil (ew_then (cw_ret (ew_blockR ?_)))
     refine ew_thenR (ew_thenR (ew_blockR ?_))
     refine ew_brkR ?_
     refine ew_thenR ?_
     have e5 := hR1 _ (Option.some.inj hb1).symm
     subst e5
     obtain rfl := Option.some.inj h
     exact ew_ret (res1 rfl (.tmp rfl)) ⟨_, rfl, ((vbool _)), hC14.bx⟩
    ·
     subst hc2
     refine cw_false rfl ?_
     refine cw_skip (ew_blockN ?_)
     refine ew_then (cw_region (lw_op rfl rfl rfl (ow_move rfl rfl ?_)))
     refine lw_op rfl rfl rfl (ow_add rfl rfl rfl ?_)
     refine lw_op rfl rfl rfl (ow_assign rfl rfl ?_)
     refine lw_nil (ew_nxt (W (k1 + 1)) hb1 fun a ha => ⟨M1, ?_, ((hl1.trans hl13).trans hl14), hC14⟩)
     exact ha.sub ⟨rfl, rfl, rfl, trivial⟩
  ·
   obtain rfl := hbb1.trans hc1
   refine cw_false rfl ?_
   refine cw_exit ?_
   refine ew_thenX ?_
   refine ew_thenX ?_
   refine ew_blockX ?_
   refine ew_brk k1 hb1 fun a ha => ⟨M1, ?_, hl1, hC1⟩
   exact ha.sub ⟨rfl, rfl, rfl, trivial⟩
 ·
  rintro k2 a w15 hlr2 ⟨M2, hF2, hl15, hC15⟩
  subst hlr2
  refine ew_at (E := [(0, v0p), (1, (.int .i64 a_n)), (5, (.int .i64 k2))]) hF2 ?_
  refine ew_then (cw_seq (cw_region (lw_op rfl rfl rfl (ow_assign rfl rfl ?_))))
  refine lw_nil (ew_then (cw_ret ?_))
  obtain rfl := Option.some.inj h
  exact ew_ret (res1 rfl (.tmp rfl)) ⟨_, rfl, ((vbool _)), hC15.bx⟩

theorem w_spec_PacketField {w : World} {M : Nat → Prop} (hG : ARep (RArr 4 RShape) w M shapes ⟨0, 0, none⟩) (hO : ∀ b, M b → b < w.heap.size) {v0p : Value} {a_p : Packet} (h0 : VRep RPacket w M a_p v0p) {a_n : Int} {r : Int} (h : F.spec_PacketField a_p a_n = some r) :
  Calls Tryd.prog 79 [v0p, (.int .i64 a_n)].toArray w fun e w' => ∃ v, e = .returned v ∧ VRep RInt w' M r v ∧ BX No w w' := by
 have hC : Cx No w M w M := Cx.start hO (fun _ e => e.elim)
 refine walk (N := 25) Tryd.func79 rfl Tryd.ntmps79 rfl ?_
 refine cw_seq (cw_region (lw_op rfl rfl rfl (ow_box (R := RPacket) rfl rfl h0 hC fun p1 w1 hp1 hb1 hl1 hC1 => ?_)))
 refine lw_op rfl rfl rfl (ow_assign rfl rfl ?_)
 refine lw_nil (ew_then (cw_seq (cw_seq (cw_region (lw_op rfl rfl rfl (ow_load (R := RPacket) rfl rfl hp1 (Tryd.sizeOf45 _) (Tryd.isAgg45 _) fun v1 hv1 => ?_))))))
 replace h := bind_some h
 obtain ⟨x1, hx1, h⟩ := h
 refine lw_op rfl rfl rfl (ow_call rfl rfl Tryd.call39 (w_spec_PacketValid (hG.mono hl1) hC1.old hv1 hx1) fun v2 w2 hv2 => ?_)
 obtain ⟨hv2, hb2⟩ := hv2
 have hl2 := Le.no M hb2
 have hC2 := hC1.no hb2
 obtain rfl := vbool_eq hv2
 refine lw_op rfl rfl rfl (ow_not rfl rfl ?_)
 refine lw_op rfl rfl rfl (ow_move rfl rfl ?_)
 replace h := cond_some h
 rcases h with ⟨hc1, h⟩ | ⟨hc1, h⟩
 ·
  subst hc1
  refine lw_on rfl rfl rfl rfl rfl rfl (ow_move rfl rfl ?_)
  replace h := bind_some h
  obtain ⟨x2, hx2, h⟩ := h
  refine lw_on rfl rfl rfl rfl rfl rfl (ow_call rfl rfl Tryd.call82 (w_spec_l1In (hG.mono (hl1.trans hl2)) hC2.old hx2) fun v3 w3 hv3 => ?_)
  obtain ⟨hv3, hb3⟩ := hv3
  have hl3 := Le.no M hb3
  have hC3 := hC2.no hb3
  obtain rfl := vbool_eq hv3
  refine lw_on rfl rfl rfl rfl rfl rfl (ow_not rfl rfl ?_)
  refine lw_op rfl rfl rfl (ow_pickF rfl rfl rfl ?_)
  refine lw_nil (ew_then ?_)
  replace h := cond_some h
  rcases h with ⟨hc2, h⟩ | ⟨hc2, h⟩
  ·
   subst hc2
   refine cw_false rfl ?_
   refine cw_skip (ew_then (cw_seq (cw_region (lw_op rfl rfl rfl (ow_fieldAddr rfl rfl Tryd.underlying45 rfl (Tryd.sizeOf3 _) ?_)))))
   refine lw_op rfl rfl rfl (ow_load (R := RInt) rfl rfl (ARep.mono (hl2.trans hl3) (hp1.fld fld_Packet_From)) (Tryd.sizeOf3 _) (Tryd.isAgg3 _) fun v4 hv4 => ?_)
   obtain rfl := vint_eq hv4
   refine lw_op rfl rfl rfl (ow_fieldAddr rfl rfl Tryd.underlying45 rfl (Tryd.sizeOf3 _) ?_)
   refine lw_op rfl rfl rfl (ow_load (R := RInt) rfl rfl (ARep.mono (hl2.trans hl3) (hp1.fld fld_Packet_To)) (Tryd.sizeOf3 _) (Tryd.isAgg3 _) fun v5 hv5 => ?_)
   obtain rfl := vint_eq hv5
   refine lw_op rfl rfl rfl (ow_fieldAddr rfl rfl Tryd.underlying45 rfl (Tryd.sizeOf3 _) ?_)
   refine lw_op rfl rfl rfl (ow_load (R := RInt) rfl rfl (ARep.mono (hl2.trans hl3) (hp1.fld fld_Packet_Port)) (Tryd.sizeOf3 _) (Tryd.isAgg3 _) fun v6 hv6 => ?_)
   obtain rfl := vint_eq hv6
   refine lw_op rfl rfl rfl (ow_fieldAddr rfl rfl Tryd.underlying45 rfl (Tryd.sizeOf3 _) ?_)
   refine lw_op rfl rfl rfl (ow_load (R := RInt) rfl rfl (ARep.mono (hl2.trans hl3) (hp1.fld fld_Packet_Proto)) (Tryd.sizeOf3 _) (Tryd.isAgg3 _) fun v7 hv7 => ?_)
   obtain rfl := vint_eq hv7
   refine lw_op rfl rfl rfl (ow_buildSlice (R := RInt) (xs := [a_p.From, a_p.To, a_p.Port, a_p.Proto]) (cs := #[(.int .i64 a_p.From), (.int .i64 a_p.To), (.int .i64 a_p.Port), (.int .i64 a_p.Proto)]) (e := 3) rfl rfl (by kernel_rfl) rfl rfl ⟨_, _, rfl, (vint _).cells, _, _, rfl, (vint _).cells, _, _, rfl, (vint _).cells, _, _, rfl, (vint _).cells, rfl⟩ hC3 fun p2 w4 hw1 hb4 hl4 hC4 => ?_)
   refine lw_op rfl rfl rfl (ow_move rfl rfl ?_)
   replace h := bind_some h
   obtain ⟨x3, hx3, h⟩ := h
   refine lw_op rfl rfl rfl (ow_indexSlice (R := RInt) rfl rfl rfl hw1 Tryd.underlying84 (Tryd.sizeOf3 _) hx3 fun p3 hp3 => ?_)
   refine lw_op rfl rfl rfl (ow_load (R := RInt) rfl rfl hp3 (Tryd.sizeOf3 _) (Tryd.isAgg3 _) fun v8 hv8 => ?_)
   obtain rfl := vint_eq hv8
   refine lw_op rfl rfl rfl (ow_assign rfl rfl ?_)
   refine lw_nil (ew_then (cw_ret ?_))
   obtain rfl := Option.some.inj h
   exact ew_ret (res1 rfl (.tmp rfl)) ⟨_, rfl, ((vint _)), hC4.bx⟩
  ·
   subst hc2
   refine cw_true rfl ?_
   refine cw_seq (cw_region (lw_op rfl rfl rfl (ow_assign rfl rfl ?_)))
   refine lw_nil (ew_then (cw_ret (ew_thenR ?_)))
   obtain rfl := Option.some.inj h
   exact ew_ret (res1 rfl (.tmp rfl)) ⟨_, rfl, ((vint _)), hC3.bx⟩
 ·
  subst hc1
  refine lw_off rfl rfl rfl rfl rfl rfl ?_
  refine lw_off rfl rfl rfl rfl rfl rfl ?_
  refine lw_off rfl rfl rfl rfl rfl rfl ?_
  refine lw_op rfl rfl rfl (ow_pickT rfl rfl rfl ?_)
  refine lw_nil (ew_then (cw_true rfl ?_))
  refine cw_seq (cw_region (lw_op rfl rfl rfl (ow_assign rfl rfl ?_)))
  refine lw_nil (ew_then (cw_ret (ew_thenR ?_)))
  obtain rfl := Option.some.inj h
  exact ew_ret (res1 rfl (.tmp rfl)) ⟨_, rfl, ((vint _)), hC2.bx⟩

theorem w_spec_BoxHas {w : World} {M : Nat → Prop} (hG : ARep (RArr 4 RShape) w M shapes ⟨0, 0, none⟩) (hO : ∀ b, M b → b < w.heap.size) {v0p : Value} {a_b : Box} (h0 : VRep RBox w M a_b v0p) {v1p : Value} {a_p : Packet} (h1 : VRep RPacket w M a_p v1p) {r : Bool} (h : F.spec_BoxHas a_b a_p = some r) :
  Calls Tryd.prog 37 [v0p, v1p].toArray w fun e w' => ∃ v, e = .returned v ∧ VRep RBool w' M r v ∧ BX No w w' := by
 have hC : Cx No w M w M := Cx.start hO (fun _ e => e.elim)
 refine walk (N := 28) Tryd.func37 rfl Tryd.ntmps37 rfl ?_
 refine cw_seq (cw_region (lw_op rfl rfl rfl (ow_box (R := RBox) rfl rfl h0 hC fun p1 w1 hp1 hb1 hl1 hC1 => ?_)))
 refine lw_op rfl rfl rfl (ow_box (R := RPacket) rfl rfl (VRep.mono hl1 h1) hC1 fun p2 w2 hp2 hb2 hl2 hC2 => ?_)
 refine lw_op rfl rfl rfl (ow_assign rfl rfl ?_)
 refine lw_nil (ew_then (cw_seq (cw_seq (cw_region (lw_op rfl rfl rfl (ow_load (R := RBox) rfl rfl (ARep.mono hl2 hp1) (Tryd.sizeOf27 _) (Tryd.isAgg27 _) fun v1 hv1 => ?_))))))
 replace h := bind_some h
 obtain ⟨x1, hx1, h⟩ := h
 refine lw_op rfl rfl rfl (ow_call rfl rfl Tryd.call38 (w_spec_BoxValid (hG.mono (hl1.trans hl2)) hC2.old hv1 hx1) fun v2 w3 hv2 => ?_)
 obtain ⟨hv2, hb3⟩ := hv2
 have hl3 := Le.no M hb3
 have hC3 := hC2.no hb3
 obtain rfl := vbool_eq hv2
 refine lw_op rfl rfl rfl (ow_not rfl rfl ?_)
 refine lw_op rfl rfl rfl (ow_move rfl rfl ?_)
 replace h := cond_some h
 rcases h with ⟨hc1, h⟩ | ⟨hc1, h⟩
 ·
  subst hc1
  refine lw_on rfl rfl rfl rfl rfl rfl (ow_load (R := RPacket) rfl rfl (ARep.mono hl3 hp2) (Tryd.sizeOf45 _) (Tryd.isAgg45 _) fun v3 hv3 => ?_)
  replace h := bind_some h
  obtain ⟨x2, hx2, h⟩ := h
  refine lw_on rfl rfl rfl rfl rfl rfl (ow_call rfl rfl Tryd.call39 (w_spec_PacketValid (hG.mono ((hl1.trans hl2).trans hl3)) hC3.old hv3 hx2) fun v4 w4 hv4 => ?_)
  obtain ⟨hv4, hb4⟩ := hv4
  have hl4 := Le.no M hb4
  have hC4 := hC3.no hb4
  obtain rfl := vbool_eq hv4
  refine lw_on rfl rfl rfl rfl rfl rfl (ow_not rfl rfl ?_)
  refine lw_op rfl rfl rfl (ow_pickF rfl rfl rfl ?_)
  refine lw_nil (ew_then ?_)
  replace h := cond_some h
  rcases h with ⟨hc2, h⟩ | ⟨hc2, h⟩
  ·
   subst hc2
   refine cw_false rfl ?_
   refine cw_skip (ew_then (cw_seq (cw_seq (cw_region (lw_op rfl rfl rfl (ow_assign rfl rfl ?_))))))
   refine lw_nil (ew_then ?_)
   replace h := bind_some h
   obtain ⟨lr1, hlr1, h⟩ := h
   refine cw_for hlr1 (fun s a w' => ∃ (M' : Nat → Prop), Fits 28 [(2, (.pointer (some p1))), (3, (.pointer (some p2))), (5, (.int .i64 s))] a ∧ Le w4 M w' M' ∧ Cx No w M w' M') ?_ ?_ ?_
   ·
    intro a ha
    exact ⟨M, ha.sub ⟨rfl, rfl, rfl, trivial⟩, Le.refl _ _, hC4⟩
   ·
    rintro k1 a w5 sr1 ⟨M1, hF1, hl5, hC5⟩ hb5 hR1
    refine cw_at (E := [(2, (.pointer (some p1))), (3, (.pointer (some p2))), (5, (.int .i64 k1))]) hF1 ?_
    refine cw_seq (cw_seq (cw_region (lw_op rfl rfl rfl (ow_move rfl rfl ?_))))
    refine lw_op rfl rfl rfl (ow_lss rfl rfl rfl fun bb1 hbb1 => ?_)
    refine lw_nil (ew_then ?_)
    replace hb5 := cond_some hb5
    rcases hb5 with ⟨hc3, hb5⟩ | ⟨hc3, hb5⟩
    ·
     obtain rfl := hbb1.trans hc3
     refine cw_true rfl ?_
     refine cw_skip (ew_then (cw_seq (cw_block ?_)))
     refine cw_seq ?_
     replace hb5 := bind_some hb5
     obtain ⟨x3, hx3, hb5⟩ := hb5
     replace hb5 := bind_some hb5
     obtain ⟨x4, hx4, hb5⟩ := hb5
     refine cw_sub (E' := [(2, (.pointer (some p1))), (3, (.pointer (some p2))), (5, (.int .i64 k1))]) ⟨rfl, rfl, rfl, trivial⟩ ?_
     refine cw_drawQ 8 [PA (RSlice (RSlice RSpan)) M1 a_b.Sides, PV (RSlice (RSlice RSpan)) M1 a_b.Sides, PEq (.int .i64 k1), PA (RSlice RSpan) M1 x3, PV (RSlice RSpan) M1 x3, PV RPacket M1 a_p, PEq (.int .i64 k1), PEq (.int .i64 x4)] (by kernel_rfl) rfl (by kernel_rfl) ⟨PA.mono _ _ _, PV.mono _ _ _, PEq.mono _, PA.mono _ _ _, PV.mono _ _ _, PV.mono _ _ _, PEq.mono _, PEq.mono _, trivial⟩ ⟨?_, ?_, ?_, ?_, ?_, ?_, ?_, ?_, trivial⟩ ?_
     ·
      intro w7 D hS1 hd1
      have hl7 := Le.no M1 hS1
      have hC7 := hC5.no hS1
      refine dg_sub (E' := [(2, (.pointer (some p1)))]) ⟨rfl, trivial⟩ ?_
      refine dg_plain rfl (ow_fieldAddr rfl rfl Tryd.underlying27 rfl (Tryd.sizeOf25 _) ?_)
      exact ⟨BX.refl _ _, ⟨_, rfl, (ARep.mono ((((hl2.trans hl3).trans hl4).trans hl5).trans hl7) (hp1.fld fld_Box_Sides))⟩⟩
     ·
      intro w8 D hS2 hd2
      have hl8 := Le.no M1 hS2
      have hC8 := hC5.no hS2
      have hd2 : PA (RSlice (RSlice RSpan)) M1 a_b.Sides (D 0) w8 ∧ True := hd2
      obtain ⟨d1, -⟩ := hd2
      obtain ⟨p4, e1, ha1⟩ := d1
      refine dg_sub (E' := [(18, (.pointer (some p4)))]) ⟨(congrArg some e1), trivial⟩ ?_
      refine dg_plain rfl (ow_load (R := (RSlice (RSlice RSpan))) rfl rfl ha1 (Tryd.sizeOf25 _) (Tryd.isAgg25 _) fun v10 hv10 => ?_)
      exact ⟨BX.refl _ _, hv10⟩
     ·
      intro w9 D hS3 hd3
      have hl9 := Le.no M1 hS3
      have hC9 := hC5.no hS3
      refine dg_sub (E' := [(5, (.int .i64 k1))]) ⟨rfl, trivial⟩ ?_
      refine dg_plain rfl (ow_move rfl rfl ?_)
      exact ⟨BX.refl _ _, rfl⟩
     ·
      intro w10 D hS4 hd4
      have hl10 := Le.no M1 hS4
      have hC10 := hC5.no hS4
      have hd4 : PV (RSlice (RSlice RSpan)) M1 a_b.Sides (D 1) w10 ∧ PEq (.int .i64 k1) (D 2) w10 ∧ True := hd4
      obtain ⟨d2, d3, -⟩ := hd4
      obtain ⟨v11, hq1⟩ : ∃ v, (D 1) = v := ⟨_, rfl⟩
      rw [hq1] at d2
      refine dg_sub (E' := [(19, v11), (20, (.int .i64 k1))]) ⟨(congrArg some hq1), (congrArg some d3), trivial⟩ ?_
      refine dg_plain rfl (ow_indexSlice (R := (RSlice RSpan)) rfl rfl rfl d2 Tryd.underlying25 (Tryd.sizeOf58 _) hx3 fun p5 hp5 => ?_)
      exact ⟨BX.refl _ _, ⟨_, rfl, hp5⟩⟩
     ·
      intro w11 D hS5 hd5
      have hl11 := Le.no M1 hS5
      have hC11 := hC5.no hS5
      have hd5 : PA (RSlice RSpan) M1 x3 (D 3) w11 ∧ True := hd5
      obtain ⟨d4, -⟩ := hd5
      obtain ⟨p6, e2, ha2⟩ := d4
      refine dg_sub (E' := [(21, (.pointer (some p6)))]) ⟨(congrArg some e2), trivial⟩ ?_
      refine dg_plain rfl (ow_load (R := (RSlice RSpan)) rfl rfl ha2 (Tryd.sizeOf58 _) (Tryd.isAgg58 _) fun v12 hv12 => ?_)
      exact ⟨BX.refl _ _, hv12⟩
     ·
      intro w12 D hS6 hd6
      have hl12 := Le.no M1 hS6
      have hC12 := hC5.no hS6
      refine dg_sub (E' := [(3, (.pointer (some p2)))]) ⟨rfl, trivial⟩ ?_
      refine dg_plain rfl (ow_load (R := RPacket) rfl rfl (ARep.mono (((hl3.trans hl4).trans hl5).trans hl12) hp2) (Tryd.sizeOf45 _) (Tryd.isAgg45 _) fun v13 hv13 => ?_)
      exact ⟨BX.refl _ _, hv13⟩
     ·
      intro w13 D hS7 hd7
      have hl13 := Le.no M1 hS7
      have hC13 := hC5.no hS7
      refine dg_sub (E' := [(5, (.int .i64 k1))]) ⟨rfl, trivial⟩ ?_
      refine dg_plain rfl (ow_move rfl rfl ?_)
      exact ⟨BX.refl _ _, rfl⟩
     ·
      intro w14 D hS8 hd8
      have hl14 := Le.no M1 hS8
      have hC14 := hC5.no hS8
      have hd8 : PV RPacket M1 a_p (D 5) w14 ∧ PEq (.int .i64 k1) (D 6) w14 ∧ True := hd8
      obtain ⟨d5, d6, -⟩ := hd8
      obtain ⟨v14, hq2⟩ : ∃ v, (D 5) = v := ⟨_, rfl⟩
      rw [hq2] at d5
      refine dg_sub (E' := [(23, v14), (24, (.int .i64 k1))]) ⟨(congrArg some hq2), (congrArg some d6), trivial⟩ ?_
      refine dg_plain rfl (ow_call rfl rfl Tryd.call79 (w_spec_PacketField (hG.mono (((((hl1.trans hl2).trans hl3).trans hl4).trans hl5).trans hl14)) hC14.old d5 hx4) fun v15 w15 hv15 => ?_)
      obtain ⟨hv15, hb7⟩ := hv15
      have hl15 := Le.no M1 hb7
      have hC15 := hC14.no hb7
      obtain rfl := vint_eq hv15
      exact ⟨hb7, rfl⟩
     ·
      intro w16 D hS9 hd9
      have hd9 : PA (RSlice (RSlice RSpan)) M1 a_b.Sides (D 0) w16 ∧ PV (RSlice (RSlice RSpan)) M1 a_b.Sides (D 1) w16 ∧ PEq (.int .i64 k1) (D 2) w16 ∧ PA (RSlice RSpan) M1 x3 (D 3) w16 ∧ PV (RSlice RSpan) M1 x3 (D 4) w16 ∧ PV RPacket M1 a_p (D 5) w16 ∧ PEq (.int .i64 k1) (D 6) w16 ∧ PEq (.int .i64 x4) (D 7) w16 ∧ True := hd9
      obtain ⟨-, -, -, -, d11, -, -, d14, -⟩ := hd9
      have hl16 := Le.no M1 hS9
      have hC16 := hC5.no hS9
      obtain ⟨v16, hq3⟩ : ∃ v, (D 4) = v := ⟨_, rfl⟩
      rw [hq3] at d11
      refine lw_sub (E' := [(22, v16), (25, (.int .i64 x4)), (2, (.pointer (some p1))), (3, (.pointer (some p2))), (5, (.int .i64 k1))]) ⟨(congrArg some hq3), (congrArg some d14), rfl, rfl, rfl, trivial⟩ ?_
      replace hb5 := bind_some hb5
      obtain ⟨x5, hx5, hb5⟩ := hb5
      refine lw_op rfl rfl rfl (ow_call rfl rfl Tryd.call78 (w_spec_SpansHave (hG.mono (((((hl1.trans hl2).trans hl3).trans hl4).trans hl5).trans hl16)) hC16.old d11 hx5) fun v17 w17 hv17 => ?_)
      obtain ⟨hv17, hb8⟩ := hv17
      have hl17 := Le.no M1 hb8
      have hC17 := hC16.no hb8
      obtain rfl := vbool_eq hv17
      refine lw_op rfl rfl rfl (ow_not rfl rfl ?_)
      refine lw_nil (ew_then ?_)
      replace hb5 := cond_some hb5
      rcases hb5 with ⟨hc4, hb5⟩ | ⟨hc4, hb5⟩
      ·
       subst hc4
       refine cw_false rfl ?_
       refine cw_skip (ew_blockN ?_)
       refine ew_then (cw_region (lw_op rfl rfl rfl (ow_move rfl rfl ?_)))
       refine lw_op rfl rfl rfl (ow_add rfl rfl rfl ?_)
       refine lw_op rfl rfl rfl (ow_assign rfl rfl ?_)
       refine lw_nil (ew_nxt (W (k1 + 1)) hb5 fun a ha => ⟨M1, ?_, ((hl5.trans hl16).trans hl17), hC17⟩)
       exact ha.sub ⟨rfl, rfl, rfl, trivial⟩
      ·
       subst hc4
       refine cw_true rfl ?_
       refine cw_seq (cw_region (lw_op rfl rfl rfl (ow_assign rfl rfl ?_)))
       refine lw_nil (ew_then (cw_ret (ew_blockR ?_)))
       refine ew_thenR (ew_thenR (ew_blockR ?_))
       refine ew_brkR ?_
       refine ew_thenR ?_
       have e3 := hR1 _ (Option.some.inj hb5).symm
       subst e3
       obtain rfl := Option.some.inj h
       exact ew_ret (res1 rfl (.tmp rfl)) ⟨_, rfl, ((vbool _)), hC17.bx⟩
    ·
     obtain rfl := hbb1.trans hc3
     refine cw_false rfl ?_
     refine cw_exit ?_
     refine ew_thenX ?_
     refine ew_thenX ?_
     refine ew_blockX ?_
     refine ew_brk k1 hb5 fun a ha => ⟨M1, ?_, hl5, hC5⟩
     exact ha.sub ⟨rfl, rfl, rfl, trivial⟩
   ·
    rintro k2 a w18 hlr2 ⟨M2, hF2, hl18, hC18⟩
    subst hlr2
    refine ew_at (E := [(2, (.pointer (some p1))), (3, (.pointer (some p2))), (5, (.int .i64 k2))]) hF2 ?_
    refine ew_then (cw_seq (cw_region (lw_op rfl rfl rfl (ow_assign rfl rfl ?_))))
    refine lw_nil (ew_then (cw_ret ?_))
    obtain rfl := Option.some.inj h
    exact ew_ret (res1 rfl (.tmp rfl)) ⟨_, rfl, ((vbool _)), hC18.bx⟩
  ·
   subst hc2
   refine cw_true rfl ?_
   refine cw_seq (cw_region (lw_op rfl rfl rfl (ow_assign rfl rfl ?_)))
   refine lw_nil (ew_then (cw_ret (ew_thenR ?_)))
   obtain rfl := Option.some.inj h
   exact ew_ret (res1 rfl (.tmp rfl)) ⟨_, rfl, ((vbool _)), hC4.bx⟩
 ·
  subst hc1
  refine lw_off rfl rfl rfl rfl rfl rfl ?_
  refine lw_off rfl rfl rfl rfl rfl rfl ?_
  refine lw_off rfl rfl rfl rfl rfl rfl ?_
  refine lw_op rfl rfl rfl (ow_pickT rfl rfl rfl ?_)
  refine lw_nil (ew_then (cw_true rfl ?_))
  refine cw_seq (cw_region (lw_op rfl rfl rfl (ow_assign rfl rfl ?_)))
  refine lw_nil (ew_then (cw_ret (ew_thenR ?_)))
  obtain rfl := Option.some.inj h
  exact ew_ret (res1 rfl (.tmp rfl)) ⟨_, rfl, ((vbool _)), hC3.bx⟩

theorem w_impl_PacketField {w : World} {M : Nat → Prop} (hG : ARep (RArr 4 RShape) w M shapes ⟨0, 0, none⟩) (hO : ∀ b, M b → b < w.heap.size) {v0p : Value} {a_p : Packet} (h0 : VRep RPacket w M a_p v0p) {a_n : Int} {r : Int} (h : F.impl_PacketField a_p a_n = some r) :
  Calls Tryd.prog 41 [v0p, (.int .i64 a_n)].toArray w fun e w' => ∃ v, e = .returned v ∧ VRep RInt w' M r v ∧ BX No w w' := by
 have hC : Cx No w M w M := Cx.start hO (fun _ e => e.elim)
 refine walk (N := 20) Tryd.func41 rfl Tryd.ntmps41 rfl ?_
 refine cw_seq (cw_region (lw_op rfl rfl rfl (ow_box (R := RPacket) rfl rfl h0 hC fun p1 w1 hp1 hb1 hl1 hC1 => ?_)))
 refine lw_op rfl rfl rfl (ow_assign rfl rfl ?_)
 refine lw_nil (ew_then (cw_seq (cw_seq (cw_region (lw_op rfl rfl rfl (ow_move rfl rfl ?_))))))
 refine lw_op rfl rfl rfl (ow_lss rfl rfl rfl fun bb1 hbb1 => ?_)
 refine lw_op rfl rfl rfl (ow_move rfl rfl ?_)
 replace h := cond_some h
 rcases h with ⟨hc1, h⟩ | ⟨hc1, h⟩
 ·
  obtain rfl := hbb1.trans hc1
  refine lw_off rfl rfl rfl rfl rfl rfl ?_
  refine lw_off rfl rfl rfl rfl rfl rfl ?_
  refine lw_op rfl rfl rfl (ow_pickT rfl rfl rfl ?_)
  refine lw_op rfl rfl rfl (ow_move rfl rfl ?_)
  refine lw_off rfl rfl rfl rfl rfl rfl ?_
  refine lw_off rfl rfl rfl rfl rfl rfl ?_
  refine lw_off rfl rfl rfl rfl rfl rfl ?_
  refine lw_op rfl rfl rfl (ow_pickT rfl rfl rfl ?_)
  refine lw_nil (ew_then (cw_true rfl ?_))
  refine cw_seq (cw_region (lw_op rfl rfl rfl (ow_assign rfl rfl ?_)))
  refine lw_nil (ew_then (cw_ret (ew_thenR ?_)))
  obtain rfl := Option.some.inj h
  exact ew_ret (res1 rfl (.tmp rfl)) ⟨_, rfl, ((vint _)), hC1.bx⟩
 ·
  obtain rfl := hbb1.trans hc1
  refine lw_on rfl rfl rfl rfl rfl rfl (ow_move rfl rfl ?_)
  refine lw_on rfl rfl rfl rfl rfl rfl (ow_geq rfl rfl rfl fun bb2 hbb2 => ?_)
  refine lw_op rfl rfl rfl (ow_pickF rfl rfl rfl ?_)
  refine lw_op rfl rfl rfl (ow_move rfl rfl ?_)
  replace h := cond_some h
  rcases h with ⟨hc2, h⟩ | ⟨hc2, h⟩
  ·
   obtain rfl := hbb2.trans hc2
   refine lw_off rfl rfl rfl rfl rfl rfl ?_
   refine lw_off rfl rfl rfl rfl rfl rfl ?_
   refine lw_off rfl rfl rfl rfl rfl rfl ?_
   refine lw_op rfl rfl rfl (ow_pickT rfl rfl rfl ?_)
   refine lw_nil (ew_then (cw_true rfl ?_))
   refine cw_seq (cw_region (lw_op rfl rfl rfl (ow_assign rfl rfl ?_)))
   refine lw_nil (ew_then (cw_ret (ew_thenR ?_)))
   obtain rfl := Option.some.inj h
   exact ew_ret (res1 rfl (.tmp rfl)) ⟨_, rfl, ((vint _)), hC1.bx⟩
  ·
   obtain rfl := hbb2.trans hc2
   refine lw_on rfl rfl rfl rfl rfl rfl (ow_load (R := RPacket) rfl rfl hp1 (Tryd.sizeOf45 _) (Tryd.isAgg45 _) fun v1 hv1 => ?_)
   replace h := bind_some h
   obtain ⟨x1, hx1, h⟩ := h
   refine lw_on rfl rfl rfl rfl rfl rfl (ow_call rfl rfl Tryd.call70 (w_impl_PacketValid (hG.mono hl1) hC1.old hv1 hx1) fun v2 w2 hv2 => ?_)
   obtain ⟨hv2, hb2⟩ := hv2
   have hl2 := Le.no M hb2
   have hC2 := hC1.no hb2
   obtain rfl := vbool_eq hv2
   refine lw_on rfl rfl rfl rfl rfl rfl (ow_not rfl rfl ?_)
   refine lw_op rfl rfl rfl (ow_pickF rfl rfl rfl ?_)
   refine lw_nil (ew_then ?_)
   replace h := cond_some h
   rcases h with ⟨hc3, h⟩ | ⟨hc3, h⟩
   ·
    subst hc3
    refine cw_false rfl ?_
    refine cw_skip (ew_then (cw_seq (cw_region (lw_op rfl rfl rfl (ow_load (R := RPacket) rfl rfl (ARep.mono hl2 hp1) (Tryd.sizeOf45 _) (Tryd.isAgg45 _) fun v3 hv3 => ?_)))))
    replace h := bind_some h
    obtain ⟨x2, hx2, h⟩ := h
    refine lw_op rfl rfl rfl (ow_call rfl rfl Tryd.call83 (w_impl_Packet_fields (hG.mono (hl1.trans hl2)) hC2.old hv3 hx2) fun v4 w3 hv4 => ?_)
    obtain ⟨hv4, hb3⟩ := hv4
    have hl3 := Le.no M hb3
    have hC3 := hC2.no hb3
    refine lw_op rfl rfl rfl (ow_move rfl rfl ?_)
    replace h := bind_some h
    obtain ⟨x3, hx3, h⟩ := h
    refine lw_op rfl rfl rfl (ow_index (R := RInt) rfl rfl rfl hv4 Tryd.underlying91 (Tryd.sizeOf3 _) (Tryd.isAgg3 _) hx3 fun v5 hv5 => ?_)
    obtain rfl := vint_eq hv5
    refine lw_op rfl rfl rfl (ow_assign rfl rfl ?_)
    refine lw_nil (ew_then (cw_ret ?_))
    obtain rfl := Option.some.inj h
    exact ew_ret (res1 rfl (.tmp rfl)) ⟨_, rfl, ((vint _)), hC3.bx⟩
   ·
    subst hc3
    refine cw_true rfl ?_
    refine cw_seq (cw_region (lw_op rfl rfl rfl (ow_assign rfl rfl ?_)))
    refine lw_nil (ew_then (cw_ret (ew_thenR ?_)))
    obtain rfl := Option.some.inj h
    exact ew_ret (res1 rfl (.tmp rfl)) ⟨_, rfl, ((vint _)), hC2.bx⟩

theorem w_laws_FnBoxHas {w : World} {M : Nat → Prop} (hG : ARep (RArr 4 RShape) w M shapes ⟨0, 0, none⟩) (hO : ∀ b, M b → b < w.heap.size) {v0p : Value} {a_code : List Int} (h0 : VRep (RSlice RU8) w M a_code v0p) {r : Bool} (h : F.laws_FnBoxHas a_code = some r) :
  Calls Tryd.prog 9 [v0p].toArray w fun e w' => ∃ v, e = .returned v ∧ VRep RBool w' M r v ∧ BX No w w' := by
 have hC : Cx No w M w M := Cx.start hO (fun _ e => e.elim)
 refine walk (N := 56) Tryd.func9 rfl Tryd.ntmps9 rfl ?_
 refine cw_seq (cw_region (lw_op rfl rfl rfl (ow_assign rfl rfl ?_)))
 refine lw_nil (ew_then (cw_seq (cw_seq (cw_region (lw_op rfl rfl rfl (ow_move rfl rfl ?_))))))
 refine lw_op rfl rfl rfl (ow_len rfl rfl h0 Tryd.underlying22 rfl ?_)
 refine lw_op rfl rfl rfl (ow_gtr rfl rfl rfl fun bb1 hbb1 => ?_)
 refine lw_nil (ew_then ?_)
 replace h := cond_some h
 rcases h with ⟨hc1, h⟩ | ⟨hc1, h⟩
 ·
  obtain rfl := hbb1.trans hc1
  refine cw_true rfl ?_
  refine cw_seq (cw_region (lw_op rfl rfl rfl (ow_assign rfl rfl ?_)))
  refine lw_nil (ew_then (cw_ret (ew_thenR ?_)))
  obtain rfl := Option.some.inj h
  exact ew_ret (res1 rfl (.tmp rfl)) ⟨_, rfl, ((vbool _)), hC.bx⟩
 ·
  obtain rfl := hbb1.trans hc1
  refine cw_false rfl ?_
  refine cw_skip (ew_then (cw_seq (cw_region (lw_op rfl rfl rfl (ow_move rfl rfl ?_)))))
  replace h := bind_some h
  obtain ⟨x1, hx1, h⟩ := h
  refine lw_op rfl rfl rfl (ow_call rfl rfl Tryd.call36 (w_spec_DrawBoxHas hG hC.old h0 hx1) fun v1 w1 hv1 => ?_)
  obtain ⟨⟨v2, v3, rfl, hv2, hv3⟩, hb1⟩ := hv1
  have hl1 := Le.no M hb1
  have hC1 := hC.no hb1
  refine lw_op rfl rfl rfl (ow_move rfl rfl ?_)
  refine lw_op rfl rfl rfl (ow_extract rfl rfl rfl ?_)
  refine lw_op rfl rfl rfl (ow_extract rfl rfl rfl ?_)
  refine lw_op rfl rfl rfl (ow_alloc rfl (Tryd.zeroValue27 _) hC1 fun g1 w2 hg1 hg2 ho1 hb2 hl2 hC2 => ?_)
  have hm1 : (Add g1 M) g1 := .inl rfl
  refine lw_op rfl rfl rfl (ow_alloc rfl (Tryd.zeroValue45 _) hC2 fun g2 w3 hg3 hg4 ho2 hb3 hl3 hC3 => ?_)
  have hn1 := Nat.ne_of_lt (Nat.lt_of_lt_of_le ho1.lt hg3)
  have ho3 := ho1.no hb3
  have hm2 : (Add g2 (Add g1 M)) g1 := .inr hm1
  have hm3 : (Add g2 (Add g1 M)) g2 := .inl rfl
  obtain ⟨A1, c1, rfl, hw1⟩ := open_Box hv2
  refine lw_op0 rfl rfl (ow_store (X := No) (us := [(.slice A1 x1.1.Sides.length c1)]) (cs' := #[(.slice A1 x1.1.Sides.length c1)]) rfl rfl rfl rfl ho3 (Tryd.sizeOf27 _) rfl rfl rfl rfl hm2 (.inl hg2) rfl hC3 fun w4 ho4 hb4 hl4 hC4 => ?_)
  have ho5 := ho2.go hb4 (fun e => hn1 e.symm)
  obtain rfl := open_Packet hv3
  refine lw_op0 rfl rfl (ow_store (X := No) (us := [(.int .i64 x1.2.From), (.int .i64 x1.2.To), (.int .i64 x1.2.Port), (.int .i64 x1.2.Proto)]) (cs' := #[(.int .i64 x1.2.From), (.int .i64 x1.2.To), (.int .i64 x1.2.Port), (.int .i64 x1.2.Proto)]) rfl rfl rfl rfl ho5 (Tryd.sizeOf45 _) rfl rfl rfl rfl hm3 (.inl hg4) rfl hC4 fun w5 ho6 hb5 hl5 hC5 => ?_)
  have ho7 := ho4.go hb5 (fun e => hn1 e)
  refine lw_nil (ew_then (cw_seq (cw_region (lw_op rfl rfl rfl (ow_loadOwnA rfl rfl rfl ho7 (Tryd.isAgg27 _) (Tryd.sizeOf27 _) rfl ?_)))))
  have hw2 : VRep RBox w5 (Add g2 (Add g1 M)) ({ Sides := x1.1.Sides } : Box) (.agg #[(.slice A1 x1.1.Sides.length c1)]) := shut_Box (VRep.mono (((hl2.trans hl3).trans hl4).trans hl5) hw1)
  refine lw_op rfl rfl rfl (ow_loadOwnA rfl rfl rfl ho6 (Tryd.isAgg45 _) (Tryd.sizeOf45 _) rfl ?_)
  have hw3 : VRep RPacket w5 (Add g2 (Add g1 M)) ({ From := x1.2.From, To := x1.2.To, Port := x1.2.Port, Proto := x1.2.Proto } : Packet) (.agg #[(.int .i64 x1.2.From), (.int .i64 x1.2.To), (.int .i64 x1.2.Port), (.int .i64 x1.2.Proto)]) := shut_Packet
  replace h := bind_some h
  obtain ⟨x2, hx2, h⟩ := h
  refine lw_op rfl rfl rfl (ow_call rfl rfl Tryd.call31 (w_impl_BoxHas (hG.mono ((((hl1.trans hl2).trans hl3).trans hl4).trans hl5)) hC5.old hw2 hw3 hx2) fun v4 w6 hv4 => ?_)
  obtain ⟨hv4, hb6⟩ := hv4
  have hl6 := Le.no (Add g2 (Add g1 M)) hb6
  have hC6 := hC5.no hb6
  have ho8 := ho7.no hb6
  have ho9 := ho6.no hb6
  obtain rfl := vbool_eq hv4
  refine lw_op rfl rfl rfl (ow_assign rfl rfl ?_)
  refine lw_nil (ew_then (cw_seq (cw_seq (cw_region (lw_op rfl rfl rfl (ow_move rfl rfl ?_))))))
  refine lw_op rfl rfl rfl (ow_loadOwnA rfl rfl rfl ho8 (Tryd.isAgg27 _) (Tryd.sizeOf27 _) rfl ?_)
  have hw4 : VRep RBox w6 (Add g2 (Add g1 M)) ({ Sides := x1.1.Sides } : Box) (.agg #[(.slice A1 x1.1.Sides.length c1)]) := shut_Box (VRep.mono ((((hl2.trans hl3).trans hl4).trans hl5).trans hl6) hw1)
  refine lw_op rfl rfl rfl (ow_loadOwnA rfl rfl rfl ho9 (Tryd.isAgg45 _) (Tryd.sizeOf45 _) rfl ?_)
  have hw5 : VRep RPacket w6 (Add g2 (Add g1 M)) ({ From := x1.2.From, To := x1.2.To, Port := x1.2.Port, Proto := x1.2.Proto } : Packet) (.agg #[(.int .i64 x1.2.From), (.int .i64 x1.2.To), (.int .i64 x1.2.Port), (.int .i64 x1.2.Proto)]) := shut_Packet
  replace h := bind_some h
  obtain ⟨x3, hx3, h⟩ := h
  refine lw_op rfl rfl rfl (ow_call rfl rfl Tryd.call37 (w_spec_BoxHas (hG.mono (((((hl1.trans hl2).trans hl3).trans hl4).trans hl5).trans hl6)) hC6.old hw4 hw5 hx3) fun v5 w7 hv5 => ?_)
  obtain ⟨hv5, hb7⟩ := hv5
  have hl7 := Le.no (Add g2 (Add g1 M)) hb7
  have hC7 := hC6.no hb7
  have ho10 := ho8.no hb7
  have ho11 := ho9.no hb7
  obtain rfl := vbool_eq hv5
  refine lw_op rfl rfl rfl (ow_neqB rfl rfl rfl Tryd.underlying4 fun bb2 hbb2 => ?_)
  refine lw_nil (ew_then ?_)
  replace h := cond_some h
  rcases h with ⟨hc2, h⟩ | ⟨hc2, h⟩
  ·
   obtain rfl := hbb2.trans hc2
   refine cw_true rfl ?_
   refine cw_seq (cw_region (lw_op rfl rfl rfl (ow_assign rfl rfl ?_)))
   refine lw_nil (ew_then (cw_ret (ew_thenR ?_)))
   obtain rfl := Option.some.inj h
   exact ew_ret (res1 rfl (.tmp rfl)) ⟨_, rfl, ((vbool _)), hC7.bx⟩
  ·
   obtain rfl := hbb2.trans hc2
   refine cw_false rfl ?_
   refine cw_skip (ew_then (cw_seq (cw_seq (cw_region (lw_op rfl rfl rfl (ow_loadOwnA rfl rfl rfl ho10 (Tryd.isAgg27 _) (Tryd.sizeOf27 _) rfl ?_))))))
   have hw6 : VRep RBox w7 (Add g2 (Add g1 M)) ({ Sides := x1.1.Sides } : Box) (.agg #[(.slice A1 x1.1.Sides.length c1)]) := shut_Box (VRep.mono (((((hl2.trans hl3).trans hl4).trans hl5).trans hl6).trans hl7) hw1)
   replace h := bind_some h
   obtain ⟨x4, hx4, h⟩ := h
   refine lw_op rfl rfl rfl (ow_call rfl rfl Tryd.call38 (w_spec_BoxValid (hG.mono ((((((hl1.trans hl2).trans hl3).trans hl4).trans hl5).trans hl6).trans hl7)) hC7.old hw6 hx4) fun v6 w8 hv6 => ?_)
   obtain ⟨hv6, hb8⟩ := hv6
   have hl8 := Le.no (Add g2 (Add g1 M)) hb8
   have hC8 := hC7.no hb8
   have ho12 := ho10.no hb8
   have ho13 := ho11.no hb8
   obtain rfl := vbool_eq hv6
   refine lw_op rfl rfl rfl (ow_not rfl rfl ?_)
   refine lw_op rfl rfl rfl (ow_move rfl rfl ?_)
   replace h := cond_some h
   rcases h with ⟨hc3, h⟩ | ⟨hc3, h⟩
   ·
    subst hc3
    refine lw_on rfl rfl rfl rfl rfl rfl (ow_loadOwnA rfl rfl rfl ho13 (Tryd.isAgg45 _) (Tryd.sizeOf45 _) rfl ?_)
    have hw7 : VRep RPacket w8 (Add g2 (Add g1 M)) ({ From := x1.2.From, To := x1.2.To, Port := x1.2.Port, Proto := x1.2.Proto } : Packet) (.agg #[(.int .i64 x1.2.From), (.int .i64 x1.2.To), (.int .i64 x1.2.Port), (.int .i64 x1.2.Proto)]) := shut_Packet
    replace h := bind_some h
    obtain ⟨x5, hx5, h⟩ := h
    refine lw_on rfl rfl rfl rfl rfl rfl (ow_call rfl rfl Tryd.call39 (w_spec_PacketValid (hG.mono (((((((hl1.trans hl2).trans hl3).trans hl4).trans hl5).trans hl6).trans hl7).trans hl8)) hC8.old hw7 hx5) fun v7 w9 hv7 => ?_)
    obtain ⟨hv7, hb9⟩ := hv7
    have hl9 := Le.no (Add g2 (Add g1 M)) hb9
    have hC9 := hC8.no hb9
    have ho14 := ho12.no hb9
    have ho15 := ho13.no hb9
    obtain rfl := vbool_eq hv7
    refine lw_on rfl rfl rfl rfl rfl rfl (ow_not rfl rfl ?_)
    refine lw_op rfl rfl rfl (ow_pickF rfl rfl rfl ?_)
    refine lw_nil (ew_then ?_)
    replace h := cond_some h
    rcases h with ⟨hc4, h⟩ | ⟨hc4, h⟩
    ·
     subst hc4
     refine cw_false rfl ?_
     refine cw_skip (ew_then (cw_seq (cw_region (lw_op rfl rfl rfl (ow_assign rfl rfl ?_)))))
     refine lw_nil (ew_then (cw_seq (cw_seq (cw_region (lw_op rfl rfl rfl (ow_assign rfl rfl ?_))))))
     refine lw_nil (ew_then ?_)
     replace h := bind_some h
     obtain ⟨lr1, hlr1, h⟩ := h
     refine cw_for hlr1 (fun s a w' => ∃ (M' : Nat → Prop), Fits 56 [(3, (.pointer (some ⟨g1, 0, none⟩))), (4, (.pointer (some ⟨g2, 0, none⟩))), (5, (.bool x2)), (6, (.bool s.1)), (7, (.int .i64 s.2))] a ∧ Le w9 (Add g2 (Add g1 M)) w' M' ∧ Cx No w M w' M' ∧ Own w' g1 27 #[(.slice A1 x1.1.Sides.length c1)] ∧ M' g1 ∧ Own w' g2 45 #[(.int .i64 x1.2.From), (.int .i64 x1.2.To), (.int .i64 x1.2.Port), (.int .i64 x1.2.Proto)] ∧ M' g2) ?_ ?_ ?_
     ·
      intro a ha
      exact ⟨(Add g2 (Add g1 M)), ha.sub ⟨rfl, rfl, rfl, rfl, rfl, trivial⟩, Le.refl _ _, hC9, ho14, hm2, ho15, hm3⟩
     ·
      rintro ⟨y1, k1⟩ a w10 sr1 ⟨M1, hF1, hl10, hC10, ho16, hm4, ho17, hm5⟩ hb10 hR1
      refine cw_at (E := [(3, (.pointer (some ⟨g1, 0, none⟩))), (4, (.pointer (some ⟨g2, 0, none⟩))), (5, (.bool x2)), (6, (.bool y1)), (7, (.int .i64 k1))]) hF1 ?_
      refine cw_seq (cw_seq (cw_region (lw_op rfl rfl rfl (ow_move rfl rfl ?_))))
      refine lw_op rfl rfl rfl (ow_lss rfl rfl rfl fun bb3 hbb3 => ?_)
      refine lw_nil (ew_then ?_)
      replace hb10 := cond_some hb10
      rcases hb10 with ⟨hc5, hb10⟩ | ⟨hc5, hb10⟩
      ·
       obtain rfl := hbb3.trans hc5
       refine cw_true rfl ?_
       refine cw_skip (ew_then (cw_seq (cw_block ?_)))
       replace hb10 := cond_some hb10
       rcases hb10 with ⟨hc6, hb10⟩ | ⟨hc6, hb10⟩
       ·
        subst hc6
        replace hb10 := bind_some hb10
        obtain ⟨x6, hx6, hb10⟩ := hb10
        replace hb10 := bind_some hb10
        obtain ⟨x7, hx7, hb10⟩ := hb10
        refine cw_sub (E' := [(3, (.pointer (some ⟨g1, 0, none⟩))), (4, (.pointer (some ⟨g2, 0, none⟩))), (5, (.bool x2)), (6, (.bool true)), (7, (.int .i64 k1))]) ⟨rfl, rfl, rfl, rfl, rfl, trivial⟩ ?_
        refine cw_drawQ 10 [PEq (.bool true), PEq (.bool true), PEq (.pointer (some ⟨g1, 0, none⟩)), PV (RSlice (RSlice RSpan)) M1 x1.1.Sides, PEq (.int .i64 k1), PA (RSlice RSpan) M1 x6, PV (RSlice RSpan) M1 x6, PV RPacket M1 ({ From := x1.2.From, To := x1.2.To, Port := x1.2.Port, Proto := x1.2.Proto } : Packet), PEq (.int .i64 k1), PEq (.int .i64 x7)] (by kernel_rfl) rfl (by kernel_rfl) ⟨PEq.mono _, PEq.mono _, PEq.mono _, PV.mono _ _ _, PEq.mono _, PA.mono _ _ _, PV.mono _ _ _, PV.mono _ _ _, PEq.mono _, PEq.mono _, trivial⟩ ⟨?_, ?_, ?_, ?_, ?_, ?_, ?_, ?_, ?_, ?_, trivial⟩ ?_
        ·
         intro w12 D hS1 hd1
         have hl12 := Le.no M1 hS1
         have hC12 := hC10.no hS1
         have ho20 := ho16.no hS1
         have ho21 := ho17.no hS1
         refine dg_sub (E' := [(6, (.bool true))]) ⟨rfl, trivial⟩ ?_
         refine dg_plain rfl (ow_move rfl rfl ?_)
         exact ⟨BX.refl _ _, rfl⟩
        ·
         intro w13 D hS2 hd2
         have hl13 := Le.no M1 hS2
         have hC13 := hC10.no hS2
         have ho22 := ho16.no hS2
         have ho23 := ho17.no hS2
         have hd2 : PEq (.bool true) (D 0) w13 ∧ True := hd2
         obtain ⟨d1, -⟩ := hd2
         refine dg_sub (E' := [(41, (.bool true))]) ⟨(congrArg some d1), trivial⟩ ?_
         refine dg_plain rfl (ow_move rfl rfl ?_)
         exact ⟨BX.refl _ _, rfl⟩
        ·
         intro w14 D hS3 hd3
         have hl14 := Le.no M1 hS3
         have hC14 := hC10.no hS3
         have ho24 := ho16.no hS3
         have ho25 := ho17.no hS3
         have hd3 : PEq (.bool true) (D 1) w14 ∧ True := hd3
         obtain ⟨d2, -⟩ := hd3
         refine dg_sub (E' := [(42, (.bool true)), (3, (.pointer (some ⟨g1, 0, none⟩)))]) ⟨(congrArg some d2), rfl, trivial⟩ ?_
         refine dg_on rfl rfl rfl rfl (ow_fieldAddr rfl rfl Tryd.underlying27 rfl (Tryd.sizeOf25 _) ?_)
         exact ⟨BX.refl _ _, rfl⟩
        ·
         intro w15 D hS4 hd4
         have hl15 := Le.no M1 hS4
         have hC15 := hC10.no hS4
         have ho26 := ho16.no hS4
         have ho27 := ho17.no hS4
         have hd4 : PEq (.pointer (some ⟨g1, 0, none⟩)) (D 2) w15 ∧ PEq (.bool true) (D 1) w15 ∧ True := hd4
         obtain ⟨d3, d4, -⟩ := hd4
         refine dg_sub (E' := [(43, (.pointer (some ⟨g1, 0, none⟩))), (42, (.bool true))]) ⟨(congrArg some d3), (congrArg some d4), trivial⟩ ?_
         refine dg_on rfl rfl rfl rfl (ow_loadOwn1 rfl rfl rfl ho26 (Tryd.isAgg25 _) rfl ?_)
         exact ⟨BX.refl _ _, (VRep.mono (((((((((hl2.trans hl3).trans hl4).trans hl5).trans hl6).trans hl7).trans hl8).trans hl9).trans hl10).trans hl15) hw1)⟩
        ·
         intro w16 D hS5 hd5
         have hl16 := Le.no M1 hS5
         have hC16 := hC10.no hS5
         have ho28 := ho16.no hS5
         have ho29 := ho17.no hS5
         have hd5 : PEq (.bool true) (D 1) w16 ∧ True := hd5
         obtain ⟨d5, -⟩ := hd5
         refine dg_sub (E' := [(42, (.bool true)), (7, (.int .i64 k1))]) ⟨(congrArg some d5), rfl, trivial⟩ ?_
         refine dg_on rfl rfl rfl rfl (ow_move rfl rfl ?_)
         exact ⟨BX.refl _ _, rfl⟩
        ·
         intro w17 D hS6 hd6
         have hl17 := Le.no M1 hS6
         have hC17 := hC10.no hS6
         have ho30 := ho16.no hS6
         have ho31 := ho17.no hS6
         have hd6 : PV (RSlice (RSlice RSpan)) M1 x1.1.Sides (D 3) w17 ∧ PEq (.int .i64 k1) (D 4) w17 ∧ PEq (.bool true) (D 1) w17 ∧ True := hd6
         obtain ⟨d6, d7, d8, -⟩ := hd6
         obtain ⟨v12, hq1⟩ : ∃ v, (D 3) = v := ⟨_, rfl⟩
         rw [hq1] at d6
         refine dg_sub (E' := [(44, v12), (45, (.int .i64 k1)), (42, (.bool true))]) ⟨(congrArg some hq1), (congrArg some d7), (congrArg some d8), trivial⟩ ?_
         refine dg_on rfl rfl rfl rfl (ow_indexSlice (R := (RSlice RSpan)) rfl rfl rfl d6 Tryd.underlying25 (Tryd.sizeOf58 _) hx6 fun p2 hp2 => ?_)
         exact ⟨BX.refl _ _, ⟨_, rfl, hp2⟩⟩
        ·
         intro w18 D hS7 hd7
         have hl18 := Le.no M1 hS7
         have hC18 := hC10.no hS7
         have ho32 := ho16.no hS7
         have ho33 := ho17.no hS7
         have hd7 : PA (RSlice RSpan) M1 x6 (D 5) w18 ∧ PEq (.bool true) (D 1) w18 ∧ True := hd7
         obtain ⟨d9, d10, -⟩ := hd7
         obtain ⟨p3, e1, ha1⟩ := d9
         refine dg_sub (E' := [(46, (.pointer (some p3))), (42, (.bool true))]) ⟨(congrArg some e1), (congrArg some d10), trivial⟩ ?_
         refine dg_on rfl rfl rfl rfl (ow_load (R := (RSlice RSpan)) rfl rfl ha1 (Tryd.sizeOf58 _) (Tryd.isAgg58 _) fun v13 hv13 => ?_)
         exact ⟨BX.refl _ _, hv13⟩
        ·
         intro w19 D hS8 hd8
         have hl19 := Le.no M1 hS8
         have hC19 := hC10.no hS8
         have ho34 := ho16.no hS8
         have ho35 := ho17.no hS8
         have hd8 : PEq (.bool true) (D 1) w19 ∧ True := hd8
         obtain ⟨d11, -⟩ := hd8
         refine dg_sub (E' := [(42, (.bool true)), (4, (.pointer (some ⟨g2, 0, none⟩)))]) ⟨(congrArg some d11), rfl, trivial⟩ ?_
         refine dg_on rfl rfl rfl rfl (ow_loadOwnA rfl rfl rfl ho35 (Tryd.isAgg45 _) (Tryd.sizeOf45 _) rfl ?_)
         have hw9 : VRep RPacket w19 M1 ({ From := x1.2.From, To := x1.2.To, Port := x1.2.Port, Proto := x1.2.Proto } : Packet) (.agg #[(.int .i64 x1.2.From), (.int .i64 x1.2.To), (.int .i64 x1.2.Port), (.int .i64 x1.2.Proto)]) := shut_Packet
         exact ⟨BX.refl _ _, hw9⟩
        ·
         intro w20 D hS9 hd9
         have hl20 := Le.no M1 hS9
         have hC20 := hC10.no hS9
         have ho36 := ho16.no hS9
         have ho37 := ho17.no hS9
         have hd9 : PEq (.bool true) (D 1) w20 ∧ True := hd9
         obtain ⟨d12, -⟩ := hd9
         refine dg_sub (E' := [(42, (.bool true)), (7, (.int .i64 k1))]) ⟨(congrArg some d12), rfl, trivial⟩ ?_
         refine dg_on rfl rfl rfl rfl (ow_move rfl rfl ?_)
         exact ⟨BX.refl _ _, rfl⟩
        ·
         intro w21 D hS10 hd10
         have hl21 := Le.no M1 hS10
         have hC21 := hC10.no hS10
         have ho38 := ho16.no hS10
         have ho39 := ho17.no hS10
         have hd10 : PV RPacket M1 ({ From := x1.2.From, To := x1.2.To, Port := x1.2.Port, Proto := x1.2.Proto } : Packet) (D 7) w21 ∧ PEq (.int .i64 k1) (D 8) w21 ∧ PEq (.bool true) (D 1) w21 ∧ PEq (.bool true) (D 1) w21 ∧ True := hd10
         obtain ⟨d13, d14, d15, d16, -⟩ := hd10
         obtain ⟨v14, hq2⟩ : ∃ v, (D 7) = v := ⟨_, rfl⟩
         rw [hq2] at d13
         refine dg_sub (E' := [(48, v14), (49, (.int .i64 k1)), (42, (.bool true))]) ⟨(congrArg some hq2), (congrArg some d14), (congrArg some d15), trivial⟩ ?_
         refine dg_on rfl rfl rfl rfl (ow_call rfl rfl Tryd.call41 (w_impl_PacketField (hG.mono ((((((((((hl1.trans hl2).trans hl3).trans hl4).trans hl5).trans hl6).trans hl7).trans hl8).trans hl9).trans hl10).trans hl21)) hC21.old d13 hx7) fun v15 w22 hv15 => ?_)
         obtain ⟨hv15, hb12⟩ := hv15
         have hl22 := Le.no M1 hb12
         have hC22 := hC21.no hb12
         have ho40 := ho38.no hb12
         have ho41 := ho39.no hb12
         obtain rfl := vint_eq hv15
         exact ⟨hb12, rfl⟩
        ·
         intro w23 D hS11 hd11
         have hd11 : PEq (.bool true) (D 0) w23 ∧ PEq (.bool true) (D 1) w23 ∧ PEq (.pointer (some ⟨g1, 0, none⟩)) (D 2) w23 ∧ PV (RSlice (RSlice RSpan)) M1 x1.1.Sides (D 3) w23 ∧ PEq (.int .i64 k1) (D 4) w23 ∧ PA (RSlice RSpan) M1 x6 (D 5) w23 ∧ PV (RSlice RSpan) M1 x6 (D 6) w23 ∧ PV RPacket M1 ({ From := x1.2.From, To := x1.2.To, Port := x1.2.Port, Proto := x1.2.Proto } : Packet) (D 7) w23 ∧ PEq (.int .i64 k1) (D 8) w23 ∧ PEq (.int .i64 x7) (D 9) w23 ∧ True := hd11
         obtain ⟨-, d18, -, -, -, -, d23, -, -, d26, -⟩ := hd11
         have hl23 := Le.no M1 hS11
         have hC23 := hC10.no hS11
         have ho42 := ho16.no hS11
         have ho43 := ho17.no hS11
         obtain ⟨v16, hq3⟩ : ∃ v, (D 6) = v := ⟨_, rfl⟩
         rw [hq3] at d23
         refine lw_sub (E' := [(42, (.bool true)), (47, v16), (50, (.int .i64 x7)), (3, (.pointer (some ⟨g1, 0, none⟩))), (4, (.pointer (some ⟨g2, 0, none⟩))), (5, (.bool x2)), (6, (.bool true)), (7, (.int .i64 k1))]) ⟨(congrArg some d18), (congrArg some hq3), (congrArg some d26), rfl, rfl, rfl, rfl, rfl, trivial⟩ ?_
         replace hb10 := bind_some hb10
         obtain ⟨x8, hx8, hb10⟩ := hb10
         refine lw_on rfl rfl rfl rfl rfl rfl (ow_call rfl rfl Tryd.call40 (w_impl_SpansHave (hG.mono ((((((((((hl1.trans hl2).trans hl3).trans hl4).trans hl5).trans hl6).trans hl7).trans hl8).trans hl9).trans hl10).trans hl23)) hC23.old d23 hx8) fun v17 w24 hv17 => ?_)
         obtain ⟨hv17, hb13⟩ := hv17
         have hl24 := Le.no M1 hb13
         have hC24 := hC23.no hb13
         have ho44 := ho42.no hb13
         have ho45 := ho43.no hb13
         obtain rfl := vbool_eq hv17
         refine lw_op rfl rfl rfl (ow_pickT rfl rfl rfl ?_)
         refine lw_op rfl rfl rfl (ow_assign rfl rfl ?_)
         refine lw_nil (ew_blockN ?_)
         refine ew_then (cw_region (lw_op rfl rfl rfl (ow_move rfl rfl ?_)))
         refine lw_op rfl rfl rfl (ow_add rfl rfl rfl ?_)
         refine lw_op rfl rfl rfl (ow_assign rfl rfl ?_)
         refine lw_nil (ew_nxt (x8, (W (k1 + 1))) hb10 fun a ha => ⟨M1, ?_, ((hl10.trans hl23).trans hl24), hC24, ho44, hm4, ho45, hm5⟩)
         exact ha.sub ⟨rfl, rfl, rfl, rfl, rfl, trivial⟩
       ·
        subst hc6
        refine cw_sub (E' := [(3, (.pointer (some ⟨g1, 0, none⟩))), (4, (.pointer (some ⟨g2, 0, none⟩))), (5, (.bool x2)), (6, (.bool false)), (7, (.int .i64 k1))]) ⟨rfl, rfl, rfl, rfl, rfl, trivial⟩ ?_
        refine cw_drawQ 10 [PEq (.bool false), PEq (.bool false), PEq undef, PEq undef, PEq undef, PEq undef, PEq undef, PEq undef, PEq undef, PEq undef] (by kernel_rfl) rfl (by kernel_rfl) ⟨PEq.mono _, PEq.mono _, PEq.mono _, PEq.mono _, PEq.mono _, PEq.mono _, PEq.mono _, PEq.mono _, PEq.mono _, PEq.mono _, trivial⟩ ⟨?_, ?_, ?_, ?_, ?_, ?_, ?_, ?_, ?_, ?_, trivial⟩ ?_
        ·
         intro w25 D hS12 hd12
         have hl25 := Le.no M1 hS12
         have hC25 := hC10.no hS12
         have ho46 := ho16.no hS12
         have ho47 := ho17.no hS12
         refine dg_sub (E' := [(6, (.bool false))]) ⟨rfl, trivial⟩ ?_
         refine dg_plain rfl (ow_move rfl rfl ?_)
         exact ⟨BX.refl _ _, rfl⟩
        ·
         intro w26 D hS13 hd13
         have hl26 := Le.no M1 hS13
         have hC26 := hC10.no hS13
         have ho48 := ho16.no hS13
         have ho49 := ho17.no hS13
         have hd13 : PEq (.bool false) (D 0) w26 ∧ True := hd13
         obtain ⟨d27, -⟩ := hd13
         refine dg_sub (E' := [(41, (.bool false))]) ⟨(congrArg some d27), trivial⟩ ?_
         refine dg_plain rfl (ow_move rfl rfl ?_)
         exact ⟨BX.refl _ _, rfl⟩
        ·
         intro w27 D hS14 hd14
         have hl27 := Le.no M1 hS14
         have hC27 := hC10.no hS14
         have ho50 := ho16.no hS14
         have ho51 := ho17.no hS14
         have hd14 : PEq (.bool false) (D 1) w27 ∧ True := hd14
         obtain ⟨d28, -⟩ := hd14
         refine dg_sub (E' := [(42, (.bool false)), (3, (.pointer (some ⟨g1, 0, none⟩)))]) ⟨(congrArg some d28), rfl, trivial⟩ ?_
         exact dg_off rfl rfl rfl rfl ⟨BX.refl _ _, rfl⟩
        ·
         intro w28 D hS15 hd15
         have hl28 := Le.no M1 hS15
         have hC28 := hC10.no hS15
         have ho52 := ho16.no hS15
         have ho53 := ho17.no hS15
         have hd15 : PEq undef (D 2) w28 ∧ PEq (.bool false) (D 1) w28 ∧ True := hd15
         obtain ⟨d29, d30, -⟩ := hd15
         refine dg_sub (E' := [(43, undef), (42, (.bool false))]) ⟨(congrArg some d29), (congrArg some d30), trivial⟩ ?_
         exact dg_off rfl rfl rfl rfl ⟨BX.refl _ _, rfl⟩
        ·
         intro w29 D hS16 hd16
         have hl29 := Le.no M1 hS16
         have hC29 := hC10.no hS16
         have ho54 := ho16.no hS16
         have ho55 := ho17.no hS16
         have hd16 : PEq (.bool false) (D 1) w29 ∧ True := hd16
         obtain ⟨d31, -⟩ := hd16
         refine dg_sub (E' := [(42, (.bool false)), (7, (.int .i64 k1))]) ⟨(congrArg some d31), rfl, trivial⟩ ?_
         exact dg_off rfl rfl rfl rfl ⟨BX.refl _ _, rfl⟩
        ·
         intro w30 D hS17 hd17
         have hl30 := Le.no M1 hS17
         have hC30 := hC10.no hS17
         have ho56 := ho16.no hS17
         have ho57 := ho17.no hS17
         have hd17 : PEq undef (D 3) w30 ∧ PEq undef (D 4) w30 ∧ PEq (.bool false) (D 1) w30 ∧ True := hd17
         obtain ⟨d32, d33, d34, -⟩ := hd17
         refine dg_sub (E' := [(44, undef), (45, undef), (42, (.bool false))]) ⟨(congrArg some d32), (congrArg some d33), (congrArg some d34), trivial⟩ ?_
         exact dg_off rfl rfl rfl rfl ⟨BX.refl _ _, rfl⟩
        ·
         intro w31 D hS18 hd18
         have hl31 := Le.no M1 hS18
         have hC31 := hC10.no hS18
         have ho58 := ho16.no hS18
         have ho59 := ho17.no hS18
         have hd18 : PEq undef (D 5) w31 ∧ PEq (.bool false) (D 1) w31 ∧ True := hd18
         obtain ⟨d35, d36, -⟩ := hd18
         refine dg_sub (E' := [(46, undef), (42, (.bool false))]) ⟨(congrArg some d35), (congrArg some d36), trivial⟩ ?_
         exact dg_off rfl rfl rfl rfl ⟨BX.refl _ _, rfl⟩
        ·
         intro w32 D hS19 hd19
         have hl32 := Le.no M1 hS19
         have hC32 := hC10.no hS19
         have ho60 := ho16.no hS19
         have ho61 := ho17.no hS19
         have hd19 : PEq (.bool false) (D 1) w32 ∧ True := hd19
         obtain ⟨d37, -⟩ := hd19
         refine dg_sub (E' := [(42, (.bool false)), (4, (.pointer (some ⟨g2, 0, none⟩)))]) ⟨(congrArg some d37), rfl, trivial⟩ ?_
         exact dg_off rfl rfl rfl rfl ⟨BX.refl _ _, rfl⟩
        ·
         intro w33 D hS20 hd20
         have hl33 := Le.no M1 hS20
         have hC33 := hC10.no hS20
         have ho62 := ho16.no hS20
         have ho63 := ho17.no hS20
         have hd20 : PEq (.bool false) (D 1) w33 ∧ True := hd20
         obtain ⟨d38, -⟩ := hd20
         refine dg_sub (E' := [(42, (.bool false)), (7, (.int .i64 k1))]) ⟨(congrArg some d38), rfl, trivial⟩ ?_
         exact dg_off rfl rfl rfl rfl ⟨BX.refl _ _, rfl⟩
        ·
         intro w34 D hS21 hd21
         have hl34 := Le.no M1 hS21
         have hC34 := hC10.no hS21
         have ho64 := ho16.no hS21
         have ho65 := ho17.no hS21
         have hd21 : PEq undef (D 7) w34 ∧ PEq undef (D 8) w34 ∧ PEq (.bool false) (D 1) w34 ∧ PEq (.bool false) (D 1) w34 ∧ True := hd21
         obtain ⟨d39, d40, d41, d42, -⟩ := hd21
         refine dg_sub (E' := [(48, undef), (49, undef), (42, (.bool false))]) ⟨(congrArg some d39), (congrArg some d40), (congrArg some d41), trivial⟩ ?_
         exact dg_off rfl rfl rfl rfl ⟨BX.refl _ _, rfl⟩
        ·
         intro w35 D hS22 hd22
         have hd22 : PEq (.bool false) (D 0) w35 ∧ PEq (.bool false) (D 1) w35 ∧ PEq undef (D 2) w35 ∧ PEq undef (D 3) w35 ∧ PEq undef (D 4) w35 ∧ PEq undef (D 5) w35 ∧ PEq undef (D 6) w35 ∧ PEq undef (D 7) w35 ∧ PEq undef (D 8) w35 ∧ PEq undef (D 9) w35 ∧ True := hd22
         obtain ⟨-, d44, -, -, -, -, d49, -, -, d52, -⟩ := hd22
         have hl35 := Le.no M1 hS22
         have hC35 := hC10.no hS22
         have ho66 := ho16.no hS22
         have ho67 := ho17.no hS22
         refine lw_sub (E' := [(42, (.bool false)), (47, undef), (50, undef), (3, (.pointer (some ⟨g1, 0, none⟩))), (4, (.pointer (some ⟨g2, 0, none⟩))), (5, (.bool x2)), (6, (.bool false)), (7, (.int .i64 k1))]) ⟨(congrArg some d44), (congrArg some d49), (congrArg some d52), rfl, rfl, rfl, rfl, rfl, trivial⟩ ?_
         refine lw_off rfl rfl rfl rfl rfl rfl ?_
         refine lw_op rfl rfl rfl (ow_pickF rfl rfl rfl ?_)
         refine lw_op rfl rfl rfl (ow_assign rfl rfl ?_)
         refine lw_nil (ew_blockN ?_)
         refine ew_then (cw_region (lw_op rfl rfl rfl (ow_move rfl rfl ?_)))
         refine lw_op rfl rfl rfl (ow_add rfl rfl rfl ?_)
         refine lw_op rfl rfl rfl (ow_assign rfl rfl ?_)
         refine lw_nil (ew_nxt (false, (W (k1 + 1))) hb10 fun a ha => ⟨M1, ?_, (hl10.trans hl35), hC35, ho66, hm4, ho67, hm5⟩)
         exact ha.sub ⟨rfl, rfl, rfl, rfl, rfl, trivial⟩
      ·
       obtain rfl := hbb3.trans hc5
       refine cw_false rfl ?_
       refine cw_exit ?_
       refine ew_thenX ?_
       refine ew_thenX ?_
       refine ew_blockX ?_
       refine ew_brk (y1, k1) hb10 fun a ha => ⟨M1, ?_, hl10, hC10, ho16, hm4, ho17, hm5⟩
       exact ha.sub ⟨rfl, rfl, rfl, rfl, rfl, trivial⟩
     ·
      rintro ⟨y2, k2⟩ a w36 hlr2 ⟨M2, hF2, hl36, hC36, ho68, hm6, ho69, hm7⟩
      subst hlr2
      refine ew_at (E := [(3, (.pointer (some ⟨g1, 0, none⟩))), (4, (.pointer (some ⟨g2, 0, none⟩))), (5, (.bool x2)), (6, (.bool y2)), (7, (.int .i64 k2))]) hF2 ?_
      refine ew_then (cw_seq (cw_region (lw_op rfl rfl rfl (ow_move rfl rfl ?_))))
      refine lw_op rfl rfl rfl (ow_move rfl rfl ?_)
      refine lw_op rfl rfl rfl (ow_eqlB rfl rfl rfl Tryd.underlying4 fun bb4 hbb4 => ?_)
      refine lw_op rfl rfl rfl (ow_assign rfl rfl ?_)
      refine lw_nil (ew_then (cw_ret ?_))
      obtain rfl := Option.some.inj h
      exact ew_ret (res1 rfl (.tmp rfl)) ⟨_, rfl, ((vbool_of hbb4)), hC36.bx⟩
    ·
     subst hc4
     refine cw_true rfl ?_
     refine cw_seq (cw_region (lw_op rfl rfl rfl (ow_move rfl rfl ?_)))
     refine lw_op rfl rfl rfl (ow_not rfl rfl ?_)
     refine lw_op rfl rfl rfl (ow_move rfl rfl ?_)
     replace h := cond_some h
     rcases h with ⟨hc7, h⟩ | ⟨hc7, h⟩
     ·
      subst hc7
      refine lw_off rfl rfl rfl rfl rfl rfl ?_
      refine lw_op rfl rfl rfl (ow_pickF rfl rfl rfl ?_)
      refine lw_op rfl rfl rfl (ow_assign rfl rfl ?_)
      refine lw_nil (ew_then (cw_ret (ew_thenR ?_)))
      obtain rfl := Option.some.inj h
      exact ew_ret (res1 rfl (.tmp rfl)) ⟨_, rfl, ((vbool _)), hC9.bx⟩
     ·
      subst hc7
      replace h := bind_some h
      obtain ⟨x9, hx9, h⟩ := h
      refine lw_on rfl rfl rfl rfl rfl rfl (ow_call rfl rfl Tryd.call19 (w_laws_alive (hG.mono ((((((((hl1.trans hl2).trans hl3).trans hl4).trans hl5).trans hl6).trans hl7).trans hl8).trans hl9)) hC9.old hx9) fun v20 w37 hv20 => ?_)
      obtain ⟨hv20, hb14⟩ := hv20
      have hl37 := Le.no (Add g2 (Add g1 M)) hb14
      have hC37 := hC9.no hb14
      have ho70 := ho14.no hb14
      have ho71 := ho15.no hb14
      obtain rfl := vbool_eq hv20
      refine lw_op rfl rfl rfl (ow_pickT rfl rfl rfl ?_)
      refine lw_op rfl rfl rfl (ow_assign rfl rfl ?_)
      refine lw_nil (ew_then (cw_ret (ew_thenR ?_)))
      obtain rfl := Option.some.inj h
      exact ew_ret (res1 rfl (.tmp rfl)) ⟨_, rfl, ((vbool _)), hC37.bx⟩
   ·
    subst hc3
    refine lw_off rfl rfl rfl rfl rfl rfl ?_
    refine lw_off rfl rfl rfl rfl rfl rfl ?_
    refine lw_off rfl rfl rfl rfl rfl rfl ?_
    refine lw_op rfl rfl rfl (ow_pickT rfl rfl rfl ?_)
    refine lw_nil (ew_then (cw_true rfl ?_))
    refine cw_seq (cw_region (lw_op rfl rfl rfl (ow_move rfl rfl ?_)))
    refine lw_op rfl rfl rfl (ow_not rfl rfl ?_)
    refine lw_op rfl rfl rfl (ow_move rfl rfl ?_)
    replace h := cond_some h
    rcases h with ⟨hc8, h⟩ | ⟨hc8, h⟩
    ·
     subst hc8
     refine lw_off rfl rfl rfl rfl rfl rfl ?_
     refine lw_op rfl rfl rfl (ow_pickF rfl rfl rfl ?_)
     refine lw_op rfl rfl rfl (ow_assign rfl rfl ?_)
     refine lw_nil (ew_then (cw_ret (ew_thenR ?_)))
     obtain rfl := Option.some.inj h
     exact ew_ret (res1 rfl (.tmp rfl)) ⟨_, rfl, ((vbool _)), hC8.bx⟩
    ·
     subst hc8
     replace h := bind_some h
     obtain ⟨x10, hx10, h⟩ := h
     refine lw_on rfl rfl rfl rfl rfl rfl (ow_call rfl rfl Tryd.call19 (w_laws_alive (hG.mono (((((((hl1.trans hl2).trans hl3).trans hl4).trans hl5).trans hl6).trans hl7).trans hl8)) hC8.old hx10) fun v21 w38 hv21 => ?_)
     obtain ⟨hv21, hb15⟩ := hv21
     have hl38 := Le.no (Add g2 (Add g1 M)) hb15
     have hC38 := hC8.no hb15
     have ho72 := ho12.no hb15
     have ho73 := ho13.no hb15
     obtain rfl := vbool_eq hv21
     refine lw_op rfl rfl rfl (ow_pickT rfl rfl rfl ?_)
     refine lw_op rfl rfl rfl (ow_assign rfl rfl ?_)
     refine lw_nil (ew_then (cw_ret (ew_thenR ?_)))
     obtain rfl := Option.some.inj h
     exact ew_ret (res1 rfl (.tmp rfl)) ⟨_, rfl, ((vbool _)), hC38.bx⟩


end Go.PF
