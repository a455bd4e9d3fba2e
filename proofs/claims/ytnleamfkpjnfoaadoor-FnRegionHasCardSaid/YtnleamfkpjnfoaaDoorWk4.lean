/- The walks; no condition. -/
import Derived.Test.YtnleamfkpjnfoaaDoorProg
import Derived.Test.YtnleamfkpjnfoaaDoorWk3
import Derived.Test.YtnleamfkpjnfoaaDoorPFNew
set_option maxRecDepth 100000
set_option maxHeartbeats 4000000
namespace Go.PF
open Go Go.RowKit Go.Proofs

theorem w_spec_l20Near {w : World} {M : Nat → Prop} (hG : ARep (RArr 4 RShape) w M shapes ⟨0, 0, none⟩) (hO : ∀ b, M b → b < w.heap.size) {g : Nat} {Ax : Option Addr} {cx : Nat} {a_xs : List Int} {a_pos : Int} (hxs : VRep (RSlice RU8) w M a_xs (.slice Ax a_xs.length cx)) (hown : Own w g 98 #[.slice Ax a_xs.length cx, .int .i64 a_pos]) (hgM : M g) {v1p : Value} {a_list : List Test} (h1 : VRep (RSlice RTest) w M a_list v1p) {a_n : Int} {r : Packet × Int} (h : F.spec_l20Near a_xs a_pos a_list a_n = some r) :
  Calls Tryd.prog 105 [(.pointer (some ⟨g, 0, none⟩)), v1p, (.int .i64 a_n)].toArray w fun e w' => ∃ v, e = .returned v ∧ (VRep RPacket w' M r.1 v ∧ Own w' g 98 #[.slice Ax a_xs.length cx, .int .i64 r.2]) ∧ BX (One g) w w' := by
 have hX : ∀ b, (One g) b → M b := fun b e => e ▸ hgM
 have hC : Cx (One g) w M w M := Cx.start hO hX
 refine walk (N := 85) Tryd.func105 rfl Tryd.ntmps105 rfl ?_
 refine cw_seq (cw_region (lw_op rfl rfl rfl (ow_alloc rfl (Tryd.zeroValue45 _) hC fun g1 w1 hg1 hg2 ho1 hb1 hl1 hC1 => ?_)))
 have hn1 := Nat.ne_of_lt (Nat.lt_of_lt_of_le hown.lt hg1)
 have ho2 := hown.no hb1
 have hm1 : (Add g1 M) g := .inr hgM
 have hm2 : (Add g1 M) g1 := .inl rfl
 refine lw_nil (ew_then (cw_seq (cw_region (lw_op rfl rfl rfl (ow_move rfl rfl ?_)))))
 refine lw_op rfl rfl rfl (ow_move rfl rfl ?_)
 replace h := bind_some h
 obtain ⟨x1, hx1, h⟩ := h
 refine lw_op rfl rfl rfl (ow_call rfl rfl Tryd.call115 (w_spec_l20Packet (hG.mono hl1) hC1.old (VRep.mono hl1 hxs) ho2 hm1 hx1) fun v1 w2 hv1 => ?_)
 obtain ⟨⟨hv1, ho3⟩, hb2⟩ := hv1
 have hl2 := Le.of_bx (Add g1 M) hb2 (fun b e => (by rw [show b = g from e]; exact hm1))
 have hC2 := hC1.go hb2 (fun b e => Or.inr e)
 have ho4 := ho1.go hb2 (fun e => hn1 e.symm)
 refine lw_op rfl rfl rfl (ow_alloc rfl (Tryd.zeroValue45 _) hC2 fun g2 w3 hg3 hg4 ho5 hb3 hl3 hC3 => ?_)
 have hn2 := Nat.ne_of_lt (Nat.lt_of_lt_of_le ho3.lt hg3)
 have ho6 := ho3.no hb3
 have hm3 : (Add g2 (Add g1 M)) g := .inr hm1
 have hn3 := Nat.ne_of_lt (Nat.lt_of_lt_of_le ho4.lt hg3)
 have ho7 := ho4.no hb3
 have hm4 : (Add g2 (Add g1 M)) g1 := .inr hm2
 have hm5 : (Add g2 (Add g1 M)) g2 := .inl rfl
 obtain rfl := open_Packet hv1
 refine lw_op0 rfl rfl (ow_store (X := (One g)) (us := [(.int .i64 x1.1.From), (.int .i64 x1.1.To), (.int .i64 x1.1.Port), (.int .i64 x1.1.Proto)]) (cs' := #[(.int .i64 x1.1.From), (.int .i64 x1.1.To), (.int .i64 x1.1.Port), (.int .i64 x1.1.Proto)]) rfl rfl rfl rfl ho5 (Tryd.sizeOf45 _) rfl rfl rfl rfl hm5 (.inl hg4) rfl hC3 fun w4 ho8 hb4 hl4 hC4 => ?_)
 have ho9 := ho6.go hb4 (fun e => hn2 e)
 have ho10 := ho7.go hb4 (fun e => hn3 e)
 refine lw_nil (ew_then (cw_seq (cw_seq (cw_region (lw_op rfl rfl rfl (ow_assign rfl rfl ?_))))))
 refine lw_nil (ew_then ?_)
 replace h := bind_some h
 obtain ⟨lr1, hlr1, h⟩ := h
 refine cw_for hlr1 (fun s a w' => ∃ (M' : Nat → Prop), Fits 85 [(0, (.pointer (some ⟨g, 0, none⟩))), (1, v1p), (6, (.pointer (some ⟨g1, 0, none⟩))), (7, (.pointer (some ⟨g2, 0, none⟩))), (8, (.int .i64 s.1))] a ∧ Le w4 (Add g2 (Add g1 M)) w' M' ∧ Cx (One g) w M w' M' ∧ Own w' g 98 #[(.slice Ax a_xs.length cx), (.int .i64 s.2.1)] ∧ M' g ∧ Own w' g1 45 #[(.int .i64 0), (.int .i64 0), (.int .i64 0), (.int .i64 0)] ∧ M' g1 ∧ Own w' g2 45 #[(.int .i64 s.2.2.1), (.int .i64 s.2.2.2.1), (.int .i64 s.2.2.2.2.1), (.int .i64 s.2.2.2.2.2)] ∧ M' g2) ?_ ?_ ?_
 ·
  intro a ha
  exact ⟨(Add g2 (Add g1 M)), ha.sub ⟨rfl, rfl, rfl, rfl, rfl, trivial⟩, Le.refl _ _, hC4, ho9, hm3, ho10, hm4, ho8, hm5⟩
 ·
  rintro ⟨k1, k2, k3, k4, k5, k6⟩ a w5 sr1 ⟨M1, hF1, hl5, hC5, ho11, hm6, ho12, hm7, ho13, hm8⟩ hb5 hR1
  refine cw_at (E := [(0, (.pointer (some ⟨g, 0, none⟩))), (1, v1p), (6, (.pointer (some ⟨g1, 0, none⟩))), (7, (.pointer (some ⟨g2, 0, none⟩))), (8, (.int .i64 k1))]) hF1 ?_
  refine cw_seq (cw_seq (cw_region (lw_op rfl rfl rfl (ow_move rfl rfl ?_))))
  refine lw_op rfl rfl rfl (ow_move rfl rfl ?_)
  refine lw_op rfl rfl rfl (ow_len rfl rfl (VRep.mono ((((hl1.trans hl2).trans hl3).trans hl4).trans hl5) h1) Tryd.underlying23 rfl ?_)
  refine lw_op rfl rfl rfl (ow_lss rfl rfl rfl fun bb1 hbb1 => ?_)
  refine lw_nil (ew_then ?_)
  replace hb5 := cond_some hb5
  rcases hb5 with ⟨hc1, hb5⟩ | ⟨hc1, hb5⟩
  ·
   obtain rfl := hbb1.trans hc1
   refine cw_true rfl ?_
   refine cw_skip (ew_then (cw_seq (cw_block ?_)))
   refine cw_seq (cw_seq (cw_region (lw_op rfl rfl rfl (ow_move rfl rfl ?_))))
   refine lw_op rfl rfl rfl (ow_move rfl rfl ?_)
   replace hb5 := bind_some hb5
   obtain ⟨x2, hx2, hb5⟩ := hb5
   refine lw_op rfl rfl rfl (ow_indexSlice (R := RTest) rfl rfl rfl (VRep.mono ((((hl1.trans hl2).trans hl3).trans hl4).trans hl5) h1) Tryd.underlying23 (Tryd.sizeOf31 _) hx2 fun p1 hp1 => ?_)
   refine lw_op rfl rfl rfl (ow_load (R := RTest) rfl rfl hp1 (Tryd.sizeOf31 _) (Tryd.isAgg31 _) fun v8 hv8 => ?_)
   replace hb5 := bind_some hb5
   obtain ⟨x3, hx3, hb5⟩ := hb5
   refine lw_op rfl rfl rfl (ow_call rfl rfl Tryd.call64 (w_spec_TestValid (hG.mono ((((hl1.trans hl2).trans hl3).trans hl4).trans hl5)) hC5.old hv8 hx3) fun v9 w6 hv9 => ?_)
   obtain ⟨hv9, hb6⟩ := hv9
   have hl6 := Le.no M1 hb6
   have hC6 := hC5.no hb6
   have ho14 := ho11.no hb6
   have ho15 := ho12.no hb6
   have ho16 := ho13.no hb6
   obtain rfl := vbool_eq hv9
   refine lw_op rfl rfl rfl (ow_not rfl rfl ?_)
   refine lw_op rfl rfl rfl (ow_move rfl rfl ?_)
   replace hb5 := cond_some hb5
   rcases hb5 with ⟨hc2, hb5⟩ | ⟨hc2, hb5⟩
   ·
    subst hc2
    refine lw_on rfl rfl rfl rfl rfl rfl (ow_move rfl rfl ?_)
    replace hb5 := bind_some hb5
    obtain ⟨x4, hx4, hb5⟩ := hb5
    refine lw_on rfl rfl rfl rfl rfl rfl (ow_call rfl rfl Tryd.call87 (w_spec_l20Rd_pick (hG.mono (((((hl1.trans hl2).trans hl3).trans hl4).trans hl5).trans hl6)) hC6.old (VRep.mono (((((hl1.trans hl2).trans hl3).trans hl4).trans hl5).trans hl6) hxs) ho14 hm6 hx4) fun v10 w7 hv10 => ?_)
    obtain ⟨⟨hv10, ho17⟩, hb7⟩ := hv10
    have hl7 := Le.of_bx M1 hb7 (fun b e => (by rw [show b = g from e]; exact hm6))
    have hC7 := hC6.go hb7 (fun b e => Or.inr e)
    have ho18 := ho15.go hb7 (fun e => hn1 e.symm)
    have ho19 := ho16.go hb7 (fun e => hn2 e.symm)
    obtain rfl := vint_eq hv10
    refine lw_on rfl rfl rfl rfl rfl rfl (ow_eqlI rfl rfl rfl fun bb2 hbb2 => ?_)
    refine lw_op rfl rfl rfl (ow_pickF rfl rfl rfl ?_)
    refine lw_nil (ew_then ?_)
    replace hb5 := cond_some hb5
    rcases hb5 with ⟨hc3, hb5⟩ | ⟨hc3, hb5⟩
    ·
     obtain rfl := hbb2.trans hc3
     refine cw_true rfl ?_
     refine cw_exit ?_
     refine ew_thenX ?_
     refine ew_blockX ?_
     refine ew_then (cw_region (lw_op rfl rfl rfl (ow_move rfl rfl ?_)))
     refine lw_op rfl rfl rfl (ow_add rfl rfl rfl ?_)
     refine lw_op rfl rfl rfl (ow_assign rfl rfl ?_)
     refine lw_nil (ew_nxt ((W (k1 + 1)), x4.2, k3, k4, k5, k6) hb5 fun a ha => ⟨M1, ?_, ((hl5.trans hl6).trans hl7), hC7, ho17, hm6, ho18, hm7, ho19, hm8⟩)
     exact ha.sub ⟨rfl, rfl, rfl, rfl, rfl, trivial⟩
    ·
     obtain rfl := hbb2.trans hc3
     refine cw_false rfl ?_
     refine cw_skip (ew_then (cw_seq ?_))
     replace hb5 := bind_some hb5
     obtain ⟨x5, hx5, hb5⟩ := hb5
     replace hb5 := bind_some hb5
     obtain ⟨x6, hx6, hb5⟩ := hb5
     refine cw_sub (E' := [(0, (.pointer (some ⟨g, 0, none⟩))), (1, v1p), (6, (.pointer (some ⟨g1, 0, none⟩))), (7, (.pointer (some ⟨g2, 0, none⟩))), (8, (.int .i64 k1))]) ⟨rfl, rfl, rfl, rfl, rfl, trivial⟩ ?_
     refine cw_drawC (g := g) (T := 98) 33 1 [none, none, none, none, none, none, none, none, none, none, none, none, none, none, none, none, none, none, none, none, none, none, none, none, none, none, none, none, none, none, none, none, some 0] [#[(.slice Ax a_xs.length cx), (.int .i64 x4.2)], #[(.slice Ax a_xs.length cx), (.int .i64 x6.2)]] [PV (RSlice RTest) M1 a_list, PEq (.int .i64 k1), PA RTest M1 x2, PA RInt M1 x2.Lo, PEq (.int .i64 x2.Lo), PV (RSlice RTest) M1 a_list, PEq (.int .i64 k1), PA RTest M1 x2, PA RInt M1 x2.Hi, PEq (.int .i64 x2.Hi), PV (RSlice RTest) M1 a_list, PEq (.int .i64 k1), PA RTest M1 x2, PA RInt M1 x2.Lo, PEq (.int .i64 x2.Lo), PEq (.int .i64 (W (x2.Lo - 1))), PEq (.int .i64 (imax 0 (W (x2.Lo - 1)))), PV (RSlice RTest) M1 a_list, PEq (.int .i64 k1), PA RTest M1 x2, PA RInt M1 x2.Field, PEq (.int .i64 x2.Field), PEq (.int .i64 x5), PV (RSlice RTest) M1 a_list, PEq (.int .i64 k1), PA RTest M1 x2, PA RInt M1 x2.Hi, PEq (.int .i64 x2.Hi), PEq (.int .i64 (W (x2.Hi + 1))), PEq (.int .i64 (imin x5 (W (x2.Hi + 1)))), PV (RSlice RInt) M1 [x2.Lo, x2.Hi, (imax 0 (W (x2.Lo - 1))), (imin x5 (W (x2.Hi + 1)))], PEq (.pointer (some ⟨g, 0, none⟩)), PEq (.int .i64 x6.1)] (by kernel_rfl) rfl (by kernel_rfl) (by kernel_rfl) ho17 ⟨(PV.monoY hm6 _ _), (PEq.monoY hm6 _), (PA.monoY hm6 _ _), (PA.monoY hm6 _ _), (PEq.monoY hm6 _), (PV.monoY hm6 _ _), (PEq.monoY hm6 _), (PA.monoY hm6 _ _), (PA.monoY hm6 _ _), (PEq.monoY hm6 _), (PV.monoY hm6 _ _), (PEq.monoY hm6 _), (PA.monoY hm6 _ _), (PA.monoY hm6 _ _), (PEq.monoY hm6 _), (PEq.monoY hm6 _), (PEq.monoY hm6 _), (PV.monoY hm6 _ _), (PEq.monoY hm6 _), (PA.monoY hm6 _ _), (PA.monoY hm6 _ _), (PEq.monoY hm6 _), (PEq.monoY hm6 _), (PV.monoY hm6 _ _), (PEq.monoY hm6 _), (PA.monoY hm6 _ _), (PA.monoY hm6 _ _), (PEq.monoY hm6 _), (PEq.monoY hm6 _), (PEq.monoY hm6 _), (PV.monoY hm6 _ _), (PEq.monoY hm6 _), (PEq.monoY hm6 _), trivial⟩ ⟨?_, ?_, ?_, ?_, ?_, ?_, ?_, ?_, ?_, ?_, ?_, ?_, ?_, ?_, ?_, ?_, ?_, ?_, ?_, ?_, ?_, ?_, ?_, ?_, ?_, ?_, ?_, ?_, ?_, ?_, ?_, ?_, ?_, trivial⟩ ?_
     ·
      intro w11 D hS1 hd1
      have hl11 := leY hm6 hS1
      have hC11 := hC7.go hS1 (fun b e => Or.inr e)
      have ho29 := ho18.go hS1 (fun e => hn1 e.symm)
      have ho30 := ho19.go hS1 (fun e => hn2 e.symm)
      refine dg_sub (E' := [(1, v1p)]) ⟨rfl, trivial⟩ ?_
      refine dg_plain rfl (ow_move rfl rfl ?_)
      exact ⟨BX.refl _ _, (VRep.mono (((((((hl1.trans hl2).trans hl3).trans hl4).trans hl5).trans hl6).trans hl7).trans hl11) h1)⟩
     ·
      intro w12 D hS2 hd2
      have hl12 := leY hm6 hS2
      have hC12 := hC7.go hS2 (fun b e => Or.inr e)
      have ho31 := ho18.go hS2 (fun e => hn1 e.symm)
      have ho32 := ho19.go hS2 (fun e => hn2 e.symm)
      refine dg_sub (E' := [(8, (.int .i64 k1))]) ⟨rfl, trivial⟩ ?_
      refine dg_plain rfl (ow_move rfl rfl ?_)
      exact ⟨BX.refl _ _, rfl⟩
     ·
      intro w13 D hS3 hd3
      have hl13 := leY hm6 hS3
      have hC13 := hC7.go hS3 (fun b e => Or.inr e)
      have ho33 := ho18.go hS3 (fun e => hn1 e.symm)
      have ho34 := ho19.go hS3 (fun e => hn2 e.symm)
      have hd3 : PV (RSlice RTest) M1 a_list (D 0) w13 ∧ PEq (.int .i64 k1) (D 1) w13 ∧ True := hd3
      obtain ⟨d1, d2, -⟩ := hd3
      obtain ⟨v18, hq1⟩ : ∃ v, (D 0) = v := ⟨_, rfl⟩
      rw [hq1] at d1
      refine dg_sub (E' := [(30, v18), (31, (.int .i64 k1))]) ⟨(congrArg some hq1), (congrArg some d2), trivial⟩ ?_
      refine dg_plain rfl (ow_indexSlice (R := RTest) rfl rfl rfl d1 Tryd.underlying23 (Tryd.sizeOf31 _) hx2 fun p8 hp8 => ?_)
      exact ⟨BX.refl _ _, ⟨_, rfl, hp8⟩⟩
     ·
      intro w14 D hS4 hd4
      have hl14 := leY hm6 hS4
      have hC14 := hC7.go hS4 (fun b e => Or.inr e)
      have ho35 := ho18.go hS4 (fun e => hn1 e.symm)
      have ho36 := ho19.go hS4 (fun e => hn2 e.symm)
      have hd4 : PA RTest M1 x2 (D 2) w14 ∧ True := hd4
      obtain ⟨d3, -⟩ := hd4
      obtain ⟨p9, e1, ha1⟩ := d3
      refine dg_sub (E' := [(32, (.pointer (some p9)))]) ⟨(congrArg some e1), trivial⟩ ?_
      refine dg_plain rfl (ow_fieldAddr rfl rfl Tryd.underlying31 rfl (Tryd.sizeOf3 _) ?_)
      exact ⟨BX.refl _ _, ⟨_, rfl, (ha1.fld fld_Test_Lo)⟩⟩
     ·
      intro w15 D hS5 hd5
      have hl15 := leY hm6 hS5
      have hC15 := hC7.go hS5 (fun b e => Or.inr e)
      have ho37 := ho18.go hS5 (fun e => hn1 e.symm)
      have ho38 := ho19.go hS5 (fun e => hn2 e.symm)
      have hd5 : PA RInt M1 x2.Lo (D 3) w15 ∧ True := hd5
      obtain ⟨d4, -⟩ := hd5
      obtain ⟨p10, e2, ha2⟩ := d4
      refine dg_sub (E' := [(33, (.pointer (some p10)))]) ⟨(congrArg some e2), trivial⟩ ?_
      refine dg_plain rfl (ow_load (R := RInt) rfl rfl ha2 (Tryd.sizeOf3 _) (Tryd.isAgg3 _) fun v19 hv19 => ?_)
      obtain rfl := vint_eq hv19
      exact ⟨BX.refl _ _, rfl⟩
     ·
      intro w16 D hS6 hd6
      have hl16 := leY hm6 hS6
      have hC16 := hC7.go hS6 (fun b e => Or.inr e)
      have ho39 := ho18.go hS6 (fun e => hn1 e.symm)
      have ho40 := ho19.go hS6 (fun e => hn2 e.symm)
      refine dg_sub (E' := [(1, v1p)]) ⟨rfl, trivial⟩ ?_
      refine dg_plain rfl (ow_move rfl rfl ?_)
      exact ⟨BX.refl _ _, (VRep.mono (((((((hl1.trans hl2).trans hl3).trans hl4).trans hl5).trans hl6).trans hl7).trans hl16) h1)⟩
     ·
      intro w17 D hS7 hd7
      have hl17 := leY hm6 hS7
      have hC17 := hC7.go hS7 (fun b e => Or.inr e)
      have ho41 := ho18.go hS7 (fun e => hn1 e.symm)
      have ho42 := ho19.go hS7 (fun e => hn2 e.symm)
      refine dg_sub (E' := [(8, (.int .i64 k1))]) ⟨rfl, trivial⟩ ?_
      refine dg_plain rfl (ow_move rfl rfl ?_)
      exact ⟨BX.refl _ _, rfl⟩
     ·
      intro w18 D hS8 hd8
      have hl18 := leY hm6 hS8
      have hC18 := hC7.go hS8 (fun b e => Or.inr e)
      have ho43 := ho18.go hS8 (fun e => hn1 e.symm)
      have ho44 := ho19.go hS8 (fun e => hn2 e.symm)
      have hd8 : PV (RSlice RTest) M1 a_list (D 5) w18 ∧ PEq (.int .i64 k1) (D 6) w18 ∧ True := hd8
      obtain ⟨d5, d6, -⟩ := hd8
      obtain ⟨v20, hq2⟩ : ∃ v, (D 5) = v := ⟨_, rfl⟩
      rw [hq2] at d5
      refine dg_sub (E' := [(35, v20), (36, (.int .i64 k1))]) ⟨(congrArg some hq2), (congrArg some d6), trivial⟩ ?_
      refine dg_plain rfl (ow_indexSlice (R := RTest) rfl rfl rfl d5 Tryd.underlying23 (Tryd.sizeOf31 _) hx2 fun p11 hp11 => ?_)
      exact ⟨BX.refl _ _, ⟨_, rfl, hp11⟩⟩
     ·
      intro w19 D hS9 hd9
      have hl19 := leY hm6 hS9
      have hC19 := hC7.go hS9 (fun b e => Or.inr e)
      have ho45 := ho18.go hS9 (fun e => hn1 e.symm)
      have ho46 := ho19.go hS9 (fun e => hn2 e.symm)
      have hd9 : PA RTest M1 x2 (D 7) w19 ∧ True := hd9
      obtain ⟨d7, -⟩ := hd9
      obtain ⟨p12, e3, ha3⟩ := d7
      refine dg_sub (E' := [(37, (.pointer (some p12)))]) ⟨(congrArg some e3), trivial⟩ ?_
      refine dg_plain rfl (ow_fieldAddr rfl rfl Tryd.underlying31 rfl (Tryd.sizeOf3 _) ?_)
      exact ⟨BX.refl _ _, ⟨_, rfl, (ha3.fld fld_Test_Hi)⟩⟩
     ·
      intro w20 D hS10 hd10
      have hl20 := leY hm6 hS10
      have hC20 := hC7.go hS10 (fun b e => Or.inr e)
      have ho47 := ho18.go hS10 (fun e => hn1 e.symm)
      have ho48 := ho19.go hS10 (fun e => hn2 e.symm)
      have hd10 : PA RInt M1 x2.Hi (D 8) w20 ∧ True := hd10
      obtain ⟨d8, -⟩ := hd10
      obtain ⟨p13, e4, ha4⟩ := d8
      refine dg_sub (E' := [(38, (.pointer (some p13)))]) ⟨(congrArg some e4), trivial⟩ ?_
      refine dg_plain rfl (ow_load (R := RInt) rfl rfl ha4 (Tryd.sizeOf3 _) (Tryd.isAgg3 _) fun v21 hv21 => ?_)
      obtain rfl := vint_eq hv21
      exact ⟨BX.refl _ _, rfl⟩
     ·
      intro w21 D hS11 hd11
      have hl21 := leY hm6 hS11
      have hC21 := hC7.go hS11 (fun b e => Or.inr e)
      have ho49 := ho18.go hS11 (fun e => hn1 e.symm)
      have ho50 := ho19.go hS11 (fun e => hn2 e.symm)
      refine dg_sub (E' := [(1, v1p)]) ⟨rfl, trivial⟩ ?_
      refine dg_plain rfl (ow_move rfl rfl ?_)
      exact ⟨BX.refl _ _, (VRep.mono (((((((hl1.trans hl2).trans hl3).trans hl4).trans hl5).trans hl6).trans hl7).trans hl21) h1)⟩
     ·
      intro w22 D hS12 hd12
      have hl22 := leY hm6 hS12
      have hC22 := hC7.go hS12 (fun b e => Or.inr e)
      have ho51 := ho18.go hS12 (fun e => hn1 e.symm)
      have ho52 := ho19.go hS12 (fun e => hn2 e.symm)
      refine dg_sub (E' := [(8, (.int .i64 k1))]) ⟨rfl, trivial⟩ ?_
      refine dg_plain rfl (ow_move rfl rfl ?_)
      exact ⟨BX.refl _ _, rfl⟩
     ·
      intro w23 D hS13 hd13
      have hl23 := leY hm6 hS13
      have hC23 := hC7.go hS13 (fun b e => Or.inr e)
      have ho53 := ho18.go hS13 (fun e => hn1 e.symm)
      have ho54 := ho19.go hS13 (fun e => hn2 e.symm)
      have hd13 : PV (RSlice RTest) M1 a_list (D 10) w23 ∧ PEq (.int .i64 k1) (D 11) w23 ∧ True := hd13
      obtain ⟨d9, d10, -⟩ := hd13
      obtain ⟨v22, hq3⟩ : ∃ v, (D 10) = v := ⟨_, rfl⟩
      rw [hq3] at d9
      refine dg_sub (E' := [(40, v22), (41, (.int .i64 k1))]) ⟨(congrArg some hq3), (congrArg some d10), trivial⟩ ?_
      refine dg_plain rfl (ow_indexSlice (R := RTest) rfl rfl rfl d9 Tryd.underlying23 (Tryd.sizeOf31 _) hx2 fun p14 hp14 => ?_)
      exact ⟨BX.refl _ _, ⟨_, rfl, hp14⟩⟩
     ·
      intro w24 D hS14 hd14
      have hl24 := leY hm6 hS14
      have hC24 := hC7.go hS14 (fun b e => Or.inr e)
      have ho55 := ho18.go hS14 (fun e => hn1 e.symm)
      have ho56 := ho19.go hS14 (fun e => hn2 e.symm)
      have hd14 : PA RTest M1 x2 (D 12) w24 ∧ True := hd14
      obtain ⟨d11, -⟩ := hd14
      obtain ⟨p15, e5, ha5⟩ := d11
      refine dg_sub (E' := [(42, (.pointer (some p15)))]) ⟨(congrArg some e5), trivial⟩ ?_
      refine dg_plain rfl (ow_fieldAddr rfl rfl Tryd.underlying31 rfl (Tryd.sizeOf3 _) ?_)
      exact ⟨BX.refl _ _, ⟨_, rfl, (ha5.fld fld_Test_Lo)⟩⟩
     ·
      intro w25 D hS15 hd15
      have hl25 := leY hm6 hS15
      have hC25 := hC7.go hS15 (fun b e => Or.inr e)
      have ho57 := ho18.go hS15 (fun e => hn1 e.symm)
      have ho58 := ho19.go hS15 (fun e => hn2 e.symm)
      have hd15 : PA RInt M1 x2.Lo (D 13) w25 ∧ True := hd15
      obtain ⟨d12, -⟩ := hd15
      obtain ⟨p16, e6, ha6⟩ := d12
      refine dg_sub (E' := [(43, (.pointer (some p16)))]) ⟨(congrArg some e6), trivial⟩ ?_
      refine dg_plain rfl (ow_load (R := RInt) rfl rfl ha6 (Tryd.sizeOf3 _) (Tryd.isAgg3 _) fun v23 hv23 => ?_)
      obtain rfl := vint_eq hv23
      exact ⟨BX.refl _ _, rfl⟩
     ·
      intro w26 D hS16 hd16
      have hl26 := leY hm6 hS16
      have hC26 := hC7.go hS16 (fun b e => Or.inr e)
      have ho59 := ho18.go hS16 (fun e => hn1 e.symm)
      have ho60 := ho19.go hS16 (fun e => hn2 e.symm)
      have hd16 : PEq (.int .i64 x2.Lo) (D 14) w26 ∧ True := hd16
      obtain ⟨d13, -⟩ := hd16
      refine dg_sub (E' := [(44, (.int .i64 x2.Lo))]) ⟨(congrArg some d13), trivial⟩ ?_
      refine dg_plain rfl (ow_sub rfl rfl rfl ?_)
      exact ⟨BX.refl _ _, rfl⟩
     ·
      intro w27 D hS17 hd17
      have hl27 := leY hm6 hS17
      have hC27 := hC7.go hS17 (fun b e => Or.inr e)
      have ho61 := ho18.go hS17 (fun e => hn1 e.symm)
      have ho62 := ho19.go hS17 (fun e => hn2 e.symm)
      have hd17 : PEq (.int .i64 (W (x2.Lo - 1))) (D 15) w27 ∧ True := hd17
      obtain ⟨d14, -⟩ := hd17
      refine dg_sub (E' := [(45, (.int .i64 (W (x2.Lo - 1))))]) ⟨(congrArg some d14), trivial⟩ ?_
      refine dg_plain rfl (ow_max rfl rfl rfl ?_)
      exact ⟨BX.refl _ _, rfl⟩
     ·
      intro w28 D hS18 hd18
      have hl28 := leY hm6 hS18
      have hC28 := hC7.go hS18 (fun b e => Or.inr e)
      have ho63 := ho18.go hS18 (fun e => hn1 e.symm)
      have ho64 := ho19.go hS18 (fun e => hn2 e.symm)
      refine dg_sub (E' := [(1, v1p)]) ⟨rfl, trivial⟩ ?_
      refine dg_plain rfl (ow_move rfl rfl ?_)
      exact ⟨BX.refl _ _, (VRep.mono (((((((hl1.trans hl2).trans hl3).trans hl4).trans hl5).trans hl6).trans hl7).trans hl28) h1)⟩
     ·
      intro w29 D hS19 hd19
      have hl29 := leY hm6 hS19
      have hC29 := hC7.go hS19 (fun b e => Or.inr e)
      have ho65 := ho18.go hS19 (fun e => hn1 e.symm)
      have ho66 := ho19.go hS19 (fun e => hn2 e.symm)
      refine dg_sub (E' := [(8, (.int .i64 k1))]) ⟨rfl, trivial⟩ ?_
      refine dg_plain rfl (ow_move rfl rfl ?_)
      exact ⟨BX.refl _ _, rfl⟩
     ·
      intro w30 D hS20 hd20
      have hl30 := leY hm6 hS20
      have hC30 := hC7.go hS20 (fun b e => Or.inr e)
      have ho67 := ho18.go hS20 (fun e => hn1 e.symm)
      have ho68 := ho19.go hS20 (fun e => hn2 e.symm)
      have hd20 : PV (RSlice RTest) M1 a_list (D 17) w30 ∧ PEq (.int .i64 k1) (D 18) w30 ∧ True := hd20
      obtain ⟨d15, d16, -⟩ := hd20
      obtain ⟨v24, hq4⟩ : ∃ v, (D 17) = v := ⟨_, rfl⟩
      rw [hq4] at d15
      refine dg_sub (E' := [(47, v24), (48, (.int .i64 k1))]) ⟨(congrArg some hq4), (congrArg some d16), trivial⟩ ?_
      refine dg_plain rfl (ow_indexSlice (R := RTest) rfl rfl rfl d15 Tryd.underlying23 (Tryd.sizeOf31 _) hx2 fun p17 hp17 => ?_)
      exact ⟨BX.refl _ _, ⟨_, rfl, hp17⟩⟩
     ·
      intro w31 D hS21 hd21
      have hl31 := leY hm6 hS21
      have hC31 := hC7.go hS21 (fun b e => Or.inr e)
      have ho69 := ho18.go hS21 (fun e => hn1 e.symm)
      have ho70 := ho19.go hS21 (fun e => hn2 e.symm)
      have hd21 : PA RTest M1 x2 (D 19) w31 ∧ True := hd21
      obtain ⟨d17, -⟩ := hd21
      obtain ⟨p18, e7, ha7⟩ := d17
      refine dg_sub (E' := [(49, (.pointer (some p18)))]) ⟨(congrArg some e7), trivial⟩ ?_
      refine dg_plain rfl (ow_fieldAddr rfl rfl Tryd.underlying31 rfl (Tryd.sizeOf3 _) ?_)
      exact ⟨BX.refl _ _, ⟨_, rfl, (ha7.fld fld_Test_Field)⟩⟩
     ·
      intro w32 D hS22 hd22
      have hl32 := leY hm6 hS22
      have hC32 := hC7.go hS22 (fun b e => Or.inr e)
      have ho71 := ho18.go hS22 (fun e => hn1 e.symm)
      have ho72 := ho19.go hS22 (fun e => hn2 e.symm)
      have hd22 : PA RInt M1 x2.Field (D 20) w32 ∧ True := hd22
      obtain ⟨d18, -⟩ := hd22
      obtain ⟨p19, e8, ha8⟩ := d18
      refine dg_sub (E' := [(50, (.pointer (some p19)))]) ⟨(congrArg some e8), trivial⟩ ?_
      refine dg_plain rfl (ow_load (R := RInt) rfl rfl ha8 (Tryd.sizeOf3 _) (Tryd.isAgg3 _) fun v25 hv25 => ?_)
      obtain rfl := vint_eq hv25
      exact ⟨BX.refl _ _, rfl⟩
     ·
      intro w33 D hS23 hd23
      have hl33 := leY hm6 hS23
      have hC33 := hC7.go hS23 (fun b e => Or.inr e)
      have ho73 := ho18.go hS23 (fun e => hn1 e.symm)
      have ho74 := ho19.go hS23 (fun e => hn2 e.symm)
      have hd23 : PEq (.int .i64 x2.Field) (D 21) w33 ∧ True := hd23
      obtain ⟨d19, -⟩ := hd23
      refine dg_sub (E' := [(51, (.int .i64 x2.Field))]) ⟨(congrArg some d19), trivial⟩ ?_
      refine dg_plain rfl (ow_call rfl rfl Tryd.call81 (w_spec_FieldTop (hG.mono (((((((hl1.trans hl2).trans hl3).trans hl4).trans hl5).trans hl6).trans hl7).trans hl33)) hC33.old hx5) fun v26 w34 hv26 => ?_)
      obtain ⟨hv26, hb11⟩ := hv26
      have hl34 := Le.no M1 hb11
      have hC34 := hC33.no hb11
      have ho75 := ho73.no hb11
      have ho76 := ho74.no hb11
      obtain rfl := vint_eq hv26
      exact ⟨hb11, rfl⟩
     ·
      intro w35 D hS24 hd24
      have hl35 := leY hm6 hS24
      have hC35 := hC7.go hS24 (fun b e => Or.inr e)
      have ho77 := ho18.go hS24 (fun e => hn1 e.symm)
      have ho78 := ho19.go hS24 (fun e => hn2 e.symm)
      refine dg_sub (E' := [(1, v1p)]) ⟨rfl, trivial⟩ ?_
      refine dg_plain rfl (ow_move rfl rfl ?_)
      exact ⟨BX.refl _ _, (VRep.mono (((((((hl1.trans hl2).trans hl3).trans hl4).trans hl5).trans hl6).trans hl7).trans hl35) h1)⟩
     ·
      intro w36 D hS25 hd25
      have hl36 := leY hm6 hS25
      have hC36 := hC7.go hS25 (fun b e => Or.inr e)
      have ho79 := ho18.go hS25 (fun e => hn1 e.symm)
      have ho80 := ho19.go hS25 (fun e => hn2 e.symm)
      refine dg_sub (E' := [(8, (.int .i64 k1))]) ⟨rfl, trivial⟩ ?_
      refine dg_plain rfl (ow_move rfl rfl ?_)
      exact ⟨BX.refl _ _, rfl⟩
     ·
      intro w37 D hS26 hd26
      have hl37 := leY hm6 hS26
      have hC37 := hC7.go hS26 (fun b e => Or.inr e)
      have ho81 := ho18.go hS26 (fun e => hn1 e.symm)
      have ho82 := ho19.go hS26 (fun e => hn2 e.symm)
      have hd26 : PV (RSlice RTest) M1 a_list (D 23) w37 ∧ PEq (.int .i64 k1) (D 24) w37 ∧ True := hd26
      obtain ⟨d20, d21, -⟩ := hd26
      obtain ⟨v27, hq5⟩ : ∃ v, (D 23) = v := ⟨_, rfl⟩
      rw [hq5] at d20
      refine dg_sub (E' := [(53, v27), (54, (.int .i64 k1))]) ⟨(congrArg some hq5), (congrArg some d21), trivial⟩ ?_
      refine dg_plain rfl (ow_indexSlice (R := RTest) rfl rfl rfl d20 Tryd.underlying23 (Tryd.sizeOf31 _) hx2 fun p20 hp20 => ?_)
      exact ⟨BX.refl _ _, ⟨_, rfl, hp20⟩⟩
     ·
      intro w38 D hS27 hd27
      have hl38 := leY hm6 hS27
      have hC38 := hC7.go hS27 (fun b e => Or.inr e)
      have ho83 := ho18.go hS27 (fun e => hn1 e.symm)
      have ho84 := ho19.go hS27 (fun e => hn2 e.symm)
      have hd27 : PA RTest M1 x2 (D 25) w38 ∧ True := hd27
      obtain ⟨d22, -⟩ := hd27
      obtain ⟨p21, e9, ha9⟩ := d22
      refine dg_sub (E' := [(55, (.pointer (some p21)))]) ⟨(congrArg some e9), trivial⟩ ?_
      refine dg_plain rfl (ow_fieldAddr rfl rfl Tryd.underlying31 rfl (Tryd.sizeOf3 _) ?_)
      exact ⟨BX.refl _ _, ⟨_, rfl, (ha9.fld fld_Test_Hi)⟩⟩
     ·
      intro w39 D hS28 hd28
      have hl39 := leY hm6 hS28
      have hC39 := hC7.go hS28 (fun b e => Or.inr e)
      have ho85 := ho18.go hS28 (fun e => hn1 e.symm)
      have ho86 := ho19.go hS28 (fun e => hn2 e.symm)
      have hd28 : PA RInt M1 x2.Hi (D 26) w39 ∧ True := hd28
      obtain ⟨d23, -⟩ := hd28
      obtain ⟨p22, e10, ha10⟩ := d23
      refine dg_sub (E' := [(56, (.pointer (some p22)))]) ⟨(congrArg some e10), trivial⟩ ?_
      refine dg_plain rfl (ow_load (R := RInt) rfl rfl ha10 (Tryd.sizeOf3 _) (Tryd.isAgg3 _) fun v28 hv28 => ?_)
      obtain rfl := vint_eq hv28
      exact ⟨BX.refl _ _, rfl⟩
     ·
      intro w40 D hS29 hd29
      have hl40 := leY hm6 hS29
      have hC40 := hC7.go hS29 (fun b e => Or.inr e)
      have ho87 := ho18.go hS29 (fun e => hn1 e.symm)
      have ho88 := ho19.go hS29 (fun e => hn2 e.symm)
      have hd29 : PEq (.int .i64 x2.Hi) (D 27) w40 ∧ True := hd29
      obtain ⟨d24, -⟩ := hd29
      refine dg_sub (E' := [(57, (.int .i64 x2.Hi))]) ⟨(congrArg some d24), trivial⟩ ?_
      refine dg_plain rfl (ow_add rfl rfl rfl ?_)
      exact ⟨BX.refl _ _, rfl⟩
     ·
      intro w41 D hS30 hd30
      have hl41 := leY hm6 hS30
      have hC41 := hC7.go hS30 (fun b e => Or.inr e)
      have ho89 := ho18.go hS30 (fun e => hn1 e.symm)
      have ho90 := ho19.go hS30 (fun e => hn2 e.symm)
      have hd30 : PEq (.int .i64 x5) (D 22) w41 ∧ PEq (.int .i64 (W (x2.Hi + 1))) (D 28) w41 ∧ True := hd30
      obtain ⟨d25, d26, -⟩ := hd30
      refine dg_sub (E' := [(52, (.int .i64 x5)), (58, (.int .i64 (W (x2.Hi + 1))))]) ⟨(congrArg some d25), (congrArg some d26), trivial⟩ ?_
      refine dg_plain rfl (ow_min rfl rfl rfl ?_)
      exact ⟨BX.refl _ _, rfl⟩
     ·
      intro w42 D hS31 hd31
      have hl42 := leY hm6 hS31
      have hC42 := hC7.go hS31 (fun b e => Or.inr e)
      have ho91 := ho18.go hS31 (fun e => hn1 e.symm)
      have ho92 := ho19.go hS31 (fun e => hn2 e.symm)
      have hd31 : PEq (.int .i64 x2.Lo) (D 4) w42 ∧ PEq (.int .i64 x2.Hi) (D 9) w42 ∧ PEq (.int .i64 (imax 0 (W (x2.Lo - 1)))) (D 16) w42 ∧ PEq (.int .i64 (imin x5 (W (x2.Hi + 1)))) (D 29) w42 ∧ True := hd31
      obtain ⟨d27, d28, d29, d30, -⟩ := hd31
      refine dg_sub (E' := [(34, (.int .i64 x2.Lo)), (39, (.int .i64 x2.Hi)), (46, (.int .i64 (imax 0 (W (x2.Lo - 1))))), (59, (.int .i64 (imin x5 (W (x2.Hi + 1)))))]) ⟨(congrArg some d27), (congrArg some d28), (congrArg some d29), (congrArg some d30), trivial⟩ ?_
      refine dg_plain rfl (ow_buildSlice (R := RInt) (xs := [x2.Lo, x2.Hi, (imax 0 (W (x2.Lo - 1))), (imin x5 (W (x2.Hi + 1)))]) (cs := #[(.int .i64 x2.Lo), (.int .i64 x2.Hi), (.int .i64 (imax 0 (W (x2.Lo - 1)))), (.int .i64 (imin x5 (W (x2.Hi + 1))))]) (e := 3) rfl rfl (by kernel_rfl) rfl rfl ⟨_, _, rfl, (vint _).cells, _, _, rfl, (vint _).cells, _, _, rfl, (vint _).cells, _, _, rfl, (vint _).cells, rfl⟩ hC42 fun p23 w43 hw2 hb12 hl43 hC43 => ?_)
      have ho93 := ho91.no hb12
      have ho94 := ho92.no hb12
      exact ⟨hb12, hw2⟩
     ·
      intro w44 D hS32 hd32
      have hl44 := leY hm6 hS32
      have hC44 := hC7.go hS32 (fun b e => Or.inr e)
      have ho95 := ho18.go hS32 (fun e => hn1 e.symm)
      have ho96 := ho19.go hS32 (fun e => hn2 e.symm)
      refine dg_sub (E' := [(0, (.pointer (some ⟨g, 0, none⟩)))]) ⟨rfl, trivial⟩ ?_
      refine dg_plain rfl (ow_move rfl rfl ?_)
      exact ⟨BX.refl _ _, rfl⟩
     ·
      intro w45 D hS33 hd33
      obtain ⟨hS33, ho97⟩ := hS33
      have ho97 : Own w45 g 98 #[(.slice Ax a_xs.length cx), (.int .i64 x4.2)] := ho97
      have hl45 := leY hm6 hS33
      have hC45 := hC7.go hS33 (fun b e => Or.inr e)
      have ho98 := ho18.go hS33 (fun e => hn1 e.symm)
      have ho99 := ho19.go hS33 (fun e => hn2 e.symm)
      have hd33 : PEq (.pointer (some ⟨g, 0, none⟩)) (D 31) w45 ∧ PEq (.int .i64 x5) (D 22) w45 ∧ True := hd33
      obtain ⟨d31, d32, -⟩ := hd33
      refine dg_sub (E' := [(61, (.pointer (some ⟨g, 0, none⟩)))]) ⟨(congrArg some d31), trivial⟩ ?_
      refine dg_plain rfl (ow_call rfl rfl Tryd.call87 (w_spec_l20Rd_pick (hG.mono (((((((hl1.trans hl2).trans hl3).trans hl4).trans hl5).trans hl6).trans hl7).trans hl45)) hC45.old (VRep.mono (((((((hl1.trans hl2).trans hl3).trans hl4).trans hl5).trans hl6).trans hl7).trans hl45) hxs) ho97 hm6 hx6) fun v29 w46 hv29 => ?_)
      obtain ⟨⟨hv29, ho100⟩, hb13⟩ := hv29
      have hl46 := Le.of_bx M1 hb13 (fun b e => (by rw [show b = g from e]; exact hm6))
      have hC46 := hC45.go hb13 (fun b e => Or.inr e)
      have ho101 := ho98.go hb13 (fun e => hn1 e.symm)
      have ho102 := ho99.go hb13 (fun e => hn2 e.symm)
      obtain rfl := vint_eq hv29
      exact ⟨⟨⟨hS33.trans hb13, ho100⟩, hb13⟩, rfl⟩
     ·
      intro w47 D hS34 hd34
      have hd34 : PV (RSlice RTest) M1 a_list (D 0) w47 ∧ PEq (.int .i64 k1) (D 1) w47 ∧ PA RTest M1 x2 (D 2) w47 ∧ PA RInt M1 x2.Lo (D 3) w47 ∧ PEq (.int .i64 x2.Lo) (D 4) w47 ∧ PV (RSlice RTest) M1 a_list (D 5) w47 ∧ PEq (.int .i64 k1) (D 6) w47 ∧ PA RTest M1 x2 (D 7) w47 ∧ PA RInt M1 x2.Hi (D 8) w47 ∧ PEq (.int .i64 x2.Hi) (D 9) w47 ∧ PV (RSlice RTest) M1 a_list (D 10) w47 ∧ PEq (.int .i64 k1) (D 11) w47 ∧ PA RTest M1 x2 (D 12) w47 ∧ PA RInt M1 x2.Lo (D 13) w47 ∧ PEq (.int .i64 x2.Lo) (D 14) w47 ∧ PEq (.int .i64 (W (x2.Lo - 1))) (D 15) w47 ∧ PEq (.int .i64 (imax 0 (W (x2.Lo - 1)))) (D 16) w47 ∧ PV (RSlice RTest) M1 a_list (D 17) w47 ∧ PEq (.int .i64 k1) (D 18) w47 ∧ PA RTest M1 x2 (D 19) w47 ∧ PA RInt M1 x2.Field (D 20) w47 ∧ PEq (.int .i64 x2.Field) (D 21) w47 ∧ PEq (.int .i64 x5) (D 22) w47 ∧ PV (RSlice RTest) M1 a_list (D 23) w47 ∧ PEq (.int .i64 k1) (D 24) w47 ∧ PA RTest M1 x2 (D 25) w47 ∧ PA RInt M1 x2.Hi (D 26) w47 ∧ PEq (.int .i64 x2.Hi) (D 27) w47 ∧ PEq (.int .i64 (W (x2.Hi + 1))) (D 28) w47 ∧ PEq (.int .i64 (imin x5 (W (x2.Hi + 1)))) (D 29) w47 ∧ PV (RSlice RInt) M1 [x2.Lo, x2.Hi, (imax 0 (W (x2.Lo - 1))), (imin x5 (W (x2.Hi + 1)))] (D 30) w47 ∧ PEq (.pointer (some ⟨g, 0, none⟩)) (D 31) w47 ∧ PEq (.int .i64 x6.1) (D 32) w47 ∧ True := hd34
      obtain ⟨-, -, -, -, -, -, -, -, -, -, -, -, -, -, -, -, -, -, -, -, -, -, -, -, -, -, -, -, -, -, d63, -, d65, -⟩ := hd34
      obtain ⟨hS34, ho103⟩ := hS34
      have ho103 : Own w47 g 98 #[(.slice Ax a_xs.length cx), (.int .i64 x6.2)] := ho103
      have hl47 := leY hm6 hS34
      have hC47 := hC7.go hS34 (fun b e => Or.inr e)
      have ho104 := ho18.go hS34 (fun e => hn1 e.symm)
      have ho105 := ho19.go hS34 (fun e => hn2 e.symm)
      obtain ⟨v30, hq6⟩ : ∃ v, (D 30) = v := ⟨_, rfl⟩
      rw [hq6] at d63
      refine lw_sub (E' := [(60, v30), (62, (.int .i64 x6.1)), (0, (.pointer (some ⟨g, 0, none⟩))), (1, v1p), (6, (.pointer (some ⟨g1, 0, none⟩))), (7, (.pointer (some ⟨g2, 0, none⟩))), (8, (.int .i64 k1))]) ⟨(congrArg some hq6), (congrArg some d65), rfl, rfl, rfl, rfl, rfl, trivial⟩ ?_
      replace hb5 := bind_some hb5
      obtain ⟨x7, hx7, hb5⟩ := hb5
      refine lw_op rfl rfl rfl (ow_indexSlice (R := RInt) rfl rfl rfl d63 Tryd.underlying84 (Tryd.sizeOf3 _) hx7 fun p24 hp24 => ?_)
      refine lw_op rfl rfl rfl (ow_load (R := RInt) rfl rfl hp24 (Tryd.sizeOf3 _) (Tryd.isAgg3 _) fun v31 hv31 => ?_)
      obtain rfl := vint_eq hv31
      refine lw_op rfl rfl rfl (ow_assign rfl rfl ?_)
      refine lw_nil (ew_then (cw_seq (cw_region (lw_op rfl rfl rfl (ow_move rfl rfl ?_)))))
      refine lw_op rfl rfl rfl (ow_move rfl rfl ?_)
      refine lw_op rfl rfl rfl (ow_indexSlice (R := RTest) rfl rfl rfl (VRep.mono (((((((hl1.trans hl2).trans hl3).trans hl4).trans hl5).trans hl6).trans hl7).trans hl47) h1) Tryd.underlying23 (Tryd.sizeOf31 _) hx2 fun p25 hp25 => ?_)
      refine lw_op rfl rfl rfl (ow_fieldAddr rfl rfl Tryd.underlying31 rfl (Tryd.sizeOf3 _) ?_)
      refine lw_op rfl rfl rfl (ow_load (R := RInt) rfl rfl (hp25.fld fld_Test_Field) (Tryd.sizeOf3 _) (Tryd.isAgg3 _) fun v32 hv32 => ?_)
      obtain rfl := vint_eq hv32
      refine lw_nil (ew_then (cw_block ?_))
      refine cw_seq (cw_region (lw_op rfl rfl rfl (ow_eqlI rfl rfl rfl fun bb3 hbb3 => ?_)))
      refine lw_op rfl rfl rfl (ow_assign rfl rfl ?_)
      refine lw_nil (ew_then ?_)
      replace hb5 := cond_some hb5
      rcases hb5 with ⟨hc4, hb5⟩ | ⟨hc4, hb5⟩
      ·
       obtain rfl := hbb3.trans hc4
       refine cw_true rfl ?_
       refine cw_region (lw_op rfl rfl rfl (ow_move rfl rfl ?_))
       refine lw_op rfl rfl rfl (ow_fieldAddr rfl rfl Tryd.underlying45 rfl (Tryd.sizeOf3 _) ?_)
       refine lw_op0 rfl rfl (ow_store (X := (One g)) (us := [(.int .i64 x7)]) (cs' := #[(.int .i64 x7), (.int .i64 k4), (.int .i64 k5), (.int .i64 k6)]) rfl rfl rfl rfl ho105 (Tryd.sizeOf3 _) rfl rfl rfl rfl hm8 (.inl hg4) rfl hC47 fun w48 ho106 hb14 hl48 hC48 => ?_)
       have ho107 := ho103.go hb14 (fun e => hn2 e)
       have ho108 := ho104.go hb14 (fun e => hn3 e)
       refine lw_nil (ew_blockN ?_)
       refine ew_blockN ?_
       refine ew_then (cw_region (lw_op rfl rfl rfl (ow_move rfl rfl ?_)))
       refine lw_op rfl rfl rfl (ow_add rfl rfl rfl ?_)
       refine lw_op rfl rfl rfl (ow_assign rfl rfl ?_)
       refine lw_nil (ew_nxt ((W (k1 + 1)), x6.2, x7, k4, k5, k6) hb5 fun a ha => ⟨M1, ?_, ((((hl5.trans hl6).trans hl7).trans hl47).trans hl48), hC48, ho107, hm6, ho108, hm7, ho106, hm8⟩)
       exact ha.sub ⟨rfl, rfl, rfl, rfl, rfl, trivial⟩
      ·
       obtain rfl := hbb3.trans hc4
       refine cw_false rfl ?_
       refine cw_seq (cw_region (lw_op rfl rfl rfl (ow_eqlI rfl rfl rfl fun bb4 hbb4 => ?_)))
       refine lw_op rfl rfl rfl (ow_assign rfl rfl ?_)
       refine lw_nil (ew_then ?_)
       replace hb5 := cond_some hb5
       rcases hb5 with ⟨hc5, hb5⟩ | ⟨hc5, hb5⟩
       ·
        obtain rfl := hbb4.trans hc5
        refine cw_true rfl ?_
        refine cw_region (lw_op rfl rfl rfl (ow_move rfl rfl ?_))
        refine lw_op rfl rfl rfl (ow_fieldAddr rfl rfl Tryd.underlying45 rfl (Tryd.sizeOf3 _) ?_)
        refine lw_op0 rfl rfl (ow_store (X := (One g)) (us := [(.int .i64 x7)]) (cs' := #[(.int .i64 k3), (.int .i64 x7), (.int .i64 k5), (.int .i64 k6)]) rfl rfl rfl rfl ho105 (Tryd.sizeOf3 _) rfl rfl rfl rfl hm8 (.inl hg4) rfl hC47 fun w49 ho109 hb15 hl49 hC49 => ?_)
        have ho110 := ho103.go hb15 (fun e => hn2 e)
        have ho111 := ho104.go hb15 (fun e => hn3 e)
        refine lw_nil (ew_blockN ?_)
        refine ew_blockN ?_
        refine ew_then (cw_region (lw_op rfl rfl rfl (ow_move rfl rfl ?_)))
        refine lw_op rfl rfl rfl (ow_add rfl rfl rfl ?_)
        refine lw_op rfl rfl rfl (ow_assign rfl rfl ?_)
        refine lw_nil (ew_nxt ((W (k1 + 1)), x6.2, k3, x7, k5, k6) hb5 fun a ha => ⟨M1, ?_, ((((hl5.trans hl6).trans hl7).trans hl47).trans hl49), hC49, ho110, hm6, ho111, hm7, ho109, hm8⟩)
        exact ha.sub ⟨rfl, rfl, rfl, rfl, rfl, trivial⟩
       ·
        obtain rfl := hbb4.trans hc5
        refine cw_false rfl ?_
        refine cw_seq (cw_region (lw_op rfl rfl rfl (ow_eqlI rfl rfl rfl fun bb5 hbb5 => ?_)))
        refine lw_op rfl rfl rfl (ow_assign rfl rfl ?_)
        refine lw_nil (ew_then ?_)
        replace hb5 := cond_some hb5
        rcases hb5 with ⟨hc6, hb5⟩ | ⟨hc6, hb5⟩
        ·
         obtain rfl := hbb5.trans hc6
         refine cw_true rfl ?_
         refine cw_region (lw_op rfl rfl rfl (ow_move rfl rfl ?_))
         refine lw_op rfl rfl rfl (ow_fieldAddr rfl rfl Tryd.underlying45 rfl (Tryd.sizeOf3 _) ?_)
         refine lw_op0 rfl rfl (ow_store (X := (One g)) (us := [(.int .i64 x7)]) (cs' := #[(.int .i64 k3), (.int .i64 k4), (.int .i64 x7), (.int .i64 k6)]) rfl rfl rfl rfl ho105 (Tryd.sizeOf3 _) rfl rfl rfl rfl hm8 (.inl hg4) rfl hC47 fun w50 ho112 hb16 hl50 hC50 => ?_)
         have ho113 := ho103.go hb16 (fun e => hn2 e)
         have ho114 := ho104.go hb16 (fun e => hn3 e)
         refine lw_nil (ew_blockN ?_)
         refine ew_blockN ?_
         refine ew_then (cw_region (lw_op rfl rfl rfl (ow_move rfl rfl ?_)))
         refine lw_op rfl rfl rfl (ow_add rfl rfl rfl ?_)
         refine lw_op rfl rfl rfl (ow_assign rfl rfl ?_)
         refine lw_nil (ew_nxt ((W (k1 + 1)), x6.2, k3, k4, x7, k6) hb5 fun a ha => ⟨M1, ?_, ((((hl5.trans hl6).trans hl7).trans hl47).trans hl50), hC50, ho113, hm6, ho114, hm7, ho112, hm8⟩)
         exact ha.sub ⟨rfl, rfl, rfl, rfl, rfl, trivial⟩
        ·
         obtain rfl := hbb5.trans hc6
         refine cw_false rfl ?_
         refine cw_region (lw_op rfl rfl rfl (ow_move rfl rfl ?_))
         refine lw_op rfl rfl rfl (ow_fieldAddr rfl rfl Tryd.underlying45 rfl (Tryd.sizeOf3 _) ?_)
         refine lw_op0 rfl rfl (ow_store (X := (One g)) (us := [(.int .i64 x7)]) (cs' := #[(.int .i64 k3), (.int .i64 k4), (.int .i64 k5), (.int .i64 x7)]) rfl rfl rfl rfl ho105 (Tryd.sizeOf3 _) rfl rfl rfl rfl hm8 (.inl hg4) rfl hC47 fun w51 ho115 hb17 hl51 hC51 => ?_)
         have ho116 := ho103.go hb17 (fun e => hn2 e)
         have ho117 := ho104.go hb17 (fun e => hn3 e)
         refine lw_nil (ew_blockN ?_)
         refine ew_blockN ?_
         refine ew_then (cw_region (lw_op rfl rfl rfl (ow_move rfl rfl ?_)))
         refine lw_op rfl rfl rfl (ow_add rfl rfl rfl ?_)
         refine lw_op rfl rfl rfl (ow_assign rfl rfl ?_)
         refine lw_nil (ew_nxt ((W (k1 + 1)), x6.2, k3, k4, k5, x7) hb5 fun a ha => ⟨M1, ?_, ((((hl5.trans hl6).trans hl7).trans hl47).trans hl51), hC51, ho116, hm6, ho117, hm7, ho115, hm8⟩)
         exact ha.sub ⟨rfl, rfl, rfl, rfl, rfl, trivial⟩
   ·
    subst hc2
    refine lw_off rfl rfl rfl rfl rfl rfl ?_
    refine lw_off rfl rfl rfl rfl rfl rfl ?_
    refine lw_off rfl rfl rfl rfl rfl rfl ?_
    refine lw_op rfl rfl rfl (ow_pickT rfl rfl rfl ?_)
    refine lw_nil (ew_then (cw_true rfl ?_))
    refine cw_exit ?_
    refine ew_thenX ?_
    refine ew_blockX ?_
    refine ew_then (cw_region (lw_op rfl rfl rfl (ow_move rfl rfl ?_)))
    refine lw_op rfl rfl rfl (ow_add rfl rfl rfl ?_)
    refine lw_op rfl rfl rfl (ow_assign rfl rfl ?_)
    refine lw_nil (ew_nxt ((W (k1 + 1)), k2, k3, k4, k5, k6) hb5 fun a ha => ⟨M1, ?_, (hl5.trans hl6), hC6, ho14, hm6, ho15, hm7, ho16, hm8⟩)
    exact ha.sub ⟨rfl, rfl, rfl, rfl, rfl, trivial⟩
  ·
   obtain rfl := hbb1.trans hc1
   refine cw_false rfl ?_
   refine cw_exit ?_
   refine ew_thenX ?_
   refine ew_thenX ?_
   refine ew_blockX ?_
   refine ew_brk (k1, k2, k3, k4, k5, k6) hb5 fun a ha => ⟨M1, ?_, hl5, hC5, ho11, hm6, ho12, hm7, ho13, hm8⟩
   exact ha.sub ⟨rfl, rfl, rfl, rfl, rfl, trivial⟩
 ·
  rintro ⟨k7, k8, k9, k10, k11, k12⟩ a w52 hlr2 ⟨M2, hF2, hl52, hC52, ho118, hm9, ho119, hm10, ho120, hm11⟩
  subst hlr2
  refine ew_at (E := [(0, (.pointer (some ⟨g, 0, none⟩))), (1, v1p), (6, (.pointer (some ⟨g1, 0, none⟩))), (7, (.pointer (some ⟨g2, 0, none⟩))), (8, (.int .i64 k7))]) hF2 ?_
  refine ew_then (cw_seq (cw_region (lw_op rfl rfl rfl (ow_loadOwnA rfl rfl rfl ho120 (Tryd.isAgg45 _) (Tryd.sizeOf45 _) rfl ?_))))
  have hw3 : VRep RPacket w52 M2 ({ From := k9, To := k10, Port := k11, Proto := k12 } : Packet) (.agg #[(.int .i64 k9), (.int .i64 k10), (.int .i64 k11), (.int .i64 k12)]) := shut_Packet
  refine lw_op0 rfl rfl (ow_store (X := (One g)) (us := [(.int .i64 k9), (.int .i64 k10), (.int .i64 k11), (.int .i64 k12)]) (cs' := #[(.int .i64 k9), (.int .i64 k10), (.int .i64 k11), (.int .i64 k12)]) rfl rfl rfl rfl ho119 (Tryd.sizeOf45 _) rfl rfl rfl rfl hm10 (.inl hg2) rfl hC52 fun w53 ho121 hb18 hl53 hC53 => ?_)
  have ho122 := ho118.go hb18 (fun e => hn1 e)
  have ho123 := ho120.go hb18 (fun e => hn3 e.symm)
  refine lw_nil (ew_then (cw_ret ?_))
  have hw4 : VRep RPacket w53 M2 ({ From := k9, To := k10, Port := k11, Proto := k12 } : Packet) (.agg #[(.int .i64 k9), (.int .i64 k10), (.int .i64 k11), (.int .i64 k12)]) := shut_Packet
  obtain rfl := Option.some.inj h
  exact ew_ret (res1 rfl (.cell rfl (own_loadVarA ho121 (Tryd.isAgg45 _) (Tryd.sizeOf45 _) rfl))) ⟨_, rfl, ⟨(hw4.mono hC53.back), ho122⟩, hC53.bx⟩

theorem w_spec_l20Inside {w : World} {M : Nat → Prop} (hG : ARep (RArr 4 RShape) w M shapes ⟨0, 0, none⟩) (hO : ∀ b, M b → b < w.heap.size) {g : Nat} {Ax : Option Addr} {cx : Nat} {a_xs : List Int} {a_pos : Int} (hxs : VRep (RSlice RU8) w M a_xs (.slice Ax a_xs.length cx)) (hown : Own w g 98 #[.slice Ax a_xs.length cx, .int .i64 a_pos]) (hgM : M g) {v1p : Value} {a_b : Box} (h1 : VRep RBox w M a_b v1p) {a_n : Int} {r : Packet × Int} (h : F.spec_l20Inside a_xs a_pos a_b a_n = some r) :
  Calls Tryd.prog 77 [(.pointer (some ⟨g, 0, none⟩)), v1p, (.int .i64 a_n)].toArray w fun e w' => ∃ v, e = .returned v ∧ (VRep RPacket w' M r.1 v ∧ Own w' g 98 #[.slice Ax a_xs.length cx, .int .i64 r.2]) ∧ BX (One g) w w' := by
 obtain ⟨i31, hi31, hz31, hs31, hy31⟩ := info31
 have hX : ∀ b, (One g) b → M b := fun b e => e ▸ hgM
 have hC : Cx (One g) w M w M := Cx.start hO hX
 refine walk (N := 57) Tryd.func77 rfl Tryd.ntmps77 rfl ?_
 refine cw_seq (cw_region (lw_op rfl rfl rfl (ow_box (R := RBox) rfl rfl h1 hC fun p1 w1 hp1 hb1 hl1 hC1 => ?_)))
 have ho1 := hown.no hb1
 refine lw_op rfl rfl rfl (ow_alloc rfl (Tryd.zeroValue45 _) hC1 fun g1 w2 hg1 hg2 ho2 hb2 hl2 hC2 => ?_)
 have hn1 := Nat.ne_of_lt (Nat.lt_of_lt_of_le ho1.lt hg1)
 have ho3 := ho1.no hb2
 have hm1 : (Add g1 M) g := .inr hgM
 have hm2 : (Add g1 M) g1 := .inl rfl
 refine lw_nil (ew_then (cw_seq (cw_region (lw_op rfl rfl rfl (ow_buildSlice0 (R := RTest) (e := 31) rfl (by kernel_rfl) hC2 fun p2 w3 M1 hr1 hb3 hl3 hC3 hM1 hat1 => ?_)))))
 have ho4 := ho3.no hb3
 have hm3 := hM1 _ hm1
 have ho5 := ho2.no hb3
 have hm4 := hM1 _ hm2
 refine lw_op rfl rfl rfl (ow_assign rfl rfl ?_)
 refine lw_nil (ew_then (cw_seq (cw_seq (cw_region (lw_op rfl rfl rfl (ow_assign rfl rfl ?_))))))
 refine lw_nil (ew_then ?_)
 replace h := bind_some h
 obtain ⟨lr1, hlr1, h⟩ := h
 refine cw_for hlr1 (fun s a w' => ∃ (M' : Nat → Prop) (v0c : Value), Fits 57 [(0, (.pointer (some ⟨g, 0, none⟩))), (2, (.int .i64 a_n)), (4, (.pointer (some p1))), (6, (.pointer (some ⟨g1, 0, none⟩))), (7, v0c), (8, (.int .i64 s.2.1))] a ∧ Le w3 M1 w' M' ∧ Cx (One g) w M w' M' ∧ OwnRow RTest w.heap.size 31 w' M' s.1 v0c ∧ Own w' g 98 #[(.slice Ax a_xs.length cx), (.int .i64 s.2.2)] ∧ M' g ∧ Own w' g1 45 #[(.int .i64 0), (.int .i64 0), (.int .i64 0), (.int .i64 0)] ∧ M' g1) ?_ ?_ ?_
 ·
  intro a ha
  exact ⟨M1, (.slice (some p2) 0 0), ha.sub ⟨rfl, rfl, rfl, rfl, rfl, rfl, trivial⟩, Le.refl _ _, hC3, hr1, ho4, hm3, ho5, hm4⟩
 ·
  rintro ⟨y1, k1, k2⟩ a w4 sr1 ⟨M2, v1, hF1, hl4, hC4, hw1, ho6, hm5, ho7, hm6⟩ hb4 hR1
  refine cw_at (E := [(0, (.pointer (some ⟨g, 0, none⟩))), (2, (.int .i64 a_n)), (4, (.pointer (some p1))), (6, (.pointer (some ⟨g1, 0, none⟩))), (7, v1), (8, (.int .i64 k1))]) hF1 ?_
  refine cw_seq (cw_seq (cw_region (lw_op rfl rfl rfl (ow_move rfl rfl ?_))))
  refine lw_op rfl rfl rfl (ow_fieldAddr rfl rfl Tryd.underlying27 rfl (Tryd.sizeOf25 _) ?_)
  refine lw_op rfl rfl rfl (ow_load (R := (RSlice (RSlice RSpan))) rfl rfl (ARep.mono ((hl2.trans hl3).trans hl4) (hp1.fld fld_Box_Sides)) (Tryd.sizeOf25 _) (Tryd.isAgg25 _) fun v4 hv4 => ?_)
  refine lw_op rfl rfl rfl (ow_len rfl rfl hv4 Tryd.underlying25 rfl ?_)
  refine lw_op rfl rfl rfl (ow_lss rfl rfl rfl fun bb1 hbb1 => ?_)
  refine lw_op rfl rfl rfl (ow_move rfl rfl ?_)
  replace hb4 := cond_some hb4
  rcases hb4 with ⟨hc1, hb4⟩ | ⟨hc1, hb4⟩
  ·
   obtain rfl := hbb1.trans hc1
   refine lw_on rfl rfl rfl rfl rfl rfl (ow_move rfl rfl ?_)
   refine lw_on rfl rfl rfl rfl rfl rfl (ow_lss rfl rfl rfl fun bb2 hbb2 => ?_)
   refine lw_op rfl rfl rfl (ow_pickT rfl rfl rfl ?_)
   refine lw_nil (ew_then ?_)
   replace hb4 := cond_some hb4
   rcases hb4 with ⟨hc2, hb4⟩ | ⟨hc2, hb4⟩
   ·
    obtain rfl := hbb2.trans hc2
    refine cw_true rfl ?_
    refine cw_skip (ew_then (cw_seq (cw_block ?_)))
    refine cw_seq (cw_region (lw_op rfl rfl rfl (ow_fieldAddr rfl rfl Tryd.underlying27 rfl (Tryd.sizeOf25 _) ?_)))
    refine lw_op rfl rfl rfl (ow_load (R := (RSlice (RSlice RSpan))) rfl rfl (ARep.mono ((hl2.trans hl3).trans hl4) (hp1.fld fld_Box_Sides)) (Tryd.sizeOf25 _) (Tryd.isAgg25 _) fun v5 hv5 => ?_)
    refine lw_op rfl rfl rfl (ow_move rfl rfl ?_)
    replace hb4 := bind_some hb4
    obtain ⟨x1, hx1, hb4⟩ := hb4
    refine lw_op rfl rfl rfl (ow_indexSlice (R := (RSlice RSpan)) rfl rfl rfl hv5 Tryd.underlying25 (Tryd.sizeOf58 _) hx1 fun p3 hp3 => ?_)
    refine lw_op rfl rfl rfl (ow_load (R := (RSlice RSpan)) rfl rfl hp3 (Tryd.sizeOf58 _) (Tryd.isAgg58 _) fun v6 hv6 => ?_)
    refine lw_op rfl rfl rfl (ow_len rfl rfl hv6 Tryd.underlying58 rfl ?_)
    refine lw_op rfl rfl rfl (ow_gtr rfl rfl rfl fun bb3 hbb3 => ?_)
    refine lw_nil (ew_then ?_)
    replace hb4 := cond_some hb4
    rcases hb4 with ⟨hc3, hb4⟩ | ⟨hc3, hb4⟩
    ·
     obtain rfl := hbb3.trans hc3
     refine cw_true rfl ?_
     refine cw_seq ?_
     replace hb4 := bind_some hb4
     obtain ⟨x2, hx2, hb4⟩ := hb4
     replace hb4 := bind_some hb4
     obtain ⟨x3, hx3, hb4⟩ := hb4
     refine cw_sub (E' := [(0, (.pointer (some ⟨g, 0, none⟩))), (2, (.int .i64 a_n)), (4, (.pointer (some p1))), (6, (.pointer (some ⟨g1, 0, none⟩))), (7, v1), (8, (.int .i64 k1))]) ⟨rfl, rfl, rfl, rfl, rfl, rfl, trivial⟩ ?_
     refine cw_drawC (g := g) (T := 98) 16 1 [none, none, none, none, none, none, none, none, none, none, none, none, some 0, none, none, none] [#[(.slice Ax a_xs.length cx), (.int .i64 k2)], #[(.slice Ax a_xs.length cx), (.int .i64 x2.2)]] [PA (RSlice (RSlice RSpan)) M2 a_b.Sides, PV (RSlice (RSlice RSpan)) M2 a_b.Sides, PEq (.int .i64 k1), PA (RSlice RSpan) M2 x1, PV (RSlice RSpan) M2 x1, PEq (.pointer (some ⟨g, 0, none⟩)), PA (RSlice (RSlice RSpan)) M2 a_b.Sides, PV (RSlice (RSlice RSpan)) M2 a_b.Sides, PEq (.int .i64 k1), PA (RSlice RSpan) M2 x1, PV (RSlice RSpan) M2 x1, PEq (.int .i64 (x1.length : Int)), PEq (.int .i64 x2.1), PA RSpan M2 x3, PV RSpan M2 x3, PNew w4 76 #[(.int .i64 0), (.int .i64 0)]] (by kernel_rfl) rfl (by kernel_rfl) (by kernel_rfl) ho6 ⟨(PA.monoY hm5 _ _), (PV.monoY hm5 _ _), (PEq.monoY hm5 _), (PA.monoY hm5 _ _), (PV.monoY hm5 _ _), (PEq.monoY hm5 _), (PA.monoY hm5 _ _), (PV.monoY hm5 _ _), (PEq.monoY hm5 _), (PA.monoY hm5 _ _), (PV.monoY hm5 _ _), (PEq.monoY hm5 _), (PEq.monoY hm5 _), (PA.monoY hm5 _ _), (PV.monoY hm5 _ _), (PNew.monoY ho6.lt _ _), trivial⟩ ⟨?_, ?_, ?_, ?_, ?_, ?_, ?_, ?_, ?_, ?_, ?_, ?_, ?_, ?_, ?_, ?_, trivial⟩ ?_
     ·
      intro w7 D hS1 hd1
      have hl7 := leY hm5 hS1
      have hC7 := hC4.go hS1 (fun b e => Or.inr e)
      have ho13 := ho7.go hS1 (fun e => hn1 e.symm)
      have hr4 := hw1.go hS1 (fun k hk e => (orow_ne hw1 ho6 (by decide)) (hk.trans (congrArg some e))) hl7 (fun _ h => h)
      refine dg_sub (E' := [(4, (.pointer (some p1)))]) ⟨rfl, trivial⟩ ?_
      refine dg_plain rfl (ow_fieldAddr rfl rfl Tryd.underlying27 rfl (Tryd.sizeOf25 _) ?_)
      exact ⟨BX.refl _ _, ⟨_, rfl, (ARep.mono (((hl2.trans hl3).trans hl4).trans hl7) (hp1.fld fld_Box_Sides))⟩⟩
     ·
      intro w8 D hS2 hd2
      have hl8 := leY hm5 hS2
      have hC8 := hC4.go hS2 (fun b e => Or.inr e)
      have ho14 := ho7.go hS2 (fun e => hn1 e.symm)
      have hr5 := hw1.go hS2 (fun k hk e => (orow_ne hw1 ho6 (by decide)) (hk.trans (congrArg some e))) hl8 (fun _ h => h)
      have hd2 : PA (RSlice (RSlice RSpan)) M2 a_b.Sides (D 0) w8 ∧ True := hd2
      obtain ⟨d1, -⟩ := hd2
      obtain ⟨p7, e1, ha1⟩ := d1
      refine dg_sub (E' := [(29, (.pointer (some p7)))]) ⟨(congrArg some e1), trivial⟩ ?_
      refine dg_plain rfl (ow_load (R := (RSlice (RSlice RSpan))) rfl rfl ha1 (Tryd.sizeOf25 _) (Tryd.isAgg25 _) fun v13 hv13 => ?_)
      exact ⟨BX.refl _ _, hv13⟩
     ·
      intro w9 D hS3 hd3
      have hl9 := leY hm5 hS3
      have hC9 := hC4.go hS3 (fun b e => Or.inr e)
      have ho15 := ho7.go hS3 (fun e => hn1 e.symm)
      have hr6 := hw1.go hS3 (fun k hk e => (orow_ne hw1 ho6 (by decide)) (hk.trans (congrArg some e))) hl9 (fun _ h => h)
      refine dg_sub (E' := [(8, (.int .i64 k1))]) ⟨rfl, trivial⟩ ?_
      refine dg_plain rfl (ow_move rfl rfl ?_)
      exact ⟨BX.refl _ _, rfl⟩
     ·
      intro w10 D hS4 hd4
      have hl10 := leY hm5 hS4
      have hC10 := hC4.go hS4 (fun b e => Or.inr e)
      have ho16 := ho7.go hS4 (fun e => hn1 e.symm)
      have hr7 := hw1.go hS4 (fun k hk e => (orow_ne hw1 ho6 (by decide)) (hk.trans (congrArg some e))) hl10 (fun _ h => h)
      have hd4 : PV (RSlice (RSlice RSpan)) M2 a_b.Sides (D 1) w10 ∧ PEq (.int .i64 k1) (D 2) w10 ∧ True := hd4
      obtain ⟨d2, d3, -⟩ := hd4
      obtain ⟨v14, hq1⟩ : ∃ v, (D 1) = v := ⟨_, rfl⟩
      rw [hq1] at d2
      refine dg_sub (E' := [(30, v14), (31, (.int .i64 k1))]) ⟨(congrArg some hq1), (congrArg some d3), trivial⟩ ?_
      refine dg_plain rfl (ow_indexSlice (R := (RSlice RSpan)) rfl rfl rfl d2 Tryd.underlying25 (Tryd.sizeOf58 _) hx1 fun p8 hp8 => ?_)
      exact ⟨BX.refl _ _, ⟨_, rfl, hp8⟩⟩
     ·
      intro w11 D hS5 hd5
      have hl11 := leY hm5 hS5
      have hC11 := hC4.go hS5 (fun b e => Or.inr e)
      have ho17 := ho7.go hS5 (fun e => hn1 e.symm)
      have hr8 := hw1.go hS5 (fun k hk e => (orow_ne hw1 ho6 (by decide)) (hk.trans (congrArg some e))) hl11 (fun _ h => h)
      have hd5 : PA (RSlice RSpan) M2 x1 (D 3) w11 ∧ True := hd5
      obtain ⟨d4, -⟩ := hd5
      obtain ⟨p9, e2, ha2⟩ := d4
      refine dg_sub (E' := [(32, (.pointer (some p9)))]) ⟨(congrArg some e2), trivial⟩ ?_
      refine dg_plain rfl (ow_load (R := (RSlice RSpan)) rfl rfl ha2 (Tryd.sizeOf58 _) (Tryd.isAgg58 _) fun v15 hv15 => ?_)
      exact ⟨BX.refl _ _, hv15⟩
     ·
      intro w12 D hS6 hd6
      have hl12 := leY hm5 hS6
      have hC12 := hC4.go hS6 (fun b e => Or.inr e)
      have ho18 := ho7.go hS6 (fun e => hn1 e.symm)
      have hr9 := hw1.go hS6 (fun k hk e => (orow_ne hw1 ho6 (by decide)) (hk.trans (congrArg some e))) hl12 (fun _ h => h)
      refine dg_sub (E' := [(0, (.pointer (some ⟨g, 0, none⟩)))]) ⟨rfl, trivial⟩ ?_
      refine dg_plain rfl (ow_move rfl rfl ?_)
      exact ⟨BX.refl _ _, rfl⟩
     ·
      intro w13 D hS7 hd7
      have hl13 := leY hm5 hS7
      have hC13 := hC4.go hS7 (fun b e => Or.inr e)
      have ho19 := ho7.go hS7 (fun e => hn1 e.symm)
      have hr10 := hw1.go hS7 (fun k hk e => (orow_ne hw1 ho6 (by decide)) (hk.trans (congrArg some e))) hl13 (fun _ h => h)
      refine dg_sub (E' := [(4, (.pointer (some p1)))]) ⟨rfl, trivial⟩ ?_
      refine dg_plain rfl (ow_fieldAddr rfl rfl Tryd.underlying27 rfl (Tryd.sizeOf25 _) ?_)
      exact ⟨BX.refl _ _, ⟨_, rfl, (ARep.mono (((hl2.trans hl3).trans hl4).trans hl13) (hp1.fld fld_Box_Sides))⟩⟩
     ·
      intro w14 D hS8 hd8
      have hl14 := leY hm5 hS8
      have hC14 := hC4.go hS8 (fun b e => Or.inr e)
      have ho20 := ho7.go hS8 (fun e => hn1 e.symm)
      have hr11 := hw1.go hS8 (fun k hk e => (orow_ne hw1 ho6 (by decide)) (hk.trans (congrArg some e))) hl14 (fun _ h => h)
      have hd8 : PA (RSlice (RSlice RSpan)) M2 a_b.Sides (D 6) w14 ∧ True := hd8
      obtain ⟨d5, -⟩ := hd8
      obtain ⟨p10, e3, ha3⟩ := d5
      refine dg_sub (E' := [(35, (.pointer (some p10)))]) ⟨(congrArg some e3), trivial⟩ ?_
      refine dg_plain rfl (ow_load (R := (RSlice (RSlice RSpan))) rfl rfl ha3 (Tryd.sizeOf25 _) (Tryd.isAgg25 _) fun v16 hv16 => ?_)
      exact ⟨BX.refl _ _, hv16⟩
     ·
      intro w15 D hS9 hd9
      have hl15 := leY hm5 hS9
      have hC15 := hC4.go hS9 (fun b e => Or.inr e)
      have ho21 := ho7.go hS9 (fun e => hn1 e.symm)
      have hr12 := hw1.go hS9 (fun k hk e => (orow_ne hw1 ho6 (by decide)) (hk.trans (congrArg some e))) hl15 (fun _ h => h)
      refine dg_sub (E' := [(8, (.int .i64 k1))]) ⟨rfl, trivial⟩ ?_
      refine dg_plain rfl (ow_move rfl rfl ?_)
      exact ⟨BX.refl _ _, rfl⟩
     ·
      intro w16 D hS10 hd10
      have hl16 := leY hm5 hS10
      have hC16 := hC4.go hS10 (fun b e => Or.inr e)
      have ho22 := ho7.go hS10 (fun e => hn1 e.symm)
      have hr13 := hw1.go hS10 (fun k hk e => (orow_ne hw1 ho6 (by decide)) (hk.trans (congrArg some e))) hl16 (fun _ h => h)
      have hd10 : PV (RSlice (RSlice RSpan)) M2 a_b.Sides (D 7) w16 ∧ PEq (.int .i64 k1) (D 8) w16 ∧ True := hd10
      obtain ⟨d6, d7, -⟩ := hd10
      obtain ⟨v17, hq2⟩ : ∃ v, (D 7) = v := ⟨_, rfl⟩
      rw [hq2] at d6
      refine dg_sub (E' := [(36, v17), (37, (.int .i64 k1))]) ⟨(congrArg some hq2), (congrArg some d7), trivial⟩ ?_
      refine dg_plain rfl (ow_indexSlice (R := (RSlice RSpan)) rfl rfl rfl d6 Tryd.underlying25 (Tryd.sizeOf58 _) hx1 fun p11 hp11 => ?_)
      exact ⟨BX.refl _ _, ⟨_, rfl, hp11⟩⟩
     ·
      intro w17 D hS11 hd11
      have hl17 := leY hm5 hS11
      have hC17 := hC4.go hS11 (fun b e => Or.inr e)
      have ho23 := ho7.go hS11 (fun e => hn1 e.symm)
      have hr14 := hw1.go hS11 (fun k hk e => (orow_ne hw1 ho6 (by decide)) (hk.trans (congrArg some e))) hl17 (fun _ h => h)
      have hd11 : PA (RSlice RSpan) M2 x1 (D 9) w17 ∧ True := hd11
      obtain ⟨d8, -⟩ := hd11
      obtain ⟨p12, e4, ha4⟩ := d8
      refine dg_sub (E' := [(38, (.pointer (some p12)))]) ⟨(congrArg some e4), trivial⟩ ?_
      refine dg_plain rfl (ow_load (R := (RSlice RSpan)) rfl rfl ha4 (Tryd.sizeOf58 _) (Tryd.isAgg58 _) fun v18 hv18 => ?_)
      exact ⟨BX.refl _ _, hv18⟩
     ·
      intro w18 D hS12 hd12
      have hl18 := leY hm5 hS12
      have hC18 := hC4.go hS12 (fun b e => Or.inr e)
      have ho24 := ho7.go hS12 (fun e => hn1 e.symm)
      have hr15 := hw1.go hS12 (fun k hk e => (orow_ne hw1 ho6 (by decide)) (hk.trans (congrArg some e))) hl18 (fun _ h => h)
      have hd12 : PV (RSlice RSpan) M2 x1 (D 10) w18 ∧ True := hd12
      obtain ⟨d9, -⟩ := hd12
      obtain ⟨v19, hq3⟩ : ∃ v, (D 10) = v := ⟨_, rfl⟩
      rw [hq3] at d9
      refine dg_sub (E' := [(39, v19)]) ⟨(congrArg some hq3), trivial⟩ ?_
      refine dg_plain rfl (ow_len rfl rfl d9 Tryd.underlying58 rfl ?_)
      exact ⟨BX.refl _ _, rfl⟩
     ·
      intro w19 D hS13 hd13
      obtain ⟨hS13, ho25⟩ := hS13
      have ho25 : Own w19 g 98 #[(.slice Ax a_xs.length cx), (.int .i64 k2)] := ho25
      have hl19 := leY hm5 hS13
      have hC19 := hC4.go hS13 (fun b e => Or.inr e)
      have ho26 := ho7.go hS13 (fun e => hn1 e.symm)
      have hr16 := hw1.go hS13 (fun k hk e => (orow_ne hw1 ho6 (by decide)) (hk.trans (congrArg some e))) hl19 (fun _ h => h)
      have hd13 : PEq (.pointer (some ⟨g, 0, none⟩)) (D 5) w19 ∧ PEq (.int .i64 (x1.length : Int)) (D 11) w19 ∧ True := hd13
      obtain ⟨d10, d11, -⟩ := hd13
      refine dg_sub (E' := [(34, (.pointer (some ⟨g, 0, none⟩))), (40, (.int .i64 (x1.length : Int)))]) ⟨(congrArg some d10), (congrArg some d11), trivial⟩ ?_
      refine dg_plain rfl (ow_call rfl rfl Tryd.call87 (w_spec_l20Rd_pick (hG.mono ((((hl1.trans hl2).trans hl3).trans hl4).trans hl19)) hC19.old (VRep.mono ((((hl1.trans hl2).trans hl3).trans hl4).trans hl19) hxs) ho25 hm5 hx2) fun v20 w20 hv20 => ?_)
      obtain ⟨⟨hv20, ho27⟩, hb7⟩ := hv20
      have hl20 := Le.of_bx M2 hb7 (fun b e => (by rw [show b = g from e]; exact hm5))
      have hC20 := hC19.go hb7 (fun b e => Or.inr e)
      have ho28 := ho26.go hb7 (fun e => hn1 e.symm)
      have hr17 := hr16.go hb7 (fun k hk e => (orow_ne hr16 ho25 (by decide)) (hk.trans (congrArg some e))) hl20 (fun _ h => h)
      obtain rfl := vint_eq hv20
      exact ⟨⟨⟨hS13.trans hb7, ho27⟩, hb7⟩, rfl⟩
     ·
      intro w21 D hS14 hd14
      have hl21 := leY hm5 hS14
      have hC21 := hC4.go hS14 (fun b e => Or.inr e)
      have ho29 := ho7.go hS14 (fun e => hn1 e.symm)
      have hr18 := hw1.go hS14 (fun k hk e => (orow_ne hw1 ho6 (by decide)) (hk.trans (congrArg some e))) hl21 (fun _ h => h)
      have hd14 : PV (RSlice RSpan) M2 x1 (D 4) w21 ∧ PEq (.int .i64 x2.1) (D 12) w21 ∧ True := hd14
      obtain ⟨d12, d13, -⟩ := hd14
      obtain ⟨v21, hq4⟩ : ∃ v, (D 4) = v := ⟨_, rfl⟩
      rw [hq4] at d12
      refine dg_sub (E' := [(33, v21), (41, (.int .i64 x2.1))]) ⟨(congrArg some hq4), (congrArg some d13), trivial⟩ ?_
      refine dg_plain rfl (ow_indexSlice (R := RSpan) rfl rfl rfl d12 Tryd.underlying58 (Tryd.sizeOf76 _) hx3 fun p13 hp13 => ?_)
      exact ⟨BX.refl _ _, ⟨_, rfl, hp13⟩⟩
     ·
      intro w22 D hS15 hd15
      have hl22 := leY hm5 hS15
      have hC22 := hC4.go hS15 (fun b e => Or.inr e)
      have ho30 := ho7.go hS15 (fun e => hn1 e.symm)
      have hr19 := hw1.go hS15 (fun k hk e => (orow_ne hw1 ho6 (by decide)) (hk.trans (congrArg some e))) hl22 (fun _ h => h)
      have hd15 : PA RSpan M2 x3 (D 13) w22 ∧ True := hd15
      obtain ⟨d14, -⟩ := hd15
      obtain ⟨p14, e5, ha5⟩ := d14
      refine dg_sub (E' := [(42, (.pointer (some p14)))]) ⟨(congrArg some e5), trivial⟩ ?_
      refine dg_plain rfl (ow_load (R := RSpan) rfl rfl ha5 (Tryd.sizeOf76 _) (Tryd.isAgg76 _) fun v22 hv22 => ?_)
      exact ⟨BX.refl _ _, hv22⟩
     ·
      intro w23 D hS16 hd16
      have hl23 := leY hm5 hS16
      have hC23 := hC4.go hS16 (fun b e => Or.inr e)
      have ho31 := ho7.go hS16 (fun e => hn1 e.symm)
      have hr20 := hw1.go hS16 (fun k hk e => (orow_ne hw1 ho6 (by decide)) (hk.trans (congrArg some e))) hl23 (fun _ h => h)
      refine dg_sub (E' := []) trivial ?_
      refine dg_plain rfl (ow_alloc rfl (Tryd.zeroValue76 _) hC23 fun g3 w24 hg5 hg6 ho32 hb8 hl24 hC24 => ?_)
      have hn4 := Nat.ne_of_lt (Nat.lt_of_lt_of_le ho31.lt hg5)
      have ho33 := ho31.no hb8
      have hm10 : (Add g3 M2) g1 := .inr hm6
      have hr21 := hr20.add hb8 hg5
      have hm11 : (Add g3 M2) g3 := .inl rfl
      exact ⟨hb8, ⟨_, rfl, Nat.le_trans hS16.size hg5, ho32⟩⟩
     ·
      intro w25 D hS17 hd17
      have hd17 : PA (RSlice (RSlice RSpan)) M2 a_b.Sides (D 0) w25 ∧ PV (RSlice (RSlice RSpan)) M2 a_b.Sides (D 1) w25 ∧ PEq (.int .i64 k1) (D 2) w25 ∧ PA (RSlice RSpan) M2 x1 (D 3) w25 ∧ PV (RSlice RSpan) M2 x1 (D 4) w25 ∧ PEq (.pointer (some ⟨g, 0, none⟩)) (D 5) w25 ∧ PA (RSlice (RSlice RSpan)) M2 a_b.Sides (D 6) w25 ∧ PV (RSlice (RSlice RSpan)) M2 a_b.Sides (D 7) w25 ∧ PEq (.int .i64 k1) (D 8) w25 ∧ PA (RSlice RSpan) M2 x1 (D 9) w25 ∧ PV (RSlice RSpan) M2 x1 (D 10) w25 ∧ PEq (.int .i64 (x1.length : Int)) (D 11) w25 ∧ PEq (.int .i64 x2.1) (D 12) w25 ∧ PA RSpan M2 x3 (D 13) w25 ∧ PV RSpan M2 x3 (D 14) w25 ∧ PNew w4 76 #[(.int .i64 0), (.int .i64 0)] (D 15) w25 ∧ True := hd17
      obtain ⟨-, -, -, -, -, -, -, -, -, -, -, -, -, -, d29, d30, -⟩ := hd17
      obtain ⟨g4, hq5, hg7, ho34⟩ := d30
      have hg8 := Nat.le_trans hC4.bx.size hg7
      obtain ⟨hS17, ho35⟩ := hS17
      have ho35 : Own w25 g 98 #[(.slice Ax a_xs.length cx), (.int .i64 x2.2)] := ho35
      have hl25 := (leY hm5 hS17).add hg7
      have hC25 := (hC4.go hS17 (fun b e => Or.inr e)).add ho34.lt hg8
      have hn5 := Nat.ne_of_lt (Nat.lt_of_lt_of_le ho6.lt hg7)
      have hn6 := Nat.ne_of_lt (Nat.lt_of_lt_of_le ho7.lt hg7)
      have hr22 := hw1.go hS17 (fun k hk e => (orow_ne hw1 ho6 (by decide)) (hk.trans (congrArg some e))) hl25 (fun _ h => .inr h)
      have hm12 : (Add g4 M2) g := .inr hm5
      have hm13 : (Add g4 M2) g1 := .inr hm6
      have ho36 := ho7.go hS17 (fun e => hn1 e.symm)
      have hm14 : (Add g4 M2) g4 := .inl rfl
      have d31 : VRep RSpan w25 (Add g4 M2) x3 (D 14) := VRep.leaf span_leaf d29
      obtain ⟨v23, hq6⟩ : ∃ v, (D 14) = v := ⟨_, rfl⟩
      rw [hq6] at d31
      refine lw_sub (E' := [(9, (.pointer (some ⟨g4, 0, none⟩))), (43, v23), (0, (.pointer (some ⟨g, 0, none⟩))), (2, (.int .i64 a_n)), (4, (.pointer (some p1))), (6, (.pointer (some ⟨g1, 0, none⟩))), (7, v1), (8, (.int .i64 k1))]) ⟨(congrArg some hq5), (congrArg some hq6), rfl, rfl, rfl, rfl, rfl, rfl, trivial⟩ ?_
      obtain rfl := open_Span d31
      refine lw_op0 rfl rfl (ow_store (X := (One g)) (us := [(.int .i64 x3.Lo), (.int .i64 x3.Hi)]) (cs' := #[(.int .i64 x3.Lo), (.int .i64 x3.Hi)]) rfl rfl rfl rfl ho34 (Tryd.sizeOf76 _) rfl rfl rfl rfl hm14 (.inl hg8) rfl hC25 fun w26 ho37 hb9 hl26 hC26 => ?_)
      have ho38 := ho35.go hb9 (fun e => hn5 e)
      have ho39 := ho36.go hb9 (fun e => hn6 e)
      have hr23 := hr22.go hb9 (fun k hk e => (orow_ne hr22 ho34 (by decide)) (hk.trans (congrArg some e))) hl26 (fun _ h => h)
      refine lw_nil (ew_then (cw_region (lw_op rfl rfl rfl (ow_move rfl rfl ?_))))
      refine lw_op rfl rfl rfl (ow_move rfl rfl ?_)
      refine lw_op rfl rfl rfl (ow_fieldAddr rfl rfl Tryd.underlying76 rfl (Tryd.sizeOf3 _) ?_)
      refine lw_op rfl rfl rfl (ow_loadOwn1 rfl rfl rfl ho37 (Tryd.isAgg3 _) rfl ?_)
      refine lw_op rfl rfl rfl (ow_fieldAddr rfl rfl Tryd.underlying76 rfl (Tryd.sizeOf3 _) ?_)
      refine lw_op rfl rfl rfl (ow_loadOwn1 rfl rfl rfl ho37 (Tryd.isAgg3 _) rfl ?_)
      refine lw_op rfl rfl rfl (ow_build (v := .agg #[(.int .i64 k1), (.int .i64 x3.Lo), (.int .i64 x3.Hi), (.bool false)]) rfl rfl (by kernel_rfl) ?_)
      have hw2 : VRep RTest w26 (Add g4 M2) ({ Field := k1, Lo := x3.Lo, Hi := x3.Hi, Not := false } : Test) (.agg #[(.int .i64 k1), (.int .i64 x3.Lo), (.int .i64 x3.Hi), (.bool false)]) := shut_Test
      refine lw_op rfl rfl rfl (ow_buildSlice (R := RTest) (xs := [({ Field := k1, Lo := x3.Lo, Hi := x3.Hi, Not := false } : Test)]) (cs := #[(.int .i64 k1), (.int .i64 x3.Lo), (.int .i64 x3.Hi), (.bool false)]) (e := 31) rfl rfl (by kernel_rfl) rfl rfl ⟨_, _, rfl, hw2.cells, rfl⟩ hC26 fun p15 w27 hw3 hb10 hl27 hC27 => ?_)
      have ho40 := ho38.no hb10
      have ho41 := ho39.no hb10
      have ho42 := ho37.no hb10
      have hr24 := hr23.no hb10
      replace hb4 := bind_some hb4
      obtain ⟨z1, hz1, hb4⟩ := hb4
      refine lw_op rfl rfl rfl (ow_append (R := RTest) rfl rfl rfl rfl Tryd.underlying23 hi31 hz31 hs31 hy31 rfl rfl rfl rfl hr24 hw3 hz1 hC27 fun v24 w28 M3 hr25 hb11 hl28 hC28 hM2 hat2 => ?_)
      have ho43 := ho40.go hb11 (fun e => (orow_ne hr24 ho40 (by decide)) e)
      have hm15 := hM2 _ hm12
      have ho44 := ho41.go hb11 (fun e => (orow_ne hr24 ho41 (by decide)) e)
      have hm16 := hM2 _ hm13
      have ho45 := ho42.go hb11 (fun e => (orow_ne hr24 ho42 (by decide)) e)
      have hm17 := hM2 _ hm14
      refine lw_op rfl rfl rfl (ow_assign rfl rfl ?_)
      refine lw_nil (ew_blockN ?_)
      refine ew_then (cw_region (lw_op rfl rfl rfl (ow_move rfl rfl ?_)))
      refine lw_op rfl rfl rfl (ow_add rfl rfl rfl ?_)
      refine lw_op rfl rfl rfl (ow_assign rfl rfl ?_)
      refine lw_nil (ew_nxt (z1, (W (k1 + 1)), x2.2) hb4 fun a ha => ⟨M3, v24, ?_, ((((hl4.trans hl25).trans hl26).trans hl27).trans hl28), hC28, hr25, ho43, hm15, ho44, hm16⟩)
      exact ha.sub ⟨rfl, rfl, rfl, rfl, rfl, rfl, trivial⟩
    ·
     obtain rfl := hbb3.trans hc3
     refine cw_false rfl ?_
     refine cw_skip (ew_blockN ?_)
     refine ew_then (cw_region (lw_op rfl rfl rfl (ow_move rfl rfl ?_)))
     refine lw_op rfl rfl rfl (ow_add rfl rfl rfl ?_)
     refine lw_op rfl rfl rfl (ow_assign rfl rfl ?_)
     refine lw_nil (ew_nxt (y1, (W (k1 + 1)), k2) hb4 fun a ha => ⟨M2, v1, ?_, hl4, hC4, hw1, ho6, hm5, ho7, hm6⟩)
     exact ha.sub ⟨rfl, rfl, rfl, rfl, rfl, rfl, trivial⟩
   ·
    obtain rfl := hbb2.trans hc2
    refine cw_false rfl ?_
    refine cw_exit ?_
    refine ew_thenX ?_
    refine ew_thenX ?_
    refine ew_blockX ?_
    refine ew_brk (y1, k1, k2) hb4 fun a ha => ⟨M2, v1, ?_, hl4, hC4, hw1, ho6, hm5, ho7, hm6⟩
    exact ha.sub ⟨rfl, rfl, rfl, rfl, rfl, rfl, trivial⟩
  ·
   obtain rfl := hbb1.trans hc1
   refine lw_off rfl rfl rfl rfl rfl rfl ?_
   refine lw_off rfl rfl rfl rfl rfl rfl ?_
   refine lw_op rfl rfl rfl (ow_pickF rfl rfl rfl ?_)
   refine lw_nil (ew_then (cw_false rfl ?_))
   refine cw_exit ?_
   refine ew_thenX ?_
   refine ew_thenX ?_
   refine ew_blockX ?_
   refine ew_brk (y1, k1, k2) hb4 fun a ha => ⟨M2, v1, ?_, hl4, hC4, hw1, ho6, hm5, ho7, hm6⟩
   exact ha.sub ⟨rfl, rfl, rfl, rfl, rfl, rfl, trivial⟩
 ·
  rintro ⟨y2, k3, k4⟩ a w29 hlr2 ⟨M4, v25, hF2, hl29, hC29, hw4, ho46, hm18, ho47, hm19⟩
  subst hlr2
  refine ew_at (E := [(0, (.pointer (some ⟨g, 0, none⟩))), (2, (.int .i64 a_n)), (4, (.pointer (some p1))), (6, (.pointer (some ⟨g1, 0, none⟩))), (7, v25), (8, (.int .i64 k3))]) hF2 ?_
  refine ew_then (cw_seq (cw_region (lw_op rfl rfl rfl (ow_move rfl rfl ?_))))
  refine lw_op rfl rfl rfl (ow_move rfl rfl ?_)
  refine lw_op rfl rfl rfl (ow_move rfl rfl ?_)
  have hw5 := hw4.freezeDel
  have hC30 := hw4.cxDel hC29 hX hO
  have hl30 := Le.del w29 M4 v25
  have hm20 : (Del v25 M4) g := ⟨hm18, fun e => (orow_ne hw4 ho46 (by decide)) e⟩
  have hm21 : (Del v25 M4) g1 := ⟨hm19, fun e => (orow_ne hw4 ho47 (by decide)) e⟩
  replace h := bind_some h
  obtain ⟨x4, hx4, h⟩ := h
  refine lw_op rfl rfl rfl (ow_call rfl rfl Tryd.call105 (w_spec_l20Near (hG.mono ((((hl1.trans hl2).trans hl3).trans hl29).trans hl30)) hC30.old (VRep.mono ((((hl1.trans hl2).trans hl3).trans hl29).trans hl30) hxs) ho46 hm20 hw5 hx4) fun v28 w30 hv28 => ?_)
  obtain ⟨⟨hv28, ho48⟩, hb12⟩ := hv28
  have hl31 := Le.of_bx (Del v25 M4) hb12 (fun b e => (by rw [show b = g from e]; exact hm20))
  have hC31 := hC30.go hb12 (fun b e => Or.inr e)
  have ho49 := ho47.go hb12 (fun e => hn1 e.symm)
  obtain rfl := open_Packet hv28
  refine lw_op0 rfl rfl (ow_store (X := (One g)) (us := [(.int .i64 x4.1.From), (.int .i64 x4.1.To), (.int .i64 x4.1.Port), (.int .i64 x4.1.Proto)]) (cs' := #[(.int .i64 x4.1.From), (.int .i64 x4.1.To), (.int .i64 x4.1.Port), (.int .i64 x4.1.Proto)]) rfl rfl rfl rfl ho49 (Tryd.sizeOf45 _) rfl rfl rfl rfl hm21 (.inl hg2) rfl hC31 fun w31 ho50 hb13 hl32 hC32 => ?_)
  have ho51 := ho48.go hb13 (fun e => hn1 e)
  refine lw_nil (ew_then (cw_ret ?_))
  have hw6 : VRep RPacket w31 (Del v25 M4) ({ From := x4.1.From, To := x4.1.To, Port := x4.1.Port, Proto := x4.1.Proto } : Packet) (.agg #[(.int .i64 x4.1.From), (.int .i64 x4.1.To), (.int .i64 x4.1.Port), (.int .i64 x4.1.Proto)]) := shut_Packet
  obtain rfl := Option.some.inj h
  exact ew_ret (res1 rfl (.cell rfl (own_loadVarA ho50 (Tryd.isAgg45 _) (Tryd.sizeOf45 _) rfl))) ⟨_, rfl, ⟨(hw6.mono hC32.back), ho51⟩, hC32.bx⟩

theorem w_spec_DrawRegionHas {w : World} {M : Nat → Prop} (hG : ARep (RArr 4 RShape) w M shapes ⟨0, 0, none⟩) (hO : ∀ b, M b → b < w.heap.size) {v0p : Value} {a_code : List Int} (h0 : VRep (RSlice RU8) w M a_code v0p) {r : (List Box) × Packet} (h : F.spec_DrawRegionHas a_code = some r) :
  Calls Tryd.prog 49 [v0p].toArray w fun e w' => ∃ v, e = .returned v ∧ (∃ u0 u1, v = .tuple #[u0, u1] ∧ VRep (RSlice RBox) w' M r.1 u0 ∧ VRep RPacket w' M r.2 u1) ∧ BX No w w' := by
 have hC : Cx No w M w M := Cx.start hO (fun _ e => e.elim)
 refine walk (N := 27) Tryd.func49 rfl Tryd.ntmps49 rfl ?_
 refine cw_seq (cw_region (lw_op rfl rfl rfl (ow_assign rfl rfl ?_)))
 refine lw_op rfl rfl rfl (ow_alloc rfl (Tryd.zeroValue45 _) hC fun g1 w1 hg1 hg2 ho1 hb1 hl1 hC1 => ?_)
 have hm1 : (Add g1 M) g1 := .inl rfl
 refine lw_nil (ew_then (cw_seq (cw_region (lw_op rfl rfl rfl (ow_move rfl rfl ?_)))))
 replace h := bind_some h
 obtain ⟨x1, hx1, h⟩ := h
 refine lw_op rfl rfl rfl (ow_call rfl rfl Tryd.call54 (w_spec_l20Open (hG.mono hl1) hC1.old (VRep.mono hl1 h0) hx1) fun v1 w2 hv1 => ?_)
 obtain ⟨⟨g2, A1, c1, rfl, hg3, ho2, hw1⟩, hb2⟩ := hv1
 have hl2 := (Le.no (Add g1 M) hb2).add hg3
 have hg4 := Nat.le_trans hC1.bx.size hg3
 have hC2 := (hC1.no hb2).add ho2.lt hg4
 have hn1 := Nat.ne_of_lt (Nat.lt_of_lt_of_le ho1.lt hg3)
 have ho3 := ho1.no hb2
 have hm2 : (Add g2 (Add g1 M)) g1 := .inr hm1
 have hm3 : (Add g2 (Add g1 M)) g2 := .inl rfl
 refine lw_op rfl rfl rfl (ow_assign rfl rfl ?_)
 refine lw_nil (ew_then (cw_seq (cw_region (lw_op rfl rfl rfl (ow_move rfl rfl ?_)))))
 replace h := bind_some h
 obtain ⟨x2, hx2, h⟩ := h
 refine lw_op rfl rfl rfl (ow_call rfl rfl Tryd.call62 (w_spec_l20Region (hG.mono (hl1.trans hl2)) hC2.old hw1 ho2 hm3 hx2) fun v2 w3 hv2 => ?_)
 obtain ⟨⟨hv2, ho4⟩, hb3⟩ := hv2
 have hl3 := Le.of_bx (Add g2 (Add g1 M)) hb3 (fun b e => (by rw [show b = g2 from e]; exact hm3))
 have hC3 := hC2.go hb3 (fun b e => (by rw [show b = g2 from e]; exact (.inl hg4)))
 have ho5 := ho3.go hb3 (fun e => hn1 e)
 refine lw_op rfl rfl rfl (ow_assign rfl rfl ?_)
 refine lw_nil (ew_then (cw_seq (cw_region ?_)))
 replace h := bind_some h
 obtain ⟨x3, hx3, h⟩ := h
 refine lw_op rfl rfl rfl (ow_call rfl rfl Tryd.call59 (w_spec_BoxAll (hG.mono ((hl1.trans hl2).trans hl3)) hC3.old hx3) fun v3 w4 hv3 => ?_)
 obtain ⟨hv3, hb4⟩ := hv3
 have hl4 := Le.no (Add g2 (Add g1 M)) hb4
 have hC4 := hC3.no hb4
 have ho6 := ho5.no hb4
 have ho7 := ho4.no hb4
 refine lw_op rfl rfl rfl (ow_alloc rfl (Tryd.zeroValue27 _) hC4 fun g3 w5 hg5 hg6 ho8 hb5 hl5 hC5 => ?_)
 have hn2 := Nat.ne_of_lt (Nat.lt_of_lt_of_le ho6.lt hg5)
 have ho9 := ho6.no hb5
 have hm4 : (Add g3 (Add g2 (Add g1 M))) g1 := .inr hm2
 have hn3 := Nat.ne_of_lt (Nat.lt_of_lt_of_le ho7.lt hg5)
 have ho10 := ho7.no hb5
 have hm5 : (Add g3 (Add g2 (Add g1 M))) g2 := .inr hm3
 have hm6 : (Add g3 (Add g2 (Add g1 M))) g3 := .inl rfl
 obtain ⟨A2, c2, rfl, hw2⟩ := open_Box hv3
 refine lw_op0 rfl rfl (ow_store (X := No) (us := [(.slice A2 x3.Sides.length c2)]) (cs' := #[(.slice A2 x3.Sides.length c2)]) rfl rfl rfl rfl ho8 (Tryd.sizeOf27 _) rfl rfl rfl rfl hm6 (.inl hg6) rfl hC5 fun w6 ho11 hb6 hl6 hC6 => ?_)
 have ho12 := ho9.go hb6 (fun e => hn2 e)
 have ho13 := ho10.go hb6 (fun e => hn3 e)
 refine lw_nil (ew_then (cw_seq (cw_seq (cw_region (lw_op rfl rfl rfl (ow_move rfl rfl ?_))))))
 refine lw_op rfl rfl rfl (ow_len rfl rfl (VRep.mono ((hl4.trans hl5).trans hl6) hv2) Tryd.underlying34 rfl ?_)
 refine lw_op rfl rfl rfl (ow_gtr rfl rfl rfl fun bb1 hbb1 => ?_)
 refine lw_nil (ew_then ?_)
 replace h := cond_some h
 rcases h with ⟨hc1, h⟩ | ⟨hc1, h⟩
 ·
  obtain rfl := hbb1.trans hc1
  refine cw_true rfl ?_
  refine cw_region (lw_op rfl rfl rfl (ow_move rfl rfl ?_))
  refine lw_op rfl rfl rfl (ow_move rfl rfl ?_)
  refine lw_op rfl rfl rfl (ow_move rfl rfl ?_)
  refine lw_op rfl rfl rfl (ow_len rfl rfl (VRep.mono ((hl4.trans hl5).trans hl6) hv2) Tryd.underlying34 rfl ?_)
  refine lw_op rfl rfl rfl (ow_min rfl rfl rfl ?_)
  replace h := bind_some h
  obtain ⟨x4, hx4, h⟩ := h
  refine lw_op rfl rfl rfl (ow_call rfl rfl Tryd.call87 (w_spec_l20Rd_pick (hG.mono (((((hl1.trans hl2).trans hl3).trans hl4).trans hl5).trans hl6)) hC6.old (VRep.mono (((hl3.trans hl4).trans hl5).trans hl6) hw1) ho13 hm5 hx4) fun v4 w7 hv4 => ?_)
  obtain ⟨⟨hv4, ho14⟩, hb7⟩ := hv4
  have hl7 := Le.of_bx (Add g3 (Add g2 (Add g1 M))) hb7 (fun b e => (by rw [show b = g2 from e]; exact hm5))
  have hC7 := hC6.go hb7 (fun b e => (by rw [show b = g2 from e]; exact (.inl hg4)))
  have ho15 := ho12.go hb7 (fun e => hn1 e)
  have ho16 := ho11.go hb7 (fun e => hn3 e.symm)
  obtain rfl := vint_eq hv4
  replace h := bind_some h
  obtain ⟨x5, hx5, h⟩ := h
  refine lw_op rfl rfl rfl (ow_indexSlice (R := RBox) rfl rfl rfl (VRep.mono (((hl4.trans hl5).trans hl6).trans hl7) hv2) Tryd.underlying34 (Tryd.sizeOf27 _) hx5 fun p1 hp1 => ?_)
  refine lw_op rfl rfl rfl (ow_load (R := RBox) rfl rfl hp1 (Tryd.sizeOf27 _) (Tryd.isAgg27 _) fun v5 hv5 => ?_)
  obtain ⟨A3, c3, rfl, hw3⟩ := open_Box hv5
  refine lw_op0 rfl rfl (ow_store (X := No) (us := [(.slice A3 x5.Sides.length c3)]) (cs' := #[(.slice A3 x5.Sides.length c3)]) rfl rfl rfl rfl ho16 (Tryd.sizeOf27 _) rfl rfl rfl rfl hm6 (.inl hg6) rfl hC7 fun w8 ho17 hb8 hl8 hC8 => ?_)
  have ho18 := ho15.go hb8 (fun e => hn2 e)
  have ho19 := ho14.go hb8 (fun e => hn3 e)
  refine lw_nil (ew_then (cw_seq (cw_region (lw_op rfl rfl rfl (ow_move rfl rfl ?_)))))
  refine lw_op rfl rfl rfl (ow_move rfl rfl ?_)
  refine lw_op rfl rfl rfl (ow_loadOwnA rfl rfl rfl ho17 (Tryd.isAgg27 _) (Tryd.sizeOf27 _) rfl ?_)
  have hw4 : VRep RBox w8 (Add g3 (Add g2 (Add g1 M))) ({ Sides := x5.Sides } : Box) (.agg #[(.slice A3 x5.Sides.length c3)]) := shut_Box (VRep.mono hl8 hw3)
  replace h := bind_some h
  obtain ⟨x6, hx6, h⟩ := h
  refine lw_op rfl rfl rfl (ow_call rfl rfl Tryd.call77 (w_spec_l20Inside (hG.mono (((((((hl1.trans hl2).trans hl3).trans hl4).trans hl5).trans hl6).trans hl7).trans hl8)) hC8.old (VRep.mono (((((hl3.trans hl4).trans hl5).trans hl6).trans hl7).trans hl8) hw1) ho19 hm5 hw4 hx6) fun v6 w9 hv6 => ?_)
  obtain ⟨⟨hv6, ho20⟩, hb9⟩ := hv6
  have hl9 := Le.of_bx (Add g3 (Add g2 (Add g1 M))) hb9 (fun b e => (by rw [show b = g2 from e]; exact hm5))
  have hC9 := hC8.go hb9 (fun b e => (by rw [show b = g2 from e]; exact (.inl hg4)))
  have ho21 := ho18.go hb9 (fun e => hn1 e)
  have ho22 := ho17.go hb9 (fun e => hn3 e.symm)
  refine lw_op rfl rfl rfl (ow_assign rfl rfl ?_)
  obtain rfl := open_Packet hv6
  refine lw_op0 rfl rfl (ow_store (X := No) (us := [(.int .i64 x6.1.From), (.int .i64 x6.1.To), (.int .i64 x6.1.Port), (.int .i64 x6.1.Proto)]) (cs' := #[(.int .i64 x6.1.From), (.int .i64 x6.1.To), (.int .i64 x6.1.Port), (.int .i64 x6.1.Proto)]) rfl rfl rfl rfl ho21 (Tryd.sizeOf45 _) rfl rfl rfl rfl hm4 (.inl hg2) rfl hC9 fun w10 ho23 hb10 hl10 hC10 => ?_)
  have ho24 := ho20.go hb10 (fun e => hn1 e.symm)
  have ho25 := ho22.go hb10 (fun e => hn2 e.symm)
  refine lw_nil (ew_then (cw_ret ?_))
  have hw5 : VRep RPacket w10 (Add g3 (Add g2 (Add g1 M))) ({ From := x6.1.From, To := x6.1.To, Port := x6.1.Port, Proto := x6.1.Proto } : Packet) (.agg #[(.int .i64 x6.1.From), (.int .i64 x6.1.To), (.int .i64 x6.1.Port), (.int .i64 x6.1.Proto)]) := shut_Packet
  obtain rfl := Option.some.inj h
  exact ew_ret (res2 rfl (.tmp rfl) (.cell rfl (own_loadVarA ho23 (Tryd.isAgg45 _) (Tryd.sizeOf45 _) rfl))) ⟨_, rfl, ⟨_, _, rfl, (VRep.mono hC10.back (VRep.mono ((((((hl4.trans hl5).trans hl6).trans hl7).trans hl8).trans hl9).trans hl10) hv2)), (hw5.mono hC10.back)⟩, hC10.bx⟩
 ·
  obtain rfl := hbb1.trans hc1
  refine cw_false rfl ?_
  refine cw_skip (ew_then (cw_seq (cw_region (lw_op rfl rfl rfl (ow_move rfl rfl ?_)))))
  refine lw_op rfl rfl rfl (ow_move rfl rfl ?_)
  refine lw_op rfl rfl rfl (ow_loadOwnA rfl rfl rfl ho11 (Tryd.isAgg27 _) (Tryd.sizeOf27 _) rfl ?_)
  have hw6 : VRep RBox w6 (Add g3 (Add g2 (Add g1 M))) ({ Sides := x3.Sides } : Box) (.agg #[(.slice A2 x3.Sides.length c2)]) := shut_Box (VRep.mono (hl5.trans hl6) hw2)
  replace h := bind_some h
  obtain ⟨x7, hx7, h⟩ := h
  refine lw_op rfl rfl rfl (ow_call rfl rfl Tryd.call77 (w_spec_l20Inside (hG.mono (((((hl1.trans hl2).trans hl3).trans hl4).trans hl5).trans hl6)) hC6.old (VRep.mono (((hl3.trans hl4).trans hl5).trans hl6) hw1) ho13 hm5 hw6 hx7) fun v7 w11 hv7 => ?_)
  obtain ⟨⟨hv7, ho26⟩, hb11⟩ := hv7
  have hl11 := Le.of_bx (Add g3 (Add g2 (Add g1 M))) hb11 (fun b e => (by rw [show b = g2 from e]; exact hm5))
  have hC11 := hC6.go hb11 (fun b e => (by rw [show b = g2 from e]; exact (.inl hg4)))
  have ho27 := ho12.go hb11 (fun e => hn1 e)
  have ho28 := ho11.go hb11 (fun e => hn3 e.symm)
  refine lw_op rfl rfl rfl (ow_assign rfl rfl ?_)
  obtain rfl := open_Packet hv7
  refine lw_op0 rfl rfl (ow_store (X := No) (us := [(.int .i64 x7.1.From), (.int .i64 x7.1.To), (.int .i64 x7.1.Port), (.int .i64 x7.1.Proto)]) (cs' := #[(.int .i64 x7.1.From), (.int .i64 x7.1.To), (.int .i64 x7.1.Port), (.int .i64 x7.1.Proto)]) rfl rfl rfl rfl ho27 (Tryd.sizeOf45 _) rfl rfl rfl rfl hm4 (.inl hg2) rfl hC11 fun w12 ho29 hb12 hl12 hC12 => ?_)
  have ho30 := ho26.go hb12 (fun e => hn1 e.symm)
  have ho31 := ho28.go hb12 (fun e => hn2 e.symm)
  refine lw_nil (ew_then (cw_ret ?_))
  have hw7 : VRep RPacket w12 (Add g3 (Add g2 (Add g1 M))) ({ From := x7.1.From, To := x7.1.To, Port := x7.1.Port, Proto := x7.1.Proto } : Packet) (.agg #[(.int .i64 x7.1.From), (.int .i64 x7.1.To), (.int .i64 x7.1.Port), (.int .i64 x7.1.Proto)]) := shut_Packet
  obtain rfl := Option.some.inj h
  exact ew_ret (res2 rfl (.tmp rfl) (.cell rfl (own_loadVarA ho29 (Tryd.isAgg45 _) (Tryd.sizeOf45 _) rfl))) ⟨_, rfl, ⟨_, _, rfl, (VRep.mono hC12.back (VRep.mono ((((hl4.trans hl5).trans hl6).trans hl11).trans hl12) hv2)), (hw7.mono hC12.back)⟩, hC12.bx⟩

theorem w_impl_topValid {w : World} {M : Nat → Prop} (_hG : ARep (RArr 4 RShape) w M shapes ⟨0, 0, none⟩) (hO : ∀ b, M b → b < w.heap.size) {a_top : Int} {r : Bool} (h : F.impl_topValid a_top = some r) :
  Calls Tryd.prog 101 [(.int .i64 a_top)].toArray w fun e w' => ∃ v, e = .returned v ∧ VRep RBool w' M r v ∧ BX No w w' := by
 have hC : Cx No w M w M := Cx.start hO (fun _ e => e.elim)
 clear _hG
 refine walk (N := 9) Tryd.func101 rfl Tryd.ntmps101 rfl ?_
 refine cw_seq (cw_region (lw_op rfl rfl rfl (ow_assign rfl rfl ?_)))
 refine lw_nil (ew_then (cw_seq (cw_region (lw_op rfl rfl rfl (ow_move rfl rfl ?_)))))
 refine lw_op rfl rfl rfl (ow_geq rfl rfl rfl fun bb1 hbb1 => ?_)
 refine lw_op rfl rfl rfl (ow_move rfl rfl ?_)
 replace h := cond_some h
 rcases h with ⟨hc1, h⟩ | ⟨hc1, h⟩
 ·
  obtain rfl := hbb1.trans hc1
  refine lw_on rfl rfl rfl rfl rfl rfl (ow_move rfl rfl ?_)
  refine lw_on rfl rfl rfl rfl rfl rfl (ow_leq rfl rfl rfl fun bb2 hbb2 => ?_)
  refine lw_op rfl rfl rfl (ow_pickT rfl rfl rfl ?_)
  refine lw_op rfl rfl rfl (ow_assign rfl rfl ?_)
  refine lw_nil (ew_then (cw_ret ?_))
  obtain rfl := Option.some.inj h
  exact ew_ret (res1 rfl (.tmp rfl)) ⟨_, rfl, ((vbool_of hbb2)), hC.bx⟩
 ·
  obtain rfl := hbb1.trans hc1
  refine lw_off rfl rfl rfl rfl rfl rfl ?_
  refine lw_off rfl rfl rfl rfl rfl rfl ?_
  refine lw_op rfl rfl rfl (ow_pickF rfl rfl rfl ?_)
  refine lw_op rfl rfl rfl (ow_assign rfl rfl ?_)
  refine lw_nil (ew_then (cw_ret ?_))
  obtain rfl := Option.some.inj h
  exact ew_ret (res1 rfl (.tmp rfl)) ⟨_, rfl, ((vbool _)), hC.bx⟩

theorem w_impl_SpansValid {w : World} {M : Nat → Prop} (hG : ARep (RArr 4 RShape) w M shapes ⟨0, 0, none⟩) (hO : ∀ b, M b → b < w.heap.size) {v0p : Value} {a_list : List Span} (h0 : VRep (RSlice RSpan) w M a_list v0p) {a_top : Int} {r : Bool} (h : F.impl_SpansValid a_list a_top = some r) :
  Calls Tryd.prog 68 [v0p, (.int .i64 a_top)].toArray w fun e w' => ∃ v, e = .returned v ∧ VRep RBool w' M r v ∧ BX No w w' := by
 have hC : Cx No w M w M := Cx.start hO (fun _ e => e.elim)
 refine walk (N := 43) Tryd.func68 rfl Tryd.ntmps68 rfl ?_
 refine cw_seq (cw_region (lw_op rfl rfl rfl (ow_assign rfl rfl ?_)))
 refine lw_nil (ew_then (cw_seq (cw_seq (cw_region (lw_op rfl rfl rfl (ow_move rfl rfl ?_))))))
 replace h := bind_some h
 obtain ⟨x1, hx1, h⟩ := h
 refine lw_op rfl rfl rfl (ow_call rfl rfl Tryd.call101 (w_impl_topValid hG hC.old hx1) fun v1 w1 hv1 => ?_)
 obtain ⟨hv1, hb1⟩ := hv1
 have hl1 := Le.no M hb1
 have hC1 := hC.no hb1
 obtain rfl := vbool_eq hv1
 refine lw_op rfl rfl rfl (ow_not rfl rfl ?_)
 refine lw_op rfl rfl rfl (ow_move rfl rfl ?_)
 replace h := cond_some h
 rcases h with ⟨hc1, h⟩ | ⟨hc1, h⟩
 ·
  subst hc1
  refine lw_on rfl rfl rfl rfl rfl rfl (ow_move rfl rfl ?_)
  refine lw_on rfl rfl rfl rfl rfl rfl (ow_len rfl rfl (VRep.mono hl1 h0) Tryd.underlying58 rfl ?_)
  refine lw_on rfl rfl rfl rfl rfl rfl (ow_gtr rfl rfl rfl fun bb1 hbb1 => ?_)
  refine lw_op rfl rfl rfl (ow_pickF rfl rfl rfl ?_)
  refine lw_nil (ew_then ?_)
  replace h := cond_some h
  rcases h with ⟨hc2, h⟩ | ⟨hc2, h⟩
  ·
   obtain rfl := hbb1.trans hc2
   refine cw_true rfl ?_
   refine cw_seq (cw_region (lw_op rfl rfl rfl (ow_assign rfl rfl ?_)))
   refine lw_nil (ew_then (cw_ret (ew_thenR ?_)))
   obtain rfl := Option.some.inj h
   exact ew_ret (res1 rfl (.tmp rfl)) ⟨_, rfl, ((vbool _)), hC1.bx⟩
  ·
   obtain rfl := hbb1.trans hc2
   refine cw_false rfl ?_
   refine cw_skip (ew_then (cw_seq (cw_region (lw_op rfl rfl rfl (ow_assign rfl rfl ?_)))))
   refine lw_nil (ew_then (cw_seq (cw_seq (cw_region (lw_op rfl rfl rfl (ow_move rfl rfl ?_))))))
   refine lw_op rfl rfl rfl (ow_len rfl rfl (VRep.mono hl1 h0) Tryd.underlying58 rfl ?_)
   refine lw_op rfl rfl rfl (ow_move rfl rfl ?_)
   refine lw_nil (ew_then ?_)
   replace h := bind_some h
   obtain ⟨lr1, hlr1, h⟩ := h
   refine cw_for hlr1 (fun s a w' => ∃ (M' : Nat → Prop), Fits 43 [(1, (.int .i64 a_top)), (5, (.int .i64 s.1)), (16, v0p), (17, (.int .i64 (a_list.length : Int))), (18, (.int .i64 s.2))] a ∧ Le w1 M w' M' ∧ Cx No w M w' M') ?_ ?_ ?_
   ·
    intro a ha
    exact ⟨M, ha.sub ⟨rfl, rfl, rfl, rfl, rfl, trivial⟩, Le.refl _ _, hC1⟩
   ·
    rintro ⟨k1, k2⟩ a w2 sr1 ⟨M1, hF1, hl2, hC2⟩ hb2 hR1
    refine cw_at (E := [(1, (.int .i64 a_top)), (5, (.int .i64 k1)), (16, v0p), (17, (.int .i64 (a_list.length : Int))), (18, (.int .i64 k2))]) hF1 ?_
    refine cw_seq (cw_region (lw_op rfl rfl rfl (ow_lss rfl rfl rfl fun bb2 hbb2 => ?_)))
    refine lw_nil (ew_then (cw_seq ?_))
    replace hb2 := cond_some hb2
    rcases hb2 with ⟨hc3, hb2⟩ | ⟨hc3, hb2⟩
    ·
     obtain rfl := hbb2.trans hc3
     refine cw_true rfl ?_
     refine cw_skip (ew_then (cw_seq (cw_block ?_)))
     refine cw_seq (cw_region ?_)
     replace hb2 := bind_some hb2
     obtain ⟨x2, hx2, hb2⟩ := hb2
     refine lw_op rfl rfl rfl (ow_indexSlice (R := RSpan) rfl rfl rfl (VRep.mono (hl1.trans hl2) h0) Tryd.underlying58 (Tryd.sizeOf76 _) hx2 fun p1 hp1 => ?_)
     refine lw_op rfl rfl rfl (ow_load (R := RSpan) rfl rfl hp1 (Tryd.sizeOf76 _) (Tryd.isAgg76 _) fun v4 hv4 => ?_)
     refine lw_allocStore (R := RSpan) rfl rfl rfl rfl rfl rfl rfl Tryd.zeroValue76 Tryd.sizeOf76 rfl rfl rfl (by simp) hv4 hC2 fun p2 w3 hp2 hb3 hl3 hC3 => ?_
     refine lw_nil (ew_then (cw_seq (cw_seq (cw_region (lw_op rfl rfl rfl (ow_fieldAddr rfl rfl Tryd.underlying76 rfl (Tryd.sizeOf3 _) ?_))))))
     refine lw_op rfl rfl rfl (ow_load (R := RInt) rfl rfl (hp2.fld fld_Span_Lo) (Tryd.sizeOf3 _) (Tryd.isAgg3 _) fun v5 hv5 => ?_)
     obtain rfl := vint_eq hv5
     refine lw_op rfl rfl rfl (ow_move rfl rfl ?_)
     refine lw_op rfl rfl rfl (ow_add rfl rfl rfl ?_)
     refine lw_op rfl rfl rfl (ow_leq rfl rfl rfl fun bb3 hbb3 => ?_)
     refine lw_op rfl rfl rfl (ow_move rfl rfl ?_)
     replace hb2 := cond_some hb2
     rcases hb2 with ⟨hc4, hb2⟩ | ⟨hc4, hb2⟩
     ·
      obtain rfl := hbb3.trans hc4
      refine lw_off rfl rfl rfl rfl rfl rfl ?_
      refine lw_off rfl rfl rfl rfl rfl rfl ?_
      refine lw_off rfl rfl rfl rfl rfl rfl ?_
      refine lw_off rfl rfl rfl rfl rfl rfl ?_
      refine lw_off rfl rfl rfl rfl rfl rfl ?_
      refine lw_op rfl rfl rfl (ow_pickT rfl rfl rfl ?_)
      refine lw_op rfl rfl rfl (ow_move rfl rfl ?_)
      refine lw_off rfl rfl rfl rfl rfl rfl ?_
      refine lw_off rfl rfl rfl rfl rfl rfl ?_
      refine lw_off rfl rfl rfl rfl rfl rfl ?_
      refine lw_off rfl rfl rfl rfl rfl rfl ?_
      refine lw_op rfl rfl rfl (ow_pickT rfl rfl rfl ?_)
      refine lw_nil (ew_then (cw_true rfl ?_))
      refine cw_seq (cw_region (lw_op rfl rfl rfl (ow_assign rfl rfl ?_)))
      refine lw_nil (ew_then (cw_ret (ew_thenR (ew_blockR ?_))))
      refine ew_thenR (ew_thenR (ew_blockR ?_))
      refine ew_brkR ?_
      refine ew_thenR ?_
      have e1 := hR1 _ (Option.some.inj hb2).symm
      subst e1
      obtain rfl := Option.some.inj h
      exact ew_ret (res1 rfl (.tmp rfl)) ⟨_, rfl, ((vbool _)), hC3.bx⟩
     ·
      obtain rfl := hbb3.trans hc4
      refine lw_on rfl rfl rfl rfl rfl rfl (ow_fieldAddr rfl rfl Tryd.underlying76 rfl (Tryd.sizeOf3 _) ?_)
      refine lw_on rfl rfl rfl rfl rfl rfl (ow_load (R := RInt) rfl rfl (hp2.fld fld_Span_Lo) (Tryd.sizeOf3 _) (Tryd.isAgg3 _) fun v6 hv6 => ?_)
      obtain rfl := vint_eq hv6
      refine lw_on rfl rfl rfl rfl rfl rfl (ow_fieldAddr rfl rfl Tryd.underlying76 rfl (Tryd.sizeOf3 _) ?_)
      refine lw_on rfl rfl rfl rfl rfl rfl (ow_load (R := RInt) rfl rfl (hp2.fld fld_Span_Hi) (Tryd.sizeOf3 _) (Tryd.isAgg3 _) fun v7 hv7 => ?_)
      obtain rfl := vint_eq hv7
      refine lw_on rfl rfl rfl rfl rfl rfl (ow_gtr rfl rfl rfl fun bb4 hbb4 => ?_)
      refine lw_op rfl rfl rfl (ow_pickF rfl rfl rfl ?_)
      refine lw_op rfl rfl rfl (ow_move rfl rfl ?_)
      replace hb2 := cond_some hb2
      rcases hb2 with ⟨hc5, hb2⟩ | ⟨hc5, hb2⟩
      ·
       obtain rfl := hbb4.trans hc5
       refine lw_off rfl rfl rfl rfl rfl rfl ?_
       refine lw_off rfl rfl rfl rfl rfl rfl ?_
       refine lw_off rfl rfl rfl rfl rfl rfl ?_
       refine lw_off rfl rfl rfl rfl rfl rfl ?_
       refine lw_op rfl rfl rfl (ow_pickT rfl rfl rfl ?_)
       refine lw_nil (ew_then (cw_true rfl ?_))
       refine cw_seq (cw_region (lw_op rfl rfl rfl (ow_assign rfl rfl ?_)))
       refine lw_nil (ew_then (cw_ret (ew_thenR (ew_blockR ?_))))
       refine ew_thenR (ew_thenR (ew_blockR ?_))
       refine ew_brkR ?_
       refine ew_thenR ?_
       have e2 := hR1 _ (Option.some.inj hb2).symm
       subst e2
       obtain rfl := Option.some.inj h
       exact ew_ret (res1 rfl (.tmp rfl)) ⟨_, rfl, ((vbool _)), hC3.bx⟩
      ·
       obtain rfl := hbb4.trans hc5
       refine lw_on rfl rfl rfl rfl rfl rfl (ow_fieldAddr rfl rfl Tryd.underlying76 rfl (Tryd.sizeOf3 _) ?_)
       refine lw_on rfl rfl rfl rfl rfl rfl (ow_load (R := RInt) rfl rfl (hp2.fld fld_Span_Hi) (Tryd.sizeOf3 _) (Tryd.isAgg3 _) fun v8 hv8 => ?_)
       obtain rfl := vint_eq hv8
       refine lw_on rfl rfl rfl rfl rfl rfl (ow_move rfl rfl ?_)
       refine lw_on rfl rfl rfl rfl rfl rfl (ow_gtr rfl rfl rfl fun bb5 hbb5 => ?_)
       refine lw_op rfl rfl rfl (ow_pickF rfl rfl rfl ?_)
       refine lw_nil (ew_then ?_)
       replace hb2 := cond_some hb2
       rcases hb2 with ⟨hc6, hb2⟩ | ⟨hc6, hb2⟩
       ·
        obtain rfl := hbb5.trans hc6
        refine cw_true rfl ?_
        refine cw_seq (cw_region (lw_op rfl rfl rfl (ow_assign rfl rfl ?_)))
        refine lw_nil (ew_then (cw_ret (ew_thenR (ew_blockR ?_))))
        refine ew_thenR (ew_thenR (ew_blockR ?_))
        refine ew_brkR ?_
        refine ew_thenR ?_
        have e3 := hR1 _ (Option.some.inj hb2).symm
        subst e3
        obtain rfl := Option.some.inj h
        exact ew_ret (res1 rfl (.tmp rfl)) ⟨_, rfl, ((vbool _)), hC3.bx⟩
       ·
        obtain rfl := hbb5.trans hc6
        refine cw_false rfl ?_
        refine cw_skip (ew_then (cw_region (lw_op rfl rfl rfl (ow_fieldAddr rfl rfl Tryd.underlying76 rfl (Tryd.sizeOf3 _) ?_))))
        refine lw_op rfl rfl rfl (ow_load (R := RInt) rfl rfl (hp2.fld fld_Span_Hi) (Tryd.sizeOf3 _) (Tryd.isAgg3 _) fun v9 hv9 => ?_)
        obtain rfl := vint_eq hv9
        refine lw_op rfl rfl rfl (ow_assign rfl rfl ?_)
        refine lw_nil (ew_blockN ?_)
        refine ew_then (cw_region (lw_op rfl rfl rfl (ow_add rfl rfl rfl ?_)))
        refine lw_op rfl rfl rfl (ow_move rfl rfl ?_)
        refine lw_nil (ew_nxt (x2.Hi, (W (k2 + 1))) hb2 fun a ha => ⟨M1, ?_, (hl2.trans hl3), hC3⟩)
        exact ha.sub ⟨rfl, rfl, rfl, rfl, rfl, trivial⟩
    ·
     obtain rfl := hbb2.trans hc3
     refine cw_false rfl ?_
     refine cw_exit ?_
     refine ew_thenX ?_
     refine ew_thenX ?_
     refine ew_blockX ?_
     refine ew_brk (k1, k2) hb2 fun a ha => ⟨M1, ?_, hl2, hC2⟩
     exact ha.sub ⟨rfl, rfl, rfl, rfl, rfl, trivial⟩
   ·
    rintro ⟨k3, k4⟩ a w4 hlr2 ⟨M2, hF2, hl4, hC4⟩
    subst hlr2
    refine ew_at (E := [(1, (.int .i64 a_top)), (5, (.int .i64 k3)), (16, v0p), (17, (.int .i64 (a_list.length : Int))), (18, (.int .i64 k4))]) hF2 ?_
    refine ew_then (cw_seq (cw_region (lw_op rfl rfl rfl (ow_assign rfl rfl ?_))))
    refine lw_nil (ew_then (cw_ret ?_))
    obtain rfl := Option.some.inj h
    exact ew_ret (res1 rfl (.tmp rfl)) ⟨_, rfl, ((vbool _)), hC4.bx⟩
 ·
  subst hc1
  refine lw_off rfl rfl rfl rfl rfl rfl ?_
  refine lw_off rfl rfl rfl rfl rfl rfl ?_
  refine lw_off rfl rfl rfl rfl rfl rfl ?_
  refine lw_op rfl rfl rfl (ow_pickT rfl rfl rfl ?_)
  refine lw_nil (ew_then (cw_true rfl ?_))
  refine cw_seq (cw_region (lw_op rfl rfl rfl (ow_assign rfl rfl ?_)))
  refine lw_nil (ew_then (cw_ret (ew_thenR ?_)))
  obtain rfl := Option.some.inj h
  exact ew_ret (res1 rfl (.tmp rfl)) ⟨_, rfl, ((vbool _)), hC1.bx⟩

theorem w_impl_FieldTop {w : World} {M : Nat → Prop} (hG : ARep (RArr 4 RShape) w M shapes ⟨0, 0, none⟩) (hO : ∀ b, M b → b < w.heap.size) {a_n : Int} {r : Int} (h : F.impl_FieldTop a_n = some r) :
  Calls Tryd.prog 69 [(.int .i64 a_n)].toArray w fun e w' => ∃ v, e = .returned v ∧ VRep RInt w' M r v ∧ BX No w w' := by
 have hC : Cx No w M w M := Cx.start hO (fun _ e => e.elim)
 refine walk (N := 13) Tryd.func69 rfl Tryd.ntmps69 rfl ?_
 refine cw_seq (cw_region (lw_op rfl rfl rfl (ow_assign rfl rfl ?_)))
 refine lw_nil (ew_then (cw_seq (cw_seq (cw_region (lw_op rfl rfl rfl (ow_move rfl rfl ?_))))))
 refine lw_op rfl rfl rfl (ow_lss rfl rfl rfl fun bb1 hbb1 => ?_)
 refine lw_op rfl rfl rfl (ow_move rfl rfl ?_)
 replace h := cond_some h
 rcases h with ⟨hc1, h⟩ | ⟨hc1, h⟩
 ·
  obtain rfl := hbb1.trans hc1
  refine lw_off rfl rfl rfl rfl rfl rfl ?_
  refine lw_off rfl rfl rfl rfl rfl rfl ?_
  refine lw_op rfl rfl rfl (ow_pickT rfl rfl rfl ?_)
  refine lw_nil (ew_then (cw_true rfl ?_))
  refine cw_seq (cw_region (lw_op rfl rfl rfl (ow_assign rfl rfl ?_)))
  refine lw_nil (ew_then (cw_ret (ew_thenR ?_)))
  obtain rfl := Option.some.inj h
  exact ew_ret (res1 rfl (.tmp rfl)) ⟨_, rfl, ((vint _)), hC.bx⟩
 ·
  obtain rfl := hbb1.trans hc1
  refine lw_on rfl rfl rfl rfl rfl rfl (ow_move rfl rfl ?_)
  refine lw_on rfl rfl rfl rfl rfl rfl (ow_geq rfl rfl rfl fun bb2 hbb2 => ?_)
  refine lw_op rfl rfl rfl (ow_pickF rfl rfl rfl ?_)
  refine lw_nil (ew_then ?_)
  replace h := cond_some h
  rcases h with ⟨hc2, h⟩ | ⟨hc2, h⟩
  ·
   obtain rfl := hbb2.trans hc2
   refine cw_true rfl ?_
   refine cw_seq (cw_region (lw_op rfl rfl rfl (ow_assign rfl rfl ?_)))
   refine lw_nil (ew_then (cw_ret (ew_thenR ?_)))
   obtain rfl := Option.some.inj h
   exact ew_ret (res1 rfl (.tmp rfl)) ⟨_, rfl, ((vint _)), hC.bx⟩
  ·
   obtain rfl := hbb2.trans hc2
   refine cw_false rfl ?_
   refine cw_skip (ew_then (cw_seq (cw_region (lw_op rfl rfl rfl (ow_move rfl rfl ?_)))))
   replace h := bind_some h
   obtain ⟨x1, hx1, h⟩ := h
   refine lw_op rfl rfl rfl (ow_indexArr (R := RShape) rfl rfl rfl hG Tryd.underlying109 (Tryd.sizeOf108 _) hx1 fun p1 hp1 => ?_)
   refine lw_op rfl rfl rfl (ow_fieldAddr rfl rfl Tryd.underlying108 rfl (Tryd.sizeOf3 _) ?_)
   refine lw_op rfl rfl rfl (ow_load (R := RInt) rfl rfl (hp1.fld fld_Shape_top) (Tryd.sizeOf3 _) (Tryd.isAgg3 _) fun v1 hv1 => ?_)
   obtain rfl := vint_eq hv1
   refine lw_op rfl rfl rfl (ow_assign rfl rfl ?_)
   refine lw_nil (ew_then (cw_ret ?_))
   obtain rfl := Option.some.inj h
   exact ew_ret (res1 rfl (.tmp rfl)) ⟨_, rfl, ((vint _)), hC.bx⟩

theorem w_impl_BoxValid {w : World} {M : Nat → Prop} (hG : ARep (RArr 4 RShape) w M shapes ⟨0, 0, none⟩) (hO : ∀ b, M b → b < w.heap.size) {v0p : Value} {a_b : Box} (h0 : VRep RBox w M a_b v0p) {r : Bool} (h : F.impl_BoxValid a_b = some r) :
  Calls Tryd.prog 30 [v0p].toArray w fun e w' => ∃ v, e = .returned v ∧ VRep RBool w' M r v ∧ BX No w w' := by
 have hC : Cx No w M w M := Cx.start hO (fun _ e => e.elim)
 refine walk (N := 23) Tryd.func30 rfl Tryd.ntmps30 rfl ?_
 refine cw_seq (cw_region (lw_op rfl rfl rfl (ow_box (R := RBox) rfl rfl h0 hC fun p1 w1 hp1 hb1 hl1 hC1 => ?_)))
 refine lw_op rfl rfl rfl (ow_assign rfl rfl ?_)
 refine lw_nil (ew_then (cw_seq (cw_seq (cw_region (lw_op rfl rfl rfl (ow_fieldAddr rfl rfl Tryd.underlying27 rfl (Tryd.sizeOf25 _) ?_))))))
 refine lw_op rfl rfl rfl (ow_load (R := (RSlice (RSlice RSpan))) rfl rfl (hp1.fld fld_Box_Sides) (Tryd.sizeOf25 _) (Tryd.isAgg25 _) fun v1 hv1 => ?_)
 refine lw_op rfl rfl rfl (ow_len rfl rfl hv1 Tryd.underlying25 rfl ?_)
 refine lw_op rfl rfl rfl (ow_neqI rfl rfl rfl fun bb1 hbb1 => ?_)
 refine lw_nil (ew_then ?_)
 replace h := cond_some h
 rcases h with ⟨hc1, h⟩ | ⟨hc1, h⟩
 ·
  obtain rfl := hbb1.trans hc1
  refine cw_true rfl ?_
  refine cw_seq (cw_region (lw_op rfl rfl rfl (ow_assign rfl rfl ?_)))
  refine lw_nil (ew_then (cw_ret (ew_thenR ?_)))
  obtain rfl := Option.some.inj h
  exact ew_ret (res1 rfl (.tmp rfl)) ⟨_, rfl, ((vbool _)), hC1.bx⟩
 ·
  obtain rfl := hbb1.trans hc1
  refine cw_false rfl ?_
  refine cw_skip (ew_then (cw_seq (cw_seq (cw_region (lw_op rfl rfl rfl (ow_fieldAddr rfl rfl Tryd.underlying27 rfl (Tryd.sizeOf25 _) ?_))))))
  refine lw_op rfl rfl rfl (ow_load (R := (RSlice (RSlice RSpan))) rfl rfl (hp1.fld fld_Box_Sides) (Tryd.sizeOf25 _) (Tryd.isAgg25 _) fun v2 hv2 => ?_)
  refine lw_op rfl rfl rfl (ow_len rfl rfl hv2 Tryd.underlying25 rfl ?_)
  refine lw_op rfl rfl rfl (ow_move rfl rfl ?_)
  refine lw_nil (ew_then ?_)
  replace h := bind_some h
  obtain ⟨lr1, hlr1, h⟩ := h
  refine cw_for hlr1 (fun s a w' => ∃ (M' : Nat → Prop), Fits 23 [(10, v2), (11, (.int .i64 (a_b.Sides.length : Int))), (12, (.int .i64 s))] a ∧ Le w1 M w' M' ∧ Cx No w M w' M') ?_ ?_ ?_
  ·
   intro a ha
   exact ⟨M, ha.sub ⟨rfl, rfl, rfl, trivial⟩, Le.refl _ _, hC1⟩
  ·
   rintro k1 a w2 sr1 ⟨M1, hF1, hl2, hC2⟩ hb2 hR1
   refine cw_at (E := [(10, v2), (11, (.int .i64 (a_b.Sides.length : Int))), (12, (.int .i64 k1))]) hF1 ?_
   refine cw_seq (cw_region (lw_op rfl rfl rfl (ow_lss rfl rfl rfl fun bb2 hbb2 => ?_)))
   refine lw_nil (ew_then (cw_seq ?_))
   replace hb2 := cond_some hb2
   rcases hb2 with ⟨hc2, hb2⟩ | ⟨hc2, hb2⟩
   ·
    obtain rfl := hbb2.trans hc2
    refine cw_true rfl ?_
    refine cw_skip (ew_then (cw_seq (cw_block ?_)))
    refine cw_seq (cw_region (lw_op rfl rfl rfl (ow_move rfl rfl ?_)))
    replace hb2 := bind_some hb2
    obtain ⟨x1, hx1, hb2⟩ := hb2
    refine lw_op rfl rfl rfl (ow_indexSlice (R := (RSlice RSpan)) rfl rfl rfl (VRep.mono hl2 hv2) Tryd.underlying25 (Tryd.sizeOf58 _) hx1 fun p2 hp2 => ?_)
    refine lw_op rfl rfl rfl (ow_load (R := (RSlice RSpan)) rfl rfl hp2 (Tryd.sizeOf58 _) (Tryd.isAgg58 _) fun v4 hv4 => ?_)
    refine lw_op rfl rfl rfl (ow_assign rfl rfl ?_)
    refine lw_op rfl rfl rfl (ow_assign rfl rfl ?_)
    refine lw_nil (ew_then (cw_seq (cw_region (lw_op rfl rfl rfl (ow_move rfl rfl ?_)))))
    refine lw_op rfl rfl rfl (ow_move rfl rfl ?_)
    replace hb2 := bind_some hb2
    obtain ⟨x2, hx2, hb2⟩ := hb2
    refine lw_op rfl rfl rfl (ow_call rfl rfl Tryd.call69 (w_impl_FieldTop (hG.mono (hl1.trans hl2)) hC2.old hx2) fun v5 w3 hv5 => ?_)
    obtain ⟨hv5, hb3⟩ := hv5
    have hl3 := Le.no M1 hb3
    have hC3 := hC2.no hb3
    obtain rfl := vint_eq hv5
    replace hb2 := bind_some hb2
    obtain ⟨x3, hx3, hb2⟩ := hb2
    refine lw_op rfl rfl rfl (ow_call rfl rfl Tryd.call68 (w_impl_SpansValid (hG.mono ((hl1.trans hl2).trans hl3)) hC3.old (VRep.mono hl3 hv4) hx3) fun v6 w4 hv6 => ?_)
    obtain ⟨hv6, hb4⟩ := hv6
    have hl4 := Le.no M1 hb4
    have hC4 := hC3.no hb4
    obtain rfl := vbool_eq hv6
    refine lw_op rfl rfl rfl (ow_not rfl rfl ?_)
    refine lw_nil (ew_then ?_)
    replace hb2 := cond_some hb2
    rcases hb2 with ⟨hc3, hb2⟩ | ⟨hc3, hb2⟩
    ·
     subst hc3
     refine cw_false rfl ?_
     refine cw_skip (ew_blockN ?_)
     refine ew_then (cw_region (lw_op rfl rfl rfl (ow_add rfl rfl rfl ?_)))
     refine lw_op rfl rfl rfl (ow_move rfl rfl ?_)
     refine lw_nil (ew_nxt (W (k1 + 1)) hb2 fun a ha => ⟨M1, ?_, ((hl2.trans hl3).trans hl4), hC4⟩)
     exact ha.sub ⟨rfl, rfl, rfl, trivial⟩
    ·
     subst hc3
     refine cw_true rfl ?_
     refine cw_seq (cw_region (lw_op rfl rfl rfl (ow_assign rfl rfl ?_)))
     refine lw_nil (ew_then (cw_ret (ew_blockR ?_)))
     refine ew_thenR (ew_thenR (ew_blockR ?_))
     refine ew_brkR ?_
     refine ew_thenR ?_
     have e1 := hR1 _ (Option.some.inj hb2).symm
     subst e1
     obtain rfl := Option.some.inj h
     exact ew_ret (res1 rfl (.tmp rfl)) ⟨_, rfl, ((vbool _)), hC4.bx⟩
   ·
    obtain rfl := hbb2.trans hc2
    refine cw_false rfl ?_
    refine cw_exit ?_
    refine ew_thenX ?_
    refine ew_thenX ?_
    refine ew_blockX ?_
    refine ew_brk k1 hb2 fun a ha => ⟨M1, ?_, hl2, hC2⟩
    exact ha.sub ⟨rfl, rfl, rfl, trivial⟩
  ·
   rintro k2 a w5 hlr2 ⟨M2, hF2, hl5, hC5⟩
   subst hlr2
   refine ew_at (E := [(10, v2), (11, (.int .i64 (a_b.Sides.length : Int))), (12, (.int .i64 k2))]) hF2 ?_
   refine ew_then (cw_seq (cw_region (lw_op rfl rfl rfl (ow_assign rfl rfl ?_))))
   refine lw_nil (ew_then (cw_ret ?_))
   obtain rfl := Option.some.inj h
   exact ew_ret (res1 rfl (.tmp rfl)) ⟨_, rfl, ((vbool _)), hC5.bx⟩

theorem w_impl_RegionValid {w : World} {M : Nat → Prop} (hG : ARep (RArr 4 RShape) w M shapes ⟨0, 0, none⟩) (hO : ∀ b, M b → b < w.heap.size) {v0p : Value} {a_list : List Box} (h0 : VRep (RSlice RBox) w M a_list v0p) {r : Bool} (h : F.impl_RegionValid a_list = some r) :
  Calls Tryd.prog 21 [v0p].toArray w fun e w' => ∃ v, e = .returned v ∧ VRep RBool w' M r v ∧ BX No w w' := by
 have hC : Cx No w M w M := Cx.start hO (fun _ e => e.elim)
 refine walk (N := 18) Tryd.func21 rfl Tryd.ntmps21 rfl ?_
 refine cw_seq (cw_region (lw_op rfl rfl rfl (ow_assign rfl rfl ?_)))
 refine lw_nil (ew_then (cw_seq (cw_seq (cw_region (lw_op rfl rfl rfl (ow_move rfl rfl ?_))))))
 refine lw_op rfl rfl rfl (ow_len rfl rfl h0 Tryd.underlying34 rfl ?_)
 refine lw_op rfl rfl rfl (ow_gtr rfl rfl rfl fun bb1 hbb1 => ?_)
 refine lw_nil (ew_then ?_)
 replace h := cond_some h
 rcases h with ⟨hc1, h⟩ | ⟨hc1, h⟩
 ·
  obtain rfl := hbb1.trans hc1
  refine cw_true rfl ?_
  refine cw_seq (cw_region (lw_op rfl rfl rfl (ow_assign rfl rfl ?_)))
  refine lw_nil (ew_then (cw_ret (ew_thenR ?_)))
  obtain rfl := Option.some.inj h
  exact ew_ret (res1 rfl (.tmp rfl)) ⟨_, rfl, ((vbool _)), hC.bx⟩
 ·
  obtain rfl := hbb1.trans hc1
  refine cw_false rfl ?_
  refine cw_skip (ew_then (cw_seq (cw_seq (cw_region (lw_op rfl rfl rfl (ow_move rfl rfl ?_))))))
  refine lw_op rfl rfl rfl (ow_len rfl rfl h0 Tryd.underlying34 rfl ?_)
  refine lw_op rfl rfl rfl (ow_move rfl rfl ?_)
  refine lw_nil (ew_then ?_)
  replace h := bind_some h
  obtain ⟨lr1, hlr1, h⟩ := h
  refine cw_for hlr1 (fun s a w' => ∃ (M' : Nat → Prop), Fits 18 [(8, v0p), (9, (.int .i64 (a_list.length : Int))), (10, (.int .i64 s))] a ∧ Le w M w' M' ∧ Cx No w M w' M') ?_ ?_ ?_
  ·
   intro a ha
   exact ⟨M, ha.sub ⟨rfl, rfl, rfl, trivial⟩, Le.refl _ _, hC⟩
  ·
   rintro k1 a w1 sr1 ⟨M1, hF1, hl1, hC1⟩ hb1 hR1
   refine cw_at (E := [(8, v0p), (9, (.int .i64 (a_list.length : Int))), (10, (.int .i64 k1))]) hF1 ?_
   refine cw_seq (cw_region (lw_op rfl rfl rfl (ow_lss rfl rfl rfl fun bb2 hbb2 => ?_)))
   refine lw_nil (ew_then (cw_seq ?_))
   replace hb1 := cond_some hb1
   rcases hb1 with ⟨hc2, hb1⟩ | ⟨hc2, hb1⟩
   ·
    obtain rfl := hbb2.trans hc2
    refine cw_true rfl ?_
    refine cw_skip (ew_then (cw_seq (cw_block ?_)))
    refine cw_seq (cw_region ?_)
    replace hb1 := bind_some hb1
    obtain ⟨x1, hx1, hb1⟩ := hb1
    refine lw_op rfl rfl rfl (ow_indexSlice (R := RBox) rfl rfl rfl (VRep.mono hl1 h0) Tryd.underlying34 (Tryd.sizeOf27 _) hx1 fun p1 hp1 => ?_)
    refine lw_op rfl rfl rfl (ow_load (R := RBox) rfl rfl hp1 (Tryd.sizeOf27 _) (Tryd.isAgg27 _) fun v2 hv2 => ?_)
    refine lw_allocStore (R := RBox) rfl rfl rfl rfl rfl rfl rfl Tryd.zeroValue27 Tryd.sizeOf27 rfl rfl rfl (by simp) hv2 hC1 fun p2 w2 hp2 hb2 hl2 hC2 => ?_
    refine lw_nil (ew_then (cw_seq (cw_region (lw_op rfl rfl rfl (ow_load (R := RBox) rfl rfl hp2 (Tryd.sizeOf27 _) (Tryd.isAgg27 _) fun v3 hv3 => ?_)))))
    replace hb1 := bind_some hb1
    obtain ⟨x2, hx2, hb1⟩ := hb1
    refine lw_op rfl rfl rfl (ow_call rfl rfl Tryd.call30 (w_impl_BoxValid (hG.mono (hl1.trans hl2)) hC2.old hv3 hx2) fun v4 w3 hv4 => ?_)
    obtain ⟨hv4, hb3⟩ := hv4
    have hl3 := Le.no M1 hb3
    have hC3 := hC2.no hb3
    obtain rfl := vbool_eq hv4
    refine lw_op rfl rfl rfl (ow_not rfl rfl ?_)
    refine lw_nil (ew_then ?_)
    replace hb1 := cond_some hb1
    rcases hb1 with ⟨hc3, hb1⟩ | ⟨hc3, hb1⟩
    ·
     subst hc3
     refine cw_false rfl ?_
     refine cw_skip (ew_blockN ?_)
     refine ew_then (cw_region (lw_op rfl rfl rfl (ow_add rfl rfl rfl ?_)))
     refine lw_op rfl rfl rfl (ow_move rfl rfl ?_)
     refine lw_nil (ew_nxt (W (k1 + 1)) hb1 fun a ha => ⟨M1, ?_, ((hl1.trans hl2).trans hl3), hC3⟩)
     exact ha.sub ⟨rfl, rfl, rfl, trivial⟩
    ·
     subst hc3
     refine cw_true rfl ?_
     refine cw_seq (cw_region (lw_op rfl rfl rfl (ow_assign rfl rfl ?_)))
     refine lw_nil (ew_then (cw_ret (ew_blockR ?_)))
     refine ew_thenR (ew_thenR (ew_blockR ?_))
     refine ew_brkR ?_
     refine ew_thenR ?_
     have e1 := hR1 _ (Option.some.inj hb1).symm
     subst e1
     obtain rfl := Option.some.inj h
     exact ew_ret (res1 rfl (.tmp rfl)) ⟨_, rfl, ((vbool _)), hC3.bx⟩
   ·
    obtain rfl := hbb2.trans hc2
    refine cw_false rfl ?_
    refine cw_exit ?_
    refine ew_thenX ?_
    refine ew_thenX ?_
    refine ew_blockX ?_
    refine ew_brk k1 hb1 fun a ha => ⟨M1, ?_, hl1, hC1⟩
    exact ha.sub ⟨rfl, rfl, rfl, trivial⟩
  ·
   rintro k2 a w4 hlr2 ⟨M2, hF2, hl4, hC4⟩
   subst hlr2
   refine ew_at (E := [(8, v0p), (9, (.int .i64 (a_list.length : Int))), (10, (.int .i64 k2))]) hF2 ?_
   refine ew_then (cw_seq (cw_region (lw_op rfl rfl rfl (ow_assign rfl rfl ?_))))
   refine lw_nil (ew_then (cw_ret ?_))
   obtain rfl := Option.some.inj h
   exact ew_ret (res1 rfl (.tmp rfl)) ⟨_, rfl, ((vbool _)), hC4.bx⟩

theorem w_impl_sidesOf {w : World} {M : Nat → Prop} (_hG : ARep (RArr 4 RShape) w M shapes ⟨0, 0, none⟩) (hO : ∀ b, M b → b < w.heap.size) {v0p : Value} {a_b : Box} (h0 : VRep RBox w M a_b v0p) {r : (List (List Span))} (h : F.impl_sidesOf a_b = some r) :
  Calls Tryd.prog 65 [v0p].toArray w fun e w' => ∃ v, e = .returned v ∧ VRep (RArr 4 (RSlice RSpan)) w' M r v ∧ BX No w w' := by
 have hC : Cx No w M w M := Cx.start hO (fun _ e => e.elim)
 clear _hG
 refine walk (N := 7) Tryd.func65 rfl Tryd.ntmps65 rfl ?_
 refine cw_seq (cw_region (lw_op rfl rfl rfl (ow_box (R := RBox) rfl rfl h0 hC fun p1 w1 hp1 hb1 hl1 hC1 => ?_)))
 refine lw_op rfl rfl rfl (ow_alloc rfl (Tryd.zeroValue69 _) hC1 fun g1 w2 hg1 hg2 ho1 hb2 hl2 hC2 => ?_)
 have hm1 : (Add g1 M) g1 := .inl rfl
 have ho2 : OwnA (RArr 4 (RSlice RSpan)) w2 (Add g1 M) g1 69 [([] : List Span), ([] : List Span), ([] : List Span), ([] : List Span)] := OwnA.of ho1 ⟨rfl, ⟨_, _, rfl, (vslice_nil (R := RSpan) (w := w2) (M := (Add g1 M))).cells, _, _, rfl, (vslice_nil (R := RSpan) (w := w2) (M := (Add g1 M))).cells, _, _, rfl, (vslice_nil (R := RSpan) (w := w2) (M := (Add g1 M))).cells, _, _, rfl, (vslice_nil (R := RSpan) (w := w2) (M := (Add g1 M))).cells, rfl⟩⟩
 refine lw_nil (ew_then (cw_seq (cw_region (lw_op rfl rfl rfl (ow_fieldAddr rfl rfl Tryd.underlying27 rfl (Tryd.sizeOf25 _) ?_)))))
 refine lw_op rfl rfl rfl (ow_load (R := (RSlice (RSlice RSpan))) rfl rfl (ARep.mono hl2 (hp1.fld fld_Box_Sides)) (Tryd.sizeOf25 _) (Tryd.isAgg25 _) fun v1 hv1 => ?_)
 replace h := bind_some h
 obtain ⟨y1, hy1, h⟩ := h
 refine lw_op rfl rfl rfl (ow_s2ap rfl rfl hv1 Tryd.underlying69 (arrF_some hy1).2 (by decide) fun p2 hp2 => ?_)
 rw [← (arrF_some hy1).1] at hp2
 refine lw_op rfl rfl rfl (ow_load (R := (RArr 4 (RSlice RSpan))) rfl rfl hp2 (Tryd.sizeOf69 _) (Tryd.isAgg69 _) fun v2 hv2 => ?_)
 obtain ⟨cs1, h1, h2⟩ := ho2.own
 refine lw_op0 rfl rfl (ow_storeA (X := No) (R := (RArr 4 (RSlice RSpan))) rfl rfl rfl rfl h1 h2 (Tryd.sizeOf69 _) hv2 hm1 (.inl hg2) hC2 fun w3 ho3 hb3 hl3 hC3 => ?_)
 refine lw_nil (ew_then (cw_ret ?_))
 obtain rfl := Option.some.inj h
 obtain ⟨v3, hq1, hw1⟩ := resA ho3 (Tryd.sizeOf69 _) (Tryd.isAgg69 _) rfl
 exact ew_ret (res1 rfl (.cell rfl hq1)) ⟨_, rfl, (hw1.mono hC3.back), hC3.bx⟩

theorem w_impl_Packet_fields {w : World} {M : Nat → Prop} (_hG : ARep (RArr 4 RShape) w M shapes ⟨0, 0, none⟩) (hO : ∀ b, M b → b < w.heap.size) {v0p : Value} {a_p : Packet} (h0 : VRep RPacket w M a_p v0p) {r : (List Int)} (h : F.impl_Packet_fields a_p = some r) :
  Calls Tryd.prog 83 [v0p].toArray w fun e w' => ∃ v, e = .returned v ∧ VRep (RArr 4 RInt) w' M r v ∧ BX No w w' := by
 have hC : Cx No w M w M := Cx.start hO (fun _ e => e.elim)
 clear _hG
 refine walk (N := 12) Tryd.func83 rfl Tryd.ntmps83 rfl ?_
 refine cw_seq (cw_region (lw_op rfl rfl rfl (ow_box (R := RPacket) rfl rfl h0 hC fun p1 w1 hp1 hb1 hl1 hC1 => ?_)))
 refine lw_op rfl rfl rfl (ow_alloc rfl (Tryd.zeroValue91 _) hC1 fun g1 w2 hg1 hg2 ho1 hb2 hl2 hC2 => ?_)
 have hm1 : (Add g1 M) g1 := .inl rfl
 have ho2 : OwnA (RArr 4 RInt) w2 (Add g1 M) g1 91 [0, 0, 0, 0] := OwnA.of ho1 ⟨rfl, ⟨_, _, rfl, (vint _).cells, _, _, rfl, (vint _).cells, _, _, rfl, (vint _).cells, _, _, rfl, (vint _).cells, rfl⟩⟩
 refine lw_nil (ew_then (cw_seq (cw_region (lw_op rfl rfl rfl (ow_fieldAddr rfl rfl Tryd.underlying45 rfl (Tryd.sizeOf3 _) ?_)))))
 refine lw_op rfl rfl rfl (ow_load (R := RInt) rfl rfl (ARep.mono hl2 (hp1.fld fld_Packet_From)) (Tryd.sizeOf3 _) (Tryd.isAgg3 _) fun v1 hv1 => ?_)
 obtain rfl := vint_eq hv1
 refine lw_op rfl rfl rfl (ow_fieldAddr rfl rfl Tryd.underlying45 rfl (Tryd.sizeOf3 _) ?_)
 refine lw_op rfl rfl rfl (ow_load (R := RInt) rfl rfl (ARep.mono hl2 (hp1.fld fld_Packet_To)) (Tryd.sizeOf3 _) (Tryd.isAgg3 _) fun v2 hv2 => ?_)
 obtain rfl := vint_eq hv2
 refine lw_op rfl rfl rfl (ow_fieldAddr rfl rfl Tryd.underlying45 rfl (Tryd.sizeOf3 _) ?_)
 refine lw_op rfl rfl rfl (ow_load (R := RInt) rfl rfl (ARep.mono hl2 (hp1.fld fld_Packet_Port)) (Tryd.sizeOf3 _) (Tryd.isAgg3 _) fun v3 hv3 => ?_)
 obtain rfl := vint_eq hv3
 refine lw_op rfl rfl rfl (ow_fieldAddr rfl rfl Tryd.underlying45 rfl (Tryd.sizeOf3 _) ?_)
 refine lw_op rfl rfl rfl (ow_load (R := RInt) rfl rfl (ARep.mono hl2 (hp1.fld fld_Packet_Proto)) (Tryd.sizeOf3 _) (Tryd.isAgg3 _) fun v4 hv4 => ?_)
 obtain rfl := vint_eq hv4
 refine lw_op rfl rfl rfl (ow_build (v := .agg #[(.int .i64 a_p.From), (.int .i64 a_p.To), (.int .i64 a_p.Port), (.int .i64 a_p.Proto)]) rfl rfl (by kernel_rfl) ?_)
 have hw1 : VRep (RArr 4 RInt) w2 (Add g1 M) [a_p.From, a_p.To, a_p.Port, a_p.Proto] (.agg #[(.int .i64 a_p.From), (.int .i64 a_p.To), (.int .i64 a_p.Port), (.int .i64 a_p.Proto)]) := ⟨_, ⟨rfl, ⟨_, _, rfl, (vint _).cells, _, _, rfl, (vint _).cells, _, _, rfl, (vint _).cells, _, _, rfl, (vint _).cells, rfl⟩⟩, rfl⟩
 obtain ⟨cs1, h1, h2⟩ := ho2.own
 refine lw_op0 rfl rfl (ow_storeA (X := No) (R := (RArr 4 RInt)) rfl rfl rfl rfl h1 h2 (Tryd.sizeOf91 _) hw1 hm1 (.inl hg2) hC2 fun w3 ho3 hb3 hl3 hC3 => ?_)
 refine lw_nil (ew_then (cw_ret ?_))
 obtain rfl := Option.some.inj h
 obtain ⟨v5, hq1, hw2⟩ := resA ho3 (Tryd.sizeOf91 _) (Tryd.isAgg91 _) rfl
 exact ew_ret (res1 rfl (.cell rfl hq1)) ⟨_, rfl, (hw2.mono hC3.back), hC3.bx⟩

theorem w_impl_PacketValid {w : World} {M : Nat → Prop} (hG : ARep (RArr 4 RShape) w M shapes ⟨0, 0, none⟩) (hO : ∀ b, M b → b < w.heap.size) {v0p : Value} {a_p : Packet} (h0 : VRep RPacket w M a_p v0p) {r : Bool} (h : F.impl_PacketValid a_p = some r) :
  Calls Tryd.prog 70 [v0p].toArray w fun e w' => ∃ v, e = .returned v ∧ VRep RBool w' M r v ∧ BX No w w' := by
 have hC : Cx No w M w M := Cx.start hO (fun _ e => e.elim)
 refine walk (N := 20) Tryd.func70 rfl Tryd.ntmps70 rfl ?_
 refine cw_seq (cw_region (lw_op rfl rfl rfl (ow_box (R := RPacket) rfl rfl h0 hC fun p1 w1 hp1 hb1 hl1 hC1 => ?_)))
 refine lw_op rfl rfl rfl (ow_assign rfl rfl ?_)
 refine lw_nil (ew_then (cw_seq (cw_seq (cw_region (lw_op rfl rfl rfl (ow_load (R := RPacket) rfl rfl hp1 (Tryd.sizeOf45 _) (Tryd.isAgg45 _) fun v1 hv1 => ?_))))))
 replace h := bind_some h
 obtain ⟨x1, hx1, h⟩ := h
 refine lw_op rfl rfl rfl (ow_call rfl rfl Tryd.call83 (w_impl_Packet_fields (hG.mono hl1) hC1.old hv1 hx1) fun v2 w2 hv2 => ?_)
 obtain ⟨hv2, hb2⟩ := hv2
 have hl2 := Le.no M hb2
 have hC2 := hC1.no hb2
 refine lw_op rfl rfl rfl (ow_move rfl rfl ?_)
 refine lw_nil (ew_then ?_)
 replace h := bind_some h
 obtain ⟨lr1, hlr1, h⟩ := h
 refine cw_for hlr1 (fun s a w' => ∃ (M' : Nat → Prop), Fits 20 [(6, v2), (7, (.int .i64 s))] a ∧ Le w2 M w' M' ∧ Cx No w M w' M') ?_ ?_ ?_
 ·
  intro a ha
  exact ⟨M, ha.sub ⟨rfl, rfl, trivial⟩, Le.refl _ _, hC2⟩
 ·
  rintro k1 a w3 sr1 ⟨M1, hF1, hl3, hC3⟩ hb3 hR1
  refine cw_at (E := [(6, v2), (7, (.int .i64 k1))]) hF1 ?_
  refine cw_seq (cw_region (lw_op rfl rfl rfl (ow_lss rfl rfl rfl fun bb1 hbb1 => ?_)))
  refine lw_nil (ew_then (cw_seq ?_))
  replace hb3 := cond_some hb3
  rcases hb3 with ⟨hc1, hb3⟩ | ⟨hc1, hb3⟩
  ·
   obtain rfl := hbb1.trans hc1
   refine cw_true rfl ?_
   refine cw_skip (ew_then (cw_seq (cw_block ?_)))
   refine cw_seq (cw_region (lw_op rfl rfl rfl (ow_move rfl rfl ?_)))
   replace hb3 := bind_some hb3
   obtain ⟨x2, hx2, hb3⟩ := hb3
   refine lw_op rfl rfl rfl (ow_index (R := RInt) rfl rfl rfl (VRep.mono hl3 hv2) Tryd.underlying91 (Tryd.sizeOf3 _) (Tryd.isAgg3 _) hx2 fun v4 hv4 => ?_)
   obtain rfl := vint_eq hv4
   refine lw_op rfl rfl rfl (ow_assign rfl rfl ?_)
   refine lw_op rfl rfl rfl (ow_assign rfl rfl ?_)
   refine lw_nil (ew_then (cw_seq (cw_region (lw_op rfl rfl rfl (ow_move rfl rfl ?_)))))
   refine lw_op rfl rfl rfl (ow_lss rfl rfl rfl fun bb2 hbb2 => ?_)
   refine lw_op rfl rfl rfl (ow_move rfl rfl ?_)
   replace hb3 := cond_some hb3
   rcases hb3 with ⟨hc2, hb3⟩ | ⟨hc2, hb3⟩
   ·
    obtain rfl := hbb2.trans hc2
    refine lw_off rfl rfl rfl rfl rfl rfl ?_
    refine lw_off rfl rfl rfl rfl rfl rfl ?_
    refine lw_off rfl rfl rfl rfl rfl rfl ?_
    refine lw_off rfl rfl rfl rfl rfl rfl ?_
    refine lw_op rfl rfl rfl (ow_pickT rfl rfl rfl ?_)
    refine lw_nil (ew_then (cw_true rfl ?_))
    refine cw_seq (cw_region (lw_op rfl rfl rfl (ow_assign rfl rfl ?_)))
    refine lw_nil (ew_then (cw_ret (ew_blockR ?_)))
    refine ew_thenR (ew_thenR (ew_blockR ?_))
    refine ew_brkR ?_
    refine ew_thenR ?_
    have e1 := hR1 _ (Option.some.inj hb3).symm
    subst e1
    obtain rfl := Option.some.inj h
    exact ew_ret (res1 rfl (.tmp rfl)) ⟨_, rfl, ((vbool _)), hC3.bx⟩
   ·
    obtain rfl := hbb2.trans hc2
    refine lw_on rfl rfl rfl rfl rfl rfl (ow_move rfl rfl ?_)
    refine lw_on rfl rfl rfl rfl rfl rfl (ow_move rfl rfl ?_)
    replace hb3 := bind_some hb3
    obtain ⟨x3, hx3, hb3⟩ := hb3
    refine lw_on rfl rfl rfl rfl rfl rfl (ow_call rfl rfl Tryd.call69 (w_impl_FieldTop (hG.mono ((hl1.trans hl2).trans hl3)) hC3.old hx3) fun v5 w4 hv5 => ?_)
    obtain ⟨hv5, hb4⟩ := hv5
    have hl4 := Le.no M1 hb4
    have hC4 := hC3.no hb4
    obtain rfl := vint_eq hv5
    refine lw_on rfl rfl rfl rfl rfl rfl (ow_gtr rfl rfl rfl fun bb3 hbb3 => ?_)
    refine lw_op rfl rfl rfl (ow_pickF rfl rfl rfl ?_)
    refine lw_nil (ew_then ?_)
    replace hb3 := cond_some hb3
    rcases hb3 with ⟨hc3, hb3⟩ | ⟨hc3, hb3⟩
    ·
     obtain rfl := hbb3.trans hc3
     refine cw_true rfl ?_
     refine cw_seq (cw_region (lw_op rfl rfl rfl (ow_assign rfl rfl ?_)))
     refine lw_nil (ew_then (cw_ret (ew_blockR ?_)))
     refine ew_thenR (ew_thenR (ew_blockR ?_))
     refine ew_brkR ?_
     refine ew_thenR ?_
     have e2 := hR1 _ (Option.some.inj hb3).symm
     subst e2
     obtain rfl := Option.some.inj h
     exact ew_ret (res1 rfl (.tmp rfl)) ⟨_, rfl, ((vbool _)), hC4.bx⟩
    ·
     obtain rfl := hbb3.trans hc3
     refine cw_false rfl ?_
     refine cw_skip (ew_blockN ?_)
     refine ew_then (cw_region (lw_op rfl rfl rfl (ow_add rfl rfl rfl ?_)))
     refine lw_op rfl rfl rfl (ow_move rfl rfl ?_)
     refine lw_nil (ew_nxt (W (k1 + 1)) hb3 fun a ha => ⟨M1, ?_, (hl3.trans hl4), hC4⟩)
     exact ha.sub ⟨rfl, rfl, trivial⟩
  ·
   obtain rfl := hbb1.trans hc1
   refine cw_false rfl ?_
   refine cw_exit ?_
   refine ew_thenX ?_
   refine ew_thenX ?_
   refine ew_blockX ?_
   refine ew_brk k1 hb3 fun a ha => ⟨M1, ?_, hl3, hC3⟩
   exact ha.sub ⟨rfl, rfl, trivial⟩
 ·
  rintro k2 a w5 hlr2 ⟨M2, hF2, hl5, hC5⟩
  subst hlr2
  refine ew_at (E := [(6, v2), (7, (.int .i64 k2))]) hF2 ?_
  refine ew_then (cw_seq (cw_region (lw_op rfl rfl rfl (ow_assign rfl rfl ?_))))
  refine lw_nil (ew_then (cw_ret ?_))
  obtain rfl := Option.some.inj h
  exact ew_ret (res1 rfl (.tmp rfl)) ⟨_, rfl, ((vbool _)), hC5.bx⟩

theorem w_impl_sides_has {w : World} {M : Nat → Prop} (hG : ARep (RArr 4 RShape) w M shapes ⟨0, 0, none⟩) (hO : ∀ b, M b → b < w.heap.size) {v0p : Value} {a_s : List (List Span)} (h0 : VRep (RArr 4 (RSlice RSpan)) w M a_s v0p) {v1p : Value} {a_p : Packet} (h1 : VRep RPacket w M a_p v1p) {r : Bool} (h : F.impl_sides_has a_s a_p = some r) :
  Calls Tryd.prog 71 [v0p, v1p].toArray w fun e w' => ∃ v, e = .returned v ∧ VRep RBool w' M r v ∧ BX No w w' := by
 have hC : Cx No w M w M := Cx.start hO (fun _ e => e.elim)
 refine walk (N := 20) Tryd.func71 rfl Tryd.ntmps71 rfl ?_
 refine cw_seq (cw_region (lw_op rfl rfl rfl (ow_box (R := (RArr 4 (RSlice RSpan))) rfl rfl h0 hC fun p1 w1 hp1 hb1 hl1 hC1 => ?_)))
 refine lw_op rfl rfl rfl (ow_box (R := RPacket) rfl rfl (VRep.mono hl1 h1) hC1 fun p2 w2 hp2 hb2 hl2 hC2 => ?_)
 refine lw_op rfl rfl rfl (ow_assign rfl rfl ?_)
 refine lw_nil (ew_then (cw_seq (cw_seq (cw_region (lw_op rfl rfl rfl (ow_load (R := RPacket) rfl rfl hp2 (Tryd.sizeOf45 _) (Tryd.isAgg45 _) fun v1 hv1 => ?_))))))
 replace h := bind_some h
 obtain ⟨x1, hx1, h⟩ := h
 refine lw_op rfl rfl rfl (ow_call rfl rfl Tryd.call83 (w_impl_Packet_fields (hG.mono (hl1.trans hl2)) hC2.old hv1 hx1) fun v2 w3 hv2 => ?_)
 obtain ⟨hv2, hb3⟩ := hv2
 have hl3 := Le.no M hb3
 have hC3 := hC2.no hb3
 refine lw_op rfl rfl rfl (ow_move rfl rfl ?_)
 refine lw_nil (ew_then ?_)
 replace h := bind_some h
 obtain ⟨lr1, hlr1, h⟩ := h
 refine cw_for hlr1 (fun s a w' => ∃ (M' : Nat → Prop), Fits 20 [(2, (.pointer (some p1))), (8, v2), (9, (.int .i64 s))] a ∧ Le w3 M w' M' ∧ Cx No w M w' M') ?_ ?_ ?_
 ·
  intro a ha
  exact ⟨M, ha.sub ⟨rfl, rfl, rfl, trivial⟩, Le.refl _ _, hC3⟩
 ·
  rintro k1 a w4 sr1 ⟨M1, hF1, hl4, hC4⟩ hb4 hR1
  refine cw_at (E := [(2, (.pointer (some p1))), (8, v2), (9, (.int .i64 k1))]) hF1 ?_
  refine cw_seq (cw_region (lw_op rfl rfl rfl (ow_lss rfl rfl rfl fun bb1 hbb1 => ?_)))
  refine lw_nil (ew_then (cw_seq ?_))
  replace hb4 := cond_some hb4
  rcases hb4 with ⟨hc1, hb4⟩ | ⟨hc1, hb4⟩
  ·
   obtain rfl := hbb1.trans hc1
   refine cw_true rfl ?_
   refine cw_skip (ew_then (cw_seq (cw_block ?_)))
   refine cw_seq (cw_region (lw_op rfl rfl rfl (ow_move rfl rfl ?_)))
   replace hb4 := bind_some hb4
   obtain ⟨x2, hx2, hb4⟩ := hb4
   refine lw_op rfl rfl rfl (ow_index (R := RInt) rfl rfl rfl (VRep.mono hl4 hv2) Tryd.underlying91 (Tryd.sizeOf3 _) (Tryd.isAgg3 _) hx2 fun v4 hv4 => ?_)
   obtain rfl := vint_eq hv4
   refine lw_op rfl rfl rfl (ow_assign rfl rfl ?_)
   refine lw_op rfl rfl rfl (ow_assign rfl rfl ?_)
   refine lw_nil (ew_then (cw_seq (cw_region (lw_op rfl rfl rfl (ow_move rfl rfl ?_)))))
   replace hb4 := bind_some hb4
   obtain ⟨x3, hx3, hb4⟩ := hb4
   refine lw_op rfl rfl rfl (ow_indexArr (R := (RSlice RSpan)) rfl rfl rfl (ARep.mono ((hl2.trans hl3).trans hl4) hp1) Tryd.underlying69 (Tryd.sizeOf58 _) hx3 fun p3 hp3 => ?_)
   refine lw_op rfl rfl rfl (ow_load (R := (RSlice RSpan)) rfl rfl hp3 (Tryd.sizeOf58 _) (Tryd.isAgg58 _) fun v5 hv5 => ?_)
   refine lw_op rfl rfl rfl (ow_move rfl rfl ?_)
   replace hb4 := bind_some hb4
   obtain ⟨x4, hx4, hb4⟩ := hb4
   refine lw_op rfl rfl rfl (ow_call rfl rfl Tryd.call40 (w_impl_SpansHave (hG.mono (((hl1.trans hl2).trans hl3).trans hl4)) hC4.old hv5 hx4) fun v6 w5 hv6 => ?_)
   obtain ⟨hv6, hb5⟩ := hv6
   have hl5 := Le.no M1 hb5
   have hC5 := hC4.no hb5
   obtain rfl := vbool_eq hv6
   refine lw_op rfl rfl rfl (ow_not rfl rfl ?_)
   refine lw_nil (ew_then ?_)
   replace hb4 := cond_some hb4
   rcases hb4 with ⟨hc2, hb4⟩ | ⟨hc2, hb4⟩
   ·
    subst hc2
    refine cw_false rfl ?_
    refine cw_skip (ew_blockN ?_)
    refine ew_then (cw_region (lw_op rfl rfl rfl (ow_add rfl rfl rfl ?_)))
    refine lw_op rfl rfl rfl (ow_move rfl rfl ?_)
    refine lw_nil (ew_nxt (W (k1 + 1)) hb4 fun a ha => ⟨M1, ?_, (hl4.trans hl5), hC5⟩)
    exact ha.sub ⟨rfl, rfl, rfl, trivial⟩
   ·
    subst hc2
    refine cw_true rfl ?_
    refine cw_seq (cw_region (lw_op rfl rfl rfl (ow_assign rfl rfl ?_)))
    refine lw_nil (ew_then (cw_ret (ew_blockR ?_)))
    refine ew_thenR (ew_thenR (ew_blockR ?_))
    refine ew_brkR ?_
    refine ew_thenR ?_
    have e1 := hR1 _ (Option.some.inj hb4).symm
    subst e1
    obtain rfl := Option.some.inj h
    exact ew_ret (res1 rfl (.tmp rfl)) ⟨_, rfl, ((vbool _)), hC5.bx⟩
  ·
   obtain rfl := hbb1.trans hc1
   refine cw_false rfl ?_
   refine cw_exit ?_
   refine ew_thenX ?_
   refine ew_thenX ?_
   refine ew_blockX ?_
   refine ew_brk k1 hb4 fun a ha => ⟨M1, ?_, hl4, hC4⟩
   exact ha.sub ⟨rfl, rfl, rfl, trivial⟩
 ·
  rintro k2 a w6 hlr2 ⟨M2, hF2, hl6, hC6⟩
  subst hlr2
  refine ew_at (E := [(2, (.pointer (some p1))), (8, v2), (9, (.int .i64 k2))]) hF2 ?_
  refine ew_then (cw_seq (cw_region (lw_op rfl rfl rfl (ow_assign rfl rfl ?_))))
  refine lw_nil (ew_then (cw_ret ?_))
  obtain rfl := Option.some.inj h
  exact ew_ret (res1 rfl (.tmp rfl)) ⟨_, rfl, ((vbool _)), hC6.bx⟩

theorem w_impl_RegionHas {w : World} {M : Nat → Prop} (hG : ARep (RArr 4 RShape) w M shapes ⟨0, 0, none⟩) (hO : ∀ b, M b → b < w.heap.size) {v0p : Value} {a_list : List Box} (h0 : VRep (RSlice RBox) w M a_list v0p) {v1p : Value} {a_p : Packet} (h1 : VRep RPacket w M a_p v1p) {r : Bool} (h : F.impl_RegionHas a_list a_p = some r) :
  Calls Tryd.prog 50 [v0p, v1p].toArray w fun e w' => ∃ v, e = .returned v ∧ VRep RBool w' M r v ∧ BX No w w' := by
 have hC : Cx No w M w M := Cx.start hO (fun _ e => e.elim)
 refine walk (N := 26) Tryd.func50 rfl Tryd.ntmps50 rfl ?_
 refine cw_seq (cw_region (lw_op rfl rfl rfl (ow_box (R := RPacket) rfl rfl h1 hC fun p1 w1 hp1 hb1 hl1 hC1 => ?_)))
 refine lw_op rfl rfl rfl (ow_assign rfl rfl ?_)
 refine lw_nil (ew_then (cw_seq (cw_seq (cw_region (lw_op rfl rfl rfl (ow_move rfl rfl ?_))))))
 replace h := bind_some h
 obtain ⟨x1, hx1, h⟩ := h
 refine lw_op rfl rfl rfl (ow_call rfl rfl Tryd.call21 (w_impl_RegionValid (hG.mono hl1) hC1.old (VRep.mono hl1 h0) hx1) fun v1 w2 hv1 => ?_)
 obtain ⟨hv1, hb2⟩ := hv1
 have hl2 := Le.no M hb2
 have hC2 := hC1.no hb2
 obtain rfl := vbool_eq hv1
 refine lw_op rfl rfl rfl (ow_not rfl rfl ?_)
 refine lw_op rfl rfl rfl (ow_move rfl rfl ?_)
 replace h := cond_some h
 rcases h with ⟨hc1, h⟩ | ⟨hc1, h⟩
 ·
  subst hc1
  refine lw_on rfl rfl rfl rfl rfl rfl (ow_load (R := RPacket) rfl rfl (ARep.mono hl2 hp1) (Tryd.sizeOf45 _) (Tryd.isAgg45 _) fun v2 hv2 => ?_)
  replace h := bind_some h
  obtain ⟨x2, hx2, h⟩ := h
  refine lw_on rfl rfl rfl rfl rfl rfl (ow_call rfl rfl Tryd.call70 (w_impl_PacketValid (hG.mono (hl1.trans hl2)) hC2.old hv2 hx2) fun v3 w3 hv3 => ?_)
  obtain ⟨hv3, hb3⟩ := hv3
  have hl3 := Le.no M hb3
  have hC3 := hC2.no hb3
  obtain rfl := vbool_eq hv3
  refine lw_on rfl rfl rfl rfl rfl rfl (ow_not rfl rfl ?_)
  refine lw_op rfl rfl rfl (ow_pickF rfl rfl rfl ?_)
  refine lw_nil (ew_then ?_)
  replace h := cond_some h
  rcases h with ⟨hc2, h⟩ | ⟨hc2, h⟩
  ·
   subst hc2
   refine cw_false rfl ?_
   refine cw_skip (ew_then (cw_seq (cw_seq (cw_region (lw_op rfl rfl rfl (ow_move rfl rfl ?_))))))
   refine lw_op rfl rfl rfl (ow_len rfl rfl (VRep.mono ((hl1.trans hl2).trans hl3) h0) Tryd.underlying34 rfl ?_)
   refine lw_op rfl rfl rfl (ow_move rfl rfl ?_)
   refine lw_nil (ew_then ?_)
   replace h := bind_some h
   obtain ⟨lr1, hlr1, h⟩ := h
   refine cw_for hlr1 (fun s a w' => ∃ (M' : Nat → Prop), Fits 26 [(3, (.pointer (some p1))), (15, v0p), (16, (.int .i64 (a_list.length : Int))), (17, (.int .i64 s))] a ∧ Le w3 M w' M' ∧ Cx No w M w' M') ?_ ?_ ?_
   ·
    intro a ha
    exact ⟨M, ha.sub ⟨rfl, rfl, rfl, rfl, trivial⟩, Le.refl _ _, hC3⟩
   ·
    rintro k1 a w4 sr1 ⟨M1, hF1, hl4, hC4⟩ hb4 hR1
    refine cw_at (E := [(3, (.pointer (some p1))), (15, v0p), (16, (.int .i64 (a_list.length : Int))), (17, (.int .i64 k1))]) hF1 ?_
    refine cw_seq (cw_region (lw_op rfl rfl rfl (ow_lss rfl rfl rfl fun bb1 hbb1 => ?_)))
    refine lw_nil (ew_then (cw_seq ?_))
    replace hb4 := cond_some hb4
    rcases hb4 with ⟨hc3, hb4⟩ | ⟨hc3, hb4⟩
    ·
     obtain rfl := hbb1.trans hc3
     refine cw_true rfl ?_
     refine cw_skip (ew_then (cw_seq (cw_block ?_)))
     refine cw_seq (cw_region ?_)
     replace hb4 := bind_some hb4
     obtain ⟨x3, hx3, hb4⟩ := hb4
     refine lw_op rfl rfl rfl (ow_indexSlice (R := RBox) rfl rfl rfl (VRep.mono (((hl1.trans hl2).trans hl3).trans hl4) h0) Tryd.underlying34 (Tryd.sizeOf27 _) hx3 fun p2 hp2 => ?_)
     refine lw_op rfl rfl rfl (ow_load (R := RBox) rfl rfl hp2 (Tryd.sizeOf27 _) (Tryd.isAgg27 _) fun v5 hv5 => ?_)
     refine lw_allocStore (R := RBox) rfl rfl rfl rfl rfl rfl rfl Tryd.zeroValue27 Tryd.sizeOf27 rfl rfl rfl (by simp) hv5 hC4 fun p3 w5 hp3 hb5 hl5 hC5 => ?_
     refine lw_nil (ew_then (cw_seq ?_))
     replace hb4 := bind_some hb4
     obtain ⟨x4, hx4, hb4⟩ := hb4
     refine cw_sub (E' := [(3, (.pointer (some p1))), (6, (.pointer (some p3))), (15, v0p), (16, (.int .i64 (a_list.length : Int))), (17, (.int .i64 k1))]) ⟨rfl, rfl, rfl, rfl, rfl, trivial⟩ ?_
     refine cw_drawQ 3 [PV RBox M1 x3, PV (RArr 4 (RSlice RSpan)) M1 x4, PV RPacket M1 a_p] (by kernel_rfl) rfl (by kernel_rfl) ⟨PV.mono _ _ _, PV.mono _ _ _, PV.mono _ _ _, trivial⟩ ⟨?_, ?_, ?_, trivial⟩ ?_
     ·
      intro w7 D hS1 hd1
      have hl7 := Le.no M1 hS1
      have hC7 := hC5.no hS1
      refine dg_sub (E' := [(6, (.pointer (some p3)))]) ⟨rfl, trivial⟩ ?_
      refine dg_plain rfl (ow_load (R := RBox) rfl rfl (ARep.mono hl7 hp3) (Tryd.sizeOf27 _) (Tryd.isAgg27 _) fun v9 hv9 => ?_)
      exact ⟨BX.refl _ _, hv9⟩
     ·
      intro w8 D hS2 hd2
      have hl8 := Le.no M1 hS2
      have hC8 := hC5.no hS2
      have hd2 : PV RBox M1 x3 (D 0) w8 ∧ True := hd2
      obtain ⟨d1, -⟩ := hd2
      obtain ⟨v10, hq1⟩ : ∃ v, (D 0) = v := ⟨_, rfl⟩
      rw [hq1] at d1
      refine dg_sub (E' := [(21, v10)]) ⟨(congrArg some hq1), trivial⟩ ?_
      refine dg_plain rfl (ow_call rfl rfl Tryd.call65 (w_impl_sidesOf (hG.mono (((((hl1.trans hl2).trans hl3).trans hl4).trans hl5).trans hl8)) hC8.old d1 hx4) fun v11 w9 hv11 => ?_)
      obtain ⟨hv11, hb7⟩ := hv11
      have hl9 := Le.no M1 hb7
      have hC9 := hC8.no hb7
      exact ⟨hb7, hv11⟩
     ·
      intro w10 D hS3 hd3
      have hl10 := Le.no M1 hS3
      have hC10 := hC5.no hS3
      refine dg_sub (E' := [(3, (.pointer (some p1)))]) ⟨rfl, trivial⟩ ?_
      refine dg_plain rfl (ow_load (R := RPacket) rfl rfl (ARep.mono ((((hl2.trans hl3).trans hl4).trans hl5).trans hl10) hp1) (Tryd.sizeOf45 _) (Tryd.isAgg45 _) fun v12 hv12 => ?_)
      exact ⟨BX.refl _ _, hv12⟩
     ·
      intro w11 D hS4 hd4
      have hd4 : PV RBox M1 x3 (D 0) w11 ∧ PV (RArr 4 (RSlice RSpan)) M1 x4 (D 1) w11 ∧ PV RPacket M1 a_p (D 2) w11 ∧ True := hd4
      obtain ⟨-, d3, d4, -⟩ := hd4
      have hl11 := Le.no M1 hS4
      have hC11 := hC5.no hS4
      obtain ⟨v13, hq2⟩ : ∃ v, (D 1) = v := ⟨_, rfl⟩
      rw [hq2] at d3
      obtain ⟨v14, hq3⟩ : ∃ v, (D 2) = v := ⟨_, rfl⟩
      rw [hq3] at d4
      refine lw_sub (E' := [(22, v13), (23, v14), (3, (.pointer (some p1))), (6, (.pointer (some p3))), (15, v0p), (16, (.int .i64 (a_list.length : Int))), (17, (.int .i64 k1))]) ⟨(congrArg some hq2), (congrArg some hq3), rfl, rfl, rfl, rfl, rfl, trivial⟩ ?_
      replace hb4 := bind_some hb4
      obtain ⟨x5, hx5, hb4⟩ := hb4
      refine lw_op rfl rfl rfl (ow_call rfl rfl Tryd.call71 (w_impl_sides_has (hG.mono (((((hl1.trans hl2).trans hl3).trans hl4).trans hl5).trans hl11)) hC11.old d3 d4 hx5) fun v15 w12 hv15 => ?_)
      obtain ⟨hv15, hb8⟩ := hv15
      have hl12 := Le.no M1 hb8
      have hC12 := hC11.no hb8
      obtain rfl := vbool_eq hv15
      refine lw_nil (ew_then ?_)
      replace hb4 := cond_some hb4
      rcases hb4 with ⟨hc4, hb4⟩ | ⟨hc4, hb4⟩
      ·
       subst hc4
       refine cw_true rfl ?_
       refine cw_seq (cw_region (lw_op rfl rfl rfl (ow_assign rfl rfl ?_)))
       refine lw_nil (ew_then (cw_ret (ew_blockR ?_)))
       refine ew_thenR (ew_thenR (ew_blockR ?_))
       refine ew_brkR ?_
       refine ew_thenR ?_
       have e1 := hR1 _ (Option.some.inj hb4).symm
       subst e1
       obtain rfl := Option.some.inj h
       exact ew_ret (res1 rfl (.tmp rfl)) ⟨_, rfl, ((vbool _)), hC12.bx⟩
      ·
       subst hc4
       refine cw_false rfl ?_
       refine cw_skip (ew_blockN ?_)
       refine ew_then (cw_region (lw_op rfl rfl rfl (ow_add rfl rfl rfl ?_)))
       refine lw_op rfl rfl rfl (ow_move rfl rfl ?_)
       refine lw_nil (ew_nxt (W (k1 + 1)) hb4 fun a ha => ⟨M1, ?_, (((hl4.trans hl5).trans hl11).trans hl12), hC12⟩)
       exact ha.sub ⟨rfl, rfl, rfl, rfl, trivial⟩
    ·
     obtain rfl := hbb1.trans hc3
     refine cw_false rfl ?_
     refine cw_exit ?_
     refine ew_thenX ?_
     refine ew_thenX ?_
     refine ew_blockX ?_
     refine ew_brk k1 hb4 fun a ha => ⟨M1, ?_, hl4, hC4⟩
     exact ha.sub ⟨rfl, rfl, rfl, rfl, trivial⟩
   ·
    rintro k2 a w13 hlr2 ⟨M2, hF2, hl13, hC13⟩
    subst hlr2
    refine ew_at (E := [(3, (.pointer (some p1))), (15, v0p), (16, (.int .i64 (a_list.length : Int))), (17, (.int .i64 k2))]) hF2 ?_
    refine ew_then (cw_seq (cw_region (lw_op rfl rfl rfl (ow_assign rfl rfl ?_))))
    refine lw_nil (ew_then (cw_ret ?_))
    obtain rfl := Option.some.inj h
    exact ew_ret (res1 rfl (.tmp rfl)) ⟨_, rfl, ((vbool _)), hC13.bx⟩
  ·
   subst hc2
   refine cw_true rfl ?_
   refine cw_seq (cw_region (lw_op rfl rfl rfl (ow_assign rfl rfl ?_)))
   refine lw_nil (ew_then (cw_ret (ew_thenR ?_)))
   obtain rfl := Option.some.inj h
   exact ew_ret (res1 rfl (.tmp rfl)) ⟨_, rfl, ((vbool _)), hC3.bx⟩
 ·
  subst hc1
  refine lw_off rfl rfl rfl rfl rfl rfl ?_
  refine lw_off rfl rfl rfl rfl rfl rfl ?_
  refine lw_off rfl rfl rfl rfl rfl rfl ?_
  refine lw_op rfl rfl rfl (ow_pickT rfl rfl rfl ?_)
  refine lw_nil (ew_then (cw_true rfl ?_))
  refine cw_seq (cw_region (lw_op rfl rfl rfl (ow_assign rfl rfl ?_)))
  refine lw_nil (ew_then (cw_ret (ew_thenR ?_)))
  obtain rfl := Option.some.inj h
  exact ew_ret (res1 rfl (.tmp rfl)) ⟨_, rfl, ((vbool _)), hC2.bx⟩

theorem w_spec_PacketValid {w : World} {M : Nat → Prop} (hG : ARep (RArr 4 RShape) w M shapes ⟨0, 0, none⟩) (hO : ∀ b, M b → b < w.heap.size) {v0p : Value} {a_p : Packet} (h0 : VRep RPacket w M a_p v0p) {r : Bool} (h : F.spec_PacketValid a_p = some r) :
  Calls Tryd.prog 39 [v0p].toArray w fun e w' => ∃ v, e = .returned v ∧ VRep RBool w' M r v ∧ BX No w w' := by
 have hC : Cx No w M w M := Cx.start hO (fun _ e => e.elim)
 refine walk (N := 21) Tryd.func39 rfl Tryd.ntmps39 rfl ?_
 refine cw_seq (cw_region (lw_op rfl rfl rfl (ow_box (R := RPacket) rfl rfl h0 hC fun p1 w1 hp1 hb1 hl1 hC1 => ?_)))
 refine lw_op rfl rfl rfl (ow_assign rfl rfl ?_)
 refine lw_nil (ew_then (cw_seq (cw_region (lw_op rfl rfl rfl (ow_fieldAddr rfl rfl Tryd.underlying45 rfl (Tryd.sizeOf3 _) ?_)))))
 refine lw_op rfl rfl rfl (ow_load (R := RInt) rfl rfl (hp1.fld fld_Packet_From) (Tryd.sizeOf3 _) (Tryd.isAgg3 _) fun v1 hv1 => ?_)
 obtain rfl := vint_eq hv1
 replace h := bind_some h
 obtain ⟨x1, hx1, h⟩ := h
 refine lw_op rfl rfl rfl (ow_call rfl rfl Tryd.call82 (w_spec_l1In (hG.mono hl1) hC1.old hx1) fun v2 w2 hv2 => ?_)
 obtain ⟨hv2, hb2⟩ := hv2
 have hl2 := Le.no M hb2
 have hC2 := hC1.no hb2
 obtain rfl := vbool_eq hv2
 refine lw_op rfl rfl rfl (ow_move rfl rfl ?_)
 replace h := cond_some h
 rcases h with ⟨hc1, h⟩ | ⟨hc1, h⟩
 ·
  subst hc1
  refine lw_on rfl rfl rfl rfl rfl rfl (ow_fieldAddr rfl rfl Tryd.underlying45 rfl (Tryd.sizeOf3 _) ?_)
  refine lw_on rfl rfl rfl rfl rfl rfl (ow_load (R := RInt) rfl rfl (ARep.mono hl2 (hp1.fld fld_Packet_To)) (Tryd.sizeOf3 _) (Tryd.isAgg3 _) fun v3 hv3 => ?_)
  obtain rfl := vint_eq hv3
  replace h := bind_some h
  obtain ⟨x2, hx2, h⟩ := h
  refine lw_on rfl rfl rfl rfl rfl rfl (ow_call rfl rfl Tryd.call82 (w_spec_l1In (hG.mono (hl1.trans hl2)) hC2.old hx2) fun v4 w3 hv4 => ?_)
  obtain ⟨hv4, hb3⟩ := hv4
  have hl3 := Le.no M hb3
  have hC3 := hC2.no hb3
  obtain rfl := vbool_eq hv4
  refine lw_op rfl rfl rfl (ow_pickT rfl rfl rfl ?_)
  refine lw_op rfl rfl rfl (ow_move rfl rfl ?_)
  replace h := cond_some h
  rcases h with ⟨hc2, h⟩ | ⟨hc2, h⟩
  ·
   subst hc2
   refine lw_on rfl rfl rfl rfl rfl rfl (ow_fieldAddr rfl rfl Tryd.underlying45 rfl (Tryd.sizeOf3 _) ?_)
   refine lw_on rfl rfl rfl rfl rfl rfl (ow_load (R := RInt) rfl rfl (ARep.mono (hl2.trans hl3) (hp1.fld fld_Packet_Port)) (Tryd.sizeOf3 _) (Tryd.isAgg3 _) fun v5 hv5 => ?_)
   obtain rfl := vint_eq hv5
   replace h := bind_some h
   obtain ⟨x3, hx3, h⟩ := h
   refine lw_on rfl rfl rfl rfl rfl rfl (ow_call rfl rfl Tryd.call82 (w_spec_l1In (hG.mono ((hl1.trans hl2).trans hl3)) hC3.old hx3) fun v6 w4 hv6 => ?_)
   obtain ⟨hv6, hb4⟩ := hv6
   have hl4 := Le.no M hb4
   have hC4 := hC3.no hb4
   obtain rfl := vbool_eq hv6
   refine lw_op rfl rfl rfl (ow_pickT rfl rfl rfl ?_)
   refine lw_op rfl rfl rfl (ow_move rfl rfl ?_)
   replace h := cond_some h
   rcases h with ⟨hc3, h⟩ | ⟨hc3, h⟩
   ·
    subst hc3
    refine lw_on rfl rfl rfl rfl rfl rfl (ow_fieldAddr rfl rfl Tryd.underlying45 rfl (Tryd.sizeOf3 _) ?_)
    refine lw_on rfl rfl rfl rfl rfl rfl (ow_load (R := RInt) rfl rfl (ARep.mono ((hl2.trans hl3).trans hl4) (hp1.fld fld_Packet_Proto)) (Tryd.sizeOf3 _) (Tryd.isAgg3 _) fun v7 hv7 => ?_)
    obtain rfl := vint_eq hv7
    replace h := bind_some h
    obtain ⟨x4, hx4, h⟩ := h
    refine lw_on rfl rfl rfl rfl rfl rfl (ow_call rfl rfl Tryd.call82 (w_spec_l1In (hG.mono (((hl1.trans hl2).trans hl3).trans hl4)) hC4.old hx4) fun v8 w5 hv8 => ?_)
    obtain ⟨hv8, hb5⟩ := hv8
    have hl5 := Le.no M hb5
    have hC5 := hC4.no hb5
    obtain rfl := vbool_eq hv8
    refine lw_op rfl rfl rfl (ow_pickT rfl rfl rfl ?_)
    refine lw_op rfl rfl rfl (ow_assign rfl rfl ?_)
    refine lw_nil (ew_then (cw_ret ?_))
    obtain rfl := Option.some.inj h
    exact ew_ret (res1 rfl (.tmp rfl)) ⟨_, rfl, ((vbool _)), hC5.bx⟩
   ·
    subst hc3
    refine lw_off rfl rfl rfl rfl rfl rfl ?_
    refine lw_off rfl rfl rfl rfl rfl rfl ?_
    refine lw_off rfl rfl rfl rfl rfl rfl ?_
    refine lw_op rfl rfl rfl (ow_pickF rfl rfl rfl ?_)
    refine lw_op rfl rfl rfl (ow_assign rfl rfl ?_)
    refine lw_nil (ew_then (cw_ret ?_))
    obtain rfl := Option.some.inj h
    exact ew_ret (res1 rfl (.tmp rfl)) ⟨_, rfl, ((vbool _)), hC4.bx⟩
  ·
   subst hc2
   refine lw_off rfl rfl rfl rfl rfl rfl ?_
   refine lw_off rfl rfl rfl rfl rfl rfl ?_
   refine lw_off rfl rfl rfl rfl rfl rfl ?_
   refine lw_op rfl rfl rfl (ow_pickF rfl rfl rfl ?_)
   refine lw_op rfl rfl rfl (ow_move rfl rfl ?_)
   refine lw_off rfl rfl rfl rfl rfl rfl ?_
   refine lw_off rfl rfl rfl rfl rfl rfl ?_
   refine lw_off rfl rfl rfl rfl rfl rfl ?_
   refine lw_op rfl rfl rfl (ow_pickF rfl rfl rfl ?_)
   refine lw_op rfl rfl rfl (ow_assign rfl rfl ?_)
   refine lw_nil (ew_then (cw_ret ?_))
   obtain rfl := Option.some.inj h
   exact ew_ret (res1 rfl (.tmp rfl)) ⟨_, rfl, ((vbool _)), hC3.bx⟩
 ·
  subst hc1
  refine lw_off rfl rfl rfl rfl rfl rfl ?_
  refine lw_off rfl rfl rfl rfl rfl rfl ?_
  refine lw_off rfl rfl rfl rfl rfl rfl ?_
  refine lw_op rfl rfl rfl (ow_pickF rfl rfl rfl ?_)
  refine lw_op rfl rfl rfl (ow_move rfl rfl ?_)
  refine lw_off rfl rfl rfl rfl rfl rfl ?_
  refine lw_off rfl rfl rfl rfl rfl rfl ?_
  refine lw_off rfl rfl rfl rfl rfl rfl ?_
  refine lw_op rfl rfl rfl (ow_pickF rfl rfl rfl ?_)
  refine lw_op rfl rfl rfl (ow_move rfl rfl ?_)
  refine lw_off rfl rfl rfl rfl rfl rfl ?_
  refine lw_off rfl rfl rfl rfl rfl rfl ?_
  refine lw_off rfl rfl rfl rfl rfl rfl ?_
  refine lw_op rfl rfl rfl (ow_pickF rfl rfl rfl ?_)
  refine lw_op rfl rfl rfl (ow_assign rfl rfl ?_)
  refine lw_nil (ew_then (cw_ret ?_))
  obtain rfl := Option.some.inj h
  exact ew_ret (res1 rfl (.tmp rfl)) ⟨_, rfl, ((vbool _)), hC2.bx⟩

theorem w_spec_SpansHave {w : World} {M : Nat → Prop} (hG : ARep (RArr 4 RShape) w M shapes ⟨0, 0, none⟩) (hO : ∀ b, M b → b < w.heap.size) {v0p : Value} {a_list : List Span} (h0 : VRep (RSlice RSpan) w M a_list v0p) {a_n : Int} {r : Bool} (h : F.spec_SpansHave a_list a_n = some r) :
  Calls Tryd.prog 78 [v0p, (.int .i64 a_n)].toArray w fun e w' => ∃ v, e = .returned v ∧ VRep RBool w' M r v ∧ BX No w w' := by
 have hC : Cx No w M w M := Cx.start hO (fun _ e => e.elim)
 refine walk (N := 24) Tryd.func78 rfl Tryd.ntmps78 rfl ?_
 refine cw_seq (cw_region (lw_op rfl rfl rfl (ow_assign rfl rfl ?_)))
 refine lw_nil (ew_then (cw_seq (cw_seq (cw_region (lw_op rfl rfl rfl (ow_assign rfl rfl ?_))))))
 refine lw_nil (ew_then ?_)
 replace h := bind_some h
 obtain ⟨lr1, hlr1, h⟩ := h
 refine cw_for hlr1 (fun s a w' => ∃ (M' : Nat → Prop), Fits 24 [(0, v0p), (1, (.int .i64 a_n)), (5, (.int .i64 s))] a ∧ Le w M w' M' ∧ Cx No w M w' M') ?_ ?_ ?_
 ·
  intro a ha
  exact ⟨M, ha.sub ⟨rfl, rfl, rfl, trivial⟩, Le.refl _ _, hC⟩
 ·
  rintro k1 a w1 sr1 ⟨M1, hF1, hl1, hC1⟩ hb1 hR1
  refine cw_at (E := [(0, v0p), (1, (.int .i64 a_n)), (5, (.int .i64 k1))]) hF1 ?_
  refine cw_seq (cw_seq (cw_region (lw_op rfl rfl rfl (ow_move rfl rfl ?_))))
  refine lw_op rfl rfl rfl (ow_move rfl rfl ?_)
  refine lw_op rfl rfl rfl (ow_len rfl rfl (VRep.mono hl1 h0) Tryd.underlying58 rfl ?_)
  refine lw_op rfl rfl rfl (ow_lss rfl rfl rfl fun bb1 hbb1 => ?_)
  refine lw_nil (ew_then ?_)
  replace hb1 := cond_some hb1
  rcases hb1 with ⟨hc1, hb1⟩ | ⟨hc1, hb1⟩
  ·
   obtain rfl := hbb1.trans hc1
   refine cw_true rfl ?_
   refine cw_skip (ew_then (cw_seq (cw_block ?_)))
   refine cw_seq ?_
   replace hb1 := bind_some hb1
   obtain ⟨x1, hx1, hb1⟩ := hb1
   refine cw_sub (E' := [(0, v0p), (1, (.int .i64 a_n)), (5, (.int .i64 k1))]) ⟨rfl, rfl, rfl, trivial⟩ ?_
   refine cw_drawQ 11 [PEq (.int .i64 a_n), PV (RSlice RSpan) M1 a_list, PEq (.int .i64 k1), PA RSpan M1 x1, PA RInt M1 x1.Lo, PEq (.int .i64 x1.Lo), PV (RSlice RSpan) M1 a_list, PEq (.int .i64 k1), PA RSpan M1 x1, PA RInt M1 x1.Hi, PEq (.int .i64 x1.Hi)] (by kernel_rfl) rfl (by kernel_rfl) ⟨PEq.mono _, PV.mono _ _ _, PEq.mono _, PA.mono _ _ _, PA.mono _ _ _, PEq.mono _, PV.mono _ _ _, PEq.mono _, PA.mono _ _ _, PA.mono _ _ _, PEq.mono _, trivial⟩ ⟨?_, ?_, ?_, ?_, ?_, ?_, ?_, ?_, ?_, ?_, ?_, trivial⟩ ?_
   ·
    intro w2 D hS1 hd1
    have hl2 := Le.no M1 hS1
    have hC2 := hC1.no hS1
    refine dg_sub (E' := [(1, (.int .i64 a_n))]) ⟨rfl, trivial⟩ ?_
    refine dg_plain rfl (ow_move rfl rfl ?_)
    exact ⟨BX.refl _ _, rfl⟩
   ·
    intro w3 D hS2 hd2
    have hl3 := Le.no M1 hS2
    have hC3 := hC1.no hS2
    refine dg_sub (E' := [(0, v0p)]) ⟨rfl, trivial⟩ ?_
    refine dg_plain rfl (ow_move rfl rfl ?_)
    exact ⟨BX.refl _ _, (VRep.mono (hl1.trans hl3) h0)⟩
   ·
    intro w4 D hS3 hd3
    have hl4 := Le.no M1 hS3
    have hC4 := hC1.no hS3
    refine dg_sub (E' := [(5, (.int .i64 k1))]) ⟨rfl, trivial⟩ ?_
    refine dg_plain rfl (ow_move rfl rfl ?_)
    exact ⟨BX.refl _ _, rfl⟩
   ·
    intro w5 D hS4 hd4
    have hl5 := Le.no M1 hS4
    have hC5 := hC1.no hS4
    have hd4 : PV (RSlice RSpan) M1 a_list (D 1) w5 ∧ PEq (.int .i64 k1) (D 2) w5 ∧ True := hd4
    obtain ⟨d1, d2, -⟩ := hd4
    obtain ⟨v4, hq1⟩ : ∃ v, (D 1) = v := ⟨_, rfl⟩
    rw [hq1] at d1
    refine dg_sub (E' := [(13, v4), (14, (.int .i64 k1))]) ⟨(congrArg some hq1), (congrArg some d2), trivial⟩ ?_
    refine dg_plain rfl (ow_indexSlice (R := RSpan) rfl rfl rfl d1 Tryd.underlying58 (Tryd.sizeOf76 _) hx1 fun p3 hp3 => ?_)
    exact ⟨BX.refl _ _, ⟨_, rfl, hp3⟩⟩
   ·
    intro w6 D hS5 hd5
    have hl6 := Le.no M1 hS5
    have hC6 := hC1.no hS5
    have hd5 : PA RSpan M1 x1 (D 3) w6 ∧ True := hd5
    obtain ⟨d3, -⟩ := hd5
    obtain ⟨p4, e1, ha1⟩ := d3
    refine dg_sub (E' := [(15, (.pointer (some p4)))]) ⟨(congrArg some e1), trivial⟩ ?_
    refine dg_plain rfl (ow_fieldAddr rfl rfl Tryd.underlying76 rfl (Tryd.sizeOf3 _) ?_)
    exact ⟨BX.refl _ _, ⟨_, rfl, (ha1.fld fld_Span_Lo)⟩⟩
   ·
    intro w7 D hS6 hd6
    have hl7 := Le.no M1 hS6
    have hC7 := hC1.no hS6
    have hd6 : PA RInt M1 x1.Lo (D 4) w7 ∧ True := hd6
    obtain ⟨d4, -⟩ := hd6
    obtain ⟨p5, e2, ha2⟩ := d4
    refine dg_sub (E' := [(16, (.pointer (some p5)))]) ⟨(congrArg some e2), trivial⟩ ?_
    refine dg_plain rfl (ow_load (R := RInt) rfl rfl ha2 (Tryd.sizeOf3 _) (Tryd.isAgg3 _) fun v5 hv5 => ?_)
    obtain rfl := vint_eq hv5
    exact ⟨BX.refl _ _, rfl⟩
   ·
    intro w8 D hS7 hd7
    have hl8 := Le.no M1 hS7
    have hC8 := hC1.no hS7
    refine dg_sub (E' := [(0, v0p)]) ⟨rfl, trivial⟩ ?_
    refine dg_plain rfl (ow_move rfl rfl ?_)
    exact ⟨BX.refl _ _, (VRep.mono (hl1.trans hl8) h0)⟩
   ·
    intro w9 D hS8 hd8
    have hl9 := Le.no M1 hS8
    have hC9 := hC1.no hS8
    refine dg_sub (E' := [(5, (.int .i64 k1))]) ⟨rfl, trivial⟩ ?_
    refine dg_plain rfl (ow_move rfl rfl ?_)
    exact ⟨BX.refl _ _, rfl⟩
   ·
    intro w10 D hS9 hd9
    have hl10 := Le.no M1 hS9
    have hC10 := hC1.no hS9
    have hd9 : PV (RSlice RSpan) M1 a_list (D 6) w10 ∧ PEq (.int .i64 k1) (D 7) w10 ∧ True := hd9
    obtain ⟨d5, d6, -⟩ := hd9
    obtain ⟨v6, hq2⟩ : ∃ v, (D 6) = v := ⟨_, rfl⟩
    rw [hq2] at d5
    refine dg_sub (E' := [(18, v6), (19, (.int .i64 k1))]) ⟨(congrArg some hq2), (congrArg some d6), trivial⟩ ?_
    refine dg_plain rfl (ow_indexSlice (R := RSpan) rfl rfl rfl d5 Tryd.underlying58 (Tryd.sizeOf76 _) hx1 fun p6 hp6 => ?_)
    exact ⟨BX.refl _ _, ⟨_, rfl, hp6⟩⟩
   ·
    intro w11 D hS10 hd10
    have hl11 := Le.no M1 hS10
    have hC11 := hC1.no hS10
    have hd10 : PA RSpan M1 x1 (D 8) w11 ∧ True := hd10
    obtain ⟨d7, -⟩ := hd10
    obtain ⟨p7, e3, ha3⟩ := d7
    refine dg_sub (E' := [(20, (.pointer (some p7)))]) ⟨(congrArg some e3), trivial⟩ ?_
    refine dg_plain rfl (ow_fieldAddr rfl rfl Tryd.underlying76 rfl (Tryd.sizeOf3 _) ?_)
    exact ⟨BX.refl _ _, ⟨_, rfl, (ha3.fld fld_Span_Hi)⟩⟩
   ·
    intro w12 D hS11 hd11
    have hl12 := Le.no M1 hS11
    have hC12 := hC1.no hS11
    have hd11 : PA RInt M1 x1.Hi (D 9) w12 ∧ True := hd11
    obtain ⟨d8, -⟩ := hd11
    obtain ⟨p8, e4, ha4⟩ := d8
    refine dg_sub (E' := [(21, (.pointer (some p8)))]) ⟨(congrArg some e4), trivial⟩ ?_
    refine dg_plain rfl (ow_load (R := RInt) rfl rfl ha4 (Tryd.sizeOf3 _) (Tryd.isAgg3 _) fun v7 hv7 => ?_)
    obtain rfl := vint_eq hv7
    exact ⟨BX.refl _ _, rfl⟩
   ·
    intro w13 D hS12 hd12
    have hd12 : PEq (.int .i64 a_n) (D 0) w13 ∧ PV (RSlice RSpan) M1 a_list (D 1) w13 ∧ PEq (.int .i64 k1) (D 2) w13 ∧ PA RSpan M1 x1 (D 3) w13 ∧ PA RInt M1 x1.Lo (D 4) w13 ∧ PEq (.int .i64 x1.Lo) (D 5) w13 ∧ PV (RSlice RSpan) M1 a_list (D 6) w13 ∧ PEq (.int .i64 k1) (D 7) w13 ∧ PA RSpan M1 x1 (D 8) w13 ∧ PA RInt M1 x1.Hi (D 9) w13 ∧ PEq (.int .i64 x1.Hi) (D 10) w13 ∧ True := hd12
    obtain ⟨d9, -, -, -, -, d14, -, -, -, -, d19, -⟩ := hd12
    have hl13 := Le.no M1 hS12
    have hC13 := hC1.no hS12
    refine lw_sub (E' := [(12, (.int .i64 a_n)), (17, (.int .i64 x1.Lo)), (22, (.int .i64 x1.Hi)), (0, v0p), (1, (.int .i64 a_n)), (5, (.int .i64 k1))]) ⟨(congrArg some d9), (congrArg some d14), (congrArg some d19), rfl, rfl, rfl, trivial⟩ ?_
    replace hb1 := bind_some hb1
    obtain ⟨x2, hx2, hb1⟩ := hb1
    refine lw_op rfl rfl rfl (ow_call rfl rfl Tryd.call82 (w_spec_l1In (hG.mono (hl1.trans hl13)) hC13.old hx2) fun v8 w14 hv8 => ?_)
    obtain ⟨hv8, hb2⟩ := hv8
    have hl14 := Le.no M1 hb2
    have hC14 := hC13.no hb2
    obtain rfl := vbool_eq hv8
    refine lw_nil (ew_then ?_)
    replace hb1 := cond_some hb1
    rcases hb1 with ⟨hc2, hb1⟩ | ⟨hc2, hb1⟩
    ·
     subst hc2
     refine cw_true rfl ?_
     refine cw_seq (cw_region (lw_op rfl rfl rfl (ow_assign rfl rfl ?_)))
     refine lw_nil (ew_then (cw_ret (ew_blockR ?_)))
     refine ew_thenR (ew_thenR (ew_blockR ?_))
     refine ew_brkR ?_
     refine ew_thenR ?_
     have e5 := hR1 _ (Option.some.inj hb1).symm
     subst e5
     obtain rfl := Option.some.inj h
     exact ew_ret (res1 rfl (.tmp rfl)) ⟨_, rfl, ((vbool _)), hC14.bx⟩
    ·
     subst hc2
     refine cw_false rfl ?_
     refine cw_skip (ew_blockN ?_)
     refine ew_then (cw_region (lw_op rfl rfl rfl (ow_move rfl rfl ?_)))
     refine lw_op rfl rfl rfl (ow_add rfl rfl rfl ?_)
     refine lw_op rfl rfl rfl (ow_assign rfl rfl ?_)
     refine lw_nil (ew_nxt (W (k1 + 1)) hb1 fun a ha => ⟨M1, ?_, ((hl1.trans hl13).trans hl14), hC14⟩)
     exact ha.sub ⟨rfl, rfl, rfl, trivial⟩
  ·
   obtain rfl := hbb1.trans hc1
   refine cw_false rfl ?_
   refine cw_exit ?_
   refine ew_thenX ?_
   refine ew_thenX ?_
   refine ew_blockX ?_
   refine ew_brk k1 hb1 fun a ha => ⟨M1, ?_, hl1, hC1⟩
   exact ha.sub ⟨rfl, rfl, rfl, trivial⟩
 ·
  rintro k2 a w15 hlr2 ⟨M2, hF2, hl15, hC15⟩
  subst hlr2
  refine ew_at (E := [(0, v0p), (1, (.int .i64 a_n)), (5, (.int .i64 k2))]) hF2 ?_
  refine ew_then (cw_seq (cw_region (lw_op rfl rfl rfl (ow_assign rfl rfl ?_))))
  refine lw_nil (ew_then (cw_ret ?_))
  obtain rfl := Option.some.inj h
  exact ew_ret (res1 rfl (.tmp rfl)) ⟨_, rfl, ((vbool _)), hC15.bx⟩

theorem w_spec_PacketField {w : World} {M : Nat → Prop} (hG : ARep (RArr 4 RShape) w M shapes ⟨0, 0, none⟩) (hO : ∀ b, M b → b < w.heap.size) {v0p : Value} {a_p : Packet} (h0 : VRep RPacket w M a_p v0p) {a_n : Int} {r : Int} (h : F.spec_PacketField a_p a_n = some r) :
  Calls Tryd.prog 79 [v0p, (.int .i64 a_n)].toArray w fun e w' => ∃ v, e = .returned v ∧ VRep RInt w' M r v ∧ BX No w w' := by
 have hC : Cx No w M w M := Cx.start hO (fun _ e => e.elim)
 refine walk (N := 25) Tryd.func79 rfl Tryd.ntmps79 rfl ?_
 refine cw_seq (cw_region (lw_op rfl rfl rfl (ow_box (R := RPacket) rfl rfl h0 hC fun p1 w1 hp1 hb1 hl1 hC1 => ?_)))
 refine lw_op rfl rfl rfl (ow_assign rfl rfl ?_)
 refine lw_nil (ew_then (cw_seq (cw_seq (cw_region (lw_op rfl rfl rfl (ow_load (R := RPacket) rfl rfl hp1 (Tryd.sizeOf45 _) (Tryd.isAgg45 _) fun v1 hv1 => ?_))))))
 replace h := bind_some h
 obtain ⟨x1, hx1, h⟩ := h
 refine lw_op rfl rfl rfl (ow_call rfl rfl Tryd.call39 (w_spec_PacketValid (hG.mono hl1) hC1.old hv1 hx1) fun v2 w2 hv2 => ?_)
 obtain ⟨hv2, hb2⟩ := hv2
 have hl2 := Le.no M hb2
 have hC2 := hC1.no hb2
 obtain rfl := vbool_eq hv2
 refine lw_op rfl rfl rfl (ow_not rfl rfl ?_)
 refine lw_op rfl rfl rfl (ow_move rfl rfl ?_)
 replace h := cond_some h
 rcases h with ⟨hc1, h⟩ | ⟨hc1, h⟩
 ·
  subst hc1
  refine lw_on rfl rfl rfl rfl rfl rfl (ow_move rfl rfl ?_)
  replace h := bind_some h
  obtain ⟨x2, hx2, h⟩ := h
  refine lw_on rfl rfl rfl rfl rfl rfl (ow_call rfl rfl Tryd.call82 (w_spec_l1In (hG.mono (hl1.trans hl2)) hC2.old hx2) fun v3 w3 hv3 => ?_)
  obtain ⟨hv3, hb3⟩ := hv3
  have hl3 := Le.no M hb3
  have hC3 := hC2.no hb3
  obtain rfl := vbool_eq hv3
  refine lw_on rfl rfl rfl rfl rfl rfl (ow_not rfl rfl ?_)
  refine lw_op rfl rfl rfl (ow_pickF rfl rfl rfl ?_)
  refine lw_nil (ew_then ?_)
  replace h := cond_some h
  rcases h with ⟨hc2, h⟩ | ⟨hc2, h⟩
  ·
   subst hc2
   refine cw_false rfl ?_
   refine cw_skip (ew_then (cw_seq (cw_region (lw_op rfl rfl rfl (ow_fieldAddr rfl rfl Tryd.underlying45 rfl (Tryd.sizeOf3 _) ?_)))))
   refine lw_op rfl rfl rfl (ow_load (R := RInt) rfl rfl (ARep.mono (hl2.trans hl3) (hp1.fld fld_Packet_From)) (Tryd.sizeOf3 _) (Tryd.isAgg3 _) fun v4 hv4 => ?_)
   obtain rfl := vint_eq hv4
   refine lw_op rfl rfl rfl (ow_fieldAddr rfl rfl Tryd.underlying45 rfl (Tryd.sizeOf3 _) ?_)
   refine lw_op rfl rfl rfl (ow_load (R := RInt) rfl rfl (ARep.mono (hl2.trans hl3) (hp1.fld fld_Packet_To)) (Tryd.sizeOf3 _) (Tryd.isAgg3 _) fun v5 hv5 => ?_)
   obtain rfl := vint_eq hv5
   refine lw_op rfl rfl rfl (ow_fieldAddr rfl rfl Tryd.underlying45 rfl (Tryd.sizeOf3 _) ?_)
   refine lw_op rfl rfl rfl (ow_load (R := RInt) rfl rfl (ARep.mono (hl2.trans hl3) (hp1.fld fld_Packet_Port)) (Tryd.sizeOf3 _) (Tryd.isAgg3 _) fun v6 hv6 => ?_)
   obtain rfl := vint_eq hv6
   refine lw_op rfl rfl rfl (ow_fieldAddr rfl rfl Tryd.underlying45 rfl (Tryd.sizeOf3 _) ?_)
   refine lw_op rfl rfl rfl (ow_load (R := RInt) rfl rfl (ARep.mono (hl2.trans hl3) (hp1.fld fld_Packet_Proto)) (Tryd.sizeOf3 _) (Tryd.isAgg3 _) fun v7 hv7 => ?_)
   obtain rfl := vint_eq hv7
   refine lw_op rfl rfl rfl (ow_buildSlice (R := RInt) (xs := [a_p.From, a_p.To, a_p.Port, a_p.Proto]) (cs := #[(.int .i64 a_p.From), (.int .i64 a_p.To), (.int .i64 a_p.Port), (.int .i64 a_p.Proto)]) (e := 3) rfl rfl (by kernel_rfl) rfl rfl ⟨_, _, rfl, (vint _).cells, _, _, rfl, (vint _).cells, _, _, rfl, (vint _).cells, _, _, rfl, (vint _).cells, rfl⟩ hC3 fun p2 w4 hw1 hb4 hl4 hC4 => ?_)
   refine lw_op rfl rfl rfl (ow_move rfl rfl ?_)
   replace h := bind_some h
   obtain ⟨x3, hx3, h⟩ := h
   refine lw_op rfl rfl rfl (ow_indexSlice (R := RInt) rfl rfl rfl hw1 Tryd.underlying84 (Tryd.sizeOf3 _) hx3 fun p3 hp3 => ?_)
   refine lw_op rfl rfl rfl (ow_load (R := RInt) rfl rfl hp3 (Tryd.sizeOf3 _) (Tryd.isAgg3 _) fun v8 hv8 => ?_)
   obtain rfl := vint_eq hv8
   refine lw_op rfl rfl rfl (ow_assign rfl rfl ?_)
   refine lw_nil (ew_then (cw_ret ?_))
   obtain rfl := Option.some.inj h
   exact ew_ret (res1 rfl (.tmp rfl)) ⟨_, rfl, ((vint _)), hC4.bx⟩
  ·
   subst hc2
   refine cw_true rfl ?_
   refine cw_seq (cw_region (lw_op rfl rfl rfl (ow_assign rfl rfl ?_)))
   refine lw_nil (ew_then (cw_ret (ew_thenR ?_)))
   obtain rfl := Option.some.inj h
   exact ew_ret (res1 rfl (.tmp rfl)) ⟨_, rfl, ((vint _)), hC3.bx⟩
 ·
  subst hc1
  refine lw_off rfl rfl rfl rfl rfl rfl ?_
  refine lw_off rfl rfl rfl rfl rfl rfl ?_
  refine lw_off rfl rfl rfl rfl rfl rfl ?_
  refine lw_op rfl rfl rfl (ow_pickT rfl rfl rfl ?_)
  refine lw_nil (ew_then (cw_true rfl ?_))
  refine cw_seq (cw_region (lw_op rfl rfl rfl (ow_assign rfl rfl ?_)))
  refine lw_nil (ew_then (cw_ret (ew_thenR ?_)))
  obtain rfl := Option.some.inj h
  exact ew_ret (res1 rfl (.tmp rfl)) ⟨_, rfl, ((vint _)), hC2.bx⟩

theorem w_spec_BoxHas {w : World} {M : Nat → Prop} (hG : ARep (RArr 4 RShape) w M shapes ⟨0, 0, none⟩) (hO : ∀ b, M b → b < w.heap.size) {v0p : Value} {a_b : Box} (h0 : VRep RBox w M a_b v0p) {v1p : Value} {a_p : Packet} (h1 : VRep RPacket w M a_p v1p) {r : Bool} (h : F.spec_BoxHas a_b a_p = some r) :
  Calls Tryd.prog 37 [v0p, v1p].toArray w fun e w' => ∃ v, e = .returned v ∧ VRep RBool w' M r v ∧ BX No w w' := by
 have hC : Cx No w M w M := Cx.start hO (fun _ e => e.elim)
 refine walk (N := 28) Tryd.func37 rfl Tryd.ntmps37 rfl ?_
 refine cw_seq (cw_region (lw_op rfl rfl rfl (ow_box (R := RBox) rfl rfl h0 hC fun p1 w1 hp1 hb1 hl1 hC1 => ?_)))
 refine lw_op rfl rfl rfl (ow_box (R := RPacket) rfl rfl (VRep.mono hl1 h1) hC1 fun p2 w2 hp2 hb2 hl2 hC2 => ?_)
 refine lw_op rfl rfl rfl (ow_assign rfl rfl ?_)
 refine lw_nil (ew_then (cw_seq (cw_seq (cw_region (lw_op rfl rfl rfl (ow_load (R := RBox) rfl rfl (ARep.mono hl2 hp1) (Tryd.sizeOf27 _) (Tryd.isAgg27 _) fun v1 hv1 => ?_))))))
 replace h := bind_some h
 obtain ⟨x1, hx1, h⟩ := h
 refine lw_op rfl rfl rfl (ow_call rfl rfl Tryd.call38 (w_spec_BoxValid (hG.mono (hl1.trans hl2)) hC2.old hv1 hx1) fun v2 w3 hv2 => ?_)
 obtain ⟨hv2, hb3⟩ := hv2
 have hl3 := Le.no M hb3
 have hC3 := hC2.no hb3
 obtain rfl := vbool_eq hv2
 refine lw_op rfl rfl rfl (ow_not rfl rfl ?_)
 refine lw_op rfl rfl rfl (ow_move rfl rfl ?_)
 replace h := cond_some h
 rcases h with ⟨hc1, h⟩ | ⟨hc1, h⟩
 ·
  subst hc1
  refine lw_on rfl rfl rfl rfl rfl rfl (ow_load (R := RPacket) rfl rfl (ARep.mono hl3 hp2) (Tryd.sizeOf45 _) (Tryd.isAgg45 _) fun v3 hv3 => ?_)
  replace h := bind_some h
  obtain ⟨x2, hx2, h⟩ := h
  refine lw_on rfl rfl rfl rfl rfl rfl (ow_call rfl rfl Tryd.call39 (w_spec_PacketValid (hG.mono ((hl1.trans hl2).trans hl3)) hC3.old hv3 hx2) fun v4 w4 hv4 => ?_)
  obtain ⟨hv4, hb4⟩ := hv4
  have hl4 := Le.no M hb4
  have hC4 := hC3.no hb4
  obtain rfl := vbool_eq hv4
  refine lw_on rfl rfl rfl rfl rfl rfl (ow_not rfl rfl ?_)
  refine lw_op rfl rfl rfl (ow_pickF rfl rfl rfl ?_)
  refine lw_nil (ew_then ?_)
  replace h := cond_some h
  rcases h with ⟨hc2, h⟩ | ⟨hc2, h⟩
  ·
   subst hc2
   refine cw_false rfl ?_
   refine cw_skip (ew_then (cw_seq (cw_seq (cw_region (lw_op rfl rfl rfl (ow_assign rfl rfl ?_))))))
   refine lw_nil (ew_then ?_)
   replace h := bind_some h
   obtain ⟨lr1, hlr1, h⟩ := h
   refine cw_for hlr1 (fun s a w' => ∃ (M' : Nat → Prop), Fits 28 [(2, (.pointer (some p1))), (3, (.pointer (some p2))), (5, (.int .i64 s))] a ∧ Le w4 M w' M' ∧ Cx No w M w' M') ?_ ?_ ?_
   ·
    intro a ha
    exact ⟨M, ha.sub ⟨rfl, rfl, rfl, trivial⟩, Le.refl _ _, hC4⟩
   ·
    rintro k1 a w5 sr1 ⟨M1, hF1, hl5, hC5⟩ hb5 hR1
    refine cw_at (E := [(2, (.pointer (some p1))), (3, (.pointer (some p2))), (5, (.int .i64 k1))]) hF1 ?_
    refine cw_seq (cw_seq (cw_region (lw_op rfl rfl rfl (ow_move rfl rfl ?_))))
    refine lw_op rfl rfl rfl (ow_lss rfl rfl rfl fun bb1 hbb1 => ?_)
    refine lw_nil (ew_then ?_)
    replace hb5 := cond_some hb5
    rcases hb5 with ⟨hc3, hb5⟩ | ⟨hc3, hb5⟩
    ·
     obtain rfl := hbb1.trans hc3
     refine cw_true rfl ?_
     refine cw_skip (ew_then (cw_seq (cw_block ?_)))
     refine cw_seq ?_
     replace hb5 := bind_some hb5
     obtain ⟨x3, hx3, hb5⟩ := hb5
     replace hb5 := bind_some hb5
     obtain ⟨x4, hx4, hb5⟩ := hb5
     refine cw_sub (E' := [(2, (.pointer (some p1))), (3, (.pointer (some p2))), (5, (.int .i64 k1))]) ⟨rfl, rfl, rfl, trivial⟩ ?_
     refine cw_drawQ 8 [PA (RSlice (RSlice RSpan)) M1 a_b.Sides, PV (RSlice (RSlice RSpan)) M1 a_b.Sides, PEq (.int .i64 k1), PA (RSlice RSpan) M1 x3, PV (RSlice RSpan) M1 x3, PV RPacket M1 a_p, PEq (.int .i64 k1), PEq (.int .i64 x4)] (by kernel_rfl) rfl (by kernel_rfl) ⟨PA.mono _ _ _, PV.mono _ _ _, PEq.mono _, PA.mono _ _ _, PV.mono _ _ _, PV.mono _ _ _, PEq.mono _, PEq.mono _, trivial⟩ ⟨?_, ?_, ?_, ?_, ?_, ?_, ?_, ?_, trivial⟩ ?_
     ·
      intro w7 D hS1 hd1
      have hl7 := Le.no M1 hS1
      have hC7 := hC5.no hS1
      refine dg_sub (E' := [(2, (.pointer (some p1)))]) ⟨rfl, trivial⟩ ?_
      refine dg_plain rfl (ow_fieldAddr rfl rfl Tryd.underlying27 rfl (Tryd.sizeOf25 _) ?_)
      exact ⟨BX.refl _ _, ⟨_, rfl, (ARep.mono ((((hl2.trans hl3).trans hl4).trans hl5).trans hl7) (hp1.fld fld_Box_Sides))⟩⟩
     ·
      intro w8 D hS2 hd2
      have hl8 := Le.no M1 hS2
      have hC8 := hC5.no hS2
      have hd2 : PA (RSlice (RSlice RSpan)) M1 a_b.Sides (D 0) w8 ∧ True := hd2
      obtain ⟨d1, -⟩ := hd2
      obtain ⟨p4, e1, ha1⟩ := d1
      refine dg_sub (E' := [(18, (.pointer (some p4)))]) ⟨(congrArg some e1), trivial⟩ ?_
      refine dg_plain rfl (ow_load (R := (RSlice (RSlice RSpan))) rfl rfl ha1 (Tryd.sizeOf25 _) (Tryd.isAgg25 _) fun v10 hv10 => ?_)
      exact ⟨BX.refl _ _, hv10⟩
     ·
      intro w9 D hS3 hd3
      have hl9 := Le.no M1 hS3
      have hC9 := hC5.no hS3
      refine dg_sub (E' := [(5, (.int .i64 k1))]) ⟨rfl, trivial⟩ ?_
      refine dg_plain rfl (ow_move rfl rfl ?_)
      exact ⟨BX.refl _ _, rfl⟩
     ·
      intro w10 D hS4 hd4
      have hl10 := Le.no M1 hS4
      have hC10 := hC5.no hS4
      have hd4 : PV (RSlice (RSlice RSpan)) M1 a_b.Sides (D 1) w10 ∧ PEq (.int .i64 k1) (D 2) w10 ∧ True := hd4
      obtain ⟨d2, d3, -⟩ := hd4
      obtain ⟨v11, hq1⟩ : ∃ v, (D 1) = v := ⟨_, rfl⟩
      rw [hq1] at d2
      refine dg_sub (E' := [(19, v11), (20, (.int .i64 k1))]) ⟨(congrArg some hq1), (congrArg some d3), trivial⟩ ?_
      refine dg_plain rfl (ow_indexSlice (R := (RSlice RSpan)) rfl rfl rfl d2 Tryd.underlying25 (Tryd.sizeOf58 _) hx3 fun p5 hp5 => ?_)
      exact ⟨BX.refl _ _, ⟨_, rfl, hp5⟩⟩
     ·
      intro w11 D hS5 hd5
      have hl11 := Le.no M1 hS5
      have hC11 := hC5.no hS5
      have hd5 : PA (RSlice RSpan) M1 x3 (D 3) w11 ∧ True := hd5
      obtain ⟨d4, -⟩ := hd5
      obtain ⟨p6, e2, ha2⟩ := d4
      refine dg_sub (E' := [(21, (.pointer (some p6)))]) ⟨(congrArg some e2), trivial⟩ ?_
      refine dg_plain rfl (ow_load (R := (RSlice RSpan)) rfl rfl ha2 (Tryd.sizeOf58 _) (Tryd.isAgg58 _) fun v12 hv12 => ?_)
      exact ⟨BX.refl _ _, hv12⟩
     ·
      intro w12 D hS6 hd6
      have hl12 := Le.no M1 hS6
      have hC12 := hC5.no hS6
      refine dg_sub (E' := [(3, (.pointer (some p2)))]) ⟨rfl, trivial⟩ ?_
      refine dg_plain rfl (ow_load (R := RPacket) rfl rfl (ARep.mono (((hl3.trans hl4).trans hl5).trans hl12) hp2) (Tryd.sizeOf45 _) (Tryd.isAgg45 _) fun v13 hv13 => ?_)
      exact ⟨BX.refl _ _, hv13⟩
     ·
      intro w13 D hS7 hd7
      have hl13 := Le.no M1 hS7
      have hC13 := hC5.no hS7
      refine dg_sub (E' := [(5, (.int .i64 k1))]) ⟨rfl, trivial⟩ ?_
      refine dg_plain rfl (ow_move rfl rfl ?_)
      exact ⟨BX.refl _ _, rfl⟩
     ·
      intro w14 D hS8 hd8
      have hl14 := Le.no M1 hS8
      have hC14 := hC5.no hS8
      have hd8 : PV RPacket M1 a_p (D 5) w14 ∧ PEq (.int .i64 k1) (D 6) w14 ∧ True := hd8
      obtain ⟨d5, d6, -⟩ := hd8
      obtain ⟨v14, hq2⟩ : ∃ v, (D 5) = v := ⟨_, rfl⟩
      rw [hq2] at d5
      refine dg_sub (E' := [(23, v14), (24, (.int .i64 k1))]) ⟨(congrArg some hq2), (congrArg some d6), trivial⟩ ?_
      refine dg_plain rfl (ow_call rfl rfl Tryd.call79 (w_spec_PacketField (hG.mono (((((hl1.trans hl2).trans hl3).trans hl4).trans hl5).trans hl14)) hC14.old d5 hx4) fun v15 w15 hv15 => ?_)
      obtain ⟨hv15, hb7⟩ := hv15
      have hl15 := Le.no M1 hb7
      have hC15 := hC14.no hb7
      obtain rfl := vint_eq hv15
      exact ⟨hb7, rfl⟩
     ·
      intro w16 D hS9 hd9
      have hd9 : PA (RSlice (RSlice RSpan)) M1 a_b.Sides (D 0) w16 ∧ PV (RSlice (RSlice RSpan)) M1 a_b.Sides (D 1) w16 ∧ PEq (.int .i64 k1) (D 2) w16 ∧ PA (RSlice RSpan) M1 x3 (D 3) w16 ∧ PV (RSlice RSpan) M1 x3 (D 4) w16 ∧ PV RPacket M1 a_p (D 5) w16 ∧ PEq (.int .i64 k1) (D 6) w16 ∧ PEq (.int .i64 x4) (D 7) w16 ∧ True := hd9
      obtain ⟨-, -, -, -, d11, -, -, d14, -⟩ := hd9
      have hl16 := Le.no M1 hS9
      have hC16 := hC5.no hS9
      obtain ⟨v16, hq3⟩ : ∃ v, (D 4) = v := ⟨_, rfl⟩
      rw [hq3] at d11
      refine lw_sub (E' := [(22, v16), (25, (.int .i64 x4)), (2, (.pointer (some p1))), (3, (.pointer (some p2))), (5, (.int .i64 k1))]) ⟨(congrArg some hq3), (congrArg some d14), rfl, rfl, rfl, trivial⟩ ?_
      replace hb5 := bind_some hb5
      obtain ⟨x5, hx5, hb5⟩ := hb5
      refine lw_op rfl rfl rfl (ow_call rfl rfl Tryd.call78 (w_spec_SpansHave (hG.mono (((((hl1.trans hl2).trans hl3).trans hl4).trans hl5).trans hl16)) hC16.old d11 hx5) fun v17 w17 hv17 => ?_)
      obtain ⟨hv17, hb8⟩ := hv17
      have hl17 := Le.no M1 hb8
      have hC17 := hC16.no hb8
      obtain rfl := vbool_eq hv17
      refine lw_op rfl rfl rfl (ow_not rfl rfl ?_)
      refine lw_nil (ew_then ?_)
      replace hb5 := cond_some hb5
      rcases hb5 with ⟨hc4, hb5⟩ | ⟨hc4, hb5⟩
      ·
       subst hc4
       refine cw_false rfl ?_
       refine cw_skip (ew_blockN ?_)
       refine ew_then (cw_region (lw_op rfl rfl rfl (ow_move rfl rfl ?_)))
       refine lw_op rfl rfl rfl (ow_add rfl rfl rfl ?_)
       refine lw_op rfl rfl rfl (ow_assign rfl rfl ?_)
       refine lw_nil (ew_nxt (W (k1 + 1)) hb5 fun a ha => ⟨M1, ?_, ((hl5.trans hl16).trans hl17), hC17⟩)
       exact ha.sub ⟨rfl, rfl, rfl, trivial⟩
      ·
       subst hc4
       refine cw_true rfl ?_
       refine cw_seq (cw_region (lw_op rfl rfl rfl (ow_assign rfl rfl ?_)))
       refine lw_nil (ew_then (cw_ret (ew_blockR ?_)))
       refine ew_thenR (ew_thenR (ew_blockR ?_))
       refine ew_brkR ?_
       refine ew_thenR ?_
       have e3 := hR1 _ (Option.some.inj hb5).symm
       subst e3
       obtain rfl := Option.some.inj h
       exact ew_ret (res1 rfl (.tmp rfl)) ⟨_, rfl, ((vbool _)), hC17.bx⟩
    ·
     obtain rfl := hbb1.trans hc3
     refine cw_false rfl ?_
     refine cw_exit ?_
     refine ew_thenX ?_
     refine ew_thenX ?_
     refine ew_blockX ?_
     refine ew_brk k1 hb5 fun a ha => ⟨M1, ?_, hl5, hC5⟩
     exact ha.sub ⟨rfl, rfl, rfl, trivial⟩
   ·
    rintro k2 a w18 hlr2 ⟨M2, hF2, hl18, hC18⟩
    subst hlr2
    refine ew_at (E := [(2, (.pointer (some p1))), (3, (.pointer (some p2))), (5, (.int .i64 k2))]) hF2 ?_
    refine ew_then (cw_seq (cw_region (lw_op rfl rfl rfl (ow_assign rfl rfl ?_))))
    refine lw_nil (ew_then (cw_ret ?_))
    obtain rfl := Option.some.inj h
    exact ew_ret (res1 rfl (.tmp rfl)) ⟨_, rfl, ((vbool _)), hC18.bx⟩
  ·
   subst hc2
   refine cw_true rfl ?_
   refine cw_seq (cw_region (lw_op rfl rfl rfl (ow_assign rfl rfl ?_)))
   refine lw_nil (ew_then (cw_ret (ew_thenR ?_)))
   obtain rfl := Option.some.inj h
   exact ew_ret (res1 rfl (.tmp rfl)) ⟨_, rfl, ((vbool _)), hC4.bx⟩
 ·
  subst hc1
  refine lw_off rfl rfl rfl rfl rfl rfl ?_
  refine lw_off rfl rfl rfl rfl rfl rfl ?_
  refine lw_off rfl rfl rfl rfl rfl rfl ?_
  refine lw_op rfl rfl rfl (ow_pickT rfl rfl rfl ?_)
  refine lw_nil (ew_then (cw_true rfl ?_))
  refine cw_seq (cw_region (lw_op rfl rfl rfl (ow_assign rfl rfl ?_)))
  refine lw_nil (ew_then (cw_ret (ew_thenR ?_)))
  obtain rfl := Option.some.inj h
  exact ew_ret (res1 rfl (.tmp rfl)) ⟨_, rfl, ((vbool _)), hC3.bx⟩

theorem w_spec_RegionHas {w : World} {M : Nat → Prop} (hG : ARep (RArr 4 RShape) w M shapes ⟨0, 0, none⟩) (hO : ∀ b, M b → b < w.heap.size) {v0p : Value} {a_list : List Box} (h0 : VRep (RSlice RBox) w M a_list v0p) {v1p : Value} {a_p : Packet} (h1 : VRep RPacket w M a_p v1p) {r : Bool} (h : F.spec_RegionHas a_list a_p = some r) :
  Calls Tryd.prog 51 [v0p, v1p].toArray w fun e w' => ∃ v, e = .returned v ∧ VRep RBool w' M r v ∧ BX No w w' := by
 have hC : Cx No w M w M := Cx.start hO (fun _ e => e.elim)
 refine walk (N := 22) Tryd.func51 rfl Tryd.ntmps51 rfl ?_
 refine cw_seq (cw_region (lw_op rfl rfl rfl (ow_box (R := RPacket) rfl rfl h1 hC fun p1 w1 hp1 hb1 hl1 hC1 => ?_)))
 refine lw_op rfl rfl rfl (ow_assign rfl rfl ?_)
 refine lw_nil (ew_then (cw_seq (cw_seq (cw_region (lw_op rfl rfl rfl (ow_assign rfl rfl ?_))))))
 refine lw_nil (ew_then ?_)
 replace h := bind_some h
 obtain ⟨lr1, hlr1, h⟩ := h
 refine cw_for hlr1 (fun s a w' => ∃ (M' : Nat → Prop), Fits 22 [(0, v0p), (3, (.pointer (some p1))), (5, (.int .i64 s))] a ∧ Le w1 M w' M' ∧ Cx No w M w' M') ?_ ?_ ?_
 ·
  intro a ha
  exact ⟨M, ha.sub ⟨rfl, rfl, rfl, trivial⟩, Le.refl _ _, hC1⟩
 ·
  rintro k1 a w2 sr1 ⟨M1, hF1, hl2, hC2⟩ hb2 hR1
  refine cw_at (E := [(0, v0p), (3, (.pointer (some p1))), (5, (.int .i64 k1))]) hF1 ?_
  refine cw_seq (cw_seq (cw_region (lw_op rfl rfl rfl (ow_move rfl rfl ?_))))
  refine lw_op rfl rfl rfl (ow_move rfl rfl ?_)
  refine lw_op rfl rfl rfl (ow_len rfl rfl (VRep.mono (hl1.trans hl2) h0) Tryd.underlying34 rfl ?_)
  refine lw_op rfl rfl rfl (ow_lss rfl rfl rfl fun bb1 hbb1 => ?_)
  refine lw_op rfl rfl rfl (ow_move rfl rfl ?_)
  replace hb2 := cond_some hb2
  rcases hb2 with ⟨hc1, hb2⟩ | ⟨hc1, hb2⟩
  ·
   obtain rfl := hbb1.trans hc1
   refine lw_on rfl rfl rfl rfl rfl rfl (ow_move rfl rfl ?_)
   replace hb2 := bind_some hb2
   obtain ⟨x1, hx1, hb2⟩ := hb2
   refine lw_on rfl rfl rfl rfl rfl rfl (ow_call rfl rfl Tryd.call22 (w_spec_RegionValid (hG.mono (hl1.trans hl2)) hC2.old (VRep.mono (hl1.trans hl2) h0) hx1) fun v2 w3 hv2 => ?_)
   obtain ⟨hv2, hb3⟩ := hv2
   have hl3 := Le.no M1 hb3
   have hC3 := hC2.no hb3
   obtain rfl := vbool_eq hv2
   refine lw_op rfl rfl rfl (ow_pickT rfl rfl rfl ?_)
   refine lw_nil (ew_then ?_)
   replace hb2 := cond_some hb2
   rcases hb2 with ⟨hc2, hb2⟩ | ⟨hc2, hb2⟩
   ·
    subst hc2
    refine cw_true rfl ?_
    refine cw_skip (ew_then (cw_seq (cw_block ?_)))
    refine cw_seq ?_
    replace hb2 := bind_some hb2
    obtain ⟨x2, hx2, hb2⟩ := hb2
    refine cw_sub (E' := [(0, v0p), (3, (.pointer (some p1))), (5, (.int .i64 k1))]) ⟨rfl, rfl, rfl, trivial⟩ ?_
    refine cw_drawQ 5 [PV (RSlice RBox) M1 a_list, PEq (.int .i64 k1), PA RBox M1 x2, PV RBox M1 x2, PV RPacket M1 a_p] (by kernel_rfl) rfl (by kernel_rfl) ⟨PV.mono _ _ _, PEq.mono _, PA.mono _ _ _, PV.mono _ _ _, PV.mono _ _ _, trivial⟩ ⟨?_, ?_, ?_, ?_, ?_, trivial⟩ ?_
    ·
     intro w4 D hS1 hd1
     have hl4 := Le.no M1 hS1
     have hC4 := hC3.no hS1
     refine dg_sub (E' := [(0, v0p)]) ⟨rfl, trivial⟩ ?_
     refine dg_plain rfl (ow_move rfl rfl ?_)
     exact ⟨BX.refl _ _, (VRep.mono (((hl1.trans hl2).trans hl3).trans hl4) h0)⟩
    ·
     intro w5 D hS2 hd2
     have hl5 := Le.no M1 hS2
     have hC5 := hC3.no hS2
     refine dg_sub (E' := [(5, (.int .i64 k1))]) ⟨rfl, trivial⟩ ?_
     refine dg_plain rfl (ow_move rfl rfl ?_)
     exact ⟨BX.refl _ _, rfl⟩
    ·
     intro w6 D hS3 hd3
     have hl6 := Le.no M1 hS3
     have hC6 := hC3.no hS3
     have hd3 : PV (RSlice RBox) M1 a_list (D 0) w6 ∧ PEq (.int .i64 k1) (D 1) w6 ∧ True := hd3
     obtain ⟨d1, d2, -⟩ := hd3
     obtain ⟨v5, hq1⟩ : ∃ v, (D 0) = v := ⟨_, rfl⟩
     rw [hq1] at d1
     refine dg_sub (E' := [(16, v5), (17, (.int .i64 k1))]) ⟨(congrArg some hq1), (congrArg some d2), trivial⟩ ?_
     refine dg_plain rfl (ow_indexSlice (R := RBox) rfl rfl rfl d1 Tryd.underlying34 (Tryd.sizeOf27 _) hx2 fun p3 hp3 => ?_)
     exact ⟨BX.refl _ _, ⟨_, rfl, hp3⟩⟩
    ·
     intro w7 D hS4 hd4
     have hl7 := Le.no M1 hS4
     have hC7 := hC3.no hS4
     have hd4 : PA RBox M1 x2 (D 2) w7 ∧ True := hd4
     obtain ⟨d3, -⟩ := hd4
     obtain ⟨p4, e1, ha1⟩ := d3
     refine dg_sub (E' := [(18, (.pointer (some p4)))]) ⟨(congrArg some e1), trivial⟩ ?_
     refine dg_plain rfl (ow_load (R := RBox) rfl rfl ha1 (Tryd.sizeOf27 _) (Tryd.isAgg27 _) fun v6 hv6 => ?_)
     exact ⟨BX.refl _ _, hv6⟩
    ·
     intro w8 D hS5 hd5
     have hl8 := Le.no M1 hS5
     have hC8 := hC3.no hS5
     refine dg_sub (E' := [(3, (.pointer (some p1)))]) ⟨rfl, trivial⟩ ?_
     refine dg_plain rfl (ow_load (R := RPacket) rfl rfl (ARep.mono ((hl2.trans hl3).trans hl8) hp1) (Tryd.sizeOf45 _) (Tryd.isAgg45 _) fun v7 hv7 => ?_)
     exact ⟨BX.refl _ _, hv7⟩
    ·
     intro w9 D hS6 hd6
     have hd6 : PV (RSlice RBox) M1 a_list (D 0) w9 ∧ PEq (.int .i64 k1) (D 1) w9 ∧ PA RBox M1 x2 (D 2) w9 ∧ PV RBox M1 x2 (D 3) w9 ∧ PV RPacket M1 a_p (D 4) w9 ∧ True := hd6
     obtain ⟨-, -, -, d7, d8, -⟩ := hd6
     have hl9 := Le.no M1 hS6
     have hC9 := hC3.no hS6
     obtain ⟨v8, hq2⟩ : ∃ v, (D 3) = v := ⟨_, rfl⟩
     rw [hq2] at d7
     obtain ⟨v9, hq3⟩ : ∃ v, (D 4) = v := ⟨_, rfl⟩
     rw [hq3] at d8
     refine lw_sub (E' := [(19, v8), (20, v9), (0, v0p), (3, (.pointer (some p1))), (5, (.int .i64 k1))]) ⟨(congrArg some hq2), (congrArg some hq3), rfl, rfl, rfl, trivial⟩ ?_
     replace hb2 := bind_some hb2
     obtain ⟨x3, hx3, hb2⟩ := hb2
     refine lw_op rfl rfl rfl (ow_call rfl rfl Tryd.call37 (w_spec_BoxHas (hG.mono (((hl1.trans hl2).trans hl3).trans hl9)) hC9.old d7 d8 hx3) fun v10 w10 hv10 => ?_)
     obtain ⟨hv10, hb4⟩ := hv10
     have hl10 := Le.no M1 hb4
     have hC10 := hC9.no hb4
     obtain rfl := vbool_eq hv10
     refine lw_nil (ew_then ?_)
     replace hb2 := cond_some hb2
     rcases hb2 with ⟨hc3, hb2⟩ | ⟨hc3, hb2⟩
     ·
      subst hc3
      refine cw_true rfl ?_
      refine cw_seq (cw_region (lw_op rfl rfl rfl (ow_assign rfl rfl ?_)))
      refine lw_nil (ew_then (cw_ret (ew_blockR ?_)))
      refine ew_thenR (ew_thenR (ew_blockR ?_))
      refine ew_brkR ?_
      refine ew_thenR ?_
      have e2 := hR1 _ (Option.some.inj hb2).symm
      subst e2
      obtain rfl := Option.some.inj h
      exact ew_ret (res1 rfl (.tmp rfl)) ⟨_, rfl, ((vbool _)), hC10.bx⟩
     ·
      subst hc3
      refine cw_false rfl ?_
      refine cw_skip (ew_blockN ?_)
      refine ew_then (cw_region (lw_op rfl rfl rfl (ow_move rfl rfl ?_)))
      refine lw_op rfl rfl rfl (ow_add rfl rfl rfl ?_)
      refine lw_op rfl rfl rfl (ow_assign rfl rfl ?_)
      refine lw_nil (ew_nxt (W (k1 + 1)) hb2 fun a ha => ⟨M1, ?_, (((hl2.trans hl3).trans hl9).trans hl10), hC10⟩)
      exact ha.sub ⟨rfl, rfl, rfl, trivial⟩
   ·
    subst hc2
    refine cw_false rfl ?_
    refine cw_exit ?_
    refine ew_thenX ?_
    refine ew_thenX ?_
    refine ew_blockX ?_
    refine ew_brk k1 hb2 fun a ha => ⟨M1, ?_, (hl2.trans hl3), hC3⟩
    exact ha.sub ⟨rfl, rfl, rfl, trivial⟩
  ·
   obtain rfl := hbb1.trans hc1
   refine lw_off rfl rfl rfl rfl rfl rfl ?_
   refine lw_off rfl rfl rfl rfl rfl rfl ?_
   refine lw_op rfl rfl rfl (ow_pickF rfl rfl rfl ?_)
   refine lw_nil (ew_then (cw_false rfl ?_))
   refine cw_exit ?_
   refine ew_thenX ?_
   refine ew_thenX ?_
   refine ew_blockX ?_
   refine ew_brk k1 hb2 fun a ha => ⟨M1, ?_, hl2, hC2⟩
   exact ha.sub ⟨rfl, rfl, rfl, trivial⟩
 ·
  rintro k2 a w11 hlr2 ⟨M2, hF2, hl11, hC11⟩
  subst hlr2
  refine ew_at (E := [(0, v0p), (3, (.pointer (some p1))), (5, (.int .i64 k2))]) hF2 ?_
  refine ew_then (cw_seq (cw_region (lw_op rfl rfl rfl (ow_assign rfl rfl ?_))))
  refine lw_nil (ew_then (cw_ret ?_))
  obtain rfl := Option.some.inj h
  exact ew_ret (res1 rfl (.tmp rfl)) ⟨_, rfl, ((vbool _)), hC11.bx⟩

theorem w_laws_FnRegionHas {w : World} {M : Nat → Prop} (hG : ARep (RArr 4 RShape) w M shapes ⟨0, 0, none⟩) (hO : ∀ b, M b → b < w.heap.size) {v0p : Value} {a_code : List Int} (h0 : VRep (RSlice RU8) w M a_code v0p) {r : Bool} (h : F.laws_FnRegionHas a_code = some r) :
  Calls Tryd.prog 12 [v0p].toArray w fun e w' => ∃ v, e = .returned v ∧ VRep RBool w' M r v ∧ BX No w w' := by
 have hC : Cx No w M w M := Cx.start hO (fun _ e => e.elim)
 refine walk (N := 53) Tryd.func12 rfl Tryd.ntmps12 rfl ?_
 refine cw_seq (cw_region (lw_op rfl rfl rfl (ow_assign rfl rfl ?_)))
 refine lw_nil (ew_then (cw_seq (cw_seq (cw_region (lw_op rfl rfl rfl (ow_move rfl rfl ?_))))))
 refine lw_op rfl rfl rfl (ow_len rfl rfl h0 Tryd.underlying22 rfl ?_)
 refine lw_op rfl rfl rfl (ow_gtr rfl rfl rfl fun bb1 hbb1 => ?_)
 refine lw_nil (ew_then ?_)
 replace h := cond_some h
 rcases h with ⟨hc1, h⟩ | ⟨hc1, h⟩
 ·
  obtain rfl := hbb1.trans hc1
  refine cw_true rfl ?_
  refine cw_seq (cw_region (lw_op rfl rfl rfl (ow_assign rfl rfl ?_)))
  refine lw_nil (ew_then (cw_ret (ew_thenR ?_)))
  obtain rfl := Option.some.inj h
  exact ew_ret (res1 rfl (.tmp rfl)) ⟨_, rfl, ((vbool _)), hC.bx⟩
 ·
  obtain rfl := hbb1.trans hc1
  refine cw_false rfl ?_
  refine cw_skip (ew_then (cw_seq (cw_region (lw_op rfl rfl rfl (ow_move rfl rfl ?_)))))
  replace h := bind_some h
  obtain ⟨x1, hx1, h⟩ := h
  refine lw_op rfl rfl rfl (ow_call rfl rfl Tryd.call49 (w_spec_DrawRegionHas hG hC.old h0 hx1) fun v1 w1 hv1 => ?_)
  obtain ⟨⟨v2, v3, rfl, hv2, hv3⟩, hb1⟩ := hv1
  have hl1 := Le.no M hb1
  have hC1 := hC.no hb1
  refine lw_op rfl rfl rfl (ow_move rfl rfl ?_)
  refine lw_op rfl rfl rfl (ow_extract rfl rfl rfl ?_)
  refine lw_op rfl rfl rfl (ow_extract rfl rfl rfl ?_)
  refine lw_op rfl rfl rfl (ow_alloc rfl (Tryd.zeroValue45 _) hC1 fun g1 w2 hg1 hg2 ho1 hb2 hl2 hC2 => ?_)
  have hm1 : (Add g1 M) g1 := .inl rfl
  refine lw_op rfl rfl rfl (ow_assign rfl rfl ?_)
  obtain rfl := open_Packet hv3
  refine lw_op0 rfl rfl (ow_store (X := No) (us := [(.int .i64 x1.2.From), (.int .i64 x1.2.To), (.int .i64 x1.2.Port), (.int .i64 x1.2.Proto)]) (cs' := #[(.int .i64 x1.2.From), (.int .i64 x1.2.To), (.int .i64 x1.2.Port), (.int .i64 x1.2.Proto)]) rfl rfl rfl rfl ho1 (Tryd.sizeOf45 _) rfl rfl rfl rfl hm1 (.inl hg2) rfl hC2 fun w3 ho2 hb3 hl3 hC3 => ?_)
  refine lw_nil (ew_then (cw_seq (cw_region (lw_op rfl rfl rfl (ow_move rfl rfl ?_)))))
  refine lw_op rfl rfl rfl (ow_loadOwnA rfl rfl rfl ho2 (Tryd.isAgg45 _) (Tryd.sizeOf45 _) rfl ?_)
  have hw1 : VRep RPacket w3 (Add g1 M) ({ From := x1.2.From, To := x1.2.To, Port := x1.2.Port, Proto := x1.2.Proto } : Packet) (.agg #[(.int .i64 x1.2.From), (.int .i64 x1.2.To), (.int .i64 x1.2.Port), (.int .i64 x1.2.Proto)]) := shut_Packet
  replace h := bind_some h
  obtain ⟨x2, hx2, h⟩ := h
  refine lw_op rfl rfl rfl (ow_call rfl rfl Tryd.call50 (w_impl_RegionHas (hG.mono ((hl1.trans hl2).trans hl3)) hC3.old (VRep.mono (hl2.trans hl3) hv2) hw1 hx2) fun v4 w4 hv4 => ?_)
  obtain ⟨hv4, hb4⟩ := hv4
  have hl4 := Le.no (Add g1 M) hb4
  have hC4 := hC3.no hb4
  have ho3 := ho2.no hb4
  obtain rfl := vbool_eq hv4
  refine lw_op rfl rfl rfl (ow_assign rfl rfl ?_)
  refine lw_nil (ew_then (cw_seq (cw_seq (cw_region (lw_op rfl rfl rfl (ow_move rfl rfl ?_))))))
  refine lw_op rfl rfl rfl (ow_move rfl rfl ?_)
  refine lw_op rfl rfl rfl (ow_loadOwnA rfl rfl rfl ho3 (Tryd.isAgg45 _) (Tryd.sizeOf45 _) rfl ?_)
  have hw2 : VRep RPacket w4 (Add g1 M) ({ From := x1.2.From, To := x1.2.To, Port := x1.2.Port, Proto := x1.2.Proto } : Packet) (.agg #[(.int .i64 x1.2.From), (.int .i64 x1.2.To), (.int .i64 x1.2.Port), (.int .i64 x1.2.Proto)]) := shut_Packet
  replace h := bind_some h
  obtain ⟨x3, hx3, h⟩ := h
  refine lw_op rfl rfl rfl (ow_call rfl rfl Tryd.call51 (w_spec_RegionHas (hG.mono (((hl1.trans hl2).trans hl3).trans hl4)) hC4.old (VRep.mono ((hl2.trans hl3).trans hl4) hv2) hw2 hx3) fun v5 w5 hv5 => ?_)
  obtain ⟨hv5, hb5⟩ := hv5
  have hl5 := Le.no (Add g1 M) hb5
  have hC5 := hC4.no hb5
  have ho4 := ho3.no hb5
  obtain rfl := vbool_eq hv5
  refine lw_op rfl rfl rfl (ow_neqB rfl rfl rfl Tryd.underlying4 fun bb2 hbb2 => ?_)
  refine lw_nil (ew_then ?_)
  replace h := cond_some h
  rcases h with ⟨hc2, h⟩ | ⟨hc2, h⟩
  ·
   obtain rfl := hbb2.trans hc2
   refine cw_true rfl ?_
   refine cw_seq (cw_region (lw_op rfl rfl rfl (ow_assign rfl rfl ?_)))
   refine lw_nil (ew_then (cw_ret (ew_thenR ?_)))
   obtain rfl := Option.some.inj h
   exact ew_ret (res1 rfl (.tmp rfl)) ⟨_, rfl, ((vbool _)), hC5.bx⟩
  ·
   obtain rfl := hbb2.trans hc2
   refine cw_false rfl ?_
   refine cw_skip (ew_then (cw_seq (cw_seq (cw_region (lw_op rfl rfl rfl (ow_move rfl rfl ?_))))))
   replace h := bind_some h
   obtain ⟨x4, hx4, h⟩ := h
   refine lw_op rfl rfl rfl (ow_call rfl rfl Tryd.call22 (w_spec_RegionValid (hG.mono ((((hl1.trans hl2).trans hl3).trans hl4).trans hl5)) hC5.old (VRep.mono (((hl2.trans hl3).trans hl4).trans hl5) hv2) hx4) fun v6 w6 hv6 => ?_)
   obtain ⟨hv6, hb6⟩ := hv6
   have hl6 := Le.no (Add g1 M) hb6
   have hC6 := hC5.no hb6
   have ho5 := ho4.no hb6
   obtain rfl := vbool_eq hv6
   refine lw_op rfl rfl rfl (ow_not rfl rfl ?_)
   refine lw_nil (ew_then ?_)
   replace h := cond_some h
   rcases h with ⟨hc3, h⟩ | ⟨hc3, h⟩
   ·
    subst hc3
    refine cw_false rfl ?_
    refine cw_skip (ew_then (cw_seq (cw_region (lw_op rfl rfl rfl (ow_move rfl rfl ?_)))))
    refine lw_op rfl rfl rfl (ow_len rfl rfl (VRep.mono ((((hl2.trans hl3).trans hl4).trans hl5).trans hl6) hv2) Tryd.underlying34 rfl ?_)
    refine lw_op rfl rfl rfl (ow_quo rfl rfl rfl (by decide) ?_)
    refine lw_op rfl rfl rfl (ow_assign rfl rfl ?_)
    refine lw_nil (ew_then (cw_seq ?_))
    replace h := bind_some h
    obtain ⟨y1, hy1, h⟩ := h
    replace h := bind_some h
    obtain ⟨x5, hx5, h⟩ := h
    replace h := cond_some h
    rcases h with ⟨hc4, h⟩ | ⟨hc4, h⟩
    ·
     subst hc4
     refine cw_sub (E' := [(2, (.bool false)), (3, v2), (4, (.pointer (some ⟨g1, 0, none⟩))), (5, (.bool x2)), (6, (.int .i64 (W (((x1.1.length : Int)).tdiv 2))))]) ⟨rfl, rfl, rfl, rfl, rfl, trivial⟩ ?_
     refine cw_drawQ 13 [PEq (.bool x2), PV (RSlice RBox) (Add g1 M) x1.1, PEq (.int .i64 (W (((x1.1.length : Int)).tdiv 2))), PV (RSlice RBox) (Add g1 M) y1, PV RPacket (Add g1 M) ({ From := x1.2.From, To := x1.2.To, Port := x1.2.Port, Proto := x1.2.Proto } : Packet), PEq (.bool true), PEq (.bool true), PEq undef, PEq undef, PEq undef, PEq undef, PEq undef, PEq (.bool true)] (by kernel_rfl) rfl (by kernel_rfl) ⟨PEq.mono _, PV.mono _ _ _, PEq.mono _, PV.mono _ _ _, PV.mono _ _ _, PEq.mono _, PEq.mono _, PEq.mono _, PEq.mono _, PEq.mono _, PEq.mono _, PEq.mono _, PEq.mono _, trivial⟩ ⟨?_, ?_, ?_, ?_, ?_, ?_, ?_, ?_, ?_, ?_, ?_, ?_, ?_, trivial⟩ ?_
     ·
      intro w8 D hS1 hd1
      have hl8 := Le.no (Add g1 M) hS1
      have hC8 := hC6.no hS1
      have ho7 := ho5.no hS1
      refine dg_sub (E' := [(5, (.bool x2))]) ⟨rfl, trivial⟩ ?_
      refine dg_plain rfl (ow_move rfl rfl ?_)
      exact ⟨BX.refl _ _, rfl⟩
     ·
      intro w9 D hS2 hd2
      have hl9 := Le.no (Add g1 M) hS2
      have hC9 := hC6.no hS2
      have ho8 := ho5.no hS2
      refine dg_sub (E' := [(3, v2)]) ⟨rfl, trivial⟩ ?_
      refine dg_plain rfl (ow_move rfl rfl ?_)
      exact ⟨BX.refl _ _, (VRep.mono (((((hl2.trans hl3).trans hl4).trans hl5).trans hl6).trans hl9) hv2)⟩
     ·
      intro w10 D hS3 hd3
      have hl10 := Le.no (Add g1 M) hS3
      have hC10 := hC6.no hS3
      have ho9 := ho5.no hS3
      refine dg_sub (E' := [(6, (.int .i64 (W (((x1.1.length : Int)).tdiv 2))))]) ⟨rfl, trivial⟩ ?_
      refine dg_plain rfl (ow_move rfl rfl ?_)
      exact ⟨BX.refl _ _, rfl⟩
     ·
      intro w11 D hS4 hd4
      have hl11 := Le.no (Add g1 M) hS4
      have hC11 := hC6.no hS4
      have ho10 := ho5.no hS4
      have hd4 : PV (RSlice RBox) (Add g1 M) x1.1 (D 1) w11 ∧ PEq (.int .i64 (W (((x1.1.length : Int)).tdiv 2))) (D 2) w11 ∧ True := hd4
      obtain ⟨d1, d2, -⟩ := hd4
      obtain ⟨v9, hq1⟩ : ∃ v, (D 1) = v := ⟨_, rfl⟩
      rw [hq1] at d1
      refine dg_sub (E' := [(35, v9), (36, (.int .i64 (W (((x1.1.length : Int)).tdiv 2))))]) ⟨(congrArg some hq1), (congrArg some d2), trivial⟩ ?_
      refine dg_plain rfl (ow_sliceTo (R := RBox) rfl rfl rfl d1 Tryd.underlying34 (Tryd.sizeOf27 _) (takeF_some hy1).2 fun v10 hv10 => ?_)
      rw [← (takeF_some hy1).1] at hv10
      exact ⟨BX.refl _ _, hv10⟩
     ·
      intro w12 D hS5 hd5
      have hl12 := Le.no (Add g1 M) hS5
      have hC12 := hC6.no hS5
      have ho11 := ho5.no hS5
      refine dg_sub (E' := [(4, (.pointer (some ⟨g1, 0, none⟩)))]) ⟨rfl, trivial⟩ ?_
      refine dg_plain rfl (ow_loadOwnA rfl rfl rfl ho11 (Tryd.isAgg45 _) (Tryd.sizeOf45 _) rfl ?_)
      have hw4 : VRep RPacket w12 (Add g1 M) ({ From := x1.2.From, To := x1.2.To, Port := x1.2.Port, Proto := x1.2.Proto } : Packet) (.agg #[(.int .i64 x1.2.From), (.int .i64 x1.2.To), (.int .i64 x1.2.Port), (.int .i64 x1.2.Proto)]) := shut_Packet
      exact ⟨BX.refl _ _, hw4⟩
     ·
      intro w13 D hS6 hd6
      have hl13 := Le.no (Add g1 M) hS6
      have hC13 := hC6.no hS6
      have ho12 := ho5.no hS6
      have hd6 : PV (RSlice RBox) (Add g1 M) y1 (D 3) w13 ∧ PV RPacket (Add g1 M) ({ From := x1.2.From, To := x1.2.To, Port := x1.2.Port, Proto := x1.2.Proto } : Packet) (D 4) w13 ∧ True := hd6
      obtain ⟨d3, d4, -⟩ := hd6
      obtain ⟨v11, hq2⟩ : ∃ v, (D 3) = v := ⟨_, rfl⟩
      rw [hq2] at d3
      obtain ⟨v12, hq3⟩ : ∃ v, (D 4) = v := ⟨_, rfl⟩
      rw [hq3] at d4
      refine dg_sub (E' := [(37, v11), (38, v12)]) ⟨(congrArg some hq2), (congrArg some hq3), trivial⟩ ?_
      refine dg_plain rfl (ow_call rfl rfl Tryd.call50 (w_impl_RegionHas (hG.mono ((((((hl1.trans hl2).trans hl3).trans hl4).trans hl5).trans hl6).trans hl13)) hC13.old d3 d4 hx5) fun v13 w14 hv13 => ?_)
      obtain ⟨hv13, hb8⟩ := hv13
      have hl14 := Le.no (Add g1 M) hb8
      have hC14 := hC13.no hb8
      have ho13 := ho12.no hb8
      obtain rfl := vbool_eq hv13
      exact ⟨hb8, rfl⟩
     ·
      intro w15 D hS7 hd7
      have hl15 := Le.no (Add g1 M) hS7
      have hC15 := hC6.no hS7
      have ho14 := ho5.no hS7
      have hd7 : PEq (.bool true) (D 5) w15 ∧ PEq (.bool true) (D 5) w15 ∧ True := hd7
      obtain ⟨d5, d6, -⟩ := hd7
      refine dg_sub (E' := [(39, (.bool true))]) ⟨(congrArg some d5), trivial⟩ ?_
      refine dg_plain rfl (ow_move rfl rfl ?_)
      exact ⟨BX.refl _ _, rfl⟩
     ·
      intro w16 D hS8 hd8
      have hl16 := Le.no (Add g1 M) hS8
      have hC16 := hC6.no hS8
      have ho15 := ho5.no hS8
      have hd8 : PEq (.bool true) (D 6) w16 ∧ True := hd8
      obtain ⟨d7, -⟩ := hd8
      refine dg_sub (E' := [(40, (.bool true)), (3, v2)]) ⟨(congrArg some d7), rfl, trivial⟩ ?_
      exact dg_off rfl rfl rfl rfl ⟨BX.refl _ _, rfl⟩
     ·
      intro w17 D hS9 hd9
      have hl17 := Le.no (Add g1 M) hS9
      have hC17 := hC6.no hS9
      have ho16 := ho5.no hS9
      have hd9 : PEq (.bool true) (D 6) w17 ∧ True := hd9
      obtain ⟨d8, -⟩ := hd9
      refine dg_sub (E' := [(40, (.bool true)), (6, (.int .i64 (W (((x1.1.length : Int)).tdiv 2))))]) ⟨(congrArg some d8), rfl, trivial⟩ ?_
      exact dg_off rfl rfl rfl rfl ⟨BX.refl _ _, rfl⟩
     ·
      intro w18 D hS10 hd10
      have hl18 := Le.no (Add g1 M) hS10
      have hC18 := hC6.no hS10
      have ho17 := ho5.no hS10
      have hd10 : PEq undef (D 7) w18 ∧ PEq undef (D 8) w18 ∧ PEq (.bool true) (D 6) w18 ∧ True := hd10
      obtain ⟨d9, d10, d11, -⟩ := hd10
      refine dg_sub (E' := [(41, undef), (42, undef), (40, (.bool true))]) ⟨(congrArg some d9), (congrArg some d10), (congrArg some d11), trivial⟩ ?_
      exact dg_off rfl rfl rfl rfl ⟨BX.refl _ _, rfl⟩
     ·
      intro w19 D hS11 hd11
      have hl19 := Le.no (Add g1 M) hS11
      have hC19 := hC6.no hS11
      have ho18 := ho5.no hS11
      have hd11 : PEq (.bool true) (D 6) w19 ∧ True := hd11
      obtain ⟨d12, -⟩ := hd11
      refine dg_sub (E' := [(40, (.bool true)), (4, (.pointer (some ⟨g1, 0, none⟩)))]) ⟨(congrArg some d12), rfl, trivial⟩ ?_
      exact dg_off rfl rfl rfl rfl ⟨BX.refl _ _, rfl⟩
     ·
      intro w20 D hS12 hd12
      have hl20 := Le.no (Add g1 M) hS12
      have hC20 := hC6.no hS12
      have ho19 := ho5.no hS12
      have hd12 : PEq undef (D 9) w20 ∧ PEq undef (D 10) w20 ∧ PEq (.bool true) (D 6) w20 ∧ PEq (.bool true) (D 6) w20 ∧ True := hd12
      obtain ⟨d13, d14, d15, d16, -⟩ := hd12
      refine dg_sub (E' := [(43, undef), (44, undef), (40, (.bool true))]) ⟨(congrArg some d13), (congrArg some d14), (congrArg some d15), trivial⟩ ?_
      exact dg_off rfl rfl rfl rfl ⟨BX.refl _ _, rfl⟩
     ·
      intro w21 D hS13 hd13
      have hl21 := Le.no (Add g1 M) hS13
      have hC21 := hC6.no hS13
      have ho20 := ho5.no hS13
      have hd13 : PEq (.bool true) (D 6) w21 ∧ PEq undef (D 11) w21 ∧ True := hd13
      obtain ⟨d17, d18, -⟩ := hd13
      refine dg_sub (E' := [(40, (.bool true)), (45, undef)]) ⟨(congrArg some d17), (congrArg some d18), trivial⟩ ?_
      refine dg_plain rfl (ow_pickT rfl rfl rfl ?_)
      exact ⟨BX.refl _ _, rfl⟩
     ·
      intro w22 D hS14 hd14
      have hd14 : PEq (.bool x2) (D 0) w22 ∧ PV (RSlice RBox) (Add g1 M) x1.1 (D 1) w22 ∧ PEq (.int .i64 (W (((x1.1.length : Int)).tdiv 2))) (D 2) w22 ∧ PV (RSlice RBox) (Add g1 M) y1 (D 3) w22 ∧ PV RPacket (Add g1 M) ({ From := x1.2.From, To := x1.2.To, Port := x1.2.Port, Proto := x1.2.Proto } : Packet) (D 4) w22 ∧ PEq (.bool true) (D 5) w22 ∧ PEq (.bool true) (D 6) w22 ∧ PEq undef (D 7) w22 ∧ PEq undef (D 8) w22 ∧ PEq undef (D 9) w22 ∧ PEq undef (D 10) w22 ∧ PEq undef (D 11) w22 ∧ PEq (.bool true) (D 12) w22 ∧ True := hd14
      obtain ⟨d19, -, -, -, -, -, -, -, -, -, -, -, d31, -⟩ := hd14
      have hl22 := Le.no (Add g1 M) hS14
      have hC22 := hC6.no hS14
      have ho21 := ho5.no hS14
      obtain ⟨bb3, hq4, hq5⟩ : ∃ b, b = x2 ∧ (D 0) = .bool b := ⟨_, rfl, d19⟩
      refine lw_sub (E' := [(34, (.bool bb3)), (46, (.bool true)), (2, (.bool false)), (3, v2), (4, (.pointer (some ⟨g1, 0, none⟩))), (5, (.bool x2)), (6, (.int .i64 (W (((x1.1.length : Int)).tdiv 2))))]) ⟨(congrArg some hq5), (congrArg some d31), rfl, rfl, rfl, rfl, rfl, trivial⟩ ?_
      refine lw_op rfl rfl rfl (ow_eqlB rfl rfl rfl Tryd.underlying4 fun bb4 hbb4 => ?_)
      have hbb4' : bb4 = (x2 == true) := hbb4.trans (by rw [hq4])
      refine lw_op rfl rfl rfl (ow_move rfl rfl ?_)
      replace h := cond_some h
      rcases h with ⟨hc5, h⟩ | ⟨hc5, h⟩
      ·
       obtain rfl := hbb4'.trans hc5
       refine lw_on rfl rfl rfl rfl rfl rfl (ow_loadOwnA rfl rfl rfl ho21 (Tryd.isAgg45 _) (Tryd.sizeOf45 _) rfl ?_)
       have hw5 : VRep RPacket w22 (Add g1 M) ({ From := x1.2.From, To := x1.2.To, Port := x1.2.Port, Proto := x1.2.Proto } : Packet) (.agg #[(.int .i64 x1.2.From), (.int .i64 x1.2.To), (.int .i64 x1.2.Port), (.int .i64 x1.2.Proto)]) := shut_Packet
       replace h := bind_some h
       obtain ⟨x6, hx6, h⟩ := h
       refine lw_on rfl rfl rfl rfl rfl rfl (ow_call rfl rfl Tryd.call50 (w_impl_RegionHas (hG.mono ((((((hl1.trans hl2).trans hl3).trans hl4).trans hl5).trans hl6).trans hl22)) hC22.old (vslice_nil (R := RBox) (w := w22) (M := (Add g1 M))) hw5 hx6) fun v14 w23 hv14 => ?_)
       obtain ⟨hv14, hb9⟩ := hv14
       have hl23 := Le.no (Add g1 M) hb9
       have hC23 := hC22.no hb9
       have ho22 := ho21.no hb9
       obtain rfl := vbool_eq hv14
       refine lw_on rfl rfl rfl rfl rfl rfl (ow_not rfl rfl ?_)
       refine lw_op rfl rfl rfl (ow_pickT rfl rfl rfl ?_)
       refine lw_op rfl rfl rfl (ow_assign rfl rfl ?_)
       refine lw_nil (ew_then (cw_ret ?_))
       obtain rfl := Option.some.inj h
       exact ew_ret (res1 rfl (.tmp rfl)) ⟨_, rfl, ((vbool _)), hC23.bx⟩
      ·
       obtain rfl := hbb4'.trans hc5
       refine lw_off rfl rfl rfl rfl rfl rfl ?_
       refine lw_off rfl rfl rfl rfl rfl rfl ?_
       refine lw_off rfl rfl rfl rfl rfl rfl ?_
       refine lw_op rfl rfl rfl (ow_pickF rfl rfl rfl ?_)
       refine lw_op rfl rfl rfl (ow_assign rfl rfl ?_)
       refine lw_nil (ew_then (cw_ret ?_))
       obtain rfl := Option.some.inj h
       exact ew_ret (res1 rfl (.tmp rfl)) ⟨_, rfl, ((vbool _)), hC22.bx⟩
    ·
     subst hc4
     replace h := bind_some h
     obtain ⟨y2, hy2, h⟩ := h
     replace h := bind_some h
     obtain ⟨x7, hx7, h⟩ := h
     refine cw_sub (E' := [(2, (.bool false)), (3, v2), (4, (.pointer (some ⟨g1, 0, none⟩))), (5, (.bool x2)), (6, (.int .i64 (W (((x1.1.length : Int)).tdiv 2))))]) ⟨rfl, rfl, rfl, rfl, rfl, trivial⟩ ?_
     refine cw_drawQ 13 [PEq (.bool x2), PV (RSlice RBox) (Add g1 M) x1.1, PEq (.int .i64 (W (((x1.1.length : Int)).tdiv 2))), PV (RSlice RBox) (Add g1 M) y1, PV RPacket (Add g1 M) ({ From := x1.2.From, To := x1.2.To, Port := x1.2.Port, Proto := x1.2.Proto } : Packet), PEq (.bool false), PEq (.bool false), PV (RSlice RBox) (Add g1 M) x1.1, PEq (.int .i64 (W (((x1.1.length : Int)).tdiv 2))), PV (RSlice RBox) (Add g1 M) y2, PV RPacket (Add g1 M) ({ From := x1.2.From, To := x1.2.To, Port := x1.2.Port, Proto := x1.2.Proto } : Packet), PEq (.bool x7), PEq (.bool x7)] (by kernel_rfl) rfl (by kernel_rfl) ⟨PEq.mono _, PV.mono _ _ _, PEq.mono _, PV.mono _ _ _, PV.mono _ _ _, PEq.mono _, PEq.mono _, PV.mono _ _ _, PEq.mono _, PV.mono _ _ _, PV.mono _ _ _, PEq.mono _, PEq.mono _, trivial⟩ ⟨?_, ?_, ?_, ?_, ?_, ?_, ?_, ?_, ?_, ?_, ?_, ?_, ?_, trivial⟩ ?_
     ·
      intro w25 D hS15 hd15
      have hl25 := Le.no (Add g1 M) hS15
      have hC25 := hC6.no hS15
      have ho24 := ho5.no hS15
      refine dg_sub (E' := [(5, (.bool x2))]) ⟨rfl, trivial⟩ ?_
      refine dg_plain rfl (ow_move rfl rfl ?_)
      exact ⟨BX.refl _ _, rfl⟩
     ·
      intro w26 D hS16 hd16
      have hl26 := Le.no (Add g1 M) hS16
      have hC26 := hC6.no hS16
      have ho25 := ho5.no hS16
      refine dg_sub (E' := [(3, v2)]) ⟨rfl, trivial⟩ ?_
      refine dg_plain rfl (ow_move rfl rfl ?_)
      exact ⟨BX.refl _ _, (VRep.mono (((((hl2.trans hl3).trans hl4).trans hl5).trans hl6).trans hl26) hv2)⟩
     ·
      intro w27 D hS17 hd17
      have hl27 := Le.no (Add g1 M) hS17
      have hC27 := hC6.no hS17
      have ho26 := ho5.no hS17
      refine dg_sub (E' := [(6, (.int .i64 (W (((x1.1.length : Int)).tdiv 2))))]) ⟨rfl, trivial⟩ ?_
      refine dg_plain rfl (ow_move rfl rfl ?_)
      exact ⟨BX.refl _ _, rfl⟩
     ·
      intro w28 D hS18 hd18
      have hl28 := Le.no (Add g1 M) hS18
      have hC28 := hC6.no hS18
      have ho27 := ho5.no hS18
      have hd18 : PV (RSlice RBox) (Add g1 M) x1.1 (D 1) w28 ∧ PEq (.int .i64 (W (((x1.1.length : Int)).tdiv 2))) (D 2) w28 ∧ True := hd18
      obtain ⟨d32, d33, -⟩ := hd18
      obtain ⟨v17, hq6⟩ : ∃ v, (D 1) = v := ⟨_, rfl⟩
      rw [hq6] at d32
      refine dg_sub (E' := [(35, v17), (36, (.int .i64 (W (((x1.1.length : Int)).tdiv 2))))]) ⟨(congrArg some hq6), (congrArg some d33), trivial⟩ ?_
      refine dg_plain rfl (ow_sliceTo (R := RBox) rfl rfl rfl d32 Tryd.underlying34 (Tryd.sizeOf27 _) (takeF_some hy1).2 fun v18 hv18 => ?_)
      rw [← (takeF_some hy1).1] at hv18
      exact ⟨BX.refl _ _, hv18⟩
     ·
      intro w29 D hS19 hd19
      have hl29 := Le.no (Add g1 M) hS19
      have hC29 := hC6.no hS19
      have ho28 := ho5.no hS19
      refine dg_sub (E' := [(4, (.pointer (some ⟨g1, 0, none⟩)))]) ⟨rfl, trivial⟩ ?_
      refine dg_plain rfl (ow_loadOwnA rfl rfl rfl ho28 (Tryd.isAgg45 _) (Tryd.sizeOf45 _) rfl ?_)
      have hw7 : VRep RPacket w29 (Add g1 M) ({ From := x1.2.From, To := x1.2.To, Port := x1.2.Port, Proto := x1.2.Proto } : Packet) (.agg #[(.int .i64 x1.2.From), (.int .i64 x1.2.To), (.int .i64 x1.2.Port), (.int .i64 x1.2.Proto)]) := shut_Packet
      exact ⟨BX.refl _ _, hw7⟩
     ·
      intro w30 D hS20 hd20
      have hl30 := Le.no (Add g1 M) hS20
      have hC30 := hC6.no hS20
      have ho29 := ho5.no hS20
      have hd20 : PV (RSlice RBox) (Add g1 M) y1 (D 3) w30 ∧ PV RPacket (Add g1 M) ({ From := x1.2.From, To := x1.2.To, Port := x1.2.Port, Proto := x1.2.Proto } : Packet) (D 4) w30 ∧ True := hd20
      obtain ⟨d34, d35, -⟩ := hd20
      obtain ⟨v19, hq7⟩ : ∃ v, (D 3) = v := ⟨_, rfl⟩
      rw [hq7] at d34
      obtain ⟨v20, hq8⟩ : ∃ v, (D 4) = v := ⟨_, rfl⟩
      rw [hq8] at d35
      refine dg_sub (E' := [(37, v19), (38, v20)]) ⟨(congrArg some hq7), (congrArg some hq8), trivial⟩ ?_
      refine dg_plain rfl (ow_call rfl rfl Tryd.call50 (w_impl_RegionHas (hG.mono ((((((hl1.trans hl2).trans hl3).trans hl4).trans hl5).trans hl6).trans hl30)) hC30.old d34 d35 hx5) fun v21 w31 hv21 => ?_)
      obtain ⟨hv21, hb11⟩ := hv21
      have hl31 := Le.no (Add g1 M) hb11
      have hC31 := hC30.no hb11
      have ho30 := ho29.no hb11
      obtain rfl := vbool_eq hv21
      exact ⟨hb11, rfl⟩
     ·
      intro w32 D hS21 hd21
      have hl32 := Le.no (Add g1 M) hS21
      have hC32 := hC6.no hS21
      have ho31 := ho5.no hS21
      have hd21 : PEq (.bool false) (D 5) w32 ∧ PEq (.bool false) (D 5) w32 ∧ True := hd21
      obtain ⟨d36, d37, -⟩ := hd21
      refine dg_sub (E' := [(39, (.bool false))]) ⟨(congrArg some d36), trivial⟩ ?_
      refine dg_plain rfl (ow_move rfl rfl ?_)
      exact ⟨BX.refl _ _, rfl⟩
     ·
      intro w33 D hS22 hd22
      have hl33 := Le.no (Add g1 M) hS22
      have hC33 := hC6.no hS22
      have ho32 := ho5.no hS22
      have hd22 : PEq (.bool false) (D 6) w33 ∧ True := hd22
      obtain ⟨d38, -⟩ := hd22
      refine dg_sub (E' := [(40, (.bool false)), (3, v2)]) ⟨(congrArg some d38), rfl, trivial⟩ ?_
      refine dg_on rfl rfl rfl rfl (ow_move rfl rfl ?_)
      exact ⟨BX.refl _ _, (VRep.mono (((((hl2.trans hl3).trans hl4).trans hl5).trans hl6).trans hl33) hv2)⟩
     ·
      intro w34 D hS23 hd23
      have hl34 := Le.no (Add g1 M) hS23
      have hC34 := hC6.no hS23
      have ho33 := ho5.no hS23
      have hd23 : PEq (.bool false) (D 6) w34 ∧ True := hd23
      obtain ⟨d39, -⟩ := hd23
      refine dg_sub (E' := [(40, (.bool false)), (6, (.int .i64 (W (((x1.1.length : Int)).tdiv 2))))]) ⟨(congrArg some d39), rfl, trivial⟩ ?_
      refine dg_on rfl rfl rfl rfl (ow_move rfl rfl ?_)
      exact ⟨BX.refl _ _, rfl⟩
     ·
      intro w35 D hS24 hd24
      have hl35 := Le.no (Add g1 M) hS24
      have hC35 := hC6.no hS24
      have ho34 := ho5.no hS24
      have hd24 : PV (RSlice RBox) (Add g1 M) x1.1 (D 7) w35 ∧ PEq (.int .i64 (W (((x1.1.length : Int)).tdiv 2))) (D 8) w35 ∧ PEq (.bool false) (D 6) w35 ∧ True := hd24
      obtain ⟨d40, d41, d42, -⟩ := hd24
      obtain ⟨v22, hq9⟩ : ∃ v, (D 7) = v := ⟨_, rfl⟩
      rw [hq9] at d40
      refine dg_sub (E' := [(41, v22), (42, (.int .i64 (W (((x1.1.length : Int)).tdiv 2)))), (40, (.bool false))]) ⟨(congrArg some hq9), (congrArg some d41), (congrArg some d42), trivial⟩ ?_
      refine dg_on rfl rfl rfl rfl (ow_sliceFrom (R := RBox) rfl rfl rfl d40 Tryd.underlying34 (Tryd.sizeOf27 _) (dropF_some hy2).2 fun v23 hv23 => ?_)
      rw [← (dropF_some hy2).1] at hv23
      exact ⟨BX.refl _ _, hv23⟩
     ·
      intro w36 D hS25 hd25
      have hl36 := Le.no (Add g1 M) hS25
      have hC36 := hC6.no hS25
      have ho35 := ho5.no hS25
      have hd25 : PEq (.bool false) (D 6) w36 ∧ True := hd25
      obtain ⟨d43, -⟩ := hd25
      refine dg_sub (E' := [(40, (.bool false)), (4, (.pointer (some ⟨g1, 0, none⟩)))]) ⟨(congrArg some d43), rfl, trivial⟩ ?_
      refine dg_on rfl rfl rfl rfl (ow_loadOwnA rfl rfl rfl ho35 (Tryd.isAgg45 _) (Tryd.sizeOf45 _) rfl ?_)
      have hw8 : VRep RPacket w36 (Add g1 M) ({ From := x1.2.From, To := x1.2.To, Port := x1.2.Port, Proto := x1.2.Proto } : Packet) (.agg #[(.int .i64 x1.2.From), (.int .i64 x1.2.To), (.int .i64 x1.2.Port), (.int .i64 x1.2.Proto)]) := shut_Packet
      exact ⟨BX.refl _ _, hw8⟩
     ·
      intro w37 D hS26 hd26
      have hl37 := Le.no (Add g1 M) hS26
      have hC37 := hC6.no hS26
      have ho36 := ho5.no hS26
      have hd26 : PV (RSlice RBox) (Add g1 M) y2 (D 9) w37 ∧ PV RPacket (Add g1 M) ({ From := x1.2.From, To := x1.2.To, Port := x1.2.Port, Proto := x1.2.Proto } : Packet) (D 10) w37 ∧ PEq (.bool false) (D 6) w37 ∧ PEq (.bool false) (D 6) w37 ∧ True := hd26
      obtain ⟨d44, d45, d46, d47, -⟩ := hd26
      obtain ⟨v24, hq10⟩ : ∃ v, (D 9) = v := ⟨_, rfl⟩
      rw [hq10] at d44
      obtain ⟨v25, hq11⟩ : ∃ v, (D 10) = v := ⟨_, rfl⟩
      rw [hq11] at d45
      refine dg_sub (E' := [(43, v24), (44, v25), (40, (.bool false))]) ⟨(congrArg some hq10), (congrArg some hq11), (congrArg some d46), trivial⟩ ?_
      refine dg_on rfl rfl rfl rfl (ow_call rfl rfl Tryd.call50 (w_impl_RegionHas (hG.mono ((((((hl1.trans hl2).trans hl3).trans hl4).trans hl5).trans hl6).trans hl37)) hC37.old d44 d45 hx7) fun v26 w38 hv26 => ?_)
      obtain ⟨hv26, hb12⟩ := hv26
      have hl38 := Le.no (Add g1 M) hb12
      have hC38 := hC37.no hb12
      have ho37 := ho36.no hb12
      obtain rfl := vbool_eq hv26
      exact ⟨hb12, rfl⟩
     ·
      intro w39 D hS27 hd27
      have hl39 := Le.no (Add g1 M) hS27
      have hC39 := hC6.no hS27
      have ho38 := ho5.no hS27
      have hd27 : PEq (.bool false) (D 6) w39 ∧ PEq (.bool x7) (D 11) w39 ∧ True := hd27
      obtain ⟨d48, d49, -⟩ := hd27
      obtain ⟨bb5, hq12, hq13⟩ : ∃ b, b = x7 ∧ (D 11) = .bool b := ⟨_, rfl, d49⟩
      refine dg_sub (E' := [(40, (.bool false)), (45, (.bool bb5))]) ⟨(congrArg some d48), (congrArg some hq13), trivial⟩ ?_
      refine dg_plain rfl (ow_pickF rfl rfl rfl ?_)
      exact ⟨BX.refl _ _, (congrArg Value.bool hq12)⟩
     ·
      intro w40 D hS28 hd28
      have hd28 : PEq (.bool x2) (D 0) w40 ∧ PV (RSlice RBox) (Add g1 M) x1.1 (D 1) w40 ∧ PEq (.int .i64 (W (((x1.1.length : Int)).tdiv 2))) (D 2) w40 ∧ PV (RSlice RBox) (Add g1 M) y1 (D 3) w40 ∧ PV RPacket (Add g1 M) ({ From := x1.2.From, To := x1.2.To, Port := x1.2.Port, Proto := x1.2.Proto } : Packet) (D 4) w40 ∧ PEq (.bool false) (D 5) w40 ∧ PEq (.bool false) (D 6) w40 ∧ PV (RSlice RBox) (Add g1 M) x1.1 (D 7) w40 ∧ PEq (.int .i64 (W (((x1.1.length : Int)).tdiv 2))) (D 8) w40 ∧ PV (RSlice RBox) (Add g1 M) y2 (D 9) w40 ∧ PV RPacket (Add g1 M) ({ From := x1.2.From, To := x1.2.To, Port := x1.2.Port, Proto := x1.2.Proto } : Packet) (D 10) w40 ∧ PEq (.bool x7) (D 11) w40 ∧ PEq (.bool x7) (D 12) w40 ∧ True := hd28
      obtain ⟨d50, -, -, -, -, -, -, -, -, -, -, -, d62, -⟩ := hd28
      have hl40 := Le.no (Add g1 M) hS28
      have hC40 := hC6.no hS28
      have ho39 := ho5.no hS28
      obtain ⟨bb6, hq14, hq15⟩ : ∃ b, b = x2 ∧ (D 0) = .bool b := ⟨_, rfl, d50⟩
      obtain ⟨bb7, hq16, hq17⟩ : ∃ b, b = x7 ∧ (D 12) = .bool b := ⟨_, rfl, d62⟩
      refine lw_sub (E' := [(34, (.bool bb6)), (46, (.bool bb7)), (2, (.bool false)), (3, v2), (4, (.pointer (some ⟨g1, 0, none⟩))), (5, (.bool x2)), (6, (.int .i64 (W (((x1.1.length : Int)).tdiv 2))))]) ⟨(congrArg some hq15), (congrArg some hq17), rfl, rfl, rfl, rfl, rfl, trivial⟩ ?_
      refine lw_op rfl rfl rfl (ow_eqlB rfl rfl rfl Tryd.underlying4 fun bb8 hbb8 => ?_)
      have hbb8' : bb8 = (x2 == x7) := hbb8.trans (by rw [hq14, hq16])
      refine lw_op rfl rfl rfl (ow_move rfl rfl ?_)
      replace h := cond_some h
      rcases h with ⟨hc6, h⟩ | ⟨hc6, h⟩
      ·
       obtain rfl := hbb8'.trans hc6
       refine lw_on rfl rfl rfl rfl rfl rfl (ow_loadOwnA rfl rfl rfl ho39 (Tryd.isAgg45 _) (Tryd.sizeOf45 _) rfl ?_)
       have hw9 : VRep RPacket w40 (Add g1 M) ({ From := x1.2.From, To := x1.2.To, Port := x1.2.Port, Proto := x1.2.Proto } : Packet) (.agg #[(.int .i64 x1.2.From), (.int .i64 x1.2.To), (.int .i64 x1.2.Port), (.int .i64 x1.2.Proto)]) := shut_Packet
       replace h := bind_some h
       obtain ⟨x8, hx8, h⟩ := h
       refine lw_on rfl rfl rfl rfl rfl rfl (ow_call rfl rfl Tryd.call50 (w_impl_RegionHas (hG.mono ((((((hl1.trans hl2).trans hl3).trans hl4).trans hl5).trans hl6).trans hl40)) hC40.old (vslice_nil (R := RBox) (w := w40) (M := (Add g1 M))) hw9 hx8) fun v27 w41 hv27 => ?_)
       obtain ⟨hv27, hb13⟩ := hv27
       have hl41 := Le.no (Add g1 M) hb13
       have hC41 := hC40.no hb13
       have ho40 := ho39.no hb13
       obtain rfl := vbool_eq hv27
       refine lw_on rfl rfl rfl rfl rfl rfl (ow_not rfl rfl ?_)
       refine lw_op rfl rfl rfl (ow_pickT rfl rfl rfl ?_)
       refine lw_op rfl rfl rfl (ow_assign rfl rfl ?_)
       refine lw_nil (ew_then (cw_ret ?_))
       obtain rfl := Option.some.inj h
       exact ew_ret (res1 rfl (.tmp rfl)) ⟨_, rfl, ((vbool _)), hC41.bx⟩
      ·
       obtain rfl := hbb8'.trans hc6
       refine lw_off rfl rfl rfl rfl rfl rfl ?_
       refine lw_off rfl rfl rfl rfl rfl rfl ?_
       refine lw_off rfl rfl rfl rfl rfl rfl ?_
       refine lw_op rfl rfl rfl (ow_pickF rfl rfl rfl ?_)
       refine lw_op rfl rfl rfl (ow_assign rfl rfl ?_)
       refine lw_nil (ew_then (cw_ret ?_))
       obtain rfl := Option.some.inj h
       exact ew_ret (res1 rfl (.tmp rfl)) ⟨_, rfl, ((vbool _)), hC40.bx⟩
   ·
    subst hc3
    refine cw_true rfl ?_
    refine cw_seq (cw_region (lw_op rfl rfl rfl (ow_move rfl rfl ?_)))
    refine lw_op rfl rfl rfl (ow_not rfl rfl ?_)
    refine lw_op rfl rfl rfl (ow_move rfl rfl ?_)
    replace h := cond_some h
    rcases h with ⟨hc7, h⟩ | ⟨hc7, h⟩
    ·
     subst hc7
     refine lw_off rfl rfl rfl rfl rfl rfl ?_
     refine lw_op rfl rfl rfl (ow_pickF rfl rfl rfl ?_)
     refine lw_op rfl rfl rfl (ow_assign rfl rfl ?_)
     refine lw_nil (ew_then (cw_ret (ew_thenR ?_)))
     obtain rfl := Option.some.inj h
     exact ew_ret (res1 rfl (.tmp rfl)) ⟨_, rfl, ((vbool _)), hC6.bx⟩
    ·
     subst hc7
     replace h := bind_some h
     obtain ⟨x9, hx9, h⟩ := h
     refine lw_on rfl rfl rfl rfl rfl rfl (ow_call rfl rfl Tryd.call19 (w_laws_alive (hG.mono (((((hl1.trans hl2).trans hl3).trans hl4).trans hl5).trans hl6)) hC6.old hx9) fun v28 w42 hv28 => ?_)
     obtain ⟨hv28, hb14⟩ := hv28
     have hl42 := Le.no (Add g1 M) hb14
     have hC42 := hC6.no hb14
     have ho41 := ho5.no hb14
     obtain rfl := vbool_eq hv28
     refine lw_op rfl rfl rfl (ow_pickT rfl rfl rfl ?_)
     refine lw_op rfl rfl rfl (ow_assign rfl rfl ?_)
     refine lw_nil (ew_then (cw_ret (ew_thenR ?_)))
     obtain rfl := Option.some.inj h
     exact ew_ret (res1 rfl (.tmp rfl)) ⟨_, rfl, ((vbool _)), hC42.bx⟩


end Go.PF
