/- The walks; no condition. -/
import Derived.Test.YtadlmencjbangaaDoorProg
import Derived.Test.YtadlmencjbangaaDoorWk3
import Derived.Test.YtadlmencjbangaaDoorPFSeq
set_option maxRecDepth 100000
set_option maxHeartbeats 4000000
namespace Go.PF
open Go Go.RowKit Go.Proofs

theorem w_laws_FnBoxCut {w : World} {M : Nat → Prop} (hG : ARep (RArr 4 RShape) w M shapes ⟨0, 0, none⟩) (hO : ∀ b, M b → b < w.heap.size) {v0p : Value} {a_code : List Int} (h0 : VRep (RSlice RU8) w M a_code v0p) {v1p : Value} {a_more : List Int} (h1 : VRep (RSlice RU8) w M a_more v1p) {r : Bool} (h : F.laws_FnBoxCut a_code a_more = some r) :
  Calls Tryd.prog 3 [v0p, v1p].toArray w fun e w' => ∃ v, e = .returned v ∧ VRep RBool w' M r v ∧ BX No w w' := by
 have hC : Cx No w M w M := Cx.start hO (fun _ e => e.elim)
 refine walk (N := 129) Tryd.func3 Z Tryd.ntmps3 Z (cw_seq (Zr (Zo Z Z Z (Za Z Z (Zn (Ze (cw_seq (cw_seq (Zr (Zo Z Z Z (Zm Z Z (Zo Z Z Z (ow_len Z Z h0 Tryd.underlying22 Z (Zo Z Z Z (ow_gtr Z Z Z fun bb1 hbb1 => Zo Z Z Z (Zm Z Z ?_))))))))))))))))
 replace h := Zc h
 rcases h with ⟨hc1, h⟩ | ⟨hc1, h⟩
 ·
  obtain rfl := hbb1.trans hc1
  refine lw_off Z Z Z Z Z Z (lw_off Z Z Z Z Z Z (lw_off Z Z Z Z Z Z (Zo Z Z Z (ow_pickT Z Z Z (Zn (Ze (cw_true Z (cw_seq (Zr (Zo Z Z Z (Za Z Z (Zn (Ze (Zy (Zh ?_)))))))))))))))
  obtain rfl := sj h
  exact ew_ret (res1 Z (.tmp Z)) ⟨_, Z, ((vbool _)), hC.bx⟩
 ·
  obtain rfl := hbb1.trans hc1
  refine lw_on Z Z Z Z Z Z (Zm Z Z (lw_on Z Z Z Z Z Z (ow_len Z Z h1 Tryd.underlying22 Z (lw_on Z Z Z Z Z Z (ow_gtr Z Z Z fun bb2 hbb2 => Zo Z Z Z (ow_pickF Z Z Z (Zn (Ze ?_))))))))
  replace h := Zc h
  rcases h with ⟨hc2, h⟩ | ⟨hc2, h⟩
  ·
   obtain rfl := hbb2.trans hc2
   refine cw_true Z (cw_seq (Zr (Zo Z Z Z (Za Z Z (Zn (Ze (Zy (Zh ?_))))))))
   obtain rfl := sj h
   exact ew_ret (res1 Z (.tmp Z)) ⟨_, Z, ((vbool _)), hC.bx⟩
  ·
   obtain rfl := hbb2.trans hc2
   refine Zu Z (cw_skip (Ze (cw_seq (Zr (Zo Z Z Z (Zm Z Z ?_))))))
   replace h := bind_some h
   obtain ⟨x1, hx1, h⟩ := h
   refine Zo Z Z Z (Zk Z Z Tryd.call8 (w_spec_DrawBoxCut hG hC.old h0 hx1) fun v1 w1 hv1 => ?_)
   obtain ⟨⟨v2, v3, rfl, hv2, hv3⟩, hb1⟩ := hv1
   have hl1 := Le.no M hb1
   have hC1 := hC.no hb1
   refine Zo Z Z Z (Zm Z Z (Zo Z Z Z (ow_extract Z Z Z (Zo Z Z Z (ow_extract Z Z Z (Zo Z Z Z (ow_alloc Z (Tryd.zeroValue25 _) hC1 fun g1 w2 hg1 hg2 ho1 hb2 hl2 hC2 => ?_)))))))
   have hm1 : (Add g1 M) g1 := .inl Z
   refine Zo Z Z Z (ow_alloc Z (Tryd.zeroValue25 _) hC2 fun g2 w3 hg3 hg4 ho2 hb3 hl3 hC3 => ?_)
   have hn1 := Nat.ne_of_lt (Nat.lt_of_lt_of_le ho1.lt hg3)
   have ho3 := ho1.no hb3
   have hm2 : (Add g2 (Add g1 M)) g1 := .inr hm1
   have hm3 : (Add g2 (Add g1 M)) g2 := .inl Z
   obtain ⟨A1, c1, rfl, hw1⟩ := open_Box hv2
   refine lw_op0 Z Z (ow_store (X := No) (us := [(.slice A1 x1.1.Sides.length c1)]) (cs' := #[(.slice A1 x1.1.Sides.length c1)]) Z Z Z Z ho3 (Tryd.sizeOf25 _) Z Z Z Z hm2 (.inl hg2) Z hC3 fun w4 ho4 hb4 hl4 hC4 => ?_)
   have ho5 := ho2.go hb4 (fun e => hn1 e.symm)
   obtain ⟨A2, c2, rfl, hw2⟩ := open_Box hv3
   refine lw_op0 Z Z (ow_store (X := No) (us := [(.slice A2 x1.2.Sides.length c2)]) (cs' := #[(.slice A2 x1.2.Sides.length c2)]) Z Z Z Z ho5 (Tryd.sizeOf25 _) Z Z Z Z hm3 (.inl hg4) Z hC4 fun w5 ho6 hb5 hl5 hC5 => ?_)
   have ho7 := ho4.go hb5 (fun e => hn1 e)
   refine Zn (Ze (cw_seq (Zr (Zo Z Z Z (ow_loadOwnA Z Z Z ho7 (Tryd.isAgg25 _) (Tryd.sizeOf25 _) Z ?_)))))
   have lz1 := (((hl2.trans hl3).trans hl4).trans hl5)
   have hw3 : VRep RBox w5 (Add g2 (Add g1 M)) ({ Sides := x1.1.Sides } : Box) (.agg #[(.slice A1 x1.1.Sides.length c1)]) := shut_Box (VRep.mono lz1 hw1)
   refine Zo Z Z Z (ow_loadOwnA Z Z Z ho6 (Tryd.isAgg25 _) (Tryd.sizeOf25 _) Z ?_)
   have hw4 : VRep RBox w5 (Add g2 (Add g1 M)) ({ Sides := x1.2.Sides } : Box) (.agg #[(.slice A2 x1.2.Sides.length c2)]) := shut_Box (VRep.mono lz1 hw2)
   replace h := bind_some h
   obtain ⟨x2, hx2, h⟩ := h
   have lz2 := ((((hl1.trans hl2).trans hl3).trans hl4).trans hl5)
   refine Zo Z Z Z (Zk Z Z Tryd.call9 (w_impl_BoxCut (hG.mono lz2) hC5.old hw3 hw4 hx2) fun v4 w6 hv4 => ?_)
   obtain ⟨hv4, hb6⟩ := hv4
   have hl6 := Le.no (Add g2 (Add g1 M)) hb6
   have hC6 := hC5.no hb6
   have ho8 := ho7.no hb6
   have ho9 := ho6.no hb6
   refine Zo Z Z Z (Za Z Z (Zn (Ze (cw_seq (cw_seq (Zr (Zo Z Z Z (Zm Z Z (Zo Z Z Z (ow_loadOwnA Z Z Z ho8 (Tryd.isAgg25 _) (Tryd.sizeOf25 _) Z ?_))))))))))
   have hw5 : VRep RBox w6 (Add g2 (Add g1 M)) ({ Sides := x1.1.Sides } : Box) (.agg #[(.slice A1 x1.1.Sides.length c1)]) := shut_Box (VRep.mono (lz1.trans hl6) hw1)
   refine Zo Z Z Z (ow_loadOwnA Z Z Z ho9 (Tryd.isAgg25 _) (Tryd.sizeOf25 _) Z ?_)
   have hw6 : VRep RBox w6 (Add g2 (Add g1 M)) ({ Sides := x1.2.Sides } : Box) (.agg #[(.slice A2 x1.2.Sides.length c2)]) := shut_Box (VRep.mono (lz1.trans hl6) hw2)
   replace h := bind_some h
   obtain ⟨x3, hx3, h⟩ := h
   refine Zo Z Z Z (Zk Z Z Tryd.call11 (w_spec_BoxCut (hG.mono (lz2.trans hl6)) hC6.old hw5 hw6 hx3) fun v5 w7 hv5 => ?_)
   obtain ⟨hv5, hb7⟩ := hv5
   have hl7 := Le.no (Add g2 (Add g1 M)) hb7
   have hC7 := hC6.no hb7
   have ho10 := ho8.no hb7
   have ho11 := ho9.no hb7
   replace h := bind_some h
   obtain ⟨x4, hx4, h⟩ := h
   have lz3 := ((lz2.trans hl6).trans hl7)
   refine Zo Z Z Z (Zk Z Z Tryd.call10 (w_laws_sameBoxes (hG.mono lz3) hC7.old (VRep.mono hl7 hv4) hv5 hx4) fun v6 w8 hv6 => ?_)
   obtain ⟨hv6, hb8⟩ := hv6
   have hl8 := Le.no (Add g2 (Add g1 M)) hb8
   have hC8 := hC7.no hb8
   have ho12 := ho10.no hb8
   have ho13 := ho11.no hb8
   obtain rfl := vbool_eq hv6
   refine Zo Z Z Z (ow_not Z Z (Zn (Ze ?_)))
   replace h := Zc h
   rcases h with ⟨hc3, h⟩ | ⟨hc3, h⟩
   ·
    subst hc3
    refine Zu Z (cw_skip (Ze (cw_seq (cw_seq (Zr (Zo Z Z Z (ow_loadOwnA Z Z Z ho12 (Tryd.isAgg25 _) (Tryd.sizeOf25 _) Z ?_)))))))
    have lz4 := (((lz1.trans hl6).trans hl7).trans hl8)
    have hw7 : VRep RBox w8 (Add g2 (Add g1 M)) ({ Sides := x1.1.Sides } : Box) (.agg #[(.slice A1 x1.1.Sides.length c1)]) := shut_Box (VRep.mono lz4 hw1)
    replace h := bind_some h
    obtain ⟨x5, hx5, h⟩ := h
    refine Zo Z Z Z (Zk Z Z Tryd.call12 (w_spec_BoxValid (hG.mono (lz3.trans hl8)) hC8.old hw7 hx5) fun v7 w9 hv7 => ?_)
    obtain ⟨hv7, hb9⟩ := hv7
    have hl9 := Le.no (Add g2 (Add g1 M)) hb9
    have hC9 := hC8.no hb9
    have ho14 := ho12.no hb9
    have ho15 := ho13.no hb9
    obtain rfl := vbool_eq hv7
    refine Zo Z Z Z (ow_not Z Z (Zo Z Z Z (Zm Z Z ?_)))
    replace h := Zc h
    rcases h with ⟨hc4, h⟩ | ⟨hc4, h⟩
    ·
     subst hc4
     refine lw_on Z Z Z Z Z Z (ow_loadOwnA Z Z Z ho15 (Tryd.isAgg25 _) (Tryd.sizeOf25 _) Z ?_)
     have hw8 : VRep RBox w9 (Add g2 (Add g1 M)) ({ Sides := x1.2.Sides } : Box) (.agg #[(.slice A2 x1.2.Sides.length c2)]) := shut_Box (VRep.mono (lz4.trans hl9) hw2)
     replace h := bind_some h
     obtain ⟨x6, hx6, h⟩ := h
     have lz5 := ((lz3.trans hl8).trans hl9)
     refine lw_on Z Z Z Z Z Z (Zk Z Z Tryd.call12 (w_spec_BoxValid (hG.mono lz5) hC9.old hw8 hx6) fun v8 w10 hv8 => ?_)
     obtain ⟨hv8, hb10⟩ := hv8
     have hl10 := Le.no (Add g2 (Add g1 M)) hb10
     have hC10 := hC9.no hb10
     have ho16 := ho14.no hb10
     have ho17 := ho15.no hb10
     obtain rfl := vbool_eq hv8
     refine lw_on Z Z Z Z Z Z (ow_not Z Z (Zo Z Z Z (ow_pickF Z Z Z (Zn (Ze ?_)))))
     replace h := Zc h
     rcases h with ⟨hc5, h⟩ | ⟨hc5, h⟩
     ·
      subst hc5
      refine Zu Z (cw_skip (Ze (cw_seq (Zr (Zo Z Z Z (ow_loadOwnA Z Z Z ho16 (Tryd.isAgg25 _) (Tryd.sizeOf25 _) Z ?_))))))
      have lz6 := ((lz4.trans hl9).trans hl10)
      have hw9 : VRep RBox w10 (Add g2 (Add g1 M)) ({ Sides := x1.1.Sides } : Box) (.agg #[(.slice A1 x1.1.Sides.length c1)]) := shut_Box (VRep.mono lz6 hw1)
      refine Zo Z Z Z (ow_loadOwnA Z Z Z ho17 (Tryd.isAgg25 _) (Tryd.sizeOf25 _) Z ?_)
      have hw10 : VRep RBox w10 (Add g2 (Add g1 M)) ({ Sides := x1.2.Sides } : Box) (.agg #[(.slice A2 x1.2.Sides.length c2)]) := shut_Box (VRep.mono lz6 hw2)
      refine Zo Z Z Z (ow_buildSlice (R := RBox) (xs := [({ Sides := x1.1.Sides } : Box), ({ Sides := x1.2.Sides } : Box)]) (cs := #[(.slice A1 x1.1.Sides.length c1), (.slice A2 x1.2.Sides.length c2)]) (e := 25) Z Z (by kernel_rfl) Z Z ⟨_, _, Z, hw9.cells, _, _, Z, hw10.cells, Z⟩ hC10 fun p1 w11 hw11 hb11 hl11 hC11 => ?_)
      have ho18 := ho16.no hb11
      have ho19 := ho17.no hb11
      refine Zo Z Z Z (Zm Z Z ?_)
      have lz7 := ((lz5.trans hl10).trans hl11)
      refine Zo Z Z Z (ow_len Z Z (VRep.mono lz7 h1) Tryd.underlying22 Z ?_)
      replace h := bind_some h
      obtain ⟨x7, hx7, h⟩ := h
      refine Zo Z Z Z (Zk Z Z Tryd.call14 (w_laws_probe (hG.mono lz7) hC11.old hw11 hx7) fun v9 w12 hv9 => ?_)
      obtain ⟨hv9, hb12⟩ := hv9
      have hl12 := Le.no (Add g2 (Add g1 M)) hb12
      have hC12 := hC11.no hb12
      have ho20 := ho18.no hb12
      have ho21 := ho19.no hb12
      refine lw_allocStore (R := RPacket) Z Z Z Z Z Z Z Tryd.zeroValue34 Tryd.sizeOf34 Z Z Z (by simp) hv9 hC12 fun p2 w13 hp2 hb13 hl13 hC13 => ?_
      have ho22 := ho20.no hb13
      have ho23 := ho21.no hb13
      refine Zn (Ze (cw_seq (Zr (Zo Z Z Z (Za Z Z (Zn (Ze (cw_seq (cw_seq (Zr (Zo Z Z Z (Za Z Z (Zn (Ze ?_))))))))))))))
      replace h := bind_some h
      obtain ⟨lr1, hlr1, h⟩ := h
      refine cw_for hlr1 (fun s a w' => ∃ (M' : Nat → Prop), Fits 129 [(5, (Zw g1 0)), (6, (Zw g2 0)), (7, v4), (8, (.pointer (some p2))), (9, (Zv s.1)), (10, (Zv s.2))] a ∧ Le w13 (Add g2 (Add g1 M)) w' M' ∧ Cx No w M w' M' ∧ Own w' g1 25 #[(.slice A1 x1.1.Sides.length c1)] ∧ M' g1 ∧ Own w' g2 25 #[(.slice A2 x1.2.Sides.length c2)] ∧ M' g2) ?_ ?_ ?_
      · exact fun a ha => ⟨(Add g2 (Add g1 M)), ha.sub ⟨Z, Z, Z, Z, Z, Z, Zt⟩, Le.refl _ _, hC13, ho22, hm2, ho23, hm3⟩
      ·
       rintro ⟨k1, k2⟩ a w14 sr1 ⟨M1, hF1, hl14, hC14, ho24, hm4, ho25, hm5⟩ hb14 hR1
       refine cw_at (E := [(5, (Zw g1 0)), (6, (Zw g2 0)), (7, v4), (8, (.pointer (some p2))), (9, (Zv k1)), (10, (Zv k2))]) hF1 (cw_seq (cw_seq (Zr (Zo Z Z Z (Zm Z Z (Zo Z Z Z (Zm Z Z ?_)))))))
       have lz8 := (((((((hl7.trans hl8).trans hl9).trans hl10).trans hl11).trans hl12).trans hl13).trans hl14)
       refine Zo Z Z Z (ow_len Z Z (VRep.mono lz8 hv4) Tryd.underlying28 Z (Zo Z Z Z (ow_lss Z Z Z fun bb3 hbb3 => Zn (Ze ?_))))
       replace hb14 := Zc hb14
       rcases hb14 with ⟨hc6, hb14⟩ | ⟨hc6, hb14⟩
       ·
        obtain rfl := hbb3.trans hc6
        refine cw_true Z (cw_skip (Ze (cw_seq (cw_block (cw_seq (cw_seq ?_))))))
        replace hb14 := bind_some hb14
        obtain ⟨x8, hx8, hb14⟩ := hb14
        have lz9 := (((lz7.trans hl12).trans hl13).trans hl14)
        have lz10 := ((((lz6.trans hl11).trans hl12).trans hl13).trans hl14)
        refine cw_sub (E' := [(5, (Zw g1 0)), (6, (Zw g2 0)), (7, v4), (8, (.pointer (some p2))), (9, (Zv k1)), (10, (Zv k2))]) ⟨Z, Z, Z, Z, Z, Z, Zt⟩ (cw_drawQ 5 [PV (RSlice RBox) M1 x2, PEq (Zv k2), PA RBox M1 x8, PV RBox M1 x8, PV RPacket M1 x7] (by kernel_rfl) Z (by kernel_rfl) ⟨PV.mono _ _ _, Zq, PA.mono _ _ _, PV.mono _ _ _, PV.mono _ _ _, Zt⟩ ⟨?_, ?_, ?_, ?_, ?_, Zt⟩ ?_)
        ·
         intro w15 D hS1 hd1
         have hl15 := Le.no M1 hS1
         exact Zs (E' := [(7, v4)]) ⟨Z, Zt⟩ (Zp Z (Zm Z Z ⟨BX.refl _ _, (VRep.mono (lz8.trans hl15) hv4)⟩))
        · exact fun w16 D hS2 hd2 => Zs (E' := [(10, (Zv k2))]) ⟨Z, Zt⟩ (Zp Z (Zm Z Z Zb))
        ·
         intro w17 D hS3 hd3
         have d1 : PV (RSlice RBox) M1 x2 (D 0) w17 := dpA hd3 0 Z
         generalize hq1 : (D 0) = v14 at d1
         exact Zs (E' := [(60, v14), (61, (Zv k2))]) ⟨congrArg some hq1, dpE hd3 1 Z Z, Zt⟩ (Zp Z (Zx (R := RBox) Z Z Z d1 Tryd.underlying28 (Tryd.sizeOf25 _) hx8 fun p4 hp4 => ⟨BX.refl _ _, ⟨_, Z, hp4⟩⟩))
        ·
         intro w18 D hS4 hd4
         have d3 : PA RBox M1 x8 (D 2) w18 := dpA hd4 2 Z
         obtain ⟨p5, e1, ha1⟩ := d3
         exact Zs (E' := [(62, (.pointer (some p5)))]) ⟨congrArg some e1, Zt⟩ (Zp Z (Zl (R := RBox) Z Z ha1 (Tryd.sizeOf25 _) (Tryd.isAgg25 _) fun v15 hv15 => ⟨BX.refl _ _, hv15⟩))
        ·
         intro w19 D hS5 hd5
         have hl19 := Le.no M1 hS5
         exact Zs (E' := [(8, (.pointer (some p2)))]) ⟨Z, Zt⟩ (Zp Z (Zl (R := RPacket) Z Z (ARep.mono (hl14.trans hl19) hp2) (Tryd.sizeOf34 _) (Tryd.isAgg34 _) fun v16 hv16 => ⟨BX.refl _ _, hv16⟩))
        ·
         intro w20 D hS6 hd6
         have d7 : PV RBox M1 x8 (D 3) w20 := dpA hd6 3 Z
         have d8 : PV RPacket M1 x7 (D 4) w20 := dpA hd6 4 Z
         have hl20 := Le.no M1 hS6
         have hC20 := hC14.no hS6
         have ho36 := ho24.no hS6
         have ho37 := ho25.no hS6
         generalize hq2 : (D 3) = v17 at d7
         generalize hq3 : (D 4) = v18 at d8
         refine lw_sub (E' := [(63, v17), (64, v18), (5, (Zw g1 0)), (6, (Zw g2 0)), (7, v4), (8, (.pointer (some p2))), (9, (Zv k1)), (10, (Zv k2))]) ⟨congrArg some hq2, congrArg some hq3, Z, Z, Z, Z, Z, Z, Zt⟩ ?_
         replace hb14 := bind_some hb14
         obtain ⟨x9, hx9, hb14⟩ := hb14
         refine Zo Z Z Z (Zk Z Z Tryd.call15 (w_impl_BoxHas (hG.mono (lz9.trans hl20)) hC20.old d7 d8 hx9) fun v19 w21 hv19 => ?_)
         obtain ⟨hv19, hb15⟩ := hv19
         have hl21 := Le.no M1 hb15
         have hC21 := hC20.no hb15
         have ho38 := ho36.no hb15
         have ho39 := ho37.no hb15
         obtain rfl := vbool_eq hv19
         refine Zn (Ze ?_)
         replace hb14 := Zc hb14
         rcases hb14 with ⟨hc7, hb14⟩ | ⟨hc7, hb14⟩
         ·
          subst hc7
          refine cw_true Z (Zr (Zo Z Z Z (Zm Z Z (Zo Z Z Z (ow_add Z Z Z (Zo Z Z Z (Za Z Z (Zn (Ze (cw_seq (cw_seq ?_)))))))))))
          replace hb14 := bind_some hb14
          obtain ⟨x10, hx10, hb14⟩ := hb14
          replace hb14 := Zc hb14
          rcases hb14 with ⟨hc8, hb14⟩ | ⟨hc8, hb14⟩
          ·
           subst hc8
           have lz11 := ((lz9.trans hl20).trans hl21)
           have lz13 := ((lz8.trans hl20).trans hl21)
           refine cw_sub (E' := [(5, (Zw g1 0)), (6, (Zw g2 0)), (7, v4), (8, (.pointer (some p2))), (9, (Zv (W (k1 + 1)))), (10, (Zv k2))]) ⟨Z, Z, Z, Z, Z, Z, Zt⟩ (cw_drawQ 20 [PV (RSlice RBox) M1 x2, PEq (Zv k2), PA RBox M1 x8, PV RBox M1 x8, PEq (.bool true), PEq (.bool true), PEq undef, PEq undef, PEq undef, PEq undef, PEq undef, PEq undef, PEq undef, PEq (.bool true), PEq (.bool true), PEq undef, PEq undef, PEq undef, PEq undef, PEq undef] (by kernel_rfl) Z (by kernel_rfl) ⟨PV.mono _ _ _, Zq, PA.mono _ _ _, PV.mono _ _ _, Zq, Zq, Zq, Zq, Zq, Zq, Zq, Zq, Zq, Zq, Zq, Zq, Zq, Zq, Zq, Zq, Zt⟩ ⟨?_, ?_, ?_, ?_, ?_, ?_, ?_, ?_, ?_, ?_, ?_, ?_, ?_, ?_, ?_, ?_, ?_, ?_, ?_, ?_, Zt⟩ ?_)
           ·
            intro w23 D hS7 hd7
            have hl23 := Le.no M1 hS7
            exact Zs (E' := [(7, v4)]) ⟨Z, Zt⟩ (Zp Z (Zm Z Z ⟨BX.refl _ _, (VRep.mono (lz13.trans hl23) hv4)⟩))
           · exact fun w24 D hS8 hd8 => Zs (E' := [(10, (Zv k2))]) ⟨Z, Zt⟩ (Zp Z (Zm Z Z Zb))
           ·
            intro w25 D hS9 hd9
            have d9 : PV (RSlice RBox) M1 x2 (D 0) w25 := dpA hd9 0 Z
            generalize hq4 : (D 0) = v22 at d9
            exact Zs (E' := [(68, v22), (69, (Zv k2))]) ⟨congrArg some hq4, dpE hd9 1 Z Z, Zt⟩ (Zp Z (Zx (R := RBox) Z Z Z d9 Tryd.underlying28 (Tryd.sizeOf25 _) hx8 fun p7 hp7 => ⟨BX.refl _ _, ⟨_, Z, hp7⟩⟩))
           ·
            intro w26 D hS10 hd10
            have d11 : PA RBox M1 x8 (D 2) w26 := dpA hd10 2 Z
            obtain ⟨p8, e2, ha2⟩ := d11
            exact Zs (E' := [(70, (.pointer (some p8)))]) ⟨congrArg some e2, Zt⟩ (Zp Z (Zl (R := RBox) Z Z ha2 (Tryd.sizeOf25 _) (Tryd.isAgg25 _) fun v23 hv23 => ⟨BX.refl _ _, hv23⟩))
           ·
            intro w27 D hS11 hd11
            have hl27 := Le.no M1 hS11
            have hC27 := hC21.no hS11
            have d12 : PV RBox M1 x8 (D 3) w27 := dpA hd11 3 Z
            generalize hq5 : (D 3) = v24 at d12
            refine Zs (E' := [(71, v24)]) ⟨congrArg some hq5, Zt⟩ (Zp Z (Zk Z Z Tryd.call16 (w_impl_BoxEmpty (hG.mono (lz11.trans hl27)) hC27.old d12 hx10) fun v25 w28 hv25 => ?_))
            obtain ⟨hv25, hb17⟩ := hv25
            obtain rfl := vbool_eq hv25
            exact ⟨hb17, Z⟩
           · exact fun w29 D hS12 hd12 => Zs (E' := [(72, (.bool true))]) ⟨dpE hd12 4 Z Z, Zt⟩ (Zp Z (Zm Z Z Zb))
           · exact fun w30 D hS13 hd13 => Zs (E' := [(73, (.bool true)), (7, v4)]) ⟨dpE hd13 5 Z Z, Z, Zt⟩ (dg_off Z Z Z Z Zb)
           · exact fun w31 D hS14 hd14 => Zs (E' := [(73, (.bool true)), (10, (Zv k2))]) ⟨dpE hd14 5 Z Z, Z, Zt⟩ (dg_off Z Z Z Z Zb)
           · exact fun w32 D hS15 hd15 => Zs (E' := [(74, undef), (75, undef), (73, (.bool true))]) ⟨dpE hd15 6 Z Z, dpE hd15 7 Z Z, dpE hd15 5 Z Z, Zt⟩ (dg_off Z Z Z Z Zb)
           · exact fun w33 D hS16 hd16 => Zs (E' := [(76, undef), (73, (.bool true))]) ⟨dpE hd16 8 Z Z, dpE hd16 5 Z Z, Zt⟩ (dg_off Z Z Z Z Zb)
           · exact fun w34 D hS17 hd17 => Zs (E' := [(73, (.bool true)), (5, (Zw g1 0))]) ⟨dpE hd17 5 Z Z, Z, Zt⟩ (dg_off Z Z Z Z Zb)
           · exact fun w35 D hS18 hd18 => Zs (E' := [(77, undef), (78, undef), (73, (.bool true))]) ⟨dpE hd18 9 Z Z, dpE hd18 10 Z Z, dpE hd18 5 Z Z, Zt⟩ (dg_off Z Z Z Z Zb)
           · exact fun w36 D hS19 hd19 => Zs (E' := [(79, undef), (73, (.bool true))]) ⟨dpE hd19 11 Z Z, dpE hd19 5 Z Z, Zt⟩ (dg_off Z Z Z Z Zb)
           · exact fun w37 D hS20 hd20 => Zs (E' := [(73, (.bool true)), (80, undef)]) ⟨dpE hd20 5 Z Z, dpE hd20 12 Z Z, Zt⟩ (Zp Z (ow_pickT Z Z Z Zb))
           · exact fun w38 D hS21 hd21 => Zs (E' := [(81, (.bool true))]) ⟨dpE hd21 13 Z Z, Zt⟩ (Zp Z (Zm Z Z Zb))
           · exact fun w39 D hS22 hd22 => Zs (E' := [(82, (.bool true)), (7, v4)]) ⟨dpE hd22 14 Z Z, Z, Zt⟩ (dg_off Z Z Z Z Zb)
           · exact fun w40 D hS23 hd23 => Zs (E' := [(82, (.bool true)), (10, (Zv k2))]) ⟨dpE hd23 14 Z Z, Z, Zt⟩ (dg_off Z Z Z Z Zb)
           · exact fun w41 D hS24 hd24 => Zs (E' := [(83, undef), (84, undef), (82, (.bool true))]) ⟨dpE hd24 15 Z Z, dpE hd24 16 Z Z, dpE hd24 14 Z Z, Zt⟩ (dg_off Z Z Z Z Zb)
           · exact fun w42 D hS25 hd25 => Zs (E' := [(85, undef), (82, (.bool true))]) ⟨dpE hd25 17 Z Z, dpE hd25 14 Z Z, Zt⟩ (dg_off Z Z Z Z Zb)
           · exact fun w43 D hS26 hd26 => Zs (E' := [(82, (.bool true)), (6, (Zw g2 0))]) ⟨dpE hd26 14 Z Z, Z, Zt⟩ (dg_off Z Z Z Z Zb)
           ·
            intro w44 D hS27 hd27
            have hC44 := hC21.no hS27
            refine lw_sub (E' := [(82, (.bool true)), (86, undef), (87, undef), (5, (Zw g1 0)), (6, (Zw g2 0)), (7, v4), (8, (.pointer (some p2))), (9, (Zv (W (k1 + 1)))), (10, (Zv k2))]) ⟨dpE hd27 14 Z Z, dpE hd27 18 Z Z, dpE hd27 19 Z Z, Z, Z, Z, Z, Z, Z, Zt⟩ (lw_off Z Z Z Z Z Z (lw_off Z Z Z Z Z Z (lw_off Z Z Z Z Z Z (Zo Z Z Z (ow_pickT Z Z Z (Zn (Ze (cw_true Z (cw_seq (Zr (Zo Z Z Z (Za Z Z (Zn (Ze (Zy (Zh (ew_blockR (Zh (Zh (ew_blockR (ew_brkR (Zh ?_))))))))))))))))))))))
            have e3 := hR1 _ (sj hb14).symm
            subst e3
            obtain rfl := sj h
            exact ew_ret (res1 Z (.tmp Z)) ⟨_, Z, ((vbool _)), hC44.bx⟩
          ·
           subst hc8
           replace hb14 := bind_some hb14
           obtain ⟨x11, hx11, hb14⟩ := hb14
           replace hb14 := Zc hb14
           rcases hb14 with ⟨hc9, hb14⟩ | ⟨hc9, hb14⟩
           ·
            subst hc9
            have lz15 := ((lz9.trans hl20).trans hl21)
            have lz16 := ((lz10.trans hl20).trans hl21)
            have lz17 := ((lz8.trans hl20).trans hl21)
            have lz18 := ((hl14.trans hl20).trans hl21)
            refine cw_sub (E' := [(5, (Zw g1 0)), (6, (Zw g2 0)), (7, v4), (8, (.pointer (some p2))), (9, (Zv (W (k1 + 1)))), (10, (Zv k2))]) ⟨Z, Z, Z, Z, Z, Z, Zt⟩ (cw_drawQ 20 [PV (RSlice RBox) M1 x2, PEq (Zv k2), PA RBox M1 x8, PV RBox M1 x8, PEq (.bool false), PEq (.bool false), PV (RSlice RBox) M1 x2, PEq (Zv k2), PA RBox M1 x8, PV RBox M1 x8, PV RBox M1 ({ Sides := x1.1.Sides } : Box), PEq (.bool true), PEq (.bool false), PEq (.bool false), PEq (.bool false), PV (RSlice RBox) M1 x2, PEq (Zv k2), PA RBox M1 x8, PV RBox M1 x8, PV RBox M1 ({ Sides := x1.2.Sides } : Box)] (by kernel_rfl) Z (by kernel_rfl) ⟨PV.mono _ _ _, Zq, PA.mono _ _ _, PV.mono _ _ _, Zq, Zq, PV.mono _ _ _, Zq, PA.mono _ _ _, PV.mono _ _ _, PV.mono _ _ _, Zq, Zq, Zq, Zq, PV.mono _ _ _, Zq, PA.mono _ _ _, PV.mono _ _ _, PV.mono _ _ _, Zt⟩ ⟨?_, ?_, ?_, ?_, ?_, ?_, ?_, ?_, ?_, ?_, ?_, ?_, ?_, ?_, ?_, ?_, ?_, ?_, ?_, ?_, Zt⟩ ?_)
            ·
             intro w46 D hS28 hd28
             have hl46 := Le.no M1 hS28
             exact Zs (E' := [(7, v4)]) ⟨Z, Zt⟩ (Zp Z (Zm Z Z ⟨BX.refl _ _, (VRep.mono (lz17.trans hl46) hv4)⟩))
            · exact fun w47 D hS29 hd29 => Zs (E' := [(10, (Zv k2))]) ⟨Z, Zt⟩ (Zp Z (Zm Z Z Zb))
            ·
             intro w48 D hS30 hd30
             have d61 : PV (RSlice RBox) M1 x2 (D 0) w48 := dpA hd30 0 Z
             generalize hq6 : (D 0) = v29 at d61
             exact Zs (E' := [(68, v29), (69, (Zv k2))]) ⟨congrArg some hq6, dpE hd30 1 Z Z, Zt⟩ (Zp Z (Zx (R := RBox) Z Z Z d61 Tryd.underlying28 (Tryd.sizeOf25 _) hx8 fun p11 hp11 => ⟨BX.refl _ _, ⟨_, Z, hp11⟩⟩))
            ·
             intro w49 D hS31 hd31
             have d63 : PA RBox M1 x8 (D 2) w49 := dpA hd31 2 Z
             obtain ⟨p12, e4, ha3⟩ := d63
             exact Zs (E' := [(70, (.pointer (some p12)))]) ⟨congrArg some e4, Zt⟩ (Zp Z (Zl (R := RBox) Z Z ha3 (Tryd.sizeOf25 _) (Tryd.isAgg25 _) fun v30 hv30 => ⟨BX.refl _ _, hv30⟩))
            ·
             intro w50 D hS32 hd32
             have hl50 := Le.no M1 hS32
             have hC50 := hC21.no hS32
             have d64 : PV RBox M1 x8 (D 3) w50 := dpA hd32 3 Z
             generalize hq7 : (D 3) = v31 at d64
             refine Zs (E' := [(71, v31)]) ⟨congrArg some hq7, Zt⟩ (Zp Z (Zk Z Z Tryd.call16 (w_impl_BoxEmpty (hG.mono (lz15.trans hl50)) hC50.old d64 hx10) fun v32 w51 hv32 => ?_))
             obtain ⟨hv32, hb19⟩ := hv32
             obtain rfl := vbool_eq hv32
             exact ⟨hb19, Z⟩
            · exact fun w52 D hS33 hd33 => Zs (E' := [(72, (.bool false))]) ⟨dpE hd33 4 Z Z, Zt⟩ (Zp Z (Zm Z Z Zb))
            ·
             intro w53 D hS34 hd34
             have hl53 := Le.no M1 hS34
             exact Zs (E' := [(73, (.bool false)), (7, v4)]) ⟨dpE hd34 5 Z Z, Z, Zt⟩ (dg_on Z Z Z Z (Zm Z Z ⟨BX.refl _ _, (VRep.mono (lz17.trans hl53) hv4)⟩))
            · exact fun w54 D hS35 hd35 => Zs (E' := [(73, (.bool false)), (10, (Zv k2))]) ⟨dpE hd35 5 Z Z, Z, Zt⟩ (dg_on Z Z Z Z (Zm Z Z Zb))
            ·
             intro w55 D hS36 hd36
             have d69 : PV (RSlice RBox) M1 x2 (D 6) w55 := dpA hd36 6 Z
             generalize hq8 : (D 6) = v33 at d69
             exact Zs (E' := [(74, v33), (75, (Zv k2)), (73, (.bool false))]) ⟨congrArg some hq8, dpE hd36 7 Z Z, dpE hd36 5 Z Z, Zt⟩ (dg_on Z Z Z Z (Zx (R := RBox) Z Z Z d69 Tryd.underlying28 (Tryd.sizeOf25 _) hx8 fun p13 hp13 => ⟨BX.refl _ _, ⟨_, Z, hp13⟩⟩))
            ·
             intro w56 D hS37 hd37
             have d72 : PA RBox M1 x8 (D 8) w56 := dpA hd37 8 Z
             obtain ⟨p14, e5, ha4⟩ := d72
             exact Zs (E' := [(76, (.pointer (some p14))), (73, (.bool false))]) ⟨congrArg some e5, dpE hd37 5 Z Z, Zt⟩ (dg_on Z Z Z Z (Zl (R := RBox) Z Z ha4 (Tryd.sizeOf25 _) (Tryd.isAgg25 _) fun v34 hv34 => ⟨BX.refl _ _, hv34⟩))
            ·
             intro w57 D hS38 hd38
             have hl57 := Le.no M1 hS38
             have ho110 := ho38.no hS38
             refine Zs (E' := [(73, (.bool false)), (5, (Zw g1 0))]) ⟨dpE hd38 5 Z Z, Z, Zt⟩ (dg_on Z Z Z Z (ow_loadOwnA Z Z Z ho110 (Tryd.isAgg25 _) (Tryd.sizeOf25 _) Z ?_))
             have hw14 : VRep RBox w57 M1 ({ Sides := x1.1.Sides } : Box) (.agg #[(.slice A1 x1.1.Sides.length c1)]) := shut_Box (VRep.mono (lz16.trans hl57) hw1)
             exact ⟨BX.refl _ _, hw14⟩
            ·
             intro w58 D hS39 hd39
             have hl58 := Le.no M1 hS39
             have hC58 := hC21.no hS39
             have d75 : PV RBox M1 x8 (D 9) w58 := dpA hd39 9 Z
             have d76 : PV RBox M1 ({ Sides := x1.1.Sides } : Box) (D 10) w58 := dpA hd39 10 Z
             generalize hq9 : (D 9) = v35 at d75
             generalize hq10 : (D 10) = v36 at d76
             refine Zs (E' := [(77, v35), (78, v36), (73, (.bool false))]) ⟨congrArg some hq9, congrArg some hq10, dpE hd39 5 Z Z, Zt⟩ (dg_on Z Z Z Z (Zk Z Z Tryd.call17 (w_impl_BoxWithin (hG.mono (lz15.trans hl58)) hC58.old d75 d76 hx11) fun v37 w59 hv37 => ?_))
             obtain ⟨hv37, hb20⟩ := hv37
             obtain rfl := vbool_eq hv37
             exact ⟨hb20, Z⟩
            · exact fun w60 D hS40 hd40 => Zs (E' := [(79, (.bool true)), (73, (.bool false))]) ⟨dpE hd40 11 Z Z, dpE hd40 5 Z Z, Zt⟩ (dg_on Z Z Z Z (ow_not Z Z Zb))
            · exact fun w61 D hS41 hd41 => Zs (E' := [(73, (.bool false)), (80, (.bool false))]) ⟨dpE hd41 5 Z Z, dpE hd41 12 Z Z, Zt⟩ (Zp Z (ow_pickF Z Z Z Zb))
            · exact fun w62 D hS42 hd42 => Zs (E' := [(81, (.bool false))]) ⟨dpE hd42 13 Z Z, Zt⟩ (Zp Z (Zm Z Z Zb))
            ·
             intro w63 D hS43 hd43
             have hl63 := Le.no M1 hS43
             exact Zs (E' := [(82, (.bool false)), (7, v4)]) ⟨dpE hd43 14 Z Z, Z, Zt⟩ (dg_on Z Z Z Z (Zm Z Z ⟨BX.refl _ _, (VRep.mono (lz17.trans hl63) hv4)⟩))
            · exact fun w64 D hS44 hd44 => Zs (E' := [(82, (.bool false)), (10, (Zv k2))]) ⟨dpE hd44 14 Z Z, Z, Zt⟩ (dg_on Z Z Z Z (Zm Z Z Zb))
            ·
             intro w65 D hS45 hd45
             have d87 : PV (RSlice RBox) M1 x2 (D 15) w65 := dpA hd45 15 Z
             generalize hq11 : (D 15) = v38 at d87
             exact Zs (E' := [(83, v38), (84, (Zv k2)), (82, (.bool false))]) ⟨congrArg some hq11, dpE hd45 16 Z Z, dpE hd45 14 Z Z, Zt⟩ (dg_on Z Z Z Z (Zx (R := RBox) Z Z Z d87 Tryd.underlying28 (Tryd.sizeOf25 _) hx8 fun p15 hp15 => ⟨BX.refl _ _, ⟨_, Z, hp15⟩⟩))
            ·
             intro w66 D hS46 hd46
             have d90 : PA RBox M1 x8 (D 17) w66 := dpA hd46 17 Z
             obtain ⟨p16, e6, ha5⟩ := d90
             exact Zs (E' := [(85, (.pointer (some p16))), (82, (.bool false))]) ⟨congrArg some e6, dpE hd46 14 Z Z, Zt⟩ (dg_on Z Z Z Z (Zl (R := RBox) Z Z ha5 (Tryd.sizeOf25 _) (Tryd.isAgg25 _) fun v39 hv39 => ⟨BX.refl _ _, hv39⟩))
            ·
             intro w67 D hS47 hd47
             have hl67 := Le.no M1 hS47
             have ho131 := ho39.no hS47
             refine Zs (E' := [(82, (.bool false)), (6, (Zw g2 0))]) ⟨dpE hd47 14 Z Z, Z, Zt⟩ (dg_on Z Z Z Z (ow_loadOwnA Z Z Z ho131 (Tryd.isAgg25 _) (Tryd.sizeOf25 _) Z ?_))
             have hw15 : VRep RBox w67 M1 ({ Sides := x1.2.Sides } : Box) (.agg #[(.slice A2 x1.2.Sides.length c2)]) := shut_Box (VRep.mono (lz16.trans hl67) hw2)
             exact ⟨BX.refl _ _, hw15⟩
            ·
             intro w68 D hS48 hd48
             have d111 : PV RBox M1 x8 (D 18) w68 := dpA hd48 18 Z
             have d112 : PV RBox M1 ({ Sides := x1.2.Sides } : Box) (D 19) w68 := dpA hd48 19 Z
             have hl68 := Le.no M1 hS48
             have hC68 := hC21.no hS48
             have ho132 := ho38.no hS48
             have ho133 := ho39.no hS48
             generalize hq12 : (D 18) = v40 at d111
             generalize hq13 : (D 19) = v41 at d112
             refine lw_sub (E' := [(82, (.bool false)), (86, v40), (87, v41), (5, (Zw g1 0)), (6, (Zw g2 0)), (7, v4), (8, (.pointer (some p2))), (9, (Zv (W (k1 + 1)))), (10, (Zv k2))]) ⟨dpE hd48 14 Z Z, congrArg some hq12, congrArg some hq13, Z, Z, Z, Z, Z, Z, Zt⟩ ?_
             replace hb14 := bind_some hb14
             obtain ⟨x12, hx12, hb14⟩ := hb14
             refine lw_on Z Z Z Z Z Z (Zk Z Z Tryd.call18 (w_impl_BoxMeet (hG.mono (lz15.trans hl68)) hC68.old d111 d112 hx12) fun v42 w69 hv42 => ?_)
             obtain ⟨hv42, hb21⟩ := hv42
             have hl69 := Le.no M1 hb21
             have hC69 := hC68.no hb21
             have ho134 := ho132.no hb21
             have ho135 := ho133.no hb21
             replace hb14 := bind_some hb14
             obtain ⟨x13, hx13, hb14⟩ := hb14
             have lz19 := ((lz15.trans hl68).trans hl69)
             refine lw_on Z Z Z Z Z Z (Zk Z Z Tryd.call16 (w_impl_BoxEmpty (hG.mono lz19) hC69.old hv42 hx13) fun v43 w70 hv43 => ?_)
             obtain ⟨hv43, hb22⟩ := hv43
             have hl70 := Le.no M1 hb22
             have hC70 := hC69.no hb22
             have ho136 := ho134.no hb22
             have ho137 := ho135.no hb22
             obtain rfl := vbool_eq hv43
             refine lw_on Z Z Z Z Z Z (ow_not Z Z (Zo Z Z Z (ow_pickF Z Z Z (Zn (Ze ?_)))))
             replace hb14 := Zc hb14
             rcases hb14 with ⟨hc10, hb14⟩ | ⟨hc10, hb14⟩
             ·
              subst hc10
              refine Zu Z (cw_skip (Ze (cw_seq (Zr (Zo Z Z Z (Za Z Z (Zn (Ze ?_))))))))
              replace hb14 := bind_some hb14
              obtain ⟨lr2, hlr2, hb14⟩ := hb14
              refine cw_for hlr2 (fun s a w' => ∃ (M' : Nat → Prop), Fits 129 [(5, (Zw g1 0)), (6, (Zw g2 0)), (7, v4), (8, (.pointer (some p2))), (9, (Zv (W (k1 + 1)))), (10, (Zv k2)), (11, (Zv s))] a ∧ Le w70 M1 w' M' ∧ Cx No w M w' M' ∧ Own w' g1 25 #[(.slice A1 x1.1.Sides.length c1)] ∧ M' g1 ∧ Own w' g2 25 #[(.slice A2 x1.2.Sides.length c2)] ∧ M' g2) ?_ ?_ ?_
              · exact fun a ha => ⟨M1, ha.sub ⟨Z, Z, Z, Z, Z, Z, Z, Zt⟩, Le.refl _ _, hC70, ho136, hm4, ho137, hm5⟩
              ·
               rintro k3 a w71 sr2 ⟨M2, hF2, hl71, hC71, ho138, hm6, ho139, hm7⟩ hb23 hR2
               refine cw_at (E := [(5, (Zw g1 0)), (6, (Zw g2 0)), (7, v4), (8, (.pointer (some p2))), (9, (Zv (W (k1 + 1)))), (10, (Zv k2)), (11, (Zv k3))]) hF2 (cw_seq (cw_seq (Zr (Zo Z Z Z (Zm Z Z (Zo Z Z Z (Zm Z Z (Zo Z Z Z (ow_lss Z Z Z fun bb4 hbb4 => Zn (Ze ?_))))))))))
               replace hb23 := Zc hb23
               rcases hb23 with ⟨hc11, hb23⟩ | ⟨hc11, hb23⟩
               ·
                obtain rfl := hbb4.trans hc11
                refine cw_true Z (cw_skip (Ze (cw_seq (cw_block (cw_seq ?_)))))
                replace hb23 := bind_some hb23
                obtain ⟨x14, hx14, hb23⟩ := hb23
                have lz20 := ((lz19.trans hl70).trans hl71)
                have lz22 := ((((lz17.trans hl68).trans hl69).trans hl70).trans hl71)
                refine cw_sub (E' := [(5, (Zw g1 0)), (6, (Zw g2 0)), (7, v4), (8, (.pointer (some p2))), (9, (Zv (W (k1 + 1)))), (10, (Zv k2)), (11, (Zv k3))]) ⟨Z, Z, Z, Z, Z, Z, Z, Zt⟩ (cw_drawQ 8 [PV (RSlice RBox) M2 x2, PEq (Zv k3), PA RBox M2 x14, PV RBox M2 x14, PV (RSlice RBox) M2 x2, PEq (Zv k2), PA RBox M2 x8, PV RBox M2 x8] (by kernel_rfl) Z (by kernel_rfl) ⟨PV.mono _ _ _, Zq, PA.mono _ _ _, PV.mono _ _ _, PV.mono _ _ _, Zq, PA.mono _ _ _, PV.mono _ _ _, Zt⟩ ⟨?_, ?_, ?_, ?_, ?_, ?_, ?_, ?_, Zt⟩ ?_)
                ·
                 intro w72 D hS49 hd49
                 have hl72 := Le.no M2 hS49
                 exact Zs (E' := [(7, v4)]) ⟨Z, Zt⟩ (Zp Z (Zm Z Z ⟨BX.refl _ _, (VRep.mono (lz22.trans hl72) hv4)⟩))
                · exact fun w73 D hS50 hd50 => Zs (E' := [(11, (Zv k3))]) ⟨Z, Zt⟩ (Zp Z (Zm Z Z Zb))
                ·
                 intro w74 D hS51 hd51
                 have d113 : PV (RSlice RBox) M2 x2 (D 0) w74 := dpA hd51 0 Z
                 generalize hq14 : (D 0) = v47 at d113
                 exact Zs (E' := [(97, v47), (98, (Zv k3))]) ⟨congrArg some hq14, dpE hd51 1 Z Z, Zt⟩ (Zp Z (Zx (R := RBox) Z Z Z d113 Tryd.underlying28 (Tryd.sizeOf25 _) hx14 fun p19 hp19 => ⟨BX.refl _ _, ⟨_, Z, hp19⟩⟩))
                ·
                 intro w75 D hS52 hd52
                 have d115 : PA RBox M2 x14 (D 2) w75 := dpA hd52 2 Z
                 obtain ⟨p20, e7, ha6⟩ := d115
                 exact Zs (E' := [(99, (.pointer (some p20)))]) ⟨congrArg some e7, Zt⟩ (Zp Z (Zl (R := RBox) Z Z ha6 (Tryd.sizeOf25 _) (Tryd.isAgg25 _) fun v48 hv48 => ⟨BX.refl _ _, hv48⟩))
                ·
                 intro w76 D hS53 hd53
                 have hl76 := Le.no M2 hS53
                 exact Zs (E' := [(7, v4)]) ⟨Z, Zt⟩ (Zp Z (Zm Z Z ⟨BX.refl _ _, (VRep.mono (lz22.trans hl76) hv4)⟩))
                · exact fun w77 D hS54 hd54 => Zs (E' := [(10, (Zv k2))]) ⟨Z, Zt⟩ (Zp Z (Zm Z Z Zb))
                ·
                 intro w78 D hS55 hd55
                 have d116 : PV (RSlice RBox) M2 x2 (D 4) w78 := dpA hd55 4 Z
                 generalize hq15 : (D 4) = v49 at d116
                 exact Zs (E' := [(101, v49), (102, (Zv k2))]) ⟨congrArg some hq15, dpE hd55 5 Z Z, Zt⟩ (Zp Z (Zx (R := RBox) Z Z Z d116 Tryd.underlying28 (Tryd.sizeOf25 _) hx8 fun p21 hp21 => ⟨BX.refl _ _, ⟨_, Z, hp21⟩⟩))
                ·
                 intro w79 D hS56 hd56
                 have d118 : PA RBox M2 x8 (D 6) w79 := dpA hd56 6 Z
                 obtain ⟨p22, e8, ha7⟩ := d118
                 exact Zs (E' := [(103, (.pointer (some p22)))]) ⟨congrArg some e8, Zt⟩ (Zp Z (Zl (R := RBox) Z Z ha7 (Tryd.sizeOf25 _) (Tryd.isAgg25 _) fun v50 hv50 => ⟨BX.refl _ _, hv50⟩))
                ·
                 intro w80 D hS57 hd57
                 have d122 : PV RBox M2 x14 (D 3) w80 := dpA hd57 3 Z
                 have d126 : PV RBox M2 x8 (D 7) w80 := dpA hd57 7 Z
                 have hl80 := Le.no M2 hS57
                 have hC80 := hC71.no hS57
                 have ho156 := ho138.no hS57
                 have ho157 := ho139.no hS57
                 generalize hq16 : (D 3) = v51 at d122
                 generalize hq17 : (D 7) = v52 at d126
                 refine lw_sub (E' := [(100, v51), (104, v52), (5, (Zw g1 0)), (6, (Zw g2 0)), (7, v4), (8, (.pointer (some p2))), (9, (Zv (W (k1 + 1)))), (10, (Zv k2)), (11, (Zv k3))]) ⟨congrArg some hq16, congrArg some hq17, Z, Z, Z, Z, Z, Z, Z, Zt⟩ ?_
                 replace hb23 := bind_some hb23
                 obtain ⟨x15, hx15, hb23⟩ := hb23
                 refine Zo Z Z Z (Zk Z Z Tryd.call18 (w_impl_BoxMeet (hG.mono (lz20.trans hl80)) hC80.old d122 d126 hx15) fun v53 w81 hv53 => ?_)
                 obtain ⟨hv53, hb24⟩ := hv53
                 have hl81 := Le.no M2 hb24
                 have hC81 := hC80.no hb24
                 have ho158 := ho156.no hb24
                 have ho159 := ho157.no hb24
                 replace hb23 := bind_some hb23
                 obtain ⟨x16, hx16, hb23⟩ := hb23
                 have lz24 := ((lz20.trans hl80).trans hl81)
                 refine Zo Z Z Z (Zk Z Z Tryd.call16 (w_impl_BoxEmpty (hG.mono lz24) hC81.old hv53 hx16) fun v54 w82 hv54 => ?_)
                 obtain ⟨hv54, hb25⟩ := hv54
                 have hl82 := Le.no M2 hb25
                 have hC82 := hC81.no hb25
                 have ho160 := ho158.no hb25
                 have ho161 := ho159.no hb25
                 obtain rfl := vbool_eq hv54
                 refine Zo Z Z Z (ow_not Z Z (Zn (Ze ?_)))
                 replace hb23 := Zc hb23
                 rcases hb23 with ⟨hc12, hb23⟩ | ⟨hc12, hb23⟩
                 ·
                  subst hc12
                  refine Zu Z (cw_skip (ew_blockN (Ze (Zr (Zo Z Z Z (Zm Z Z (Zo Z Z Z (ow_add Z Z Z (Zo Z Z Z (Za Z Z (Zn ?_)))))))))))
                  have lz25 := (((hl71.trans hl80).trans hl81).trans hl82)
                  exact ew_nxt (W (k3 + 1)) hb23 fun a ha => ⟨M2, (ha.sub ⟨Z, Z, Z, Z, Z, Z, Z, Zt⟩), lz25, hC82, ho160, hm6, ho161, hm7⟩
                 ·
                  subst hc12
                  refine cw_true Z (cw_seq (Zr (Zo Z Z Z (Za Z Z (Zn (Ze (Zy (ew_blockR (Zh (Zh (ew_blockR (ew_brkR (ew_blockR (Zh (Zh (ew_blockR (ew_brkR (Zh ?_))))))))))))))))))
                  have e9 := hR2 _ (sj hb23).symm
                  subst e9
                  have e10 := hR1 _ (sj hb14).symm
                  subst e10
                  obtain rfl := sj h
                  exact ew_ret (res1 Z (.tmp Z)) ⟨_, Z, ((vbool _)), hC82.bx⟩
               ·
                obtain rfl := hbb4.trans hc11
                exact Zu Z (cw_exit (ew_thenX (ew_thenX (ew_blockX (ew_brk k3 hb23 fun a ha => ⟨M2, (ha.sub ⟨Z, Z, Z, Z, Z, Z, Z, Zt⟩), hl71, hC71, ho138, hm6, ho139, hm7⟩)))))
              ·
               rintro k4 a w83 hlr3 ⟨M3, hF3, hl83, hC83, ho162, hm8, ho163, hm9⟩
               subst hlr3
               refine ew_at (E := [(5, (Zw g1 0)), (6, (Zw g2 0)), (7, v4), (8, (.pointer (some p2))), (9, (Zv (W (k1 + 1)))), (10, (Zv k2)), (11, (Zv k4))]) hF3 (ew_blockN (Ze (Zr (Zo Z Z Z (Zm Z Z (Zo Z Z Z (ow_add Z Z Z (Zo Z Z Z (Za Z Z (Zn ?_))))))))))
               have lz26 := ((((lz18.trans hl68).trans hl69).trans hl70).trans hl83)
               exact ew_nxt ((W (k1 + 1)), (W (k2 + 1))) hb14 fun a ha => ⟨M3, (ha.sub ⟨Z, Z, Z, Z, Z, Z, Zt⟩), lz26, hC83, ho162, hm8, ho163, hm9⟩
             ·
              subst hc10
              refine cw_true Z (cw_seq (Zr (Zo Z Z Z (Za Z Z (Zn (Ze (Zy (Zh (ew_blockR (Zh (Zh (ew_blockR (ew_brkR (Zh ?_))))))))))))))
              have e11 := hR1 _ (sj hb14).symm
              subst e11
              obtain rfl := sj h
              exact ew_ret (res1 Z (.tmp Z)) ⟨_, Z, ((vbool _)), hC70.bx⟩
           ·
            subst hc9
            have lz27 := ((lz9.trans hl20).trans hl21)
            have lz28 := ((lz10.trans hl20).trans hl21)
            have lz29 := ((lz8.trans hl20).trans hl21)
            refine cw_sub (E' := [(5, (Zw g1 0)), (6, (Zw g2 0)), (7, v4), (8, (.pointer (some p2))), (9, (Zv (W (k1 + 1)))), (10, (Zv k2))]) ⟨Z, Z, Z, Z, Z, Z, Zt⟩ (cw_drawQ 20 [PV (RSlice RBox) M1 x2, PEq (Zv k2), PA RBox M1 x8, PV RBox M1 x8, PEq (.bool false), PEq (.bool false), PV (RSlice RBox) M1 x2, PEq (Zv k2), PA RBox M1 x8, PV RBox M1 x8, PV RBox M1 ({ Sides := x1.1.Sides } : Box), PEq (.bool false), PEq (.bool true), PEq (.bool true), PEq (.bool true), PEq undef, PEq undef, PEq undef, PEq undef, PEq undef] (by kernel_rfl) Z (by kernel_rfl) ⟨PV.mono _ _ _, Zq, PA.mono _ _ _, PV.mono _ _ _, Zq, Zq, PV.mono _ _ _, Zq, PA.mono _ _ _, PV.mono _ _ _, PV.mono _ _ _, Zq, Zq, Zq, Zq, Zq, Zq, Zq, Zq, Zq, Zt⟩ ⟨?_, ?_, ?_, ?_, ?_, ?_, ?_, ?_, ?_, ?_, ?_, ?_, ?_, ?_, ?_, ?_, ?_, ?_, ?_, ?_, Zt⟩ ?_)
            ·
             intro w84 D hS58 hd58
             have hl84 := Le.no M1 hS58
             exact Zs (E' := [(7, v4)]) ⟨Z, Zt⟩ (Zp Z (Zm Z Z ⟨BX.refl _ _, (VRep.mono (lz29.trans hl84) hv4)⟩))
            · exact fun w85 D hS59 hd59 => Zs (E' := [(10, (Zv k2))]) ⟨Z, Zt⟩ (Zp Z (Zm Z Z Zb))
            ·
             intro w86 D hS60 hd60
             have d127 : PV (RSlice RBox) M1 x2 (D 0) w86 := dpA hd60 0 Z
             generalize hq18 : (D 0) = v56 at d127
             exact Zs (E' := [(68, v56), (69, (Zv k2))]) ⟨congrArg some hq18, dpE hd60 1 Z Z, Zt⟩ (Zp Z (Zx (R := RBox) Z Z Z d127 Tryd.underlying28 (Tryd.sizeOf25 _) hx8 fun p23 hp23 => ⟨BX.refl _ _, ⟨_, Z, hp23⟩⟩))
            ·
             intro w87 D hS61 hd61
             have d129 : PA RBox M1 x8 (D 2) w87 := dpA hd61 2 Z
             obtain ⟨p24, e12, ha8⟩ := d129
             exact Zs (E' := [(70, (.pointer (some p24)))]) ⟨congrArg some e12, Zt⟩ (Zp Z (Zl (R := RBox) Z Z ha8 (Tryd.sizeOf25 _) (Tryd.isAgg25 _) fun v57 hv57 => ⟨BX.refl _ _, hv57⟩))
            ·
             intro w88 D hS62 hd62
             have hl88 := Le.no M1 hS62
             have hC88 := hC21.no hS62
             have d130 : PV RBox M1 x8 (D 3) w88 := dpA hd62 3 Z
             generalize hq19 : (D 3) = v58 at d130
             refine Zs (E' := [(71, v58)]) ⟨congrArg some hq19, Zt⟩ (Zp Z (Zk Z Z Tryd.call16 (w_impl_BoxEmpty (hG.mono (lz27.trans hl88)) hC88.old d130 hx10) fun v59 w89 hv59 => ?_))
             obtain ⟨hv59, hb26⟩ := hv59
             obtain rfl := vbool_eq hv59
             exact ⟨hb26, Z⟩
            · exact fun w90 D hS63 hd63 => Zs (E' := [(72, (.bool false))]) ⟨dpE hd63 4 Z Z, Zt⟩ (Zp Z (Zm Z Z Zb))
            ·
             intro w91 D hS64 hd64
             have hl91 := Le.no M1 hS64
             exact Zs (E' := [(73, (.bool false)), (7, v4)]) ⟨dpE hd64 5 Z Z, Z, Zt⟩ (dg_on Z Z Z Z (Zm Z Z ⟨BX.refl _ _, (VRep.mono (lz29.trans hl91) hv4)⟩))
            · exact fun w92 D hS65 hd65 => Zs (E' := [(73, (.bool false)), (10, (Zv k2))]) ⟨dpE hd65 5 Z Z, Z, Zt⟩ (dg_on Z Z Z Z (Zm Z Z Zb))
            ·
             intro w93 D hS66 hd66
             have d135 : PV (RSlice RBox) M1 x2 (D 6) w93 := dpA hd66 6 Z
             generalize hq20 : (D 6) = v60 at d135
             exact Zs (E' := [(74, v60), (75, (Zv k2)), (73, (.bool false))]) ⟨congrArg some hq20, dpE hd66 7 Z Z, dpE hd66 5 Z Z, Zt⟩ (dg_on Z Z Z Z (Zx (R := RBox) Z Z Z d135 Tryd.underlying28 (Tryd.sizeOf25 _) hx8 fun p25 hp25 => ⟨BX.refl _ _, ⟨_, Z, hp25⟩⟩))
            ·
             intro w94 D hS67 hd67
             have d138 : PA RBox M1 x8 (D 8) w94 := dpA hd67 8 Z
             obtain ⟨p26, e13, ha9⟩ := d138
             exact Zs (E' := [(76, (.pointer (some p26))), (73, (.bool false))]) ⟨congrArg some e13, dpE hd67 5 Z Z, Zt⟩ (dg_on Z Z Z Z (Zl (R := RBox) Z Z ha9 (Tryd.sizeOf25 _) (Tryd.isAgg25 _) fun v61 hv61 => ⟨BX.refl _ _, hv61⟩))
            ·
             intro w95 D hS68 hd68
             have hl95 := Le.no M1 hS68
             have ho186 := ho38.no hS68
             refine Zs (E' := [(73, (.bool false)), (5, (Zw g1 0))]) ⟨dpE hd68 5 Z Z, Z, Zt⟩ (dg_on Z Z Z Z (ow_loadOwnA Z Z Z ho186 (Tryd.isAgg25 _) (Tryd.sizeOf25 _) Z ?_))
             have hw16 : VRep RBox w95 M1 ({ Sides := x1.1.Sides } : Box) (.agg #[(.slice A1 x1.1.Sides.length c1)]) := shut_Box (VRep.mono (lz28.trans hl95) hw1)
             exact ⟨BX.refl _ _, hw16⟩
            ·
             intro w96 D hS69 hd69
             have hl96 := Le.no M1 hS69
             have hC96 := hC21.no hS69
             have d141 : PV RBox M1 x8 (D 9) w96 := dpA hd69 9 Z
             have d142 : PV RBox M1 ({ Sides := x1.1.Sides } : Box) (D 10) w96 := dpA hd69 10 Z
             generalize hq21 : (D 9) = v62 at d141
             generalize hq22 : (D 10) = v63 at d142
             refine Zs (E' := [(77, v62), (78, v63), (73, (.bool false))]) ⟨congrArg some hq21, congrArg some hq22, dpE hd69 5 Z Z, Zt⟩ (dg_on Z Z Z Z (Zk Z Z Tryd.call17 (w_impl_BoxWithin (hG.mono (lz27.trans hl96)) hC96.old d141 d142 hx11) fun v64 w97 hv64 => ?_))
             obtain ⟨hv64, hb27⟩ := hv64
             obtain rfl := vbool_eq hv64
             exact ⟨hb27, Z⟩
            · exact fun w98 D hS70 hd70 => Zs (E' := [(79, (.bool false)), (73, (.bool false))]) ⟨dpE hd70 11 Z Z, dpE hd70 5 Z Z, Zt⟩ (dg_on Z Z Z Z (ow_not Z Z Zb))
            · exact fun w99 D hS71 hd71 => Zs (E' := [(73, (.bool false)), (80, (.bool true))]) ⟨dpE hd71 5 Z Z, dpE hd71 12 Z Z, Zt⟩ (Zp Z (ow_pickF Z Z Z Zb))
            · exact fun w100 D hS72 hd72 => Zs (E' := [(81, (.bool true))]) ⟨dpE hd72 13 Z Z, Zt⟩ (Zp Z (Zm Z Z Zb))
            · exact fun w101 D hS73 hd73 => Zs (E' := [(82, (.bool true)), (7, v4)]) ⟨dpE hd73 14 Z Z, Z, Zt⟩ (dg_off Z Z Z Z Zb)
            · exact fun w102 D hS74 hd74 => Zs (E' := [(82, (.bool true)), (10, (Zv k2))]) ⟨dpE hd74 14 Z Z, Z, Zt⟩ (dg_off Z Z Z Z Zb)
            · exact fun w103 D hS75 hd75 => Zs (E' := [(83, undef), (84, undef), (82, (.bool true))]) ⟨dpE hd75 15 Z Z, dpE hd75 16 Z Z, dpE hd75 14 Z Z, Zt⟩ (dg_off Z Z Z Z Zb)
            · exact fun w104 D hS76 hd76 => Zs (E' := [(85, undef), (82, (.bool true))]) ⟨dpE hd76 17 Z Z, dpE hd76 14 Z Z, Zt⟩ (dg_off Z Z Z Z Zb)
            · exact fun w105 D hS77 hd77 => Zs (E' := [(82, (.bool true)), (6, (Zw g2 0))]) ⟨dpE hd77 14 Z Z, Z, Zt⟩ (dg_off Z Z Z Z Zb)
            ·
             intro w106 D hS78 hd78
             have hC106 := hC21.no hS78
             refine lw_sub (E' := [(82, (.bool true)), (86, undef), (87, undef), (5, (Zw g1 0)), (6, (Zw g2 0)), (7, v4), (8, (.pointer (some p2))), (9, (Zv (W (k1 + 1)))), (10, (Zv k2))]) ⟨dpE hd78 14 Z Z, dpE hd78 18 Z Z, dpE hd78 19 Z Z, Z, Z, Z, Z, Z, Z, Zt⟩ (lw_off Z Z Z Z Z Z (lw_off Z Z Z Z Z Z (lw_off Z Z Z Z Z Z (Zo Z Z Z (ow_pickT Z Z Z (Zn (Ze (cw_true Z (cw_seq (Zr (Zo Z Z Z (Za Z Z (Zn (Ze (Zy (Zh (ew_blockR (Zh (Zh (ew_blockR (ew_brkR (Zh ?_))))))))))))))))))))))
             have e14 := hR1 _ (sj hb14).symm
             subst e14
             obtain rfl := sj h
             exact ew_ret (res1 Z (.tmp Z)) ⟨_, Z, ((vbool _)), hC106.bx⟩
         ·
          subst hc7
          refine Zu Z (cw_skip (Ze (cw_seq (cw_seq ?_))))
          replace hb14 := bind_some hb14
          obtain ⟨x17, hx17, hb14⟩ := hb14
          replace hb14 := Zc hb14
          rcases hb14 with ⟨hc13, hb14⟩ | ⟨hc13, hb14⟩
          ·
           subst hc13
           have lz31 := ((lz9.trans hl20).trans hl21)
           have lz33 := ((lz8.trans hl20).trans hl21)
           refine cw_sub (E' := [(5, (Zw g1 0)), (6, (Zw g2 0)), (7, v4), (8, (.pointer (some p2))), (9, (Zv k1)), (10, (Zv k2))]) ⟨Z, Z, Z, Z, Z, Z, Zt⟩ (cw_drawQ 20 [PV (RSlice RBox) M1 x2, PEq (Zv k2), PA RBox M1 x8, PV RBox M1 x8, PEq (.bool true), PEq (.bool true), PEq undef, PEq undef, PEq undef, PEq undef, PEq undef, PEq undef, PEq undef, PEq (.bool true), PEq (.bool true), PEq undef, PEq undef, PEq undef, PEq undef, PEq undef] (by kernel_rfl) Z (by kernel_rfl) ⟨PV.mono _ _ _, Zq, PA.mono _ _ _, PV.mono _ _ _, Zq, Zq, Zq, Zq, Zq, Zq, Zq, Zq, Zq, Zq, Zq, Zq, Zq, Zq, Zq, Zq, Zt⟩ ⟨?_, ?_, ?_, ?_, ?_, ?_, ?_, ?_, ?_, ?_, ?_, ?_, ?_, ?_, ?_, ?_, ?_, ?_, ?_, ?_, Zt⟩ ?_)
           ·
            intro w108 D hS79 hd79
            have hl108 := Le.no M1 hS79
            exact Zs (E' := [(7, v4)]) ⟨Z, Zt⟩ (Zp Z (Zm Z Z ⟨BX.refl _ _, (VRep.mono (lz33.trans hl108) hv4)⟩))
           · exact fun w109 D hS80 hd80 => Zs (E' := [(10, (Zv k2))]) ⟨Z, Zt⟩ (Zp Z (Zm Z Z Zb))
           ·
            intro w110 D hS81 hd81
            have d179 : PV (RSlice RBox) M1 x2 (D 0) w110 := dpA hd81 0 Z
            generalize hq23 : (D 0) = v67 at d179
            exact Zs (E' := [(68, v67), (69, (Zv k2))]) ⟨congrArg some hq23, dpE hd81 1 Z Z, Zt⟩ (Zp Z (Zx (R := RBox) Z Z Z d179 Tryd.underlying28 (Tryd.sizeOf25 _) hx8 fun p28 hp28 => ⟨BX.refl _ _, ⟨_, Z, hp28⟩⟩))
           ·
            intro w111 D hS82 hd82
            have d181 : PA RBox M1 x8 (D 2) w111 := dpA hd82 2 Z
            obtain ⟨p29, e15, ha10⟩ := d181
            exact Zs (E' := [(70, (.pointer (some p29)))]) ⟨congrArg some e15, Zt⟩ (Zp Z (Zl (R := RBox) Z Z ha10 (Tryd.sizeOf25 _) (Tryd.isAgg25 _) fun v68 hv68 => ⟨BX.refl _ _, hv68⟩))
           ·
            intro w112 D hS83 hd83
            have hl112 := Le.no M1 hS83
            have hC112 := hC21.no hS83
            have d182 : PV RBox M1 x8 (D 3) w112 := dpA hd83 3 Z
            generalize hq24 : (D 3) = v69 at d182
            refine Zs (E' := [(71, v69)]) ⟨congrArg some hq24, Zt⟩ (Zp Z (Zk Z Z Tryd.call16 (w_impl_BoxEmpty (hG.mono (lz31.trans hl112)) hC112.old d182 hx17) fun v70 w113 hv70 => ?_))
            obtain ⟨hv70, hb29⟩ := hv70
            obtain rfl := vbool_eq hv70
            exact ⟨hb29, Z⟩
           · exact fun w114 D hS84 hd84 => Zs (E' := [(72, (.bool true))]) ⟨dpE hd84 4 Z Z, Zt⟩ (Zp Z (Zm Z Z Zb))
           · exact fun w115 D hS85 hd85 => Zs (E' := [(73, (.bool true)), (7, v4)]) ⟨dpE hd85 5 Z Z, Z, Zt⟩ (dg_off Z Z Z Z Zb)
           · exact fun w116 D hS86 hd86 => Zs (E' := [(73, (.bool true)), (10, (Zv k2))]) ⟨dpE hd86 5 Z Z, Z, Zt⟩ (dg_off Z Z Z Z Zb)
           · exact fun w117 D hS87 hd87 => Zs (E' := [(74, undef), (75, undef), (73, (.bool true))]) ⟨dpE hd87 6 Z Z, dpE hd87 7 Z Z, dpE hd87 5 Z Z, Zt⟩ (dg_off Z Z Z Z Zb)
           · exact fun w118 D hS88 hd88 => Zs (E' := [(76, undef), (73, (.bool true))]) ⟨dpE hd88 8 Z Z, dpE hd88 5 Z Z, Zt⟩ (dg_off Z Z Z Z Zb)
           · exact fun w119 D hS89 hd89 => Zs (E' := [(73, (.bool true)), (5, (Zw g1 0))]) ⟨dpE hd89 5 Z Z, Z, Zt⟩ (dg_off Z Z Z Z Zb)
           · exact fun w120 D hS90 hd90 => Zs (E' := [(77, undef), (78, undef), (73, (.bool true))]) ⟨dpE hd90 9 Z Z, dpE hd90 10 Z Z, dpE hd90 5 Z Z, Zt⟩ (dg_off Z Z Z Z Zb)
           · exact fun w121 D hS91 hd91 => Zs (E' := [(79, undef), (73, (.bool true))]) ⟨dpE hd91 11 Z Z, dpE hd91 5 Z Z, Zt⟩ (dg_off Z Z Z Z Zb)
           · exact fun w122 D hS92 hd92 => Zs (E' := [(73, (.bool true)), (80, undef)]) ⟨dpE hd92 5 Z Z, dpE hd92 12 Z Z, Zt⟩ (Zp Z (ow_pickT Z Z Z Zb))
           · exact fun w123 D hS93 hd93 => Zs (E' := [(81, (.bool true))]) ⟨dpE hd93 13 Z Z, Zt⟩ (Zp Z (Zm Z Z Zb))
           · exact fun w124 D hS94 hd94 => Zs (E' := [(82, (.bool true)), (7, v4)]) ⟨dpE hd94 14 Z Z, Z, Zt⟩ (dg_off Z Z Z Z Zb)
           · exact fun w125 D hS95 hd95 => Zs (E' := [(82, (.bool true)), (10, (Zv k2))]) ⟨dpE hd95 14 Z Z, Z, Zt⟩ (dg_off Z Z Z Z Zb)
           · exact fun w126 D hS96 hd96 => Zs (E' := [(83, undef), (84, undef), (82, (.bool true))]) ⟨dpE hd96 15 Z Z, dpE hd96 16 Z Z, dpE hd96 14 Z Z, Zt⟩ (dg_off Z Z Z Z Zb)
           · exact fun w127 D hS97 hd97 => Zs (E' := [(85, undef), (82, (.bool true))]) ⟨dpE hd97 17 Z Z, dpE hd97 14 Z Z, Zt⟩ (dg_off Z Z Z Z Zb)
           · exact fun w128 D hS98 hd98 => Zs (E' := [(82, (.bool true)), (6, (Zw g2 0))]) ⟨dpE hd98 14 Z Z, Z, Zt⟩ (dg_off Z Z Z Z Zb)
           ·
            intro w129 D hS99 hd99
            have hC129 := hC21.no hS99
            refine lw_sub (E' := [(82, (.bool true)), (86, undef), (87, undef), (5, (Zw g1 0)), (6, (Zw g2 0)), (7, v4), (8, (.pointer (some p2))), (9, (Zv k1)), (10, (Zv k2))]) ⟨dpE hd99 14 Z Z, dpE hd99 18 Z Z, dpE hd99 19 Z Z, Z, Z, Z, Z, Z, Z, Zt⟩ (lw_off Z Z Z Z Z Z (lw_off Z Z Z Z Z Z (lw_off Z Z Z Z Z Z (Zo Z Z Z (ow_pickT Z Z Z (Zn (Ze (cw_true Z (cw_seq (Zr (Zo Z Z Z (Za Z Z (Zn (Ze (Zy (Zh (ew_blockR (Zh (Zh (ew_blockR (ew_brkR (Zh ?_))))))))))))))))))))))
            have e16 := hR1 _ (sj hb14).symm
            subst e16
            obtain rfl := sj h
            exact ew_ret (res1 Z (.tmp Z)) ⟨_, Z, ((vbool _)), hC129.bx⟩
          ·
           subst hc13
           replace hb14 := bind_some hb14
           obtain ⟨x18, hx18, hb14⟩ := hb14
           replace hb14 := Zc hb14
           rcases hb14 with ⟨hc14, hb14⟩ | ⟨hc14, hb14⟩
           ·
            subst hc14
            have lz35 := ((lz9.trans hl20).trans hl21)
            have lz36 := ((lz10.trans hl20).trans hl21)
            have lz37 := ((lz8.trans hl20).trans hl21)
            have lz38 := ((hl14.trans hl20).trans hl21)
            refine cw_sub (E' := [(5, (Zw g1 0)), (6, (Zw g2 0)), (7, v4), (8, (.pointer (some p2))), (9, (Zv k1)), (10, (Zv k2))]) ⟨Z, Z, Z, Z, Z, Z, Zt⟩ (cw_drawQ 20 [PV (RSlice RBox) M1 x2, PEq (Zv k2), PA RBox M1 x8, PV RBox M1 x8, PEq (.bool false), PEq (.bool false), PV (RSlice RBox) M1 x2, PEq (Zv k2), PA RBox M1 x8, PV RBox M1 x8, PV RBox M1 ({ Sides := x1.1.Sides } : Box), PEq (.bool true), PEq (.bool false), PEq (.bool false), PEq (.bool false), PV (RSlice RBox) M1 x2, PEq (Zv k2), PA RBox M1 x8, PV RBox M1 x8, PV RBox M1 ({ Sides := x1.2.Sides } : Box)] (by kernel_rfl) Z (by kernel_rfl) ⟨PV.mono _ _ _, Zq, PA.mono _ _ _, PV.mono _ _ _, Zq, Zq, PV.mono _ _ _, Zq, PA.mono _ _ _, PV.mono _ _ _, PV.mono _ _ _, Zq, Zq, Zq, Zq, PV.mono _ _ _, Zq, PA.mono _ _ _, PV.mono _ _ _, PV.mono _ _ _, Zt⟩ ⟨?_, ?_, ?_, ?_, ?_, ?_, ?_, ?_, ?_, ?_, ?_, ?_, ?_, ?_, ?_, ?_, ?_, ?_, ?_, ?_, Zt⟩ ?_)
            ·
             intro w131 D hS100 hd100
             have hl131 := Le.no M1 hS100
             exact Zs (E' := [(7, v4)]) ⟨Z, Zt⟩ (Zp Z (Zm Z Z ⟨BX.refl _ _, (VRep.mono (lz37.trans hl131) hv4)⟩))
            · exact fun w132 D hS101 hd101 => Zs (E' := [(10, (Zv k2))]) ⟨Z, Zt⟩ (Zp Z (Zm Z Z Zb))
            ·
             intro w133 D hS102 hd102
             have d231 : PV (RSlice RBox) M1 x2 (D 0) w133 := dpA hd102 0 Z
             generalize hq25 : (D 0) = v74 at d231
             exact Zs (E' := [(68, v74), (69, (Zv k2))]) ⟨congrArg some hq25, dpE hd102 1 Z Z, Zt⟩ (Zp Z (Zx (R := RBox) Z Z Z d231 Tryd.underlying28 (Tryd.sizeOf25 _) hx8 fun p32 hp32 => ⟨BX.refl _ _, ⟨_, Z, hp32⟩⟩))
            ·
             intro w134 D hS103 hd103
             have d233 : PA RBox M1 x8 (D 2) w134 := dpA hd103 2 Z
             obtain ⟨p33, e17, ha11⟩ := d233
             exact Zs (E' := [(70, (.pointer (some p33)))]) ⟨congrArg some e17, Zt⟩ (Zp Z (Zl (R := RBox) Z Z ha11 (Tryd.sizeOf25 _) (Tryd.isAgg25 _) fun v75 hv75 => ⟨BX.refl _ _, hv75⟩))
            ·
             intro w135 D hS104 hd104
             have hl135 := Le.no M1 hS104
             have hC135 := hC21.no hS104
             have d234 : PV RBox M1 x8 (D 3) w135 := dpA hd104 3 Z
             generalize hq26 : (D 3) = v76 at d234
             refine Zs (E' := [(71, v76)]) ⟨congrArg some hq26, Zt⟩ (Zp Z (Zk Z Z Tryd.call16 (w_impl_BoxEmpty (hG.mono (lz35.trans hl135)) hC135.old d234 hx17) fun v77 w136 hv77 => ?_))
             obtain ⟨hv77, hb31⟩ := hv77
             obtain rfl := vbool_eq hv77
             exact ⟨hb31, Z⟩
            · exact fun w137 D hS105 hd105 => Zs (E' := [(72, (.bool false))]) ⟨dpE hd105 4 Z Z, Zt⟩ (Zp Z (Zm Z Z Zb))
            ·
             intro w138 D hS106 hd106
             have hl138 := Le.no M1 hS106
             exact Zs (E' := [(73, (.bool false)), (7, v4)]) ⟨dpE hd106 5 Z Z, Z, Zt⟩ (dg_on Z Z Z Z (Zm Z Z ⟨BX.refl _ _, (VRep.mono (lz37.trans hl138) hv4)⟩))
            · exact fun w139 D hS107 hd107 => Zs (E' := [(73, (.bool false)), (10, (Zv k2))]) ⟨dpE hd107 5 Z Z, Z, Zt⟩ (dg_on Z Z Z Z (Zm Z Z Zb))
            ·
             intro w140 D hS108 hd108
             have d239 : PV (RSlice RBox) M1 x2 (D 6) w140 := dpA hd108 6 Z
             generalize hq27 : (D 6) = v78 at d239
             exact Zs (E' := [(74, v78), (75, (Zv k2)), (73, (.bool false))]) ⟨congrArg some hq27, dpE hd108 7 Z Z, dpE hd108 5 Z Z, Zt⟩ (dg_on Z Z Z Z (Zx (R := RBox) Z Z Z d239 Tryd.underlying28 (Tryd.sizeOf25 _) hx8 fun p34 hp34 => ⟨BX.refl _ _, ⟨_, Z, hp34⟩⟩))
            ·
             intro w141 D hS109 hd109
             have d242 : PA RBox M1 x8 (D 8) w141 := dpA hd109 8 Z
             obtain ⟨p35, e18, ha12⟩ := d242
             exact Zs (E' := [(76, (.pointer (some p35))), (73, (.bool false))]) ⟨congrArg some e18, dpE hd109 5 Z Z, Zt⟩ (dg_on Z Z Z Z (Zl (R := RBox) Z Z ha12 (Tryd.sizeOf25 _) (Tryd.isAgg25 _) fun v79 hv79 => ⟨BX.refl _ _, hv79⟩))
            ·
             intro w142 D hS110 hd110
             have hl142 := Le.no M1 hS110
             have ho280 := ho38.no hS110
             refine Zs (E' := [(73, (.bool false)), (5, (Zw g1 0))]) ⟨dpE hd110 5 Z Z, Z, Zt⟩ (dg_on Z Z Z Z (ow_loadOwnA Z Z Z ho280 (Tryd.isAgg25 _) (Tryd.sizeOf25 _) Z ?_))
             have hw19 : VRep RBox w142 M1 ({ Sides := x1.1.Sides } : Box) (.agg #[(.slice A1 x1.1.Sides.length c1)]) := shut_Box (VRep.mono (lz36.trans hl142) hw1)
             exact ⟨BX.refl _ _, hw19⟩
            ·
             intro w143 D hS111 hd111
             have hl143 := Le.no M1 hS111
             have hC143 := hC21.no hS111
             have d245 : PV RBox M1 x8 (D 9) w143 := dpA hd111 9 Z
             have d246 : PV RBox M1 ({ Sides := x1.1.Sides } : Box) (D 10) w143 := dpA hd111 10 Z
             generalize hq28 : (D 9) = v80 at d245
             generalize hq29 : (D 10) = v81 at d246
             refine Zs (E' := [(77, v80), (78, v81), (73, (.bool false))]) ⟨congrArg some hq28, congrArg some hq29, dpE hd111 5 Z Z, Zt⟩ (dg_on Z Z Z Z (Zk Z Z Tryd.call17 (w_impl_BoxWithin (hG.mono (lz35.trans hl143)) hC143.old d245 d246 hx18) fun v82 w144 hv82 => ?_))
             obtain ⟨hv82, hb32⟩ := hv82
             obtain rfl := vbool_eq hv82
             exact ⟨hb32, Z⟩
            · exact fun w145 D hS112 hd112 => Zs (E' := [(79, (.bool true)), (73, (.bool false))]) ⟨dpE hd112 11 Z Z, dpE hd112 5 Z Z, Zt⟩ (dg_on Z Z Z Z (ow_not Z Z Zb))
            · exact fun w146 D hS113 hd113 => Zs (E' := [(73, (.bool false)), (80, (.bool false))]) ⟨dpE hd113 5 Z Z, dpE hd113 12 Z Z, Zt⟩ (Zp Z (ow_pickF Z Z Z Zb))
            · exact fun w147 D hS114 hd114 => Zs (E' := [(81, (.bool false))]) ⟨dpE hd114 13 Z Z, Zt⟩ (Zp Z (Zm Z Z Zb))
            ·
             intro w148 D hS115 hd115
             have hl148 := Le.no M1 hS115
             exact Zs (E' := [(82, (.bool false)), (7, v4)]) ⟨dpE hd115 14 Z Z, Z, Zt⟩ (dg_on Z Z Z Z (Zm Z Z ⟨BX.refl _ _, (VRep.mono (lz37.trans hl148) hv4)⟩))
            · exact fun w149 D hS116 hd116 => Zs (E' := [(82, (.bool false)), (10, (Zv k2))]) ⟨dpE hd116 14 Z Z, Z, Zt⟩ (dg_on Z Z Z Z (Zm Z Z Zb))
            ·
             intro w150 D hS117 hd117
             have d257 : PV (RSlice RBox) M1 x2 (D 15) w150 := dpA hd117 15 Z
             generalize hq30 : (D 15) = v83 at d257
             exact Zs (E' := [(83, v83), (84, (Zv k2)), (82, (.bool false))]) ⟨congrArg some hq30, dpE hd117 16 Z Z, dpE hd117 14 Z Z, Zt⟩ (dg_on Z Z Z Z (Zx (R := RBox) Z Z Z d257 Tryd.underlying28 (Tryd.sizeOf25 _) hx8 fun p36 hp36 => ⟨BX.refl _ _, ⟨_, Z, hp36⟩⟩))
            ·
             intro w151 D hS118 hd118
             have d260 : PA RBox M1 x8 (D 17) w151 := dpA hd118 17 Z
             obtain ⟨p37, e19, ha13⟩ := d260
             exact Zs (E' := [(85, (.pointer (some p37))), (82, (.bool false))]) ⟨congrArg some e19, dpE hd118 14 Z Z, Zt⟩ (dg_on Z Z Z Z (Zl (R := RBox) Z Z ha13 (Tryd.sizeOf25 _) (Tryd.isAgg25 _) fun v84 hv84 => ⟨BX.refl _ _, hv84⟩))
            ·
             intro w152 D hS119 hd119
             have hl152 := Le.no M1 hS119
             have ho301 := ho39.no hS119
             refine Zs (E' := [(82, (.bool false)), (6, (Zw g2 0))]) ⟨dpE hd119 14 Z Z, Z, Zt⟩ (dg_on Z Z Z Z (ow_loadOwnA Z Z Z ho301 (Tryd.isAgg25 _) (Tryd.sizeOf25 _) Z ?_))
             have hw20 : VRep RBox w152 M1 ({ Sides := x1.2.Sides } : Box) (.agg #[(.slice A2 x1.2.Sides.length c2)]) := shut_Box (VRep.mono (lz36.trans hl152) hw2)
             exact ⟨BX.refl _ _, hw20⟩
            ·
             intro w153 D hS120 hd120
             have d281 : PV RBox M1 x8 (D 18) w153 := dpA hd120 18 Z
             have d282 : PV RBox M1 ({ Sides := x1.2.Sides } : Box) (D 19) w153 := dpA hd120 19 Z
             have hl153 := Le.no M1 hS120
             have hC153 := hC21.no hS120
             have ho302 := ho38.no hS120
             have ho303 := ho39.no hS120
             generalize hq31 : (D 18) = v85 at d281
             generalize hq32 : (D 19) = v86 at d282
             refine lw_sub (E' := [(82, (.bool false)), (86, v85), (87, v86), (5, (Zw g1 0)), (6, (Zw g2 0)), (7, v4), (8, (.pointer (some p2))), (9, (Zv k1)), (10, (Zv k2))]) ⟨dpE hd120 14 Z Z, congrArg some hq31, congrArg some hq32, Z, Z, Z, Z, Z, Z, Zt⟩ ?_
             replace hb14 := bind_some hb14
             obtain ⟨x19, hx19, hb14⟩ := hb14
             refine lw_on Z Z Z Z Z Z (Zk Z Z Tryd.call18 (w_impl_BoxMeet (hG.mono (lz35.trans hl153)) hC153.old d281 d282 hx19) fun v87 w154 hv87 => ?_)
             obtain ⟨hv87, hb33⟩ := hv87
             have hl154 := Le.no M1 hb33
             have hC154 := hC153.no hb33
             have ho304 := ho302.no hb33
             have ho305 := ho303.no hb33
             replace hb14 := bind_some hb14
             obtain ⟨x20, hx20, hb14⟩ := hb14
             have lz39 := ((lz35.trans hl153).trans hl154)
             refine lw_on Z Z Z Z Z Z (Zk Z Z Tryd.call16 (w_impl_BoxEmpty (hG.mono lz39) hC154.old hv87 hx20) fun v88 w155 hv88 => ?_)
             obtain ⟨hv88, hb34⟩ := hv88
             have hl155 := Le.no M1 hb34
             have hC155 := hC154.no hb34
             have ho306 := ho304.no hb34
             have ho307 := ho305.no hb34
             obtain rfl := vbool_eq hv88
             refine lw_on Z Z Z Z Z Z (ow_not Z Z (Zo Z Z Z (ow_pickF Z Z Z (Zn (Ze ?_)))))
             replace hb14 := Zc hb14
             rcases hb14 with ⟨hc15, hb14⟩ | ⟨hc15, hb14⟩
             ·
              subst hc15
              refine Zu Z (cw_skip (Ze (cw_seq (Zr (Zo Z Z Z (Za Z Z (Zn (Ze ?_))))))))
              replace hb14 := bind_some hb14
              obtain ⟨lr3, hlr4, hb14⟩ := hb14
              refine cw_for hlr4 (fun s a w' => ∃ (M' : Nat → Prop), Fits 129 [(5, (Zw g1 0)), (6, (Zw g2 0)), (7, v4), (8, (.pointer (some p2))), (9, (Zv k1)), (10, (Zv k2)), (11, (Zv s))] a ∧ Le w155 M1 w' M' ∧ Cx No w M w' M' ∧ Own w' g1 25 #[(.slice A1 x1.1.Sides.length c1)] ∧ M' g1 ∧ Own w' g2 25 #[(.slice A2 x1.2.Sides.length c2)] ∧ M' g2) ?_ ?_ ?_
              · exact fun a ha => ⟨M1, ha.sub ⟨Z, Z, Z, Z, Z, Z, Z, Zt⟩, Le.refl _ _, hC155, ho306, hm4, ho307, hm5⟩
              ·
               rintro k5 a w156 sr3 ⟨M4, hF4, hl156, hC156, ho308, hm10, ho309, hm11⟩ hb35 hR3
               refine cw_at (E := [(5, (Zw g1 0)), (6, (Zw g2 0)), (7, v4), (8, (.pointer (some p2))), (9, (Zv k1)), (10, (Zv k2)), (11, (Zv k5))]) hF4 (cw_seq (cw_seq (Zr (Zo Z Z Z (Zm Z Z (Zo Z Z Z (Zm Z Z (Zo Z Z Z (ow_lss Z Z Z fun bb5 hbb5 => Zn (Ze ?_))))))))))
               replace hb35 := Zc hb35
               rcases hb35 with ⟨hc16, hb35⟩ | ⟨hc16, hb35⟩
               ·
                obtain rfl := hbb5.trans hc16
                refine cw_true Z (cw_skip (Ze (cw_seq (cw_block (cw_seq ?_)))))
                replace hb35 := bind_some hb35
                obtain ⟨x21, hx21, hb35⟩ := hb35
                have lz40 := ((lz39.trans hl155).trans hl156)
                have lz42 := ((((lz37.trans hl153).trans hl154).trans hl155).trans hl156)
                refine cw_sub (E' := [(5, (Zw g1 0)), (6, (Zw g2 0)), (7, v4), (8, (.pointer (some p2))), (9, (Zv k1)), (10, (Zv k2)), (11, (Zv k5))]) ⟨Z, Z, Z, Z, Z, Z, Z, Zt⟩ (cw_drawQ 8 [PV (RSlice RBox) M4 x2, PEq (Zv k5), PA RBox M4 x21, PV RBox M4 x21, PV (RSlice RBox) M4 x2, PEq (Zv k2), PA RBox M4 x8, PV RBox M4 x8] (by kernel_rfl) Z (by kernel_rfl) ⟨PV.mono _ _ _, Zq, PA.mono _ _ _, PV.mono _ _ _, PV.mono _ _ _, Zq, PA.mono _ _ _, PV.mono _ _ _, Zt⟩ ⟨?_, ?_, ?_, ?_, ?_, ?_, ?_, ?_, Zt⟩ ?_)
                ·
                 intro w157 D hS121 hd121
                 have hl157 := Le.no M4 hS121
                 exact Zs (E' := [(7, v4)]) ⟨Z, Zt⟩ (Zp Z (Zm Z Z ⟨BX.refl _ _, (VRep.mono (lz42.trans hl157) hv4)⟩))
                · exact fun w158 D hS122 hd122 => Zs (E' := [(11, (Zv k5))]) ⟨Z, Zt⟩ (Zp Z (Zm Z Z Zb))
                ·
                 intro w159 D hS123 hd123
                 have d283 : PV (RSlice RBox) M4 x2 (D 0) w159 := dpA hd123 0 Z
                 generalize hq33 : (D 0) = v92 at d283
                 exact Zs (E' := [(97, v92), (98, (Zv k5))]) ⟨congrArg some hq33, dpE hd123 1 Z Z, Zt⟩ (Zp Z (Zx (R := RBox) Z Z Z d283 Tryd.underlying28 (Tryd.sizeOf25 _) hx21 fun p40 hp40 => ⟨BX.refl _ _, ⟨_, Z, hp40⟩⟩))
                ·
                 intro w160 D hS124 hd124
                 have d285 : PA RBox M4 x21 (D 2) w160 := dpA hd124 2 Z
                 obtain ⟨p41, e20, ha14⟩ := d285
                 exact Zs (E' := [(99, (.pointer (some p41)))]) ⟨congrArg some e20, Zt⟩ (Zp Z (Zl (R := RBox) Z Z ha14 (Tryd.sizeOf25 _) (Tryd.isAgg25 _) fun v93 hv93 => ⟨BX.refl _ _, hv93⟩))
                ·
                 intro w161 D hS125 hd125
                 have hl161 := Le.no M4 hS125
                 exact Zs (E' := [(7, v4)]) ⟨Z, Zt⟩ (Zp Z (Zm Z Z ⟨BX.refl _ _, (VRep.mono (lz42.trans hl161) hv4)⟩))
                · exact fun w162 D hS126 hd126 => Zs (E' := [(10, (Zv k2))]) ⟨Z, Zt⟩ (Zp Z (Zm Z Z Zb))
                ·
                 intro w163 D hS127 hd127
                 have d286 : PV (RSlice RBox) M4 x2 (D 4) w163 := dpA hd127 4 Z
                 generalize hq34 : (D 4) = v94 at d286
                 exact Zs (E' := [(101, v94), (102, (Zv k2))]) ⟨congrArg some hq34, dpE hd127 5 Z Z, Zt⟩ (Zp Z (Zx (R := RBox) Z Z Z d286 Tryd.underlying28 (Tryd.sizeOf25 _) hx8 fun p42 hp42 => ⟨BX.refl _ _, ⟨_, Z, hp42⟩⟩))
                ·
                 intro w164 D hS128 hd128
                 have d288 : PA RBox M4 x8 (D 6) w164 := dpA hd128 6 Z
                 obtain ⟨p43, e21, ha15⟩ := d288
                 exact Zs (E' := [(103, (.pointer (some p43)))]) ⟨congrArg some e21, Zt⟩ (Zp Z (Zl (R := RBox) Z Z ha15 (Tryd.sizeOf25 _) (Tryd.isAgg25 _) fun v95 hv95 => ⟨BX.refl _ _, hv95⟩))
                ·
                 intro w165 D hS129 hd129
                 have d292 : PV RBox M4 x21 (D 3) w165 := dpA hd129 3 Z
                 have d296 : PV RBox M4 x8 (D 7) w165 := dpA hd129 7 Z
                 have hl165 := Le.no M4 hS129
                 have hC165 := hC156.no hS129
                 have ho326 := ho308.no hS129
                 have ho327 := ho309.no hS129
                 generalize hq35 : (D 3) = v96 at d292
                 generalize hq36 : (D 7) = v97 at d296
                 refine lw_sub (E' := [(100, v96), (104, v97), (5, (Zw g1 0)), (6, (Zw g2 0)), (7, v4), (8, (.pointer (some p2))), (9, (Zv k1)), (10, (Zv k2)), (11, (Zv k5))]) ⟨congrArg some hq35, congrArg some hq36, Z, Z, Z, Z, Z, Z, Z, Zt⟩ ?_
                 replace hb35 := bind_some hb35
                 obtain ⟨x22, hx22, hb35⟩ := hb35
                 refine Zo Z Z Z (Zk Z Z Tryd.call18 (w_impl_BoxMeet (hG.mono (lz40.trans hl165)) hC165.old d292 d296 hx22) fun v98 w166 hv98 => ?_)
                 obtain ⟨hv98, hb36⟩ := hv98
                 have hl166 := Le.no M4 hb36
                 have hC166 := hC165.no hb36
                 have ho328 := ho326.no hb36
                 have ho329 := ho327.no hb36
                 replace hb35 := bind_some hb35
                 obtain ⟨x23, hx23, hb35⟩ := hb35
                 have lz44 := ((lz40.trans hl165).trans hl166)
                 refine Zo Z Z Z (Zk Z Z Tryd.call16 (w_impl_BoxEmpty (hG.mono lz44) hC166.old hv98 hx23) fun v99 w167 hv99 => ?_)
                 obtain ⟨hv99, hb37⟩ := hv99
                 have hl167 := Le.no M4 hb37
                 have hC167 := hC166.no hb37
                 have ho330 := ho328.no hb37
                 have ho331 := ho329.no hb37
                 obtain rfl := vbool_eq hv99
                 refine Zo Z Z Z (ow_not Z Z (Zn (Ze ?_)))
                 replace hb35 := Zc hb35
                 rcases hb35 with ⟨hc17, hb35⟩ | ⟨hc17, hb35⟩
                 ·
                  subst hc17
                  refine Zu Z (cw_skip (ew_blockN (Ze (Zr (Zo Z Z Z (Zm Z Z (Zo Z Z Z (ow_add Z Z Z (Zo Z Z Z (Za Z Z (Zn ?_)))))))))))
                  have lz45 := (((hl156.trans hl165).trans hl166).trans hl167)
                  exact ew_nxt (W (k5 + 1)) hb35 fun a ha => ⟨M4, (ha.sub ⟨Z, Z, Z, Z, Z, Z, Z, Zt⟩), lz45, hC167, ho330, hm10, ho331, hm11⟩
                 ·
                  subst hc17
                  refine cw_true Z (cw_seq (Zr (Zo Z Z Z (Za Z Z (Zn (Ze (Zy (ew_blockR (Zh (Zh (ew_blockR (ew_brkR (ew_blockR (Zh (Zh (ew_blockR (ew_brkR (Zh ?_))))))))))))))))))
                  have e22 := hR3 _ (sj hb35).symm
                  subst e22
                  have e23 := hR1 _ (sj hb14).symm
                  subst e23
                  obtain rfl := sj h
                  exact ew_ret (res1 Z (.tmp Z)) ⟨_, Z, ((vbool _)), hC167.bx⟩
               ·
                obtain rfl := hbb5.trans hc16
                exact Zu Z (cw_exit (ew_thenX (ew_thenX (ew_blockX (ew_brk k5 hb35 fun a ha => ⟨M4, (ha.sub ⟨Z, Z, Z, Z, Z, Z, Z, Zt⟩), hl156, hC156, ho308, hm10, ho309, hm11⟩)))))
              ·
               rintro k6 a w168 hlr5 ⟨M5, hF5, hl168, hC168, ho332, hm12, ho333, hm13⟩
               subst hlr5
               refine ew_at (E := [(5, (Zw g1 0)), (6, (Zw g2 0)), (7, v4), (8, (.pointer (some p2))), (9, (Zv k1)), (10, (Zv k2)), (11, (Zv k6))]) hF5 (ew_blockN (Ze (Zr (Zo Z Z Z (Zm Z Z (Zo Z Z Z (ow_add Z Z Z (Zo Z Z Z (Za Z Z (Zn ?_))))))))))
               have lz46 := ((((lz38.trans hl153).trans hl154).trans hl155).trans hl168)
               exact ew_nxt (k1, (W (k2 + 1))) hb14 fun a ha => ⟨M5, (ha.sub ⟨Z, Z, Z, Z, Z, Z, Zt⟩), lz46, hC168, ho332, hm12, ho333, hm13⟩
             ·
              subst hc15
              refine cw_true Z (cw_seq (Zr (Zo Z Z Z (Za Z Z (Zn (Ze (Zy (Zh (ew_blockR (Zh (Zh (ew_blockR (ew_brkR (Zh ?_))))))))))))))
              have e24 := hR1 _ (sj hb14).symm
              subst e24
              obtain rfl := sj h
              exact ew_ret (res1 Z (.tmp Z)) ⟨_, Z, ((vbool _)), hC155.bx⟩
           ·
            subst hc14
            have lz47 := ((lz9.trans hl20).trans hl21)
            have lz48 := ((lz10.trans hl20).trans hl21)
            have lz49 := ((lz8.trans hl20).trans hl21)
            refine cw_sub (E' := [(5, (Zw g1 0)), (6, (Zw g2 0)), (7, v4), (8, (.pointer (some p2))), (9, (Zv k1)), (10, (Zv k2))]) ⟨Z, Z, Z, Z, Z, Z, Zt⟩ (cw_drawQ 20 [PV (RSlice RBox) M1 x2, PEq (Zv k2), PA RBox M1 x8, PV RBox M1 x8, PEq (.bool false), PEq (.bool false), PV (RSlice RBox) M1 x2, PEq (Zv k2), PA RBox M1 x8, PV RBox M1 x8, PV RBox M1 ({ Sides := x1.1.Sides } : Box), PEq (.bool false), PEq (.bool true), PEq (.bool true), PEq (.bool true), PEq undef, PEq undef, PEq undef, PEq undef, PEq undef] (by kernel_rfl) Z (by kernel_rfl) ⟨PV.mono _ _ _, Zq, PA.mono _ _ _, PV.mono _ _ _, Zq, Zq, PV.mono _ _ _, Zq, PA.mono _ _ _, PV.mono _ _ _, PV.mono _ _ _, Zq, Zq, Zq, Zq, Zq, Zq, Zq, Zq, Zq, Zt⟩ ⟨?_, ?_, ?_, ?_, ?_, ?_, ?_, ?_, ?_, ?_, ?_, ?_, ?_, ?_, ?_, ?_, ?_, ?_, ?_, ?_, Zt⟩ ?_)
            ·
             intro w169 D hS130 hd130
             have hl169 := Le.no M1 hS130
             exact Zs (E' := [(7, v4)]) ⟨Z, Zt⟩ (Zp Z (Zm Z Z ⟨BX.refl _ _, (VRep.mono (lz49.trans hl169) hv4)⟩))
            · exact fun w170 D hS131 hd131 => Zs (E' := [(10, (Zv k2))]) ⟨Z, Zt⟩ (Zp Z (Zm Z Z Zb))
            ·
             intro w171 D hS132 hd132
             have d297 : PV (RSlice RBox) M1 x2 (D 0) w171 := dpA hd132 0 Z
             generalize hq37 : (D 0) = v101 at d297
             exact Zs (E' := [(68, v101), (69, (Zv k2))]) ⟨congrArg some hq37, dpE hd132 1 Z Z, Zt⟩ (Zp Z (Zx (R := RBox) Z Z Z d297 Tryd.underlying28 (Tryd.sizeOf25 _) hx8 fun p44 hp44 => ⟨BX.refl _ _, ⟨_, Z, hp44⟩⟩))
            ·
             intro w172 D hS133 hd133
             have d299 : PA RBox M1 x8 (D 2) w172 := dpA hd133 2 Z
             obtain ⟨p45, e25, ha16⟩ := d299
             exact Zs (E' := [(70, (.pointer (some p45)))]) ⟨congrArg some e25, Zt⟩ (Zp Z (Zl (R := RBox) Z Z ha16 (Tryd.sizeOf25 _) (Tryd.isAgg25 _) fun v102 hv102 => ⟨BX.refl _ _, hv102⟩))
            ·
             intro w173 D hS134 hd134
             have hl173 := Le.no M1 hS134
             have hC173 := hC21.no hS134
             have d300 : PV RBox M1 x8 (D 3) w173 := dpA hd134 3 Z
             generalize hq38 : (D 3) = v103 at d300
             refine Zs (E' := [(71, v103)]) ⟨congrArg some hq38, Zt⟩ (Zp Z (Zk Z Z Tryd.call16 (w_impl_BoxEmpty (hG.mono (lz47.trans hl173)) hC173.old d300 hx17) fun v104 w174 hv104 => ?_))
             obtain ⟨hv104, hb38⟩ := hv104
             obtain rfl := vbool_eq hv104
             exact ⟨hb38, Z⟩
            · exact fun w175 D hS135 hd135 => Zs (E' := [(72, (.bool false))]) ⟨dpE hd135 4 Z Z, Zt⟩ (Zp Z (Zm Z Z Zb))
            ·
             intro w176 D hS136 hd136
             have hl176 := Le.no M1 hS136
             exact Zs (E' := [(73, (.bool false)), (7, v4)]) ⟨dpE hd136 5 Z Z, Z, Zt⟩ (dg_on Z Z Z Z (Zm Z Z ⟨BX.refl _ _, (VRep.mono (lz49.trans hl176) hv4)⟩))
            · exact fun w177 D hS137 hd137 => Zs (E' := [(73, (.bool false)), (10, (Zv k2))]) ⟨dpE hd137 5 Z Z, Z, Zt⟩ (dg_on Z Z Z Z (Zm Z Z Zb))
            ·
             intro w178 D hS138 hd138
             have d305 : PV (RSlice RBox) M1 x2 (D 6) w178 := dpA hd138 6 Z
             generalize hq39 : (D 6) = v105 at d305
             exact Zs (E' := [(74, v105), (75, (Zv k2)), (73, (.bool false))]) ⟨congrArg some hq39, dpE hd138 7 Z Z, dpE hd138 5 Z Z, Zt⟩ (dg_on Z Z Z Z (Zx (R := RBox) Z Z Z d305 Tryd.underlying28 (Tryd.sizeOf25 _) hx8 fun p46 hp46 => ⟨BX.refl _ _, ⟨_, Z, hp46⟩⟩))
            ·
             intro w179 D hS139 hd139
             have d308 : PA RBox M1 x8 (D 8) w179 := dpA hd139 8 Z
             obtain ⟨p47, e26, ha17⟩ := d308
             exact Zs (E' := [(76, (.pointer (some p47))), (73, (.bool false))]) ⟨congrArg some e26, dpE hd139 5 Z Z, Zt⟩ (dg_on Z Z Z Z (Zl (R := RBox) Z Z ha17 (Tryd.sizeOf25 _) (Tryd.isAgg25 _) fun v106 hv106 => ⟨BX.refl _ _, hv106⟩))
            ·
             intro w180 D hS140 hd140
             have hl180 := Le.no M1 hS140
             have ho356 := ho38.no hS140
             refine Zs (E' := [(73, (.bool false)), (5, (Zw g1 0))]) ⟨dpE hd140 5 Z Z, Z, Zt⟩ (dg_on Z Z Z Z (ow_loadOwnA Z Z Z ho356 (Tryd.isAgg25 _) (Tryd.sizeOf25 _) Z ?_))
             have hw21 : VRep RBox w180 M1 ({ Sides := x1.1.Sides } : Box) (.agg #[(.slice A1 x1.1.Sides.length c1)]) := shut_Box (VRep.mono (lz48.trans hl180) hw1)
             exact ⟨BX.refl _ _, hw21⟩
            ·
             intro w181 D hS141 hd141
             have hl181 := Le.no M1 hS141
             have hC181 := hC21.no hS141
             have d311 : PV RBox M1 x8 (D 9) w181 := dpA hd141 9 Z
             have d312 : PV RBox M1 ({ Sides := x1.1.Sides } : Box) (D 10) w181 := dpA hd141 10 Z
             generalize hq40 : (D 9) = v107 at d311
             generalize hq41 : (D 10) = v108 at d312
             refine Zs (E' := [(77, v107), (78, v108), (73, (.bool false))]) ⟨congrArg some hq40, congrArg some hq41, dpE hd141 5 Z Z, Zt⟩ (dg_on Z Z Z Z (Zk Z Z Tryd.call17 (w_impl_BoxWithin (hG.mono (lz47.trans hl181)) hC181.old d311 d312 hx18) fun v109 w182 hv109 => ?_))
             obtain ⟨hv109, hb39⟩ := hv109
             obtain rfl := vbool_eq hv109
             exact ⟨hb39, Z⟩
            · exact fun w183 D hS142 hd142 => Zs (E' := [(79, (.bool false)), (73, (.bool false))]) ⟨dpE hd142 11 Z Z, dpE hd142 5 Z Z, Zt⟩ (dg_on Z Z Z Z (ow_not Z Z Zb))
            · exact fun w184 D hS143 hd143 => Zs (E' := [(73, (.bool false)), (80, (.bool true))]) ⟨dpE hd143 5 Z Z, dpE hd143 12 Z Z, Zt⟩ (Zp Z (ow_pickF Z Z Z Zb))
            · exact fun w185 D hS144 hd144 => Zs (E' := [(81, (.bool true))]) ⟨dpE hd144 13 Z Z, Zt⟩ (Zp Z (Zm Z Z Zb))
            · exact fun w186 D hS145 hd145 => Zs (E' := [(82, (.bool true)), (7, v4)]) ⟨dpE hd145 14 Z Z, Z, Zt⟩ (dg_off Z Z Z Z Zb)
            · exact fun w187 D hS146 hd146 => Zs (E' := [(82, (.bool true)), (10, (Zv k2))]) ⟨dpE hd146 14 Z Z, Z, Zt⟩ (dg_off Z Z Z Z Zb)
            · exact fun w188 D hS147 hd147 => Zs (E' := [(83, undef), (84, undef), (82, (.bool true))]) ⟨dpE hd147 15 Z Z, dpE hd147 16 Z Z, dpE hd147 14 Z Z, Zt⟩ (dg_off Z Z Z Z Zb)
            · exact fun w189 D hS148 hd148 => Zs (E' := [(85, undef), (82, (.bool true))]) ⟨dpE hd148 17 Z Z, dpE hd148 14 Z Z, Zt⟩ (dg_off Z Z Z Z Zb)
            · exact fun w190 D hS149 hd149 => Zs (E' := [(82, (.bool true)), (6, (Zw g2 0))]) ⟨dpE hd149 14 Z Z, Z, Zt⟩ (dg_off Z Z Z Z Zb)
            ·
             intro w191 D hS150 hd150
             have hC191 := hC21.no hS150
             refine lw_sub (E' := [(82, (.bool true)), (86, undef), (87, undef), (5, (Zw g1 0)), (6, (Zw g2 0)), (7, v4), (8, (.pointer (some p2))), (9, (Zv k1)), (10, (Zv k2))]) ⟨dpE hd150 14 Z Z, dpE hd150 18 Z Z, dpE hd150 19 Z Z, Z, Z, Z, Z, Z, Z, Zt⟩ (lw_off Z Z Z Z Z Z (lw_off Z Z Z Z Z Z (lw_off Z Z Z Z Z Z (Zo Z Z Z (ow_pickT Z Z Z (Zn (Ze (cw_true Z (cw_seq (Zr (Zo Z Z Z (Za Z Z (Zn (Ze (Zy (Zh (ew_blockR (Zh (Zh (ew_blockR (ew_brkR (Zh ?_))))))))))))))))))))))
             have e27 := hR1 _ (sj hb14).symm
             subst e27
             obtain rfl := sj h
             exact ew_ret (res1 Z (.tmp Z)) ⟨_, Z, ((vbool _)), hC191.bx⟩
       ·
        obtain rfl := hbb3.trans hc6
        exact Zu Z (cw_exit (ew_thenX (ew_thenX (ew_blockX (ew_brk (k1, k2) hb14 fun a ha => ⟨M1, (ha.sub ⟨Z, Z, Z, Z, Z, Z, Zt⟩), hl14, hC14, ho24, hm4, ho25, hm5⟩)))))
      ·
       rintro ⟨k7, k8⟩ a w192 hlr6 ⟨M6, hF6, hl192, hC192, ho380, hm14, ho381, hm15⟩
       subst hlr6
       refine ew_at (E := [(5, (Zw g1 0)), (6, (Zw g2 0)), (7, v4), (8, (.pointer (some p2))), (9, (Zv k7)), (10, (Zv k8))]) hF6 (Ze (cw_seq (Zr (Zo Z Z Z (Zm Z Z ?_)))))
       have lz51 := (((((((hl7.trans hl8).trans hl9).trans hl10).trans hl11).trans hl12).trans hl13).trans hl192)
       refine Zo Z Z Z (ow_len Z Z (VRep.mono lz51 hv4) Tryd.underlying28 Z (Zo Z Z Z (ow_leq Z Z Z fun bb6 hbb6 => Zo Z Z Z (Zm Z Z ?_))))
       replace h := Zc h
       rcases h with ⟨hc18, h⟩ | ⟨hc18, h⟩
       ·
        obtain rfl := hbb6.trans hc18
        refine lw_on Z Z Z Z Z Z (Zm Z Z (lw_on Z Z Z Z Z Z (ow_eqlI Z Z Z fun bb7 hbb7 => lw_on Z Z Z Z Z Z (ow_loadOwnA Z Z Z ho380 (Tryd.isAgg25 _) (Tryd.sizeOf25 _) Z ?_))))
        have lz52 := ((((lz6.trans hl11).trans hl12).trans hl13).trans hl192)
        have hw22 : VRep RBox w192 M6 ({ Sides := x1.1.Sides } : Box) (.agg #[(.slice A1 x1.1.Sides.length c1)]) := shut_Box (VRep.mono lz52 hw1)
        refine lw_on Z Z Z Z Z Z (Zl (R := RPacket) Z Z (ARep.mono hl192 hp2) (Tryd.sizeOf34 _) (Tryd.isAgg34 _) fun v112 hv112 => ?_)
        replace h := bind_some h
        obtain ⟨x24, hx24, h⟩ := h
        have lz53 := (((lz7.trans hl12).trans hl13).trans hl192)
        refine lw_on Z Z Z Z Z Z (Zk Z Z Tryd.call15 (w_impl_BoxHas (hG.mono lz53) hC192.old hw22 hv112 hx24) fun v113 w193 hv113 => ?_)
        obtain ⟨hv113, hb40⟩ := hv113
        have hl193 := Le.no M6 hb40
        have hC193 := hC192.no hb40
        have ho383 := ho381.no hb40
        obtain rfl := vbool_eq hv113
        refine lw_on Z Z Z Z Z Z (Zm Z Z ?_)
        replace h := Zc h
        rcases h with ⟨hc19, h⟩ | ⟨hc19, h⟩
        ·
         subst hc19
         refine lw_on Z Z Z Z Z Z (ow_loadOwnA Z Z Z ho383 (Tryd.isAgg25 _) (Tryd.sizeOf25 _) Z ?_)
         have hw23 : VRep RBox w193 M6 ({ Sides := x1.2.Sides } : Box) (.agg #[(.slice A2 x1.2.Sides.length c2)]) := shut_Box (VRep.mono (lz52.trans hl193) hw2)
         refine lw_on Z Z Z Z Z Z (Zl (R := RPacket) Z Z (ARep.mono (hl192.trans hl193) hp2) (Tryd.sizeOf34 _) (Tryd.isAgg34 _) fun v114 hv114 => ?_)
         replace h := bind_some h
         obtain ⟨x25, hx25, h⟩ := h
         refine lw_on Z Z Z Z Z Z (Zk Z Z Tryd.call15 (w_impl_BoxHas (hG.mono (lz53.trans hl193)) hC193.old hw23 hv114 hx25) fun v115 w194 hv115 => ?_)
         obtain ⟨hv115, hb41⟩ := hv115
         have hC194 := hC193.no hb41
         obtain rfl := vbool_eq hv115
         refine lw_on Z Z Z Z Z Z (ow_not Z Z (lw_on Z Z Z Z Z Z (ow_pickT Z Z Z (lw_on Z Z Z Z Z Z (ow_eqlB Z Z Z Tryd.underlying4 fun bb8 hbb8 => ?_)))))
         have hbb8' : bb8 = ((k7 == 1) == (!x25)) := hbb8.trans (by rw [hbb7])
         refine Zo Z Z Z (ow_pickT Z Z Z (Zo Z Z Z (Zm Z Z ?_)))
         replace h := Zc h
         rcases h with ⟨hc20, h⟩ | ⟨hc20, h⟩
         ·
          obtain rfl := hbb8'.trans hc20
          refine lw_on Z Z Z Z Z Z (Zm Z Z (lw_on Z Z Z Z Z Z (ow_leq Z Z Z fun bb9 hbb9 => Zo Z Z Z (ow_pickT Z Z Z (Zo Z Z Z (Za Z Z (Zn (Ze (Zy ?_)))))))))
          obtain rfl := sj h
          exact ew_ret (res1 Z (.tmp Z)) ⟨_, Z, ((vbool_of hbb9)), hC194.bx⟩
         ·
          obtain rfl := hbb8'.trans hc20
          refine lw_off Z Z Z Z Z Z (lw_off Z Z Z Z Z Z (Zo Z Z Z (ow_pickF Z Z Z (Zo Z Z Z (Za Z Z (Zn (Ze (Zy ?_))))))))
          obtain rfl := sj h
          exact ew_ret (res1 Z (.tmp Z)) ⟨_, Z, ((vbool _)), hC194.bx⟩
        ·
         subst hc19
         refine lw_off Z Z Z Z Z Z (lw_off Z Z Z Z Z Z (lw_off Z Z Z Z Z Z (lw_off Z Z Z Z Z Z (lw_on Z Z Z Z Z Z (ow_pickF Z Z Z (lw_on Z Z Z Z Z Z (ow_eqlB Z Z Z Tryd.underlying4 fun bb10 hbb10 => ?_)))))))
         have hbb10' : bb10 = ((k7 == 1) == false) := hbb10.trans (by rw [hbb7])
         refine Zo Z Z Z (ow_pickT Z Z Z (Zo Z Z Z (Zm Z Z ?_)))
         replace h := Zc h
         rcases h with ⟨hc21, h⟩ | ⟨hc21, h⟩
         ·
          obtain rfl := hbb10'.trans hc21
          refine lw_on Z Z Z Z Z Z (Zm Z Z (lw_on Z Z Z Z Z Z (ow_leq Z Z Z fun bb11 hbb11 => Zo Z Z Z (ow_pickT Z Z Z (Zo Z Z Z (Za Z Z (Zn (Ze (Zy ?_)))))))))
          obtain rfl := sj h
          exact ew_ret (res1 Z (.tmp Z)) ⟨_, Z, ((vbool_of hbb11)), hC193.bx⟩
         ·
          obtain rfl := hbb10'.trans hc21
          refine lw_off Z Z Z Z Z Z (lw_off Z Z Z Z Z Z (Zo Z Z Z (ow_pickF Z Z Z (Zo Z Z Z (Za Z Z (Zn (Ze (Zy ?_))))))))
          obtain rfl := sj h
          exact ew_ret (res1 Z (.tmp Z)) ⟨_, Z, ((vbool _)), hC193.bx⟩
       ·
        obtain rfl := hbb6.trans hc18
        refine lw_off Z Z Z Z Z Z (lw_off Z Z Z Z Z Z (lw_off Z Z Z Z Z Z (lw_off Z Z Z Z Z Z (lw_off Z Z Z Z Z Z (lw_off Z Z Z Z Z Z (lw_off' Z Z Z Z Z Z (lw_off' Z Z Z Z Z Z (lw_off' Z Z Z Z Z Z (lw_off' Z Z Z Z Z Z (lw_off Z Z Z Z Z Z (lw_off Z Z Z Z Z Z (Zo Z Z Z (ow_pickF Z Z Z (Zo Z Z Z (Zm Z Z (lw_off Z Z Z Z Z Z (lw_off Z Z Z Z Z Z (Zo Z Z Z (ow_pickF Z Z Z (Zo Z Z Z (Za Z Z (Zn (Ze (Zy ?_))))))))))))))))))))))))
        obtain rfl := sj h
        exact ew_ret (res1 Z (.tmp Z)) ⟨_, Z, ((vbool _)), hC192.bx⟩
     ·
      subst hc5
      refine cw_true Z (cw_seq (Zr (Zo Z Z Z (Zm Z Z ?_))))
      have lz54 := (((hl7.trans hl8).trans hl9).trans hl10)
      refine Zo Z Z Z (ow_len Z Z (VRep.mono lz54 hv4) Tryd.underlying28 Z (Zo Z Z Z (ow_eqlI Z Z Z fun bb12 hbb12 => Zo Z Z Z (Zm Z Z ?_))))
      replace h := Zc h
      rcases h with ⟨hc22, h⟩ | ⟨hc22, h⟩
      ·
       obtain rfl := hbb12.trans hc22
       replace h := bind_some h
       obtain ⟨x26, hx26, h⟩ := h
       refine lw_on Z Z Z Z Z Z (Zk Z Z Tryd.call13 (w_laws_alive (hG.mono (lz5.trans hl10)) hC10.old hx26) fun v116 w195 hv116 => ?_)
       obtain ⟨hv116, hb42⟩ := hv116
       have hC195 := hC10.no hb42
       obtain rfl := vbool_eq hv116
       refine Zo Z Z Z (ow_pickT Z Z Z (Zo Z Z Z (Za Z Z (Zn (Ze (Zy (Zh ?_)))))))
       obtain rfl := sj h
       exact ew_ret (res1 Z (.tmp Z)) ⟨_, Z, ((vbool _)), hC195.bx⟩
      ·
       obtain rfl := hbb12.trans hc22
       refine lw_off Z Z Z Z Z Z (Zo Z Z Z (ow_pickF Z Z Z (Zo Z Z Z (Za Z Z (Zn (Ze (Zy (Zh ?_))))))))
       obtain rfl := sj h
       exact ew_ret (res1 Z (.tmp Z)) ⟨_, Z, ((vbool _)), hC10.bx⟩
    ·
     subst hc4
     refine lw_off Z Z Z Z Z Z (lw_off Z Z Z Z Z Z (lw_off Z Z Z Z Z Z (Zo Z Z Z (ow_pickT Z Z Z (Zn (Ze (cw_true Z (cw_seq (Zr (Zo Z Z Z (Zm Z Z ?_)))))))))))
     have lz55 := ((hl7.trans hl8).trans hl9)
     refine Zo Z Z Z (ow_len Z Z (VRep.mono lz55 hv4) Tryd.underlying28 Z (Zo Z Z Z (ow_eqlI Z Z Z fun bb13 hbb13 => Zo Z Z Z (Zm Z Z ?_))))
     replace h := Zc h
     rcases h with ⟨hc23, h⟩ | ⟨hc23, h⟩
     ·
      obtain rfl := hbb13.trans hc23
      replace h := bind_some h
      obtain ⟨x27, hx27, h⟩ := h
      have lz56 := ((lz3.trans hl8).trans hl9)
      refine lw_on Z Z Z Z Z Z (Zk Z Z Tryd.call13 (w_laws_alive (hG.mono lz56) hC9.old hx27) fun v117 w196 hv117 => ?_)
      obtain ⟨hv117, hb43⟩ := hv117
      have hC196 := hC9.no hb43
      obtain rfl := vbool_eq hv117
      refine Zo Z Z Z (ow_pickT Z Z Z (Zo Z Z Z (Za Z Z (Zn (Ze (Zy (Zh ?_)))))))
      obtain rfl := sj h
      exact ew_ret (res1 Z (.tmp Z)) ⟨_, Z, ((vbool _)), hC196.bx⟩
     ·
      obtain rfl := hbb13.trans hc23
      refine lw_off Z Z Z Z Z Z (Zo Z Z Z (ow_pickF Z Z Z (Zo Z Z Z (Za Z Z (Zn (Ze (Zy (Zh ?_))))))))
      obtain rfl := sj h
      exact ew_ret (res1 Z (.tmp Z)) ⟨_, Z, ((vbool _)), hC9.bx⟩
   ·
    subst hc3
    refine cw_true Z (cw_seq (Zr (Zo Z Z Z (Za Z Z (Zn (Ze (Zy (Zh ?_))))))))
    obtain rfl := sj h
    exact ew_ret (res1 Z (.tmp Z)) ⟨_, Z, ((vbool _)), hC8.bx⟩


end Go.PF
