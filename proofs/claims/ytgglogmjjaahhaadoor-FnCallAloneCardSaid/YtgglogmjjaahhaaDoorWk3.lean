/- The walks; no condition. -/
import Derived.Test.YtgglogmjjaahhaaDoorProg
import Derived.Test.YtgglogmjjaahhaaDoorWk2
import Derived.Test.YtgglogmjjaahhaaDoorPFFresh
set_option maxRecDepth 100000
set_option maxHeartbeats 4000000
namespace Go.PF
open Go Go.RowKit Go.Proofs

theorem w_laws_FnCallAlone {w : World} {M : Nat → Prop} (hG : ARep (RArr 4 RShape) w M shapes ⟨0, 0, none⟩) (hO : ∀ b, M b → b < w.heap.size) {v0p : Value} {a_code : List Int} (h0 : VRep (RSlice RU8) w M a_code v0p) {r : Bool} (h : F.laws_FnCallAlone a_code = some r) :
  Calls Tryd.prog 4 [v0p].toArray w fun e w' => ∃ v, e = .returned v ∧ VRep RBool w' M r v ∧ BX No w w' := by
 have hC : Cx No w M w M := Cx.start hO (fun _ e => e.elim)
 refine walk (N := 55) Tryd.func4 Z Tryd.ntmps4 Z (cw_seq (cw_region (lw_op Z Z Z (ow_assign Z Z (lw_nil (ew_then (cw_seq (cw_seq (cw_region (lw_op Z Z Z (ow_move Z Z (lw_op Z Z Z (ow_len Z Z h0 Tryd.underlying22 Z (lw_op Z Z Z (ow_gtr Z Z Z fun bb1 hbb1 => lw_nil (ew_then ?_))))))))))))))))
 replace h := cond_some h
 rcases h with ⟨hc1, h⟩ | ⟨hc1, h⟩
 ·
  obtain rfl := hbb1.trans hc1
  refine cw_true Z (cw_seq (cw_region (lw_op Z Z Z (ow_assign Z Z (lw_nil (ew_then (cw_ret (ew_thenR ?_))))))))
  obtain rfl := Option.some.inj h
  exact ew_ret (res1 Z (.tmp Z)) ⟨_, Z, ((vbool _)), hC.bx⟩
 ·
  obtain rfl := hbb1.trans hc1
  refine cw_false Z (cw_skip (ew_then (cw_seq (cw_region (lw_op Z Z Z (ow_move Z Z ?_))))))
  replace h := bind_some h
  obtain ⟨x1, hx1, h⟩ := h
  refine lw_op Z Z Z (ow_call Z Z Tryd.call21 (w_spec_DrawFirstFit hG hC.old h0 hx1) fun v1 w1 hv1 => ?_)
  obtain ⟨⟨v2, v3, v4, rfl, hv2, hv3, hv4⟩, hb1⟩ := hv1
  have hl1 := Le.no M hb1
  have hC1 := hC.no hb1
  obtain rfl := vint_eq hv3
  refine lw_op Z Z Z (ow_move Z Z (lw_op Z Z Z (ow_extract Z Z Z (lw_op Z Z Z (ow_extract Z Z Z (lw_op Z Z Z (ow_extract Z Z Z (lw_op Z Z Z (ow_alloc Z (Tryd.zeroValue38 _) hC1 fun g1 w2 hg1 hg2 ho1 hb2 hl2 hC2 => ?_)))))))))
  have hm1 : (Add g1 M) g1 := .inl Z
  refine lw_op Z Z Z (ow_assign Z Z (lw_op Z Z Z (ow_assign Z Z ?_)))
  obtain rfl := open_Packet hv4
  refine lw_op0 Z Z (ow_store (X := No) (us := [(.int .i64 x1.2.2.From), (.int .i64 x1.2.2.To), (.int .i64 x1.2.2.Port), (.int .i64 x1.2.2.Proto)]) (cs' := #[(.int .i64 x1.2.2.From), (.int .i64 x1.2.2.To), (.int .i64 x1.2.2.Port), (.int .i64 x1.2.2.Proto)]) Z Z Z Z ho1 (Tryd.sizeOf38 _) Z Z Z Z hm1 (.inl hg2) Z hC2 fun w3 ho2 hb3 hl3 hC3 => lw_nil (ew_then (cw_seq (cw_seq (cw_region (lw_op Z Z Z (ow_assign Z Z (lw_nil (ew_then ?_)))))))))
  replace h := bind_some h
  obtain ⟨lr1, hlr1, h⟩ := h
  refine cw_for hlr1 (fun s a w' => ∃ (M' : Nat → Prop), Fits 55 [(3, v2), (5, (.pointer (some ⟨g1, 0, none⟩))), (6, (.int .i64 s))] a ∧ Le w3 (Add g1 M) w' M' ∧ Cx No w M w' M' ∧ Own w' g1 38 #[(.int .i64 x1.2.2.From), (.int .i64 x1.2.2.To), (.int .i64 x1.2.2.Port), (.int .i64 x1.2.2.Proto)] ∧ M' g1) ?_ ?_ ?_
  ·
   intro a ha
   exact ⟨(Add g1 M), ha.sub ⟨Z, Z, Z, trivial⟩, Le.refl _ _, hC3, ho2, hm1⟩
  ·
   rintro k1 a w4 sr1 ⟨M1, hF1, hl4, hC4, ho3, hm2⟩ hb4 hR1
   refine cw_at (E := [(3, v2), (5, (.pointer (some ⟨g1, 0, none⟩))), (6, (.int .i64 k1))]) hF1 (cw_seq (cw_seq (cw_region (lw_op Z Z Z (ow_move Z Z (lw_op Z Z Z (ow_move Z Z ?_)))))))
   have lz1 := ((hl2.trans hl3).trans hl4)
   refine lw_op Z Z Z (ow_len Z Z (VRep.mono lz1 hv2) Tryd.underlying36 Z (lw_op Z Z Z (ow_lss Z Z Z fun bb2 hbb2 => lw_nil (ew_then ?_))))
   replace hb4 := cond_some hb4
   rcases hb4 with ⟨hc2, hb4⟩ | ⟨hc2, hb4⟩
   ·
    obtain rfl := hbb2.trans hc2
    refine cw_true Z (cw_skip (ew_then (cw_seq (cw_block (cw_seq (cw_region (lw_op Z Z Z (ow_move Z Z (lw_op Z Z Z (ow_move Z Z ?_))))))))))
    replace hb4 := bind_some hb4
    obtain ⟨x2, hx2, hb4⟩ := hb4
    refine lw_op Z Z Z (ow_indexSlice (R := RRule) Z Z Z (VRep.mono lz1 hv2) Tryd.underlying36 (Tryd.sizeOf42 _) hx2 fun p1 hp1 => lw_op Z Z Z (ow_fieldAddr Z Z Tryd.underlying42 Z (Tryd.sizeOf3 _) (lw_op Z Z Z (ow_load (R := RInt) Z Z (hp1.fld fld_Rule_Action) (Tryd.sizeOf3 _) (Tryd.isAgg3 _) fun v6 hv6 => ?_))))
    obtain rfl := vint_eq hv6
    refine lw_op Z Z Z (ow_eqlI Z Z Z fun bb3 hbb3 => lw_nil (ew_then ?_))
    replace hb4 := cond_some hb4
    rcases hb4 with ⟨hc3, hb4⟩ | ⟨hc3, hb4⟩
    ·
     obtain rfl := hbb3.trans hc3
     refine cw_true Z (cw_seq (cw_region ?_))
     replace hb4 := bind_some hb4
     obtain ⟨x3, hx3, hb4⟩ := hb4
     have lz2 := (((hl1.trans hl2).trans hl3).trans hl4)
     refine lw_op Z Z Z (ow_call Z Z Tryd.call18 (w_laws_alive (hG.mono lz2) hC4.old hx3) fun v7 w5 hv7 => ?_)
     obtain ⟨hv7, hb5⟩ := hv7
     have hC5 := hC4.no hb5
     obtain rfl := vbool_eq hv7
     refine lw_op Z Z Z (ow_assign Z Z (lw_nil (ew_then (cw_ret (ew_blockR (ew_thenR (ew_thenR (ew_blockR (ew_brkR (ew_thenR ?_))))))))))
     have e1 := hR1 _ (Option.some.inj hb4).symm
     subst e1
     obtain rfl := Option.some.inj h
     exact ew_ret (res1 Z (.tmp Z)) ⟨_, Z, ((vbool _)), hC5.bx⟩
    ·
     obtain rfl := hbb3.trans hc3
     exact cw_false Z (cw_skip (ew_blockN (ew_then (cw_region (lw_op Z Z Z (ow_move Z Z (lw_op Z Z Z (ow_add Z Z Z (lw_op Z Z Z (ow_assign Z Z (lw_nil (ew_nxt (W (k1 + 1)) hb4 fun a ha => ⟨M1, (ha.sub ⟨Z, Z, Z, trivial⟩), hl4, hC4, ho3, hm2⟩))))))))))))
   ·
    obtain rfl := hbb2.trans hc2
    exact cw_false Z (cw_exit (ew_thenX (ew_thenX (ew_blockX (ew_brk k1 hb4 fun a ha => ⟨M1, (ha.sub ⟨Z, Z, Z, trivial⟩), hl4, hC4, ho3, hm2⟩)))))
  ·
   rintro k2 a w6 hlr2 ⟨M2, hF2, hl6, hC6, ho5, hm3⟩
   subst hlr2
   refine ew_at (E := [(3, v2), (5, (.pointer (some ⟨g1, 0, none⟩))), (6, (.int .i64 k2))]) hF2 (ew_then (cw_seq (cw_region (lw_op Z Z Z (ow_move Z Z ?_)))))
   obtain ⟨A1, c1, rfl, -⟩ := vslice_shape hv2
   have lz3 := ((hl2.trans hl3).trans hl6)
   refine lw_op Z Z Z (ow_buildSlice (R := (RSlice RRule)) (xs := [x1.1]) (cs := #[(.slice A1 x1.1.length c1)]) (e := 36) Z Z (by kernel_rfl) Z Z ⟨_, _, Z, (VRep.mono lz3 hv2).cells, Z⟩ hC6 fun p2 w7 hw1 hb6 hl7 hC7 => ?_)
   have ho6 := ho5.no hb6
   refine lw_op Z Z Z (ow_build (v := .agg #[(.slice (some p2) 1 1), (.bool true)]) Z Z (by kernel_rfl) ?_)
   have hw2 : VRep RRuleset w7 M2 ({ Chains := [x1.1], Accept := true } : Ruleset) (.agg #[(.slice (some p2) 1 1), (.bool true)]) := shut_Ruleset hw1
   refine lw_allocStore (R := RRuleset) Z Z Z Z Z Z Z Tryd.zeroValue45 Tryd.sizeOf45 Z Z Z (by simp) hw2 hC7 fun p3 w8 hp3 hb7 hl8 hC8 => ?_
   have ho7 := ho6.no hb7
   refine lw_nil (ew_then (cw_seq (cw_region (lw_op Z Z Z (ow_build (v := .agg #[(.slice none 0 0), (.int .i64 3), (.int .i64 1)]) Z Z (by kernel_rfl) ?_)))))
   have hw3 : VRep RRule w8 M2 ({ Tests := ([] : List Test), Action := 3, Chain := 1 } : Rule) (.agg #[(.slice none 0 0), (.int .i64 3), (.int .i64 1)]) := shut_Rule (vslice_nil (R := RTest) (w := w8) (M := M2))
   refine lw_op Z Z Z (ow_buildSlice (R := RRule) (xs := [({ Tests := ([] : List Test), Action := 3, Chain := 1 } : Rule)]) (cs := #[(.slice none 0 0), (.int .i64 3), (.int .i64 1)]) (e := 42) Z Z (by kernel_rfl) Z Z ⟨_, _, Z, hw3.cells, Z⟩ hC8 fun p4 w9 hw4 hb8 hl9 hC9 => ?_)
   have ho8 := ho7.no hb8
   refine lw_op Z Z Z (ow_move Z Z ?_)
   have lz4 := (((lz3.trans hl7).trans hl8).trans hl9)
   refine lw_op Z Z Z (ow_buildSlice (R := (RSlice RRule)) (xs := [[({ Tests := ([] : List Test), Action := 3, Chain := 1 } : Rule)], x1.1]) (cs := #[(.slice (some p4) 1 1), (.slice A1 x1.1.length c1)]) (e := 36) Z Z (by kernel_rfl) Z Z ⟨_, _, Z, hw4.cells, _, _, Z, (VRep.mono lz4 hv2).cells, Z⟩ hC9 fun p5 w10 hw5 hb9 hl10 hC10 => ?_)
   have ho9 := ho8.no hb9
   refine lw_op Z Z Z (ow_build (v := .agg #[(.slice (some p5) 2 2), (.bool true)]) Z Z (by kernel_rfl) ?_)
   have hw6 : VRep RRuleset w10 M2 ({ Chains := [[({ Tests := ([] : List Test), Action := 3, Chain := 1 } : Rule)], x1.1], Accept := true } : Ruleset) (.agg #[(.slice (some p5) 2 2), (.bool true)]) := shut_Ruleset hw5
   refine lw_allocStore (R := RRuleset) Z Z Z Z Z Z Z Tryd.zeroValue45 Tryd.sizeOf45 Z Z Z (by simp) hw6 hC10 fun p6 w11 hp6 hb10 hl11 hC11 => ?_
   have ho10 := ho9.no hb10
   refine lw_nil (ew_then (cw_seq ?_))
   replace h := bind_some h
   obtain ⟨x4, hx4, h⟩ := h
   replace h := bind_some h
   obtain ⟨x5, hx5, h⟩ := h
   replace h := cond_some h
   rcases h with ⟨hc4, h⟩ | ⟨hc4, h⟩
   ·
    replace h := bind_some h
    obtain ⟨x6, hx6, h⟩ := h
    have lz5 := ((((((((hl1.trans hl2).trans hl3).trans hl6).trans hl7).trans hl8).trans hl9).trans hl10).trans hl11)
    have lz8 := ((hl9.trans hl10).trans hl11)
    refine cw_sub (E' := [(5, (.pointer (some ⟨g1, 0, none⟩))), (7, (.pointer (some p3))), (8, (.pointer (some p6)))]) ⟨Z, Z, Z, trivial⟩ (cw_drawQ 13 [PV RRuleset M2 ({ Chains := [x1.1], Accept := true } : Ruleset), PV RPacket M2 ({ From := x1.2.2.From, To := x1.2.2.To, Port := x1.2.2.Port, Proto := x1.2.2.Proto } : Packet), PEq (.bool x4), PV RRuleset M2 ({ Chains := [x1.1], Accept := true } : Ruleset), PV RPacket M2 ({ From := x1.2.2.From, To := x1.2.2.To, Port := x1.2.2.Port, Proto := x1.2.2.Proto } : Packet), PEq (.bool x5), PEq (.bool true), PEq (.bool true), PV RRuleset M2 ({ Chains := [[({ Tests := ([] : List Test), Action := 3, Chain := 1 } : Rule)], x1.1], Accept := true } : Ruleset), PV RPacket M2 ({ From := x1.2.2.From, To := x1.2.2.To, Port := x1.2.2.Port, Proto := x1.2.2.Proto } : Packet), PEq (.bool x6), PV RRuleset M2 ({ Chains := [x1.1], Accept := true } : Ruleset), PV RPacket M2 ({ From := x1.2.2.From, To := x1.2.2.To, Port := x1.2.2.Port, Proto := x1.2.2.Proto } : Packet)] (by kernel_rfl) Z (by kernel_rfl) ⟨PV.mono _ _ _, PV.mono _ _ _, PEq.mono _, PV.mono _ _ _, PV.mono _ _ _, PEq.mono _, PEq.mono _, PEq.mono _, PV.mono _ _ _, PV.mono _ _ _, PEq.mono _, PV.mono _ _ _, PV.mono _ _ _, trivial⟩ ⟨?_, ?_, ?_, ?_, ?_, ?_, ?_, ?_, ?_, ?_, ?_, ?_, ?_, trivial⟩ ?_)
    ·
     intro w15 D hS1 hd1
     have hl15 := Le.no M2 hS1
     exact dg_sub (E' := [(7, (.pointer (some p3)))]) ⟨Z, trivial⟩ (dg_plain Z (ow_load (R := RRuleset) Z Z (ARep.mono (lz8.trans hl15) hp3) (Tryd.sizeOf45 _) (Tryd.isAgg45 _) fun v16 hv16 => ⟨BX.refl _ _, hv16⟩))
    ·
     intro w16 D hS2 hd2
     have ho15 := ho10.no hS2
     refine dg_sub (E' := [(5, (.pointer (some ⟨g1, 0, none⟩)))]) ⟨Z, trivial⟩ (dg_plain Z (ow_loadOwnA Z Z Z ho15 (Tryd.isAgg38 _) (Tryd.sizeOf38 _) Z ?_))
     have hw11 : VRep RPacket w16 M2 ({ From := x1.2.2.From, To := x1.2.2.To, Port := x1.2.2.Port, Proto := x1.2.2.Proto } : Packet) (.agg #[(.int .i64 x1.2.2.From), (.int .i64 x1.2.2.To), (.int .i64 x1.2.2.Port), (.int .i64 x1.2.2.Proto)]) := shut_Packet
     exact ⟨BX.refl _ _, hw11⟩
    ·
     intro w17 D hS3 hd3
     have hl17 := Le.no M2 hS3
     have hC17 := hC11.no hS3
     have d1 : PV RRuleset M2 ({ Chains := [x1.1], Accept := true } : Ruleset) (D 0) w17 := dpA hd3 0 Z
     have d2 : PV RPacket M2 ({ From := x1.2.2.From, To := x1.2.2.To, Port := x1.2.2.Port, Proto := x1.2.2.Proto } : Packet) (D 1) w17 := dpA hd3 1 Z
     generalize hq1 : (D 0) = v17 at d1
     generalize hq2 : (D 1) = v18 at d2
     refine dg_sub (E' := [(39, v17), (40, v18)]) ⟨(congrArg some hq1), (congrArg some hq2), trivial⟩ (dg_plain Z (ow_call Z Z Tryd.call22 (w_impl_Judge (hG.mono (lz5.trans hl17)) hC17.old d1 d2 hx4) fun v19 w18 hv19 => ?_))
     obtain ⟨hv19, hb14⟩ := hv19
     obtain rfl := vbool_eq hv19
     exact ⟨hb14, Z⟩
    ·
     intro w19 D hS4 hd4
     have hl19 := Le.no M2 hS4
     exact dg_sub (E' := [(7, (.pointer (some p3)))]) ⟨Z, trivial⟩ (dg_plain Z (ow_load (R := RRuleset) Z Z (ARep.mono (lz8.trans hl19) hp3) (Tryd.sizeOf45 _) (Tryd.isAgg45 _) fun v20 hv20 => ⟨BX.refl _ _, hv20⟩))
    ·
     intro w20 D hS5 hd5
     have ho19 := ho10.no hS5
     refine dg_sub (E' := [(5, (.pointer (some ⟨g1, 0, none⟩)))]) ⟨Z, trivial⟩ (dg_plain Z (ow_loadOwnA Z Z Z ho19 (Tryd.isAgg38 _) (Tryd.sizeOf38 _) Z ?_))
     have hw12 : VRep RPacket w20 M2 ({ From := x1.2.2.From, To := x1.2.2.To, Port := x1.2.2.Port, Proto := x1.2.2.Proto } : Packet) (.agg #[(.int .i64 x1.2.2.From), (.int .i64 x1.2.2.To), (.int .i64 x1.2.2.Port), (.int .i64 x1.2.2.Proto)]) := shut_Packet
     exact ⟨BX.refl _ _, hw12⟩
    ·
     intro w21 D hS6 hd6
     have hl21 := Le.no M2 hS6
     have hC21 := hC11.no hS6
     have d3 : PV RRuleset M2 ({ Chains := [x1.1], Accept := true } : Ruleset) (D 3) w21 := dpA hd6 3 Z
     have d4 : PV RPacket M2 ({ From := x1.2.2.From, To := x1.2.2.To, Port := x1.2.2.Port, Proto := x1.2.2.Proto } : Packet) (D 4) w21 := dpA hd6 4 Z
     generalize hq3 : (D 3) = v21 at d3
     generalize hq4 : (D 4) = v22 at d4
     refine dg_sub (E' := [(42, v21), (43, v22)]) ⟨(congrArg some hq3), (congrArg some hq4), trivial⟩ (dg_plain Z (ow_call Z Z Tryd.call23 (w_spec_Judge (hG.mono (lz5.trans hl21)) hC21.old d3 d4 hx5) fun v23 w22 hv23 => ?_))
     obtain ⟨hv23, hb15⟩ := hv23
     obtain rfl := vbool_eq hv23
     exact ⟨hb15, Z⟩
    ·
     intro w23 D hS7 hd7
     have d6 : PEq (.bool x4) (D 2) w23 := dpA hd7 2 Z
     have d7 : PEq (.bool x5) (D 5) w23 := dpA hd7 5 Z
     obtain ⟨bb5, hq5, hq6⟩ : ∃ b, b = x4 ∧ (D 2) = .bool b := ⟨_, rfl, d6⟩
     obtain ⟨bb6, hq7, hq8⟩ : ∃ b, b = x5 ∧ (D 5) = .bool b := ⟨_, rfl, d7⟩
     refine dg_sub (E' := [(41, (.bool bb5)), (44, (.bool bb6))]) ⟨(congrArg some hq6), (congrArg some hq8), trivial⟩ (dg_plain Z (ow_eqlB Z Z Z Tryd.underlying4 fun bb7 hbb7 => ?_))
     have hbb7' : bb7 = (x4 == x5) := hbb7.trans (by rw [hq5, hq7])
     obtain rfl := hbb7'.trans hc4
     exact ⟨BX.refl _ _, Z⟩
    ·
     intro w24 D hS8 hd8
     exact dg_sub (E' := [(45, (.bool true))]) ⟨(dpE hd8 6 Z Z), trivial⟩ (dg_plain Z (ow_move Z Z ⟨BX.refl _ _, Z⟩))
    ·
     intro w25 D hS9 hd9
     have hl25 := Le.no M2 hS9
     exact dg_sub (E' := [(46, (.bool true)), (8, (.pointer (some p6)))]) ⟨(dpE hd9 7 Z Z), Z, trivial⟩ (dg_on Z Z Z Z (ow_load (R := RRuleset) Z Z (ARep.mono hl25 hp6) (Tryd.sizeOf45 _) (Tryd.isAgg45 _) fun v24 hv24 => ⟨BX.refl _ _, hv24⟩))
    ·
     intro w26 D hS10 hd10
     have ho25 := ho10.no hS10
     refine dg_sub (E' := [(46, (.bool true)), (5, (.pointer (some ⟨g1, 0, none⟩)))]) ⟨(dpE hd10 7 Z Z), Z, trivial⟩ (dg_on Z Z Z Z (ow_loadOwnA Z Z Z ho25 (Tryd.isAgg38 _) (Tryd.sizeOf38 _) Z ?_))
     have hw13 : VRep RPacket w26 M2 ({ From := x1.2.2.From, To := x1.2.2.To, Port := x1.2.2.Port, Proto := x1.2.2.Proto } : Packet) (.agg #[(.int .i64 x1.2.2.From), (.int .i64 x1.2.2.To), (.int .i64 x1.2.2.Port), (.int .i64 x1.2.2.Proto)]) := shut_Packet
     exact ⟨BX.refl _ _, hw13⟩
    ·
     intro w27 D hS11 hd11
     have hl27 := Le.no M2 hS11
     have hC27 := hC11.no hS11
     have d12 : PV RRuleset M2 ({ Chains := [[({ Tests := ([] : List Test), Action := 3, Chain := 1 } : Rule)], x1.1], Accept := true } : Ruleset) (D 8) w27 := dpA hd11 8 Z
     have d13 : PV RPacket M2 ({ From := x1.2.2.From, To := x1.2.2.To, Port := x1.2.2.Port, Proto := x1.2.2.Proto } : Packet) (D 9) w27 := dpA hd11 9 Z
     generalize hq9 : (D 8) = v25 at d12
     generalize hq10 : (D 9) = v26 at d13
     refine dg_sub (E' := [(47, v25), (48, v26), (46, (.bool true))]) ⟨(congrArg some hq9), (congrArg some hq10), (dpE hd11 7 Z Z), trivial⟩ (dg_on Z Z Z Z (ow_call Z Z Tryd.call22 (w_impl_Judge (hG.mono (lz5.trans hl27)) hC27.old d12 d13 hx6) fun v27 w28 hv27 => ?_))
     obtain ⟨hv27, hb16⟩ := hv27
     obtain rfl := vbool_eq hv27
     exact ⟨hb16, Z⟩
    ·
     intro w29 D hS12 hd12
     have hl29 := Le.no M2 hS12
     exact dg_sub (E' := [(46, (.bool true)), (7, (.pointer (some p3)))]) ⟨(dpE hd12 7 Z Z), Z, trivial⟩ (dg_on Z Z Z Z (ow_load (R := RRuleset) Z Z (ARep.mono (lz8.trans hl29) hp3) (Tryd.sizeOf45 _) (Tryd.isAgg45 _) fun v28 hv28 => ⟨BX.refl _ _, hv28⟩))
    ·
     intro w30 D hS13 hd13
     have ho29 := ho10.no hS13
     refine dg_sub (E' := [(46, (.bool true)), (5, (.pointer (some ⟨g1, 0, none⟩)))]) ⟨(dpE hd13 7 Z Z), Z, trivial⟩ (dg_on Z Z Z Z (ow_loadOwnA Z Z Z ho29 (Tryd.isAgg38 _) (Tryd.sizeOf38 _) Z ?_))
     have hw14 : VRep RPacket w30 M2 ({ From := x1.2.2.From, To := x1.2.2.To, Port := x1.2.2.Port, Proto := x1.2.2.Proto } : Packet) (.agg #[(.int .i64 x1.2.2.From), (.int .i64 x1.2.2.To), (.int .i64 x1.2.2.Port), (.int .i64 x1.2.2.Proto)]) := shut_Packet
     exact ⟨BX.refl _ _, hw14⟩
    ·
     intro w31 D hS14 hd14
     have d28 : PEq (.bool x6) (D 10) w31 := dpA hd14 10 Z
     have d29 : PV RRuleset M2 ({ Chains := [x1.1], Accept := true } : Ruleset) (D 11) w31 := dpA hd14 11 Z
     have d30 : PV RPacket M2 ({ From := x1.2.2.From, To := x1.2.2.To, Port := x1.2.2.Port, Proto := x1.2.2.Proto } : Packet) (D 12) w31 := dpA hd14 12 Z
     have hl31 := Le.no M2 hS14
     have hC31 := hC11.no hS14
     obtain ⟨bb8, hq11, hq12⟩ : ∃ b, b = x6 ∧ (D 10) = .bool b := ⟨_, rfl, d28⟩
     generalize hq13 : (D 11) = v29 at d29
     generalize hq14 : (D 12) = v30 at d30
     refine lw_sub (E' := [(46, (.bool true)), (49, (.bool bb8)), (50, v29), (51, v30), (5, (.pointer (some ⟨g1, 0, none⟩))), (7, (.pointer (some p3))), (8, (.pointer (some p6)))]) ⟨(dpE hd14 7 Z Z), (congrArg some hq12), (congrArg some hq13), (congrArg some hq14), Z, Z, Z, trivial⟩ (lw_on Z Z Z Z Z Z (ow_call Z Z Tryd.call22 (w_impl_Judge (hG.mono (lz5.trans hl31)) hC31.old d29 d30 hx4) fun v31 w32 hv31 => ?_))
     obtain ⟨hv31, hb17⟩ := hv31
     have hC32 := hC31.no hb17
     obtain rfl := vbool_eq hv31
     refine lw_on Z Z Z Z Z Z (ow_eqlB Z Z Z Tryd.underlying4 fun bb9 hbb9 => ?_)
     have hbb9' : bb9 = (x6 == x4) := hbb9.trans (by rw [hq11])
     refine lw_op Z Z Z (ow_pickT Z Z Z (lw_op Z Z Z (ow_assign Z Z (lw_nil (ew_then (cw_ret ?_))))))
     obtain rfl := Option.some.inj h
     exact ew_ret (res1 Z (.tmp Z)) ⟨_, Z, ((vbool_of hbb9')), hC32.bx⟩
   ·
    have lz10 := ((((((((hl1.trans hl2).trans hl3).trans hl6).trans hl7).trans hl8).trans hl9).trans hl10).trans hl11)
    have lz13 := ((hl9.trans hl10).trans hl11)
    refine cw_sub (E' := [(5, (.pointer (some ⟨g1, 0, none⟩))), (7, (.pointer (some p3))), (8, (.pointer (some p6)))]) ⟨Z, Z, Z, trivial⟩ (cw_drawQ 13 [PV RRuleset M2 ({ Chains := [x1.1], Accept := true } : Ruleset), PV RPacket M2 ({ From := x1.2.2.From, To := x1.2.2.To, Port := x1.2.2.Port, Proto := x1.2.2.Proto } : Packet), PEq (.bool x4), PV RRuleset M2 ({ Chains := [x1.1], Accept := true } : Ruleset), PV RPacket M2 ({ From := x1.2.2.From, To := x1.2.2.To, Port := x1.2.2.Port, Proto := x1.2.2.Proto } : Packet), PEq (.bool x5), PEq (.bool false), PEq (.bool false), PEq undef, PEq undef, PEq undef, PEq undef, PEq undef] (by kernel_rfl) Z (by kernel_rfl) ⟨PV.mono _ _ _, PV.mono _ _ _, PEq.mono _, PV.mono _ _ _, PV.mono _ _ _, PEq.mono _, PEq.mono _, PEq.mono _, PEq.mono _, PEq.mono _, PEq.mono _, PEq.mono _, PEq.mono _, trivial⟩ ⟨?_, ?_, ?_, ?_, ?_, ?_, ?_, ?_, ?_, ?_, ?_, ?_, ?_, trivial⟩ ?_)
    ·
     intro w33 D hS15 hd15
     have hl33 := Le.no M2 hS15
     exact dg_sub (E' := [(7, (.pointer (some p3)))]) ⟨Z, trivial⟩ (dg_plain Z (ow_load (R := RRuleset) Z Z (ARep.mono (lz13.trans hl33) hp3) (Tryd.sizeOf45 _) (Tryd.isAgg45 _) fun v32 hv32 => ⟨BX.refl _ _, hv32⟩))
    ·
     intro w34 D hS16 hd16
     have ho33 := ho10.no hS16
     refine dg_sub (E' := [(5, (.pointer (some ⟨g1, 0, none⟩)))]) ⟨Z, trivial⟩ (dg_plain Z (ow_loadOwnA Z Z Z ho33 (Tryd.isAgg38 _) (Tryd.sizeOf38 _) Z ?_))
     have hw15 : VRep RPacket w34 M2 ({ From := x1.2.2.From, To := x1.2.2.To, Port := x1.2.2.Port, Proto := x1.2.2.Proto } : Packet) (.agg #[(.int .i64 x1.2.2.From), (.int .i64 x1.2.2.To), (.int .i64 x1.2.2.Port), (.int .i64 x1.2.2.Proto)]) := shut_Packet
     exact ⟨BX.refl _ _, hw15⟩
    ·
     intro w35 D hS17 hd17
     have hl35 := Le.no M2 hS17
     have hC35 := hC11.no hS17
     have d31 : PV RRuleset M2 ({ Chains := [x1.1], Accept := true } : Ruleset) (D 0) w35 := dpA hd17 0 Z
     have d32 : PV RPacket M2 ({ From := x1.2.2.From, To := x1.2.2.To, Port := x1.2.2.Port, Proto := x1.2.2.Proto } : Packet) (D 1) w35 := dpA hd17 1 Z
     generalize hq15 : (D 0) = v33 at d31
     generalize hq16 : (D 1) = v34 at d32
     refine dg_sub (E' := [(39, v33), (40, v34)]) ⟨(congrArg some hq15), (congrArg some hq16), trivial⟩ (dg_plain Z (ow_call Z Z Tryd.call22 (w_impl_Judge (hG.mono (lz10.trans hl35)) hC35.old d31 d32 hx4) fun v35 w36 hv35 => ?_))
     obtain ⟨hv35, hb18⟩ := hv35
     obtain rfl := vbool_eq hv35
     exact ⟨hb18, Z⟩
    ·
     intro w37 D hS18 hd18
     have hl37 := Le.no M2 hS18
     exact dg_sub (E' := [(7, (.pointer (some p3)))]) ⟨Z, trivial⟩ (dg_plain Z (ow_load (R := RRuleset) Z Z (ARep.mono (lz13.trans hl37) hp3) (Tryd.sizeOf45 _) (Tryd.isAgg45 _) fun v36 hv36 => ⟨BX.refl _ _, hv36⟩))
    ·
     intro w38 D hS19 hd19
     have ho37 := ho10.no hS19
     refine dg_sub (E' := [(5, (.pointer (some ⟨g1, 0, none⟩)))]) ⟨Z, trivial⟩ (dg_plain Z (ow_loadOwnA Z Z Z ho37 (Tryd.isAgg38 _) (Tryd.sizeOf38 _) Z ?_))
     have hw16 : VRep RPacket w38 M2 ({ From := x1.2.2.From, To := x1.2.2.To, Port := x1.2.2.Port, Proto := x1.2.2.Proto } : Packet) (.agg #[(.int .i64 x1.2.2.From), (.int .i64 x1.2.2.To), (.int .i64 x1.2.2.Port), (.int .i64 x1.2.2.Proto)]) := shut_Packet
     exact ⟨BX.refl _ _, hw16⟩
    ·
     intro w39 D hS20 hd20
     have hl39 := Le.no M2 hS20
     have hC39 := hC11.no hS20
     have d33 : PV RRuleset M2 ({ Chains := [x1.1], Accept := true } : Ruleset) (D 3) w39 := dpA hd20 3 Z
     have d34 : PV RPacket M2 ({ From := x1.2.2.From, To := x1.2.2.To, Port := x1.2.2.Port, Proto := x1.2.2.Proto } : Packet) (D 4) w39 := dpA hd20 4 Z
     generalize hq17 : (D 3) = v37 at d33
     generalize hq18 : (D 4) = v38 at d34
     refine dg_sub (E' := [(42, v37), (43, v38)]) ⟨(congrArg some hq17), (congrArg some hq18), trivial⟩ (dg_plain Z (ow_call Z Z Tryd.call23 (w_spec_Judge (hG.mono (lz10.trans hl39)) hC39.old d33 d34 hx5) fun v39 w40 hv39 => ?_))
     obtain ⟨hv39, hb19⟩ := hv39
     obtain rfl := vbool_eq hv39
     exact ⟨hb19, Z⟩
    ·
     intro w41 D hS21 hd21
     have d36 : PEq (.bool x4) (D 2) w41 := dpA hd21 2 Z
     have d37 : PEq (.bool x5) (D 5) w41 := dpA hd21 5 Z
     obtain ⟨bb10, hq19, hq20⟩ : ∃ b, b = x4 ∧ (D 2) = .bool b := ⟨_, rfl, d36⟩
     obtain ⟨bb11, hq21, hq22⟩ : ∃ b, b = x5 ∧ (D 5) = .bool b := ⟨_, rfl, d37⟩
     refine dg_sub (E' := [(41, (.bool bb10)), (44, (.bool bb11))]) ⟨(congrArg some hq20), (congrArg some hq22), trivial⟩ (dg_plain Z (ow_eqlB Z Z Z Tryd.underlying4 fun bb12 hbb12 => ?_))
     have hbb12' : bb12 = (x4 == x5) := hbb12.trans (by rw [hq19, hq21])
     obtain rfl := hbb12'.trans hc4
     exact ⟨BX.refl _ _, Z⟩
    ·
     intro w42 D hS22 hd22
     exact dg_sub (E' := [(45, (.bool false))]) ⟨(dpE hd22 6 Z Z), trivial⟩ (dg_plain Z (ow_move Z Z ⟨BX.refl _ _, Z⟩))
    ·
     intro w43 D hS23 hd23
     exact dg_sub (E' := [(46, (.bool false)), (8, (.pointer (some p6)))]) ⟨(dpE hd23 7 Z Z), Z, trivial⟩ (dg_off Z Z Z Z ⟨BX.refl _ _, Z⟩)
    ·
     intro w44 D hS24 hd24
     exact dg_sub (E' := [(46, (.bool false)), (5, (.pointer (some ⟨g1, 0, none⟩)))]) ⟨(dpE hd24 7 Z Z), Z, trivial⟩ (dg_off Z Z Z Z ⟨BX.refl _ _, Z⟩)
    ·
     intro w45 D hS25 hd25
     exact dg_sub (E' := [(47, undef), (48, undef), (46, (.bool false))]) ⟨(dpE hd25 8 Z Z), (dpE hd25 9 Z Z), (dpE hd25 7 Z Z), trivial⟩ (dg_off Z Z Z Z ⟨BX.refl _ _, Z⟩)
    ·
     intro w46 D hS26 hd26
     exact dg_sub (E' := [(46, (.bool false)), (7, (.pointer (some p3)))]) ⟨(dpE hd26 7 Z Z), Z, trivial⟩ (dg_off Z Z Z Z ⟨BX.refl _ _, Z⟩)
    ·
     intro w47 D hS27 hd27
     exact dg_sub (E' := [(46, (.bool false)), (5, (.pointer (some ⟨g1, 0, none⟩)))]) ⟨(dpE hd27 7 Z Z), Z, trivial⟩ (dg_off Z Z Z Z ⟨BX.refl _ _, Z⟩)
    ·
     intro w48 D hS28 hd28
     have hC48 := hC11.no hS28
     refine lw_sub (E' := [(46, (.bool false)), (49, undef), (50, undef), (51, undef), (5, (.pointer (some ⟨g1, 0, none⟩))), (7, (.pointer (some p3))), (8, (.pointer (some p6)))]) ⟨(dpE hd28 7 Z Z), (dpE hd28 10 Z Z), (dpE hd28 11 Z Z), (dpE hd28 12 Z Z), Z, Z, Z, trivial⟩ (lw_off Z Z Z Z Z Z (lw_off Z Z Z Z Z Z (lw_op Z Z Z (ow_pickF Z Z Z (lw_op Z Z Z (ow_assign Z Z (lw_nil (ew_then (cw_ret ?_)))))))))
     obtain rfl := Option.some.inj h
     exact ew_ret (res1 Z (.tmp Z)) ⟨_, Z, ((vbool _)), hC48.bx⟩


end Go.PF
