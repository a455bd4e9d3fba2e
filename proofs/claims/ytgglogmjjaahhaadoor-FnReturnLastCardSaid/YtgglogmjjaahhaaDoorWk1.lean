/- The walks; no condition. -/
import Derived.Test.YtgglogmjjaahhaaDoorProg
import Derived.Test.YtgglogmjjaahhaaDoorWk0
import Derived.Test.YtgglogmjjaahhaaDoorPFDrop
set_option maxRecDepth 100000
set_option maxHeartbeats 4000000
namespace Go.PF
open Go Go.RowKit Go.Proofs

theorem w_spec_RulesetValid {w : World} {M : Nat → Prop} (hG : ARep (RArr 4 RShape) w M shapes ⟨0, 0, none⟩) (hO : ∀ b, M b → b < w.heap.size) {v0p : Value} {a_s : Ruleset} (h0 : VRep RRuleset w M a_s v0p) {r : Bool} (h : F.spec_RulesetValid a_s = some r) :
  Calls Tryd.prog 26 [v0p].toArray w fun e w' => ∃ v, e = .returned v ∧ VRep RBool w' M r v ∧ BX No w w' := by
 have hC : Cx No w M w M := Cx.start hO (fun _ e => e.elim)
 refine walk (N := 55) Tryd.func26 Z Tryd.ntmps26 Z (cw_seq (cw_region (lw_op Z Z Z (ow_box (R := RRuleset) Z Z h0 hC fun p1 w1 hp1 hb1 hl1 hC1 => lw_op Z Z Z (ow_assign Z Z (lw_nil (ew_then (cw_seq (cw_seq (cw_region (lw_op Z Z Z (ow_assign Z Z (lw_nil (ew_then ?_))))))))))))))
 replace h := bind_some h
 obtain ⟨lr1, hlr1, h⟩ := h
 refine cw_for hlr1 (fun s a w' => ∃ (M' : Nat → Prop), Fits 55 [(1, (.pointer (some p1))), (3, (Zv s))] a ∧ Le w1 M w' M' ∧ Cx No w M w' M') ?_ ?_ ?_
 · exact fun a ha => ⟨M, ha.sub ⟨Z, Z, Zt⟩, Le.refl _ _, hC1⟩
 ·
  rintro k1 a w2 sr1 ⟨M1, hF1, hl2, hC2⟩ hb2 hR1
  refine cw_at (E := [(1, (.pointer (some p1))), (3, (Zv k1))]) hF1 (cw_seq (cw_seq (cw_region (lw_op Z Z Z (ow_move Z Z (lw_op Z Z Z (ow_fieldAddr Z Z Tryd.underlying45 Z (Tryd.sizeOf43 _) (lw_op Z Z Z (ow_load (R := (RSlice (RSlice RRule))) Z Z (ARep.mono hl2 (hp1.fld fld_Ruleset_Chains)) (Tryd.sizeOf43 _) (Tryd.isAgg43 _) fun v2 hv2 => lw_op Z Z Z (ow_len Z Z hv2 Tryd.underlying43 Z (lw_op Z Z Z (ow_lss Z Z Z fun bb1 hbb1 => lw_nil (ew_then ?_)))))))))))))
  replace hb2 := cond_some hb2
  rcases hb2 with ⟨hc1, hb2⟩ | ⟨hc1, hb2⟩
  ·
   obtain rfl := hbb1.trans hc1
   refine cw_true Z (cw_skip (ew_then (cw_seq (cw_block (cw_seq (cw_seq (cw_region (lw_op Z Z Z (ow_fieldAddr Z Z Tryd.underlying45 Z (Tryd.sizeOf43 _) (lw_op Z Z Z (ow_load (R := (RSlice (RSlice RRule))) Z Z (ARep.mono hl2 (hp1.fld fld_Ruleset_Chains)) (Tryd.sizeOf43 _) (Tryd.isAgg43 _) fun v3 hv3 => lw_op Z Z Z (ow_move Z Z ?_))))))))))))
   replace hb2 := bind_some hb2
   obtain ⟨x1, hx1, hb2⟩ := hb2
   refine lw_op Z Z Z (ow_indexSlice (R := (RSlice RRule)) Z Z Z hv3 Tryd.underlying43 (Tryd.sizeOf36 _) hx1 fun p2 hp2 => lw_op Z Z Z (ow_load (R := (RSlice RRule)) Z Z hp2 (Tryd.sizeOf36 _) (Tryd.isAgg36 _) fun v4 hv4 => ?_))
   replace hb2 := bind_some hb2
   obtain ⟨x2, hx2, hb2⟩ := hb2
   refine lw_op Z Z Z (ow_call Z Z Tryd.call69 (w_spec_RulesValid (hG.mono (hl1.trans hl2)) hC2.old hv4 hx2) fun v5 w3 hv5 => ?_)
   obtain ⟨hv5, hb3⟩ := hv5
   have hl3 := Le.no M1 hb3
   have hC3 := hC2.no hb3
   obtain rfl := vbool_eq hv5
   refine lw_op Z Z Z (ow_not Z Z (lw_nil (ew_then ?_)))
   replace hb2 := cond_some hb2
   rcases hb2 with ⟨hc2, hb2⟩ | ⟨hc2, hb2⟩
   ·
    subst hc2
    refine cw_false Z (cw_skip (ew_then (cw_seq (cw_region (lw_op Z Z Z (ow_assign Z Z (lw_nil (ew_then ?_))))))))
    replace hb2 := bind_some hb2
    obtain ⟨lr2, hlr2, hb2⟩ := hb2
    refine cw_for hlr2 (fun s a w' => ∃ (M' : Nat → Prop), Fits 55 [(1, (.pointer (some p1))), (3, (Zv k1)), (4, (Zv s))] a ∧ Le w3 M1 w' M' ∧ Cx No w M w' M') ?_ ?_ ?_
    · exact fun a ha => ⟨M1, ha.sub ⟨Z, Z, Z, Zt⟩, Le.refl _ _, hC3⟩
    ·
     rintro k2 a w4 sr2 ⟨M2, hF2, hl4, hC4⟩ hb4 hR2
     refine cw_at (E := [(1, (.pointer (some p1))), (3, (Zv k1)), (4, (Zv k2))]) hF2 (cw_seq (cw_seq (cw_region (lw_op Z Z Z (ow_move Z Z (lw_op Z Z Z (ow_fieldAddr Z Z Tryd.underlying45 Z (Tryd.sizeOf43 _) ?_)))))))
     have lz1 := ((hl2.trans hl3).trans hl4)
     refine lw_op Z Z Z (ow_load (R := (RSlice (RSlice RRule))) Z Z (ARep.mono lz1 (hp1.fld fld_Ruleset_Chains)) (Tryd.sizeOf43 _) (Tryd.isAgg43 _) fun v7 hv7 => lw_op Z Z Z (ow_move Z Z (lw_op Z Z Z (ow_indexSlice (R := (RSlice RRule)) Z Z Z hv7 Tryd.underlying43 (Tryd.sizeOf36 _) hx1 fun p3 hp3 => lw_op Z Z Z (ow_load (R := (RSlice RRule)) Z Z hp3 (Tryd.sizeOf36 _) (Tryd.isAgg36 _) fun v8 hv8 => lw_op Z Z Z (ow_len Z Z hv8 Tryd.underlying36 Z (lw_op Z Z Z (ow_lss Z Z Z fun bb2 hbb2 => lw_nil (ew_then ?_)))))))))
     replace hb4 := cond_some hb4
     rcases hb4 with ⟨hc3, hb4⟩ | ⟨hc3, hb4⟩
     ·
      obtain rfl := hbb2.trans hc3
      refine cw_true Z (cw_skip (ew_then (cw_seq (cw_block (cw_seq ?_)))))
      replace hb4 := bind_some hb4
      obtain ⟨x3, hx3, hb4⟩ := hb4
      refine cw_sub (E' := [(1, (.pointer (some p1))), (3, (Zv k1)), (4, (Zv k2))]) ⟨Z, Z, Z, Zt⟩ (cw_drawQ 12 [PA (RSlice (RSlice RRule)) M2 a_s.Chains, PV (RSlice (RSlice RRule)) M2 a_s.Chains, PEq (Zv k1), PA (RSlice RRule) M2 x1, PV (RSlice RRule) M2 x1, PEq (Zv k2), PA RRule M2 x3, PA RInt M2 x3.Chain, PEq (Zv x3.Chain), PA (RSlice (RSlice RRule)) M2 a_s.Chains, PV (RSlice (RSlice RRule)) M2 a_s.Chains, PEq (Zv (a_s.Chains.length : Int))] (by kernel_rfl) Z (by kernel_rfl) ⟨PA.mono _ _ _, PV.mono _ _ _, Zq, PA.mono _ _ _, PV.mono _ _ _, Zq, PA.mono _ _ _, PA.mono _ _ _, Zq, PA.mono _ _ _, PV.mono _ _ _, Zq, Zt⟩ ⟨?_, ?_, ?_, ?_, ?_, ?_, ?_, ?_, ?_, ?_, ?_, ?_, Zt⟩ ?_)
      ·
       intro w5 D hS1 hd1
       have hl5 := Le.no M2 hS1
       exact dg_sub (E' := [(1, (.pointer (some p1)))]) ⟨Z, Zt⟩ (dg_plain Z (ow_fieldAddr Z Z Tryd.underlying45 Z (Tryd.sizeOf43 _) ⟨BX.refl _ _, ⟨_, Z, (ARep.mono (lz1.trans hl5) (hp1.fld fld_Ruleset_Chains))⟩⟩))
      ·
       intro w6 D hS2 hd2
       have d1 : PA (RSlice (RSlice RRule)) M2 a_s.Chains (D 0) w6 := dpA hd2 0 Z
       obtain ⟨p6, e1, ha1⟩ := d1
       exact dg_sub (E' := [(29, (.pointer (some p6)))]) ⟨congrArg some e1, Zt⟩ (dg_plain Z (ow_load (R := (RSlice (RSlice RRule))) Z Z ha1 (Tryd.sizeOf43 _) (Tryd.isAgg43 _) fun v13 hv13 => ⟨BX.refl _ _, hv13⟩))
      · exact fun w7 D hS3 hd3 => dg_sub (E' := [(3, (Zv k1))]) ⟨Z, Zt⟩ (dg_plain Z (ow_move Z Z Zb))
      ·
       intro w8 D hS4 hd4
       have d2 : PV (RSlice (RSlice RRule)) M2 a_s.Chains (D 1) w8 := dpA hd4 1 Z
       generalize hq1 : (D 1) = v14 at d2
       exact dg_sub (E' := [(30, v14), (31, (Zv k1))]) ⟨congrArg some hq1, dpE hd4 2 Z Z, Zt⟩ (dg_plain Z (ow_indexSlice (R := (RSlice RRule)) Z Z Z d2 Tryd.underlying43 (Tryd.sizeOf36 _) hx1 fun p7 hp7 => ⟨BX.refl _ _, ⟨_, Z, hp7⟩⟩))
      ·
       intro w9 D hS5 hd5
       have d4 : PA (RSlice RRule) M2 x1 (D 3) w9 := dpA hd5 3 Z
       obtain ⟨p8, e2, ha2⟩ := d4
       exact dg_sub (E' := [(32, (.pointer (some p8)))]) ⟨congrArg some e2, Zt⟩ (dg_plain Z (ow_load (R := (RSlice RRule)) Z Z ha2 (Tryd.sizeOf36 _) (Tryd.isAgg36 _) fun v15 hv15 => ⟨BX.refl _ _, hv15⟩))
      · exact fun w10 D hS6 hd6 => dg_sub (E' := [(4, (Zv k2))]) ⟨Z, Zt⟩ (dg_plain Z (ow_move Z Z Zb))
      ·
       intro w11 D hS7 hd7
       have d5 : PV (RSlice RRule) M2 x1 (D 4) w11 := dpA hd7 4 Z
       generalize hq2 : (D 4) = v16 at d5
       exact dg_sub (E' := [(33, v16), (34, (Zv k2))]) ⟨congrArg some hq2, dpE hd7 5 Z Z, Zt⟩ (dg_plain Z (ow_indexSlice (R := RRule) Z Z Z d5 Tryd.underlying36 (Tryd.sizeOf42 _) hx3 fun p9 hp9 => ⟨BX.refl _ _, ⟨_, Z, hp9⟩⟩))
      ·
       intro w12 D hS8 hd8
       have d7 : PA RRule M2 x3 (D 6) w12 := dpA hd8 6 Z
       obtain ⟨p10, e3, ha3⟩ := d7
       exact dg_sub (E' := [(35, (.pointer (some p10)))]) ⟨congrArg some e3, Zt⟩ (dg_plain Z (ow_fieldAddr Z Z Tryd.underlying42 Z (Tryd.sizeOf3 _) ⟨BX.refl _ _, ⟨_, Z, (ha3.fld fld_Rule_Chain)⟩⟩))
      ·
       intro w13 D hS9 hd9
       have d8 : PA RInt M2 x3.Chain (D 7) w13 := dpA hd9 7 Z
       obtain ⟨p11, e4, ha4⟩ := d8
       refine dg_sub (E' := [(36, (.pointer (some p11)))]) ⟨congrArg some e4, Zt⟩ (dg_plain Z (ow_load (R := RInt) Z Z ha4 (Tryd.sizeOf3 _) (Tryd.isAgg3 _) fun v17 hv17 => ?_))
       obtain rfl := vint_eq hv17
       exact Zb
      ·
       intro w14 D hS10 hd10
       have hl14 := Le.no M2 hS10
       exact dg_sub (E' := [(1, (.pointer (some p1)))]) ⟨Z, Zt⟩ (dg_plain Z (ow_fieldAddr Z Z Tryd.underlying45 Z (Tryd.sizeOf43 _) ⟨BX.refl _ _, ⟨_, Z, (ARep.mono (lz1.trans hl14) (hp1.fld fld_Ruleset_Chains))⟩⟩))
      ·
       intro w15 D hS11 hd11
       have d9 : PA (RSlice (RSlice RRule)) M2 a_s.Chains (D 9) w15 := dpA hd11 9 Z
       obtain ⟨p12, e5, ha5⟩ := d9
       exact dg_sub (E' := [(38, (.pointer (some p12)))]) ⟨congrArg some e5, Zt⟩ (dg_plain Z (ow_load (R := (RSlice (RSlice RRule))) Z Z ha5 (Tryd.sizeOf43 _) (Tryd.isAgg43 _) fun v18 hv18 => ⟨BX.refl _ _, hv18⟩))
      ·
       intro w16 D hS12 hd12
       have d10 : PV (RSlice (RSlice RRule)) M2 a_s.Chains (D 10) w16 := dpA hd12 10 Z
       generalize hq3 : (D 10) = v19 at d10
       exact dg_sub (E' := [(39, v19)]) ⟨congrArg some hq3, Zt⟩ (dg_plain Z (ow_len Z Z d10 Tryd.underlying43 Z Zb))
      ·
       intro w17 D hS13 hd13
       have hl17 := Le.no M2 hS13
       have hC17 := hC4.no hS13
       refine lw_sub (E' := [(37, (Zv x3.Chain)), (40, (Zv (a_s.Chains.length : Int))), (1, (.pointer (some p1))), (3, (Zv k1)), (4, (Zv k2))]) ⟨dpE hd13 8 Z Z, dpE hd13 11 Z Z, Z, Z, Z, Zt⟩ (lw_op Z Z Z (ow_geq Z Z Z fun bb3 hbb3 => lw_nil (ew_then ?_)))
       replace hb4 := cond_some hb4
       rcases hb4 with ⟨hc4, hb4⟩ | ⟨hc4, hb4⟩
       ·
        obtain rfl := hbb3.trans hc4
        refine cw_true Z (cw_seq (cw_region (lw_op Z Z Z (ow_assign Z Z (lw_nil (ew_then (cw_ret (ew_blockR (ew_thenR (ew_thenR (ew_blockR (ew_brkR (ew_blockR (ew_thenR (ew_thenR (ew_blockR (ew_brkR (ew_thenR ?_))))))))))))))))))
        have e6 := hR2 _ (sj hb4).symm
        subst e6
        have e7 := hR1 _ (sj hb2).symm
        subst e7
        obtain rfl := sj h
        exact ew_ret (res1 Z (.tmp Z)) ⟨_, Z, ((vbool _)), hC17.bx⟩
       ·
        obtain rfl := hbb3.trans hc4
        exact cw_false Z (cw_skip (ew_blockN (ew_then (cw_region (lw_op Z Z Z (ow_move Z Z (lw_op Z Z Z (ow_add Z Z Z (lw_op Z Z Z (ow_assign Z Z (lw_nil (ew_nxt (W (k2 + 1)) hb4 fun a ha => ⟨M2, (ha.sub ⟨Z, Z, Z, Zt⟩), (hl4.trans hl17), hC17⟩))))))))))))
     ·
      obtain rfl := hbb2.trans hc3
      exact cw_false Z (cw_exit (ew_thenX (ew_thenX (ew_blockX (ew_brk k2 hb4 fun a ha => ⟨M2, (ha.sub ⟨Z, Z, Z, Zt⟩), hl4, hC4⟩)))))
    ·
     rintro k3 a w18 hlr3 ⟨M3, hF3, hl18, hC18⟩
     subst hlr3
     refine ew_at (E := [(1, (.pointer (some p1))), (3, (Zv k1)), (4, (Zv k3))]) hF3 (ew_blockN (ew_then (cw_region (lw_op Z Z Z (ow_move Z Z (lw_op Z Z Z (ow_add Z Z Z (lw_op Z Z Z (ow_assign Z Z (lw_nil ?_))))))))))
     have lz3 := ((hl2.trans hl3).trans hl18)
     exact ew_nxt (W (k1 + 1)) hb2 fun a ha => ⟨M3, (ha.sub ⟨Z, Z, Zt⟩), lz3, hC18⟩
   ·
    subst hc2
    refine cw_true Z (cw_seq (cw_region (lw_op Z Z Z (ow_assign Z Z (lw_nil (ew_then (cw_ret (ew_thenR (ew_blockR (ew_thenR (ew_thenR (ew_blockR (ew_brkR (ew_thenR ?_))))))))))))))
    have e8 := hR1 _ (sj hb2).symm
    subst e8
    obtain rfl := sj h
    exact ew_ret (res1 Z (.tmp Z)) ⟨_, Z, ((vbool _)), hC3.bx⟩
  ·
   obtain rfl := hbb1.trans hc1
   exact cw_false Z (cw_exit (ew_thenX (ew_thenX (ew_blockX (ew_brk k1 hb2 fun a ha => ⟨M1, (ha.sub ⟨Z, Z, Zt⟩), hl2, hC2⟩)))))
 ·
  rintro k4 a w19 hlr4 ⟨M4, hF4, hl19, hC19⟩
  subst hlr4
  refine ew_at (E := [(1, (.pointer (some p1))), (3, (Zv k4))]) hF4 (ew_then (cw_seq ?_))
  replace h := bind_some h
  obtain ⟨x4, hx4, h⟩ := h
  replace h := cond_some h
  rcases h with ⟨hc5, h⟩ | ⟨hc5, h⟩
  ·
   subst hc5
   replace h := bind_some h
   obtain ⟨x5, hx5, h⟩ := h
   have lz4 := (hl1.trans hl19)
   refine cw_sub (E' := [(1, (.pointer (some p1)))]) ⟨Z, Zt⟩ (cw_drawQ 11 [PA (RSlice (RSlice RRule)) M4 a_s.Chains, PV (RSlice (RSlice RRule)) M4 a_s.Chains, PEq (Zv (a_s.Chains.length : Int)), PEq (.bool true), PEq (.bool true), PV RRuleset M4 a_s, PV (RSlice RInt) M4 x5, PEq (Zv (x5.length : Int)), PA (RSlice (RSlice RRule)) M4 a_s.Chains, PV (RSlice (RSlice RRule)) M4 a_s.Chains, PEq (Zv (a_s.Chains.length : Int))] (by kernel_rfl) Z (by kernel_rfl) ⟨PA.mono _ _ _, PV.mono _ _ _, Zq, Zq, Zq, PV.mono _ _ _, PV.mono _ _ _, Zq, PA.mono _ _ _, PV.mono _ _ _, Zq, Zt⟩ ⟨?_, ?_, ?_, ?_, ?_, ?_, ?_, ?_, ?_, ?_, ?_, Zt⟩ ?_)
   ·
    intro w22 D hS14 hd14
    have hl22 := Le.no M4 hS14
    exact dg_sub (E' := [(1, (.pointer (some p1)))]) ⟨Z, Zt⟩ (dg_plain Z (ow_fieldAddr Z Z Tryd.underlying45 Z (Tryd.sizeOf43 _) ⟨BX.refl _ _, ⟨_, Z, (ARep.mono (hl19.trans hl22) (hp1.fld fld_Ruleset_Chains))⟩⟩))
   ·
    intro w23 D hS15 hd15
    have d23 : PA (RSlice (RSlice RRule)) M4 a_s.Chains (D 0) w23 := dpA hd15 0 Z
    obtain ⟨p13, e9, ha6⟩ := d23
    exact dg_sub (E' := [(42, (.pointer (some p13)))]) ⟨congrArg some e9, Zt⟩ (dg_plain Z (ow_load (R := (RSlice (RSlice RRule))) Z Z ha6 (Tryd.sizeOf43 _) (Tryd.isAgg43 _) fun v27 hv27 => ⟨BX.refl _ _, hv27⟩))
   ·
    intro w24 D hS16 hd16
    have d24 : PV (RSlice (RSlice RRule)) M4 a_s.Chains (D 1) w24 := dpA hd16 1 Z
    generalize hq4 : (D 1) = v28 at d24
    exact dg_sub (E' := [(43, v28)]) ⟨congrArg some hq4, Zt⟩ (dg_plain Z (ow_len Z Z d24 Tryd.underlying43 Z Zb))
   ·
    intro w25 D hS17 hd17
    have hl25 := Le.no M4 hS17
    have hC25 := hC19.no hS17
    refine dg_sub (E' := [(44, (Zv (a_s.Chains.length : Int)))]) ⟨dpE hd17 2 Z Z, Zt⟩ (dg_plain Z (ow_call Z Z Tryd.call70 (w_spec_l1In (hG.mono (lz4.trans hl25)) hC25.old hx4) fun v29 w26 hv29 => ?_))
    obtain ⟨hv29, hb7⟩ := hv29
    obtain rfl := vbool_eq hv29
    exact ⟨hb7, Z⟩
   · exact fun w27 D hS18 hd18 => dg_sub (E' := [(45, (.bool true))]) ⟨dpE hd18 3 Z Z, Zt⟩ (dg_plain Z (ow_move Z Z Zb))
   ·
    intro w28 D hS19 hd19
    have hl28 := Le.no M4 hS19
    exact dg_sub (E' := [(46, (.bool true)), (1, (.pointer (some p1)))]) ⟨dpE hd19 4 Z Z, Z, Zt⟩ (dg_on Z Z Z Z (ow_load (R := RRuleset) Z Z (ARep.mono (hl19.trans hl28) hp1) (Tryd.sizeOf45 _) (Tryd.isAgg45 _) fun v30 hv30 => ⟨BX.refl _ _, hv30⟩))
   ·
    intro w29 D hS20 hd20
    have hl29 := Le.no M4 hS20
    have hC29 := hC19.no hS20
    have d29 : PV RRuleset M4 a_s (D 5) w29 := dpA hd20 5 Z
    generalize hq5 : (D 5) = v31 at d29
    refine dg_sub (E' := [(47, v31), (46, (.bool true))]) ⟨congrArg some hq5, dpE hd20 4 Z Z, Zt⟩ (dg_on Z Z Z Z (ow_call Z Z Tryd.call71 (w_spec_l8Order (hG.mono (lz4.trans hl29)) hC29.old d29 hx5) fun v32 w30 hv32 => ?_))
    obtain ⟨hv32, hb8⟩ := hv32
    exact ⟨hb8, hv32⟩
   ·
    intro w31 D hS21 hd21
    have d32 : PV (RSlice RInt) M4 x5 (D 6) w31 := dpA hd21 6 Z
    generalize hq6 : (D 6) = v33 at d32
    exact dg_sub (E' := [(48, v33), (46, (.bool true))]) ⟨congrArg some hq6, dpE hd21 4 Z Z, Zt⟩ (dg_on Z Z Z Z (ow_len Z Z d32 Tryd.underlying52 Z Zb))
   ·
    intro w32 D hS22 hd22
    have hl32 := Le.no M4 hS22
    exact dg_sub (E' := [(46, (.bool true)), (1, (.pointer (some p1)))]) ⟨dpE hd22 4 Z Z, Z, Zt⟩ (dg_on Z Z Z Z (ow_fieldAddr Z Z Tryd.underlying45 Z (Tryd.sizeOf43 _) ⟨BX.refl _ _, ⟨_, Z, (ARep.mono (hl19.trans hl32) (hp1.fld fld_Ruleset_Chains))⟩⟩))
   ·
    intro w33 D hS23 hd23
    have d35 : PA (RSlice (RSlice RRule)) M4 a_s.Chains (D 8) w33 := dpA hd23 8 Z
    obtain ⟨p14, e10, ha7⟩ := d35
    exact dg_sub (E' := [(50, (.pointer (some p14))), (46, (.bool true))]) ⟨congrArg some e10, dpE hd23 4 Z Z, Zt⟩ (dg_on Z Z Z Z (ow_load (R := (RSlice (RSlice RRule))) Z Z ha7 (Tryd.sizeOf43 _) (Tryd.isAgg43 _) fun v34 hv34 => ⟨BX.refl _ _, hv34⟩))
   ·
    intro w34 D hS24 hd24
    have d37 : PV (RSlice (RSlice RRule)) M4 a_s.Chains (D 9) w34 := dpA hd24 9 Z
    generalize hq7 : (D 9) = v35 at d37
    exact dg_sub (E' := [(51, v35), (46, (.bool true))]) ⟨congrArg some hq7, dpE hd24 4 Z Z, Zt⟩ (dg_on Z Z Z Z (ow_len Z Z d37 Tryd.underlying43 Z Zb))
   ·
    intro w35 D hS25 hd25
    have hC35 := hC19.no hS25
    refine lw_sub (E' := [(46, (.bool true)), (49, (Zv (x5.length : Int))), (52, (Zv (a_s.Chains.length : Int))), (1, (.pointer (some p1)))]) ⟨dpE hd25 4 Z Z, dpE hd25 7 Z Z, dpE hd25 10 Z Z, Z, Zt⟩ (lw_on Z Z Z Z Z Z (ow_eqlI Z Z Z fun bb4 hbb4 => lw_op Z Z Z (ow_pickT Z Z Z (lw_op Z Z Z (ow_assign Z Z (lw_nil (ew_then (cw_ret ?_))))))))
    obtain rfl := sj h
    exact ew_ret (res1 Z (.tmp Z)) ⟨_, Z, ((vbool_of hbb4)), hC35.bx⟩
  ·
   subst hc5
   have lz5 := (hl1.trans hl19)
   refine cw_sub (E' := [(1, (.pointer (some p1)))]) ⟨Z, Zt⟩ (cw_drawQ 11 [PA (RSlice (RSlice RRule)) M4 a_s.Chains, PV (RSlice (RSlice RRule)) M4 a_s.Chains, PEq (Zv (a_s.Chains.length : Int)), PEq (.bool false), PEq (.bool false), PEq undef, PEq undef, PEq undef, PEq undef, PEq undef, PEq undef] (by kernel_rfl) Z (by kernel_rfl) ⟨PA.mono _ _ _, PV.mono _ _ _, Zq, Zq, Zq, Zq, Zq, Zq, Zq, Zq, Zq, Zt⟩ ⟨?_, ?_, ?_, ?_, ?_, ?_, ?_, ?_, ?_, ?_, ?_, Zt⟩ ?_)
   ·
    intro w36 D hS26 hd26
    have hl36 := Le.no M4 hS26
    exact dg_sub (E' := [(1, (.pointer (some p1)))]) ⟨Z, Zt⟩ (dg_plain Z (ow_fieldAddr Z Z Tryd.underlying45 Z (Tryd.sizeOf43 _) ⟨BX.refl _ _, ⟨_, Z, (ARep.mono (hl19.trans hl36) (hp1.fld fld_Ruleset_Chains))⟩⟩))
   ·
    intro w37 D hS27 hd27
    have d50 : PA (RSlice (RSlice RRule)) M4 a_s.Chains (D 0) w37 := dpA hd27 0 Z
    obtain ⟨p15, e11, ha8⟩ := d50
    exact dg_sub (E' := [(42, (.pointer (some p15)))]) ⟨congrArg some e11, Zt⟩ (dg_plain Z (ow_load (R := (RSlice (RSlice RRule))) Z Z ha8 (Tryd.sizeOf43 _) (Tryd.isAgg43 _) fun v36 hv36 => ⟨BX.refl _ _, hv36⟩))
   ·
    intro w38 D hS28 hd28
    have d51 : PV (RSlice (RSlice RRule)) M4 a_s.Chains (D 1) w38 := dpA hd28 1 Z
    generalize hq8 : (D 1) = v37 at d51
    exact dg_sub (E' := [(43, v37)]) ⟨congrArg some hq8, Zt⟩ (dg_plain Z (ow_len Z Z d51 Tryd.underlying43 Z Zb))
   ·
    intro w39 D hS29 hd29
    have hl39 := Le.no M4 hS29
    have hC39 := hC19.no hS29
    refine dg_sub (E' := [(44, (Zv (a_s.Chains.length : Int)))]) ⟨dpE hd29 2 Z Z, Zt⟩ (dg_plain Z (ow_call Z Z Tryd.call70 (w_spec_l1In (hG.mono (lz5.trans hl39)) hC39.old hx4) fun v38 w40 hv38 => ?_))
    obtain ⟨hv38, hb9⟩ := hv38
    obtain rfl := vbool_eq hv38
    exact ⟨hb9, Z⟩
   · exact fun w41 D hS30 hd30 => dg_sub (E' := [(45, (.bool false))]) ⟨dpE hd30 3 Z Z, Zt⟩ (dg_plain Z (ow_move Z Z Zb))
   · exact fun w42 D hS31 hd31 => dg_sub (E' := [(46, (.bool false)), (1, (.pointer (some p1)))]) ⟨dpE hd31 4 Z Z, Z, Zt⟩ (dg_off Z Z Z Z Zb)
   · exact fun w43 D hS32 hd32 => dg_sub (E' := [(47, undef), (46, (.bool false))]) ⟨dpE hd32 5 Z Z, dpE hd32 4 Z Z, Zt⟩ (dg_off Z Z Z Z Zb)
   · exact fun w44 D hS33 hd33 => dg_sub (E' := [(48, undef), (46, (.bool false))]) ⟨dpE hd33 6 Z Z, dpE hd33 4 Z Z, Zt⟩ (dg_off Z Z Z Z Zb)
   · exact fun w45 D hS34 hd34 => dg_sub (E' := [(46, (.bool false)), (1, (.pointer (some p1)))]) ⟨dpE hd34 4 Z Z, Z, Zt⟩ (dg_off Z Z Z Z Zb)
   · exact fun w46 D hS35 hd35 => dg_sub (E' := [(50, undef), (46, (.bool false))]) ⟨dpE hd35 8 Z Z, dpE hd35 4 Z Z, Zt⟩ (dg_off Z Z Z Z Zb)
   · exact fun w47 D hS36 hd36 => dg_sub (E' := [(51, undef), (46, (.bool false))]) ⟨dpE hd36 9 Z Z, dpE hd36 4 Z Z, Zt⟩ (dg_off Z Z Z Z Zb)
   ·
    intro w48 D hS37 hd37
    have hC48 := hC19.no hS37
    refine lw_sub (E' := [(46, (.bool false)), (49, undef), (52, undef), (1, (.pointer (some p1)))]) ⟨dpE hd37 4 Z Z, dpE hd37 7 Z Z, dpE hd37 10 Z Z, Z, Zt⟩ (lw_off Z Z Z Z Z Z (lw_op Z Z Z (ow_pickF Z Z Z (lw_op Z Z Z (ow_assign Z Z (lw_nil (ew_then (cw_ret ?_))))))))
    obtain rfl := sj h
    exact ew_ret (res1 Z (.tmp Z)) ⟨_, Z, ((vbool _)), hC48.bx⟩

theorem w_spec_PacketValid {w : World} {M : Nat → Prop} (hG : ARep (RArr 4 RShape) w M shapes ⟨0, 0, none⟩) (hO : ∀ b, M b → b < w.heap.size) {v0p : Value} {a_p : Packet} (h0 : VRep RPacket w M a_p v0p) {r : Bool} (h : F.spec_PacketValid a_p = some r) :
  Calls Tryd.prog 41 [v0p].toArray w fun e w' => ∃ v, e = .returned v ∧ VRep RBool w' M r v ∧ BX No w w' := by
 have hC : Cx No w M w M := Cx.start hO (fun _ e => e.elim)
 refine walk (N := 21) Tryd.func41 Z Tryd.ntmps41 Z (cw_seq (cw_region (lw_op Z Z Z (ow_box (R := RPacket) Z Z h0 hC fun p1 w1 hp1 hb1 hl1 hC1 => lw_op Z Z Z (ow_assign Z Z (lw_nil (ew_then (cw_seq (cw_region (lw_op Z Z Z (ow_fieldAddr Z Z Tryd.underlying38 Z (Tryd.sizeOf3 _) (lw_op Z Z Z (ow_load (R := RInt) Z Z (hp1.fld fld_Packet_From) (Tryd.sizeOf3 _) (Tryd.isAgg3 _) fun v1 hv1 => ?_)))))))))))))
 obtain rfl := vint_eq hv1
 replace h := bind_some h
 obtain ⟨x1, hx1, h⟩ := h
 refine lw_op Z Z Z (ow_call Z Z Tryd.call70 (w_spec_l1In (hG.mono hl1) hC1.old hx1) fun v2 w2 hv2 => ?_)
 obtain ⟨hv2, hb2⟩ := hv2
 have hl2 := Le.no M hb2
 have hC2 := hC1.no hb2
 obtain rfl := vbool_eq hv2
 refine lw_op Z Z Z (ow_move Z Z ?_)
 replace h := cond_some h
 rcases h with ⟨hc1, h⟩ | ⟨hc1, h⟩
 ·
  subst hc1
  refine lw_on Z Z Z Z Z Z (ow_fieldAddr Z Z Tryd.underlying38 Z (Tryd.sizeOf3 _) (lw_on Z Z Z Z Z Z (ow_load (R := RInt) Z Z (ARep.mono hl2 (hp1.fld fld_Packet_To)) (Tryd.sizeOf3 _) (Tryd.isAgg3 _) fun v3 hv3 => ?_)))
  obtain rfl := vint_eq hv3
  replace h := bind_some h
  obtain ⟨x2, hx2, h⟩ := h
  refine lw_on Z Z Z Z Z Z (ow_call Z Z Tryd.call70 (w_spec_l1In (hG.mono (hl1.trans hl2)) hC2.old hx2) fun v4 w3 hv4 => ?_)
  obtain ⟨hv4, hb3⟩ := hv4
  have hl3 := Le.no M hb3
  have hC3 := hC2.no hb3
  obtain rfl := vbool_eq hv4
  refine lw_op Z Z Z (ow_pickT Z Z Z (lw_op Z Z Z (ow_move Z Z ?_)))
  replace h := cond_some h
  rcases h with ⟨hc2, h⟩ | ⟨hc2, h⟩
  ·
   subst hc2
   refine lw_on Z Z Z Z Z Z (ow_fieldAddr Z Z Tryd.underlying38 Z (Tryd.sizeOf3 _) (lw_on Z Z Z Z Z Z (ow_load (R := RInt) Z Z (ARep.mono (hl2.trans hl3) (hp1.fld fld_Packet_Port)) (Tryd.sizeOf3 _) (Tryd.isAgg3 _) fun v5 hv5 => ?_)))
   obtain rfl := vint_eq hv5
   replace h := bind_some h
   obtain ⟨x3, hx3, h⟩ := h
   have lz1 := ((hl1.trans hl2).trans hl3)
   refine lw_on Z Z Z Z Z Z (ow_call Z Z Tryd.call70 (w_spec_l1In (hG.mono lz1) hC3.old hx3) fun v6 w4 hv6 => ?_)
   obtain ⟨hv6, hb4⟩ := hv6
   have hl4 := Le.no M hb4
   have hC4 := hC3.no hb4
   obtain rfl := vbool_eq hv6
   refine lw_op Z Z Z (ow_pickT Z Z Z (lw_op Z Z Z (ow_move Z Z ?_)))
   replace h := cond_some h
   rcases h with ⟨hc3, h⟩ | ⟨hc3, h⟩
   ·
    subst hc3
    refine lw_on Z Z Z Z Z Z (ow_fieldAddr Z Z Tryd.underlying38 Z (Tryd.sizeOf3 _) ?_)
    have lz2 := ((hl2.trans hl3).trans hl4)
    refine lw_on Z Z Z Z Z Z (ow_load (R := RInt) Z Z (ARep.mono lz2 (hp1.fld fld_Packet_Proto)) (Tryd.sizeOf3 _) (Tryd.isAgg3 _) fun v7 hv7 => ?_)
    obtain rfl := vint_eq hv7
    replace h := bind_some h
    obtain ⟨x4, hx4, h⟩ := h
    refine lw_on Z Z Z Z Z Z (ow_call Z Z Tryd.call70 (w_spec_l1In (hG.mono (lz1.trans hl4)) hC4.old hx4) fun v8 w5 hv8 => ?_)
    obtain ⟨hv8, hb5⟩ := hv8
    have hC5 := hC4.no hb5
    obtain rfl := vbool_eq hv8
    refine lw_op Z Z Z (ow_pickT Z Z Z (lw_op Z Z Z (ow_assign Z Z (lw_nil (ew_then (cw_ret ?_))))))
    obtain rfl := sj h
    exact ew_ret (res1 Z (.tmp Z)) ⟨_, Z, ((vbool _)), hC5.bx⟩
   ·
    subst hc3
    refine lw_off Z Z Z Z Z Z (lw_off Z Z Z Z Z Z (lw_off Z Z Z Z Z Z (lw_op Z Z Z (ow_pickF Z Z Z (lw_op Z Z Z (ow_assign Z Z (lw_nil (ew_then (cw_ret ?_)))))))))
    obtain rfl := sj h
    exact ew_ret (res1 Z (.tmp Z)) ⟨_, Z, ((vbool _)), hC4.bx⟩
  ·
   subst hc2
   refine lw_off Z Z Z Z Z Z (lw_off Z Z Z Z Z Z (lw_off Z Z Z Z Z Z (lw_op Z Z Z (ow_pickF Z Z Z (lw_op Z Z Z (ow_move Z Z (lw_off Z Z Z Z Z Z (lw_off Z Z Z Z Z Z (lw_off Z Z Z Z Z Z (lw_op Z Z Z (ow_pickF Z Z Z (lw_op Z Z Z (ow_assign Z Z (lw_nil (ew_then (cw_ret ?_))))))))))))))))
   obtain rfl := sj h
   exact ew_ret (res1 Z (.tmp Z)) ⟨_, Z, ((vbool _)), hC3.bx⟩
 ·
  subst hc1
  refine lw_off Z Z Z Z Z Z (lw_off Z Z Z Z Z Z (lw_off Z Z Z Z Z Z (lw_op Z Z Z (ow_pickF Z Z Z (lw_op Z Z Z (ow_move Z Z (lw_off Z Z Z Z Z Z (lw_off Z Z Z Z Z Z (lw_off Z Z Z Z Z Z (lw_op Z Z Z (ow_pickF Z Z Z (lw_op Z Z Z (ow_move Z Z (lw_off Z Z Z Z Z Z (lw_off Z Z Z Z Z Z (lw_off Z Z Z Z Z Z (lw_op Z Z Z (ow_pickF Z Z Z (lw_op Z Z Z (ow_assign Z Z (lw_nil (ew_then (cw_ret ?_)))))))))))))))))))))))
  obtain rfl := sj h
  exact ew_ret (res1 Z (.tmp Z)) ⟨_, Z, ((vbool _)), hC2.bx⟩

theorem w_spec_PacketField {w : World} {M : Nat → Prop} (hG : ARep (RArr 4 RShape) w M shapes ⟨0, 0, none⟩) (hO : ∀ b, M b → b < w.heap.size) {v0p : Value} {a_p : Packet} (h0 : VRep RPacket w M a_p v0p) {a_n : Int} {r : Int} (h : F.spec_PacketField a_p a_n = some r) :
  Calls Tryd.prog 114 [v0p, (.int .i64 a_n)].toArray w fun e w' => ∃ v, e = .returned v ∧ VRep RInt w' M r v ∧ BX No w w' := by
 have hC : Cx No w M w M := Cx.start hO (fun _ e => e.elim)
 refine walk (N := 25) Tryd.func114 Z Tryd.ntmps114 Z (cw_seq (cw_region (lw_op Z Z Z (ow_box (R := RPacket) Z Z h0 hC fun p1 w1 hp1 hb1 hl1 hC1 => lw_op Z Z Z (ow_assign Z Z (lw_nil (ew_then (cw_seq (cw_seq (cw_region (lw_op Z Z Z (ow_load (R := RPacket) Z Z hp1 (Tryd.sizeOf38 _) (Tryd.isAgg38 _) fun v1 hv1 => ?_))))))))))))
 replace h := bind_some h
 obtain ⟨x1, hx1, h⟩ := h
 refine lw_op Z Z Z (ow_call Z Z Tryd.call41 (w_spec_PacketValid (hG.mono hl1) hC1.old hv1 hx1) fun v2 w2 hv2 => ?_)
 obtain ⟨hv2, hb2⟩ := hv2
 have hl2 := Le.no M hb2
 have hC2 := hC1.no hb2
 obtain rfl := vbool_eq hv2
 refine lw_op Z Z Z (ow_not Z Z (lw_op Z Z Z (ow_move Z Z ?_)))
 replace h := cond_some h
 rcases h with ⟨hc1, h⟩ | ⟨hc1, h⟩
 ·
  subst hc1
  refine lw_on Z Z Z Z Z Z (ow_move Z Z ?_)
  replace h := bind_some h
  obtain ⟨x2, hx2, h⟩ := h
  refine lw_on Z Z Z Z Z Z (ow_call Z Z Tryd.call70 (w_spec_l1In (hG.mono (hl1.trans hl2)) hC2.old hx2) fun v3 w3 hv3 => ?_)
  obtain ⟨hv3, hb3⟩ := hv3
  have hl3 := Le.no M hb3
  have hC3 := hC2.no hb3
  obtain rfl := vbool_eq hv3
  refine lw_on Z Z Z Z Z Z (ow_not Z Z (lw_op Z Z Z (ow_pickF Z Z Z (lw_nil (ew_then ?_)))))
  replace h := cond_some h
  rcases h with ⟨hc2, h⟩ | ⟨hc2, h⟩
  ·
   subst hc2
   refine cw_false Z (cw_skip (ew_then (cw_seq (cw_region (lw_op Z Z Z (ow_fieldAddr Z Z Tryd.underlying38 Z (Tryd.sizeOf3 _) (lw_op Z Z Z (ow_load (R := RInt) Z Z (ARep.mono (hl2.trans hl3) (hp1.fld fld_Packet_From)) (Tryd.sizeOf3 _) (Tryd.isAgg3 _) fun v4 hv4 => ?_))))))))
   obtain rfl := vint_eq hv4
   refine lw_op Z Z Z (ow_fieldAddr Z Z Tryd.underlying38 Z (Tryd.sizeOf3 _) (lw_op Z Z Z (ow_load (R := RInt) Z Z (ARep.mono (hl2.trans hl3) (hp1.fld fld_Packet_To)) (Tryd.sizeOf3 _) (Tryd.isAgg3 _) fun v5 hv5 => ?_)))
   obtain rfl := vint_eq hv5
   refine lw_op Z Z Z (ow_fieldAddr Z Z Tryd.underlying38 Z (Tryd.sizeOf3 _) (lw_op Z Z Z (ow_load (R := RInt) Z Z (ARep.mono (hl2.trans hl3) (hp1.fld fld_Packet_Port)) (Tryd.sizeOf3 _) (Tryd.isAgg3 _) fun v6 hv6 => ?_)))
   obtain rfl := vint_eq hv6
   refine lw_op Z Z Z (ow_fieldAddr Z Z Tryd.underlying38 Z (Tryd.sizeOf3 _) (lw_op Z Z Z (ow_load (R := RInt) Z Z (ARep.mono (hl2.trans hl3) (hp1.fld fld_Packet_Proto)) (Tryd.sizeOf3 _) (Tryd.isAgg3 _) fun v7 hv7 => ?_)))
   obtain rfl := vint_eq hv7
   refine lw_op Z Z Z (ow_buildSlice (R := RInt) (xs := [a_p.From, a_p.To, a_p.Port, a_p.Proto]) (cs := #[(Zv a_p.From), (Zv a_p.To), (Zv a_p.Port), (Zv a_p.Proto)]) (e := 3) Z Z (by kernel_rfl) Z Z ⟨_, _, Z, (vint _).cells, _, _, Z, (vint _).cells, _, _, Z, (vint _).cells, _, _, Z, (vint _).cells, Z⟩ hC3 fun p2 w4 hw1 hb4 hl4 hC4 => lw_op Z Z Z (ow_move Z Z ?_))
   replace h := bind_some h
   obtain ⟨x3, hx3, h⟩ := h
   refine lw_op Z Z Z (ow_indexSlice (R := RInt) Z Z Z hw1 Tryd.underlying52 (Tryd.sizeOf3 _) hx3 fun p3 hp3 => lw_op Z Z Z (ow_load (R := RInt) Z Z hp3 (Tryd.sizeOf3 _) (Tryd.isAgg3 _) fun v8 hv8 => ?_))
   obtain rfl := vint_eq hv8
   refine lw_op Z Z Z (ow_assign Z Z (lw_nil (ew_then (cw_ret ?_))))
   obtain rfl := sj h
   exact ew_ret (res1 Z (.tmp Z)) ⟨_, Z, ((vint _)), hC4.bx⟩
  ·
   subst hc2
   refine cw_true Z (cw_seq (cw_region (lw_op Z Z Z (ow_assign Z Z (lw_nil (ew_then (cw_ret (ew_thenR ?_))))))))
   obtain rfl := sj h
   exact ew_ret (res1 Z (.tmp Z)) ⟨_, Z, ((vint _)), hC3.bx⟩
 ·
  subst hc1
  refine lw_off Z Z Z Z Z Z (lw_off Z Z Z Z Z Z (lw_off Z Z Z Z Z Z (lw_op Z Z Z (ow_pickT Z Z Z (lw_nil (ew_then (cw_true Z (cw_seq (cw_region (lw_op Z Z Z (ow_assign Z Z (lw_nil (ew_then (cw_ret (ew_thenR ?_)))))))))))))))
  obtain rfl := sj h
  exact ew_ret (res1 Z (.tmp Z)) ⟨_, Z, ((vint _)), hC2.bx⟩

theorem w_spec_TestHolds {w : World} {M : Nat → Prop} (hG : ARep (RArr 4 RShape) w M shapes ⟨0, 0, none⟩) (hO : ∀ b, M b → b < w.heap.size) {v0p : Value} {a_t : Test} (h0 : VRep RTest w M a_t v0p) {v1p : Value} {a_p : Packet} (h1 : VRep RPacket w M a_p v1p) {r : Bool} (h : F.spec_TestHolds a_t a_p = some r) :
  Calls Tryd.prog 110 [v0p, v1p].toArray w fun e w' => ∃ v, e = .returned v ∧ VRep RBool w' M r v ∧ BX No w w' := by
 have hC : Cx No w M w M := Cx.start hO (fun _ e => e.elim)
 refine walk (N := 25) Tryd.func110 Z Tryd.ntmps110 Z (cw_seq (cw_region (lw_op Z Z Z (ow_box (R := RTest) Z Z h0 hC fun p1 w1 hp1 hb1 hl1 hC1 => lw_op Z Z Z (ow_box (R := RPacket) Z Z (VRep.mono hl1 h1) hC1 fun p2 w2 hp2 hb2 hl2 hC2 => lw_op Z Z Z (ow_assign Z Z (lw_nil (ew_then (cw_seq ?_)))))))))
 replace h := bind_some h
 obtain ⟨x1, hx1, h⟩ := h
 replace h := cond_some h
 rcases h with ⟨hc1, h⟩ | ⟨hc1, h⟩
 ·
  subst hc1
  replace h := bind_some h
  obtain ⟨x2, hx2, h⟩ := h
  replace h := cond_some h
  rcases h with ⟨hc2, h⟩ | ⟨hc2, h⟩
  ·
   subst hc2
   replace h := bind_some h
   obtain ⟨x3, hx3, h⟩ := h
   replace h := bind_some h
   obtain ⟨x4, hx4, h⟩ := h
   have lz1 := (hl1.trans hl2)
   refine cw_sub (E' := [(2, (.pointer (some p1))), (3, (.pointer (some p2))), (4, (.bool false))]) ⟨Z, Z, Z, Zt⟩ (cw_drawQ 18 [PV RTest M a_t, PEq (.bool true), PEq (.bool true), PV RPacket M a_p, PEq (.bool true), PEq (.bool true), PEq (.bool true), PV RPacket M a_p, PA RInt M a_t.Field, PEq (Zv a_t.Field), PEq (Zv x3), PA RInt M a_t.Lo, PEq (Zv a_t.Lo), PA RInt M a_t.Hi, PEq (Zv a_t.Hi), PEq (.bool x4), PA RBool M a_t.Not, PEq (.bool a_t.Not)] (by kernel_rfl) Z (by kernel_rfl) ⟨PV.mono _ _ _, Zq, Zq, PV.mono _ _ _, Zq, Zq, Zq, PV.mono _ _ _, PA.mono _ _ _, Zq, Zq, PA.mono _ _ _, Zq, PA.mono _ _ _, Zq, Zq, PA.mono _ _ _, Zq, Zt⟩ ⟨?_, ?_, ?_, ?_, ?_, ?_, ?_, ?_, ?_, ?_, ?_, ?_, ?_, ?_, ?_, ?_, ?_, ?_, Zt⟩ ?_)
   ·
    intro w7 D hS1 hd1
    have hl7 := Le.no M hS1
    exact dg_sub (E' := [(2, (.pointer (some p1)))]) ⟨Z, Zt⟩ (dg_plain Z (ow_load (R := RTest) Z Z (ARep.mono (hl2.trans hl7) hp1) (Tryd.sizeOf31 _) (Tryd.isAgg31 _) fun v12 hv12 => ⟨BX.refl _ _, hv12⟩))
   ·
    intro w8 D hS2 hd2
    have hl8 := Le.no M hS2
    have hC8 := hC2.no hS2
    have d1 : PV RTest M a_t (D 0) w8 := dpA hd2 0 Z
    generalize hq1 : (D 0) = v13 at d1
    refine dg_sub (E' := [(5, v13)]) ⟨congrArg some hq1, Zt⟩ (dg_plain Z (ow_call Z Z Tryd.call91 (w_spec_TestValid (hG.mono (lz1.trans hl8)) hC8.old d1 hx1) fun v14 w9 hv14 => ?_))
    obtain ⟨hv14, hb7⟩ := hv14
    obtain rfl := vbool_eq hv14
    exact ⟨hb7, Z⟩
   · exact fun w10 D hS3 hd3 => dg_sub (E' := [(6, (.bool true))]) ⟨dpE hd3 1 Z Z, Zt⟩ (dg_plain Z (ow_move Z Z Zb))
   ·
    intro w11 D hS4 hd4
    have hl11 := Le.no M hS4
    exact dg_sub (E' := [(7, (.bool true)), (3, (.pointer (some p2)))]) ⟨dpE hd4 2 Z Z, Z, Zt⟩ (dg_on Z Z Z Z (ow_load (R := RPacket) Z Z (ARep.mono hl11 hp2) (Tryd.sizeOf38 _) (Tryd.isAgg38 _) fun v15 hv15 => ⟨BX.refl _ _, hv15⟩))
   ·
    intro w12 D hS5 hd5
    have hl12 := Le.no M hS5
    have hC12 := hC2.no hS5
    have d5 : PV RPacket M a_p (D 3) w12 := dpA hd5 3 Z
    generalize hq2 : (D 3) = v16 at d5
    refine dg_sub (E' := [(8, v16), (7, (.bool true))]) ⟨congrArg some hq2, dpE hd5 2 Z Z, Zt⟩ (dg_on Z Z Z Z (ow_call Z Z Tryd.call41 (w_spec_PacketValid (hG.mono (lz1.trans hl12)) hC12.old d5 hx2) fun v17 w13 hv17 => ?_))
    obtain ⟨hv17, hb8⟩ := hv17
    obtain rfl := vbool_eq hv17
    exact ⟨hb8, Z⟩
   · exact fun w14 D hS6 hd6 => dg_sub (E' := [(7, (.bool true)), (9, (.bool true))]) ⟨dpE hd6 2 Z Z, dpE hd6 4 Z Z, Zt⟩ (dg_plain Z (ow_pickT Z Z Z Zb))
   · exact fun w15 D hS7 hd7 => dg_sub (E' := [(10, (.bool true))]) ⟨dpE hd7 5 Z Z, Zt⟩ (dg_plain Z (ow_move Z Z Zb))
   ·
    intro w16 D hS8 hd8
    have hl16 := Le.no M hS8
    exact dg_sub (E' := [(11, (.bool true)), (3, (.pointer (some p2)))]) ⟨dpE hd8 6 Z Z, Z, Zt⟩ (dg_on Z Z Z Z (ow_load (R := RPacket) Z Z (ARep.mono hl16 hp2) (Tryd.sizeOf38 _) (Tryd.isAgg38 _) fun v18 hv18 => ⟨BX.refl _ _, hv18⟩))
   ·
    intro w17 D hS9 hd9
    have hl17 := Le.no M hS9
    exact dg_sub (E' := [(11, (.bool true)), (2, (.pointer (some p1)))]) ⟨dpE hd9 6 Z Z, Z, Zt⟩ (dg_on Z Z Z Z (ow_fieldAddr Z Z Tryd.underlying31 Z (Tryd.sizeOf3 _) ⟨BX.refl _ _, ⟨_, Z, (ARep.mono (hl2.trans hl17) (hp1.fld fld_Test_Field))⟩⟩))
   ·
    intro w18 D hS10 hd10
    have d14 : PA RInt M a_t.Field (D 8) w18 := dpA hd10 8 Z
    obtain ⟨p3, e1, ha1⟩ := d14
    refine dg_sub (E' := [(13, (.pointer (some p3))), (11, (.bool true))]) ⟨congrArg some e1, dpE hd10 6 Z Z, Zt⟩ (dg_on Z Z Z Z (ow_load (R := RInt) Z Z ha1 (Tryd.sizeOf3 _) (Tryd.isAgg3 _) fun v19 hv19 => ?_))
    obtain rfl := vint_eq hv19
    exact Zb
   ·
    intro w19 D hS11 hd11
    have hl19 := Le.no M hS11
    have hC19 := hC2.no hS11
    have d16 : PV RPacket M a_p (D 7) w19 := dpA hd11 7 Z
    generalize hq3 : (D 7) = v20 at d16
    refine dg_sub (E' := [(12, v20), (14, (Zv a_t.Field)), (11, (.bool true))]) ⟨congrArg some hq3, dpE hd11 9 Z Z, dpE hd11 6 Z Z, Zt⟩ (dg_on Z Z Z Z (ow_call Z Z Tryd.call114 (w_spec_PacketField (hG.mono (lz1.trans hl19)) hC19.old d16 hx3) fun v21 w20 hv21 => ?_))
    obtain ⟨hv21, hb9⟩ := hv21
    obtain rfl := vint_eq hv21
    exact ⟨hb9, Z⟩
   ·
    intro w21 D hS12 hd12
    have hl21 := Le.no M hS12
    exact dg_sub (E' := [(11, (.bool true)), (2, (.pointer (some p1)))]) ⟨dpE hd12 6 Z Z, Z, Zt⟩ (dg_on Z Z Z Z (ow_fieldAddr Z Z Tryd.underlying31 Z (Tryd.sizeOf3 _) ⟨BX.refl _ _, ⟨_, Z, (ARep.mono (hl2.trans hl21) (hp1.fld fld_Test_Lo))⟩⟩))
   ·
    intro w22 D hS13 hd13
    have d21 : PA RInt M a_t.Lo (D 11) w22 := dpA hd13 11 Z
    obtain ⟨p4, e2, ha2⟩ := d21
    refine dg_sub (E' := [(16, (.pointer (some p4))), (11, (.bool true))]) ⟨congrArg some e2, dpE hd13 6 Z Z, Zt⟩ (dg_on Z Z Z Z (ow_load (R := RInt) Z Z ha2 (Tryd.sizeOf3 _) (Tryd.isAgg3 _) fun v22 hv22 => ?_))
    obtain rfl := vint_eq hv22
    exact Zb
   ·
    intro w23 D hS14 hd14
    have hl23 := Le.no M hS14
    exact dg_sub (E' := [(11, (.bool true)), (2, (.pointer (some p1)))]) ⟨dpE hd14 6 Z Z, Z, Zt⟩ (dg_on Z Z Z Z (ow_fieldAddr Z Z Tryd.underlying31 Z (Tryd.sizeOf3 _) ⟨BX.refl _ _, ⟨_, Z, (ARep.mono (hl2.trans hl23) (hp1.fld fld_Test_Hi))⟩⟩))
   ·
    intro w24 D hS15 hd15
    have d24 : PA RInt M a_t.Hi (D 13) w24 := dpA hd15 13 Z
    obtain ⟨p5, e3, ha3⟩ := d24
    refine dg_sub (E' := [(18, (.pointer (some p5))), (11, (.bool true))]) ⟨congrArg some e3, dpE hd15 6 Z Z, Zt⟩ (dg_on Z Z Z Z (ow_load (R := RInt) Z Z ha3 (Tryd.sizeOf3 _) (Tryd.isAgg3 _) fun v23 hv23 => ?_))
    obtain rfl := vint_eq hv23
    exact Zb
   ·
    intro w25 D hS16 hd16
    have hl25 := Le.no M hS16
    have hC25 := hC2.no hS16
    refine dg_sub (E' := [(15, (Zv x3)), (17, (Zv a_t.Lo)), (19, (Zv a_t.Hi)), (11, (.bool true))]) ⟨dpE hd16 10 Z Z, dpE hd16 12 Z Z, dpE hd16 14 Z Z, dpE hd16 6 Z Z, Zt⟩ (dg_on Z Z Z Z (ow_call Z Z Tryd.call70 (w_spec_l1In (hG.mono (lz1.trans hl25)) hC25.old hx4) fun v24 w26 hv24 => ?_))
    obtain ⟨hv24, hb10⟩ := hv24
    obtain rfl := vbool_eq hv24
    exact ⟨hb10, Z⟩
   ·
    intro w27 D hS17 hd17
    have hl27 := Le.no M hS17
    exact dg_sub (E' := [(11, (.bool true)), (2, (.pointer (some p1)))]) ⟨dpE hd17 6 Z Z, Z, Zt⟩ (dg_on Z Z Z Z (ow_fieldAddr Z Z Tryd.underlying31 Z (Tryd.sizeOf4 _) ⟨BX.refl _ _, ⟨_, Z, (ARep.mono (hl2.trans hl27) (hp1.fld fld_Test_Not))⟩⟩))
   ·
    intro w28 D hS18 hd18
    have d32 : PA RBool M a_t.Not (D 16) w28 := dpA hd18 16 Z
    obtain ⟨p6, e4, ha4⟩ := d32
    refine dg_sub (E' := [(21, (.pointer (some p6))), (11, (.bool true))]) ⟨congrArg some e4, dpE hd18 6 Z Z, Zt⟩ (dg_on Z Z Z Z (ow_load (R := RBool) Z Z ha4 (Tryd.sizeOf4 _) (Tryd.isAgg4 _) fun v25 hv25 => ?_))
    obtain ⟨bb2, hbb2, rfl⟩ := vbool_ex hv25
    exact ⟨BX.refl _ _, (congrArg Value.bool hbb2)⟩
   ·
    intro w29 D hS19 hd19
    have d49 : PEq (.bool x4) (D 15) w29 := dpA hd19 15 Z
    have d51 : PEq (.bool a_t.Not) (D 17) w29 := dpA hd19 17 Z
    have hC29 := hC2.no hS19
    obtain ⟨bb3, hq4, hq5⟩ : ∃ b, b = x4 ∧ (D 15) = .bool b := ⟨_, rfl, d49⟩
    obtain ⟨bb4, hq6, hq7⟩ : ∃ b, b = a_t.Not ∧ (D 17) = .bool b := ⟨_, rfl, d51⟩
    refine lw_sub (E' := [(11, (.bool true)), (20, (.bool bb3)), (22, (.bool bb4)), (2, (.pointer (some p1))), (3, (.pointer (some p2))), (4, (.bool false))]) ⟨dpE hd19 6 Z Z, congrArg some hq5, congrArg some hq7, Z, Z, Z, Zt⟩ (lw_on Z Z Z Z Z Z (ow_neqB Z Z Z Tryd.underlying4 fun bb5 hbb5 => ?_))
    have hbb5' : bb5 = (x4 != a_t.Not) := hbb5.trans (by rw [hq4, hq6])
    refine lw_op Z Z Z (ow_pickT Z Z Z (lw_op Z Z Z (ow_assign Z Z (lw_nil (ew_then (cw_ret ?_))))))
    obtain rfl := sj h
    exact ew_ret (res1 Z (.tmp Z)) ⟨_, Z, ((vbool_of hbb5')), hC29.bx⟩
  ·
   subst hc2
   have lz2 := (hl1.trans hl2)
   refine cw_sub (E' := [(2, (.pointer (some p1))), (3, (.pointer (some p2))), (4, (.bool false))]) ⟨Z, Z, Z, Zt⟩ (cw_drawQ 18 [PV RTest M a_t, PEq (.bool true), PEq (.bool true), PV RPacket M a_p, PEq (.bool false), PEq (.bool false), PEq (.bool false), PEq undef, PEq undef, PEq undef, PEq undef, PEq undef, PEq undef, PEq undef, PEq undef, PEq undef, PEq undef, PEq undef] (by kernel_rfl) Z (by kernel_rfl) ⟨PV.mono _ _ _, Zq, Zq, PV.mono _ _ _, Zq, Zq, Zq, Zq, Zq, Zq, Zq, Zq, Zq, Zq, Zq, Zq, Zq, Zq, Zt⟩ ⟨?_, ?_, ?_, ?_, ?_, ?_, ?_, ?_, ?_, ?_, ?_, ?_, ?_, ?_, ?_, ?_, ?_, ?_, Zt⟩ ?_)
   ·
    intro w30 D hS20 hd20
    have hl30 := Le.no M hS20
    exact dg_sub (E' := [(2, (.pointer (some p1)))]) ⟨Z, Zt⟩ (dg_plain Z (ow_load (R := RTest) Z Z (ARep.mono (hl2.trans hl30) hp1) (Tryd.sizeOf31 _) (Tryd.isAgg31 _) fun v26 hv26 => ⟨BX.refl _ _, hv26⟩))
   ·
    intro w31 D hS21 hd21
    have hl31 := Le.no M hS21
    have hC31 := hC2.no hS21
    have d52 : PV RTest M a_t (D 0) w31 := dpA hd21 0 Z
    generalize hq8 : (D 0) = v27 at d52
    refine dg_sub (E' := [(5, v27)]) ⟨congrArg some hq8, Zt⟩ (dg_plain Z (ow_call Z Z Tryd.call91 (w_spec_TestValid (hG.mono (lz2.trans hl31)) hC31.old d52 hx1) fun v28 w32 hv28 => ?_))
    obtain ⟨hv28, hb11⟩ := hv28
    obtain rfl := vbool_eq hv28
    exact ⟨hb11, Z⟩
   · exact fun w33 D hS22 hd22 => dg_sub (E' := [(6, (.bool true))]) ⟨dpE hd22 1 Z Z, Zt⟩ (dg_plain Z (ow_move Z Z Zb))
   ·
    intro w34 D hS23 hd23
    have hl34 := Le.no M hS23
    exact dg_sub (E' := [(7, (.bool true)), (3, (.pointer (some p2)))]) ⟨dpE hd23 2 Z Z, Z, Zt⟩ (dg_on Z Z Z Z (ow_load (R := RPacket) Z Z (ARep.mono hl34 hp2) (Tryd.sizeOf38 _) (Tryd.isAgg38 _) fun v29 hv29 => ⟨BX.refl _ _, hv29⟩))
   ·
    intro w35 D hS24 hd24
    have hl35 := Le.no M hS24
    have hC35 := hC2.no hS24
    have d56 : PV RPacket M a_p (D 3) w35 := dpA hd24 3 Z
    generalize hq9 : (D 3) = v30 at d56
    refine dg_sub (E' := [(8, v30), (7, (.bool true))]) ⟨congrArg some hq9, dpE hd24 2 Z Z, Zt⟩ (dg_on Z Z Z Z (ow_call Z Z Tryd.call41 (w_spec_PacketValid (hG.mono (lz2.trans hl35)) hC35.old d56 hx2) fun v31 w36 hv31 => ?_))
    obtain ⟨hv31, hb12⟩ := hv31
    obtain rfl := vbool_eq hv31
    exact ⟨hb12, Z⟩
   · exact fun w37 D hS25 hd25 => dg_sub (E' := [(7, (.bool true)), (9, (.bool false))]) ⟨dpE hd25 2 Z Z, dpE hd25 4 Z Z, Zt⟩ (dg_plain Z (ow_pickT Z Z Z Zb))
   · exact fun w38 D hS26 hd26 => dg_sub (E' := [(10, (.bool false))]) ⟨dpE hd26 5 Z Z, Zt⟩ (dg_plain Z (ow_move Z Z Zb))
   · exact fun w39 D hS27 hd27 => dg_sub (E' := [(11, (.bool false)), (3, (.pointer (some p2)))]) ⟨dpE hd27 6 Z Z, Z, Zt⟩ (dg_off Z Z Z Z Zb)
   · exact fun w40 D hS28 hd28 => dg_sub (E' := [(11, (.bool false)), (2, (.pointer (some p1)))]) ⟨dpE hd28 6 Z Z, Z, Zt⟩ (dg_off Z Z Z Z Zb)
   · exact fun w41 D hS29 hd29 => dg_sub (E' := [(13, undef), (11, (.bool false))]) ⟨dpE hd29 8 Z Z, dpE hd29 6 Z Z, Zt⟩ (dg_off Z Z Z Z Zb)
   · exact fun w42 D hS30 hd30 => dg_sub (E' := [(12, undef), (14, undef), (11, (.bool false))]) ⟨dpE hd30 7 Z Z, dpE hd30 9 Z Z, dpE hd30 6 Z Z, Zt⟩ (dg_off Z Z Z Z Zb)
   · exact fun w43 D hS31 hd31 => dg_sub (E' := [(11, (.bool false)), (2, (.pointer (some p1)))]) ⟨dpE hd31 6 Z Z, Z, Zt⟩ (dg_off Z Z Z Z Zb)
   · exact fun w44 D hS32 hd32 => dg_sub (E' := [(16, undef), (11, (.bool false))]) ⟨dpE hd32 11 Z Z, dpE hd32 6 Z Z, Zt⟩ (dg_off Z Z Z Z Zb)
   · exact fun w45 D hS33 hd33 => dg_sub (E' := [(11, (.bool false)), (2, (.pointer (some p1)))]) ⟨dpE hd33 6 Z Z, Z, Zt⟩ (dg_off Z Z Z Z Zb)
   · exact fun w46 D hS34 hd34 => dg_sub (E' := [(18, undef), (11, (.bool false))]) ⟨dpE hd34 13 Z Z, dpE hd34 6 Z Z, Zt⟩ (dg_off Z Z Z Z Zb)
   · exact fun w47 D hS35 hd35 => dg_sub (E' := [(15, undef), (17, undef), (19, undef), (11, (.bool false))]) ⟨dpE hd35 10 Z Z, dpE hd35 12 Z Z, dpE hd35 14 Z Z, dpE hd35 6 Z Z, Zt⟩ (dg_off Z Z Z Z Zb)
   · exact fun w48 D hS36 hd36 => dg_sub (E' := [(11, (.bool false)), (2, (.pointer (some p1)))]) ⟨dpE hd36 6 Z Z, Z, Zt⟩ (dg_off Z Z Z Z Zb)
   · exact fun w49 D hS37 hd37 => dg_sub (E' := [(21, undef), (11, (.bool false))]) ⟨dpE hd37 16 Z Z, dpE hd37 6 Z Z, Zt⟩ (dg_off Z Z Z Z Zb)
   ·
    intro w50 D hS38 hd38
    have hC50 := hC2.no hS38
    refine lw_sub (E' := [(11, (.bool false)), (20, undef), (22, undef), (2, (.pointer (some p1))), (3, (.pointer (some p2))), (4, (.bool false))]) ⟨dpE hd38 6 Z Z, dpE hd38 15 Z Z, dpE hd38 17 Z Z, Z, Z, Z, Zt⟩ (lw_off Z Z Z Z Z Z (lw_op Z Z Z (ow_pickF Z Z Z (lw_op Z Z Z (ow_assign Z Z (lw_nil (ew_then (cw_ret ?_))))))))
    obtain rfl := sj h
    exact ew_ret (res1 Z (.tmp Z)) ⟨_, Z, ((vbool _)), hC50.bx⟩
 ·
  subst hc1
  have lz3 := (hl1.trans hl2)
  refine cw_sub (E' := [(2, (.pointer (some p1))), (3, (.pointer (some p2))), (4, (.bool false))]) ⟨Z, Z, Z, Zt⟩ (cw_drawQ 18 [PV RTest M a_t, PEq (.bool false), PEq (.bool false), PEq undef, PEq undef, PEq (.bool false), PEq (.bool false), PEq undef, PEq undef, PEq undef, PEq undef, PEq undef, PEq undef, PEq undef, PEq undef, PEq undef, PEq undef, PEq undef] (by kernel_rfl) Z (by kernel_rfl) ⟨PV.mono _ _ _, Zq, Zq, Zq, Zq, Zq, Zq, Zq, Zq, Zq, Zq, Zq, Zq, Zq, Zq, Zq, Zq, Zq, Zt⟩ ⟨?_, ?_, ?_, ?_, ?_, ?_, ?_, ?_, ?_, ?_, ?_, ?_, ?_, ?_, ?_, ?_, ?_, ?_, Zt⟩ ?_)
  ·
   intro w51 D hS39 hd39
   have hl51 := Le.no M hS39
   exact dg_sub (E' := [(2, (.pointer (some p1)))]) ⟨Z, Zt⟩ (dg_plain Z (ow_load (R := RTest) Z Z (ARep.mono (hl2.trans hl51) hp1) (Tryd.sizeOf31 _) (Tryd.isAgg31 _) fun v32 hv32 => ⟨BX.refl _ _, hv32⟩))
  ·
   intro w52 D hS40 hd40
   have hl52 := Le.no M hS40
   have hC52 := hC2.no hS40
   have d103 : PV RTest M a_t (D 0) w52 := dpA hd40 0 Z
   generalize hq10 : (D 0) = v33 at d103
   refine dg_sub (E' := [(5, v33)]) ⟨congrArg some hq10, Zt⟩ (dg_plain Z (ow_call Z Z Tryd.call91 (w_spec_TestValid (hG.mono (lz3.trans hl52)) hC52.old d103 hx1) fun v34 w53 hv34 => ?_))
   obtain ⟨hv34, hb13⟩ := hv34
   obtain rfl := vbool_eq hv34
   exact ⟨hb13, Z⟩
  · exact fun w54 D hS41 hd41 => dg_sub (E' := [(6, (.bool false))]) ⟨dpE hd41 1 Z Z, Zt⟩ (dg_plain Z (ow_move Z Z Zb))
  · exact fun w55 D hS42 hd42 => dg_sub (E' := [(7, (.bool false)), (3, (.pointer (some p2)))]) ⟨dpE hd42 2 Z Z, Z, Zt⟩ (dg_off Z Z Z Z Zb)
  · exact fun w56 D hS43 hd43 => dg_sub (E' := [(8, undef), (7, (.bool false))]) ⟨dpE hd43 3 Z Z, dpE hd43 2 Z Z, Zt⟩ (dg_off Z Z Z Z Zb)
  · exact fun w57 D hS44 hd44 => dg_sub (E' := [(7, (.bool false)), (9, undef)]) ⟨dpE hd44 2 Z Z, dpE hd44 4 Z Z, Zt⟩ (dg_plain Z (ow_pickF Z Z Z Zb))
  · exact fun w58 D hS45 hd45 => dg_sub (E' := [(10, (.bool false))]) ⟨dpE hd45 5 Z Z, Zt⟩ (dg_plain Z (ow_move Z Z Zb))
  · exact fun w59 D hS46 hd46 => dg_sub (E' := [(11, (.bool false)), (3, (.pointer (some p2)))]) ⟨dpE hd46 6 Z Z, Z, Zt⟩ (dg_off Z Z Z Z Zb)
  · exact fun w60 D hS47 hd47 => dg_sub (E' := [(11, (.bool false)), (2, (.pointer (some p1)))]) ⟨dpE hd47 6 Z Z, Z, Zt⟩ (dg_off Z Z Z Z Zb)
  · exact fun w61 D hS48 hd48 => dg_sub (E' := [(13, undef), (11, (.bool false))]) ⟨dpE hd48 8 Z Z, dpE hd48 6 Z Z, Zt⟩ (dg_off Z Z Z Z Zb)
  · exact fun w62 D hS49 hd49 => dg_sub (E' := [(12, undef), (14, undef), (11, (.bool false))]) ⟨dpE hd49 7 Z Z, dpE hd49 9 Z Z, dpE hd49 6 Z Z, Zt⟩ (dg_off Z Z Z Z Zb)
  · exact fun w63 D hS50 hd50 => dg_sub (E' := [(11, (.bool false)), (2, (.pointer (some p1)))]) ⟨dpE hd50 6 Z Z, Z, Zt⟩ (dg_off Z Z Z Z Zb)
  · exact fun w64 D hS51 hd51 => dg_sub (E' := [(16, undef), (11, (.bool false))]) ⟨dpE hd51 11 Z Z, dpE hd51 6 Z Z, Zt⟩ (dg_off Z Z Z Z Zb)
  · exact fun w65 D hS52 hd52 => dg_sub (E' := [(11, (.bool false)), (2, (.pointer (some p1)))]) ⟨dpE hd52 6 Z Z, Z, Zt⟩ (dg_off Z Z Z Z Zb)
  · exact fun w66 D hS53 hd53 => dg_sub (E' := [(18, undef), (11, (.bool false))]) ⟨dpE hd53 13 Z Z, dpE hd53 6 Z Z, Zt⟩ (dg_off Z Z Z Z Zb)
  · exact fun w67 D hS54 hd54 => dg_sub (E' := [(15, undef), (17, undef), (19, undef), (11, (.bool false))]) ⟨dpE hd54 10 Z Z, dpE hd54 12 Z Z, dpE hd54 14 Z Z, dpE hd54 6 Z Z, Zt⟩ (dg_off Z Z Z Z Zb)
  · exact fun w68 D hS55 hd55 => dg_sub (E' := [(11, (.bool false)), (2, (.pointer (some p1)))]) ⟨dpE hd55 6 Z Z, Z, Zt⟩ (dg_off Z Z Z Z Zb)
  · exact fun w69 D hS56 hd56 => dg_sub (E' := [(21, undef), (11, (.bool false))]) ⟨dpE hd56 16 Z Z, dpE hd56 6 Z Z, Zt⟩ (dg_off Z Z Z Z Zb)
  ·
   intro w70 D hS57 hd57
   have hC70 := hC2.no hS57
   refine lw_sub (E' := [(11, (.bool false)), (20, undef), (22, undef), (2, (.pointer (some p1))), (3, (.pointer (some p2))), (4, (.bool false))]) ⟨dpE hd57 6 Z Z, dpE hd57 15 Z Z, dpE hd57 17 Z Z, Z, Z, Z, Zt⟩ (lw_off Z Z Z Z Z Z (lw_op Z Z Z (ow_pickF Z Z Z (lw_op Z Z Z (ow_assign Z Z (lw_nil (ew_then (cw_ret ?_))))))))
   obtain rfl := sj h
   exact ew_ret (res1 Z (.tmp Z)) ⟨_, Z, ((vbool _)), hC70.bx⟩

theorem w_spec_TestsHold {w : World} {M : Nat → Prop} (hG : ARep (RArr 4 RShape) w M shapes ⟨0, 0, none⟩) (hO : ∀ b, M b → b < w.heap.size) {v0p : Value} {a_list : List Test} (h0 : VRep (RSlice RTest) w M a_list v0p) {v1p : Value} {a_p : Packet} (h1 : VRep RPacket w M a_p v1p) {r : Bool} (h : F.spec_TestsHold a_list a_p = some r) :
  Calls Tryd.prog 93 [v0p, v1p].toArray w fun e w' => ∃ v, e = .returned v ∧ VRep RBool w' M r v ∧ BX No w w' := by
 have hC : Cx No w M w M := Cx.start hO (fun _ e => e.elim)
 refine walk (N := 25) Tryd.func93 Z Tryd.ntmps93 Z (cw_seq (cw_region (lw_op Z Z Z (ow_box (R := RPacket) Z Z h1 hC fun p1 w1 hp1 hb1 hl1 hC1 => lw_op Z Z Z (ow_assign Z Z (lw_nil (ew_then (cw_seq (cw_seq (cw_region (lw_op Z Z Z (ow_assign Z Z (lw_nil (ew_then ?_))))))))))))))
 replace h := bind_some h
 obtain ⟨lr1, hlr1, h⟩ := h
 refine cw_for hlr1 (fun s a w' => ∃ (M' : Nat → Prop), Fits 25 [(0, v0p), (3, (.pointer (some p1))), (5, (Zv s))] a ∧ Le w1 M w' M' ∧ Cx No w M w' M') ?_ ?_ ?_
 · exact fun a ha => ⟨M, ha.sub ⟨Z, Z, Z, Zt⟩, Le.refl _ _, hC1⟩
 ·
  rintro k1 a w2 sr1 ⟨M1, hF1, hl2, hC2⟩ hb2 hR1
  refine cw_at (E := [(0, v0p), (3, (.pointer (some p1))), (5, (Zv k1))]) hF1 (cw_seq (cw_seq (cw_region (lw_op Z Z Z (ow_move Z Z (lw_op Z Z Z (ow_move Z Z (lw_op Z Z Z (ow_len Z Z (VRep.mono (hl1.trans hl2) h0) Tryd.underlying27 Z (lw_op Z Z Z (ow_lss Z Z Z fun bb1 hbb1 => lw_nil (ew_then ?_))))))))))))
  replace hb2 := cond_some hb2
  rcases hb2 with ⟨hc1, hb2⟩ | ⟨hc1, hb2⟩
  ·
   obtain rfl := hbb1.trans hc1
   refine cw_true Z (cw_skip (ew_then (cw_seq (cw_block (cw_seq ?_)))))
   replace hb2 := bind_some hb2
   obtain ⟨x1, hx1, hb2⟩ := hb2
   have lz1 := (hl1.trans hl2)
   refine cw_sub (E' := [(0, v0p), (3, (.pointer (some p1))), (5, (Zv k1))]) ⟨Z, Z, Z, Zt⟩ (cw_drawQ 5 [PV (RSlice RTest) M1 a_list, PEq (Zv k1), PA RTest M1 x1, PV RTest M1 x1, PV RPacket M1 a_p] (by kernel_rfl) Z (by kernel_rfl) ⟨PV.mono _ _ _, Zq, PA.mono _ _ _, PV.mono _ _ _, PV.mono _ _ _, Zt⟩ ⟨?_, ?_, ?_, ?_, ?_, Zt⟩ ?_)
   ·
    intro w3 D hS1 hd1
    have hl3 := Le.no M1 hS1
    exact dg_sub (E' := [(0, v0p)]) ⟨Z, Zt⟩ (dg_plain Z (ow_move Z Z ⟨BX.refl _ _, (VRep.mono (lz1.trans hl3) h0)⟩))
   · exact fun w4 D hS2 hd2 => dg_sub (E' := [(5, (Zv k1))]) ⟨Z, Zt⟩ (dg_plain Z (ow_move Z Z Zb))
   ·
    intro w5 D hS3 hd3
    have d1 : PV (RSlice RTest) M1 a_list (D 0) w5 := dpA hd3 0 Z
    generalize hq1 : (D 0) = v4 at d1
    exact dg_sub (E' := [(12, v4), (13, (Zv k1))]) ⟨congrArg some hq1, dpE hd3 1 Z Z, Zt⟩ (dg_plain Z (ow_indexSlice (R := RTest) Z Z Z d1 Tryd.underlying27 (Tryd.sizeOf31 _) hx1 fun p3 hp3 => ⟨BX.refl _ _, ⟨_, Z, hp3⟩⟩))
   ·
    intro w6 D hS4 hd4
    have d3 : PA RTest M1 x1 (D 2) w6 := dpA hd4 2 Z
    obtain ⟨p4, e1, ha1⟩ := d3
    exact dg_sub (E' := [(14, (.pointer (some p4)))]) ⟨congrArg some e1, Zt⟩ (dg_plain Z (ow_load (R := RTest) Z Z ha1 (Tryd.sizeOf31 _) (Tryd.isAgg31 _) fun v5 hv5 => ⟨BX.refl _ _, hv5⟩))
   ·
    intro w7 D hS5 hd5
    have hl7 := Le.no M1 hS5
    exact dg_sub (E' := [(3, (.pointer (some p1)))]) ⟨Z, Zt⟩ (dg_plain Z (ow_load (R := RPacket) Z Z (ARep.mono (hl2.trans hl7) hp1) (Tryd.sizeOf38 _) (Tryd.isAgg38 _) fun v6 hv6 => ⟨BX.refl _ _, hv6⟩))
   ·
    intro w8 D hS6 hd6
    have d7 : PV RTest M1 x1 (D 3) w8 := dpA hd6 3 Z
    have d8 : PV RPacket M1 a_p (D 4) w8 := dpA hd6 4 Z
    have hl8 := Le.no M1 hS6
    have hC8 := hC2.no hS6
    generalize hq2 : (D 3) = v7 at d7
    generalize hq3 : (D 4) = v8 at d8
    refine lw_sub (E' := [(15, v7), (16, v8), (0, v0p), (3, (.pointer (some p1))), (5, (Zv k1))]) ⟨congrArg some hq2, congrArg some hq3, Z, Z, Z, Zt⟩ ?_
    replace hb2 := bind_some hb2
    obtain ⟨x2, hx2, hb2⟩ := hb2
    refine lw_op Z Z Z (ow_call Z Z Tryd.call110 (w_spec_TestHolds (hG.mono (lz1.trans hl8)) hC8.old d7 d8 hx2) fun v9 w9 hv9 => ?_)
    obtain ⟨hv9, hb3⟩ := hv9
    have hl9 := Le.no M1 hb3
    have hC9 := hC8.no hb3
    obtain rfl := vbool_eq hv9
    refine lw_op Z Z Z (ow_not Z Z (lw_nil (ew_then ?_)))
    replace hb2 := cond_some hb2
    rcases hb2 with ⟨hc2, hb2⟩ | ⟨hc2, hb2⟩
    ·
     subst hc2
     refine cw_false Z (cw_skip (ew_blockN (ew_then (cw_region (lw_op Z Z Z (ow_move Z Z (lw_op Z Z Z (ow_add Z Z Z (lw_op Z Z Z (ow_assign Z Z (lw_nil ?_)))))))))))
     have lz2 := ((hl2.trans hl8).trans hl9)
     exact ew_nxt (W (k1 + 1)) hb2 fun a ha => ⟨M1, (ha.sub ⟨Z, Z, Z, Zt⟩), lz2, hC9⟩
    ·
     subst hc2
     refine cw_true Z (cw_seq (cw_region (lw_op Z Z Z (ow_assign Z Z (lw_nil (ew_then (cw_ret (ew_blockR (ew_thenR (ew_thenR (ew_blockR (ew_brkR (ew_thenR ?_)))))))))))))
     have e2 := hR1 _ (sj hb2).symm
     subst e2
     obtain rfl := sj h
     exact ew_ret (res1 Z (.tmp Z)) ⟨_, Z, ((vbool _)), hC9.bx⟩
  ·
   obtain rfl := hbb1.trans hc1
   exact cw_false Z (cw_exit (ew_thenX (ew_thenX (ew_blockX (ew_brk k1 hb2 fun a ha => ⟨M1, (ha.sub ⟨Z, Z, Z, Zt⟩), hl2, hC2⟩)))))
 ·
  rintro k2 a w10 hlr2 ⟨M2, hF2, hl10, hC10⟩
  subst hlr2
  refine ew_at (E := [(0, v0p), (3, (.pointer (some p1))), (5, (Zv k2))]) hF2 (ew_then (cw_seq (cw_region (lw_op Z Z Z (ow_move Z Z ?_)))))
  replace h := bind_some h
  obtain ⟨x3, hx3, h⟩ := h
  refine lw_op Z Z Z (ow_call Z Z Tryd.call98 (w_spec_TestsValid (hG.mono (hl1.trans hl10)) hC10.old (VRep.mono (hl1.trans hl10) h0) hx3) fun v11 w11 hv11 => ?_)
  obtain ⟨hv11, hb4⟩ := hv11
  have hl11 := Le.no M2 hb4
  have hC11 := hC10.no hb4
  obtain rfl := vbool_eq hv11
  refine lw_op Z Z Z (ow_move Z Z ?_)
  replace h := cond_some h
  rcases h with ⟨hc3, h⟩ | ⟨hc3, h⟩
  ·
   subst hc3
   refine lw_on Z Z Z Z Z Z (ow_load (R := RPacket) Z Z (ARep.mono (hl10.trans hl11) hp1) (Tryd.sizeOf38 _) (Tryd.isAgg38 _) fun v12 hv12 => ?_)
   replace h := bind_some h
   obtain ⟨x4, hx4, h⟩ := h
   have lz3 := ((hl1.trans hl10).trans hl11)
   refine lw_on Z Z Z Z Z Z (ow_call Z Z Tryd.call41 (w_spec_PacketValid (hG.mono lz3) hC11.old hv12 hx4) fun v13 w12 hv13 => ?_)
   obtain ⟨hv13, hb5⟩ := hv13
   have hC12 := hC11.no hb5
   obtain rfl := vbool_eq hv13
   refine lw_op Z Z Z (ow_pickT Z Z Z (lw_op Z Z Z (ow_assign Z Z (lw_nil (ew_then (cw_ret ?_))))))
   obtain rfl := sj h
   exact ew_ret (res1 Z (.tmp Z)) ⟨_, Z, ((vbool _)), hC12.bx⟩
  ·
   subst hc3
   refine lw_off Z Z Z Z Z Z (lw_off Z Z Z Z Z Z (lw_op Z Z Z (ow_pickF Z Z Z (lw_op Z Z Z (ow_assign Z Z (lw_nil (ew_then (cw_ret ?_))))))))
   obtain rfl := sj h
   exact ew_ret (res1 Z (.tmp Z)) ⟨_, Z, ((vbool _)), hC11.bx⟩

theorem w_spec_l9Walk (n_ : Nat) : ∀ {w : World} {M : Nat → Prop} (hG : ARep (RArr 4 RShape) w M shapes ⟨0, 0, none⟩) (hO : ∀ b, M b → b < w.heap.size) {v0p : Value} {a_s : Ruleset} (h0 : VRep RRuleset w M a_s v0p) {a_chain : Int} {v2p : Value} {a_p : Packet} (h2 : VRep RPacket w M a_p v2p) {vs0 : Value} {a_0c : List Visit} (hr0p : OwnRow RVisit 0 60 w M a_0c vs0) {g : Nat} (hown : Own w g 57 #[vs0]) (hgM : M g) {r : Int × (List Visit)} (h : F.spec_l9Walk n_ a_s a_chain a_p a_0c = some r),
  Calls Tryd.prog 64 [v0p, (.int .i64 a_chain), v2p, (.pointer (some ⟨g, 0, none⟩))].toArray w fun e w' => ∃ v, e = .returned v ∧ VRep RInt w' M r.1 v ∧ ∃ (M' : Nat → Prop) (u0 : Value), Own w' g 57 #[u0] ∧ OwnRow RVisit 0 60 w' M' r.2 u0 ∧ Cx (fun b => b = g ∨ vs0.ownBlock = some b) w M w' M' ∧ (∀ b, u0.ownBlock = some b → w.heap.size ≤ b ∨ (fun b => b = g ∨ vs0.ownBlock = some b) b) := by
 induction n_ with
 | zero =>
  intro w M hG hO v0p a_s h0 a_chain v2p a_p h2 vs0 a_0c hr0p g hown hgM r h
  exact (Option.some_ne_none _ (show (none : Option (Int × (List Visit))) = some r from h).symm).elim
 | succ n_ ih =>
 intro w M hG hO v0p a_s h0 a_chain v2p a_p h2 vs0 a_0c hr0p g hown hgM r h
 obtain ⟨i60, hi60, hz60, hs60, hy60⟩ := info60
 have hX : ∀ b, (fun b => b = g ∨ vs0.ownBlock = some b) b → M b := fun b e => (e.elim (fun e => by rw [show b = g from e]; exact hgM) (fun e => (hr0p.mem b e)))
 have hC : Cx (fun b => b = g ∨ vs0.ownBlock = some b) w M w M := Cx.start hO hX
 have hge0p : ∀ b, vs0.ownBlock = some b → w.heap.size ≤ b ∨ (fun b => b = g ∨ vs0.ownBlock = some b) b := fun b e => .inr (.inr e)
 refine walk (N := 70) Tryd.func64 Z Tryd.ntmps64 Z (cw_seq (cw_region (lw_op Z Z Z (ow_box (R := RRuleset) Z Z h0 hC fun p1 w1 hp1 hb1 hl1 hC1 => ?_))))
 have ho1 := hown.no hb1
 have hr1 := hr0p.no hb1
 refine lw_op Z Z Z (ow_box (R := RPacket) Z Z (VRep.mono hl1 h2) hC1 fun p2 w2 hp2 hb2 hl2 hC2 => ?_)
 have ho2 := ho1.no hb2
 have hr2 := hr1.no hb2
 refine lw_op Z Z Z (ow_assign Z Z (lw_nil (ew_then (cw_seq (cw_seq (cw_region (lw_op Z Z Z (ow_assign Z Z (lw_nil (ew_then ?_))))))))))
 replace h := bind_some h
 obtain ⟨lr1, hlr1, h⟩ := h
 refine cw_for hlr1 (fun s a w' => ∃ (M' : Nat → Prop) (v1c : Value), Fits 70 [(1, (Zv a_chain)), (3, (Zw g 0)), (4, (.pointer (some p1))), (6, (.pointer (some p2))), (9, (Zv s.1))] a ∧ Le w2 M w' M' ∧ Cx (fun b => b = g ∨ vs0.ownBlock = some b) w M w' M' ∧ OwnRow RVisit 0 60 w' M' s.2 v1c ∧ Own w' g 57 #[v1c] ∧ M' g ∧ (∀ b, (Value.ownBlock v1c) = some b → w.heap.size ≤ b ∨ (fun b => b = g ∨ vs0.ownBlock = some b) b)) ?_ ?_ ?_
 · exact fun a ha => ⟨M, vs0, ha.sub ⟨Z, Z, Z, Z, Z, Zt⟩, Le.refl _ _, hC2, hr2, ho2, hgM, hge0p⟩
 ·
  rintro ⟨k1, y1⟩ a w3 sr1 ⟨M1, v2, hF1, hl3, hC3, hw1, ho3, hm1, hge1⟩ hb3 hR1
  refine cw_at (E := [(1, (Zv a_chain)), (3, (Zw g 0)), (4, (.pointer (some p1))), (6, (.pointer (some p2))), (9, (Zv k1))]) hF1 (cw_seq (cw_seq (cw_region (lw_op Z Z Z (ow_move Z Z (lw_op Z Z Z (ow_fieldAddr Z Z Tryd.underlying45 Z (Tryd.sizeOf43 _) (lw_op Z Z Z (ow_load (R := (RSlice (RSlice RRule))) Z Z (ARep.mono (hl2.trans hl3) (hp1.fld fld_Ruleset_Chains)) (Tryd.sizeOf43 _) (Tryd.isAgg43 _) fun v3 hv3 => lw_op Z Z Z (ow_move Z Z ?_))))))))))
  replace hb3 := bind_some hb3
  obtain ⟨x1, hx1, hb3⟩ := hb3
  refine lw_op Z Z Z (ow_indexSlice (R := (RSlice RRule)) Z Z Z hv3 Tryd.underlying43 (Tryd.sizeOf36 _) hx1 fun p3 hp3 => lw_op Z Z Z (ow_load (R := (RSlice RRule)) Z Z hp3 (Tryd.sizeOf36 _) (Tryd.isAgg36 _) fun v4 hv4 => lw_op Z Z Z (ow_len Z Z hv4 Tryd.underlying36 Z (lw_op Z Z Z (ow_lss Z Z Z fun bb1 hbb1 => lw_nil (ew_then ?_))))))
  replace hb3 := cond_some hb3
  rcases hb3 with ⟨hc1, hb3⟩ | ⟨hc1, hb3⟩
  ·
   obtain rfl := hbb1.trans hc1
   refine cw_true Z (cw_skip (ew_then (cw_seq (cw_block (cw_seq (cw_region (lw_op Z Z Z (ow_fieldAddr Z Z Tryd.underlying45 Z (Tryd.sizeOf43 _) (lw_op Z Z Z (ow_load (R := (RSlice (RSlice RRule))) Z Z (ARep.mono (hl2.trans hl3) (hp1.fld fld_Ruleset_Chains)) (Tryd.sizeOf43 _) (Tryd.isAgg43 _) fun v5 hv5 => lw_op Z Z Z (ow_move Z Z (lw_op Z Z Z (ow_indexSlice (R := (RSlice RRule)) Z Z Z hv5 Tryd.underlying43 (Tryd.sizeOf36 _) hx1 fun p4 hp4 => lw_op Z Z Z (ow_load (R := (RSlice RRule)) Z Z hp4 (Tryd.sizeOf36 _) (Tryd.isAgg36 _) fun v6 hv6 => lw_op Z Z Z (ow_move Z Z ?_)))))))))))))))
   replace hb3 := bind_some hb3
   obtain ⟨x2, hx2, hb3⟩ := hb3
   refine lw_op Z Z Z (ow_indexSlice (R := RRule) Z Z Z hv6 Tryd.underlying36 (Tryd.sizeOf42 _) hx2 fun p5 hp5 => lw_op Z Z Z (ow_load (R := RRule) Z Z hp5 (Tryd.sizeOf42 _) (Tryd.isAgg42 _) fun v7 hv7 => lw_allocStore (R := RRule) Z Z Z Z Z Z Z Tryd.zeroValue42 Tryd.sizeOf42 Z Z Z (by simp) hv7 hC3 fun p6 w4 hp6 hb4 hl4 hC4 => ?_))
   have ho4 := ho3.no hb4
   have hr3 := hw1.no hb4
   refine lw_nil (ew_then (cw_seq (cw_seq (cw_region (lw_op Z Z Z (ow_fieldAddr Z Z Tryd.underlying42 Z (Tryd.sizeOf27 _) (lw_op Z Z Z (ow_load (R := (RSlice RTest)) Z Z (hp6.fld fld_Rule_Tests) (Tryd.sizeOf27 _) (Tryd.isAgg27 _) fun v8 hv8 => lw_op Z Z Z (ow_load (R := RPacket) Z Z (ARep.mono (hl3.trans hl4) hp2) (Tryd.sizeOf38 _) (Tryd.isAgg38 _) fun v9 hv9 => ?_)))))))))
   replace hb3 := bind_some hb3
   obtain ⟨x3, hx3, hb3⟩ := hb3
   have lz1 := (((hl1.trans hl2).trans hl3).trans hl4)
   refine lw_op Z Z Z (ow_call Z Z Tryd.call93 (w_spec_TestsHold (hG.mono lz1) hC4.old hv8 hv9 hx3) fun v10 w5 hv10 => ?_)
   obtain ⟨hv10, hb5⟩ := hv10
   have hl5 := Le.no M1 hb5
   have hC5 := hC4.no hb5
   have ho5 := ho4.no hb5
   have hr4 := hr3.no hb5
   obtain rfl := vbool_eq hv10
   refine lw_op Z Z Z (ow_not Z Z (lw_nil (ew_then ?_)))
   replace hb3 := cond_some hb3
   rcases hb3 with ⟨hc2, hb3⟩ | ⟨hc2, hb3⟩
   ·
    subst hc2
    refine cw_false Z (cw_skip (ew_then (cw_seq (cw_seq (cw_region (lw_op Z Z Z (ow_move Z Z (lw_op Z Z Z (ow_nilCheck Z Z (lw_op Z Z Z (ow_loadOwn1 Z Z Z ho5 (Tryd.isAgg57 _) Z (lw_op Z Z Z (ow_lenOwn Z Z hr4 Tryd.underlying57 (lw_op Z Z Z (ow_lss Z Z Z fun bb2 hbb2 => lw_nil (ew_then ?_))))))))))))))))
    replace hb3 := cond_some hb3
    rcases hb3 with ⟨hc3, hb3⟩ | ⟨hc3, hb3⟩
    ·
     obtain rfl := hbb2.trans hc3
     refine cw_true Z (cw_region (lw_op Z Z Z (ow_move Z Z (lw_op Z Z Z (ow_move Z Z (lw_op Z Z Z (ow_nilCheck Z Z (lw_op Z Z Z (ow_loadOwn1 Z Z Z ho5 (Tryd.isAgg57 _) Z (lw_op Z Z Z (ow_move Z Z (lw_op Z Z Z (ow_move Z Z (lw_op Z Z Z (ow_build (v := .agg #[(Zv a_chain), (Zv k1)]) Z Z (by kernel_rfl) ?_)))))))))))))))
     have hw2 : VRep RVisit w5 M1 ({ Chain := a_chain, Place := k1 } : Visit) (.agg #[(Zv a_chain), (Zv k1)]) := shut_Visit
     refine lw_op Z Z Z (ow_buildSlice (R := RVisit) (xs := [({ Chain := a_chain, Place := k1 } : Visit)]) (cs := #[(Zv a_chain), (Zv k1)]) (e := 60) Z Z (by kernel_rfl) Z Z ⟨_, _, Z, hw2.cells, Z⟩ hC5 fun p7 w6 hw3 hb6 hl6 hC6 => ?_)
     have ho6 := ho5.no hb6
     have hr5 := hr4.no hb6
     replace hb3 := bind_some hb3
     obtain ⟨z1, hz1, hb3⟩ := hb3
     refine lw_op Z Z Z (ow_appendX (R := RVisit) (B := 0) Z Z Z Z Tryd.underlying57 hi60 hz60 hs60 hy60 Z Z Z Z hr5 hw3 hz1 hC6 (Nat.zero_le _) hge1 fun v11 w7 M2 hr6 hb7 hl7 hC7 hM1 hat1 => ?_)
     have ho7 := ho6.go hb7 (fun e => (orow_ne hr5 ho6 (by decide)) e)
     have hm2 := hM1 _ hm1
     have hge2 := ge_app hge1 hat1 hC6
     refine lw_op Z Z Z (ow_nilCheck Z Z ?_)
     obtain ⟨A1, c1, rfl⟩ := hr6.len
     refine lw_op0 Z Z (ow_store (X := (fun b => b = g ∨ vs0.ownBlock = some b)) (us := [(.slice A1 z1.length c1)]) (cs' := #[(.slice A1 z1.length c1)]) Z Z Z Z ho7 (Tryd.sizeOf57 _) Z Z Z Z hm2 (.inr (.inl Z)) Z hC7 fun w8 ho8 hb8 hl8 hC8 => ?_)
     have hr7 := hr6.go hb8 (fun k hk e => (orow_ne hr6 ho7 (by decide)) (hk.trans (congrArg some e))) hl8 (fun _ h => h)
     refine lw_nil (ew_then (cw_seq (cw_region (lw_op Z Z Z (ow_fieldAddr Z Z Tryd.underlying42 Z (Tryd.sizeOf3 _) ?_)))))
     have lz2 := (((hl5.trans hl6).trans hl7).trans hl8)
     refine lw_op Z Z Z (ow_load (R := RInt) Z Z (ARep.mono lz2 (hp6.fld fld_Rule_Action)) (Tryd.sizeOf3 _) (Tryd.isAgg3 _) fun v12 hv12 => ?_)
     obtain rfl := vint_eq hv12
     refine lw_nil (ew_then (cw_block (cw_seq (cw_seq (cw_region (lw_op Z Z Z (ow_eqlI Z Z Z fun bb3 hbb3 => lw_op Z Z Z (ow_assign Z Z (lw_nil (ew_then ?_))))))))))
     replace hb3 := cond_some hb3
     rcases hb3 with ⟨hc4, hb3⟩ | ⟨hc4, hb3⟩
     ·
      obtain rfl := hbb3.trans hc4
      refine cw_true Z (cw_skip (ew_then (cw_true Z (cw_seq (cw_region (lw_op Z Z Z (ow_fieldAddr Z Z Tryd.underlying42 Z (Tryd.sizeOf3 _) (lw_op Z Z Z (ow_load (R := RInt) Z Z (ARep.mono lz2 (hp6.fld fld_Rule_Action)) (Tryd.sizeOf3 _) (Tryd.isAgg3 _) fun v13 hv13 => ?_)))))))))
      obtain rfl := vint_eq hv13
      refine lw_op Z Z Z (ow_assign Z Z (lw_nil (ew_then (cw_ret (ew_blockR (ew_blockR (ew_thenR (ew_thenR (ew_blockR (ew_brkR (ew_thenR ?_)))))))))))
      have e1 := hR1 _ (sj hb3).symm
      subst e1
      obtain rfl := sj h
      exact ew_ret (res1 Z (.tmp Z)) ⟨_, Z, ((vint _)), M2, (.slice A1 z1.length c1), ho8, hr7, hC8, hge2⟩
     ·
      obtain rfl := hbb3.trans hc4
      refine cw_false Z (cw_region (lw_op Z Z Z (ow_eqlI Z Z Z fun bb4 hbb4 => lw_op Z Z Z (ow_assign Z Z (lw_nil (ew_then ?_))))))
      replace hb3 := cond_some hb3
      rcases hb3 with ⟨hc5, hb3⟩ | ⟨hc5, hb3⟩
      ·
       obtain rfl := hbb4.trans hc5
       refine cw_true Z (cw_seq (cw_region (lw_op Z Z Z (ow_fieldAddr Z Z Tryd.underlying42 Z (Tryd.sizeOf3 _) (lw_op Z Z Z (ow_load (R := RInt) Z Z (ARep.mono lz2 (hp6.fld fld_Rule_Action)) (Tryd.sizeOf3 _) (Tryd.isAgg3 _) fun v14 hv14 => ?_))))))
       obtain rfl := vint_eq hv14
       refine lw_op Z Z Z (ow_assign Z Z (lw_nil (ew_then (cw_ret (ew_blockR (ew_blockR (ew_thenR (ew_thenR (ew_blockR (ew_brkR (ew_thenR ?_)))))))))))
       have e2 := hR1 _ (sj hb3).symm
       subst e2
       obtain rfl := sj h
       exact ew_ret (res1 Z (.tmp Z)) ⟨_, Z, ((vint _)), M2, (.slice A1 z1.length c1), ho8, hr7, hC8, hge2⟩
      ·
       obtain rfl := hbb4.trans hc5
       refine cw_false Z (cw_seq (cw_region (lw_op Z Z Z (ow_eqlI Z Z Z fun bb5 hbb5 => lw_op Z Z Z (ow_assign Z Z (lw_nil (ew_then ?_)))))))
       replace hb3 := cond_some hb3
       rcases hb3 with ⟨hc6, hb3⟩ | ⟨hc6, hb3⟩
       ·
        obtain rfl := hbb5.trans hc6
        refine cw_true Z (cw_seq (cw_region (lw_op Z Z Z (ow_assign Z Z (lw_nil (ew_then (cw_ret (ew_blockR (ew_blockR (ew_thenR (ew_thenR (ew_blockR (ew_brkR (ew_thenR ?_))))))))))))))
        have e3 := hR1 _ (sj hb3).symm
        subst e3
        obtain rfl := sj h
        exact ew_ret (res1 Z (.tmp Z)) ⟨_, Z, ((vint _)), M2, (.slice A1 z1.length c1), ho8, hr7, hC8, hge2⟩
       ·
        obtain rfl := hbb5.trans hc6
        refine cw_false Z (cw_seq (cw_region (lw_op Z Z Z (ow_eqlI Z Z Z fun bb6 hbb6 => lw_op Z Z Z (ow_assign Z Z (lw_nil (ew_then ?_)))))))
        replace hb3 := cond_some hb3
        rcases hb3 with ⟨hc7, hb3⟩ | ⟨hc7, hb3⟩
        ·
         obtain rfl := hbb6.trans hc7
         refine cw_true Z (cw_seq (cw_region ?_))
         have lz3 := ((((((hl2.trans hl3).trans hl4).trans hl5).trans hl6).trans hl7).trans hl8)
         refine lw_op Z Z Z (ow_load (R := RRuleset) Z Z (ARep.mono lz3 hp1) (Tryd.sizeOf45 _) (Tryd.isAgg45 _) fun v15 hv15 => lw_op Z Z Z (ow_fieldAddr Z Z Tryd.underlying42 Z (Tryd.sizeOf3 _) (lw_op Z Z Z (ow_load (R := RInt) Z Z (ARep.mono lz2 (hp6.fld fld_Rule_Chain)) (Tryd.sizeOf3 _) (Tryd.isAgg3 _) fun v16 hv16 => ?_))))
         obtain rfl := vint_eq hv16
         have lz4 := (((((hl3.trans hl4).trans hl5).trans hl6).trans hl7).trans hl8)
         refine lw_op Z Z Z (ow_load (R := RPacket) Z Z (ARep.mono lz4 hp2) (Tryd.sizeOf38 _) (Tryd.isAgg38 _) fun v17 hv17 => lw_op Z Z Z (ow_move Z Z ?_))
         replace hb3 := bind_some hb3
         obtain ⟨x4, hx4, hb3⟩ := hb3
         have lz5 := ((((lz1.trans hl5).trans hl6).trans hl7).trans hl8)
         refine lw_op Z Z Z (ow_call Z Z Tryd.call64 (ih (hG.mono lz5) hC8.old hv15 hv17 (hr7.base (Nat.zero_le _)) ho8 hm2 hx4) fun v18 w9 hv18 => ?_)
         obtain ⟨hw4, M3, v19, ho9, hr8, hk1, hge3⟩ := hv18
         have hY1 : ∀ b, (fun b => b = g ∨ (Value.ownBlock (.slice A1 z1.length c1)) = some b) b → w.heap.size ≤ b ∨ (fun b => b = g ∨ vs0.ownBlock = some b) b := fun b e => (e.elim (fun e => by rw [show b = g from e]; exact (.inr (.inl Z))) (fun e => (hge2 b e)))
         have hl9 := hk1.leY (fun b e => (e.elim (fun e => by rw [show b = g from e]; exact hm2) (fun e => (hr7.mem b e))))
         have hC9 := hC8.trans2 hk1 hY1
         have hge4 : ∀ b, (Value.ownBlock v19) = some b → w.heap.size ≤ b ∨ (fun b => b = g ∨ vs0.ownBlock = some b) b := fun b e => (hge3 b e).elim (fun h => .inl (Nat.le_trans hC8.bx.size h)) (hY1 b)
         have hm3 := hk1.sup _ hm2
         obtain rfl := vint_eq hw4
         refine lw_op Z Z Z (ow_assign Z Z (lw_nil (ew_then (cw_seq (cw_region (lw_op Z Z Z (ow_move Z Z (lw_op Z Z Z (ow_neqI Z Z Z fun bb7 hbb7 => lw_nil (ew_then ?_))))))))))
         replace hb3 := cond_some hb3
         rcases hb3 with ⟨hc8, hb3⟩ | ⟨hc8, hb3⟩
         ·
          obtain rfl := hbb7.trans hc8
          refine cw_true Z (cw_seq (cw_region (lw_op Z Z Z (ow_move Z Z (lw_op Z Z Z (ow_assign Z Z (lw_nil (ew_then (cw_ret (ew_blockR (ew_blockR (ew_thenR (ew_thenR (ew_blockR (ew_brkR (ew_thenR ?_))))))))))))))))
          have e4 := hR1 _ (sj hb3).symm
          subst e4
          obtain rfl := sj h
          exact ew_ret (res1 Z (.tmp Z)) ⟨_, Z, ((vint _)), M3, v19, ho9, hr8, hC9, hge4⟩
         ·
          obtain rfl := hbb7.trans hc8
          exact cw_false Z (cw_skip (ew_blockN (ew_blockN (ew_then (cw_region (lw_op Z Z Z (ow_move Z Z (lw_op Z Z Z (ow_add Z Z Z (lw_op Z Z Z (ow_assign Z Z (lw_nil (ew_nxt ((W (k1 + 1)), x4.2) hb3 fun a ha => ⟨M3, v19, (ha.sub ⟨Z, Z, Z, Z, Z, Zt⟩), (lz4.trans hl9), hC9, hr8, ho9, hm3, hge4⟩)))))))))))))
        ·
         obtain rfl := hbb6.trans hc7
         refine cw_false Z (cw_skip (ew_blockN (ew_blockN (ew_then (cw_region (lw_op Z Z Z (ow_move Z Z (lw_op Z Z Z (ow_add Z Z Z (lw_op Z Z Z (ow_assign Z Z (lw_nil ?_))))))))))))
         have lz6 := (((((hl3.trans hl4).trans hl5).trans hl6).trans hl7).trans hl8)
         exact ew_nxt ((W (k1 + 1)), z1) hb3 fun a ha => ⟨M2, (.slice A1 z1.length c1), (ha.sub ⟨Z, Z, Z, Z, Z, Zt⟩), lz6, hC8, hr7, ho8, hm2, hge2⟩
    ·
     obtain rfl := hbb2.trans hc3
     refine cw_false Z (cw_skip (ew_then (cw_seq (cw_region (lw_op Z Z Z (ow_fieldAddr Z Z Tryd.underlying42 Z (Tryd.sizeOf3 _) (lw_op Z Z Z (ow_load (R := RInt) Z Z (ARep.mono hl5 (hp6.fld fld_Rule_Action)) (Tryd.sizeOf3 _) (Tryd.isAgg3 _) fun v20 hv20 => ?_))))))))
     obtain rfl := vint_eq hv20
     refine lw_nil (ew_then (cw_block (cw_seq (cw_seq (cw_region (lw_op Z Z Z (ow_eqlI Z Z Z fun bb8 hbb8 => lw_op Z Z Z (ow_assign Z Z (lw_nil (ew_then ?_))))))))))
     replace hb3 := cond_some hb3
     rcases hb3 with ⟨hc9, hb3⟩ | ⟨hc9, hb3⟩
     ·
      obtain rfl := hbb8.trans hc9
      refine cw_true Z (cw_skip (ew_then (cw_true Z (cw_seq (cw_region (lw_op Z Z Z (ow_fieldAddr Z Z Tryd.underlying42 Z (Tryd.sizeOf3 _) (lw_op Z Z Z (ow_load (R := RInt) Z Z (ARep.mono hl5 (hp6.fld fld_Rule_Action)) (Tryd.sizeOf3 _) (Tryd.isAgg3 _) fun v21 hv21 => ?_)))))))))
      obtain rfl := vint_eq hv21
      refine lw_op Z Z Z (ow_assign Z Z (lw_nil (ew_then (cw_ret (ew_blockR (ew_blockR (ew_thenR (ew_thenR (ew_blockR (ew_brkR (ew_thenR ?_)))))))))))
      have e5 := hR1 _ (sj hb3).symm
      subst e5
      obtain rfl := sj h
      exact ew_ret (res1 Z (.tmp Z)) ⟨_, Z, ((vint _)), M1, v2, ho5, hr4, hC5, hge1⟩
     ·
      obtain rfl := hbb8.trans hc9
      refine cw_false Z (cw_region (lw_op Z Z Z (ow_eqlI Z Z Z fun bb9 hbb9 => lw_op Z Z Z (ow_assign Z Z (lw_nil (ew_then ?_))))))
      replace hb3 := cond_some hb3
      rcases hb3 with ⟨hc10, hb3⟩ | ⟨hc10, hb3⟩
      ·
       obtain rfl := hbb9.trans hc10
       refine cw_true Z (cw_seq (cw_region (lw_op Z Z Z (ow_fieldAddr Z Z Tryd.underlying42 Z (Tryd.sizeOf3 _) (lw_op Z Z Z (ow_load (R := RInt) Z Z (ARep.mono hl5 (hp6.fld fld_Rule_Action)) (Tryd.sizeOf3 _) (Tryd.isAgg3 _) fun v22 hv22 => ?_))))))
       obtain rfl := vint_eq hv22
       refine lw_op Z Z Z (ow_assign Z Z (lw_nil (ew_then (cw_ret (ew_blockR (ew_blockR (ew_thenR (ew_thenR (ew_blockR (ew_brkR (ew_thenR ?_)))))))))))
       have e6 := hR1 _ (sj hb3).symm
       subst e6
       obtain rfl := sj h
       exact ew_ret (res1 Z (.tmp Z)) ⟨_, Z, ((vint _)), M1, v2, ho5, hr4, hC5, hge1⟩
      ·
       obtain rfl := hbb9.trans hc10
       refine cw_false Z (cw_seq (cw_region (lw_op Z Z Z (ow_eqlI Z Z Z fun bb10 hbb10 => lw_op Z Z Z (ow_assign Z Z (lw_nil (ew_then ?_)))))))
       replace hb3 := cond_some hb3
       rcases hb3 with ⟨hc11, hb3⟩ | ⟨hc11, hb3⟩
       ·
        obtain rfl := hbb10.trans hc11
        refine cw_true Z (cw_seq (cw_region (lw_op Z Z Z (ow_assign Z Z (lw_nil (ew_then (cw_ret (ew_blockR (ew_blockR (ew_thenR (ew_thenR (ew_blockR (ew_brkR (ew_thenR ?_))))))))))))))
        have e7 := hR1 _ (sj hb3).symm
        subst e7
        obtain rfl := sj h
        exact ew_ret (res1 Z (.tmp Z)) ⟨_, Z, ((vint _)), M1, v2, ho5, hr4, hC5, hge1⟩
       ·
        obtain rfl := hbb10.trans hc11
        refine cw_false Z (cw_seq (cw_region (lw_op Z Z Z (ow_eqlI Z Z Z fun bb11 hbb11 => lw_op Z Z Z (ow_assign Z Z (lw_nil (ew_then ?_)))))))
        replace hb3 := cond_some hb3
        rcases hb3 with ⟨hc12, hb3⟩ | ⟨hc12, hb3⟩
        ·
         obtain rfl := hbb11.trans hc12
         refine cw_true Z (cw_seq (cw_region ?_))
         have lz7 := (((hl2.trans hl3).trans hl4).trans hl5)
         refine lw_op Z Z Z (ow_load (R := RRuleset) Z Z (ARep.mono lz7 hp1) (Tryd.sizeOf45 _) (Tryd.isAgg45 _) fun v23 hv23 => lw_op Z Z Z (ow_fieldAddr Z Z Tryd.underlying42 Z (Tryd.sizeOf3 _) (lw_op Z Z Z (ow_load (R := RInt) Z Z (ARep.mono hl5 (hp6.fld fld_Rule_Chain)) (Tryd.sizeOf3 _) (Tryd.isAgg3 _) fun v24 hv24 => ?_))))
         obtain rfl := vint_eq hv24
         have lz8 := ((hl3.trans hl4).trans hl5)
         refine lw_op Z Z Z (ow_load (R := RPacket) Z Z (ARep.mono lz8 hp2) (Tryd.sizeOf38 _) (Tryd.isAgg38 _) fun v25 hv25 => lw_op Z Z Z (ow_move Z Z ?_))
         replace hb3 := bind_some hb3
         obtain ⟨x5, hx5, hb3⟩ := hb3
         refine lw_op Z Z Z (ow_call Z Z Tryd.call64 (ih (hG.mono (lz1.trans hl5)) hC5.old hv23 hv25 (hr4.base (Nat.zero_le _)) ho5 hm1 hx5) fun v26 w10 hv26 => ?_)
         obtain ⟨hw5, M4, v27, ho10, hr9, hk2, hge5⟩ := hv26
         have hY2 : ∀ b, (fun b => b = g ∨ (Value.ownBlock v2) = some b) b → w.heap.size ≤ b ∨ (fun b => b = g ∨ vs0.ownBlock = some b) b := fun b e => (e.elim (fun e => by rw [show b = g from e]; exact (.inr (.inl Z))) (fun e => (hge1 b e)))
         have hl10 := hk2.leY (fun b e => (e.elim (fun e => by rw [show b = g from e]; exact hm1) (fun e => (hr4.mem b e))))
         have hC10 := hC5.trans2 hk2 hY2
         have hge6 : ∀ b, (Value.ownBlock v27) = some b → w.heap.size ≤ b ∨ (fun b => b = g ∨ vs0.ownBlock = some b) b := fun b e => (hge5 b e).elim (fun h => .inl (Nat.le_trans hC5.bx.size h)) (hY2 b)
         have hm4 := hk2.sup _ hm1
         obtain rfl := vint_eq hw5
         refine lw_op Z Z Z (ow_assign Z Z (lw_nil (ew_then (cw_seq (cw_region (lw_op Z Z Z (ow_move Z Z (lw_op Z Z Z (ow_neqI Z Z Z fun bb12 hbb12 => lw_nil (ew_then ?_))))))))))
         replace hb3 := cond_some hb3
         rcases hb3 with ⟨hc13, hb3⟩ | ⟨hc13, hb3⟩
         ·
          obtain rfl := hbb12.trans hc13
          refine cw_true Z (cw_seq (cw_region (lw_op Z Z Z (ow_move Z Z (lw_op Z Z Z (ow_assign Z Z (lw_nil (ew_then (cw_ret (ew_blockR (ew_blockR (ew_thenR (ew_thenR (ew_blockR (ew_brkR (ew_thenR ?_))))))))))))))))
          have e8 := hR1 _ (sj hb3).symm
          subst e8
          obtain rfl := sj h
          exact ew_ret (res1 Z (.tmp Z)) ⟨_, Z, ((vint _)), M4, v27, ho10, hr9, hC10, hge6⟩
         ·
          obtain rfl := hbb12.trans hc13
          exact cw_false Z (cw_skip (ew_blockN (ew_blockN (ew_then (cw_region (lw_op Z Z Z (ow_move Z Z (lw_op Z Z Z (ow_add Z Z Z (lw_op Z Z Z (ow_assign Z Z (lw_nil (ew_nxt ((W (k1 + 1)), x5.2) hb3 fun a ha => ⟨M4, v27, (ha.sub ⟨Z, Z, Z, Z, Z, Zt⟩), (lz8.trans hl10), hC10, hr9, ho10, hm4, hge6⟩)))))))))))))
        ·
         obtain rfl := hbb11.trans hc12
         refine cw_false Z (cw_skip (ew_blockN (ew_blockN (ew_then (cw_region (lw_op Z Z Z (ow_move Z Z (lw_op Z Z Z (ow_add Z Z Z (lw_op Z Z Z (ow_assign Z Z (lw_nil ?_))))))))))))
         have lz9 := ((hl3.trans hl4).trans hl5)
         exact ew_nxt ((W (k1 + 1)), y1) hb3 fun a ha => ⟨M1, v2, (ha.sub ⟨Z, Z, Z, Z, Z, Zt⟩), lz9, hC5, hr4, ho5, hm1, hge1⟩
   ·
    subst hc2
    refine cw_true Z (cw_exit (ew_thenX (ew_blockX (ew_then (cw_region (lw_op Z Z Z (ow_move Z Z (lw_op Z Z Z (ow_add Z Z Z (lw_op Z Z Z (ow_assign Z Z (lw_nil ?_))))))))))))
    have lz10 := ((hl3.trans hl4).trans hl5)
    exact ew_nxt ((W (k1 + 1)), y1) hb3 fun a ha => ⟨M1, v2, (ha.sub ⟨Z, Z, Z, Z, Z, Zt⟩), lz10, hC5, hr4, ho5, hm1, hge1⟩
  ·
   obtain rfl := hbb1.trans hc1
   exact cw_false Z (cw_exit (ew_thenX (ew_thenX (ew_blockX (ew_brk (k1, y1) hb3 fun a ha => ⟨M1, v2, (ha.sub ⟨Z, Z, Z, Z, Z, Zt⟩), hl3, hC3, hw1, ho3, hm1, hge1⟩)))))
 ·
  rintro ⟨k2, y2⟩ a w11 hlr2 ⟨M5, v29, hF2, hl11, hC11, hw6, ho11, hm5, hge7⟩
  subst hlr2
  refine ew_at (E := [(1, (Zv a_chain)), (3, (Zw g 0)), (4, (.pointer (some p1))), (6, (.pointer (some p2))), (9, (Zv k2))]) hF2 (ew_then (cw_seq (cw_region (lw_op Z Z Z (ow_assign Z Z (lw_nil (ew_then (cw_ret ?_))))))))
  obtain rfl := sj h
  exact ew_ret (res1 Z (.tmp Z)) ⟨_, Z, ((vint _)), M5, v29, ho11, hw6, hC11, hge7⟩

theorem w_spec_Judge {w : World} {M : Nat → Prop} (hG : ARep (RArr 4 RShape) w M shapes ⟨0, 0, none⟩) (hO : ∀ b, M b → b < w.heap.size) {v0p : Value} {a_s : Ruleset} (h0 : VRep RRuleset w M a_s v0p) {v1p : Value} {a_p : Packet} (h1 : VRep RPacket w M a_p v1p) {r : Bool} (h : F.spec_Judge a_s a_p = some r) :
  Calls Tryd.prog 23 [v0p, v1p].toArray w fun e w' => ∃ v, e = .returned v ∧ VRep RBool w' M r v ∧ BX No w w' := by
 have hC : Cx No w M w M := Cx.start hO (fun _ e => e.elim)
 refine walk (N := 29) Tryd.func23 Z Tryd.ntmps23 Z (cw_seq (cw_region (lw_op Z Z Z (ow_box (R := RRuleset) Z Z h0 hC fun p1 w1 hp1 hb1 hl1 hC1 => lw_op Z Z Z (ow_box (R := RPacket) Z Z (VRep.mono hl1 h1) hC1 fun p2 w2 hp2 hb2 hl2 hC2 => lw_op Z Z Z (ow_assign Z Z (lw_nil (ew_then (cw_seq (cw_seq (cw_region (lw_op Z Z Z (ow_load (R := RRuleset) Z Z (ARep.mono hl2 hp1) (Tryd.sizeOf45 _) (Tryd.isAgg45 _) fun v1 hv1 => ?_)))))))))))))
 replace h := bind_some h
 obtain ⟨x1, hx1, h⟩ := h
 refine lw_op Z Z Z (ow_call Z Z Tryd.call26 (w_spec_RulesetValid (hG.mono (hl1.trans hl2)) hC2.old hv1 hx1) fun v2 w3 hv2 => ?_)
 obtain ⟨hv2, hb3⟩ := hv2
 have hl3 := Le.no M hb3
 have hC3 := hC2.no hb3
 obtain rfl := vbool_eq hv2
 refine lw_op Z Z Z (ow_not Z Z (lw_op Z Z Z (ow_move Z Z ?_)))
 replace h := cond_some h
 rcases h with ⟨hc1, h⟩ | ⟨hc1, h⟩
 ·
  subst hc1
  refine lw_on Z Z Z Z Z Z (ow_load (R := RPacket) Z Z (ARep.mono hl3 hp2) (Tryd.sizeOf38 _) (Tryd.isAgg38 _) fun v3 hv3 => ?_)
  replace h := bind_some h
  obtain ⟨x2, hx2, h⟩ := h
  have lz1 := ((hl1.trans hl2).trans hl3)
  refine lw_on Z Z Z Z Z Z (ow_call Z Z Tryd.call41 (w_spec_PacketValid (hG.mono lz1) hC3.old hv3 hx2) fun v4 w4 hv4 => ?_)
  obtain ⟨hv4, hb4⟩ := hv4
  have hl4 := Le.no M hb4
  have hC4 := hC3.no hb4
  obtain rfl := vbool_eq hv4
  refine lw_on Z Z Z Z Z Z (ow_not Z Z (lw_op Z Z Z (ow_pickF Z Z Z (lw_nil (ew_then ?_)))))
  replace h := cond_some h
  rcases h with ⟨hc2, h⟩ | ⟨hc2, h⟩
  ·
   subst hc2
   refine cw_false Z (cw_skip (ew_then (cw_seq (cw_region (lw_op Z Z Z (ow_buildSlice0 (R := RVisit) (e := 60) Z (by kernel_rfl) hC4 fun p3 w5 M1 hr1 hb5 hl5 hC5 hM1 hat1 => lw_op Z Z Z (ow_alloc Z (Tryd.zeroValue57 _) hC5 fun g1 w6 hg1 hg2 ho1 hb6 hl6 hC6 => ?_)))))))
   have hr2 := hr1.add hb6 hg1
   have hm1 : (Add g1 M1) g1 := .inl Z
   refine lw_op0 Z Z (ow_store (X := No) (us := [(.slice (some p3) 0 0)]) (cs' := #[(.slice (some p3) 0 0)]) Z Z Z Z ho1 (Tryd.sizeOf57 _) Z Z Z Z hm1 (.inl hg2) Z hC6 fun w7 ho2 hb7 hl7 hC7 => ?_)
   have hr3 := hr2.go hb7 (fun k hk e => (orow_ne hr2 ho1 (by decide)) (hk.trans (congrArg some e))) hl7 (fun _ h => h)
   refine lw_nil (ew_then (cw_seq (cw_region ?_)))
   have lz2 := (((((hl2.trans hl3).trans hl4).trans hl5).trans hl6).trans hl7)
   refine lw_op Z Z Z (ow_load (R := RRuleset) Z Z (ARep.mono lz2 hp1) (Tryd.sizeOf45 _) (Tryd.isAgg45 _) fun v5 hv5 => ?_)
   have lz3 := ((((hl3.trans hl4).trans hl5).trans hl6).trans hl7)
   refine lw_op Z Z Z (ow_load (R := RPacket) Z Z (ARep.mono lz3 hp2) (Tryd.sizeOf38 _) (Tryd.isAgg38 _) fun v6 hv6 => ?_)
   replace h := bind_some h
   obtain ⟨x3, hx3, h⟩ := h
   have lz4 := ((((lz1.trans hl4).trans hl5).trans hl6).trans hl7)
   refine lw_op Z Z Z (ow_call Z Z Tryd.call64 (w_spec_l9Walk 10 (hG.mono lz4) hC7.old hv5 hv6 (hr3.base (Nat.zero_le _)) ho2 hm1 hx3) fun v7 w8 hv7 => ?_)
   obtain ⟨hw1, M2, v8, ho3, hr4, hk1, hge1⟩ := hv7
   have hY1 : ∀ b, (fun b => b = g1 ∨ (Value.ownBlock (.slice (some p3) 0 0)) = some b) b → w.heap.size ≤ b ∨ No b := fun b e => (e.elim (fun e => by rw [show b = g1 from e]; exact (.inl hg2)) (fun e => ((fun b e => .inl (hr3.block e).1) b e)))
   have hl8 := hk1.leY (fun b e => (e.elim (fun e => by rw [show b = g1 from e]; exact hm1) (fun e => (hr3.mem b e))))
   have hC8 := hC7.trans2 hk1 hY1
   obtain rfl := vint_eq hw1
   refine lw_op Z Z Z (ow_assign Z Z (lw_nil (ew_then (cw_seq (cw_region (lw_op Z Z Z (ow_move Z Z (lw_op Z Z Z (ow_eqlI Z Z Z fun bb1 hbb1 => lw_op Z Z Z (ow_move Z Z ?_))))))))))
   replace h := cond_some h
   rcases h with ⟨hc3, h⟩ | ⟨hc3, h⟩
   ·
    obtain rfl := hbb1.trans hc3
    refine lw_off Z Z Z Z Z Z (lw_off Z Z Z Z Z Z (lw_off Z Z Z Z Z Z (lw_off' Z Z Z Z Z Z (lw_off' Z Z Z Z Z Z (lw_off Z Z Z Z Z Z (lw_op Z Z Z (ow_pickT Z Z Z (lw_op Z Z Z (ow_assign Z Z (lw_nil (ew_then (cw_ret ?_))))))))))))
    obtain rfl := sj h
    exact ew_ret (res1 Z (.tmp Z)) ⟨_, Z, ((vbool _)), hC8.bx⟩
   ·
    obtain rfl := hbb1.trans hc3
    refine lw_on Z Z Z Z Z Z (ow_move Z Z (lw_on Z Z Z Z Z Z (ow_eqlI Z Z Z fun bb2 hbb2 => lw_on Z Z Z Z Z Z (ow_move Z Z ?_))))
    replace h := cond_some h
    rcases h with ⟨hc4, h⟩ | ⟨hc4, h⟩
    ·
     obtain rfl := hbb2.trans hc4
     refine lw_on Z Z Z Z Z Z (ow_fieldAddr Z Z Tryd.underlying45 Z (Tryd.sizeOf4 _) (lw_on Z Z Z Z Z Z (ow_load (R := RBool) Z Z (ARep.mono (lz2.trans hl8) (hp1.fld fld_Ruleset_Accept)) (Tryd.sizeOf4 _) (Tryd.isAgg4 _) fun v9 hv9 => ?_)))
     obtain ⟨bb3, hbb3, rfl⟩ := vbool_ex hv9
     refine lw_on Z Z Z Z Z Z (ow_pickT Z Z Z (lw_op Z Z Z (ow_pickF Z Z Z (lw_op Z Z Z (ow_assign Z Z (lw_nil (ew_then (cw_ret ?_))))))))
     obtain rfl := sj h
     exact ew_ret (res1 Z (.tmp Z)) ⟨_, Z, ((vbool_of hbb3)), hC8.bx⟩
    ·
     obtain rfl := hbb2.trans hc4
     refine lw_off Z Z Z Z Z Z (lw_off Z Z Z Z Z Z (lw_on Z Z Z Z Z Z (ow_pickF Z Z Z (lw_op Z Z Z (ow_pickF Z Z Z (lw_op Z Z Z (ow_assign Z Z (lw_nil (ew_then (cw_ret ?_))))))))))
     obtain rfl := sj h
     exact ew_ret (res1 Z (.tmp Z)) ⟨_, Z, ((vbool _)), hC8.bx⟩
  ·
   subst hc2
   refine cw_true Z (cw_seq (cw_region (lw_op Z Z Z (ow_assign Z Z (lw_nil (ew_then (cw_ret (ew_thenR ?_))))))))
   obtain rfl := sj h
   exact ew_ret (res1 Z (.tmp Z)) ⟨_, Z, ((vbool _)), hC4.bx⟩
 ·
  subst hc1
  refine lw_off Z Z Z Z Z Z (lw_off Z Z Z Z Z Z (lw_off Z Z Z Z Z Z (lw_op Z Z Z (ow_pickT Z Z Z (lw_nil (ew_then (cw_true Z (cw_seq (cw_region (lw_op Z Z Z (ow_assign Z Z (lw_nil (ew_then (cw_ret (ew_thenR ?_)))))))))))))))
  obtain rfl := sj h
  exact ew_ret (res1 Z (.tmp Z)) ⟨_, Z, ((vbool _)), hC3.bx⟩

theorem w_spec_l20Open {w : World} {M : Nat → Prop} (_hG : ARep (RArr 4 RShape) w M shapes ⟨0, 0, none⟩) (hO : ∀ b, M b → b < w.heap.size) {v0p : Value} {a_code : List Int} (h0 : VRep (RSlice RU8) w M a_code v0p) {r : List Int × Int} (h : F.spec_l20Open a_code = some r) :
  Calls Tryd.prog 47 [v0p].toArray w fun e w' => ∃ v, e = .returned v ∧ (∃ g A c, v = .pointer (some ⟨g, 0, none⟩) ∧ w.heap.size ≤ g ∧ Own w' g 111 #[.slice A r.1.length c, .int .i64 r.2] ∧ VRep (RSlice RU8) w' (Add g M) r.1 (.slice A r.1.length c)) ∧ BX No w w' := by
 have hC : Cx No w M w M := Cx.start hO (fun _ e => e.elim)
 clear _hG
 refine walk (N := 11) Tryd.func47 Z Tryd.ntmps47 Z (cw_seq (cw_region (lw_op Z Z Z (ow_assign Z Z (lw_nil (ew_then (cw_seq (cw_seq (cw_region (lw_op Z Z Z (ow_move Z Z (lw_op Z Z Z (ow_len Z Z h0 Tryd.underlying22 Z (lw_op Z Z Z (ow_gtr Z Z Z fun bb1 hbb1 => lw_nil (ew_then ?_))))))))))))))))
 replace h := cond_some h
 rcases h with ⟨hc1, h⟩ | ⟨hc1, h⟩
 ·
  obtain rfl := hbb1.trans hc1
  refine cw_true Z (cw_region (lw_op Z Z Z (ow_move Z Z ?_)))
  replace h := bind_some h
  obtain ⟨y1, hy1, h⟩ := h
  refine lw_op Z Z Z (ow_sliceTo (R := RU8) Z Z Z h0 Tryd.underlying22 (Tryd.sizeOf5 _) (takeF_some hy1).2 fun v1 hv1 => ?_)
  rw [← (takeF_some hy1).1] at hv1
  refine lw_op Z Z Z (ow_assign Z Z (lw_nil (ew_then (cw_seq (cw_region (lw_op Z Z Z (ow_move Z Z ?_)))))))
  obtain ⟨A1, c1, rfl, -⟩ := vslice_shape hv1
  refine lw_op Z Z Z (ow_build (v := .agg #[(.slice A1 y1.length c1), (Zv 0)]) Z Z (by kernel_rfl) (lw_op Z Z Z (ow_boxOwn Z Z hC fun g1 w1 hg1 hg2 ho1 hb1 hl1 hC1 => lw_op Z Z Z (ow_assign Z Z (lw_nil (ew_then (cw_ret ?_)))))))
  obtain rfl := sj h
  exact ew_ret (res1 Z (.tmp Z)) ⟨_, Z, ⟨_, _, _, Z, hg2, ho1, (VRep.mono hl1 hv1)⟩, hC1.bx⟩
 ·
  obtain rfl := hbb1.trans hc1
  refine cw_false Z (cw_skip (ew_then (cw_seq (cw_region (lw_op Z Z Z (ow_move Z Z ?_))))))
  obtain ⟨A2, c2, rfl, -⟩ := vslice_shape h0
  refine lw_op Z Z Z (ow_build (v := .agg #[(.slice A2 a_code.length c2), (Zv 0)]) Z Z (by kernel_rfl) (lw_op Z Z Z (ow_boxOwn Z Z hC fun g2 w2 hg3 hg4 ho2 hb2 hl2 hC2 => lw_op Z Z Z (ow_assign Z Z (lw_nil (ew_then (cw_ret ?_)))))))
  obtain rfl := sj h
  exact ew_ret (res1 Z (.tmp Z)) ⟨_, Z, ⟨_, _, _, Z, hg4, ho2, (VRep.mono hl2 h0)⟩, hC2.bx⟩

theorem w_spec_l20Rd_pick {w : World} {M : Nat → Prop} (_hG : ARep (RArr 4 RShape) w M shapes ⟨0, 0, none⟩) (hO : ∀ b, M b → b < w.heap.size) {g : Nat} {Ax : Option Addr} {cx : Nat} {a_xs : List Int} {a_pos : Int} (hxs : VRep (RSlice RU8) w M a_xs (.slice Ax a_xs.length cx)) (hown : Own w g 111 #[.slice Ax a_xs.length cx, .int .i64 a_pos]) (hgM : M g) {a_n : Int} {r : Int × Int} (h : F.spec_l20Rd_pick a_xs a_pos a_n = some r) :
  Calls Tryd.prog 60 [(.pointer (some ⟨g, 0, none⟩)), (.int .i64 a_n)].toArray w fun e w' => ∃ v, e = .returned v ∧ (VRep RInt w' M r.1 v ∧ Own w' g 111 #[.slice Ax a_xs.length cx, .int .i64 r.2]) ∧ BX (One g) w w' := by
 have hX : ∀ b, (One g) b → M b := fun b e => e ▸ hgM
 have hC : Cx (One g) w M w M := Cx.start hO hX
 clear _hG
 refine walk (N := 99) Tryd.func60 Z Tryd.ntmps60 Z (cw_seq (cw_region (lw_op Z Z Z (ow_assign Z Z (lw_nil (ew_then (cw_seq (cw_region (lw_op Z Z Z (ow_move Z Z (lw_op Z Z Z (ow_move Z Z (lw_op Z Z Z (ow_nilCheck Z Z (lw_op Z Z Z (ow_fieldAddr Z Z Tryd.underlying111 Z (Tryd.sizeOf3 _) (lw_op Z Z Z (ow_loadOwn1 Z Z Z hown (Tryd.isAgg3 _) Z (lw_op Z Z Z (ow_add Z Z Z (lw_op Z Z Z (ow_nilCheck Z Z (lw_op Z Z Z (ow_fieldAddr Z Z Tryd.underlying111 Z (Tryd.sizeOf3 _) (lw_op0 Z Z (ow_store (X := (One g)) (us := [(Zv (W (a_pos + 1)))]) (cs' := #[(.slice Ax a_xs.length cx), (Zv (W (a_pos + 1)))]) Z Z Z Z hown (Tryd.sizeOf3 _) Z Z Z Z hgM (.inr Z) Z hC fun w1 ho1 hb1 hl1 hC1 => lw_nil (ew_then (cw_seq (cw_seq (cw_region (lw_op Z Z Z (ow_move Z Z (lw_op Z Z Z (ow_lss Z Z Z fun bb1 hbb1 => lw_op Z Z Z (ow_move Z Z ?_)))))))))))))))))))))))))))))))))))
 replace h := cond_some h
 rcases h with ⟨hc1, h⟩ | ⟨hc1, h⟩
 ·
  obtain rfl := hbb1.trans hc1
  refine lw_off Z Z Z Z Z Z (lw_off Z Z Z Z Z Z (lw_off Z Z Z Z Z Z (lw_off Z Z Z Z Z Z (lw_off Z Z Z Z Z Z (lw_off Z Z Z Z Z Z (lw_op Z Z Z (ow_pickT Z Z Z (lw_nil (ew_then (cw_true Z (cw_seq (cw_region (lw_op Z Z Z (ow_assign Z Z (lw_nil (ew_then (cw_ret (ew_thenR ?_))))))))))))))))))
  obtain rfl := sj h
  exact ew_ret (res1 Z (.tmp Z)) ⟨_, Z, ⟨((vint _)), ho1⟩, hC1.bx⟩
 ·
  obtain rfl := hbb1.trans hc1
  refine lw_on Z Z Z Z Z Z (ow_move Z Z (lw_on Z Z Z Z Z Z (ow_nilCheck Z Z (lw_on Z Z Z Z Z Z (ow_fieldAddr Z Z Tryd.underlying111 Z (Tryd.sizeOf22 _) (lw_on Z Z Z Z Z Z (ow_loadOwn1 Z Z Z ho1 (Tryd.isAgg22 _) Z (lw_on Z Z Z Z Z Z (ow_len Z Z (VRep.mono hl1 hxs) Tryd.underlying22 Z (lw_on Z Z Z Z Z Z (ow_eqlI Z Z Z fun bb2 hbb2 => lw_op Z Z Z (ow_pickF Z Z Z (lw_nil (ew_then ?_))))))))))))))
  replace h := cond_some h
  rcases h with ⟨hc2, h⟩ | ⟨hc2, h⟩
  ·
   obtain rfl := hbb2.trans hc2
   refine cw_true Z (cw_seq (cw_region (lw_op Z Z Z (ow_assign Z Z (lw_nil (ew_then (cw_ret (ew_thenR ?_))))))))
   obtain rfl := sj h
   exact ew_ret (res1 Z (.tmp Z)) ⟨_, Z, ⟨((vint _)), ho1⟩, hC1.bx⟩
  ·
   obtain rfl := hbb2.trans hc2
   refine cw_false Z (cw_skip (ew_then (cw_seq (cw_region (lw_op Z Z Z (ow_move Z Z (lw_op Z Z Z (ow_nilCheck Z Z (lw_op Z Z Z (ow_fieldAddr Z Z Tryd.underlying111 Z (Tryd.sizeOf3 _) (lw_op Z Z Z (ow_loadOwn1 Z Z Z ho1 (Tryd.isAgg3 _) Z (lw_op Z Z Z (ow_sub Z Z Z (lw_op Z Z Z (ow_assign Z Z (lw_nil (ew_then (cw_seq (cw_seq (cw_region (lw_op Z Z Z (ow_move Z Z (lw_op Z Z Z (ow_move Z Z (lw_op Z Z Z (ow_nilCheck Z Z (lw_op Z Z Z (ow_fieldAddr Z Z Tryd.underlying111 Z (Tryd.sizeOf22 _) (lw_op Z Z Z (ow_loadOwn1 Z Z Z ho1 (Tryd.isAgg22 _) Z (lw_op Z Z Z (ow_len Z Z (VRep.mono hl1 hxs) Tryd.underlying22 Z (lw_op Z Z Z (ow_lss Z Z Z fun bb3 hbb3 => lw_nil (ew_then ?_))))))))))))))))))))))))))))))))))))
   replace h := cond_some h
   rcases h with ⟨hc3, h⟩ | ⟨hc3, h⟩
   ·
    obtain rfl := hbb3.trans hc3
    refine cw_true Z (cw_seq (cw_region (lw_op Z Z Z (ow_move Z Z (lw_op Z Z Z (ow_nilCheck Z Z (lw_op Z Z Z (ow_fieldAddr Z Z Tryd.underlying111 Z (Tryd.sizeOf22 _) (lw_op Z Z Z (ow_loadOwn1 Z Z Z ho1 (Tryd.isAgg22 _) Z (lw_op Z Z Z (ow_move Z Z ?_))))))))))))
    replace h := bind_some h
    obtain ⟨x1, hx1, h⟩ := h
    refine lw_op Z Z Z (ow_indexSlice (R := RU8) Z Z Z (VRep.mono hl1 hxs) Tryd.underlying22 (Tryd.sizeOf5 _) hx1 fun p1 hp1 => lw_op Z Z Z (ow_load (R := RU8) Z Z hp1 (Tryd.sizeOf5 _) (Tryd.isAgg5 _) fun v1 hv1 => ?_))
    obtain rfl := vu8_eq hv1
    refine lw_op Z Z Z (ow_u8int Z Z (by kernel_rfl) (lw_op Z Z Z (ow_move Z Z ?_)))
    replace h := bind_some h
    obtain ⟨u1, hu1, h⟩ := h
    refine lw_op Z Z Z (ow_rem Z Z Z (nzF_some hu1) (lw_op Z Z Z (ow_assign Z Z (lw_nil (ew_then (cw_ret (ew_thenR ?_)))))))
    obtain rfl := sj h
    exact ew_ret (res1 Z (.tmp Z)) ⟨_, Z, ⟨((vint _)), ho1⟩, hC1.bx⟩
   ·
    obtain rfl := hbb3.trans hc3
    refine cw_false Z (cw_skip (ew_then (cw_seq ?_)))
    replace h := bind_some h
    obtain ⟨u2, hu2, h⟩ := h
    replace h := bind_some h
    obtain ⟨x2, hx2, h⟩ := h
    replace h := bind_some h
    obtain ⟨x3, hx3, h⟩ := h
    refine cw_sub (E' := [(0, (Zw g 0)), (1, (Zv a_n)), (4, (Zv 0)), (5, (Zv (W ((W (a_pos + 1)) - 1))))]) ⟨Z, Z, Z, Z, Zt⟩ (cw_drawQ 44 [PEq (Zw g 0), PEq (Zw g 0), PEq (Zw g 0), PV (RSlice RU8) M a_xs, PEq (Zv (W ((W (a_pos + 1)) - 1))), PEq (Zw g 0), PEq (Zw g 0), PEq (Zw g 0), PV (RSlice RU8) M a_xs, PEq (Zv (a_xs.length : Int)), PEq (Zv (((W ((W (a_pos + 1)) - 1))).tmod (a_xs.length : Int))), PA RU8 M x2, PEq (.int .u8 x2), PEq (Zv (W x2)), PEq (Zv (W ((W x2) * 131))), PEq (Zw g 0), PEq (Zw g 0), PEq (Zw g 0), PV (RSlice RU8) M a_xs, PEq (Zv (W ((W (a_pos + 1)) - 1))), PEq (Zv (W ((W ((W (a_pos + 1)) - 1)) * 7))), PEq (Zv (W ((W ((W ((W (a_pos + 1)) - 1)) * 7)) + 3))), PEq (Zw g 0), PEq (Zw g 0), PEq (Zw g 0), PV (RSlice RU8) M a_xs, PEq (Zv (a_xs.length : Int)), PEq (Zv (((W ((W ((W ((W (a_pos + 1)) - 1)) * 7)) + 3))).tmod (a_xs.length : Int))), PA RU8 M x3, PEq (.int .u8 x3), PEq (Zv (W x3)), PEq (Zv (W ((W x3) * 1117))), PEq (Zv (W ((W ((W x2) * 131)) + (W ((W x3) * 1117))))), PEq (Zv (W ((W (a_pos + 1)) - 1))), PEq (Zv (W ((W ((W (a_pos + 1)) - 1)) * 29))), PEq (Zv (W ((W ((W ((W x2) * 131)) + (W ((W x3) * 1117)))) + (W ((W ((W (a_pos + 1)) - 1)) * 29))))), PEq (Zv (W ((W (a_pos + 1)) - 1))), PEq (Zw g 0), PEq (Zw g 0), PEq (Zw g 0), PV (RSlice RU8) M a_xs, PEq (Zv (a_xs.length : Int)), PEq (Zv (W (((W ((W (a_pos + 1)) - 1))).tdiv (a_xs.length : Int)))), PEq (Zv (W ((W (((W ((W (a_pos + 1)) - 1))).tdiv (a_xs.length : Int))) * 53)))] (by kernel_rfl) Z (by kernel_rfl) ⟨Zq, Zq, Zq, PV.mono _ _ _, Zq, Zq, Zq, Zq, PV.mono _ _ _, Zq, Zq, PA.mono _ _ _, Zq, Zq, Zq, Zq, Zq, Zq, PV.mono _ _ _, Zq, Zq, Zq, Zq, Zq, Zq, PV.mono _ _ _, Zq, Zq, PA.mono _ _ _, Zq, Zq, Zq, Zq, Zq, Zq, Zq, Zq, Zq, Zq, Zq, PV.mono _ _ _, Zq, Zq, Zq, Zt⟩ ⟨?_, ?_, ?_, ?_, ?_, ?_, ?_, ?_, ?_, ?_, ?_, ?_, ?_, ?_, ?_, ?_, ?_, ?_, ?_, ?_, ?_, ?_, ?_, ?_, ?_, ?_, ?_, ?_, ?_, ?_, ?_, ?_, ?_, ?_, ?_, ?_, ?_, ?_, ?_, ?_, ?_, ?_, ?_, ?_, Zt⟩ ?_)
    · exact fun w2 D hS1 hd1 => dg_sub (E' := [(0, (Zw g 0))]) ⟨Z, Zt⟩ (dg_plain Z (ow_move Z Z Zb))
    · exact fun w3 D hS2 hd2 => dg_sub (E' := [(47, (Zw g 0))]) ⟨dpE hd2 0 Z Z, Zt⟩ (dg_plain Z (ow_nilCheck Z Z Zb))
    · exact fun w4 D hS3 hd3 => dg_sub (E' := [(48, (Zw g 0))]) ⟨dpE hd3 1 Z Z, Zt⟩ (dg_plain Z (ow_fieldAddr Z Z Tryd.underlying111 Z (Tryd.sizeOf22 _) Zb))
    ·
     intro w5 D hS4 hd4
     have hl5 := Le.no M hS4
     have ho5 := ho1.no hS4
     exact dg_sub (E' := [(49, (Zw g 0))]) ⟨dpE hd4 2 Z Z, Zt⟩ (dg_plain Z (ow_loadOwn1 Z Z Z ho5 (Tryd.isAgg22 _) Z ⟨BX.refl _ _, (VRep.mono (hl1.trans hl5) hxs)⟩))
    · exact fun w6 D hS5 hd5 => dg_sub (E' := [(5, (Zv (W ((W (a_pos + 1)) - 1))))]) ⟨Z, Zt⟩ (dg_plain Z (ow_move Z Z Zb))
    · exact fun w7 D hS6 hd6 => dg_sub (E' := [(0, (Zw g 0))]) ⟨Z, Zt⟩ (dg_plain Z (ow_move Z Z Zb))
    · exact fun w8 D hS7 hd7 => dg_sub (E' := [(52, (Zw g 0))]) ⟨dpE hd7 5 Z Z, Zt⟩ (dg_plain Z (ow_nilCheck Z Z Zb))
    · exact fun w9 D hS8 hd8 => dg_sub (E' := [(53, (Zw g 0))]) ⟨dpE hd8 6 Z Z, Zt⟩ (dg_plain Z (ow_fieldAddr Z Z Tryd.underlying111 Z (Tryd.sizeOf22 _) Zb))
    ·
     intro w10 D hS9 hd9
     have hl10 := Le.no M hS9
     have ho10 := ho1.no hS9
     exact dg_sub (E' := [(54, (Zw g 0))]) ⟨dpE hd9 7 Z Z, Zt⟩ (dg_plain Z (ow_loadOwn1 Z Z Z ho10 (Tryd.isAgg22 _) Z ⟨BX.refl _ _, (VRep.mono (hl1.trans hl10) hxs)⟩))
    ·
     intro w11 D hS10 hd10
     have d7 : PV (RSlice RU8) M a_xs (D 8) w11 := dpA hd10 8 Z
     generalize hq1 : (D 8) = v4 at d7
     exact dg_sub (E' := [(55, v4)]) ⟨congrArg some hq1, Zt⟩ (dg_plain Z (ow_len Z Z d7 Tryd.underlying22 Z Zb))
    · exact fun w12 D hS11 hd11 => dg_sub (E' := [(51, (Zv (W ((W (a_pos + 1)) - 1)))), (56, (Zv (a_xs.length : Int)))]) ⟨dpE hd11 4 Z Z, dpE hd11 9 Z Z, Zt⟩ (dg_plain Z (ow_rem Z Z Z (nzF_some hu2) Zb))
    ·
     intro w13 D hS12 hd12
     have d10 : PV (RSlice RU8) M a_xs (D 3) w13 := dpA hd12 3 Z
     generalize hq2 : (D 3) = v5 at d10
     exact dg_sub (E' := [(50, v5), (57, (Zv (((W ((W (a_pos + 1)) - 1))).tmod (a_xs.length : Int))))]) ⟨congrArg some hq2, dpE hd12 10 Z Z, Zt⟩ (dg_plain Z (ow_indexSlice (R := RU8) Z Z Z d10 Tryd.underlying22 (Tryd.sizeOf5 _) hx2 fun p4 hp4 => ⟨BX.refl _ _, ⟨_, Z, hp4⟩⟩))
    ·
     intro w14 D hS13 hd13
     have d12 : PA RU8 M x2 (D 11) w14 := dpA hd13 11 Z
     obtain ⟨p5, e1, ha1⟩ := d12
     refine dg_sub (E' := [(58, (.pointer (some p5)))]) ⟨congrArg some e1, Zt⟩ (dg_plain Z (ow_load (R := RU8) Z Z ha1 (Tryd.sizeOf5 _) (Tryd.isAgg5 _) fun v6 hv6 => ?_))
     obtain rfl := vu8_eq hv6
     exact Zb
    · exact fun w15 D hS14 hd14 => dg_sub (E' := [(59, (.int .u8 x2))]) ⟨dpE hd14 12 Z Z, Zt⟩ (dg_plain Z (ow_u8int Z Z (by kernel_rfl) Zb))
    · exact fun w16 D hS15 hd15 => dg_sub (E' := [(60, (Zv (W x2)))]) ⟨dpE hd15 13 Z Z, Zt⟩ (dg_plain Z (ow_mul Z Z Z Zb))
    · exact fun w17 D hS16 hd16 => dg_sub (E' := [(0, (Zw g 0))]) ⟨Z, Zt⟩ (dg_plain Z (ow_move Z Z Zb))
    · exact fun w18 D hS17 hd17 => dg_sub (E' := [(62, (Zw g 0))]) ⟨dpE hd17 15 Z Z, Zt⟩ (dg_plain Z (ow_nilCheck Z Z Zb))
    · exact fun w19 D hS18 hd18 => dg_sub (E' := [(63, (Zw g 0))]) ⟨dpE hd18 16 Z Z, Zt⟩ (dg_plain Z (ow_fieldAddr Z Z Tryd.underlying111 Z (Tryd.sizeOf22 _) Zb))
    ·
     intro w20 D hS19 hd19
     have hl20 := Le.no M hS19
     have ho20 := ho1.no hS19
     exact dg_sub (E' := [(64, (Zw g 0))]) ⟨dpE hd19 17 Z Z, Zt⟩ (dg_plain Z (ow_loadOwn1 Z Z Z ho20 (Tryd.isAgg22 _) Z ⟨BX.refl _ _, (VRep.mono (hl1.trans hl20) hxs)⟩))
    · exact fun w21 D hS20 hd20 => dg_sub (E' := [(5, (Zv (W ((W (a_pos + 1)) - 1))))]) ⟨Z, Zt⟩ (dg_plain Z (ow_move Z Z Zb))
    · exact fun w22 D hS21 hd21 => dg_sub (E' := [(66, (Zv (W ((W (a_pos + 1)) - 1))))]) ⟨dpE hd21 19 Z Z, Zt⟩ (dg_plain Z (ow_mul Z Z Z Zb))
    · exact fun w23 D hS22 hd22 => dg_sub (E' := [(67, (Zv (W ((W ((W (a_pos + 1)) - 1)) * 7))))]) ⟨dpE hd22 20 Z Z, Zt⟩ (dg_plain Z (ow_add Z Z Z Zb))
    · exact fun w24 D hS23 hd23 => dg_sub (E' := [(0, (Zw g 0))]) ⟨Z, Zt⟩ (dg_plain Z (ow_move Z Z Zb))
    · exact fun w25 D hS24 hd24 => dg_sub (E' := [(69, (Zw g 0))]) ⟨dpE hd24 22 Z Z, Zt⟩ (dg_plain Z (ow_nilCheck Z Z Zb))
    · exact fun w26 D hS25 hd25 => dg_sub (E' := [(70, (Zw g 0))]) ⟨dpE hd25 23 Z Z, Zt⟩ (dg_plain Z (ow_fieldAddr Z Z Tryd.underlying111 Z (Tryd.sizeOf22 _) Zb))
    ·
     intro w27 D hS26 hd26
     have hl27 := Le.no M hS26
     have ho27 := ho1.no hS26
     exact dg_sub (E' := [(71, (Zw g 0))]) ⟨dpE hd26 24 Z Z, Zt⟩ (dg_plain Z (ow_loadOwn1 Z Z Z ho27 (Tryd.isAgg22 _) Z ⟨BX.refl _ _, (VRep.mono (hl1.trans hl27) hxs)⟩))
    ·
     intro w28 D hS27 hd27
     have d23 : PV (RSlice RU8) M a_xs (D 25) w28 := dpA hd27 25 Z
     generalize hq3 : (D 25) = v7 at d23
     exact dg_sub (E' := [(72, v7)]) ⟨congrArg some hq3, Zt⟩ (dg_plain Z (ow_len Z Z d23 Tryd.underlying22 Z Zb))
    · exact fun w29 D hS28 hd28 => dg_sub (E' := [(68, (Zv (W ((W ((W ((W (a_pos + 1)) - 1)) * 7)) + 3)))), (73, (Zv (a_xs.length : Int)))]) ⟨dpE hd28 21 Z Z, dpE hd28 26 Z Z, Zt⟩ (dg_plain Z (ow_rem Z Z Z (nzF_some hu2) Zb))
    ·
     intro w30 D hS29 hd29
     have d26 : PV (RSlice RU8) M a_xs (D 18) w30 := dpA hd29 18 Z
     generalize hq4 : (D 18) = v8 at d26
     exact dg_sub (E' := [(65, v8), (74, (Zv (((W ((W ((W ((W (a_pos + 1)) - 1)) * 7)) + 3))).tmod (a_xs.length : Int))))]) ⟨congrArg some hq4, dpE hd29 27 Z Z, Zt⟩ (dg_plain Z (ow_indexSlice (R := RU8) Z Z Z d26 Tryd.underlying22 (Tryd.sizeOf5 _) hx3 fun p6 hp6 => ⟨BX.refl _ _, ⟨_, Z, hp6⟩⟩))
    ·
     intro w31 D hS30 hd30
     have d28 : PA RU8 M x3 (D 28) w31 := dpA hd30 28 Z
     obtain ⟨p7, e2, ha2⟩ := d28
     refine dg_sub (E' := [(75, (.pointer (some p7)))]) ⟨congrArg some e2, Zt⟩ (dg_plain Z (ow_load (R := RU8) Z Z ha2 (Tryd.sizeOf5 _) (Tryd.isAgg5 _) fun v9 hv9 => ?_))
     obtain rfl := vu8_eq hv9
     exact Zb
    · exact fun w32 D hS31 hd31 => dg_sub (E' := [(76, (.int .u8 x3))]) ⟨dpE hd31 29 Z Z, Zt⟩ (dg_plain Z (ow_u8int Z Z (by kernel_rfl) Zb))
    · exact fun w33 D hS32 hd32 => dg_sub (E' := [(77, (Zv (W x3)))]) ⟨dpE hd32 30 Z Z, Zt⟩ (dg_plain Z (ow_mul Z Z Z Zb))
    · exact fun w34 D hS33 hd33 => dg_sub (E' := [(61, (Zv (W ((W x2) * 131)))), (78, (Zv (W ((W x3) * 1117))))]) ⟨dpE hd33 14 Z Z, dpE hd33 31 Z Z, Zt⟩ (dg_plain Z (ow_add Z Z Z Zb))
    · exact fun w35 D hS34 hd34 => dg_sub (E' := [(5, (Zv (W ((W (a_pos + 1)) - 1))))]) ⟨Z, Zt⟩ (dg_plain Z (ow_move Z Z Zb))
    · exact fun w36 D hS35 hd35 => dg_sub (E' := [(80, (Zv (W ((W (a_pos + 1)) - 1))))]) ⟨dpE hd35 33 Z Z, Zt⟩ (dg_plain Z (ow_mul Z Z Z Zb))
    · exact fun w37 D hS36 hd36 => dg_sub (E' := [(79, (Zv (W ((W ((W x2) * 131)) + (W ((W x3) * 1117)))))), (81, (Zv (W ((W ((W (a_pos + 1)) - 1)) * 29))))]) ⟨dpE hd36 32 Z Z, dpE hd36 34 Z Z, Zt⟩ (dg_plain Z (ow_add Z Z Z Zb))
    · exact fun w38 D hS37 hd37 => dg_sub (E' := [(5, (Zv (W ((W (a_pos + 1)) - 1))))]) ⟨Z, Zt⟩ (dg_plain Z (ow_move Z Z Zb))
    · exact fun w39 D hS38 hd38 => dg_sub (E' := [(0, (Zw g 0))]) ⟨Z, Zt⟩ (dg_plain Z (ow_move Z Z Zb))
    · exact fun w40 D hS39 hd39 => dg_sub (E' := [(84, (Zw g 0))]) ⟨dpE hd39 37 Z Z, Zt⟩ (dg_plain Z (ow_nilCheck Z Z Zb))
    · exact fun w41 D hS40 hd40 => dg_sub (E' := [(85, (Zw g 0))]) ⟨dpE hd40 38 Z Z, Zt⟩ (dg_plain Z (ow_fieldAddr Z Z Tryd.underlying111 Z (Tryd.sizeOf22 _) Zb))
    ·
     intro w42 D hS41 hd41
     have hl42 := Le.no M hS41
     have ho42 := ho1.no hS41
     exact dg_sub (E' := [(86, (Zw g 0))]) ⟨dpE hd41 39 Z Z, Zt⟩ (dg_plain Z (ow_loadOwn1 Z Z Z ho42 (Tryd.isAgg22 _) Z ⟨BX.refl _ _, (VRep.mono (hl1.trans hl42) hxs)⟩))
    ·
     intro w43 D hS42 hd42
     have d39 : PV (RSlice RU8) M a_xs (D 40) w43 := dpA hd42 40 Z
     generalize hq5 : (D 40) = v10 at d39
     exact dg_sub (E' := [(87, v10)]) ⟨congrArg some hq5, Zt⟩ (dg_plain Z (ow_len Z Z d39 Tryd.underlying22 Z Zb))
    · exact fun w44 D hS43 hd43 => dg_sub (E' := [(83, (Zv (W ((W (a_pos + 1)) - 1)))), (88, (Zv (a_xs.length : Int)))]) ⟨dpE hd43 36 Z Z, dpE hd43 41 Z Z, Zt⟩ (dg_plain Z (ow_quo Z Z Z (nzF_some hu2) Zb))
    · exact fun w45 D hS44 hd44 => dg_sub (E' := [(89, (Zv (W (((W ((W (a_pos + 1)) - 1))).tdiv (a_xs.length : Int)))))]) ⟨dpE hd44 42 Z Z, Zt⟩ (dg_plain Z (ow_mul Z Z Z Zb))
    ·
     intro w46 D hS45 hd45
     have hC46 := hC1.no hS45
     have ho46 := ho1.no hS45
     refine lw_sub (E' := [(82, (Zv (W ((W ((W ((W x2) * 131)) + (W ((W x3) * 1117)))) + (W ((W ((W (a_pos + 1)) - 1)) * 29)))))), (90, (Zv (W ((W (((W ((W (a_pos + 1)) - 1))).tdiv (a_xs.length : Int))) * 53)))), (0, (Zw g 0)), (1, (Zv a_n)), (4, (Zv 0)), (5, (Zv (W ((W (a_pos + 1)) - 1))))]) ⟨dpE hd45 35 Z Z, dpE hd45 43 Z Z, Z, Z, Z, Z, Zt⟩ (lw_op Z Z Z (ow_add Z Z Z (lw_op Z Z Z (ow_assign Z Z (lw_nil (ew_then (cw_seq (cw_region (lw_op Z Z Z (ow_move Z Z (lw_op Z Z Z (ow_move Z Z (lw_op Z Z Z (ow_quo Z Z Z (by decide) (lw_op Z Z Z (ow_xor Z Z Z (lw_op Z Z Z (ow_assign Z Z (lw_nil (ew_then (cw_seq (cw_region (lw_op Z Z Z (ow_move Z Z (lw_op Z Z Z (ow_move Z Z ?_))))))))))))))))))))))))))
     replace h := bind_some h
     obtain ⟨u3, hu3, h⟩ := h
     refine lw_op Z Z Z (ow_rem Z Z Z (nzF_some hu3) (lw_op Z Z Z (ow_assign Z Z (lw_nil (ew_then (cw_ret ?_))))))
     obtain rfl := sj h
     exact ew_ret (res1 Z (.tmp Z)) ⟨_, Z, ⟨((vint _)), ho46⟩, hC46.bx⟩

theorem w_spec_l20Rd_odd {w : World} {M : Nat → Prop} (hG : ARep (RArr 4 RShape) w M shapes ⟨0, 0, none⟩) (hO : ∀ b, M b → b < w.heap.size) {g : Nat} {Ax : Option Addr} {cx : Nat} {a_xs : List Int} {a_pos : Int} (hxs : VRep (RSlice RU8) w M a_xs (.slice Ax a_xs.length cx)) (hown : Own w g 111 #[.slice Ax a_xs.length cx, .int .i64 a_pos]) (hgM : M g) {a_n : Int} {r : Bool × Int} (h : F.spec_l20Rd_odd a_xs a_pos a_n = some r) :
  Calls Tryd.prog 81 [(.pointer (some ⟨g, 0, none⟩)), (.int .i64 a_n)].toArray w fun e w' => ∃ v, e = .returned v ∧ (VRep RBool w' M r.1 v ∧ Own w' g 111 #[.slice Ax a_xs.length cx, .int .i64 r.2]) ∧ BX (One g) w w' := by
 have hX : ∀ b, (One g) b → M b := fun b e => e ▸ hgM
 have hC : Cx (One g) w M w M := Cx.start hO hX
 refine walk (N := 15) Tryd.func81 Z Tryd.ntmps81 Z (cw_seq (cw_region (lw_op Z Z Z (ow_assign Z Z (lw_nil (ew_then (cw_seq (cw_region (lw_op Z Z Z (ow_move Z Z (lw_op Z Z Z (ow_gtr Z Z Z fun bb1 hbb1 => lw_op Z Z Z (ow_move Z Z ?_)))))))))))))
 replace h := cond_some h
 rcases h with ⟨hc1, h⟩ | ⟨hc1, h⟩
 ·
  obtain rfl := hbb1.trans hc1
  refine lw_on Z Z Z Z Z Z (ow_move Z Z (lw_on Z Z Z Z Z Z (ow_move Z Z ?_)))
  replace h := bind_some h
  obtain ⟨x1, hx1, h⟩ := h
  refine lw_on Z Z Z Z Z Z (ow_call Z Z Tryd.call60 (w_spec_l20Rd_pick hG hC.old hxs hown hgM hx1) fun v1 w1 hv1 => ?_)
  obtain ⟨⟨hv1, ho1⟩, hb1⟩ := hv1
  have hC1 := hC.go hb1 (fun b e => Or.inr e)
  obtain rfl := vint_eq hv1
  refine lw_on Z Z Z Z Z Z (ow_move Z Z (lw_on Z Z Z Z Z Z (ow_sub Z Z Z (lw_on Z Z Z Z Z Z (ow_eqlI Z Z Z fun bb2 hbb2 => lw_op Z Z Z (ow_pickT Z Z Z (lw_op Z Z Z (ow_assign Z Z (lw_nil (ew_then (cw_ret ?_)))))))))))
  obtain rfl := sj h
  exact ew_ret (res1 Z (.tmp Z)) ⟨_, Z, ⟨((vbool_of hbb2)), ho1⟩, hC1.bx⟩
 ·
  obtain rfl := hbb1.trans hc1
  refine lw_off Z Z Z Z Z Z (lw_off Z Z Z Z Z Z (lw_off Z Z Z Z Z Z (lw_off Z Z Z Z Z Z (lw_off Z Z Z Z Z Z (lw_off Z Z Z Z Z Z (lw_op Z Z Z (ow_pickF Z Z Z (lw_op Z Z Z (ow_assign Z Z (lw_nil (ew_then (cw_ret ?_))))))))))))
  obtain rfl := sj h
  exact ew_ret (res1 Z (.tmp Z)) ⟨_, Z, ⟨((vbool _)), hown⟩, hC.bx⟩

theorem w_spec_l20Packet {w : World} {M : Nat → Prop} (hG : ARep (RArr 4 RShape) w M shapes ⟨0, 0, none⟩) (hO : ∀ b, M b → b < w.heap.size) {g : Nat} {Ax : Option Addr} {cx : Nat} {a_xs : List Int} {a_pos : Int} (hxs : VRep (RSlice RU8) w M a_xs (.slice Ax a_xs.length cx)) (hown : Own w g 111 #[.slice Ax a_xs.length cx, .int .i64 a_pos]) (hgM : M g) {a_n : Int} {r : Packet × Int} (h : F.spec_l20Packet a_xs a_pos a_n = some r) :
  Calls Tryd.prog 90 [(.pointer (some ⟨g, 0, none⟩)), (.int .i64 a_n)].toArray w fun e w' => ∃ v, e = .returned v ∧ (VRep RPacket w' M r.1 v ∧ Own w' g 111 #[.slice Ax a_xs.length cx, .int .i64 r.2]) ∧ BX (One g) w w' := by
 have hX : ∀ b, (One g) b → M b := fun b e => e ▸ hgM
 have hC : Cx (One g) w M w M := Cx.start hO hX
 refine walk (N := 71) Tryd.func90 Z Tryd.ntmps90 Z (cw_seq (cw_region (lw_op Z Z Z (ow_alloc Z (Tryd.zeroValue38 _) hC fun g1 w1 hg1 hg2 ho1 hb1 hl1 hC1 => ?_))))
 have hn1 := Nat.ne_of_lt (Nat.lt_of_lt_of_le hown.lt hg1)
 have ho2 := hown.no hb1
 have hm1 : (Add g1 M) g := .inr hgM
 have hm2 : (Add g1 M) g1 := .inl Z
 refine lw_nil (ew_then (cw_seq (cw_region (lw_op Z Z Z (ow_move Z Z ?_)))))
 replace h := bind_some h
 obtain ⟨x1, hx1, h⟩ := h
 refine lw_op Z Z Z (ow_call Z Z Tryd.call60 (w_spec_l20Rd_pick (hG.mono hl1) hC1.old (VRep.mono hl1 hxs) ho2 hm1 hx1) fun v1 w2 hv1 => ?_)
 obtain ⟨⟨hv1, ho3⟩, hb2⟩ := hv1
 have hl2 := Le.of_bx (Add g1 M) hb2 (fun b e => (by rw [show b = g from e]; exact hm1))
 have hC2 := hC1.go hb2 (fun b e => Or.inr e)
 have ho4 := ho1.go hb2 (fun e => hn1 e.symm)
 obtain rfl := vint_eq hv1
 refine lw_op Z Z Z (ow_move Z Z ?_)
 replace h := bind_some h
 obtain ⟨x2, hx2, h⟩ := h
 refine lw_op Z Z Z (ow_call Z Z Tryd.call60 (w_spec_l20Rd_pick (hG.mono (hl1.trans hl2)) hC2.old (VRep.mono (hl1.trans hl2) hxs) ho3 hm1 hx2) fun v2 w3 hv2 => ?_)
 obtain ⟨⟨hv2, ho5⟩, hb3⟩ := hv2
 have hl3 := Le.of_bx (Add g1 M) hb3 (fun b e => (by rw [show b = g from e]; exact hm1))
 have hC3 := hC2.go hb3 (fun b e => Or.inr e)
 have ho6 := ho4.go hb3 (fun e => hn1 e.symm)
 obtain rfl := vint_eq hv2
 refine lw_op Z Z Z (ow_move Z Z ?_)
 have lz1 := ((hl1.trans hl2).trans hl3)
 replace h := bind_some h
 obtain ⟨x3, hx3, h⟩ := h
 refine lw_op Z Z Z (ow_call Z Z Tryd.call60 (w_spec_l20Rd_pick (hG.mono lz1) hC3.old (VRep.mono lz1 hxs) ho5 hm1 hx3) fun v3 w4 hv3 => ?_)
 obtain ⟨⟨hv3, ho7⟩, hb4⟩ := hv3
 have hl4 := Le.of_bx (Add g1 M) hb4 (fun b e => (by rw [show b = g from e]; exact hm1))
 have hC4 := hC3.go hb4 (fun b e => Or.inr e)
 have ho8 := ho6.go hb4 (fun e => hn1 e.symm)
 obtain rfl := vint_eq hv3
 refine lw_op Z Z Z (ow_move Z Z ?_)
 replace h := bind_some h
 obtain ⟨x4, hx4, h⟩ := h
 refine lw_op Z Z Z (ow_call Z Z Tryd.call60 (w_spec_l20Rd_pick (hG.mono (lz1.trans hl4)) hC4.old (VRep.mono (lz1.trans hl4) hxs) ho7 hm1 hx4) fun v4 w5 hv4 => ?_)
 obtain ⟨⟨hv4, ho9⟩, hb5⟩ := hv4
 have hl5 := Le.of_bx (Add g1 M) hb5 (fun b e => (by rw [show b = g from e]; exact hm1))
 have hC5 := hC4.go hb5 (fun b e => Or.inr e)
 have ho10 := ho8.go hb5 (fun e => hn1 e.symm)
 obtain rfl := vint_eq hv4
 refine lw_op Z Z Z (ow_build (v := .agg #[(Zv x1.1), (Zv x2.1), (Zv x3.1), (Zv x4.1)]) Z Z (by kernel_rfl) (lw_op Z Z Z (ow_alloc Z (Tryd.zeroValue38 _) hC5 fun g2 w6 hg3 hg4 ho11 hb6 hl6 hC6 => ?_)))
 have hn2 := Nat.ne_of_lt (Nat.lt_of_lt_of_le ho9.lt hg3)
 have ho12 := ho9.no hb6
 have hm3 : (Add g2 (Add g1 M)) g := .inr hm1
 have hn3 := Nat.ne_of_lt (Nat.lt_of_lt_of_le ho10.lt hg3)
 have ho13 := ho10.no hb6
 have hm4 : (Add g2 (Add g1 M)) g1 := .inr hm2
 have hm5 : (Add g2 (Add g1 M)) g2 := .inl Z
 refine lw_op0 Z Z (ow_store (X := (One g)) (us := [(Zv x1.1), (Zv x2.1), (Zv x3.1), (Zv x4.1)]) (cs' := #[(Zv x1.1), (Zv x2.1), (Zv x3.1), (Zv x4.1)]) Z Z Z Z ho11 (Tryd.sizeOf38 _) Z Z Z Z hm5 (.inl hg4) Z hC6 fun w7 ho14 hb7 hl7 hC7 => ?_)
 have ho15 := ho12.go hb7 (fun e => hn2 e)
 have ho16 := ho13.go hb7 (fun e => hn3 e)
 refine lw_nil (ew_then (cw_seq (cw_seq (cw_region (lw_op Z Z Z (ow_move Z Z ?_))))))
 have lz2 := ((((lz1.trans hl4).trans hl5).trans hl6).trans hl7)
 replace h := bind_some h
 obtain ⟨x5, hx5, h⟩ := h
 refine lw_op Z Z Z (ow_call Z Z Tryd.call60 (w_spec_l20Rd_pick (hG.mono lz2) hC7.old (VRep.mono lz2 hxs) ho15 hm3 hx5) fun v5 w8 hv5 => ?_)
 obtain ⟨⟨hv5, ho17⟩, hb8⟩ := hv5
 have hl8 := Le.of_bx (Add g2 (Add g1 M)) hb8 (fun b e => (by rw [show b = g from e]; exact hm3))
 have hC8 := hC7.go hb8 (fun b e => Or.inr e)
 have ho18 := ho16.go hb8 (fun e => hn1 e.symm)
 have ho19 := ho14.go hb8 (fun e => hn2 e.symm)
 obtain rfl := vint_eq hv5
 refine lw_op Z Z Z (ow_eqlI Z Z Z fun bb1 hbb1 => lw_nil (ew_then ?_))
 replace h := cond_some h
 rcases h with ⟨hc1, h⟩ | ⟨hc1, h⟩
 ·
  obtain rfl := hbb1.trans hc1
  refine cw_true Z (cw_seq (cw_region (lw_op Z Z Z (ow_move Z Z ?_))))
  replace h := bind_some h
  obtain ⟨x6, hx6, h⟩ := h
  refine lw_op Z Z Z (ow_call Z Z Tryd.call60 (w_spec_l20Rd_pick (hG.mono (lz2.trans hl8)) hC8.old (VRep.mono (lz2.trans hl8) hxs) ho17 hm3 hx6) fun v6 w9 hv6 => ?_)
  obtain ⟨⟨hv6, ho20⟩, hb9⟩ := hv6
  have hl9 := Le.of_bx (Add g2 (Add g1 M)) hb9 (fun b e => (by rw [show b = g from e]; exact hm3))
  have hC9 := hC8.go hb9 (fun b e => Or.inr e)
  have ho21 := ho18.go hb9 (fun e => hn1 e.symm)
  have ho22 := ho19.go hb9 (fun e => hn2 e.symm)
  obtain rfl := vint_eq hv6
  refine lw_op Z Z Z (ow_mul Z Z Z (lw_op Z Z Z (ow_move Z Z ?_)))
  have lz3 := ((lz2.trans hl8).trans hl9)
  replace h := bind_some h
  obtain ⟨x7, hx7, h⟩ := h
  refine lw_op Z Z Z (ow_call Z Z Tryd.call60 (w_spec_l20Rd_pick (hG.mono lz3) hC9.old (VRep.mono lz3 hxs) ho20 hm3 hx7) fun v7 w10 hv7 => ?_)
  obtain ⟨⟨hv7, ho23⟩, hb10⟩ := hv7
  have hl10 := Le.of_bx (Add g2 (Add g1 M)) hb10 (fun b e => (by rw [show b = g from e]; exact hm3))
  have hC10 := hC9.go hb10 (fun b e => Or.inr e)
  have ho24 := ho21.go hb10 (fun e => hn1 e.symm)
  have ho25 := ho22.go hb10 (fun e => hn2 e.symm)
  obtain rfl := vint_eq hv7
  refine lw_op Z Z Z (ow_add Z Z Z (lw_op Z Z Z (ow_fieldAddr Z Z Tryd.underlying38 Z (Tryd.sizeOf3 _) (lw_op0 Z Z (ow_store (X := (One g)) (us := [(Zv (W ((W (x6.1 * 256)) + x7.1)))]) (cs' := #[(Zv (W ((W (x6.1 * 256)) + x7.1))), (Zv x2.1), (Zv x3.1), (Zv x4.1)]) Z Z Z Z ho25 (Tryd.sizeOf3 _) Z Z Z Z hm5 (.inl hg4) Z hC10 fun w11 ho26 hb11 hl11 hC11 => ?_)))))
  have ho27 := ho23.go hb11 (fun e => hn2 e)
  have ho28 := ho24.go hb11 (fun e => hn3 e)
  refine lw_nil (ew_then (cw_seq (cw_region (lw_op Z Z Z (ow_move Z Z ?_)))))
  have lz4 := ((lz3.trans hl10).trans hl11)
  replace h := bind_some h
  obtain ⟨x8, hx8, h⟩ := h
  refine lw_op Z Z Z (ow_call Z Z Tryd.call60 (w_spec_l20Rd_pick (hG.mono lz4) hC11.old (VRep.mono lz4 hxs) ho27 hm3 hx8) fun v8 w12 hv8 => ?_)
  obtain ⟨⟨hv8, ho29⟩, hb12⟩ := hv8
  have hl12 := Le.of_bx (Add g2 (Add g1 M)) hb12 (fun b e => (by rw [show b = g from e]; exact hm3))
  have hC12 := hC11.go hb12 (fun b e => Or.inr e)
  have ho30 := ho28.go hb12 (fun e => hn1 e.symm)
  have ho31 := ho26.go hb12 (fun e => hn2 e.symm)
  obtain rfl := vint_eq hv8
  refine lw_op Z Z Z (ow_mul Z Z Z (lw_op Z Z Z (ow_move Z Z ?_)))
  replace h := bind_some h
  obtain ⟨x9, hx9, h⟩ := h
  refine lw_op Z Z Z (ow_call Z Z Tryd.call60 (w_spec_l20Rd_pick (hG.mono (lz4.trans hl12)) hC12.old (VRep.mono (lz4.trans hl12) hxs) ho29 hm3 hx9) fun v9 w13 hv9 => ?_)
  obtain ⟨⟨hv9, ho32⟩, hb13⟩ := hv9
  have hl13 := Le.of_bx (Add g2 (Add g1 M)) hb13 (fun b e => (by rw [show b = g from e]; exact hm3))
  have hC13 := hC12.go hb13 (fun b e => Or.inr e)
  have ho33 := ho30.go hb13 (fun e => hn1 e.symm)
  have ho34 := ho31.go hb13 (fun e => hn2 e.symm)
  obtain rfl := vint_eq hv9
  refine lw_op Z Z Z (ow_add Z Z Z (lw_op Z Z Z (ow_fieldAddr Z Z Tryd.underlying38 Z (Tryd.sizeOf3 _) (lw_op0 Z Z (ow_store (X := (One g)) (us := [(Zv (W ((W (x8.1 * 16384)) + x9.1)))]) (cs' := #[(Zv (W ((W (x6.1 * 256)) + x7.1))), (Zv (W ((W (x8.1 * 16384)) + x9.1))), (Zv x3.1), (Zv x4.1)]) Z Z Z Z ho34 (Tryd.sizeOf3 _) Z Z Z Z hm5 (.inl hg4) Z hC13 fun w14 ho35 hb14 hl14 hC14 => ?_)))))
  have ho36 := ho32.go hb14 (fun e => hn2 e)
  have ho37 := ho33.go hb14 (fun e => hn3 e)
  refine lw_nil (ew_then (cw_region (lw_op Z Z Z (ow_move Z Z ?_))))
  have lz5 := (((lz4.trans hl12).trans hl13).trans hl14)
  replace h := bind_some h
  obtain ⟨x10, hx10, h⟩ := h
  refine lw_op Z Z Z (ow_call Z Z Tryd.call60 (w_spec_l20Rd_pick (hG.mono lz5) hC14.old (VRep.mono lz5 hxs) ho36 hm3 hx10) fun v10 w15 hv10 => ?_)
  obtain ⟨⟨hv10, ho38⟩, hb15⟩ := hv10
  have hl15 := Le.of_bx (Add g2 (Add g1 M)) hb15 (fun b e => (by rw [show b = g from e]; exact hm3))
  have hC15 := hC14.go hb15 (fun b e => Or.inr e)
  have ho39 := ho37.go hb15 (fun e => hn1 e.symm)
  have ho40 := ho35.go hb15 (fun e => hn2 e.symm)
  obtain rfl := vint_eq hv10
  refine lw_op Z Z Z (ow_fieldAddr Z Z Tryd.underlying38 Z (Tryd.sizeOf3 _) (lw_op0 Z Z (ow_store (X := (One g)) (us := [(Zv x10.1)]) (cs' := #[(Zv (W ((W (x6.1 * 256)) + x7.1))), (Zv (W ((W (x8.1 * 16384)) + x9.1))), (Zv x10.1), (Zv x4.1)]) Z Z Z Z ho40 (Tryd.sizeOf3 _) Z Z Z Z hm5 (.inl hg4) Z hC15 fun w16 ho41 hb16 hl16 hC16 => ?_)))
  have ho42 := ho38.go hb16 (fun e => hn2 e)
  have ho43 := ho39.go hb16 (fun e => hn3 e)
  refine lw_nil (ew_then (cw_seq (cw_seq (cw_region (lw_op Z Z Z (ow_move Z Z (lw_op Z Z Z (ow_move Z Z ?_))))))))
  have lz6 := ((lz5.trans hl15).trans hl16)
  replace h := bind_some h
  obtain ⟨x11, hx11, h⟩ := h
  refine lw_op Z Z Z (ow_call Z Z Tryd.call81 (w_spec_l20Rd_odd (hG.mono lz6) hC16.old (VRep.mono lz6 hxs) ho42 hm3 hx11) fun v11 w17 hv11 => ?_)
  obtain ⟨⟨hv11, ho44⟩, hb17⟩ := hv11
  have hl17 := Le.of_bx (Add g2 (Add g1 M)) hb17 (fun b e => (by rw [show b = g from e]; exact hm3))
  have hC17 := hC16.go hb17 (fun b e => Or.inr e)
  have ho45 := ho43.go hb17 (fun e => hn1 e.symm)
  have ho46 := ho41.go hb17 (fun e => hn2 e.symm)
  obtain ⟨bb2, hbb2, rfl⟩ := vbool_ex hv11
  refine lw_nil (ew_then ?_)
  replace h := cond_some h
  rcases h with ⟨hc2, h⟩ | ⟨hc2, h⟩
  ·
   obtain rfl := hbb2.trans hc2
   refine cw_true Z (cw_seq (cw_region (lw_op Z Z Z (ow_move Z Z ?_))))
   replace h := bind_some h
   obtain ⟨x12, hx12, h⟩ := h
   refine lw_op Z Z Z (ow_call Z Z Tryd.call60 (w_spec_l20Rd_pick (hG.mono (lz6.trans hl17)) hC17.old (VRep.mono (lz6.trans hl17) hxs) ho44 hm3 hx12) fun v12 w18 hv12 => ?_)
   obtain ⟨⟨hv12, ho47⟩, hb18⟩ := hv12
   have hl18 := Le.of_bx (Add g2 (Add g1 M)) hb18 (fun b e => (by rw [show b = g from e]; exact hm3))
   have hC18 := hC17.go hb18 (fun b e => Or.inr e)
   have ho48 := ho45.go hb18 (fun e => hn1 e.symm)
   have ho49 := ho46.go hb18 (fun e => hn2 e.symm)
   obtain rfl := vint_eq hv12
   refine lw_nil (ew_then (cw_block (cw_seq (cw_region (lw_op Z Z Z (ow_eqlI Z Z Z fun bb3 hbb3 => lw_op Z Z Z (ow_assign Z Z (lw_nil (ew_then ?_)))))))))
   replace h := cond_some h
   rcases h with ⟨hc3, h⟩ | ⟨hc3, h⟩
   ·
    obtain rfl := hbb3.trans hc3
    refine cw_true Z (cw_region (lw_op Z Z Z (ow_buildSlice (R := RInt) (xs := [(-1), 65536]) (cs := #[(Zv (-1)), (Zv 65536)]) (e := 3) Z Z (by kernel_rfl) Z Z ⟨_, _, Z, (vint _).cells, _, _, Z, (vint _).cells, Z⟩ hC18 fun p1 w19 hw2 hb19 hl19 hC19 => ?_)))
    have ho50 := ho47.no hb19
    have ho51 := ho48.no hb19
    have ho52 := ho49.no hb19
    refine lw_op Z Z Z (ow_move Z Z ?_)
    have lz7 := (((lz6.trans hl17).trans hl18).trans hl19)
    replace h := bind_some h
    obtain ⟨x13, hx13, h⟩ := h
    refine lw_op Z Z Z (ow_call Z Z Tryd.call60 (w_spec_l20Rd_pick (hG.mono lz7) hC19.old (VRep.mono lz7 hxs) ho50 hm3 hx13) fun v13 w20 hv13 => ?_)
    obtain ⟨⟨hv13, ho53⟩, hb20⟩ := hv13
    have hl20 := Le.of_bx (Add g2 (Add g1 M)) hb20 (fun b e => (by rw [show b = g from e]; exact hm3))
    have hC20 := hC19.go hb20 (fun b e => Or.inr e)
    have ho54 := ho51.go hb20 (fun e => hn1 e.symm)
    have ho55 := ho52.go hb20 (fun e => hn2 e.symm)
    obtain rfl := vint_eq hv13
    replace h := bind_some h
    obtain ⟨x14, hx14, h⟩ := h
    refine lw_op Z Z Z (ow_indexSlice (R := RInt) Z Z Z (VRep.mono hl20 hw2) Tryd.underlying52 (Tryd.sizeOf3 _) hx14 fun p2 hp2 => lw_op Z Z Z (ow_load (R := RInt) Z Z hp2 (Tryd.sizeOf3 _) (Tryd.isAgg3 _) fun v14 hv14 => ?_))
    obtain rfl := vint_eq hv14
    refine lw_op Z Z Z (ow_fieldAddr Z Z Tryd.underlying38 Z (Tryd.sizeOf3 _) (lw_op0 Z Z (ow_store (X := (One g)) (us := [(Zv x14)]) (cs' := #[(Zv x14), (Zv (W ((W (x8.1 * 16384)) + x9.1))), (Zv x10.1), (Zv x4.1)]) Z Z Z Z ho55 (Tryd.sizeOf3 _) Z Z Z Z hm5 (.inl hg4) Z hC20 fun w21 ho56 hb21 hl21 hC21 => ?_)))
    have ho57 := ho53.go hb21 (fun e => hn2 e)
    have ho58 := ho54.go hb21 (fun e => hn3 e)
    refine lw_nil (ew_blockN (ew_then (cw_seq (cw_region (lw_op Z Z Z (ow_loadOwnA Z Z Z ho56 (Tryd.isAgg38 _) (Tryd.sizeOf38 _) Z (lw_op0 Z Z (ow_store (X := (One g)) (us := [(Zv x14), (Zv (W ((W (x8.1 * 16384)) + x9.1))), (Zv x10.1), (Zv x4.1)]) (cs' := #[(Zv x14), (Zv (W ((W (x8.1 * 16384)) + x9.1))), (Zv x10.1), (Zv x4.1)]) Z Z Z Z ho58 (Tryd.sizeOf38 _) Z Z Z Z hm4 (.inl hg2) Z hC21 fun w22 ho59 hb22 hl22 hC22 => ?_))))))))
    have ho60 := ho57.go hb22 (fun e => hn1 e)
    refine lw_nil (ew_then (cw_ret ?_))
    have hw4 : VRep RPacket w22 (Add g2 (Add g1 M)) ({ From := x14, To := (W ((W (x8.1 * 16384)) + x9.1)), Port := x10.1, Proto := x4.1 } : Packet) (.agg #[(Zv x14), (Zv (W ((W (x8.1 * 16384)) + x9.1))), (Zv x10.1), (Zv x4.1)]) := shut_Packet
    obtain rfl := sj h
    exact ew_ret (res1 Z (.cell Z (own_loadVarA ho59 (Tryd.isAgg38 _) (Tryd.sizeOf38 _) Z))) ⟨_, Z, ⟨(hw4.mono hC22.back), ho60⟩, hC22.bx⟩
   ·
    obtain rfl := hbb3.trans hc3
    refine cw_false Z (cw_seq (cw_region (lw_op Z Z Z (ow_eqlI Z Z Z fun bb4 hbb4 => lw_op Z Z Z (ow_assign Z Z (lw_nil (ew_then ?_)))))))
    replace h := cond_some h
    rcases h with ⟨hc4, h⟩ | ⟨hc4, h⟩
    ·
     obtain rfl := hbb4.trans hc4
     refine cw_true Z (cw_region (lw_op Z Z Z (ow_buildSlice (R := RInt) (xs := [(-1), 65536]) (cs := #[(Zv (-1)), (Zv 65536)]) (e := 3) Z Z (by kernel_rfl) Z Z ⟨_, _, Z, (vint _).cells, _, _, Z, (vint _).cells, Z⟩ hC18 fun p3 w23 hw5 hb23 hl23 hC23 => ?_)))
     have ho62 := ho47.no hb23
     have ho63 := ho48.no hb23
     have ho64 := ho49.no hb23
     refine lw_op Z Z Z (ow_move Z Z ?_)
     have lz8 := (((lz6.trans hl17).trans hl18).trans hl23)
     replace h := bind_some h
     obtain ⟨x15, hx15, h⟩ := h
     refine lw_op Z Z Z (ow_call Z Z Tryd.call60 (w_spec_l20Rd_pick (hG.mono lz8) hC23.old (VRep.mono lz8 hxs) ho62 hm3 hx15) fun v15 w24 hv15 => ?_)
     obtain ⟨⟨hv15, ho65⟩, hb24⟩ := hv15
     have hl24 := Le.of_bx (Add g2 (Add g1 M)) hb24 (fun b e => (by rw [show b = g from e]; exact hm3))
     have hC24 := hC23.go hb24 (fun b e => Or.inr e)
     have ho66 := ho63.go hb24 (fun e => hn1 e.symm)
     have ho67 := ho64.go hb24 (fun e => hn2 e.symm)
     obtain rfl := vint_eq hv15
     replace h := bind_some h
     obtain ⟨x16, hx16, h⟩ := h
     refine lw_op Z Z Z (ow_indexSlice (R := RInt) Z Z Z (VRep.mono hl24 hw5) Tryd.underlying52 (Tryd.sizeOf3 _) hx16 fun p4 hp4 => lw_op Z Z Z (ow_load (R := RInt) Z Z hp4 (Tryd.sizeOf3 _) (Tryd.isAgg3 _) fun v16 hv16 => ?_))
     obtain rfl := vint_eq hv16
     refine lw_op Z Z Z (ow_fieldAddr Z Z Tryd.underlying38 Z (Tryd.sizeOf3 _) (lw_op0 Z Z (ow_store (X := (One g)) (us := [(Zv x16)]) (cs' := #[(Zv (W ((W (x6.1 * 256)) + x7.1))), (Zv x16), (Zv x10.1), (Zv x4.1)]) Z Z Z Z ho67 (Tryd.sizeOf3 _) Z Z Z Z hm5 (.inl hg4) Z hC24 fun w25 ho68 hb25 hl25 hC25 => ?_)))
     have ho69 := ho65.go hb25 (fun e => hn2 e)
     have ho70 := ho66.go hb25 (fun e => hn3 e)
     refine lw_nil (ew_blockN (ew_then (cw_seq (cw_region (lw_op Z Z Z (ow_loadOwnA Z Z Z ho68 (Tryd.isAgg38 _) (Tryd.sizeOf38 _) Z (lw_op0 Z Z (ow_store (X := (One g)) (us := [(Zv (W ((W (x6.1 * 256)) + x7.1))), (Zv x16), (Zv x10.1), (Zv x4.1)]) (cs' := #[(Zv (W ((W (x6.1 * 256)) + x7.1))), (Zv x16), (Zv x10.1), (Zv x4.1)]) Z Z Z Z ho70 (Tryd.sizeOf38 _) Z Z Z Z hm4 (.inl hg2) Z hC25 fun w26 ho71 hb26 hl26 hC26 => ?_))))))))
     have ho72 := ho69.go hb26 (fun e => hn1 e)
     refine lw_nil (ew_then (cw_ret ?_))
     have hw7 : VRep RPacket w26 (Add g2 (Add g1 M)) ({ From := (W ((W (x6.1 * 256)) + x7.1)), To := x16, Port := x10.1, Proto := x4.1 } : Packet) (.agg #[(Zv (W ((W (x6.1 * 256)) + x7.1))), (Zv x16), (Zv x10.1), (Zv x4.1)]) := shut_Packet
     obtain rfl := sj h
     exact ew_ret (res1 Z (.cell Z (own_loadVarA ho71 (Tryd.isAgg38 _) (Tryd.sizeOf38 _) Z))) ⟨_, Z, ⟨(hw7.mono hC26.back), ho72⟩, hC26.bx⟩
    ·
     obtain rfl := hbb4.trans hc4
     refine cw_false Z (cw_seq (cw_region (lw_op Z Z Z (ow_eqlI Z Z Z fun bb5 hbb5 => lw_op Z Z Z (ow_assign Z Z (lw_nil (ew_then ?_)))))))
     replace h := cond_some h
     rcases h with ⟨hc5, h⟩ | ⟨hc5, h⟩
     ·
      obtain rfl := hbb5.trans hc5
      refine cw_true Z (cw_region (lw_op Z Z Z (ow_buildSlice (R := RInt) (xs := [(-1), 256]) (cs := #[(Zv (-1)), (Zv 256)]) (e := 3) Z Z (by kernel_rfl) Z Z ⟨_, _, Z, (vint _).cells, _, _, Z, (vint _).cells, Z⟩ hC18 fun p5 w27 hw8 hb27 hl27 hC27 => ?_)))
      have ho74 := ho47.no hb27
      have ho75 := ho48.no hb27
      have ho76 := ho49.no hb27
      refine lw_op Z Z Z (ow_move Z Z ?_)
      have lz9 := (((lz6.trans hl17).trans hl18).trans hl27)
      replace h := bind_some h
      obtain ⟨x17, hx17, h⟩ := h
      refine lw_op Z Z Z (ow_call Z Z Tryd.call60 (w_spec_l20Rd_pick (hG.mono lz9) hC27.old (VRep.mono lz9 hxs) ho74 hm3 hx17) fun v17 w28 hv17 => ?_)
      obtain ⟨⟨hv17, ho77⟩, hb28⟩ := hv17
      have hl28 := Le.of_bx (Add g2 (Add g1 M)) hb28 (fun b e => (by rw [show b = g from e]; exact hm3))
      have hC28 := hC27.go hb28 (fun b e => Or.inr e)
      have ho78 := ho75.go hb28 (fun e => hn1 e.symm)
      have ho79 := ho76.go hb28 (fun e => hn2 e.symm)
      obtain rfl := vint_eq hv17
      replace h := bind_some h
      obtain ⟨x18, hx18, h⟩ := h
      refine lw_op Z Z Z (ow_indexSlice (R := RInt) Z Z Z (VRep.mono hl28 hw8) Tryd.underlying52 (Tryd.sizeOf3 _) hx18 fun p6 hp6 => lw_op Z Z Z (ow_load (R := RInt) Z Z hp6 (Tryd.sizeOf3 _) (Tryd.isAgg3 _) fun v18 hv18 => ?_))
      obtain rfl := vint_eq hv18
      refine lw_op Z Z Z (ow_fieldAddr Z Z Tryd.underlying38 Z (Tryd.sizeOf3 _) (lw_op0 Z Z (ow_store (X := (One g)) (us := [(Zv x18)]) (cs' := #[(Zv (W ((W (x6.1 * 256)) + x7.1))), (Zv (W ((W (x8.1 * 16384)) + x9.1))), (Zv x18), (Zv x4.1)]) Z Z Z Z ho79 (Tryd.sizeOf3 _) Z Z Z Z hm5 (.inl hg4) Z hC28 fun w29 ho80 hb29 hl29 hC29 => ?_)))
      have ho81 := ho77.go hb29 (fun e => hn2 e)
      have ho82 := ho78.go hb29 (fun e => hn3 e)
      refine lw_nil (ew_blockN (ew_then (cw_seq (cw_region (lw_op Z Z Z (ow_loadOwnA Z Z Z ho80 (Tryd.isAgg38 _) (Tryd.sizeOf38 _) Z (lw_op0 Z Z (ow_store (X := (One g)) (us := [(Zv (W ((W (x6.1 * 256)) + x7.1))), (Zv (W ((W (x8.1 * 16384)) + x9.1))), (Zv x18), (Zv x4.1)]) (cs' := #[(Zv (W ((W (x6.1 * 256)) + x7.1))), (Zv (W ((W (x8.1 * 16384)) + x9.1))), (Zv x18), (Zv x4.1)]) Z Z Z Z ho82 (Tryd.sizeOf38 _) Z Z Z Z hm4 (.inl hg2) Z hC29 fun w30 ho83 hb30 hl30 hC30 => ?_))))))))
      have ho84 := ho81.go hb30 (fun e => hn1 e)
      refine lw_nil (ew_then (cw_ret ?_))
      have hw10 : VRep RPacket w30 (Add g2 (Add g1 M)) ({ From := (W ((W (x6.1 * 256)) + x7.1)), To := (W ((W (x8.1 * 16384)) + x9.1)), Port := x18, Proto := x4.1 } : Packet) (.agg #[(Zv (W ((W (x6.1 * 256)) + x7.1))), (Zv (W ((W (x8.1 * 16384)) + x9.1))), (Zv x18), (Zv x4.1)]) := shut_Packet
      obtain rfl := sj h
      exact ew_ret (res1 Z (.cell Z (own_loadVarA ho83 (Tryd.isAgg38 _) (Tryd.sizeOf38 _) Z))) ⟨_, Z, ⟨(hw10.mono hC30.back), ho84⟩, hC30.bx⟩
     ·
      obtain rfl := hbb5.trans hc5
      refine cw_false Z (cw_region (lw_op Z Z Z (ow_buildSlice (R := RInt) (xs := [(-1), 8]) (cs := #[(Zv (-1)), (Zv 8)]) (e := 3) Z Z (by kernel_rfl) Z Z ⟨_, _, Z, (vint _).cells, _, _, Z, (vint _).cells, Z⟩ hC18 fun p7 w31 hw11 hb31 hl31 hC31 => ?_)))
      have ho86 := ho47.no hb31
      have ho87 := ho48.no hb31
      have ho88 := ho49.no hb31
      refine lw_op Z Z Z (ow_move Z Z ?_)
      have lz10 := (((lz6.trans hl17).trans hl18).trans hl31)
      replace h := bind_some h
      obtain ⟨x19, hx19, h⟩ := h
      refine lw_op Z Z Z (ow_call Z Z Tryd.call60 (w_spec_l20Rd_pick (hG.mono lz10) hC31.old (VRep.mono lz10 hxs) ho86 hm3 hx19) fun v19 w32 hv19 => ?_)
      obtain ⟨⟨hv19, ho89⟩, hb32⟩ := hv19
      have hl32 := Le.of_bx (Add g2 (Add g1 M)) hb32 (fun b e => (by rw [show b = g from e]; exact hm3))
      have hC32 := hC31.go hb32 (fun b e => Or.inr e)
      have ho90 := ho87.go hb32 (fun e => hn1 e.symm)
      have ho91 := ho88.go hb32 (fun e => hn2 e.symm)
      obtain rfl := vint_eq hv19
      replace h := bind_some h
      obtain ⟨x20, hx20, h⟩ := h
      refine lw_op Z Z Z (ow_indexSlice (R := RInt) Z Z Z (VRep.mono hl32 hw11) Tryd.underlying52 (Tryd.sizeOf3 _) hx20 fun p8 hp8 => lw_op Z Z Z (ow_load (R := RInt) Z Z hp8 (Tryd.sizeOf3 _) (Tryd.isAgg3 _) fun v20 hv20 => ?_))
      obtain rfl := vint_eq hv20
      refine lw_op Z Z Z (ow_fieldAddr Z Z Tryd.underlying38 Z (Tryd.sizeOf3 _) (lw_op0 Z Z (ow_store (X := (One g)) (us := [(Zv x20)]) (cs' := #[(Zv (W ((W (x6.1 * 256)) + x7.1))), (Zv (W ((W (x8.1 * 16384)) + x9.1))), (Zv x10.1), (Zv x20)]) Z Z Z Z ho91 (Tryd.sizeOf3 _) Z Z Z Z hm5 (.inl hg4) Z hC32 fun w33 ho92 hb33 hl33 hC33 => ?_)))
      have ho93 := ho89.go hb33 (fun e => hn2 e)
      have ho94 := ho90.go hb33 (fun e => hn3 e)
      refine lw_nil (ew_blockN (ew_then (cw_seq (cw_region (lw_op Z Z Z (ow_loadOwnA Z Z Z ho92 (Tryd.isAgg38 _) (Tryd.sizeOf38 _) Z (lw_op0 Z Z (ow_store (X := (One g)) (us := [(Zv (W ((W (x6.1 * 256)) + x7.1))), (Zv (W ((W (x8.1 * 16384)) + x9.1))), (Zv x10.1), (Zv x20)]) (cs' := #[(Zv (W ((W (x6.1 * 256)) + x7.1))), (Zv (W ((W (x8.1 * 16384)) + x9.1))), (Zv x10.1), (Zv x20)]) Z Z Z Z ho94 (Tryd.sizeOf38 _) Z Z Z Z hm4 (.inl hg2) Z hC33 fun w34 ho95 hb34 hl34 hC34 => ?_))))))))
      have ho96 := ho93.go hb34 (fun e => hn1 e)
      refine lw_nil (ew_then (cw_ret ?_))
      have hw13 : VRep RPacket w34 (Add g2 (Add g1 M)) ({ From := (W ((W (x6.1 * 256)) + x7.1)), To := (W ((W (x8.1 * 16384)) + x9.1)), Port := x10.1, Proto := x20 } : Packet) (.agg #[(Zv (W ((W (x6.1 * 256)) + x7.1))), (Zv (W ((W (x8.1 * 16384)) + x9.1))), (Zv x10.1), (Zv x20)]) := shut_Packet
      obtain rfl := sj h
      exact ew_ret (res1 Z (.cell Z (own_loadVarA ho95 (Tryd.isAgg38 _) (Tryd.sizeOf38 _) Z))) ⟨_, Z, ⟨(hw13.mono hC34.back), ho96⟩, hC34.bx⟩
  ·
   obtain rfl := hbb2.trans hc2
   refine cw_false Z (cw_skip (ew_then (cw_seq (cw_region (lw_op Z Z Z (ow_loadOwnA Z Z Z ho46 (Tryd.isAgg38 _) (Tryd.sizeOf38 _) Z (lw_op0 Z Z (ow_store (X := (One g)) (us := [(Zv (W ((W (x6.1 * 256)) + x7.1))), (Zv (W ((W (x8.1 * 16384)) + x9.1))), (Zv x10.1), (Zv x4.1)]) (cs' := #[(Zv (W ((W (x6.1 * 256)) + x7.1))), (Zv (W ((W (x8.1 * 16384)) + x9.1))), (Zv x10.1), (Zv x4.1)]) Z Z Z Z ho45 (Tryd.sizeOf38 _) Z Z Z Z hm4 (.inl hg2) Z hC17 fun w35 ho98 hb35 hl35 hC35 => ?_))))))))
   have ho99 := ho44.go hb35 (fun e => hn1 e)
   refine lw_nil (ew_then (cw_ret ?_))
   have hw15 : VRep RPacket w35 (Add g2 (Add g1 M)) ({ From := (W ((W (x6.1 * 256)) + x7.1)), To := (W ((W (x8.1 * 16384)) + x9.1)), Port := x10.1, Proto := x4.1 } : Packet) (.agg #[(Zv (W ((W (x6.1 * 256)) + x7.1))), (Zv (W ((W (x8.1 * 16384)) + x9.1))), (Zv x10.1), (Zv x4.1)]) := shut_Packet
   obtain rfl := sj h
   exact ew_ret (res1 Z (.cell Z (own_loadVarA ho98 (Tryd.isAgg38 _) (Tryd.sizeOf38 _) Z))) ⟨_, Z, ⟨(hw15.mono hC35.back), ho99⟩, hC35.bx⟩
 ·
  obtain rfl := hbb1.trans hc1
  refine cw_false Z (cw_skip (ew_then (cw_seq (cw_seq (cw_region (lw_op Z Z Z (ow_move Z Z (lw_op Z Z Z (ow_move Z Z ?_)))))))))
  replace h := bind_some h
  obtain ⟨x21, hx21, h⟩ := h
  refine lw_op Z Z Z (ow_call Z Z Tryd.call81 (w_spec_l20Rd_odd (hG.mono (lz2.trans hl8)) hC8.old (VRep.mono (lz2.trans hl8) hxs) ho17 hm3 hx21) fun v21 w36 hv21 => ?_)
  obtain ⟨⟨hv21, ho101⟩, hb36⟩ := hv21
  have hl36 := Le.of_bx (Add g2 (Add g1 M)) hb36 (fun b e => (by rw [show b = g from e]; exact hm3))
  have hC36 := hC8.go hb36 (fun b e => Or.inr e)
  have ho102 := ho18.go hb36 (fun e => hn1 e.symm)
  have ho103 := ho19.go hb36 (fun e => hn2 e.symm)
  obtain ⟨bb6, hbb6, rfl⟩ := vbool_ex hv21
  refine lw_nil (ew_then ?_)
  replace h := cond_some h
  rcases h with ⟨hc6, h⟩ | ⟨hc6, h⟩
  ·
   obtain rfl := hbb6.trans hc6
   refine cw_true Z (cw_seq (cw_region (lw_op Z Z Z (ow_move Z Z ?_))))
   have lz11 := ((lz2.trans hl8).trans hl36)
   replace h := bind_some h
   obtain ⟨x22, hx22, h⟩ := h
   refine lw_op Z Z Z (ow_call Z Z Tryd.call60 (w_spec_l20Rd_pick (hG.mono lz11) hC36.old (VRep.mono lz11 hxs) ho101 hm3 hx22) fun v22 w37 hv22 => ?_)
   obtain ⟨⟨hv22, ho104⟩, hb37⟩ := hv22
   have hl37 := Le.of_bx (Add g2 (Add g1 M)) hb37 (fun b e => (by rw [show b = g from e]; exact hm3))
   have hC37 := hC36.go hb37 (fun b e => Or.inr e)
   have ho105 := ho102.go hb37 (fun e => hn1 e.symm)
   have ho106 := ho103.go hb37 (fun e => hn2 e.symm)
   obtain rfl := vint_eq hv22
   refine lw_nil (ew_then (cw_block (cw_seq (cw_region (lw_op Z Z Z (ow_eqlI Z Z Z fun bb7 hbb7 => lw_op Z Z Z (ow_assign Z Z (lw_nil (ew_then ?_)))))))))
   replace h := cond_some h
   rcases h with ⟨hc7, h⟩ | ⟨hc7, h⟩
   ·
    obtain rfl := hbb7.trans hc7
    refine cw_true Z (cw_region (lw_op Z Z Z (ow_buildSlice (R := RInt) (xs := [(-1), 65536]) (cs := #[(Zv (-1)), (Zv 65536)]) (e := 3) Z Z (by kernel_rfl) Z Z ⟨_, _, Z, (vint _).cells, _, _, Z, (vint _).cells, Z⟩ hC37 fun p9 w38 hw16 hb38 hl38 hC38 => ?_)))
    have ho107 := ho104.no hb38
    have ho108 := ho105.no hb38
    have ho109 := ho106.no hb38
    refine lw_op Z Z Z (ow_move Z Z ?_)
    have lz12 := ((lz11.trans hl37).trans hl38)
    replace h := bind_some h
    obtain ⟨x23, hx23, h⟩ := h
    refine lw_op Z Z Z (ow_call Z Z Tryd.call60 (w_spec_l20Rd_pick (hG.mono lz12) hC38.old (VRep.mono lz12 hxs) ho107 hm3 hx23) fun v23 w39 hv23 => ?_)
    obtain ⟨⟨hv23, ho110⟩, hb39⟩ := hv23
    have hl39 := Le.of_bx (Add g2 (Add g1 M)) hb39 (fun b e => (by rw [show b = g from e]; exact hm3))
    have hC39 := hC38.go hb39 (fun b e => Or.inr e)
    have ho111 := ho108.go hb39 (fun e => hn1 e.symm)
    have ho112 := ho109.go hb39 (fun e => hn2 e.symm)
    obtain rfl := vint_eq hv23
    replace h := bind_some h
    obtain ⟨x24, hx24, h⟩ := h
    refine lw_op Z Z Z (ow_indexSlice (R := RInt) Z Z Z (VRep.mono hl39 hw16) Tryd.underlying52 (Tryd.sizeOf3 _) hx24 fun p10 hp10 => lw_op Z Z Z (ow_load (R := RInt) Z Z hp10 (Tryd.sizeOf3 _) (Tryd.isAgg3 _) fun v24 hv24 => ?_))
    obtain rfl := vint_eq hv24
    refine lw_op Z Z Z (ow_fieldAddr Z Z Tryd.underlying38 Z (Tryd.sizeOf3 _) (lw_op0 Z Z (ow_store (X := (One g)) (us := [(Zv x24)]) (cs' := #[(Zv x24), (Zv x2.1), (Zv x3.1), (Zv x4.1)]) Z Z Z Z ho112 (Tryd.sizeOf3 _) Z Z Z Z hm5 (.inl hg4) Z hC39 fun w40 ho113 hb40 hl40 hC40 => ?_)))
    have ho114 := ho110.go hb40 (fun e => hn2 e)
    have ho115 := ho111.go hb40 (fun e => hn3 e)
    refine lw_nil (ew_blockN (ew_then (cw_seq (cw_region (lw_op Z Z Z (ow_loadOwnA Z Z Z ho113 (Tryd.isAgg38 _) (Tryd.sizeOf38 _) Z (lw_op0 Z Z (ow_store (X := (One g)) (us := [(Zv x24), (Zv x2.1), (Zv x3.1), (Zv x4.1)]) (cs' := #[(Zv x24), (Zv x2.1), (Zv x3.1), (Zv x4.1)]) Z Z Z Z ho115 (Tryd.sizeOf38 _) Z Z Z Z hm4 (.inl hg2) Z hC40 fun w41 ho116 hb41 hl41 hC41 => ?_))))))))
    have ho117 := ho114.go hb41 (fun e => hn1 e)
    refine lw_nil (ew_then (cw_ret ?_))
    have hw18 : VRep RPacket w41 (Add g2 (Add g1 M)) ({ From := x24, To := x2.1, Port := x3.1, Proto := x4.1 } : Packet) (.agg #[(Zv x24), (Zv x2.1), (Zv x3.1), (Zv x4.1)]) := shut_Packet
    obtain rfl := sj h
    exact ew_ret (res1 Z (.cell Z (own_loadVarA ho116 (Tryd.isAgg38 _) (Tryd.sizeOf38 _) Z))) ⟨_, Z, ⟨(hw18.mono hC41.back), ho117⟩, hC41.bx⟩
   ·
    obtain rfl := hbb7.trans hc7
    refine cw_false Z (cw_seq (cw_region (lw_op Z Z Z (ow_eqlI Z Z Z fun bb8 hbb8 => lw_op Z Z Z (ow_assign Z Z (lw_nil (ew_then ?_)))))))
    replace h := cond_some h
    rcases h with ⟨hc8, h⟩ | ⟨hc8, h⟩
    ·
     obtain rfl := hbb8.trans hc8
     refine cw_true Z (cw_region (lw_op Z Z Z (ow_buildSlice (R := RInt) (xs := [(-1), 65536]) (cs := #[(Zv (-1)), (Zv 65536)]) (e := 3) Z Z (by kernel_rfl) Z Z ⟨_, _, Z, (vint _).cells, _, _, Z, (vint _).cells, Z⟩ hC37 fun p11 w42 hw19 hb42 hl42 hC42 => ?_)))
     have ho119 := ho104.no hb42
     have ho120 := ho105.no hb42
     have ho121 := ho106.no hb42
     refine lw_op Z Z Z (ow_move Z Z ?_)
     have lz13 := ((lz11.trans hl37).trans hl42)
     replace h := bind_some h
     obtain ⟨x25, hx25, h⟩ := h
     refine lw_op Z Z Z (ow_call Z Z Tryd.call60 (w_spec_l20Rd_pick (hG.mono lz13) hC42.old (VRep.mono lz13 hxs) ho119 hm3 hx25) fun v25 w43 hv25 => ?_)
     obtain ⟨⟨hv25, ho122⟩, hb43⟩ := hv25
     have hl43 := Le.of_bx (Add g2 (Add g1 M)) hb43 (fun b e => (by rw [show b = g from e]; exact hm3))
     have hC43 := hC42.go hb43 (fun b e => Or.inr e)
     have ho123 := ho120.go hb43 (fun e => hn1 e.symm)
     have ho124 := ho121.go hb43 (fun e => hn2 e.symm)
     obtain rfl := vint_eq hv25
     replace h := bind_some h
     obtain ⟨x26, hx26, h⟩ := h
     refine lw_op Z Z Z (ow_indexSlice (R := RInt) Z Z Z (VRep.mono hl43 hw19) Tryd.underlying52 (Tryd.sizeOf3 _) hx26 fun p12 hp12 => lw_op Z Z Z (ow_load (R := RInt) Z Z hp12 (Tryd.sizeOf3 _) (Tryd.isAgg3 _) fun v26 hv26 => ?_))
     obtain rfl := vint_eq hv26
     refine lw_op Z Z Z (ow_fieldAddr Z Z Tryd.underlying38 Z (Tryd.sizeOf3 _) (lw_op0 Z Z (ow_store (X := (One g)) (us := [(Zv x26)]) (cs' := #[(Zv x1.1), (Zv x26), (Zv x3.1), (Zv x4.1)]) Z Z Z Z ho124 (Tryd.sizeOf3 _) Z Z Z Z hm5 (.inl hg4) Z hC43 fun w44 ho125 hb44 hl44 hC44 => ?_)))
     have ho126 := ho122.go hb44 (fun e => hn2 e)
     have ho127 := ho123.go hb44 (fun e => hn3 e)
     refine lw_nil (ew_blockN (ew_then (cw_seq (cw_region (lw_op Z Z Z (ow_loadOwnA Z Z Z ho125 (Tryd.isAgg38 _) (Tryd.sizeOf38 _) Z (lw_op0 Z Z (ow_store (X := (One g)) (us := [(Zv x1.1), (Zv x26), (Zv x3.1), (Zv x4.1)]) (cs' := #[(Zv x1.1), (Zv x26), (Zv x3.1), (Zv x4.1)]) Z Z Z Z ho127 (Tryd.sizeOf38 _) Z Z Z Z hm4 (.inl hg2) Z hC44 fun w45 ho128 hb45 hl45 hC45 => ?_))))))))
     have ho129 := ho126.go hb45 (fun e => hn1 e)
     refine lw_nil (ew_then (cw_ret ?_))
     have hw21 : VRep RPacket w45 (Add g2 (Add g1 M)) ({ From := x1.1, To := x26, Port := x3.1, Proto := x4.1 } : Packet) (.agg #[(Zv x1.1), (Zv x26), (Zv x3.1), (Zv x4.1)]) := shut_Packet
     obtain rfl := sj h
     exact ew_ret (res1 Z (.cell Z (own_loadVarA ho128 (Tryd.isAgg38 _) (Tryd.sizeOf38 _) Z))) ⟨_, Z, ⟨(hw21.mono hC45.back), ho129⟩, hC45.bx⟩
    ·
     obtain rfl := hbb8.trans hc8
     refine cw_false Z (cw_seq (cw_region (lw_op Z Z Z (ow_eqlI Z Z Z fun bb9 hbb9 => lw_op Z Z Z (ow_assign Z Z (lw_nil (ew_then ?_)))))))
     replace h := cond_some h
     rcases h with ⟨hc9, h⟩ | ⟨hc9, h⟩
     ·
      obtain rfl := hbb9.trans hc9
      refine cw_true Z (cw_region (lw_op Z Z Z (ow_buildSlice (R := RInt) (xs := [(-1), 256]) (cs := #[(Zv (-1)), (Zv 256)]) (e := 3) Z Z (by kernel_rfl) Z Z ⟨_, _, Z, (vint _).cells, _, _, Z, (vint _).cells, Z⟩ hC37 fun p13 w46 hw22 hb46 hl46 hC46 => ?_)))
      have ho131 := ho104.no hb46
      have ho132 := ho105.no hb46
      have ho133 := ho106.no hb46
      refine lw_op Z Z Z (ow_move Z Z ?_)
      have lz14 := ((lz11.trans hl37).trans hl46)
      replace h := bind_some h
      obtain ⟨x27, hx27, h⟩ := h
      refine lw_op Z Z Z (ow_call Z Z Tryd.call60 (w_spec_l20Rd_pick (hG.mono lz14) hC46.old (VRep.mono lz14 hxs) ho131 hm3 hx27) fun v27 w47 hv27 => ?_)
      obtain ⟨⟨hv27, ho134⟩, hb47⟩ := hv27
      have hl47 := Le.of_bx (Add g2 (Add g1 M)) hb47 (fun b e => (by rw [show b = g from e]; exact hm3))
      have hC47 := hC46.go hb47 (fun b e => Or.inr e)
      have ho135 := ho132.go hb47 (fun e => hn1 e.symm)
      have ho136 := ho133.go hb47 (fun e => hn2 e.symm)
      obtain rfl := vint_eq hv27
      replace h := bind_some h
      obtain ⟨x28, hx28, h⟩ := h
      refine lw_op Z Z Z (ow_indexSlice (R := RInt) Z Z Z (VRep.mono hl47 hw22) Tryd.underlying52 (Tryd.sizeOf3 _) hx28 fun p14 hp14 => lw_op Z Z Z (ow_load (R := RInt) Z Z hp14 (Tryd.sizeOf3 _) (Tryd.isAgg3 _) fun v28 hv28 => ?_))
      obtain rfl := vint_eq hv28
      refine lw_op Z Z Z (ow_fieldAddr Z Z Tryd.underlying38 Z (Tryd.sizeOf3 _) (lw_op0 Z Z (ow_store (X := (One g)) (us := [(Zv x28)]) (cs' := #[(Zv x1.1), (Zv x2.1), (Zv x28), (Zv x4.1)]) Z Z Z Z ho136 (Tryd.sizeOf3 _) Z Z Z Z hm5 (.inl hg4) Z hC47 fun w48 ho137 hb48 hl48 hC48 => ?_)))
      have ho138 := ho134.go hb48 (fun e => hn2 e)
      have ho139 := ho135.go hb48 (fun e => hn3 e)
      refine lw_nil (ew_blockN (ew_then (cw_seq (cw_region (lw_op Z Z Z (ow_loadOwnA Z Z Z ho137 (Tryd.isAgg38 _) (Tryd.sizeOf38 _) Z (lw_op0 Z Z (ow_store (X := (One g)) (us := [(Zv x1.1), (Zv x2.1), (Zv x28), (Zv x4.1)]) (cs' := #[(Zv x1.1), (Zv x2.1), (Zv x28), (Zv x4.1)]) Z Z Z Z ho139 (Tryd.sizeOf38 _) Z Z Z Z hm4 (.inl hg2) Z hC48 fun w49 ho140 hb49 hl49 hC49 => ?_))))))))
      have ho141 := ho138.go hb49 (fun e => hn1 e)
      refine lw_nil (ew_then (cw_ret ?_))
      have hw24 : VRep RPacket w49 (Add g2 (Add g1 M)) ({ From := x1.1, To := x2.1, Port := x28, Proto := x4.1 } : Packet) (.agg #[(Zv x1.1), (Zv x2.1), (Zv x28), (Zv x4.1)]) := shut_Packet
      obtain rfl := sj h
      exact ew_ret (res1 Z (.cell Z (own_loadVarA ho140 (Tryd.isAgg38 _) (Tryd.sizeOf38 _) Z))) ⟨_, Z, ⟨(hw24.mono hC49.back), ho141⟩, hC49.bx⟩
     ·
      obtain rfl := hbb9.trans hc9
      refine cw_false Z (cw_region (lw_op Z Z Z (ow_buildSlice (R := RInt) (xs := [(-1), 8]) (cs := #[(Zv (-1)), (Zv 8)]) (e := 3) Z Z (by kernel_rfl) Z Z ⟨_, _, Z, (vint _).cells, _, _, Z, (vint _).cells, Z⟩ hC37 fun p15 w50 hw25 hb50 hl50 hC50 => ?_)))
      have ho143 := ho104.no hb50
      have ho144 := ho105.no hb50
      have ho145 := ho106.no hb50
      refine lw_op Z Z Z (ow_move Z Z ?_)
      have lz15 := ((lz11.trans hl37).trans hl50)
      replace h := bind_some h
      obtain ⟨x29, hx29, h⟩ := h
      refine lw_op Z Z Z (ow_call Z Z Tryd.call60 (w_spec_l20Rd_pick (hG.mono lz15) hC50.old (VRep.mono lz15 hxs) ho143 hm3 hx29) fun v29 w51 hv29 => ?_)
      obtain ⟨⟨hv29, ho146⟩, hb51⟩ := hv29
      have hl51 := Le.of_bx (Add g2 (Add g1 M)) hb51 (fun b e => (by rw [show b = g from e]; exact hm3))
      have hC51 := hC50.go hb51 (fun b e => Or.inr e)
      have ho147 := ho144.go hb51 (fun e => hn1 e.symm)
      have ho148 := ho145.go hb51 (fun e => hn2 e.symm)
      obtain rfl := vint_eq hv29
      replace h := bind_some h
      obtain ⟨x30, hx30, h⟩ := h
      refine lw_op Z Z Z (ow_indexSlice (R := RInt) Z Z Z (VRep.mono hl51 hw25) Tryd.underlying52 (Tryd.sizeOf3 _) hx30 fun p16 hp16 => lw_op Z Z Z (ow_load (R := RInt) Z Z hp16 (Tryd.sizeOf3 _) (Tryd.isAgg3 _) fun v30 hv30 => ?_))
      obtain rfl := vint_eq hv30
      refine lw_op Z Z Z (ow_fieldAddr Z Z Tryd.underlying38 Z (Tryd.sizeOf3 _) (lw_op0 Z Z (ow_store (X := (One g)) (us := [(Zv x30)]) (cs' := #[(Zv x1.1), (Zv x2.1), (Zv x3.1), (Zv x30)]) Z Z Z Z ho148 (Tryd.sizeOf3 _) Z Z Z Z hm5 (.inl hg4) Z hC51 fun w52 ho149 hb52 hl52 hC52 => ?_)))
      have ho150 := ho146.go hb52 (fun e => hn2 e)
      have ho151 := ho147.go hb52 (fun e => hn3 e)
      refine lw_nil (ew_blockN (ew_then (cw_seq (cw_region (lw_op Z Z Z (ow_loadOwnA Z Z Z ho149 (Tryd.isAgg38 _) (Tryd.sizeOf38 _) Z (lw_op0 Z Z (ow_store (X := (One g)) (us := [(Zv x1.1), (Zv x2.1), (Zv x3.1), (Zv x30)]) (cs' := #[(Zv x1.1), (Zv x2.1), (Zv x3.1), (Zv x30)]) Z Z Z Z ho151 (Tryd.sizeOf38 _) Z Z Z Z hm4 (.inl hg2) Z hC52 fun w53 ho152 hb53 hl53 hC53 => ?_))))))))
      have ho153 := ho150.go hb53 (fun e => hn1 e)
      refine lw_nil (ew_then (cw_ret ?_))
      have hw27 : VRep RPacket w53 (Add g2 (Add g1 M)) ({ From := x1.1, To := x2.1, Port := x3.1, Proto := x30 } : Packet) (.agg #[(Zv x1.1), (Zv x2.1), (Zv x3.1), (Zv x30)]) := shut_Packet
      obtain rfl := sj h
      exact ew_ret (res1 Z (.cell Z (own_loadVarA ho152 (Tryd.isAgg38 _) (Tryd.sizeOf38 _) Z))) ⟨_, Z, ⟨(hw27.mono hC53.back), ho153⟩, hC53.bx⟩
  ·
   obtain rfl := hbb6.trans hc6
   refine cw_false Z (cw_skip (ew_then (cw_seq (cw_region (lw_op Z Z Z (ow_loadOwnA Z Z Z ho103 (Tryd.isAgg38 _) (Tryd.sizeOf38 _) Z (lw_op0 Z Z (ow_store (X := (One g)) (us := [(Zv x1.1), (Zv x2.1), (Zv x3.1), (Zv x4.1)]) (cs' := #[(Zv x1.1), (Zv x2.1), (Zv x3.1), (Zv x4.1)]) Z Z Z Z ho102 (Tryd.sizeOf38 _) Z Z Z Z hm4 (.inl hg2) Z hC36 fun w54 ho155 hb54 hl54 hC54 => ?_))))))))
   have ho156 := ho101.go hb54 (fun e => hn1 e)
   refine lw_nil (ew_then (cw_ret ?_))
   have hw29 : VRep RPacket w54 (Add g2 (Add g1 M)) ({ From := x1.1, To := x2.1, Port := x3.1, Proto := x4.1 } : Packet) (.agg #[(Zv x1.1), (Zv x2.1), (Zv x3.1), (Zv x4.1)]) := shut_Packet
   obtain rfl := sj h
   exact ew_ret (res1 Z (.cell Z (own_loadVarA ho155 (Tryd.isAgg38 _) (Tryd.sizeOf38 _) Z))) ⟨_, Z, ⟨(hw29.mono hC54.back), ho156⟩, hC54.bx⟩

theorem w_spec_l20Near {w : World} {M : Nat → Prop} (hG : ARep (RArr 4 RShape) w M shapes ⟨0, 0, none⟩) (hO : ∀ b, M b → b < w.heap.size) {g : Nat} {Ax : Option Addr} {cx : Nat} {a_xs : List Int} {a_pos : Int} (hxs : VRep (RSlice RU8) w M a_xs (.slice Ax a_xs.length cx)) (hown : Own w g 111 #[.slice Ax a_xs.length cx, .int .i64 a_pos]) (hgM : M g) {v1p : Value} {a_list : List Test} (h1 : VRep (RSlice RTest) w M a_list v1p) {a_n : Int} {r : Packet × Int} (h : F.spec_l20Near a_xs a_pos a_list a_n = some r) :
  Calls Tryd.prog 61 [(.pointer (some ⟨g, 0, none⟩)), v1p, (.int .i64 a_n)].toArray w fun e w' => ∃ v, e = .returned v ∧ (VRep RPacket w' M r.1 v ∧ Own w' g 111 #[.slice Ax a_xs.length cx, .int .i64 r.2]) ∧ BX (One g) w w' := by
 have hX : ∀ b, (One g) b → M b := fun b e => e ▸ hgM
 have hC : Cx (One g) w M w M := Cx.start hO hX
 refine walk (N := 85) Tryd.func61 Z Tryd.ntmps61 Z (cw_seq (cw_region (lw_op Z Z Z (ow_alloc Z (Tryd.zeroValue38 _) hC fun g1 w1 hg1 hg2 ho1 hb1 hl1 hC1 => ?_))))
 have hn1 := Nat.ne_of_lt (Nat.lt_of_lt_of_le hown.lt hg1)
 have ho2 := hown.no hb1
 have hm1 : (Add g1 M) g := .inr hgM
 have hm2 : (Add g1 M) g1 := .inl Z
 refine lw_nil (ew_then (cw_seq (cw_region (lw_op Z Z Z (ow_move Z Z (lw_op Z Z Z (ow_move Z Z ?_)))))))
 replace h := bind_some h
 obtain ⟨x1, hx1, h⟩ := h
 refine lw_op Z Z Z (ow_call Z Z Tryd.call90 (w_spec_l20Packet (hG.mono hl1) hC1.old (VRep.mono hl1 hxs) ho2 hm1 hx1) fun v1 w2 hv1 => ?_)
 obtain ⟨⟨hv1, ho3⟩, hb2⟩ := hv1
 have hl2 := Le.of_bx (Add g1 M) hb2 (fun b e => (by rw [show b = g from e]; exact hm1))
 have hC2 := hC1.go hb2 (fun b e => Or.inr e)
 have ho4 := ho1.go hb2 (fun e => hn1 e.symm)
 refine lw_op Z Z Z (ow_alloc Z (Tryd.zeroValue38 _) hC2 fun g2 w3 hg3 hg4 ho5 hb3 hl3 hC3 => ?_)
 have hn2 := Nat.ne_of_lt (Nat.lt_of_lt_of_le ho3.lt hg3)
 have ho6 := ho3.no hb3
 have hm3 : (Add g2 (Add g1 M)) g := .inr hm1
 have hn3 := Nat.ne_of_lt (Nat.lt_of_lt_of_le ho4.lt hg3)
 have ho7 := ho4.no hb3
 have hm4 : (Add g2 (Add g1 M)) g1 := .inr hm2
 have hm5 : (Add g2 (Add g1 M)) g2 := .inl Z
 obtain rfl := open_Packet hv1
 refine lw_op0 Z Z (ow_store (X := (One g)) (us := [(Zv x1.1.From), (Zv x1.1.To), (Zv x1.1.Port), (Zv x1.1.Proto)]) (cs' := #[(Zv x1.1.From), (Zv x1.1.To), (Zv x1.1.Port), (Zv x1.1.Proto)]) Z Z Z Z ho5 (Tryd.sizeOf38 _) Z Z Z Z hm5 (.inl hg4) Z hC3 fun w4 ho8 hb4 hl4 hC4 => ?_)
 have ho9 := ho6.go hb4 (fun e => hn2 e)
 have ho10 := ho7.go hb4 (fun e => hn3 e)
 refine lw_nil (ew_then (cw_seq (cw_seq (cw_region (lw_op Z Z Z (ow_assign Z Z (lw_nil (ew_then ?_))))))))
 replace h := bind_some h
 obtain ⟨lr1, hlr1, h⟩ := h
 refine cw_for hlr1 (fun s a w' => ∃ (M' : Nat → Prop), Fits 85 [(0, (Zw g 0)), (1, v1p), (6, (Zw g1 0)), (7, (Zw g2 0)), (8, (Zv s.1))] a ∧ Le w4 (Add g2 (Add g1 M)) w' M' ∧ Cx (One g) w M w' M' ∧ Own w' g 111 #[(.slice Ax a_xs.length cx), (Zv s.2.1)] ∧ M' g ∧ Own w' g1 38 #[(Zv 0), (Zv 0), (Zv 0), (Zv 0)] ∧ M' g1 ∧ Own w' g2 38 #[(Zv s.2.2.1), (Zv s.2.2.2.1), (Zv s.2.2.2.2.1), (Zv s.2.2.2.2.2)] ∧ M' g2) ?_ ?_ ?_
 · exact fun a ha => ⟨(Add g2 (Add g1 M)), ha.sub ⟨Z, Z, Z, Z, Z, Zt⟩, Le.refl _ _, hC4, ho9, hm3, ho10, hm4, ho8, hm5⟩
 ·
  rintro ⟨k1, k2, k3, k4, k5, k6⟩ a w5 sr1 ⟨M1, hF1, hl5, hC5, ho11, hm6, ho12, hm7, ho13, hm8⟩ hb5 hR1
  refine cw_at (E := [(0, (Zw g 0)), (1, v1p), (6, (Zw g1 0)), (7, (Zw g2 0)), (8, (Zv k1))]) hF1 (cw_seq (cw_seq (cw_region (lw_op Z Z Z (ow_move Z Z (lw_op Z Z Z (ow_move Z Z ?_)))))))
  have lz1 := ((((hl1.trans hl2).trans hl3).trans hl4).trans hl5)
  refine lw_op Z Z Z (ow_len Z Z (VRep.mono lz1 h1) Tryd.underlying27 Z (lw_op Z Z Z (ow_lss Z Z Z fun bb1 hbb1 => lw_nil (ew_then ?_))))
  replace hb5 := cond_some hb5
  rcases hb5 with ⟨hc1, hb5⟩ | ⟨hc1, hb5⟩
  ·
   obtain rfl := hbb1.trans hc1
   refine cw_true Z (cw_skip (ew_then (cw_seq (cw_block (cw_seq (cw_seq (cw_region (lw_op Z Z Z (ow_move Z Z (lw_op Z Z Z (ow_move Z Z ?_)))))))))))
   replace hb5 := bind_some hb5
   obtain ⟨x2, hx2, hb5⟩ := hb5
   refine lw_op Z Z Z (ow_indexSlice (R := RTest) Z Z Z (VRep.mono lz1 h1) Tryd.underlying27 (Tryd.sizeOf31 _) hx2 fun p1 hp1 => lw_op Z Z Z (ow_load (R := RTest) Z Z hp1 (Tryd.sizeOf31 _) (Tryd.isAgg31 _) fun v8 hv8 => ?_))
   replace hb5 := bind_some hb5
   obtain ⟨x3, hx3, hb5⟩ := hb5
   refine lw_op Z Z Z (ow_call Z Z Tryd.call91 (w_spec_TestValid (hG.mono lz1) hC5.old hv8 hx3) fun v9 w6 hv9 => ?_)
   obtain ⟨hv9, hb6⟩ := hv9
   have hl6 := Le.no M1 hb6
   have hC6 := hC5.no hb6
   have ho14 := ho11.no hb6
   have ho15 := ho12.no hb6
   have ho16 := ho13.no hb6
   obtain rfl := vbool_eq hv9
   refine lw_op Z Z Z (ow_not Z Z (lw_op Z Z Z (ow_move Z Z ?_)))
   replace hb5 := cond_some hb5
   rcases hb5 with ⟨hc2, hb5⟩ | ⟨hc2, hb5⟩
   ·
    subst hc2
    refine lw_on Z Z Z Z Z Z (ow_move Z Z ?_)
    replace hb5 := bind_some hb5
    obtain ⟨x4, hx4, hb5⟩ := hb5
    refine lw_on Z Z Z Z Z Z (ow_call Z Z Tryd.call60 (w_spec_l20Rd_pick (hG.mono (lz1.trans hl6)) hC6.old (VRep.mono (lz1.trans hl6) hxs) ho14 hm6 hx4) fun v10 w7 hv10 => ?_)
    obtain ⟨⟨hv10, ho17⟩, hb7⟩ := hv10
    have hl7 := Le.of_bx M1 hb7 (fun b e => (by rw [show b = g from e]; exact hm6))
    have hC7 := hC6.go hb7 (fun b e => Or.inr e)
    have ho18 := ho15.go hb7 (fun e => hn1 e.symm)
    have ho19 := ho16.go hb7 (fun e => hn2 e.symm)
    obtain rfl := vint_eq hv10
    refine lw_on Z Z Z Z Z Z (ow_eqlI Z Z Z fun bb2 hbb2 => lw_op Z Z Z (ow_pickF Z Z Z (lw_nil (ew_then ?_))))
    replace hb5 := cond_some hb5
    rcases hb5 with ⟨hc3, hb5⟩ | ⟨hc3, hb5⟩
    ·
     obtain rfl := hbb2.trans hc3
     refine cw_true Z (cw_exit (ew_thenX (ew_blockX (ew_then (cw_region (lw_op Z Z Z (ow_move Z Z (lw_op Z Z Z (ow_add Z Z Z (lw_op Z Z Z (ow_assign Z Z (lw_nil ?_))))))))))))
     have lz2 := ((hl5.trans hl6).trans hl7)
     exact ew_nxt ((W (k1 + 1)), x4.2, k3, k4, k5, k6) hb5 fun a ha => ⟨M1, (ha.sub ⟨Z, Z, Z, Z, Z, Zt⟩), lz2, hC7, ho17, hm6, ho18, hm7, ho19, hm8⟩
    ·
     obtain rfl := hbb2.trans hc3
     refine cw_false Z (cw_skip (ew_then (cw_seq ?_)))
     replace hb5 := bind_some hb5
     obtain ⟨x5, hx5, hb5⟩ := hb5
     replace hb5 := bind_some hb5
     obtain ⟨x6, hx6, hb5⟩ := hb5
     have lz3 := ((lz1.trans hl6).trans hl7)
     refine cw_sub (E' := [(0, (Zw g 0)), (1, v1p), (6, (Zw g1 0)), (7, (Zw g2 0)), (8, (Zv k1))]) ⟨Z, Z, Z, Z, Z, Zt⟩ (cw_drawC (g := g) (T := 111) 33 1 [none, none, none, none, none, none, none, none, none, none, none, none, none, none, none, none, none, none, none, none, none, none, none, none, none, none, none, none, none, none, none, none, some 0] [#[(.slice Ax a_xs.length cx), (Zv x4.2)], #[(.slice Ax a_xs.length cx), (Zv x6.2)]] [PV (RSlice RTest) M1 a_list, PEq (Zv k1), PA RTest M1 x2, PA RInt M1 x2.Lo, PEq (Zv x2.Lo), PV (RSlice RTest) M1 a_list, PEq (Zv k1), PA RTest M1 x2, PA RInt M1 x2.Hi, PEq (Zv x2.Hi), PV (RSlice RTest) M1 a_list, PEq (Zv k1), PA RTest M1 x2, PA RInt M1 x2.Lo, PEq (Zv x2.Lo), PEq (Zv (W (x2.Lo - 1))), PEq (Zv (imax 0 (W (x2.Lo - 1)))), PV (RSlice RTest) M1 a_list, PEq (Zv k1), PA RTest M1 x2, PA RInt M1 x2.Field, PEq (Zv x2.Field), PEq (Zv x5), PV (RSlice RTest) M1 a_list, PEq (Zv k1), PA RTest M1 x2, PA RInt M1 x2.Hi, PEq (Zv x2.Hi), PEq (Zv (W (x2.Hi + 1))), PEq (Zv (imin x5 (W (x2.Hi + 1)))), PV (RSlice RInt) M1 [x2.Lo, x2.Hi, (imax 0 (W (x2.Lo - 1))), (imin x5 (W (x2.Hi + 1)))], PEq (Zw g 0), PEq (Zv x6.1)] (by kernel_rfl) Z (by kernel_rfl) (by kernel_rfl) ho17 ⟨(PV.monoY hm6 _ _), (PEq.monoY hm6 _), (PA.monoY hm6 _ _), (PA.monoY hm6 _ _), (PEq.monoY hm6 _), (PV.monoY hm6 _ _), (PEq.monoY hm6 _), (PA.monoY hm6 _ _), (PA.monoY hm6 _ _), (PEq.monoY hm6 _), (PV.monoY hm6 _ _), (PEq.monoY hm6 _), (PA.monoY hm6 _ _), (PA.monoY hm6 _ _), (PEq.monoY hm6 _), (PEq.monoY hm6 _), (PEq.monoY hm6 _), (PV.monoY hm6 _ _), (PEq.monoY hm6 _), (PA.monoY hm6 _ _), (PA.monoY hm6 _ _), (PEq.monoY hm6 _), (PEq.monoY hm6 _), (PV.monoY hm6 _ _), (PEq.monoY hm6 _), (PA.monoY hm6 _ _), (PA.monoY hm6 _ _), (PEq.monoY hm6 _), (PEq.monoY hm6 _), (PEq.monoY hm6 _), (PV.monoY hm6 _ _), (PEq.monoY hm6 _), (PEq.monoY hm6 _), Zt⟩ ⟨?_, ?_, ?_, ?_, ?_, ?_, ?_, ?_, ?_, ?_, ?_, ?_, ?_, ?_, ?_, ?_, ?_, ?_, ?_, ?_, ?_, ?_, ?_, ?_, ?_, ?_, ?_, ?_, ?_, ?_, ?_, ?_, ?_, Zt⟩ ?_)
     ·
      intro w11 D hS1 hd1
      have hl11 := leY hm6 hS1
      exact dg_sub (E' := [(1, v1p)]) ⟨Z, Zt⟩ (dg_plain Z (ow_move Z Z ⟨BX.refl _ _, (VRep.mono (lz3.trans hl11) h1)⟩))
     · exact fun w12 D hS2 hd2 => dg_sub (E' := [(8, (Zv k1))]) ⟨Z, Zt⟩ (dg_plain Z (ow_move Z Z Zb))
     ·
      intro w13 D hS3 hd3
      have d1 : PV (RSlice RTest) M1 a_list (D 0) w13 := dpA hd3 0 Z
      generalize hq1 : (D 0) = v18 at d1
      exact dg_sub (E' := [(30, v18), (31, (Zv k1))]) ⟨congrArg some hq1, dpE hd3 1 Z Z, Zt⟩ (dg_plain Z (ow_indexSlice (R := RTest) Z Z Z d1 Tryd.underlying27 (Tryd.sizeOf31 _) hx2 fun p8 hp8 => ⟨BX.refl _ _, ⟨_, Z, hp8⟩⟩))
     ·
      intro w14 D hS4 hd4
      have d3 : PA RTest M1 x2 (D 2) w14 := dpA hd4 2 Z
      obtain ⟨p9, e1, ha1⟩ := d3
      exact dg_sub (E' := [(32, (.pointer (some p9)))]) ⟨congrArg some e1, Zt⟩ (dg_plain Z (ow_fieldAddr Z Z Tryd.underlying31 Z (Tryd.sizeOf3 _) ⟨BX.refl _ _, ⟨_, Z, (ha1.fld fld_Test_Lo)⟩⟩))
     ·
      intro w15 D hS5 hd5
      have d4 : PA RInt M1 x2.Lo (D 3) w15 := dpA hd5 3 Z
      obtain ⟨p10, e2, ha2⟩ := d4
      refine dg_sub (E' := [(33, (.pointer (some p10)))]) ⟨congrArg some e2, Zt⟩ (dg_plain Z (ow_load (R := RInt) Z Z ha2 (Tryd.sizeOf3 _) (Tryd.isAgg3 _) fun v19 hv19 => ?_))
      obtain rfl := vint_eq hv19
      exact Zb
     ·
      intro w16 D hS6 hd6
      have hl16 := leY hm6 hS6
      exact dg_sub (E' := [(1, v1p)]) ⟨Z, Zt⟩ (dg_plain Z (ow_move Z Z ⟨BX.refl _ _, (VRep.mono (lz3.trans hl16) h1)⟩))
     · exact fun w17 D hS7 hd7 => dg_sub (E' := [(8, (Zv k1))]) ⟨Z, Zt⟩ (dg_plain Z (ow_move Z Z Zb))
     ·
      intro w18 D hS8 hd8
      have d5 : PV (RSlice RTest) M1 a_list (D 5) w18 := dpA hd8 5 Z
      generalize hq2 : (D 5) = v20 at d5
      exact dg_sub (E' := [(35, v20), (36, (Zv k1))]) ⟨congrArg some hq2, dpE hd8 6 Z Z, Zt⟩ (dg_plain Z (ow_indexSlice (R := RTest) Z Z Z d5 Tryd.underlying27 (Tryd.sizeOf31 _) hx2 fun p11 hp11 => ⟨BX.refl _ _, ⟨_, Z, hp11⟩⟩))
     ·
      intro w19 D hS9 hd9
      have d7 : PA RTest M1 x2 (D 7) w19 := dpA hd9 7 Z
      obtain ⟨p12, e3, ha3⟩ := d7
      exact dg_sub (E' := [(37, (.pointer (some p12)))]) ⟨congrArg some e3, Zt⟩ (dg_plain Z (ow_fieldAddr Z Z Tryd.underlying31 Z (Tryd.sizeOf3 _) ⟨BX.refl _ _, ⟨_, Z, (ha3.fld fld_Test_Hi)⟩⟩))
     ·
      intro w20 D hS10 hd10
      have d8 : PA RInt M1 x2.Hi (D 8) w20 := dpA hd10 8 Z
      obtain ⟨p13, e4, ha4⟩ := d8
      refine dg_sub (E' := [(38, (.pointer (some p13)))]) ⟨congrArg some e4, Zt⟩ (dg_plain Z (ow_load (R := RInt) Z Z ha4 (Tryd.sizeOf3 _) (Tryd.isAgg3 _) fun v21 hv21 => ?_))
      obtain rfl := vint_eq hv21
      exact Zb
     ·
      intro w21 D hS11 hd11
      have hl21 := leY hm6 hS11
      exact dg_sub (E' := [(1, v1p)]) ⟨Z, Zt⟩ (dg_plain Z (ow_move Z Z ⟨BX.refl _ _, (VRep.mono (lz3.trans hl21) h1)⟩))
     · exact fun w22 D hS12 hd12 => dg_sub (E' := [(8, (Zv k1))]) ⟨Z, Zt⟩ (dg_plain Z (ow_move Z Z Zb))
     ·
      intro w23 D hS13 hd13
      have d9 : PV (RSlice RTest) M1 a_list (D 10) w23 := dpA hd13 10 Z
      generalize hq3 : (D 10) = v22 at d9
      exact dg_sub (E' := [(40, v22), (41, (Zv k1))]) ⟨congrArg some hq3, dpE hd13 11 Z Z, Zt⟩ (dg_plain Z (ow_indexSlice (R := RTest) Z Z Z d9 Tryd.underlying27 (Tryd.sizeOf31 _) hx2 fun p14 hp14 => ⟨BX.refl _ _, ⟨_, Z, hp14⟩⟩))
     ·
      intro w24 D hS14 hd14
      have d11 : PA RTest M1 x2 (D 12) w24 := dpA hd14 12 Z
      obtain ⟨p15, e5, ha5⟩ := d11
      exact dg_sub (E' := [(42, (.pointer (some p15)))]) ⟨congrArg some e5, Zt⟩ (dg_plain Z (ow_fieldAddr Z Z Tryd.underlying31 Z (Tryd.sizeOf3 _) ⟨BX.refl _ _, ⟨_, Z, (ha5.fld fld_Test_Lo)⟩⟩))
     ·
      intro w25 D hS15 hd15
      have d12 : PA RInt M1 x2.Lo (D 13) w25 := dpA hd15 13 Z
      obtain ⟨p16, e6, ha6⟩ := d12
      refine dg_sub (E' := [(43, (.pointer (some p16)))]) ⟨congrArg some e6, Zt⟩ (dg_plain Z (ow_load (R := RInt) Z Z ha6 (Tryd.sizeOf3 _) (Tryd.isAgg3 _) fun v23 hv23 => ?_))
      obtain rfl := vint_eq hv23
      exact Zb
     · exact fun w26 D hS16 hd16 => dg_sub (E' := [(44, (Zv x2.Lo))]) ⟨dpE hd16 14 Z Z, Zt⟩ (dg_plain Z (ow_sub Z Z Z Zb))
     · exact fun w27 D hS17 hd17 => dg_sub (E' := [(45, (Zv (W (x2.Lo - 1))))]) ⟨dpE hd17 15 Z Z, Zt⟩ (dg_plain Z (ow_max Z Z Z Zb))
     ·
      intro w28 D hS18 hd18
      have hl28 := leY hm6 hS18
      exact dg_sub (E' := [(1, v1p)]) ⟨Z, Zt⟩ (dg_plain Z (ow_move Z Z ⟨BX.refl _ _, (VRep.mono (lz3.trans hl28) h1)⟩))
     · exact fun w29 D hS19 hd19 => dg_sub (E' := [(8, (Zv k1))]) ⟨Z, Zt⟩ (dg_plain Z (ow_move Z Z Zb))
     ·
      intro w30 D hS20 hd20
      have d15 : PV (RSlice RTest) M1 a_list (D 17) w30 := dpA hd20 17 Z
      generalize hq4 : (D 17) = v24 at d15
      exact dg_sub (E' := [(47, v24), (48, (Zv k1))]) ⟨congrArg some hq4, dpE hd20 18 Z Z, Zt⟩ (dg_plain Z (ow_indexSlice (R := RTest) Z Z Z d15 Tryd.underlying27 (Tryd.sizeOf31 _) hx2 fun p17 hp17 => ⟨BX.refl _ _, ⟨_, Z, hp17⟩⟩))
     ·
      intro w31 D hS21 hd21
      have d17 : PA RTest M1 x2 (D 19) w31 := dpA hd21 19 Z
      obtain ⟨p18, e7, ha7⟩ := d17
      exact dg_sub (E' := [(49, (.pointer (some p18)))]) ⟨congrArg some e7, Zt⟩ (dg_plain Z (ow_fieldAddr Z Z Tryd.underlying31 Z (Tryd.sizeOf3 _) ⟨BX.refl _ _, ⟨_, Z, (ha7.fld fld_Test_Field)⟩⟩))
     ·
      intro w32 D hS22 hd22
      have d18 : PA RInt M1 x2.Field (D 20) w32 := dpA hd22 20 Z
      obtain ⟨p19, e8, ha8⟩ := d18
      refine dg_sub (E' := [(50, (.pointer (some p19)))]) ⟨congrArg some e8, Zt⟩ (dg_plain Z (ow_load (R := RInt) Z Z ha8 (Tryd.sizeOf3 _) (Tryd.isAgg3 _) fun v25 hv25 => ?_))
      obtain rfl := vint_eq hv25
      exact Zb
     ·
      intro w33 D hS23 hd23
      have hl33 := leY hm6 hS23
      have hC33 := hC7.go hS23 (fun b e => Or.inr e)
      refine dg_sub (E' := [(51, (Zv x2.Field))]) ⟨dpE hd23 21 Z Z, Zt⟩ (dg_plain Z (ow_call Z Z Tryd.call53 (w_spec_FieldTop (hG.mono (lz3.trans hl33)) hC33.old hx5) fun v26 w34 hv26 => ?_))
      obtain ⟨hv26, hb11⟩ := hv26
      obtain rfl := vint_eq hv26
      exact ⟨hb11, Z⟩
     ·
      intro w35 D hS24 hd24
      have hl35 := leY hm6 hS24
      exact dg_sub (E' := [(1, v1p)]) ⟨Z, Zt⟩ (dg_plain Z (ow_move Z Z ⟨BX.refl _ _, (VRep.mono (lz3.trans hl35) h1)⟩))
     · exact fun w36 D hS25 hd25 => dg_sub (E' := [(8, (Zv k1))]) ⟨Z, Zt⟩ (dg_plain Z (ow_move Z Z Zb))
     ·
      intro w37 D hS26 hd26
      have d20 : PV (RSlice RTest) M1 a_list (D 23) w37 := dpA hd26 23 Z
      generalize hq5 : (D 23) = v27 at d20
      exact dg_sub (E' := [(53, v27), (54, (Zv k1))]) ⟨congrArg some hq5, dpE hd26 24 Z Z, Zt⟩ (dg_plain Z (ow_indexSlice (R := RTest) Z Z Z d20 Tryd.underlying27 (Tryd.sizeOf31 _) hx2 fun p20 hp20 => ⟨BX.refl _ _, ⟨_, Z, hp20⟩⟩))
     ·
      intro w38 D hS27 hd27
      have d22 : PA RTest M1 x2 (D 25) w38 := dpA hd27 25 Z
      obtain ⟨p21, e9, ha9⟩ := d22
      exact dg_sub (E' := [(55, (.pointer (some p21)))]) ⟨congrArg some e9, Zt⟩ (dg_plain Z (ow_fieldAddr Z Z Tryd.underlying31 Z (Tryd.sizeOf3 _) ⟨BX.refl _ _, ⟨_, Z, (ha9.fld fld_Test_Hi)⟩⟩))
     ·
      intro w39 D hS28 hd28
      have d23 : PA RInt M1 x2.Hi (D 26) w39 := dpA hd28 26 Z
      obtain ⟨p22, e10, ha10⟩ := d23
      refine dg_sub (E' := [(56, (.pointer (some p22)))]) ⟨congrArg some e10, Zt⟩ (dg_plain Z (ow_load (R := RInt) Z Z ha10 (Tryd.sizeOf3 _) (Tryd.isAgg3 _) fun v28 hv28 => ?_))
      obtain rfl := vint_eq hv28
      exact Zb
     · exact fun w40 D hS29 hd29 => dg_sub (E' := [(57, (Zv x2.Hi))]) ⟨dpE hd29 27 Z Z, Zt⟩ (dg_plain Z (ow_add Z Z Z Zb))
     · exact fun w41 D hS30 hd30 => dg_sub (E' := [(52, (Zv x5)), (58, (Zv (W (x2.Hi + 1))))]) ⟨dpE hd30 22 Z Z, dpE hd30 28 Z Z, Zt⟩ (dg_plain Z (ow_min Z Z Z Zb))
     ·
      intro w42 D hS31 hd31
      have hC42 := hC7.go hS31 (fun b e => Or.inr e)
      exact dg_sub (E' := [(34, (Zv x2.Lo)), (39, (Zv x2.Hi)), (46, (Zv (imax 0 (W (x2.Lo - 1))))), (59, (Zv (imin x5 (W (x2.Hi + 1)))))]) ⟨dpE hd31 4 Z Z, dpE hd31 9 Z Z, dpE hd31 16 Z Z, dpE hd31 29 Z Z, Zt⟩ (dg_plain Z (ow_buildSlice (R := RInt) (xs := [x2.Lo, x2.Hi, (imax 0 (W (x2.Lo - 1))), (imin x5 (W (x2.Hi + 1)))]) (cs := #[(Zv x2.Lo), (Zv x2.Hi), (Zv (imax 0 (W (x2.Lo - 1)))), (Zv (imin x5 (W (x2.Hi + 1))))]) (e := 3) Z Z (by kernel_rfl) Z Z ⟨_, _, Z, (vint _).cells, _, _, Z, (vint _).cells, _, _, Z, (vint _).cells, _, _, Z, (vint _).cells, Z⟩ hC42 fun p23 w43 hw2 hb12 hl43 hC43 => ⟨hb12, hw2⟩))
     · exact fun w44 D hS32 hd32 => dg_sub (E' := [(0, (Zw g 0))]) ⟨Z, Zt⟩ (dg_plain Z (ow_move Z Z Zb))
     ·
      intro w45 D hS33 hd33
      obtain ⟨hS33, ho97⟩ := hS33
      have ho97 : Own w45 g 111 #[(.slice Ax a_xs.length cx), (Zv x4.2)] := ho97
      have hl45 := leY hm6 hS33
      have hC45 := hC7.go hS33 (fun b e => Or.inr e)
      refine dg_sub (E' := [(61, (Zw g 0))]) ⟨dpE hd33 31 Z Z, Zt⟩ (dg_plain Z (ow_call Z Z Tryd.call60 (w_spec_l20Rd_pick (hG.mono (lz3.trans hl45)) hC45.old (VRep.mono (lz3.trans hl45) hxs) ho97 hm6 hx6) fun v29 w46 hv29 => ?_))
      obtain ⟨⟨hv29, ho100⟩, hb13⟩ := hv29
      obtain rfl := vint_eq hv29
      exact ⟨⟨⟨hS33.trans hb13, ho100⟩, hb13⟩, Z⟩
     ·
      intro w47 D hS34 hd34
      have d63 : PV (RSlice RInt) M1 [x2.Lo, x2.Hi, (imax 0 (W (x2.Lo - 1))), (imin x5 (W (x2.Hi + 1)))] (D 30) w47 := dpA hd34 30 Z
      obtain ⟨hS34, ho103⟩ := hS34
      have ho103 : Own w47 g 111 #[(.slice Ax a_xs.length cx), (Zv x6.2)] := ho103
      have hl47 := leY hm6 hS34
      have hC47 := hC7.go hS34 (fun b e => Or.inr e)
      have ho104 := ho18.go hS34 (fun e => hn1 e.symm)
      have ho105 := ho19.go hS34 (fun e => hn2 e.symm)
      generalize hq6 : (D 30) = v30 at d63
      refine lw_sub (E' := [(60, v30), (62, (Zv x6.1)), (0, (Zw g 0)), (1, v1p), (6, (Zw g1 0)), (7, (Zw g2 0)), (8, (Zv k1))]) ⟨congrArg some hq6, dpE hd34 32 Z Z, Z, Z, Z, Z, Z, Zt⟩ ?_
      replace hb5 := bind_some hb5
      obtain ⟨x7, hx7, hb5⟩ := hb5
      refine lw_op Z Z Z (ow_indexSlice (R := RInt) Z Z Z d63 Tryd.underlying52 (Tryd.sizeOf3 _) hx7 fun p24 hp24 => lw_op Z Z Z (ow_load (R := RInt) Z Z hp24 (Tryd.sizeOf3 _) (Tryd.isAgg3 _) fun v31 hv31 => ?_))
      obtain rfl := vint_eq hv31
      refine lw_op Z Z Z (ow_assign Z Z (lw_nil (ew_then (cw_seq (cw_region (lw_op Z Z Z (ow_move Z Z (lw_op Z Z Z (ow_move Z Z (lw_op Z Z Z (ow_indexSlice (R := RTest) Z Z Z (VRep.mono (lz3.trans hl47) h1) Tryd.underlying27 (Tryd.sizeOf31 _) hx2 fun p25 hp25 => lw_op Z Z Z (ow_fieldAddr Z Z Tryd.underlying31 Z (Tryd.sizeOf3 _) (lw_op Z Z Z (ow_load (R := RInt) Z Z (hp25.fld fld_Test_Field) (Tryd.sizeOf3 _) (Tryd.isAgg3 _) fun v32 hv32 => ?_))))))))))))))
      obtain rfl := vint_eq hv32
      refine lw_nil (ew_then (cw_block (cw_seq (cw_region (lw_op Z Z Z (ow_eqlI Z Z Z fun bb3 hbb3 => lw_op Z Z Z (ow_assign Z Z (lw_nil (ew_then ?_)))))))))
      replace hb5 := cond_some hb5
      rcases hb5 with ⟨hc4, hb5⟩ | ⟨hc4, hb5⟩
      ·
       obtain rfl := hbb3.trans hc4
       refine cw_true Z (cw_region (lw_op Z Z Z (ow_move Z Z (lw_op Z Z Z (ow_fieldAddr Z Z Tryd.underlying38 Z (Tryd.sizeOf3 _) (lw_op0 Z Z (ow_store (X := (One g)) (us := [(Zv x7)]) (cs' := #[(Zv x7), (Zv k4), (Zv k5), (Zv k6)]) Z Z Z Z ho105 (Tryd.sizeOf3 _) Z Z Z Z hm8 (.inl hg4) Z hC47 fun w48 ho106 hb14 hl48 hC48 => ?_)))))))
       have ho107 := ho103.go hb14 (fun e => hn2 e)
       have ho108 := ho104.go hb14 (fun e => hn3 e)
       refine lw_nil (ew_blockN (ew_blockN (ew_then (cw_region (lw_op Z Z Z (ow_move Z Z (lw_op Z Z Z (ow_add Z Z Z (lw_op Z Z Z (ow_assign Z Z (lw_nil ?_)))))))))))
       have lz5 := ((((hl5.trans hl6).trans hl7).trans hl47).trans hl48)
       exact ew_nxt ((W (k1 + 1)), x6.2, x7, k4, k5, k6) hb5 fun a ha => ⟨M1, (ha.sub ⟨Z, Z, Z, Z, Z, Zt⟩), lz5, hC48, ho107, hm6, ho108, hm7, ho106, hm8⟩
      ·
       obtain rfl := hbb3.trans hc4
       refine cw_false Z (cw_seq (cw_region (lw_op Z Z Z (ow_eqlI Z Z Z fun bb4 hbb4 => lw_op Z Z Z (ow_assign Z Z (lw_nil (ew_then ?_)))))))
       replace hb5 := cond_some hb5
       rcases hb5 with ⟨hc5, hb5⟩ | ⟨hc5, hb5⟩
       ·
        obtain rfl := hbb4.trans hc5
        refine cw_true Z (cw_region (lw_op Z Z Z (ow_move Z Z (lw_op Z Z Z (ow_fieldAddr Z Z Tryd.underlying38 Z (Tryd.sizeOf3 _) (lw_op0 Z Z (ow_store (X := (One g)) (us := [(Zv x7)]) (cs' := #[(Zv k3), (Zv x7), (Zv k5), (Zv k6)]) Z Z Z Z ho105 (Tryd.sizeOf3 _) Z Z Z Z hm8 (.inl hg4) Z hC47 fun w49 ho109 hb15 hl49 hC49 => ?_)))))))
        have ho110 := ho103.go hb15 (fun e => hn2 e)
        have ho111 := ho104.go hb15 (fun e => hn3 e)
        refine lw_nil (ew_blockN (ew_blockN (ew_then (cw_region (lw_op Z Z Z (ow_move Z Z (lw_op Z Z Z (ow_add Z Z Z (lw_op Z Z Z (ow_assign Z Z (lw_nil ?_)))))))))))
        have lz6 := ((((hl5.trans hl6).trans hl7).trans hl47).trans hl49)
        exact ew_nxt ((W (k1 + 1)), x6.2, k3, x7, k5, k6) hb5 fun a ha => ⟨M1, (ha.sub ⟨Z, Z, Z, Z, Z, Zt⟩), lz6, hC49, ho110, hm6, ho111, hm7, ho109, hm8⟩
       ·
        obtain rfl := hbb4.trans hc5
        refine cw_false Z (cw_seq (cw_region (lw_op Z Z Z (ow_eqlI Z Z Z fun bb5 hbb5 => lw_op Z Z Z (ow_assign Z Z (lw_nil (ew_then ?_)))))))
        replace hb5 := cond_some hb5
        rcases hb5 with ⟨hc6, hb5⟩ | ⟨hc6, hb5⟩
        ·
         obtain rfl := hbb5.trans hc6
         refine cw_true Z (cw_region (lw_op Z Z Z (ow_move Z Z (lw_op Z Z Z (ow_fieldAddr Z Z Tryd.underlying38 Z (Tryd.sizeOf3 _) (lw_op0 Z Z (ow_store (X := (One g)) (us := [(Zv x7)]) (cs' := #[(Zv k3), (Zv k4), (Zv x7), (Zv k6)]) Z Z Z Z ho105 (Tryd.sizeOf3 _) Z Z Z Z hm8 (.inl hg4) Z hC47 fun w50 ho112 hb16 hl50 hC50 => ?_)))))))
         have ho113 := ho103.go hb16 (fun e => hn2 e)
         have ho114 := ho104.go hb16 (fun e => hn3 e)
         refine lw_nil (ew_blockN (ew_blockN (ew_then (cw_region (lw_op Z Z Z (ow_move Z Z (lw_op Z Z Z (ow_add Z Z Z (lw_op Z Z Z (ow_assign Z Z (lw_nil ?_)))))))))))
         have lz7 := ((((hl5.trans hl6).trans hl7).trans hl47).trans hl50)
         exact ew_nxt ((W (k1 + 1)), x6.2, k3, k4, x7, k6) hb5 fun a ha => ⟨M1, (ha.sub ⟨Z, Z, Z, Z, Z, Zt⟩), lz7, hC50, ho113, hm6, ho114, hm7, ho112, hm8⟩
        ·
         obtain rfl := hbb5.trans hc6
         refine cw_false Z (cw_region (lw_op Z Z Z (ow_move Z Z (lw_op Z Z Z (ow_fieldAddr Z Z Tryd.underlying38 Z (Tryd.sizeOf3 _) (lw_op0 Z Z (ow_store (X := (One g)) (us := [(Zv x7)]) (cs' := #[(Zv k3), (Zv k4), (Zv k5), (Zv x7)]) Z Z Z Z ho105 (Tryd.sizeOf3 _) Z Z Z Z hm8 (.inl hg4) Z hC47 fun w51 ho115 hb17 hl51 hC51 => ?_)))))))
         have ho116 := ho103.go hb17 (fun e => hn2 e)
         have ho117 := ho104.go hb17 (fun e => hn3 e)
         refine lw_nil (ew_blockN (ew_blockN (ew_then (cw_region (lw_op Z Z Z (ow_move Z Z (lw_op Z Z Z (ow_add Z Z Z (lw_op Z Z Z (ow_assign Z Z (lw_nil ?_)))))))))))
         have lz8 := ((((hl5.trans hl6).trans hl7).trans hl47).trans hl51)
         exact ew_nxt ((W (k1 + 1)), x6.2, k3, k4, k5, x7) hb5 fun a ha => ⟨M1, (ha.sub ⟨Z, Z, Z, Z, Z, Zt⟩), lz8, hC51, ho116, hm6, ho117, hm7, ho115, hm8⟩
   ·
    subst hc2
    exact lw_off Z Z Z Z Z Z (lw_off Z Z Z Z Z Z (lw_off Z Z Z Z Z Z (lw_op Z Z Z (ow_pickT Z Z Z (lw_nil (ew_then (cw_true Z (cw_exit (ew_thenX (ew_blockX (ew_then (cw_region (lw_op Z Z Z (ow_move Z Z (lw_op Z Z Z (ow_add Z Z Z (lw_op Z Z Z (ow_assign Z Z (lw_nil (ew_nxt ((W (k1 + 1)), k2, k3, k4, k5, k6) hb5 fun a ha => ⟨M1, (ha.sub ⟨Z, Z, Z, Z, Z, Zt⟩), (hl5.trans hl6), hC6, ho14, hm6, ho15, hm7, ho16, hm8⟩))))))))))))))))))))
  ·
   obtain rfl := hbb1.trans hc1
   exact cw_false Z (cw_exit (ew_thenX (ew_thenX (ew_blockX (ew_brk (k1, k2, k3, k4, k5, k6) hb5 fun a ha => ⟨M1, (ha.sub ⟨Z, Z, Z, Z, Z, Zt⟩), hl5, hC5, ho11, hm6, ho12, hm7, ho13, hm8⟩)))))
 ·
  rintro ⟨k7, k8, k9, k10, k11, k12⟩ a w52 hlr2 ⟨M2, hF2, hl52, hC52, ho118, hm9, ho119, hm10, ho120, hm11⟩
  subst hlr2
  refine ew_at (E := [(0, (Zw g 0)), (1, v1p), (6, (Zw g1 0)), (7, (Zw g2 0)), (8, (Zv k7))]) hF2 (ew_then (cw_seq (cw_region (lw_op Z Z Z (ow_loadOwnA Z Z Z ho120 (Tryd.isAgg38 _) (Tryd.sizeOf38 _) Z (lw_op0 Z Z (ow_store (X := (One g)) (us := [(Zv k9), (Zv k10), (Zv k11), (Zv k12)]) (cs' := #[(Zv k9), (Zv k10), (Zv k11), (Zv k12)]) Z Z Z Z ho119 (Tryd.sizeOf38 _) Z Z Z Z hm10 (.inl hg2) Z hC52 fun w53 ho121 hb18 hl53 hC53 => ?_)))))))
  have ho122 := ho118.go hb18 (fun e => hn1 e)
  refine lw_nil (ew_then (cw_ret ?_))
  have hw4 : VRep RPacket w53 M2 ({ From := k9, To := k10, Port := k11, Proto := k12 } : Packet) (.agg #[(Zv k9), (Zv k10), (Zv k11), (Zv k12)]) := shut_Packet
  obtain rfl := sj h
  exact ew_ret (res1 Z (.cell Z (own_loadVarA ho121 (Tryd.isAgg38 _) (Tryd.sizeOf38 _) Z))) ⟨_, Z, ⟨(hw4.mono hC53.back), ho122⟩, hC53.bx⟩

theorem w_spec_l20Span {w : World} {M : Nat → Prop} (hG : ARep (RArr 4 RShape) w M shapes ⟨0, 0, none⟩) (hO : ∀ b, M b → b < w.heap.size) {g : Nat} {Ax : Option Addr} {cx : Nat} {a_xs : List Int} {a_pos : Int} (hxs : VRep (RSlice RU8) w M a_xs (.slice Ax a_xs.length cx)) (hown : Own w g 111 #[.slice Ax a_xs.length cx, .int .i64 a_pos]) (hgM : M g) {a_top : Int} {a_n : Int} {r : Span × Int} (h : F.spec_l20Span a_xs a_pos a_top a_n = some r) :
  Calls Tryd.prog 105 [(.pointer (some ⟨g, 0, none⟩)), (.int .i64 a_top), (.int .i64 a_n)].toArray w fun e w' => ∃ v, e = .returned v ∧ (VRep RSpan w' M r.1 v ∧ Own w' g 111 #[.slice Ax a_xs.length cx, .int .i64 r.2]) ∧ BX (One g) w w' := by
 have hX : ∀ b, (One g) b → M b := fun b e => e ▸ hgM
 have hC : Cx (One g) w M w M := Cx.start hO hX
 refine walk (N := 68) Tryd.func105 Z Tryd.ntmps105 Z (cw_seq (cw_region (lw_op Z Z Z (ow_alloc Z (Tryd.zeroValue79 _) hC fun g1 w1 hg1 hg2 ho1 hb1 hl1 hC1 => ?_))))
 have hn1 := Nat.ne_of_lt (Nat.lt_of_lt_of_le hown.lt hg1)
 have ho2 := hown.no hb1
 have hm1 : (Add g1 M) g := .inr hgM
 have hm2 : (Add g1 M) g1 := .inl Z
 refine lw_nil (ew_then (cw_seq (cw_region (lw_op Z Z Z (ow_move Z Z (lw_op Z Z Z (ow_move Z Z (lw_op Z Z Z (ow_add Z Z Z (lw_op Z Z Z (ow_min Z Z Z ?_)))))))))))
 replace h := bind_some h
 obtain ⟨x1, hx1, h⟩ := h
 refine lw_op Z Z Z (ow_call Z Z Tryd.call60 (w_spec_l20Rd_pick (hG.mono hl1) hC1.old (VRep.mono hl1 hxs) ho2 hm1 hx1) fun v1 w2 hv1 => ?_)
 obtain ⟨⟨hv1, ho3⟩, hb2⟩ := hv1
 have hl2 := Le.of_bx (Add g1 M) hb2 (fun b e => (by rw [show b = g from e]; exact hm1))
 have hC2 := hC1.go hb2 (fun b e => Or.inr e)
 have ho4 := ho1.go hb2 (fun e => hn1 e.symm)
 obtain rfl := vint_eq hv1
 refine lw_op Z Z Z (ow_build (v := .agg #[(Zv x1.1), (Zv 0)]) Z Z (by kernel_rfl) (lw_op Z Z Z (ow_alloc Z (Tryd.zeroValue79 _) hC2 fun g2 w3 hg3 hg4 ho5 hb3 hl3 hC3 => ?_)))
 have hn2 := Nat.ne_of_lt (Nat.lt_of_lt_of_le ho3.lt hg3)
 have ho6 := ho3.no hb3
 have hm3 : (Add g2 (Add g1 M)) g := .inr hm1
 have hn3 := Nat.ne_of_lt (Nat.lt_of_lt_of_le ho4.lt hg3)
 have ho7 := ho4.no hb3
 have hm4 : (Add g2 (Add g1 M)) g1 := .inr hm2
 have hm5 : (Add g2 (Add g1 M)) g2 := .inl Z
 refine lw_op0 Z Z (ow_store (X := (One g)) (us := [(Zv x1.1), (Zv 0)]) (cs' := #[(Zv x1.1), (Zv 0)]) Z Z Z Z ho5 (Tryd.sizeOf79 _) Z Z Z Z hm5 (.inl hg4) Z hC3 fun w4 ho8 hb4 hl4 hC4 => ?_)
 have ho9 := ho6.go hb4 (fun e => hn2 e)
 have ho10 := ho7.go hb4 (fun e => hn3 e)
 refine lw_nil (ew_then (cw_seq (cw_seq (cw_region (lw_op Z Z Z (ow_move Z Z (lw_op Z Z Z (ow_gtr Z Z Z fun bb1 hbb1 => lw_op Z Z Z (ow_move Z Z ?_)))))))))
 replace h := cond_some h
 rcases h with ⟨hc1, h⟩ | ⟨hc1, h⟩
 ·
  obtain rfl := hbb1.trans hc1
  refine lw_on Z Z Z Z Z Z (ow_move Z Z ?_)
  have lz1 := (((hl1.trans hl2).trans hl3).trans hl4)
  replace h := bind_some h
  obtain ⟨x2, hx2, h⟩ := h
  refine lw_on Z Z Z Z Z Z (ow_call Z Z Tryd.call60 (w_spec_l20Rd_pick (hG.mono lz1) hC4.old (VRep.mono lz1 hxs) ho9 hm3 hx2) fun v2 w5 hv2 => ?_)
  obtain ⟨⟨hv2, ho11⟩, hb5⟩ := hv2
  have hl5 := Le.of_bx (Add g2 (Add g1 M)) hb5 (fun b e => (by rw [show b = g from e]; exact hm3))
  have hC5 := hC4.go hb5 (fun b e => Or.inr e)
  have ho12 := ho10.go hb5 (fun e => hn1 e.symm)
  have ho13 := ho8.go hb5 (fun e => hn2 e.symm)
  obtain rfl := vint_eq hv2
  refine lw_on Z Z Z Z Z Z (ow_eqlI Z Z Z fun bb2 hbb2 => lw_op Z Z Z (ow_pickT Z Z Z (lw_nil (ew_then ?_))))
  replace h := cond_some h
  rcases h with ⟨hc2, h⟩ | ⟨hc2, h⟩
  ·
   obtain rfl := hbb2.trans hc2
   refine cw_true Z ?_
   replace h := bind_some h
   obtain ⟨x3, hx3, h⟩ := h
   have lz2 := (lz1.trans hl5)
   refine cw_sub (E' := [(0, (Zw g 0)), (1, (Zv a_top)), (2, (Zv a_n)), (6, (Zw g1 0)), (7, (Zw g2 0))]) ⟨Z, Z, Z, Z, Z, Zt⟩ (cw_drawC (g := g) (T := 111) 7 1 [none, none, none, none, none, some 0, none] [#[(.slice Ax a_xs.length cx), (Zv x2.2)], #[(.slice Ax a_xs.length cx), (Zv x3.2)]] [PEq (Zv a_top), PEq (Zw g2 0), PEq (Zv x1.1), PEq (Zv (W (x1.1 * 256))), PEq (Zw g 0), PEq (Zv x3.1), PEq (Zv (W ((W (x1.1 * 256)) + x3.1)))] (by kernel_rfl) Z (by kernel_rfl) (by kernel_rfl) ho11 ⟨(PEq.monoY hm3 _), (PEq.monoY hm3 _), (PEq.monoY hm3 _), (PEq.monoY hm3 _), (PEq.monoY hm3 _), (PEq.monoY hm3 _), (PEq.monoY hm3 _), Zt⟩ ⟨?_, ?_, ?_, ?_, ?_, ?_, ?_, Zt⟩ ?_)
   · exact fun w7 D hS1 hd1 => dg_sub (E' := [(1, (Zv a_top))]) ⟨Z, Zt⟩ (dg_plain Z (ow_move Z Z Zb))
   · exact fun w8 D hS2 hd2 => dg_sub (E' := [(7, (Zw g2 0))]) ⟨Z, Zt⟩ (dg_plain Z (ow_fieldAddr Z Z Tryd.underlying79 Z (Tryd.sizeOf3 _) Zb))
   ·
    intro w9 D hS3 hd3
    have ho22 := ho13.go hS3 (fun e => hn2 e.symm)
    exact dg_sub (E' := [(22, (Zw g2 0))]) ⟨dpE hd3 1 Z Z, Zt⟩ (dg_plain Z (ow_loadOwn1 Z Z Z ho22 (Tryd.isAgg3 _) Z Zb))
   · exact fun w10 D hS4 hd4 => dg_sub (E' := [(23, (Zv x1.1))]) ⟨dpE hd4 2 Z Z, Zt⟩ (dg_plain Z (ow_mul Z Z Z Zb))
   · exact fun w11 D hS5 hd5 => dg_sub (E' := [(0, (Zw g 0))]) ⟨Z, Zt⟩ (dg_plain Z (ow_move Z Z Zb))
   ·
    intro w12 D hS6 hd6
    obtain ⟨hS6, ho27⟩ := hS6
    have ho27 : Own w12 g 111 #[(.slice Ax a_xs.length cx), (Zv x2.2)] := ho27
    have hl12 := leY hm3 hS6
    have hC12 := hC5.go hS6 (fun b e => Or.inr e)
    refine dg_sub (E' := [(25, (Zw g 0))]) ⟨dpE hd6 4 Z Z, Zt⟩ (dg_plain Z (ow_call Z Z Tryd.call60 (w_spec_l20Rd_pick (hG.mono (lz2.trans hl12)) hC12.old (VRep.mono (lz2.trans hl12) hxs) ho27 hm3 hx3) fun v4 w13 hv4 => ?_))
    obtain ⟨⟨hv4, ho30⟩, hb7⟩ := hv4
    obtain rfl := vint_eq hv4
    exact ⟨⟨⟨hS6.trans hb7, ho30⟩, hb7⟩, Z⟩
   · exact fun w14 D hS7 hd7 => dg_sub (E' := [(24, (Zv (W (x1.1 * 256)))), (26, (Zv x3.1))]) ⟨dpE hd7 3 Z Z, dpE hd7 5 Z Z, Zt⟩ (dg_plain Z (ow_add Z Z Z Zb))
   ·
    intro w15 D hS8 hd8
    obtain ⟨hS8, ho35⟩ := hS8
    have ho35 : Own w15 g 111 #[(.slice Ax a_xs.length cx), (Zv x3.2)] := ho35
    have hl15 := leY hm3 hS8
    have hC15 := hC5.go hS8 (fun b e => Or.inr e)
    have ho36 := ho12.go hS8 (fun e => hn1 e.symm)
    have ho37 := ho13.go hS8 (fun e => hn2 e.symm)
    refine lw_sub (E' := [(21, (Zv a_top)), (27, (Zv (W ((W (x1.1 * 256)) + x3.1)))), (0, (Zw g 0)), (1, (Zv a_top)), (2, (Zv a_n)), (6, (Zw g1 0)), (7, (Zw g2 0))]) ⟨dpE hd8 0 Z Z, dpE hd8 6 Z Z, Z, Z, Z, Z, Z, Zt⟩ (lw_op Z Z Z (ow_min Z Z Z (lw_op Z Z Z (ow_fieldAddr Z Z Tryd.underlying79 Z (Tryd.sizeOf3 _) (lw_op0 Z Z (ow_store (X := (One g)) (us := [(Zv (imin a_top (W ((W (x1.1 * 256)) + x3.1))))]) (cs' := #[(Zv (imin a_top (W ((W (x1.1 * 256)) + x3.1)))), (Zv 0)]) Z Z Z Z ho37 (Tryd.sizeOf3 _) Z Z Z Z hm5 (.inl hg4) Z hC15 fun w16 ho38 hb8 hl16 hC16 => ?_))))))
    have ho39 := ho35.go hb8 (fun e => hn2 e)
    have ho40 := ho36.go hb8 (fun e => hn3 e)
    refine lw_nil (ew_then (cw_seq ?_))
    replace h := bind_some h
    obtain ⟨x4, hx4, h⟩ := h
    replace h := bind_some h
    obtain ⟨x5, hx5, h⟩ := h
    replace h := bind_some h
    obtain ⟨x6, hx6, h⟩ := h
    replace h := bind_some h
    obtain ⟨x7, hx7, h⟩ := h
    have lz4 := ((lz2.trans hl15).trans hl16)
    refine cw_sub (E' := [(0, (Zw g 0)), (1, (Zv a_top)), (2, (Zv a_n)), (6, (Zw g1 0)), (7, (Zw g2 0))]) ⟨Z, Z, Z, Z, Z, Zt⟩ (cw_drawC (g := g) (T := 111) 13 3 [none, none, none, none, some 0, none, some 1, none, none, some 2, none, none, none] [#[(.slice Ax a_xs.length cx), (Zv x3.2)], #[(.slice Ax a_xs.length cx), (Zv x4.2)], #[(.slice Ax a_xs.length cx), (Zv x5.2)], #[(.slice Ax a_xs.length cx), (Zv x6.2)]] [PEq (Zv a_top), PEq (Zw g2 0), PEq (Zv (imin a_top (W ((W (x1.1 * 256)) + x3.1)))), PEq (Zw g 0), PEq (Zv x4.1), PEq (Zw g 0), PEq (Zv x5.1), PV (RSlice RInt) (Add g2 (Add g1 M)) [0, x4.1, x5.1, 4096], PEq (Zw g 0), PEq (Zv x6.1), PA RInt (Add g2 (Add g1 M)) x7, PEq (Zv x7), PEq (Zv (W ((imin a_top (W ((W (x1.1 * 256)) + x3.1))) + x7)))] (by kernel_rfl) Z (by kernel_rfl) (by kernel_rfl) ho39 ⟨(PEq.monoY hm3 _), (PEq.monoY hm3 _), (PEq.monoY hm3 _), (PEq.monoY hm3 _), (PEq.monoY hm3 _), (PEq.monoY hm3 _), (PEq.monoY hm3 _), (PV.monoY hm3 _ _), (PEq.monoY hm3 _), (PEq.monoY hm3 _), (PA.monoY hm3 _ _), (PEq.monoY hm3 _), (PEq.monoY hm3 _), Zt⟩ ⟨?_, ?_, ?_, ?_, ?_, ?_, ?_, ?_, ?_, ?_, ?_, ?_, ?_, Zt⟩ ?_)
    · exact fun w21 D hS9 hd9 => dg_sub (E' := [(1, (Zv a_top))]) ⟨Z, Zt⟩ (dg_plain Z (ow_move Z Z Zb))
    · exact fun w22 D hS10 hd10 => dg_sub (E' := [(7, (Zw g2 0))]) ⟨Z, Zt⟩ (dg_plain Z (ow_fieldAddr Z Z Tryd.underlying79 Z (Tryd.sizeOf3 _) Zb))
    ·
     intro w23 D hS11 hd11
     have ho58 := ho38.go hS11 (fun e => hn2 e.symm)
     exact dg_sub (E' := [(31, (Zw g2 0))]) ⟨dpE hd11 1 Z Z, Zt⟩ (dg_plain Z (ow_loadOwn1 Z Z Z ho58 (Tryd.isAgg3 _) Z Zb))
    · exact fun w24 D hS12 hd12 => dg_sub (E' := [(0, (Zw g 0))]) ⟨Z, Zt⟩ (dg_plain Z (ow_move Z Z Zb))
    ·
     intro w25 D hS13 hd13
     obtain ⟨hS13, ho61⟩ := hS13
     have ho61 : Own w25 g 111 #[(.slice Ax a_xs.length cx), (Zv x3.2)] := ho61
     have hl25 := leY hm3 hS13
     have hC25 := hC16.go hS13 (fun b e => Or.inr e)
     refine dg_sub (E' := [(33, (Zw g 0))]) ⟨dpE hd13 3 Z Z, Zt⟩ (dg_plain Z (ow_call Z Z Tryd.call60 (w_spec_l20Rd_pick (hG.mono (lz4.trans hl25)) hC25.old (VRep.mono (lz4.trans hl25) hxs) ho61 hm3 hx4) fun v9 w26 hv9 => ?_))
     obtain ⟨⟨hv9, ho64⟩, hb13⟩ := hv9
     obtain rfl := vint_eq hv9
     exact ⟨⟨⟨hS13.trans hb13, ho64⟩, hb13⟩, Z⟩
    · exact fun w27 D hS14 hd14 => dg_sub (E' := [(0, (Zw g 0))]) ⟨Z, Zt⟩ (dg_plain Z (ow_move Z Z Zb))
    ·
     intro w28 D hS15 hd15
     obtain ⟨hS15, ho69⟩ := hS15
     have ho69 : Own w28 g 111 #[(.slice Ax a_xs.length cx), (Zv x4.2)] := ho69
     have hl28 := leY hm3 hS15
     have hC28 := hC16.go hS15 (fun b e => Or.inr e)
     refine dg_sub (E' := [(35, (Zw g 0))]) ⟨dpE hd15 5 Z Z, Zt⟩ (dg_plain Z (ow_call Z Z Tryd.call60 (w_spec_l20Rd_pick (hG.mono (lz4.trans hl28)) hC28.old (VRep.mono (lz4.trans hl28) hxs) ho69 hm3 hx5) fun v10 w29 hv10 => ?_))
     obtain ⟨⟨hv10, ho72⟩, hb14⟩ := hv10
     obtain rfl := vint_eq hv10
     exact ⟨⟨⟨hS15.trans hb14, ho72⟩, hb14⟩, Z⟩
    ·
     intro w30 D hS16 hd16
     have hC30 := hC16.go hS16 (fun b e => Or.inr e)
     exact dg_sub (E' := [(34, (Zv x4.1)), (36, (Zv x5.1))]) ⟨dpE hd16 4 Z Z, dpE hd16 6 Z Z, Zt⟩ (dg_plain Z (ow_buildSlice (R := RInt) (xs := [0, x4.1, x5.1, 4096]) (cs := #[(Zv 0), (Zv x4.1), (Zv x5.1), (Zv 4096)]) (e := 3) Z Z (by kernel_rfl) Z Z ⟨_, _, Z, (vint _).cells, _, _, Z, (vint _).cells, _, _, Z, (vint _).cells, _, _, Z, (vint _).cells, Z⟩ hC30 fun p3 w31 hw3 hb15 hl31 hC31 => ⟨hb15, hw3⟩))
    · exact fun w32 D hS17 hd17 => dg_sub (E' := [(0, (Zw g 0))]) ⟨Z, Zt⟩ (dg_plain Z (ow_move Z Z Zb))
    ·
     intro w33 D hS18 hd18
     obtain ⟨hS18, ho81⟩ := hS18
     have ho81 : Own w33 g 111 #[(.slice Ax a_xs.length cx), (Zv x5.2)] := ho81
     have hl33 := leY hm3 hS18
     have hC33 := hC16.go hS18 (fun b e => Or.inr e)
     refine dg_sub (E' := [(38, (Zw g 0))]) ⟨dpE hd18 8 Z Z, Zt⟩ (dg_plain Z (ow_call Z Z Tryd.call60 (w_spec_l20Rd_pick (hG.mono (lz4.trans hl33)) hC33.old (VRep.mono (lz4.trans hl33) hxs) ho81 hm3 hx6) fun v11 w34 hv11 => ?_))
     obtain ⟨⟨hv11, ho84⟩, hb16⟩ := hv11
     obtain rfl := vint_eq hv11
     exact ⟨⟨⟨hS18.trans hb16, ho84⟩, hb16⟩, Z⟩
    ·
     intro w35 D hS19 hd19
     have d21 : PV (RSlice RInt) (Add g2 (Add g1 M)) [0, x4.1, x5.1, 4096] (D 7) w35 := dpA hd19 7 Z
     generalize hq1 : (D 7) = v12 at d21
     exact dg_sub (E' := [(37, v12), (39, (Zv x6.1))]) ⟨congrArg some hq1, dpE hd19 9 Z Z, Zt⟩ (dg_plain Z (ow_indexSlice (R := RInt) Z Z Z d21 Tryd.underlying52 (Tryd.sizeOf3 _) hx7 fun p4 hp4 => ⟨BX.refl _ _, ⟨_, Z, hp4⟩⟩))
    ·
     intro w36 D hS20 hd20
     have d23 : PA RInt (Add g2 (Add g1 M)) x7 (D 10) w36 := dpA hd20 10 Z
     obtain ⟨p5, e1, ha1⟩ := d23
     refine dg_sub (E' := [(40, (.pointer (some p5)))]) ⟨congrArg some e1, Zt⟩ (dg_plain Z (ow_load (R := RInt) Z Z ha1 (Tryd.sizeOf3 _) (Tryd.isAgg3 _) fun v13 hv13 => ?_))
     obtain rfl := vint_eq hv13
     exact Zb
    · exact fun w37 D hS21 hd21 => dg_sub (E' := [(32, (Zv (imin a_top (W ((W (x1.1 * 256)) + x3.1))))), (41, (Zv x7))]) ⟨dpE hd21 2 Z Z, dpE hd21 11 Z Z, Zt⟩ (dg_plain Z (ow_add Z Z Z Zb))
    ·
     intro w38 D hS22 hd22
     obtain ⟨hS22, ho93⟩ := hS22
     have ho93 : Own w38 g 111 #[(.slice Ax a_xs.length cx), (Zv x6.2)] := ho93
     have hl38 := leY hm3 hS22
     have hC38 := hC16.go hS22 (fun b e => Or.inr e)
     have ho94 := ho40.go hS22 (fun e => hn1 e.symm)
     have ho95 := ho38.go hS22 (fun e => hn2 e.symm)
     refine lw_sub (E' := [(30, (Zv a_top)), (42, (Zv (W ((imin a_top (W ((W (x1.1 * 256)) + x3.1))) + x7)))), (0, (Zw g 0)), (1, (Zv a_top)), (2, (Zv a_n)), (6, (Zw g1 0)), (7, (Zw g2 0))]) ⟨dpE hd22 0 Z Z, dpE hd22 12 Z Z, Z, Z, Z, Z, Z, Zt⟩ (lw_op Z Z Z (ow_min Z Z Z (lw_op Z Z Z (ow_fieldAddr Z Z Tryd.underlying79 Z (Tryd.sizeOf3 _) (lw_op0 Z Z (ow_store (X := (One g)) (us := [(Zv (imin a_top (W ((imin a_top (W ((W (x1.1 * 256)) + x3.1))) + x7))))]) (cs' := #[(Zv (imin a_top (W ((W (x1.1 * 256)) + x3.1)))), (Zv (imin a_top (W ((imin a_top (W ((W (x1.1 * 256)) + x3.1))) + x7))))]) Z Z Z Z ho95 (Tryd.sizeOf3 _) Z Z Z Z hm5 (.inl hg4) Z hC38 fun w39 ho96 hb17 hl39 hC39 => ?_))))))
     have ho97 := ho93.go hb17 (fun e => hn2 e)
     have ho98 := ho94.go hb17 (fun e => hn3 e)
     refine lw_nil (ew_then (cw_seq (cw_seq (cw_region (lw_op Z Z Z (ow_move Z Z (lw_op Z Z Z (ow_move Z Z ?_))))))))
     have lz5 := ((lz4.trans hl38).trans hl39)
     replace h := bind_some h
     obtain ⟨x8, hx8, h⟩ := h
     refine lw_op Z Z Z (ow_call Z Z Tryd.call81 (w_spec_l20Rd_odd (hG.mono lz5) hC39.old (VRep.mono lz5 hxs) ho97 hm3 hx8) fun v14 w40 hv14 => ?_)
     obtain ⟨⟨hv14, ho99⟩, hb18⟩ := hv14
     have hl40 := Le.of_bx (Add g2 (Add g1 M)) hb18 (fun b e => (by rw [show b = g from e]; exact hm3))
     have hC40 := hC39.go hb18 (fun b e => Or.inr e)
     have ho100 := ho98.go hb18 (fun e => hn1 e.symm)
     have ho101 := ho96.go hb18 (fun e => hn2 e.symm)
     obtain ⟨bb3, hbb3, rfl⟩ := vbool_ex hv14
     refine lw_nil (ew_then ?_)
     replace h := cond_some h
     rcases h with ⟨hc3, h⟩ | ⟨hc3, h⟩
     ·
      obtain rfl := hbb3.trans hc3
      refine cw_true Z (cw_seq ?_)
      replace h := bind_some h
      obtain ⟨x9, hx9, h⟩ := h
      have lz6 := (lz5.trans hl40)
      refine cw_sub (E' := [(0, (Zw g 0)), (1, (Zv a_top)), (6, (Zw g1 0)), (7, (Zw g2 0))]) ⟨Z, Z, Z, Z, Zt⟩ (cw_drawC (g := g) (T := 111) 17 1 [none, none, none, none, none, none, none, none, none, none, none, none, none, none, none, none, some 0] [#[(.slice Ax a_xs.length cx), (Zv x8.2)], #[(.slice Ax a_xs.length cx), (Zv x9.2)]] [PEq (Zw g2 1), PEq (Zv (imin a_top (W ((imin a_top (W ((W (x1.1 * 256)) + x3.1))) + x7)))), PEq (Zv (W ((imin a_top (W ((imin a_top (W ((W (x1.1 * 256)) + x3.1))) + x7))) + 1))), PEq (Zw g2 1), PEq (Zv (imin a_top (W ((imin a_top (W ((W (x1.1 * 256)) + x3.1))) + x7)))), PV RSpan (Add g2 (Add g1 M)) ({ Lo := (W ((imin a_top (W ((imin a_top (W ((W (x1.1 * 256)) + x3.1))) + x7))) + 1)), Hi := (imin a_top (W ((imin a_top (W ((W (x1.1 * 256)) + x3.1))) + x7))) } : Span), PEq (Zw g2 1), PEq (Zv (imin a_top (W ((imin a_top (W ((W (x1.1 * 256)) + x3.1))) + x7)))), PV RSpan (Add g2 (Add g1 M)) ({ Lo := (-1), Hi := (imin a_top (W ((imin a_top (W ((W (x1.1 * 256)) + x3.1))) + x7))) } : Span), PEq (Zw g2 0), PEq (Zv (imin a_top (W ((W (x1.1 * 256)) + x3.1)))), PEq (Zv a_top), PEq (Zv (W (a_top + 1))), PV RSpan (Add g2 (Add g1 M)) ({ Lo := (imin a_top (W ((W (x1.1 * 256)) + x3.1))), Hi := (W (a_top + 1)) } : Span), PV (RSlice RSpan) (Add g2 (Add g1 M)) [({ Lo := (W ((imin a_top (W ((imin a_top (W ((W (x1.1 * 256)) + x3.1))) + x7))) + 1)), Hi := (imin a_top (W ((imin a_top (W ((W (x1.1 * 256)) + x3.1))) + x7))) } : Span), ({ Lo := (-1), Hi := (imin a_top (W ((imin a_top (W ((W (x1.1 * 256)) + x3.1))) + x7))) } : Span), ({ Lo := (imin a_top (W ((W (x1.1 * 256)) + x3.1))), Hi := (W (a_top + 1)) } : Span)], PEq (Zw g 0), PEq (Zv x9.1)] (by kernel_rfl) Z (by kernel_rfl) (by kernel_rfl) ho99 ⟨(PEq.monoY hm3 _), (PEq.monoY hm3 _), (PEq.monoY hm3 _), (PEq.monoY hm3 _), (PEq.monoY hm3 _), (PV.monoY hm3 _ _), (PEq.monoY hm3 _), (PEq.monoY hm3 _), (PV.monoY hm3 _ _), (PEq.monoY hm3 _), (PEq.monoY hm3 _), (PEq.monoY hm3 _), (PEq.monoY hm3 _), (PV.monoY hm3 _ _), (PV.monoY hm3 _ _), (PEq.monoY hm3 _), (PEq.monoY hm3 _), Zt⟩ ⟨?_, ?_, ?_, ?_, ?_, ?_, ?_, ?_, ?_, ?_, ?_, ?_, ?_, ?_, ?_, ?_, ?_, Zt⟩ ?_)
      · exact fun w43 D hS23 hd23 => dg_sub (E' := [(7, (Zw g2 0))]) ⟨Z, Zt⟩ (dg_plain Z (ow_fieldAddr Z Z Tryd.underlying79 Z (Tryd.sizeOf3 _) Zb))
      ·
       intro w44 D hS24 hd24
       have ho111 := ho101.go hS24 (fun e => hn2 e.symm)
       exact dg_sub (E' := [(48, (Zw g2 1))]) ⟨dpE hd24 0 Z Z, Zt⟩ (dg_plain Z (ow_loadOwn1 Z Z Z ho111 (Tryd.isAgg3 _) Z Zb))
      · exact fun w45 D hS25 hd25 => dg_sub (E' := [(49, (Zv (imin a_top (W ((imin a_top (W ((W (x1.1 * 256)) + x3.1))) + x7)))))]) ⟨dpE hd25 1 Z Z, Zt⟩ (dg_plain Z (ow_add Z Z Z Zb))
      · exact fun w46 D hS26 hd26 => dg_sub (E' := [(7, (Zw g2 0))]) ⟨Z, Zt⟩ (dg_plain Z (ow_fieldAddr Z Z Tryd.underlying79 Z (Tryd.sizeOf3 _) Zb))
      ·
       intro w47 D hS27 hd27
       have ho117 := ho101.go hS27 (fun e => hn2 e.symm)
       exact dg_sub (E' := [(51, (Zw g2 1))]) ⟨dpE hd27 3 Z Z, Zt⟩ (dg_plain Z (ow_loadOwn1 Z Z Z ho117 (Tryd.isAgg3 _) Z Zb))
      ·
       intro w48 D hS28 hd28
       refine dg_sub (E' := [(50, (Zv (W ((imin a_top (W ((imin a_top (W ((W (x1.1 * 256)) + x3.1))) + x7))) + 1)))), (52, (Zv (imin a_top (W ((imin a_top (W ((W (x1.1 * 256)) + x3.1))) + x7)))))]) ⟨dpE hd28 2 Z Z, dpE hd28 4 Z Z, Zt⟩ (dg_plain Z (ow_build (v := .agg #[(Zv (W ((imin a_top (W ((imin a_top (W ((W (x1.1 * 256)) + x3.1))) + x7))) + 1))), (Zv (imin a_top (W ((imin a_top (W ((W (x1.1 * 256)) + x3.1))) + x7))))]) Z Z (by kernel_rfl) ?_))
       have hw8 : VRep RSpan w48 (Add g2 (Add g1 M)) ({ Lo := (W ((imin a_top (W ((imin a_top (W ((W (x1.1 * 256)) + x3.1))) + x7))) + 1)), Hi := (imin a_top (W ((imin a_top (W ((W (x1.1 * 256)) + x3.1))) + x7))) } : Span) (.agg #[(Zv (W ((imin a_top (W ((imin a_top (W ((W (x1.1 * 256)) + x3.1))) + x7))) + 1))), (Zv (imin a_top (W ((imin a_top (W ((W (x1.1 * 256)) + x3.1))) + x7))))]) := shut_Span
       exact ⟨BX.refl _ _, hw8⟩
      · exact fun w49 D hS29 hd29 => dg_sub (E' := [(7, (Zw g2 0))]) ⟨Z, Zt⟩ (dg_plain Z (ow_fieldAddr Z Z Tryd.underlying79 Z (Tryd.sizeOf3 _) Zb))
      ·
       intro w50 D hS30 hd30
       have ho123 := ho101.go hS30 (fun e => hn2 e.symm)
       exact dg_sub (E' := [(54, (Zw g2 1))]) ⟨dpE hd30 6 Z Z, Zt⟩ (dg_plain Z (ow_loadOwn1 Z Z Z ho123 (Tryd.isAgg3 _) Z Zb))
      ·
       intro w51 D hS31 hd31
       refine dg_sub (E' := [(55, (Zv (imin a_top (W ((imin a_top (W ((W (x1.1 * 256)) + x3.1))) + x7)))))]) ⟨dpE hd31 7 Z Z, Zt⟩ (dg_plain Z (ow_build (v := .agg #[(Zv (-1)), (Zv (imin a_top (W ((imin a_top (W ((W (x1.1 * 256)) + x3.1))) + x7))))]) Z Z (by kernel_rfl) ?_))
       have hw9 : VRep RSpan w51 (Add g2 (Add g1 M)) ({ Lo := (-1), Hi := (imin a_top (W ((imin a_top (W ((W (x1.1 * 256)) + x3.1))) + x7))) } : Span) (.agg #[(Zv (-1)), (Zv (imin a_top (W ((imin a_top (W ((W (x1.1 * 256)) + x3.1))) + x7))))]) := shut_Span
       exact ⟨BX.refl _ _, hw9⟩
      · exact fun w52 D hS32 hd32 => dg_sub (E' := [(7, (Zw g2 0))]) ⟨Z, Zt⟩ (dg_plain Z (ow_fieldAddr Z Z Tryd.underlying79 Z (Tryd.sizeOf3 _) Zb))
      ·
       intro w53 D hS33 hd33
       have ho129 := ho101.go hS33 (fun e => hn2 e.symm)
       exact dg_sub (E' := [(57, (Zw g2 0))]) ⟨dpE hd33 9 Z Z, Zt⟩ (dg_plain Z (ow_loadOwn1 Z Z Z ho129 (Tryd.isAgg3 _) Z Zb))
      · exact fun w54 D hS34 hd34 => dg_sub (E' := [(1, (Zv a_top))]) ⟨Z, Zt⟩ (dg_plain Z (ow_move Z Z Zb))
      · exact fun w55 D hS35 hd35 => dg_sub (E' := [(59, (Zv a_top))]) ⟨dpE hd35 11 Z Z, Zt⟩ (dg_plain Z (ow_add Z Z Z Zb))
      ·
       intro w56 D hS36 hd36
       refine dg_sub (E' := [(58, (Zv (imin a_top (W ((W (x1.1 * 256)) + x3.1))))), (60, (Zv (W (a_top + 1))))]) ⟨dpE hd36 10 Z Z, dpE hd36 12 Z Z, Zt⟩ (dg_plain Z (ow_build (v := .agg #[(Zv (imin a_top (W ((W (x1.1 * 256)) + x3.1)))), (Zv (W (a_top + 1)))]) Z Z (by kernel_rfl) ?_))
       have hw10 : VRep RSpan w56 (Add g2 (Add g1 M)) ({ Lo := (imin a_top (W ((W (x1.1 * 256)) + x3.1))), Hi := (W (a_top + 1)) } : Span) (.agg #[(Zv (imin a_top (W ((W (x1.1 * 256)) + x3.1)))), (Zv (W (a_top + 1)))]) := shut_Span
       exact ⟨BX.refl _ _, hw10⟩
      ·
       intro w57 D hS37 hd37
       have hC57 := hC40.go hS37 (fun b e => Or.inr e)
       have d50 : PV RSpan (Add g2 (Add g1 M)) ({ Lo := (W ((imin a_top (W ((imin a_top (W ((W (x1.1 * 256)) + x3.1))) + x7))) + 1)), Hi := (imin a_top (W ((imin a_top (W ((W (x1.1 * 256)) + x3.1))) + x7))) } : Span) (D 5) w57 := dpA hd37 5 Z
       have d51 : PV RSpan (Add g2 (Add g1 M)) ({ Lo := (-1), Hi := (imin a_top (W ((imin a_top (W ((W (x1.1 * 256)) + x3.1))) + x7))) } : Span) (D 8) w57 := dpA hd37 8 Z
       have d52 : PV RSpan (Add g2 (Add g1 M)) ({ Lo := (imin a_top (W ((W (x1.1 * 256)) + x3.1))), Hi := (W (a_top + 1)) } : Span) (D 13) w57 := dpA hd37 13 Z
       generalize hq2 : (D 5) = v16 at d50
       generalize hq3 : (D 8) = v17 at d51
       generalize hq4 : (D 13) = v18 at d52
       refine dg_sub (E' := [(53, v16), (56, v17), (61, v18)]) ⟨congrArg some hq2, congrArg some hq3, congrArg some hq4, Zt⟩ ?_
       obtain rfl := open_Span d50
       obtain rfl := open_Span d51
       obtain rfl := open_Span d52
       exact dg_plain Z (ow_buildSlice (R := RSpan) (xs := [({ Lo := (W ((imin a_top (W ((imin a_top (W ((W (x1.1 * 256)) + x3.1))) + x7))) + 1)), Hi := (imin a_top (W ((imin a_top (W ((W (x1.1 * 256)) + x3.1))) + x7))) } : Span), ({ Lo := (-1), Hi := (imin a_top (W ((imin a_top (W ((W (x1.1 * 256)) + x3.1))) + x7))) } : Span), ({ Lo := (imin a_top (W ((W (x1.1 * 256)) + x3.1))), Hi := (W (a_top + 1)) } : Span)]) (cs := #[(Zv ({ Lo := (W ((imin a_top (W ((imin a_top (W ((W (x1.1 * 256)) + x3.1))) + x7))) + 1)), Hi := (imin a_top (W ((imin a_top (W ((W (x1.1 * 256)) + x3.1))) + x7))) } : Span).Lo), (Zv ({ Lo := (W ((imin a_top (W ((imin a_top (W ((W (x1.1 * 256)) + x3.1))) + x7))) + 1)), Hi := (imin a_top (W ((imin a_top (W ((W (x1.1 * 256)) + x3.1))) + x7))) } : Span).Hi), (Zv ({ Lo := (-1), Hi := (imin a_top (W ((imin a_top (W ((W (x1.1 * 256)) + x3.1))) + x7))) } : Span).Lo), (Zv ({ Lo := (-1), Hi := (imin a_top (W ((imin a_top (W ((W (x1.1 * 256)) + x3.1))) + x7))) } : Span).Hi), (Zv ({ Lo := (imin a_top (W ((W (x1.1 * 256)) + x3.1))), Hi := (W (a_top + 1)) } : Span).Lo), (Zv ({ Lo := (imin a_top (W ((W (x1.1 * 256)) + x3.1))), Hi := (W (a_top + 1)) } : Span).Hi)]) (e := 79) Z Z (by kernel_rfl) Z Z ⟨_, _, Z, d50.cells, _, _, Z, d51.cells, _, _, Z, d52.cells, Z⟩ hC57 fun p7 w58 hw11 hb21 hl58 hC58 => ⟨hb21, hw11⟩)
      · exact fun w59 D hS38 hd38 => dg_sub (E' := [(0, (Zw g 0))]) ⟨Z, Zt⟩ (dg_plain Z (ow_move Z Z Zb))
      ·
       intro w60 D hS39 hd39
       obtain ⟨hS39, ho142⟩ := hS39
       have ho142 : Own w60 g 111 #[(.slice Ax a_xs.length cx), (Zv x8.2)] := ho142
       have hl60 := leY hm3 hS39
       have hC60 := hC40.go hS39 (fun b e => Or.inr e)
       refine dg_sub (E' := [(63, (Zw g 0))]) ⟨dpE hd39 15 Z Z, Zt⟩ (dg_plain Z (ow_call Z Z Tryd.call60 (w_spec_l20Rd_pick (hG.mono (lz6.trans hl60)) hC60.old (VRep.mono (lz6.trans hl60) hxs) ho142 hm3 hx9) fun v19 w61 hv19 => ?_))
       obtain ⟨⟨hv19, ho145⟩, hb22⟩ := hv19
       obtain rfl := vint_eq hv19
       exact ⟨⟨⟨hS39.trans hb22, ho145⟩, hb22⟩, Z⟩
      ·
       intro w62 D hS40 hd40
       have d68 : PV (RSlice RSpan) (Add g2 (Add g1 M)) [({ Lo := (W ((imin a_top (W ((imin a_top (W ((W (x1.1 * 256)) + x3.1))) + x7))) + 1)), Hi := (imin a_top (W ((imin a_top (W ((W (x1.1 * 256)) + x3.1))) + x7))) } : Span), ({ Lo := (-1), Hi := (imin a_top (W ((imin a_top (W ((W (x1.1 * 256)) + x3.1))) + x7))) } : Span), ({ Lo := (imin a_top (W ((W (x1.1 * 256)) + x3.1))), Hi := (W (a_top + 1)) } : Span)] (D 14) w62 := dpA hd40 14 Z
       obtain ⟨hS40, ho148⟩ := hS40
       have ho148 : Own w62 g 111 #[(.slice Ax a_xs.length cx), (Zv x9.2)] := ho148
       have hC62 := hC40.go hS40 (fun b e => Or.inr e)
       have ho149 := ho100.go hS40 (fun e => hn1 e.symm)
       generalize hq5 : (D 14) = v20 at d68
       refine lw_sub (E' := [(62, v20), (64, (Zv x9.1)), (0, (Zw g 0)), (1, (Zv a_top)), (6, (Zw g1 0)), (7, (Zw g2 0))]) ⟨congrArg some hq5, dpE hd40 16 Z Z, Z, Z, Z, Z, Zt⟩ ?_
       replace h := bind_some h
       obtain ⟨x10, hx10, h⟩ := h
       refine lw_op Z Z Z (ow_indexSlice (R := RSpan) Z Z Z d68 Tryd.underlying71 (Tryd.sizeOf79 _) hx10 fun p8 hp8 => lw_op Z Z Z (ow_load (R := RSpan) Z Z hp8 (Tryd.sizeOf79 _) (Tryd.isAgg79 _) fun v21 hv21 => ?_))
       obtain rfl := open_Span hv21
       refine lw_op0 Z Z (ow_store (X := (One g)) (us := [(Zv x10.Lo), (Zv x10.Hi)]) (cs' := #[(Zv x10.Lo), (Zv x10.Hi)]) Z Z Z Z ho149 (Tryd.sizeOf79 _) Z Z Z Z hm4 (.inl hg2) Z hC62 fun w63 ho151 hb23 hl63 hC63 => ?_)
       have ho152 := ho148.go hb23 (fun e => hn1 e)
       refine lw_nil (ew_then (cw_ret (ew_thenR ?_)))
       have hw12 : VRep RSpan w63 (Add g2 (Add g1 M)) ({ Lo := x10.Lo, Hi := x10.Hi } : Span) (.agg #[(Zv x10.Lo), (Zv x10.Hi)]) := shut_Span
       obtain rfl := sj h
       exact ew_ret (res1 Z (.cell Z (own_loadVarA ho151 (Tryd.isAgg79 _) (Tryd.sizeOf79 _) Z))) ⟨_, Z, ⟨(hw12.mono hC63.back), ho152⟩, hC63.bx⟩
     ·
      obtain rfl := hbb3.trans hc3
      refine cw_false Z (cw_skip (ew_then (cw_seq (cw_region (lw_op Z Z Z (ow_loadOwnA Z Z Z ho101 (Tryd.isAgg79 _) (Tryd.sizeOf79 _) Z (lw_op0 Z Z (ow_store (X := (One g)) (us := [(Zv (imin a_top (W ((W (x1.1 * 256)) + x3.1)))), (Zv (imin a_top (W ((imin a_top (W ((W (x1.1 * 256)) + x3.1))) + x7))))]) (cs' := #[(Zv (imin a_top (W ((W (x1.1 * 256)) + x3.1)))), (Zv (imin a_top (W ((imin a_top (W ((W (x1.1 * 256)) + x3.1))) + x7))))]) Z Z Z Z ho100 (Tryd.sizeOf79 _) Z Z Z Z hm4 (.inl hg2) Z hC40 fun w64 ho154 hb24 hl64 hC64 => ?_))))))))
      have ho155 := ho99.go hb24 (fun e => hn1 e)
      refine lw_nil (ew_then (cw_ret ?_))
      have hw14 : VRep RSpan w64 (Add g2 (Add g1 M)) ({ Lo := (imin a_top (W ((W (x1.1 * 256)) + x3.1))), Hi := (imin a_top (W ((imin a_top (W ((W (x1.1 * 256)) + x3.1))) + x7))) } : Span) (.agg #[(Zv (imin a_top (W ((W (x1.1 * 256)) + x3.1)))), (Zv (imin a_top (W ((imin a_top (W ((W (x1.1 * 256)) + x3.1))) + x7))))]) := shut_Span
      obtain rfl := sj h
      exact ew_ret (res1 Z (.cell Z (own_loadVarA ho154 (Tryd.isAgg79 _) (Tryd.sizeOf79 _) Z))) ⟨_, Z, ⟨(hw14.mono hC64.back), ho155⟩, hC64.bx⟩
  ·
   obtain rfl := hbb2.trans hc2
   refine cw_false Z (cw_skip (ew_then (cw_seq ?_)))
   replace h := bind_some h
   obtain ⟨x11, hx11, h⟩ := h
   replace h := bind_some h
   obtain ⟨x12, hx12, h⟩ := h
   replace h := bind_some h
   obtain ⟨x13, hx13, h⟩ := h
   replace h := bind_some h
   obtain ⟨x14, hx14, h⟩ := h
   have lz7 := (lz1.trans hl5)
   refine cw_sub (E' := [(0, (Zw g 0)), (1, (Zv a_top)), (2, (Zv a_n)), (6, (Zw g1 0)), (7, (Zw g2 0))]) ⟨Z, Z, Z, Z, Z, Zt⟩ (cw_drawC (g := g) (T := 111) 13 3 [none, none, none, none, some 0, none, some 1, none, none, some 2, none, none, none] [#[(.slice Ax a_xs.length cx), (Zv x2.2)], #[(.slice Ax a_xs.length cx), (Zv x11.2)], #[(.slice Ax a_xs.length cx), (Zv x12.2)], #[(.slice Ax a_xs.length cx), (Zv x13.2)]] [PEq (Zv a_top), PEq (Zw g2 0), PEq (Zv x1.1), PEq (Zw g 0), PEq (Zv x11.1), PEq (Zw g 0), PEq (Zv x12.1), PV (RSlice RInt) (Add g2 (Add g1 M)) [0, x11.1, x12.1, 4096], PEq (Zw g 0), PEq (Zv x13.1), PA RInt (Add g2 (Add g1 M)) x14, PEq (Zv x14), PEq (Zv (W (x1.1 + x14)))] (by kernel_rfl) Z (by kernel_rfl) (by kernel_rfl) ho11 ⟨(PEq.monoY hm3 _), (PEq.monoY hm3 _), (PEq.monoY hm3 _), (PEq.monoY hm3 _), (PEq.monoY hm3 _), (PEq.monoY hm3 _), (PEq.monoY hm3 _), (PV.monoY hm3 _ _), (PEq.monoY hm3 _), (PEq.monoY hm3 _), (PA.monoY hm3 _ _), (PEq.monoY hm3 _), (PEq.monoY hm3 _), Zt⟩ ⟨?_, ?_, ?_, ?_, ?_, ?_, ?_, ?_, ?_, ?_, ?_, ?_, ?_, Zt⟩ ?_)
   · exact fun w69 D hS41 hd41 => dg_sub (E' := [(1, (Zv a_top))]) ⟨Z, Zt⟩ (dg_plain Z (ow_move Z Z Zb))
   · exact fun w70 D hS42 hd42 => dg_sub (E' := [(7, (Zw g2 0))]) ⟨Z, Zt⟩ (dg_plain Z (ow_fieldAddr Z Z Tryd.underlying79 Z (Tryd.sizeOf3 _) Zb))
   ·
    intro w71 D hS43 hd43
    have ho174 := ho13.go hS43 (fun e => hn2 e.symm)
    exact dg_sub (E' := [(31, (Zw g2 0))]) ⟨dpE hd43 1 Z Z, Zt⟩ (dg_plain Z (ow_loadOwn1 Z Z Z ho174 (Tryd.isAgg3 _) Z Zb))
   · exact fun w72 D hS44 hd44 => dg_sub (E' := [(0, (Zw g 0))]) ⟨Z, Zt⟩ (dg_plain Z (ow_move Z Z Zb))
   ·
    intro w73 D hS45 hd45
    obtain ⟨hS45, ho177⟩ := hS45
    have ho177 : Own w73 g 111 #[(.slice Ax a_xs.length cx), (Zv x2.2)] := ho177
    have hl73 := leY hm3 hS45
    have hC73 := hC5.go hS45 (fun b e => Or.inr e)
    refine dg_sub (E' := [(33, (Zw g 0))]) ⟨dpE hd45 3 Z Z, Zt⟩ (dg_plain Z (ow_call Z Z Tryd.call60 (w_spec_l20Rd_pick (hG.mono (lz7.trans hl73)) hC73.old (VRep.mono (lz7.trans hl73) hxs) ho177 hm3 hx11) fun v26 w74 hv26 => ?_))
    obtain ⟨⟨hv26, ho180⟩, hb29⟩ := hv26
    obtain rfl := vint_eq hv26
    exact ⟨⟨⟨hS45.trans hb29, ho180⟩, hb29⟩, Z⟩
   · exact fun w75 D hS46 hd46 => dg_sub (E' := [(0, (Zw g 0))]) ⟨Z, Zt⟩ (dg_plain Z (ow_move Z Z Zb))
   ·
    intro w76 D hS47 hd47
    obtain ⟨hS47, ho185⟩ := hS47
    have ho185 : Own w76 g 111 #[(.slice Ax a_xs.length cx), (Zv x11.2)] := ho185
    have hl76 := leY hm3 hS47
    have hC76 := hC5.go hS47 (fun b e => Or.inr e)
    refine dg_sub (E' := [(35, (Zw g 0))]) ⟨dpE hd47 5 Z Z, Zt⟩ (dg_plain Z (ow_call Z Z Tryd.call60 (w_spec_l20Rd_pick (hG.mono (lz7.trans hl76)) hC76.old (VRep.mono (lz7.trans hl76) hxs) ho185 hm3 hx12) fun v27 w77 hv27 => ?_))
    obtain ⟨⟨hv27, ho188⟩, hb30⟩ := hv27
    obtain rfl := vint_eq hv27
    exact ⟨⟨⟨hS47.trans hb30, ho188⟩, hb30⟩, Z⟩
   ·
    intro w78 D hS48 hd48
    have hC78 := hC5.go hS48 (fun b e => Or.inr e)
    exact dg_sub (E' := [(34, (Zv x11.1)), (36, (Zv x12.1))]) ⟨dpE hd48 4 Z Z, dpE hd48 6 Z Z, Zt⟩ (dg_plain Z (ow_buildSlice (R := RInt) (xs := [0, x11.1, x12.1, 4096]) (cs := #[(Zv 0), (Zv x11.1), (Zv x12.1), (Zv 4096)]) (e := 3) Z Z (by kernel_rfl) Z Z ⟨_, _, Z, (vint _).cells, _, _, Z, (vint _).cells, _, _, Z, (vint _).cells, _, _, Z, (vint _).cells, Z⟩ hC78 fun p11 w79 hw16 hb31 hl79 hC79 => ⟨hb31, hw16⟩))
   · exact fun w80 D hS49 hd49 => dg_sub (E' := [(0, (Zw g 0))]) ⟨Z, Zt⟩ (dg_plain Z (ow_move Z Z Zb))
   ·
    intro w81 D hS50 hd50
    obtain ⟨hS50, ho197⟩ := hS50
    have ho197 : Own w81 g 111 #[(.slice Ax a_xs.length cx), (Zv x12.2)] := ho197
    have hl81 := leY hm3 hS50
    have hC81 := hC5.go hS50 (fun b e => Or.inr e)
    refine dg_sub (E' := [(38, (Zw g 0))]) ⟨dpE hd50 8 Z Z, Zt⟩ (dg_plain Z (ow_call Z Z Tryd.call60 (w_spec_l20Rd_pick (hG.mono (lz7.trans hl81)) hC81.old (VRep.mono (lz7.trans hl81) hxs) ho197 hm3 hx13) fun v28 w82 hv28 => ?_))
    obtain ⟨⟨hv28, ho200⟩, hb32⟩ := hv28
    obtain rfl := vint_eq hv28
    exact ⟨⟨⟨hS50.trans hb32, ho200⟩, hb32⟩, Z⟩
   ·
    intro w83 D hS51 hd51
    have d79 : PV (RSlice RInt) (Add g2 (Add g1 M)) [0, x11.1, x12.1, 4096] (D 7) w83 := dpA hd51 7 Z
    generalize hq6 : (D 7) = v29 at d79
    exact dg_sub (E' := [(37, v29), (39, (Zv x13.1))]) ⟨congrArg some hq6, dpE hd51 9 Z Z, Zt⟩ (dg_plain Z (ow_indexSlice (R := RInt) Z Z Z d79 Tryd.underlying52 (Tryd.sizeOf3 _) hx14 fun p12 hp12 => ⟨BX.refl _ _, ⟨_, Z, hp12⟩⟩))
   ·
    intro w84 D hS52 hd52
    have d81 : PA RInt (Add g2 (Add g1 M)) x14 (D 10) w84 := dpA hd52 10 Z
    obtain ⟨p13, e2, ha2⟩ := d81
    refine dg_sub (E' := [(40, (.pointer (some p13)))]) ⟨congrArg some e2, Zt⟩ (dg_plain Z (ow_load (R := RInt) Z Z ha2 (Tryd.sizeOf3 _) (Tryd.isAgg3 _) fun v30 hv30 => ?_))
    obtain rfl := vint_eq hv30
    exact Zb
   · exact fun w85 D hS53 hd53 => dg_sub (E' := [(32, (Zv x1.1)), (41, (Zv x14))]) ⟨dpE hd53 2 Z Z, dpE hd53 11 Z Z, Zt⟩ (dg_plain Z (ow_add Z Z Z Zb))
   ·
    intro w86 D hS54 hd54
    obtain ⟨hS54, ho209⟩ := hS54
    have ho209 : Own w86 g 111 #[(.slice Ax a_xs.length cx), (Zv x13.2)] := ho209
    have hl86 := leY hm3 hS54
    have hC86 := hC5.go hS54 (fun b e => Or.inr e)
    have ho210 := ho12.go hS54 (fun e => hn1 e.symm)
    have ho211 := ho13.go hS54 (fun e => hn2 e.symm)
    refine lw_sub (E' := [(30, (Zv a_top)), (42, (Zv (W (x1.1 + x14)))), (0, (Zw g 0)), (1, (Zv a_top)), (2, (Zv a_n)), (6, (Zw g1 0)), (7, (Zw g2 0))]) ⟨dpE hd54 0 Z Z, dpE hd54 12 Z Z, Z, Z, Z, Z, Z, Zt⟩ (lw_op Z Z Z (ow_min Z Z Z (lw_op Z Z Z (ow_fieldAddr Z Z Tryd.underlying79 Z (Tryd.sizeOf3 _) (lw_op0 Z Z (ow_store (X := (One g)) (us := [(Zv (imin a_top (W (x1.1 + x14))))]) (cs' := #[(Zv x1.1), (Zv (imin a_top (W (x1.1 + x14))))]) Z Z Z Z ho211 (Tryd.sizeOf3 _) Z Z Z Z hm5 (.inl hg4) Z hC86 fun w87 ho212 hb33 hl87 hC87 => ?_))))))
    have ho213 := ho209.go hb33 (fun e => hn2 e)
    have ho214 := ho210.go hb33 (fun e => hn3 e)
    refine lw_nil (ew_then (cw_seq (cw_seq (cw_region (lw_op Z Z Z (ow_move Z Z (lw_op Z Z Z (ow_move Z Z ?_))))))))
    have lz9 := ((lz7.trans hl86).trans hl87)
    replace h := bind_some h
    obtain ⟨x15, hx15, h⟩ := h
    refine lw_op Z Z Z (ow_call Z Z Tryd.call81 (w_spec_l20Rd_odd (hG.mono lz9) hC87.old (VRep.mono lz9 hxs) ho213 hm3 hx15) fun v31 w88 hv31 => ?_)
    obtain ⟨⟨hv31, ho215⟩, hb34⟩ := hv31
    have hl88 := Le.of_bx (Add g2 (Add g1 M)) hb34 (fun b e => (by rw [show b = g from e]; exact hm3))
    have hC88 := hC87.go hb34 (fun b e => Or.inr e)
    have ho216 := ho214.go hb34 (fun e => hn1 e.symm)
    have ho217 := ho212.go hb34 (fun e => hn2 e.symm)
    obtain ⟨bb4, hbb4, rfl⟩ := vbool_ex hv31
    refine lw_nil (ew_then ?_)
    replace h := cond_some h
    rcases h with ⟨hc4, h⟩ | ⟨hc4, h⟩
    ·
     obtain rfl := hbb4.trans hc4
     refine cw_true Z (cw_seq ?_)
     replace h := bind_some h
     obtain ⟨x16, hx16, h⟩ := h
     have lz10 := (lz9.trans hl88)
     refine cw_sub (E' := [(0, (Zw g 0)), (1, (Zv a_top)), (6, (Zw g1 0)), (7, (Zw g2 0))]) ⟨Z, Z, Z, Z, Zt⟩ (cw_drawC (g := g) (T := 111) 17 1 [none, none, none, none, none, none, none, none, none, none, none, none, none, none, none, none, some 0] [#[(.slice Ax a_xs.length cx), (Zv x15.2)], #[(.slice Ax a_xs.length cx), (Zv x16.2)]] [PEq (Zw g2 1), PEq (Zv (imin a_top (W (x1.1 + x14)))), PEq (Zv (W ((imin a_top (W (x1.1 + x14))) + 1))), PEq (Zw g2 1), PEq (Zv (imin a_top (W (x1.1 + x14)))), PV RSpan (Add g2 (Add g1 M)) ({ Lo := (W ((imin a_top (W (x1.1 + x14))) + 1)), Hi := (imin a_top (W (x1.1 + x14))) } : Span), PEq (Zw g2 1), PEq (Zv (imin a_top (W (x1.1 + x14)))), PV RSpan (Add g2 (Add g1 M)) ({ Lo := (-1), Hi := (imin a_top (W (x1.1 + x14))) } : Span), PEq (Zw g2 0), PEq (Zv x1.1), PEq (Zv a_top), PEq (Zv (W (a_top + 1))), PV RSpan (Add g2 (Add g1 M)) ({ Lo := x1.1, Hi := (W (a_top + 1)) } : Span), PV (RSlice RSpan) (Add g2 (Add g1 M)) [({ Lo := (W ((imin a_top (W (x1.1 + x14))) + 1)), Hi := (imin a_top (W (x1.1 + x14))) } : Span), ({ Lo := (-1), Hi := (imin a_top (W (x1.1 + x14))) } : Span), ({ Lo := x1.1, Hi := (W (a_top + 1)) } : Span)], PEq (Zw g 0), PEq (Zv x16.1)] (by kernel_rfl) Z (by kernel_rfl) (by kernel_rfl) ho215 ⟨(PEq.monoY hm3 _), (PEq.monoY hm3 _), (PEq.monoY hm3 _), (PEq.monoY hm3 _), (PEq.monoY hm3 _), (PV.monoY hm3 _ _), (PEq.monoY hm3 _), (PEq.monoY hm3 _), (PV.monoY hm3 _ _), (PEq.monoY hm3 _), (PEq.monoY hm3 _), (PEq.monoY hm3 _), (PEq.monoY hm3 _), (PV.monoY hm3 _ _), (PV.monoY hm3 _ _), (PEq.monoY hm3 _), (PEq.monoY hm3 _), Zt⟩ ⟨?_, ?_, ?_, ?_, ?_, ?_, ?_, ?_, ?_, ?_, ?_, ?_, ?_, ?_, ?_, ?_, ?_, Zt⟩ ?_)
     · exact fun w91 D hS55 hd55 => dg_sub (E' := [(7, (Zw g2 0))]) ⟨Z, Zt⟩ (dg_plain Z (ow_fieldAddr Z Z Tryd.underlying79 Z (Tryd.sizeOf3 _) Zb))
     ·
      intro w92 D hS56 hd56
      have ho227 := ho217.go hS56 (fun e => hn2 e.symm)
      exact dg_sub (E' := [(48, (Zw g2 1))]) ⟨dpE hd56 0 Z Z, Zt⟩ (dg_plain Z (ow_loadOwn1 Z Z Z ho227 (Tryd.isAgg3 _) Z Zb))
     · exact fun w93 D hS57 hd57 => dg_sub (E' := [(49, (Zv (imin a_top (W (x1.1 + x14)))))]) ⟨dpE hd57 1 Z Z, Zt⟩ (dg_plain Z (ow_add Z Z Z Zb))
     · exact fun w94 D hS58 hd58 => dg_sub (E' := [(7, (Zw g2 0))]) ⟨Z, Zt⟩ (dg_plain Z (ow_fieldAddr Z Z Tryd.underlying79 Z (Tryd.sizeOf3 _) Zb))
     ·
      intro w95 D hS59 hd59
      have ho233 := ho217.go hS59 (fun e => hn2 e.symm)
      exact dg_sub (E' := [(51, (Zw g2 1))]) ⟨dpE hd59 3 Z Z, Zt⟩ (dg_plain Z (ow_loadOwn1 Z Z Z ho233 (Tryd.isAgg3 _) Z Zb))
     ·
      intro w96 D hS60 hd60
      refine dg_sub (E' := [(50, (Zv (W ((imin a_top (W (x1.1 + x14))) + 1)))), (52, (Zv (imin a_top (W (x1.1 + x14)))))]) ⟨dpE hd60 2 Z Z, dpE hd60 4 Z Z, Zt⟩ (dg_plain Z (ow_build (v := .agg #[(Zv (W ((imin a_top (W (x1.1 + x14))) + 1))), (Zv (imin a_top (W (x1.1 + x14))))]) Z Z (by kernel_rfl) ?_))
      have hw21 : VRep RSpan w96 (Add g2 (Add g1 M)) ({ Lo := (W ((imin a_top (W (x1.1 + x14))) + 1)), Hi := (imin a_top (W (x1.1 + x14))) } : Span) (.agg #[(Zv (W ((imin a_top (W (x1.1 + x14))) + 1))), (Zv (imin a_top (W (x1.1 + x14))))]) := shut_Span
      exact ⟨BX.refl _ _, hw21⟩
     · exact fun w97 D hS61 hd61 => dg_sub (E' := [(7, (Zw g2 0))]) ⟨Z, Zt⟩ (dg_plain Z (ow_fieldAddr Z Z Tryd.underlying79 Z (Tryd.sizeOf3 _) Zb))
     ·
      intro w98 D hS62 hd62
      have ho239 := ho217.go hS62 (fun e => hn2 e.symm)
      exact dg_sub (E' := [(54, (Zw g2 1))]) ⟨dpE hd62 6 Z Z, Zt⟩ (dg_plain Z (ow_loadOwn1 Z Z Z ho239 (Tryd.isAgg3 _) Z Zb))
     ·
      intro w99 D hS63 hd63
      refine dg_sub (E' := [(55, (Zv (imin a_top (W (x1.1 + x14)))))]) ⟨dpE hd63 7 Z Z, Zt⟩ (dg_plain Z (ow_build (v := .agg #[(Zv (-1)), (Zv (imin a_top (W (x1.1 + x14))))]) Z Z (by kernel_rfl) ?_))
      have hw22 : VRep RSpan w99 (Add g2 (Add g1 M)) ({ Lo := (-1), Hi := (imin a_top (W (x1.1 + x14))) } : Span) (.agg #[(Zv (-1)), (Zv (imin a_top (W (x1.1 + x14))))]) := shut_Span
      exact ⟨BX.refl _ _, hw22⟩
     · exact fun w100 D hS64 hd64 => dg_sub (E' := [(7, (Zw g2 0))]) ⟨Z, Zt⟩ (dg_plain Z (ow_fieldAddr Z Z Tryd.underlying79 Z (Tryd.sizeOf3 _) Zb))
     ·
      intro w101 D hS65 hd65
      have ho245 := ho217.go hS65 (fun e => hn2 e.symm)
      exact dg_sub (E' := [(57, (Zw g2 0))]) ⟨dpE hd65 9 Z Z, Zt⟩ (dg_plain Z (ow_loadOwn1 Z Z Z ho245 (Tryd.isAgg3 _) Z Zb))
     · exact fun w102 D hS66 hd66 => dg_sub (E' := [(1, (Zv a_top))]) ⟨Z, Zt⟩ (dg_plain Z (ow_move Z Z Zb))
     · exact fun w103 D hS67 hd67 => dg_sub (E' := [(59, (Zv a_top))]) ⟨dpE hd67 11 Z Z, Zt⟩ (dg_plain Z (ow_add Z Z Z Zb))
     ·
      intro w104 D hS68 hd68
      refine dg_sub (E' := [(58, (Zv x1.1)), (60, (Zv (W (a_top + 1))))]) ⟨dpE hd68 10 Z Z, dpE hd68 12 Z Z, Zt⟩ (dg_plain Z (ow_build (v := .agg #[(Zv x1.1), (Zv (W (a_top + 1)))]) Z Z (by kernel_rfl) ?_))
      have hw23 : VRep RSpan w104 (Add g2 (Add g1 M)) ({ Lo := x1.1, Hi := (W (a_top + 1)) } : Span) (.agg #[(Zv x1.1), (Zv (W (a_top + 1)))]) := shut_Span
      exact ⟨BX.refl _ _, hw23⟩
     ·
      intro w105 D hS69 hd69
      have hC105 := hC88.go hS69 (fun b e => Or.inr e)
      have d108 : PV RSpan (Add g2 (Add g1 M)) ({ Lo := (W ((imin a_top (W (x1.1 + x14))) + 1)), Hi := (imin a_top (W (x1.1 + x14))) } : Span) (D 5) w105 := dpA hd69 5 Z
      have d109 : PV RSpan (Add g2 (Add g1 M)) ({ Lo := (-1), Hi := (imin a_top (W (x1.1 + x14))) } : Span) (D 8) w105 := dpA hd69 8 Z
      have d110 : PV RSpan (Add g2 (Add g1 M)) ({ Lo := x1.1, Hi := (W (a_top + 1)) } : Span) (D 13) w105 := dpA hd69 13 Z
      generalize hq7 : (D 5) = v33 at d108
      generalize hq8 : (D 8) = v34 at d109
      generalize hq9 : (D 13) = v35 at d110
      refine dg_sub (E' := [(53, v33), (56, v34), (61, v35)]) ⟨congrArg some hq7, congrArg some hq8, congrArg some hq9, Zt⟩ ?_
      obtain rfl := open_Span d108
      obtain rfl := open_Span d109
      obtain rfl := open_Span d110
      exact dg_plain Z (ow_buildSlice (R := RSpan) (xs := [({ Lo := (W ((imin a_top (W (x1.1 + x14))) + 1)), Hi := (imin a_top (W (x1.1 + x14))) } : Span), ({ Lo := (-1), Hi := (imin a_top (W (x1.1 + x14))) } : Span), ({ Lo := x1.1, Hi := (W (a_top + 1)) } : Span)]) (cs := #[(Zv ({ Lo := (W ((imin a_top (W (x1.1 + x14))) + 1)), Hi := (imin a_top (W (x1.1 + x14))) } : Span).Lo), (Zv ({ Lo := (W ((imin a_top (W (x1.1 + x14))) + 1)), Hi := (imin a_top (W (x1.1 + x14))) } : Span).Hi), (Zv ({ Lo := (-1), Hi := (imin a_top (W (x1.1 + x14))) } : Span).Lo), (Zv ({ Lo := (-1), Hi := (imin a_top (W (x1.1 + x14))) } : Span).Hi), (Zv ({ Lo := x1.1, Hi := (W (a_top + 1)) } : Span).Lo), (Zv ({ Lo := x1.1, Hi := (W (a_top + 1)) } : Span).Hi)]) (e := 79) Z Z (by kernel_rfl) Z Z ⟨_, _, Z, d108.cells, _, _, Z, d109.cells, _, _, Z, d110.cells, Z⟩ hC105 fun p15 w106 hw24 hb37 hl106 hC106 => ⟨hb37, hw24⟩)
     · exact fun w107 D hS70 hd70 => dg_sub (E' := [(0, (Zw g 0))]) ⟨Z, Zt⟩ (dg_plain Z (ow_move Z Z Zb))
     ·
      intro w108 D hS71 hd71
      obtain ⟨hS71, ho258⟩ := hS71
      have ho258 : Own w108 g 111 #[(.slice Ax a_xs.length cx), (Zv x15.2)] := ho258
      have hl108 := leY hm3 hS71
      have hC108 := hC88.go hS71 (fun b e => Or.inr e)
      refine dg_sub (E' := [(63, (Zw g 0))]) ⟨dpE hd71 15 Z Z, Zt⟩ (dg_plain Z (ow_call Z Z Tryd.call60 (w_spec_l20Rd_pick (hG.mono (lz10.trans hl108)) hC108.old (VRep.mono (lz10.trans hl108) hxs) ho258 hm3 hx16) fun v36 w109 hv36 => ?_))
      obtain ⟨⟨hv36, ho261⟩, hb38⟩ := hv36
      obtain rfl := vint_eq hv36
      exact ⟨⟨⟨hS71.trans hb38, ho261⟩, hb38⟩, Z⟩
     ·
      intro w110 D hS72 hd72
      have d126 : PV (RSlice RSpan) (Add g2 (Add g1 M)) [({ Lo := (W ((imin a_top (W (x1.1 + x14))) + 1)), Hi := (imin a_top (W (x1.1 + x14))) } : Span), ({ Lo := (-1), Hi := (imin a_top (W (x1.1 + x14))) } : Span), ({ Lo := x1.1, Hi := (W (a_top + 1)) } : Span)] (D 14) w110 := dpA hd72 14 Z
      obtain ⟨hS72, ho264⟩ := hS72
      have ho264 : Own w110 g 111 #[(.slice Ax a_xs.length cx), (Zv x16.2)] := ho264
      have hC110 := hC88.go hS72 (fun b e => Or.inr e)
      have ho265 := ho216.go hS72 (fun e => hn1 e.symm)
      generalize hq10 : (D 14) = v37 at d126
      refine lw_sub (E' := [(62, v37), (64, (Zv x16.1)), (0, (Zw g 0)), (1, (Zv a_top)), (6, (Zw g1 0)), (7, (Zw g2 0))]) ⟨congrArg some hq10, dpE hd72 16 Z Z, Z, Z, Z, Z, Zt⟩ ?_
      replace h := bind_some h
      obtain ⟨x17, hx17, h⟩ := h
      refine lw_op Z Z Z (ow_indexSlice (R := RSpan) Z Z Z d126 Tryd.underlying71 (Tryd.sizeOf79 _) hx17 fun p16 hp16 => lw_op Z Z Z (ow_load (R := RSpan) Z Z hp16 (Tryd.sizeOf79 _) (Tryd.isAgg79 _) fun v38 hv38 => ?_))
      obtain rfl := open_Span hv38
      refine lw_op0 Z Z (ow_store (X := (One g)) (us := [(Zv x17.Lo), (Zv x17.Hi)]) (cs' := #[(Zv x17.Lo), (Zv x17.Hi)]) Z Z Z Z ho265 (Tryd.sizeOf79 _) Z Z Z Z hm4 (.inl hg2) Z hC110 fun w111 ho267 hb39 hl111 hC111 => ?_)
      have ho268 := ho264.go hb39 (fun e => hn1 e)
      refine lw_nil (ew_then (cw_ret (ew_thenR ?_)))
      have hw25 : VRep RSpan w111 (Add g2 (Add g1 M)) ({ Lo := x17.Lo, Hi := x17.Hi } : Span) (.agg #[(Zv x17.Lo), (Zv x17.Hi)]) := shut_Span
      obtain rfl := sj h
      exact ew_ret (res1 Z (.cell Z (own_loadVarA ho267 (Tryd.isAgg79 _) (Tryd.sizeOf79 _) Z))) ⟨_, Z, ⟨(hw25.mono hC111.back), ho268⟩, hC111.bx⟩
    ·
     obtain rfl := hbb4.trans hc4
     refine cw_false Z (cw_skip (ew_then (cw_seq (cw_region (lw_op Z Z Z (ow_loadOwnA Z Z Z ho217 (Tryd.isAgg79 _) (Tryd.sizeOf79 _) Z (lw_op0 Z Z (ow_store (X := (One g)) (us := [(Zv x1.1), (Zv (imin a_top (W (x1.1 + x14))))]) (cs' := #[(Zv x1.1), (Zv (imin a_top (W (x1.1 + x14))))]) Z Z Z Z ho216 (Tryd.sizeOf79 _) Z Z Z Z hm4 (.inl hg2) Z hC88 fun w112 ho270 hb40 hl112 hC112 => ?_))))))))
     have ho271 := ho215.go hb40 (fun e => hn1 e)
     refine lw_nil (ew_then (cw_ret ?_))
     have hw27 : VRep RSpan w112 (Add g2 (Add g1 M)) ({ Lo := x1.1, Hi := (imin a_top (W (x1.1 + x14))) } : Span) (.agg #[(Zv x1.1), (Zv (imin a_top (W (x1.1 + x14))))]) := shut_Span
     obtain rfl := sj h
     exact ew_ret (res1 Z (.cell Z (own_loadVarA ho270 (Tryd.isAgg79 _) (Tryd.sizeOf79 _) Z))) ⟨_, Z, ⟨(hw27.mono hC112.back), ho271⟩, hC112.bx⟩
 ·
  obtain rfl := hbb1.trans hc1
  refine lw_off Z Z Z Z Z Z (lw_off Z Z Z Z Z Z (lw_off Z Z Z Z Z Z (lw_op Z Z Z (ow_pickF Z Z Z (lw_nil (ew_then (cw_false Z (cw_skip (ew_then (cw_seq ?_))))))))))
  replace h := bind_some h
  obtain ⟨x18, hx18, h⟩ := h
  replace h := bind_some h
  obtain ⟨x19, hx19, h⟩ := h
  replace h := bind_some h
  obtain ⟨x20, hx20, h⟩ := h
  replace h := bind_some h
  obtain ⟨x21, hx21, h⟩ := h
  have lz11 := (((hl1.trans hl2).trans hl3).trans hl4)
  refine cw_sub (E' := [(0, (Zw g 0)), (1, (Zv a_top)), (2, (Zv a_n)), (6, (Zw g1 0)), (7, (Zw g2 0))]) ⟨Z, Z, Z, Z, Z, Zt⟩ (cw_drawC (g := g) (T := 111) 13 3 [none, none, none, none, some 0, none, some 1, none, none, some 2, none, none, none] [#[(.slice Ax a_xs.length cx), (Zv x1.2)], #[(.slice Ax a_xs.length cx), (Zv x18.2)], #[(.slice Ax a_xs.length cx), (Zv x19.2)], #[(.slice Ax a_xs.length cx), (Zv x20.2)]] [PEq (Zv a_top), PEq (Zw g2 0), PEq (Zv x1.1), PEq (Zw g 0), PEq (Zv x18.1), PEq (Zw g 0), PEq (Zv x19.1), PV (RSlice RInt) (Add g2 (Add g1 M)) [0, x18.1, x19.1, 4096], PEq (Zw g 0), PEq (Zv x20.1), PA RInt (Add g2 (Add g1 M)) x21, PEq (Zv x21), PEq (Zv (W (x1.1 + x21)))] (by kernel_rfl) Z (by kernel_rfl) (by kernel_rfl) ho9 ⟨(PEq.monoY hm3 _), (PEq.monoY hm3 _), (PEq.monoY hm3 _), (PEq.monoY hm3 _), (PEq.monoY hm3 _), (PEq.monoY hm3 _), (PEq.monoY hm3 _), (PV.monoY hm3 _ _), (PEq.monoY hm3 _), (PEq.monoY hm3 _), (PA.monoY hm3 _ _), (PEq.monoY hm3 _), (PEq.monoY hm3 _), Zt⟩ ⟨?_, ?_, ?_, ?_, ?_, ?_, ?_, ?_, ?_, ?_, ?_, ?_, ?_, Zt⟩ ?_)
  · exact fun w117 D hS73 hd73 => dg_sub (E' := [(1, (Zv a_top))]) ⟨Z, Zt⟩ (dg_plain Z (ow_move Z Z Zb))
  · exact fun w118 D hS74 hd74 => dg_sub (E' := [(7, (Zw g2 0))]) ⟨Z, Zt⟩ (dg_plain Z (ow_fieldAddr Z Z Tryd.underlying79 Z (Tryd.sizeOf3 _) Zb))
  ·
   intro w119 D hS75 hd75
   have ho290 := ho8.go hS75 (fun e => hn2 e.symm)
   exact dg_sub (E' := [(31, (Zw g2 0))]) ⟨dpE hd75 1 Z Z, Zt⟩ (dg_plain Z (ow_loadOwn1 Z Z Z ho290 (Tryd.isAgg3 _) Z Zb))
  · exact fun w120 D hS76 hd76 => dg_sub (E' := [(0, (Zw g 0))]) ⟨Z, Zt⟩ (dg_plain Z (ow_move Z Z Zb))
  ·
   intro w121 D hS77 hd77
   obtain ⟨hS77, ho293⟩ := hS77
   have ho293 : Own w121 g 111 #[(.slice Ax a_xs.length cx), (Zv x1.2)] := ho293
   have hl121 := leY hm3 hS77
   have hC121 := hC4.go hS77 (fun b e => Or.inr e)
   refine dg_sub (E' := [(33, (Zw g 0))]) ⟨dpE hd77 3 Z Z, Zt⟩ (dg_plain Z (ow_call Z Z Tryd.call60 (w_spec_l20Rd_pick (hG.mono (lz11.trans hl121)) hC121.old (VRep.mono (lz11.trans hl121) hxs) ho293 hm3 hx18) fun v43 w122 hv43 => ?_))
   obtain ⟨⟨hv43, ho296⟩, hb45⟩ := hv43
   obtain rfl := vint_eq hv43
   exact ⟨⟨⟨hS77.trans hb45, ho296⟩, hb45⟩, Z⟩
  · exact fun w123 D hS78 hd78 => dg_sub (E' := [(0, (Zw g 0))]) ⟨Z, Zt⟩ (dg_plain Z (ow_move Z Z Zb))
  ·
   intro w124 D hS79 hd79
   obtain ⟨hS79, ho301⟩ := hS79
   have ho301 : Own w124 g 111 #[(.slice Ax a_xs.length cx), (Zv x18.2)] := ho301
   have hl124 := leY hm3 hS79
   have hC124 := hC4.go hS79 (fun b e => Or.inr e)
   refine dg_sub (E' := [(35, (Zw g 0))]) ⟨dpE hd79 5 Z Z, Zt⟩ (dg_plain Z (ow_call Z Z Tryd.call60 (w_spec_l20Rd_pick (hG.mono (lz11.trans hl124)) hC124.old (VRep.mono (lz11.trans hl124) hxs) ho301 hm3 hx19) fun v44 w125 hv44 => ?_))
   obtain ⟨⟨hv44, ho304⟩, hb46⟩ := hv44
   obtain rfl := vint_eq hv44
   exact ⟨⟨⟨hS79.trans hb46, ho304⟩, hb46⟩, Z⟩
  ·
   intro w126 D hS80 hd80
   have hC126 := hC4.go hS80 (fun b e => Or.inr e)
   exact dg_sub (E' := [(34, (Zv x18.1)), (36, (Zv x19.1))]) ⟨dpE hd80 4 Z Z, dpE hd80 6 Z Z, Zt⟩ (dg_plain Z (ow_buildSlice (R := RInt) (xs := [0, x18.1, x19.1, 4096]) (cs := #[(Zv 0), (Zv x18.1), (Zv x19.1), (Zv 4096)]) (e := 3) Z Z (by kernel_rfl) Z Z ⟨_, _, Z, (vint _).cells, _, _, Z, (vint _).cells, _, _, Z, (vint _).cells, _, _, Z, (vint _).cells, Z⟩ hC126 fun p19 w127 hw29 hb47 hl127 hC127 => ⟨hb47, hw29⟩))
  · exact fun w128 D hS81 hd81 => dg_sub (E' := [(0, (Zw g 0))]) ⟨Z, Zt⟩ (dg_plain Z (ow_move Z Z Zb))
  ·
   intro w129 D hS82 hd82
   obtain ⟨hS82, ho313⟩ := hS82
   have ho313 : Own w129 g 111 #[(.slice Ax a_xs.length cx), (Zv x19.2)] := ho313
   have hl129 := leY hm3 hS82
   have hC129 := hC4.go hS82 (fun b e => Or.inr e)
   refine dg_sub (E' := [(38, (Zw g 0))]) ⟨dpE hd82 8 Z Z, Zt⟩ (dg_plain Z (ow_call Z Z Tryd.call60 (w_spec_l20Rd_pick (hG.mono (lz11.trans hl129)) hC129.old (VRep.mono (lz11.trans hl129) hxs) ho313 hm3 hx20) fun v45 w130 hv45 => ?_))
   obtain ⟨⟨hv45, ho316⟩, hb48⟩ := hv45
   obtain rfl := vint_eq hv45
   exact ⟨⟨⟨hS82.trans hb48, ho316⟩, hb48⟩, Z⟩
  ·
   intro w131 D hS83 hd83
   have d137 : PV (RSlice RInt) (Add g2 (Add g1 M)) [0, x18.1, x19.1, 4096] (D 7) w131 := dpA hd83 7 Z
   generalize hq11 : (D 7) = v46 at d137
   exact dg_sub (E' := [(37, v46), (39, (Zv x20.1))]) ⟨congrArg some hq11, dpE hd83 9 Z Z, Zt⟩ (dg_plain Z (ow_indexSlice (R := RInt) Z Z Z d137 Tryd.underlying52 (Tryd.sizeOf3 _) hx21 fun p20 hp20 => ⟨BX.refl _ _, ⟨_, Z, hp20⟩⟩))
  ·
   intro w132 D hS84 hd84
   have d139 : PA RInt (Add g2 (Add g1 M)) x21 (D 10) w132 := dpA hd84 10 Z
   obtain ⟨p21, e3, ha3⟩ := d139
   refine dg_sub (E' := [(40, (.pointer (some p21)))]) ⟨congrArg some e3, Zt⟩ (dg_plain Z (ow_load (R := RInt) Z Z ha3 (Tryd.sizeOf3 _) (Tryd.isAgg3 _) fun v47 hv47 => ?_))
   obtain rfl := vint_eq hv47
   exact Zb
  · exact fun w133 D hS85 hd85 => dg_sub (E' := [(32, (Zv x1.1)), (41, (Zv x21))]) ⟨dpE hd85 2 Z Z, dpE hd85 11 Z Z, Zt⟩ (dg_plain Z (ow_add Z Z Z Zb))
  ·
   intro w134 D hS86 hd86
   obtain ⟨hS86, ho325⟩ := hS86
   have ho325 : Own w134 g 111 #[(.slice Ax a_xs.length cx), (Zv x20.2)] := ho325
   have hl134 := leY hm3 hS86
   have hC134 := hC4.go hS86 (fun b e => Or.inr e)
   have ho326 := ho10.go hS86 (fun e => hn1 e.symm)
   have ho327 := ho8.go hS86 (fun e => hn2 e.symm)
   refine lw_sub (E' := [(30, (Zv a_top)), (42, (Zv (W (x1.1 + x21)))), (0, (Zw g 0)), (1, (Zv a_top)), (2, (Zv a_n)), (6, (Zw g1 0)), (7, (Zw g2 0))]) ⟨dpE hd86 0 Z Z, dpE hd86 12 Z Z, Z, Z, Z, Z, Z, Zt⟩ (lw_op Z Z Z (ow_min Z Z Z (lw_op Z Z Z (ow_fieldAddr Z Z Tryd.underlying79 Z (Tryd.sizeOf3 _) (lw_op0 Z Z (ow_store (X := (One g)) (us := [(Zv (imin a_top (W (x1.1 + x21))))]) (cs' := #[(Zv x1.1), (Zv (imin a_top (W (x1.1 + x21))))]) Z Z Z Z ho327 (Tryd.sizeOf3 _) Z Z Z Z hm5 (.inl hg4) Z hC134 fun w135 ho328 hb49 hl135 hC135 => ?_))))))
   have ho329 := ho325.go hb49 (fun e => hn2 e)
   have ho330 := ho326.go hb49 (fun e => hn3 e)
   refine lw_nil (ew_then (cw_seq (cw_seq (cw_region (lw_op Z Z Z (ow_move Z Z (lw_op Z Z Z (ow_move Z Z ?_))))))))
   have lz13 := ((lz11.trans hl134).trans hl135)
   replace h := bind_some h
   obtain ⟨x22, hx22, h⟩ := h
   refine lw_op Z Z Z (ow_call Z Z Tryd.call81 (w_spec_l20Rd_odd (hG.mono lz13) hC135.old (VRep.mono lz13 hxs) ho329 hm3 hx22) fun v48 w136 hv48 => ?_)
   obtain ⟨⟨hv48, ho331⟩, hb50⟩ := hv48
   have hl136 := Le.of_bx (Add g2 (Add g1 M)) hb50 (fun b e => (by rw [show b = g from e]; exact hm3))
   have hC136 := hC135.go hb50 (fun b e => Or.inr e)
   have ho332 := ho330.go hb50 (fun e => hn1 e.symm)
   have ho333 := ho328.go hb50 (fun e => hn2 e.symm)
   obtain ⟨bb5, hbb5, rfl⟩ := vbool_ex hv48
   refine lw_nil (ew_then ?_)
   replace h := cond_some h
   rcases h with ⟨hc5, h⟩ | ⟨hc5, h⟩
   ·
    obtain rfl := hbb5.trans hc5
    refine cw_true Z (cw_seq ?_)
    replace h := bind_some h
    obtain ⟨x23, hx23, h⟩ := h
    have lz14 := (lz13.trans hl136)
    refine cw_sub (E' := [(0, (Zw g 0)), (1, (Zv a_top)), (6, (Zw g1 0)), (7, (Zw g2 0))]) ⟨Z, Z, Z, Z, Zt⟩ (cw_drawC (g := g) (T := 111) 17 1 [none, none, none, none, none, none, none, none, none, none, none, none, none, none, none, none, some 0] [#[(.slice Ax a_xs.length cx), (Zv x22.2)], #[(.slice Ax a_xs.length cx), (Zv x23.2)]] [PEq (Zw g2 1), PEq (Zv (imin a_top (W (x1.1 + x21)))), PEq (Zv (W ((imin a_top (W (x1.1 + x21))) + 1))), PEq (Zw g2 1), PEq (Zv (imin a_top (W (x1.1 + x21)))), PV RSpan (Add g2 (Add g1 M)) ({ Lo := (W ((imin a_top (W (x1.1 + x21))) + 1)), Hi := (imin a_top (W (x1.1 + x21))) } : Span), PEq (Zw g2 1), PEq (Zv (imin a_top (W (x1.1 + x21)))), PV RSpan (Add g2 (Add g1 M)) ({ Lo := (-1), Hi := (imin a_top (W (x1.1 + x21))) } : Span), PEq (Zw g2 0), PEq (Zv x1.1), PEq (Zv a_top), PEq (Zv (W (a_top + 1))), PV RSpan (Add g2 (Add g1 M)) ({ Lo := x1.1, Hi := (W (a_top + 1)) } : Span), PV (RSlice RSpan) (Add g2 (Add g1 M)) [({ Lo := (W ((imin a_top (W (x1.1 + x21))) + 1)), Hi := (imin a_top (W (x1.1 + x21))) } : Span), ({ Lo := (-1), Hi := (imin a_top (W (x1.1 + x21))) } : Span), ({ Lo := x1.1, Hi := (W (a_top + 1)) } : Span)], PEq (Zw g 0), PEq (Zv x23.1)] (by kernel_rfl) Z (by kernel_rfl) (by kernel_rfl) ho331 ⟨(PEq.monoY hm3 _), (PEq.monoY hm3 _), (PEq.monoY hm3 _), (PEq.monoY hm3 _), (PEq.monoY hm3 _), (PV.monoY hm3 _ _), (PEq.monoY hm3 _), (PEq.monoY hm3 _), (PV.monoY hm3 _ _), (PEq.monoY hm3 _), (PEq.monoY hm3 _), (PEq.monoY hm3 _), (PEq.monoY hm3 _), (PV.monoY hm3 _ _), (PV.monoY hm3 _ _), (PEq.monoY hm3 _), (PEq.monoY hm3 _), Zt⟩ ⟨?_, ?_, ?_, ?_, ?_, ?_, ?_, ?_, ?_, ?_, ?_, ?_, ?_, ?_, ?_, ?_, ?_, Zt⟩ ?_)
    · exact fun w139 D hS87 hd87 => dg_sub (E' := [(7, (Zw g2 0))]) ⟨Z, Zt⟩ (dg_plain Z (ow_fieldAddr Z Z Tryd.underlying79 Z (Tryd.sizeOf3 _) Zb))
    ·
     intro w140 D hS88 hd88
     have ho343 := ho333.go hS88 (fun e => hn2 e.symm)
     exact dg_sub (E' := [(48, (Zw g2 1))]) ⟨dpE hd88 0 Z Z, Zt⟩ (dg_plain Z (ow_loadOwn1 Z Z Z ho343 (Tryd.isAgg3 _) Z Zb))
    · exact fun w141 D hS89 hd89 => dg_sub (E' := [(49, (Zv (imin a_top (W (x1.1 + x21)))))]) ⟨dpE hd89 1 Z Z, Zt⟩ (dg_plain Z (ow_add Z Z Z Zb))
    · exact fun w142 D hS90 hd90 => dg_sub (E' := [(7, (Zw g2 0))]) ⟨Z, Zt⟩ (dg_plain Z (ow_fieldAddr Z Z Tryd.underlying79 Z (Tryd.sizeOf3 _) Zb))
    ·
     intro w143 D hS91 hd91
     have ho349 := ho333.go hS91 (fun e => hn2 e.symm)
     exact dg_sub (E' := [(51, (Zw g2 1))]) ⟨dpE hd91 3 Z Z, Zt⟩ (dg_plain Z (ow_loadOwn1 Z Z Z ho349 (Tryd.isAgg3 _) Z Zb))
    ·
     intro w144 D hS92 hd92
     refine dg_sub (E' := [(50, (Zv (W ((imin a_top (W (x1.1 + x21))) + 1)))), (52, (Zv (imin a_top (W (x1.1 + x21)))))]) ⟨dpE hd92 2 Z Z, dpE hd92 4 Z Z, Zt⟩ (dg_plain Z (ow_build (v := .agg #[(Zv (W ((imin a_top (W (x1.1 + x21))) + 1))), (Zv (imin a_top (W (x1.1 + x21))))]) Z Z (by kernel_rfl) ?_))
     have hw34 : VRep RSpan w144 (Add g2 (Add g1 M)) ({ Lo := (W ((imin a_top (W (x1.1 + x21))) + 1)), Hi := (imin a_top (W (x1.1 + x21))) } : Span) (.agg #[(Zv (W ((imin a_top (W (x1.1 + x21))) + 1))), (Zv (imin a_top (W (x1.1 + x21))))]) := shut_Span
     exact ⟨BX.refl _ _, hw34⟩
    · exact fun w145 D hS93 hd93 => dg_sub (E' := [(7, (Zw g2 0))]) ⟨Z, Zt⟩ (dg_plain Z (ow_fieldAddr Z Z Tryd.underlying79 Z (Tryd.sizeOf3 _) Zb))
    ·
     intro w146 D hS94 hd94
     have ho355 := ho333.go hS94 (fun e => hn2 e.symm)
     exact dg_sub (E' := [(54, (Zw g2 1))]) ⟨dpE hd94 6 Z Z, Zt⟩ (dg_plain Z (ow_loadOwn1 Z Z Z ho355 (Tryd.isAgg3 _) Z Zb))
    ·
     intro w147 D hS95 hd95
     refine dg_sub (E' := [(55, (Zv (imin a_top (W (x1.1 + x21)))))]) ⟨dpE hd95 7 Z Z, Zt⟩ (dg_plain Z (ow_build (v := .agg #[(Zv (-1)), (Zv (imin a_top (W (x1.1 + x21))))]) Z Z (by kernel_rfl) ?_))
     have hw35 : VRep RSpan w147 (Add g2 (Add g1 M)) ({ Lo := (-1), Hi := (imin a_top (W (x1.1 + x21))) } : Span) (.agg #[(Zv (-1)), (Zv (imin a_top (W (x1.1 + x21))))]) := shut_Span
     exact ⟨BX.refl _ _, hw35⟩
    · exact fun w148 D hS96 hd96 => dg_sub (E' := [(7, (Zw g2 0))]) ⟨Z, Zt⟩ (dg_plain Z (ow_fieldAddr Z Z Tryd.underlying79 Z (Tryd.sizeOf3 _) Zb))
    ·
     intro w149 D hS97 hd97
     have ho361 := ho333.go hS97 (fun e => hn2 e.symm)
     exact dg_sub (E' := [(57, (Zw g2 0))]) ⟨dpE hd97 9 Z Z, Zt⟩ (dg_plain Z (ow_loadOwn1 Z Z Z ho361 (Tryd.isAgg3 _) Z Zb))
    · exact fun w150 D hS98 hd98 => dg_sub (E' := [(1, (Zv a_top))]) ⟨Z, Zt⟩ (dg_plain Z (ow_move Z Z Zb))
    · exact fun w151 D hS99 hd99 => dg_sub (E' := [(59, (Zv a_top))]) ⟨dpE hd99 11 Z Z, Zt⟩ (dg_plain Z (ow_add Z Z Z Zb))
    ·
     intro w152 D hS100 hd100
     refine dg_sub (E' := [(58, (Zv x1.1)), (60, (Zv (W (a_top + 1))))]) ⟨dpE hd100 10 Z Z, dpE hd100 12 Z Z, Zt⟩ (dg_plain Z (ow_build (v := .agg #[(Zv x1.1), (Zv (W (a_top + 1)))]) Z Z (by kernel_rfl) ?_))
     have hw36 : VRep RSpan w152 (Add g2 (Add g1 M)) ({ Lo := x1.1, Hi := (W (a_top + 1)) } : Span) (.agg #[(Zv x1.1), (Zv (W (a_top + 1)))]) := shut_Span
     exact ⟨BX.refl _ _, hw36⟩
    ·
     intro w153 D hS101 hd101
     have hC153 := hC136.go hS101 (fun b e => Or.inr e)
     have d166 : PV RSpan (Add g2 (Add g1 M)) ({ Lo := (W ((imin a_top (W (x1.1 + x21))) + 1)), Hi := (imin a_top (W (x1.1 + x21))) } : Span) (D 5) w153 := dpA hd101 5 Z
     have d167 : PV RSpan (Add g2 (Add g1 M)) ({ Lo := (-1), Hi := (imin a_top (W (x1.1 + x21))) } : Span) (D 8) w153 := dpA hd101 8 Z
     have d168 : PV RSpan (Add g2 (Add g1 M)) ({ Lo := x1.1, Hi := (W (a_top + 1)) } : Span) (D 13) w153 := dpA hd101 13 Z
     generalize hq12 : (D 5) = v50 at d166
     generalize hq13 : (D 8) = v51 at d167
     generalize hq14 : (D 13) = v52 at d168
     refine dg_sub (E' := [(53, v50), (56, v51), (61, v52)]) ⟨congrArg some hq12, congrArg some hq13, congrArg some hq14, Zt⟩ ?_
     obtain rfl := open_Span d166
     obtain rfl := open_Span d167
     obtain rfl := open_Span d168
     exact dg_plain Z (ow_buildSlice (R := RSpan) (xs := [({ Lo := (W ((imin a_top (W (x1.1 + x21))) + 1)), Hi := (imin a_top (W (x1.1 + x21))) } : Span), ({ Lo := (-1), Hi := (imin a_top (W (x1.1 + x21))) } : Span), ({ Lo := x1.1, Hi := (W (a_top + 1)) } : Span)]) (cs := #[(Zv ({ Lo := (W ((imin a_top (W (x1.1 + x21))) + 1)), Hi := (imin a_top (W (x1.1 + x21))) } : Span).Lo), (Zv ({ Lo := (W ((imin a_top (W (x1.1 + x21))) + 1)), Hi := (imin a_top (W (x1.1 + x21))) } : Span).Hi), (Zv ({ Lo := (-1), Hi := (imin a_top (W (x1.1 + x21))) } : Span).Lo), (Zv ({ Lo := (-1), Hi := (imin a_top (W (x1.1 + x21))) } : Span).Hi), (Zv ({ Lo := x1.1, Hi := (W (a_top + 1)) } : Span).Lo), (Zv ({ Lo := x1.1, Hi := (W (a_top + 1)) } : Span).Hi)]) (e := 79) Z Z (by kernel_rfl) Z Z ⟨_, _, Z, d166.cells, _, _, Z, d167.cells, _, _, Z, d168.cells, Z⟩ hC153 fun p23 w154 hw37 hb53 hl154 hC154 => ⟨hb53, hw37⟩)
    · exact fun w155 D hS102 hd102 => dg_sub (E' := [(0, (Zw g 0))]) ⟨Z, Zt⟩ (dg_plain Z (ow_move Z Z Zb))
    ·
     intro w156 D hS103 hd103
     obtain ⟨hS103, ho374⟩ := hS103
     have ho374 : Own w156 g 111 #[(.slice Ax a_xs.length cx), (Zv x22.2)] := ho374
     have hl156 := leY hm3 hS103
     have hC156 := hC136.go hS103 (fun b e => Or.inr e)
     refine dg_sub (E' := [(63, (Zw g 0))]) ⟨dpE hd103 15 Z Z, Zt⟩ (dg_plain Z (ow_call Z Z Tryd.call60 (w_spec_l20Rd_pick (hG.mono (lz14.trans hl156)) hC156.old (VRep.mono (lz14.trans hl156) hxs) ho374 hm3 hx23) fun v53 w157 hv53 => ?_))
     obtain ⟨⟨hv53, ho377⟩, hb54⟩ := hv53
     obtain rfl := vint_eq hv53
     exact ⟨⟨⟨hS103.trans hb54, ho377⟩, hb54⟩, Z⟩
    ·
     intro w158 D hS104 hd104
     have d184 : PV (RSlice RSpan) (Add g2 (Add g1 M)) [({ Lo := (W ((imin a_top (W (x1.1 + x21))) + 1)), Hi := (imin a_top (W (x1.1 + x21))) } : Span), ({ Lo := (-1), Hi := (imin a_top (W (x1.1 + x21))) } : Span), ({ Lo := x1.1, Hi := (W (a_top + 1)) } : Span)] (D 14) w158 := dpA hd104 14 Z
     obtain ⟨hS104, ho380⟩ := hS104
     have ho380 : Own w158 g 111 #[(.slice Ax a_xs.length cx), (Zv x23.2)] := ho380
     have hC158 := hC136.go hS104 (fun b e => Or.inr e)
     have ho381 := ho332.go hS104 (fun e => hn1 e.symm)
     generalize hq15 : (D 14) = v54 at d184
     refine lw_sub (E' := [(62, v54), (64, (Zv x23.1)), (0, (Zw g 0)), (1, (Zv a_top)), (6, (Zw g1 0)), (7, (Zw g2 0))]) ⟨congrArg some hq15, dpE hd104 16 Z Z, Z, Z, Z, Z, Zt⟩ ?_
     replace h := bind_some h
     obtain ⟨x24, hx24, h⟩ := h
     refine lw_op Z Z Z (ow_indexSlice (R := RSpan) Z Z Z d184 Tryd.underlying71 (Tryd.sizeOf79 _) hx24 fun p24 hp24 => lw_op Z Z Z (ow_load (R := RSpan) Z Z hp24 (Tryd.sizeOf79 _) (Tryd.isAgg79 _) fun v55 hv55 => ?_))
     obtain rfl := open_Span hv55
     refine lw_op0 Z Z (ow_store (X := (One g)) (us := [(Zv x24.Lo), (Zv x24.Hi)]) (cs' := #[(Zv x24.Lo), (Zv x24.Hi)]) Z Z Z Z ho381 (Tryd.sizeOf79 _) Z Z Z Z hm4 (.inl hg2) Z hC158 fun w159 ho383 hb55 hl159 hC159 => ?_)
     have ho384 := ho380.go hb55 (fun e => hn1 e)
     refine lw_nil (ew_then (cw_ret (ew_thenR ?_)))
     have hw38 : VRep RSpan w159 (Add g2 (Add g1 M)) ({ Lo := x24.Lo, Hi := x24.Hi } : Span) (.agg #[(Zv x24.Lo), (Zv x24.Hi)]) := shut_Span
     obtain rfl := sj h
     exact ew_ret (res1 Z (.cell Z (own_loadVarA ho383 (Tryd.isAgg79 _) (Tryd.sizeOf79 _) Z))) ⟨_, Z, ⟨(hw38.mono hC159.back), ho384⟩, hC159.bx⟩
   ·
    obtain rfl := hbb5.trans hc5
    refine cw_false Z (cw_skip (ew_then (cw_seq (cw_region (lw_op Z Z Z (ow_loadOwnA Z Z Z ho333 (Tryd.isAgg79 _) (Tryd.sizeOf79 _) Z (lw_op0 Z Z (ow_store (X := (One g)) (us := [(Zv x1.1), (Zv (imin a_top (W (x1.1 + x21))))]) (cs' := #[(Zv x1.1), (Zv (imin a_top (W (x1.1 + x21))))]) Z Z Z Z ho332 (Tryd.sizeOf79 _) Z Z Z Z hm4 (.inl hg2) Z hC136 fun w160 ho386 hb56 hl160 hC160 => ?_))))))))
    have ho387 := ho331.go hb56 (fun e => hn1 e)
    refine lw_nil (ew_then (cw_ret ?_))
    have hw40 : VRep RSpan w160 (Add g2 (Add g1 M)) ({ Lo := x1.1, Hi := (imin a_top (W (x1.1 + x21))) } : Span) (.agg #[(Zv x1.1), (Zv (imin a_top (W (x1.1 + x21))))]) := shut_Span
    obtain rfl := sj h
    exact ew_ret (res1 Z (.cell Z (own_loadVarA ho386 (Tryd.isAgg79 _) (Tryd.sizeOf79 _) Z))) ⟨_, Z, ⟨(hw40.mono hC160.back), ho387⟩, hC160.bx⟩


end Go.PF
