/- The walks; no condition. -/
import Derived.Test.YtnleamfkpjnfoaaDoorProg
import Derived.Test.YtnleamfkpjnfoaaDoorWk1
import Derived.Test.YtnleamfkpjnfoaaDoorPFNew
set_option maxRecDepth 100000
set_option maxHeartbeats 4000000
namespace Go.PF
open Go Go.RowKit Go.Proofs

theorem w_spec_SpansOf {w : World} {M : Nat → Prop} (hG : ARep (RArr 4 RShape) w M shapes ⟨0, 0, none⟩) (hO : ∀ b, M b → b < w.heap.size) {v0p : Value} {a_list : List Span} (h0 : VRep (RSlice RSpan) w M a_list v0p) {a_top : Int} {r : (List Span)} (h : F.spec_SpansOf a_list a_top = some r) :
  Calls Tryd.prog 112 [v0p, (.int .i64 a_top)].toArray w fun e w' => ∃ v, e = .returned v ∧ VRep (RSlice RSpan) w' M r v ∧ BX No w w' := by
 have hC : Cx No w M w M := Cx.start hO (fun _ e => e.elim)
 refine walk (N := 53) Tryd.func112 Z Tryd.ntmps112 Z (cw_seq (cw_region (lw_op Z Z Z (ow_assign Z Z (lw_nil (ew_then (cw_seq (cw_region (lw_op Z Z Z (ow_buildSlice0I (R := RSpan) (e := 76) Z (by kernel_rfl) hC fun p1 w1 hw1 hb1 hl1 hC1 => lw_op Z Z Z (ow_assign Z Z (lw_nil (ew_then (cw_seq (cw_seq (cw_region (lw_op Z Z Z (ow_move Z Z ?_))))))))))))))))))
 replace h := bind_some h
 obtain ⟨x1, hx1, h⟩ := h
 refine lw_op Z Z Z (ow_call Z Z Tryd.call82 (w_spec_l1In (hG.mono hl1) hC1.old hx1) fun v1 w2 hv1 => ?_)
 obtain ⟨hv1, hb2⟩ := hv1
 have hl2 := Le.no M hb2
 have hC2 := hC1.no hb2
 obtain rfl := vbool_eq hv1
 refine lw_op Z Z Z (ow_not Z Z (lw_op Z Z Z (ow_move Z Z ?_)))
 replace h := cond_some h
 rcases h with ⟨hc1, h⟩ | ⟨hc1, h⟩
 ·
  subst hc1
  refine lw_on Z Z Z Z Z Z (ow_move Z Z (lw_on Z Z Z Z Z Z (ow_len Z Z (VRep.mono (hl1.trans hl2) h0) Tryd.underlying58 Z (lw_on Z Z Z Z Z Z (ow_gtr Z Z Z fun bb1 hbb1 => lw_op Z Z Z (ow_pickF Z Z Z (lw_nil (ew_then ?_))))))))
  replace h := cond_some h
  rcases h with ⟨hc2, h⟩ | ⟨hc2, h⟩
  ·
   obtain rfl := hbb1.trans hc2
   refine cw_true Z (cw_seq (cw_region (lw_op Z Z Z (ow_move Z Z (lw_op Z Z Z (ow_assign Z Z (lw_nil (ew_then (cw_ret (ew_thenR ?_))))))))))
   obtain rfl := Option.some.inj h
   exact ew_ret (res1 Z (.tmp Z)) ⟨_, Z, (VRep.mono hC2.back (VRep.mono hl2 hw1)), hC2.bx⟩
  ·
   obtain rfl := hbb1.trans hc2
   refine cw_false Z (cw_skip (ew_then (cw_seq (cw_seq (cw_region (lw_op Z Z Z (ow_assign Z Z (lw_nil (ew_then ?_)))))))))
   replace h := bind_some h
   obtain ⟨lr1, hlr1, h⟩ := h
   refine cw_for hlr1 (fun s a w' => ∃ (M' : Nat → Prop) (v0c : Value), Fits 53 [(0, v0p), (1, (.int .i64 a_top)), (5, v0c), (6, (.int .i64 s.2))] a ∧ Le w2 M w' M' ∧ Cx No w M w' M' ∧ VRep (RSlice RSpan) w' M' s.1 v0c) ?_ ?_ ?_
   ·
    intro a ha
    exact ⟨M, (.slice (some p1) 0 0), ha.sub ⟨Z, Z, Z, Z, trivial⟩, Le.refl _ _, hC2, (VRep.mono hl2 hw1)⟩
   ·
    rintro ⟨y1, k1⟩ a w3 sr1 ⟨M1, v2, hF1, hl3, hC3, hw2⟩ hb3 hR1
    refine cw_at (E := [(0, v0p), (1, (.int .i64 a_top)), (5, v2), (6, (.int .i64 k1))]) hF1 (cw_seq (cw_seq (cw_region (lw_op Z Z Z (ow_move Z Z (lw_op Z Z Z (ow_move Z Z ?_)))))))
    have hz1 := ((hl1.trans hl2).trans hl3)
    refine lw_op Z Z Z (ow_len Z Z (VRep.mono hz1 h0) Tryd.underlying58 Z (lw_op Z Z Z (ow_lss Z Z Z fun bb2 hbb2 => lw_nil (ew_then ?_))))
    replace hb3 := cond_some hb3
    rcases hb3 with ⟨hc3, hb3⟩ | ⟨hc3, hb3⟩
    ·
     obtain rfl := hbb2.trans hc3
     refine cw_true Z (cw_skip (ew_then (cw_seq (cw_block (cw_seq (cw_seq ?_))))))
     replace hb3 := bind_some hb3
     obtain ⟨x2, hx2, hb3⟩ := hb3
     replace hb3 := bind_some hb3
     obtain ⟨x3, hx3, hb3⟩ := hb3
     replace hb3 := cond_some hb3
     rcases hb3 with ⟨hc4, hb3⟩ | ⟨hc4, hb3⟩
     ·
      subst hc4
      refine cw_sub (E' := [(0, v0p), (1, (.int .i64 a_top)), (5, v2), (6, (.int .i64 k1))]) ⟨Z, Z, Z, Z, trivial⟩ (cw_drawQ 19 [PV (RSlice RSpan) M1 a_list, PEq (.int .i64 k1), PA RSpan M1 x2, PA RInt M1 x2.Lo, PEq (.int .i64 x2.Lo), PV (RSlice RSpan) M1 a_list, PEq (.int .i64 k1), PA RSpan M1 x2, PA RInt M1 x2.Hi, PEq (.int .i64 x2.Hi), PEq (.bool true), PEq (.bool false), PEq (.bool false), PV (RSlice RSpan) M1 a_list, PEq (.int .i64 k1), PA RSpan M1 x2, PA RInt M1 x2.Hi, PEq (.int .i64 x2.Hi), PEq (.int .i64 a_top)] (by kernel_rfl) Z (by kernel_rfl) ⟨PV.mono _ _ _, PEq.mono _, PA.mono _ _ _, PA.mono _ _ _, PEq.mono _, PV.mono _ _ _, PEq.mono _, PA.mono _ _ _, PA.mono _ _ _, PEq.mono _, PEq.mono _, PEq.mono _, PEq.mono _, PV.mono _ _ _, PEq.mono _, PA.mono _ _ _, PA.mono _ _ _, PEq.mono _, PEq.mono _, trivial⟩ ⟨?_, ?_, ?_, ?_, ?_, ?_, ?_, ?_, ?_, ?_, ?_, ?_, ?_, ?_, ?_, ?_, ?_, ?_, ?_, trivial⟩ ?_)
      ·
       intro w5 D hS1 hd1
       have hl5 := Le.no M1 hS1
       exact dg_sub (E' := [(0, v0p)]) ⟨Z, trivial⟩ (dg_plain Z (ow_move Z Z ⟨BX.refl _ _, (VRep.mono (hz1.trans hl5) h0)⟩))
      ·
       intro w6 D hS2 hd2
       exact dg_sub (E' := [(6, (.int .i64 k1))]) ⟨Z, trivial⟩ (dg_plain Z (ow_move Z Z ⟨BX.refl _ _, Z⟩))
      ·
       intro w7 D hS3 hd3
       have d1 : PV (RSlice RSpan) M1 a_list (D 0) w7 := dpA hd3 0 Z
       generalize hq1 : (D 0) = v8 at d1
       exact dg_sub (E' := [(23, v8), (24, (.int .i64 k1))]) ⟨(congrArg some hq1), (dpE hd3 1 Z Z), trivial⟩ (dg_plain Z (ow_indexSlice (R := RSpan) Z Z Z d1 Tryd.underlying58 (Tryd.sizeOf76 _) hx2 fun p5 hp5 => ⟨BX.refl _ _, ⟨_, Z, hp5⟩⟩))
      ·
       intro w8 D hS4 hd4
       have d3 : PA RSpan M1 x2 (D 2) w8 := dpA hd4 2 Z
       obtain ⟨p6, e1, ha1⟩ := d3
       exact dg_sub (E' := [(25, (.pointer (some p6)))]) ⟨(congrArg some e1), trivial⟩ (dg_plain Z (ow_fieldAddr Z Z Tryd.underlying76 Z (Tryd.sizeOf3 _) ⟨BX.refl _ _, ⟨_, Z, (ha1.fld fld_Span_Lo)⟩⟩))
      ·
       intro w9 D hS5 hd5
       have d4 : PA RInt M1 x2.Lo (D 3) w9 := dpA hd5 3 Z
       obtain ⟨p7, e2, ha2⟩ := d4
       refine dg_sub (E' := [(26, (.pointer (some p7)))]) ⟨(congrArg some e2), trivial⟩ (dg_plain Z (ow_load (R := RInt) Z Z ha2 (Tryd.sizeOf3 _) (Tryd.isAgg3 _) fun v9 hv9 => ?_))
       obtain rfl := vint_eq hv9
       exact ⟨BX.refl _ _, Z⟩
      ·
       intro w10 D hS6 hd6
       have hl10 := Le.no M1 hS6
       exact dg_sub (E' := [(0, v0p)]) ⟨Z, trivial⟩ (dg_plain Z (ow_move Z Z ⟨BX.refl _ _, (VRep.mono (hz1.trans hl10) h0)⟩))
      ·
       intro w11 D hS7 hd7
       exact dg_sub (E' := [(6, (.int .i64 k1))]) ⟨Z, trivial⟩ (dg_plain Z (ow_move Z Z ⟨BX.refl _ _, Z⟩))
      ·
       intro w12 D hS8 hd8
       have d5 : PV (RSlice RSpan) M1 a_list (D 5) w12 := dpA hd8 5 Z
       generalize hq2 : (D 5) = v10 at d5
       exact dg_sub (E' := [(28, v10), (29, (.int .i64 k1))]) ⟨(congrArg some hq2), (dpE hd8 6 Z Z), trivial⟩ (dg_plain Z (ow_indexSlice (R := RSpan) Z Z Z d5 Tryd.underlying58 (Tryd.sizeOf76 _) hx2 fun p8 hp8 => ⟨BX.refl _ _, ⟨_, Z, hp8⟩⟩))
      ·
       intro w13 D hS9 hd9
       have d7 : PA RSpan M1 x2 (D 7) w13 := dpA hd9 7 Z
       obtain ⟨p9, e3, ha3⟩ := d7
       exact dg_sub (E' := [(30, (.pointer (some p9)))]) ⟨(congrArg some e3), trivial⟩ (dg_plain Z (ow_fieldAddr Z Z Tryd.underlying76 Z (Tryd.sizeOf3 _) ⟨BX.refl _ _, ⟨_, Z, (ha3.fld fld_Span_Hi)⟩⟩))
      ·
       intro w14 D hS10 hd10
       have d8 : PA RInt M1 x2.Hi (D 8) w14 := dpA hd10 8 Z
       obtain ⟨p10, e4, ha4⟩ := d8
       refine dg_sub (E' := [(31, (.pointer (some p10)))]) ⟨(congrArg some e4), trivial⟩ (dg_plain Z (ow_load (R := RInt) Z Z ha4 (Tryd.sizeOf3 _) (Tryd.isAgg3 _) fun v11 hv11 => ?_))
       obtain rfl := vint_eq hv11
       exact ⟨BX.refl _ _, Z⟩
      ·
       intro w15 D hS11 hd11
       have hl15 := Le.no M1 hS11
       have hC15 := hC3.no hS11
       refine dg_sub (E' := [(27, (.int .i64 x2.Lo)), (32, (.int .i64 x2.Hi))]) ⟨(dpE hd11 4 Z Z), (dpE hd11 9 Z Z), trivial⟩ (dg_plain Z (ow_call Z Z Tryd.call82 (w_spec_l1In (hG.mono (hz1.trans hl15)) hC15.old hx3) fun v12 w16 hv12 => ?_))
       obtain ⟨hv12, hb5⟩ := hv12
       obtain rfl := vbool_eq hv12
       exact ⟨hb5, Z⟩
      ·
       intro w17 D hS12 hd12
       exact dg_sub (E' := [(33, (.bool true))]) ⟨(dpE hd12 10 Z Z), trivial⟩ (dg_plain Z (ow_not Z Z ⟨BX.refl _ _, Z⟩))
      ·
       intro w18 D hS13 hd13
       exact dg_sub (E' := [(34, (.bool false))]) ⟨(dpE hd13 11 Z Z), trivial⟩ (dg_plain Z (ow_move Z Z ⟨BX.refl _ _, Z⟩))
      ·
       intro w19 D hS14 hd14
       have hl19 := Le.no M1 hS14
       exact dg_sub (E' := [(35, (.bool false)), (0, v0p)]) ⟨(dpE hd14 12 Z Z), Z, trivial⟩ (dg_on Z Z Z Z (ow_move Z Z ⟨BX.refl _ _, (VRep.mono (hz1.trans hl19) h0)⟩))
      ·
       intro w20 D hS15 hd15
       exact dg_sub (E' := [(35, (.bool false)), (6, (.int .i64 k1))]) ⟨(dpE hd15 12 Z Z), Z, trivial⟩ (dg_on Z Z Z Z (ow_move Z Z ⟨BX.refl _ _, Z⟩))
      ·
       intro w21 D hS16 hd16
       have d16 : PV (RSlice RSpan) M1 a_list (D 13) w21 := dpA hd16 13 Z
       generalize hq3 : (D 13) = v13 at d16
       exact dg_sub (E' := [(36, v13), (37, (.int .i64 k1)), (35, (.bool false))]) ⟨(congrArg some hq3), (dpE hd16 14 Z Z), (dpE hd16 12 Z Z), trivial⟩ (dg_on Z Z Z Z (ow_indexSlice (R := RSpan) Z Z Z d16 Tryd.underlying58 (Tryd.sizeOf76 _) hx2 fun p11 hp11 => ⟨BX.refl _ _, ⟨_, Z, hp11⟩⟩))
      ·
       intro w22 D hS17 hd17
       have d19 : PA RSpan M1 x2 (D 15) w22 := dpA hd17 15 Z
       obtain ⟨p12, e5, ha5⟩ := d19
       exact dg_sub (E' := [(38, (.pointer (some p12))), (35, (.bool false))]) ⟨(congrArg some e5), (dpE hd17 12 Z Z), trivial⟩ (dg_on Z Z Z Z (ow_fieldAddr Z Z Tryd.underlying76 Z (Tryd.sizeOf3 _) ⟨BX.refl _ _, ⟨_, Z, (ha5.fld fld_Span_Hi)⟩⟩))
      ·
       intro w23 D hS18 hd18
       have d21 : PA RInt M1 x2.Hi (D 16) w23 := dpA hd18 16 Z
       obtain ⟨p13, e6, ha6⟩ := d21
       refine dg_sub (E' := [(39, (.pointer (some p13))), (35, (.bool false))]) ⟨(congrArg some e6), (dpE hd18 12 Z Z), trivial⟩ (dg_on Z Z Z Z (ow_load (R := RInt) Z Z ha6 (Tryd.sizeOf3 _) (Tryd.isAgg3 _) fun v14 hv14 => ?_))
       obtain rfl := vint_eq hv14
       exact ⟨BX.refl _ _, Z⟩
      ·
       intro w24 D hS19 hd19
       exact dg_sub (E' := [(35, (.bool false)), (1, (.int .i64 a_top))]) ⟨(dpE hd19 12 Z Z), Z, trivial⟩ (dg_on Z Z Z Z (ow_move Z Z ⟨BX.refl _ _, Z⟩))
      ·
       intro w25 D hS20 hd20
       have hl25 := Le.no M1 hS20
       have hC25 := hC3.no hS20
       refine lw_sub (E' := [(35, (.bool false)), (40, (.int .i64 x2.Hi)), (41, (.int .i64 a_top)), (0, v0p), (1, (.int .i64 a_top)), (5, v2), (6, (.int .i64 k1))]) ⟨(dpE hd20 12 Z Z), (dpE hd20 17 Z Z), (dpE hd20 18 Z Z), Z, Z, Z, Z, trivial⟩ ?_
       replace hb3 := bind_some hb3
       obtain ⟨x4, hx4, hb3⟩ := hb3
       refine lw_on Z Z Z Z Z Z (ow_call Z Z Tryd.call82 (w_spec_l1In (hG.mono (hz1.trans hl25)) hC25.old hx4) fun v15 w26 hv15 => ?_)
       obtain ⟨hv15, hb6⟩ := hv15
       have hl26 := Le.no M1 hb6
       have hC26 := hC25.no hb6
       obtain rfl := vbool_eq hv15
       refine lw_on Z Z Z Z Z Z (ow_not Z Z (lw_op Z Z Z (ow_pickF Z Z Z (lw_nil (ew_then ?_)))))
       replace hb3 := cond_some hb3
       rcases hb3 with ⟨hc5, hb3⟩ | ⟨hc5, hb3⟩
       ·
        subst hc5
        refine cw_false Z (cw_skip (ew_then (cw_region (lw_op Z Z Z (ow_move Z Z (lw_op Z Z Z (ow_move Z Z (lw_op Z Z Z (ow_move Z Z ?_)))))))))
        have hz2 := ((hz1.trans hl25).trans hl26)
        refine lw_op Z Z Z (ow_indexSlice (R := RSpan) Z Z Z (VRep.mono hz2 h0) Tryd.underlying58 (Tryd.sizeOf76 _) hx2 fun p14 hp14 => lw_op Z Z Z (ow_load (R := RSpan) Z Z hp14 (Tryd.sizeOf76 _) (Tryd.isAgg76 _) fun v16 hv16 => ?_))
        replace hb3 := bind_some hb3
        obtain ⟨x5, hx5, hb3⟩ := hb3
        refine lw_op Z Z Z (ow_call Z Z Tryd.call116 (w_spec_l1Add (hG.mono hz2) hC26.old (VRep.mono (hl25.trans hl26) hw2) hv16 hx5) fun v17 w27 hv17 => ?_)
        obtain ⟨hv17, hb7⟩ := hv17
        have hl27 := Le.no M1 hb7
        have hC27 := hC26.no hb7
        refine lw_op Z Z Z (ow_assign Z Z (lw_nil (ew_blockN (ew_then (cw_region (lw_op Z Z Z (ow_move Z Z (lw_op Z Z Z (ow_add Z Z Z (lw_op Z Z Z (ow_assign Z Z (lw_nil ?_))))))))))))
        have hz3 := (((hl3.trans hl25).trans hl26).trans hl27)
        exact ew_nxt (x5, (W (k1 + 1))) hb3 fun a ha => ⟨M1, v17, (ha.sub ⟨Z, Z, Z, Z, trivial⟩), hz3, hC27, hv17⟩
       ·
        subst hc5
        refine cw_true Z (cw_seq (cw_region (lw_op Z Z Z (ow_buildSlice0I (R := RSpan) (e := 76) Z (by kernel_rfl) hC26 fun p15 w28 hw3 hb8 hl28 hC28 => lw_op Z Z Z (ow_assign Z Z (lw_nil (ew_then (cw_ret (ew_thenR (ew_blockR (ew_thenR (ew_thenR (ew_blockR (ew_brkR (ew_thenR ?_)))))))))))))))
        have e7 := hR1 _ (Option.some.inj hb3).symm
        subst e7
        obtain rfl := Option.some.inj h
        exact ew_ret (res1 Z (.tmp Z)) ⟨_, Z, (VRep.mono hC28.back hw3), hC28.bx⟩
     ·
      subst hc4
      refine cw_sub (E' := [(0, v0p), (1, (.int .i64 a_top)), (5, v2), (6, (.int .i64 k1))]) ⟨Z, Z, Z, Z, trivial⟩ (cw_drawQ 19 [PV (RSlice RSpan) M1 a_list, PEq (.int .i64 k1), PA RSpan M1 x2, PA RInt M1 x2.Lo, PEq (.int .i64 x2.Lo), PV (RSlice RSpan) M1 a_list, PEq (.int .i64 k1), PA RSpan M1 x2, PA RInt M1 x2.Hi, PEq (.int .i64 x2.Hi), PEq (.bool false), PEq (.bool true), PEq (.bool true), PEq undef, PEq undef, PEq undef, PEq undef, PEq undef, PEq undef] (by kernel_rfl) Z (by kernel_rfl) ⟨PV.mono _ _ _, PEq.mono _, PA.mono _ _ _, PA.mono _ _ _, PEq.mono _, PV.mono _ _ _, PEq.mono _, PA.mono _ _ _, PA.mono _ _ _, PEq.mono _, PEq.mono _, PEq.mono _, PEq.mono _, PEq.mono _, PEq.mono _, PEq.mono _, PEq.mono _, PEq.mono _, PEq.mono _, trivial⟩ ⟨?_, ?_, ?_, ?_, ?_, ?_, ?_, ?_, ?_, ?_, ?_, ?_, ?_, ?_, ?_, ?_, ?_, ?_, ?_, trivial⟩ ?_)
      ·
       intro w29 D hS21 hd21
       have hl29 := Le.no M1 hS21
       exact dg_sub (E' := [(0, v0p)]) ⟨Z, trivial⟩ (dg_plain Z (ow_move Z Z ⟨BX.refl _ _, (VRep.mono (hz1.trans hl29) h0)⟩))
      ·
       intro w30 D hS22 hd22
       exact dg_sub (E' := [(6, (.int .i64 k1))]) ⟨Z, trivial⟩ (dg_plain Z (ow_move Z Z ⟨BX.refl _ _, Z⟩))
      ·
       intro w31 D hS23 hd23
       have d43 : PV (RSlice RSpan) M1 a_list (D 0) w31 := dpA hd23 0 Z
       generalize hq4 : (D 0) = v18 at d43
       exact dg_sub (E' := [(23, v18), (24, (.int .i64 k1))]) ⟨(congrArg some hq4), (dpE hd23 1 Z Z), trivial⟩ (dg_plain Z (ow_indexSlice (R := RSpan) Z Z Z d43 Tryd.underlying58 (Tryd.sizeOf76 _) hx2 fun p16 hp16 => ⟨BX.refl _ _, ⟨_, Z, hp16⟩⟩))
      ·
       intro w32 D hS24 hd24
       have d45 : PA RSpan M1 x2 (D 2) w32 := dpA hd24 2 Z
       obtain ⟨p17, e8, ha7⟩ := d45
       exact dg_sub (E' := [(25, (.pointer (some p17)))]) ⟨(congrArg some e8), trivial⟩ (dg_plain Z (ow_fieldAddr Z Z Tryd.underlying76 Z (Tryd.sizeOf3 _) ⟨BX.refl _ _, ⟨_, Z, (ha7.fld fld_Span_Lo)⟩⟩))
      ·
       intro w33 D hS25 hd25
       have d46 : PA RInt M1 x2.Lo (D 3) w33 := dpA hd25 3 Z
       obtain ⟨p18, e9, ha8⟩ := d46
       refine dg_sub (E' := [(26, (.pointer (some p18)))]) ⟨(congrArg some e9), trivial⟩ (dg_plain Z (ow_load (R := RInt) Z Z ha8 (Tryd.sizeOf3 _) (Tryd.isAgg3 _) fun v19 hv19 => ?_))
       obtain rfl := vint_eq hv19
       exact ⟨BX.refl _ _, Z⟩
      ·
       intro w34 D hS26 hd26
       have hl34 := Le.no M1 hS26
       exact dg_sub (E' := [(0, v0p)]) ⟨Z, trivial⟩ (dg_plain Z (ow_move Z Z ⟨BX.refl _ _, (VRep.mono (hz1.trans hl34) h0)⟩))
      ·
       intro w35 D hS27 hd27
       exact dg_sub (E' := [(6, (.int .i64 k1))]) ⟨Z, trivial⟩ (dg_plain Z (ow_move Z Z ⟨BX.refl _ _, Z⟩))
      ·
       intro w36 D hS28 hd28
       have d47 : PV (RSlice RSpan) M1 a_list (D 5) w36 := dpA hd28 5 Z
       generalize hq5 : (D 5) = v20 at d47
       exact dg_sub (E' := [(28, v20), (29, (.int .i64 k1))]) ⟨(congrArg some hq5), (dpE hd28 6 Z Z), trivial⟩ (dg_plain Z (ow_indexSlice (R := RSpan) Z Z Z d47 Tryd.underlying58 (Tryd.sizeOf76 _) hx2 fun p19 hp19 => ⟨BX.refl _ _, ⟨_, Z, hp19⟩⟩))
      ·
       intro w37 D hS29 hd29
       have d49 : PA RSpan M1 x2 (D 7) w37 := dpA hd29 7 Z
       obtain ⟨p20, e10, ha9⟩ := d49
       exact dg_sub (E' := [(30, (.pointer (some p20)))]) ⟨(congrArg some e10), trivial⟩ (dg_plain Z (ow_fieldAddr Z Z Tryd.underlying76 Z (Tryd.sizeOf3 _) ⟨BX.refl _ _, ⟨_, Z, (ha9.fld fld_Span_Hi)⟩⟩))
      ·
       intro w38 D hS30 hd30
       have d50 : PA RInt M1 x2.Hi (D 8) w38 := dpA hd30 8 Z
       obtain ⟨p21, e11, ha10⟩ := d50
       refine dg_sub (E' := [(31, (.pointer (some p21)))]) ⟨(congrArg some e11), trivial⟩ (dg_plain Z (ow_load (R := RInt) Z Z ha10 (Tryd.sizeOf3 _) (Tryd.isAgg3 _) fun v21 hv21 => ?_))
       obtain rfl := vint_eq hv21
       exact ⟨BX.refl _ _, Z⟩
      ·
       intro w39 D hS31 hd31
       have hl39 := Le.no M1 hS31
       have hC39 := hC3.no hS31
       refine dg_sub (E' := [(27, (.int .i64 x2.Lo)), (32, (.int .i64 x2.Hi))]) ⟨(dpE hd31 4 Z Z), (dpE hd31 9 Z Z), trivial⟩ (dg_plain Z (ow_call Z Z Tryd.call82 (w_spec_l1In (hG.mono (hz1.trans hl39)) hC39.old hx3) fun v22 w40 hv22 => ?_))
       obtain ⟨hv22, hb9⟩ := hv22
       obtain rfl := vbool_eq hv22
       exact ⟨hb9, Z⟩
      ·
       intro w41 D hS32 hd32
       exact dg_sub (E' := [(33, (.bool false))]) ⟨(dpE hd32 10 Z Z), trivial⟩ (dg_plain Z (ow_not Z Z ⟨BX.refl _ _, Z⟩))
      ·
       intro w42 D hS33 hd33
       exact dg_sub (E' := [(34, (.bool true))]) ⟨(dpE hd33 11 Z Z), trivial⟩ (dg_plain Z (ow_move Z Z ⟨BX.refl _ _, Z⟩))
      ·
       intro w43 D hS34 hd34
       exact dg_sub (E' := [(35, (.bool true)), (0, v0p)]) ⟨(dpE hd34 12 Z Z), Z, trivial⟩ (dg_off Z Z Z Z ⟨BX.refl _ _, Z⟩)
      ·
       intro w44 D hS35 hd35
       exact dg_sub (E' := [(35, (.bool true)), (6, (.int .i64 k1))]) ⟨(dpE hd35 12 Z Z), Z, trivial⟩ (dg_off Z Z Z Z ⟨BX.refl _ _, Z⟩)
      ·
       intro w45 D hS36 hd36
       exact dg_sub (E' := [(36, undef), (37, undef), (35, (.bool true))]) ⟨(dpE hd36 13 Z Z), (dpE hd36 14 Z Z), (dpE hd36 12 Z Z), trivial⟩ (dg_off Z Z Z Z ⟨BX.refl _ _, Z⟩)
      ·
       intro w46 D hS37 hd37
       exact dg_sub (E' := [(38, undef), (35, (.bool true))]) ⟨(dpE hd37 15 Z Z), (dpE hd37 12 Z Z), trivial⟩ (dg_off Z Z Z Z ⟨BX.refl _ _, Z⟩)
      ·
       intro w47 D hS38 hd38
       exact dg_sub (E' := [(39, undef), (35, (.bool true))]) ⟨(dpE hd38 16 Z Z), (dpE hd38 12 Z Z), trivial⟩ (dg_off Z Z Z Z ⟨BX.refl _ _, Z⟩)
      ·
       intro w48 D hS39 hd39
       exact dg_sub (E' := [(35, (.bool true)), (1, (.int .i64 a_top))]) ⟨(dpE hd39 12 Z Z), Z, trivial⟩ (dg_off Z Z Z Z ⟨BX.refl _ _, Z⟩)
      ·
       intro w49 D hS40 hd40
       have hC49 := hC3.no hS40
       refine lw_sub (E' := [(35, (.bool true)), (40, undef), (41, undef), (0, v0p), (1, (.int .i64 a_top)), (5, v2), (6, (.int .i64 k1))]) ⟨(dpE hd40 12 Z Z), (dpE hd40 17 Z Z), (dpE hd40 18 Z Z), Z, Z, Z, Z, trivial⟩ (lw_off Z Z Z Z Z Z (lw_off Z Z Z Z Z Z (lw_op Z Z Z (ow_pickT Z Z Z (lw_nil (ew_then (cw_true Z (cw_seq (cw_region (lw_op Z Z Z (ow_buildSlice0I (R := RSpan) (e := 76) Z (by kernel_rfl) hC49 fun p22 w50 hw4 hb10 hl50 hC50 => lw_op Z Z Z (ow_assign Z Z (lw_nil (ew_then (cw_ret (ew_thenR (ew_blockR (ew_thenR (ew_thenR (ew_blockR (ew_brkR (ew_thenR ?_))))))))))))))))))))))
       have e12 := hR1 _ (Option.some.inj hb3).symm
       subst e12
       obtain rfl := Option.some.inj h
       exact ew_ret (res1 Z (.tmp Z)) ⟨_, Z, (VRep.mono hC50.back hw4), hC50.bx⟩
    ·
     obtain rfl := hbb2.trans hc3
     exact cw_false Z (cw_exit (ew_thenX (ew_thenX (ew_blockX (ew_brk (y1, k1) hb3 fun a ha => ⟨M1, v2, (ha.sub ⟨Z, Z, Z, Z, trivial⟩), hl3, hC3, hw2⟩)))))
   ·
    rintro ⟨y2, k2⟩ a w51 hlr2 ⟨M2, v23, hF2, hl51, hC51, hw5⟩
    subst hlr2
    refine ew_at (E := [(0, v0p), (1, (.int .i64 a_top)), (5, v23), (6, (.int .i64 k2))]) hF2 (ew_then (cw_seq (cw_region (lw_op Z Z Z (ow_move Z Z (lw_op Z Z Z (ow_assign Z Z (lw_nil (ew_then (cw_ret ?_))))))))))
    obtain rfl := Option.some.inj h
    exact ew_ret (res1 Z (.tmp Z)) ⟨_, Z, (VRep.mono hC51.back hw5), hC51.bx⟩
 ·
  subst hc1
  refine lw_off Z Z Z Z Z Z (lw_off Z Z Z Z Z Z (lw_off Z Z Z Z Z Z (lw_op Z Z Z (ow_pickT Z Z Z (lw_nil (ew_then (cw_true Z (cw_seq (cw_region (lw_op Z Z Z (ow_move Z Z (lw_op Z Z Z (ow_assign Z Z (lw_nil (ew_then (cw_ret (ew_thenR ?_)))))))))))))))))
  obtain rfl := Option.some.inj h
  exact ew_ret (res1 Z (.tmp Z)) ⟨_, Z, (VRep.mono hC2.back (VRep.mono hl2 hw1)), hC2.bx⟩

theorem wo_spec_SpansOf {w : World} {M : Nat → Prop} (hG : ARep (RArr 4 RShape) w M shapes ⟨0, 0, none⟩) (hO : ∀ b, M b → b < w.heap.size) {v0p : Value} {a_list : List Span} (h0 : VRep (RSlice RSpan) w M a_list v0p) {a_top : Int} {r : (List Span)} (h : F.spec_SpansOf a_list a_top = some r) :
  Calls Tryd.prog 112 [v0p, (.int .i64 a_top)].toArray w fun e w' => ∃ v, e = .returned v ∧ (∃ M', OwnRow RSpan w.heap.size 76 w' M' r v ∧ Cx No w M w' M') ∧ BX No w w' := by
 have hC : Cx No w M w M := Cx.start hO (fun _ e => e.elim)
 refine walk (N := 53) Tryd.func112 Z Tryd.ntmps112 Z (cw_seq (cw_region (lw_op Z Z Z (ow_assign Z Z (lw_nil (ew_then (cw_seq (cw_region (lw_op Z Z Z (ow_buildSlice0 (R := RSpan) (e := 76) Z (by kernel_rfl) hC fun p1 w1 M1 hr1 hb1 hl1 hC1 hM1 hat1 => lw_op Z Z Z (ow_assign Z Z (lw_nil (ew_then (cw_seq (cw_seq (cw_region (lw_op Z Z Z (ow_move Z Z ?_))))))))))))))))))
 replace h := bind_some h
 obtain ⟨x1, hx1, h⟩ := h
 refine lw_op Z Z Z (ow_call Z Z Tryd.call82 (w_spec_l1In (hG.mono hl1) hC1.old hx1) fun v1 w2 hv1 => ?_)
 obtain ⟨hv1, hb2⟩ := hv1
 have hl2 := Le.no M1 hb2
 have hC2 := hC1.no hb2
 have hr2 := hr1.no hb2
 obtain rfl := vbool_eq hv1
 refine lw_op Z Z Z (ow_not Z Z (lw_op Z Z Z (ow_move Z Z ?_)))
 replace h := cond_some h
 rcases h with ⟨hc1, h⟩ | ⟨hc1, h⟩
 ·
  subst hc1
  refine lw_on Z Z Z Z Z Z (ow_move Z Z (lw_on Z Z Z Z Z Z (ow_len Z Z (VRep.mono (hl1.trans hl2) h0) Tryd.underlying58 Z (lw_on Z Z Z Z Z Z (ow_gtr Z Z Z fun bb1 hbb1 => lw_op Z Z Z (ow_pickF Z Z Z (lw_nil (ew_then ?_))))))))
  replace h := cond_some h
  rcases h with ⟨hc2, h⟩ | ⟨hc2, h⟩
  ·
   obtain rfl := hbb1.trans hc2
   refine cw_true Z (cw_seq (cw_region (lw_op Z Z Z (ow_move Z Z (lw_op Z Z Z (ow_assign Z Z (lw_nil (ew_then (cw_ret (ew_thenR ?_))))))))))
   obtain rfl := Option.some.inj h
   exact ew_ret (res1 Z (.tmp Z)) ⟨_, Z, ⟨M1, hr2, hC2⟩, hC2.bx⟩
  ·
   obtain rfl := hbb1.trans hc2
   refine cw_false Z (cw_skip (ew_then (cw_seq (cw_seq (cw_region (lw_op Z Z Z (ow_assign Z Z (lw_nil (ew_then ?_)))))))))
   replace h := bind_some h
   obtain ⟨lr1, hlr1, h⟩ := h
   refine cw_for hlr1 (fun s a w' => ∃ (M' : Nat → Prop) (v0c : Value), Fits 53 [(0, v0p), (1, (.int .i64 a_top)), (5, v0c), (6, (.int .i64 s.2))] a ∧ Le w2 M1 w' M' ∧ Cx No w M w' M' ∧ OwnRow RSpan w.heap.size 76 w' M' s.1 v0c) ?_ ?_ ?_
   ·
    intro a ha
    exact ⟨M1, (.slice (some p1) 0 0), ha.sub ⟨Z, Z, Z, Z, trivial⟩, Le.refl _ _, hC2, hr2⟩
   ·
    rintro ⟨y1, k1⟩ a w3 sr1 ⟨M2, v2, hF1, hl3, hC3, hw1⟩ hb3 hR1
    refine cw_at (E := [(0, v0p), (1, (.int .i64 a_top)), (5, v2), (6, (.int .i64 k1))]) hF1 (cw_seq (cw_seq (cw_region (lw_op Z Z Z (ow_move Z Z (lw_op Z Z Z (ow_move Z Z ?_)))))))
    have hz1 := ((hl1.trans hl2).trans hl3)
    refine lw_op Z Z Z (ow_len Z Z (VRep.mono hz1 h0) Tryd.underlying58 Z (lw_op Z Z Z (ow_lss Z Z Z fun bb2 hbb2 => lw_nil (ew_then ?_))))
    replace hb3 := cond_some hb3
    rcases hb3 with ⟨hc3, hb3⟩ | ⟨hc3, hb3⟩
    ·
     obtain rfl := hbb2.trans hc3
     refine cw_true Z (cw_skip (ew_then (cw_seq (cw_block (cw_seq (cw_seq ?_))))))
     replace hb3 := bind_some hb3
     obtain ⟨x2, hx2, hb3⟩ := hb3
     replace hb3 := bind_some hb3
     obtain ⟨x3, hx3, hb3⟩ := hb3
     replace hb3 := cond_some hb3
     rcases hb3 with ⟨hc4, hb3⟩ | ⟨hc4, hb3⟩
     ·
      subst hc4
      refine cw_sub (E' := [(0, v0p), (1, (.int .i64 a_top)), (5, v2), (6, (.int .i64 k1))]) ⟨Z, Z, Z, Z, trivial⟩ (cw_drawQ 19 [PV (RSlice RSpan) M2 a_list, PEq (.int .i64 k1), PA RSpan M2 x2, PA RInt M2 x2.Lo, PEq (.int .i64 x2.Lo), PV (RSlice RSpan) M2 a_list, PEq (.int .i64 k1), PA RSpan M2 x2, PA RInt M2 x2.Hi, PEq (.int .i64 x2.Hi), PEq (.bool true), PEq (.bool false), PEq (.bool false), PV (RSlice RSpan) M2 a_list, PEq (.int .i64 k1), PA RSpan M2 x2, PA RInt M2 x2.Hi, PEq (.int .i64 x2.Hi), PEq (.int .i64 a_top)] (by kernel_rfl) Z (by kernel_rfl) ⟨PV.mono _ _ _, PEq.mono _, PA.mono _ _ _, PA.mono _ _ _, PEq.mono _, PV.mono _ _ _, PEq.mono _, PA.mono _ _ _, PA.mono _ _ _, PEq.mono _, PEq.mono _, PEq.mono _, PEq.mono _, PV.mono _ _ _, PEq.mono _, PA.mono _ _ _, PA.mono _ _ _, PEq.mono _, PEq.mono _, trivial⟩ ⟨?_, ?_, ?_, ?_, ?_, ?_, ?_, ?_, ?_, ?_, ?_, ?_, ?_, ?_, ?_, ?_, ?_, ?_, ?_, trivial⟩ ?_)
      ·
       intro w5 D hS1 hd1
       have hl5 := Le.no M2 hS1
       exact dg_sub (E' := [(0, v0p)]) ⟨Z, trivial⟩ (dg_plain Z (ow_move Z Z ⟨BX.refl _ _, (VRep.mono (hz1.trans hl5) h0)⟩))
      ·
       intro w6 D hS2 hd2
       exact dg_sub (E' := [(6, (.int .i64 k1))]) ⟨Z, trivial⟩ (dg_plain Z (ow_move Z Z ⟨BX.refl _ _, Z⟩))
      ·
       intro w7 D hS3 hd3
       have d1 : PV (RSlice RSpan) M2 a_list (D 0) w7 := dpA hd3 0 Z
       generalize hq1 : (D 0) = v8 at d1
       exact dg_sub (E' := [(23, v8), (24, (.int .i64 k1))]) ⟨(congrArg some hq1), (dpE hd3 1 Z Z), trivial⟩ (dg_plain Z (ow_indexSlice (R := RSpan) Z Z Z d1 Tryd.underlying58 (Tryd.sizeOf76 _) hx2 fun p5 hp5 => ⟨BX.refl _ _, ⟨_, Z, hp5⟩⟩))
      ·
       intro w8 D hS4 hd4
       have d3 : PA RSpan M2 x2 (D 2) w8 := dpA hd4 2 Z
       obtain ⟨p6, e1, ha1⟩ := d3
       exact dg_sub (E' := [(25, (.pointer (some p6)))]) ⟨(congrArg some e1), trivial⟩ (dg_plain Z (ow_fieldAddr Z Z Tryd.underlying76 Z (Tryd.sizeOf3 _) ⟨BX.refl _ _, ⟨_, Z, (ha1.fld fld_Span_Lo)⟩⟩))
      ·
       intro w9 D hS5 hd5
       have d4 : PA RInt M2 x2.Lo (D 3) w9 := dpA hd5 3 Z
       obtain ⟨p7, e2, ha2⟩ := d4
       refine dg_sub (E' := [(26, (.pointer (some p7)))]) ⟨(congrArg some e2), trivial⟩ (dg_plain Z (ow_load (R := RInt) Z Z ha2 (Tryd.sizeOf3 _) (Tryd.isAgg3 _) fun v9 hv9 => ?_))
       obtain rfl := vint_eq hv9
       exact ⟨BX.refl _ _, Z⟩
      ·
       intro w10 D hS6 hd6
       have hl10 := Le.no M2 hS6
       exact dg_sub (E' := [(0, v0p)]) ⟨Z, trivial⟩ (dg_plain Z (ow_move Z Z ⟨BX.refl _ _, (VRep.mono (hz1.trans hl10) h0)⟩))
      ·
       intro w11 D hS7 hd7
       exact dg_sub (E' := [(6, (.int .i64 k1))]) ⟨Z, trivial⟩ (dg_plain Z (ow_move Z Z ⟨BX.refl _ _, Z⟩))
      ·
       intro w12 D hS8 hd8
       have d5 : PV (RSlice RSpan) M2 a_list (D 5) w12 := dpA hd8 5 Z
       generalize hq2 : (D 5) = v10 at d5
       exact dg_sub (E' := [(28, v10), (29, (.int .i64 k1))]) ⟨(congrArg some hq2), (dpE hd8 6 Z Z), trivial⟩ (dg_plain Z (ow_indexSlice (R := RSpan) Z Z Z d5 Tryd.underlying58 (Tryd.sizeOf76 _) hx2 fun p8 hp8 => ⟨BX.refl _ _, ⟨_, Z, hp8⟩⟩))
      ·
       intro w13 D hS9 hd9
       have d7 : PA RSpan M2 x2 (D 7) w13 := dpA hd9 7 Z
       obtain ⟨p9, e3, ha3⟩ := d7
       exact dg_sub (E' := [(30, (.pointer (some p9)))]) ⟨(congrArg some e3), trivial⟩ (dg_plain Z (ow_fieldAddr Z Z Tryd.underlying76 Z (Tryd.sizeOf3 _) ⟨BX.refl _ _, ⟨_, Z, (ha3.fld fld_Span_Hi)⟩⟩))
      ·
       intro w14 D hS10 hd10
       have d8 : PA RInt M2 x2.Hi (D 8) w14 := dpA hd10 8 Z
       obtain ⟨p10, e4, ha4⟩ := d8
       refine dg_sub (E' := [(31, (.pointer (some p10)))]) ⟨(congrArg some e4), trivial⟩ (dg_plain Z (ow_load (R := RInt) Z Z ha4 (Tryd.sizeOf3 _) (Tryd.isAgg3 _) fun v11 hv11 => ?_))
       obtain rfl := vint_eq hv11
       exact ⟨BX.refl _ _, Z⟩
      ·
       intro w15 D hS11 hd11
       have hl15 := Le.no M2 hS11
       have hC15 := hC3.no hS11
       refine dg_sub (E' := [(27, (.int .i64 x2.Lo)), (32, (.int .i64 x2.Hi))]) ⟨(dpE hd11 4 Z Z), (dpE hd11 9 Z Z), trivial⟩ (dg_plain Z (ow_call Z Z Tryd.call82 (w_spec_l1In (hG.mono (hz1.trans hl15)) hC15.old hx3) fun v12 w16 hv12 => ?_))
       obtain ⟨hv12, hb5⟩ := hv12
       obtain rfl := vbool_eq hv12
       exact ⟨hb5, Z⟩
      ·
       intro w17 D hS12 hd12
       exact dg_sub (E' := [(33, (.bool true))]) ⟨(dpE hd12 10 Z Z), trivial⟩ (dg_plain Z (ow_not Z Z ⟨BX.refl _ _, Z⟩))
      ·
       intro w18 D hS13 hd13
       exact dg_sub (E' := [(34, (.bool false))]) ⟨(dpE hd13 11 Z Z), trivial⟩ (dg_plain Z (ow_move Z Z ⟨BX.refl _ _, Z⟩))
      ·
       intro w19 D hS14 hd14
       have hl19 := Le.no M2 hS14
       exact dg_sub (E' := [(35, (.bool false)), (0, v0p)]) ⟨(dpE hd14 12 Z Z), Z, trivial⟩ (dg_on Z Z Z Z (ow_move Z Z ⟨BX.refl _ _, (VRep.mono (hz1.trans hl19) h0)⟩))
      ·
       intro w20 D hS15 hd15
       exact dg_sub (E' := [(35, (.bool false)), (6, (.int .i64 k1))]) ⟨(dpE hd15 12 Z Z), Z, trivial⟩ (dg_on Z Z Z Z (ow_move Z Z ⟨BX.refl _ _, Z⟩))
      ·
       intro w21 D hS16 hd16
       have d16 : PV (RSlice RSpan) M2 a_list (D 13) w21 := dpA hd16 13 Z
       generalize hq3 : (D 13) = v13 at d16
       exact dg_sub (E' := [(36, v13), (37, (.int .i64 k1)), (35, (.bool false))]) ⟨(congrArg some hq3), (dpE hd16 14 Z Z), (dpE hd16 12 Z Z), trivial⟩ (dg_on Z Z Z Z (ow_indexSlice (R := RSpan) Z Z Z d16 Tryd.underlying58 (Tryd.sizeOf76 _) hx2 fun p11 hp11 => ⟨BX.refl _ _, ⟨_, Z, hp11⟩⟩))
      ·
       intro w22 D hS17 hd17
       have d19 : PA RSpan M2 x2 (D 15) w22 := dpA hd17 15 Z
       obtain ⟨p12, e5, ha5⟩ := d19
       exact dg_sub (E' := [(38, (.pointer (some p12))), (35, (.bool false))]) ⟨(congrArg some e5), (dpE hd17 12 Z Z), trivial⟩ (dg_on Z Z Z Z (ow_fieldAddr Z Z Tryd.underlying76 Z (Tryd.sizeOf3 _) ⟨BX.refl _ _, ⟨_, Z, (ha5.fld fld_Span_Hi)⟩⟩))
      ·
       intro w23 D hS18 hd18
       have d21 : PA RInt M2 x2.Hi (D 16) w23 := dpA hd18 16 Z
       obtain ⟨p13, e6, ha6⟩ := d21
       refine dg_sub (E' := [(39, (.pointer (some p13))), (35, (.bool false))]) ⟨(congrArg some e6), (dpE hd18 12 Z Z), trivial⟩ (dg_on Z Z Z Z (ow_load (R := RInt) Z Z ha6 (Tryd.sizeOf3 _) (Tryd.isAgg3 _) fun v14 hv14 => ?_))
       obtain rfl := vint_eq hv14
       exact ⟨BX.refl _ _, Z⟩
      ·
       intro w24 D hS19 hd19
       exact dg_sub (E' := [(35, (.bool false)), (1, (.int .i64 a_top))]) ⟨(dpE hd19 12 Z Z), Z, trivial⟩ (dg_on Z Z Z Z (ow_move Z Z ⟨BX.refl _ _, Z⟩))
      ·
       intro w25 D hS20 hd20
       have hl25 := Le.no M2 hS20
       have hC25 := hC3.no hS20
       have hr24 := hw1.no hS20
       refine lw_sub (E' := [(35, (.bool false)), (40, (.int .i64 x2.Hi)), (41, (.int .i64 a_top)), (0, v0p), (1, (.int .i64 a_top)), (5, v2), (6, (.int .i64 k1))]) ⟨(dpE hd20 12 Z Z), (dpE hd20 17 Z Z), (dpE hd20 18 Z Z), Z, Z, Z, Z, trivial⟩ ?_
       replace hb3 := bind_some hb3
       obtain ⟨x4, hx4, hb3⟩ := hb3
       refine lw_on Z Z Z Z Z Z (ow_call Z Z Tryd.call82 (w_spec_l1In (hG.mono (hz1.trans hl25)) hC25.old hx4) fun v15 w26 hv15 => ?_)
       obtain ⟨hv15, hb6⟩ := hv15
       have hl26 := Le.no M2 hb6
       have hC26 := hC25.no hb6
       have hr25 := hr24.no hb6
       obtain rfl := vbool_eq hv15
       refine lw_on Z Z Z Z Z Z (ow_not Z Z (lw_op Z Z Z (ow_pickF Z Z Z (lw_nil (ew_then ?_)))))
       replace hb3 := cond_some hb3
       rcases hb3 with ⟨hc5, hb3⟩ | ⟨hc5, hb3⟩
       ·
        subst hc5
        refine cw_false Z (cw_skip (ew_then (cw_region (lw_op Z Z Z (ow_move Z Z (lw_op Z Z Z (ow_move Z Z (lw_op Z Z Z (ow_move Z Z ?_)))))))))
        have hz2 := ((hz1.trans hl25).trans hl26)
        refine lw_op Z Z Z (ow_indexSlice (R := RSpan) Z Z Z (VRep.mono hz2 h0) Tryd.underlying58 (Tryd.sizeOf76 _) hx2 fun p14 hp14 => lw_op Z Z Z (ow_load (R := RSpan) Z Z hp14 (Tryd.sizeOf76 _) (Tryd.isAgg76 _) fun v16 hv16 => ?_))
        have hw2 := hr25.freezeDel
        have hC27 := hr25.cxDel hC26 (fun _ e => e.elim) hO
        have hl27 := Le.del w26 M2 v2
        replace hb3 := bind_some hb3
        obtain ⟨x5, hx5, hb3⟩ := hb3
        refine lw_op Z Z Z (ow_call Z Z Tryd.call116 (wo_spec_l1Add (hG.mono (hz2.trans hl27)) hC27.old hw2 (VRep.mono hl27 hv16) hx5) fun v17 w27 hv17 => ?_)
        obtain ⟨⟨M3, hr26, hk1⟩, hb7⟩ := hv17
        replace hr26 := hr26.base hC27.bx.size
        have hl28 := hk1.le
        have hC28 := hC27.trans hk1
        refine lw_op Z Z Z (ow_assign Z Z (lw_nil (ew_blockN (ew_then (cw_region (lw_op Z Z Z (ow_move Z Z (lw_op Z Z Z (ow_add Z Z Z (lw_op Z Z Z (ow_assign Z Z (lw_nil ?_))))))))))))
        have hz3 := ((((hl3.trans hl25).trans hl26).trans hl27).trans hl28)
        exact ew_nxt (x5, (W (k1 + 1))) hb3 fun a ha => ⟨M3, v17, (ha.sub ⟨Z, Z, Z, Z, trivial⟩), hz3, hC28, hr26⟩
       ·
        subst hc5
        refine cw_true Z (cw_seq (cw_region (lw_op Z Z Z (ow_buildSlice0 (R := RSpan) (e := 76) Z (by kernel_rfl) hC26 fun p15 w28 M4 hr27 hb8 hl29 hC29 hM2 hat2 => lw_op Z Z Z (ow_assign Z Z (lw_nil (ew_then (cw_ret (ew_thenR (ew_blockR (ew_thenR (ew_thenR (ew_blockR (ew_brkR (ew_thenR ?_)))))))))))))))
        have e7 := hR1 _ (Option.some.inj hb3).symm
        subst e7
        obtain rfl := Option.some.inj h
        exact ew_ret (res1 Z (.tmp Z)) ⟨_, Z, ⟨M4, hr27, hC29⟩, hC29.bx⟩
     ·
      subst hc4
      refine cw_sub (E' := [(0, v0p), (1, (.int .i64 a_top)), (5, v2), (6, (.int .i64 k1))]) ⟨Z, Z, Z, Z, trivial⟩ (cw_drawQ 19 [PV (RSlice RSpan) M2 a_list, PEq (.int .i64 k1), PA RSpan M2 x2, PA RInt M2 x2.Lo, PEq (.int .i64 x2.Lo), PV (RSlice RSpan) M2 a_list, PEq (.int .i64 k1), PA RSpan M2 x2, PA RInt M2 x2.Hi, PEq (.int .i64 x2.Hi), PEq (.bool false), PEq (.bool true), PEq (.bool true), PEq undef, PEq undef, PEq undef, PEq undef, PEq undef, PEq undef] (by kernel_rfl) Z (by kernel_rfl) ⟨PV.mono _ _ _, PEq.mono _, PA.mono _ _ _, PA.mono _ _ _, PEq.mono _, PV.mono _ _ _, PEq.mono _, PA.mono _ _ _, PA.mono _ _ _, PEq.mono _, PEq.mono _, PEq.mono _, PEq.mono _, PEq.mono _, PEq.mono _, PEq.mono _, PEq.mono _, PEq.mono _, PEq.mono _, trivial⟩ ⟨?_, ?_, ?_, ?_, ?_, ?_, ?_, ?_, ?_, ?_, ?_, ?_, ?_, ?_, ?_, ?_, ?_, ?_, ?_, trivial⟩ ?_)
      ·
       intro w29 D hS21 hd21
       have hl30 := Le.no M2 hS21
       exact dg_sub (E' := [(0, v0p)]) ⟨Z, trivial⟩ (dg_plain Z (ow_move Z Z ⟨BX.refl _ _, (VRep.mono (hz1.trans hl30) h0)⟩))
      ·
       intro w30 D hS22 hd22
       exact dg_sub (E' := [(6, (.int .i64 k1))]) ⟨Z, trivial⟩ (dg_plain Z (ow_move Z Z ⟨BX.refl _ _, Z⟩))
      ·
       intro w31 D hS23 hd23
       have d43 : PV (RSlice RSpan) M2 a_list (D 0) w31 := dpA hd23 0 Z
       generalize hq4 : (D 0) = v18 at d43
       exact dg_sub (E' := [(23, v18), (24, (.int .i64 k1))]) ⟨(congrArg some hq4), (dpE hd23 1 Z Z), trivial⟩ (dg_plain Z (ow_indexSlice (R := RSpan) Z Z Z d43 Tryd.underlying58 (Tryd.sizeOf76 _) hx2 fun p16 hp16 => ⟨BX.refl _ _, ⟨_, Z, hp16⟩⟩))
      ·
       intro w32 D hS24 hd24
       have d45 : PA RSpan M2 x2 (D 2) w32 := dpA hd24 2 Z
       obtain ⟨p17, e8, ha7⟩ := d45
       exact dg_sub (E' := [(25, (.pointer (some p17)))]) ⟨(congrArg some e8), trivial⟩ (dg_plain Z (ow_fieldAddr Z Z Tryd.underlying76 Z (Tryd.sizeOf3 _) ⟨BX.refl _ _, ⟨_, Z, (ha7.fld fld_Span_Lo)⟩⟩))
      ·
       intro w33 D hS25 hd25
       have d46 : PA RInt M2 x2.Lo (D 3) w33 := dpA hd25 3 Z
       obtain ⟨p18, e9, ha8⟩ := d46
       refine dg_sub (E' := [(26, (.pointer (some p18)))]) ⟨(congrArg some e9), trivial⟩ (dg_plain Z (ow_load (R := RInt) Z Z ha8 (Tryd.sizeOf3 _) (Tryd.isAgg3 _) fun v19 hv19 => ?_))
       obtain rfl := vint_eq hv19
       exact ⟨BX.refl _ _, Z⟩
      ·
       intro w34 D hS26 hd26
       have hl35 := Le.no M2 hS26
       exact dg_sub (E' := [(0, v0p)]) ⟨Z, trivial⟩ (dg_plain Z (ow_move Z Z ⟨BX.refl _ _, (VRep.mono (hz1.trans hl35) h0)⟩))
      ·
       intro w35 D hS27 hd27
       exact dg_sub (E' := [(6, (.int .i64 k1))]) ⟨Z, trivial⟩ (dg_plain Z (ow_move Z Z ⟨BX.refl _ _, Z⟩))
      ·
       intro w36 D hS28 hd28
       have d47 : PV (RSlice RSpan) M2 a_list (D 5) w36 := dpA hd28 5 Z
       generalize hq5 : (D 5) = v20 at d47
       exact dg_sub (E' := [(28, v20), (29, (.int .i64 k1))]) ⟨(congrArg some hq5), (dpE hd28 6 Z Z), trivial⟩ (dg_plain Z (ow_indexSlice (R := RSpan) Z Z Z d47 Tryd.underlying58 (Tryd.sizeOf76 _) hx2 fun p19 hp19 => ⟨BX.refl _ _, ⟨_, Z, hp19⟩⟩))
      ·
       intro w37 D hS29 hd29
       have d49 : PA RSpan M2 x2 (D 7) w37 := dpA hd29 7 Z
       obtain ⟨p20, e10, ha9⟩ := d49
       exact dg_sub (E' := [(30, (.pointer (some p20)))]) ⟨(congrArg some e10), trivial⟩ (dg_plain Z (ow_fieldAddr Z Z Tryd.underlying76 Z (Tryd.sizeOf3 _) ⟨BX.refl _ _, ⟨_, Z, (ha9.fld fld_Span_Hi)⟩⟩))
      ·
       intro w38 D hS30 hd30
       have d50 : PA RInt M2 x2.Hi (D 8) w38 := dpA hd30 8 Z
       obtain ⟨p21, e11, ha10⟩ := d50
       refine dg_sub (E' := [(31, (.pointer (some p21)))]) ⟨(congrArg some e11), trivial⟩ (dg_plain Z (ow_load (R := RInt) Z Z ha10 (Tryd.sizeOf3 _) (Tryd.isAgg3 _) fun v21 hv21 => ?_))
       obtain rfl := vint_eq hv21
       exact ⟨BX.refl _ _, Z⟩
      ·
       intro w39 D hS31 hd31
       have hl40 := Le.no M2 hS31
       have hC40 := hC3.no hS31
       refine dg_sub (E' := [(27, (.int .i64 x2.Lo)), (32, (.int .i64 x2.Hi))]) ⟨(dpE hd31 4 Z Z), (dpE hd31 9 Z Z), trivial⟩ (dg_plain Z (ow_call Z Z Tryd.call82 (w_spec_l1In (hG.mono (hz1.trans hl40)) hC40.old hx3) fun v22 w40 hv22 => ?_))
       obtain ⟨hv22, hb9⟩ := hv22
       obtain rfl := vbool_eq hv22
       exact ⟨hb9, Z⟩
      ·
       intro w41 D hS32 hd32
       exact dg_sub (E' := [(33, (.bool false))]) ⟨(dpE hd32 10 Z Z), trivial⟩ (dg_plain Z (ow_not Z Z ⟨BX.refl _ _, Z⟩))
      ·
       intro w42 D hS33 hd33
       exact dg_sub (E' := [(34, (.bool true))]) ⟨(dpE hd33 11 Z Z), trivial⟩ (dg_plain Z (ow_move Z Z ⟨BX.refl _ _, Z⟩))
      ·
       intro w43 D hS34 hd34
       exact dg_sub (E' := [(35, (.bool true)), (0, v0p)]) ⟨(dpE hd34 12 Z Z), Z, trivial⟩ (dg_off Z Z Z Z ⟨BX.refl _ _, Z⟩)
      ·
       intro w44 D hS35 hd35
       exact dg_sub (E' := [(35, (.bool true)), (6, (.int .i64 k1))]) ⟨(dpE hd35 12 Z Z), Z, trivial⟩ (dg_off Z Z Z Z ⟨BX.refl _ _, Z⟩)
      ·
       intro w45 D hS36 hd36
       exact dg_sub (E' := [(36, undef), (37, undef), (35, (.bool true))]) ⟨(dpE hd36 13 Z Z), (dpE hd36 14 Z Z), (dpE hd36 12 Z Z), trivial⟩ (dg_off Z Z Z Z ⟨BX.refl _ _, Z⟩)
      ·
       intro w46 D hS37 hd37
       exact dg_sub (E' := [(38, undef), (35, (.bool true))]) ⟨(dpE hd37 15 Z Z), (dpE hd37 12 Z Z), trivial⟩ (dg_off Z Z Z Z ⟨BX.refl _ _, Z⟩)
      ·
       intro w47 D hS38 hd38
       exact dg_sub (E' := [(39, undef), (35, (.bool true))]) ⟨(dpE hd38 16 Z Z), (dpE hd38 12 Z Z), trivial⟩ (dg_off Z Z Z Z ⟨BX.refl _ _, Z⟩)
      ·
       intro w48 D hS39 hd39
       exact dg_sub (E' := [(35, (.bool true)), (1, (.int .i64 a_top))]) ⟨(dpE hd39 12 Z Z), Z, trivial⟩ (dg_off Z Z Z Z ⟨BX.refl _ _, Z⟩)
      ·
       intro w49 D hS40 hd40
       have hC50 := hC3.no hS40
       refine lw_sub (E' := [(35, (.bool true)), (40, undef), (41, undef), (0, v0p), (1, (.int .i64 a_top)), (5, v2), (6, (.int .i64 k1))]) ⟨(dpE hd40 12 Z Z), (dpE hd40 17 Z Z), (dpE hd40 18 Z Z), Z, Z, Z, Z, trivial⟩ (lw_off Z Z Z Z Z Z (lw_off Z Z Z Z Z Z (lw_op Z Z Z (ow_pickT Z Z Z (lw_nil (ew_then (cw_true Z (cw_seq (cw_region (lw_op Z Z Z (ow_buildSlice0 (R := RSpan) (e := 76) Z (by kernel_rfl) hC50 fun p22 w50 M5 hr50 hb10 hl51 hC51 hM3 hat3 => lw_op Z Z Z (ow_assign Z Z (lw_nil (ew_then (cw_ret (ew_thenR (ew_blockR (ew_thenR (ew_thenR (ew_blockR (ew_brkR (ew_thenR ?_))))))))))))))))))))))
       have e12 := hR1 _ (Option.some.inj hb3).symm
       subst e12
       obtain rfl := Option.some.inj h
       exact ew_ret (res1 Z (.tmp Z)) ⟨_, Z, ⟨M5, hr50, hC51⟩, hC51.bx⟩
    ·
     obtain rfl := hbb2.trans hc3
     exact cw_false Z (cw_exit (ew_thenX (ew_thenX (ew_blockX (ew_brk (y1, k1) hb3 fun a ha => ⟨M2, v2, (ha.sub ⟨Z, Z, Z, Z, trivial⟩), hl3, hC3, hw1⟩)))))
   ·
    rintro ⟨y2, k2⟩ a w51 hlr2 ⟨M6, v23, hF2, hl52, hC52, hw3⟩
    subst hlr2
    refine ew_at (E := [(0, v0p), (1, (.int .i64 a_top)), (5, v23), (6, (.int .i64 k2))]) hF2 (ew_then (cw_seq (cw_region (lw_op Z Z Z (ow_move Z Z (lw_op Z Z Z (ow_assign Z Z (lw_nil (ew_then (cw_ret ?_))))))))))
    obtain rfl := Option.some.inj h
    exact ew_ret (res1 Z (.tmp Z)) ⟨_, Z, ⟨M6, hw3, hC52⟩, hC52.bx⟩
 ·
  subst hc1
  refine lw_off Z Z Z Z Z Z (lw_off Z Z Z Z Z Z (lw_off Z Z Z Z Z Z (lw_op Z Z Z (ow_pickT Z Z Z (lw_nil (ew_then (cw_true Z (cw_seq (cw_region (lw_op Z Z Z (ow_move Z Z (lw_op Z Z Z (ow_assign Z Z (lw_nil (ew_then (cw_ret (ew_thenR ?_)))))))))))))))))
  obtain rfl := Option.some.inj h
  exact ew_ret (res1 Z (.tmp Z)) ⟨_, Z, ⟨M1, hr2, hC2⟩, hC2.bx⟩

theorem w_spec_l20Raw {w : World} {M : Nat → Prop} (hG : ARep (RArr 4 RShape) w M shapes ⟨0, 0, none⟩) (hO : ∀ b, M b → b < w.heap.size) {g : Nat} {Ax : Option Addr} {cx : Nat} {a_xs : List Int} {a_pos : Int} (hxs : VRep (RSlice RU8) w M a_xs (.slice Ax a_xs.length cx)) (hown : Own w g 98 #[.slice Ax a_xs.length cx, .int .i64 a_pos]) (hgM : M g) {a_top : Int} {a_n : Int} {r : ((List Span)) × Int} (h : F.spec_l20Raw a_xs a_pos a_top a_n = some r) :
  Calls Tryd.prog 113 [(.pointer (some ⟨g, 0, none⟩)), (.int .i64 a_top), (.int .i64 a_n)].toArray w fun e w' => ∃ v, e = .returned v ∧ (VRep (RSlice RSpan) w' M r.1 v ∧ Own w' g 98 #[.slice Ax a_xs.length cx, .int .i64 r.2]) ∧ BX (One g) w w' := by
 obtain ⟨i76, hi76, hz76, hs76, hy76⟩ := info76
 have hX : ∀ b, (One g) b → M b := fun b e => e ▸ hgM
 have hC : Cx (One g) w M w M := Cx.start hO hX
 refine walk (N := 24) Tryd.func113 Z Tryd.ntmps113 Z (cw_seq (cw_region (lw_op Z Z Z (ow_assign Z Z (lw_nil (ew_then (cw_seq (cw_region (lw_op Z Z Z (ow_buildSlice0 (R := RSpan) (e := 76) Z (by kernel_rfl) hC fun p1 w1 M1 hr1 hb1 hl1 hC1 hM1 hat1 => ?_))))))))))
 have ho1 := hown.no hb1
 have hm1 := hM1 _ hgM
 refine lw_op Z Z Z (ow_assign Z Z (lw_nil (ew_then (cw_seq (cw_seq (cw_region (lw_op Z Z Z (ow_move Z Z ?_))))))))
 replace h := bind_some h
 obtain ⟨x1, hx1, h⟩ := h
 refine lw_op Z Z Z (ow_call Z Z Tryd.call87 (w_spec_l20Rd_pick (hG.mono hl1) hC1.old (VRep.mono hl1 hxs) ho1 hm1 hx1) fun v1 w2 hv1 => ?_)
 obtain ⟨⟨hv1, ho2⟩, hb2⟩ := hv1
 have hl2 := Le.of_bx M1 hb2 (fun b e => (by rw [show b = g from e]; exact hm1))
 have hC2 := hC1.go hb2 (fun b e => Or.inr e)
 have hr2 := hr1.go hb2 (fun k hk e => (orow_ne hr1 ho1 (by decide)) (hk.trans (congrArg some e))) hl2 (fun _ h => h)
 obtain rfl := vint_eq hv1
 refine lw_op Z Z Z (ow_assign Z Z (lw_nil (ew_then ?_)))
 replace h := bind_some h
 obtain ⟨lr1, hlr1, h⟩ := h
 refine cw_for hlr1 (fun s a w' => ∃ (M' : Nat → Prop) (v0c : Value), Fits 24 [(0, (.pointer (some ⟨g, 0, none⟩))), (1, (.int .i64 a_top)), (2, (.int .i64 a_n)), (7, v0c), (8, (.int .i64 s.2.1))] a ∧ Le w2 M1 w' M' ∧ Cx (One g) w M w' M' ∧ OwnRow RSpan w.heap.size 76 w' M' s.1 v0c ∧ Own w' g 98 #[(.slice Ax a_xs.length cx), (.int .i64 s.2.2)] ∧ M' g) ?_ ?_ ?_
 ·
  intro a ha
  exact ⟨M1, (.slice (some p1) 0 0), ha.sub ⟨Z, Z, Z, Z, Z, trivial⟩, Le.refl _ _, hC2, hr2, ho2, hm1⟩
 ·
  rintro ⟨y1, k1, k2⟩ a w3 sr1 ⟨M2, v2, hF1, hl3, hC3, hw1, ho3, hm2⟩ hb3 hR1
  refine cw_at (E := [(0, (.pointer (some ⟨g, 0, none⟩))), (1, (.int .i64 a_top)), (2, (.int .i64 a_n)), (7, v2), (8, (.int .i64 k1))]) hF1 (cw_seq (cw_seq (cw_region (lw_op Z Z Z (ow_move Z Z (lw_op Z Z Z (ow_gtr Z Z Z fun bb1 hbb1 => lw_nil (ew_then ?_))))))))
  replace hb3 := cond_some hb3
  rcases hb3 with ⟨hc1, hb3⟩ | ⟨hc1, hb3⟩
  ·
   obtain rfl := hbb1.trans hc1
   refine cw_true Z (cw_skip (ew_then (cw_seq (cw_block (cw_region (lw_op Z Z Z (ow_move Z Z (lw_op Z Z Z (ow_move Z Z (lw_op Z Z Z (ow_move Z Z (lw_op Z Z Z (ow_move Z Z ?_)))))))))))))
   have hz1 := ((hl1.trans hl2).trans hl3)
   replace hb3 := bind_some hb3
   obtain ⟨x2, hx2, hb3⟩ := hb3
   refine lw_op Z Z Z (ow_call Z Z Tryd.call109 (w_spec_l20Span (hG.mono hz1) hC3.old (VRep.mono hz1 hxs) ho3 hm2 hx2) fun v5 w4 hv5 => ?_)
   obtain ⟨⟨hv5, ho4⟩, hb4⟩ := hv5
   have hl4 := Le.of_bx M2 hb4 (fun b e => (by rw [show b = g from e]; exact hm2))
   have hC4 := hC3.go hb4 (fun b e => Or.inr e)
   have hr3 := hw1.go hb4 (fun k hk e => (orow_ne hw1 ho3 (by decide)) (hk.trans (congrArg some e))) hl4 (fun _ h => h)
   obtain rfl := open_Span hv5
   refine lw_op Z Z Z (ow_buildSlice (R := RSpan) (xs := [x2.1]) (cs := #[(.int .i64 x2.1.Lo), (.int .i64 x2.1.Hi)]) (e := 76) Z Z (by kernel_rfl) Z Z ⟨_, _, Z, hv5.cells, Z⟩ hC4 fun p2 w5 hw2 hb5 hl5 hC5 => ?_)
   have ho5 := ho4.no hb5
   have hr4 := hr3.no hb5
   replace hb3 := bind_some hb3
   obtain ⟨z1, hz1, hb3⟩ := hb3
   refine lw_op Z Z Z (ow_append (R := RSpan) Z Z Z Z Tryd.underlying58 hi76 hz76 hs76 hy76 Z Z Z Z hr4 hw2 hz1 hC5 fun v6 w6 M3 hr5 hb6 hl6 hC6 hM2 hat2 => ?_)
   have ho6 := ho5.go hb6 (fun e => (orow_ne hr4 ho5 (by decide)) e)
   have hm3 := hM2 _ hm2
   refine lw_op Z Z Z (ow_assign Z Z (lw_nil (ew_blockN (ew_then (cw_region (lw_op Z Z Z (ow_move Z Z (lw_op Z Z Z (ow_sub Z Z Z (lw_op Z Z Z (ow_assign Z Z (lw_nil ?_))))))))))))
   have hz2 := (((hl3.trans hl4).trans hl5).trans hl6)
   exact ew_nxt (z1, (W (k1 - 1)), x2.2) hb3 fun a ha => ⟨M3, v6, (ha.sub ⟨Z, Z, Z, Z, Z, trivial⟩), hz2, hC6, hr5, ho6, hm3⟩
  ·
   obtain rfl := hbb1.trans hc1
   exact cw_false Z (cw_exit (ew_thenX (ew_thenX (ew_blockX (ew_brk (y1, k1, k2) hb3 fun a ha => ⟨M2, v2, (ha.sub ⟨Z, Z, Z, Z, Z, trivial⟩), hl3, hC3, hw1, ho3, hm2⟩)))))
 ·
  rintro ⟨y2, k3, k4⟩ a w7 hlr2 ⟨M4, v7, hF2, hl7, hC7, hw3, ho7, hm4⟩
  subst hlr2
  refine ew_at (E := [(0, (.pointer (some ⟨g, 0, none⟩))), (1, (.int .i64 a_top)), (2, (.int .i64 a_n)), (7, v7), (8, (.int .i64 k3))]) hF2 (ew_then (cw_seq (cw_region (lw_op Z Z Z (ow_move Z Z (lw_op Z Z Z (ow_assign Z Z (lw_nil (ew_then (cw_ret ?_))))))))))
  obtain rfl := Option.some.inj h
  exact ew_ret (res1 Z (.tmp Z)) ⟨_, Z, ⟨(hw3.freezeBack hC7 hO), ho7⟩, hC7.bx⟩

theorem w_spec_l20Set {w : World} {M : Nat → Prop} (hG : ARep (RArr 4 RShape) w M shapes ⟨0, 0, none⟩) (hO : ∀ b, M b → b < w.heap.size) {g : Nat} {Ax : Option Addr} {cx : Nat} {a_xs : List Int} {a_pos : Int} (hxs : VRep (RSlice RU8) w M a_xs (.slice Ax a_xs.length cx)) (hown : Own w g 98 #[.slice Ax a_xs.length cx, .int .i64 a_pos]) (hgM : M g) {a_top : Int} {a_n : Int} {r : ((List Span)) × Int} (h : F.spec_l20Set a_xs a_pos a_top a_n = some r) :
  Calls Tryd.prog 98 [(.pointer (some ⟨g, 0, none⟩)), (.int .i64 a_top), (.int .i64 a_n)].toArray w fun e w' => ∃ v, e = .returned v ∧ (VRep (RSlice RSpan) w' M r.1 v ∧ Own w' g 98 #[.slice Ax a_xs.length cx, .int .i64 r.2]) ∧ BX (One g) w w' := by
 obtain ⟨i76, hi76, hz76, hs76, hy76⟩ := info76
 have hX : ∀ b, (One g) b → M b := fun b e => e ▸ hgM
 have hC : Cx (One g) w M w M := Cx.start hO hX
 refine walk (N := 35) Tryd.func98 Z Tryd.ntmps98 Z (cw_seq (cw_region (lw_op Z Z Z (ow_assign Z Z (lw_nil (ew_then (cw_seq (cw_region (lw_op Z Z Z (ow_move Z Z (lw_op Z Z Z (ow_move Z Z ?_))))))))))))
 replace h := bind_some h
 obtain ⟨x1, hx1, h⟩ := h
 refine lw_op Z Z Z (ow_call Z Z Tryd.call113 (w_spec_l20Raw hG hC.old hxs hown hgM hx1) fun v1 w1 hv1 => ?_)
 obtain ⟨⟨hv1, ho1⟩, hb1⟩ := hv1
 have hl1 := Le.of_bx M hb1 (fun b e => (by rw [show b = g from e]; exact hgM))
 have hC1 := hC.go hb1 (fun b e => Or.inr e)
 refine lw_op Z Z Z (ow_move Z Z ?_)
 replace h := bind_some h
 obtain ⟨x2, hx2, h⟩ := h
 refine lw_op Z Z Z (ow_call Z Z Tryd.call112 (wo_spec_SpansOf (hG.mono hl1) hC1.old hv1 hx2) fun v2 w2 hv2 => ?_)
 obtain ⟨⟨M1, hr1, hk1⟩, hb2⟩ := hv2
 replace hr1 := hr1.base hC1.bx.size
 have hl2 := hk1.le
 have hC2 := hC1.trans hk1
 have ho2 := ho1.no hb2
 have hm1 := hk1.sup _ hgM
 refine lw_op Z Z Z (ow_assign Z Z (lw_nil (ew_then (cw_seq (cw_seq (cw_region (lw_op Z Z Z (ow_move Z Z (lw_op Z Z Z (ow_move Z Z ?_))))))))))
 replace h := bind_some h
 obtain ⟨x3, hx3, h⟩ := h
 refine lw_op Z Z Z (ow_call Z Z Tryd.call92 (w_spec_l20Rd_odd (hG.mono (hl1.trans hl2)) hC2.old (VRep.mono (hl1.trans hl2) hxs) ho2 hm1 hx3) fun v3 w3 hv3 => ?_)
 obtain ⟨⟨hv3, ho3⟩, hb3⟩ := hv3
 have hl3 := Le.of_bx M1 hb3 (fun b e => (by rw [show b = g from e]; exact hm1))
 have hC3 := hC2.go hb3 (fun b e => Or.inr e)
 have hr2 := hr1.go hb3 (fun k hk e => (orow_ne hr1 ho2 (by decide)) (hk.trans (congrArg some e))) hl3 (fun _ h => h)
 obtain ⟨bb1, hbb1, rfl⟩ := vbool_ex hv3
 refine lw_nil (ew_then ?_)
 replace h := cond_some h
 rcases h with ⟨hc1, h⟩ | ⟨hc1, h⟩
 ·
  obtain rfl := hbb1.trans hc1
  refine cw_true Z (cw_seq (cw_region (lw_op Z Z Z (ow_move Z Z ?_))))
  have hz1 := ((hl1.trans hl2).trans hl3)
  replace h := bind_some h
  obtain ⟨x4, hx4, h⟩ := h
  refine lw_op Z Z Z (ow_call Z Z Tryd.call87 (w_spec_l20Rd_pick (hG.mono hz1) hC3.old (VRep.mono hz1 hxs) ho3 hm1 hx4) fun v4 w4 hv4 => ?_)
  obtain ⟨⟨hv4, ho4⟩, hb4⟩ := hv4
  have hl4 := Le.of_bx M1 hb4 (fun b e => (by rw [show b = g from e]; exact hm1))
  have hC4 := hC3.go hb4 (fun b e => Or.inr e)
  have hr3 := hr2.go hb4 (fun k hk e => (orow_ne hr2 ho3 (by decide)) (hk.trans (congrArg some e))) hl4 (fun _ h => h)
  obtain rfl := vint_eq hv4
  refine lw_nil (ew_then (cw_block (cw_seq (cw_region (lw_op Z Z Z (ow_eqlI Z Z Z fun bb2 hbb2 => lw_op Z Z Z (ow_assign Z Z (lw_nil (ew_then ?_)))))))))
  replace h := cond_some h
  rcases h with ⟨hc2, h⟩ | ⟨hc2, h⟩
  ·
   obtain rfl := hbb2.trans hc2
   refine cw_true Z (cw_region (lw_op Z Z Z (ow_move Z Z (lw_op Z Z Z (ow_move Z Z (lw_op Z Z Z (ow_move Z Z ?_)))))))
   replace h := bind_some h
   obtain ⟨x5, hx5, h⟩ := h
   refine lw_op Z Z Z (ow_call Z Z Tryd.call109 (w_spec_l20Span (hG.mono (hz1.trans hl4)) hC4.old (VRep.mono (hz1.trans hl4) hxs) ho4 hm1 hx5) fun v5 w5 hv5 => ?_)
   obtain ⟨⟨hv5, ho5⟩, hb5⟩ := hv5
   have hl5 := Le.of_bx M1 hb5 (fun b e => (by rw [show b = g from e]; exact hm1))
   have hC5 := hC4.go hb5 (fun b e => Or.inr e)
   have hr4 := hr3.go hb5 (fun k hk e => (orow_ne hr3 ho4 (by decide)) (hk.trans (congrArg some e))) hl5 (fun _ h => h)
   obtain rfl := open_Span hv5
   refine lw_op Z Z Z (ow_buildSlice (R := RSpan) (xs := [x5.1]) (cs := #[(.int .i64 x5.1.Lo), (.int .i64 x5.1.Hi)]) (e := 76) Z Z (by kernel_rfl) Z Z ⟨_, _, Z, hv5.cells, Z⟩ hC5 fun p1 w6 hw1 hb6 hl6 hC6 => ?_)
   have ho6 := ho5.no hb6
   have hr5 := hr4.no hb6
   replace h := bind_some h
   obtain ⟨z1, hz1, h⟩ := h
   refine lw_op Z Z Z (ow_append (R := RSpan) Z Z Z Z Tryd.underlying58 hi76 hz76 hs76 hy76 Z Z Z Z hr5 hw1 hz1 hC6 fun v6 w7 M2 hr6 hb7 hl7 hC7 hM1 hat1 => ?_)
   have ho7 := ho6.go hb7 (fun e => (orow_ne hr5 ho6 (by decide)) e)
   refine lw_op Z Z Z (ow_assign Z Z (lw_nil (ew_blockN (ew_then (cw_seq (cw_region (lw_op Z Z Z (ow_move Z Z (lw_op Z Z Z (ow_assign Z Z (lw_nil (ew_then (cw_ret ?_)))))))))))))
   obtain rfl := Option.some.inj h
   exact ew_ret (res1 Z (.tmp Z)) ⟨_, Z, ⟨(hr6.freezeBack hC7 hO), ho7⟩, hC7.bx⟩
  ·
   obtain rfl := hbb2.trans hc2
   refine cw_false Z (cw_seq (cw_region (lw_op Z Z Z (ow_eqlI Z Z Z fun bb3 hbb3 => lw_op Z Z Z (ow_assign Z Z (lw_nil (ew_then ?_)))))))
   replace h := cond_some h
   rcases h with ⟨hc3, h⟩ | ⟨hc3, h⟩
   ·
    obtain rfl := hbb3.trans hc3
    refine cw_true Z (cw_region (lw_op Z Z Z (ow_move Z Z (lw_op Z Z Z (ow_build (v := .agg #[(.int .i64 1), (.int .i64 2)]) Z Z (by kernel_rfl) ?_)))))
    have hw2 : VRep RSpan w4 M1 ({ Lo := 1, Hi := 2 } : Span) (.agg #[(.int .i64 1), (.int .i64 2)]) := shut_Span
    refine lw_op Z Z Z (ow_build (v := .agg #[(.int .i64 3), (.int .i64 3)]) Z Z (by kernel_rfl) ?_)
    have hw3 : VRep RSpan w4 M1 ({ Lo := 3, Hi := 3 } : Span) (.agg #[(.int .i64 3), (.int .i64 3)]) := shut_Span
    refine lw_op Z Z Z (ow_buildSlice (R := RSpan) (xs := [({ Lo := 1, Hi := 2 } : Span), ({ Lo := 3, Hi := 3 } : Span)]) (cs := #[(.int .i64 1), (.int .i64 2), (.int .i64 3), (.int .i64 3)]) (e := 76) Z Z (by kernel_rfl) Z Z ⟨_, _, Z, hw2.cells, _, _, Z, hw3.cells, Z⟩ hC4 fun p2 w8 hw4 hb8 hl8 hC8 => ?_)
    have ho8 := ho4.no hb8
    have hr7 := hr3.no hb8
    replace h := bind_some h
    obtain ⟨z2, hz2, h⟩ := h
    refine lw_op Z Z Z (ow_append (R := RSpan) Z Z Z Z Tryd.underlying58 hi76 hz76 hs76 hy76 Z Z Z Z hr7 hw4 hz2 hC8 fun v7 w9 M3 hr8 hb9 hl9 hC9 hM2 hat2 => ?_)
    have ho9 := ho8.go hb9 (fun e => (orow_ne hr7 ho8 (by decide)) e)
    refine lw_op Z Z Z (ow_assign Z Z (lw_nil (ew_blockN (ew_then (cw_seq (cw_region (lw_op Z Z Z (ow_move Z Z (lw_op Z Z Z (ow_assign Z Z (lw_nil (ew_then (cw_ret ?_)))))))))))))
    obtain rfl := Option.some.inj h
    exact ew_ret (res1 Z (.tmp Z)) ⟨_, Z, ⟨(hr8.freezeBack hC9 hO), ho9⟩, hC9.bx⟩
   ·
    obtain rfl := hbb3.trans hc3
    refine cw_false Z (cw_region ?_)
    replace h := bind_some h
    obtain ⟨mk1, hmk1, h⟩ := h
    refine lw_op Z Z Z (ow_make (R := RSpan) Z Z Z Tryd.underlying58 hi76 hz76 hs76 hy76 Z Z (shut_Span) hmk1 hC4 fun v8 w10 M4 hr9 hb10 hl10 hC10 hM3 hat3 => ?_)
    have ho10 := ho4.no hb10
    refine lw_op Z Z Z (ow_assign Z Z (lw_nil (ew_blockN (ew_then (cw_seq (cw_region (lw_op Z Z Z (ow_move Z Z (lw_op Z Z Z (ow_assign Z Z (lw_nil (ew_then (cw_ret ?_)))))))))))))
    obtain rfl := Option.some.inj h
    exact ew_ret (res1 Z (.tmp Z)) ⟨_, Z, ⟨(hr9.freezeBack hC10 hO), ho10⟩, hC10.bx⟩
 ·
  obtain rfl := hbb1.trans hc1
  refine cw_false Z (cw_skip (ew_then (cw_seq (cw_region (lw_op Z Z Z (ow_move Z Z (lw_op Z Z Z (ow_assign Z Z (lw_nil (ew_then (cw_ret ?_)))))))))))
  obtain rfl := Option.some.inj h
  exact ew_ret (res1 Z (.tmp Z)) ⟨_, Z, ⟨(hr2.freezeBack hC3 hO), ho3⟩, hC3.bx⟩

theorem w_spec_l20Box {w : World} {M : Nat → Prop} (hG : ARep (RArr 4 RShape) w M shapes ⟨0, 0, none⟩) (hO : ∀ b, M b → b < w.heap.size) {g : Nat} {Ax : Option Addr} {cx : Nat} {a_xs : List Int} {a_pos : Int} (hxs : VRep (RSlice RU8) w M a_xs (.slice Ax a_xs.length cx)) (hown : Own w g 98 #[.slice Ax a_xs.length cx, .int .i64 a_pos]) (hgM : M g) {a_n : Int} {r : Box × Int} (h : F.spec_l20Box a_xs a_pos a_n = some r) :
  Calls Tryd.prog 73 [(.pointer (some ⟨g, 0, none⟩)), (.int .i64 a_n)].toArray w fun e w' => ∃ v, e = .returned v ∧ (VRep RBox w' M r.1 v ∧ Own w' g 98 #[.slice Ax a_xs.length cx, .int .i64 r.2]) ∧ BX (One g) w w' := by
 obtain ⟨i58, hi58, hz58, hs58, hy58⟩ := info58
 have hX : ∀ b, (One g) b → M b := fun b e => e ▸ hgM
 have hC : Cx (One g) w M w M := Cx.start hO hX
 refine walk (N := 48) Tryd.func73 Z Tryd.ntmps73 Z (cw_seq (cw_region (lw_op Z Z Z (ow_alloc Z (Tryd.zeroValue27 _) hC fun g1 w1 hg1 hg2 ho1 hb1 hl1 hC1 => ?_))))
 have hn1 := Nat.ne_of_lt (Nat.lt_of_lt_of_le hown.lt hg1)
 have ho2 := hown.no hb1
 have hm1 : (Add g1 M) g := .inr hgM
 have hm2 : (Add g1 M) g1 := .inl Z
 refine lw_nil (ew_then (cw_seq (cw_region (lw_op Z Z Z (ow_move Z Z ?_)))))
 replace h := bind_some h
 obtain ⟨x1, hx1, h⟩ := h
 refine lw_op Z Z Z (ow_call Z Z Tryd.call53 (w_spec_l20Tests (hG.mono hl1) hC1.old (VRep.mono hl1 hxs) ho2 hm1 hx1) fun v1 w2 hv1 => ?_)
 obtain ⟨⟨hv1, ho3⟩, hb2⟩ := hv1
 have hl2 := Le.of_bx (Add g1 M) hb2 (fun b e => (by rw [show b = g from e]; exact hm1))
 have hC2 := hC1.go hb2 (fun b e => Or.inr e)
 have ho4 := ho1.go hb2 (fun e => hn1 e.symm)
 replace h := bind_some h
 obtain ⟨x2, hx2, h⟩ := h
 refine lw_op Z Z Z (ow_call Z Z Tryd.call18 (wo_spec_TestsBox (hG.mono (hl1.trans hl2)) hC2.old hv1 hx2) fun v2 w3 hv2 => ?_)
 obtain ⟨⟨M1, v3, rfl, hr1, hk1⟩, hb3⟩ := hv2
 replace hr1 := hr1.base hC2.bx.size
 have hl3 := hk1.le
 have hC3 := hC2.trans hk1
 have ho5 := ho3.no hb3
 have hm3 := hk1.sup _ hm1
 have ho6 := ho4.no hb3
 have hm4 := hk1.sup _ hm2
 obtain ⟨A1, c1, rfl⟩ := hr1.len
 refine lw_op Z Z Z (ow_alloc Z (Tryd.zeroValue27 _) hC3 fun g2 w4 hg3 hg4 ho7 hb4 hl4 hC4 => ?_)
 have hn2 := Nat.ne_of_lt (Nat.lt_of_lt_of_le ho5.lt hg3)
 have ho8 := ho5.no hb4
 have hm5 : (Add g2 M1) g := .inr hm3
 have hn3 := Nat.ne_of_lt (Nat.lt_of_lt_of_le ho6.lt hg3)
 have ho9 := ho6.no hb4
 have hm6 : (Add g2 M1) g1 := .inr hm4
 have hr2 := hr1.add hb4 hg3
 have hm7 : (Add g2 M1) g2 := .inl Z
 refine lw_op0 Z Z (ow_store (X := (One g)) (us := [(.slice A1 x2.Sides.length c1)]) (cs' := #[(.slice A1 x2.Sides.length c1)]) Z Z Z Z ho7 (Tryd.sizeOf27 _) Z Z Z Z hm7 (.inl hg4) Z hC4 fun w5 ho10 hb5 hl5 hC5 => ?_)
 have ho11 := ho8.go hb5 (fun e => hn2 e)
 have ho12 := ho9.go hb5 (fun e => hn3 e)
 have hr3 := hr2.go hb5 (fun k hk e => (orow_ne hr2 ho7 (by decide)) (hk.trans (congrArg some e))) hl5 (fun _ h => h)
 refine lw_nil (ew_then (cw_seq (cw_seq (cw_region (lw_op Z Z Z (ow_move Z Z ?_))))))
 have hz1 := ((((hl1.trans hl2).trans hl3).trans hl4).trans hl5)
 replace h := bind_some h
 obtain ⟨x3, hx3, h⟩ := h
 refine lw_op Z Z Z (ow_call Z Z Tryd.call87 (w_spec_l20Rd_pick (hG.mono hz1) hC5.old (VRep.mono hz1 hxs) ho11 hm5 hx3) fun v4 w6 hv4 => ?_)
 obtain ⟨⟨hv4, ho13⟩, hb6⟩ := hv4
 have hl6 := Le.of_bx (Add g2 M1) hb6 (fun b e => (by rw [show b = g from e]; exact hm5))
 have hC6 := hC5.go hb6 (fun b e => Or.inr e)
 have ho14 := ho12.go hb6 (fun e => hn1 e.symm)
 have ho15 := ho10.go hb6 (fun e => hn2 e.symm)
 have hr4 := hr3.go hb6 (fun k hk e => (orow_ne hr3 ho11 (by decide)) (hk.trans (congrArg some e))) hl6 (fun _ h => h)
 obtain rfl := vint_eq hv4
 refine lw_op Z Z Z (ow_eqlI Z Z Z fun bb1 hbb1 => lw_nil (ew_then ?_))
 replace h := cond_some h
 rcases h with ⟨hc1, h⟩ | ⟨hc1, h⟩
 ·
  obtain rfl := hbb1.trans hc1
  refine cw_true Z (cw_seq (cw_region (lw_op Z Z Z (ow_move Z Z ?_))))
  replace h := bind_some h
  obtain ⟨x4, hx4, h⟩ := h
  refine lw_op Z Z Z (ow_call Z Z Tryd.call87 (w_spec_l20Rd_pick (hG.mono (hz1.trans hl6)) hC6.old (VRep.mono (hz1.trans hl6) hxs) ho13 hm5 hx4) fun v5 w7 hv5 => ?_)
  obtain ⟨⟨hv5, ho16⟩, hb7⟩ := hv5
  have hl7 := Le.of_bx (Add g2 M1) hb7 (fun b e => (by rw [show b = g from e]; exact hm5))
  have hC7 := hC6.go hb7 (fun b e => Or.inr e)
  have ho17 := ho14.go hb7 (fun e => hn1 e.symm)
  have ho18 := ho15.go hb7 (fun e => hn2 e.symm)
  have hr5 := hr4.go hb7 (fun k hk e => (orow_ne hr4 ho13 (by decide)) (hk.trans (congrArg some e))) hl7 (fun _ h => h)
  obtain rfl := vint_eq hv5
  refine lw_op Z Z Z (ow_assign Z Z (lw_nil (ew_then ?_)))
  replace h := bind_some h
  obtain ⟨x5, hx5, h⟩ := h
  replace h := bind_some h
  obtain ⟨x6, hx6, h⟩ := h
  have hz2 := ((hz1.trans hl6).trans hl7)
  refine cw_sub (E' := [(0, (.pointer (some ⟨g, 0, none⟩))), (1, (.int .i64 a_n)), (4, (.pointer (some ⟨g1, 0, none⟩))), (5, (.pointer (some ⟨g2, 0, none⟩))), (6, (.int .i64 x4.1))]) ⟨Z, Z, Z, Z, Z, trivial⟩ (cw_drawC (g := g) (T := 98) 7 1 [none, none, none, none, none, none, some 0] [#[(.slice Ax a_xs.length cx), (.int .i64 x4.2)], #[(.slice Ax a_xs.length cx), (.int .i64 x6.2)]] [PEq (.pointer (some ⟨g2, 0, none⟩)), PEq (.slice A1 x2.Sides.length c1), PEq (.int .i64 x4.1), PEq (.pointer (some ⟨g, 0, none⟩)), PEq (.int .i64 x4.1), PEq (.int .i64 x5), PV (RSlice RSpan) (Add g2 M1) x6.1] (by kernel_rfl) Z (by kernel_rfl) (by kernel_rfl) ho16 ⟨(PEq.monoY hm5 _), (PEq.monoY hm5 _), (PEq.monoY hm5 _), (PEq.monoY hm5 _), (PEq.monoY hm5 _), (PEq.monoY hm5 _), (PV.monoY hm5 _ _), trivial⟩ ⟨?_, ?_, ?_, ?_, ?_, ?_, ?_, trivial⟩ ?_)
  ·
   intro w10 D hS1 hd1
   exact dg_sub (E' := [(5, (.pointer (some ⟨g2, 0, none⟩)))]) ⟨Z, trivial⟩ (dg_plain Z (ow_fieldAddr Z Z Tryd.underlying27 Z (Tryd.sizeOf25 _) ⟨BX.refl _ _, Z⟩))
  ·
   intro w11 D hS2 hd2
   have ho28 := ho18.go hS2 (fun e => hn2 e.symm)
   exact dg_sub (E' := [(15, (.pointer (some ⟨g2, 0, none⟩)))]) ⟨(dpE hd2 0 Z Z), trivial⟩ (dg_plain Z (ow_loadOwn1 Z Z Z ho28 (Tryd.isAgg25 _) Z ⟨BX.refl _ _, Z⟩))
  ·
   intro w12 D hS3 hd3
   exact dg_sub (E' := [(6, (.int .i64 x4.1))]) ⟨Z, trivial⟩ (dg_plain Z (ow_move Z Z ⟨BX.refl _ _, Z⟩))
  ·
   intro w13 D hS4 hd4
   exact dg_sub (E' := [(0, (.pointer (some ⟨g, 0, none⟩)))]) ⟨Z, trivial⟩ (dg_plain Z (ow_move Z Z ⟨BX.refl _ _, Z⟩))
  ·
   intro w14 D hS5 hd5
   exact dg_sub (E' := [(6, (.int .i64 x4.1))]) ⟨Z, trivial⟩ (dg_plain Z (ow_move Z Z ⟨BX.refl _ _, Z⟩))
  ·
   intro w15 D hS6 hd6
   have hl15 := leY hm5 hS6
   have hC15 := hC7.go hS6 (fun b e => Or.inr e)
   refine dg_sub (E' := [(19, (.int .i64 x4.1))]) ⟨(dpE hd6 4 Z Z), trivial⟩ (dg_plain Z (ow_call Z Z Tryd.call81 (w_spec_FieldTop (hG.mono (hz2.trans hl15)) hC15.old hx5) fun v8 w16 hv8 => ?_))
   obtain ⟨hv8, hb10⟩ := hv8
   obtain rfl := vint_eq hv8
   exact ⟨hb10, Z⟩
  ·
   intro w17 D hS7 hd7
   obtain ⟨hS7, ho39⟩ := hS7
   have ho39 : Own w17 g 98 #[(.slice Ax a_xs.length cx), (.int .i64 x4.2)] := ho39
   have hl17 := leY hm5 hS7
   have hC17 := hC7.go hS7 (fun b e => Or.inr e)
   refine dg_sub (E' := [(18, (.pointer (some ⟨g, 0, none⟩))), (20, (.int .i64 x5))]) ⟨(dpE hd7 3 Z Z), (dpE hd7 5 Z Z), trivial⟩ (dg_plain Z (ow_call Z Z Tryd.call98 (w_spec_l20Set (hG.mono (hz2.trans hl17)) hC17.old (VRep.mono (hz2.trans hl17) hxs) ho39 hm5 hx6) fun v9 w18 hv9 => ?_))
   obtain ⟨⟨hv9, ho42⟩, hb11⟩ := hv9
   exact ⟨⟨⟨hS7.trans hb11, ho42⟩, hb11⟩, hv9⟩
  ·
   intro w19 D hS8 hd8
   have d12 : PV (RSlice RSpan) (Add g2 M1) x6.1 (D 6) w19 := dpA hd8 6 Z
   obtain ⟨hS8, ho45⟩ := hS8
   have ho45 : Own w19 g 98 #[(.slice Ax a_xs.length cx), (.int .i64 x6.2)] := ho45
   have hl19 := leY hm5 hS8
   have hC19 := hC7.go hS8 (fun b e => Or.inr e)
   have ho46 := ho17.go hS8 (fun e => hn1 e.symm)
   have ho47 := ho18.go hS8 (fun e => hn2 e.symm)
   have hr17 := hr5.go hS8 (fun k hk e => (orow_ne hr5 ho16 (by decide)) (hk.trans (congrArg some e))) hl19 (fun _ h => h)
   generalize hq1 : (D 6) = v10 at d12
   refine lw_sub (E' := [(16, (.slice A1 x2.Sides.length c1)), (17, (.int .i64 x4.1)), (21, v10), (0, (.pointer (some ⟨g, 0, none⟩))), (1, (.int .i64 a_n)), (4, (.pointer (some ⟨g1, 0, none⟩))), (5, (.pointer (some ⟨g2, 0, none⟩))), (6, (.int .i64 x4.1))]) ⟨(dpE hd8 1 Z Z), (dpE hd8 2 Z Z), (congrArg some hq1), Z, Z, Z, Z, Z, trivial⟩ ?_
   replace h := bind_some h
   obtain ⟨x7, hx7, h⟩ := h
   refine lw_op Z Z Z (ow_indexRow (R := (RSlice RSpan)) Z Z Z hr17 Tryd.underlying25 (Tryd.sizeOf58 _) hx7 (lw_op0 Z Z (ow_storeElRow (X := (One g)) (R := (RSlice RSpan)) (S := (RSlice RSpan)) Z Z Z Z hr17 (orow_blk hr17 hx7) hx7 (FldSet.whole (RSlice RSpan)) (Tryd.sizeOf58 _) d12 (Nat.le_refl _) hC19 fun w20 ho48 hb12 hl20 hC20 => ?_)))
   have ho49 := ho45.go hb12 (fun e => (orow_ne hr17 ho45 (by decide)) (by rw [orow_blk hr17 hx7]; exact congrArg some e.symm))
   have ho50 := ho46.go hb12 (fun e => (orow_ne hr17 ho46 (by decide)) (by rw [orow_blk hr17 hx7]; exact congrArg some e.symm))
   have ho51 := ho47.go hb12 (fun e => (orow_ne hr17 ho47 (by decide)) (by rw [orow_blk hr17 hx7]; exact congrArg some e.symm))
   refine lw_nil (ew_then (cw_seq (cw_seq (cw_region (lw_op Z Z Z (ow_move Z Z (lw_op Z Z Z (ow_move Z Z ?_))))))))
   have hz4 := ((hz2.trans hl19).trans hl20)
   replace h := bind_some h
   obtain ⟨x8, hx8, h⟩ := h
   refine lw_op Z Z Z (ow_call Z Z Tryd.call92 (w_spec_l20Rd_odd (hG.mono hz4) hC20.old (VRep.mono hz4 hxs) ho49 hm5 hx8) fun v11 w21 hv11 => ?_)
   obtain ⟨⟨hv11, ho52⟩, hb13⟩ := hv11
   have hl21 := Le.of_bx (Add g2 M1) hb13 (fun b e => (by rw [show b = g from e]; exact hm5))
   have hC21 := hC20.go hb13 (fun b e => Or.inr e)
   have ho53 := ho50.go hb13 (fun e => hn1 e.symm)
   have ho54 := ho51.go hb13 (fun e => hn2 e.symm)
   have hr18 := ho48.go hb13 (fun k hk e => (orow_ne ho48 ho49 (by decide)) (hk.trans (congrArg some e))) hl21 (fun _ h => h)
   obtain ⟨bb2, hbb2, rfl⟩ := vbool_ex hv11
   refine lw_nil (ew_then ?_)
   replace h := cond_some h
   rcases h with ⟨hc2, h⟩ | ⟨hc2, h⟩
   ·
    obtain rfl := hbb2.trans hc2
    refine cw_true Z (cw_seq (cw_region (lw_op Z Z Z (ow_move Z Z ?_))))
    replace h := bind_some h
    obtain ⟨x9, hx9, h⟩ := h
    refine lw_op Z Z Z (ow_call Z Z Tryd.call87 (w_spec_l20Rd_pick (hG.mono (hz4.trans hl21)) hC21.old (VRep.mono (hz4.trans hl21) hxs) ho52 hm5 hx9) fun v12 w22 hv12 => ?_)
    obtain ⟨⟨hv12, ho55⟩, hb14⟩ := hv12
    have hl22 := Le.of_bx (Add g2 M1) hb14 (fun b e => (by rw [show b = g from e]; exact hm5))
    have hC22 := hC21.go hb14 (fun b e => Or.inr e)
    have ho56 := ho53.go hb14 (fun e => hn1 e.symm)
    have ho57 := ho54.go hb14 (fun e => hn2 e.symm)
    have hr19 := hr18.go hb14 (fun k hk e => (orow_ne hr18 ho52 (by decide)) (hk.trans (congrArg some e))) hl22 (fun _ h => h)
    obtain rfl := vint_eq hv12
    refine lw_nil (ew_then (cw_block (cw_seq (cw_region (lw_op Z Z Z (ow_eqlI Z Z Z fun bb3 hbb3 => lw_op Z Z Z (ow_assign Z Z (lw_nil (ew_then ?_)))))))))
    replace h := cond_some h
    rcases h with ⟨hc3, h⟩ | ⟨hc3, h⟩
    ·
     obtain rfl := hbb3.trans hc3
     refine cw_true Z (cw_region (lw_op Z Z Z (ow_fieldAddr Z Z Tryd.underlying27 Z (Tryd.sizeOf25 _) (lw_op Z Z Z (ow_loadOwn1 Z Z Z ho57 (Tryd.isAgg25 _) Z ?_)))))
     have hw1 := hr19.freezeDel
     have hC23 := hr19.cxDel hC22 hX hO
     have hm9 : (Del (.slice A1 x2.Sides.length c1) (Add g2 M1)) g1 := ⟨hm6, fun e => (orow_ne hr19 ho56 (by decide)) e⟩
     have hm10 : (Del (.slice A1 x2.Sides.length c1) (Add g2 M1)) g2 := ⟨hm7, fun e => (orow_ne hr19 ho57 (by decide)) e⟩
     replace h := bind_some h
     obtain ⟨y1, hy1, h⟩ := h
     refine lw_op Z Z Z (ow_sliceFrom (R := (RSlice RSpan)) Z Z Z hw1 Tryd.underlying25 (Tryd.sizeOf58 _) (dropF_some hy1).2 fun v13 hv13 => ?_)
     rw [← (dropF_some hy1).1] at hv13
     refine lw_op Z Z Z (ow_fieldAddr Z Z Tryd.underlying27 Z (Tryd.sizeOf25 _) ?_)
     obtain ⟨A2, c2, rfl, -⟩ := vslice_shape hv13
     refine lw_op0 Z Z (ow_store (X := (One g)) (us := [(.slice A2 y1.length c2)]) (cs' := #[(.slice A2 y1.length c2)]) Z Z Z Z ho57 (Tryd.sizeOf25 _) Z Z Z Z hm10 (.inl hg4) Z hC23 fun w23 ho58 hb15 hl24 hC24 => ?_)
     have ho59 := ho55.go hb15 (fun e => hn2 e)
     have ho60 := ho56.go hb15 (fun e => hn3 e)
     refine lw_nil (ew_blockN (ew_then (cw_seq (cw_region (lw_op Z Z Z (ow_loadOwnA Z Z Z ho58 (Tryd.isAgg27 _) (Tryd.sizeOf27 _) Z (lw_op0 Z Z (ow_store (X := (One g)) (us := [(.slice A2 y1.length c2)]) (cs' := #[(.slice A2 y1.length c2)]) Z Z Z Z ho60 (Tryd.sizeOf27 _) Z Z Z Z hm9 (.inl hg2) Z hC24 fun w24 ho61 hb16 hl25 hC25 => ?_))))))))
     have ho62 := ho59.go hb16 (fun e => hn1 e)
     refine lw_nil (ew_then (cw_ret ?_))
     have hw3 : VRep RBox w24 (Del (.slice A1 x2.Sides.length c1) (Add g2 M1)) ({ Sides := y1 } : Box) (.agg #[(.slice A2 y1.length c2)]) := shut_Box (VRep.mono (hl24.trans hl25) hv13)
     obtain rfl := Option.some.inj h
     exact ew_ret (res1 Z (.cell Z (own_loadVarA ho61 (Tryd.isAgg27 _) (Tryd.sizeOf27 _) Z))) ⟨_, Z, ⟨(hw3.mono hC25.back), ho62⟩, hC25.bx⟩
    ·
     obtain rfl := hbb3.trans hc3
     refine cw_false Z (cw_seq (cw_region (lw_op Z Z Z (ow_eqlI Z Z Z fun bb4 hbb4 => lw_op Z Z Z (ow_assign Z Z (lw_nil (ew_then ?_)))))))
     replace h := cond_some h
     rcases h with ⟨hc4, h⟩ | ⟨hc4, h⟩
     ·
      obtain rfl := hbb4.trans hc4
      refine cw_true Z (cw_region (lw_op Z Z Z (ow_fieldAddr Z Z Tryd.underlying27 Z (Tryd.sizeOf25 _) (lw_op Z Z Z (ow_loadOwn1 Z Z Z ho57 (Tryd.isAgg25 _) Z (lw_op Z Z Z (ow_build (v := .agg #[(.int .i64 0), (.int .i64 8)]) Z Z (by kernel_rfl) ?_)))))))
      have hw4 : VRep RSpan w22 (Add g2 M1) ({ Lo := 0, Hi := 8 } : Span) (.agg #[(.int .i64 0), (.int .i64 8)]) := shut_Span
      refine lw_op Z Z Z (ow_buildSlice (R := RSpan) (xs := [({ Lo := 0, Hi := 8 } : Span)]) (cs := #[(.int .i64 0), (.int .i64 8)]) (e := 76) Z Z (by kernel_rfl) Z Z ⟨_, _, Z, hw4.cells, Z⟩ hC22 fun p1 w25 hw5 hb17 hl26 hC26 => ?_)
      have ho64 := ho55.no hb17
      have ho65 := ho56.no hb17
      have ho66 := ho57.no hb17
      have hr20 := hr19.no hb17
      replace h := bind_some h
      obtain ⟨x10, hx10, h⟩ := h
      refine lw_op Z Z Z (ow_indexRow (R := (RSlice RSpan)) Z Z Z hr20 Tryd.underlying25 (Tryd.sizeOf58 _) hx10 (lw_op0 Z Z (ow_storeElRow (X := (One g)) (R := (RSlice RSpan)) (S := (RSlice RSpan)) Z Z Z Z hr20 (orow_blk hr20 hx10) hx10 (FldSet.whole (RSlice RSpan)) (Tryd.sizeOf58 _) hw5 (Nat.le_refl _) hC26 fun w26 ho67 hb18 hl27 hC27 => ?_)))
      have ho68 := ho64.go hb18 (fun e => (orow_ne hr20 ho64 (by decide)) (by rw [orow_blk hr20 hx10]; exact congrArg some e.symm))
      have ho69 := ho65.go hb18 (fun e => (orow_ne hr20 ho65 (by decide)) (by rw [orow_blk hr20 hx10]; exact congrArg some e.symm))
      have ho70 := ho66.go hb18 (fun e => (orow_ne hr20 ho66 (by decide)) (by rw [orow_blk hr20 hx10]; exact congrArg some e.symm))
      refine lw_nil (ew_blockN (ew_then (cw_seq (cw_region (lw_op Z Z Z (ow_loadOwnA Z Z Z ho70 (Tryd.isAgg27 _) (Tryd.sizeOf27 _) Z ?_))))))
      have hw6 := ho67.freezeDel
      have hC28 := ho67.cxDel hC27 hX hO
      have hm12 : (Del (.slice A1 x2.Sides.length c1) (Add g2 M1)) g1 := ⟨hm6, fun e => (orow_ne ho67 ho69 (by decide)) e⟩
      refine lw_op0 Z Z (ow_store (X := (One g)) (us := [(.slice A1 x2.Sides.length c1)]) (cs' := #[(.slice A1 x2.Sides.length c1)]) Z Z Z Z ho69 (Tryd.sizeOf27 _) Z Z Z Z hm12 (.inl hg2) Z hC28 fun w27 ho71 hb19 hl29 hC29 => ?_)
      have ho72 := ho68.go hb19 (fun e => hn1 e)
      refine lw_nil (ew_then (cw_ret ?_))
      have hw8 : VRep RBox w27 (Del (.slice A1 x2.Sides.length c1) (Add g2 M1)) ({ Sides := (List.set (List.set x2.Sides (x4.1 : Int).toNat x6.1) (3 : Int).toNat [({ Lo := 0, Hi := 8 } : Span)]) } : Box) (.agg #[(.slice A1 x2.Sides.length c1)]) := shut_Box (VRep.mono hl29 hw6)
      obtain rfl := Option.some.inj h
      exact ew_ret (res1 Z (.cell Z (own_loadVarA ho71 (Tryd.isAgg27 _) (Tryd.sizeOf27 _) Z))) ⟨_, Z, ⟨(hw8.mono hC29.back), ho72⟩, hC29.bx⟩
     ·
      obtain rfl := hbb4.trans hc4
      refine cw_false Z (cw_region (lw_op Z Z Z (ow_fieldAddr Z Z Tryd.underlying27 Z (Tryd.sizeOf25 _) (lw_op Z Z Z (ow_loadOwn1 Z Z Z ho57 (Tryd.isAgg25 _) Z (lw_op Z Z Z (ow_buildSlice0I (R := RSpan) (e := 76) Z (by kernel_rfl) hC22 fun p2 w28 hw9 hb20 hl30 hC30 => ?_)))))))
      have ho74 := ho55.no hb20
      have ho75 := ho56.no hb20
      have ho76 := ho57.no hb20
      have hr21 := hr19.no hb20
      refine lw_op Z Z Z (ow_buildSlice (R := (RSlice RSpan)) (xs := [([] : List Span)]) (cs := #[(.slice (some p2) 0 0)]) (e := 58) Z Z (by kernel_rfl) Z Z ⟨_, _, Z, hw9.cells, Z⟩ hC30 fun p3 w29 hw10 hb21 hl31 hC31 => ?_)
      have ho77 := ho74.no hb21
      have ho78 := ho75.no hb21
      have ho79 := ho76.no hb21
      have hr22 := hr21.no hb21
      replace h := bind_some h
      obtain ⟨z1, hz1, h⟩ := h
      refine lw_op Z Z Z (ow_append (R := (RSlice RSpan)) Z Z Z Z Tryd.underlying25 hi58 hz58 hs58 hy58 Z Z Z Z hr22 hw10 hz1 hC31 fun v14 w30 M2 hr23 hb22 hl32 hC32 hM1 hat1 => ?_)
      have ho80 := ho77.go hb22 (fun e => (orow_ne hr22 ho77 (by decide)) e)
      have ho81 := ho78.go hb22 (fun e => (orow_ne hr22 ho78 (by decide)) e)
      have hm15 := hM1 _ hm6
      have ho82 := ho79.go hb22 (fun e => (orow_ne hr22 ho79 (by decide)) e)
      have hm16 := hM1 _ hm7
      refine lw_op Z Z Z (ow_fieldAddr Z Z Tryd.underlying27 Z (Tryd.sizeOf25 _) ?_)
      obtain ⟨A3, c3, rfl⟩ := hr23.len
      refine lw_op0 Z Z (ow_store (X := (One g)) (us := [(.slice A3 z1.length c3)]) (cs' := #[(.slice A3 z1.length c3)]) Z Z Z Z ho82 (Tryd.sizeOf25 _) Z Z Z Z hm16 (.inl hg4) Z hC32 fun w31 ho83 hb23 hl33 hC33 => ?_)
      have ho84 := ho80.go hb23 (fun e => hn2 e)
      have ho85 := ho81.go hb23 (fun e => hn3 e)
      have hr24 := hr23.go hb23 (fun k hk e => (orow_ne hr23 ho82 (by decide)) (hk.trans (congrArg some e))) hl33 (fun _ h => h)
      refine lw_nil (ew_blockN (ew_then (cw_seq (cw_region (lw_op Z Z Z (ow_loadOwnA Z Z Z ho83 (Tryd.isAgg27 _) (Tryd.sizeOf27 _) Z ?_))))))
      have hw11 := hr24.freezeDel
      have hC34 := hr24.cxDel hC33 hX hO
      have hm18 : (Del (.slice A3 z1.length c3) M2) g1 := ⟨hm15, fun e => (orow_ne hr24 ho85 (by decide)) e⟩
      refine lw_op0 Z Z (ow_store (X := (One g)) (us := [(.slice A3 z1.length c3)]) (cs' := #[(.slice A3 z1.length c3)]) Z Z Z Z ho85 (Tryd.sizeOf27 _) Z Z Z Z hm18 (.inl hg2) Z hC34 fun w32 ho86 hb24 hl35 hC35 => ?_)
      have ho87 := ho84.go hb24 (fun e => hn1 e)
      refine lw_nil (ew_then (cw_ret ?_))
      have hw13 : VRep RBox w32 (Del (.slice A3 z1.length c3) M2) ({ Sides := z1 } : Box) (.agg #[(.slice A3 z1.length c3)]) := shut_Box (VRep.mono hl35 hw11)
      obtain rfl := Option.some.inj h
      exact ew_ret (res1 Z (.cell Z (own_loadVarA ho86 (Tryd.isAgg27 _) (Tryd.sizeOf27 _) Z))) ⟨_, Z, ⟨(hw13.mono hC35.back), ho87⟩, hC35.bx⟩
   ·
    obtain rfl := hbb2.trans hc2
    refine cw_false Z (cw_skip (ew_then (cw_seq (cw_region (lw_op Z Z Z (ow_loadOwnA Z Z Z ho54 (Tryd.isAgg27 _) (Tryd.sizeOf27 _) Z ?_))))))
    have hw14 := hr18.freezeDel
    have hC36 := hr18.cxDel hC21 hX hO
    have hm21 : (Del (.slice A1 x2.Sides.length c1) (Add g2 M1)) g1 := ⟨hm6, fun e => (orow_ne hr18 ho53 (by decide)) e⟩
    refine lw_op0 Z Z (ow_store (X := (One g)) (us := [(.slice A1 x2.Sides.length c1)]) (cs' := #[(.slice A1 x2.Sides.length c1)]) Z Z Z Z ho53 (Tryd.sizeOf27 _) Z Z Z Z hm21 (.inl hg2) Z hC36 fun w33 ho89 hb25 hl37 hC37 => ?_)
    have ho90 := ho52.go hb25 (fun e => hn1 e)
    refine lw_nil (ew_then (cw_ret ?_))
    have hw16 : VRep RBox w33 (Del (.slice A1 x2.Sides.length c1) (Add g2 M1)) ({ Sides := (List.set x2.Sides (x4.1 : Int).toNat x6.1) } : Box) (.agg #[(.slice A1 x2.Sides.length c1)]) := shut_Box (VRep.mono hl37 hw14)
    obtain rfl := Option.some.inj h
    exact ew_ret (res1 Z (.cell Z (own_loadVarA ho89 (Tryd.isAgg27 _) (Tryd.sizeOf27 _) Z))) ⟨_, Z, ⟨(hw16.mono hC37.back), ho90⟩, hC37.bx⟩
 ·
  obtain rfl := hbb1.trans hc1
  refine cw_false Z (cw_skip (ew_then (cw_seq (cw_seq (cw_region (lw_op Z Z Z (ow_move Z Z (lw_op Z Z Z (ow_move Z Z ?_)))))))))
  replace h := bind_some h
  obtain ⟨x11, hx11, h⟩ := h
  refine lw_op Z Z Z (ow_call Z Z Tryd.call92 (w_spec_l20Rd_odd (hG.mono (hz1.trans hl6)) hC6.old (VRep.mono (hz1.trans hl6) hxs) ho13 hm5 hx11) fun v15 w34 hv15 => ?_)
  obtain ⟨⟨hv15, ho92⟩, hb26⟩ := hv15
  have hl38 := Le.of_bx (Add g2 M1) hb26 (fun b e => (by rw [show b = g from e]; exact hm5))
  have hC38 := hC6.go hb26 (fun b e => Or.inr e)
  have ho93 := ho14.go hb26 (fun e => hn1 e.symm)
  have ho94 := ho15.go hb26 (fun e => hn2 e.symm)
  have hr25 := hr4.go hb26 (fun k hk e => (orow_ne hr4 ho13 (by decide)) (hk.trans (congrArg some e))) hl38 (fun _ h => h)
  obtain ⟨bb5, hbb5, rfl⟩ := vbool_ex hv15
  refine lw_nil (ew_then ?_)
  replace h := cond_some h
  rcases h with ⟨hc5, h⟩ | ⟨hc5, h⟩
  ·
   obtain rfl := hbb5.trans hc5
   refine cw_true Z (cw_seq (cw_region (lw_op Z Z Z (ow_move Z Z ?_))))
   have hz5 := ((hz1.trans hl6).trans hl38)
   replace h := bind_some h
   obtain ⟨x12, hx12, h⟩ := h
   refine lw_op Z Z Z (ow_call Z Z Tryd.call87 (w_spec_l20Rd_pick (hG.mono hz5) hC38.old (VRep.mono hz5 hxs) ho92 hm5 hx12) fun v16 w35 hv16 => ?_)
   obtain ⟨⟨hv16, ho95⟩, hb27⟩ := hv16
   have hl39 := Le.of_bx (Add g2 M1) hb27 (fun b e => (by rw [show b = g from e]; exact hm5))
   have hC39 := hC38.go hb27 (fun b e => Or.inr e)
   have ho96 := ho93.go hb27 (fun e => hn1 e.symm)
   have ho97 := ho94.go hb27 (fun e => hn2 e.symm)
   have hr26 := hr25.go hb27 (fun k hk e => (orow_ne hr25 ho92 (by decide)) (hk.trans (congrArg some e))) hl39 (fun _ h => h)
   obtain rfl := vint_eq hv16
   refine lw_nil (ew_then (cw_block (cw_seq (cw_region (lw_op Z Z Z (ow_eqlI Z Z Z fun bb6 hbb6 => lw_op Z Z Z (ow_assign Z Z (lw_nil (ew_then ?_)))))))))
   replace h := cond_some h
   rcases h with ⟨hc6, h⟩ | ⟨hc6, h⟩
   ·
    obtain rfl := hbb6.trans hc6
    refine cw_true Z (cw_region (lw_op Z Z Z (ow_fieldAddr Z Z Tryd.underlying27 Z (Tryd.sizeOf25 _) (lw_op Z Z Z (ow_loadOwn1 Z Z Z ho97 (Tryd.isAgg25 _) Z ?_)))))
    have hw17 := hr26.freezeDel
    have hC40 := hr26.cxDel hC39 hX hO
    have hm24 : (Del (.slice A1 x2.Sides.length c1) (Add g2 M1)) g1 := ⟨hm6, fun e => (orow_ne hr26 ho96 (by decide)) e⟩
    have hm25 : (Del (.slice A1 x2.Sides.length c1) (Add g2 M1)) g2 := ⟨hm7, fun e => (orow_ne hr26 ho97 (by decide)) e⟩
    replace h := bind_some h
    obtain ⟨y2, hy2, h⟩ := h
    refine lw_op Z Z Z (ow_sliceFrom (R := (RSlice RSpan)) Z Z Z hw17 Tryd.underlying25 (Tryd.sizeOf58 _) (dropF_some hy2).2 fun v17 hv17 => ?_)
    rw [← (dropF_some hy2).1] at hv17
    refine lw_op Z Z Z (ow_fieldAddr Z Z Tryd.underlying27 Z (Tryd.sizeOf25 _) ?_)
    obtain ⟨A4, c4, rfl, -⟩ := vslice_shape hv17
    refine lw_op0 Z Z (ow_store (X := (One g)) (us := [(.slice A4 y2.length c4)]) (cs' := #[(.slice A4 y2.length c4)]) Z Z Z Z ho97 (Tryd.sizeOf25 _) Z Z Z Z hm25 (.inl hg4) Z hC40 fun w36 ho98 hb28 hl41 hC41 => ?_)
    have ho99 := ho95.go hb28 (fun e => hn2 e)
    have ho100 := ho96.go hb28 (fun e => hn3 e)
    refine lw_nil (ew_blockN (ew_then (cw_seq (cw_region (lw_op Z Z Z (ow_loadOwnA Z Z Z ho98 (Tryd.isAgg27 _) (Tryd.sizeOf27 _) Z (lw_op0 Z Z (ow_store (X := (One g)) (us := [(.slice A4 y2.length c4)]) (cs' := #[(.slice A4 y2.length c4)]) Z Z Z Z ho100 (Tryd.sizeOf27 _) Z Z Z Z hm24 (.inl hg2) Z hC41 fun w37 ho101 hb29 hl42 hC42 => ?_))))))))
    have ho102 := ho99.go hb29 (fun e => hn1 e)
    refine lw_nil (ew_then (cw_ret ?_))
    have hw19 : VRep RBox w37 (Del (.slice A1 x2.Sides.length c1) (Add g2 M1)) ({ Sides := y2 } : Box) (.agg #[(.slice A4 y2.length c4)]) := shut_Box (VRep.mono (hl41.trans hl42) hv17)
    obtain rfl := Option.some.inj h
    exact ew_ret (res1 Z (.cell Z (own_loadVarA ho101 (Tryd.isAgg27 _) (Tryd.sizeOf27 _) Z))) ⟨_, Z, ⟨(hw19.mono hC42.back), ho102⟩, hC42.bx⟩
   ·
    obtain rfl := hbb6.trans hc6
    refine cw_false Z (cw_seq (cw_region (lw_op Z Z Z (ow_eqlI Z Z Z fun bb7 hbb7 => lw_op Z Z Z (ow_assign Z Z (lw_nil (ew_then ?_)))))))
    replace h := cond_some h
    rcases h with ⟨hc7, h⟩ | ⟨hc7, h⟩
    ·
     obtain rfl := hbb7.trans hc7
     refine cw_true Z (cw_region (lw_op Z Z Z (ow_fieldAddr Z Z Tryd.underlying27 Z (Tryd.sizeOf25 _) (lw_op Z Z Z (ow_loadOwn1 Z Z Z ho97 (Tryd.isAgg25 _) Z (lw_op Z Z Z (ow_build (v := .agg #[(.int .i64 0), (.int .i64 8)]) Z Z (by kernel_rfl) ?_)))))))
     have hw20 : VRep RSpan w35 (Add g2 M1) ({ Lo := 0, Hi := 8 } : Span) (.agg #[(.int .i64 0), (.int .i64 8)]) := shut_Span
     refine lw_op Z Z Z (ow_buildSlice (R := RSpan) (xs := [({ Lo := 0, Hi := 8 } : Span)]) (cs := #[(.int .i64 0), (.int .i64 8)]) (e := 76) Z Z (by kernel_rfl) Z Z ⟨_, _, Z, hw20.cells, Z⟩ hC39 fun p4 w38 hw21 hb30 hl43 hC43 => ?_)
     have ho104 := ho95.no hb30
     have ho105 := ho96.no hb30
     have ho106 := ho97.no hb30
     have hr27 := hr26.no hb30
     replace h := bind_some h
     obtain ⟨x13, hx13, h⟩ := h
     refine lw_op Z Z Z (ow_indexRow (R := (RSlice RSpan)) Z Z Z hr27 Tryd.underlying25 (Tryd.sizeOf58 _) hx13 (lw_op0 Z Z (ow_storeElRow (X := (One g)) (R := (RSlice RSpan)) (S := (RSlice RSpan)) Z Z Z Z hr27 (orow_blk hr27 hx13) hx13 (FldSet.whole (RSlice RSpan)) (Tryd.sizeOf58 _) hw21 (Nat.le_refl _) hC43 fun w39 ho107 hb31 hl44 hC44 => ?_)))
     have ho108 := ho104.go hb31 (fun e => (orow_ne hr27 ho104 (by decide)) (by rw [orow_blk hr27 hx13]; exact congrArg some e.symm))
     have ho109 := ho105.go hb31 (fun e => (orow_ne hr27 ho105 (by decide)) (by rw [orow_blk hr27 hx13]; exact congrArg some e.symm))
     have ho110 := ho106.go hb31 (fun e => (orow_ne hr27 ho106 (by decide)) (by rw [orow_blk hr27 hx13]; exact congrArg some e.symm))
     refine lw_nil (ew_blockN (ew_then (cw_seq (cw_region (lw_op Z Z Z (ow_loadOwnA Z Z Z ho110 (Tryd.isAgg27 _) (Tryd.sizeOf27 _) Z ?_))))))
     have hw22 := ho107.freezeDel
     have hC45 := ho107.cxDel hC44 hX hO
     have hm27 : (Del (.slice A1 x2.Sides.length c1) (Add g2 M1)) g1 := ⟨hm6, fun e => (orow_ne ho107 ho109 (by decide)) e⟩
     refine lw_op0 Z Z (ow_store (X := (One g)) (us := [(.slice A1 x2.Sides.length c1)]) (cs' := #[(.slice A1 x2.Sides.length c1)]) Z Z Z Z ho109 (Tryd.sizeOf27 _) Z Z Z Z hm27 (.inl hg2) Z hC45 fun w40 ho111 hb32 hl46 hC46 => ?_)
     have ho112 := ho108.go hb32 (fun e => hn1 e)
     refine lw_nil (ew_then (cw_ret ?_))
     have hw24 : VRep RBox w40 (Del (.slice A1 x2.Sides.length c1) (Add g2 M1)) ({ Sides := (List.set x2.Sides (3 : Int).toNat [({ Lo := 0, Hi := 8 } : Span)]) } : Box) (.agg #[(.slice A1 x2.Sides.length c1)]) := shut_Box (VRep.mono hl46 hw22)
     obtain rfl := Option.some.inj h
     exact ew_ret (res1 Z (.cell Z (own_loadVarA ho111 (Tryd.isAgg27 _) (Tryd.sizeOf27 _) Z))) ⟨_, Z, ⟨(hw24.mono hC46.back), ho112⟩, hC46.bx⟩
    ·
     obtain rfl := hbb7.trans hc7
     refine cw_false Z (cw_region (lw_op Z Z Z (ow_fieldAddr Z Z Tryd.underlying27 Z (Tryd.sizeOf25 _) (lw_op Z Z Z (ow_loadOwn1 Z Z Z ho97 (Tryd.isAgg25 _) Z (lw_op Z Z Z (ow_buildSlice0I (R := RSpan) (e := 76) Z (by kernel_rfl) hC39 fun p5 w41 hw25 hb33 hl47 hC47 => ?_)))))))
     have ho114 := ho95.no hb33
     have ho115 := ho96.no hb33
     have ho116 := ho97.no hb33
     have hr28 := hr26.no hb33
     refine lw_op Z Z Z (ow_buildSlice (R := (RSlice RSpan)) (xs := [([] : List Span)]) (cs := #[(.slice (some p5) 0 0)]) (e := 58) Z Z (by kernel_rfl) Z Z ⟨_, _, Z, hw25.cells, Z⟩ hC47 fun p6 w42 hw26 hb34 hl48 hC48 => ?_)
     have ho117 := ho114.no hb34
     have ho118 := ho115.no hb34
     have ho119 := ho116.no hb34
     have hr29 := hr28.no hb34
     replace h := bind_some h
     obtain ⟨z2, hz2, h⟩ := h
     refine lw_op Z Z Z (ow_append (R := (RSlice RSpan)) Z Z Z Z Tryd.underlying25 hi58 hz58 hs58 hy58 Z Z Z Z hr29 hw26 hz2 hC48 fun v18 w43 M3 hr30 hb35 hl49 hC49 hM2 hat2 => ?_)
     have ho120 := ho117.go hb35 (fun e => (orow_ne hr29 ho117 (by decide)) e)
     have ho121 := ho118.go hb35 (fun e => (orow_ne hr29 ho118 (by decide)) e)
     have hm30 := hM2 _ hm6
     have ho122 := ho119.go hb35 (fun e => (orow_ne hr29 ho119 (by decide)) e)
     have hm31 := hM2 _ hm7
     refine lw_op Z Z Z (ow_fieldAddr Z Z Tryd.underlying27 Z (Tryd.sizeOf25 _) ?_)
     obtain ⟨A5, c5, rfl⟩ := hr30.len
     refine lw_op0 Z Z (ow_store (X := (One g)) (us := [(.slice A5 z2.length c5)]) (cs' := #[(.slice A5 z2.length c5)]) Z Z Z Z ho122 (Tryd.sizeOf25 _) Z Z Z Z hm31 (.inl hg4) Z hC49 fun w44 ho123 hb36 hl50 hC50 => ?_)
     have ho124 := ho120.go hb36 (fun e => hn2 e)
     have ho125 := ho121.go hb36 (fun e => hn3 e)
     have hr31 := hr30.go hb36 (fun k hk e => (orow_ne hr30 ho122 (by decide)) (hk.trans (congrArg some e))) hl50 (fun _ h => h)
     refine lw_nil (ew_blockN (ew_then (cw_seq (cw_region (lw_op Z Z Z (ow_loadOwnA Z Z Z ho123 (Tryd.isAgg27 _) (Tryd.sizeOf27 _) Z ?_))))))
     have hw27 := hr31.freezeDel
     have hC51 := hr31.cxDel hC50 hX hO
     have hm33 : (Del (.slice A5 z2.length c5) M3) g1 := ⟨hm30, fun e => (orow_ne hr31 ho125 (by decide)) e⟩
     refine lw_op0 Z Z (ow_store (X := (One g)) (us := [(.slice A5 z2.length c5)]) (cs' := #[(.slice A5 z2.length c5)]) Z Z Z Z ho125 (Tryd.sizeOf27 _) Z Z Z Z hm33 (.inl hg2) Z hC51 fun w45 ho126 hb37 hl52 hC52 => ?_)
     have ho127 := ho124.go hb37 (fun e => hn1 e)
     refine lw_nil (ew_then (cw_ret ?_))
     have hw29 : VRep RBox w45 (Del (.slice A5 z2.length c5) M3) ({ Sides := z2 } : Box) (.agg #[(.slice A5 z2.length c5)]) := shut_Box (VRep.mono hl52 hw27)
     obtain rfl := Option.some.inj h
     exact ew_ret (res1 Z (.cell Z (own_loadVarA ho126 (Tryd.isAgg27 _) (Tryd.sizeOf27 _) Z))) ⟨_, Z, ⟨(hw29.mono hC52.back), ho127⟩, hC52.bx⟩
  ·
   obtain rfl := hbb5.trans hc5
   refine cw_false Z (cw_skip (ew_then (cw_seq (cw_region (lw_op Z Z Z (ow_loadOwnA Z Z Z ho94 (Tryd.isAgg27 _) (Tryd.sizeOf27 _) Z ?_))))))
   have hw30 := hr25.freezeDel
   have hC53 := hr25.cxDel hC38 hX hO
   have hm36 : (Del (.slice A1 x2.Sides.length c1) (Add g2 M1)) g1 := ⟨hm6, fun e => (orow_ne hr25 ho93 (by decide)) e⟩
   refine lw_op0 Z Z (ow_store (X := (One g)) (us := [(.slice A1 x2.Sides.length c1)]) (cs' := #[(.slice A1 x2.Sides.length c1)]) Z Z Z Z ho93 (Tryd.sizeOf27 _) Z Z Z Z hm36 (.inl hg2) Z hC53 fun w46 ho129 hb38 hl54 hC54 => ?_)
   have ho130 := ho92.go hb38 (fun e => hn1 e)
   refine lw_nil (ew_then (cw_ret ?_))
   have hw32 : VRep RBox w46 (Del (.slice A1 x2.Sides.length c1) (Add g2 M1)) ({ Sides := x2.Sides } : Box) (.agg #[(.slice A1 x2.Sides.length c1)]) := shut_Box (VRep.mono hl54 hw30)
   obtain rfl := Option.some.inj h
   exact ew_ret (res1 Z (.cell Z (own_loadVarA ho129 (Tryd.isAgg27 _) (Tryd.sizeOf27 _) Z))) ⟨_, Z, ⟨(hw32.mono hC54.back), ho130⟩, hC54.bx⟩

theorem w_spec_l20Two {w : World} {M : Nat → Prop} (hG : ARep (RArr 4 RShape) w M shapes ⟨0, 0, none⟩) (hO : ∀ b, M b → b < w.heap.size) {g : Nat} {Ax : Option Addr} {cx : Nat} {a_xs : List Int} {a_pos : Int} (hxs : VRep (RSlice RU8) w M a_xs (.slice Ax a_xs.length cx)) (hown : Own w g 98 #[.slice Ax a_xs.length cx, .int .i64 a_pos]) (hgM : M g) {r : Box × Box × Int} (h : F.spec_l20Two a_xs a_pos = some r) :
  Calls Tryd.prog 84 [(.pointer (some ⟨g, 0, none⟩))].toArray w fun e w' => ∃ v, e = .returned v ∧ ((∃ u0 u1, v = .tuple #[u0, u1] ∧ VRep RBox w' M r.1 u0 ∧ VRep RBox w' M r.2.1 u1) ∧ Own w' g 98 #[.slice Ax a_xs.length cx, .int .i64 r.2.2]) ∧ BX (One g) w w' := by
 obtain ⟨i58, hi58, hz58, hs58, hy58⟩ := info58
 have hX : ∀ b, (One g) b → M b := fun b e => e ▸ hgM
 have hC : Cx (One g) w M w M := Cx.start hO hX
 refine walk (N := 44) Tryd.func84 Z Tryd.ntmps84 Z (cw_seq (cw_region (lw_op Z Z Z (ow_alloc Z (Tryd.zeroValue27 _) hC fun g1 w1 hg1 hg2 ho1 hb1 hl1 hC1 => ?_))))
 have hn1 := Nat.ne_of_lt (Nat.lt_of_lt_of_le hown.lt hg1)
 have ho2 := hown.no hb1
 have hm1 : (Add g1 M) g := .inr hgM
 have hm2 : (Add g1 M) g1 := .inl Z
 refine lw_op Z Z Z (ow_alloc Z (Tryd.zeroValue27 _) hC1 fun g2 w2 hg3 hg4 ho3 hb2 hl2 hC2 => ?_)
 have hn2 := Nat.ne_of_lt (Nat.lt_of_lt_of_le ho2.lt hg3)
 have ho4 := ho2.no hb2
 have hm3 : (Add g2 (Add g1 M)) g := .inr hm1
 have hn3 := Nat.ne_of_lt (Nat.lt_of_lt_of_le ho1.lt hg3)
 have ho5 := ho1.no hb2
 have hm4 : (Add g2 (Add g1 M)) g1 := .inr hm2
 have hm5 : (Add g2 (Add g1 M)) g2 := .inl Z
 refine lw_nil (ew_then (cw_seq (cw_region (lw_op Z Z Z (ow_move Z Z ?_)))))
 replace h := bind_some h
 obtain ⟨x1, hx1, h⟩ := h
 refine lw_op Z Z Z (ow_call Z Z Tryd.call73 (w_spec_l20Box (hG.mono (hl1.trans hl2)) hC2.old (VRep.mono (hl1.trans hl2) hxs) ho4 hm3 hx1) fun v1 w3 hv1 => ?_)
 obtain ⟨⟨hv1, ho6⟩, hb3⟩ := hv1
 have hl3 := Le.of_bx (Add g2 (Add g1 M)) hb3 (fun b e => (by rw [show b = g from e]; exact hm3))
 have hC3 := hC2.go hb3 (fun b e => Or.inr e)
 have ho7 := ho5.go hb3 (fun e => hn1 e.symm)
 have ho8 := ho3.go hb3 (fun e => hn2 e.symm)
 refine lw_allocStore (R := RBox) Z Z Z Z Z Z Z Tryd.zeroValue27 Tryd.sizeOf27 Z Z Z (by simp) hv1 hC3 fun p1 w4 hp1 hb4 hl4 hC4 => ?_
 have ho9 := ho6.no hb4
 have ho10 := ho7.no hb4
 have ho11 := ho8.no hb4
 refine lw_nil (ew_then (cw_seq (cw_region (lw_op Z Z Z (ow_move Z Z ?_)))))
 have hz1 := (((hl1.trans hl2).trans hl3).trans hl4)
 replace h := bind_some h
 obtain ⟨x2, hx2, h⟩ := h
 refine lw_op Z Z Z (ow_call Z Z Tryd.call73 (w_spec_l20Box (hG.mono hz1) hC4.old (VRep.mono hz1 hxs) ho9 hm3 hx2) fun v2 w5 hv2 => ?_)
 obtain ⟨⟨hv2, ho12⟩, hb5⟩ := hv2
 have hl5 := Le.of_bx (Add g2 (Add g1 M)) hb5 (fun b e => (by rw [show b = g from e]; exact hm3))
 have hC5 := hC4.go hb5 (fun b e => Or.inr e)
 have ho13 := ho10.go hb5 (fun e => hn1 e.symm)
 have ho14 := ho11.go hb5 (fun e => hn2 e.symm)
 refine lw_op Z Z Z (ow_alloc Z (Tryd.zeroValue27 _) hC5 fun g3 w6 hg5 hg6 ho15 hb6 hl6 hC6 => ?_)
 have hn4 := Nat.ne_of_lt (Nat.lt_of_lt_of_le ho12.lt hg5)
 have ho16 := ho12.no hb6
 have hm6 : (Add g3 (Add g2 (Add g1 M))) g := .inr hm3
 have hn5 := Nat.ne_of_lt (Nat.lt_of_lt_of_le ho13.lt hg5)
 have ho17 := ho13.no hb6
 have hm7 : (Add g3 (Add g2 (Add g1 M))) g1 := .inr hm4
 have hn6 := Nat.ne_of_lt (Nat.lt_of_lt_of_le ho14.lt hg5)
 have ho18 := ho14.no hb6
 have hm8 : (Add g3 (Add g2 (Add g1 M))) g2 := .inr hm5
 have hm9 : (Add g3 (Add g2 (Add g1 M))) g3 := .inl Z
 obtain ⟨A1, c1, rfl, hw1⟩ := open_Box hv2
 refine lw_op0 Z Z (ow_store (X := (One g)) (us := [(.slice A1 x2.1.Sides.length c1)]) (cs' := #[(.slice A1 x2.1.Sides.length c1)]) Z Z Z Z ho15 (Tryd.sizeOf27 _) Z Z Z Z hm9 (.inl hg6) Z hC6 fun w7 ho19 hb7 hl7 hC7 => ?_)
 have ho20 := ho16.go hb7 (fun e => hn4 e)
 have ho21 := ho17.go hb7 (fun e => hn5 e)
 have ho22 := ho18.go hb7 (fun e => hn6 e)
 refine lw_nil (ew_then (cw_seq (cw_seq (cw_region (lw_op Z Z Z (ow_move Z Z ?_))))))
 have hz2 := (((hz1.trans hl5).trans hl6).trans hl7)
 replace h := bind_some h
 obtain ⟨x3, hx3, h⟩ := h
 refine lw_op Z Z Z (ow_call Z Z Tryd.call87 (w_spec_l20Rd_pick (hG.mono hz2) hC7.old (VRep.mono hz2 hxs) ho20 hm6 hx3) fun v3 w8 hv3 => ?_)
 obtain ⟨⟨hv3, ho23⟩, hb8⟩ := hv3
 have hl8 := Le.of_bx (Add g3 (Add g2 (Add g1 M))) hb8 (fun b e => (by rw [show b = g from e]; exact hm6))
 have hC8 := hC7.go hb8 (fun b e => Or.inr e)
 have ho24 := ho21.go hb8 (fun e => hn1 e.symm)
 have ho25 := ho22.go hb8 (fun e => hn2 e.symm)
 have ho26 := ho19.go hb8 (fun e => hn4 e.symm)
 obtain rfl := vint_eq hv3
 refine lw_nil (ew_then (cw_block (cw_seq (cw_region (lw_op Z Z Z (ow_eqlI Z Z Z fun bb1 hbb1 => lw_op Z Z Z (ow_assign Z Z (lw_nil (ew_then ?_)))))))))
 replace h := cond_some h
 rcases h with ⟨hc1, h⟩ | ⟨hc1, h⟩
 ·
  obtain rfl := hbb1.trans hc1
  refine cw_true Z (cw_seq (cw_region ?_))
  have hz3 := (((hl5.trans hl6).trans hl7).trans hl8)
  refine lw_op Z Z Z (ow_load (R := RBox) Z Z (ARep.mono hz3 hp1) (Tryd.sizeOf27 _) (Tryd.isAgg27 _) fun v4 hv4 => lw_op Z Z Z (ow_loadOwnA Z Z Z ho26 (Tryd.isAgg27 _) (Tryd.sizeOf27 _) Z ?_))
  have hz4 := ((hl6.trans hl7).trans hl8)
  have hw2 : VRep RBox w8 (Add g3 (Add g2 (Add g1 M))) ({ Sides := x2.1.Sides } : Box) (.agg #[(.slice A1 x2.1.Sides.length c1)]) := shut_Box (VRep.mono hz4 hw1)
  replace h := bind_some h
  obtain ⟨x4, hx4, h⟩ := h
  refine lw_op Z Z Z (ow_call Z Z Tryd.call44 (w_spec_BoxMeet (hG.mono (hz2.trans hl8)) hC8.old hv4 hw2 hx4) fun v5 w9 hv5 => ?_)
  obtain ⟨hv5, hb9⟩ := hv5
  have hl9 := Le.no (Add g3 (Add g2 (Add g1 M))) hb9
  have hC9 := hC8.no hb9
  have ho27 := ho23.no hb9
  have ho28 := ho24.no hb9
  have ho29 := ho25.no hb9
  have ho30 := ho26.no hb9
  obtain ⟨A2, c2, rfl, hw3⟩ := open_Box hv5
  refine lw_op0 Z Z (ow_store (X := (One g)) (us := [(.slice A2 x4.Sides.length c2)]) (cs' := #[(.slice A2 x4.Sides.length c2)]) Z Z Z Z ho30 (Tryd.sizeOf27 _) Z Z Z Z hm9 (.inl hg6) Z hC9 fun w10 ho31 hb10 hl10 hC10 => ?_)
  have ho32 := ho27.go hb10 (fun e => hn4 e)
  have ho33 := ho28.go hb10 (fun e => hn5 e)
  have ho34 := ho29.go hb10 (fun e => hn6 e)
  refine lw_nil (ew_then (cw_seq (cw_region (lw_op Z Z Z (ow_fieldAddr Z Z Tryd.underlying27 Z (Tryd.sizeOf25 _) (lw_op Z Z Z (ow_loadOwn1 Z Z Z ho31 (Tryd.isAgg25 _) Z (lw_op Z Z Z (ow_len Z Z (VRep.mono hl10 hw3) Tryd.underlying25 Z (lw_op Z Z Z (ow_eqlI Z Z Z fun bb2 hbb2 => lw_nil (ew_then ?_))))))))))))
  replace h := cond_some h
  rcases h with ⟨hc2, h⟩ | ⟨hc2, h⟩
  ·
   obtain rfl := hbb2.trans hc2
   refine cw_true Z (cw_region ?_)
   replace h := bind_some h
   obtain ⟨x5, hx5, h⟩ := h
   have hz5 := (((hz2.trans hl8).trans hl9).trans hl10)
   refine lw_op Z Z Z (ow_call Z Z Tryd.call59 (wo_spec_BoxAll (hG.mono hz5) hC10.old hx5) fun v6 w11 hv6 => ?_)
   obtain ⟨⟨M1, v7, rfl, hr1, hk1⟩, hb11⟩ := hv6
   replace hr1 := hr1.base hC10.bx.size
   have hl11 := hk1.le
   have hC11 := hC10.trans hk1
   have ho35 := ho32.no hb11
   have ho36 := ho33.no hb11
   have hm11 := hk1.sup _ hm7
   have ho37 := ho34.no hb11
   have hm12 := hk1.sup _ hm8
   have ho38 := ho31.no hb11
   have hm13 := hk1.sup _ hm9
   obtain ⟨A3, c3, rfl⟩ := hr1.len
   refine lw_op0 Z Z (ow_store (X := (One g)) (us := [(.slice A3 x5.Sides.length c3)]) (cs' := #[(.slice A3 x5.Sides.length c3)]) Z Z Z Z ho38 (Tryd.sizeOf27 _) Z Z Z Z hm13 (.inl hg6) Z hC11 fun w12 ho39 hb12 hl12 hC12 => ?_)
   have ho40 := ho35.go hb12 (fun e => hn4 e)
   have ho41 := ho36.go hb12 (fun e => hn5 e)
   have ho42 := ho37.go hb12 (fun e => hn6 e)
   have hr2 := hr1.go hb12 (fun k hk e => (orow_ne hr1 ho38 (by decide)) (hk.trans (congrArg some e))) hl12 (fun _ h => h)
   refine lw_nil (ew_blockN (ew_then (cw_seq (cw_tree (by kernel_rfl) fun w13 hS1 => ?_))))
   have hl13 := Le.no M1 hS1
   have hC13 := hC12.no hS1
   have ho43 := ho40.no hS1
   have ho44 := ho41.no hS1
   have ho45 := ho42.no hS1
   have ho46 := ho39.no hS1
   have hr3 := hr2.no hS1
   refine tw_step (i := 0) (js := [1]) (by kernel_rfl) ⟨?_, ?_, trivial⟩
   ·
    have hz6 := (((((hz3.trans hl9).trans hl10).trans hl11).trans hl12).trans hl13)
    refine nd_op Z Z Z Z (ow_load (R := RBox) Z Z (ARep.mono hz6 hp1) (Tryd.sizeOf27 _) (Tryd.isAgg27 _) fun v8 hv8 => tw_step (i := 1) (js := [2]) (by kernel_rfl) ⟨?_, ?_, trivial⟩)
    ·
     refine nd_op Z Z Z Z (ow_loadOwnA Z Z Z ho46 (Tryd.isAgg27 _) (Tryd.sizeOf27 _) Z ?_)
     have hw4 := hr3.freezeDel
     have hC14 := hr3.cxDel hC13 hX hO
     have hl14 := Le.del w13 M1 (.slice A3 x5.Sides.length c3)
     have hm15 : (Del (.slice A3 x5.Sides.length c3) M1) g1 := ⟨hm11, fun e => (orow_ne hr3 ho44 (by decide)) e⟩
     have hm16 : (Del (.slice A3 x5.Sides.length c3) M1) g2 := ⟨hm12, fun e => (orow_ne hr3 ho45 (by decide)) e⟩
     refine tw_step (i := 2) (js := []) (by kernel_rfl) ⟨?_, trivial⟩
     obtain ⟨A4, c4, rfl, hw6⟩ := open_Box hv8
     refine nd_op0 Z Z Z (ow_store (X := (One g)) (us := [(.slice A4 x1.1.Sides.length c4)]) (cs' := #[(.slice A4 x1.1.Sides.length c4)]) Z Z Z Z ho44 (Tryd.sizeOf27 _) Z Z Z Z hm15 (.inl hg2) Z hC14 fun w14 ho47 hb13 hl15 hC15 => ?_)
     have ho48 := ho43.go hb13 (fun e => hn1 e)
     have ho49 := ho45.go hb13 (fun e => hn3 e.symm)
     refine tw_step (i := 3) (js := []) (by kernel_rfl) ⟨(nd_op0 Z Z Z (ow_store (X := (One g)) (us := [(.slice A3 x5.Sides.length c3)]) (cs' := #[(.slice A3 x5.Sides.length c3)]) Z Z Z Z ho49 (Tryd.sizeOf27 _) Z Z Z Z hm16 (.inl hg4) Z hC15 fun w15 ho51 hb14 hl16 hC16 => ?_)), trivial⟩
     have ho52 := ho48.go hb14 (fun e => hn2 e)
     have ho53 := ho47.go hb14 (fun e => hn3 e)
     refine tw_end (by kernel_rfl) (ew_then (cw_ret ?_))
     have hz7 := ((hl14.trans hl15).trans hl16)
     have hw7 : VRep RBox w15 (Del (.slice A3 x5.Sides.length c3) M1) ({ Sides := x1.1.Sides } : Box) (.agg #[(.slice A4 x1.1.Sides.length c4)]) := shut_Box (VRep.mono hz7 hw6)
     have hw8 : VRep RBox w15 (Del (.slice A3 x5.Sides.length c3) M1) ({ Sides := x5.Sides } : Box) (.agg #[(.slice A3 x5.Sides.length c3)]) := shut_Box (VRep.mono (hl15.trans hl16) hw4)
     obtain rfl := Option.some.inj h
     exact ew_ret (res2 Z (.cell Z (own_loadVarA ho53 (Tryd.isAgg27 _) (Tryd.sizeOf27 _) Z)) (.cell Z (own_loadVarA ho51 (Tryd.isAgg27 _) (Tryd.sizeOf27 _) Z))) ⟨_, Z, ⟨⟨_, _, Z, (hw7.mono hC16.back), (hw8.mono hC16.back)⟩, ho52⟩, hC16.bx⟩
    ·
     obtain ⟨A5, c5, rfl, hw9⟩ := open_Box hv8
     refine nd_op0 Z Z Z (ow_store (X := (One g)) (us := [(.slice A5 x1.1.Sides.length c5)]) (cs' := #[(.slice A5 x1.1.Sides.length c5)]) Z Z Z Z ho44 (Tryd.sizeOf27 _) Z Z Z Z hm11 (.inl hg2) Z hC13 fun w16 ho55 hb15 hl17 hC17 => ?_)
     have ho56 := ho43.go hb15 (fun e => hn1 e)
     have ho57 := ho45.go hb15 (fun e => hn3 e.symm)
     have ho58 := ho46.go hb15 (fun e => hn5 e.symm)
     have hr4 := hr3.go hb15 (fun k hk e => (orow_ne hr3 ho44 (by decide)) (hk.trans (congrArg some e))) hl17 (fun _ h => h)
     refine tw_step (i := 1) (js := []) (by kernel_rfl) ⟨(nd_op Z Z Z Z (ow_loadOwnA Z Z Z ho58 (Tryd.isAgg27 _) (Tryd.sizeOf27 _) Z ?_)), trivial⟩
     have hw10 := hr4.freezeDel
     have hC18 := hr4.cxDel hC17 hX hO
     have hl18 := Le.del w16 M1 (.slice A3 x5.Sides.length c3)
     have hm20 : (Del (.slice A3 x5.Sides.length c3) M1) g2 := ⟨hm12, fun e => (orow_ne hr4 ho57 (by decide)) e⟩
     refine tw_step (i := 3) (js := []) (by kernel_rfl) ⟨(nd_op0 Z Z Z (ow_store (X := (One g)) (us := [(.slice A3 x5.Sides.length c3)]) (cs' := #[(.slice A3 x5.Sides.length c3)]) Z Z Z Z ho57 (Tryd.sizeOf27 _) Z Z Z Z hm20 (.inl hg4) Z hC18 fun w17 ho59 hb16 hl19 hC19 => ?_)), trivial⟩
     have ho60 := ho56.go hb16 (fun e => hn2 e)
     have ho61 := ho55.go hb16 (fun e => hn3 e)
     refine tw_end (by kernel_rfl) (ew_then (cw_ret ?_))
     have hz8 := ((hl17.trans hl18).trans hl19)
     have hw12 : VRep RBox w17 (Del (.slice A3 x5.Sides.length c3) M1) ({ Sides := x1.1.Sides } : Box) (.agg #[(.slice A5 x1.1.Sides.length c5)]) := shut_Box (VRep.mono hz8 hw9)
     have hw13 : VRep RBox w17 (Del (.slice A3 x5.Sides.length c3) M1) ({ Sides := x5.Sides } : Box) (.agg #[(.slice A3 x5.Sides.length c3)]) := shut_Box (VRep.mono hl19 hw10)
     obtain rfl := Option.some.inj h
     exact ew_ret (res2 Z (.cell Z (own_loadVarA ho61 (Tryd.isAgg27 _) (Tryd.sizeOf27 _) Z)) (.cell Z (own_loadVarA ho59 (Tryd.isAgg27 _) (Tryd.sizeOf27 _) Z))) ⟨_, Z, ⟨⟨_, _, Z, (hw12.mono hC19.back), (hw13.mono hC19.back)⟩, ho60⟩, hC19.bx⟩
   ·
    refine nd_op Z Z Z Z (ow_loadOwnA Z Z Z ho46 (Tryd.isAgg27 _) (Tryd.sizeOf27 _) Z ?_)
    have hw14 := hr3.freezeDel
    have hC20 := hr3.cxDel hC13 hX hO
    have hl20 := Le.del w13 M1 (.slice A3 x5.Sides.length c3)
    have hm23 : (Del (.slice A3 x5.Sides.length c3) M1) g1 := ⟨hm11, fun e => (orow_ne hr3 ho44 (by decide)) e⟩
    have hm24 : (Del (.slice A3 x5.Sides.length c3) M1) g2 := ⟨hm12, fun e => (orow_ne hr3 ho45 (by decide)) e⟩
    refine tw_step (i := 0) (js := []) (by kernel_rfl) ⟨?_, trivial⟩
    have hz9 := ((((((hz3.trans hl9).trans hl10).trans hl11).trans hl12).trans hl13).trans hl20)
    refine nd_op Z Z Z Z (ow_load (R := RBox) Z Z (ARep.mono hz9 hp1) (Tryd.sizeOf27 _) (Tryd.isAgg27 _) fun v9 hv9 => tw_step (i := 2) (js := []) (by kernel_rfl) ⟨?_, trivial⟩)
    obtain ⟨A6, c6, rfl, hw16⟩ := open_Box hv9
    refine nd_op0 Z Z Z (ow_store (X := (One g)) (us := [(.slice A6 x1.1.Sides.length c6)]) (cs' := #[(.slice A6 x1.1.Sides.length c6)]) Z Z Z Z ho44 (Tryd.sizeOf27 _) Z Z Z Z hm23 (.inl hg2) Z hC20 fun w18 ho63 hb17 hl21 hC21 => ?_)
    have ho64 := ho43.go hb17 (fun e => hn1 e)
    have ho65 := ho45.go hb17 (fun e => hn3 e.symm)
    refine tw_step (i := 3) (js := []) (by kernel_rfl) ⟨(nd_op0 Z Z Z (ow_store (X := (One g)) (us := [(.slice A3 x5.Sides.length c3)]) (cs' := #[(.slice A3 x5.Sides.length c3)]) Z Z Z Z ho65 (Tryd.sizeOf27 _) Z Z Z Z hm24 (.inl hg4) Z hC21 fun w19 ho67 hb18 hl22 hC22 => ?_)), trivial⟩
    have ho68 := ho64.go hb18 (fun e => hn2 e)
    have ho69 := ho63.go hb18 (fun e => hn3 e)
    refine tw_end (by kernel_rfl) (ew_then (cw_ret ?_))
    have hw17 : VRep RBox w19 (Del (.slice A3 x5.Sides.length c3) M1) ({ Sides := x1.1.Sides } : Box) (.agg #[(.slice A6 x1.1.Sides.length c6)]) := shut_Box (VRep.mono (hl21.trans hl22) hw16)
    have hw18 : VRep RBox w19 (Del (.slice A3 x5.Sides.length c3) M1) ({ Sides := x5.Sides } : Box) (.agg #[(.slice A3 x5.Sides.length c3)]) := shut_Box (VRep.mono (hl21.trans hl22) hw14)
    obtain rfl := Option.some.inj h
    exact ew_ret (res2 Z (.cell Z (own_loadVarA ho69 (Tryd.isAgg27 _) (Tryd.sizeOf27 _) Z)) (.cell Z (own_loadVarA ho67 (Tryd.isAgg27 _) (Tryd.sizeOf27 _) Z))) ⟨_, Z, ⟨⟨_, _, Z, (hw17.mono hC22.back), (hw18.mono hC22.back)⟩, ho68⟩, hC22.bx⟩
  ·
   obtain rfl := hbb2.trans hc2
   refine cw_false Z (cw_skip (ew_blockN (ew_then (cw_seq (cw_tree (by kernel_rfl) fun w20 hS2 => ?_)))))
   have hl23 := Le.no (Add g3 (Add g2 (Add g1 M))) hS2
   have hC23 := hC10.no hS2
   have ho71 := ho32.no hS2
   have ho72 := ho33.no hS2
   have ho73 := ho34.no hS2
   have ho74 := ho31.no hS2
   refine tw_step (i := 0) (js := [1]) (by kernel_rfl) ⟨?_, ?_, trivial⟩
   ·
    have hz10 := (((hz3.trans hl9).trans hl10).trans hl23)
    refine nd_op Z Z Z Z (ow_load (R := RBox) Z Z (ARep.mono hz10 hp1) (Tryd.sizeOf27 _) (Tryd.isAgg27 _) fun v10 hv10 => tw_step (i := 1) (js := [2]) (by kernel_rfl) ⟨?_, ?_, trivial⟩)
    ·
     refine nd_op Z Z Z Z (ow_loadOwnA Z Z Z ho74 (Tryd.isAgg27 _) (Tryd.sizeOf27 _) Z (tw_step (i := 2) (js := []) (by kernel_rfl) ⟨?_, trivial⟩))
     obtain ⟨A7, c7, rfl, hw20⟩ := open_Box hv10
     refine nd_op0 Z Z Z (ow_store (X := (One g)) (us := [(.slice A7 x1.1.Sides.length c7)]) (cs' := #[(.slice A7 x1.1.Sides.length c7)]) Z Z Z Z ho72 (Tryd.sizeOf27 _) Z Z Z Z hm7 (.inl hg2) Z hC23 fun w21 ho75 hb19 hl24 hC24 => ?_)
     have ho76 := ho71.go hb19 (fun e => hn1 e)
     have ho77 := ho73.go hb19 (fun e => hn3 e.symm)
     refine tw_step (i := 3) (js := []) (by kernel_rfl) ⟨(nd_op0 Z Z Z (ow_store (X := (One g)) (us := [(.slice A2 x4.Sides.length c2)]) (cs' := #[(.slice A2 x4.Sides.length c2)]) Z Z Z Z ho77 (Tryd.sizeOf27 _) Z Z Z Z hm8 (.inl hg4) Z hC24 fun w22 ho79 hb20 hl25 hC25 => ?_)), trivial⟩
     have ho80 := ho76.go hb20 (fun e => hn2 e)
     have ho81 := ho75.go hb20 (fun e => hn3 e)
     refine tw_end (by kernel_rfl) (ew_then (cw_ret ?_))
     have hw21 : VRep RBox w22 (Add g3 (Add g2 (Add g1 M))) ({ Sides := x1.1.Sides } : Box) (.agg #[(.slice A7 x1.1.Sides.length c7)]) := shut_Box (VRep.mono (hl24.trans hl25) hw20)
     have hz11 := (((hl10.trans hl23).trans hl24).trans hl25)
     have hw22 : VRep RBox w22 (Add g3 (Add g2 (Add g1 M))) ({ Sides := x4.Sides } : Box) (.agg #[(.slice A2 x4.Sides.length c2)]) := shut_Box (VRep.mono hz11 hw3)
     obtain rfl := Option.some.inj h
     exact ew_ret (res2 Z (.cell Z (own_loadVarA ho81 (Tryd.isAgg27 _) (Tryd.sizeOf27 _) Z)) (.cell Z (own_loadVarA ho79 (Tryd.isAgg27 _) (Tryd.sizeOf27 _) Z))) ⟨_, Z, ⟨⟨_, _, Z, (hw21.mono hC25.back), (hw22.mono hC25.back)⟩, ho80⟩, hC25.bx⟩
    ·
     obtain ⟨A8, c8, rfl, hw23⟩ := open_Box hv10
     refine nd_op0 Z Z Z (ow_store (X := (One g)) (us := [(.slice A8 x1.1.Sides.length c8)]) (cs' := #[(.slice A8 x1.1.Sides.length c8)]) Z Z Z Z ho72 (Tryd.sizeOf27 _) Z Z Z Z hm7 (.inl hg2) Z hC23 fun w23 ho83 hb21 hl26 hC26 => ?_)
     have ho84 := ho71.go hb21 (fun e => hn1 e)
     have ho85 := ho73.go hb21 (fun e => hn3 e.symm)
     have ho86 := ho74.go hb21 (fun e => hn5 e.symm)
     refine tw_step (i := 1) (js := []) (by kernel_rfl) ⟨(nd_op Z Z Z Z (ow_loadOwnA Z Z Z ho86 (Tryd.isAgg27 _) (Tryd.sizeOf27 _) Z ?_)), trivial⟩
     have hz12 := ((hl10.trans hl23).trans hl26)
     refine tw_step (i := 3) (js := []) (by kernel_rfl) ⟨(nd_op0 Z Z Z (ow_store (X := (One g)) (us := [(.slice A2 x4.Sides.length c2)]) (cs' := #[(.slice A2 x4.Sides.length c2)]) Z Z Z Z ho85 (Tryd.sizeOf27 _) Z Z Z Z hm8 (.inl hg4) Z hC26 fun w24 ho87 hb22 hl27 hC27 => ?_)), trivial⟩
     have ho88 := ho84.go hb22 (fun e => hn2 e)
     have ho89 := ho83.go hb22 (fun e => hn3 e)
     refine tw_end (by kernel_rfl) (ew_then (cw_ret ?_))
     have hw25 : VRep RBox w24 (Add g3 (Add g2 (Add g1 M))) ({ Sides := x1.1.Sides } : Box) (.agg #[(.slice A8 x1.1.Sides.length c8)]) := shut_Box (VRep.mono (hl26.trans hl27) hw23)
     have hw26 : VRep RBox w24 (Add g3 (Add g2 (Add g1 M))) ({ Sides := x4.Sides } : Box) (.agg #[(.slice A2 x4.Sides.length c2)]) := shut_Box (VRep.mono (hz12.trans hl27) hw3)
     obtain rfl := Option.some.inj h
     exact ew_ret (res2 Z (.cell Z (own_loadVarA ho89 (Tryd.isAgg27 _) (Tryd.sizeOf27 _) Z)) (.cell Z (own_loadVarA ho87 (Tryd.isAgg27 _) (Tryd.sizeOf27 _) Z))) ⟨_, Z, ⟨⟨_, _, Z, (hw25.mono hC27.back), (hw26.mono hC27.back)⟩, ho88⟩, hC27.bx⟩
   ·
    refine nd_op Z Z Z Z (ow_loadOwnA Z Z Z ho74 (Tryd.isAgg27 _) (Tryd.sizeOf27 _) Z (tw_step (i := 0) (js := []) (by kernel_rfl) ⟨?_, trivial⟩))
    have hz13 := (((hz3.trans hl9).trans hl10).trans hl23)
    refine nd_op Z Z Z Z (ow_load (R := RBox) Z Z (ARep.mono hz13 hp1) (Tryd.sizeOf27 _) (Tryd.isAgg27 _) fun v11 hv11 => tw_step (i := 2) (js := []) (by kernel_rfl) ⟨?_, trivial⟩)
    obtain ⟨A9, c9, rfl, hw28⟩ := open_Box hv11
    refine nd_op0 Z Z Z (ow_store (X := (One g)) (us := [(.slice A9 x1.1.Sides.length c9)]) (cs' := #[(.slice A9 x1.1.Sides.length c9)]) Z Z Z Z ho72 (Tryd.sizeOf27 _) Z Z Z Z hm7 (.inl hg2) Z hC23 fun w25 ho91 hb23 hl28 hC28 => ?_)
    have ho92 := ho71.go hb23 (fun e => hn1 e)
    have ho93 := ho73.go hb23 (fun e => hn3 e.symm)
    refine tw_step (i := 3) (js := []) (by kernel_rfl) ⟨(nd_op0 Z Z Z (ow_store (X := (One g)) (us := [(.slice A2 x4.Sides.length c2)]) (cs' := #[(.slice A2 x4.Sides.length c2)]) Z Z Z Z ho93 (Tryd.sizeOf27 _) Z Z Z Z hm8 (.inl hg4) Z hC28 fun w26 ho95 hb24 hl29 hC29 => ?_)), trivial⟩
    have ho96 := ho92.go hb24 (fun e => hn2 e)
    have ho97 := ho91.go hb24 (fun e => hn3 e)
    refine tw_end (by kernel_rfl) (ew_then (cw_ret ?_))
    have hw29 : VRep RBox w26 (Add g3 (Add g2 (Add g1 M))) ({ Sides := x1.1.Sides } : Box) (.agg #[(.slice A9 x1.1.Sides.length c9)]) := shut_Box (VRep.mono (hl28.trans hl29) hw28)
    have hz14 := (((hl10.trans hl23).trans hl28).trans hl29)
    have hw30 : VRep RBox w26 (Add g3 (Add g2 (Add g1 M))) ({ Sides := x4.Sides } : Box) (.agg #[(.slice A2 x4.Sides.length c2)]) := shut_Box (VRep.mono hz14 hw3)
    obtain rfl := Option.some.inj h
    exact ew_ret (res2 Z (.cell Z (own_loadVarA ho97 (Tryd.isAgg27 _) (Tryd.sizeOf27 _) Z)) (.cell Z (own_loadVarA ho95 (Tryd.isAgg27 _) (Tryd.sizeOf27 _) Z))) ⟨_, Z, ⟨⟨_, _, Z, (hw29.mono hC29.back), (hw30.mono hC29.back)⟩, ho96⟩, hC29.bx⟩
 ·
  obtain rfl := hbb1.trans hc1
  refine cw_false Z (cw_seq (cw_region (lw_op Z Z Z (ow_eqlI Z Z Z fun bb3 hbb3 => lw_op Z Z Z (ow_assign Z Z (lw_nil (ew_then ?_)))))))
  replace h := cond_some h
  rcases h with ⟨hc3, h⟩ | ⟨hc3, h⟩
  ·
   obtain rfl := hbb3.trans hc3
   refine cw_true Z (cw_seq (cw_region ?_))
   have hz15 := (((hl5.trans hl6).trans hl7).trans hl8)
   refine lw_op Z Z Z (ow_load (R := RBox) Z Z (ARep.mono hz15 hp1) (Tryd.sizeOf27 _) (Tryd.isAgg27 _) fun v12 hv12 => ?_)
   replace h := bind_some h
   obtain ⟨x6, hx6, h⟩ := h
   refine lw_op Z Z Z (ow_call Z Z Tryd.call38 (w_spec_BoxValid (hG.mono (hz2.trans hl8)) hC8.old hv12 hx6) fun v13 w27 hv13 => ?_)
   obtain ⟨hv13, hb25⟩ := hv13
   have hl30 := Le.no (Add g3 (Add g2 (Add g1 M))) hb25
   have hC30 := hC8.no hb25
   have ho99 := ho23.no hb25
   have ho100 := ho24.no hb25
   have ho101 := ho25.no hb25
   have ho102 := ho26.no hb25
   obtain rfl := vbool_eq hv13
   refine lw_nil (ew_then ?_)
   replace h := cond_some h
   rcases h with ⟨hc4, h⟩ | ⟨hc4, h⟩
   ·
    subst hc4
    refine cw_true Z (cw_seq (cw_region (lw_op Z Z Z (ow_move Z Z ?_))))
    have hz16 := ((hz2.trans hl8).trans hl30)
    replace h := bind_some h
    obtain ⟨x7, hx7, h⟩ := h
    refine lw_op Z Z Z (ow_call Z Z Tryd.call87 (w_spec_l20Rd_pick (hG.mono hz16) hC30.old (VRep.mono hz16 hxs) ho99 hm6 hx7) fun v14 w28 hv14 => ?_)
    obtain ⟨⟨hv14, ho103⟩, hb26⟩ := hv14
    have hl31 := Le.of_bx (Add g3 (Add g2 (Add g1 M))) hb26 (fun b e => (by rw [show b = g from e]; exact hm6))
    have hC31 := hC30.go hb26 (fun b e => Or.inr e)
    have ho104 := ho100.go hb26 (fun e => hn1 e.symm)
    have ho105 := ho101.go hb26 (fun e => hn2 e.symm)
    have ho106 := ho102.go hb26 (fun e => hn4 e.symm)
    obtain rfl := vint_eq hv14
    refine lw_op Z Z Z (ow_assign Z Z (lw_nil (ew_then (cw_seq (cw_region (lw_op Z Z Z (ow_buildSlice0 (R := (RSlice RSpan)) (e := 58) Z (by kernel_rfl) hC31 fun p2 w29 M2 hr5 hb27 hl32 hC32 hM1 hat1 => ?_)))))))
    have ho107 := ho103.no hb27
    have hm26 := hM1 _ hm6
    have ho108 := ho104.no hb27
    have hm27 := hM1 _ hm7
    have ho109 := ho105.no hb27
    have hm28 := hM1 _ hm8
    have ho110 := ho106.no hb27
    have hm29 := hM1 _ hm9
    refine lw_op Z Z Z (ow_fieldAddr Z Z Tryd.underlying27 Z (Tryd.sizeOf25 _) ?_)
    have hz17 := (((hz15.trans hl30).trans hl31).trans hl32)
    refine lw_op Z Z Z (ow_load (R := (RSlice (RSlice RSpan))) Z Z (ARep.mono hz17 (hp1.fld fld_Box_Sides)) (Tryd.sizeOf25 _) (Tryd.isAgg25 _) fun v15 hv15 => ?_)
    replace h := bind_some h
    obtain ⟨z1, hz1, h⟩ := h
    refine lw_op Z Z Z (ow_append (R := (RSlice RSpan)) Z Z Z Z Tryd.underlying25 hi58 hz58 hs58 hy58 Z Z Z Z hr5 hv15 hz1 hC32 fun v16 w30 M3 hr6 hb28 hl33 hC33 hM2 hat2 => ?_)
    have ho111 := ho107.go hb28 (fun e => (orow_ne hr5 ho107 (by decide)) e)
    have hm30 := hM2 _ hm26
    have ho112 := ho108.go hb28 (fun e => (orow_ne hr5 ho108 (by decide)) e)
    have hm31 := hM2 _ hm27
    have ho113 := ho109.go hb28 (fun e => (orow_ne hr5 ho109 (by decide)) e)
    have hm32 := hM2 _ hm28
    have ho114 := ho110.go hb28 (fun e => (orow_ne hr5 ho110 (by decide)) e)
    have hm33 := hM2 _ hm29
    obtain ⟨A10, c10, rfl⟩ := hr6.len
    refine lw_op Z Z Z (ow_build (v := .agg #[(.slice A10 z1.length c10)]) Z Z (by kernel_rfl) (lw_op0 Z Z (ow_store (X := (One g)) (us := [(.slice A10 z1.length c10)]) (cs' := #[(.slice A10 z1.length c10)]) Z Z Z Z ho114 (Tryd.sizeOf27 _) Z Z Z Z hm33 (.inl hg6) Z hC33 fun w31 ho115 hb29 hl34 hC34 => ?_)))
    have ho116 := ho111.go hb29 (fun e => hn4 e)
    have ho117 := ho112.go hb29 (fun e => hn5 e)
    have ho118 := ho113.go hb29 (fun e => hn6 e)
    have hr7 := hr6.go hb29 (fun k hk e => (orow_ne hr6 ho114 (by decide)) (hk.trans (congrArg some e))) hl34 (fun _ h => h)
    refine lw_nil (ew_then ?_)
    replace h := bind_some h
    obtain ⟨x8, hx8, h⟩ := h
    replace h := bind_some h
    obtain ⟨x9, hx9, h⟩ := h
    have hz18 := ((((hz16.trans hl31).trans hl32).trans hl33).trans hl34)
    have hz20 := ((hz17.trans hl33).trans hl34)
    refine cw_sub (E' := [(0, (.pointer (some ⟨g, 0, none⟩))), (2, (.pointer (some ⟨g1, 0, none⟩))), (3, (.pointer (some ⟨g2, 0, none⟩))), (4, (.pointer (some p1))), (5, (.pointer (some ⟨g3, 0, none⟩))), (6, (.int .i64 x7.1))]) ⟨Z, Z, Z, Z, Z, Z, trivial⟩ (cw_drawC (g := g) (T := 98) 7 1 [none, none, none, none, none, none, some 0] [#[(.slice Ax a_xs.length cx), (.int .i64 x7.2)], #[(.slice Ax a_xs.length cx), (.int .i64 x9.2)]] [PEq (.pointer (some ⟨g3, 0, none⟩)), PEq (.slice A10 z1.length c10), PEq (.int .i64 x7.1), PEq (.pointer (some ⟨g, 0, none⟩)), PEq (.int .i64 x7.1), PEq (.int .i64 x8), PV (RSlice RSpan) M3 x9.1] (by kernel_rfl) Z (by kernel_rfl) (by kernel_rfl) ho116 ⟨(PEq.monoY hm30 _), (PEq.monoY hm30 _), (PEq.monoY hm30 _), (PEq.monoY hm30 _), (PEq.monoY hm30 _), (PEq.monoY hm30 _), (PV.monoY hm30 _ _), trivial⟩ ⟨?_, ?_, ?_, ?_, ?_, ?_, ?_, trivial⟩ ?_)
    ·
     intro w34 D hS3 hd1
     exact dg_sub (E' := [(5, (.pointer (some ⟨g3, 0, none⟩)))]) ⟨Z, trivial⟩ (dg_plain Z (ow_fieldAddr Z Z Tryd.underlying27 Z (Tryd.sizeOf25 _) ⟨BX.refl _ _, Z⟩))
    ·
     intro w35 D hS4 hd2
     have ho132 := ho115.go hS4 (fun e => hn4 e.symm)
     exact dg_sub (E' := [(34, (.pointer (some ⟨g3, 0, none⟩)))]) ⟨(dpE hd2 0 Z Z), trivial⟩ (dg_plain Z (ow_loadOwn1 Z Z Z ho132 (Tryd.isAgg25 _) Z ⟨BX.refl _ _, Z⟩))
    ·
     intro w36 D hS5 hd3
     exact dg_sub (E' := [(6, (.int .i64 x7.1))]) ⟨Z, trivial⟩ (dg_plain Z (ow_move Z Z ⟨BX.refl _ _, Z⟩))
    ·
     intro w37 D hS6 hd4
     exact dg_sub (E' := [(0, (.pointer (some ⟨g, 0, none⟩)))]) ⟨Z, trivial⟩ (dg_plain Z (ow_move Z Z ⟨BX.refl _ _, Z⟩))
    ·
     intro w38 D hS7 hd5
     exact dg_sub (E' := [(6, (.int .i64 x7.1))]) ⟨Z, trivial⟩ (dg_plain Z (ow_move Z Z ⟨BX.refl _ _, Z⟩))
    ·
     intro w39 D hS8 hd6
     have hl42 := leY hm30 hS8
     have hC42 := hC34.go hS8 (fun b e => Or.inr e)
     refine dg_sub (E' := [(38, (.int .i64 x7.1))]) ⟨(dpE hd6 4 Z Z), trivial⟩ (dg_plain Z (ow_call Z Z Tryd.call81 (w_spec_FieldTop (hG.mono (hz18.trans hl42)) hC42.old hx8) fun v19 w40 hv19 => ?_))
     obtain ⟨hv19, hb32⟩ := hv19
     obtain rfl := vint_eq hv19
     exact ⟨hb32, Z⟩
    ·
     intro w41 D hS9 hd7
     obtain ⟨hS9, ho148⟩ := hS9
     have ho148 : Own w41 g 98 #[(.slice Ax a_xs.length cx), (.int .i64 x7.2)] := ho148
     have hl44 := leY hm30 hS9
     have hC44 := hC34.go hS9 (fun b e => Or.inr e)
     refine dg_sub (E' := [(37, (.pointer (some ⟨g, 0, none⟩))), (39, (.int .i64 x8))]) ⟨(dpE hd7 3 Z Z), (dpE hd7 5 Z Z), trivial⟩ (dg_plain Z (ow_call Z Z Tryd.call98 (w_spec_l20Set (hG.mono (hz18.trans hl44)) hC44.old (VRep.mono (hz18.trans hl44) hxs) ho148 hm30 hx9) fun v20 w42 hv20 => ?_))
     obtain ⟨⟨hv20, ho152⟩, hb33⟩ := hv20
     exact ⟨⟨⟨hS9.trans hb33, ho152⟩, hb33⟩, hv20⟩
    ·
     intro w43 D hS10 hd8
     have d12 : PV (RSlice RSpan) M3 x9.1 (D 6) w43 := dpA hd8 6 Z
     obtain ⟨hS10, ho156⟩ := hS10
     have ho156 : Own w43 g 98 #[(.slice Ax a_xs.length cx), (.int .i64 x9.2)] := ho156
     have hl46 := leY hm30 hS10
     have hC46 := hC34.go hS10 (fun b e => Or.inr e)
     have ho157 := ho117.go hS10 (fun e => hn1 e.symm)
     have ho158 := ho118.go hS10 (fun e => hn2 e.symm)
     have ho159 := ho115.go hS10 (fun e => hn4 e.symm)
     have hr19 := hr7.go hS10 (fun k hk e => (orow_ne hr7 ho116 (by decide)) (hk.trans (congrArg some e))) hl46 (fun _ h => h)
     generalize hq1 : (D 6) = v21 at d12
     refine lw_sub (E' := [(35, (.slice A10 z1.length c10)), (36, (.int .i64 x7.1)), (40, v21), (0, (.pointer (some ⟨g, 0, none⟩))), (2, (.pointer (some ⟨g1, 0, none⟩))), (3, (.pointer (some ⟨g2, 0, none⟩))), (4, (.pointer (some p1))), (5, (.pointer (some ⟨g3, 0, none⟩))), (6, (.int .i64 x7.1))]) ⟨(dpE hd8 1 Z Z), (dpE hd8 2 Z Z), (congrArg some hq1), Z, Z, Z, Z, Z, Z, trivial⟩ ?_
     replace h := bind_some h
     obtain ⟨x10, hx10, h⟩ := h
     refine lw_op Z Z Z (ow_indexRow (R := (RSlice RSpan)) Z Z Z hr19 Tryd.underlying25 (Tryd.sizeOf58 _) hx10 (lw_op0 Z Z (ow_storeElRow (X := (One g)) (R := (RSlice RSpan)) (S := (RSlice RSpan)) Z Z Z Z hr19 (orow_blk hr19 hx10) hx10 (FldSet.whole (RSlice RSpan)) (Tryd.sizeOf58 _) d12 (Nat.le_refl _) hC46 fun w44 ho160 hb34 hl47 hC47 => ?_)))
     have ho161 := ho156.go hb34 (fun e => (orow_ne hr19 ho156 (by decide)) (by rw [orow_blk hr19 hx10]; exact congrArg some e.symm))
     have ho162 := ho157.go hb34 (fun e => (orow_ne hr19 ho157 (by decide)) (by rw [orow_blk hr19 hx10]; exact congrArg some e.symm))
     have ho163 := ho158.go hb34 (fun e => (orow_ne hr19 ho158 (by decide)) (by rw [orow_blk hr19 hx10]; exact congrArg some e.symm))
     have ho164 := ho159.go hb34 (fun e => (orow_ne hr19 ho159 (by decide)) (by rw [orow_blk hr19 hx10]; exact congrArg some e.symm))
     refine lw_nil (ew_blockN (ew_then (cw_seq (cw_tree (by kernel_rfl) fun w45 hS11 => ?_))))
     have hl48 := Le.no M3 hS11
     have hC48 := hC47.no hS11
     have ho165 := ho161.no hS11
     have ho166 := ho162.no hS11
     have ho167 := ho163.no hS11
     have ho168 := ho164.no hS11
     have hr20 := ho160.no hS11
     refine tw_step (i := 0) (js := [1]) (by kernel_rfl) ⟨?_, ?_, trivial⟩
     ·
      have hz24 := (((hz20.trans hl46).trans hl47).trans hl48)
      refine nd_op Z Z Z Z (ow_load (R := RBox) Z Z (ARep.mono hz24 hp1) (Tryd.sizeOf27 _) (Tryd.isAgg27 _) fun v22 hv22 => tw_step (i := 1) (js := [2]) (by kernel_rfl) ⟨?_, ?_, trivial⟩)
      ·
       refine nd_op Z Z Z Z (ow_loadOwnA Z Z Z ho168 (Tryd.isAgg27 _) (Tryd.sizeOf27 _) Z ?_)
       have hw31 := hr20.freezeDel
       have hC49 := hr20.cxDel hC48 hX hO
       have hl49 := Le.del w45 M3 (.slice A10 z1.length c10)
       have hm35 : (Del (.slice A10 z1.length c10) M3) g1 := ⟨hm31, fun e => (orow_ne hr20 ho166 (by decide)) e⟩
       have hm36 : (Del (.slice A10 z1.length c10) M3) g2 := ⟨hm32, fun e => (orow_ne hr20 ho167 (by decide)) e⟩
       refine tw_step (i := 2) (js := []) (by kernel_rfl) ⟨?_, trivial⟩
       obtain ⟨A11, c11, rfl, hw33⟩ := open_Box hv22
       refine nd_op0 Z Z Z (ow_store (X := (One g)) (us := [(.slice A11 x1.1.Sides.length c11)]) (cs' := #[(.slice A11 x1.1.Sides.length c11)]) Z Z Z Z ho166 (Tryd.sizeOf27 _) Z Z Z Z hm35 (.inl hg2) Z hC49 fun w46 ho169 hb35 hl50 hC50 => ?_)
       have ho170 := ho165.go hb35 (fun e => hn1 e)
       have ho171 := ho167.go hb35 (fun e => hn3 e.symm)
       refine tw_step (i := 3) (js := []) (by kernel_rfl) ⟨(nd_op0 Z Z Z (ow_store (X := (One g)) (us := [(.slice A10 z1.length c10)]) (cs' := #[(.slice A10 z1.length c10)]) Z Z Z Z ho171 (Tryd.sizeOf27 _) Z Z Z Z hm36 (.inl hg4) Z hC50 fun w47 ho173 hb36 hl51 hC51 => ?_)), trivial⟩
       have ho174 := ho170.go hb36 (fun e => hn2 e)
       have ho175 := ho169.go hb36 (fun e => hn3 e)
       refine tw_end (by kernel_rfl) (ew_then (cw_ret ?_))
       have hz25 := ((hl49.trans hl50).trans hl51)
       have hw34 : VRep RBox w47 (Del (.slice A10 z1.length c10) M3) ({ Sides := x1.1.Sides } : Box) (.agg #[(.slice A11 x1.1.Sides.length c11)]) := shut_Box (VRep.mono hz25 hw33)
       have hw35 : VRep RBox w47 (Del (.slice A10 z1.length c10) M3) ({ Sides := (List.set z1 (x7.1 : Int).toNat x9.1) } : Box) (.agg #[(.slice A10 z1.length c10)]) := shut_Box (VRep.mono (hl50.trans hl51) hw31)
       obtain rfl := Option.some.inj h
       exact ew_ret (res2 Z (.cell Z (own_loadVarA ho175 (Tryd.isAgg27 _) (Tryd.sizeOf27 _) Z)) (.cell Z (own_loadVarA ho173 (Tryd.isAgg27 _) (Tryd.sizeOf27 _) Z))) ⟨_, Z, ⟨⟨_, _, Z, (hw34.mono hC51.back), (hw35.mono hC51.back)⟩, ho174⟩, hC51.bx⟩
      ·
       obtain ⟨A12, c12, rfl, hw36⟩ := open_Box hv22
       refine nd_op0 Z Z Z (ow_store (X := (One g)) (us := [(.slice A12 x1.1.Sides.length c12)]) (cs' := #[(.slice A12 x1.1.Sides.length c12)]) Z Z Z Z ho166 (Tryd.sizeOf27 _) Z Z Z Z hm31 (.inl hg2) Z hC48 fun w48 ho177 hb37 hl52 hC52 => ?_)
       have ho178 := ho165.go hb37 (fun e => hn1 e)
       have ho179 := ho167.go hb37 (fun e => hn3 e.symm)
       have ho180 := ho168.go hb37 (fun e => hn5 e.symm)
       have hr21 := hr20.go hb37 (fun k hk e => (orow_ne hr20 ho166 (by decide)) (hk.trans (congrArg some e))) hl52 (fun _ h => h)
       refine tw_step (i := 1) (js := []) (by kernel_rfl) ⟨(nd_op Z Z Z Z (ow_loadOwnA Z Z Z ho180 (Tryd.isAgg27 _) (Tryd.sizeOf27 _) Z ?_)), trivial⟩
       have hw37 := hr21.freezeDel
       have hC53 := hr21.cxDel hC52 hX hO
       have hl53 := Le.del w48 M3 (.slice A10 z1.length c10)
       have hm40 : (Del (.slice A10 z1.length c10) M3) g2 := ⟨hm32, fun e => (orow_ne hr21 ho179 (by decide)) e⟩
       refine tw_step (i := 3) (js := []) (by kernel_rfl) ⟨(nd_op0 Z Z Z (ow_store (X := (One g)) (us := [(.slice A10 z1.length c10)]) (cs' := #[(.slice A10 z1.length c10)]) Z Z Z Z ho179 (Tryd.sizeOf27 _) Z Z Z Z hm40 (.inl hg4) Z hC53 fun w49 ho181 hb38 hl54 hC54 => ?_)), trivial⟩
       have ho182 := ho178.go hb38 (fun e => hn2 e)
       have ho183 := ho177.go hb38 (fun e => hn3 e)
       refine tw_end (by kernel_rfl) (ew_then (cw_ret ?_))
       have hz26 := ((hl52.trans hl53).trans hl54)
       have hw39 : VRep RBox w49 (Del (.slice A10 z1.length c10) M3) ({ Sides := x1.1.Sides } : Box) (.agg #[(.slice A12 x1.1.Sides.length c12)]) := shut_Box (VRep.mono hz26 hw36)
       have hw40 : VRep RBox w49 (Del (.slice A10 z1.length c10) M3) ({ Sides := (List.set z1 (x7.1 : Int).toNat x9.1) } : Box) (.agg #[(.slice A10 z1.length c10)]) := shut_Box (VRep.mono hl54 hw37)
       obtain rfl := Option.some.inj h
       exact ew_ret (res2 Z (.cell Z (own_loadVarA ho183 (Tryd.isAgg27 _) (Tryd.sizeOf27 _) Z)) (.cell Z (own_loadVarA ho181 (Tryd.isAgg27 _) (Tryd.sizeOf27 _) Z))) ⟨_, Z, ⟨⟨_, _, Z, (hw39.mono hC54.back), (hw40.mono hC54.back)⟩, ho182⟩, hC54.bx⟩
     ·
      refine nd_op Z Z Z Z (ow_loadOwnA Z Z Z ho168 (Tryd.isAgg27 _) (Tryd.sizeOf27 _) Z ?_)
      have hw41 := hr20.freezeDel
      have hC55 := hr20.cxDel hC48 hX hO
      have hl55 := Le.del w45 M3 (.slice A10 z1.length c10)
      have hm43 : (Del (.slice A10 z1.length c10) M3) g1 := ⟨hm31, fun e => (orow_ne hr20 ho166 (by decide)) e⟩
      have hm44 : (Del (.slice A10 z1.length c10) M3) g2 := ⟨hm32, fun e => (orow_ne hr20 ho167 (by decide)) e⟩
      refine tw_step (i := 0) (js := []) (by kernel_rfl) ⟨?_, trivial⟩
      have hz27 := ((((hz20.trans hl46).trans hl47).trans hl48).trans hl55)
      refine nd_op Z Z Z Z (ow_load (R := RBox) Z Z (ARep.mono hz27 hp1) (Tryd.sizeOf27 _) (Tryd.isAgg27 _) fun v23 hv23 => tw_step (i := 2) (js := []) (by kernel_rfl) ⟨?_, trivial⟩)
      obtain ⟨A13, c13, rfl, hw43⟩ := open_Box hv23
      refine nd_op0 Z Z Z (ow_store (X := (One g)) (us := [(.slice A13 x1.1.Sides.length c13)]) (cs' := #[(.slice A13 x1.1.Sides.length c13)]) Z Z Z Z ho166 (Tryd.sizeOf27 _) Z Z Z Z hm43 (.inl hg2) Z hC55 fun w50 ho185 hb39 hl56 hC56 => ?_)
      have ho186 := ho165.go hb39 (fun e => hn1 e)
      have ho187 := ho167.go hb39 (fun e => hn3 e.symm)
      refine tw_step (i := 3) (js := []) (by kernel_rfl) ⟨(nd_op0 Z Z Z (ow_store (X := (One g)) (us := [(.slice A10 z1.length c10)]) (cs' := #[(.slice A10 z1.length c10)]) Z Z Z Z ho187 (Tryd.sizeOf27 _) Z Z Z Z hm44 (.inl hg4) Z hC56 fun w51 ho189 hb40 hl57 hC57 => ?_)), trivial⟩
      have ho190 := ho186.go hb40 (fun e => hn2 e)
      have ho191 := ho185.go hb40 (fun e => hn3 e)
      refine tw_end (by kernel_rfl) (ew_then (cw_ret ?_))
      have hw44 : VRep RBox w51 (Del (.slice A10 z1.length c10) M3) ({ Sides := x1.1.Sides } : Box) (.agg #[(.slice A13 x1.1.Sides.length c13)]) := shut_Box (VRep.mono (hl56.trans hl57) hw43)
      have hw45 : VRep RBox w51 (Del (.slice A10 z1.length c10) M3) ({ Sides := (List.set z1 (x7.1 : Int).toNat x9.1) } : Box) (.agg #[(.slice A10 z1.length c10)]) := shut_Box (VRep.mono (hl56.trans hl57) hw41)
      obtain rfl := Option.some.inj h
      exact ew_ret (res2 Z (.cell Z (own_loadVarA ho191 (Tryd.isAgg27 _) (Tryd.sizeOf27 _) Z)) (.cell Z (own_loadVarA ho189 (Tryd.isAgg27 _) (Tryd.sizeOf27 _) Z))) ⟨_, Z, ⟨⟨_, _, Z, (hw44.mono hC57.back), (hw45.mono hC57.back)⟩, ho190⟩, hC57.bx⟩
   ·
    subst hc4
    refine cw_false Z (cw_skip (ew_blockN (ew_then (cw_seq (cw_tree (by kernel_rfl) fun w52 hS12 => ?_)))))
    have hl58 := Le.no (Add g3 (Add g2 (Add g1 M))) hS12
    have hC58 := hC30.no hS12
    have ho193 := ho99.no hS12
    have ho194 := ho100.no hS12
    have ho195 := ho101.no hS12
    have ho196 := ho102.no hS12
    refine tw_step (i := 0) (js := [1]) (by kernel_rfl) ⟨?_, ?_, trivial⟩
    ·
     have hz28 := ((hz15.trans hl30).trans hl58)
     refine nd_op Z Z Z Z (ow_load (R := RBox) Z Z (ARep.mono hz28 hp1) (Tryd.sizeOf27 _) (Tryd.isAgg27 _) fun v24 hv24 => tw_step (i := 1) (js := [2]) (by kernel_rfl) ⟨?_, ?_, trivial⟩)
     ·
      refine nd_op Z Z Z Z (ow_loadOwnA Z Z Z ho196 (Tryd.isAgg27 _) (Tryd.sizeOf27 _) Z ?_)
      have hz29 := ((((hl6.trans hl7).trans hl8).trans hl30).trans hl58)
      refine tw_step (i := 2) (js := []) (by kernel_rfl) ⟨?_, trivial⟩
      obtain ⟨A14, c14, rfl, hw47⟩ := open_Box hv24
      refine nd_op0 Z Z Z (ow_store (X := (One g)) (us := [(.slice A14 x1.1.Sides.length c14)]) (cs' := #[(.slice A14 x1.1.Sides.length c14)]) Z Z Z Z ho194 (Tryd.sizeOf27 _) Z Z Z Z hm7 (.inl hg2) Z hC58 fun w53 ho197 hb41 hl59 hC59 => ?_)
      have ho198 := ho193.go hb41 (fun e => hn1 e)
      have ho199 := ho195.go hb41 (fun e => hn3 e.symm)
      refine tw_step (i := 3) (js := []) (by kernel_rfl) ⟨(nd_op0 Z Z Z (ow_store (X := (One g)) (us := [(.slice A1 x2.1.Sides.length c1)]) (cs' := #[(.slice A1 x2.1.Sides.length c1)]) Z Z Z Z ho199 (Tryd.sizeOf27 _) Z Z Z Z hm8 (.inl hg4) Z hC59 fun w54 ho201 hb42 hl60 hC60 => ?_)), trivial⟩
      have ho202 := ho198.go hb42 (fun e => hn2 e)
      have ho203 := ho197.go hb42 (fun e => hn3 e)
      refine tw_end (by kernel_rfl) (ew_then (cw_ret ?_))
      have hw48 : VRep RBox w54 (Add g3 (Add g2 (Add g1 M))) ({ Sides := x1.1.Sides } : Box) (.agg #[(.slice A14 x1.1.Sides.length c14)]) := shut_Box (VRep.mono (hl59.trans hl60) hw47)
      have hz30 := ((hz29.trans hl59).trans hl60)
      have hw49 : VRep RBox w54 (Add g3 (Add g2 (Add g1 M))) ({ Sides := x2.1.Sides } : Box) (.agg #[(.slice A1 x2.1.Sides.length c1)]) := shut_Box (VRep.mono hz30 hw1)
      obtain rfl := Option.some.inj h
      exact ew_ret (res2 Z (.cell Z (own_loadVarA ho203 (Tryd.isAgg27 _) (Tryd.sizeOf27 _) Z)) (.cell Z (own_loadVarA ho201 (Tryd.isAgg27 _) (Tryd.sizeOf27 _) Z))) ⟨_, Z, ⟨⟨_, _, Z, (hw48.mono hC60.back), (hw49.mono hC60.back)⟩, ho202⟩, hC60.bx⟩
     ·
      obtain ⟨A15, c15, rfl, hw50⟩ := open_Box hv24
      refine nd_op0 Z Z Z (ow_store (X := (One g)) (us := [(.slice A15 x1.1.Sides.length c15)]) (cs' := #[(.slice A15 x1.1.Sides.length c15)]) Z Z Z Z ho194 (Tryd.sizeOf27 _) Z Z Z Z hm7 (.inl hg2) Z hC58 fun w55 ho205 hb43 hl61 hC61 => ?_)
      have ho206 := ho193.go hb43 (fun e => hn1 e)
      have ho207 := ho195.go hb43 (fun e => hn3 e.symm)
      have ho208 := ho196.go hb43 (fun e => hn5 e.symm)
      refine tw_step (i := 1) (js := []) (by kernel_rfl) ⟨(nd_op Z Z Z Z (ow_loadOwnA Z Z Z ho208 (Tryd.isAgg27 _) (Tryd.sizeOf27 _) Z ?_)), trivial⟩
      have hz31 := (((((hl6.trans hl7).trans hl8).trans hl30).trans hl58).trans hl61)
      refine tw_step (i := 3) (js := []) (by kernel_rfl) ⟨(nd_op0 Z Z Z (ow_store (X := (One g)) (us := [(.slice A1 x2.1.Sides.length c1)]) (cs' := #[(.slice A1 x2.1.Sides.length c1)]) Z Z Z Z ho207 (Tryd.sizeOf27 _) Z Z Z Z hm8 (.inl hg4) Z hC61 fun w56 ho209 hb44 hl62 hC62 => ?_)), trivial⟩
      have ho210 := ho206.go hb44 (fun e => hn2 e)
      have ho211 := ho205.go hb44 (fun e => hn3 e)
      refine tw_end (by kernel_rfl) (ew_then (cw_ret ?_))
      have hw52 : VRep RBox w56 (Add g3 (Add g2 (Add g1 M))) ({ Sides := x1.1.Sides } : Box) (.agg #[(.slice A15 x1.1.Sides.length c15)]) := shut_Box (VRep.mono (hl61.trans hl62) hw50)
      have hw53 : VRep RBox w56 (Add g3 (Add g2 (Add g1 M))) ({ Sides := x2.1.Sides } : Box) (.agg #[(.slice A1 x2.1.Sides.length c1)]) := shut_Box (VRep.mono (hz31.trans hl62) hw1)
      obtain rfl := Option.some.inj h
      exact ew_ret (res2 Z (.cell Z (own_loadVarA ho211 (Tryd.isAgg27 _) (Tryd.sizeOf27 _) Z)) (.cell Z (own_loadVarA ho209 (Tryd.isAgg27 _) (Tryd.sizeOf27 _) Z))) ⟨_, Z, ⟨⟨_, _, Z, (hw52.mono hC62.back), (hw53.mono hC62.back)⟩, ho210⟩, hC62.bx⟩
    ·
     refine nd_op Z Z Z Z (ow_loadOwnA Z Z Z ho196 (Tryd.isAgg27 _) (Tryd.sizeOf27 _) Z ?_)
     have hz32 := ((((hl6.trans hl7).trans hl8).trans hl30).trans hl58)
     refine tw_step (i := 0) (js := []) (by kernel_rfl) ⟨?_, trivial⟩
     have hz33 := ((hz15.trans hl30).trans hl58)
     refine nd_op Z Z Z Z (ow_load (R := RBox) Z Z (ARep.mono hz33 hp1) (Tryd.sizeOf27 _) (Tryd.isAgg27 _) fun v25 hv25 => tw_step (i := 2) (js := []) (by kernel_rfl) ⟨?_, trivial⟩)
     obtain ⟨A16, c16, rfl, hw55⟩ := open_Box hv25
     refine nd_op0 Z Z Z (ow_store (X := (One g)) (us := [(.slice A16 x1.1.Sides.length c16)]) (cs' := #[(.slice A16 x1.1.Sides.length c16)]) Z Z Z Z ho194 (Tryd.sizeOf27 _) Z Z Z Z hm7 (.inl hg2) Z hC58 fun w57 ho213 hb45 hl63 hC63 => ?_)
     have ho214 := ho193.go hb45 (fun e => hn1 e)
     have ho215 := ho195.go hb45 (fun e => hn3 e.symm)
     refine tw_step (i := 3) (js := []) (by kernel_rfl) ⟨(nd_op0 Z Z Z (ow_store (X := (One g)) (us := [(.slice A1 x2.1.Sides.length c1)]) (cs' := #[(.slice A1 x2.1.Sides.length c1)]) Z Z Z Z ho215 (Tryd.sizeOf27 _) Z Z Z Z hm8 (.inl hg4) Z hC63 fun w58 ho217 hb46 hl64 hC64 => ?_)), trivial⟩
     have ho218 := ho214.go hb46 (fun e => hn2 e)
     have ho219 := ho213.go hb46 (fun e => hn3 e)
     refine tw_end (by kernel_rfl) (ew_then (cw_ret ?_))
     have hw56 : VRep RBox w58 (Add g3 (Add g2 (Add g1 M))) ({ Sides := x1.1.Sides } : Box) (.agg #[(.slice A16 x1.1.Sides.length c16)]) := shut_Box (VRep.mono (hl63.trans hl64) hw55)
     have hz34 := ((hz32.trans hl63).trans hl64)
     have hw57 : VRep RBox w58 (Add g3 (Add g2 (Add g1 M))) ({ Sides := x2.1.Sides } : Box) (.agg #[(.slice A1 x2.1.Sides.length c1)]) := shut_Box (VRep.mono hz34 hw1)
     obtain rfl := Option.some.inj h
     exact ew_ret (res2 Z (.cell Z (own_loadVarA ho219 (Tryd.isAgg27 _) (Tryd.sizeOf27 _) Z)) (.cell Z (own_loadVarA ho217 (Tryd.isAgg27 _) (Tryd.sizeOf27 _) Z))) ⟨_, Z, ⟨⟨_, _, Z, (hw56.mono hC64.back), (hw57.mono hC64.back)⟩, ho218⟩, hC64.bx⟩
  ·
   obtain rfl := hbb3.trans hc3
   refine cw_false Z (cw_skip (ew_blockN (ew_then (cw_seq (cw_tree (by kernel_rfl) fun w59 hS13 => ?_)))))
   have hl65 := Le.no (Add g3 (Add g2 (Add g1 M))) hS13
   have hC65 := hC8.no hS13
   have ho221 := ho23.no hS13
   have ho222 := ho24.no hS13
   have ho223 := ho25.no hS13
   have ho224 := ho26.no hS13
   refine tw_step (i := 0) (js := [1]) (by kernel_rfl) ⟨?_, ?_, trivial⟩
   ·
    have hz35 := ((((hl5.trans hl6).trans hl7).trans hl8).trans hl65)
    refine nd_op Z Z Z Z (ow_load (R := RBox) Z Z (ARep.mono hz35 hp1) (Tryd.sizeOf27 _) (Tryd.isAgg27 _) fun v26 hv26 => tw_step (i := 1) (js := [2]) (by kernel_rfl) ⟨?_, ?_, trivial⟩)
    ·
     refine nd_op Z Z Z Z (ow_loadOwnA Z Z Z ho224 (Tryd.isAgg27 _) (Tryd.sizeOf27 _) Z ?_)
     have hz36 := (((hl6.trans hl7).trans hl8).trans hl65)
     refine tw_step (i := 2) (js := []) (by kernel_rfl) ⟨?_, trivial⟩
     obtain ⟨A17, c17, rfl, hw59⟩ := open_Box hv26
     refine nd_op0 Z Z Z (ow_store (X := (One g)) (us := [(.slice A17 x1.1.Sides.length c17)]) (cs' := #[(.slice A17 x1.1.Sides.length c17)]) Z Z Z Z ho222 (Tryd.sizeOf27 _) Z Z Z Z hm7 (.inl hg2) Z hC65 fun w60 ho225 hb47 hl66 hC66 => ?_)
     have ho226 := ho221.go hb47 (fun e => hn1 e)
     have ho227 := ho223.go hb47 (fun e => hn3 e.symm)
     refine tw_step (i := 3) (js := []) (by kernel_rfl) ⟨(nd_op0 Z Z Z (ow_store (X := (One g)) (us := [(.slice A1 x2.1.Sides.length c1)]) (cs' := #[(.slice A1 x2.1.Sides.length c1)]) Z Z Z Z ho227 (Tryd.sizeOf27 _) Z Z Z Z hm8 (.inl hg4) Z hC66 fun w61 ho229 hb48 hl67 hC67 => ?_)), trivial⟩
     have ho230 := ho226.go hb48 (fun e => hn2 e)
     have ho231 := ho225.go hb48 (fun e => hn3 e)
     refine tw_end (by kernel_rfl) (ew_then (cw_ret ?_))
     have hw60 : VRep RBox w61 (Add g3 (Add g2 (Add g1 M))) ({ Sides := x1.1.Sides } : Box) (.agg #[(.slice A17 x1.1.Sides.length c17)]) := shut_Box (VRep.mono (hl66.trans hl67) hw59)
     have hz37 := ((hz36.trans hl66).trans hl67)
     have hw61 : VRep RBox w61 (Add g3 (Add g2 (Add g1 M))) ({ Sides := x2.1.Sides } : Box) (.agg #[(.slice A1 x2.1.Sides.length c1)]) := shut_Box (VRep.mono hz37 hw1)
     obtain rfl := Option.some.inj h
     exact ew_ret (res2 Z (.cell Z (own_loadVarA ho231 (Tryd.isAgg27 _) (Tryd.sizeOf27 _) Z)) (.cell Z (own_loadVarA ho229 (Tryd.isAgg27 _) (Tryd.sizeOf27 _) Z))) ⟨_, Z, ⟨⟨_, _, Z, (hw60.mono hC67.back), (hw61.mono hC67.back)⟩, ho230⟩, hC67.bx⟩
    ·
     obtain ⟨A18, c18, rfl, hw62⟩ := open_Box hv26
     refine nd_op0 Z Z Z (ow_store (X := (One g)) (us := [(.slice A18 x1.1.Sides.length c18)]) (cs' := #[(.slice A18 x1.1.Sides.length c18)]) Z Z Z Z ho222 (Tryd.sizeOf27 _) Z Z Z Z hm7 (.inl hg2) Z hC65 fun w62 ho233 hb49 hl68 hC68 => ?_)
     have ho234 := ho221.go hb49 (fun e => hn1 e)
     have ho235 := ho223.go hb49 (fun e => hn3 e.symm)
     have ho236 := ho224.go hb49 (fun e => hn5 e.symm)
     refine tw_step (i := 1) (js := []) (by kernel_rfl) ⟨(nd_op Z Z Z Z (ow_loadOwnA Z Z Z ho236 (Tryd.isAgg27 _) (Tryd.sizeOf27 _) Z ?_)), trivial⟩
     have hz38 := ((((hl6.trans hl7).trans hl8).trans hl65).trans hl68)
     refine tw_step (i := 3) (js := []) (by kernel_rfl) ⟨(nd_op0 Z Z Z (ow_store (X := (One g)) (us := [(.slice A1 x2.1.Sides.length c1)]) (cs' := #[(.slice A1 x2.1.Sides.length c1)]) Z Z Z Z ho235 (Tryd.sizeOf27 _) Z Z Z Z hm8 (.inl hg4) Z hC68 fun w63 ho237 hb50 hl69 hC69 => ?_)), trivial⟩
     have ho238 := ho234.go hb50 (fun e => hn2 e)
     have ho239 := ho233.go hb50 (fun e => hn3 e)
     refine tw_end (by kernel_rfl) (ew_then (cw_ret ?_))
     have hw64 : VRep RBox w63 (Add g3 (Add g2 (Add g1 M))) ({ Sides := x1.1.Sides } : Box) (.agg #[(.slice A18 x1.1.Sides.length c18)]) := shut_Box (VRep.mono (hl68.trans hl69) hw62)
     have hw65 : VRep RBox w63 (Add g3 (Add g2 (Add g1 M))) ({ Sides := x2.1.Sides } : Box) (.agg #[(.slice A1 x2.1.Sides.length c1)]) := shut_Box (VRep.mono (hz38.trans hl69) hw1)
     obtain rfl := Option.some.inj h
     exact ew_ret (res2 Z (.cell Z (own_loadVarA ho239 (Tryd.isAgg27 _) (Tryd.sizeOf27 _) Z)) (.cell Z (own_loadVarA ho237 (Tryd.isAgg27 _) (Tryd.sizeOf27 _) Z))) ⟨_, Z, ⟨⟨_, _, Z, (hw64.mono hC69.back), (hw65.mono hC69.back)⟩, ho238⟩, hC69.bx⟩
   ·
    refine nd_op Z Z Z Z (ow_loadOwnA Z Z Z ho224 (Tryd.isAgg27 _) (Tryd.sizeOf27 _) Z ?_)
    have hz39 := (((hl6.trans hl7).trans hl8).trans hl65)
    refine tw_step (i := 0) (js := []) (by kernel_rfl) ⟨?_, trivial⟩
    have hz40 := ((((hl5.trans hl6).trans hl7).trans hl8).trans hl65)
    refine nd_op Z Z Z Z (ow_load (R := RBox) Z Z (ARep.mono hz40 hp1) (Tryd.sizeOf27 _) (Tryd.isAgg27 _) fun v27 hv27 => tw_step (i := 2) (js := []) (by kernel_rfl) ⟨?_, trivial⟩)
    obtain ⟨A19, c19, rfl, hw67⟩ := open_Box hv27
    refine nd_op0 Z Z Z (ow_store (X := (One g)) (us := [(.slice A19 x1.1.Sides.length c19)]) (cs' := #[(.slice A19 x1.1.Sides.length c19)]) Z Z Z Z ho222 (Tryd.sizeOf27 _) Z Z Z Z hm7 (.inl hg2) Z hC65 fun w64 ho241 hb51 hl70 hC70 => ?_)
    have ho242 := ho221.go hb51 (fun e => hn1 e)
    have ho243 := ho223.go hb51 (fun e => hn3 e.symm)
    refine tw_step (i := 3) (js := []) (by kernel_rfl) ⟨(nd_op0 Z Z Z (ow_store (X := (One g)) (us := [(.slice A1 x2.1.Sides.length c1)]) (cs' := #[(.slice A1 x2.1.Sides.length c1)]) Z Z Z Z ho243 (Tryd.sizeOf27 _) Z Z Z Z hm8 (.inl hg4) Z hC70 fun w65 ho245 hb52 hl71 hC71 => ?_)), trivial⟩
    have ho246 := ho242.go hb52 (fun e => hn2 e)
    have ho247 := ho241.go hb52 (fun e => hn3 e)
    refine tw_end (by kernel_rfl) (ew_then (cw_ret ?_))
    have hw68 : VRep RBox w65 (Add g3 (Add g2 (Add g1 M))) ({ Sides := x1.1.Sides } : Box) (.agg #[(.slice A19 x1.1.Sides.length c19)]) := shut_Box (VRep.mono (hl70.trans hl71) hw67)
    have hz41 := ((hz39.trans hl70).trans hl71)
    have hw69 : VRep RBox w65 (Add g3 (Add g2 (Add g1 M))) ({ Sides := x2.1.Sides } : Box) (.agg #[(.slice A1 x2.1.Sides.length c1)]) := shut_Box (VRep.mono hz41 hw1)
    obtain rfl := Option.some.inj h
    exact ew_ret (res2 Z (.cell Z (own_loadVarA ho247 (Tryd.isAgg27 _) (Tryd.sizeOf27 _) Z)) (.cell Z (own_loadVarA ho245 (Tryd.isAgg27 _) (Tryd.sizeOf27 _) Z))) ⟨_, Z, ⟨⟨_, _, Z, (hw68.mono hC71.back), (hw69.mono hC71.back)⟩, ho246⟩, hC71.bx⟩

theorem w_spec_DrawBoxSame {w : World} {M : Nat → Prop} (hG : ARep (RArr 4 RShape) w M shapes ⟨0, 0, none⟩) (hO : ∀ b, M b → b < w.heap.size) {v0p : Value} {a_code : List Int} (h0 : VRep (RSlice RU8) w M a_code v0p) {r : Box × Box} (h : F.spec_DrawBoxSame a_code = some r) :
  Calls Tryd.prog 45 [v0p].toArray w fun e w' => ∃ v, e = .returned v ∧ (∃ u0 u1, v = .tuple #[u0, u1] ∧ VRep RBox w' M r.1 u0 ∧ VRep RBox w' M r.2 u1) ∧ BX No w w' := by
 have hC : Cx No w M w M := Cx.start hO (fun _ e => e.elim)
 refine walk (N := 21) Tryd.func45 Z Tryd.ntmps45 Z (cw_seq (cw_region (lw_op Z Z Z (ow_alloc Z (Tryd.zeroValue27 _) hC fun g1 w1 hg1 hg2 ho1 hb1 hl1 hC1 => ?_))))
 have hm1 : (Add g1 M) g1 := .inl Z
 refine lw_op Z Z Z (ow_alloc Z (Tryd.zeroValue27 _) hC1 fun g2 w2 hg3 hg4 ho2 hb2 hl2 hC2 => ?_)
 have hn1 := Nat.ne_of_lt (Nat.lt_of_lt_of_le ho1.lt hg3)
 have ho3 := ho1.no hb2
 have hm2 : (Add g2 (Add g1 M)) g1 := .inr hm1
 have hm3 : (Add g2 (Add g1 M)) g2 := .inl Z
 refine lw_nil (ew_then (cw_seq (cw_region (lw_op Z Z Z (ow_move Z Z ?_)))))
 replace h := bind_some h
 obtain ⟨x1, hx1, h⟩ := h
 refine lw_op Z Z Z (ow_call Z Z Tryd.call54 (w_spec_l20Open (hG.mono (hl1.trans hl2)) hC2.old (VRep.mono (hl1.trans hl2) h0) hx1) fun v1 w3 hv1 => ?_)
 obtain ⟨⟨g3, A1, c1, rfl, hg5, ho4, hw1⟩, hb3⟩ := hv1
 have hl3 := (Le.no (Add g2 (Add g1 M)) hb3).add hg5
 have hg6 := Nat.le_trans hC2.bx.size hg5
 have hC3 := (hC2.no hb3).add ho4.lt hg6
 have hn2 := Nat.ne_of_lt (Nat.lt_of_lt_of_le ho3.lt hg5)
 have ho5 := ho3.no hb3
 have hm4 : (Add g3 (Add g2 (Add g1 M))) g1 := .inr hm2
 have hn3 := Nat.ne_of_lt (Nat.lt_of_lt_of_le ho2.lt hg5)
 have ho6 := ho2.no hb3
 have hm5 : (Add g3 (Add g2 (Add g1 M))) g2 := .inr hm3
 have hm6 : (Add g3 (Add g2 (Add g1 M))) g3 := .inl Z
 refine lw_op Z Z Z (ow_assign Z Z (lw_nil (ew_then (cw_seq (cw_region (lw_op Z Z Z (ow_move Z Z ?_)))))))
 replace h := bind_some h
 obtain ⟨x2, hx2, h⟩ := h
 have hz1 := ((hl1.trans hl2).trans hl3)
 refine lw_op Z Z Z (ow_call Z Z Tryd.call84 (w_spec_l20Two (hG.mono hz1) hC3.old hw1 ho4 hm6 hx2) fun v2 w4 hv2 => ?_)
 obtain ⟨⟨⟨v3, v4, rfl, hv3, hv4⟩, ho7⟩, hb4⟩ := hv2
 have hl4 := Le.of_bx (Add g3 (Add g2 (Add g1 M))) hb4 (fun b e => (by rw [show b = g3 from e]; exact hm6))
 have hC4 := hC3.go hb4 (fun b e => (by rw [show b = g3 from e]; exact (.inl hg6)))
 have ho8 := ho5.go hb4 (fun e => hn2 e)
 have ho9 := ho6.go hb4 (fun e => hn3 e)
 refine lw_op Z Z Z (ow_move Z Z (lw_op Z Z Z (ow_extract Z Z Z (lw_op Z Z Z (ow_extract Z Z Z (lw_op Z Z Z (ow_alloc Z (Tryd.zeroValue27 _) hC4 fun g4 w5 hg7 hg8 ho10 hb5 hl5 hC5 => ?_)))))))
 have hn4 := Nat.ne_of_lt (Nat.lt_of_lt_of_le ho8.lt hg7)
 have ho11 := ho8.no hb5
 have hm7 : (Add g4 (Add g3 (Add g2 (Add g1 M)))) g1 := .inr hm4
 have hn5 := Nat.ne_of_lt (Nat.lt_of_lt_of_le ho9.lt hg7)
 have ho12 := ho9.no hb5
 have hm8 : (Add g4 (Add g3 (Add g2 (Add g1 M)))) g2 := .inr hm5
 have hn6 := Nat.ne_of_lt (Nat.lt_of_lt_of_le ho7.lt hg7)
 have ho13 := ho7.no hb5
 have hm9 : (Add g4 (Add g3 (Add g2 (Add g1 M)))) g3 := .inr hm6
 have hm10 : (Add g4 (Add g3 (Add g2 (Add g1 M)))) g4 := .inl Z
 refine lw_op Z Z Z (ow_alloc Z (Tryd.zeroValue27 _) hC5 fun g5 w6 hg9 hg10 ho14 hb6 hl6 hC6 => ?_)
 have hn7 := Nat.ne_of_lt (Nat.lt_of_lt_of_le ho11.lt hg9)
 have ho15 := ho11.no hb6
 have hm11 : (Add g5 (Add g4 (Add g3 (Add g2 (Add g1 M))))) g1 := .inr hm7
 have hn8 := Nat.ne_of_lt (Nat.lt_of_lt_of_le ho12.lt hg9)
 have ho16 := ho12.no hb6
 have hm12 : (Add g5 (Add g4 (Add g3 (Add g2 (Add g1 M))))) g2 := .inr hm8
 have hn9 := Nat.ne_of_lt (Nat.lt_of_lt_of_le ho13.lt hg9)
 have ho17 := ho13.no hb6
 have hm13 : (Add g5 (Add g4 (Add g3 (Add g2 (Add g1 M))))) g3 := .inr hm9
 have hn10 := Nat.ne_of_lt (Nat.lt_of_lt_of_le ho10.lt hg9)
 have ho18 := ho10.no hb6
 have hm14 : (Add g5 (Add g4 (Add g3 (Add g2 (Add g1 M))))) g4 := .inr hm10
 have hm15 : (Add g5 (Add g4 (Add g3 (Add g2 (Add g1 M))))) g5 := .inl Z
 obtain ⟨A2, c2, rfl, hw2⟩ := open_Box hv3
 refine lw_op0 Z Z (ow_store (X := No) (us := [(.slice A2 x2.1.Sides.length c2)]) (cs' := #[(.slice A2 x2.1.Sides.length c2)]) Z Z Z Z ho18 (Tryd.sizeOf27 _) Z Z Z Z hm14 (.inl hg8) Z hC6 fun w7 ho19 hb7 hl7 hC7 => ?_)
 have ho20 := ho15.go hb7 (fun e => hn4 e)
 have ho21 := ho16.go hb7 (fun e => hn5 e)
 have ho22 := ho17.go hb7 (fun e => hn6 e)
 have ho23 := ho14.go hb7 (fun e => hn10 e.symm)
 obtain ⟨A3, c3, rfl, hw3⟩ := open_Box hv4
 refine lw_op0 Z Z (ow_store (X := No) (us := [(.slice A3 x2.2.1.Sides.length c3)]) (cs' := #[(.slice A3 x2.2.1.Sides.length c3)]) Z Z Z Z ho23 (Tryd.sizeOf27 _) Z Z Z Z hm15 (.inl hg10) Z hC7 fun w8 ho24 hb8 hl8 hC8 => ?_)
 have ho25 := ho20.go hb8 (fun e => hn7 e)
 have ho26 := ho21.go hb8 (fun e => hn8 e)
 have ho27 := ho22.go hb8 (fun e => hn9 e)
 have ho28 := ho19.go hb8 (fun e => hn10 e)
 refine lw_nil (ew_then (cw_seq (cw_seq (cw_region (lw_op Z Z Z (ow_move Z Z ?_))))))
 have hz2 := ((((hl4.trans hl5).trans hl6).trans hl7).trans hl8)
 replace h := bind_some h
 obtain ⟨x3, hx3, h⟩ := h
 have hz3 := (((((hz1.trans hl4).trans hl5).trans hl6).trans hl7).trans hl8)
 refine lw_op Z Z Z (ow_call Z Z Tryd.call87 (w_spec_l20Rd_pick (hG.mono hz3) hC8.old (VRep.mono hz2 hw1) ho27 hm13 hx3) fun v5 w9 hv5 => ?_)
 obtain ⟨⟨hv5, ho29⟩, hb9⟩ := hv5
 have hl9 := Le.of_bx (Add g5 (Add g4 (Add g3 (Add g2 (Add g1 M))))) hb9 (fun b e => (by rw [show b = g3 from e]; exact hm13))
 have hC9 := hC8.go hb9 (fun b e => (by rw [show b = g3 from e]; exact (.inl hg6)))
 have ho30 := ho25.go hb9 (fun e => hn2 e)
 have ho31 := ho26.go hb9 (fun e => hn3 e)
 have ho32 := ho28.go hb9 (fun e => hn6 e.symm)
 have ho33 := ho24.go hb9 (fun e => hn9 e.symm)
 obtain rfl := vint_eq hv5
 refine lw_op Z Z Z (ow_eqlI Z Z Z fun bb1 hbb1 => lw_nil (ew_then ?_))
 replace h := cond_some h
 rcases h with ⟨hc1, h⟩ | ⟨hc1, h⟩
 ·
  obtain rfl := hbb1.trans hc1
  refine cw_true Z (cw_seq (cw_tree (by kernel_rfl) fun w10 hS1 => ?_))
  have hl10 := Le.no (Add g5 (Add g4 (Add g3 (Add g2 (Add g1 M))))) hS1
  have hC10 := hC9.no hS1
  have ho34 := ho30.no hS1
  have ho35 := ho31.no hS1
  have ho37 := ho32.no hS1
  refine tw_step (i := 0) (js := [1]) (by kernel_rfl) ⟨?_, ?_, trivial⟩
  ·
   refine nd_op Z Z Z Z (ow_loadOwnA Z Z Z ho37 (Tryd.isAgg27 _) (Tryd.sizeOf27 _) Z ?_)
   have hz4 := (((((hl5.trans hl6).trans hl7).trans hl8).trans hl9).trans hl10)
   refine tw_step (i := 1) (js := [2]) (by kernel_rfl) ⟨?_, ?_, trivial⟩
   ·
    refine nd_op Z Z Z Z (ow_loadOwnA Z Z Z ho37 (Tryd.isAgg27 _) (Tryd.sizeOf27 _) Z (tw_step (i := 2) (js := []) (by kernel_rfl) ⟨(nd_op0 Z Z Z (ow_store (X := No) (us := [(.slice A2 x2.1.Sides.length c2)]) (cs' := #[(.slice A2 x2.1.Sides.length c2)]) Z Z Z Z ho34 (Tryd.sizeOf27 _) Z Z Z Z hm11 (.inl hg2) Z hC10 fun w11 ho39 hb10 hl11 hC11 => ?_)), trivial⟩))
    have ho40 := ho35.go hb10 (fun e => hn1 e.symm)
    refine tw_step (i := 3) (js := []) (by kernel_rfl) ⟨(nd_op0 Z Z Z (ow_store (X := No) (us := [(.slice A2 x2.1.Sides.length c2)]) (cs' := #[(.slice A2 x2.1.Sides.length c2)]) Z Z Z Z ho40 (Tryd.sizeOf27 _) Z Z Z Z hm12 (.inl hg4) Z hC11 fun w12 ho44 hb11 hl12 hC12 => ?_)), trivial⟩
    have ho45 := ho39.go hb11 (fun e => hn1 e)
    refine tw_end (by kernel_rfl) (ew_then (cw_ret (ew_thenR ?_)))
    have hz5 := ((hz4.trans hl11).trans hl12)
    have hw6 : VRep RBox w12 (Add g5 (Add g4 (Add g3 (Add g2 (Add g1 M))))) ({ Sides := x2.1.Sides } : Box) (.agg #[(.slice A2 x2.1.Sides.length c2)]) := shut_Box (VRep.mono hz5 hw2)
    have hw7 : VRep RBox w12 (Add g5 (Add g4 (Add g3 (Add g2 (Add g1 M))))) ({ Sides := x2.1.Sides } : Box) (.agg #[(.slice A2 x2.1.Sides.length c2)]) := shut_Box (VRep.mono hz5 hw2)
    obtain rfl := Option.some.inj h
    exact ew_ret (res2 Z (.cell Z (own_loadVarA ho45 (Tryd.isAgg27 _) (Tryd.sizeOf27 _) Z)) (.cell Z (own_loadVarA ho44 (Tryd.isAgg27 _) (Tryd.sizeOf27 _) Z))) ⟨_, Z, ⟨_, _, Z, (hw6.mono hC12.back), (hw7.mono hC12.back)⟩, hC12.bx⟩
   ·
    refine nd_op0 Z Z Z (ow_store (X := No) (us := [(.slice A2 x2.1.Sides.length c2)]) (cs' := #[(.slice A2 x2.1.Sides.length c2)]) Z Z Z Z ho34 (Tryd.sizeOf27 _) Z Z Z Z hm11 (.inl hg2) Z hC10 fun w13 ho49 hb12 hl13 hC13 => ?_)
    have ho50 := ho35.go hb12 (fun e => hn1 e.symm)
    have ho52 := ho37.go hb12 (fun e => hn4 e.symm)
    refine tw_step (i := 1) (js := []) (by kernel_rfl) ⟨(nd_op Z Z Z Z (ow_loadOwnA Z Z Z ho52 (Tryd.isAgg27 _) (Tryd.sizeOf27 _) Z (tw_step (i := 3) (js := []) (by kernel_rfl) ⟨(nd_op0 Z Z Z (ow_store (X := No) (us := [(.slice A2 x2.1.Sides.length c2)]) (cs' := #[(.slice A2 x2.1.Sides.length c2)]) Z Z Z Z ho50 (Tryd.sizeOf27 _) Z Z Z Z hm12 (.inl hg4) Z hC13 fun w14 ho54 hb13 hl14 hC14 => ?_)), trivial⟩))), trivial⟩
    have ho55 := ho49.go hb13 (fun e => hn1 e)
    refine tw_end (by kernel_rfl) (ew_then (cw_ret (ew_thenR ?_)))
    have hz6 := ((hz4.trans hl13).trans hl14)
    have hw9 : VRep RBox w14 (Add g5 (Add g4 (Add g3 (Add g2 (Add g1 M))))) ({ Sides := x2.1.Sides } : Box) (.agg #[(.slice A2 x2.1.Sides.length c2)]) := shut_Box (VRep.mono hz6 hw2)
    have hw10 : VRep RBox w14 (Add g5 (Add g4 (Add g3 (Add g2 (Add g1 M))))) ({ Sides := x2.1.Sides } : Box) (.agg #[(.slice A2 x2.1.Sides.length c2)]) := shut_Box (VRep.mono hz6 hw2)
    obtain rfl := Option.some.inj h
    exact ew_ret (res2 Z (.cell Z (own_loadVarA ho55 (Tryd.isAgg27 _) (Tryd.sizeOf27 _) Z)) (.cell Z (own_loadVarA ho54 (Tryd.isAgg27 _) (Tryd.sizeOf27 _) Z))) ⟨_, Z, ⟨_, _, Z, (hw9.mono hC14.back), (hw10.mono hC14.back)⟩, hC14.bx⟩
  ·
   refine nd_op Z Z Z Z (ow_loadOwnA Z Z Z ho37 (Tryd.isAgg27 _) (Tryd.sizeOf27 _) Z ?_)
   have hz7 := (((((hl5.trans hl6).trans hl7).trans hl8).trans hl9).trans hl10)
   refine tw_step (i := 0) (js := []) (by kernel_rfl) ⟨(nd_op Z Z Z Z (ow_loadOwnA Z Z Z ho37 (Tryd.isAgg27 _) (Tryd.sizeOf27 _) Z (tw_step (i := 2) (js := []) (by kernel_rfl) ⟨(nd_op0 Z Z Z (ow_store (X := No) (us := [(.slice A2 x2.1.Sides.length c2)]) (cs' := #[(.slice A2 x2.1.Sides.length c2)]) Z Z Z Z ho34 (Tryd.sizeOf27 _) Z Z Z Z hm11 (.inl hg2) Z hC10 fun w15 ho59 hb14 hl15 hC15 => ?_)), trivial⟩))), trivial⟩
   have ho60 := ho35.go hb14 (fun e => hn1 e.symm)
   refine tw_step (i := 3) (js := []) (by kernel_rfl) ⟨(nd_op0 Z Z Z (ow_store (X := No) (us := [(.slice A2 x2.1.Sides.length c2)]) (cs' := #[(.slice A2 x2.1.Sides.length c2)]) Z Z Z Z ho60 (Tryd.sizeOf27 _) Z Z Z Z hm12 (.inl hg4) Z hC15 fun w16 ho64 hb15 hl16 hC16 => ?_)), trivial⟩
   have ho65 := ho59.go hb15 (fun e => hn1 e)
   refine tw_end (by kernel_rfl) (ew_then (cw_ret (ew_thenR ?_)))
   have hz8 := ((hz7.trans hl15).trans hl16)
   have hw13 : VRep RBox w16 (Add g5 (Add g4 (Add g3 (Add g2 (Add g1 M))))) ({ Sides := x2.1.Sides } : Box) (.agg #[(.slice A2 x2.1.Sides.length c2)]) := shut_Box (VRep.mono hz8 hw2)
   have hw14 : VRep RBox w16 (Add g5 (Add g4 (Add g3 (Add g2 (Add g1 M))))) ({ Sides := x2.1.Sides } : Box) (.agg #[(.slice A2 x2.1.Sides.length c2)]) := shut_Box (VRep.mono hz8 hw2)
   obtain rfl := Option.some.inj h
   exact ew_ret (res2 Z (.cell Z (own_loadVarA ho65 (Tryd.isAgg27 _) (Tryd.sizeOf27 _) Z)) (.cell Z (own_loadVarA ho64 (Tryd.isAgg27 _) (Tryd.sizeOf27 _) Z))) ⟨_, Z, ⟨_, _, Z, (hw13.mono hC16.back), (hw14.mono hC16.back)⟩, hC16.bx⟩
 ·
  obtain rfl := hbb1.trans hc1
  refine cw_false Z (cw_skip (ew_then (cw_seq (cw_tree (by kernel_rfl) fun w17 hS2 => ?_))))
  have hl17 := Le.no (Add g5 (Add g4 (Add g3 (Add g2 (Add g1 M))))) hS2
  have hC17 := hC9.no hS2
  have ho69 := ho30.no hS2
  have ho70 := ho31.no hS2
  have ho72 := ho32.no hS2
  have ho73 := ho33.no hS2
  refine tw_step (i := 0) (js := [1]) (by kernel_rfl) ⟨?_, ?_, trivial⟩
  ·
   refine nd_op Z Z Z Z (ow_loadOwnA Z Z Z ho72 (Tryd.isAgg27 _) (Tryd.sizeOf27 _) Z ?_)
   have hz9 := (((((hl5.trans hl6).trans hl7).trans hl8).trans hl9).trans hl17)
   refine tw_step (i := 1) (js := [2]) (by kernel_rfl) ⟨?_, ?_, trivial⟩
   ·
    refine nd_op Z Z Z Z (ow_loadOwnA Z Z Z ho73 (Tryd.isAgg27 _) (Tryd.sizeOf27 _) Z (tw_step (i := 2) (js := []) (by kernel_rfl) ⟨(nd_op0 Z Z Z (ow_store (X := No) (us := [(.slice A2 x2.1.Sides.length c2)]) (cs' := #[(.slice A2 x2.1.Sides.length c2)]) Z Z Z Z ho69 (Tryd.sizeOf27 _) Z Z Z Z hm11 (.inl hg2) Z hC17 fun w18 ho74 hb16 hl18 hC18 => ?_)), trivial⟩))
    have ho75 := ho70.go hb16 (fun e => hn1 e.symm)
    refine tw_step (i := 3) (js := []) (by kernel_rfl) ⟨(nd_op0 Z Z Z (ow_store (X := No) (us := [(.slice A3 x2.2.1.Sides.length c3)]) (cs' := #[(.slice A3 x2.2.1.Sides.length c3)]) Z Z Z Z ho75 (Tryd.sizeOf27 _) Z Z Z Z hm12 (.inl hg4) Z hC18 fun w19 ho79 hb17 hl19 hC19 => ?_)), trivial⟩
    have ho80 := ho74.go hb17 (fun e => hn1 e)
    refine tw_end (by kernel_rfl) (ew_then (cw_ret ?_))
    have hz10 := ((hz9.trans hl18).trans hl19)
    have hw17 : VRep RBox w19 (Add g5 (Add g4 (Add g3 (Add g2 (Add g1 M))))) ({ Sides := x2.1.Sides } : Box) (.agg #[(.slice A2 x2.1.Sides.length c2)]) := shut_Box (VRep.mono hz10 hw2)
    have hw18 : VRep RBox w19 (Add g5 (Add g4 (Add g3 (Add g2 (Add g1 M))))) ({ Sides := x2.2.1.Sides } : Box) (.agg #[(.slice A3 x2.2.1.Sides.length c3)]) := shut_Box (VRep.mono hz10 hw3)
    obtain rfl := Option.some.inj h
    exact ew_ret (res2 Z (.cell Z (own_loadVarA ho80 (Tryd.isAgg27 _) (Tryd.sizeOf27 _) Z)) (.cell Z (own_loadVarA ho79 (Tryd.isAgg27 _) (Tryd.sizeOf27 _) Z))) ⟨_, Z, ⟨_, _, Z, (hw17.mono hC19.back), (hw18.mono hC19.back)⟩, hC19.bx⟩
   ·
    refine nd_op0 Z Z Z (ow_store (X := No) (us := [(.slice A2 x2.1.Sides.length c2)]) (cs' := #[(.slice A2 x2.1.Sides.length c2)]) Z Z Z Z ho69 (Tryd.sizeOf27 _) Z Z Z Z hm11 (.inl hg2) Z hC17 fun w20 ho84 hb18 hl20 hC20 => ?_)
    have ho85 := ho70.go hb18 (fun e => hn1 e.symm)
    have ho88 := ho73.go hb18 (fun e => hn7 e.symm)
    refine tw_step (i := 1) (js := []) (by kernel_rfl) ⟨(nd_op Z Z Z Z (ow_loadOwnA Z Z Z ho88 (Tryd.isAgg27 _) (Tryd.sizeOf27 _) Z (tw_step (i := 3) (js := []) (by kernel_rfl) ⟨(nd_op0 Z Z Z (ow_store (X := No) (us := [(.slice A3 x2.2.1.Sides.length c3)]) (cs' := #[(.slice A3 x2.2.1.Sides.length c3)]) Z Z Z Z ho85 (Tryd.sizeOf27 _) Z Z Z Z hm12 (.inl hg4) Z hC20 fun w21 ho89 hb19 hl21 hC21 => ?_)), trivial⟩))), trivial⟩
    have ho90 := ho84.go hb19 (fun e => hn1 e)
    refine tw_end (by kernel_rfl) (ew_then (cw_ret ?_))
    have hz11 := ((hz9.trans hl20).trans hl21)
    have hw20 : VRep RBox w21 (Add g5 (Add g4 (Add g3 (Add g2 (Add g1 M))))) ({ Sides := x2.1.Sides } : Box) (.agg #[(.slice A2 x2.1.Sides.length c2)]) := shut_Box (VRep.mono hz11 hw2)
    have hw21 : VRep RBox w21 (Add g5 (Add g4 (Add g3 (Add g2 (Add g1 M))))) ({ Sides := x2.2.1.Sides } : Box) (.agg #[(.slice A3 x2.2.1.Sides.length c3)]) := shut_Box (VRep.mono hz11 hw3)
    obtain rfl := Option.some.inj h
    exact ew_ret (res2 Z (.cell Z (own_loadVarA ho90 (Tryd.isAgg27 _) (Tryd.sizeOf27 _) Z)) (.cell Z (own_loadVarA ho89 (Tryd.isAgg27 _) (Tryd.sizeOf27 _) Z))) ⟨_, Z, ⟨_, _, Z, (hw20.mono hC21.back), (hw21.mono hC21.back)⟩, hC21.bx⟩
  ·
   refine nd_op Z Z Z Z (ow_loadOwnA Z Z Z ho73 (Tryd.isAgg27 _) (Tryd.sizeOf27 _) Z ?_)
   have hz12 := (((((hl5.trans hl6).trans hl7).trans hl8).trans hl9).trans hl17)
   refine tw_step (i := 0) (js := []) (by kernel_rfl) ⟨(nd_op Z Z Z Z (ow_loadOwnA Z Z Z ho72 (Tryd.isAgg27 _) (Tryd.sizeOf27 _) Z (tw_step (i := 2) (js := []) (by kernel_rfl) ⟨(nd_op0 Z Z Z (ow_store (X := No) (us := [(.slice A2 x2.1.Sides.length c2)]) (cs' := #[(.slice A2 x2.1.Sides.length c2)]) Z Z Z Z ho69 (Tryd.sizeOf27 _) Z Z Z Z hm11 (.inl hg2) Z hC17 fun w22 ho94 hb20 hl22 hC22 => ?_)), trivial⟩))), trivial⟩
   have ho95 := ho70.go hb20 (fun e => hn1 e.symm)
   refine tw_step (i := 3) (js := []) (by kernel_rfl) ⟨(nd_op0 Z Z Z (ow_store (X := No) (us := [(.slice A3 x2.2.1.Sides.length c3)]) (cs' := #[(.slice A3 x2.2.1.Sides.length c3)]) Z Z Z Z ho95 (Tryd.sizeOf27 _) Z Z Z Z hm12 (.inl hg4) Z hC22 fun w23 ho99 hb21 hl23 hC23 => ?_)), trivial⟩
   have ho100 := ho94.go hb21 (fun e => hn1 e)
   refine tw_end (by kernel_rfl) (ew_then (cw_ret ?_))
   have hz13 := ((hz12.trans hl22).trans hl23)
   have hw24 : VRep RBox w23 (Add g5 (Add g4 (Add g3 (Add g2 (Add g1 M))))) ({ Sides := x2.1.Sides } : Box) (.agg #[(.slice A2 x2.1.Sides.length c2)]) := shut_Box (VRep.mono hz13 hw2)
   have hw25 : VRep RBox w23 (Add g5 (Add g4 (Add g3 (Add g2 (Add g1 M))))) ({ Sides := x2.2.1.Sides } : Box) (.agg #[(.slice A3 x2.2.1.Sides.length c3)]) := shut_Box (VRep.mono hz13 hw3)
   obtain rfl := Option.some.inj h
   exact ew_ret (res2 Z (.cell Z (own_loadVarA ho100 (Tryd.isAgg27 _) (Tryd.sizeOf27 _) Z)) (.cell Z (own_loadVarA ho99 (Tryd.isAgg27 _) (Tryd.sizeOf27 _) Z))) ⟨_, Z, ⟨_, _, Z, (hw24.mono hC23.back), (hw25.mono hC23.back)⟩, hC23.bx⟩

theorem w_impl_topValid {w : World} {M : Nat → Prop} (_hG : ARep (RArr 4 RShape) w M shapes ⟨0, 0, none⟩) (hO : ∀ b, M b → b < w.heap.size) {a_top : Int} {r : Bool} (h : F.impl_topValid a_top = some r) :
  Calls Tryd.prog 101 [(.int .i64 a_top)].toArray w fun e w' => ∃ v, e = .returned v ∧ VRep RBool w' M r v ∧ BX No w w' := by
 have hC : Cx No w M w M := Cx.start hO (fun _ e => e.elim)
 clear _hG
 refine walk (N := 9) Tryd.func101 Z Tryd.ntmps101 Z (cw_seq (cw_region (lw_op Z Z Z (ow_assign Z Z (lw_nil (ew_then (cw_seq (cw_region (lw_op Z Z Z (ow_move Z Z (lw_op Z Z Z (ow_geq Z Z Z fun bb1 hbb1 => lw_op Z Z Z (ow_move Z Z ?_)))))))))))))
 replace h := cond_some h
 rcases h with ⟨hc1, h⟩ | ⟨hc1, h⟩
 ·
  obtain rfl := hbb1.trans hc1
  refine lw_on Z Z Z Z Z Z (ow_move Z Z (lw_on Z Z Z Z Z Z (ow_leq Z Z Z fun bb2 hbb2 => lw_op Z Z Z (ow_pickT Z Z Z (lw_op Z Z Z (ow_assign Z Z (lw_nil (ew_then (cw_ret ?_)))))))))
  obtain rfl := Option.some.inj h
  exact ew_ret (res1 Z (.tmp Z)) ⟨_, Z, ((vbool_of hbb2)), hC.bx⟩
 ·
  obtain rfl := hbb1.trans hc1
  refine lw_off Z Z Z Z Z Z (lw_off Z Z Z Z Z Z (lw_op Z Z Z (ow_pickF Z Z Z (lw_op Z Z Z (ow_assign Z Z (lw_nil (ew_then (cw_ret ?_))))))))
  obtain rfl := Option.some.inj h
  exact ew_ret (res1 Z (.tmp Z)) ⟨_, Z, ((vbool _)), hC.bx⟩

theorem w_impl_SpansValid {w : World} {M : Nat → Prop} (hG : ARep (RArr 4 RShape) w M shapes ⟨0, 0, none⟩) (hO : ∀ b, M b → b < w.heap.size) {v0p : Value} {a_list : List Span} (h0 : VRep (RSlice RSpan) w M a_list v0p) {a_top : Int} {r : Bool} (h : F.impl_SpansValid a_list a_top = some r) :
  Calls Tryd.prog 68 [v0p, (.int .i64 a_top)].toArray w fun e w' => ∃ v, e = .returned v ∧ VRep RBool w' M r v ∧ BX No w w' := by
 have hC : Cx No w M w M := Cx.start hO (fun _ e => e.elim)
 refine walk (N := 43) Tryd.func68 Z Tryd.ntmps68 Z (cw_seq (cw_region (lw_op Z Z Z (ow_assign Z Z (lw_nil (ew_then (cw_seq (cw_seq (cw_region (lw_op Z Z Z (ow_move Z Z ?_)))))))))))
 replace h := bind_some h
 obtain ⟨x1, hx1, h⟩ := h
 refine lw_op Z Z Z (ow_call Z Z Tryd.call101 (w_impl_topValid hG hC.old hx1) fun v1 w1 hv1 => ?_)
 obtain ⟨hv1, hb1⟩ := hv1
 have hl1 := Le.no M hb1
 have hC1 := hC.no hb1
 obtain rfl := vbool_eq hv1
 refine lw_op Z Z Z (ow_not Z Z (lw_op Z Z Z (ow_move Z Z ?_)))
 replace h := cond_some h
 rcases h with ⟨hc1, h⟩ | ⟨hc1, h⟩
 ·
  subst hc1
  refine lw_on Z Z Z Z Z Z (ow_move Z Z (lw_on Z Z Z Z Z Z (ow_len Z Z (VRep.mono hl1 h0) Tryd.underlying58 Z (lw_on Z Z Z Z Z Z (ow_gtr Z Z Z fun bb1 hbb1 => lw_op Z Z Z (ow_pickF Z Z Z (lw_nil (ew_then ?_))))))))
  replace h := cond_some h
  rcases h with ⟨hc2, h⟩ | ⟨hc2, h⟩
  ·
   obtain rfl := hbb1.trans hc2
   refine cw_true Z (cw_seq (cw_region (lw_op Z Z Z (ow_assign Z Z (lw_nil (ew_then (cw_ret (ew_thenR ?_))))))))
   obtain rfl := Option.some.inj h
   exact ew_ret (res1 Z (.tmp Z)) ⟨_, Z, ((vbool _)), hC1.bx⟩
  ·
   obtain rfl := hbb1.trans hc2
   refine cw_false Z (cw_skip (ew_then (cw_seq (cw_region (lw_op Z Z Z (ow_assign Z Z (lw_nil (ew_then (cw_seq (cw_seq (cw_region (lw_op Z Z Z (ow_move Z Z (lw_op Z Z Z (ow_len Z Z (VRep.mono hl1 h0) Tryd.underlying58 Z (lw_op Z Z Z (ow_move Z Z (lw_nil (ew_then ?_)))))))))))))))))))
   replace h := bind_some h
   obtain ⟨lr1, hlr1, h⟩ := h
   refine cw_for hlr1 (fun s a w' => ∃ (M' : Nat → Prop), Fits 43 [(1, (.int .i64 a_top)), (5, (.int .i64 s.1)), (16, v0p), (17, (.int .i64 (a_list.length : Int))), (18, (.int .i64 s.2))] a ∧ Le w1 M w' M' ∧ Cx No w M w' M') ?_ ?_ ?_
   ·
    intro a ha
    exact ⟨M, ha.sub ⟨Z, Z, Z, Z, Z, trivial⟩, Le.refl _ _, hC1⟩
   ·
    rintro ⟨k1, k2⟩ a w2 sr1 ⟨M1, hF1, hl2, hC2⟩ hb2 hR1
    refine cw_at (E := [(1, (.int .i64 a_top)), (5, (.int .i64 k1)), (16, v0p), (17, (.int .i64 (a_list.length : Int))), (18, (.int .i64 k2))]) hF1 (cw_seq (cw_region (lw_op Z Z Z (ow_lss Z Z Z fun bb2 hbb2 => lw_nil (ew_then (cw_seq ?_))))))
    replace hb2 := cond_some hb2
    rcases hb2 with ⟨hc3, hb2⟩ | ⟨hc3, hb2⟩
    ·
     obtain rfl := hbb2.trans hc3
     refine cw_true Z (cw_skip (ew_then (cw_seq (cw_block (cw_seq (cw_region ?_))))))
     replace hb2 := bind_some hb2
     obtain ⟨x2, hx2, hb2⟩ := hb2
     refine lw_op Z Z Z (ow_indexSlice (R := RSpan) Z Z Z (VRep.mono (hl1.trans hl2) h0) Tryd.underlying58 (Tryd.sizeOf76 _) hx2 fun p1 hp1 => lw_op Z Z Z (ow_load (R := RSpan) Z Z hp1 (Tryd.sizeOf76 _) (Tryd.isAgg76 _) fun v4 hv4 => lw_allocStore (R := RSpan) Z Z Z Z Z Z Z Tryd.zeroValue76 Tryd.sizeOf76 Z Z Z (by simp) hv4 hC2 fun p2 w3 hp2 hb3 hl3 hC3 => lw_nil (ew_then (cw_seq (cw_seq (cw_region (lw_op Z Z Z (ow_fieldAddr Z Z Tryd.underlying76 Z (Tryd.sizeOf3 _) (lw_op Z Z Z (ow_load (R := RInt) Z Z (hp2.fld fld_Span_Lo) (Tryd.sizeOf3 _) (Tryd.isAgg3 _) fun v5 hv5 => ?_))))))))))
     obtain rfl := vint_eq hv5
     refine lw_op Z Z Z (ow_move Z Z (lw_op Z Z Z (ow_add Z Z Z (lw_op Z Z Z (ow_leq Z Z Z fun bb3 hbb3 => lw_op Z Z Z (ow_move Z Z ?_))))))
     replace hb2 := cond_some hb2
     rcases hb2 with ⟨hc4, hb2⟩ | ⟨hc4, hb2⟩
     ·
      obtain rfl := hbb3.trans hc4
      refine lw_off Z Z Z Z Z Z (lw_off Z Z Z Z Z Z (lw_off Z Z Z Z Z Z (lw_off Z Z Z Z Z Z (lw_off Z Z Z Z Z Z (lw_op Z Z Z (ow_pickT Z Z Z (lw_op Z Z Z (ow_move Z Z (lw_off Z Z Z Z Z Z (lw_off Z Z Z Z Z Z (lw_off Z Z Z Z Z Z (lw_off Z Z Z Z Z Z (lw_op Z Z Z (ow_pickT Z Z Z (lw_nil (ew_then (cw_true Z (cw_seq (cw_region (lw_op Z Z Z (ow_assign Z Z (lw_nil (ew_then (cw_ret (ew_thenR (ew_blockR (ew_thenR (ew_thenR ?_))))))))))))))))))))))))))))
      refine ew_blockR (ew_brkR (ew_thenR ?_))
      have e1 := hR1 _ (Option.some.inj hb2).symm
      subst e1
      obtain rfl := Option.some.inj h
      exact ew_ret (res1 Z (.tmp Z)) ⟨_, Z, ((vbool _)), hC3.bx⟩
     ·
      obtain rfl := hbb3.trans hc4
      refine lw_on Z Z Z Z Z Z (ow_fieldAddr Z Z Tryd.underlying76 Z (Tryd.sizeOf3 _) (lw_on Z Z Z Z Z Z (ow_load (R := RInt) Z Z (hp2.fld fld_Span_Lo) (Tryd.sizeOf3 _) (Tryd.isAgg3 _) fun v6 hv6 => ?_)))
      obtain rfl := vint_eq hv6
      refine lw_on Z Z Z Z Z Z (ow_fieldAddr Z Z Tryd.underlying76 Z (Tryd.sizeOf3 _) (lw_on Z Z Z Z Z Z (ow_load (R := RInt) Z Z (hp2.fld fld_Span_Hi) (Tryd.sizeOf3 _) (Tryd.isAgg3 _) fun v7 hv7 => ?_)))
      obtain rfl := vint_eq hv7
      refine lw_on Z Z Z Z Z Z (ow_gtr Z Z Z fun bb4 hbb4 => lw_op Z Z Z (ow_pickF Z Z Z (lw_op Z Z Z (ow_move Z Z ?_))))
      replace hb2 := cond_some hb2
      rcases hb2 with ⟨hc5, hb2⟩ | ⟨hc5, hb2⟩
      ·
       obtain rfl := hbb4.trans hc5
       refine lw_off Z Z Z Z Z Z (lw_off Z Z Z Z Z Z (lw_off Z Z Z Z Z Z (lw_off Z Z Z Z Z Z (lw_op Z Z Z (ow_pickT Z Z Z (lw_nil (ew_then (cw_true Z (cw_seq (cw_region (lw_op Z Z Z (ow_assign Z Z (lw_nil (ew_then (cw_ret (ew_thenR (ew_blockR (ew_thenR (ew_thenR (ew_blockR (ew_brkR (ew_thenR ?_))))))))))))))))))))))
       have e2 := hR1 _ (Option.some.inj hb2).symm
       subst e2
       obtain rfl := Option.some.inj h
       exact ew_ret (res1 Z (.tmp Z)) ⟨_, Z, ((vbool _)), hC3.bx⟩
      ·
       obtain rfl := hbb4.trans hc5
       refine lw_on Z Z Z Z Z Z (ow_fieldAddr Z Z Tryd.underlying76 Z (Tryd.sizeOf3 _) (lw_on Z Z Z Z Z Z (ow_load (R := RInt) Z Z (hp2.fld fld_Span_Hi) (Tryd.sizeOf3 _) (Tryd.isAgg3 _) fun v8 hv8 => ?_)))
       obtain rfl := vint_eq hv8
       refine lw_on Z Z Z Z Z Z (ow_move Z Z (lw_on Z Z Z Z Z Z (ow_gtr Z Z Z fun bb5 hbb5 => lw_op Z Z Z (ow_pickF Z Z Z (lw_nil (ew_then ?_))))))
       replace hb2 := cond_some hb2
       rcases hb2 with ⟨hc6, hb2⟩ | ⟨hc6, hb2⟩
       ·
        obtain rfl := hbb5.trans hc6
        refine cw_true Z (cw_seq (cw_region (lw_op Z Z Z (ow_assign Z Z (lw_nil (ew_then (cw_ret (ew_thenR (ew_blockR (ew_thenR (ew_thenR (ew_blockR (ew_brkR (ew_thenR ?_))))))))))))))
        have e3 := hR1 _ (Option.some.inj hb2).symm
        subst e3
        obtain rfl := Option.some.inj h
        exact ew_ret (res1 Z (.tmp Z)) ⟨_, Z, ((vbool _)), hC3.bx⟩
       ·
        obtain rfl := hbb5.trans hc6
        refine cw_false Z (cw_skip (ew_then (cw_region (lw_op Z Z Z (ow_fieldAddr Z Z Tryd.underlying76 Z (Tryd.sizeOf3 _) (lw_op Z Z Z (ow_load (R := RInt) Z Z (hp2.fld fld_Span_Hi) (Tryd.sizeOf3 _) (Tryd.isAgg3 _) fun v9 hv9 => ?_)))))))
        obtain rfl := vint_eq hv9
        exact lw_op Z Z Z (ow_assign Z Z (lw_nil (ew_blockN (ew_then (cw_region (lw_op Z Z Z (ow_add Z Z Z (lw_op Z Z Z (ow_move Z Z (lw_nil (ew_nxt (x2.Hi, (W (k2 + 1))) hb2 fun a ha => ⟨M1, (ha.sub ⟨Z, Z, Z, Z, Z, trivial⟩), (hl2.trans hl3), hC3⟩)))))))))))
    ·
     obtain rfl := hbb2.trans hc3
     exact cw_false Z (cw_exit (ew_thenX (ew_thenX (ew_blockX (ew_brk (k1, k2) hb2 fun a ha => ⟨M1, (ha.sub ⟨Z, Z, Z, Z, Z, trivial⟩), hl2, hC2⟩)))))
   ·
    rintro ⟨k3, k4⟩ a w4 hlr2 ⟨M2, hF2, hl4, hC4⟩
    subst hlr2
    refine ew_at (E := [(1, (.int .i64 a_top)), (5, (.int .i64 k3)), (16, v0p), (17, (.int .i64 (a_list.length : Int))), (18, (.int .i64 k4))]) hF2 (ew_then (cw_seq (cw_region (lw_op Z Z Z (ow_assign Z Z (lw_nil (ew_then (cw_ret ?_))))))))
    obtain rfl := Option.some.inj h
    exact ew_ret (res1 Z (.tmp Z)) ⟨_, Z, ((vbool _)), hC4.bx⟩
 ·
  subst hc1
  refine lw_off Z Z Z Z Z Z (lw_off Z Z Z Z Z Z (lw_off Z Z Z Z Z Z (lw_op Z Z Z (ow_pickT Z Z Z (lw_nil (ew_then (cw_true Z (cw_seq (cw_region (lw_op Z Z Z (ow_assign Z Z (lw_nil (ew_then (cw_ret (ew_thenR ?_)))))))))))))))
  obtain rfl := Option.some.inj h
  exact ew_ret (res1 Z (.tmp Z)) ⟨_, Z, ((vbool _)), hC1.bx⟩

theorem w_impl_FieldTop {w : World} {M : Nat → Prop} (hG : ARep (RArr 4 RShape) w M shapes ⟨0, 0, none⟩) (hO : ∀ b, M b → b < w.heap.size) {a_n : Int} {r : Int} (h : F.impl_FieldTop a_n = some r) :
  Calls Tryd.prog 69 [(.int .i64 a_n)].toArray w fun e w' => ∃ v, e = .returned v ∧ VRep RInt w' M r v ∧ BX No w w' := by
 have hC : Cx No w M w M := Cx.start hO (fun _ e => e.elim)
 refine walk (N := 13) Tryd.func69 Z Tryd.ntmps69 Z (cw_seq (cw_region (lw_op Z Z Z (ow_assign Z Z (lw_nil (ew_then (cw_seq (cw_seq (cw_region (lw_op Z Z Z (ow_move Z Z (lw_op Z Z Z (ow_lss Z Z Z fun bb1 hbb1 => lw_op Z Z Z (ow_move Z Z ?_))))))))))))))
 replace h := cond_some h
 rcases h with ⟨hc1, h⟩ | ⟨hc1, h⟩
 ·
  obtain rfl := hbb1.trans hc1
  refine lw_off Z Z Z Z Z Z (lw_off Z Z Z Z Z Z (lw_op Z Z Z (ow_pickT Z Z Z (lw_nil (ew_then (cw_true Z (cw_seq (cw_region (lw_op Z Z Z (ow_assign Z Z (lw_nil (ew_then (cw_ret (ew_thenR ?_))))))))))))))
  obtain rfl := Option.some.inj h
  exact ew_ret (res1 Z (.tmp Z)) ⟨_, Z, ((vint _)), hC.bx⟩
 ·
  obtain rfl := hbb1.trans hc1
  refine lw_on Z Z Z Z Z Z (ow_move Z Z (lw_on Z Z Z Z Z Z (ow_geq Z Z Z fun bb2 hbb2 => lw_op Z Z Z (ow_pickF Z Z Z (lw_nil (ew_then ?_))))))
  replace h := cond_some h
  rcases h with ⟨hc2, h⟩ | ⟨hc2, h⟩
  ·
   obtain rfl := hbb2.trans hc2
   refine cw_true Z (cw_seq (cw_region (lw_op Z Z Z (ow_assign Z Z (lw_nil (ew_then (cw_ret (ew_thenR ?_))))))))
   obtain rfl := Option.some.inj h
   exact ew_ret (res1 Z (.tmp Z)) ⟨_, Z, ((vint _)), hC.bx⟩
  ·
   obtain rfl := hbb2.trans hc2
   refine cw_false Z (cw_skip (ew_then (cw_seq (cw_region (lw_op Z Z Z (ow_move Z Z ?_))))))
   replace h := bind_some h
   obtain ⟨x1, hx1, h⟩ := h
   refine lw_op Z Z Z (ow_indexArr (R := RShape) Z Z Z hG Tryd.underlying109 (Tryd.sizeOf108 _) hx1 fun p1 hp1 => lw_op Z Z Z (ow_fieldAddr Z Z Tryd.underlying108 Z (Tryd.sizeOf3 _) (lw_op Z Z Z (ow_load (R := RInt) Z Z (hp1.fld fld_Shape_top) (Tryd.sizeOf3 _) (Tryd.isAgg3 _) fun v1 hv1 => ?_))))
   obtain rfl := vint_eq hv1
   refine lw_op Z Z Z (ow_assign Z Z (lw_nil (ew_then (cw_ret ?_))))
   obtain rfl := Option.some.inj h
   exact ew_ret (res1 Z (.tmp Z)) ⟨_, Z, ((vint _)), hC.bx⟩

theorem w_impl_BoxValid {w : World} {M : Nat → Prop} (hG : ARep (RArr 4 RShape) w M shapes ⟨0, 0, none⟩) (hO : ∀ b, M b → b < w.heap.size) {v0p : Value} {a_b : Box} (h0 : VRep RBox w M a_b v0p) {r : Bool} (h : F.impl_BoxValid a_b = some r) :
  Calls Tryd.prog 30 [v0p].toArray w fun e w' => ∃ v, e = .returned v ∧ VRep RBool w' M r v ∧ BX No w w' := by
 have hC : Cx No w M w M := Cx.start hO (fun _ e => e.elim)
 refine walk (N := 23) Tryd.func30 Z Tryd.ntmps30 Z (cw_seq (cw_region (lw_op Z Z Z (ow_box (R := RBox) Z Z h0 hC fun p1 w1 hp1 hb1 hl1 hC1 => lw_op Z Z Z (ow_assign Z Z (lw_nil (ew_then (cw_seq (cw_seq (cw_region (lw_op Z Z Z (ow_fieldAddr Z Z Tryd.underlying27 Z (Tryd.sizeOf25 _) (lw_op Z Z Z (ow_load (R := (RSlice (RSlice RSpan))) Z Z (hp1.fld fld_Box_Sides) (Tryd.sizeOf25 _) (Tryd.isAgg25 _) fun v1 hv1 => lw_op Z Z Z (ow_len Z Z hv1 Tryd.underlying25 Z (lw_op Z Z Z (ow_neqI Z Z Z fun bb1 hbb1 => lw_nil (ew_then ?_))))))))))))))))))
 replace h := cond_some h
 rcases h with ⟨hc1, h⟩ | ⟨hc1, h⟩
 ·
  obtain rfl := hbb1.trans hc1
  refine cw_true Z (cw_seq (cw_region (lw_op Z Z Z (ow_assign Z Z (lw_nil (ew_then (cw_ret (ew_thenR ?_))))))))
  obtain rfl := Option.some.inj h
  exact ew_ret (res1 Z (.tmp Z)) ⟨_, Z, ((vbool _)), hC1.bx⟩
 ·
  obtain rfl := hbb1.trans hc1
  refine cw_false Z (cw_skip (ew_then (cw_seq (cw_seq (cw_region (lw_op Z Z Z (ow_fieldAddr Z Z Tryd.underlying27 Z (Tryd.sizeOf25 _) (lw_op Z Z Z (ow_load (R := (RSlice (RSlice RSpan))) Z Z (hp1.fld fld_Box_Sides) (Tryd.sizeOf25 _) (Tryd.isAgg25 _) fun v2 hv2 => lw_op Z Z Z (ow_len Z Z hv2 Tryd.underlying25 Z (lw_op Z Z Z (ow_move Z Z (lw_nil (ew_then ?_))))))))))))))
  replace h := bind_some h
  obtain ⟨lr1, hlr1, h⟩ := h
  refine cw_for hlr1 (fun s a w' => ∃ (M' : Nat → Prop), Fits 23 [(10, v2), (11, (.int .i64 (a_b.Sides.length : Int))), (12, (.int .i64 s))] a ∧ Le w1 M w' M' ∧ Cx No w M w' M') ?_ ?_ ?_
  ·
   intro a ha
   exact ⟨M, ha.sub ⟨Z, Z, Z, trivial⟩, Le.refl _ _, hC1⟩
  ·
   rintro k1 a w2 sr1 ⟨M1, hF1, hl2, hC2⟩ hb2 hR1
   refine cw_at (E := [(10, v2), (11, (.int .i64 (a_b.Sides.length : Int))), (12, (.int .i64 k1))]) hF1 (cw_seq (cw_region (lw_op Z Z Z (ow_lss Z Z Z fun bb2 hbb2 => lw_nil (ew_then (cw_seq ?_))))))
   replace hb2 := cond_some hb2
   rcases hb2 with ⟨hc2, hb2⟩ | ⟨hc2, hb2⟩
   ·
    obtain rfl := hbb2.trans hc2
    refine cw_true Z (cw_skip (ew_then (cw_seq (cw_block (cw_seq (cw_region (lw_op Z Z Z (ow_move Z Z ?_))))))))
    replace hb2 := bind_some hb2
    obtain ⟨x1, hx1, hb2⟩ := hb2
    refine lw_op Z Z Z (ow_indexSlice (R := (RSlice RSpan)) Z Z Z (VRep.mono hl2 hv2) Tryd.underlying25 (Tryd.sizeOf58 _) hx1 fun p2 hp2 => lw_op Z Z Z (ow_load (R := (RSlice RSpan)) Z Z hp2 (Tryd.sizeOf58 _) (Tryd.isAgg58 _) fun v4 hv4 => lw_op Z Z Z (ow_assign Z Z (lw_op Z Z Z (ow_assign Z Z (lw_nil (ew_then (cw_seq (cw_region (lw_op Z Z Z (ow_move Z Z (lw_op Z Z Z (ow_move Z Z ?_)))))))))))))
    replace hb2 := bind_some hb2
    obtain ⟨x2, hx2, hb2⟩ := hb2
    refine lw_op Z Z Z (ow_call Z Z Tryd.call69 (w_impl_FieldTop (hG.mono (hl1.trans hl2)) hC2.old hx2) fun v5 w3 hv5 => ?_)
    obtain ⟨hv5, hb3⟩ := hv5
    have hl3 := Le.no M1 hb3
    have hC3 := hC2.no hb3
    obtain rfl := vint_eq hv5
    replace hb2 := bind_some hb2
    obtain ⟨x3, hx3, hb2⟩ := hb2
    have hz1 := ((hl1.trans hl2).trans hl3)
    refine lw_op Z Z Z (ow_call Z Z Tryd.call68 (w_impl_SpansValid (hG.mono hz1) hC3.old (VRep.mono hl3 hv4) hx3) fun v6 w4 hv6 => ?_)
    obtain ⟨hv6, hb4⟩ := hv6
    have hl4 := Le.no M1 hb4
    have hC4 := hC3.no hb4
    obtain rfl := vbool_eq hv6
    refine lw_op Z Z Z (ow_not Z Z (lw_nil (ew_then ?_)))
    replace hb2 := cond_some hb2
    rcases hb2 with ⟨hc3, hb2⟩ | ⟨hc3, hb2⟩
    ·
     subst hc3
     refine cw_false Z (cw_skip (ew_blockN (ew_then (cw_region (lw_op Z Z Z (ow_add Z Z Z (lw_op Z Z Z (ow_move Z Z (lw_nil ?_)))))))))
     have hz2 := ((hl2.trans hl3).trans hl4)
     exact ew_nxt (W (k1 + 1)) hb2 fun a ha => ⟨M1, (ha.sub ⟨Z, Z, Z, trivial⟩), hz2, hC4⟩
    ·
     subst hc3
     refine cw_true Z (cw_seq (cw_region (lw_op Z Z Z (ow_assign Z Z (lw_nil (ew_then (cw_ret (ew_blockR (ew_thenR (ew_thenR (ew_blockR (ew_brkR (ew_thenR ?_)))))))))))))
     have e1 := hR1 _ (Option.some.inj hb2).symm
     subst e1
     obtain rfl := Option.some.inj h
     exact ew_ret (res1 Z (.tmp Z)) ⟨_, Z, ((vbool _)), hC4.bx⟩
   ·
    obtain rfl := hbb2.trans hc2
    exact cw_false Z (cw_exit (ew_thenX (ew_thenX (ew_blockX (ew_brk k1 hb2 fun a ha => ⟨M1, (ha.sub ⟨Z, Z, Z, trivial⟩), hl2, hC2⟩)))))
  ·
   rintro k2 a w5 hlr2 ⟨M2, hF2, hl5, hC5⟩
   subst hlr2
   refine ew_at (E := [(10, v2), (11, (.int .i64 (a_b.Sides.length : Int))), (12, (.int .i64 k2))]) hF2 (ew_then (cw_seq (cw_region (lw_op Z Z Z (ow_assign Z Z (lw_nil (ew_then (cw_ret ?_))))))))
   obtain rfl := Option.some.inj h
   exact ew_ret (res1 Z (.tmp Z)) ⟨_, Z, ((vbool _)), hC5.bx⟩

theorem w_impl_sidesOf {w : World} {M : Nat → Prop} (_hG : ARep (RArr 4 RShape) w M shapes ⟨0, 0, none⟩) (hO : ∀ b, M b → b < w.heap.size) {v0p : Value} {a_b : Box} (h0 : VRep RBox w M a_b v0p) {r : (List (List Span))} (h : F.impl_sidesOf a_b = some r) :
  Calls Tryd.prog 65 [v0p].toArray w fun e w' => ∃ v, e = .returned v ∧ VRep (RArr 4 (RSlice RSpan)) w' M r v ∧ BX No w w' := by
 have hC : Cx No w M w M := Cx.start hO (fun _ e => e.elim)
 clear _hG
 refine walk (N := 7) Tryd.func65 Z Tryd.ntmps65 Z (cw_seq (cw_region (lw_op Z Z Z (ow_box (R := RBox) Z Z h0 hC fun p1 w1 hp1 hb1 hl1 hC1 => lw_op Z Z Z (ow_alloc Z (Tryd.zeroValue69 _) hC1 fun g1 w2 hg1 hg2 ho1 hb2 hl2 hC2 => ?_)))))
 have hm1 : (Add g1 M) g1 := .inl Z
 have ho2 : OwnA (RArr 4 (RSlice RSpan)) w2 (Add g1 M) g1 69 [([] : List Span), ([] : List Span), ([] : List Span), ([] : List Span)] := OwnA.of ho1 ⟨Z, ⟨_, _, Z, (vslice_nil (R := RSpan) (w := w2) (M := (Add g1 M))).cells, _, _, Z, (vslice_nil (R := RSpan) (w := w2) (M := (Add g1 M))).cells, _, _, Z, (vslice_nil (R := RSpan) (w := w2) (M := (Add g1 M))).cells, _, _, Z, (vslice_nil (R := RSpan) (w := w2) (M := (Add g1 M))).cells, Z⟩⟩
 refine lw_nil (ew_then (cw_seq (cw_region (lw_op Z Z Z (ow_fieldAddr Z Z Tryd.underlying27 Z (Tryd.sizeOf25 _) (lw_op Z Z Z (ow_load (R := (RSlice (RSlice RSpan))) Z Z (ARep.mono hl2 (hp1.fld fld_Box_Sides)) (Tryd.sizeOf25 _) (Tryd.isAgg25 _) fun v1 hv1 => ?_)))))))
 replace h := bind_some h
 obtain ⟨y1, hy1, h⟩ := h
 refine lw_op Z Z Z (ow_s2ap Z Z hv1 Tryd.underlying69 (arrF_some hy1).2 (by decide) fun p2 hp2 => ?_)
 rw [← (arrF_some hy1).1] at hp2
 refine lw_op Z Z Z (ow_load (R := (RArr 4 (RSlice RSpan))) Z Z hp2 (Tryd.sizeOf69 _) (Tryd.isAgg69 _) fun v2 hv2 => ?_)
 obtain ⟨cs1, h1, h2⟩ := ho2.own
 refine lw_op0 Z Z (ow_storeA (X := No) (R := (RArr 4 (RSlice RSpan))) Z Z Z Z h1 h2 (Tryd.sizeOf69 _) hv2 hm1 (.inl hg2) hC2 fun w3 ho3 hb3 hl3 hC3 => lw_nil (ew_then (cw_ret ?_)))
 obtain rfl := Option.some.inj h
 obtain ⟨v3, hq1, hw1⟩ := resA ho3 (Tryd.sizeOf69 _) (Tryd.isAgg69 _) rfl
 exact ew_ret (res1 Z (.cell Z hq1)) ⟨_, Z, (hw1.mono hC3.back), hC3.bx⟩

theorem w_slices_Equal_impl_Span_impl_Span {w : World} {M : Nat → Prop} (_hG : ARep (RArr 4 RShape) w M shapes ⟨0, 0, none⟩) (hO : ∀ b, M b → b < w.heap.size) {v0p : Value} {a_s1 : List Span} (h0 : VRep (RSlice RSpan) w M a_s1 v0p) {v1p : Value} {a_s2 : List Span} (h1 : VRep (RSlice RSpan) w M a_s2 v1p) {r : Bool} (h : F.slices_Equal_impl_Span_impl_Span a_s1 a_s2 = some r) :
  Calls Tryd.prog 107 [v0p, v1p].toArray w fun e w' => ∃ v, e = .returned v ∧ VRep RBool w' M r v ∧ BX No w w' := by
 have hC : Cx No w M w M := Cx.start hO (fun _ e => e.elim)
 clear _hG
 refine walk (N := 26) Tryd.func107 Z Tryd.ntmps107 Z (cw_seq (cw_region (lw_op Z Z Z (ow_assign Z Z (lw_nil (ew_then (cw_seq (cw_seq (cw_region (lw_op Z Z Z (ow_move Z Z (lw_op Z Z Z (ow_len Z Z h0 Tryd.underlying58 Z (lw_op Z Z Z (ow_move Z Z (lw_op Z Z Z (ow_len Z Z h1 Tryd.underlying58 Z (lw_op Z Z Z (ow_neqI Z Z Z fun bb1 hbb1 => lw_nil (ew_then ?_))))))))))))))))))))
 replace h := cond_some h
 rcases h with ⟨hc1, h⟩ | ⟨hc1, h⟩
 ·
  obtain rfl := hbb1.trans hc1
  refine cw_true Z (cw_seq (cw_region (lw_op Z Z Z (ow_assign Z Z (lw_nil (ew_then (cw_ret (ew_thenR ?_))))))))
  obtain rfl := Option.some.inj h
  exact ew_ret (res1 Z (.tmp Z)) ⟨_, Z, ((vbool _)), hC.bx⟩
 ·
  obtain rfl := hbb1.trans hc1
  refine cw_false Z (cw_skip (ew_then (cw_seq (cw_seq (cw_region (lw_op Z Z Z (ow_move Z Z (lw_op Z Z Z (ow_len Z Z h0 Tryd.underlying58 Z (lw_op Z Z Z (ow_move Z Z (lw_nil (ew_then ?_)))))))))))))
  replace h := bind_some h
  obtain ⟨lr1, hlr1, h⟩ := h
  refine cw_for hlr1 (fun s a w' => ∃ (M' : Nat → Prop), Fits 26 [(0, v0p), (1, v1p), (12, (.int .i64 (a_s1.length : Int))), (13, (.int .i64 s))] a ∧ Le w M w' M' ∧ Cx No w M w' M') ?_ ?_ ?_
  ·
   intro a ha
   exact ⟨M, ha.sub ⟨Z, Z, Z, Z, trivial⟩, Le.refl _ _, hC⟩
  ·
   rintro k1 a w1 sr1 ⟨M1, hF1, hl1, hC1⟩ hb1 hR1
   refine cw_at (E := [(0, v0p), (1, v1p), (12, (.int .i64 (a_s1.length : Int))), (13, (.int .i64 k1))]) hF1 (cw_seq (cw_region (lw_op Z Z Z (ow_lss Z Z Z fun bb2 hbb2 => lw_nil (ew_then (cw_seq ?_))))))
   replace hb1 := cond_some hb1
   rcases hb1 with ⟨hc2, hb1⟩ | ⟨hc2, hb1⟩
   ·
    obtain rfl := hbb2.trans hc2
    refine cw_true Z (cw_skip (ew_then (cw_seq (cw_block (cw_seq (cw_region (lw_op Z Z Z (ow_move Z Z (lw_op Z Z Z (ow_assign Z Z (lw_nil (ew_then (cw_seq ?_)))))))))))))
    replace hb1 := bind_some hb1
    obtain ⟨x1, hx1, hb1⟩ := hb1
    replace hb1 := bind_some hb1
    obtain ⟨x2, hx2, hb1⟩ := hb1
    refine cw_sub (E' := [(0, v0p), (1, v1p), (5, (.int .i64 k1)), (12, (.int .i64 (a_s1.length : Int))), (13, (.int .i64 k1))]) ⟨Z, Z, Z, Z, Z, trivial⟩ (cw_drawQ 8 [PV (RSlice RSpan) M1 a_s1, PEq (.int .i64 k1), PA RSpan M1 x1, PV RSpan M1 x1, PV (RSlice RSpan) M1 a_s2, PEq (.int .i64 k1), PA RSpan M1 x2, PV RSpan M1 x2] (by kernel_rfl) Z (by kernel_rfl) ⟨PV.mono _ _ _, PEq.mono _, PA.mono _ _ _, PV.mono _ _ _, PV.mono _ _ _, PEq.mono _, PA.mono _ _ _, PV.mono _ _ _, trivial⟩ ⟨?_, ?_, ?_, ?_, ?_, ?_, ?_, ?_, trivial⟩ ?_)
    ·
     intro w2 D hS1 hd1
     have hl2 := Le.no M1 hS1
     exact dg_sub (E' := [(0, v0p)]) ⟨Z, trivial⟩ (dg_plain Z (ow_move Z Z ⟨BX.refl _ _, (VRep.mono (hl1.trans hl2) h0)⟩))
    ·
     intro w3 D hS2 hd2
     exact dg_sub (E' := [(5, (.int .i64 k1))]) ⟨Z, trivial⟩ (dg_plain Z (ow_move Z Z ⟨BX.refl _ _, Z⟩))
    ·
     intro w4 D hS3 hd3
     have d1 : PV (RSlice RSpan) M1 a_s1 (D 0) w4 := dpA hd3 0 Z
     generalize hq1 : (D 0) = v4 at d1
     exact dg_sub (E' := [(16, v4), (17, (.int .i64 k1))]) ⟨(congrArg some hq1), (dpE hd3 1 Z Z), trivial⟩ (dg_plain Z (ow_indexSlice (R := RSpan) Z Z Z d1 Tryd.underlying58 (Tryd.sizeOf76 _) hx1 fun p3 hp3 => ⟨BX.refl _ _, ⟨_, Z, hp3⟩⟩))
    ·
     intro w5 D hS4 hd4
     have d3 : PA RSpan M1 x1 (D 2) w5 := dpA hd4 2 Z
     obtain ⟨p4, e1, ha1⟩ := d3
     exact dg_sub (E' := [(18, (.pointer (some p4)))]) ⟨(congrArg some e1), trivial⟩ (dg_plain Z (ow_load (R := RSpan) Z Z ha1 (Tryd.sizeOf76 _) (Tryd.isAgg76 _) fun v5 hv5 => ⟨BX.refl _ _, hv5⟩))
    ·
     intro w6 D hS5 hd5
     have hl6 := Le.no M1 hS5
     exact dg_sub (E' := [(1, v1p)]) ⟨Z, trivial⟩ (dg_plain Z (ow_move Z Z ⟨BX.refl _ _, (VRep.mono (hl1.trans hl6) h1)⟩))
    ·
     intro w7 D hS6 hd6
     exact dg_sub (E' := [(5, (.int .i64 k1))]) ⟨Z, trivial⟩ (dg_plain Z (ow_move Z Z ⟨BX.refl _ _, Z⟩))
    ·
     intro w8 D hS7 hd7
     have d4 : PV (RSlice RSpan) M1 a_s2 (D 4) w8 := dpA hd7 4 Z
     generalize hq2 : (D 4) = v6 at d4
     exact dg_sub (E' := [(20, v6), (21, (.int .i64 k1))]) ⟨(congrArg some hq2), (dpE hd7 5 Z Z), trivial⟩ (dg_plain Z (ow_indexSlice (R := RSpan) Z Z Z d4 Tryd.underlying58 (Tryd.sizeOf76 _) hx2 fun p5 hp5 => ⟨BX.refl _ _, ⟨_, Z, hp5⟩⟩))
    ·
     intro w9 D hS8 hd8
     have d6 : PA RSpan M1 x2 (D 6) w9 := dpA hd8 6 Z
     obtain ⟨p6, e2, ha2⟩ := d6
     exact dg_sub (E' := [(22, (.pointer (some p6)))]) ⟨(congrArg some e2), trivial⟩ (dg_plain Z (ow_load (R := RSpan) Z Z ha2 (Tryd.sizeOf76 _) (Tryd.isAgg76 _) fun v7 hv7 => ⟨BX.refl _ _, hv7⟩))
    ·
     intro w10 D hS9 hd9
     have d10 : PV RSpan M1 x1 (D 3) w10 := dpA hd9 3 Z
     have d14 : PV RSpan M1 x2 (D 7) w10 := dpA hd9 7 Z
     have hl10 := Le.no M1 hS9
     have hC10 := hC1.no hS9
     generalize hq3 : (D 3) = v8 at d10
     generalize hq4 : (D 7) = v9 at d14
     refine lw_sub (E' := [(19, v8), (23, v9), (0, v0p), (1, v1p), (5, (.int .i64 k1)), (12, (.int .i64 (a_s1.length : Int))), (13, (.int .i64 k1))]) ⟨(congrArg some hq3), (congrArg some hq4), Z, Z, Z, Z, Z, trivial⟩ ?_
     obtain rfl := open_Span d10
     obtain rfl := open_Span d14
     refine lw_op Z Z Z (ow_neqS Z Z Z (Tryd.eqGuardType76) (eqS76 (x := x1) (y := x2) _) fun bb3 hbb3 => lw_nil (ew_then ?_))
     replace hb1 := cond_some hb1
     rcases hb1 with ⟨hc3, hb1⟩ | ⟨hc3, hb1⟩
     ·
      obtain rfl := hbb3.trans hc3
      refine cw_true Z (cw_seq (cw_region (lw_op Z Z Z (ow_assign Z Z (lw_nil (ew_then (cw_ret (ew_blockR (ew_thenR (ew_thenR (ew_blockR (ew_brkR (ew_thenR ?_)))))))))))))
      have e3 := hR1 _ (Option.some.inj hb1).symm
      subst e3
      obtain rfl := Option.some.inj h
      exact ew_ret (res1 Z (.tmp Z)) ⟨_, Z, ((vbool _)), hC10.bx⟩
     ·
      obtain rfl := hbb3.trans hc3
      exact cw_false Z (cw_skip (ew_blockN (ew_then (cw_region (lw_op Z Z Z (ow_add Z Z Z (lw_op Z Z Z (ow_move Z Z (lw_nil (ew_nxt (W (k1 + 1)) hb1 fun a ha => ⟨M1, (ha.sub ⟨Z, Z, Z, Z, trivial⟩), (hl1.trans hl10), hC10⟩))))))))))
   ·
    obtain rfl := hbb2.trans hc2
    exact cw_false Z (cw_exit (ew_thenX (ew_thenX (ew_blockX (ew_brk k1 hb1 fun a ha => ⟨M1, (ha.sub ⟨Z, Z, Z, Z, trivial⟩), hl1, hC1⟩)))))
  ·
   rintro k2 a w11 hlr2 ⟨M2, hF2, hl11, hC11⟩
   subst hlr2
   refine ew_at (E := [(0, v0p), (1, v1p), (12, (.int .i64 (a_s1.length : Int))), (13, (.int .i64 k2))]) hF2 (ew_then (cw_seq (cw_region (lw_op Z Z Z (ow_assign Z Z (lw_nil (ew_then (cw_ret ?_))))))))
   obtain rfl := Option.some.inj h
   exact ew_ret (res1 Z (.tmp Z)) ⟨_, Z, ((vbool _)), hC11.bx⟩

theorem w_impl_sides_empty {w : World} {M : Nat → Prop} (_hG : ARep (RArr 4 RShape) w M shapes ⟨0, 0, none⟩) (hO : ∀ b, M b → b < w.heap.size) {v0p : Value} {a_s : List (List Span)} (h0 : VRep (RArr 4 (RSlice RSpan)) w M a_s v0p) {r : Bool} (h : F.impl_sides_empty a_s = some r) :
  Calls Tryd.prog 90 [v0p].toArray w fun e w' => ∃ v, e = .returned v ∧ VRep RBool w' M r v ∧ BX No w w' := by
 have hC : Cx No w M w M := Cx.start hO (fun _ e => e.elim)
 clear _hG
 refine walk (N := 13) Tryd.func90 Z Tryd.ntmps90 Z (cw_seq (cw_region (lw_op Z Z Z (ow_box (R := (RArr 4 (RSlice RSpan))) Z Z h0 hC fun p1 w1 hp1 hb1 hl1 hC1 => lw_op Z Z Z (ow_assign Z Z (lw_nil (ew_then (cw_seq (cw_seq (cw_region (lw_op Z Z Z (ow_load (R := (RArr 4 (RSlice RSpan))) Z Z hp1 (Tryd.sizeOf69 _) (Tryd.isAgg69 _) fun v1 hv1 => lw_op Z Z Z (ow_move Z Z (lw_nil (ew_then ?_)))))))))))))))
 replace h := bind_some h
 obtain ⟨lr1, hlr1, h⟩ := h
 refine cw_for hlr1 (fun s a w' => ∃ (M' : Nat → Prop), Fits 13 [(5, v1), (6, (.int .i64 s))] a ∧ Le w1 M w' M' ∧ Cx No w M w' M') ?_ ?_ ?_
 ·
  intro a ha
  exact ⟨M, ha.sub ⟨Z, Z, trivial⟩, Le.refl _ _, hC1⟩
 ·
  rintro k1 a w2 sr1 ⟨M1, hF1, hl2, hC2⟩ hb2 hR1
  refine cw_at (E := [(5, v1), (6, (.int .i64 k1))]) hF1 (cw_seq (cw_region (lw_op Z Z Z (ow_lss Z Z Z fun bb1 hbb1 => lw_nil (ew_then (cw_seq ?_))))))
  replace hb2 := cond_some hb2
  rcases hb2 with ⟨hc1, hb2⟩ | ⟨hc1, hb2⟩
  ·
   obtain rfl := hbb1.trans hc1
   refine cw_true Z (cw_skip (ew_then (cw_seq (cw_block (cw_seq (cw_region ?_))))))
   replace hb2 := bind_some hb2
   obtain ⟨x1, hx1, hb2⟩ := hb2
   refine lw_op Z Z Z (ow_index (R := (RSlice RSpan)) Z Z Z (VRep.mono hl2 hv1) Tryd.underlying69 (Tryd.sizeOf58 _) (Tryd.isAgg58 _) hx1 fun v3 hv3 => lw_op Z Z Z (ow_assign Z Z (lw_nil (ew_then (cw_seq (cw_region (lw_op Z Z Z (ow_move Z Z (lw_op Z Z Z (ow_len Z Z hv3 Tryd.underlying58 Z (lw_op Z Z Z (ow_eqlI Z Z Z fun bb2 hbb2 => lw_nil (ew_then ?_)))))))))))))
   replace hb2 := cond_some hb2
   rcases hb2 with ⟨hc2, hb2⟩ | ⟨hc2, hb2⟩
   ·
    obtain rfl := hbb2.trans hc2
    refine cw_true Z (cw_seq (cw_region (lw_op Z Z Z (ow_assign Z Z (lw_nil (ew_then (cw_ret (ew_blockR (ew_thenR (ew_thenR (ew_blockR (ew_brkR (ew_thenR ?_)))))))))))))
    have e1 := hR1 _ (Option.some.inj hb2).symm
    subst e1
    obtain rfl := Option.some.inj h
    exact ew_ret (res1 Z (.tmp Z)) ⟨_, Z, ((vbool _)), hC2.bx⟩
   ·
    obtain rfl := hbb2.trans hc2
    exact cw_false Z (cw_skip (ew_blockN (ew_then (cw_region (lw_op Z Z Z (ow_add Z Z Z (lw_op Z Z Z (ow_move Z Z (lw_nil (ew_nxt (W (k1 + 1)) hb2 fun a ha => ⟨M1, (ha.sub ⟨Z, Z, trivial⟩), hl2, hC2⟩))))))))))
  ·
   obtain rfl := hbb1.trans hc1
   exact cw_false Z (cw_exit (ew_thenX (ew_thenX (ew_blockX (ew_brk k1 hb2 fun a ha => ⟨M1, (ha.sub ⟨Z, Z, trivial⟩), hl2, hC2⟩)))))
 ·
  rintro k2 a w3 hlr2 ⟨M2, hF2, hl3, hC3⟩
  subst hlr2
  refine ew_at (E := [(5, v1), (6, (.int .i64 k2))]) hF2 (ew_then (cw_seq (cw_region (lw_op Z Z Z (ow_assign Z Z (lw_nil (ew_then (cw_ret ?_))))))))
  obtain rfl := Option.some.inj h
  exact ew_ret (res1 Z (.tmp Z)) ⟨_, Z, ((vbool _)), hC3.bx⟩

theorem w_impl_sides_same {w : World} {M : Nat → Prop} (hG : ARep (RArr 4 RShape) w M shapes ⟨0, 0, none⟩) (hO : ∀ b, M b → b < w.heap.size) {v0p : Value} {a_s : List (List Span)} (h0 : VRep (RArr 4 (RSlice RSpan)) w M a_s v0p) {v1p : Value} {a_other : List (List Span)} (h1 : VRep (RArr 4 (RSlice RSpan)) w M a_other v1p) {r : Bool} (h : F.impl_sides_same a_s a_other = some r) :
  Calls Tryd.prog 88 [v0p, v1p].toArray w fun e w' => ∃ v, e = .returned v ∧ VRep RBool w' M r v ∧ BX No w w' := by
 have hC : Cx No w M w M := Cx.start hO (fun _ e => e.elim)
 refine walk (N := 30) Tryd.func88 Z Tryd.ntmps88 Z (cw_seq (cw_region (lw_op Z Z Z (ow_box (R := (RArr 4 (RSlice RSpan))) Z Z h0 hC fun p1 w1 hp1 hb1 hl1 hC1 => lw_op Z Z Z (ow_box (R := (RArr 4 (RSlice RSpan))) Z Z (VRep.mono hl1 h1) hC1 fun p2 w2 hp2 hb2 hl2 hC2 => lw_op Z Z Z (ow_assign Z Z (lw_nil (ew_then (cw_seq (cw_seq (cw_region (lw_op Z Z Z (ow_load (R := (RArr 4 (RSlice RSpan))) Z Z (ARep.mono hl2 hp1) (Tryd.sizeOf69 _) (Tryd.isAgg69 _) fun v1 hv1 => ?_)))))))))))))
 replace h := bind_some h
 obtain ⟨x1, hx1, h⟩ := h
 refine lw_op Z Z Z (ow_call Z Z Tryd.call90 (w_impl_sides_empty (hG.mono (hl1.trans hl2)) hC2.old hv1 hx1) fun v2 w3 hv2 => ?_)
 obtain ⟨hv2, hb3⟩ := hv2
 have hl3 := Le.no M hb3
 have hC3 := hC2.no hb3
 obtain rfl := vbool_eq hv2
 refine lw_op Z Z Z (ow_move Z Z ?_)
 replace h := cond_some h
 rcases h with ⟨hc1, h⟩ | ⟨hc1, h⟩
 ·
  subst hc1
  refine lw_off Z Z Z Z Z Z (lw_off Z Z Z Z Z Z (lw_op Z Z Z (ow_pickT Z Z Z (lw_nil (ew_then (cw_true Z (cw_seq (cw_region (lw_op Z Z Z (ow_load (R := (RArr 4 (RSlice RSpan))) Z Z (ARep.mono (hl2.trans hl3) hp1) (Tryd.sizeOf69 _) (Tryd.isAgg69 _) fun v3 hv3 => ?_))))))))))
  have hz1 := ((hl1.trans hl2).trans hl3)
  refine lw_op Z Z Z (ow_call Z Z Tryd.call90 (w_impl_sides_empty (hG.mono hz1) hC3.old hv3 hx1) fun v4 w4 hv4 => ?_)
  obtain ⟨hv4, hb4⟩ := hv4
  have hl4 := Le.no M hb4
  have hC4 := hC3.no hb4
  obtain rfl := vbool_eq hv4
  refine lw_op Z Z Z (ow_move Z Z (lw_on Z Z Z Z Z Z (ow_load (R := (RArr 4 (RSlice RSpan))) Z Z (ARep.mono (hl3.trans hl4) hp2) (Tryd.sizeOf69 _) (Tryd.isAgg69 _) fun v5 hv5 => ?_)))
  replace h := bind_some h
  obtain ⟨x2, hx2, h⟩ := h
  refine lw_on Z Z Z Z Z Z (ow_call Z Z Tryd.call90 (w_impl_sides_empty (hG.mono (hz1.trans hl4)) hC4.old hv5 hx2) fun v6 w5 hv6 => ?_)
  obtain ⟨hv6, hb5⟩ := hv6
  have hC5 := hC4.no hb5
  obtain rfl := vbool_eq hv6
  refine lw_op Z Z Z (ow_pickT Z Z Z (lw_op Z Z Z (ow_assign Z Z (lw_nil (ew_then (cw_ret (ew_thenR ?_)))))))
  obtain rfl := Option.some.inj h
  exact ew_ret (res1 Z (.tmp Z)) ⟨_, Z, ((vbool _)), hC5.bx⟩
 ·
  subst hc1
  refine lw_on Z Z Z Z Z Z (ow_load (R := (RArr 4 (RSlice RSpan))) Z Z (ARep.mono hl3 hp2) (Tryd.sizeOf69 _) (Tryd.isAgg69 _) fun v7 hv7 => ?_)
  replace h := bind_some h
  obtain ⟨x3, hx3, h⟩ := h
  have hz2 := ((hl1.trans hl2).trans hl3)
  refine lw_on Z Z Z Z Z Z (ow_call Z Z Tryd.call90 (w_impl_sides_empty (hG.mono hz2) hC3.old hv7 hx3) fun v8 w6 hv8 => ?_)
  obtain ⟨hv8, hb6⟩ := hv8
  have hl6 := Le.no M hb6
  have hC6 := hC3.no hb6
  obtain rfl := vbool_eq hv8
  refine lw_op Z Z Z (ow_pickF Z Z Z (lw_nil (ew_then ?_)))
  replace h := cond_some h
  rcases h with ⟨hc2, h⟩ | ⟨hc2, h⟩
  ·
   subst hc2
   refine cw_true Z (cw_seq (cw_region ?_))
   have hz3 := ((hl2.trans hl3).trans hl6)
   refine lw_op Z Z Z (ow_load (R := (RArr 4 (RSlice RSpan))) Z Z (ARep.mono hz3 hp1) (Tryd.sizeOf69 _) (Tryd.isAgg69 _) fun v9 hv9 => lw_op Z Z Z (ow_call Z Z Tryd.call90 (w_impl_sides_empty (hG.mono (hz2.trans hl6)) hC6.old hv9 hx1) fun v10 w7 hv10 => ?_))
   obtain ⟨hv10, hb7⟩ := hv10
   have hC7 := hC6.no hb7
   obtain rfl := vbool_eq hv10
   refine lw_op Z Z Z (ow_move Z Z (lw_off Z Z Z Z Z Z (lw_off Z Z Z Z Z Z (lw_op Z Z Z (ow_pickF Z Z Z (lw_op Z Z Z (ow_assign Z Z (lw_nil (ew_then (cw_ret (ew_thenR ?_)))))))))))
   obtain rfl := Option.some.inj h
   exact ew_ret (res1 Z (.tmp Z)) ⟨_, Z, ((vbool _)), hC7.bx⟩
  ·
   subst hc2
   refine cw_false Z (cw_skip (ew_then (cw_seq (cw_seq (cw_region (lw_op Z Z Z (ow_move Z Z (lw_nil (ew_then ?_)))))))))
   replace h := bind_some h
   obtain ⟨lr1, hlr1, h⟩ := h
   refine cw_for hlr1 (fun s a w' => ∃ (M' : Nat → Prop), Fits 30 [(2, (.pointer (some p1))), (3, (.pointer (some p2))), (18, (.int .i64 s))] a ∧ Le w6 M w' M' ∧ Cx No w M w' M') ?_ ?_ ?_
   ·
    intro a ha
    exact ⟨M, ha.sub ⟨Z, Z, Z, trivial⟩, Le.refl _ _, hC6⟩
   ·
    rintro k1 a w8 sr1 ⟨M1, hF1, hl8, hC8⟩ hb8 hR1
    refine cw_at (E := [(2, (.pointer (some p1))), (3, (.pointer (some p2))), (18, (.int .i64 k1))]) hF1 (cw_seq (cw_region (lw_op Z Z Z (ow_lss Z Z Z fun bb1 hbb1 => lw_nil (ew_then (cw_seq ?_))))))
    replace hb8 := cond_some hb8
    rcases hb8 with ⟨hc3, hb8⟩ | ⟨hc3, hb8⟩
    ·
     obtain rfl := hbb1.trans hc3
     refine cw_true Z (cw_skip (ew_then (cw_seq (cw_block (cw_seq (cw_region (lw_op Z Z Z (ow_move Z Z (lw_op Z Z Z (ow_assign Z Z (lw_nil (ew_then (cw_seq ?_)))))))))))))
     replace hb8 := bind_some hb8
     obtain ⟨x4, hx4, hb8⟩ := hb8
     replace hb8 := bind_some hb8
     obtain ⟨x5, hx5, hb8⟩ := hb8
     have hz4 := ((hz2.trans hl6).trans hl8)
     have hz5 := (((hl2.trans hl3).trans hl6).trans hl8)
     have hz6 := ((hl3.trans hl6).trans hl8)
     refine cw_sub (E' := [(2, (.pointer (some p1))), (3, (.pointer (some p2))), (5, (.int .i64 k1)), (18, (.int .i64 k1))]) ⟨Z, Z, Z, Z, trivial⟩ (cw_drawQ 6 [PEq (.int .i64 k1), PA (RSlice RSpan) M1 x4, PV (RSlice RSpan) M1 x4, PEq (.int .i64 k1), PA (RSlice RSpan) M1 x5, PV (RSlice RSpan) M1 x5] (by kernel_rfl) Z (by kernel_rfl) ⟨PEq.mono _, PA.mono _ _ _, PV.mono _ _ _, PEq.mono _, PA.mono _ _ _, PV.mono _ _ _, trivial⟩ ⟨?_, ?_, ?_, ?_, ?_, ?_, trivial⟩ ?_)
     ·
      intro w9 D hS1 hd1
      exact dg_sub (E' := [(5, (.int .i64 k1))]) ⟨Z, trivial⟩ (dg_plain Z (ow_move Z Z ⟨BX.refl _ _, Z⟩))
     ·
      intro w10 D hS2 hd2
      have hl10 := Le.no M1 hS2
      exact dg_sub (E' := [(21, (.int .i64 k1)), (2, (.pointer (some p1)))]) ⟨(dpE hd2 0 Z Z), Z, trivial⟩ (dg_plain Z (ow_indexArr (R := (RSlice RSpan)) Z Z Z (ARep.mono (hz5.trans hl10) hp1) Tryd.underlying69 (Tryd.sizeOf58 _) hx4 fun p5 hp5 => ⟨BX.refl _ _, ⟨_, Z, hp5⟩⟩))
     ·
      intro w11 D hS3 hd3
      have d2 : PA (RSlice RSpan) M1 x4 (D 1) w11 := dpA hd3 1 Z
      obtain ⟨p6, e1, ha1⟩ := d2
      exact dg_sub (E' := [(22, (.pointer (some p6)))]) ⟨(congrArg some e1), trivial⟩ (dg_plain Z (ow_load (R := (RSlice RSpan)) Z Z ha1 (Tryd.sizeOf58 _) (Tryd.isAgg58 _) fun v14 hv14 => ⟨BX.refl _ _, hv14⟩))
     ·
      intro w12 D hS4 hd4
      exact dg_sub (E' := [(5, (.int .i64 k1))]) ⟨Z, trivial⟩ (dg_plain Z (ow_move Z Z ⟨BX.refl _ _, Z⟩))
     ·
      intro w13 D hS5 hd5
      have hl13 := Le.no M1 hS5
      exact dg_sub (E' := [(24, (.int .i64 k1)), (3, (.pointer (some p2)))]) ⟨(dpE hd5 3 Z Z), Z, trivial⟩ (dg_plain Z (ow_indexArr (R := (RSlice RSpan)) Z Z Z (ARep.mono (hz6.trans hl13) hp2) Tryd.underlying69 (Tryd.sizeOf58 _) hx5 fun p7 hp7 => ⟨BX.refl _ _, ⟨_, Z, hp7⟩⟩))
     ·
      intro w14 D hS6 hd6
      have d4 : PA (RSlice RSpan) M1 x5 (D 4) w14 := dpA hd6 4 Z
      obtain ⟨p8, e2, ha2⟩ := d4
      exact dg_sub (E' := [(25, (.pointer (some p8)))]) ⟨(congrArg some e2), trivial⟩ (dg_plain Z (ow_load (R := (RSlice RSpan)) Z Z ha2 (Tryd.sizeOf58 _) (Tryd.isAgg58 _) fun v15 hv15 => ⟨BX.refl _ _, hv15⟩))
     ·
      intro w15 D hS7 hd7
      have d7 : PV (RSlice RSpan) M1 x4 (D 2) w15 := dpA hd7 2 Z
      have d10 : PV (RSlice RSpan) M1 x5 (D 5) w15 := dpA hd7 5 Z
      have hl15 := Le.no M1 hS7
      have hC15 := hC8.no hS7
      generalize hq1 : (D 2) = v16 at d7
      generalize hq2 : (D 5) = v17 at d10
      refine lw_sub (E' := [(23, v16), (26, v17), (2, (.pointer (some p1))), (3, (.pointer (some p2))), (5, (.int .i64 k1)), (18, (.int .i64 k1))]) ⟨(congrArg some hq1), (congrArg some hq2), Z, Z, Z, Z, trivial⟩ ?_
      replace hb8 := bind_some hb8
      obtain ⟨x6, hx6, hb8⟩ := hb8
      refine lw_op Z Z Z (ow_call Z Z Tryd.call107 (w_slices_Equal_impl_Span_impl_Span (hG.mono (hz4.trans hl15)) hC15.old d7 d10 hx6) fun v18 w16 hv18 => ?_)
      obtain ⟨hv18, hb9⟩ := hv18
      have hl16 := Le.no M1 hb9
      have hC16 := hC15.no hb9
      obtain rfl := vbool_eq hv18
      refine lw_op Z Z Z (ow_not Z Z (lw_nil (ew_then ?_)))
      replace hb8 := cond_some hb8
      rcases hb8 with ⟨hc4, hb8⟩ | ⟨hc4, hb8⟩
      ·
       subst hc4
       refine cw_false Z (cw_skip (ew_blockN (ew_then (cw_region (lw_op Z Z Z (ow_add Z Z Z (lw_op Z Z Z (ow_move Z Z (lw_nil ?_)))))))))
       have hz7 := ((hl8.trans hl15).trans hl16)
       exact ew_nxt (W (k1 + 1)) hb8 fun a ha => ⟨M1, (ha.sub ⟨Z, Z, Z, trivial⟩), hz7, hC16⟩
      ·
       subst hc4
       refine cw_true Z (cw_seq (cw_region (lw_op Z Z Z (ow_assign Z Z (lw_nil (ew_then (cw_ret (ew_blockR (ew_thenR (ew_thenR (ew_blockR (ew_brkR (ew_thenR ?_)))))))))))))
       have e3 := hR1 _ (Option.some.inj hb8).symm
       subst e3
       obtain rfl := Option.some.inj h
       exact ew_ret (res1 Z (.tmp Z)) ⟨_, Z, ((vbool _)), hC16.bx⟩
    ·
     obtain rfl := hbb1.trans hc3
     exact cw_false Z (cw_exit (ew_thenX (ew_thenX (ew_blockX (ew_brk k1 hb8 fun a ha => ⟨M1, (ha.sub ⟨Z, Z, Z, trivial⟩), hl8, hC8⟩)))))
   ·
    rintro k2 a w17 hlr2 ⟨M2, hF2, hl17, hC17⟩
    subst hlr2
    refine ew_at (E := [(2, (.pointer (some p1))), (3, (.pointer (some p2))), (18, (.int .i64 k2))]) hF2 (ew_then (cw_seq (cw_region (lw_op Z Z Z (ow_assign Z Z (lw_nil (ew_then (cw_ret ?_))))))))
    obtain rfl := Option.some.inj h
    exact ew_ret (res1 Z (.tmp Z)) ⟨_, Z, ((vbool _)), hC17.bx⟩

theorem w_impl_BoxSame {w : World} {M : Nat → Prop} (hG : ARep (RArr 4 RShape) w M shapes ⟨0, 0, none⟩) (hO : ∀ b, M b → b < w.heap.size) {v0p : Value} {a_a : Box} (h0 : VRep RBox w M a_a v0p) {v1p : Value} {a_b : Box} (h1 : VRep RBox w M a_b v1p) {r : Bool} (h : F.impl_BoxSame a_a a_b = some r) :
  Calls Tryd.prog 46 [v0p, v1p].toArray w fun e w' => ∃ v, e = .returned v ∧ VRep RBool w' M r v ∧ BX No w w' := by
 have hC : Cx No w M w M := Cx.start hO (fun _ e => e.elim)
 refine walk (N := 18) Tryd.func46 Z Tryd.ntmps46 Z (cw_seq (cw_region (lw_op Z Z Z (ow_box (R := RBox) Z Z h0 hC fun p1 w1 hp1 hb1 hl1 hC1 => lw_op Z Z Z (ow_box (R := RBox) Z Z (VRep.mono hl1 h1) hC1 fun p2 w2 hp2 hb2 hl2 hC2 => lw_op Z Z Z (ow_assign Z Z (lw_nil (ew_then (cw_seq ?_)))))))))
 replace h := bind_some h
 obtain ⟨x1, hx1, h⟩ := h
 replace h := cond_some h
 rcases h with ⟨hc1, h⟩ | ⟨hc1, h⟩
 ·
  subst hc1
  replace h := bind_some h
  obtain ⟨x2, hx2, h⟩ := h
  replace h := cond_some h
  rcases h with ⟨hc2, h⟩ | ⟨hc2, h⟩
  ·
   subst hc2
   replace h := bind_some h
   obtain ⟨x3, hx3, h⟩ := h
   have hz1 := (hl1.trans hl2)
   refine cw_sub (E' := [(2, (.pointer (some p1))), (3, (.pointer (some p2))), (4, (.bool false))]) ⟨Z, Z, Z, trivial⟩ (cw_drawQ 10 [PV RBox M a_a, PEq (.bool true), PEq (.bool true), PV RBox M a_b, PEq (.bool true), PEq (.bool true), PEq (.bool true), PV RBox M a_a, PV (RArr 4 (RSlice RSpan)) M x3, PV RBox M a_b] (by kernel_rfl) Z (by kernel_rfl) ⟨PV.mono _ _ _, PEq.mono _, PEq.mono _, PV.mono _ _ _, PEq.mono _, PEq.mono _, PEq.mono _, PV.mono _ _ _, PV.mono _ _ _, PV.mono _ _ _, trivial⟩ ⟨?_, ?_, ?_, ?_, ?_, ?_, ?_, ?_, ?_, ?_, trivial⟩ ?_)
   ·
    intro w6 D hS1 hd1
    have hl6 := Le.no M hS1
    exact dg_sub (E' := [(2, (.pointer (some p1)))]) ⟨Z, trivial⟩ (dg_plain Z (ow_load (R := RBox) Z Z (ARep.mono (hl2.trans hl6) hp1) (Tryd.sizeOf27 _) (Tryd.isAgg27 _) fun v8 hv8 => ⟨BX.refl _ _, hv8⟩))
   ·
    intro w7 D hS2 hd2
    have hl7 := Le.no M hS2
    have hC7 := hC2.no hS2
    have d1 : PV RBox M a_a (D 0) w7 := dpA hd2 0 Z
    generalize hq1 : (D 0) = v9 at d1
    refine dg_sub (E' := [(5, v9)]) ⟨(congrArg some hq1), trivial⟩ (dg_plain Z (ow_call Z Z Tryd.call30 (w_impl_BoxValid (hG.mono (hz1.trans hl7)) hC7.old d1 hx1) fun v10 w8 hv10 => ?_))
    obtain ⟨hv10, hb6⟩ := hv10
    obtain rfl := vbool_eq hv10
    exact ⟨hb6, Z⟩
   ·
    intro w9 D hS3 hd3
    exact dg_sub (E' := [(6, (.bool true))]) ⟨(dpE hd3 1 Z Z), trivial⟩ (dg_plain Z (ow_move Z Z ⟨BX.refl _ _, Z⟩))
   ·
    intro w10 D hS4 hd4
    have hl10 := Le.no M hS4
    exact dg_sub (E' := [(7, (.bool true)), (3, (.pointer (some p2)))]) ⟨(dpE hd4 2 Z Z), Z, trivial⟩ (dg_on Z Z Z Z (ow_load (R := RBox) Z Z (ARep.mono hl10 hp2) (Tryd.sizeOf27 _) (Tryd.isAgg27 _) fun v11 hv11 => ⟨BX.refl _ _, hv11⟩))
   ·
    intro w11 D hS5 hd5
    have hl11 := Le.no M hS5
    have hC11 := hC2.no hS5
    have d5 : PV RBox M a_b (D 3) w11 := dpA hd5 3 Z
    generalize hq2 : (D 3) = v12 at d5
    refine dg_sub (E' := [(8, v12), (7, (.bool true))]) ⟨(congrArg some hq2), (dpE hd5 2 Z Z), trivial⟩ (dg_on Z Z Z Z (ow_call Z Z Tryd.call30 (w_impl_BoxValid (hG.mono (hz1.trans hl11)) hC11.old d5 hx2) fun v13 w12 hv13 => ?_))
    obtain ⟨hv13, hb7⟩ := hv13
    obtain rfl := vbool_eq hv13
    exact ⟨hb7, Z⟩
   ·
    intro w13 D hS6 hd6
    exact dg_sub (E' := [(7, (.bool true)), (9, (.bool true))]) ⟨(dpE hd6 2 Z Z), (dpE hd6 4 Z Z), trivial⟩ (dg_plain Z (ow_pickT Z Z Z ⟨BX.refl _ _, Z⟩))
   ·
    intro w14 D hS7 hd7
    exact dg_sub (E' := [(10, (.bool true))]) ⟨(dpE hd7 5 Z Z), trivial⟩ (dg_plain Z (ow_move Z Z ⟨BX.refl _ _, Z⟩))
   ·
    intro w15 D hS8 hd8
    have hl15 := Le.no M hS8
    exact dg_sub (E' := [(11, (.bool true)), (2, (.pointer (some p1)))]) ⟨(dpE hd8 6 Z Z), Z, trivial⟩ (dg_on Z Z Z Z (ow_load (R := RBox) Z Z (ARep.mono (hl2.trans hl15) hp1) (Tryd.sizeOf27 _) (Tryd.isAgg27 _) fun v14 hv14 => ⟨BX.refl _ _, hv14⟩))
   ·
    intro w16 D hS9 hd9
    have hl16 := Le.no M hS9
    have hC16 := hC2.no hS9
    have d13 : PV RBox M a_a (D 7) w16 := dpA hd9 7 Z
    generalize hq3 : (D 7) = v15 at d13
    refine dg_sub (E' := [(12, v15), (11, (.bool true))]) ⟨(congrArg some hq3), (dpE hd9 6 Z Z), trivial⟩ (dg_on Z Z Z Z (ow_call Z Z Tryd.call65 (w_impl_sidesOf (hG.mono (hz1.trans hl16)) hC16.old d13 hx3) fun v16 w17 hv16 => ?_))
    obtain ⟨hv16, hb8⟩ := hv16
    exact ⟨hb8, hv16⟩
   ·
    intro w18 D hS10 hd10
    have hl18 := Le.no M hS10
    exact dg_sub (E' := [(11, (.bool true)), (3, (.pointer (some p2)))]) ⟨(dpE hd10 6 Z Z), Z, trivial⟩ (dg_on Z Z Z Z (ow_load (R := RBox) Z Z (ARep.mono hl18 hp2) (Tryd.sizeOf27 _) (Tryd.isAgg27 _) fun v17 hv17 => ⟨BX.refl _ _, hv17⟩))
   ·
    intro w19 D hS11 hd11
    have d25 : PV (RArr 4 (RSlice RSpan)) M x3 (D 8) w19 := dpA hd11 8 Z
    have d26 : PV RBox M a_b (D 9) w19 := dpA hd11 9 Z
    have hl19 := Le.no M hS11
    have hC19 := hC2.no hS11
    generalize hq4 : (D 8) = v18 at d25
    generalize hq5 : (D 9) = v19 at d26
    refine lw_sub (E' := [(11, (.bool true)), (13, v18), (14, v19), (2, (.pointer (some p1))), (3, (.pointer (some p2))), (4, (.bool false))]) ⟨(dpE hd11 6 Z Z), (congrArg some hq4), (congrArg some hq5), Z, Z, Z, trivial⟩ ?_
    replace h := bind_some h
    obtain ⟨x4, hx4, h⟩ := h
    refine lw_on Z Z Z Z Z Z (ow_call Z Z Tryd.call65 (w_impl_sidesOf (hG.mono (hz1.trans hl19)) hC19.old d26 hx4) fun v20 w20 hv20 => ?_)
    obtain ⟨hv20, hb9⟩ := hv20
    have hl20 := Le.no M hb9
    have hC20 := hC19.no hb9
    replace h := bind_some h
    obtain ⟨x5, hx5, h⟩ := h
    have hz2 := ((hz1.trans hl19).trans hl20)
    refine lw_on Z Z Z Z Z Z (ow_call Z Z Tryd.call88 (w_impl_sides_same (hG.mono hz2) hC20.old (VRep.mono hl20 d25) hv20 hx5) fun v21 w21 hv21 => ?_)
    obtain ⟨hv21, hb10⟩ := hv21
    have hC21 := hC20.no hb10
    obtain rfl := vbool_eq hv21
    refine lw_op Z Z Z (ow_pickT Z Z Z (lw_op Z Z Z (ow_assign Z Z (lw_nil (ew_then (cw_ret ?_))))))
    obtain rfl := Option.some.inj h
    exact ew_ret (res1 Z (.tmp Z)) ⟨_, Z, ((vbool _)), hC21.bx⟩
  ·
   subst hc2
   have hz3 := (hl1.trans hl2)
   refine cw_sub (E' := [(2, (.pointer (some p1))), (3, (.pointer (some p2))), (4, (.bool false))]) ⟨Z, Z, Z, trivial⟩ (cw_drawQ 10 [PV RBox M a_a, PEq (.bool true), PEq (.bool true), PV RBox M a_b, PEq (.bool false), PEq (.bool false), PEq (.bool false), PEq undef, PEq undef, PEq undef] (by kernel_rfl) Z (by kernel_rfl) ⟨PV.mono _ _ _, PEq.mono _, PEq.mono _, PV.mono _ _ _, PEq.mono _, PEq.mono _, PEq.mono _, PEq.mono _, PEq.mono _, PEq.mono _, trivial⟩ ⟨?_, ?_, ?_, ?_, ?_, ?_, ?_, ?_, ?_, ?_, trivial⟩ ?_)
   ·
    intro w22 D hS12 hd12
    have hl22 := Le.no M hS12
    exact dg_sub (E' := [(2, (.pointer (some p1)))]) ⟨Z, trivial⟩ (dg_plain Z (ow_load (R := RBox) Z Z (ARep.mono (hl2.trans hl22) hp1) (Tryd.sizeOf27 _) (Tryd.isAgg27 _) fun v22 hv22 => ⟨BX.refl _ _, hv22⟩))
   ·
    intro w23 D hS13 hd13
    have hl23 := Le.no M hS13
    have hC23 := hC2.no hS13
    have d27 : PV RBox M a_a (D 0) w23 := dpA hd13 0 Z
    generalize hq6 : (D 0) = v23 at d27
    refine dg_sub (E' := [(5, v23)]) ⟨(congrArg some hq6), trivial⟩ (dg_plain Z (ow_call Z Z Tryd.call30 (w_impl_BoxValid (hG.mono (hz3.trans hl23)) hC23.old d27 hx1) fun v24 w24 hv24 => ?_))
    obtain ⟨hv24, hb11⟩ := hv24
    obtain rfl := vbool_eq hv24
    exact ⟨hb11, Z⟩
   ·
    intro w25 D hS14 hd14
    exact dg_sub (E' := [(6, (.bool true))]) ⟨(dpE hd14 1 Z Z), trivial⟩ (dg_plain Z (ow_move Z Z ⟨BX.refl _ _, Z⟩))
   ·
    intro w26 D hS15 hd15
    have hl26 := Le.no M hS15
    exact dg_sub (E' := [(7, (.bool true)), (3, (.pointer (some p2)))]) ⟨(dpE hd15 2 Z Z), Z, trivial⟩ (dg_on Z Z Z Z (ow_load (R := RBox) Z Z (ARep.mono hl26 hp2) (Tryd.sizeOf27 _) (Tryd.isAgg27 _) fun v25 hv25 => ⟨BX.refl _ _, hv25⟩))
   ·
    intro w27 D hS16 hd16
    have hl27 := Le.no M hS16
    have hC27 := hC2.no hS16
    have d31 : PV RBox M a_b (D 3) w27 := dpA hd16 3 Z
    generalize hq7 : (D 3) = v26 at d31
    refine dg_sub (E' := [(8, v26), (7, (.bool true))]) ⟨(congrArg some hq7), (dpE hd16 2 Z Z), trivial⟩ (dg_on Z Z Z Z (ow_call Z Z Tryd.call30 (w_impl_BoxValid (hG.mono (hz3.trans hl27)) hC27.old d31 hx2) fun v27 w28 hv27 => ?_))
    obtain ⟨hv27, hb12⟩ := hv27
    obtain rfl := vbool_eq hv27
    exact ⟨hb12, Z⟩
   ·
    intro w29 D hS17 hd17
    exact dg_sub (E' := [(7, (.bool true)), (9, (.bool false))]) ⟨(dpE hd17 2 Z Z), (dpE hd17 4 Z Z), trivial⟩ (dg_plain Z (ow_pickT Z Z Z ⟨BX.refl _ _, Z⟩))
   ·
    intro w30 D hS18 hd18
    exact dg_sub (E' := [(10, (.bool false))]) ⟨(dpE hd18 5 Z Z), trivial⟩ (dg_plain Z (ow_move Z Z ⟨BX.refl _ _, Z⟩))
   ·
    intro w31 D hS19 hd19
    exact dg_sub (E' := [(11, (.bool false)), (2, (.pointer (some p1)))]) ⟨(dpE hd19 6 Z Z), Z, trivial⟩ (dg_off Z Z Z Z ⟨BX.refl _ _, Z⟩)
   ·
    intro w32 D hS20 hd20
    exact dg_sub (E' := [(12, undef), (11, (.bool false))]) ⟨(dpE hd20 7 Z Z), (dpE hd20 6 Z Z), trivial⟩ (dg_off Z Z Z Z ⟨BX.refl _ _, Z⟩)
   ·
    intro w33 D hS21 hd21
    exact dg_sub (E' := [(11, (.bool false)), (3, (.pointer (some p2)))]) ⟨(dpE hd21 6 Z Z), Z, trivial⟩ (dg_off Z Z Z Z ⟨BX.refl _ _, Z⟩)
   ·
    intro w34 D hS22 hd22
    have hC34 := hC2.no hS22
    refine lw_sub (E' := [(11, (.bool false)), (13, undef), (14, undef), (2, (.pointer (some p1))), (3, (.pointer (some p2))), (4, (.bool false))]) ⟨(dpE hd22 6 Z Z), (dpE hd22 8 Z Z), (dpE hd22 9 Z Z), Z, Z, Z, trivial⟩ (lw_off Z Z Z Z Z Z (lw_off Z Z Z Z Z Z (lw_op Z Z Z (ow_pickF Z Z Z (lw_op Z Z Z (ow_assign Z Z (lw_nil (ew_then (cw_ret ?_)))))))))
    obtain rfl := Option.some.inj h
    exact ew_ret (res1 Z (.tmp Z)) ⟨_, Z, ((vbool _)), hC34.bx⟩
 ·
  subst hc1
  have hz4 := (hl1.trans hl2)
  refine cw_sub (E' := [(2, (.pointer (some p1))), (3, (.pointer (some p2))), (4, (.bool false))]) ⟨Z, Z, Z, trivial⟩ (cw_drawQ 10 [PV RBox M a_a, PEq (.bool false), PEq (.bool false), PEq undef, PEq undef, PEq (.bool false), PEq (.bool false), PEq undef, PEq undef, PEq undef] (by kernel_rfl) Z (by kernel_rfl) ⟨PV.mono _ _ _, PEq.mono _, PEq.mono _, PEq.mono _, PEq.mono _, PEq.mono _, PEq.mono _, PEq.mono _, PEq.mono _, PEq.mono _, trivial⟩ ⟨?_, ?_, ?_, ?_, ?_, ?_, ?_, ?_, ?_, ?_, trivial⟩ ?_)
  ·
   intro w35 D hS23 hd23
   have hl35 := Le.no M hS23
   exact dg_sub (E' := [(2, (.pointer (some p1)))]) ⟨Z, trivial⟩ (dg_plain Z (ow_load (R := RBox) Z Z (ARep.mono (hl2.trans hl35) hp1) (Tryd.sizeOf27 _) (Tryd.isAgg27 _) fun v28 hv28 => ⟨BX.refl _ _, hv28⟩))
  ·
   intro w36 D hS24 hd24
   have hl36 := Le.no M hS24
   have hC36 := hC2.no hS24
   have d53 : PV RBox M a_a (D 0) w36 := dpA hd24 0 Z
   generalize hq8 : (D 0) = v29 at d53
   refine dg_sub (E' := [(5, v29)]) ⟨(congrArg some hq8), trivial⟩ (dg_plain Z (ow_call Z Z Tryd.call30 (w_impl_BoxValid (hG.mono (hz4.trans hl36)) hC36.old d53 hx1) fun v30 w37 hv30 => ?_))
   obtain ⟨hv30, hb13⟩ := hv30
   obtain rfl := vbool_eq hv30
   exact ⟨hb13, Z⟩
  ·
   intro w38 D hS25 hd25
   exact dg_sub (E' := [(6, (.bool false))]) ⟨(dpE hd25 1 Z Z), trivial⟩ (dg_plain Z (ow_move Z Z ⟨BX.refl _ _, Z⟩))
  ·
   intro w39 D hS26 hd26
   exact dg_sub (E' := [(7, (.bool false)), (3, (.pointer (some p2)))]) ⟨(dpE hd26 2 Z Z), Z, trivial⟩ (dg_off Z Z Z Z ⟨BX.refl _ _, Z⟩)
  ·
   intro w40 D hS27 hd27
   exact dg_sub (E' := [(8, undef), (7, (.bool false))]) ⟨(dpE hd27 3 Z Z), (dpE hd27 2 Z Z), trivial⟩ (dg_off Z Z Z Z ⟨BX.refl _ _, Z⟩)
  ·
   intro w41 D hS28 hd28
   exact dg_sub (E' := [(7, (.bool false)), (9, undef)]) ⟨(dpE hd28 2 Z Z), (dpE hd28 4 Z Z), trivial⟩ (dg_plain Z (ow_pickF Z Z Z ⟨BX.refl _ _, Z⟩))
  ·
   intro w42 D hS29 hd29
   exact dg_sub (E' := [(10, (.bool false))]) ⟨(dpE hd29 5 Z Z), trivial⟩ (dg_plain Z (ow_move Z Z ⟨BX.refl _ _, Z⟩))
  ·
   intro w43 D hS30 hd30
   exact dg_sub (E' := [(11, (.bool false)), (2, (.pointer (some p1)))]) ⟨(dpE hd30 6 Z Z), Z, trivial⟩ (dg_off Z Z Z Z ⟨BX.refl _ _, Z⟩)
  ·
   intro w44 D hS31 hd31
   exact dg_sub (E' := [(12, undef), (11, (.bool false))]) ⟨(dpE hd31 7 Z Z), (dpE hd31 6 Z Z), trivial⟩ (dg_off Z Z Z Z ⟨BX.refl _ _, Z⟩)
  ·
   intro w45 D hS32 hd32
   exact dg_sub (E' := [(11, (.bool false)), (3, (.pointer (some p2)))]) ⟨(dpE hd32 6 Z Z), Z, trivial⟩ (dg_off Z Z Z Z ⟨BX.refl _ _, Z⟩)
  ·
   intro w46 D hS33 hd33
   have hC46 := hC2.no hS33
   refine lw_sub (E' := [(11, (.bool false)), (13, undef), (14, undef), (2, (.pointer (some p1))), (3, (.pointer (some p2))), (4, (.bool false))]) ⟨(dpE hd33 6 Z Z), (dpE hd33 8 Z Z), (dpE hd33 9 Z Z), Z, Z, Z, trivial⟩ (lw_off Z Z Z Z Z Z (lw_off Z Z Z Z Z Z (lw_op Z Z Z (ow_pickF Z Z Z (lw_op Z Z Z (ow_assign Z Z (lw_nil (ew_then (cw_ret ?_)))))))))
   obtain rfl := Option.some.inj h
   exact ew_ret (res1 Z (.tmp Z)) ⟨_, Z, ((vbool _)), hC46.bx⟩

theorem w_spec_l10Empty {w : World} {M : Nat → Prop} (_hG : ARep (RArr 4 RShape) w M shapes ⟨0, 0, none⟩) (hO : ∀ b, M b → b < w.heap.size) {v0p : Value} {a_b : Box} (h0 : VRep RBox w M a_b v0p) {r : Bool} (h : F.spec_l10Empty a_b = some r) :
  Calls Tryd.prog 75 [v0p].toArray w fun e w' => ∃ v, e = .returned v ∧ VRep RBool w' M r v ∧ BX No w w' := by
 have hC : Cx No w M w M := Cx.start hO (fun _ e => e.elim)
 clear _hG
 refine walk (N := 18) Tryd.func75 Z Tryd.ntmps75 Z (cw_seq (cw_region (lw_op Z Z Z (ow_box (R := RBox) Z Z h0 hC fun p1 w1 hp1 hb1 hl1 hC1 => lw_op Z Z Z (ow_assign Z Z (lw_nil (ew_then (cw_seq (cw_seq (cw_region (lw_op Z Z Z (ow_assign Z Z (lw_nil (ew_then ?_))))))))))))))
 replace h := bind_some h
 obtain ⟨lr1, hlr1, h⟩ := h
 refine cw_for hlr1 (fun s a w' => ∃ (M' : Nat → Prop), Fits 18 [(1, (.pointer (some p1))), (3, (.int .i64 s))] a ∧ Le w1 M w' M' ∧ Cx No w M w' M') ?_ ?_ ?_
 ·
  intro a ha
  exact ⟨M, ha.sub ⟨Z, Z, trivial⟩, Le.refl _ _, hC1⟩
 ·
  rintro k1 a w2 sr1 ⟨M1, hF1, hl2, hC2⟩ hb2 hR1
  refine cw_at (E := [(1, (.pointer (some p1))), (3, (.int .i64 k1))]) hF1 (cw_seq (cw_seq (cw_region (lw_op Z Z Z (ow_move Z Z (lw_op Z Z Z (ow_fieldAddr Z Z Tryd.underlying27 Z (Tryd.sizeOf25 _) (lw_op Z Z Z (ow_load (R := (RSlice (RSlice RSpan))) Z Z (ARep.mono hl2 (hp1.fld fld_Box_Sides)) (Tryd.sizeOf25 _) (Tryd.isAgg25 _) fun v2 hv2 => lw_op Z Z Z (ow_len Z Z hv2 Tryd.underlying25 Z (lw_op Z Z Z (ow_lss Z Z Z fun bb1 hbb1 => lw_nil (ew_then ?_)))))))))))))
  replace hb2 := cond_some hb2
  rcases hb2 with ⟨hc1, hb2⟩ | ⟨hc1, hb2⟩
  ·
   obtain rfl := hbb1.trans hc1
   refine cw_true Z (cw_skip (ew_then (cw_seq (cw_block (cw_seq (cw_region (lw_op Z Z Z (ow_fieldAddr Z Z Tryd.underlying27 Z (Tryd.sizeOf25 _) (lw_op Z Z Z (ow_load (R := (RSlice (RSlice RSpan))) Z Z (ARep.mono hl2 (hp1.fld fld_Box_Sides)) (Tryd.sizeOf25 _) (Tryd.isAgg25 _) fun v3 hv3 => lw_op Z Z Z (ow_move Z Z ?_)))))))))))
   replace hb2 := bind_some hb2
   obtain ⟨x1, hx1, hb2⟩ := hb2
   refine lw_op Z Z Z (ow_indexSlice (R := (RSlice RSpan)) Z Z Z hv3 Tryd.underlying25 (Tryd.sizeOf58 _) hx1 fun p2 hp2 => lw_op Z Z Z (ow_load (R := (RSlice RSpan)) Z Z hp2 (Tryd.sizeOf58 _) (Tryd.isAgg58 _) fun v4 hv4 => lw_op Z Z Z (ow_len Z Z hv4 Tryd.underlying58 Z (lw_op Z Z Z (ow_eqlI Z Z Z fun bb2 hbb2 => lw_nil (ew_then ?_))))))
   replace hb2 := cond_some hb2
   rcases hb2 with ⟨hc2, hb2⟩ | ⟨hc2, hb2⟩
   ·
    obtain rfl := hbb2.trans hc2
    refine cw_true Z (cw_seq (cw_region (lw_op Z Z Z (ow_assign Z Z (lw_nil (ew_then (cw_ret (ew_blockR (ew_thenR (ew_thenR (ew_blockR (ew_brkR (ew_thenR ?_)))))))))))))
    have e1 := hR1 _ (Option.some.inj hb2).symm
    subst e1
    obtain rfl := Option.some.inj h
    exact ew_ret (res1 Z (.tmp Z)) ⟨_, Z, ((vbool _)), hC2.bx⟩
   ·
    obtain rfl := hbb2.trans hc2
    exact cw_false Z (cw_skip (ew_blockN (ew_then (cw_region (lw_op Z Z Z (ow_move Z Z (lw_op Z Z Z (ow_add Z Z Z (lw_op Z Z Z (ow_assign Z Z (lw_nil (ew_nxt (W (k1 + 1)) hb2 fun a ha => ⟨M1, (ha.sub ⟨Z, Z, trivial⟩), hl2, hC2⟩))))))))))))
  ·
   obtain rfl := hbb1.trans hc1
   exact cw_false Z (cw_exit (ew_thenX (ew_thenX (ew_blockX (ew_brk k1 hb2 fun a ha => ⟨M1, (ha.sub ⟨Z, Z, trivial⟩), hl2, hC2⟩)))))
 ·
  rintro k2 a w3 hlr2 ⟨M2, hF2, hl3, hC3⟩
  subst hlr2
  refine ew_at (E := [(1, (.pointer (some p1))), (3, (.int .i64 k2))]) hF2 (ew_then (cw_seq (cw_region (lw_op Z Z Z (ow_assign Z Z (lw_nil (ew_then (cw_ret ?_))))))))
  obtain rfl := Option.some.inj h
  exact ew_ret (res1 Z (.tmp Z)) ⟨_, Z, ((vbool _)), hC3.bx⟩


end Go.PF
