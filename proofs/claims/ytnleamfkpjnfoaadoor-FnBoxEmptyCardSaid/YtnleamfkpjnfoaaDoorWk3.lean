/- The walks; no condition. -/
import Derived.Test.YtnleamfkpjnfoaaDoorProg
import Derived.Test.YtnleamfkpjnfoaaDoorWk2
import Derived.Test.YtnleamfkpjnfoaaDoorPFNew
set_option maxRecDepth 100000
set_option maxHeartbeats 4000000
namespace Go.PF
open Go Go.RowKit Go.Proofs

theorem wo_spec_SpansOf {w : World} {M : Nat → Prop} (hG : ARep (RArr 4 RShape) w M shapes ⟨0, 0, none⟩) (hO : ∀ b, M b → b < w.heap.size) {v0p : Value} {a_list : List Span} (h0 : VRep (RSlice RSpan) w M a_list v0p) {a_top : Int} {r : (List Span)} (h : F.spec_SpansOf a_list a_top = some r) :
  Calls Tryd.prog 112 [v0p, (.int .i64 a_top)].toArray w fun e w' => ∃ v, e = .returned v ∧ (∃ M', OwnRow RSpan w.heap.size 76 w' M' r v ∧ Cx No w M w' M') ∧ BX No w w' := by
 have hC : Cx No w M w M := Cx.start hO (fun _ e => e.elim)
 refine walk (N := 53) Tryd.func112 Z Tryd.ntmps112 Z (cw_seq (cw_region (lw_op Z Z Z (ow_assign Z Z (lw_nil (ew_then (cw_seq (cw_region (lw_op Z Z Z (ow_buildSlice0 (R := RSpan) (e := 76) Z (by kernel_rfl) hC fun p1 w1 M1 hr1 hb1 hl1 hC1 hM1 hat1 => lw_op Z Z Z (ow_assign Z Z (lw_nil (ew_then (cw_seq (cw_seq (cw_region (lw_op Z Z Z (ow_move Z Z ?_))))))))))))))))))
 replace h := bind_some h
 obtain ⟨x1, hx1, h⟩ := h
 refine lw_op Z Z Z (ow_call Z Z Tryd.call82 (w_spec_l1In (hG.mono hl1) hC1.old hx1) fun v1 w2 hv1 => ?_)
 obtain ⟨hv1, hb2⟩ := hv1
 have hl2 := Le.no M1 hb2
 have hC2 := hC1.no hb2
 have hr2 := hr1.no hb2
 obtain rfl := vbool_eq hv1
 refine lw_op Z Z Z (ow_not Z Z (lw_op Z Z Z (ow_move Z Z ?_)))
 replace h := cond_some h
 rcases h with ⟨hc1, h⟩ | ⟨hc1, h⟩
 ·
  subst hc1
  refine lw_on Z Z Z Z Z Z (ow_move Z Z (lw_on Z Z Z Z Z Z (ow_len Z Z (VRep.mono (hl1.trans hl2) h0) Tryd.underlying58 Z (lw_on Z Z Z Z Z Z (ow_gtr Z Z Z fun bb1 hbb1 => lw_op Z Z Z (ow_pickF Z Z Z (lw_nil (ew_then ?_))))))))
  replace h := cond_some h
  rcases h with ⟨hc2, h⟩ | ⟨hc2, h⟩
  ·
   obtain rfl := hbb1.trans hc2
   refine cw_true Z (cw_seq (cw_region (lw_op Z Z Z (ow_move Z Z (lw_op Z Z Z (ow_assign Z Z (lw_nil (ew_then (cw_ret (ew_thenR ?_))))))))))
   obtain rfl := Option.some.inj h
   exact ew_ret (res1 Z (.tmp Z)) ⟨_, Z, ⟨M1, hr2, hC2⟩, hC2.bx⟩
  ·
   obtain rfl := hbb1.trans hc2
   refine cw_false Z (cw_skip (ew_then (cw_seq (cw_seq (cw_region (lw_op Z Z Z (ow_assign Z Z (lw_nil (ew_then ?_)))))))))
   replace h := bind_some h
   obtain ⟨lr1, hlr1, h⟩ := h
   refine cw_for hlr1 (fun s a w' => ∃ (M' : Nat → Prop) (v0c : Value), Fits 53 [(0, v0p), (1, (.int .i64 a_top)), (5, v0c), (6, (.int .i64 s.2))] a ∧ Le w2 M1 w' M' ∧ Cx No w M w' M' ∧ OwnRow RSpan w.heap.size 76 w' M' s.1 v0c) ?_ ?_ ?_
   ·
    intro a ha
    exact ⟨M1, (.slice (some p1) 0 0), ha.sub ⟨Z, Z, Z, Z, trivial⟩, Le.refl _ _, hC2, hr2⟩
   ·
    rintro ⟨y1, k1⟩ a w3 sr1 ⟨M2, v2, hF1, hl3, hC3, hw1⟩ hb3 hR1
    refine cw_at (E := [(0, v0p), (1, (.int .i64 a_top)), (5, v2), (6, (.int .i64 k1))]) hF1 (cw_seq (cw_seq (cw_region (lw_op Z Z Z (ow_move Z Z (lw_op Z Z Z (ow_move Z Z ?_)))))))
    have hz1 := ((hl1.trans hl2).trans hl3)
    refine lw_op Z Z Z (ow_len Z Z (VRep.mono hz1 h0) Tryd.underlying58 Z (lw_op Z Z Z (ow_lss Z Z Z fun bb2 hbb2 => lw_nil (ew_then ?_))))
    replace hb3 := cond_some hb3
    rcases hb3 with ⟨hc3, hb3⟩ | ⟨hc3, hb3⟩
    ·
     obtain rfl := hbb2.trans hc3
     refine cw_true Z (cw_skip (ew_then (cw_seq (cw_block (cw_seq (cw_seq ?_))))))
     replace hb3 := bind_some hb3
     obtain ⟨x2, hx2, hb3⟩ := hb3
     replace hb3 := bind_some hb3
     obtain ⟨x3, hx3, hb3⟩ := hb3
     replace hb3 := cond_some hb3
     rcases hb3 with ⟨hc4, hb3⟩ | ⟨hc4, hb3⟩
     ·
      subst hc4
      refine cw_sub (E' := [(0, v0p), (1, (.int .i64 a_top)), (5, v2), (6, (.int .i64 k1))]) ⟨Z, Z, Z, Z, trivial⟩ (cw_drawQ 19 [PV (RSlice RSpan) M2 a_list, PEq (.int .i64 k1), PA RSpan M2 x2, PA RInt M2 x2.Lo, PEq (.int .i64 x2.Lo), PV (RSlice RSpan) M2 a_list, PEq (.int .i64 k1), PA RSpan M2 x2, PA RInt M2 x2.Hi, PEq (.int .i64 x2.Hi), PEq (.bool true), PEq (.bool false), PEq (.bool false), PV (RSlice RSpan) M2 a_list, PEq (.int .i64 k1), PA RSpan M2 x2, PA RInt M2 x2.Hi, PEq (.int .i64 x2.Hi), PEq (.int .i64 a_top)] (by kernel_rfl) Z (by kernel_rfl) ⟨PV.mono _ _ _, PEq.mono _, PA.mono _ _ _, PA.mono _ _ _, PEq.mono _, PV.mono _ _ _, PEq.mono _, PA.mono _ _ _, PA.mono _ _ _, PEq.mono _, PEq.mono _, PEq.mono _, PEq.mono _, PV.mono _ _ _, PEq.mono _, PA.mono _ _ _, PA.mono _ _ _, PEq.mono _, PEq.mono _, trivial⟩ ⟨?_, ?_, ?_, ?_, ?_, ?_, ?_, ?_, ?_, ?_, ?_, ?_, ?_, ?_, ?_, ?_, ?_, ?_, ?_, trivial⟩ ?_)
      ·
       intro w5 D hS1 hd1
       have hl5 := Le.no M2 hS1
       exact dg_sub (E' := [(0, v0p)]) ⟨Z, trivial⟩ (dg_plain Z (ow_move Z Z ⟨BX.refl _ _, (VRep.mono (hz1.trans hl5) h0)⟩))
      ·
       intro w6 D hS2 hd2
       exact dg_sub (E' := [(6, (.int .i64 k1))]) ⟨Z, trivial⟩ (dg_plain Z (ow_move Z Z ⟨BX.refl _ _, Z⟩))
      ·
       intro w7 D hS3 hd3
       have d1 : PV (RSlice RSpan) M2 a_list (D 0) w7 := dpA hd3 0 Z
       generalize hq1 : (D 0) = v8 at d1
       exact dg_sub (E' := [(23, v8), (24, (.int .i64 k1))]) ⟨(congrArg some hq1), (dpE hd3 1 Z Z), trivial⟩ (dg_plain Z (ow_indexSlice (R := RSpan) Z Z Z d1 Tryd.underlying58 (Tryd.sizeOf76 _) hx2 fun p5 hp5 => ⟨BX.refl _ _, ⟨_, Z, hp5⟩⟩))
      ·
       intro w8 D hS4 hd4
       have d3 : PA RSpan M2 x2 (D 2) w8 := dpA hd4 2 Z
       obtain ⟨p6, e1, ha1⟩ := d3
       exact dg_sub (E' := [(25, (.pointer (some p6)))]) ⟨(congrArg some e1), trivial⟩ (dg_plain Z (ow_fieldAddr Z Z Tryd.underlying76 Z (Tryd.sizeOf3 _) ⟨BX.refl _ _, ⟨_, Z, (ha1.fld fld_Span_Lo)⟩⟩))
      ·
       intro w9 D hS5 hd5
       have d4 : PA RInt M2 x2.Lo (D 3) w9 := dpA hd5 3 Z
       obtain ⟨p7, e2, ha2⟩ := d4
       refine dg_sub (E' := [(26, (.pointer (some p7)))]) ⟨(congrArg some e2), trivial⟩ (dg_plain Z (ow_load (R := RInt) Z Z ha2 (Tryd.sizeOf3 _) (Tryd.isAgg3 _) fun v9 hv9 => ?_))
       obtain rfl := vint_eq hv9
       exact ⟨BX.refl _ _, Z⟩
      ·
       intro w10 D hS6 hd6
       have hl10 := Le.no M2 hS6
       exact dg_sub (E' := [(0, v0p)]) ⟨Z, trivial⟩ (dg_plain Z (ow_move Z Z ⟨BX.refl _ _, (VRep.mono (hz1.trans hl10) h0)⟩))
      ·
       intro w11 D hS7 hd7
       exact dg_sub (E' := [(6, (.int .i64 k1))]) ⟨Z, trivial⟩ (dg_plain Z (ow_move Z Z ⟨BX.refl _ _, Z⟩))
      ·
       intro w12 D hS8 hd8
       have d5 : PV (RSlice RSpan) M2 a_list (D 5) w12 := dpA hd8 5 Z
       generalize hq2 : (D 5) = v10 at d5
       exact dg_sub (E' := [(28, v10), (29, (.int .i64 k1))]) ⟨(congrArg some hq2), (dpE hd8 6 Z Z), trivial⟩ (dg_plain Z (ow_indexSlice (R := RSpan) Z Z Z d5 Tryd.underlying58 (Tryd.sizeOf76 _) hx2 fun p8 hp8 => ⟨BX.refl _ _, ⟨_, Z, hp8⟩⟩))
      ·
       intro w13 D hS9 hd9
       have d7 : PA RSpan M2 x2 (D 7) w13 := dpA hd9 7 Z
       obtain ⟨p9, e3, ha3⟩ := d7
       exact dg_sub (E' := [(30, (.pointer (some p9)))]) ⟨(congrArg some e3), trivial⟩ (dg_plain Z (ow_fieldAddr Z Z Tryd.underlying76 Z (Tryd.sizeOf3 _) ⟨BX.refl _ _, ⟨_, Z, (ha3.fld fld_Span_Hi)⟩⟩))
      ·
       intro w14 D hS10 hd10
       have d8 : PA RInt M2 x2.Hi (D 8) w14 := dpA hd10 8 Z
       obtain ⟨p10, e4, ha4⟩ := d8
       refine dg_sub (E' := [(31, (.pointer (some p10)))]) ⟨(congrArg some e4), trivial⟩ (dg_plain Z (ow_load (R := RInt) Z Z ha4 (Tryd.sizeOf3 _) (Tryd.isAgg3 _) fun v11 hv11 => ?_))
       obtain rfl := vint_eq hv11
       exact ⟨BX.refl _ _, Z⟩
      ·
       intro w15 D hS11 hd11
       have hl15 := Le.no M2 hS11
       have hC15 := hC3.no hS11
       refine dg_sub (E' := [(27, (.int .i64 x2.Lo)), (32, (.int .i64 x2.Hi))]) ⟨(dpE hd11 4 Z Z), (dpE hd11 9 Z Z), trivial⟩ (dg_plain Z (ow_call Z Z Tryd.call82 (w_spec_l1In (hG.mono (hz1.trans hl15)) hC15.old hx3) fun v12 w16 hv12 => ?_))
       obtain ⟨hv12, hb5⟩ := hv12
       obtain rfl := vbool_eq hv12
       exact ⟨hb5, Z⟩
      ·
       intro w17 D hS12 hd12
       exact dg_sub (E' := [(33, (.bool true))]) ⟨(dpE hd12 10 Z Z), trivial⟩ (dg_plain Z (ow_not Z Z ⟨BX.refl _ _, Z⟩))
      ·
       intro w18 D hS13 hd13
       exact dg_sub (E' := [(34, (.bool false))]) ⟨(dpE hd13 11 Z Z), trivial⟩ (dg_plain Z (ow_move Z Z ⟨BX.refl _ _, Z⟩))
      ·
       intro w19 D hS14 hd14
       have hl19 := Le.no M2 hS14
       exact dg_sub (E' := [(35, (.bool false)), (0, v0p)]) ⟨(dpE hd14 12 Z Z), Z, trivial⟩ (dg_on Z Z Z Z (ow_move Z Z ⟨BX.refl _ _, (VRep.mono (hz1.trans hl19) h0)⟩))
      ·
       intro w20 D hS15 hd15
       exact dg_sub (E' := [(35, (.bool false)), (6, (.int .i64 k1))]) ⟨(dpE hd15 12 Z Z), Z, trivial⟩ (dg_on Z Z Z Z (ow_move Z Z ⟨BX.refl _ _, Z⟩))
      ·
       intro w21 D hS16 hd16
       have d16 : PV (RSlice RSpan) M2 a_list (D 13) w21 := dpA hd16 13 Z
       generalize hq3 : (D 13) = v13 at d16
       exact dg_sub (E' := [(36, v13), (37, (.int .i64 k1)), (35, (.bool false))]) ⟨(congrArg some hq3), (dpE hd16 14 Z Z), (dpE hd16 12 Z Z), trivial⟩ (dg_on Z Z Z Z (ow_indexSlice (R := RSpan) Z Z Z d16 Tryd.underlying58 (Tryd.sizeOf76 _) hx2 fun p11 hp11 => ⟨BX.refl _ _, ⟨_, Z, hp11⟩⟩))
      ·
       intro w22 D hS17 hd17
       have d19 : PA RSpan M2 x2 (D 15) w22 := dpA hd17 15 Z
       obtain ⟨p12, e5, ha5⟩ := d19
       exact dg_sub (E' := [(38, (.pointer (some p12))), (35, (.bool false))]) ⟨(congrArg some e5), (dpE hd17 12 Z Z), trivial⟩ (dg_on Z Z Z Z (ow_fieldAddr Z Z Tryd.underlying76 Z (Tryd.sizeOf3 _) ⟨BX.refl _ _, ⟨_, Z, (ha5.fld fld_Span_Hi)⟩⟩))
      ·
       intro w23 D hS18 hd18
       have d21 : PA RInt M2 x2.Hi (D 16) w23 := dpA hd18 16 Z
       obtain ⟨p13, e6, ha6⟩ := d21
       refine dg_sub (E' := [(39, (.pointer (some p13))), (35, (.bool false))]) ⟨(congrArg some e6), (dpE hd18 12 Z Z), trivial⟩ (dg_on Z Z Z Z (ow_load (R := RInt) Z Z ha6 (Tryd.sizeOf3 _) (Tryd.isAgg3 _) fun v14 hv14 => ?_))
       obtain rfl := vint_eq hv14
       exact ⟨BX.refl _ _, Z⟩
      ·
       intro w24 D hS19 hd19
       exact dg_sub (E' := [(35, (.bool false)), (1, (.int .i64 a_top))]) ⟨(dpE hd19 12 Z Z), Z, trivial⟩ (dg_on Z Z Z Z (ow_move Z Z ⟨BX.refl _ _, Z⟩))
      ·
       intro w25 D hS20 hd20
       have hl25 := Le.no M2 hS20
       have hC25 := hC3.no hS20
       have hr24 := hw1.no hS20
       refine lw_sub (E' := [(35, (.bool false)), (40, (.int .i64 x2.Hi)), (41, (.int .i64 a_top)), (0, v0p), (1, (.int .i64 a_top)), (5, v2), (6, (.int .i64 k1))]) ⟨(dpE hd20 12 Z Z), (dpE hd20 17 Z Z), (dpE hd20 18 Z Z), Z, Z, Z, Z, trivial⟩ ?_
       replace hb3 := bind_some hb3
       obtain ⟨x4, hx4, hb3⟩ := hb3
       refine lw_on Z Z Z Z Z Z (ow_call Z Z Tryd.call82 (w_spec_l1In (hG.mono (hz1.trans hl25)) hC25.old hx4) fun v15 w26 hv15 => ?_)
       obtain ⟨hv15, hb6⟩ := hv15
       have hl26 := Le.no M2 hb6
       have hC26 := hC25.no hb6
       have hr25 := hr24.no hb6
       obtain rfl := vbool_eq hv15
       refine lw_on Z Z Z Z Z Z (ow_not Z Z (lw_op Z Z Z (ow_pickF Z Z Z (lw_nil (ew_then ?_)))))
       replace hb3 := cond_some hb3
       rcases hb3 with ⟨hc5, hb3⟩ | ⟨hc5, hb3⟩
       ·
        subst hc5
        refine cw_false Z (cw_skip (ew_then (cw_region (lw_op Z Z Z (ow_move Z Z (lw_op Z Z Z (ow_move Z Z (lw_op Z Z Z (ow_move Z Z ?_)))))))))
        have hz2 := ((hz1.trans hl25).trans hl26)
        refine lw_op Z Z Z (ow_indexSlice (R := RSpan) Z Z Z (VRep.mono hz2 h0) Tryd.underlying58 (Tryd.sizeOf76 _) hx2 fun p14 hp14 => lw_op Z Z Z (ow_load (R := RSpan) Z Z hp14 (Tryd.sizeOf76 _) (Tryd.isAgg76 _) fun v16 hv16 => ?_))
        have hw2 := hr25.freezeDel
        have hC27 := hr25.cxDel hC26 (fun _ e => e.elim) hO
        have hl27 := Le.del w26 M2 v2
        replace hb3 := bind_some hb3
        obtain ⟨x5, hx5, hb3⟩ := hb3
        refine lw_op Z Z Z (ow_call Z Z Tryd.call116 (wo_spec_l1Add (hG.mono (hz2.trans hl27)) hC27.old hw2 (VRep.mono hl27 hv16) hx5) fun v17 w27 hv17 => ?_)
        obtain ⟨⟨M3, hr26, hk1⟩, hb7⟩ := hv17
        replace hr26 := hr26.base hC27.bx.size
        have hl28 := hk1.le
        have hC28 := hC27.trans hk1
        refine lw_op Z Z Z (ow_assign Z Z (lw_nil (ew_blockN (ew_then (cw_region (lw_op Z Z Z (ow_move Z Z (lw_op Z Z Z (ow_add Z Z Z (lw_op Z Z Z (ow_assign Z Z (lw_nil ?_))))))))))))
        have hz3 := ((((hl3.trans hl25).trans hl26).trans hl27).trans hl28)
        exact ew_nxt (x5, (W (k1 + 1))) hb3 fun a ha => ⟨M3, v17, (ha.sub ⟨Z, Z, Z, Z, trivial⟩), hz3, hC28, hr26⟩
       ·
        subst hc5
        refine cw_true Z (cw_seq (cw_region (lw_op Z Z Z (ow_buildSlice0 (R := RSpan) (e := 76) Z (by kernel_rfl) hC26 fun p15 w28 M4 hr27 hb8 hl29 hC29 hM2 hat2 => lw_op Z Z Z (ow_assign Z Z (lw_nil (ew_then (cw_ret (ew_thenR (ew_blockR (ew_thenR (ew_thenR (ew_blockR (ew_brkR (ew_thenR ?_)))))))))))))))
        have e7 := hR1 _ (Option.some.inj hb3).symm
        subst e7
        obtain rfl := Option.some.inj h
        exact ew_ret (res1 Z (.tmp Z)) ⟨_, Z, ⟨M4, hr27, hC29⟩, hC29.bx⟩
     ·
      subst hc4
      refine cw_sub (E' := [(0, v0p), (1, (.int .i64 a_top)), (5, v2), (6, (.int .i64 k1))]) ⟨Z, Z, Z, Z, trivial⟩ (cw_drawQ 19 [PV (RSlice RSpan) M2 a_list, PEq (.int .i64 k1), PA RSpan M2 x2, PA RInt M2 x2.Lo, PEq (.int .i64 x2.Lo), PV (RSlice RSpan) M2 a_list, PEq (.int .i64 k1), PA RSpan M2 x2, PA RInt M2 x2.Hi, PEq (.int .i64 x2.Hi), PEq (.bool false), PEq (.bool true), PEq (.bool true), PEq undef, PEq undef, PEq undef, PEq undef, PEq undef, PEq undef] (by kernel_rfl) Z (by kernel_rfl) ⟨PV.mono _ _ _, PEq.mono _, PA.mono _ _ _, PA.mono _ _ _, PEq.mono _, PV.mono _ _ _, PEq.mono _, PA.mono _ _ _, PA.mono _ _ _, PEq.mono _, PEq.mono _, PEq.mono _, PEq.mono _, PEq.mono _, PEq.mono _, PEq.mono _, PEq.mono _, PEq.mono _, PEq.mono _, trivial⟩ ⟨?_, ?_, ?_, ?_, ?_, ?_, ?_, ?_, ?_, ?_, ?_, ?_, ?_, ?_, ?_, ?_, ?_, ?_, ?_, trivial⟩ ?_)
      ·
       intro w29 D hS21 hd21
       have hl30 := Le.no M2 hS21
       exact dg_sub (E' := [(0, v0p)]) ⟨Z, trivial⟩ (dg_plain Z (ow_move Z Z ⟨BX.refl _ _, (VRep.mono (hz1.trans hl30) h0)⟩))
      ·
       intro w30 D hS22 hd22
       exact dg_sub (E' := [(6, (.int .i64 k1))]) ⟨Z, trivial⟩ (dg_plain Z (ow_move Z Z ⟨BX.refl _ _, Z⟩))
      ·
       intro w31 D hS23 hd23
       have d43 : PV (RSlice RSpan) M2 a_list (D 0) w31 := dpA hd23 0 Z
       generalize hq4 : (D 0) = v18 at d43
       exact dg_sub (E' := [(23, v18), (24, (.int .i64 k1))]) ⟨(congrArg some hq4), (dpE hd23 1 Z Z), trivial⟩ (dg_plain Z (ow_indexSlice (R := RSpan) Z Z Z d43 Tryd.underlying58 (Tryd.sizeOf76 _) hx2 fun p16 hp16 => ⟨BX.refl _ _, ⟨_, Z, hp16⟩⟩))
      ·
       intro w32 D hS24 hd24
       have d45 : PA RSpan M2 x2 (D 2) w32 := dpA hd24 2 Z
       obtain ⟨p17, e8, ha7⟩ := d45
       exact dg_sub (E' := [(25, (.pointer (some p17)))]) ⟨(congrArg some e8), trivial⟩ (dg_plain Z (ow_fieldAddr Z Z Tryd.underlying76 Z (Tryd.sizeOf3 _) ⟨BX.refl _ _, ⟨_, Z, (ha7.fld fld_Span_Lo)⟩⟩))
      ·
       intro w33 D hS25 hd25
       have d46 : PA RInt M2 x2.Lo (D 3) w33 := dpA hd25 3 Z
       obtain ⟨p18, e9, ha8⟩ := d46
       refine dg_sub (E' := [(26, (.pointer (some p18)))]) ⟨(congrArg some e9), trivial⟩ (dg_plain Z (ow_load (R := RInt) Z Z ha8 (Tryd.sizeOf3 _) (Tryd.isAgg3 _) fun v19 hv19 => ?_))
       obtain rfl := vint_eq hv19
       exact ⟨BX.refl _ _, Z⟩
      ·
       intro w34 D hS26 hd26
       have hl35 := Le.no M2 hS26
       exact dg_sub (E' := [(0, v0p)]) ⟨Z, trivial⟩ (dg_plain Z (ow_move Z Z ⟨BX.refl _ _, (VRep.mono (hz1.trans hl35) h0)⟩))
      ·
       intro w35 D hS27 hd27
       exact dg_sub (E' := [(6, (.int .i64 k1))]) ⟨Z, trivial⟩ (dg_plain Z (ow_move Z Z ⟨BX.refl _ _, Z⟩))
      ·
       intro w36 D hS28 hd28
       have d47 : PV (RSlice RSpan) M2 a_list (D 5) w36 := dpA hd28 5 Z
       generalize hq5 : (D 5) = v20 at d47
       exact dg_sub (E' := [(28, v20), (29, (.int .i64 k1))]) ⟨(congrArg some hq5), (dpE hd28 6 Z Z), trivial⟩ (dg_plain Z (ow_indexSlice (R := RSpan) Z Z Z d47 Tryd.underlying58 (Tryd.sizeOf76 _) hx2 fun p19 hp19 => ⟨BX.refl _ _, ⟨_, Z, hp19⟩⟩))
      ·
       intro w37 D hS29 hd29
       have d49 : PA RSpan M2 x2 (D 7) w37 := dpA hd29 7 Z
       obtain ⟨p20, e10, ha9⟩ := d49
       exact dg_sub (E' := [(30, (.pointer (some p20)))]) ⟨(congrArg some e10), trivial⟩ (dg_plain Z (ow_fieldAddr Z Z Tryd.underlying76 Z (Tryd.sizeOf3 _) ⟨BX.refl _ _, ⟨_, Z, (ha9.fld fld_Span_Hi)⟩⟩))
      ·
       intro w38 D hS30 hd30
       have d50 : PA RInt M2 x2.Hi (D 8) w38 := dpA hd30 8 Z
       obtain ⟨p21, e11, ha10⟩ := d50
       refine dg_sub (E' := [(31, (.pointer (some p21)))]) ⟨(congrArg some e11), trivial⟩ (dg_plain Z (ow_load (R := RInt) Z Z ha10 (Tryd.sizeOf3 _) (Tryd.isAgg3 _) fun v21 hv21 => ?_))
       obtain rfl := vint_eq hv21
       exact ⟨BX.refl _ _, Z⟩
      ·
       intro w39 D hS31 hd31
       have hl40 := Le.no M2 hS31
       have hC40 := hC3.no hS31
       refine dg_sub (E' := [(27, (.int .i64 x2.Lo)), (32, (.int .i64 x2.Hi))]) ⟨(dpE hd31 4 Z Z), (dpE hd31 9 Z Z), trivial⟩ (dg_plain Z (ow_call Z Z Tryd.call82 (w_spec_l1In (hG.mono (hz1.trans hl40)) hC40.old hx3) fun v22 w40 hv22 => ?_))
       obtain ⟨hv22, hb9⟩ := hv22
       obtain rfl := vbool_eq hv22
       exact ⟨hb9, Z⟩
      ·
       intro w41 D hS32 hd32
       exact dg_sub (E' := [(33, (.bool false))]) ⟨(dpE hd32 10 Z Z), trivial⟩ (dg_plain Z (ow_not Z Z ⟨BX.refl _ _, Z⟩))
      ·
       intro w42 D hS33 hd33
       exact dg_sub (E' := [(34, (.bool true))]) ⟨(dpE hd33 11 Z Z), trivial⟩ (dg_plain Z (ow_move Z Z ⟨BX.refl _ _, Z⟩))
      ·
       intro w43 D hS34 hd34
       exact dg_sub (E' := [(35, (.bool true)), (0, v0p)]) ⟨(dpE hd34 12 Z Z), Z, trivial⟩ (dg_off Z Z Z Z ⟨BX.refl _ _, Z⟩)
      ·
       intro w44 D hS35 hd35
       exact dg_sub (E' := [(35, (.bool true)), (6, (.int .i64 k1))]) ⟨(dpE hd35 12 Z Z), Z, trivial⟩ (dg_off Z Z Z Z ⟨BX.refl _ _, Z⟩)
      ·
       intro w45 D hS36 hd36
       exact dg_sub (E' := [(36, undef), (37, undef), (35, (.bool true))]) ⟨(dpE hd36 13 Z Z), (dpE hd36 14 Z Z), (dpE hd36 12 Z Z), trivial⟩ (dg_off Z Z Z Z ⟨BX.refl _ _, Z⟩)
      ·
       intro w46 D hS37 hd37
       exact dg_sub (E' := [(38, undef), (35, (.bool true))]) ⟨(dpE hd37 15 Z Z), (dpE hd37 12 Z Z), trivial⟩ (dg_off Z Z Z Z ⟨BX.refl _ _, Z⟩)
      ·
       intro w47 D hS38 hd38
       exact dg_sub (E' := [(39, undef), (35, (.bool true))]) ⟨(dpE hd38 16 Z Z), (dpE hd38 12 Z Z), trivial⟩ (dg_off Z Z Z Z ⟨BX.refl _ _, Z⟩)
      ·
       intro w48 D hS39 hd39
       exact dg_sub (E' := [(35, (.bool true)), (1, (.int .i64 a_top))]) ⟨(dpE hd39 12 Z Z), Z, trivial⟩ (dg_off Z Z Z Z ⟨BX.refl _ _, Z⟩)
      ·
       intro w49 D hS40 hd40
       have hC50 := hC3.no hS40
       refine lw_sub (E' := [(35, (.bool true)), (40, undef), (41, undef), (0, v0p), (1, (.int .i64 a_top)), (5, v2), (6, (.int .i64 k1))]) ⟨(dpE hd40 12 Z Z), (dpE hd40 17 Z Z), (dpE hd40 18 Z Z), Z, Z, Z, Z, trivial⟩ (lw_off Z Z Z Z Z Z (lw_off Z Z Z Z Z Z (lw_op Z Z Z (ow_pickT Z Z Z (lw_nil (ew_then (cw_true Z (cw_seq (cw_region (lw_op Z Z Z (ow_buildSlice0 (R := RSpan) (e := 76) Z (by kernel_rfl) hC50 fun p22 w50 M5 hr50 hb10 hl51 hC51 hM3 hat3 => lw_op Z Z Z (ow_assign Z Z (lw_nil (ew_then (cw_ret (ew_thenR (ew_blockR (ew_thenR (ew_thenR (ew_blockR (ew_brkR (ew_thenR ?_))))))))))))))))))))))
       have e12 := hR1 _ (Option.some.inj hb3).symm
       subst e12
       obtain rfl := Option.some.inj h
       exact ew_ret (res1 Z (.tmp Z)) ⟨_, Z, ⟨M5, hr50, hC51⟩, hC51.bx⟩
    ·
     obtain rfl := hbb2.trans hc3
     exact cw_false Z (cw_exit (ew_thenX (ew_thenX (ew_blockX (ew_brk (y1, k1) hb3 fun a ha => ⟨M2, v2, (ha.sub ⟨Z, Z, Z, Z, trivial⟩), hl3, hC3, hw1⟩)))))
   ·
    rintro ⟨y2, k2⟩ a w51 hlr2 ⟨M6, v23, hF2, hl52, hC52, hw3⟩
    subst hlr2
    refine ew_at (E := [(0, v0p), (1, (.int .i64 a_top)), (5, v23), (6, (.int .i64 k2))]) hF2 (ew_then (cw_seq (cw_region (lw_op Z Z Z (ow_move Z Z (lw_op Z Z Z (ow_assign Z Z (lw_nil (ew_then (cw_ret ?_))))))))))
    obtain rfl := Option.some.inj h
    exact ew_ret (res1 Z (.tmp Z)) ⟨_, Z, ⟨M6, hw3, hC52⟩, hC52.bx⟩
 ·
  subst hc1
  refine lw_off Z Z Z Z Z Z (lw_off Z Z Z Z Z Z (lw_off Z Z Z Z Z Z (lw_op Z Z Z (ow_pickT Z Z Z (lw_nil (ew_then (cw_true Z (cw_seq (cw_region (lw_op Z Z Z (ow_move Z Z (lw_op Z Z Z (ow_assign Z Z (lw_nil (ew_then (cw_ret (ew_thenR ?_)))))))))))))))))
  obtain rfl := Option.some.inj h
  exact ew_ret (res1 Z (.tmp Z)) ⟨_, Z, ⟨M1, hr2, hC2⟩, hC2.bx⟩

theorem w_spec_l20Raw {w : World} {M : Nat → Prop} (hG : ARep (RArr 4 RShape) w M shapes ⟨0, 0, none⟩) (hO : ∀ b, M b → b < w.heap.size) {g : Nat} {Ax : Option Addr} {cx : Nat} {a_xs : List Int} {a_pos : Int} (hxs : VRep (RSlice RU8) w M a_xs (.slice Ax a_xs.length cx)) (hown : Own w g 98 #[.slice Ax a_xs.length cx, .int .i64 a_pos]) (hgM : M g) {a_top : Int} {a_n : Int} {r : ((List Span)) × Int} (h : F.spec_l20Raw a_xs a_pos a_top a_n = some r) :
  Calls Tryd.prog 113 [(.pointer (some ⟨g, 0, none⟩)), (.int .i64 a_top), (.int .i64 a_n)].toArray w fun e w' => ∃ v, e = .returned v ∧ (VRep (RSlice RSpan) w' M r.1 v ∧ Own w' g 98 #[.slice Ax a_xs.length cx, .int .i64 r.2]) ∧ BX (One g) w w' := by
 obtain ⟨i76, hi76, hz76, hs76, hy76⟩ := info76
 have hX : ∀ b, (One g) b → M b := fun b e => e ▸ hgM
 have hC : Cx (One g) w M w M := Cx.start hO hX
 refine walk (N := 24) Tryd.func113 Z Tryd.ntmps113 Z (cw_seq (cw_region (lw_op Z Z Z (ow_assign Z Z (lw_nil (ew_then (cw_seq (cw_region (lw_op Z Z Z (ow_buildSlice0 (R := RSpan) (e := 76) Z (by kernel_rfl) hC fun p1 w1 M1 hr1 hb1 hl1 hC1 hM1 hat1 => ?_))))))))))
 have ho1 := hown.no hb1
 have hm1 := hM1 _ hgM
 refine lw_op Z Z Z (ow_assign Z Z (lw_nil (ew_then (cw_seq (cw_seq (cw_region (lw_op Z Z Z (ow_move Z Z ?_))))))))
 replace h := bind_some h
 obtain ⟨x1, hx1, h⟩ := h
 refine lw_op Z Z Z (ow_call Z Z Tryd.call87 (w_spec_l20Rd_pick (hG.mono hl1) hC1.old (VRep.mono hl1 hxs) ho1 hm1 hx1) fun v1 w2 hv1 => ?_)
 obtain ⟨⟨hv1, ho2⟩, hb2⟩ := hv1
 have hl2 := Le.of_bx M1 hb2 (fun b e => (by rw [show b = g from e]; exact hm1))
 have hC2 := hC1.go hb2 (fun b e => Or.inr e)
 have hr2 := hr1.go hb2 (fun k hk e => (orow_ne hr1 ho1 (by decide)) (hk.trans (congrArg some e))) hl2 (fun _ h => h)
 obtain rfl := vint_eq hv1
 refine lw_op Z Z Z (ow_assign Z Z (lw_nil (ew_then ?_)))
 replace h := bind_some h
 obtain ⟨lr1, hlr1, h⟩ := h
 refine cw_for hlr1 (fun s a w' => ∃ (M' : Nat → Prop) (v0c : Value), Fits 24 [(0, (.pointer (some ⟨g, 0, none⟩))), (1, (.int .i64 a_top)), (2, (.int .i64 a_n)), (7, v0c), (8, (.int .i64 s.2.1))] a ∧ Le w2 M1 w' M' ∧ Cx (One g) w M w' M' ∧ OwnRow RSpan w.heap.size 76 w' M' s.1 v0c ∧ Own w' g 98 #[(.slice Ax a_xs.length cx), (.int .i64 s.2.2)] ∧ M' g) ?_ ?_ ?_
 ·
  intro a ha
  exact ⟨M1, (.slice (some p1) 0 0), ha.sub ⟨Z, Z, Z, Z, Z, trivial⟩, Le.refl _ _, hC2, hr2, ho2, hm1⟩
 ·
  rintro ⟨y1, k1, k2⟩ a w3 sr1 ⟨M2, v2, hF1, hl3, hC3, hw1, ho3, hm2⟩ hb3 hR1
  refine cw_at (E := [(0, (.pointer (some ⟨g, 0, none⟩))), (1, (.int .i64 a_top)), (2, (.int .i64 a_n)), (7, v2), (8, (.int .i64 k1))]) hF1 (cw_seq (cw_seq (cw_region (lw_op Z Z Z (ow_move Z Z (lw_op Z Z Z (ow_gtr Z Z Z fun bb1 hbb1 => lw_nil (ew_then ?_))))))))
  replace hb3 := cond_some hb3
  rcases hb3 with ⟨hc1, hb3⟩ | ⟨hc1, hb3⟩
  ·
   obtain rfl := hbb1.trans hc1
   refine cw_true Z (cw_skip (ew_then (cw_seq (cw_block (cw_region (lw_op Z Z Z (ow_move Z Z (lw_op Z Z Z (ow_move Z Z (lw_op Z Z Z (ow_move Z Z (lw_op Z Z Z (ow_move Z Z ?_)))))))))))))
   have hz1 := ((hl1.trans hl2).trans hl3)
   replace hb3 := bind_some hb3
   obtain ⟨x2, hx2, hb3⟩ := hb3
   refine lw_op Z Z Z (ow_call Z Z Tryd.call109 (w_spec_l20Span (hG.mono hz1) hC3.old (VRep.mono hz1 hxs) ho3 hm2 hx2) fun v5 w4 hv5 => ?_)
   obtain ⟨⟨hv5, ho4⟩, hb4⟩ := hv5
   have hl4 := Le.of_bx M2 hb4 (fun b e => (by rw [show b = g from e]; exact hm2))
   have hC4 := hC3.go hb4 (fun b e => Or.inr e)
   have hr3 := hw1.go hb4 (fun k hk e => (orow_ne hw1 ho3 (by decide)) (hk.trans (congrArg some e))) hl4 (fun _ h => h)
   obtain rfl := open_Span hv5
   refine lw_op Z Z Z (ow_buildSlice (R := RSpan) (xs := [x2.1]) (cs := #[(.int .i64 x2.1.Lo), (.int .i64 x2.1.Hi)]) (e := 76) Z Z (by kernel_rfl) Z Z ⟨_, _, Z, hv5.cells, Z⟩ hC4 fun p2 w5 hw2 hb5 hl5 hC5 => ?_)
   have ho5 := ho4.no hb5
   have hr4 := hr3.no hb5
   replace hb3 := bind_some hb3
   obtain ⟨z1, hz1, hb3⟩ := hb3
   refine lw_op Z Z Z (ow_append (R := RSpan) Z Z Z Z Tryd.underlying58 hi76 hz76 hs76 hy76 Z Z Z Z hr4 hw2 hz1 hC5 fun v6 w6 M3 hr5 hb6 hl6 hC6 hM2 hat2 => ?_)
   have ho6 := ho5.go hb6 (fun e => (orow_ne hr4 ho5 (by decide)) e)
   have hm3 := hM2 _ hm2
   refine lw_op Z Z Z (ow_assign Z Z (lw_nil (ew_blockN (ew_then (cw_region (lw_op Z Z Z (ow_move Z Z (lw_op Z Z Z (ow_sub Z Z Z (lw_op Z Z Z (ow_assign Z Z (lw_nil ?_))))))))))))
   have hz2 := (((hl3.trans hl4).trans hl5).trans hl6)
   exact ew_nxt (z1, (W (k1 - 1)), x2.2) hb3 fun a ha => ⟨M3, v6, (ha.sub ⟨Z, Z, Z, Z, Z, trivial⟩), hz2, hC6, hr5, ho6, hm3⟩
  ·
   obtain rfl := hbb1.trans hc1
   exact cw_false Z (cw_exit (ew_thenX (ew_thenX (ew_blockX (ew_brk (y1, k1, k2) hb3 fun a ha => ⟨M2, v2, (ha.sub ⟨Z, Z, Z, Z, Z, trivial⟩), hl3, hC3, hw1, ho3, hm2⟩)))))
 ·
  rintro ⟨y2, k3, k4⟩ a w7 hlr2 ⟨M4, v7, hF2, hl7, hC7, hw3, ho7, hm4⟩
  subst hlr2
  refine ew_at (E := [(0, (.pointer (some ⟨g, 0, none⟩))), (1, (.int .i64 a_top)), (2, (.int .i64 a_n)), (7, v7), (8, (.int .i64 k3))]) hF2 (ew_then (cw_seq (cw_region (lw_op Z Z Z (ow_move Z Z (lw_op Z Z Z (ow_assign Z Z (lw_nil (ew_then (cw_ret ?_))))))))))
  obtain rfl := Option.some.inj h
  exact ew_ret (res1 Z (.tmp Z)) ⟨_, Z, ⟨(hw3.freezeBack hC7 hO), ho7⟩, hC7.bx⟩

theorem w_spec_l20Set {w : World} {M : Nat → Prop} (hG : ARep (RArr 4 RShape) w M shapes ⟨0, 0, none⟩) (hO : ∀ b, M b → b < w.heap.size) {g : Nat} {Ax : Option Addr} {cx : Nat} {a_xs : List Int} {a_pos : Int} (hxs : VRep (RSlice RU8) w M a_xs (.slice Ax a_xs.length cx)) (hown : Own w g 98 #[.slice Ax a_xs.length cx, .int .i64 a_pos]) (hgM : M g) {a_top : Int} {a_n : Int} {r : ((List Span)) × Int} (h : F.spec_l20Set a_xs a_pos a_top a_n = some r) :
  Calls Tryd.prog 98 [(.pointer (some ⟨g, 0, none⟩)), (.int .i64 a_top), (.int .i64 a_n)].toArray w fun e w' => ∃ v, e = .returned v ∧ (VRep (RSlice RSpan) w' M r.1 v ∧ Own w' g 98 #[.slice Ax a_xs.length cx, .int .i64 r.2]) ∧ BX (One g) w w' := by
 obtain ⟨i76, hi76, hz76, hs76, hy76⟩ := info76
 have hX : ∀ b, (One g) b → M b := fun b e => e ▸ hgM
 have hC : Cx (One g) w M w M := Cx.start hO hX
 refine walk (N := 35) Tryd.func98 Z Tryd.ntmps98 Z (cw_seq (cw_region (lw_op Z Z Z (ow_assign Z Z (lw_nil (ew_then (cw_seq (cw_region (lw_op Z Z Z (ow_move Z Z (lw_op Z Z Z (ow_move Z Z ?_))))))))))))
 replace h := bind_some h
 obtain ⟨x1, hx1, h⟩ := h
 refine lw_op Z Z Z (ow_call Z Z Tryd.call113 (w_spec_l20Raw hG hC.old hxs hown hgM hx1) fun v1 w1 hv1 => ?_)
 obtain ⟨⟨hv1, ho1⟩, hb1⟩ := hv1
 have hl1 := Le.of_bx M hb1 (fun b e => (by rw [show b = g from e]; exact hgM))
 have hC1 := hC.go hb1 (fun b e => Or.inr e)
 refine lw_op Z Z Z (ow_move Z Z ?_)
 replace h := bind_some h
 obtain ⟨x2, hx2, h⟩ := h
 refine lw_op Z Z Z (ow_call Z Z Tryd.call112 (wo_spec_SpansOf (hG.mono hl1) hC1.old hv1 hx2) fun v2 w2 hv2 => ?_)
 obtain ⟨⟨M1, hr1, hk1⟩, hb2⟩ := hv2
 replace hr1 := hr1.base hC1.bx.size
 have hl2 := hk1.le
 have hC2 := hC1.trans hk1
 have ho2 := ho1.no hb2
 have hm1 := hk1.sup _ hgM
 refine lw_op Z Z Z (ow_assign Z Z (lw_nil (ew_then (cw_seq (cw_seq (cw_region (lw_op Z Z Z (ow_move Z Z (lw_op Z Z Z (ow_move Z Z ?_))))))))))
 replace h := bind_some h
 obtain ⟨x3, hx3, h⟩ := h
 refine lw_op Z Z Z (ow_call Z Z Tryd.call92 (w_spec_l20Rd_odd (hG.mono (hl1.trans hl2)) hC2.old (VRep.mono (hl1.trans hl2) hxs) ho2 hm1 hx3) fun v3 w3 hv3 => ?_)
 obtain ⟨⟨hv3, ho3⟩, hb3⟩ := hv3
 have hl3 := Le.of_bx M1 hb3 (fun b e => (by rw [show b = g from e]; exact hm1))
 have hC3 := hC2.go hb3 (fun b e => Or.inr e)
 have hr2 := hr1.go hb3 (fun k hk e => (orow_ne hr1 ho2 (by decide)) (hk.trans (congrArg some e))) hl3 (fun _ h => h)
 obtain ⟨bb1, hbb1, rfl⟩ := vbool_ex hv3
 refine lw_nil (ew_then ?_)
 replace h := cond_some h
 rcases h with ⟨hc1, h⟩ | ⟨hc1, h⟩
 ·
  obtain rfl := hbb1.trans hc1
  refine cw_true Z (cw_seq (cw_region (lw_op Z Z Z (ow_move Z Z ?_))))
  have hz1 := ((hl1.trans hl2).trans hl3)
  replace h := bind_some h
  obtain ⟨x4, hx4, h⟩ := h
  refine lw_op Z Z Z (ow_call Z Z Tryd.call87 (w_spec_l20Rd_pick (hG.mono hz1) hC3.old (VRep.mono hz1 hxs) ho3 hm1 hx4) fun v4 w4 hv4 => ?_)
  obtain ⟨⟨hv4, ho4⟩, hb4⟩ := hv4
  have hl4 := Le.of_bx M1 hb4 (fun b e => (by rw [show b = g from e]; exact hm1))
  have hC4 := hC3.go hb4 (fun b e => Or.inr e)
  have hr3 := hr2.go hb4 (fun k hk e => (orow_ne hr2 ho3 (by decide)) (hk.trans (congrArg some e))) hl4 (fun _ h => h)
  obtain rfl := vint_eq hv4
  refine lw_nil (ew_then (cw_block (cw_seq (cw_region (lw_op Z Z Z (ow_eqlI Z Z Z fun bb2 hbb2 => lw_op Z Z Z (ow_assign Z Z (lw_nil (ew_then ?_)))))))))
  replace h := cond_some h
  rcases h with ⟨hc2, h⟩ | ⟨hc2, h⟩
  ·
   obtain rfl := hbb2.trans hc2
   refine cw_true Z (cw_region (lw_op Z Z Z (ow_move Z Z (lw_op Z Z Z (ow_move Z Z (lw_op Z Z Z (ow_move Z Z ?_)))))))
   replace h := bind_some h
   obtain ⟨x5, hx5, h⟩ := h
   refine lw_op Z Z Z (ow_call Z Z Tryd.call109 (w_spec_l20Span (hG.mono (hz1.trans hl4)) hC4.old (VRep.mono (hz1.trans hl4) hxs) ho4 hm1 hx5) fun v5 w5 hv5 => ?_)
   obtain ⟨⟨hv5, ho5⟩, hb5⟩ := hv5
   have hl5 := Le.of_bx M1 hb5 (fun b e => (by rw [show b = g from e]; exact hm1))
   have hC5 := hC4.go hb5 (fun b e => Or.inr e)
   have hr4 := hr3.go hb5 (fun k hk e => (orow_ne hr3 ho4 (by decide)) (hk.trans (congrArg some e))) hl5 (fun _ h => h)
   obtain rfl := open_Span hv5
   refine lw_op Z Z Z (ow_buildSlice (R := RSpan) (xs := [x5.1]) (cs := #[(.int .i64 x5.1.Lo), (.int .i64 x5.1.Hi)]) (e := 76) Z Z (by kernel_rfl) Z Z ⟨_, _, Z, hv5.cells, Z⟩ hC5 fun p1 w6 hw1 hb6 hl6 hC6 => ?_)
   have ho6 := ho5.no hb6
   have hr5 := hr4.no hb6
   replace h := bind_some h
   obtain ⟨z1, hz1, h⟩ := h
   refine lw_op Z Z Z (ow_append (R := RSpan) Z Z Z Z Tryd.underlying58 hi76 hz76 hs76 hy76 Z Z Z Z hr5 hw1 hz1 hC6 fun v6 w7 M2 hr6 hb7 hl7 hC7 hM1 hat1 => ?_)
   have ho7 := ho6.go hb7 (fun e => (orow_ne hr5 ho6 (by decide)) e)
   refine lw_op Z Z Z (ow_assign Z Z (lw_nil (ew_blockN (ew_then (cw_seq (cw_region (lw_op Z Z Z (ow_move Z Z (lw_op Z Z Z (ow_assign Z Z (lw_nil (ew_then (cw_ret ?_)))))))))))))
   obtain rfl := Option.some.inj h
   exact ew_ret (res1 Z (.tmp Z)) ⟨_, Z, ⟨(hr6.freezeBack hC7 hO), ho7⟩, hC7.bx⟩
  ·
   obtain rfl := hbb2.trans hc2
   refine cw_false Z (cw_seq (cw_region (lw_op Z Z Z (ow_eqlI Z Z Z fun bb3 hbb3 => lw_op Z Z Z (ow_assign Z Z (lw_nil (ew_then ?_)))))))
   replace h := cond_some h
   rcases h with ⟨hc3, h⟩ | ⟨hc3, h⟩
   ·
    obtain rfl := hbb3.trans hc3
    refine cw_true Z (cw_region (lw_op Z Z Z (ow_move Z Z (lw_op Z Z Z (ow_build (v := .agg #[(.int .i64 1), (.int .i64 2)]) Z Z (by kernel_rfl) ?_)))))
    have hw2 : VRep RSpan w4 M1 ({ Lo := 1, Hi := 2 } : Span) (.agg #[(.int .i64 1), (.int .i64 2)]) := shut_Span
    refine lw_op Z Z Z (ow_build (v := .agg #[(.int .i64 3), (.int .i64 3)]) Z Z (by kernel_rfl) ?_)
    have hw3 : VRep RSpan w4 M1 ({ Lo := 3, Hi := 3 } : Span) (.agg #[(.int .i64 3), (.int .i64 3)]) := shut_Span
    refine lw_op Z Z Z (ow_buildSlice (R := RSpan) (xs := [({ Lo := 1, Hi := 2 } : Span), ({ Lo := 3, Hi := 3 } : Span)]) (cs := #[(.int .i64 1), (.int .i64 2), (.int .i64 3), (.int .i64 3)]) (e := 76) Z Z (by kernel_rfl) Z Z ⟨_, _, Z, hw2.cells, _, _, Z, hw3.cells, Z⟩ hC4 fun p2 w8 hw4 hb8 hl8 hC8 => ?_)
    have ho8 := ho4.no hb8
    have hr7 := hr3.no hb8
    replace h := bind_some h
    obtain ⟨z2, hz2, h⟩ := h
    refine lw_op Z Z Z (ow_append (R := RSpan) Z Z Z Z Tryd.underlying58 hi76 hz76 hs76 hy76 Z Z Z Z hr7 hw4 hz2 hC8 fun v7 w9 M3 hr8 hb9 hl9 hC9 hM2 hat2 => ?_)
    have ho9 := ho8.go hb9 (fun e => (orow_ne hr7 ho8 (by decide)) e)
    refine lw_op Z Z Z (ow_assign Z Z (lw_nil (ew_blockN (ew_then (cw_seq (cw_region (lw_op Z Z Z (ow_move Z Z (lw_op Z Z Z (ow_assign Z Z (lw_nil (ew_then (cw_ret ?_)))))))))))))
    obtain rfl := Option.some.inj h
    exact ew_ret (res1 Z (.tmp Z)) ⟨_, Z, ⟨(hr8.freezeBack hC9 hO), ho9⟩, hC9.bx⟩
   ·
    obtain rfl := hbb3.trans hc3
    refine cw_false Z (cw_region ?_)
    replace h := bind_some h
    obtain ⟨mk1, hmk1, h⟩ := h
    refine lw_op Z Z Z (ow_make (R := RSpan) Z Z Z Tryd.underlying58 hi76 hz76 hs76 hy76 Z Z (shut_Span) hmk1 hC4 fun v8 w10 M4 hr9 hb10 hl10 hC10 hM3 hat3 => ?_)
    have ho10 := ho4.no hb10
    refine lw_op Z Z Z (ow_assign Z Z (lw_nil (ew_blockN (ew_then (cw_seq (cw_region (lw_op Z Z Z (ow_move Z Z (lw_op Z Z Z (ow_assign Z Z (lw_nil (ew_then (cw_ret ?_)))))))))))))
    obtain rfl := Option.some.inj h
    exact ew_ret (res1 Z (.tmp Z)) ⟨_, Z, ⟨(hr9.freezeBack hC10 hO), ho10⟩, hC10.bx⟩
 ·
  obtain rfl := hbb1.trans hc1
  refine cw_false Z (cw_skip (ew_then (cw_seq (cw_region (lw_op Z Z Z (ow_move Z Z (lw_op Z Z Z (ow_assign Z Z (lw_nil (ew_then (cw_ret ?_)))))))))))
  obtain rfl := Option.some.inj h
  exact ew_ret (res1 Z (.tmp Z)) ⟨_, Z, ⟨(hr2.freezeBack hC3 hO), ho3⟩, hC3.bx⟩

theorem w_spec_l20Box {w : World} {M : Nat → Prop} (hG : ARep (RArr 4 RShape) w M shapes ⟨0, 0, none⟩) (hO : ∀ b, M b → b < w.heap.size) {g : Nat} {Ax : Option Addr} {cx : Nat} {a_xs : List Int} {a_pos : Int} (hxs : VRep (RSlice RU8) w M a_xs (.slice Ax a_xs.length cx)) (hown : Own w g 98 #[.slice Ax a_xs.length cx, .int .i64 a_pos]) (hgM : M g) {a_n : Int} {r : Box × Int} (h : F.spec_l20Box a_xs a_pos a_n = some r) :
  Calls Tryd.prog 73 [(.pointer (some ⟨g, 0, none⟩)), (.int .i64 a_n)].toArray w fun e w' => ∃ v, e = .returned v ∧ (VRep RBox w' M r.1 v ∧ Own w' g 98 #[.slice Ax a_xs.length cx, .int .i64 r.2]) ∧ BX (One g) w w' := by
 obtain ⟨i58, hi58, hz58, hs58, hy58⟩ := info58
 have hX : ∀ b, (One g) b → M b := fun b e => e ▸ hgM
 have hC : Cx (One g) w M w M := Cx.start hO hX
 refine walk (N := 48) Tryd.func73 Z Tryd.ntmps73 Z (cw_seq (cw_region (lw_op Z Z Z (ow_alloc Z (Tryd.zeroValue27 _) hC fun g1 w1 hg1 hg2 ho1 hb1 hl1 hC1 => ?_))))
 have hn1 := Nat.ne_of_lt (Nat.lt_of_lt_of_le hown.lt hg1)
 have ho2 := hown.no hb1
 have hm1 : (Add g1 M) g := .inr hgM
 have hm2 : (Add g1 M) g1 := .inl Z
 refine lw_nil (ew_then (cw_seq (cw_region (lw_op Z Z Z (ow_move Z Z ?_)))))
 replace h := bind_some h
 obtain ⟨x1, hx1, h⟩ := h
 refine lw_op Z Z Z (ow_call Z Z Tryd.call53 (w_spec_l20Tests (hG.mono hl1) hC1.old (VRep.mono hl1 hxs) ho2 hm1 hx1) fun v1 w2 hv1 => ?_)
 obtain ⟨⟨hv1, ho3⟩, hb2⟩ := hv1
 have hl2 := Le.of_bx (Add g1 M) hb2 (fun b e => (by rw [show b = g from e]; exact hm1))
 have hC2 := hC1.go hb2 (fun b e => Or.inr e)
 have ho4 := ho1.go hb2 (fun e => hn1 e.symm)
 replace h := bind_some h
 obtain ⟨x2, hx2, h⟩ := h
 refine lw_op Z Z Z (ow_call Z Z Tryd.call18 (wo_spec_TestsBox (hG.mono (hl1.trans hl2)) hC2.old hv1 hx2) fun v2 w3 hv2 => ?_)
 obtain ⟨⟨M1, v3, rfl, hr1, hk1⟩, hb3⟩ := hv2
 replace hr1 := hr1.base hC2.bx.size
 have hl3 := hk1.le
 have hC3 := hC2.trans hk1
 have ho5 := ho3.no hb3
 have hm3 := hk1.sup _ hm1
 have ho6 := ho4.no hb3
 have hm4 := hk1.sup _ hm2
 obtain ⟨A1, c1, rfl⟩ := hr1.len
 refine lw_op Z Z Z (ow_alloc Z (Tryd.zeroValue27 _) hC3 fun g2 w4 hg3 hg4 ho7 hb4 hl4 hC4 => ?_)
 have hn2 := Nat.ne_of_lt (Nat.lt_of_lt_of_le ho5.lt hg3)
 have ho8 := ho5.no hb4
 have hm5 : (Add g2 M1) g := .inr hm3
 have hn3 := Nat.ne_of_lt (Nat.lt_of_lt_of_le ho6.lt hg3)
 have ho9 := ho6.no hb4
 have hm6 : (Add g2 M1) g1 := .inr hm4
 have hr2 := hr1.add hb4 hg3
 have hm7 : (Add g2 M1) g2 := .inl Z
 refine lw_op0 Z Z (ow_store (X := (One g)) (us := [(.slice A1 x2.Sides.length c1)]) (cs' := #[(.slice A1 x2.Sides.length c1)]) Z Z Z Z ho7 (Tryd.sizeOf27 _) Z Z Z Z hm7 (.inl hg4) Z hC4 fun w5 ho10 hb5 hl5 hC5 => ?_)
 have ho11 := ho8.go hb5 (fun e => hn2 e)
 have ho12 := ho9.go hb5 (fun e => hn3 e)
 have hr3 := hr2.go hb5 (fun k hk e => (orow_ne hr2 ho7 (by decide)) (hk.trans (congrArg some e))) hl5 (fun _ h => h)
 refine lw_nil (ew_then (cw_seq (cw_seq (cw_region (lw_op Z Z Z (ow_move Z Z ?_))))))
 have hz1 := ((((hl1.trans hl2).trans hl3).trans hl4).trans hl5)
 replace h := bind_some h
 obtain ⟨x3, hx3, h⟩ := h
 refine lw_op Z Z Z (ow_call Z Z Tryd.call87 (w_spec_l20Rd_pick (hG.mono hz1) hC5.old (VRep.mono hz1 hxs) ho11 hm5 hx3) fun v4 w6 hv4 => ?_)
 obtain ⟨⟨hv4, ho13⟩, hb6⟩ := hv4
 have hl6 := Le.of_bx (Add g2 M1) hb6 (fun b e => (by rw [show b = g from e]; exact hm5))
 have hC6 := hC5.go hb6 (fun b e => Or.inr e)
 have ho14 := ho12.go hb6 (fun e => hn1 e.symm)
 have ho15 := ho10.go hb6 (fun e => hn2 e.symm)
 have hr4 := hr3.go hb6 (fun k hk e => (orow_ne hr3 ho11 (by decide)) (hk.trans (congrArg some e))) hl6 (fun _ h => h)
 obtain rfl := vint_eq hv4
 refine lw_op Z Z Z (ow_eqlI Z Z Z fun bb1 hbb1 => lw_nil (ew_then ?_))
 replace h := cond_some h
 rcases h with ⟨hc1, h⟩ | ⟨hc1, h⟩
 ·
  obtain rfl := hbb1.trans hc1
  refine cw_true Z (cw_seq (cw_region (lw_op Z Z Z (ow_move Z Z ?_))))
  replace h := bind_some h
  obtain ⟨x4, hx4, h⟩ := h
  refine lw_op Z Z Z (ow_call Z Z Tryd.call87 (w_spec_l20Rd_pick (hG.mono (hz1.trans hl6)) hC6.old (VRep.mono (hz1.trans hl6) hxs) ho13 hm5 hx4) fun v5 w7 hv5 => ?_)
  obtain ⟨⟨hv5, ho16⟩, hb7⟩ := hv5
  have hl7 := Le.of_bx (Add g2 M1) hb7 (fun b e => (by rw [show b = g from e]; exact hm5))
  have hC7 := hC6.go hb7 (fun b e => Or.inr e)
  have ho17 := ho14.go hb7 (fun e => hn1 e.symm)
  have ho18 := ho15.go hb7 (fun e => hn2 e.symm)
  have hr5 := hr4.go hb7 (fun k hk e => (orow_ne hr4 ho13 (by decide)) (hk.trans (congrArg some e))) hl7 (fun _ h => h)
  obtain rfl := vint_eq hv5
  refine lw_op Z Z Z (ow_assign Z Z (lw_nil (ew_then ?_)))
  replace h := bind_some h
  obtain ⟨x5, hx5, h⟩ := h
  replace h := bind_some h
  obtain ⟨x6, hx6, h⟩ := h
  have hz2 := ((hz1.trans hl6).trans hl7)
  refine cw_sub (E' := [(0, (.pointer (some ⟨g, 0, none⟩))), (1, (.int .i64 a_n)), (4, (.pointer (some ⟨g1, 0, none⟩))), (5, (.pointer (some ⟨g2, 0, none⟩))), (6, (.int .i64 x4.1))]) ⟨Z, Z, Z, Z, Z, trivial⟩ (cw_drawC (g := g) (T := 98) 7 1 [none, none, none, none, none, none, some 0] [#[(.slice Ax a_xs.length cx), (.int .i64 x4.2)], #[(.slice Ax a_xs.length cx), (.int .i64 x6.2)]] [PEq (.pointer (some ⟨g2, 0, none⟩)), PEq (.slice A1 x2.Sides.length c1), PEq (.int .i64 x4.1), PEq (.pointer (some ⟨g, 0, none⟩)), PEq (.int .i64 x4.1), PEq (.int .i64 x5), PV (RSlice RSpan) (Add g2 M1) x6.1] (by kernel_rfl) Z (by kernel_rfl) (by kernel_rfl) ho16 ⟨(PEq.monoY hm5 _), (PEq.monoY hm5 _), (PEq.monoY hm5 _), (PEq.monoY hm5 _), (PEq.monoY hm5 _), (PEq.monoY hm5 _), (PV.monoY hm5 _ _), trivial⟩ ⟨?_, ?_, ?_, ?_, ?_, ?_, ?_, trivial⟩ ?_)
  ·
   intro w10 D hS1 hd1
   exact dg_sub (E' := [(5, (.pointer (some ⟨g2, 0, none⟩)))]) ⟨Z, trivial⟩ (dg_plain Z (ow_fieldAddr Z Z Tryd.underlying27 Z (Tryd.sizeOf25 _) ⟨BX.refl _ _, Z⟩))
  ·
   intro w11 D hS2 hd2
   have ho28 := ho18.go hS2 (fun e => hn2 e.symm)
   exact dg_sub (E' := [(15, (.pointer (some ⟨g2, 0, none⟩)))]) ⟨(dpE hd2 0 Z Z), trivial⟩ (dg_plain Z (ow_loadOwn1 Z Z Z ho28 (Tryd.isAgg25 _) Z ⟨BX.refl _ _, Z⟩))
  ·
   intro w12 D hS3 hd3
   exact dg_sub (E' := [(6, (.int .i64 x4.1))]) ⟨Z, trivial⟩ (dg_plain Z (ow_move Z Z ⟨BX.refl _ _, Z⟩))
  ·
   intro w13 D hS4 hd4
   exact dg_sub (E' := [(0, (.pointer (some ⟨g, 0, none⟩)))]) ⟨Z, trivial⟩ (dg_plain Z (ow_move Z Z ⟨BX.refl _ _, Z⟩))
  ·
   intro w14 D hS5 hd5
   exact dg_sub (E' := [(6, (.int .i64 x4.1))]) ⟨Z, trivial⟩ (dg_plain Z (ow_move Z Z ⟨BX.refl _ _, Z⟩))
  ·
   intro w15 D hS6 hd6
   have hl15 := leY hm5 hS6
   have hC15 := hC7.go hS6 (fun b e => Or.inr e)
   refine dg_sub (E' := [(19, (.int .i64 x4.1))]) ⟨(dpE hd6 4 Z Z), trivial⟩ (dg_plain Z (ow_call Z Z Tryd.call81 (w_spec_FieldTop (hG.mono (hz2.trans hl15)) hC15.old hx5) fun v8 w16 hv8 => ?_))
   obtain ⟨hv8, hb10⟩ := hv8
   obtain rfl := vint_eq hv8
   exact ⟨hb10, Z⟩
  ·
   intro w17 D hS7 hd7
   obtain ⟨hS7, ho39⟩ := hS7
   have ho39 : Own w17 g 98 #[(.slice Ax a_xs.length cx), (.int .i64 x4.2)] := ho39
   have hl17 := leY hm5 hS7
   have hC17 := hC7.go hS7 (fun b e => Or.inr e)
   refine dg_sub (E' := [(18, (.pointer (some ⟨g, 0, none⟩))), (20, (.int .i64 x5))]) ⟨(dpE hd7 3 Z Z), (dpE hd7 5 Z Z), trivial⟩ (dg_plain Z (ow_call Z Z Tryd.call98 (w_spec_l20Set (hG.mono (hz2.trans hl17)) hC17.old (VRep.mono (hz2.trans hl17) hxs) ho39 hm5 hx6) fun v9 w18 hv9 => ?_))
   obtain ⟨⟨hv9, ho42⟩, hb11⟩ := hv9
   exact ⟨⟨⟨hS7.trans hb11, ho42⟩, hb11⟩, hv9⟩
  ·
   intro w19 D hS8 hd8
   have d12 : PV (RSlice RSpan) (Add g2 M1) x6.1 (D 6) w19 := dpA hd8 6 Z
   obtain ⟨hS8, ho45⟩ := hS8
   have ho45 : Own w19 g 98 #[(.slice Ax a_xs.length cx), (.int .i64 x6.2)] := ho45
   have hl19 := leY hm5 hS8
   have hC19 := hC7.go hS8 (fun b e => Or.inr e)
   have ho46 := ho17.go hS8 (fun e => hn1 e.symm)
   have ho47 := ho18.go hS8 (fun e => hn2 e.symm)
   have hr17 := hr5.go hS8 (fun k hk e => (orow_ne hr5 ho16 (by decide)) (hk.trans (congrArg some e))) hl19 (fun _ h => h)
   generalize hq1 : (D 6) = v10 at d12
   refine lw_sub (E' := [(16, (.slice A1 x2.Sides.length c1)), (17, (.int .i64 x4.1)), (21, v10), (0, (.pointer (some ⟨g, 0, none⟩))), (1, (.int .i64 a_n)), (4, (.pointer (some ⟨g1, 0, none⟩))), (5, (.pointer (some ⟨g2, 0, none⟩))), (6, (.int .i64 x4.1))]) ⟨(dpE hd8 1 Z Z), (dpE hd8 2 Z Z), (congrArg some hq1), Z, Z, Z, Z, Z, trivial⟩ ?_
   replace h := bind_some h
   obtain ⟨x7, hx7, h⟩ := h
   refine lw_op Z Z Z (ow_indexRow (R := (RSlice RSpan)) Z Z Z hr17 Tryd.underlying25 (Tryd.sizeOf58 _) hx7 (lw_op0 Z Z (ow_storeElRow (X := (One g)) (R := (RSlice RSpan)) (S := (RSlice RSpan)) Z Z Z Z hr17 (orow_blk hr17 hx7) hx7 (FldSet.whole (RSlice RSpan)) (Tryd.sizeOf58 _) d12 (Nat.le_refl _) hC19 fun w20 ho48 hb12 hl20 hC20 => ?_)))
   have ho49 := ho45.go hb12 (fun e => (orow_ne hr17 ho45 (by decide)) (by rw [orow_blk hr17 hx7]; exact congrArg some e.symm))
   have ho50 := ho46.go hb12 (fun e => (orow_ne hr17 ho46 (by decide)) (by rw [orow_blk hr17 hx7]; exact congrArg some e.symm))
   have ho51 := ho47.go hb12 (fun e => (orow_ne hr17 ho47 (by decide)) (by rw [orow_blk hr17 hx7]; exact congrArg some e.symm))
   refine lw_nil (ew_then (cw_seq (cw_seq (cw_region (lw_op Z Z Z (ow_move Z Z (lw_op Z Z Z (ow_move Z Z ?_))))))))
   have hz4 := ((hz2.trans hl19).trans hl20)
   replace h := bind_some h
   obtain ⟨x8, hx8, h⟩ := h
   refine lw_op Z Z Z (ow_call Z Z Tryd.call92 (w_spec_l20Rd_odd (hG.mono hz4) hC20.old (VRep.mono hz4 hxs) ho49 hm5 hx8) fun v11 w21 hv11 => ?_)
   obtain ⟨⟨hv11, ho52⟩, hb13⟩ := hv11
   have hl21 := Le.of_bx (Add g2 M1) hb13 (fun b e => (by rw [show b = g from e]; exact hm5))
   have hC21 := hC20.go hb13 (fun b e => Or.inr e)
   have ho53 := ho50.go hb13 (fun e => hn1 e.symm)
   have ho54 := ho51.go hb13 (fun e => hn2 e.symm)
   have hr18 := ho48.go hb13 (fun k hk e => (orow_ne ho48 ho49 (by decide)) (hk.trans (congrArg some e))) hl21 (fun _ h => h)
   obtain ⟨bb2, hbb2, rfl⟩ := vbool_ex hv11
   refine lw_nil (ew_then ?_)
   replace h := cond_some h
   rcases h with ⟨hc2, h⟩ | ⟨hc2, h⟩
   ·
    obtain rfl := hbb2.trans hc2
    refine cw_true Z (cw_seq (cw_region (lw_op Z Z Z (ow_move Z Z ?_))))
    replace h := bind_some h
    obtain ⟨x9, hx9, h⟩ := h
    refine lw_op Z Z Z (ow_call Z Z Tryd.call87 (w_spec_l20Rd_pick (hG.mono (hz4.trans hl21)) hC21.old (VRep.mono (hz4.trans hl21) hxs) ho52 hm5 hx9) fun v12 w22 hv12 => ?_)
    obtain ⟨⟨hv12, ho55⟩, hb14⟩ := hv12
    have hl22 := Le.of_bx (Add g2 M1) hb14 (fun b e => (by rw [show b = g from e]; exact hm5))
    have hC22 := hC21.go hb14 (fun b e => Or.inr e)
    have ho56 := ho53.go hb14 (fun e => hn1 e.symm)
    have ho57 := ho54.go hb14 (fun e => hn2 e.symm)
    have hr19 := hr18.go hb14 (fun k hk e => (orow_ne hr18 ho52 (by decide)) (hk.trans (congrArg some e))) hl22 (fun _ h => h)
    obtain rfl := vint_eq hv12
    refine lw_nil (ew_then (cw_block (cw_seq (cw_region (lw_op Z Z Z (ow_eqlI Z Z Z fun bb3 hbb3 => lw_op Z Z Z (ow_assign Z Z (lw_nil (ew_then ?_)))))))))
    replace h := cond_some h
    rcases h with ⟨hc3, h⟩ | ⟨hc3, h⟩
    ·
     obtain rfl := hbb3.trans hc3
     refine cw_true Z (cw_region (lw_op Z Z Z (ow_fieldAddr Z Z Tryd.underlying27 Z (Tryd.sizeOf25 _) (lw_op Z Z Z (ow_loadOwn1 Z Z Z ho57 (Tryd.isAgg25 _) Z ?_)))))
     have hw1 := hr19.freezeDel
     have hC23 := hr19.cxDel hC22 hX hO
     have hm9 : (Del (.slice A1 x2.Sides.length c1) (Add g2 M1)) g1 := ⟨hm6, fun e => (orow_ne hr19 ho56 (by decide)) e⟩
     have hm10 : (Del (.slice A1 x2.Sides.length c1) (Add g2 M1)) g2 := ⟨hm7, fun e => (orow_ne hr19 ho57 (by decide)) e⟩
     replace h := bind_some h
     obtain ⟨y1, hy1, h⟩ := h
     refine lw_op Z Z Z (ow_sliceFrom (R := (RSlice RSpan)) Z Z Z hw1 Tryd.underlying25 (Tryd.sizeOf58 _) (dropF_some hy1).2 fun v13 hv13 => ?_)
     rw [← (dropF_some hy1).1] at hv13
     refine lw_op Z Z Z (ow_fieldAddr Z Z Tryd.underlying27 Z (Tryd.sizeOf25 _) ?_)
     obtain ⟨A2, c2, rfl, -⟩ := vslice_shape hv13
     refine lw_op0 Z Z (ow_store (X := (One g)) (us := [(.slice A2 y1.length c2)]) (cs' := #[(.slice A2 y1.length c2)]) Z Z Z Z ho57 (Tryd.sizeOf25 _) Z Z Z Z hm10 (.inl hg4) Z hC23 fun w23 ho58 hb15 hl24 hC24 => ?_)
     have ho59 := ho55.go hb15 (fun e => hn2 e)
     have ho60 := ho56.go hb15 (fun e => hn3 e)
     refine lw_nil (ew_blockN (ew_then (cw_seq (cw_region (lw_op Z Z Z (ow_loadOwnA Z Z Z ho58 (Tryd.isAgg27 _) (Tryd.sizeOf27 _) Z (lw_op0 Z Z (ow_store (X := (One g)) (us := [(.slice A2 y1.length c2)]) (cs' := #[(.slice A2 y1.length c2)]) Z Z Z Z ho60 (Tryd.sizeOf27 _) Z Z Z Z hm9 (.inl hg2) Z hC24 fun w24 ho61 hb16 hl25 hC25 => ?_))))))))
     have ho62 := ho59.go hb16 (fun e => hn1 e)
     refine lw_nil (ew_then (cw_ret ?_))
     have hw3 : VRep RBox w24 (Del (.slice A1 x2.Sides.length c1) (Add g2 M1)) ({ Sides := y1 } : Box) (.agg #[(.slice A2 y1.length c2)]) := shut_Box (VRep.mono (hl24.trans hl25) hv13)
     obtain rfl := Option.some.inj h
     exact ew_ret (res1 Z (.cell Z (own_loadVarA ho61 (Tryd.isAgg27 _) (Tryd.sizeOf27 _) Z))) ⟨_, Z, ⟨(hw3.mono hC25.back), ho62⟩, hC25.bx⟩
    ·
     obtain rfl := hbb3.trans hc3
     refine cw_false Z (cw_seq (cw_region (lw_op Z Z Z (ow_eqlI Z Z Z fun bb4 hbb4 => lw_op Z Z Z (ow_assign Z Z (lw_nil (ew_then ?_)))))))
     replace h := cond_some h
     rcases h with ⟨hc4, h⟩ | ⟨hc4, h⟩
     ·
      obtain rfl := hbb4.trans hc4
      refine cw_true Z (cw_region (lw_op Z Z Z (ow_fieldAddr Z Z Tryd.underlying27 Z (Tryd.sizeOf25 _) (lw_op Z Z Z (ow_loadOwn1 Z Z Z ho57 (Tryd.isAgg25 _) Z (lw_op Z Z Z (ow_build (v := .agg #[(.int .i64 0), (.int .i64 8)]) Z Z (by kernel_rfl) ?_)))))))
      have hw4 : VRep RSpan w22 (Add g2 M1) ({ Lo := 0, Hi := 8 } : Span) (.agg #[(.int .i64 0), (.int .i64 8)]) := shut_Span
      refine lw_op Z Z Z (ow_buildSlice (R := RSpan) (xs := [({ Lo := 0, Hi := 8 } : Span)]) (cs := #[(.int .i64 0), (.int .i64 8)]) (e := 76) Z Z (by kernel_rfl) Z Z ⟨_, _, Z, hw4.cells, Z⟩ hC22 fun p1 w25 hw5 hb17 hl26 hC26 => ?_)
      have ho64 := ho55.no hb17
      have ho65 := ho56.no hb17
      have ho66 := ho57.no hb17
      have hr20 := hr19.no hb17
      replace h := bind_some h
      obtain ⟨x10, hx10, h⟩ := h
      refine lw_op Z Z Z (ow_indexRow (R := (RSlice RSpan)) Z Z Z hr20 Tryd.underlying25 (Tryd.sizeOf58 _) hx10 (lw_op0 Z Z (ow_storeElRow (X := (One g)) (R := (RSlice RSpan)) (S := (RSlice RSpan)) Z Z Z Z hr20 (orow_blk hr20 hx10) hx10 (FldSet.whole (RSlice RSpan)) (Tryd.sizeOf58 _) hw5 (Nat.le_refl _) hC26 fun w26 ho67 hb18 hl27 hC27 => ?_)))
      have ho68 := ho64.go hb18 (fun e => (orow_ne hr20 ho64 (by decide)) (by rw [orow_blk hr20 hx10]; exact congrArg some e.symm))
      have ho69 := ho65.go hb18 (fun e => (orow_ne hr20 ho65 (by decide)) (by rw [orow_blk hr20 hx10]; exact congrArg some e.symm))
      have ho70 := ho66.go hb18 (fun e => (orow_ne hr20 ho66 (by decide)) (by rw [orow_blk hr20 hx10]; exact congrArg some e.symm))
      refine lw_nil (ew_blockN (ew_then (cw_seq (cw_region (lw_op Z Z Z (ow_loadOwnA Z Z Z ho70 (Tryd.isAgg27 _) (Tryd.sizeOf27 _) Z ?_))))))
      have hw6 := ho67.freezeDel
      have hC28 := ho67.cxDel hC27 hX hO
      have hm12 : (Del (.slice A1 x2.Sides.length c1) (Add g2 M1)) g1 := ⟨hm6, fun e => (orow_ne ho67 ho69 (by decide)) e⟩
      refine lw_op0 Z Z (ow_store (X := (One g)) (us := [(.slice A1 x2.Sides.length c1)]) (cs' := #[(.slice A1 x2.Sides.length c1)]) Z Z Z Z ho69 (Tryd.sizeOf27 _) Z Z Z Z hm12 (.inl hg2) Z hC28 fun w27 ho71 hb19 hl29 hC29 => ?_)
      have ho72 := ho68.go hb19 (fun e => hn1 e)
      refine lw_nil (ew_then (cw_ret ?_))
      have hw8 : VRep RBox w27 (Del (.slice A1 x2.Sides.length c1) (Add g2 M1)) ({ Sides := (List.set (List.set x2.Sides (x4.1 : Int).toNat x6.1) (3 : Int).toNat [({ Lo := 0, Hi := 8 } : Span)]) } : Box) (.agg #[(.slice A1 x2.Sides.length c1)]) := shut_Box (VRep.mono hl29 hw6)
      obtain rfl := Option.some.inj h
      exact ew_ret (res1 Z (.cell Z (own_loadVarA ho71 (Tryd.isAgg27 _) (Tryd.sizeOf27 _) Z))) ⟨_, Z, ⟨(hw8.mono hC29.back), ho72⟩, hC29.bx⟩
     ·
      obtain rfl := hbb4.trans hc4
      refine cw_false Z (cw_region (lw_op Z Z Z (ow_fieldAddr Z Z Tryd.underlying27 Z (Tryd.sizeOf25 _) (lw_op Z Z Z (ow_loadOwn1 Z Z Z ho57 (Tryd.isAgg25 _) Z (lw_op Z Z Z (ow_buildSlice0I (R := RSpan) (e := 76) Z (by kernel_rfl) hC22 fun p2 w28 hw9 hb20 hl30 hC30 => ?_)))))))
      have ho74 := ho55.no hb20
      have ho75 := ho56.no hb20
      have ho76 := ho57.no hb20
      have hr21 := hr19.no hb20
      refine lw_op Z Z Z (ow_buildSlice (R := (RSlice RSpan)) (xs := [([] : List Span)]) (cs := #[(.slice (some p2) 0 0)]) (e := 58) Z Z (by kernel_rfl) Z Z ⟨_, _, Z, hw9.cells, Z⟩ hC30 fun p3 w29 hw10 hb21 hl31 hC31 => ?_)
      have ho77 := ho74.no hb21
      have ho78 := ho75.no hb21
      have ho79 := ho76.no hb21
      have hr22 := hr21.no hb21
      replace h := bind_some h
      obtain ⟨z1, hz1, h⟩ := h
      refine lw_op Z Z Z (ow_append (R := (RSlice RSpan)) Z Z Z Z Tryd.underlying25 hi58 hz58 hs58 hy58 Z Z Z Z hr22 hw10 hz1 hC31 fun v14 w30 M2 hr23 hb22 hl32 hC32 hM1 hat1 => ?_)
      have ho80 := ho77.go hb22 (fun e => (orow_ne hr22 ho77 (by decide)) e)
      have ho81 := ho78.go hb22 (fun e => (orow_ne hr22 ho78 (by decide)) e)
      have hm15 := hM1 _ hm6
      have ho82 := ho79.go hb22 (fun e => (orow_ne hr22 ho79 (by decide)) e)
      have hm16 := hM1 _ hm7
      refine lw_op Z Z Z (ow_fieldAddr Z Z Tryd.underlying27 Z (Tryd.sizeOf25 _) ?_)
      obtain ⟨A3, c3, rfl⟩ := hr23.len
      refine lw_op0 Z Z (ow_store (X := (One g)) (us := [(.slice A3 z1.length c3)]) (cs' := #[(.slice A3 z1.length c3)]) Z Z Z Z ho82 (Tryd.sizeOf25 _) Z Z Z Z hm16 (.inl hg4) Z hC32 fun w31 ho83 hb23 hl33 hC33 => ?_)
      have ho84 := ho80.go hb23 (fun e => hn2 e)
      have ho85 := ho81.go hb23 (fun e => hn3 e)
      have hr24 := hr23.go hb23 (fun k hk e => (orow_ne hr23 ho82 (by decide)) (hk.trans (congrArg some e))) hl33 (fun _ h => h)
      refine lw_nil (ew_blockN (ew_then (cw_seq (cw_region (lw_op Z Z Z (ow_loadOwnA Z Z Z ho83 (Tryd.isAgg27 _) (Tryd.sizeOf27 _) Z ?_))))))
      have hw11 := hr24.freezeDel
      have hC34 := hr24.cxDel hC33 hX hO
      have hm18 : (Del (.slice A3 z1.length c3) M2) g1 := ⟨hm15, fun e => (orow_ne hr24 ho85 (by decide)) e⟩
      refine lw_op0 Z Z (ow_store (X := (One g)) (us := [(.slice A3 z1.length c3)]) (cs' := #[(.slice A3 z1.length c3)]) Z Z Z Z ho85 (Tryd.sizeOf27 _) Z Z Z Z hm18 (.inl hg2) Z hC34 fun w32 ho86 hb24 hl35 hC35 => ?_)
      have ho87 := ho84.go hb24 (fun e => hn1 e)
      refine lw_nil (ew_then (cw_ret ?_))
      have hw13 : VRep RBox w32 (Del (.slice A3 z1.length c3) M2) ({ Sides := z1 } : Box) (.agg #[(.slice A3 z1.length c3)]) := shut_Box (VRep.mono hl35 hw11)
      obtain rfl := Option.some.inj h
      exact ew_ret (res1 Z (.cell Z (own_loadVarA ho86 (Tryd.isAgg27 _) (Tryd.sizeOf27 _) Z))) ⟨_, Z, ⟨(hw13.mono hC35.back), ho87⟩, hC35.bx⟩
   ·
    obtain rfl := hbb2.trans hc2
    refine cw_false Z (cw_skip (ew_then (cw_seq (cw_region (lw_op Z Z Z (ow_loadOwnA Z Z Z ho54 (Tryd.isAgg27 _) (Tryd.sizeOf27 _) Z ?_))))))
    have hw14 := hr18.freezeDel
    have hC36 := hr18.cxDel hC21 hX hO
    have hm21 : (Del (.slice A1 x2.Sides.length c1) (Add g2 M1)) g1 := ⟨hm6, fun e => (orow_ne hr18 ho53 (by decide)) e⟩
    refine lw_op0 Z Z (ow_store (X := (One g)) (us := [(.slice A1 x2.Sides.length c1)]) (cs' := #[(.slice A1 x2.Sides.length c1)]) Z Z Z Z ho53 (Tryd.sizeOf27 _) Z Z Z Z hm21 (.inl hg2) Z hC36 fun w33 ho89 hb25 hl37 hC37 => ?_)
    have ho90 := ho52.go hb25 (fun e => hn1 e)
    refine lw_nil (ew_then (cw_ret ?_))
    have hw16 : VRep RBox w33 (Del (.slice A1 x2.Sides.length c1) (Add g2 M1)) ({ Sides := (List.set x2.Sides (x4.1 : Int).toNat x6.1) } : Box) (.agg #[(.slice A1 x2.Sides.length c1)]) := shut_Box (VRep.mono hl37 hw14)
    obtain rfl := Option.some.inj h
    exact ew_ret (res1 Z (.cell Z (own_loadVarA ho89 (Tryd.isAgg27 _) (Tryd.sizeOf27 _) Z))) ⟨_, Z, ⟨(hw16.mono hC37.back), ho90⟩, hC37.bx⟩
 ·
  obtain rfl := hbb1.trans hc1
  refine cw_false Z (cw_skip (ew_then (cw_seq (cw_seq (cw_region (lw_op Z Z Z (ow_move Z Z (lw_op Z Z Z (ow_move Z Z ?_)))))))))
  replace h := bind_some h
  obtain ⟨x11, hx11, h⟩ := h
  refine lw_op Z Z Z (ow_call Z Z Tryd.call92 (w_spec_l20Rd_odd (hG.mono (hz1.trans hl6)) hC6.old (VRep.mono (hz1.trans hl6) hxs) ho13 hm5 hx11) fun v15 w34 hv15 => ?_)
  obtain ⟨⟨hv15, ho92⟩, hb26⟩ := hv15
  have hl38 := Le.of_bx (Add g2 M1) hb26 (fun b e => (by rw [show b = g from e]; exact hm5))
  have hC38 := hC6.go hb26 (fun b e => Or.inr e)
  have ho93 := ho14.go hb26 (fun e => hn1 e.symm)
  have ho94 := ho15.go hb26 (fun e => hn2 e.symm)
  have hr25 := hr4.go hb26 (fun k hk e => (orow_ne hr4 ho13 (by decide)) (hk.trans (congrArg some e))) hl38 (fun _ h => h)
  obtain ⟨bb5, hbb5, rfl⟩ := vbool_ex hv15
  refine lw_nil (ew_then ?_)
  replace h := cond_some h
  rcases h with ⟨hc5, h⟩ | ⟨hc5, h⟩
  ·
   obtain rfl := hbb5.trans hc5
   refine cw_true Z (cw_seq (cw_region (lw_op Z Z Z (ow_move Z Z ?_))))
   have hz5 := ((hz1.trans hl6).trans hl38)
   replace h := bind_some h
   obtain ⟨x12, hx12, h⟩ := h
   refine lw_op Z Z Z (ow_call Z Z Tryd.call87 (w_spec_l20Rd_pick (hG.mono hz5) hC38.old (VRep.mono hz5 hxs) ho92 hm5 hx12) fun v16 w35 hv16 => ?_)
   obtain ⟨⟨hv16, ho95⟩, hb27⟩ := hv16
   have hl39 := Le.of_bx (Add g2 M1) hb27 (fun b e => (by rw [show b = g from e]; exact hm5))
   have hC39 := hC38.go hb27 (fun b e => Or.inr e)
   have ho96 := ho93.go hb27 (fun e => hn1 e.symm)
   have ho97 := ho94.go hb27 (fun e => hn2 e.symm)
   have hr26 := hr25.go hb27 (fun k hk e => (orow_ne hr25 ho92 (by decide)) (hk.trans (congrArg some e))) hl39 (fun _ h => h)
   obtain rfl := vint_eq hv16
   refine lw_nil (ew_then (cw_block (cw_seq (cw_region (lw_op Z Z Z (ow_eqlI Z Z Z fun bb6 hbb6 => lw_op Z Z Z (ow_assign Z Z (lw_nil (ew_then ?_)))))))))
   replace h := cond_some h
   rcases h with ⟨hc6, h⟩ | ⟨hc6, h⟩
   ·
    obtain rfl := hbb6.trans hc6
    refine cw_true Z (cw_region (lw_op Z Z Z (ow_fieldAddr Z Z Tryd.underlying27 Z (Tryd.sizeOf25 _) (lw_op Z Z Z (ow_loadOwn1 Z Z Z ho97 (Tryd.isAgg25 _) Z ?_)))))
    have hw17 := hr26.freezeDel
    have hC40 := hr26.cxDel hC39 hX hO
    have hm24 : (Del (.slice A1 x2.Sides.length c1) (Add g2 M1)) g1 := ⟨hm6, fun e => (orow_ne hr26 ho96 (by decide)) e⟩
    have hm25 : (Del (.slice A1 x2.Sides.length c1) (Add g2 M1)) g2 := ⟨hm7, fun e => (orow_ne hr26 ho97 (by decide)) e⟩
    replace h := bind_some h
    obtain ⟨y2, hy2, h⟩ := h
    refine lw_op Z Z Z (ow_sliceFrom (R := (RSlice RSpan)) Z Z Z hw17 Tryd.underlying25 (Tryd.sizeOf58 _) (dropF_some hy2).2 fun v17 hv17 => ?_)
    rw [← (dropF_some hy2).1] at hv17
    refine lw_op Z Z Z (ow_fieldAddr Z Z Tryd.underlying27 Z (Tryd.sizeOf25 _) ?_)
    obtain ⟨A4, c4, rfl, -⟩ := vslice_shape hv17
    refine lw_op0 Z Z (ow_store (X := (One g)) (us := [(.slice A4 y2.length c4)]) (cs' := #[(.slice A4 y2.length c4)]) Z Z Z Z ho97 (Tryd.sizeOf25 _) Z Z Z Z hm25 (.inl hg4) Z hC40 fun w36 ho98 hb28 hl41 hC41 => ?_)
    have ho99 := ho95.go hb28 (fun e => hn2 e)
    have ho100 := ho96.go hb28 (fun e => hn3 e)
    refine lw_nil (ew_blockN (ew_then (cw_seq (cw_region (lw_op Z Z Z (ow_loadOwnA Z Z Z ho98 (Tryd.isAgg27 _) (Tryd.sizeOf27 _) Z (lw_op0 Z Z (ow_store (X := (One g)) (us := [(.slice A4 y2.length c4)]) (cs' := #[(.slice A4 y2.length c4)]) Z Z Z Z ho100 (Tryd.sizeOf27 _) Z Z Z Z hm24 (.inl hg2) Z hC41 fun w37 ho101 hb29 hl42 hC42 => ?_))))))))
    have ho102 := ho99.go hb29 (fun e => hn1 e)
    refine lw_nil (ew_then (cw_ret ?_))
    have hw19 : VRep RBox w37 (Del (.slice A1 x2.Sides.length c1) (Add g2 M1)) ({ Sides := y2 } : Box) (.agg #[(.slice A4 y2.length c4)]) := shut_Box (VRep.mono (hl41.trans hl42) hv17)
    obtain rfl := Option.some.inj h
    exact ew_ret (res1 Z (.cell Z (own_loadVarA ho101 (Tryd.isAgg27 _) (Tryd.sizeOf27 _) Z))) ⟨_, Z, ⟨(hw19.mono hC42.back), ho102⟩, hC42.bx⟩
   ·
    obtain rfl := hbb6.trans hc6
    refine cw_false Z (cw_seq (cw_region (lw_op Z Z Z (ow_eqlI Z Z Z fun bb7 hbb7 => lw_op Z Z Z (ow_assign Z Z (lw_nil (ew_then ?_)))))))
    replace h := cond_some h
    rcases h with ⟨hc7, h⟩ | ⟨hc7, h⟩
    ·
     obtain rfl := hbb7.trans hc7
     refine cw_true Z (cw_region (lw_op Z Z Z (ow_fieldAddr Z Z Tryd.underlying27 Z (Tryd.sizeOf25 _) (lw_op Z Z Z (ow_loadOwn1 Z Z Z ho97 (Tryd.isAgg25 _) Z (lw_op Z Z Z (ow_build (v := .agg #[(.int .i64 0), (.int .i64 8)]) Z Z (by kernel_rfl) ?_)))))))
     have hw20 : VRep RSpan w35 (Add g2 M1) ({ Lo := 0, Hi := 8 } : Span) (.agg #[(.int .i64 0), (.int .i64 8)]) := shut_Span
     refine lw_op Z Z Z (ow_buildSlice (R := RSpan) (xs := [({ Lo := 0, Hi := 8 } : Span)]) (cs := #[(.int .i64 0), (.int .i64 8)]) (e := 76) Z Z (by kernel_rfl) Z Z ⟨_, _, Z, hw20.cells, Z⟩ hC39 fun p4 w38 hw21 hb30 hl43 hC43 => ?_)
     have ho104 := ho95.no hb30
     have ho105 := ho96.no hb30
     have ho106 := ho97.no hb30
     have hr27 := hr26.no hb30
     replace h := bind_some h
     obtain ⟨x13, hx13, h⟩ := h
     refine lw_op Z Z Z (ow_indexRow (R := (RSlice RSpan)) Z Z Z hr27 Tryd.underlying25 (Tryd.sizeOf58 _) hx13 (lw_op0 Z Z (ow_storeElRow (X := (One g)) (R := (RSlice RSpan)) (S := (RSlice RSpan)) Z Z Z Z hr27 (orow_blk hr27 hx13) hx13 (FldSet.whole (RSlice RSpan)) (Tryd.sizeOf58 _) hw21 (Nat.le_refl _) hC43 fun w39 ho107 hb31 hl44 hC44 => ?_)))
     have ho108 := ho104.go hb31 (fun e => (orow_ne hr27 ho104 (by decide)) (by rw [orow_blk hr27 hx13]; exact congrArg some e.symm))
     have ho109 := ho105.go hb31 (fun e => (orow_ne hr27 ho105 (by decide)) (by rw [orow_blk hr27 hx13]; exact congrArg some e.symm))
     have ho110 := ho106.go hb31 (fun e => (orow_ne hr27 ho106 (by decide)) (by rw [orow_blk hr27 hx13]; exact congrArg some e.symm))
     refine lw_nil (ew_blockN (ew_then (cw_seq (cw_region (lw_op Z Z Z (ow_loadOwnA Z Z Z ho110 (Tryd.isAgg27 _) (Tryd.sizeOf27 _) Z ?_))))))
     have hw22 := ho107.freezeDel
     have hC45 := ho107.cxDel hC44 hX hO
     have hm27 : (Del (.slice A1 x2.Sides.length c1) (Add g2 M1)) g1 := ⟨hm6, fun e => (orow_ne ho107 ho109 (by decide)) e⟩
     refine lw_op0 Z Z (ow_store (X := (One g)) (us := [(.slice A1 x2.Sides.length c1)]) (cs' := #[(.slice A1 x2.Sides.length c1)]) Z Z Z Z ho109 (Tryd.sizeOf27 _) Z Z Z Z hm27 (.inl hg2) Z hC45 fun w40 ho111 hb32 hl46 hC46 => ?_)
     have ho112 := ho108.go hb32 (fun e => hn1 e)
     refine lw_nil (ew_then (cw_ret ?_))
     have hw24 : VRep RBox w40 (Del (.slice A1 x2.Sides.length c1) (Add g2 M1)) ({ Sides := (List.set x2.Sides (3 : Int).toNat [({ Lo := 0, Hi := 8 } : Span)]) } : Box) (.agg #[(.slice A1 x2.Sides.length c1)]) := shut_Box (VRep.mono hl46 hw22)
     obtain rfl := Option.some.inj h
     exact ew_ret (res1 Z (.cell Z (own_loadVarA ho111 (Tryd.isAgg27 _) (Tryd.sizeOf27 _) Z))) ⟨_, Z, ⟨(hw24.mono hC46.back), ho112⟩, hC46.bx⟩
    ·
     obtain rfl := hbb7.trans hc7
     refine cw_false Z (cw_region (lw_op Z Z Z (ow_fieldAddr Z Z Tryd.underlying27 Z (Tryd.sizeOf25 _) (lw_op Z Z Z (ow_loadOwn1 Z Z Z ho97 (Tryd.isAgg25 _) Z (lw_op Z Z Z (ow_buildSlice0I (R := RSpan) (e := 76) Z (by kernel_rfl) hC39 fun p5 w41 hw25 hb33 hl47 hC47 => ?_)))))))
     have ho114 := ho95.no hb33
     have ho115 := ho96.no hb33
     have ho116 := ho97.no hb33
     have hr28 := hr26.no hb33
     refine lw_op Z Z Z (ow_buildSlice (R := (RSlice RSpan)) (xs := [([] : List Span)]) (cs := #[(.slice (some p5) 0 0)]) (e := 58) Z Z (by kernel_rfl) Z Z ⟨_, _, Z, hw25.cells, Z⟩ hC47 fun p6 w42 hw26 hb34 hl48 hC48 => ?_)
     have ho117 := ho114.no hb34
     have ho118 := ho115.no hb34
     have ho119 := ho116.no hb34
     have hr29 := hr28.no hb34
     replace h := bind_some h
     obtain ⟨z2, hz2, h⟩ := h
     refine lw_op Z Z Z (ow_append (R := (RSlice RSpan)) Z Z Z Z Tryd.underlying25 hi58 hz58 hs58 hy58 Z Z Z Z hr29 hw26 hz2 hC48 fun v18 w43 M3 hr30 hb35 hl49 hC49 hM2 hat2 => ?_)
     have ho120 := ho117.go hb35 (fun e => (orow_ne hr29 ho117 (by decide)) e)
     have ho121 := ho118.go hb35 (fun e => (orow_ne hr29 ho118 (by decide)) e)
     have hm30 := hM2 _ hm6
     have ho122 := ho119.go hb35 (fun e => (orow_ne hr29 ho119 (by decide)) e)
     have hm31 := hM2 _ hm7
     refine lw_op Z Z Z (ow_fieldAddr Z Z Tryd.underlying27 Z (Tryd.sizeOf25 _) ?_)
     obtain ⟨A5, c5, rfl⟩ := hr30.len
     refine lw_op0 Z Z (ow_store (X := (One g)) (us := [(.slice A5 z2.length c5)]) (cs' := #[(.slice A5 z2.length c5)]) Z Z Z Z ho122 (Tryd.sizeOf25 _) Z Z Z Z hm31 (.inl hg4) Z hC49 fun w44 ho123 hb36 hl50 hC50 => ?_)
     have ho124 := ho120.go hb36 (fun e => hn2 e)
     have ho125 := ho121.go hb36 (fun e => hn3 e)
     have hr31 := hr30.go hb36 (fun k hk e => (orow_ne hr30 ho122 (by decide)) (hk.trans (congrArg some e))) hl50 (fun _ h => h)
     refine lw_nil (ew_blockN (ew_then (cw_seq (cw_region (lw_op Z Z Z (ow_loadOwnA Z Z Z ho123 (Tryd.isAgg27 _) (Tryd.sizeOf27 _) Z ?_))))))
     have hw27 := hr31.freezeDel
     have hC51 := hr31.cxDel hC50 hX hO
     have hm33 : (Del (.slice A5 z2.length c5) M3) g1 := ⟨hm30, fun e => (orow_ne hr31 ho125 (by decide)) e⟩
     refine lw_op0 Z Z (ow_store (X := (One g)) (us := [(.slice A5 z2.length c5)]) (cs' := #[(.slice A5 z2.length c5)]) Z Z Z Z ho125 (Tryd.sizeOf27 _) Z Z Z Z hm33 (.inl hg2) Z hC51 fun w45 ho126 hb37 hl52 hC52 => ?_)
     have ho127 := ho124.go hb37 (fun e => hn1 e)
     refine lw_nil (ew_then (cw_ret ?_))
     have hw29 : VRep RBox w45 (Del (.slice A5 z2.length c5) M3) ({ Sides := z2 } : Box) (.agg #[(.slice A5 z2.length c5)]) := shut_Box (VRep.mono hl52 hw27)
     obtain rfl := Option.some.inj h
     exact ew_ret (res1 Z (.cell Z (own_loadVarA ho126 (Tryd.isAgg27 _) (Tryd.sizeOf27 _) Z))) ⟨_, Z, ⟨(hw29.mono hC52.back), ho127⟩, hC52.bx⟩
  ·
   obtain rfl := hbb5.trans hc5
   refine cw_false Z (cw_skip (ew_then (cw_seq (cw_region (lw_op Z Z Z (ow_loadOwnA Z Z Z ho94 (Tryd.isAgg27 _) (Tryd.sizeOf27 _) Z ?_))))))
   have hw30 := hr25.freezeDel
   have hC53 := hr25.cxDel hC38 hX hO
   have hm36 : (Del (.slice A1 x2.Sides.length c1) (Add g2 M1)) g1 := ⟨hm6, fun e => (orow_ne hr25 ho93 (by decide)) e⟩
   refine lw_op0 Z Z (ow_store (X := (One g)) (us := [(.slice A1 x2.Sides.length c1)]) (cs' := #[(.slice A1 x2.Sides.length c1)]) Z Z Z Z ho93 (Tryd.sizeOf27 _) Z Z Z Z hm36 (.inl hg2) Z hC53 fun w46 ho129 hb38 hl54 hC54 => ?_)
   have ho130 := ho92.go hb38 (fun e => hn1 e)
   refine lw_nil (ew_then (cw_ret ?_))
   have hw32 : VRep RBox w46 (Del (.slice A1 x2.Sides.length c1) (Add g2 M1)) ({ Sides := x2.Sides } : Box) (.agg #[(.slice A1 x2.Sides.length c1)]) := shut_Box (VRep.mono hl54 hw30)
   obtain rfl := Option.some.inj h
   exact ew_ret (res1 Z (.cell Z (own_loadVarA ho129 (Tryd.isAgg27 _) (Tryd.sizeOf27 _) Z))) ⟨_, Z, ⟨(hw32.mono hC54.back), ho130⟩, hC54.bx⟩

theorem w_spec_DrawBoxEmpty {w : World} {M : Nat → Prop} (hG : ARep (RArr 4 RShape) w M shapes ⟨0, 0, none⟩) (hO : ∀ b, M b → b < w.heap.size) {v0p : Value} {a_code : List Int} (h0 : VRep (RSlice RU8) w M a_code v0p) {r : Box} (h : F.spec_DrawBoxEmpty a_code = some r) :
  Calls Tryd.prog 43 [v0p].toArray w fun e w' => ∃ v, e = .returned v ∧ VRep RBox w' M r v ∧ BX No w w' := by
 have hC : Cx No w M w M := Cx.start hO (fun _ e => e.elim)
 refine walk (N := 6) Tryd.func43 Z Tryd.ntmps43 Z (cw_seq (cw_region (lw_op Z Z Z (ow_alloc Z (Tryd.zeroValue27 _) hC fun g1 w1 hg1 hg2 ho1 hb1 hl1 hC1 => ?_))))
 have hm1 : (Add g1 M) g1 := .inl Z
 refine lw_nil (ew_then (cw_seq (cw_region (lw_op Z Z Z (ow_move Z Z ?_)))))
 replace h := bind_some h
 obtain ⟨x1, hx1, h⟩ := h
 refine lw_op Z Z Z (ow_call Z Z Tryd.call54 (w_spec_l20Open (hG.mono hl1) hC1.old (VRep.mono hl1 h0) hx1) fun v1 w2 hv1 => ?_)
 obtain ⟨⟨g2, A1, c1, rfl, hg3, ho2, hw1⟩, hb2⟩ := hv1
 have hl2 := (Le.no (Add g1 M) hb2).add hg3
 have hg4 := Nat.le_trans hC1.bx.size hg3
 have hC2 := (hC1.no hb2).add ho2.lt hg4
 have hn1 := Nat.ne_of_lt (Nat.lt_of_lt_of_le ho1.lt hg3)
 have ho3 := ho1.no hb2
 have hm2 : (Add g2 (Add g1 M)) g1 := .inr hm1
 have hm3 : (Add g2 (Add g1 M)) g2 := .inl Z
 replace h := bind_some h
 obtain ⟨x2, hx2, h⟩ := h
 refine lw_op Z Z Z (ow_call Z Z Tryd.call73 (w_spec_l20Box (hG.mono (hl1.trans hl2)) hC2.old hw1 ho2 hm3 hx2) fun v2 w3 hv2 => ?_)
 obtain ⟨⟨hv2, ho4⟩, hb3⟩ := hv2
 have hC3 := hC2.go hb3 (fun b e => (by rw [show b = g2 from e]; exact (.inl hg4)))
 have ho5 := ho3.go hb3 (fun e => hn1 e)
 obtain ⟨A2, c2, rfl, hw2⟩ := open_Box hv2
 refine lw_op0 Z Z (ow_store (X := No) (us := [(.slice A2 x2.1.Sides.length c2)]) (cs' := #[(.slice A2 x2.1.Sides.length c2)]) Z Z Z Z ho5 (Tryd.sizeOf27 _) Z Z Z Z hm2 (.inl hg2) Z hC3 fun w4 ho6 hb4 hl4 hC4 => lw_nil (ew_then (cw_ret ?_)))
 have hw3 : VRep RBox w4 (Add g2 (Add g1 M)) ({ Sides := x2.1.Sides } : Box) (.agg #[(.slice A2 x2.1.Sides.length c2)]) := shut_Box (VRep.mono hl4 hw2)
 obtain rfl := Option.some.inj h
 exact ew_ret (res1 Z (.cell Z (own_loadVarA ho6 (Tryd.isAgg27 _) (Tryd.sizeOf27 _) Z))) ⟨_, Z, (hw3.mono hC4.back), hC4.bx⟩

theorem w_impl_BoxEmpty {w : World} {M : Nat → Prop} (hG : ARep (RArr 4 RShape) w M shapes ⟨0, 0, none⟩) (hO : ∀ b, M b → b < w.heap.size) {v0p : Value} {a_b : Box} (h0 : VRep RBox w M a_b v0p) {r : Bool} (h : F.impl_BoxEmpty a_b = some r) :
  Calls Tryd.prog 48 [v0p].toArray w fun e w' => ∃ v, e = .returned v ∧ VRep RBool w' M r v ∧ BX No w w' := by
 have hC : Cx No w M w M := Cx.start hO (fun _ e => e.elim)
 refine walk (N := 10) Tryd.func48 Z Tryd.ntmps48 Z (cw_seq (cw_region (lw_op Z Z Z (ow_box (R := RBox) Z Z h0 hC fun p1 w1 hp1 hb1 hl1 hC1 => lw_op Z Z Z (ow_assign Z Z (lw_nil (ew_then (cw_seq (cw_region (lw_op Z Z Z (ow_load (R := RBox) Z Z hp1 (Tryd.sizeOf27 _) (Tryd.isAgg27 _) fun v1 hv1 => ?_)))))))))))
 replace h := bind_some h
 obtain ⟨x1, hx1, h⟩ := h
 refine lw_op Z Z Z (ow_call Z Z Tryd.call30 (w_impl_BoxValid (hG.mono hl1) hC1.old hv1 hx1) fun v2 w2 hv2 => ?_)
 obtain ⟨hv2, hb2⟩ := hv2
 have hl2 := Le.no M hb2
 have hC2 := hC1.no hb2
 obtain rfl := vbool_eq hv2
 refine lw_op Z Z Z (ow_move Z Z ?_)
 replace h := cond_some h
 rcases h with ⟨hc1, h⟩ | ⟨hc1, h⟩
 ·
  subst hc1
  refine lw_on Z Z Z Z Z Z (ow_load (R := RBox) Z Z (ARep.mono hl2 hp1) (Tryd.sizeOf27 _) (Tryd.isAgg27 _) fun v3 hv3 => ?_)
  replace h := bind_some h
  obtain ⟨x2, hx2, h⟩ := h
  refine lw_on Z Z Z Z Z Z (ow_call Z Z Tryd.call65 (w_impl_sidesOf (hG.mono (hl1.trans hl2)) hC2.old hv3 hx2) fun v4 w3 hv4 => ?_)
  obtain ⟨hv4, hb3⟩ := hv4
  have hl3 := Le.no M hb3
  have hC3 := hC2.no hb3
  replace h := bind_some h
  obtain ⟨x3, hx3, h⟩ := h
  have hz1 := ((hl1.trans hl2).trans hl3)
  refine lw_on Z Z Z Z Z Z (ow_call Z Z Tryd.call90 (w_impl_sides_empty (hG.mono hz1) hC3.old hv4 hx3) fun v5 w4 hv5 => ?_)
  obtain ⟨hv5, hb4⟩ := hv5
  have hC4 := hC3.no hb4
  obtain rfl := vbool_eq hv5
  refine lw_op Z Z Z (ow_pickT Z Z Z (lw_op Z Z Z (ow_assign Z Z (lw_nil (ew_then (cw_ret ?_))))))
  obtain rfl := Option.some.inj h
  exact ew_ret (res1 Z (.tmp Z)) ⟨_, Z, ((vbool _)), hC4.bx⟩
 ·
  subst hc1
  refine lw_off Z Z Z Z Z Z (lw_off Z Z Z Z Z Z (lw_off Z Z Z Z Z Z (lw_op Z Z Z (ow_pickF Z Z Z (lw_op Z Z Z (ow_assign Z Z (lw_nil (ew_then (cw_ret ?_)))))))))
  obtain rfl := Option.some.inj h
  exact ew_ret (res1 Z (.tmp Z)) ⟨_, Z, ((vbool _)), hC2.bx⟩

theorem w_spec_l10Empty {w : World} {M : Nat → Prop} (_hG : ARep (RArr 4 RShape) w M shapes ⟨0, 0, none⟩) (hO : ∀ b, M b → b < w.heap.size) {v0p : Value} {a_b : Box} (h0 : VRep RBox w M a_b v0p) {r : Bool} (h : F.spec_l10Empty a_b = some r) :
  Calls Tryd.prog 75 [v0p].toArray w fun e w' => ∃ v, e = .returned v ∧ VRep RBool w' M r v ∧ BX No w w' := by
 have hC : Cx No w M w M := Cx.start hO (fun _ e => e.elim)
 clear _hG
 refine walk (N := 18) Tryd.func75 Z Tryd.ntmps75 Z (cw_seq (cw_region (lw_op Z Z Z (ow_box (R := RBox) Z Z h0 hC fun p1 w1 hp1 hb1 hl1 hC1 => lw_op Z Z Z (ow_assign Z Z (lw_nil (ew_then (cw_seq (cw_seq (cw_region (lw_op Z Z Z (ow_assign Z Z (lw_nil (ew_then ?_))))))))))))))
 replace h := bind_some h
 obtain ⟨lr1, hlr1, h⟩ := h
 refine cw_for hlr1 (fun s a w' => ∃ (M' : Nat → Prop), Fits 18 [(1, (.pointer (some p1))), (3, (.int .i64 s))] a ∧ Le w1 M w' M' ∧ Cx No w M w' M') ?_ ?_ ?_
 ·
  intro a ha
  exact ⟨M, ha.sub ⟨Z, Z, trivial⟩, Le.refl _ _, hC1⟩
 ·
  rintro k1 a w2 sr1 ⟨M1, hF1, hl2, hC2⟩ hb2 hR1
  refine cw_at (E := [(1, (.pointer (some p1))), (3, (.int .i64 k1))]) hF1 (cw_seq (cw_seq (cw_region (lw_op Z Z Z (ow_move Z Z (lw_op Z Z Z (ow_fieldAddr Z Z Tryd.underlying27 Z (Tryd.sizeOf25 _) (lw_op Z Z Z (ow_load (R := (RSlice (RSlice RSpan))) Z Z (ARep.mono hl2 (hp1.fld fld_Box_Sides)) (Tryd.sizeOf25 _) (Tryd.isAgg25 _) fun v2 hv2 => lw_op Z Z Z (ow_len Z Z hv2 Tryd.underlying25 Z (lw_op Z Z Z (ow_lss Z Z Z fun bb1 hbb1 => lw_nil (ew_then ?_)))))))))))))
  replace hb2 := cond_some hb2
  rcases hb2 with ⟨hc1, hb2⟩ | ⟨hc1, hb2⟩
  ·
   obtain rfl := hbb1.trans hc1
   refine cw_true Z (cw_skip (ew_then (cw_seq (cw_block (cw_seq (cw_region (lw_op Z Z Z (ow_fieldAddr Z Z Tryd.underlying27 Z (Tryd.sizeOf25 _) (lw_op Z Z Z (ow_load (R := (RSlice (RSlice RSpan))) Z Z (ARep.mono hl2 (hp1.fld fld_Box_Sides)) (Tryd.sizeOf25 _) (Tryd.isAgg25 _) fun v3 hv3 => lw_op Z Z Z (ow_move Z Z ?_)))))))))))
   replace hb2 := bind_some hb2
   obtain ⟨x1, hx1, hb2⟩ := hb2
   refine lw_op Z Z Z (ow_indexSlice (R := (RSlice RSpan)) Z Z Z hv3 Tryd.underlying25 (Tryd.sizeOf58 _) hx1 fun p2 hp2 => lw_op Z Z Z (ow_load (R := (RSlice RSpan)) Z Z hp2 (Tryd.sizeOf58 _) (Tryd.isAgg58 _) fun v4 hv4 => lw_op Z Z Z (ow_len Z Z hv4 Tryd.underlying58 Z (lw_op Z Z Z (ow_eqlI Z Z Z fun bb2 hbb2 => lw_nil (ew_then ?_))))))
   replace hb2 := cond_some hb2
   rcases hb2 with ⟨hc2, hb2⟩ | ⟨hc2, hb2⟩
   ·
    obtain rfl := hbb2.trans hc2
    refine cw_true Z (cw_seq (cw_region (lw_op Z Z Z (ow_assign Z Z (lw_nil (ew_then (cw_ret (ew_blockR (ew_thenR (ew_thenR (ew_blockR (ew_brkR (ew_thenR ?_)))))))))))))
    have e1 := hR1 _ (Option.some.inj hb2).symm
    subst e1
    obtain rfl := Option.some.inj h
    exact ew_ret (res1 Z (.tmp Z)) ⟨_, Z, ((vbool _)), hC2.bx⟩
   ·
    obtain rfl := hbb2.trans hc2
    exact cw_false Z (cw_skip (ew_blockN (ew_then (cw_region (lw_op Z Z Z (ow_move Z Z (lw_op Z Z Z (ow_add Z Z Z (lw_op Z Z Z (ow_assign Z Z (lw_nil (ew_nxt (W (k1 + 1)) hb2 fun a ha => ⟨M1, (ha.sub ⟨Z, Z, trivial⟩), hl2, hC2⟩))))))))))))
  ·
   obtain rfl := hbb1.trans hc1
   exact cw_false Z (cw_exit (ew_thenX (ew_thenX (ew_blockX (ew_brk k1 hb2 fun a ha => ⟨M1, (ha.sub ⟨Z, Z, trivial⟩), hl2, hC2⟩)))))
 ·
  rintro k2 a w3 hlr2 ⟨M2, hF2, hl3, hC3⟩
  subst hlr2
  refine ew_at (E := [(1, (.pointer (some p1))), (3, (.int .i64 k2))]) hF2 (ew_then (cw_seq (cw_region (lw_op Z Z Z (ow_assign Z Z (lw_nil (ew_then (cw_ret ?_))))))))
  obtain rfl := Option.some.inj h
  exact ew_ret (res1 Z (.tmp Z)) ⟨_, Z, ((vbool _)), hC3.bx⟩

theorem w_spec_BoxEmpty {w : World} {M : Nat → Prop} (hG : ARep (RArr 4 RShape) w M shapes ⟨0, 0, none⟩) (hO : ∀ b, M b → b < w.heap.size) {v0p : Value} {a_b : Box} (h0 : VRep RBox w M a_b v0p) {r : Bool} (h : F.spec_BoxEmpty a_b = some r) :
  Calls Tryd.prog 52 [v0p].toArray w fun e w' => ∃ v, e = .returned v ∧ VRep RBool w' M r v ∧ BX No w w' := by
 have hC : Cx No w M w M := Cx.start hO (fun _ e => e.elim)
 refine walk (N := 9) Tryd.func52 Z Tryd.ntmps52 Z (cw_seq (cw_region (lw_op Z Z Z (ow_box (R := RBox) Z Z h0 hC fun p1 w1 hp1 hb1 hl1 hC1 => lw_op Z Z Z (ow_assign Z Z (lw_nil (ew_then (cw_seq (cw_region (lw_op Z Z Z (ow_load (R := RBox) Z Z hp1 (Tryd.sizeOf27 _) (Tryd.isAgg27 _) fun v1 hv1 => ?_)))))))))))
 replace h := bind_some h
 obtain ⟨x1, hx1, h⟩ := h
 refine lw_op Z Z Z (ow_call Z Z Tryd.call38 (w_spec_BoxValid (hG.mono hl1) hC1.old hv1 hx1) fun v2 w2 hv2 => ?_)
 obtain ⟨hv2, hb2⟩ := hv2
 have hl2 := Le.no M hb2
 have hC2 := hC1.no hb2
 obtain rfl := vbool_eq hv2
 refine lw_op Z Z Z (ow_move Z Z ?_)
 replace h := cond_some h
 rcases h with ⟨hc1, h⟩ | ⟨hc1, h⟩
 ·
  subst hc1
  refine lw_on Z Z Z Z Z Z (ow_load (R := RBox) Z Z (ARep.mono hl2 hp1) (Tryd.sizeOf27 _) (Tryd.isAgg27 _) fun v3 hv3 => ?_)
  replace h := bind_some h
  obtain ⟨x2, hx2, h⟩ := h
  refine lw_on Z Z Z Z Z Z (ow_call Z Z Tryd.call75 (w_spec_l10Empty (hG.mono (hl1.trans hl2)) hC2.old hv3 hx2) fun v4 w3 hv4 => ?_)
  obtain ⟨hv4, hb3⟩ := hv4
  have hC3 := hC2.no hb3
  obtain rfl := vbool_eq hv4
  refine lw_op Z Z Z (ow_pickT Z Z Z (lw_op Z Z Z (ow_assign Z Z (lw_nil (ew_then (cw_ret ?_))))))
  obtain rfl := Option.some.inj h
  exact ew_ret (res1 Z (.tmp Z)) ⟨_, Z, ((vbool _)), hC3.bx⟩
 ·
  subst hc1
  refine lw_off Z Z Z Z Z Z (lw_off Z Z Z Z Z Z (lw_op Z Z Z (ow_pickF Z Z Z (lw_op Z Z Z (ow_assign Z Z (lw_nil (ew_then (cw_ret ?_))))))))
  obtain rfl := Option.some.inj h
  exact ew_ret (res1 Z (.tmp Z)) ⟨_, Z, ((vbool _)), hC2.bx⟩

theorem w_laws_FnBoxEmpty {w : World} {M : Nat → Prop} (hG : ARep (RArr 4 RShape) w M shapes ⟨0, 0, none⟩) (hO : ∀ b, M b → b < w.heap.size) {v0p : Value} {a_code : List Int} (h0 : VRep (RSlice RU8) w M a_code v0p) {r : Bool} (h : F.laws_FnBoxEmpty a_code = some r) :
  Calls Tryd.prog 13 [v0p].toArray w fun e w' => ∃ v, e = .returned v ∧ VRep RBool w' M r v ∧ BX No w w' := by
 have hC : Cx No w M w M := Cx.start hO (fun _ e => e.elim)
 refine walk (N := 51) Tryd.func13 Z Tryd.ntmps13 Z (cw_seq (cw_region (lw_op Z Z Z (ow_assign Z Z (lw_nil (ew_then (cw_seq (cw_seq (cw_region (lw_op Z Z Z (ow_move Z Z (lw_op Z Z Z (ow_len Z Z h0 Tryd.underlying22 Z (lw_op Z Z Z (ow_gtr Z Z Z fun bb1 hbb1 => lw_nil (ew_then ?_))))))))))))))))
 replace h := cond_some h
 rcases h with ⟨hc1, h⟩ | ⟨hc1, h⟩
 ·
  obtain rfl := hbb1.trans hc1
  refine cw_true Z (cw_seq (cw_region (lw_op Z Z Z (ow_assign Z Z (lw_nil (ew_then (cw_ret (ew_thenR ?_))))))))
  obtain rfl := Option.some.inj h
  exact ew_ret (res1 Z (.tmp Z)) ⟨_, Z, ((vbool _)), hC.bx⟩
 ·
  obtain rfl := hbb1.trans hc1
  refine cw_false Z (cw_skip (ew_then (cw_seq (cw_region (lw_op Z Z Z (ow_move Z Z ?_))))))
  replace h := bind_some h
  obtain ⟨x1, hx1, h⟩ := h
  refine lw_op Z Z Z (ow_call Z Z Tryd.call43 (w_spec_DrawBoxEmpty hG hC.old h0 hx1) fun v1 w1 hv1 => ?_)
  obtain ⟨hv1, hb1⟩ := hv1
  have hl1 := Le.no M hb1
  have hC1 := hC.no hb1
  refine lw_allocStore (R := RBox) Z Z Z Z Z Z Z Tryd.zeroValue27 Tryd.sizeOf27 Z Z Z (by simp) hv1 hC1 fun p1 w2 hp1 hb2 hl2 hC2 => lw_nil (ew_then (cw_seq (cw_region (lw_op Z Z Z (ow_load (R := RBox) Z Z hp1 (Tryd.sizeOf27 _) (Tryd.isAgg27 _) fun v2 hv2 => ?_)))))
  replace h := bind_some h
  obtain ⟨x2, hx2, h⟩ := h
  refine lw_op Z Z Z (ow_call Z Z Tryd.call48 (w_impl_BoxEmpty (hG.mono (hl1.trans hl2)) hC2.old hv2 hx2) fun v3 w3 hv3 => ?_)
  obtain ⟨hv3, hb3⟩ := hv3
  have hl3 := Le.no M hb3
  have hC3 := hC2.no hb3
  obtain rfl := vbool_eq hv3
  refine lw_op Z Z Z (ow_assign Z Z (lw_nil (ew_then (cw_seq (cw_seq (cw_region (lw_op Z Z Z (ow_move Z Z (lw_op Z Z Z (ow_load (R := RBox) Z Z (ARep.mono hl3 hp1) (Tryd.sizeOf27 _) (Tryd.isAgg27 _) fun v4 hv4 => ?_))))))))))
  replace h := bind_some h
  obtain ⟨x3, hx3, h⟩ := h
  have hz1 := ((hl1.trans hl2).trans hl3)
  refine lw_op Z Z Z (ow_call Z Z Tryd.call52 (w_spec_BoxEmpty (hG.mono hz1) hC3.old hv4 hx3) fun v5 w4 hv5 => ?_)
  obtain ⟨hv5, hb4⟩ := hv5
  have hl4 := Le.no M hb4
  have hC4 := hC3.no hb4
  obtain rfl := vbool_eq hv5
  refine lw_op Z Z Z (ow_neqB Z Z Z Tryd.underlying4 fun bb2 hbb2 => lw_nil (ew_then ?_))
  replace h := cond_some h
  rcases h with ⟨hc2, h⟩ | ⟨hc2, h⟩
  ·
   obtain rfl := hbb2.trans hc2
   refine cw_true Z (cw_seq (cw_region (lw_op Z Z Z (ow_assign Z Z (lw_nil (ew_then (cw_ret (ew_thenR ?_))))))))
   obtain rfl := Option.some.inj h
   exact ew_ret (res1 Z (.tmp Z)) ⟨_, Z, ((vbool _)), hC4.bx⟩
  ·
   obtain rfl := hbb2.trans hc2
   refine cw_false Z (cw_skip (ew_then (cw_seq (cw_seq (cw_region (lw_op Z Z Z (ow_load (R := RBox) Z Z (ARep.mono (hl3.trans hl4) hp1) (Tryd.sizeOf27 _) (Tryd.isAgg27 _) fun v6 hv6 => ?_)))))))
   replace h := bind_some h
   obtain ⟨x4, hx4, h⟩ := h
   refine lw_op Z Z Z (ow_call Z Z Tryd.call38 (w_spec_BoxValid (hG.mono (hz1.trans hl4)) hC4.old hv6 hx4) fun v7 w5 hv7 => ?_)
   obtain ⟨hv7, hb5⟩ := hv7
   have hl5 := Le.no M hb5
   have hC5 := hC4.no hb5
   obtain rfl := vbool_eq hv7
   refine lw_op Z Z Z (ow_not Z Z (lw_nil (ew_then ?_)))
   replace h := cond_some h
   rcases h with ⟨hc3, h⟩ | ⟨hc3, h⟩
   ·
    subst hc3
    refine cw_false Z (cw_skip (ew_then (cw_seq (cw_region ?_))))
    have hz2 := ((hl3.trans hl4).trans hl5)
    refine lw_op Z Z Z (ow_load (R := RBox) Z Z (ARep.mono hz2 hp1) (Tryd.sizeOf27 _) (Tryd.isAgg27 _) fun v8 hv8 => ?_)
    replace h := bind_some h
    obtain ⟨x5, hx5, h⟩ := h
    have hz3 := ((hz1.trans hl4).trans hl5)
    refine lw_op Z Z Z (ow_call Z Z Tryd.call34 (w_impl_BoxFirst (hG.mono hz3) hC5.old hv8 hx5) fun v9 w6 hv9 => ?_)
    obtain ⟨⟨v10, v11, rfl, hv10, hv11⟩, hb6⟩ := hv9
    have hl6 := Le.no M hb6
    have hC6 := hC5.no hb6
    obtain ⟨bb3, hbb3, rfl⟩ := vbool_ex hv11
    refine lw_op Z Z Z (ow_move Z Z (lw_op Z Z Z (ow_extract Z Z Z (lw_op Z Z Z (ow_extract Z Z Z (lw_allocStore (R := RPacket) Z Z Z Z Z Z Z Tryd.zeroValue45 Tryd.sizeOf45 Z Z Z (by simp) hv10 hC6 fun p2 w7 hp2 hb7 hl7 hC7 => lw_op Z Z Z (ow_assign Z Z (lw_nil (ew_then (cw_seq (cw_region (lw_op Z Z Z (ow_build (v := .agg #[(.int .i64 3), (.int .i64 0), (.int .i64 2), (.bool false)]) Z Z (by kernel_rfl) ?_)))))))))))))
    have hw1 : VRep RTest w7 M ({ Field := 3, Lo := 0, Hi := 2, Not := false } : Test) (.agg #[(.int .i64 3), (.int .i64 0), (.int .i64 2), (.bool false)]) := shut_Test
    refine lw_op Z Z Z (ow_build (v := .agg #[(.int .i64 3), (.int .i64 3), (.int .i64 3), (.bool false)]) Z Z (by kernel_rfl) ?_)
    have hw2 : VRep RTest w7 M ({ Field := 3, Lo := 3, Hi := 3, Not := false } : Test) (.agg #[(.int .i64 3), (.int .i64 3), (.int .i64 3), (.bool false)]) := shut_Test
    refine lw_op Z Z Z (ow_buildSlice (R := RTest) (xs := [({ Field := 3, Lo := 0, Hi := 2, Not := false } : Test), ({ Field := 3, Lo := 3, Hi := 3, Not := false } : Test)]) (cs := #[(.int .i64 3), (.int .i64 0), (.int .i64 2), (.bool false), (.int .i64 3), (.int .i64 3), (.int .i64 3), (.bool false)]) (e := 31) Z Z (by kernel_rfl) Z Z ⟨_, _, Z, hw1.cells, _, _, Z, hw2.cells, Z⟩ hC7 fun p3 w8 hw3 hb8 hl8 hC8 => ?_)
    replace h := bind_some h
    obtain ⟨x6, hx6, h⟩ := h
    have hz4 := (((hz3.trans hl6).trans hl7).trans hl8)
    refine lw_op Z Z Z (ow_call Z Z Tryd.call16 (w_impl_TestsBox (hG.mono hz4) hC8.old hw3 hx6) fun v12 w9 hv12 => ?_)
    obtain ⟨hv12, hb9⟩ := hv12
    have hl9 := Le.no M hb9
    have hC9 := hC8.no hb9
    refine lw_allocStore (R := RBox) Z Z Z Z Z Z Z Tryd.zeroValue27 Tryd.sizeOf27 Z Z Z (by simp) hv12 hC9 fun p4 w10 hp4 hb10 hl10 hC10 => lw_nil (ew_then (cw_seq (cw_region (lw_op Z Z Z (ow_move Z Z (lw_op Z Z Z (ow_move Z Z (lw_op Z Z Z (ow_not Z Z (lw_op Z Z Z (ow_eqlB Z Z Z Tryd.underlying4 fun bb4 hbb4 => ?_)))))))))))
    have hbb4' : bb4 = (x2 == (!x5.2)) := hbb4.trans (by rw [hbb3])
    refine lw_op Z Z Z (ow_move Z Z ?_)
    replace h := cond_some h
    rcases h with ⟨hc4, h⟩ | ⟨hc4, h⟩
    ·
     obtain rfl := hbb4'.trans hc4
     refine lw_on Z Z Z Z Z Z (ow_move Z Z ?_)
     have hz5 := (((((hz2.trans hl6).trans hl7).trans hl8).trans hl9).trans hl10)
     refine lw_on Z Z Z Z Z Z (ow_load (R := RBox) Z Z (ARep.mono hz5 hp1) (Tryd.sizeOf27 _) (Tryd.isAgg27 _) fun v13 hv13 => lw_on Z Z Z Z Z Z (ow_load (R := RBox) Z Z hp4 (Tryd.sizeOf27 _) (Tryd.isAgg27 _) fun v14 hv14 => ?_))
     replace h := bind_some h
     obtain ⟨x7, hx7, h⟩ := h
     have hz6 := ((hz4.trans hl9).trans hl10)
     refine lw_on Z Z Z Z Z Z (ow_call Z Z Tryd.call27 (w_impl_BoxWithin (hG.mono hz6) hC10.old hv13 hv14 hx7) fun v15 w11 hv15 => ?_)
     obtain ⟨hv15, hb11⟩ := hv15
     have hl11 := Le.no M hb11
     have hC11 := hC10.no hb11
     obtain rfl := vbool_eq hv15
     refine lw_on Z Z Z Z Z Z (ow_eqlB Z Z Z Tryd.underlying4 fun bb5 hbb5 => lw_op Z Z Z (ow_pickT Z Z Z (lw_op Z Z Z (ow_move Z Z ?_))))
     replace h := cond_some h
     rcases h with ⟨hc5, h⟩ | ⟨hc5, h⟩
     ·
      obtain rfl := hbb5.trans hc5
      refine lw_on Z Z Z Z Z Z (ow_load (R := RBox) Z Z (ARep.mono hl11 hp4) (Tryd.sizeOf27 _) (Tryd.isAgg27 _) fun v16 hv16 => ?_)
      replace h := bind_some h
      obtain ⟨x8, hx8, h⟩ := h
      refine lw_on Z Z Z Z Z Z (ow_call Z Z Tryd.call48 (w_impl_BoxEmpty (hG.mono (hz6.trans hl11)) hC11.old hv16 hx8) fun v17 w12 hv17 => ?_)
      obtain ⟨hv17, hb12⟩ := hv17
      have hC12 := hC11.no hb12
      obtain rfl := vbool_eq hv17
      refine lw_op Z Z Z (ow_pickT Z Z Z (lw_op Z Z Z (ow_assign Z Z (lw_nil (ew_then (cw_ret ?_))))))
      obtain rfl := Option.some.inj h
      exact ew_ret (res1 Z (.tmp Z)) ⟨_, Z, ((vbool _)), hC12.bx⟩
     ·
      obtain rfl := hbb5.trans hc5
      refine lw_off Z Z Z Z Z Z (lw_off Z Z Z Z Z Z (lw_op Z Z Z (ow_pickF Z Z Z (lw_op Z Z Z (ow_assign Z Z (lw_nil (ew_then (cw_ret ?_))))))))
      obtain rfl := Option.some.inj h
      exact ew_ret (res1 Z (.tmp Z)) ⟨_, Z, ((vbool _)), hC11.bx⟩
    ·
     obtain rfl := hbb4'.trans hc4
     refine lw_off Z Z Z Z Z Z (lw_off Z Z Z Z Z Z (lw_off Z Z Z Z Z Z (lw_off Z Z Z Z Z Z (lw_off Z Z Z Z Z Z (lw_op Z Z Z (ow_pickF Z Z Z (lw_op Z Z Z (ow_move Z Z (lw_off Z Z Z Z Z Z (lw_off Z Z Z Z Z Z (lw_op Z Z Z (ow_pickF Z Z Z (lw_op Z Z Z (ow_assign Z Z (lw_nil (ew_then (cw_ret ?_)))))))))))))))))
     obtain rfl := Option.some.inj h
     exact ew_ret (res1 Z (.tmp Z)) ⟨_, Z, ((vbool _)), hC10.bx⟩
   ·
    subst hc3
    refine cw_true Z (cw_seq (cw_region (lw_op Z Z Z (ow_move Z Z (lw_op Z Z Z (ow_not Z Z (lw_op Z Z Z (ow_move Z Z ?_))))))))
    replace h := cond_some h
    rcases h with ⟨hc6, h⟩ | ⟨hc6, h⟩
    ·
     subst hc6
     refine lw_off Z Z Z Z Z Z (lw_op Z Z Z (ow_pickF Z Z Z (lw_op Z Z Z (ow_assign Z Z (lw_nil (ew_then (cw_ret (ew_thenR ?_))))))))
     obtain rfl := Option.some.inj h
     exact ew_ret (res1 Z (.tmp Z)) ⟨_, Z, ((vbool _)), hC5.bx⟩
    ·
     subst hc6
     replace h := bind_some h
     obtain ⟨x9, hx9, h⟩ := h
     have hz7 := ((hz1.trans hl4).trans hl5)
     refine lw_on Z Z Z Z Z Z (ow_call Z Z Tryd.call19 (w_laws_alive (hG.mono hz7) hC5.old hx9) fun v18 w13 hv18 => ?_)
     obtain ⟨hv18, hb13⟩ := hv18
     have hC13 := hC5.no hb13
     obtain rfl := vbool_eq hv18
     refine lw_op Z Z Z (ow_pickT Z Z Z (lw_op Z Z Z (ow_assign Z Z (lw_nil (ew_then (cw_ret (ew_thenR ?_)))))))
     obtain rfl := Option.some.inj h
     exact ew_ret (res1 Z (.tmp Z)) ⟨_, Z, ((vbool _)), hC13.bx⟩


end Go.PF
