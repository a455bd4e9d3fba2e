/- The walks; no condition. -/
import Derived.Test.YtnleamfkpjnfoaaDoorProg
import Derived.Test.YtnleamfkpjnfoaaDoorFun
import Derived.Test.YtnleamfkpjnfoaaDoorPFNew
set_option maxRecDepth 100000
set_option maxHeartbeats 4000000
namespace Go.PF
open Go Go.RowKit Go.Proofs

theorem info31 : ∃ i, Tryd.prog.info? 31 = some i ∧ i.zero = some (.agg #[.int .i64 0, .int .i64 0, .int .i64 0, .bool false]) ∧ i.size = 4 ∧ i.bytes = 32 := info_parts (by kernel_rfl)
theorem info58 : ∃ i, Tryd.prog.info? 58 = some i ∧ i.zero = some (.slice none 0 0) ∧ i.size = 1 ∧ i.bytes = 24 := info_parts (by kernel_rfl)
theorem info76 : ∃ i, Tryd.prog.info? 76 = some i ∧ i.zero = some (.agg #[.int .i64 0, .int .i64 0]) ∧ i.size = 2 ∧ i.bytes = 16 := info_parts (by kernel_rfl)
theorem eqS76 {x y : Span} (w : World) : (Op.equalIn 10000 76 (.agg #[.int .i64 x.Lo, .int .i64 x.Hi]) (.agg #[.int .i64 y.Lo, .int .i64 y.Hi])).run Tryd.prog w = .ok (decide (x = y)) w := by
  obtain ⟨a0, a1⟩ := x
  obtain ⟨b0, b1⟩ := y
  rw [run_equalIn_struct w 9999 76 _ _ rfl Tryd.stoodInHeld76]
  simp only [Program.fieldsOf, Tryd.underlying76]
  by_cases h0 : a0 = b0 <;> by_cases h1 : a1 = b1 <;> simp [Op.eqFields, part, Tryd.isAgg3, run_equalIn_int, Tryd.underlying3, h0, h1]
theorem w_laws_sameSpans {w : World} {M : Nat → Prop} (_hG : ARep (RArr 4 RShape) w M shapes ⟨0, 0, none⟩) (hO : ∀ b, M b → b < w.heap.size) {v0p : Value} {a_a : List Span} (h0 : VRep (RSlice RSpan) w M a_a v0p) {v1p : Value} {a_b : List Span} (h1 : VRep (RSlice RSpan) w M a_b v1p) {r : Bool} (h : F.laws_sameSpans a_a a_b = some r) :
  Calls Tryd.prog 58 [v0p, v1p].toArray w fun e w' => ∃ v, e = .returned v ∧ VRep RBool w' M r v ∧ BX No w w' := by
 have hC : Cx No w M w M := Cx.start hO (fun _ e => e.elim)
 clear _hG
 refine walk (N := 26) Tryd.func58 Z Tryd.ntmps58 Z (cw_seq (cw_region (lw_op Z Z Z (ow_assign Z Z (lw_nil (ew_then (cw_seq (cw_seq (cw_region (lw_op Z Z Z (ow_move Z Z (lw_op Z Z Z (ow_len Z Z h0 Tryd.underlying58 Z (lw_op Z Z Z (ow_move Z Z (lw_op Z Z Z (ow_len Z Z h1 Tryd.underlying58 Z (lw_op Z Z Z (ow_neqI Z Z Z fun bb1 hbb1 => lw_nil (ew_then ?_))))))))))))))))))))
 replace h := cond_some h
 rcases h with ⟨hc1, h⟩ | ⟨hc1, h⟩
 ·
  obtain rfl := hbb1.trans hc1
  refine cw_true Z (cw_seq (cw_region (lw_op Z Z Z (ow_assign Z Z (lw_nil (ew_then (cw_ret (ew_thenR ?_))))))))
  obtain rfl := Option.some.inj h
  exact ew_ret (res1 Z (.tmp Z)) ⟨_, Z, ((vbool _)), hC.bx⟩
 ·
  obtain rfl := hbb1.trans hc1
  refine cw_false Z (cw_skip (ew_then (cw_seq (cw_seq (cw_region (lw_op Z Z Z (ow_assign Z Z (lw_nil (ew_then ?_)))))))))
  replace h := bind_some h
  obtain ⟨lr1, hlr1, h⟩ := h
  refine cw_for hlr1 (fun s a w' => ∃ (M' : Nat → Prop), Fits 26 [(0, v0p), (1, v1p), (5, (.int .i64 s))] a ∧ Le w M w' M' ∧ Cx No w M w' M') ?_ ?_ ?_
  ·
   intro a ha
   exact ⟨M, ha.sub ⟨Z, Z, Z, trivial⟩, Le.refl _ _, hC⟩
  ·
   rintro k1 a w1 sr1 ⟨M1, hF1, hl1, hC1⟩ hb1 hR1
   refine cw_at (E := [(0, v0p), (1, v1p), (5, (.int .i64 k1))]) hF1 (cw_seq (cw_seq (cw_region (lw_op Z Z Z (ow_move Z Z (lw_op Z Z Z (ow_move Z Z (lw_op Z Z Z (ow_len Z Z (VRep.mono hl1 h0) Tryd.underlying58 Z (lw_op Z Z Z (ow_lss Z Z Z fun bb2 hbb2 => lw_nil (ew_then ?_))))))))))))
   replace hb1 := cond_some hb1
   rcases hb1 with ⟨hc2, hb1⟩ | ⟨hc2, hb1⟩
   ·
    obtain rfl := hbb2.trans hc2
    refine cw_true Z (cw_skip (ew_then (cw_seq (cw_block (cw_seq ?_)))))
    replace hb1 := bind_some hb1
    obtain ⟨x1, hx1, hb1⟩ := hb1
    replace hb1 := bind_some hb1
    obtain ⟨x2, hx2, hb1⟩ := hb1
    refine cw_sub (E' := [(0, v0p), (1, v1p), (5, (.int .i64 k1))]) ⟨Z, Z, Z, trivial⟩ (cw_drawQ 8 [PV (RSlice RSpan) M1 a_a, PEq (.int .i64 k1), PA RSpan M1 x1, PV RSpan M1 x1, PV (RSlice RSpan) M1 a_b, PEq (.int .i64 k1), PA RSpan M1 x2, PV RSpan M1 x2] (by kernel_rfl) Z (by kernel_rfl) ⟨PV.mono _ _ _, PEq.mono _, PA.mono _ _ _, PV.mono _ _ _, PV.mono _ _ _, PEq.mono _, PA.mono _ _ _, PV.mono _ _ _, trivial⟩ ⟨?_, ?_, ?_, ?_, ?_, ?_, ?_, ?_, trivial⟩ ?_)
    ·
     intro w2 D hS1 hd1
     have hl2 := Le.no M1 hS1
     exact dg_sub (E' := [(0, v0p)]) ⟨Z, trivial⟩ (dg_plain Z (ow_move Z Z ⟨BX.refl _ _, (VRep.mono (hl1.trans hl2) h0)⟩))
    ·
     intro w3 D hS2 hd2
     exact dg_sub (E' := [(5, (.int .i64 k1))]) ⟨Z, trivial⟩ (dg_plain Z (ow_move Z Z ⟨BX.refl _ _, Z⟩))
    ·
     intro w4 D hS3 hd3
     have d1 : PV (RSlice RSpan) M1 a_a (D 0) w4 := dpA hd3 0 Z
     generalize hq1 : (D 0) = v4 at d1
     exact dg_sub (E' := [(17, v4), (18, (.int .i64 k1))]) ⟨(congrArg some hq1), (dpE hd3 1 Z Z), trivial⟩ (dg_plain Z (ow_indexSlice (R := RSpan) Z Z Z d1 Tryd.underlying58 (Tryd.sizeOf76 _) hx1 fun p3 hp3 => ⟨BX.refl _ _, ⟨_, Z, hp3⟩⟩))
    ·
     intro w5 D hS4 hd4
     have d3 : PA RSpan M1 x1 (D 2) w5 := dpA hd4 2 Z
     obtain ⟨p4, e1, ha1⟩ := d3
     exact dg_sub (E' := [(19, (.pointer (some p4)))]) ⟨(congrArg some e1), trivial⟩ (dg_plain Z (ow_load (R := RSpan) Z Z ha1 (Tryd.sizeOf76 _) (Tryd.isAgg76 _) fun v5 hv5 => ⟨BX.refl _ _, hv5⟩))
    ·
     intro w6 D hS5 hd5
     have hl6 := Le.no M1 hS5
     exact dg_sub (E' := [(1, v1p)]) ⟨Z, trivial⟩ (dg_plain Z (ow_move Z Z ⟨BX.refl _ _, (VRep.mono (hl1.trans hl6) h1)⟩))
    ·
     intro w7 D hS6 hd6
     exact dg_sub (E' := [(5, (.int .i64 k1))]) ⟨Z, trivial⟩ (dg_plain Z (ow_move Z Z ⟨BX.refl _ _, Z⟩))
    ·
     intro w8 D hS7 hd7
     have d4 : PV (RSlice RSpan) M1 a_b (D 4) w8 := dpA hd7 4 Z
     generalize hq2 : (D 4) = v6 at d4
     exact dg_sub (E' := [(21, v6), (22, (.int .i64 k1))]) ⟨(congrArg some hq2), (dpE hd7 5 Z Z), trivial⟩ (dg_plain Z (ow_indexSlice (R := RSpan) Z Z Z d4 Tryd.underlying58 (Tryd.sizeOf76 _) hx2 fun p5 hp5 => ⟨BX.refl _ _, ⟨_, Z, hp5⟩⟩))
    ·
     intro w9 D hS8 hd8
     have d6 : PA RSpan M1 x2 (D 6) w9 := dpA hd8 6 Z
     obtain ⟨p6, e2, ha2⟩ := d6
     exact dg_sub (E' := [(23, (.pointer (some p6)))]) ⟨(congrArg some e2), trivial⟩ (dg_plain Z (ow_load (R := RSpan) Z Z ha2 (Tryd.sizeOf76 _) (Tryd.isAgg76 _) fun v7 hv7 => ⟨BX.refl _ _, hv7⟩))
    ·
     intro w10 D hS9 hd9
     have d10 : PV RSpan M1 x1 (D 3) w10 := dpA hd9 3 Z
     have d14 : PV RSpan M1 x2 (D 7) w10 := dpA hd9 7 Z
     have hl10 := Le.no M1 hS9
     have hC10 := hC1.no hS9
     generalize hq3 : (D 3) = v8 at d10
     generalize hq4 : (D 7) = v9 at d14
     refine lw_sub (E' := [(20, v8), (24, v9), (0, v0p), (1, v1p), (5, (.int .i64 k1))]) ⟨(congrArg some hq3), (congrArg some hq4), Z, Z, Z, trivial⟩ ?_
     obtain rfl := open_Span d10
     obtain rfl := open_Span d14
     refine lw_op Z Z Z (ow_neqS Z Z Z (Tryd.eqGuardType76) (eqS76 (x := x1) (y := x2) _) fun bb3 hbb3 => lw_nil (ew_then ?_))
     replace hb1 := cond_some hb1
     rcases hb1 with ⟨hc3, hb1⟩ | ⟨hc3, hb1⟩
     ·
      obtain rfl := hbb3.trans hc3
      refine cw_true Z (cw_seq (cw_region (lw_op Z Z Z (ow_assign Z Z (lw_nil (ew_then (cw_ret (ew_blockR (ew_thenR (ew_thenR (ew_blockR (ew_brkR (ew_thenR ?_)))))))))))))
      have e3 := hR1 _ (Option.some.inj hb1).symm
      subst e3
      obtain rfl := Option.some.inj h
      exact ew_ret (res1 Z (.tmp Z)) ⟨_, Z, ((vbool _)), hC10.bx⟩
     ·
      obtain rfl := hbb3.trans hc3
      exact cw_false Z (cw_skip (ew_blockN (ew_then (cw_region (lw_op Z Z Z (ow_move Z Z (lw_op Z Z Z (ow_add Z Z Z (lw_op Z Z Z (ow_assign Z Z (lw_nil (ew_nxt (W (k1 + 1)) hb1 fun a ha => ⟨M1, (ha.sub ⟨Z, Z, Z, trivial⟩), (hl1.trans hl10), hC10⟩))))))))))))
   ·
    obtain rfl := hbb2.trans hc2
    exact cw_false Z (cw_exit (ew_thenX (ew_thenX (ew_blockX (ew_brk k1 hb1 fun a ha => ⟨M1, (ha.sub ⟨Z, Z, Z, trivial⟩), hl1, hC1⟩)))))
  ·
   rintro k2 a w11 hlr2 ⟨M2, hF2, hl11, hC11⟩
   subst hlr2
   refine ew_at (E := [(0, v0p), (1, v1p), (5, (.int .i64 k2))]) hF2 (ew_then (cw_seq (cw_region (lw_op Z Z Z (ow_assign Z Z (lw_nil (ew_then (cw_ret ?_))))))))
   obtain rfl := Option.some.inj h
   exact ew_ret (res1 Z (.tmp Z)) ⟨_, Z, ((vbool _)), hC11.bx⟩

theorem w_laws_sameBox {w : World} {M : Nat → Prop} (hG : ARep (RArr 4 RShape) w M shapes ⟨0, 0, none⟩) (hO : ∀ b, M b → b < w.heap.size) {v0p : Value} {a_a : Box} (h0 : VRep RBox w M a_a v0p) {v1p : Value} {a_b : Box} (h1 : VRep RBox w M a_b v1p) {r : Bool} (h : F.laws_sameBox a_a a_b = some r) :
  Calls Tryd.prog 17 [v0p, v1p].toArray w fun e w' => ∃ v, e = .returned v ∧ VRep RBool w' M r v ∧ BX No w w' := by
 have hC : Cx No w M w M := Cx.start hO (fun _ e => e.elim)
 refine walk (N := 32) Tryd.func17 Z Tryd.ntmps17 Z (cw_seq (cw_region (lw_op Z Z Z (ow_box (R := RBox) Z Z h0 hC fun p1 w1 hp1 hb1 hl1 hC1 => lw_op Z Z Z (ow_box (R := RBox) Z Z (VRep.mono hl1 h1) hC1 fun p2 w2 hp2 hb2 hl2 hC2 => lw_op Z Z Z (ow_assign Z Z (lw_nil (ew_then (cw_seq (cw_seq (cw_region (lw_op Z Z Z (ow_fieldAddr Z Z Tryd.underlying27 Z (Tryd.sizeOf25 _) (lw_op Z Z Z (ow_load (R := (RSlice (RSlice RSpan))) Z Z (ARep.mono hl2 (hp1.fld fld_Box_Sides)) (Tryd.sizeOf25 _) (Tryd.isAgg25 _) fun v1 hv1 => lw_op Z Z Z (ow_len Z Z hv1 Tryd.underlying25 Z (lw_op Z Z Z (ow_fieldAddr Z Z Tryd.underlying27 Z (Tryd.sizeOf25 _) (lw_op Z Z Z (ow_load (R := (RSlice (RSlice RSpan))) Z Z (hp2.fld fld_Box_Sides) (Tryd.sizeOf25 _) (Tryd.isAgg25 _) fun v2 hv2 => lw_op Z Z Z (ow_len Z Z hv2 Tryd.underlying25 Z (lw_op Z Z Z (ow_neqI Z Z Z fun bb1 hbb1 => lw_nil (ew_then ?_))))))))))))))))))))))))
 replace h := cond_some h
 rcases h with ⟨hc1, h⟩ | ⟨hc1, h⟩
 ·
  obtain rfl := hbb1.trans hc1
  refine cw_true Z (cw_seq (cw_region (lw_op Z Z Z (ow_assign Z Z (lw_nil (ew_then (cw_ret (ew_thenR ?_))))))))
  obtain rfl := Option.some.inj h
  exact ew_ret (res1 Z (.tmp Z)) ⟨_, Z, ((vbool _)), hC2.bx⟩
 ·
  obtain rfl := hbb1.trans hc1
  refine cw_false Z (cw_skip (ew_then (cw_seq (cw_seq (cw_region (lw_op Z Z Z (ow_assign Z Z (lw_nil (ew_then ?_)))))))))
  replace h := bind_some h
  obtain ⟨lr1, hlr1, h⟩ := h
  refine cw_for hlr1 (fun s a w' => ∃ (M' : Nat → Prop), Fits 32 [(2, (.pointer (some p1))), (3, (.pointer (some p2))), (5, (.int .i64 s))] a ∧ Le w2 M w' M' ∧ Cx No w M w' M') ?_ ?_ ?_
  ·
   intro a ha
   exact ⟨M, ha.sub ⟨Z, Z, Z, trivial⟩, Le.refl _ _, hC2⟩
  ·
   rintro k1 a w3 sr1 ⟨M1, hF1, hl3, hC3⟩ hb3 hR1
   refine cw_at (E := [(2, (.pointer (some p1))), (3, (.pointer (some p2))), (5, (.int .i64 k1))]) hF1 (cw_seq (cw_seq (cw_region (lw_op Z Z Z (ow_move Z Z (lw_op Z Z Z (ow_fieldAddr Z Z Tryd.underlying27 Z (Tryd.sizeOf25 _) (lw_op Z Z Z (ow_load (R := (RSlice (RSlice RSpan))) Z Z (ARep.mono (hl2.trans hl3) (hp1.fld fld_Box_Sides)) (Tryd.sizeOf25 _) (Tryd.isAgg25 _) fun v4 hv4 => lw_op Z Z Z (ow_len Z Z hv4 Tryd.underlying25 Z (lw_op Z Z Z (ow_lss Z Z Z fun bb2 hbb2 => lw_nil (ew_then ?_)))))))))))))
   replace hb3 := cond_some hb3
   rcases hb3 with ⟨hc2, hb3⟩ | ⟨hc2, hb3⟩
   ·
    obtain rfl := hbb2.trans hc2
    refine cw_true Z (cw_skip (ew_then (cw_seq (cw_block (cw_seq ?_)))))
    replace hb3 := bind_some hb3
    obtain ⟨x1, hx1, hb3⟩ := hb3
    replace hb3 := bind_some hb3
    obtain ⟨x2, hx2, hb3⟩ := hb3
    have hz1 := ((hl1.trans hl2).trans hl3)
    have hz2 := (hl2.trans hl3)
    refine cw_sub (E' := [(2, (.pointer (some p1))), (3, (.pointer (some p2))), (5, (.int .i64 k1))]) ⟨Z, Z, Z, trivial⟩ (cw_drawQ 10 [PA (RSlice (RSlice RSpan)) M1 a_a.Sides, PV (RSlice (RSlice RSpan)) M1 a_a.Sides, PEq (.int .i64 k1), PA (RSlice RSpan) M1 x1, PV (RSlice RSpan) M1 x1, PA (RSlice (RSlice RSpan)) M1 a_b.Sides, PV (RSlice (RSlice RSpan)) M1 a_b.Sides, PEq (.int .i64 k1), PA (RSlice RSpan) M1 x2, PV (RSlice RSpan) M1 x2] (by kernel_rfl) Z (by kernel_rfl) ⟨PA.mono _ _ _, PV.mono _ _ _, PEq.mono _, PA.mono _ _ _, PV.mono _ _ _, PA.mono _ _ _, PV.mono _ _ _, PEq.mono _, PA.mono _ _ _, PV.mono _ _ _, trivial⟩ ⟨?_, ?_, ?_, ?_, ?_, ?_, ?_, ?_, ?_, ?_, trivial⟩ ?_)
    ·
     intro w4 D hS1 hd1
     have hl4 := Le.no M1 hS1
     exact dg_sub (E' := [(2, (.pointer (some p1)))]) ⟨Z, trivial⟩ (dg_plain Z (ow_fieldAddr Z Z Tryd.underlying27 Z (Tryd.sizeOf25 _) ⟨BX.refl _ _, ⟨_, Z, (ARep.mono (hz2.trans hl4) (hp1.fld fld_Box_Sides))⟩⟩))
    ·
     intro w5 D hS2 hd2
     have d1 : PA (RSlice (RSlice RSpan)) M1 a_a.Sides (D 0) w5 := dpA hd2 0 Z
     obtain ⟨p5, e1, ha1⟩ := d1
     exact dg_sub (E' := [(20, (.pointer (some p5)))]) ⟨(congrArg some e1), trivial⟩ (dg_plain Z (ow_load (R := (RSlice (RSlice RSpan))) Z Z ha1 (Tryd.sizeOf25 _) (Tryd.isAgg25 _) fun v9 hv9 => ⟨BX.refl _ _, hv9⟩))
    ·
     intro w6 D hS3 hd3
     exact dg_sub (E' := [(5, (.int .i64 k1))]) ⟨Z, trivial⟩ (dg_plain Z (ow_move Z Z ⟨BX.refl _ _, Z⟩))
    ·
     intro w7 D hS4 hd4
     have d2 : PV (RSlice (RSlice RSpan)) M1 a_a.Sides (D 1) w7 := dpA hd4 1 Z
     generalize hq1 : (D 1) = v10 at d2
     exact dg_sub (E' := [(21, v10), (22, (.int .i64 k1))]) ⟨(congrArg some hq1), (dpE hd4 2 Z Z), trivial⟩ (dg_plain Z (ow_indexSlice (R := (RSlice RSpan)) Z Z Z d2 Tryd.underlying25 (Tryd.sizeOf58 _) hx1 fun p6 hp6 => ⟨BX.refl _ _, ⟨_, Z, hp6⟩⟩))
    ·
     intro w8 D hS5 hd5
     have d4 : PA (RSlice RSpan) M1 x1 (D 3) w8 := dpA hd5 3 Z
     obtain ⟨p7, e2, ha2⟩ := d4
     exact dg_sub (E' := [(23, (.pointer (some p7)))]) ⟨(congrArg some e2), trivial⟩ (dg_plain Z (ow_load (R := (RSlice RSpan)) Z Z ha2 (Tryd.sizeOf58 _) (Tryd.isAgg58 _) fun v11 hv11 => ⟨BX.refl _ _, hv11⟩))
    ·
     intro w9 D hS6 hd6
     have hl9 := Le.no M1 hS6
     exact dg_sub (E' := [(3, (.pointer (some p2)))]) ⟨Z, trivial⟩ (dg_plain Z (ow_fieldAddr Z Z Tryd.underlying27 Z (Tryd.sizeOf25 _) ⟨BX.refl _ _, ⟨_, Z, (ARep.mono (hl3.trans hl9) (hp2.fld fld_Box_Sides))⟩⟩))
    ·
     intro w10 D hS7 hd7
     have d5 : PA (RSlice (RSlice RSpan)) M1 a_b.Sides (D 5) w10 := dpA hd7 5 Z
     obtain ⟨p8, e3, ha3⟩ := d5
     exact dg_sub (E' := [(25, (.pointer (some p8)))]) ⟨(congrArg some e3), trivial⟩ (dg_plain Z (ow_load (R := (RSlice (RSlice RSpan))) Z Z ha3 (Tryd.sizeOf25 _) (Tryd.isAgg25 _) fun v12 hv12 => ⟨BX.refl _ _, hv12⟩))
    ·
     intro w11 D hS8 hd8
     exact dg_sub (E' := [(5, (.int .i64 k1))]) ⟨Z, trivial⟩ (dg_plain Z (ow_move Z Z ⟨BX.refl _ _, Z⟩))
    ·
     intro w12 D hS9 hd9
     have d6 : PV (RSlice (RSlice RSpan)) M1 a_b.Sides (D 6) w12 := dpA hd9 6 Z
     generalize hq2 : (D 6) = v13 at d6
     exact dg_sub (E' := [(26, v13), (27, (.int .i64 k1))]) ⟨(congrArg some hq2), (dpE hd9 7 Z Z), trivial⟩ (dg_plain Z (ow_indexSlice (R := (RSlice RSpan)) Z Z Z d6 Tryd.underlying25 (Tryd.sizeOf58 _) hx2 fun p9 hp9 => ⟨BX.refl _ _, ⟨_, Z, hp9⟩⟩))
    ·
     intro w13 D hS10 hd10
     have d8 : PA (RSlice RSpan) M1 x2 (D 8) w13 := dpA hd10 8 Z
     obtain ⟨p10, e4, ha4⟩ := d8
     exact dg_sub (E' := [(28, (.pointer (some p10)))]) ⟨(congrArg some e4), trivial⟩ (dg_plain Z (ow_load (R := (RSlice RSpan)) Z Z ha4 (Tryd.sizeOf58 _) (Tryd.isAgg58 _) fun v14 hv14 => ⟨BX.refl _ _, hv14⟩))
    ·
     intro w14 D hS11 hd11
     have d13 : PV (RSlice RSpan) M1 x1 (D 4) w14 := dpA hd11 4 Z
     have d18 : PV (RSlice RSpan) M1 x2 (D 9) w14 := dpA hd11 9 Z
     have hl14 := Le.no M1 hS11
     have hC14 := hC3.no hS11
     generalize hq3 : (D 4) = v15 at d13
     generalize hq4 : (D 9) = v16 at d18
     refine lw_sub (E' := [(24, v15), (29, v16), (2, (.pointer (some p1))), (3, (.pointer (some p2))), (5, (.int .i64 k1))]) ⟨(congrArg some hq3), (congrArg some hq4), Z, Z, Z, trivial⟩ ?_
     replace hb3 := bind_some hb3
     obtain ⟨x3, hx3, hb3⟩ := hb3
     refine lw_op Z Z Z (ow_call Z Z Tryd.call58 (w_laws_sameSpans (hG.mono (hz1.trans hl14)) hC14.old d13 d18 hx3) fun v17 w15 hv17 => ?_)
     obtain ⟨hv17, hb4⟩ := hv17
     have hl15 := Le.no M1 hb4
     have hC15 := hC14.no hb4
     obtain rfl := vbool_eq hv17
     refine lw_op Z Z Z (ow_not Z Z (lw_nil (ew_then ?_)))
     replace hb3 := cond_some hb3
     rcases hb3 with ⟨hc3, hb3⟩ | ⟨hc3, hb3⟩
     ·
      subst hc3
      refine cw_false Z (cw_skip (ew_blockN (ew_then (cw_region (lw_op Z Z Z (ow_move Z Z (lw_op Z Z Z (ow_add Z Z Z (lw_op Z Z Z (ow_assign Z Z (lw_nil ?_)))))))))))
      have hz3 := ((hl3.trans hl14).trans hl15)
      exact ew_nxt (W (k1 + 1)) hb3 fun a ha => ⟨M1, (ha.sub ⟨Z, Z, Z, trivial⟩), hz3, hC15⟩
     ·
      subst hc3
      refine cw_true Z (cw_seq (cw_region (lw_op Z Z Z (ow_assign Z Z (lw_nil (ew_then (cw_ret (ew_blockR (ew_thenR (ew_thenR (ew_blockR (ew_brkR (ew_thenR ?_)))))))))))))
      have e5 := hR1 _ (Option.some.inj hb3).symm
      subst e5
      obtain rfl := Option.some.inj h
      exact ew_ret (res1 Z (.tmp Z)) ⟨_, Z, ((vbool _)), hC15.bx⟩
   ·
    obtain rfl := hbb2.trans hc2
    exact cw_false Z (cw_exit (ew_thenX (ew_thenX (ew_blockX (ew_brk k1 hb3 fun a ha => ⟨M1, (ha.sub ⟨Z, Z, Z, trivial⟩), hl3, hC3⟩)))))
  ·
   rintro k2 a w16 hlr2 ⟨M2, hF2, hl16, hC16⟩
   subst hlr2
   refine ew_at (E := [(2, (.pointer (some p1))), (3, (.pointer (some p2))), (5, (.int .i64 k2))]) hF2 (ew_then (cw_seq (cw_region (lw_op Z Z Z (ow_assign Z Z (lw_nil (ew_then (cw_ret ?_))))))))
   obtain rfl := Option.some.inj h
   exact ew_ret (res1 Z (.tmp Z)) ⟨_, Z, ((vbool _)), hC16.bx⟩

theorem w_impl_SpansHave {w : World} {M : Nat → Prop} (_hG : ARep (RArr 4 RShape) w M shapes ⟨0, 0, none⟩) (hO : ∀ b, M b → b < w.heap.size) {v0p : Value} {a_list : List Span} (h0 : VRep (RSlice RSpan) w M a_list v0p) {a_n : Int} {r : Bool} (h : F.impl_SpansHave a_list a_n = some r) :
  Calls Tryd.prog 40 [v0p, (.int .i64 a_n)].toArray w fun e w' => ∃ v, e = .returned v ∧ VRep RBool w' M r v ∧ BX No w w' := by
 have hC : Cx No w M w M := Cx.start hO (fun _ e => e.elim)
 clear _hG
 refine walk (N := 24) Tryd.func40 Z Tryd.ntmps40 Z (cw_seq (cw_region (lw_op Z Z Z (ow_assign Z Z (lw_nil (ew_then (cw_seq (cw_seq (cw_region (lw_op Z Z Z (ow_move Z Z (lw_op Z Z Z (ow_len Z Z h0 Tryd.underlying58 Z (lw_op Z Z Z (ow_move Z Z (lw_nil (ew_then ?_)))))))))))))))))
 replace h := bind_some h
 obtain ⟨lr1, hlr1, h⟩ := h
 refine cw_for hlr1 (fun s a w' => ∃ (M' : Nat → Prop), Fits 24 [(1, (.int .i64 a_n)), (7, v0p), (8, (.int .i64 (a_list.length : Int))), (9, (.int .i64 s))] a ∧ Le w M w' M' ∧ Cx No w M w' M') ?_ ?_ ?_
 ·
  intro a ha
  exact ⟨M, ha.sub ⟨Z, Z, Z, Z, trivial⟩, Le.refl _ _, hC⟩
 ·
  rintro k1 a w1 sr1 ⟨M1, hF1, hl1, hC1⟩ hb1 hR1
  refine cw_at (E := [(1, (.int .i64 a_n)), (7, v0p), (8, (.int .i64 (a_list.length : Int))), (9, (.int .i64 k1))]) hF1 (cw_seq (cw_region (lw_op Z Z Z (ow_lss Z Z Z fun bb1 hbb1 => lw_nil (ew_then (cw_seq ?_))))))
  replace hb1 := cond_some hb1
  rcases hb1 with ⟨hc1, hb1⟩ | ⟨hc1, hb1⟩
  ·
   obtain rfl := hbb1.trans hc1
   refine cw_true Z (cw_skip (ew_then (cw_seq (cw_block (cw_seq (cw_region ?_))))))
   replace hb1 := bind_some hb1
   obtain ⟨x1, hx1, hb1⟩ := hb1
   refine lw_op Z Z Z (ow_indexSlice (R := RSpan) Z Z Z (VRep.mono hl1 h0) Tryd.underlying58 (Tryd.sizeOf76 _) hx1 fun p1 hp1 => lw_op Z Z Z (ow_load (R := RSpan) Z Z hp1 (Tryd.sizeOf76 _) (Tryd.isAgg76 _) fun v2 hv2 => lw_allocStore (R := RSpan) Z Z Z Z Z Z Z Tryd.zeroValue76 Tryd.sizeOf76 Z Z Z (by simp) hv2 hC1 fun p2 w2 hp2 hb2 hl2 hC2 => lw_nil (ew_then (cw_seq (cw_region (lw_op Z Z Z (ow_fieldAddr Z Z Tryd.underlying76 Z (Tryd.sizeOf3 _) (lw_op Z Z Z (ow_load (R := RInt) Z Z (hp2.fld fld_Span_Lo) (Tryd.sizeOf3 _) (Tryd.isAgg3 _) fun v3 hv3 => ?_)))))))))
   obtain rfl := vint_eq hv3
   refine lw_op Z Z Z (ow_move Z Z (lw_op Z Z Z (ow_leq Z Z Z fun bb2 hbb2 => lw_op Z Z Z (ow_move Z Z ?_))))
   replace hb1 := cond_some hb1
   rcases hb1 with ⟨hc2, hb1⟩ | ⟨hc2, hb1⟩
   ·
    obtain rfl := hbb2.trans hc2
    refine lw_on Z Z Z Z Z Z (ow_move Z Z (lw_on Z Z Z Z Z Z (ow_fieldAddr Z Z Tryd.underlying76 Z (Tryd.sizeOf3 _) (lw_on Z Z Z Z Z Z (ow_load (R := RInt) Z Z (hp2.fld fld_Span_Hi) (Tryd.sizeOf3 _) (Tryd.isAgg3 _) fun v4 hv4 => ?_)))))
    obtain rfl := vint_eq hv4
    refine lw_on Z Z Z Z Z Z (ow_leq Z Z Z fun bb3 hbb3 => lw_op Z Z Z (ow_pickT Z Z Z (lw_nil (ew_then ?_))))
    replace hb1 := cond_some hb1
    rcases hb1 with ⟨hc3, hb1⟩ | ⟨hc3, hb1⟩
    ·
     obtain rfl := hbb3.trans hc3
     refine cw_true Z (cw_seq (cw_region (lw_op Z Z Z (ow_assign Z Z (lw_nil (ew_then (cw_ret (ew_blockR (ew_thenR (ew_thenR (ew_blockR (ew_brkR (ew_thenR ?_)))))))))))))
     have e1 := hR1 _ (Option.some.inj hb1).symm
     subst e1
     obtain rfl := Option.some.inj h
     exact ew_ret (res1 Z (.tmp Z)) ⟨_, Z, ((vbool _)), hC2.bx⟩
    ·
     obtain rfl := hbb3.trans hc3
     exact cw_false Z (cw_skip (ew_blockN (ew_then (cw_region (lw_op Z Z Z (ow_add Z Z Z (lw_op Z Z Z (ow_move Z Z (lw_nil (ew_nxt (W (k1 + 1)) hb1 fun a ha => ⟨M1, (ha.sub ⟨Z, Z, Z, Z, trivial⟩), (hl1.trans hl2), hC2⟩))))))))))
   ·
    obtain rfl := hbb2.trans hc2
    exact lw_off Z Z Z Z Z Z (lw_off Z Z Z Z Z Z (lw_off Z Z Z Z Z Z (lw_off Z Z Z Z Z Z (lw_op Z Z Z (ow_pickF Z Z Z (lw_nil (ew_then (cw_false Z (cw_skip (ew_blockN (ew_then (cw_region (lw_op Z Z Z (ow_add Z Z Z (lw_op Z Z Z (ow_move Z Z (lw_nil (ew_nxt (W (k1 + 1)) hb1 fun a ha => ⟨M1, (ha.sub ⟨Z, Z, Z, Z, trivial⟩), (hl1.trans hl2), hC2⟩))))))))))))))))))
  ·
   obtain rfl := hbb1.trans hc1
   exact cw_false Z (cw_exit (ew_thenX (ew_thenX (ew_blockX (ew_brk k1 hb1 fun a ha => ⟨M1, (ha.sub ⟨Z, Z, Z, Z, trivial⟩), hl1, hC1⟩)))))
 ·
  rintro k2 a w3 hlr2 ⟨M2, hF2, hl3, hC3⟩
  subst hlr2
  refine ew_at (E := [(1, (.int .i64 a_n)), (7, v0p), (8, (.int .i64 (a_list.length : Int))), (9, (.int .i64 k2))]) hF2 (ew_then (cw_seq (cw_region (lw_op Z Z Z (ow_assign Z Z (lw_nil (ew_then (cw_ret ?_))))))))
  obtain rfl := Option.some.inj h
  exact ew_ret (res1 Z (.tmp Z)) ⟨_, Z, ((vbool _)), hC3.bx⟩

theorem w_laws_alive {w : World} {M : Nat → Prop} (hG : ARep (RArr 4 RShape) w M shapes ⟨0, 0, none⟩) (hO : ∀ b, M b → b < w.heap.size)  {r : Bool} (h : F.laws_alive = some r) :
  Calls Tryd.prog 19 [].toArray w fun e w' => ∃ v, e = .returned v ∧ VRep RBool w' M r v ∧ BX No w w' := by
 have hC : Cx No w M w M := Cx.start hO (fun _ e => e.elim)
 refine walk (N := 4) Tryd.func19 Z Tryd.ntmps19 Z (cw_seq (cw_region (lw_op Z Z Z (ow_assign Z Z (lw_nil (ew_then (cw_seq (cw_region (lw_op Z Z Z (ow_build (v := .agg #[(.int .i64 2), (.int .i64 4)]) Z Z (by kernel_rfl) ?_))))))))))
 have hw1 : VRep RSpan w M ({ Lo := 2, Hi := 4 } : Span) (.agg #[(.int .i64 2), (.int .i64 4)]) := shut_Span
 refine lw_op Z Z Z (ow_buildSlice (R := RSpan) (xs := [({ Lo := 2, Hi := 4 } : Span)]) (cs := #[(.int .i64 2), (.int .i64 4)]) (e := 76) Z Z (by kernel_rfl) Z Z ⟨_, _, Z, hw1.cells, Z⟩ hC fun p1 w1 hw2 hb1 hl1 hC1 => ?_)
 replace h := bind_some h
 obtain ⟨x1, hx1, h⟩ := h
 refine lw_op Z Z Z (ow_call Z Z Tryd.call40 (w_impl_SpansHave (hG.mono hl1) hC1.old hw2 hx1) fun v1 w2 hv1 => ?_)
 obtain ⟨hv1, hb2⟩ := hv1
 have hC2 := hC1.no hb2
 obtain rfl := vbool_eq hv1
 refine lw_op Z Z Z (ow_assign Z Z (lw_nil (ew_then (cw_ret ?_))))
 obtain rfl := Option.some.inj h
 exact ew_ret (res1 Z (.tmp Z)) ⟨_, Z, ((vbool _)), hC2.bx⟩

theorem w_impl_topValid {w : World} {M : Nat → Prop} (_hG : ARep (RArr 4 RShape) w M shapes ⟨0, 0, none⟩) (hO : ∀ b, M b → b < w.heap.size) {a_top : Int} {r : Bool} (h : F.impl_topValid a_top = some r) :
  Calls Tryd.prog 101 [(.int .i64 a_top)].toArray w fun e w' => ∃ v, e = .returned v ∧ VRep RBool w' M r v ∧ BX No w w' := by
 have hC : Cx No w M w M := Cx.start hO (fun _ e => e.elim)
 clear _hG
 refine walk (N := 9) Tryd.func101 Z Tryd.ntmps101 Z (cw_seq (cw_region (lw_op Z Z Z (ow_assign Z Z (lw_nil (ew_then (cw_seq (cw_region (lw_op Z Z Z (ow_move Z Z (lw_op Z Z Z (ow_geq Z Z Z fun bb1 hbb1 => lw_op Z Z Z (ow_move Z Z ?_)))))))))))))
 replace h := cond_some h
 rcases h with ⟨hc1, h⟩ | ⟨hc1, h⟩
 ·
  obtain rfl := hbb1.trans hc1
  refine lw_on Z Z Z Z Z Z (ow_move Z Z (lw_on Z Z Z Z Z Z (ow_leq Z Z Z fun bb2 hbb2 => lw_op Z Z Z (ow_pickT Z Z Z (lw_op Z Z Z (ow_assign Z Z (lw_nil (ew_then (cw_ret ?_)))))))))
  obtain rfl := Option.some.inj h
  exact ew_ret (res1 Z (.tmp Z)) ⟨_, Z, ((vbool_of hbb2)), hC.bx⟩
 ·
  obtain rfl := hbb1.trans hc1
  refine lw_off Z Z Z Z Z Z (lw_off Z Z Z Z Z Z (lw_op Z Z Z (ow_pickF Z Z Z (lw_op Z Z Z (ow_assign Z Z (lw_nil (ew_then (cw_ret ?_))))))))
  obtain rfl := Option.some.inj h
  exact ew_ret (res1 Z (.tmp Z)) ⟨_, Z, ((vbool _)), hC.bx⟩

theorem w_impl_SpansValid {w : World} {M : Nat → Prop} (hG : ARep (RArr 4 RShape) w M shapes ⟨0, 0, none⟩) (hO : ∀ b, M b → b < w.heap.size) {v0p : Value} {a_list : List Span} (h0 : VRep (RSlice RSpan) w M a_list v0p) {a_top : Int} {r : Bool} (h : F.impl_SpansValid a_list a_top = some r) :
  Calls Tryd.prog 68 [v0p, (.int .i64 a_top)].toArray w fun e w' => ∃ v, e = .returned v ∧ VRep RBool w' M r v ∧ BX No w w' := by
 have hC : Cx No w M w M := Cx.start hO (fun _ e => e.elim)
 refine walk (N := 43) Tryd.func68 Z Tryd.ntmps68 Z (cw_seq (cw_region (lw_op Z Z Z (ow_assign Z Z (lw_nil (ew_then (cw_seq (cw_seq (cw_region (lw_op Z Z Z (ow_move Z Z ?_)))))))))))
 replace h := bind_some h
 obtain ⟨x1, hx1, h⟩ := h
 refine lw_op Z Z Z (ow_call Z Z Tryd.call101 (w_impl_topValid hG hC.old hx1) fun v1 w1 hv1 => ?_)
 obtain ⟨hv1, hb1⟩ := hv1
 have hl1 := Le.no M hb1
 have hC1 := hC.no hb1
 obtain rfl := vbool_eq hv1
 refine lw_op Z Z Z (ow_not Z Z (lw_op Z Z Z (ow_move Z Z ?_)))
 replace h := cond_some h
 rcases h with ⟨hc1, h⟩ | ⟨hc1, h⟩
 ·
  subst hc1
  refine lw_on Z Z Z Z Z Z (ow_move Z Z (lw_on Z Z Z Z Z Z (ow_len Z Z (VRep.mono hl1 h0) Tryd.underlying58 Z (lw_on Z Z Z Z Z Z (ow_gtr Z Z Z fun bb1 hbb1 => lw_op Z Z Z (ow_pickF Z Z Z (lw_nil (ew_then ?_))))))))
  replace h := cond_some h
  rcases h with ⟨hc2, h⟩ | ⟨hc2, h⟩
  ·
   obtain rfl := hbb1.trans hc2
   refine cw_true Z (cw_seq (cw_region (lw_op Z Z Z (ow_assign Z Z (lw_nil (ew_then (cw_ret (ew_thenR ?_))))))))
   obtain rfl := Option.some.inj h
   exact ew_ret (res1 Z (.tmp Z)) ⟨_, Z, ((vbool _)), hC1.bx⟩
  ·
   obtain rfl := hbb1.trans hc2
   refine cw_false Z (cw_skip (ew_then (cw_seq (cw_region (lw_op Z Z Z (ow_assign Z Z (lw_nil (ew_then (cw_seq (cw_seq (cw_region (lw_op Z Z Z (ow_move Z Z (lw_op Z Z Z (ow_len Z Z (VRep.mono hl1 h0) Tryd.underlying58 Z (lw_op Z Z Z (ow_move Z Z (lw_nil (ew_then ?_)))))))))))))))))))
   replace h := bind_some h
   obtain ⟨lr1, hlr1, h⟩ := h
   refine cw_for hlr1 (fun s a w' => ∃ (M' : Nat → Prop), Fits 43 [(1, (.int .i64 a_top)), (5, (.int .i64 s.1)), (16, v0p), (17, (.int .i64 (a_list.length : Int))), (18, (.int .i64 s.2))] a ∧ Le w1 M w' M' ∧ Cx No w M w' M') ?_ ?_ ?_
   ·
    intro a ha
    exact ⟨M, ha.sub ⟨Z, Z, Z, Z, Z, trivial⟩, Le.refl _ _, hC1⟩
   ·
    rintro ⟨k1, k2⟩ a w2 sr1 ⟨M1, hF1, hl2, hC2⟩ hb2 hR1
    refine cw_at (E := [(1, (.int .i64 a_top)), (5, (.int .i64 k1)), (16, v0p), (17, (.int .i64 (a_list.length : Int))), (18, (.int .i64 k2))]) hF1 (cw_seq (cw_region (lw_op Z Z Z (ow_lss Z Z Z fun bb2 hbb2 => lw_nil (ew_then (cw_seq ?_))))))
    replace hb2 := cond_some hb2
    rcases hb2 with ⟨hc3, hb2⟩ | ⟨hc3, hb2⟩
    ·
     obtain rfl := hbb2.trans hc3
     refine cw_true Z (cw_skip (ew_then (cw_seq (cw_block (cw_seq (cw_region ?_))))))
     replace hb2 := bind_some hb2
     obtain ⟨x2, hx2, hb2⟩ := hb2
     refine lw_op Z Z Z (ow_indexSlice (R := RSpan) Z Z Z (VRep.mono (hl1.trans hl2) h0) Tryd.underlying58 (Tryd.sizeOf76 _) hx2 fun p1 hp1 => lw_op Z Z Z (ow_load (R := RSpan) Z Z hp1 (Tryd.sizeOf76 _) (Tryd.isAgg76 _) fun v4 hv4 => lw_allocStore (R := RSpan) Z Z Z Z Z Z Z Tryd.zeroValue76 Tryd.sizeOf76 Z Z Z (by simp) hv4 hC2 fun p2 w3 hp2 hb3 hl3 hC3 => lw_nil (ew_then (cw_seq (cw_seq (cw_region (lw_op Z Z Z (ow_fieldAddr Z Z Tryd.underlying76 Z (Tryd.sizeOf3 _) (lw_op Z Z Z (ow_load (R := RInt) Z Z (hp2.fld fld_Span_Lo) (Tryd.sizeOf3 _) (Tryd.isAgg3 _) fun v5 hv5 => ?_))))))))))
     obtain rfl := vint_eq hv5
     refine lw_op Z Z Z (ow_move Z Z (lw_op Z Z Z (ow_add Z Z Z (lw_op Z Z Z (ow_leq Z Z Z fun bb3 hbb3 => lw_op Z Z Z (ow_move Z Z ?_))))))
     replace hb2 := cond_some hb2
     rcases hb2 with ⟨hc4, hb2⟩ | ⟨hc4, hb2⟩
     ·
      obtain rfl := hbb3.trans hc4
      refine lw_off Z Z Z Z Z Z (lw_off Z Z Z Z Z Z (lw_off Z Z Z Z Z Z (lw_off Z Z Z Z Z Z (lw_off Z Z Z Z Z Z (lw_op Z Z Z (ow_pickT Z Z Z (lw_op Z Z Z (ow_move Z Z (lw_off Z Z Z Z Z Z (lw_off Z Z Z Z Z Z (lw_off Z Z Z Z Z Z (lw_off Z Z Z Z Z Z (lw_op Z Z Z (ow_pickT Z Z Z (lw_nil (ew_then (cw_true Z (cw_seq (cw_region (lw_op Z Z Z (ow_assign Z Z (lw_nil (ew_then (cw_ret (ew_thenR (ew_blockR (ew_thenR (ew_thenR ?_))))))))))))))))))))))))))))
      refine ew_blockR (ew_brkR (ew_thenR ?_))
      have e1 := hR1 _ (Option.some.inj hb2).symm
      subst e1
      obtain rfl := Option.some.inj h
      exact ew_ret (res1 Z (.tmp Z)) ⟨_, Z, ((vbool _)), hC3.bx⟩
     ·
      obtain rfl := hbb3.trans hc4
      refine lw_on Z Z Z Z Z Z (ow_fieldAddr Z Z Tryd.underlying76 Z (Tryd.sizeOf3 _) (lw_on Z Z Z Z Z Z (ow_load (R := RInt) Z Z (hp2.fld fld_Span_Lo) (Tryd.sizeOf3 _) (Tryd.isAgg3 _) fun v6 hv6 => ?_)))
      obtain rfl := vint_eq hv6
      refine lw_on Z Z Z Z Z Z (ow_fieldAddr Z Z Tryd.underlying76 Z (Tryd.sizeOf3 _) (lw_on Z Z Z Z Z Z (ow_load (R := RInt) Z Z (hp2.fld fld_Span_Hi) (Tryd.sizeOf3 _) (Tryd.isAgg3 _) fun v7 hv7 => ?_)))
      obtain rfl := vint_eq hv7
      refine lw_on Z Z Z Z Z Z (ow_gtr Z Z Z fun bb4 hbb4 => lw_op Z Z Z (ow_pickF Z Z Z (lw_op Z Z Z (ow_move Z Z ?_))))
      replace hb2 := cond_some hb2
      rcases hb2 with ⟨hc5, hb2⟩ | ⟨hc5, hb2⟩
      ·
       obtain rfl := hbb4.trans hc5
       refine lw_off Z Z Z Z Z Z (lw_off Z Z Z Z Z Z (lw_off Z Z Z Z Z Z (lw_off Z Z Z Z Z Z (lw_op Z Z Z (ow_pickT Z Z Z (lw_nil (ew_then (cw_true Z (cw_seq (cw_region (lw_op Z Z Z (ow_assign Z Z (lw_nil (ew_then (cw_ret (ew_thenR (ew_blockR (ew_thenR (ew_thenR (ew_blockR (ew_brkR (ew_thenR ?_))))))))))))))))))))))
       have e2 := hR1 _ (Option.some.inj hb2).symm
       subst e2
       obtain rfl := Option.some.inj h
       exact ew_ret (res1 Z (.tmp Z)) ⟨_, Z, ((vbool _)), hC3.bx⟩
      ·
       obtain rfl := hbb4.trans hc5
       refine lw_on Z Z Z Z Z Z (ow_fieldAddr Z Z Tryd.underlying76 Z (Tryd.sizeOf3 _) (lw_on Z Z Z Z Z Z (ow_load (R := RInt) Z Z (hp2.fld fld_Span_Hi) (Tryd.sizeOf3 _) (Tryd.isAgg3 _) fun v8 hv8 => ?_)))
       obtain rfl := vint_eq hv8
       refine lw_on Z Z Z Z Z Z (ow_move Z Z (lw_on Z Z Z Z Z Z (ow_gtr Z Z Z fun bb5 hbb5 => lw_op Z Z Z (ow_pickF Z Z Z (lw_nil (ew_then ?_))))))
       replace hb2 := cond_some hb2
       rcases hb2 with ⟨hc6, hb2⟩ | ⟨hc6, hb2⟩
       ·
        obtain rfl := hbb5.trans hc6
        refine cw_true Z (cw_seq (cw_region (lw_op Z Z Z (ow_assign Z Z (lw_nil (ew_then (cw_ret (ew_thenR (ew_blockR (ew_thenR (ew_thenR (ew_blockR (ew_brkR (ew_thenR ?_))))))))))))))
        have e3 := hR1 _ (Option.some.inj hb2).symm
        subst e3
        obtain rfl := Option.some.inj h
        exact ew_ret (res1 Z (.tmp Z)) ⟨_, Z, ((vbool _)), hC3.bx⟩
       ·
        obtain rfl := hbb5.trans hc6
        refine cw_false Z (cw_skip (ew_then (cw_region (lw_op Z Z Z (ow_fieldAddr Z Z Tryd.underlying76 Z (Tryd.sizeOf3 _) (lw_op Z Z Z (ow_load (R := RInt) Z Z (hp2.fld fld_Span_Hi) (Tryd.sizeOf3 _) (Tryd.isAgg3 _) fun v9 hv9 => ?_)))))))
        obtain rfl := vint_eq hv9
        exact lw_op Z Z Z (ow_assign Z Z (lw_nil (ew_blockN (ew_then (cw_region (lw_op Z Z Z (ow_add Z Z Z (lw_op Z Z Z (ow_move Z Z (lw_nil (ew_nxt (x2.Hi, (W (k2 + 1))) hb2 fun a ha => ⟨M1, (ha.sub ⟨Z, Z, Z, Z, Z, trivial⟩), (hl2.trans hl3), hC3⟩)))))))))))
    ·
     obtain rfl := hbb2.trans hc3
     exact cw_false Z (cw_exit (ew_thenX (ew_thenX (ew_blockX (ew_brk (k1, k2) hb2 fun a ha => ⟨M1, (ha.sub ⟨Z, Z, Z, Z, Z, trivial⟩), hl2, hC2⟩)))))
   ·
    rintro ⟨k3, k4⟩ a w4 hlr2 ⟨M2, hF2, hl4, hC4⟩
    subst hlr2
    refine ew_at (E := [(1, (.int .i64 a_top)), (5, (.int .i64 k3)), (16, v0p), (17, (.int .i64 (a_list.length : Int))), (18, (.int .i64 k4))]) hF2 (ew_then (cw_seq (cw_region (lw_op Z Z Z (ow_assign Z Z (lw_nil (ew_then (cw_ret ?_))))))))
    obtain rfl := Option.some.inj h
    exact ew_ret (res1 Z (.tmp Z)) ⟨_, Z, ((vbool _)), hC4.bx⟩
 ·
  subst hc1
  refine lw_off Z Z Z Z Z Z (lw_off Z Z Z Z Z Z (lw_off Z Z Z Z Z Z (lw_op Z Z Z (ow_pickT Z Z Z (lw_nil (ew_then (cw_true Z (cw_seq (cw_region (lw_op Z Z Z (ow_assign Z Z (lw_nil (ew_then (cw_ret (ew_thenR ?_)))))))))))))))
  obtain rfl := Option.some.inj h
  exact ew_ret (res1 Z (.tmp Z)) ⟨_, Z, ((vbool _)), hC1.bx⟩

theorem w_impl_FieldTop {w : World} {M : Nat → Prop} (hG : ARep (RArr 4 RShape) w M shapes ⟨0, 0, none⟩) (hO : ∀ b, M b → b < w.heap.size) {a_n : Int} {r : Int} (h : F.impl_FieldTop a_n = some r) :
  Calls Tryd.prog 69 [(.int .i64 a_n)].toArray w fun e w' => ∃ v, e = .returned v ∧ VRep RInt w' M r v ∧ BX No w w' := by
 have hC : Cx No w M w M := Cx.start hO (fun _ e => e.elim)
 refine walk (N := 13) Tryd.func69 Z Tryd.ntmps69 Z (cw_seq (cw_region (lw_op Z Z Z (ow_assign Z Z (lw_nil (ew_then (cw_seq (cw_seq (cw_region (lw_op Z Z Z (ow_move Z Z (lw_op Z Z Z (ow_lss Z Z Z fun bb1 hbb1 => lw_op Z Z Z (ow_move Z Z ?_))))))))))))))
 replace h := cond_some h
 rcases h with ⟨hc1, h⟩ | ⟨hc1, h⟩
 ·
  obtain rfl := hbb1.trans hc1
  refine lw_off Z Z Z Z Z Z (lw_off Z Z Z Z Z Z (lw_op Z Z Z (ow_pickT Z Z Z (lw_nil (ew_then (cw_true Z (cw_seq (cw_region (lw_op Z Z Z (ow_assign Z Z (lw_nil (ew_then (cw_ret (ew_thenR ?_))))))))))))))
  obtain rfl := Option.some.inj h
  exact ew_ret (res1 Z (.tmp Z)) ⟨_, Z, ((vint _)), hC.bx⟩
 ·
  obtain rfl := hbb1.trans hc1
  refine lw_on Z Z Z Z Z Z (ow_move Z Z (lw_on Z Z Z Z Z Z (ow_geq Z Z Z fun bb2 hbb2 => lw_op Z Z Z (ow_pickF Z Z Z (lw_nil (ew_then ?_))))))
  replace h := cond_some h
  rcases h with ⟨hc2, h⟩ | ⟨hc2, h⟩
  ·
   obtain rfl := hbb2.trans hc2
   refine cw_true Z (cw_seq (cw_region (lw_op Z Z Z (ow_assign Z Z (lw_nil (ew_then (cw_ret (ew_thenR ?_))))))))
   obtain rfl := Option.some.inj h
   exact ew_ret (res1 Z (.tmp Z)) ⟨_, Z, ((vint _)), hC.bx⟩
  ·
   obtain rfl := hbb2.trans hc2
   refine cw_false Z (cw_skip (ew_then (cw_seq (cw_region (lw_op Z Z Z (ow_move Z Z ?_))))))
   replace h := bind_some h
   obtain ⟨x1, hx1, h⟩ := h
   refine lw_op Z Z Z (ow_indexArr (R := RShape) Z Z Z hG Tryd.underlying109 (Tryd.sizeOf108 _) hx1 fun p1 hp1 => lw_op Z Z Z (ow_fieldAddr Z Z Tryd.underlying108 Z (Tryd.sizeOf3 _) (lw_op Z Z Z (ow_load (R := RInt) Z Z (hp1.fld fld_Shape_top) (Tryd.sizeOf3 _) (Tryd.isAgg3 _) fun v1 hv1 => ?_))))
   obtain rfl := vint_eq hv1
   refine lw_op Z Z Z (ow_assign Z Z (lw_nil (ew_then (cw_ret ?_))))
   obtain rfl := Option.some.inj h
   exact ew_ret (res1 Z (.tmp Z)) ⟨_, Z, ((vint _)), hC.bx⟩

theorem w_impl_BoxValid {w : World} {M : Nat → Prop} (hG : ARep (RArr 4 RShape) w M shapes ⟨0, 0, none⟩) (hO : ∀ b, M b → b < w.heap.size) {v0p : Value} {a_b : Box} (h0 : VRep RBox w M a_b v0p) {r : Bool} (h : F.impl_BoxValid a_b = some r) :
  Calls Tryd.prog 30 [v0p].toArray w fun e w' => ∃ v, e = .returned v ∧ VRep RBool w' M r v ∧ BX No w w' := by
 have hC : Cx No w M w M := Cx.start hO (fun _ e => e.elim)
 refine walk (N := 23) Tryd.func30 Z Tryd.ntmps30 Z (cw_seq (cw_region (lw_op Z Z Z (ow_box (R := RBox) Z Z h0 hC fun p1 w1 hp1 hb1 hl1 hC1 => lw_op Z Z Z (ow_assign Z Z (lw_nil (ew_then (cw_seq (cw_seq (cw_region (lw_op Z Z Z (ow_fieldAddr Z Z Tryd.underlying27 Z (Tryd.sizeOf25 _) (lw_op Z Z Z (ow_load (R := (RSlice (RSlice RSpan))) Z Z (hp1.fld fld_Box_Sides) (Tryd.sizeOf25 _) (Tryd.isAgg25 _) fun v1 hv1 => lw_op Z Z Z (ow_len Z Z hv1 Tryd.underlying25 Z (lw_op Z Z Z (ow_neqI Z Z Z fun bb1 hbb1 => lw_nil (ew_then ?_))))))))))))))))))
 replace h := cond_some h
 rcases h with ⟨hc1, h⟩ | ⟨hc1, h⟩
 ·
  obtain rfl := hbb1.trans hc1
  refine cw_true Z (cw_seq (cw_region (lw_op Z Z Z (ow_assign Z Z (lw_nil (ew_then (cw_ret (ew_thenR ?_))))))))
  obtain rfl := Option.some.inj h
  exact ew_ret (res1 Z (.tmp Z)) ⟨_, Z, ((vbool _)), hC1.bx⟩
 ·
  obtain rfl := hbb1.trans hc1
  refine cw_false Z (cw_skip (ew_then (cw_seq (cw_seq (cw_region (lw_op Z Z Z (ow_fieldAddr Z Z Tryd.underlying27 Z (Tryd.sizeOf25 _) (lw_op Z Z Z (ow_load (R := (RSlice (RSlice RSpan))) Z Z (hp1.fld fld_Box_Sides) (Tryd.sizeOf25 _) (Tryd.isAgg25 _) fun v2 hv2 => lw_op Z Z Z (ow_len Z Z hv2 Tryd.underlying25 Z (lw_op Z Z Z (ow_move Z Z (lw_nil (ew_then ?_))))))))))))))
  replace h := bind_some h
  obtain ⟨lr1, hlr1, h⟩ := h
  refine cw_for hlr1 (fun s a w' => ∃ (M' : Nat → Prop), Fits 23 [(10, v2), (11, (.int .i64 (a_b.Sides.length : Int))), (12, (.int .i64 s))] a ∧ Le w1 M w' M' ∧ Cx No w M w' M') ?_ ?_ ?_
  ·
   intro a ha
   exact ⟨M, ha.sub ⟨Z, Z, Z, trivial⟩, Le.refl _ _, hC1⟩
  ·
   rintro k1 a w2 sr1 ⟨M1, hF1, hl2, hC2⟩ hb2 hR1
   refine cw_at (E := [(10, v2), (11, (.int .i64 (a_b.Sides.length : Int))), (12, (.int .i64 k1))]) hF1 (cw_seq (cw_region (lw_op Z Z Z (ow_lss Z Z Z fun bb2 hbb2 => lw_nil (ew_then (cw_seq ?_))))))
   replace hb2 := cond_some hb2
   rcases hb2 with ⟨hc2, hb2⟩ | ⟨hc2, hb2⟩
   ·
    obtain rfl := hbb2.trans hc2
    refine cw_true Z (cw_skip (ew_then (cw_seq (cw_block (cw_seq (cw_region (lw_op Z Z Z (ow_move Z Z ?_))))))))
    replace hb2 := bind_some hb2
    obtain ⟨x1, hx1, hb2⟩ := hb2
    refine lw_op Z Z Z (ow_indexSlice (R := (RSlice RSpan)) Z Z Z (VRep.mono hl2 hv2) Tryd.underlying25 (Tryd.sizeOf58 _) hx1 fun p2 hp2 => lw_op Z Z Z (ow_load (R := (RSlice RSpan)) Z Z hp2 (Tryd.sizeOf58 _) (Tryd.isAgg58 _) fun v4 hv4 => lw_op Z Z Z (ow_assign Z Z (lw_op Z Z Z (ow_assign Z Z (lw_nil (ew_then (cw_seq (cw_region (lw_op Z Z Z (ow_move Z Z (lw_op Z Z Z (ow_move Z Z ?_)))))))))))))
    replace hb2 := bind_some hb2
    obtain ⟨x2, hx2, hb2⟩ := hb2
    refine lw_op Z Z Z (ow_call Z Z Tryd.call69 (w_impl_FieldTop (hG.mono (hl1.trans hl2)) hC2.old hx2) fun v5 w3 hv5 => ?_)
    obtain ⟨hv5, hb3⟩ := hv5
    have hl3 := Le.no M1 hb3
    have hC3 := hC2.no hb3
    obtain rfl := vint_eq hv5
    replace hb2 := bind_some hb2
    obtain ⟨x3, hx3, hb2⟩ := hb2
    have hz1 := ((hl1.trans hl2).trans hl3)
    refine lw_op Z Z Z (ow_call Z Z Tryd.call68 (w_impl_SpansValid (hG.mono hz1) hC3.old (VRep.mono hl3 hv4) hx3) fun v6 w4 hv6 => ?_)
    obtain ⟨hv6, hb4⟩ := hv6
    have hl4 := Le.no M1 hb4
    have hC4 := hC3.no hb4
    obtain rfl := vbool_eq hv6
    refine lw_op Z Z Z (ow_not Z Z (lw_nil (ew_then ?_)))
    replace hb2 := cond_some hb2
    rcases hb2 with ⟨hc3, hb2⟩ | ⟨hc3, hb2⟩
    ·
     subst hc3
     refine cw_false Z (cw_skip (ew_blockN (ew_then (cw_region (lw_op Z Z Z (ow_add Z Z Z (lw_op Z Z Z (ow_move Z Z (lw_nil ?_)))))))))
     have hz2 := ((hl2.trans hl3).trans hl4)
     exact ew_nxt (W (k1 + 1)) hb2 fun a ha => ⟨M1, (ha.sub ⟨Z, Z, Z, trivial⟩), hz2, hC4⟩
    ·
     subst hc3
     refine cw_true Z (cw_seq (cw_region (lw_op Z Z Z (ow_assign Z Z (lw_nil (ew_then (cw_ret (ew_blockR (ew_thenR (ew_thenR (ew_blockR (ew_brkR (ew_thenR ?_)))))))))))))
     have e1 := hR1 _ (Option.some.inj hb2).symm
     subst e1
     obtain rfl := Option.some.inj h
     exact ew_ret (res1 Z (.tmp Z)) ⟨_, Z, ((vbool _)), hC4.bx⟩
   ·
    obtain rfl := hbb2.trans hc2
    exact cw_false Z (cw_exit (ew_thenX (ew_thenX (ew_blockX (ew_brk k1 hb2 fun a ha => ⟨M1, (ha.sub ⟨Z, Z, Z, trivial⟩), hl2, hC2⟩)))))
  ·
   rintro k2 a w5 hlr2 ⟨M2, hF2, hl5, hC5⟩
   subst hlr2
   refine ew_at (E := [(10, v2), (11, (.int .i64 (a_b.Sides.length : Int))), (12, (.int .i64 k2))]) hF2 (ew_then (cw_seq (cw_region (lw_op Z Z Z (ow_assign Z Z (lw_nil (ew_then (cw_ret ?_))))))))
   obtain rfl := Option.some.inj h
   exact ew_ret (res1 Z (.tmp Z)) ⟨_, Z, ((vbool _)), hC5.bx⟩

theorem w_impl_sides_box {w : World} {M : Nat → Prop} (_hG : ARep (RArr 4 RShape) w M shapes ⟨0, 0, none⟩) (hO : ∀ b, M b → b < w.heap.size) {v0p : Value} {a_s : List (List Span)} (h0 : VRep (RArr 4 (RSlice RSpan)) w M a_s v0p) {r : Box} (h : F.impl_sides_box a_s = some r) :
  Calls Tryd.prog 57 [v0p].toArray w fun e w' => ∃ v, e = .returned v ∧ VRep RBox w' M r v ∧ BX No w w' := by
 obtain ⟨i58, hi58, hz58, hs58, hy58⟩ := info58
 obtain ⟨i76, hi76, hz76, hs76, hy76⟩ := info76
 have hC : Cx No w M w M := Cx.start hO (fun _ e => e.elim)
 clear _hG
 refine walk (N := 21) Tryd.func57 Z Tryd.ntmps57 Z (cw_seq (cw_region (lw_op Z Z Z (ow_box (R := (RArr 4 (RSlice RSpan))) Z Z h0 hC fun p1 w1 hp1 hb1 hl1 hC1 => lw_op Z Z Z (ow_alloc Z (Tryd.zeroValue27 _) hC1 fun g1 w2 hg1 hg2 ho1 hb2 hl2 hC2 => ?_)))))
 have hm1 : (Add g1 M) g1 := .inl Z
 refine lw_nil (ew_then (cw_seq (cw_region ?_)))
 replace h := bind_some h
 obtain ⟨mk1, hmk1, h⟩ := h
 refine lw_op Z Z Z (ow_make (R := (RSlice RSpan)) Z Z Z Tryd.underlying25 hi58 hz58 hs58 hy58 Z Z vslice_nil hmk1 hC2 fun v1 w3 M1 hr1 hb3 hl3 hC3 hM1 hat1 => ?_)
 have ho2 := ho1.no hb3
 have hm2 := hM1 _ hm1
 obtain ⟨A1, c1, rfl⟩ := hr1.len
 refine lw_op Z Z Z (ow_build (v := .agg #[(.slice A1 mk1.length c1)]) Z Z (by kernel_rfl) (lw_op Z Z Z (ow_alloc Z (Tryd.zeroValue27 _) hC3 fun g2 w4 hg3 hg4 ho3 hb4 hl4 hC4 => ?_)))
 have hn1 := Nat.ne_of_lt (Nat.lt_of_lt_of_le ho2.lt hg3)
 have ho4 := ho2.no hb4
 have hm3 : (Add g2 M1) g1 := .inr hm2
 have hr2 := hr1.add hb4 hg3
 have hm4 : (Add g2 M1) g2 := .inl Z
 refine lw_op0 Z Z (ow_store (X := No) (us := [(.slice A1 mk1.length c1)]) (cs' := #[(.slice A1 mk1.length c1)]) Z Z Z Z ho3 (Tryd.sizeOf27 _) Z Z Z Z hm4 (.inl hg4) Z hC4 fun w5 ho5 hb5 hl5 hC5 => ?_)
 have ho6 := ho4.go hb5 (fun e => hn1 e)
 have hr3 := hr2.go hb5 (fun k hk e => (orow_ne hr2 ho3 (by decide)) (hk.trans (congrArg some e))) hl5 (fun _ h => h)
 refine lw_nil (ew_then (cw_seq (cw_seq (cw_region ?_))))
 have hz1 := (((hl2.trans hl3).trans hl4).trans hl5)
 refine lw_op Z Z Z (ow_load (R := (RArr 4 (RSlice RSpan))) Z Z (ARep.mono hz1 hp1) (Tryd.sizeOf69 _) (Tryd.isAgg69 _) fun v2 hv2 => lw_op Z Z Z (ow_move Z Z (lw_nil (ew_then ?_))))
 replace h := bind_some h
 obtain ⟨lr1, hlr1, h⟩ := h
 refine cw_for hlr1 (fun s a w' => ∃ (M' : Nat → Prop), Fits 21 [(2, (.pointer (some ⟨g1, 0, none⟩))), (3, (.pointer (some ⟨g2, 0, none⟩))), (8, v2), (9, (.int .i64 s.1))] a ∧ Le w5 (Add g2 M1) w' M' ∧ Cx No w M w' M' ∧ OwnRow (RSlice RSpan) w.heap.size 58 w' M' s.2 (.slice A1 mk1.length c1) ∧ Own w' g1 27 #[(.slice none 0 0)] ∧ M' g1 ∧ Own w' g2 27 #[(.slice A1 mk1.length c1)] ∧ M' g2) ?_ ?_ ?_
 ·
  intro a ha
  exact ⟨(Add g2 M1), ha.sub ⟨Z, Z, Z, Z, trivial⟩, Le.refl _ _, hC5, hr3, ho6, hm3, ho5, hm4⟩
 ·
  rintro ⟨k1, y1⟩ a w6 sr1 ⟨M2, hF1, hl6, hC6, hw1, ho7, hm5, ho8, hm6⟩ hb6 hR1
  refine cw_at (E := [(2, (.pointer (some ⟨g1, 0, none⟩))), (3, (.pointer (some ⟨g2, 0, none⟩))), (8, v2), (9, (.int .i64 k1))]) hF1 (cw_seq (cw_region (lw_op Z Z Z (ow_lss Z Z Z fun bb1 hbb1 => lw_nil (ew_then (cw_seq ?_))))))
  replace hb6 := cond_some hb6
  rcases hb6 with ⟨hc1, hb6⟩ | ⟨hc1, hb6⟩
  ·
   obtain rfl := hbb1.trans hc1
   refine cw_true Z (cw_skip (ew_then (cw_seq (cw_block (cw_seq (cw_region (lw_op Z Z Z (ow_move Z Z ?_))))))))
   replace hb6 := bind_some hb6
   obtain ⟨x1, hx1, hb6⟩ := hb6
   refine lw_op Z Z Z (ow_index (R := (RSlice RSpan)) Z Z Z (VRep.mono hl6 hv2) Tryd.underlying69 (Tryd.sizeOf58 _) (Tryd.isAgg58 _) hx1 fun v5 hv5 => lw_op Z Z Z (ow_assign Z Z (lw_op Z Z Z (ow_assign Z Z (lw_nil (ew_then ?_))))))
   replace hb6 := bind_some hb6
   obtain ⟨z1, hz1, hb6⟩ := hb6
   refine cw_sub (E' := [(2, (.pointer (some ⟨g1, 0, none⟩))), (3, (.pointer (some ⟨g2, 0, none⟩))), (4, (.int .i64 k1)), (5, v5), (8, v2), (9, (.int .i64 k1))]) ⟨Z, Z, Z, Z, Z, Z, trivial⟩ (cw_drawQ 5 [PEq (.pointer (some ⟨g2, 0, none⟩)), PEq (.slice A1 mk1.length c1), PEq (.int .i64 k1), PV (RSlice RSpan) M2 x1, PV (RSlice RSpan) M2 z1] (by kernel_rfl) Z (by kernel_rfl) ⟨PEq.mono _, PEq.mono _, PEq.mono _, PV.mono _ _ _, PV.mono _ _ _, trivial⟩ ⟨?_, ?_, ?_, ?_, ?_, trivial⟩ ?_)
   ·
    intro w8 D hS1 hd1
    exact dg_sub (E' := [(3, (.pointer (some ⟨g2, 0, none⟩)))]) ⟨Z, trivial⟩ (dg_plain Z (ow_fieldAddr Z Z Tryd.underlying27 Z (Tryd.sizeOf25 _) ⟨BX.refl _ _, Z⟩))
   ·
    intro w9 D hS2 hd2
    have ho14 := ho8.no hS2
    exact dg_sub (E' := [(13, (.pointer (some ⟨g2, 0, none⟩)))]) ⟨(dpE hd2 0 Z Z), trivial⟩ (dg_plain Z (ow_loadOwn1 Z Z Z ho14 (Tryd.isAgg25 _) Z ⟨BX.refl _ _, Z⟩))
   ·
    intro w10 D hS3 hd3
    exact dg_sub (E' := [(4, (.int .i64 k1))]) ⟨Z, trivial⟩ (dg_plain Z (ow_move Z Z ⟨BX.refl _ _, Z⟩))
   ·
    intro w11 D hS4 hd4
    have hl11 := Le.no M2 hS4
    exact dg_sub (E' := [(5, v5)]) ⟨Z, trivial⟩ (dg_plain Z (ow_move Z Z ⟨BX.refl _ _, (VRep.mono hl11 hv5)⟩))
   ·
    intro w12 D hS5 hd5
    have hC12 := hC6.no hS5
    have d2 : PV (RSlice RSpan) M2 x1 (D 3) w12 := dpA hd5 3 Z
    generalize hq1 : (D 3) = v7 at d2
    exact dg_sub (E' := [(16, v7)]) ⟨(congrArg some hq1), trivial⟩ (dg_plain Z (ow_appendCopy (R := RSpan) Z Z Z Z Tryd.underlying58 hi76 hz76 hs76 hy76 Z Z Z Z d2 hz1 hC12 fun v8 w13 hw3 hb8 hl13 hC13 => ⟨hb8, hw3⟩))
   ·
    intro w14 D hS6 hd6
    have d7 : PV (RSlice RSpan) M2 z1 (D 4) w14 := dpA hd6 4 Z
    have hl14 := Le.no M2 hS6
    have hC14 := hC6.no hS6
    have ho23 := ho7.no hS6
    have ho24 := ho8.no hS6
    have hr11 := hw1.no hS6
    generalize hq2 : (D 4) = v9 at d7
    refine lw_sub (E' := [(14, (.slice A1 mk1.length c1)), (15, (.int .i64 k1)), (17, v9), (2, (.pointer (some ⟨g1, 0, none⟩))), (3, (.pointer (some ⟨g2, 0, none⟩))), (4, (.int .i64 k1)), (5, v5), (8, v2), (9, (.int .i64 k1))]) ⟨(dpE hd6 1 Z Z), (dpE hd6 2 Z Z), (congrArg some hq2), Z, Z, Z, Z, Z, Z, trivial⟩ ?_
    replace hb6 := bind_some hb6
    obtain ⟨x2, hx2, hb6⟩ := hb6
    refine lw_op Z Z Z (ow_indexRow (R := (RSlice RSpan)) Z Z Z hr11 Tryd.underlying25 (Tryd.sizeOf58 _) hx2 (lw_op0 Z Z (ow_storeElRow (X := No) (R := (RSlice RSpan)) (S := (RSlice RSpan)) Z Z Z Z hr11 (orow_blk hr11 hx2) hx2 (FldSet.whole (RSlice RSpan)) (Tryd.sizeOf58 _) d7 (Nat.le_refl _) hC14 fun w15 ho25 hb9 hl15 hC15 => ?_)))
    have ho26 := ho23.go hb9 (fun e => (orow_ne hr11 ho23 (by decide)) (by rw [orow_blk hr11 hx2]; exact congrArg some e.symm))
    have ho27 := ho24.go hb9 (fun e => (orow_ne hr11 ho24 (by decide)) (by rw [orow_blk hr11 hx2]; exact congrArg some e.symm))
    refine lw_nil (ew_blockN (ew_then (cw_region (lw_op Z Z Z (ow_add Z Z Z (lw_op Z Z Z (ow_move Z Z (lw_nil ?_))))))))
    have hz3 := ((hl6.trans hl14).trans hl15)
    exact ew_nxt ((W (k1 + 1)), (List.set y1 (k1 : Int).toNat z1)) hb6 fun a ha => ⟨M2, (ha.sub ⟨Z, Z, Z, Z, trivial⟩), hz3, hC15, ho25, ho26, hm5, ho27, hm6⟩
  ·
   obtain rfl := hbb1.trans hc1
   exact cw_false Z (cw_exit (ew_thenX (ew_thenX (ew_blockX (ew_brk (k1, y1) hb6 fun a ha => ⟨M2, (ha.sub ⟨Z, Z, Z, Z, trivial⟩), hl6, hC6, hw1, ho7, hm5, ho8, hm6⟩)))))
 ·
  rintro ⟨k2, y2⟩ a w16 hlr2 ⟨M3, hF2, hl16, hC16, hw4, ho28, hm7, ho29, hm8⟩
  subst hlr2
  refine ew_at (E := [(2, (.pointer (some ⟨g1, 0, none⟩))), (3, (.pointer (some ⟨g2, 0, none⟩))), (8, v2), (9, (.int .i64 k2))]) hF2 (ew_then (cw_seq (cw_region (lw_op Z Z Z (ow_loadOwnA Z Z Z ho29 (Tryd.isAgg27 _) (Tryd.sizeOf27 _) Z ?_)))))
  have hw5 := hw4.freezeDel
  have hC17 := hw4.cxDel hC16 (fun _ e => e.elim) hO
  have hm9 : (Del (.slice A1 mk1.length c1) M3) g1 := ⟨hm7, fun e => (orow_ne hw4 ho28 (by decide)) e⟩
  refine lw_op0 Z Z (ow_store (X := No) (us := [(.slice A1 mk1.length c1)]) (cs' := #[(.slice A1 mk1.length c1)]) Z Z Z Z ho28 (Tryd.sizeOf27 _) Z Z Z Z hm9 (.inl hg2) Z hC17 fun w17 ho30 hb10 hl18 hC18 => lw_nil (ew_then (cw_ret ?_)))
  have hw7 : VRep RBox w17 (Del (.slice A1 mk1.length c1) M3) ({ Sides := y2 } : Box) (.agg #[(.slice A1 mk1.length c1)]) := shut_Box (VRep.mono hl18 hw5)
  obtain rfl := Option.some.inj h
  exact ew_ret (res1 Z (.cell Z (own_loadVarA ho30 (Tryd.isAgg27 _) (Tryd.sizeOf27 _) Z))) ⟨_, Z, (hw7.mono hC18.back), hC18.bx⟩

theorem w_impl_sidesOf {w : World} {M : Nat → Prop} (_hG : ARep (RArr 4 RShape) w M shapes ⟨0, 0, none⟩) (hO : ∀ b, M b → b < w.heap.size) {v0p : Value} {a_b : Box} (h0 : VRep RBox w M a_b v0p) {r : (List (List Span))} (h : F.impl_sidesOf a_b = some r) :
  Calls Tryd.prog 65 [v0p].toArray w fun e w' => ∃ v, e = .returned v ∧ VRep (RArr 4 (RSlice RSpan)) w' M r v ∧ BX No w w' := by
 have hC : Cx No w M w M := Cx.start hO (fun _ e => e.elim)
 clear _hG
 refine walk (N := 7) Tryd.func65 Z Tryd.ntmps65 Z (cw_seq (cw_region (lw_op Z Z Z (ow_box (R := RBox) Z Z h0 hC fun p1 w1 hp1 hb1 hl1 hC1 => lw_op Z Z Z (ow_alloc Z (Tryd.zeroValue69 _) hC1 fun g1 w2 hg1 hg2 ho1 hb2 hl2 hC2 => ?_)))))
 have hm1 : (Add g1 M) g1 := .inl Z
 have ho2 : OwnA (RArr 4 (RSlice RSpan)) w2 (Add g1 M) g1 69 [([] : List Span), ([] : List Span), ([] : List Span), ([] : List Span)] := OwnA.of ho1 ⟨Z, ⟨_, _, Z, (vslice_nil (R := RSpan) (w := w2) (M := (Add g1 M))).cells, _, _, Z, (vslice_nil (R := RSpan) (w := w2) (M := (Add g1 M))).cells, _, _, Z, (vslice_nil (R := RSpan) (w := w2) (M := (Add g1 M))).cells, _, _, Z, (vslice_nil (R := RSpan) (w := w2) (M := (Add g1 M))).cells, Z⟩⟩
 refine lw_nil (ew_then (cw_seq (cw_region (lw_op Z Z Z (ow_fieldAddr Z Z Tryd.underlying27 Z (Tryd.sizeOf25 _) (lw_op Z Z Z (ow_load (R := (RSlice (RSlice RSpan))) Z Z (ARep.mono hl2 (hp1.fld fld_Box_Sides)) (Tryd.sizeOf25 _) (Tryd.isAgg25 _) fun v1 hv1 => ?_)))))))
 replace h := bind_some h
 obtain ⟨y1, hy1, h⟩ := h
 refine lw_op Z Z Z (ow_s2ap Z Z hv1 Tryd.underlying69 (arrF_some hy1).2 (by decide) fun p2 hp2 => ?_)
 rw [← (arrF_some hy1).1] at hp2
 refine lw_op Z Z Z (ow_load (R := (RArr 4 (RSlice RSpan))) Z Z hp2 (Tryd.sizeOf69 _) (Tryd.isAgg69 _) fun v2 hv2 => ?_)
 obtain ⟨cs1, h1, h2⟩ := ho2.own
 refine lw_op0 Z Z (ow_storeA (X := No) (R := (RArr 4 (RSlice RSpan))) Z Z Z Z h1 h2 (Tryd.sizeOf69 _) hv2 hm1 (.inl hg2) hC2 fun w3 ho3 hb3 hl3 hC3 => lw_nil (ew_then (cw_ret ?_)))
 obtain rfl := Option.some.inj h
 obtain ⟨v3, hq1, hw1⟩ := resA ho3 (Tryd.sizeOf69 _) (Tryd.isAgg69 _) rfl
 exact ew_ret (res1 Z (.cell Z hq1)) ⟨_, Z, (hw1.mono hC3.back), hC3.bx⟩

theorem w_impl_limitSpans {w : World} {M : Nat → Prop} (_hG : ARep (RArr 4 RShape) w M shapes ⟨0, 0, none⟩) (hO : ∀ b, M b → b < w.heap.size) {v0p : Value} {a_list : List Span} (h0 : VRep (RSlice RSpan) w M a_list v0p) {r : (List Span) × Bool} (h : F.impl_limitSpans a_list = some r) :
  Calls Tryd.prog 110 [v0p].toArray w fun e w' => ∃ v, e = .returned v ∧ (∃ u0 u1, v = .tuple #[u0, u1] ∧ VRep (RSlice RSpan) w' M r.1 u0 ∧ VRep RBool w' M r.2 u1) ∧ BX No w w' := by
 have hC : Cx No w M w M := Cx.start hO (fun _ e => e.elim)
 clear _hG
 refine walk (N := 8) Tryd.func110 Z Tryd.ntmps110 Z (cw_seq (cw_region (lw_op Z Z Z (ow_assign Z Z (lw_op Z Z Z (ow_assign Z Z (lw_nil (ew_then (cw_seq (cw_seq (cw_region (lw_op Z Z Z (ow_move Z Z (lw_op Z Z Z (ow_len Z Z h0 Tryd.underlying58 Z (lw_op Z Z Z (ow_gtr Z Z Z fun bb1 hbb1 => lw_nil (ew_then ?_))))))))))))))))))
 replace h := cond_some h
 rcases h with ⟨hc1, h⟩ | ⟨hc1, h⟩
 ·
  obtain rfl := hbb1.trans hc1
  refine cw_true Z (cw_seq (cw_region (lw_op Z Z Z (ow_assign Z Z (lw_op Z Z Z (ow_assign Z Z (lw_nil (ew_then (cw_ret (ew_thenR ?_))))))))))
  obtain rfl := Option.some.inj h
  exact ew_ret (res2 Z (.tmp Z) (.tmp Z)) ⟨_, Z, ⟨_, _, Z, (VRep.mono hC.back (vslice_nil (R := RSpan) (w := w) (M := M))), ((vbool _))⟩, hC.bx⟩
 ·
  obtain rfl := hbb1.trans hc1
  refine cw_false Z (cw_skip (ew_then (cw_seq (cw_region (lw_op Z Z Z (ow_move Z Z (lw_op Z Z Z (ow_assign Z Z (lw_op Z Z Z (ow_assign Z Z (lw_nil (ew_then (cw_ret ?_)))))))))))))
  obtain rfl := Option.some.inj h
  exact ew_ret (res2 Z (.tmp Z) (.tmp Z)) ⟨_, Z, ⟨_, _, Z, (VRep.mono hC.back h0), ((vbool _))⟩, hC.bx⟩

theorem w_impl_inBoth {w : World} {M : Nat → Prop} (_hG : ARep (RArr 4 RShape) w M shapes ⟨0, 0, none⟩) (hO : ∀ b, M b → b < w.heap.size) {b0 a_inA : Bool} (h0 : b0 = a_inA) {b1 a_inB : Bool} (h1 : b1 = a_inB) {r : Bool} (h : F.impl_inBoth a_inA a_inB = some r) :
  Calls Tryd.prog 111 [(.bool b0), (.bool b1)].toArray w fun e w' => ∃ v, e = .returned v ∧ VRep RBool w' M r v ∧ BX No w w' := by
 have hC : Cx No w M w M := Cx.start hO (fun _ e => e.elim)
 clear _hG
 refine walk (N := 9) Tryd.func111 Z Tryd.ntmps111 Z (cw_seq (cw_region (lw_op Z Z Z (ow_assign Z Z (lw_nil (ew_then (cw_seq (cw_region (lw_op Z Z Z (ow_move Z Z (lw_op Z Z Z (ow_move Z Z ?_))))))))))))
 replace h := cond_some h
 rcases h with ⟨hc1, h⟩ | ⟨hc1, h⟩
 ·
  obtain rfl := h0.trans hc1
  refine lw_on Z Z Z Z Z Z (ow_move Z Z (lw_op Z Z Z (ow_pickT Z Z Z (lw_op Z Z Z (ow_assign Z Z (lw_nil (ew_then (cw_ret ?_))))))))
  obtain rfl := Option.some.inj h
  exact ew_ret (res1 Z (.tmp Z)) ⟨_, Z, ((vbool_of h1)), hC.bx⟩
 ·
  obtain rfl := h0.trans hc1
  refine lw_off Z Z Z Z Z Z (lw_op Z Z Z (ow_pickF Z Z Z (lw_op Z Z Z (ow_assign Z Z (lw_nil (ew_then (cw_ret ?_)))))))
  obtain rfl := Option.some.inj h
  exact ew_ret (res1 Z (.tmp Z)) ⟨_, Z, ((vbool _)), hC.bx⟩

theorem w_impl_stretch {w : World} {M : Nat → Prop} (_hG : ARep (RArr 4 RShape) w M shapes ⟨0, 0, none⟩) (hO : ∀ b, M b → b < w.heap.size) {v0p : Value} {a_rest : List Span} (h0 : VRep (RSlice RSpan) w M a_rest v0p) {a_at : Int} {a_top : Int} {r : Bool × Int} (h : F.impl_stretch a_rest a_at a_top = some r) :
  Calls Tryd.prog 114 [v0p, (.int .i64 a_at), (.int .i64 a_top)].toArray w fun e w' => ∃ v, e = .returned v ∧ (∃ u0 u1, v = .tuple #[u0, u1] ∧ VRep RBool w' M r.1 u0 ∧ VRep RInt w' M r.2 u1) ∧ BX No w w' := by
 have hC : Cx No w M w M := Cx.start hO (fun _ e => e.elim)
 clear _hG
 refine walk (N := 27) Tryd.func114 Z Tryd.ntmps114 Z (cw_seq (cw_region (lw_op Z Z Z (ow_assign Z Z (lw_op Z Z Z (ow_assign Z Z (lw_nil (ew_then (cw_seq (cw_seq (cw_region (lw_op Z Z Z (ow_move Z Z (lw_op Z Z Z (ow_len Z Z h0 Tryd.underlying58 Z (lw_op Z Z Z (ow_eqlI Z Z Z fun bb1 hbb1 => lw_nil (ew_then ?_))))))))))))))))))
 replace h := cond_some h
 rcases h with ⟨hc1, h⟩ | ⟨hc1, h⟩
 ·
  obtain rfl := hbb1.trans hc1
  refine cw_true Z (cw_seq (cw_region (lw_op Z Z Z (ow_move Z Z (lw_op Z Z Z (ow_assign Z Z (lw_op Z Z Z (ow_assign Z Z (lw_nil (ew_then (cw_ret (ew_thenR ?_))))))))))))
  obtain rfl := Option.some.inj h
  exact ew_ret (res2 Z (.tmp Z) (.tmp Z)) ⟨_, Z, ⟨_, _, Z, ((vbool _)), ((vint _))⟩, hC.bx⟩
 ·
  obtain rfl := hbb1.trans hc1
  refine cw_false Z (cw_skip (ew_then (cw_seq (cw_seq (cw_region (lw_op Z Z Z (ow_move Z Z (lw_op Z Z Z (ow_move Z Z ?_)))))))))
  replace h := bind_some h
  obtain ⟨x1, hx1, h⟩ := h
  refine lw_op Z Z Z (ow_indexSlice (R := RSpan) Z Z Z h0 Tryd.underlying58 (Tryd.sizeOf76 _) hx1 fun p1 hp1 => lw_op Z Z Z (ow_fieldAddr Z Z Tryd.underlying76 Z (Tryd.sizeOf3 _) (lw_op Z Z Z (ow_load (R := RInt) Z Z (hp1.fld fld_Span_Lo) (Tryd.sizeOf3 _) (Tryd.isAgg3 _) fun v1 hv1 => ?_))))
  obtain rfl := vint_eq hv1
  refine lw_op Z Z Z (ow_lss Z Z Z fun bb2 hbb2 => lw_nil (ew_then ?_))
  replace h := cond_some h
  rcases h with ⟨hc2, h⟩ | ⟨hc2, h⟩
  ·
   obtain rfl := hbb2.trans hc2
   refine cw_true Z (cw_seq (cw_sub (E' := [(0, v0p), (7, (.int .i64 0))]) ⟨Z, Z, trivial⟩ (cw_drawQ 6 [PV (RSlice RSpan) M a_rest, PA RSpan M x1, PA RInt M x1.Lo, PEq (.int .i64 x1.Lo), PEq (.int .i64 (W (x1.Lo - 1))), PEq (.bool false)] (by kernel_rfl) Z (by kernel_rfl) ⟨PV.mono _ _ _, PA.mono _ _ _, PA.mono _ _ _, PEq.mono _, PEq.mono _, PEq.mono _, trivial⟩ ⟨?_, ?_, ?_, ?_, ?_, ?_, trivial⟩ ?_)))
   ·
    intro w1 D hS1 hd1
    have hl1 := Le.no M hS1
    exact dg_sub (E' := [(0, v0p)]) ⟨Z, trivial⟩ (dg_plain Z (ow_move Z Z ⟨BX.refl _ _, (VRep.mono hl1 h0)⟩))
   ·
    intro w2 D hS2 hd2
    have d1 : PV (RSlice RSpan) M a_rest (D 0) w2 := dpA hd2 0 Z
    generalize hq1 : (D 0) = v3 at d1
    exact dg_sub (E' := [(18, v3)]) ⟨(congrArg some hq1), trivial⟩ (dg_plain Z (ow_indexSlice (R := RSpan) Z Z Z d1 Tryd.underlying58 (Tryd.sizeOf76 _) hx1 fun p3 hp3 => ⟨BX.refl _ _, ⟨_, Z, hp3⟩⟩))
   ·
    intro w3 D hS3 hd3
    have d2 : PA RSpan M x1 (D 1) w3 := dpA hd3 1 Z
    obtain ⟨p4, e1, ha1⟩ := d2
    exact dg_sub (E' := [(19, (.pointer (some p4)))]) ⟨(congrArg some e1), trivial⟩ (dg_plain Z (ow_fieldAddr Z Z Tryd.underlying76 Z (Tryd.sizeOf3 _) ⟨BX.refl _ _, ⟨_, Z, (ha1.fld fld_Span_Lo)⟩⟩))
   ·
    intro w4 D hS4 hd4
    have d3 : PA RInt M x1.Lo (D 2) w4 := dpA hd4 2 Z
    obtain ⟨p5, e2, ha2⟩ := d3
    refine dg_sub (E' := [(20, (.pointer (some p5)))]) ⟨(congrArg some e2), trivial⟩ (dg_plain Z (ow_load (R := RInt) Z Z ha2 (Tryd.sizeOf3 _) (Tryd.isAgg3 _) fun v4 hv4 => ?_))
    obtain rfl := vint_eq hv4
    exact ⟨BX.refl _ _, Z⟩
   ·
    intro w5 D hS5 hd5
    exact dg_sub (E' := [(21, (.int .i64 x1.Lo))]) ⟨(dpE hd5 3 Z Z), trivial⟩ (dg_plain Z (ow_sub Z Z Z ⟨BX.refl _ _, Z⟩))
   ·
    intro w6 D hS6 hd6
    exact dg_sub (E' := []) trivial (dg_plain Z (ow_assign Z Z ⟨BX.refl _ _, Z⟩))
   ·
    intro w7 D hS7 hd7
    have hC7 := hC.no hS7
    refine lw_sub (E' := [(22, (.int .i64 (W (x1.Lo - 1)))), (6, (.bool false)), (0, v0p), (7, (.int .i64 0))]) ⟨(dpE hd7 4 Z Z), (dpE hd7 5 Z Z), Z, Z, trivial⟩ (lw_op Z Z Z (ow_assign Z Z (lw_nil (ew_then (cw_ret (ew_thenR ?_))))))
    obtain rfl := Option.some.inj h
    exact ew_ret (res2 Z (.tmp Z) (.tmp Z)) ⟨_, Z, ⟨_, _, Z, ((vbool _)), ((vint _))⟩, hC7.bx⟩
  ·
   obtain rfl := hbb2.trans hc2
   refine cw_false Z (cw_skip (ew_then (cw_seq (cw_sub (E' := [(0, v0p), (7, (.int .i64 0))]) ⟨Z, Z, trivial⟩ (cw_drawQ 5 [PV (RSlice RSpan) M a_rest, PA RSpan M x1, PA RInt M x1.Hi, PEq (.int .i64 x1.Hi), PEq (.bool true)] (by kernel_rfl) Z (by kernel_rfl) ⟨PV.mono _ _ _, PA.mono _ _ _, PA.mono _ _ _, PEq.mono _, PEq.mono _, trivial⟩ ⟨?_, ?_, ?_, ?_, ?_, trivial⟩ ?_)))))
   ·
    intro w8 D hS8 hd8
    have hl8 := Le.no M hS8
    exact dg_sub (E' := [(0, v0p)]) ⟨Z, trivial⟩ (dg_plain Z (ow_move Z Z ⟨BX.refl _ _, (VRep.mono hl8 h0)⟩))
   ·
    intro w9 D hS9 hd9
    have d11 : PV (RSlice RSpan) M a_rest (D 0) w9 := dpA hd9 0 Z
    generalize hq2 : (D 0) = v6 at d11
    exact dg_sub (E' := [(23, v6)]) ⟨(congrArg some hq2), trivial⟩ (dg_plain Z (ow_indexSlice (R := RSpan) Z Z Z d11 Tryd.underlying58 (Tryd.sizeOf76 _) hx1 fun p7 hp7 => ⟨BX.refl _ _, ⟨_, Z, hp7⟩⟩))
   ·
    intro w10 D hS10 hd10
    have d12 : PA RSpan M x1 (D 1) w10 := dpA hd10 1 Z
    obtain ⟨p8, e3, ha3⟩ := d12
    exact dg_sub (E' := [(24, (.pointer (some p8)))]) ⟨(congrArg some e3), trivial⟩ (dg_plain Z (ow_fieldAddr Z Z Tryd.underlying76 Z (Tryd.sizeOf3 _) ⟨BX.refl _ _, ⟨_, Z, (ha3.fld fld_Span_Hi)⟩⟩))
   ·
    intro w11 D hS11 hd11
    have d13 : PA RInt M x1.Hi (D 2) w11 := dpA hd11 2 Z
    obtain ⟨p9, e4, ha4⟩ := d13
    refine dg_sub (E' := [(25, (.pointer (some p9)))]) ⟨(congrArg some e4), trivial⟩ (dg_plain Z (ow_load (R := RInt) Z Z ha4 (Tryd.sizeOf3 _) (Tryd.isAgg3 _) fun v7 hv7 => ?_))
    obtain rfl := vint_eq hv7
    exact ⟨BX.refl _ _, Z⟩
   ·
    intro w12 D hS12 hd12
    exact dg_sub (E' := []) trivial (dg_plain Z (ow_assign Z Z ⟨BX.refl _ _, Z⟩))
   ·
    intro w13 D hS13 hd13
    have hC13 := hC.no hS13
    refine lw_sub (E' := [(26, (.int .i64 x1.Hi)), (6, (.bool true)), (0, v0p), (7, (.int .i64 0))]) ⟨(dpE hd13 3 Z Z), (dpE hd13 4 Z Z), Z, Z, trivial⟩ (lw_op Z Z Z (ow_assign Z Z (lw_nil (ew_then (cw_ret ?_)))))
    obtain rfl := Option.some.inj h
    exact ew_ret (res2 Z (.tmp Z) (.tmp Z)) ⟨_, Z, ⟨_, _, Z, ((vbool _)), ((vint _))⟩, hC13.bx⟩

theorem w_impl_sweepSpans__impl_inBoth {w : World} {M : Nat → Prop} (hG : ARep (RArr 4 RShape) w M shapes ⟨0, 0, none⟩) (hO : ∀ b, M b → b < w.heap.size) {v0p : Value} {a_a : List Span} (h0 : VRep (RSlice RSpan) w M a_a v0p) {v1p : Value} {a_b : List Span} (h1 : VRep (RSlice RSpan) w M a_b v1p) {a_top : Int} {r : (List Span)} (h : F.impl_sweepSpans__impl_inBoth a_a a_b a_top = some r) :
  Calls Tryd.prog 99 [v0p, v1p, (.int .i64 a_top), (.func (.func 111) #[] #[])].toArray w fun e w' => ∃ v, e = .returned v ∧ VRep (RSlice RSpan) w' M r v ∧ BX No w w' := by
 obtain ⟨i76, hi76, hz76, hs76, hy76⟩ := info76
 have hC : Cx No w M w M := Cx.start hO (fun _ e => e.elim)
 refine walk (N := 107) Tryd.func99 Z Tryd.ntmps99 Z (cw_seq (cw_region (lw_op Z Z Z (ow_assign Z Z (lw_nil (ew_then (cw_seq (cw_region (lw_op Z Z Z (ow_assign Z Z (lw_nil (ew_then (cw_seq (cw_region (lw_op Z Z Z (ow_assign Z Z (lw_op Z Z Z (ow_assign Z Z (lw_nil (ew_then (cw_seq (cw_seq (cw_region (lw_op Z Z Z (ow_assign Z Z (lw_nil (ew_then ?_)))))))))))))))))))))))))))
 have hr1 : OwnRow RSpan w.heap.size 76 w M ([] : List Span) (.slice none 0 0) := ownrow_nil
 replace h := bind_some h
 obtain ⟨lr1, hlr1, h⟩ := h
 refine cw_for hlr1 (fun s a w' => ∃ (M' : Nat → Prop) (v0c : Value), Fits 107 [(0, v0p), (1, v1p), (2, (.int .i64 a_top)), (3, (.func (.func 111) #[] #[])), (9, v0c), (10, (.int .i64 s.2.1)), (11, (.int .i64 s.2.2.1)), (12, (.int .i64 s.2.2.2))] a ∧ Le w M w' M' ∧ Cx No w M w' M' ∧ OwnRow RSpan w.heap.size 76 w' M' s.1 v0c) ?_ ?_ ?_
 ·
  intro a ha
  exact ⟨M, (.slice none 0 0), ha.sub ⟨Z, Z, Z, Z, Z, Z, Z, Z, trivial⟩, Le.refl _ _, hC, hr1⟩
 ·
  rintro ⟨y1, k1, k2, k3⟩ a w1 sr1 ⟨M1, v1, hF1, hl1, hC1, hw1⟩ hb1 hR1
  refine cw_at (E := [(0, v0p), (1, v1p), (2, (.int .i64 a_top)), (3, (.func (.func 111) #[] #[])), (9, v1), (10, (.int .i64 k1)), (11, (.int .i64 k2)), (12, (.int .i64 k3))]) hF1 (cw_seq (cw_seq (cw_region (lw_op Z Z Z (ow_move Z Z (lw_op Z Z Z (ow_move Z Z (lw_op Z Z Z (ow_leq Z Z Z fun bb1 hbb1 => lw_nil (ew_then ?_))))))))))
  replace hb1 := cond_some hb1
  rcases hb1 with ⟨hc1, hb1⟩ | ⟨hc1, hb1⟩
  ·
   obtain rfl := hbb1.trans hc1
   refine cw_true Z (cw_skip (ew_then (cw_block (cw_seq ?_))))
   replace hb1 := bind_some hb1
   obtain ⟨lr2, hlr2, hb1⟩ := hb1
   refine cw_for hlr2 (fun s a w' => ∃ (M' : Nat → Prop), Fits 107 [(0, v0p), (1, v1p), (2, (.int .i64 a_top)), (3, (.func (.func 111) #[] #[])), (9, v1), (10, (.int .i64 s.1)), (11, (.int .i64 k2)), (12, (.int .i64 k3))] a ∧ Le w1 M1 w' M' ∧ Cx No w M w' M' ∧ OwnRow RSpan w.heap.size 76 w' M' s.2 v1) ?_ ?_ ?_
   ·
    intro a ha
    exact ⟨M1, ha.sub ⟨Z, Z, Z, Z, Z, Z, Z, Z, trivial⟩, Le.refl _ _, hC1, hw1⟩
   ·
    rintro ⟨k4, y2⟩ a w2 sr2 ⟨M2, hF2, hl2, hC2, hw2⟩ hb2 hR2
    refine cw_at (E := [(0, v0p), (1, v1p), (2, (.int .i64 a_top)), (3, (.func (.func 111) #[] #[])), (9, v1), (10, (.int .i64 k4)), (11, (.int .i64 k2)), (12, (.int .i64 k3))]) hF2 (cw_seq (cw_seq (cw_region (lw_op Z Z Z (ow_move Z Z (lw_op Z Z Z (ow_move Z Z (lw_op Z Z Z (ow_len Z Z (VRep.mono (hl1.trans hl2) h0) Tryd.underlying58 Z (lw_op Z Z Z (ow_lss Z Z Z fun bb2 hbb2 => lw_op Z Z Z (ow_move Z Z ?_))))))))))))
    replace hb2 := cond_some hb2
    rcases hb2 with ⟨hc2, hb2⟩ | ⟨hc2, hb2⟩
    ·
     obtain rfl := hbb2.trans hc2
     refine lw_on Z Z Z Z Z Z (ow_move Z Z (lw_on Z Z Z Z Z Z (ow_move Z Z ?_)))
     replace hb2 := bind_some hb2
     obtain ⟨x1, hx1, hb2⟩ := hb2
     refine lw_on Z Z Z Z Z Z (ow_indexSlice (R := RSpan) Z Z Z (VRep.mono (hl1.trans hl2) h0) Tryd.underlying58 (Tryd.sizeOf76 _) hx1 fun p1 hp1 => lw_on Z Z Z Z Z Z (ow_fieldAddr Z Z Tryd.underlying76 Z (Tryd.sizeOf3 _) (lw_on Z Z Z Z Z Z (ow_load (R := RInt) Z Z (hp1.fld fld_Span_Hi) (Tryd.sizeOf3 _) (Tryd.isAgg3 _) fun v7 hv7 => ?_))))
     obtain rfl := vint_eq hv7
     refine lw_on Z Z Z Z Z Z (ow_move Z Z (lw_on Z Z Z Z Z Z (ow_lss Z Z Z fun bb3 hbb3 => lw_op Z Z Z (ow_pickT Z Z Z (lw_nil (ew_then ?_))))))
     replace hb2 := cond_some hb2
     rcases hb2 with ⟨hc3, hb2⟩ | ⟨hc3, hb2⟩
     ·
      obtain rfl := hbb3.trans hc3
      exact cw_true Z (cw_skip (ew_then (cw_block (cw_region (lw_op Z Z Z (ow_move Z Z (lw_op Z Z Z (ow_add Z Z Z (lw_op Z Z Z (ow_assign Z Z (lw_nil (ew_blockN (ew_nxt ((W (k4 + 1)), y2) hb2 fun a ha => ⟨M2, (ha.sub ⟨Z, Z, Z, Z, Z, Z, Z, Z, trivial⟩), hl2, hC2, hw2⟩)))))))))))))
     ·
      obtain rfl := hbb3.trans hc3
      exact cw_false Z (cw_exit (ew_thenX (ew_thenX (ew_blockX (ew_brk (k4, y2) hb2 fun a ha => ⟨M2, (ha.sub ⟨Z, Z, Z, Z, Z, Z, Z, Z, trivial⟩), hl2, hC2, hw2⟩)))))
    ·
     obtain rfl := hbb2.trans hc2
     exact lw_off Z Z Z Z Z Z (lw_off Z Z Z Z Z Z (lw_off Z Z Z Z Z Z (lw_off Z Z Z Z Z Z (lw_off Z Z Z Z Z Z (lw_off Z Z Z Z Z Z (lw_off Z Z Z Z Z Z (lw_op Z Z Z (ow_pickF Z Z Z (lw_nil (ew_then (cw_false Z (cw_exit (ew_thenX (ew_thenX (ew_blockX (ew_brk (k4, y2) hb2 fun a ha => ⟨M2, (ha.sub ⟨Z, Z, Z, Z, Z, Z, Z, Z, trivial⟩), hl2, hC2, hw2⟩))))))))))))))))
   ·
    rintro ⟨k5, y3⟩ a w3 hlr3 ⟨M3, hF3, hl3, hC3, hw3⟩
    subst hlr3
    refine ew_at (E := [(0, v0p), (1, v1p), (2, (.int .i64 a_top)), (3, (.func (.func 111) #[] #[])), (9, v1), (10, (.int .i64 k5)), (11, (.int .i64 k2)), (12, (.int .i64 k3))]) hF3 (ew_then (cw_seq ?_))
    replace hb1 := bind_some hb1
    obtain ⟨lr3, hlr4, hb1⟩ := hb1
    refine cw_for hlr4 (fun s a w' => ∃ (M' : Nat → Prop), Fits 107 [(0, v0p), (1, v1p), (2, (.int .i64 a_top)), (3, (.func (.func 111) #[] #[])), (9, v1), (10, (.int .i64 k5)), (11, (.int .i64 s.1)), (12, (.int .i64 k3))] a ∧ Le w3 M3 w' M' ∧ Cx No w M w' M' ∧ OwnRow RSpan w.heap.size 76 w' M' s.2 v1) ?_ ?_ ?_
    ·
     intro a ha
     exact ⟨M3, ha.sub ⟨Z, Z, Z, Z, Z, Z, Z, Z, trivial⟩, Le.refl _ _, hC3, hw3⟩
    ·
     rintro ⟨k6, y4⟩ a w4 sr3 ⟨M4, hF4, hl4, hC4, hw4⟩ hb3 hR3
     refine cw_at (E := [(0, v0p), (1, v1p), (2, (.int .i64 a_top)), (3, (.func (.func 111) #[] #[])), (9, v1), (10, (.int .i64 k5)), (11, (.int .i64 k6)), (12, (.int .i64 k3))]) hF4 (cw_seq (cw_seq (cw_region (lw_op Z Z Z (ow_move Z Z (lw_op Z Z Z (ow_move Z Z ?_)))))))
     have hz1 := ((hl1.trans hl3).trans hl4)
     refine lw_op Z Z Z (ow_len Z Z (VRep.mono hz1 h1) Tryd.underlying58 Z (lw_op Z Z Z (ow_lss Z Z Z fun bb4 hbb4 => lw_op Z Z Z (ow_move Z Z ?_))))
     replace hb3 := cond_some hb3
     rcases hb3 with ⟨hc4, hb3⟩ | ⟨hc4, hb3⟩
     ·
      obtain rfl := hbb4.trans hc4
      refine lw_on Z Z Z Z Z Z (ow_move Z Z (lw_on Z Z Z Z Z Z (ow_move Z Z ?_)))
      replace hb3 := bind_some hb3
      obtain ⟨x2, hx2, hb3⟩ := hb3
      refine lw_on Z Z Z Z Z Z (ow_indexSlice (R := RSpan) Z Z Z (VRep.mono hz1 h1) Tryd.underlying58 (Tryd.sizeOf76 _) hx2 fun p2 hp2 => lw_on Z Z Z Z Z Z (ow_fieldAddr Z Z Tryd.underlying76 Z (Tryd.sizeOf3 _) (lw_on Z Z Z Z Z Z (ow_load (R := RInt) Z Z (hp2.fld fld_Span_Hi) (Tryd.sizeOf3 _) (Tryd.isAgg3 _) fun v12 hv12 => ?_))))
      obtain rfl := vint_eq hv12
      refine lw_on Z Z Z Z Z Z (ow_move Z Z (lw_on Z Z Z Z Z Z (ow_lss Z Z Z fun bb5 hbb5 => lw_op Z Z Z (ow_pickT Z Z Z (lw_nil (ew_then ?_))))))
      replace hb3 := cond_some hb3
      rcases hb3 with ⟨hc5, hb3⟩ | ⟨hc5, hb3⟩
      ·
       obtain rfl := hbb5.trans hc5
       exact cw_true Z (cw_skip (ew_then (cw_block (cw_region (lw_op Z Z Z (ow_move Z Z (lw_op Z Z Z (ow_add Z Z Z (lw_op Z Z Z (ow_assign Z Z (lw_nil (ew_blockN (ew_nxt ((W (k6 + 1)), y4) hb3 fun a ha => ⟨M4, (ha.sub ⟨Z, Z, Z, Z, Z, Z, Z, Z, trivial⟩), hl4, hC4, hw4⟩)))))))))))))
      ·
       obtain rfl := hbb5.trans hc5
       exact cw_false Z (cw_exit (ew_thenX (ew_thenX (ew_blockX (ew_brk (k6, y4) hb3 fun a ha => ⟨M4, (ha.sub ⟨Z, Z, Z, Z, Z, Z, Z, Z, trivial⟩), hl4, hC4, hw4⟩)))))
     ·
      obtain rfl := hbb4.trans hc4
      exact lw_off Z Z Z Z Z Z (lw_off Z Z Z Z Z Z (lw_off Z Z Z Z Z Z (lw_off Z Z Z Z Z Z (lw_off Z Z Z Z Z Z (lw_off Z Z Z Z Z Z (lw_off Z Z Z Z Z Z (lw_op Z Z Z (ow_pickF Z Z Z (lw_nil (ew_then (cw_false Z (cw_exit (ew_thenX (ew_thenX (ew_blockX (ew_brk (k6, y4) hb3 fun a ha => ⟨M4, (ha.sub ⟨Z, Z, Z, Z, Z, Z, Z, Z, trivial⟩), hl4, hC4, hw4⟩))))))))))))))))
    ·
     rintro ⟨k7, y5⟩ a w5 hlr5 ⟨M5, hF5, hl5, hC5, hw5⟩
     subst hlr5
     refine ew_at (E := [(0, v0p), (1, v1p), (2, (.int .i64 a_top)), (3, (.func (.func 111) #[] #[])), (9, v1), (10, (.int .i64 k5)), (11, (.int .i64 k7)), (12, (.int .i64 k3))]) hF5 (ew_then (cw_seq (cw_region (lw_op Z Z Z (ow_move Z Z (lw_op Z Z Z (ow_move Z Z ?_)))))))
     replace hb1 := bind_some hb1
     obtain ⟨y6, hy6, hb1⟩ := hb1
     have hz2 := ((hl1.trans hl3).trans hl5)
     refine lw_op Z Z Z (ow_sliceFrom (R := RSpan) Z Z Z (VRep.mono hz2 h0) Tryd.underlying58 (Tryd.sizeOf76 _) (dropF_some hy6).2 fun v15 hv15 => ?_)
     rw [← (dropF_some hy6).1] at hv15
     refine lw_op Z Z Z (ow_move Z Z (lw_op Z Z Z (ow_move Z Z ?_)))
     replace hb1 := bind_some hb1
     obtain ⟨x3, hx3, hb1⟩ := hb1
     refine lw_op Z Z Z (ow_call Z Z Tryd.call114 (w_impl_stretch (hG.mono hz2) hC5.old hv15 hx3) fun v16 w6 hv16 => ?_)
     obtain ⟨⟨v17, v18, rfl, hv17, hv18⟩, hb4⟩ := hv16
     have hl6 := Le.no M5 hb4
     have hC6 := hC5.no hb4
     have hr2 := hw5.no hb4
     obtain ⟨bb6, hbb6, rfl⟩ := vbool_ex hv17
     obtain rfl := vint_eq hv18
     refine lw_op Z Z Z (ow_move Z Z (lw_op Z Z Z (ow_extract Z Z Z (lw_op Z Z Z (ow_extract Z Z Z (lw_op Z Z Z (ow_assign Z Z (lw_op Z Z Z (ow_assign Z Z (lw_nil (ew_then (cw_seq (cw_region (lw_op Z Z Z (ow_move Z Z (lw_op Z Z Z (ow_move Z Z ?_)))))))))))))))))
     replace hb1 := bind_some hb1
     obtain ⟨y7, hy7, hb1⟩ := hb1
     refine lw_op Z Z Z (ow_sliceFrom (R := RSpan) Z Z Z (VRep.mono (hz2.trans hl6) h1) Tryd.underlying58 (Tryd.sizeOf76 _) (dropF_some hy7).2 fun v19 hv19 => ?_)
     rw [← (dropF_some hy7).1] at hv19
     refine lw_op Z Z Z (ow_move Z Z (lw_op Z Z Z (ow_move Z Z ?_)))
     replace hb1 := bind_some hb1
     obtain ⟨x4, hx4, hb1⟩ := hb1
     refine lw_op Z Z Z (ow_call Z Z Tryd.call114 (w_impl_stretch (hG.mono (hz2.trans hl6)) hC6.old hv19 hx4) fun v20 w7 hv20 => ?_)
     obtain ⟨⟨v21, v22, rfl, hv21, hv22⟩, hb5⟩ := hv20
     have hl7 := Le.no M5 hb5
     have hC7 := hC6.no hb5
     have hr3 := hr2.no hb5
     obtain ⟨bb7, hbb7, rfl⟩ := vbool_ex hv21
     obtain rfl := vint_eq hv22
     refine lw_op Z Z Z (ow_move Z Z (lw_op Z Z Z (ow_extract Z Z Z (lw_op Z Z Z (ow_extract Z Z Z (lw_op Z Z Z (ow_assign Z Z (lw_op Z Z Z (ow_assign Z Z (lw_nil (ew_then (cw_seq (cw_region (lw_op Z Z Z (ow_move Z Z (lw_op Z Z Z (ow_move Z Z (lw_op Z Z Z (ow_min Z Z Z (lw_op Z Z Z (ow_assign Z Z (lw_nil (ew_then (cw_seq (cw_seq (cw_region (lw_op Z Z Z (ow_move Z Z (lw_op Z Z Z (ow_move Z Z (lw_op Z Z Z (ow_move Z Z ?_))))))))))))))))))))))))))))))))
     replace hb1 := bind_some hb1
     obtain ⟨x5, hx5, hb1⟩ := hb1
     have hz3 := ((hz2.trans hl6).trans hl7)
     refine lw_op Z Z Z (ow_callv Z Z Z Tryd.call111 (w_impl_inBoth (hG.mono hz3) hC7.old hbb6 hbb7 hx5) fun v23 w8 hv23 => ?_)
     obtain ⟨hv23, hb6⟩ := hv23
     have hl8 := Le.no M5 hb6
     have hC8 := hC7.no hb6
     have hr4 := hr3.no hb6
     obtain rfl := vbool_eq hv23
     refine lw_nil (ew_then ?_)
     replace hb1 := cond_some hb1
     rcases hb1 with ⟨hc6, hb1⟩ | ⟨hc6, hb1⟩
     ·
      subst hc6
      refine cw_true Z (cw_seq (cw_region (lw_op Z Z Z (ow_move Z Z (lw_op Z Z Z (ow_lenOwn Z Z hr4 Tryd.underlying58 (lw_op Z Z Z (ow_assign Z Z (lw_nil (ew_then (cw_seq (cw_region (lw_op Z Z Z (ow_move Z Z (lw_op Z Z Z (ow_gtr Z Z Z fun bb8 hbb8 => lw_op Z Z Z (ow_move Z Z ?_)))))))))))))))))
      replace hb1 := cond_some hb1
      rcases hb1 with ⟨hc7, hb1⟩ | ⟨hc7, hb1⟩
      ·
       obtain rfl := hbb8.trans hc7
       refine lw_on Z Z Z Z Z Z (ow_move Z Z (lw_on Z Z Z Z Z Z (ow_move Z Z (lw_on Z Z Z Z Z Z (ow_sub Z Z Z ?_)))))
       replace hb1 := bind_some hb1
       obtain ⟨x6, hx6, hb1⟩ := hb1
       refine lw_on Z Z Z Z Z Z (ow_indexRow (R := RSpan) Z Z Z hr4 Tryd.underlying58 (Tryd.sizeOf76 _) hx6 (lw_on Z Z Z Z Z Z (ow_fieldAddr Z Z Tryd.underlying76 Z (Tryd.sizeOf3 _) (lw_on Z Z Z Z Z Z (ow_loadElRow (R := RSpan) (S := RInt) Z Z Z hr4 (orow_blk hr4 hx6) hx6 fld_Span_Hi (Tryd.sizeOf3 _) (Tryd.isAgg3 _) fun v24 hv24 => ?_)))))
       obtain rfl := vint_eq hv24
       refine lw_on Z Z Z Z Z Z (ow_add Z Z Z (lw_on Z Z Z Z Z Z (ow_move Z Z (lw_on Z Z Z Z Z Z (ow_eqlI Z Z Z fun bb9 hbb9 => lw_op Z Z Z (ow_pickT Z Z Z (lw_nil (ew_then ?_))))))))
       replace hb1 := cond_some hb1
       rcases hb1 with ⟨hc8, hb1⟩ | ⟨hc8, hb1⟩
       ·
        obtain rfl := hbb9.trans hc8
        refine cw_true Z (cw_region (lw_op Z Z Z (ow_move Z Z (lw_op Z Z Z (ow_move Z Z (lw_op Z Z Z (ow_sub Z Z Z (lw_op Z Z Z (ow_move Z Z (lw_op Z Z Z (ow_indexRow (R := RSpan) Z Z Z hr4 Tryd.underlying58 (Tryd.sizeOf76 _) hx6 (lw_op Z Z Z (ow_fieldAddr Z Z Tryd.underlying76 Z (Tryd.sizeOf3 _) (lw_op0 Z Z (ow_storeElRow (X := No) (R := RSpan) (S := RInt) Z Z Z Z hr4 (orow_blk hr4 hx6) hx6 set_Span_Hi (Tryd.sizeOf3 _) (vint _) (Nat.le_refl _) hC8 fun w9 ho1 hb7 hl9 hC9 => lw_nil (ew_then (cw_region (lw_op Z Z Z (ow_move Z Z (lw_op Z Z Z (ow_add Z Z Z (lw_op Z Z Z (ow_assign Z Z (lw_nil (ew_blockN ?_)))))))))))))))))))))))))
        have hz4 := ((hz3.trans hl8).trans hl9)
        exact ew_nxt ((List.set y5 ((W ((y5.length : Int) - 1)) : Int).toNat { x6 with Hi := (imin x3.2 x4.2) }), k5, k7, (W ((imin x3.2 x4.2) + 1))) hb1 fun a ha => ⟨M5, v1, (ha.sub ⟨Z, Z, Z, Z, Z, Z, Z, Z, trivial⟩), hz4, hC9, ho1⟩
       ·
        obtain rfl := hbb9.trans hc8
        refine cw_false Z (cw_region (lw_op Z Z Z (ow_move Z Z (lw_op Z Z Z (ow_move Z Z (lw_op Z Z Z (ow_move Z Z (lw_op Z Z Z (ow_build (v := .agg #[(.int .i64 k3), (.int .i64 (imin x3.2 x4.2))]) Z Z (by kernel_rfl) ?_)))))))))
        have hw6 : VRep RSpan w8 M5 ({ Lo := k3, Hi := (imin x3.2 x4.2) } : Span) (.agg #[(.int .i64 k3), (.int .i64 (imin x3.2 x4.2))]) := shut_Span
        refine lw_op Z Z Z (ow_buildSlice (R := RSpan) (xs := [({ Lo := k3, Hi := (imin x3.2 x4.2) } : Span)]) (cs := #[(.int .i64 k3), (.int .i64 (imin x3.2 x4.2))]) (e := 76) Z Z (by kernel_rfl) Z Z ⟨_, _, Z, hw6.cells, Z⟩ hC8 fun p3 w10 hw7 hb8 hl10 hC10 => ?_)
        have hr5 := hr4.no hb8
        replace hb1 := bind_some hb1
        obtain ⟨z1, hz1, hb1⟩ := hb1
        refine lw_op Z Z Z (ow_append (R := RSpan) Z Z Z Z Tryd.underlying58 hi76 hz76 hs76 hy76 Z Z Z Z hr5 hw7 hz1 hC10 fun v25 w11 M6 hr6 hb9 hl11 hC11 hM1 hat1 => lw_op Z Z Z (ow_assign Z Z (lw_nil (ew_then (cw_region (lw_op Z Z Z (ow_move Z Z (lw_op Z Z Z (ow_add Z Z Z (lw_op Z Z Z (ow_assign Z Z (lw_nil (ew_blockN ?_)))))))))))))
        have hz5 := (((hz3.trans hl8).trans hl10).trans hl11)
        exact ew_nxt (z1, k5, k7, (W ((imin x3.2 x4.2) + 1))) hb1 fun a ha => ⟨M6, v25, (ha.sub ⟨Z, Z, Z, Z, Z, Z, Z, Z, trivial⟩), hz5, hC11, hr6⟩
      ·
       obtain rfl := hbb8.trans hc7
       refine lw_off Z Z Z Z Z Z (lw_off Z Z Z Z Z Z (lw_off Z Z Z Z Z Z (lw_off Z Z Z Z Z Z (lw_off Z Z Z Z Z Z (lw_off Z Z Z Z Z Z (lw_off Z Z Z Z Z Z (lw_off Z Z Z Z Z Z (lw_off Z Z Z Z Z Z (lw_op Z Z Z (ow_pickF Z Z Z (lw_nil (ew_then (cw_false Z (cw_region (lw_op Z Z Z (ow_move Z Z (lw_op Z Z Z (ow_move Z Z (lw_op Z Z Z (ow_move Z Z (lw_op Z Z Z (ow_build (v := .agg #[(.int .i64 k3), (.int .i64 (imin x3.2 x4.2))]) Z Z (by kernel_rfl) ?_))))))))))))))))))))))
       have hw8 : VRep RSpan w8 M5 ({ Lo := k3, Hi := (imin x3.2 x4.2) } : Span) (.agg #[(.int .i64 k3), (.int .i64 (imin x3.2 x4.2))]) := shut_Span
       refine lw_op Z Z Z (ow_buildSlice (R := RSpan) (xs := [({ Lo := k3, Hi := (imin x3.2 x4.2) } : Span)]) (cs := #[(.int .i64 k3), (.int .i64 (imin x3.2 x4.2))]) (e := 76) Z Z (by kernel_rfl) Z Z ⟨_, _, Z, hw8.cells, Z⟩ hC8 fun p4 w12 hw9 hb10 hl12 hC12 => ?_)
       have hr7 := hr4.no hb10
       replace hb1 := bind_some hb1
       obtain ⟨z2, hz2, hb1⟩ := hb1
       refine lw_op Z Z Z (ow_append (R := RSpan) Z Z Z Z Tryd.underlying58 hi76 hz76 hs76 hy76 Z Z Z Z hr7 hw9 hz2 hC12 fun v26 w13 M7 hr8 hb11 hl13 hC13 hM2 hat2 => lw_op Z Z Z (ow_assign Z Z (lw_nil (ew_then (cw_region (lw_op Z Z Z (ow_move Z Z (lw_op Z Z Z (ow_add Z Z Z (lw_op Z Z Z (ow_assign Z Z (lw_nil (ew_blockN ?_)))))))))))))
       have hz6 := (((hz3.trans hl8).trans hl12).trans hl13)
       exact ew_nxt (z2, k5, k7, (W ((imin x3.2 x4.2) + 1))) hb1 fun a ha => ⟨M7, v26, (ha.sub ⟨Z, Z, Z, Z, Z, Z, Z, Z, trivial⟩), hz6, hC13, hr8⟩
     ·
      subst hc6
      exact cw_false Z (cw_skip (ew_then (cw_region (lw_op Z Z Z (ow_move Z Z (lw_op Z Z Z (ow_add Z Z Z (lw_op Z Z Z (ow_assign Z Z (lw_nil (ew_blockN (ew_nxt (y5, k5, k7, (W ((imin x3.2 x4.2) + 1))) hb1 fun a ha => ⟨M5, v1, (ha.sub ⟨Z, Z, Z, Z, Z, Z, Z, Z, trivial⟩), (hz3.trans hl8), hC8, hr4⟩))))))))))))
  ·
   obtain rfl := hbb1.trans hc1
   exact cw_false Z (cw_exit (ew_thenX (ew_thenX (ew_blockX (ew_brk (y1, k1, k2, k3) hb1 fun a ha => ⟨M1, v1, (ha.sub ⟨Z, Z, Z, Z, Z, Z, Z, Z, trivial⟩), hl1, hC1, hw1⟩)))))
 ·
  rintro ⟨y8, k8, k9, k10⟩ a w14 hlr6 ⟨M8, v27, hF6, hl14, hC14, hw10⟩
  subst hlr6
  refine ew_at (E := [(0, v0p), (1, v1p), (2, (.int .i64 a_top)), (3, (.func (.func 111) #[] #[])), (9, v27), (10, (.int .i64 k8)), (11, (.int .i64 k9)), (12, (.int .i64 k10))]) hF6 (ew_then (cw_seq (cw_region (lw_op Z Z Z (ow_move Z Z (lw_op Z Z Z (ow_assign Z Z (lw_nil (ew_then (cw_ret ?_))))))))))
  obtain rfl := Option.some.inj h
  exact ew_ret (res1 Z (.tmp Z)) ⟨_, Z, (hw10.freezeBack hC14 hO), hC14.bx⟩

theorem w_impl_meetSpans {w : World} {M : Nat → Prop} (hG : ARep (RArr 4 RShape) w M shapes ⟨0, 0, none⟩) (hO : ∀ b, M b → b < w.heap.size) {v0p : Value} {a_a : List Span} (h0 : VRep (RSlice RSpan) w M a_a v0p) {v1p : Value} {a_b : List Span} (h1 : VRep (RSlice RSpan) w M a_b v1p) {a_top : Int} {r : (List Span) × Bool} (h : F.impl_meetSpans a_a a_b a_top = some r) :
  Calls Tryd.prog 95 [v0p, v1p, (.int .i64 a_top)].toArray w fun e w' => ∃ v, e = .returned v ∧ (∃ u0 u1, v = .tuple #[u0, u1] ∧ VRep (RSlice RSpan) w' M r.1 u0 ∧ VRep RBool w' M r.2 u1) ∧ BX No w w' := by
 have hC : Cx No w M w M := Cx.start hO (fun _ e => e.elim)
 refine walk (N := 15) Tryd.func95 Z Tryd.ntmps95 Z (cw_seq (cw_region (lw_op Z Z Z (ow_assign Z Z (lw_op Z Z Z (ow_assign Z Z (lw_nil (ew_then (cw_seq (cw_region (lw_op Z Z Z (ow_move Z Z (lw_op Z Z Z (ow_move Z Z (lw_op Z Z Z (ow_move Z Z ?_))))))))))))))))
 replace h := bind_some h
 obtain ⟨x1, hx1, h⟩ := h
 refine lw_op Z Z Z (ow_call Z Z Tryd.call99 (w_impl_sweepSpans__impl_inBoth hG hC.old h0 h1 hx1) fun v1 w1 hv1 => ?_)
 obtain ⟨hv1, hb1⟩ := hv1
 have hl1 := Le.no M hb1
 have hC1 := hC.no hb1
 replace h := bind_some h
 obtain ⟨x2, hx2, h⟩ := h
 refine lw_op Z Z Z (ow_call Z Z Tryd.call110 (w_impl_limitSpans (hG.mono hl1) hC1.old hv1 hx2) fun v2 w2 hv2 => ?_)
 obtain ⟨⟨v3, v4, rfl, hv3, hv4⟩, hb2⟩ := hv2
 have hC2 := hC1.no hb2
 obtain ⟨bb1, hbb1, rfl⟩ := vbool_ex hv4
 refine lw_op Z Z Z (ow_extract Z Z Z (lw_op Z Z Z (ow_extract Z Z Z (lw_op Z Z Z (ow_assign Z Z (lw_op Z Z Z (ow_assign Z Z (lw_nil (ew_then (cw_ret ?_))))))))))
 obtain rfl := Option.some.inj h
 exact ew_ret (res2 Z (.tmp Z) (.tmp Z)) ⟨_, Z, ⟨_, _, Z, (VRep.mono hC2.back hv3), ((vbool_of hbb1))⟩, hC2.bx⟩

theorem w_impl_sides_meet {w : World} {M : Nat → Prop} (hG : ARep (RArr 4 RShape) w M shapes ⟨0, 0, none⟩) (hO : ∀ b, M b → b < w.heap.size) {v0p : Value} {a_s : List (List Span)} (h0 : VRep (RArr 4 (RSlice RSpan)) w M a_s v0p) {v1p : Value} {a_other : List (List Span)} (h1 : VRep (RArr 4 (RSlice RSpan)) w M a_other v1p) {r : (List (List Span)) × Bool} (h : F.impl_sides_meet a_s a_other = some r) :
  Calls Tryd.prog 67 [v0p, v1p].toArray w fun e w' => ∃ v, e = .returned v ∧ (∃ u0 u1, v = .tuple #[u0, u1] ∧ VRep (RArr 4 (RSlice RSpan)) w' M r.1 u0 ∧ VRep RBool w' M r.2 u1) ∧ BX No w w' := by
 have hC : Cx No w M w M := Cx.start hO (fun _ e => e.elim)
 refine walk (N := 33) Tryd.func67 Z Tryd.ntmps67 Z (cw_seq (cw_region (lw_op Z Z Z (ow_box (R := (RArr 4 (RSlice RSpan))) Z Z h0 hC fun p1 w1 hp1 hb1 hl1 hC1 => lw_op Z Z Z (ow_box (R := (RArr 4 (RSlice RSpan))) Z Z (VRep.mono hl1 h1) hC1 fun p2 w2 hp2 hb2 hl2 hC2 => lw_op Z Z Z (ow_alloc Z (Tryd.zeroValue69 _) hC2 fun g1 w3 hg1 hg2 ho1 hb3 hl3 hC3 => ?_))))))
 have hm1 : (Add g1 M) g1 := .inl Z
 have ho2 : OwnA (RArr 4 (RSlice RSpan)) w3 (Add g1 M) g1 69 [([] : List Span), ([] : List Span), ([] : List Span), ([] : List Span)] := OwnA.of ho1 ⟨Z, ⟨_, _, Z, (vslice_nil (R := RSpan) (w := w3) (M := (Add g1 M))).cells, _, _, Z, (vslice_nil (R := RSpan) (w := w3) (M := (Add g1 M))).cells, _, _, Z, (vslice_nil (R := RSpan) (w := w3) (M := (Add g1 M))).cells, _, _, Z, (vslice_nil (R := RSpan) (w := w3) (M := (Add g1 M))).cells, Z⟩⟩
 refine lw_op Z Z Z (ow_assign Z Z (lw_nil (ew_then (cw_seq (cw_region (lw_op Z Z Z (ow_alloc Z (Tryd.zeroValue69 _) hC3 fun g2 w4 hg3 hg4 ho3 hb4 hl4 hC4 => ?_)))))))
 have hn1 := Nat.ne_of_lt (Nat.lt_of_lt_of_le ho2.lt hg3)
 have ho4 := ho2.no hb4 hl4
 have hm2 : (Add g2 (Add g1 M)) g1 := .inr hm1
 have hm3 : (Add g2 (Add g1 M)) g2 := .inl Z
 have ho5 : OwnA (RArr 4 (RSlice RSpan)) w4 (Add g2 (Add g1 M)) g2 69 [([] : List Span), ([] : List Span), ([] : List Span), ([] : List Span)] := OwnA.of ho3 ⟨Z, ⟨_, _, Z, (vslice_nil (R := RSpan) (w := w4) (M := (Add g2 (Add g1 M)))).cells, _, _, Z, (vslice_nil (R := RSpan) (w := w4) (M := (Add g2 (Add g1 M)))).cells, _, _, Z, (vslice_nil (R := RSpan) (w := w4) (M := (Add g2 (Add g1 M)))).cells, _, _, Z, (vslice_nil (R := RSpan) (w := w4) (M := (Add g2 (Add g1 M)))).cells, Z⟩⟩
 refine lw_nil (ew_then (cw_seq (cw_seq (cw_region (lw_op Z Z Z (ow_move Z Z (lw_nil (ew_then ?_))))))))
 replace h := bind_some h
 obtain ⟨lr1, hlr1, h⟩ := h
 refine cw_for hlr1 (fun s a w' => ∃ (M' : Nat → Prop), Fits 33 [(2, (.pointer (some p1))), (3, (.pointer (some p2))), (4, (.pointer (some ⟨g1, 0, none⟩))), (6, (.pointer (some ⟨g2, 0, none⟩))), (10, (.int .i64 s.1))] a ∧ Le w4 (Add g2 (Add g1 M)) w' M' ∧ Cx No w M w' M' ∧ OwnA (RArr 4 (RSlice RSpan)) w' M' g1 69 s.2.1 ∧ M' g1 ∧ OwnA (RArr 4 (RSlice RSpan)) w' M' g2 69 s.2.2 ∧ M' g2) ?_ ?_ ?_
 ·
  intro a ha
  exact ⟨(Add g2 (Add g1 M)), ha.sub ⟨Z, Z, Z, Z, Z, trivial⟩, Le.refl _ _, hC4, ho4, hm2, ho5, hm3⟩
 ·
  rintro ⟨k1, y1, y2⟩ a w5 sr1 ⟨M1, hF1, hl5, hC5, ho6, hm4, ho7, hm5⟩ hb5 hR1
  refine cw_at (E := [(2, (.pointer (some p1))), (3, (.pointer (some p2))), (4, (.pointer (some ⟨g1, 0, none⟩))), (6, (.pointer (some ⟨g2, 0, none⟩))), (10, (.int .i64 k1))]) hF1 (cw_seq (cw_region (lw_op Z Z Z (ow_lss Z Z Z fun bb1 hbb1 => lw_nil (ew_then (cw_seq ?_))))))
  replace hb5 := cond_some hb5
  rcases hb5 with ⟨hc1, hb5⟩ | ⟨hc1, hb5⟩
  ·
   obtain rfl := hbb1.trans hc1
   refine cw_true Z (cw_skip (ew_then (cw_seq (cw_block (cw_seq (cw_region (lw_op Z Z Z (ow_move Z Z (lw_op Z Z Z (ow_assign Z Z (lw_nil (ew_then (cw_seq ?_)))))))))))))
   replace hb5 := bind_some hb5
   obtain ⟨x1, hx1, hb5⟩ := hb5
   replace hb5 := bind_some hb5
   obtain ⟨x2, hx2, hb5⟩ := hb5
   replace hb5 := bind_some hb5
   obtain ⟨x3, hx3, hb5⟩ := hb5
   replace hb5 := bind_some hb5
   obtain ⟨x4, hx4, hb5⟩ := hb5
   have hz1 := ((((hl1.trans hl2).trans hl3).trans hl4).trans hl5)
   have hz2 := (((hl2.trans hl3).trans hl4).trans hl5)
   have hz3 := ((hl3.trans hl4).trans hl5)
   refine cw_sub (E' := [(2, (.pointer (some p1))), (3, (.pointer (some p2))), (4, (.pointer (some ⟨g1, 0, none⟩))), (6, (.pointer (some ⟨g2, 0, none⟩))), (7, (.int .i64 k1)), (10, (.int .i64 k1))]) ⟨Z, Z, Z, Z, Z, Z, trivial⟩ (cw_drawQ 13 [PEq (.int .i64 k1), PA (RSlice RSpan) M1 x1, PV (RSlice RSpan) M1 x1, PEq (.int .i64 k1), PA (RSlice RSpan) M1 x2, PV (RSlice RSpan) M1 x2, PEq (.int .i64 k1), PEq (.int .i64 x3), PT2 (PV (RSlice RSpan) M1 x4.1) (PEq (.bool x4.2)), PT2 (PV (RSlice RSpan) M1 x4.1) (PEq (.bool x4.2)), PV (RSlice RSpan) M1 x4.1, PEq (.bool x4.2), PV (RSlice RSpan) M1 x4.1] (by kernel_rfl) Z (by kernel_rfl) ⟨PEq.mono _, PA.mono _ _ _, PV.mono _ _ _, PEq.mono _, PA.mono _ _ _, PV.mono _ _ _, PEq.mono _, PEq.mono _, (PT2.mono (PV.mono _ _ _) (PEq.mono _)), (PT2.mono (PV.mono _ _ _) (PEq.mono _)), PV.mono _ _ _, PEq.mono _, PV.mono _ _ _, trivial⟩ ⟨?_, ?_, ?_, ?_, ?_, ?_, ?_, ?_, ?_, ?_, ?_, ?_, ?_, trivial⟩ ?_)
   ·
    intro w8 D hS1 hd1
    exact dg_sub (E' := [(7, (.int .i64 k1))]) ⟨Z, trivial⟩ (dg_plain Z (ow_move Z Z ⟨BX.refl _ _, Z⟩))
   ·
    intro w9 D hS2 hd2
    have hl9 := Le.no M1 hS2
    exact dg_sub (E' := [(14, (.int .i64 k1)), (2, (.pointer (some p1)))]) ⟨(dpE hd2 0 Z Z), Z, trivial⟩ (dg_plain Z (ow_indexArr (R := (RSlice RSpan)) Z Z Z (ARep.mono (hz2.trans hl9) hp1) Tryd.underlying69 (Tryd.sizeOf58 _) hx1 fun p5 hp5 => ⟨BX.refl _ _, ⟨_, Z, hp5⟩⟩))
   ·
    intro w10 D hS3 hd3
    have d2 : PA (RSlice RSpan) M1 x1 (D 1) w10 := dpA hd3 1 Z
    obtain ⟨p6, e1, ha1⟩ := d2
    exact dg_sub (E' := [(15, (.pointer (some p6)))]) ⟨(congrArg some e1), trivial⟩ (dg_plain Z (ow_load (R := (RSlice RSpan)) Z Z ha1 (Tryd.sizeOf58 _) (Tryd.isAgg58 _) fun v10 hv10 => ⟨BX.refl _ _, hv10⟩))
   ·
    intro w11 D hS4 hd4
    exact dg_sub (E' := [(7, (.int .i64 k1))]) ⟨Z, trivial⟩ (dg_plain Z (ow_move Z Z ⟨BX.refl _ _, Z⟩))
   ·
    intro w12 D hS5 hd5
    have hl12 := Le.no M1 hS5
    exact dg_sub (E' := [(17, (.int .i64 k1)), (3, (.pointer (some p2)))]) ⟨(dpE hd5 3 Z Z), Z, trivial⟩ (dg_plain Z (ow_indexArr (R := (RSlice RSpan)) Z Z Z (ARep.mono (hz3.trans hl12) hp2) Tryd.underlying69 (Tryd.sizeOf58 _) hx2 fun p7 hp7 => ⟨BX.refl _ _, ⟨_, Z, hp7⟩⟩))
   ·
    intro w13 D hS6 hd6
    have d4 : PA (RSlice RSpan) M1 x2 (D 4) w13 := dpA hd6 4 Z
    obtain ⟨p8, e2, ha2⟩ := d4
    exact dg_sub (E' := [(18, (.pointer (some p8)))]) ⟨(congrArg some e2), trivial⟩ (dg_plain Z (ow_load (R := (RSlice RSpan)) Z Z ha2 (Tryd.sizeOf58 _) (Tryd.isAgg58 _) fun v11 hv11 => ⟨BX.refl _ _, hv11⟩))
   ·
    intro w14 D hS7 hd7
    exact dg_sub (E' := [(7, (.int .i64 k1))]) ⟨Z, trivial⟩ (dg_plain Z (ow_move Z Z ⟨BX.refl _ _, Z⟩))
   ·
    intro w15 D hS8 hd8
    have hl15 := Le.no M1 hS8
    have hC15 := hC5.no hS8
    refine dg_sub (E' := [(20, (.int .i64 k1))]) ⟨(dpE hd8 6 Z Z), trivial⟩ (dg_plain Z (ow_call Z Z Tryd.call69 (w_impl_FieldTop (hG.mono (hz1.trans hl15)) hC15.old hx3) fun v12 w16 hv12 => ?_))
    obtain ⟨hv12, hb8⟩ := hv12
    obtain rfl := vint_eq hv12
    exact ⟨hb8, Z⟩
   ·
    intro w17 D hS9 hd9
    have hl17 := Le.no M1 hS9
    have hC17 := hC5.no hS9
    have d6 : PV (RSlice RSpan) M1 x1 (D 2) w17 := dpA hd9 2 Z
    have d7 : PV (RSlice RSpan) M1 x2 (D 5) w17 := dpA hd9 5 Z
    generalize hq1 : (D 2) = v13 at d6
    generalize hq2 : (D 5) = v14 at d7
    refine dg_sub (E' := [(16, v13), (19, v14), (21, (.int .i64 x3))]) ⟨(congrArg some hq1), (congrArg some hq2), (dpE hd9 7 Z Z), trivial⟩ (dg_plain Z (ow_call Z Z Tryd.call95 (w_impl_meetSpans (hG.mono (hz1.trans hl17)) hC17.old d6 d7 hx4) fun v15 w18 hv15 => ?_))
    obtain ⟨⟨v16, v17, rfl, hv16, hv17⟩, hb9⟩ := hv15
    obtain ⟨bb3, hbb3, rfl⟩ := vbool_ex hv17
    exact ⟨hb9, ⟨_, _, Z, hv16, (congrArg Value.bool hbb3)⟩⟩
   ·
    intro w19 D hS10 hd10
    have d10 : PT2 (PV (RSlice RSpan) M1 x4.1) (PEq (.bool x4.2)) (D 8) w19 := dpA hd10 8 Z
    obtain ⟨v18, v19, e3, hd11, hd12⟩ := d10
    obtain ⟨bb4, hq3, rfl⟩ : ∃ b, b = x4.2 ∧ v19 = .bool b := ⟨_, rfl, hd12⟩
    exact dg_sub (E' := [(22, (.tuple #[v18, (.bool bb4)]))]) ⟨(congrArg some e3), trivial⟩ (dg_plain Z (ow_move Z Z ⟨BX.refl _ _, ⟨_, _, Z, hd11, (congrArg Value.bool hq3)⟩⟩))
   ·
    intro w20 D hS11 hd13
    have d11 : PT2 (PV (RSlice RSpan) M1 x4.1) (PEq (.bool x4.2)) (D 9) w20 := dpA hd13 9 Z
    obtain ⟨v20, v21, e4, hd14, hd15⟩ := d11
    obtain ⟨bb5, hq4, rfl⟩ : ∃ b, b = x4.2 ∧ v21 = .bool b := ⟨_, rfl, hd15⟩
    exact dg_sub (E' := [(13, (.tuple #[v20, (.bool bb5)]))]) ⟨(congrArg some e4), trivial⟩ (dg_plain Z (ow_extract Z Z Z ⟨BX.refl _ _, hd14⟩))
   ·
    intro w21 D hS12 hd16
    have d12 : PT2 (PV (RSlice RSpan) M1 x4.1) (PEq (.bool x4.2)) (D 9) w21 := dpA hd16 9 Z
    obtain ⟨v22, v23, e5, hd17, hd18⟩ := d12
    obtain ⟨bb6, hq5, rfl⟩ : ∃ b, b = x4.2 ∧ v23 = .bool b := ⟨_, rfl, hd18⟩
    exact dg_sub (E' := [(13, (.tuple #[v22, (.bool bb6)]))]) ⟨(congrArg some e5), trivial⟩ (dg_plain Z (ow_extract Z Z Z ⟨BX.refl _ _, (congrArg Value.bool hq5)⟩))
   ·
    intro w22 D hS13 hd19
    have d13 : PV (RSlice RSpan) M1 x4.1 (D 10) w22 := dpA hd19 10 Z
    generalize hq6 : (D 10) = v24 at d13
    exact dg_sub (E' := [(23, v24)]) ⟨(congrArg some hq6), trivial⟩ (dg_plain Z (ow_assign Z Z ⟨BX.refl _ _, d13⟩))
   ·
    intro w23 D hS14 hd20
    have d37 : PEq (.bool x4.2) (D 11) w23 := dpA hd20 11 Z
    have d38 : PV (RSlice RSpan) M1 x4.1 (D 12) w23 := dpA hd20 12 Z
    have hl23 := Le.no M1 hS14
    have hC23 := hC5.no hS14
    have ho42 := ho6.no hS14 hl23
    have ho43 := ho7.no hS14 hl23
    obtain ⟨bb7, hq7, hq8⟩ : ∃ b, b = x4.2 ∧ (D 11) = .bool b := ⟨_, rfl, d37⟩
    generalize hq9 : (D 12) = v25 at d38
    refine lw_sub (E' := [(24, (.bool bb7)), (8, v25), (2, (.pointer (some p1))), (3, (.pointer (some p2))), (4, (.pointer (some ⟨g1, 0, none⟩))), (6, (.pointer (some ⟨g2, 0, none⟩))), (7, (.int .i64 k1)), (10, (.int .i64 k1))]) ⟨(congrArg some hq8), (congrArg some hq9), Z, Z, Z, Z, Z, Z, trivial⟩ (lw_op Z Z Z (ow_assign Z Z (lw_nil (ew_then (cw_seq (cw_seq (cw_region (lw_op Z Z Z (ow_move Z Z (lw_op Z Z Z (ow_not Z Z (lw_nil (ew_then ?_)))))))))))))
    replace hb5 := cond_some hb5
    rcases hb5 with ⟨hc2, hb5⟩ | ⟨hc2, hb5⟩
    ·
     obtain rfl := hq7.trans hc2
     refine cw_false Z (cw_skip (ew_then (cw_region (lw_op Z Z Z (ow_move Z Z (lw_op Z Z Z (ow_move Z Z ?_)))))))
     replace hb5 := bind_some hb5
     obtain ⟨x5, hx5, hb5⟩ := hb5
     refine lw_op Z Z Z (ow_indexA (R := (RSlice RSpan)) Z Z Z Z ho43 Tryd.underlying69 (Tryd.sizeOf58 _) hx5 (lw_op0 Z Z (ow_storeElA (X := No) (R := (RSlice RSpan)) Z Z Z Z ho43 hx5 (Tryd.sizeOf58 _) d38 hm5 (.inl hg4) hC23 fun w24 ho44 hb10 hl24 hC24 => ?_)))
     have ho45 := ho42.go hb10 (fun e => hn1 e) hl24
     refine lw_nil (ew_blockN (ew_then (cw_region (lw_op Z Z Z (ow_add Z Z Z (lw_op Z Z Z (ow_move Z Z (lw_nil ?_))))))))
     have hz4 := ((hl5.trans hl23).trans hl24)
     exact ew_nxt ((W (k1 + 1)), y1, (List.set y2 (k1 : Int).toNat x4.1)) hb5 fun a ha => ⟨M1, (ha.sub ⟨Z, Z, Z, Z, Z, trivial⟩), hz4, hC24, ho45, hm4, ho44, hm5⟩
    ·
     obtain rfl := hq7.trans hc2
     refine cw_true Z (cw_seq (cw_region (lw_op Z Z Z (ow_build (v := .agg #[(.slice none 0 0), (.slice none 0 0), (.slice none 0 0), (.slice none 0 0)]) Z Z (by kernel_rfl) ?_))))
     have hw1 : VRep (RArr 4 (RSlice RSpan)) w23 M1 [([] : List Span), ([] : List Span), ([] : List Span), ([] : List Span)] (.agg #[(.slice none 0 0), (.slice none 0 0), (.slice none 0 0), (.slice none 0 0)]) := ⟨_, ⟨Z, ⟨_, _, Z, (vslice_nil (R := RSpan) (w := w23) (M := M1)).cells, _, _, Z, (vslice_nil (R := RSpan) (w := w23) (M := M1)).cells, _, _, Z, (vslice_nil (R := RSpan) (w := w23) (M := M1)).cells, _, _, Z, (vslice_nil (R := RSpan) (w := w23) (M := M1)).cells, Z⟩⟩, Z⟩
     obtain ⟨cs1, h1, h2⟩ := ho42.own
     refine lw_op0 Z Z (ow_storeA (X := No) (R := (RArr 4 (RSlice RSpan))) Z Z Z Z h1 h2 (Tryd.sizeOf69 _) hw1 hm4 (.inl hg2) hC23 fun w25 ho46 hb11 hl25 hC25 => lw_op Z Z Z (ow_assign Z Z (lw_nil (ew_then (cw_ret (ew_thenR (ew_blockR (ew_thenR (ew_thenR (ew_blockR (ew_brkR (ew_thenR ?_))))))))))))
     have e6 := hR1 _ (Option.some.inj hb5).symm
     subst e6
     obtain rfl := Option.some.inj h
     obtain ⟨v26, hq10, hw2⟩ := resA ho46 (Tryd.sizeOf69 _) (Tryd.isAgg69 _) rfl
     exact ew_ret (res2 Z (.cell Z hq10) (.tmp Z)) ⟨_, Z, ⟨_, _, Z, (hw2.mono hC25.back), ((vbool _))⟩, hC25.bx⟩
  ·
   obtain rfl := hbb1.trans hc1
   exact cw_false Z (cw_exit (ew_thenX (ew_thenX (ew_blockX (ew_brk (k1, y1, y2) hb5 fun a ha => ⟨M1, (ha.sub ⟨Z, Z, Z, Z, Z, trivial⟩), hl5, hC5, ho6, hm4, ho7, hm5⟩)))))
 ·
  rintro ⟨k2, y3, y4⟩ a w26 hlr2 ⟨M2, hF2, hl26, hC26, ho48, hm6, ho49, hm7⟩
  subst hlr2
  refine ew_at (E := [(2, (.pointer (some p1))), (3, (.pointer (some p2))), (4, (.pointer (some ⟨g1, 0, none⟩))), (6, (.pointer (some ⟨g2, 0, none⟩))), (10, (.int .i64 k2))]) hF2 (ew_then (cw_seq (cw_region (lw_op Z Z Z (ow_loadA (R := (RArr 4 (RSlice RSpan))) Z Z Z ho49 (Tryd.sizeOf69 _) (Tryd.isAgg69 _) fun v30 hv30 => ?_)))))
  obtain ⟨cs2, h3, h4⟩ := ho48.own
  refine lw_op0 Z Z (ow_storeA (X := No) (R := (RArr 4 (RSlice RSpan))) Z Z Z Z h3 h4 (Tryd.sizeOf69 _) hv30 hm6 (.inl hg2) hC26 fun w27 ho50 hb12 hl27 hC27 => lw_op Z Z Z (ow_assign Z Z (lw_nil (ew_then (cw_ret ?_)))))
  obtain rfl := Option.some.inj h
  obtain ⟨v31, hq11, hw3⟩ := resA ho50 (Tryd.sizeOf69 _) (Tryd.isAgg69 _) rfl
  exact ew_ret (res2 Z (.cell Z hq11) (.tmp Z)) ⟨_, Z, ⟨_, _, Z, (hw3.mono hC27.back), ((vbool _))⟩, hC27.bx⟩

theorem w_impl_BoxMeet {w : World} {M : Nat → Prop} (hG : ARep (RArr 4 RShape) w M shapes ⟨0, 0, none⟩) (hO : ∀ b, M b → b < w.heap.size) {v0p : Value} {a_a : Box} (h0 : VRep RBox w M a_a v0p) {v1p : Value} {a_b : Box} (h1 : VRep RBox w M a_b v1p) {r : Box} (h : F.impl_BoxMeet a_a a_b = some r) :
  Calls Tryd.prog 28 [v0p, v1p].toArray w fun e w' => ∃ v, e = .returned v ∧ VRep RBox w' M r v ∧ BX No w w' := by
 have hC : Cx No w M w M := Cx.start hO (fun _ e => e.elim)
 refine walk (N := 29) Tryd.func28 Z Tryd.ntmps28 Z (cw_seq (cw_region (lw_op Z Z Z (ow_box (R := RBox) Z Z h0 hC fun p1 w1 hp1 hb1 hl1 hC1 => lw_op Z Z Z (ow_box (R := RBox) Z Z (VRep.mono hl1 h1) hC1 fun p2 w2 hp2 hb2 hl2 hC2 => lw_op Z Z Z (ow_alloc Z (Tryd.zeroValue27 _) hC2 fun g1 w3 hg1 hg2 ho1 hb3 hl3 hC3 => ?_))))))
 have hm1 : (Add g1 M) g1 := .inl Z
 refine lw_nil (ew_then (cw_seq (cw_seq (cw_region (lw_op Z Z Z (ow_load (R := RBox) Z Z (ARep.mono (hl2.trans hl3) hp1) (Tryd.sizeOf27 _) (Tryd.isAgg27 _) fun v1 hv1 => ?_))))))
 replace h := bind_some h
 obtain ⟨x1, hx1, h⟩ := h
 have hz1 := ((hl1.trans hl2).trans hl3)
 refine lw_op Z Z Z (ow_call Z Z Tryd.call30 (w_impl_BoxValid (hG.mono hz1) hC3.old hv1 hx1) fun v2 w4 hv2 => ?_)
 obtain ⟨hv2, hb4⟩ := hv2
 have hl4 := Le.no (Add g1 M) hb4
 have hC4 := hC3.no hb4
 have ho2 := ho1.no hb4
 obtain rfl := vbool_eq hv2
 refine lw_op Z Z Z (ow_not Z Z (lw_op Z Z Z (ow_move Z Z ?_)))
 replace h := cond_some h
 rcases h with ⟨hc1, h⟩ | ⟨hc1, h⟩
 ·
  subst hc1
  refine lw_on Z Z Z Z Z Z (ow_load (R := RBox) Z Z (ARep.mono (hl3.trans hl4) hp2) (Tryd.sizeOf27 _) (Tryd.isAgg27 _) fun v3 hv3 => ?_)
  replace h := bind_some h
  obtain ⟨x2, hx2, h⟩ := h
  refine lw_on Z Z Z Z Z Z (ow_call Z Z Tryd.call30 (w_impl_BoxValid (hG.mono (hz1.trans hl4)) hC4.old hv3 hx2) fun v4 w5 hv4 => ?_)
  obtain ⟨hv4, hb5⟩ := hv4
  have hl5 := Le.no (Add g1 M) hb5
  have hC5 := hC4.no hb5
  have ho3 := ho2.no hb5
  obtain rfl := vbool_eq hv4
  refine lw_on Z Z Z Z Z Z (ow_not Z Z (lw_op Z Z Z (ow_pickF Z Z Z (lw_nil (ew_then ?_)))))
  replace h := cond_some h
  rcases h with ⟨hc2, h⟩ | ⟨hc2, h⟩
  ·
   subst hc2
   refine cw_false Z (cw_skip (ew_then (cw_seq ?_)))
   replace h := bind_some h
   obtain ⟨x3, hx3, h⟩ := h
   replace h := bind_some h
   obtain ⟨x4, hx4, h⟩ := h
   replace h := bind_some h
   obtain ⟨x5, hx5, h⟩ := h
   have hz2 := ((hz1.trans hl4).trans hl5)
   have hz3 := (((hl2.trans hl3).trans hl4).trans hl5)
   have hz4 := ((hl3.trans hl4).trans hl5)
   refine cw_sub (E' := [(2, (.pointer (some p1))), (3, (.pointer (some p2))), (4, (.pointer (some ⟨g1, 0, none⟩)))]) ⟨Z, Z, Z, trivial⟩ (cw_drawL 9 7 5 23 16 [PV RBox (Add g1 M) a_a, PV (RArr 4 (RSlice RSpan)) (Add g1 M) x3, PV RBox (Add g1 M) a_b, PV (RArr 4 (RSlice RSpan)) (Add g1 M) x4, PT2 (PV (RArr 4 (RSlice RSpan)) (Add g1 M) x5.1) (PEq (.bool x5.2)), PT2 (PV (RArr 4 (RSlice RSpan)) (Add g1 M) x5.1) (PEq (.bool x5.2)), PV (RArr 4 (RSlice RSpan)) (Add g1 M) x5.1, PEq (.bool x5.2), PNew w5 69 #[(.slice none 0 0), (.slice none 0 0), (.slice none 0 0), (.slice none 0 0)]] (by kernel_rfl) Z (by kernel_rfl) Z Z Z Z Z Z Z ⟨PV.mono _ _ _, PV.mono _ _ _, PV.mono _ _ _, PV.mono _ _ _, (PT2.mono (PV.mono _ _ _) (PEq.mono _)), (PT2.mono (PV.mono _ _ _) (PEq.mono _)), PV.mono _ _ _, PEq.mono _, PNew.mono _ _ _, trivial⟩ (fun v w h => by obtain ⟨a, b, rfl, ha, hb⟩ := h; exact ⟨b, hb, fun w' => ow_extract Z Z Z ⟨Z, Z⟩⟩) ⟨?_, ?_, ?_, ?_, ?_, ?_, ?_, ?_, ?_, trivial⟩ ?_)
   ·
    intro w10 D hS1 hd1
    have hl10 := Le.no (Add g1 M) hS1
    exact dg_sub (E' := [(2, (.pointer (some p1)))]) ⟨Z, trivial⟩ (dg_plain Z (ow_load (R := RBox) Z Z (ARep.mono (hz3.trans hl10) hp1) (Tryd.sizeOf27 _) (Tryd.isAgg27 _) fun v12 hv12 => ⟨BX.refl _ _, hv12⟩))
   ·
    intro w11 D hS2 hd2
    have hl11 := Le.no (Add g1 M) hS2
    have hC11 := hC5.no hS2
    have d1 : PV RBox (Add g1 M) a_a (D 0) w11 := dpA hd2 0 Z
    generalize hq1 : (D 0) = v13 at d1
    refine dg_sub (E' := [(17, v13)]) ⟨(congrArg some hq1), trivial⟩ (dg_plain Z (ow_call Z Z Tryd.call65 (w_impl_sidesOf (hG.mono (hz2.trans hl11)) hC11.old d1 hx3) fun v14 w12 hv14 => ?_))
    obtain ⟨hv14, hb10⟩ := hv14
    exact ⟨hb10, hv14⟩
   ·
    intro w13 D hS3 hd3
    have hl13 := Le.no (Add g1 M) hS3
    exact dg_sub (E' := [(3, (.pointer (some p2)))]) ⟨Z, trivial⟩ (dg_plain Z (ow_load (R := RBox) Z Z (ARep.mono (hz4.trans hl13) hp2) (Tryd.sizeOf27 _) (Tryd.isAgg27 _) fun v15 hv15 => ⟨BX.refl _ _, hv15⟩))
   ·
    intro w14 D hS4 hd4
    have hl14 := Le.no (Add g1 M) hS4
    have hC14 := hC5.no hS4
    have d2 : PV RBox (Add g1 M) a_b (D 2) w14 := dpA hd4 2 Z
    generalize hq2 : (D 2) = v16 at d2
    refine dg_sub (E' := [(19, v16)]) ⟨(congrArg some hq2), trivial⟩ (dg_plain Z (ow_call Z Z Tryd.call65 (w_impl_sidesOf (hG.mono (hz2.trans hl14)) hC14.old d2 hx4) fun v17 w15 hv17 => ?_))
    obtain ⟨hv17, hb11⟩ := hv17
    exact ⟨hb11, hv17⟩
   ·
    intro w16 D hS5 hd5
    have hl16 := Le.no (Add g1 M) hS5
    have hC16 := hC5.no hS5
    have d4 : PV (RArr 4 (RSlice RSpan)) (Add g1 M) x3 (D 1) w16 := dpA hd5 1 Z
    have d5 : PV (RArr 4 (RSlice RSpan)) (Add g1 M) x4 (D 3) w16 := dpA hd5 3 Z
    generalize hq3 : (D 1) = v18 at d4
    generalize hq4 : (D 3) = v19 at d5
    refine dg_sub (E' := [(18, v18), (20, v19)]) ⟨(congrArg some hq3), (congrArg some hq4), trivial⟩ (dg_plain Z (ow_call Z Z Tryd.call67 (w_impl_sides_meet (hG.mono (hz2.trans hl16)) hC16.old d4 d5 hx5) fun v20 w17 hv20 => ?_))
    obtain ⟨⟨v21, v22, rfl, hv21, hv22⟩, hb12⟩ := hv20
    obtain ⟨bb2, hbb2, rfl⟩ := vbool_ex hv22
    exact ⟨hb12, ⟨_, _, Z, hv21, (congrArg Value.bool hbb2)⟩⟩
   ·
    intro w18 D hS6 hd6
    have d7 : PT2 (PV (RArr 4 (RSlice RSpan)) (Add g1 M) x5.1) (PEq (.bool x5.2)) (D 4) w18 := dpA hd6 4 Z
    obtain ⟨v23, v24, e1, hd7, hd8⟩ := d7
    obtain ⟨bb3, hq5, rfl⟩ : ∃ b, b = x5.2 ∧ v24 = .bool b := ⟨_, rfl, hd8⟩
    exact dg_sub (E' := [(21, (.tuple #[v23, (.bool bb3)]))]) ⟨(congrArg some e1), trivial⟩ (dg_plain Z (ow_move Z Z ⟨BX.refl _ _, ⟨_, _, Z, hd7, (congrArg Value.bool hq5)⟩⟩))
   ·
    intro w19 D hS7 hd9
    have d8 : PT2 (PV (RArr 4 (RSlice RSpan)) (Add g1 M) x5.1) (PEq (.bool x5.2)) (D 5) w19 := dpA hd9 5 Z
    obtain ⟨v25, v26, e2, hd10, hd11⟩ := d8
    obtain ⟨bb4, hq6, rfl⟩ : ∃ b, b = x5.2 ∧ v26 = .bool b := ⟨_, rfl, hd11⟩
    exact dg_sub (E' := [(16, (.tuple #[v25, (.bool bb4)]))]) ⟨(congrArg some e2), trivial⟩ (dg_plain Z (ow_extract Z Z Z ⟨BX.refl _ _, hd10⟩))
   ·
    intro w20 D hS8 hd12
    have d9 : PT2 (PV (RArr 4 (RSlice RSpan)) (Add g1 M) x5.1) (PEq (.bool x5.2)) (D 5) w20 := dpA hd12 5 Z
    obtain ⟨v27, v28, e3, hd13, hd14⟩ := d9
    obtain ⟨bb5, hq7, rfl⟩ : ∃ b, b = x5.2 ∧ v28 = .bool b := ⟨_, rfl, hd14⟩
    exact dg_sub (E' := [(16, (.tuple #[v27, (.bool bb5)]))]) ⟨(congrArg some e3), trivial⟩ (dg_plain Z (ow_extract Z Z Z ⟨BX.refl _ _, (congrArg Value.bool hq7)⟩))
   ·
    intro w21 D hS9 hd15
    have hC21 := hC5.no hS9
    exact dg_sub (E' := []) trivial (dg_plain Z (ow_alloc Z (Tryd.zeroValue69 _) hC21 fun g3 w22 hg5 hg6 ho22 hb13 hl22 hC22 => ⟨hb13, ⟨_, Z, Nat.le_trans hS9.size hg5, ho22⟩⟩))
   ·
    intro w23 D hS10 hd16
    have d16 : PV (RArr 4 (RSlice RSpan)) (Add g1 M) x5.1 (D 6) w23 := dpA hd16 6 Z
    have d17 : PEq (.bool x5.2) (D 7) w23 := dpA hd16 7 Z
    have d18 : PNew w5 69 #[(.slice none 0 0), (.slice none 0 0), (.slice none 0 0), (.slice none 0 0)] (D 8) w23 := dpA hd16 8 Z
    obtain ⟨g4, hq8, hg7, ho25⟩ := d18
    have hg8 := Nat.le_trans hC5.bx.size hg7
    have hl23 := (Le.no (Add g1 M) hS10).add hg7
    have hC23 := (hC5.no hS10).add ho25.lt hg8
    have hn3 := Nat.ne_of_lt (Nat.lt_of_lt_of_le ho3.lt hg7)
    have ho26 := ho3.no hS10
    have hm6 : (Add g4 (Add g1 M)) g1 := .inr hm1
    have hm7 : (Add g4 (Add g1 M)) g4 := .inl Z
    have ho27 : OwnA (RArr 4 (RSlice RSpan)) w23 (Add g4 (Add g1 M)) g4 69 [([] : List Span), ([] : List Span), ([] : List Span), ([] : List Span)] := OwnA.of ho25 ⟨Z, ⟨_, _, Z, (vslice_nil (R := RSpan) (w := w23) (M := (Add g4 (Add g1 M)))).cells, _, _, Z, (vslice_nil (R := RSpan) (w := w23) (M := (Add g4 (Add g1 M)))).cells, _, _, Z, (vslice_nil (R := RSpan) (w := w23) (M := (Add g4 (Add g1 M)))).cells, _, _, Z, (vslice_nil (R := RSpan) (w := w23) (M := (Add g4 (Add g1 M)))).cells, Z⟩⟩
    have d19 : VRep (RArr 4 (RSlice RSpan)) w23 (Add g4 (Add g1 M)) x5.1 (D 6) := sides_free ho25 nil4 d16
    generalize hq9 : (D 6) = v29 at d19
    obtain ⟨bb6, hq10, hq11⟩ : ∃ b, b = x5.2 ∧ (D 7) = .bool b := ⟨_, rfl, d17⟩
    refine ls_sub (E' := [(5, (.pointer (some ⟨g4, 0, none⟩))), (22, v29), (2, (.pointer (some p1))), (3, (.pointer (some p2))), (4, (.pointer (some ⟨g1, 0, none⟩)))]) ⟨(congrArg some hq8), (congrArg some hq9), Z, Z, Z, trivial⟩ ?_
    obtain ⟨cs1, h1, h2⟩ := ho27.own
    refine ls_op0 (by kernel_rfl) Z Z (ow_storeA (X := No) (R := (RArr 4 (RSlice RSpan))) Z Z Z Z h1 h2 (Tryd.sizeOf69 _) d19 hm7 (.inl hg8) hC23 fun w24 ho28 hb14 hl24 hC24 => ?_)
    have ho29 := ho26.go hb14 (fun e => hn3 e)
    refine ls_hang (by kernel_rfl) (lw_sub (E' := [(23, (.bool bb6)), (5, (.pointer (some ⟨g4, 0, none⟩))), (22, v29), (2, (.pointer (some p1))), (3, (.pointer (some p2))), (4, (.pointer (some ⟨g1, 0, none⟩)))]) ⟨(congrArg some hq11), Z, Z, Z, Z, Z, trivial⟩ (lw_op Z Z Z (ow_assign Z Z (lw_nil (ew_then (cw_seq (cw_seq (cw_region (lw_op Z Z Z (ow_move Z Z (lw_op Z Z Z (ow_not Z Z (lw_nil (ew_then ?_))))))))))))))
    replace h := cond_some h
    rcases h with ⟨hc3, h⟩ | ⟨hc3, h⟩
    ·
     obtain rfl := hq10.trans hc3
     refine cw_false Z (cw_skip (ew_then (cw_seq (cw_region (lw_op Z Z Z (ow_loadA (R := (RArr 4 (RSlice RSpan))) Z Z Z ho28 (Tryd.sizeOf69 _) (Tryd.isAgg69 _) fun v30 hv30 => ?_))))))
     replace h := bind_some h
     obtain ⟨x6, hx6, h⟩ := h
     have hz6 := ((hz2.trans hl23).trans hl24)
     refine lw_op Z Z Z (ow_call Z Z Tryd.call57 (w_impl_sides_box (hG.mono hz6) hC24.old hv30 hx6) fun v31 w25 hv31 => ?_)
     obtain ⟨hv31, hb15⟩ := hv31
     have hC25 := hC24.no hb15
     have ho30 := ho29.no hb15
     obtain ⟨A1, c1, rfl, hw1⟩ := open_Box hv31
     refine lw_op0 Z Z (ow_store (X := No) (us := [(.slice A1 x6.Sides.length c1)]) (cs' := #[(.slice A1 x6.Sides.length c1)]) Z Z Z Z ho30 (Tryd.sizeOf27 _) Z Z Z Z hm6 (.inl hg2) Z hC25 fun w26 ho32 hb16 hl26 hC26 => lw_nil (ew_then (cw_ret ?_)))
     have hw2 : VRep RBox w26 (Add g4 (Add g1 M)) ({ Sides := x6.Sides } : Box) (.agg #[(.slice A1 x6.Sides.length c1)]) := shut_Box (VRep.mono hl26 hw1)
     obtain rfl := Option.some.inj h
     exact ew_ret (res1 Z (.cell Z (own_loadVarA ho32 (Tryd.isAgg27 _) (Tryd.sizeOf27 _) Z))) ⟨_, Z, (hw2.mono hC26.back), hC26.bx⟩
    ·
     obtain rfl := hq10.trans hc3
     refine cw_true Z (cw_seq (cw_region (lw_op Z Z Z (ow_build (v := .agg #[(.slice none 0 0)]) Z Z (by kernel_rfl) (lw_op0 Z Z (ow_store (X := No) (us := [(.slice none 0 0)]) (cs' := #[(.slice none 0 0)]) Z Z Z Z ho29 (Tryd.sizeOf27 _) Z Z Z Z hm6 (.inl hg2) Z hC24 fun w27 ho34 hb17 hl27 hC27 => lw_nil (ew_then (cw_ret (ew_thenR ?_)))))))))
     have hw4 : VRep RBox w27 (Add g4 (Add g1 M)) ({ Sides := ([] : List (List Span)) } : Box) (.agg #[(.slice none 0 0)]) := shut_Box (VRep.mono hl27 (vslice_nil (R := (RSlice RSpan)) (w := w24) (M := (Add g4 (Add g1 M)))))
     obtain rfl := Option.some.inj h
     exact ew_ret (res1 Z (.cell Z (own_loadVarA ho34 (Tryd.isAgg27 _) (Tryd.sizeOf27 _) Z))) ⟨_, Z, (hw4.mono hC27.back), hC27.bx⟩
  ·
   subst hc2
   refine cw_true Z (cw_seq (cw_region (lw_op Z Z Z (ow_build (v := .agg #[(.slice none 0 0)]) Z Z (by kernel_rfl) (lw_op0 Z Z (ow_store (X := No) (us := [(.slice none 0 0)]) (cs' := #[(.slice none 0 0)]) Z Z Z Z ho3 (Tryd.sizeOf27 _) Z Z Z Z hm1 (.inl hg2) Z hC5 fun w28 ho36 hb18 hl28 hC28 => lw_nil (ew_then (cw_ret (ew_thenR ?_)))))))))
   have hw6 : VRep RBox w28 (Add g1 M) ({ Sides := ([] : List (List Span)) } : Box) (.agg #[(.slice none 0 0)]) := shut_Box (VRep.mono hl28 (vslice_nil (R := (RSlice RSpan)) (w := w5) (M := (Add g1 M))))
   obtain rfl := Option.some.inj h
   exact ew_ret (res1 Z (.cell Z (own_loadVarA ho36 (Tryd.isAgg27 _) (Tryd.sizeOf27 _) Z))) ⟨_, Z, (hw6.mono hC28.back), hC28.bx⟩
 ·
  subst hc1
  refine lw_off Z Z Z Z Z Z (lw_off Z Z Z Z Z Z (lw_off Z Z Z Z Z Z (lw_op Z Z Z (ow_pickT Z Z Z (lw_nil (ew_then (cw_true Z (cw_seq (cw_region (lw_op Z Z Z (ow_build (v := .agg #[(.slice none 0 0)]) Z Z (by kernel_rfl) (lw_op0 Z Z (ow_store (X := No) (us := [(.slice none 0 0)]) (cs' := #[(.slice none 0 0)]) Z Z Z Z ho2 (Tryd.sizeOf27 _) Z Z Z Z hm1 (.inl hg2) Z hC4 fun w29 ho37 hb19 hl29 hC29 => lw_nil (ew_then (cw_ret (ew_thenR ?_))))))))))))))))
  have hw8 : VRep RBox w29 (Add g1 M) ({ Sides := ([] : List (List Span)) } : Box) (.agg #[(.slice none 0 0)]) := shut_Box (VRep.mono hl29 (vslice_nil (R := (RSlice RSpan)) (w := w4) (M := (Add g1 M))))
  obtain rfl := Option.some.inj h
  exact ew_ret (res1 Z (.cell Z (own_loadVarA ho37 (Tryd.isAgg27 _) (Tryd.sizeOf27 _) Z))) ⟨_, Z, (hw8.mono hC29.back), hC29.bx⟩

theorem w_spec_l1In {w : World} {M : Nat → Prop} (_hG : ARep (RArr 4 RShape) w M shapes ⟨0, 0, none⟩) (hO : ∀ b, M b → b < w.heap.size) {a_n : Int} {a_lo : Int} {a_hi : Int} {r : Bool} (h : F.spec_l1In a_n a_lo a_hi = some r) :
  Calls Tryd.prog 82 [(.int .i64 a_n), (.int .i64 a_lo), (.int .i64 a_hi)].toArray w fun e w' => ∃ v, e = .returned v ∧ VRep RBool w' M r v ∧ BX No w w' := by
 have hC : Cx No w M w M := Cx.start hO (fun _ e => e.elim)
 clear _hG
 refine walk (N := 15) Tryd.func82 Z Tryd.ntmps82 Z (cw_seq (cw_region (lw_op Z Z Z (ow_assign Z Z (lw_nil (ew_then (cw_seq (cw_region (lw_op Z Z Z (ow_move Z Z (lw_op Z Z Z (ow_move Z Z (lw_op Z Z Z (ow_geq Z Z Z fun bb1 hbb1 => lw_op Z Z Z (ow_move Z Z ?_)))))))))))))))
 replace h := cond_some h
 rcases h with ⟨hc1, h⟩ | ⟨hc1, h⟩
 ·
  obtain rfl := hbb1.trans hc1
  refine lw_on Z Z Z Z Z Z (ow_move Z Z (lw_on Z Z Z Z Z Z (ow_move Z Z (lw_on Z Z Z Z Z Z (ow_leq Z Z Z fun bb2 hbb2 => lw_op Z Z Z (ow_pickT Z Z Z (lw_op Z Z Z (ow_assign Z Z (lw_nil (ew_then (cw_ret ?_)))))))))))
  obtain rfl := Option.some.inj h
  exact ew_ret (res1 Z (.tmp Z)) ⟨_, Z, ((vbool_of hbb2)), hC.bx⟩
 ·
  obtain rfl := hbb1.trans hc1
  refine lw_off Z Z Z Z Z Z (lw_off Z Z Z Z Z Z (lw_off Z Z Z Z Z Z (lw_op Z Z Z (ow_pickF Z Z Z (lw_op Z Z Z (ow_assign Z Z (lw_nil (ew_then (cw_ret ?_)))))))))
  obtain rfl := Option.some.inj h
  exact ew_ret (res1 Z (.tmp Z)) ⟨_, Z, ((vbool _)), hC.bx⟩

theorem w_spec_SpansValid {w : World} {M : Nat → Prop} (hG : ARep (RArr 4 RShape) w M shapes ⟨0, 0, none⟩) (hO : ∀ b, M b → b < w.heap.size) {v0p : Value} {a_list : List Span} (h0 : VRep (RSlice RSpan) w M a_list v0p) {a_top : Int} {r : Bool} (h : F.spec_SpansValid a_list a_top = some r) :
  Calls Tryd.prog 80 [v0p, (.int .i64 a_top)].toArray w fun e w' => ∃ v, e = .returned v ∧ VRep RBool w' M r v ∧ BX No w w' := by
 have hC : Cx No w M w M := Cx.start hO (fun _ e => e.elim)
 refine walk (N := 60) Tryd.func80 Z Tryd.ntmps80 Z (cw_seq (cw_region (lw_op Z Z Z (ow_assign Z Z (lw_nil (ew_then (cw_seq (cw_seq (cw_region (lw_op Z Z Z (ow_assign Z Z (lw_nil (ew_then ?_)))))))))))))
 replace h := bind_some h
 obtain ⟨lr1, hlr1, h⟩ := h
 refine cw_for hlr1 (fun s a w' => ∃ (M' : Nat → Prop), Fits 60 [(0, v0p), (1, (.int .i64 a_top)), (5, (.int .i64 s))] a ∧ Le w M w' M' ∧ Cx No w M w' M') ?_ ?_ ?_
 ·
  intro a ha
  exact ⟨M, ha.sub ⟨Z, Z, Z, trivial⟩, Le.refl _ _, hC⟩
 ·
  rintro k1 a w1 sr1 ⟨M1, hF1, hl1, hC1⟩ hb1 hR1
  refine cw_at (E := [(0, v0p), (1, (.int .i64 a_top)), (5, (.int .i64 k1))]) hF1 (cw_seq (cw_seq (cw_region (lw_op Z Z Z (ow_move Z Z (lw_op Z Z Z (ow_move Z Z (lw_op Z Z Z (ow_len Z Z (VRep.mono hl1 h0) Tryd.underlying58 Z (lw_op Z Z Z (ow_lss Z Z Z fun bb1 hbb1 => lw_nil (ew_then ?_))))))))))))
  replace hb1 := cond_some hb1
  rcases hb1 with ⟨hc1, hb1⟩ | ⟨hc1, hb1⟩
  ·
   obtain rfl := hbb1.trans hc1
   refine cw_true Z (cw_skip (ew_then (cw_seq (cw_block (cw_seq ?_)))))
   replace hb1 := bind_some hb1
   obtain ⟨x1, hx1, hb1⟩ := hb1
   replace hb1 := bind_some hb1
   obtain ⟨x2, hx2, hb1⟩ := hb1
   replace hb1 := cond_some hb1
   rcases hb1 with ⟨hc2, hb1⟩ | ⟨hc2, hb1⟩
   ·
    subst hc2
    replace hb1 := bind_some hb1
    obtain ⟨x3, hx3, hb1⟩ := hb1
    replace hb1 := cond_some hb1
    rcases hb1 with ⟨hc3, hb1⟩ | ⟨hc3, hb1⟩
    ·
     subst hc3
     replace hb1 := cond_some hb1
     rcases hb1 with ⟨hc4, hb1⟩ | ⟨hc4, hb1⟩
     ·
      replace hb1 := bind_some hb1
      obtain ⟨x4, hx4, hb1⟩ := hb1
      refine cw_sub (E' := [(0, v0p), (1, (.int .i64 a_top)), (5, (.int .i64 k1))]) ⟨Z, Z, Z, trivial⟩ (cw_drawQ 38 [PV (RSlice RSpan) M1 a_list, PEq (.int .i64 k1), PA RSpan M1 x1, PA RInt M1 x1.Lo, PEq (.int .i64 x1.Lo), PV (RSlice RSpan) M1 a_list, PEq (.int .i64 k1), PA RSpan M1 x1, PA RInt M1 x1.Hi, PEq (.int .i64 x1.Hi), PEq (.bool true), PEq (.bool false), PEq (.bool false), PV (RSlice RSpan) M1 a_list, PEq (.int .i64 k1), PA RSpan M1 x1, PA RInt M1 x1.Hi, PEq (.int .i64 x1.Hi), PEq (.int .i64 a_top), PEq (.bool true), PEq (.bool false), PEq (.bool false), PEq (.bool false), PEq (.int .i64 k1), PEq (.bool true), PEq (.bool true), PV (RSlice RSpan) M1 a_list, PEq (.int .i64 k1), PA RSpan M1 x1, PA RInt M1 x1.Lo, PEq (.int .i64 x1.Lo), PV (RSlice RSpan) M1 a_list, PEq (.int .i64 k1), PEq (.int .i64 (W (k1 - 1))), PA RSpan M1 x4, PA RInt M1 x4.Hi, PEq (.int .i64 x4.Hi), PEq (.int .i64 (W (x4.Hi + 2)))] (by kernel_rfl) Z (by kernel_rfl) ⟨PV.mono _ _ _, PEq.mono _, PA.mono _ _ _, PA.mono _ _ _, PEq.mono _, PV.mono _ _ _, PEq.mono _, PA.mono _ _ _, PA.mono _ _ _, PEq.mono _, PEq.mono _, PEq.mono _, PEq.mono _, PV.mono _ _ _, PEq.mono _, PA.mono _ _ _, PA.mono _ _ _, PEq.mono _, PEq.mono _, PEq.mono _, PEq.mono _, PEq.mono _, PEq.mono _, PEq.mono _, PEq.mono _, PEq.mono _, PV.mono _ _ _, PEq.mono _, PA.mono _ _ _, PA.mono _ _ _, PEq.mono _, PV.mono _ _ _, PEq.mono _, PEq.mono _, PA.mono _ _ _, PA.mono _ _ _, PEq.mono _, PEq.mono _, trivial⟩ ⟨?_, ?_, ?_, ?_, ?_, ?_, ?_, ?_, ?_, ?_, ?_, ?_, ?_, ?_, ?_, ?_, ?_, ?_, ?_, ?_, ?_, ?_, ?_, ?_, ?_, ?_, ?_, ?_, ?_, ?_, ?_, ?_, ?_, ?_, ?_, ?_, ?_, ?_, trivial⟩ ?_)
      ·
       intro w4 D hS1 hd1
       have hl4 := Le.no M1 hS1
       exact dg_sub (E' := [(0, v0p)]) ⟨Z, trivial⟩ (dg_plain Z (ow_move Z Z ⟨BX.refl _ _, (VRep.mono (hl1.trans hl4) h0)⟩))
      ·
       intro w5 D hS2 hd2
       exact dg_sub (E' := [(5, (.int .i64 k1))]) ⟨Z, trivial⟩ (dg_plain Z (ow_move Z Z ⟨BX.refl _ _, Z⟩))
      ·
       intro w6 D hS3 hd3
       have d1 : PV (RSlice RSpan) M1 a_list (D 0) w6 := dpA hd3 0 Z
       generalize hq1 : (D 0) = v9 at d1
       exact dg_sub (E' := [(12, v9), (13, (.int .i64 k1))]) ⟨(congrArg some hq1), (dpE hd3 1 Z Z), trivial⟩ (dg_plain Z (ow_indexSlice (R := RSpan) Z Z Z d1 Tryd.underlying58 (Tryd.sizeOf76 _) hx1 fun p6 hp6 => ⟨BX.refl _ _, ⟨_, Z, hp6⟩⟩))
      ·
       intro w7 D hS4 hd4
       have d3 : PA RSpan M1 x1 (D 2) w7 := dpA hd4 2 Z
       obtain ⟨p7, e1, ha1⟩ := d3
       exact dg_sub (E' := [(14, (.pointer (some p7)))]) ⟨(congrArg some e1), trivial⟩ (dg_plain Z (ow_fieldAddr Z Z Tryd.underlying76 Z (Tryd.sizeOf3 _) ⟨BX.refl _ _, ⟨_, Z, (ha1.fld fld_Span_Lo)⟩⟩))
      ·
       intro w8 D hS5 hd5
       have d4 : PA RInt M1 x1.Lo (D 3) w8 := dpA hd5 3 Z
       obtain ⟨p8, e2, ha2⟩ := d4
       refine dg_sub (E' := [(15, (.pointer (some p8)))]) ⟨(congrArg some e2), trivial⟩ (dg_plain Z (ow_load (R := RInt) Z Z ha2 (Tryd.sizeOf3 _) (Tryd.isAgg3 _) fun v10 hv10 => ?_))
       obtain rfl := vint_eq hv10
       exact ⟨BX.refl _ _, Z⟩
      ·
       intro w9 D hS6 hd6
       have hl9 := Le.no M1 hS6
       exact dg_sub (E' := [(0, v0p)]) ⟨Z, trivial⟩ (dg_plain Z (ow_move Z Z ⟨BX.refl _ _, (VRep.mono (hl1.trans hl9) h0)⟩))
      ·
       intro w10 D hS7 hd7
       exact dg_sub (E' := [(5, (.int .i64 k1))]) ⟨Z, trivial⟩ (dg_plain Z (ow_move Z Z ⟨BX.refl _ _, Z⟩))
      ·
       intro w11 D hS8 hd8
       have d5 : PV (RSlice RSpan) M1 a_list (D 5) w11 := dpA hd8 5 Z
       generalize hq2 : (D 5) = v11 at d5
       exact dg_sub (E' := [(17, v11), (18, (.int .i64 k1))]) ⟨(congrArg some hq2), (dpE hd8 6 Z Z), trivial⟩ (dg_plain Z (ow_indexSlice (R := RSpan) Z Z Z d5 Tryd.underlying58 (Tryd.sizeOf76 _) hx1 fun p9 hp9 => ⟨BX.refl _ _, ⟨_, Z, hp9⟩⟩))
      ·
       intro w12 D hS9 hd9
       have d7 : PA RSpan M1 x1 (D 7) w12 := dpA hd9 7 Z
       obtain ⟨p10, e3, ha3⟩ := d7
       exact dg_sub (E' := [(19, (.pointer (some p10)))]) ⟨(congrArg some e3), trivial⟩ (dg_plain Z (ow_fieldAddr Z Z Tryd.underlying76 Z (Tryd.sizeOf3 _) ⟨BX.refl _ _, ⟨_, Z, (ha3.fld fld_Span_Hi)⟩⟩))
      ·
       intro w13 D hS10 hd10
       have d8 : PA RInt M1 x1.Hi (D 8) w13 := dpA hd10 8 Z
       obtain ⟨p11, e4, ha4⟩ := d8
       refine dg_sub (E' := [(20, (.pointer (some p11)))]) ⟨(congrArg some e4), trivial⟩ (dg_plain Z (ow_load (R := RInt) Z Z ha4 (Tryd.sizeOf3 _) (Tryd.isAgg3 _) fun v12 hv12 => ?_))
       obtain rfl := vint_eq hv12
       exact ⟨BX.refl _ _, Z⟩
      ·
       intro w14 D hS11 hd11
       have hl14 := Le.no M1 hS11
       have hC14 := hC1.no hS11
       refine dg_sub (E' := [(16, (.int .i64 x1.Lo)), (21, (.int .i64 x1.Hi))]) ⟨(dpE hd11 4 Z Z), (dpE hd11 9 Z Z), trivial⟩ (dg_plain Z (ow_call Z Z Tryd.call82 (w_spec_l1In (hG.mono (hl1.trans hl14)) hC14.old hx2) fun v13 w15 hv13 => ?_))
       obtain ⟨hv13, hb4⟩ := hv13
       obtain rfl := vbool_eq hv13
       exact ⟨hb4, Z⟩
      ·
       intro w16 D hS12 hd12
       exact dg_sub (E' := [(22, (.bool true))]) ⟨(dpE hd12 10 Z Z), trivial⟩ (dg_plain Z (ow_not Z Z ⟨BX.refl _ _, Z⟩))
      ·
       intro w17 D hS13 hd13
       exact dg_sub (E' := [(23, (.bool false))]) ⟨(dpE hd13 11 Z Z), trivial⟩ (dg_plain Z (ow_move Z Z ⟨BX.refl _ _, Z⟩))
      ·
       intro w18 D hS14 hd14
       have hl18 := Le.no M1 hS14
       exact dg_sub (E' := [(24, (.bool false)), (0, v0p)]) ⟨(dpE hd14 12 Z Z), Z, trivial⟩ (dg_on Z Z Z Z (ow_move Z Z ⟨BX.refl _ _, (VRep.mono (hl1.trans hl18) h0)⟩))
      ·
       intro w19 D hS15 hd15
       exact dg_sub (E' := [(24, (.bool false)), (5, (.int .i64 k1))]) ⟨(dpE hd15 12 Z Z), Z, trivial⟩ (dg_on Z Z Z Z (ow_move Z Z ⟨BX.refl _ _, Z⟩))
      ·
       intro w20 D hS16 hd16
       have d16 : PV (RSlice RSpan) M1 a_list (D 13) w20 := dpA hd16 13 Z
       generalize hq3 : (D 13) = v14 at d16
       exact dg_sub (E' := [(25, v14), (26, (.int .i64 k1)), (24, (.bool false))]) ⟨(congrArg some hq3), (dpE hd16 14 Z Z), (dpE hd16 12 Z Z), trivial⟩ (dg_on Z Z Z Z (ow_indexSlice (R := RSpan) Z Z Z d16 Tryd.underlying58 (Tryd.sizeOf76 _) hx1 fun p12 hp12 => ⟨BX.refl _ _, ⟨_, Z, hp12⟩⟩))
      ·
       intro w21 D hS17 hd17
       have d19 : PA RSpan M1 x1 (D 15) w21 := dpA hd17 15 Z
       obtain ⟨p13, e5, ha5⟩ := d19
       exact dg_sub (E' := [(27, (.pointer (some p13))), (24, (.bool false))]) ⟨(congrArg some e5), (dpE hd17 12 Z Z), trivial⟩ (dg_on Z Z Z Z (ow_fieldAddr Z Z Tryd.underlying76 Z (Tryd.sizeOf3 _) ⟨BX.refl _ _, ⟨_, Z, (ha5.fld fld_Span_Hi)⟩⟩))
      ·
       intro w22 D hS18 hd18
       have d21 : PA RInt M1 x1.Hi (D 16) w22 := dpA hd18 16 Z
       obtain ⟨p14, e6, ha6⟩ := d21
       refine dg_sub (E' := [(28, (.pointer (some p14))), (24, (.bool false))]) ⟨(congrArg some e6), (dpE hd18 12 Z Z), trivial⟩ (dg_on Z Z Z Z (ow_load (R := RInt) Z Z ha6 (Tryd.sizeOf3 _) (Tryd.isAgg3 _) fun v15 hv15 => ?_))
       obtain rfl := vint_eq hv15
       exact ⟨BX.refl _ _, Z⟩
      ·
       intro w23 D hS19 hd19
       exact dg_sub (E' := [(24, (.bool false)), (1, (.int .i64 a_top))]) ⟨(dpE hd19 12 Z Z), Z, trivial⟩ (dg_on Z Z Z Z (ow_move Z Z ⟨BX.refl _ _, Z⟩))
      ·
       intro w24 D hS20 hd20
       have hl24 := Le.no M1 hS20
       have hC24 := hC1.no hS20
       refine dg_sub (E' := [(29, (.int .i64 x1.Hi)), (30, (.int .i64 a_top)), (24, (.bool false))]) ⟨(dpE hd20 17 Z Z), (dpE hd20 18 Z Z), (dpE hd20 12 Z Z), trivial⟩ (dg_on Z Z Z Z (ow_call Z Z Tryd.call82 (w_spec_l1In (hG.mono (hl1.trans hl24)) hC24.old hx3) fun v16 w25 hv16 => ?_))
       obtain ⟨hv16, hb5⟩ := hv16
       obtain rfl := vbool_eq hv16
       exact ⟨hb5, Z⟩
      ·
       intro w26 D hS21 hd21
       exact dg_sub (E' := [(31, (.bool true)), (24, (.bool false))]) ⟨(dpE hd21 19 Z Z), (dpE hd21 12 Z Z), trivial⟩ (dg_on Z Z Z Z (ow_not Z Z ⟨BX.refl _ _, Z⟩))
      ·
       intro w27 D hS22 hd22
       exact dg_sub (E' := [(24, (.bool false)), (32, (.bool false))]) ⟨(dpE hd22 12 Z Z), (dpE hd22 20 Z Z), trivial⟩ (dg_plain Z (ow_pickF Z Z Z ⟨BX.refl _ _, Z⟩))
      ·
       intro w28 D hS23 hd23
       exact dg_sub (E' := [(33, (.bool false))]) ⟨(dpE hd23 21 Z Z), trivial⟩ (dg_plain Z (ow_move Z Z ⟨BX.refl _ _, Z⟩))
      ·
       intro w29 D hS24 hd24
       exact dg_sub (E' := [(34, (.bool false)), (5, (.int .i64 k1))]) ⟨(dpE hd24 22 Z Z), Z, trivial⟩ (dg_on Z Z Z Z (ow_move Z Z ⟨BX.refl _ _, Z⟩))
      ·
       intro w30 D hS25 hd25
       refine dg_sub (E' := [(35, (.int .i64 k1)), (34, (.bool false))]) ⟨(dpE hd25 23 Z Z), (dpE hd25 22 Z Z), trivial⟩ (dg_on Z Z Z Z (ow_gtr Z Z Z fun bb3 hbb3 => ?_))
       obtain rfl := hbb3.trans hc4
       exact ⟨BX.refl _ _, Z⟩
      ·
       intro w31 D hS26 hd26
       exact dg_sub (E' := [(36, (.bool true)), (34, (.bool false))]) ⟨(dpE hd26 24 Z Z), (dpE hd26 22 Z Z), trivial⟩ (dg_on Z Z Z Z (ow_move Z Z ⟨BX.refl _ _, Z⟩))
      ·
       intro w32 D hS27 hd27
       have hl32 := Le.no M1 hS27
       exact dg_sub (E' := [(37, (.bool true)), (0, v0p)]) ⟨(dpE hd27 25 Z Z), Z, trivial⟩ (dg_on Z Z Z Z (ow_move Z Z ⟨BX.refl _ _, (VRep.mono (hl1.trans hl32) h0)⟩))
      ·
       intro w33 D hS28 hd28
       exact dg_sub (E' := [(37, (.bool true)), (5, (.int .i64 k1))]) ⟨(dpE hd28 25 Z Z), Z, trivial⟩ (dg_on Z Z Z Z (ow_move Z Z ⟨BX.refl _ _, Z⟩))
      ·
       intro w34 D hS29 hd29
       have d42 : PV (RSlice RSpan) M1 a_list (D 26) w34 := dpA hd29 26 Z
       generalize hq4 : (D 26) = v17 at d42
       exact dg_sub (E' := [(38, v17), (39, (.int .i64 k1)), (37, (.bool true))]) ⟨(congrArg some hq4), (dpE hd29 27 Z Z), (dpE hd29 25 Z Z), trivial⟩ (dg_on Z Z Z Z (ow_indexSlice (R := RSpan) Z Z Z d42 Tryd.underlying58 (Tryd.sizeOf76 _) hx1 fun p15 hp15 => ⟨BX.refl _ _, ⟨_, Z, hp15⟩⟩))
      ·
       intro w35 D hS30 hd30
       have d45 : PA RSpan M1 x1 (D 28) w35 := dpA hd30 28 Z
       obtain ⟨p16, e7, ha7⟩ := d45
       exact dg_sub (E' := [(40, (.pointer (some p16))), (37, (.bool true))]) ⟨(congrArg some e7), (dpE hd30 25 Z Z), trivial⟩ (dg_on Z Z Z Z (ow_fieldAddr Z Z Tryd.underlying76 Z (Tryd.sizeOf3 _) ⟨BX.refl _ _, ⟨_, Z, (ha7.fld fld_Span_Lo)⟩⟩))
      ·
       intro w36 D hS31 hd31
       have d47 : PA RInt M1 x1.Lo (D 29) w36 := dpA hd31 29 Z
       obtain ⟨p17, e8, ha8⟩ := d47
       refine dg_sub (E' := [(41, (.pointer (some p17))), (37, (.bool true))]) ⟨(congrArg some e8), (dpE hd31 25 Z Z), trivial⟩ (dg_on Z Z Z Z (ow_load (R := RInt) Z Z ha8 (Tryd.sizeOf3 _) (Tryd.isAgg3 _) fun v18 hv18 => ?_))
       obtain rfl := vint_eq hv18
       exact ⟨BX.refl _ _, Z⟩
      ·
       intro w37 D hS32 hd32
       have hl37 := Le.no M1 hS32
       exact dg_sub (E' := [(37, (.bool true)), (0, v0p)]) ⟨(dpE hd32 25 Z Z), Z, trivial⟩ (dg_on Z Z Z Z (ow_move Z Z ⟨BX.refl _ _, (VRep.mono (hl1.trans hl37) h0)⟩))
      ·
       intro w38 D hS33 hd33
       exact dg_sub (E' := [(37, (.bool true)), (5, (.int .i64 k1))]) ⟨(dpE hd33 25 Z Z), Z, trivial⟩ (dg_on Z Z Z Z (ow_move Z Z ⟨BX.refl _ _, Z⟩))
      ·
       intro w39 D hS34 hd34
       exact dg_sub (E' := [(44, (.int .i64 k1)), (37, (.bool true))]) ⟨(dpE hd34 32 Z Z), (dpE hd34 25 Z Z), trivial⟩ (dg_on Z Z Z Z (ow_sub Z Z Z ⟨BX.refl _ _, Z⟩))
      ·
       intro w40 D hS35 hd35
       have d53 : PV (RSlice RSpan) M1 a_list (D 31) w40 := dpA hd35 31 Z
       generalize hq5 : (D 31) = v19 at d53
       exact dg_sub (E' := [(43, v19), (45, (.int .i64 (W (k1 - 1)))), (37, (.bool true))]) ⟨(congrArg some hq5), (dpE hd35 33 Z Z), (dpE hd35 25 Z Z), trivial⟩ (dg_on Z Z Z Z (ow_indexSlice (R := RSpan) Z Z Z d53 Tryd.underlying58 (Tryd.sizeOf76 _) hx4 fun p18 hp18 => ⟨BX.refl _ _, ⟨_, Z, hp18⟩⟩))
      ·
       intro w41 D hS36 hd36
       have d56 : PA RSpan M1 x4 (D 34) w41 := dpA hd36 34 Z
       obtain ⟨p19, e9, ha9⟩ := d56
       exact dg_sub (E' := [(46, (.pointer (some p19))), (37, (.bool true))]) ⟨(congrArg some e9), (dpE hd36 25 Z Z), trivial⟩ (dg_on Z Z Z Z (ow_fieldAddr Z Z Tryd.underlying76 Z (Tryd.sizeOf3 _) ⟨BX.refl _ _, ⟨_, Z, (ha9.fld fld_Span_Hi)⟩⟩))
      ·
       intro w42 D hS37 hd37
       have d58 : PA RInt M1 x4.Hi (D 35) w42 := dpA hd37 35 Z
       obtain ⟨p20, e10, ha10⟩ := d58
       refine dg_sub (E' := [(47, (.pointer (some p20))), (37, (.bool true))]) ⟨(congrArg some e10), (dpE hd37 25 Z Z), trivial⟩ (dg_on Z Z Z Z (ow_load (R := RInt) Z Z ha10 (Tryd.sizeOf3 _) (Tryd.isAgg3 _) fun v20 hv20 => ?_))
       obtain rfl := vint_eq hv20
       exact ⟨BX.refl _ _, Z⟩
      ·
       intro w43 D hS38 hd38
       exact dg_sub (E' := [(48, (.int .i64 x4.Hi)), (37, (.bool true))]) ⟨(dpE hd38 36 Z Z), (dpE hd38 25 Z Z), trivial⟩ (dg_on Z Z Z Z (ow_add Z Z Z ⟨BX.refl _ _, Z⟩))
      ·
       intro w44 D hS39 hd39
       have hl44 := Le.no M1 hS39
       have hC44 := hC1.no hS39
       refine lw_sub (E' := [(34, (.bool false)), (37, (.bool true)), (42, (.int .i64 x1.Lo)), (49, (.int .i64 (W (x4.Hi + 2)))), (0, v0p), (1, (.int .i64 a_top)), (5, (.int .i64 k1))]) ⟨(dpE hd39 22 Z Z), (dpE hd39 25 Z Z), (dpE hd39 30 Z Z), (dpE hd39 37 Z Z), Z, Z, Z, trivial⟩ (lw_on Z Z Z Z Z Z (ow_lss Z Z Z fun bb4 hbb4 => lw_on Z Z Z Z Z Z (ow_pickT Z Z Z (lw_op Z Z Z (ow_pickF Z Z Z (lw_nil (ew_then ?_)))))))
       replace hb1 := cond_some hb1
       rcases hb1 with ⟨hc5, hb1⟩ | ⟨hc5, hb1⟩
       ·
        obtain rfl := hbb4.trans hc5
        refine cw_true Z (cw_seq (cw_region (lw_op Z Z Z (ow_assign Z Z (lw_nil (ew_then (cw_ret (ew_blockR (ew_thenR (ew_thenR (ew_blockR (ew_brkR (ew_thenR ?_)))))))))))))
        have e11 := hR1 _ (Option.some.inj hb1).symm
        subst e11
        obtain rfl := Option.some.inj h
        exact ew_ret (res1 Z (.tmp Z)) ⟨_, Z, ((vbool _)), hC44.bx⟩
       ·
        obtain rfl := hbb4.trans hc5
        exact cw_false Z (cw_skip (ew_blockN (ew_then (cw_region (lw_op Z Z Z (ow_move Z Z (lw_op Z Z Z (ow_add Z Z Z (lw_op Z Z Z (ow_assign Z Z (lw_nil (ew_nxt (W (k1 + 1)) hb1 fun a ha => ⟨M1, (ha.sub ⟨Z, Z, Z, trivial⟩), (hl1.trans hl44), hC44⟩))))))))))))
     ·
      refine cw_sub (E' := [(0, v0p), (1, (.int .i64 a_top)), (5, (.int .i64 k1))]) ⟨Z, Z, Z, trivial⟩ (cw_drawQ 38 [PV (RSlice RSpan) M1 a_list, PEq (.int .i64 k1), PA RSpan M1 x1, PA RInt M1 x1.Lo, PEq (.int .i64 x1.Lo), PV (RSlice RSpan) M1 a_list, PEq (.int .i64 k1), PA RSpan M1 x1, PA RInt M1 x1.Hi, PEq (.int .i64 x1.Hi), PEq (.bool true), PEq (.bool false), PEq (.bool false), PV (RSlice RSpan) M1 a_list, PEq (.int .i64 k1), PA RSpan M1 x1, PA RInt M1 x1.Hi, PEq (.int .i64 x1.Hi), PEq (.int .i64 a_top), PEq (.bool true), PEq (.bool false), PEq (.bool false), PEq (.bool false), PEq (.int .i64 k1), PEq (.bool false), PEq (.bool false), PEq undef, PEq undef, PEq undef, PEq undef, PEq undef, PEq undef, PEq undef, PEq undef, PEq undef, PEq undef, PEq undef, PEq undef] (by kernel_rfl) Z (by kernel_rfl) ⟨PV.mono _ _ _, PEq.mono _, PA.mono _ _ _, PA.mono _ _ _, PEq.mono _, PV.mono _ _ _, PEq.mono _, PA.mono _ _ _, PA.mono _ _ _, PEq.mono _, PEq.mono _, PEq.mono _, PEq.mono _, PV.mono _ _ _, PEq.mono _, PA.mono _ _ _, PA.mono _ _ _, PEq.mono _, PEq.mono _, PEq.mono _, PEq.mono _, PEq.mono _, PEq.mono _, PEq.mono _, PEq.mono _, PEq.mono _, PEq.mono _, PEq.mono _, PEq.mono _, PEq.mono _, PEq.mono _, PEq.mono _, PEq.mono _, PEq.mono _, PEq.mono _, PEq.mono _, PEq.mono _, PEq.mono _, trivial⟩ ⟨?_, ?_, ?_, ?_, ?_, ?_, ?_, ?_, ?_, ?_, ?_, ?_, ?_, ?_, ?_, ?_, ?_, ?_, ?_, ?_, ?_, ?_, ?_, ?_, ?_, ?_, ?_, ?_, ?_, ?_, ?_, ?_, ?_, ?_, ?_, ?_, ?_, ?_, trivial⟩ ?_)
      ·
       intro w45 D hS40 hd40
       have hl45 := Le.no M1 hS40
       exact dg_sub (E' := [(0, v0p)]) ⟨Z, trivial⟩ (dg_plain Z (ow_move Z Z ⟨BX.refl _ _, (VRep.mono (hl1.trans hl45) h0)⟩))
      ·
       intro w46 D hS41 hd41
       exact dg_sub (E' := [(5, (.int .i64 k1))]) ⟨Z, trivial⟩ (dg_plain Z (ow_move Z Z ⟨BX.refl _ _, Z⟩))
      ·
       intro w47 D hS42 hd42
       have d100 : PV (RSlice RSpan) M1 a_list (D 0) w47 := dpA hd42 0 Z
       generalize hq6 : (D 0) = v21 at d100
       exact dg_sub (E' := [(12, v21), (13, (.int .i64 k1))]) ⟨(congrArg some hq6), (dpE hd42 1 Z Z), trivial⟩ (dg_plain Z (ow_indexSlice (R := RSpan) Z Z Z d100 Tryd.underlying58 (Tryd.sizeOf76 _) hx1 fun p21 hp21 => ⟨BX.refl _ _, ⟨_, Z, hp21⟩⟩))
      ·
       intro w48 D hS43 hd43
       have d102 : PA RSpan M1 x1 (D 2) w48 := dpA hd43 2 Z
       obtain ⟨p22, e12, ha11⟩ := d102
       exact dg_sub (E' := [(14, (.pointer (some p22)))]) ⟨(congrArg some e12), trivial⟩ (dg_plain Z (ow_fieldAddr Z Z Tryd.underlying76 Z (Tryd.sizeOf3 _) ⟨BX.refl _ _, ⟨_, Z, (ha11.fld fld_Span_Lo)⟩⟩))
      ·
       intro w49 D hS44 hd44
       have d103 : PA RInt M1 x1.Lo (D 3) w49 := dpA hd44 3 Z
       obtain ⟨p23, e13, ha12⟩ := d103
       refine dg_sub (E' := [(15, (.pointer (some p23)))]) ⟨(congrArg some e13), trivial⟩ (dg_plain Z (ow_load (R := RInt) Z Z ha12 (Tryd.sizeOf3 _) (Tryd.isAgg3 _) fun v22 hv22 => ?_))
       obtain rfl := vint_eq hv22
       exact ⟨BX.refl _ _, Z⟩
      ·
       intro w50 D hS45 hd45
       have hl50 := Le.no M1 hS45
       exact dg_sub (E' := [(0, v0p)]) ⟨Z, trivial⟩ (dg_plain Z (ow_move Z Z ⟨BX.refl _ _, (VRep.mono (hl1.trans hl50) h0)⟩))
      ·
       intro w51 D hS46 hd46
       exact dg_sub (E' := [(5, (.int .i64 k1))]) ⟨Z, trivial⟩ (dg_plain Z (ow_move Z Z ⟨BX.refl _ _, Z⟩))
      ·
       intro w52 D hS47 hd47
       have d104 : PV (RSlice RSpan) M1 a_list (D 5) w52 := dpA hd47 5 Z
       generalize hq7 : (D 5) = v23 at d104
       exact dg_sub (E' := [(17, v23), (18, (.int .i64 k1))]) ⟨(congrArg some hq7), (dpE hd47 6 Z Z), trivial⟩ (dg_plain Z (ow_indexSlice (R := RSpan) Z Z Z d104 Tryd.underlying58 (Tryd.sizeOf76 _) hx1 fun p24 hp24 => ⟨BX.refl _ _, ⟨_, Z, hp24⟩⟩))
      ·
       intro w53 D hS48 hd48
       have d106 : PA RSpan M1 x1 (D 7) w53 := dpA hd48 7 Z
       obtain ⟨p25, e14, ha13⟩ := d106
       exact dg_sub (E' := [(19, (.pointer (some p25)))]) ⟨(congrArg some e14), trivial⟩ (dg_plain Z (ow_fieldAddr Z Z Tryd.underlying76 Z (Tryd.sizeOf3 _) ⟨BX.refl _ _, ⟨_, Z, (ha13.fld fld_Span_Hi)⟩⟩))
      ·
       intro w54 D hS49 hd49
       have d107 : PA RInt M1 x1.Hi (D 8) w54 := dpA hd49 8 Z
       obtain ⟨p26, e15, ha14⟩ := d107
       refine dg_sub (E' := [(20, (.pointer (some p26)))]) ⟨(congrArg some e15), trivial⟩ (dg_plain Z (ow_load (R := RInt) Z Z ha14 (Tryd.sizeOf3 _) (Tryd.isAgg3 _) fun v24 hv24 => ?_))
       obtain rfl := vint_eq hv24
       exact ⟨BX.refl _ _, Z⟩
      ·
       intro w55 D hS50 hd50
       have hl55 := Le.no M1 hS50
       have hC55 := hC1.no hS50
       refine dg_sub (E' := [(16, (.int .i64 x1.Lo)), (21, (.int .i64 x1.Hi))]) ⟨(dpE hd50 4 Z Z), (dpE hd50 9 Z Z), trivial⟩ (dg_plain Z (ow_call Z Z Tryd.call82 (w_spec_l1In (hG.mono (hl1.trans hl55)) hC55.old hx2) fun v25 w56 hv25 => ?_))
       obtain ⟨hv25, hb6⟩ := hv25
       obtain rfl := vbool_eq hv25
       exact ⟨hb6, Z⟩
      ·
       intro w57 D hS51 hd51
       exact dg_sub (E' := [(22, (.bool true))]) ⟨(dpE hd51 10 Z Z), trivial⟩ (dg_plain Z (ow_not Z Z ⟨BX.refl _ _, Z⟩))
      ·
       intro w58 D hS52 hd52
       exact dg_sub (E' := [(23, (.bool false))]) ⟨(dpE hd52 11 Z Z), trivial⟩ (dg_plain Z (ow_move Z Z ⟨BX.refl _ _, Z⟩))
      ·
       intro w59 D hS53 hd53
       have hl59 := Le.no M1 hS53
       exact dg_sub (E' := [(24, (.bool false)), (0, v0p)]) ⟨(dpE hd53 12 Z Z), Z, trivial⟩ (dg_on Z Z Z Z (ow_move Z Z ⟨BX.refl _ _, (VRep.mono (hl1.trans hl59) h0)⟩))
      ·
       intro w60 D hS54 hd54
       exact dg_sub (E' := [(24, (.bool false)), (5, (.int .i64 k1))]) ⟨(dpE hd54 12 Z Z), Z, trivial⟩ (dg_on Z Z Z Z (ow_move Z Z ⟨BX.refl _ _, Z⟩))
      ·
       intro w61 D hS55 hd55
       have d115 : PV (RSlice RSpan) M1 a_list (D 13) w61 := dpA hd55 13 Z
       generalize hq8 : (D 13) = v26 at d115
       exact dg_sub (E' := [(25, v26), (26, (.int .i64 k1)), (24, (.bool false))]) ⟨(congrArg some hq8), (dpE hd55 14 Z Z), (dpE hd55 12 Z Z), trivial⟩ (dg_on Z Z Z Z (ow_indexSlice (R := RSpan) Z Z Z d115 Tryd.underlying58 (Tryd.sizeOf76 _) hx1 fun p27 hp27 => ⟨BX.refl _ _, ⟨_, Z, hp27⟩⟩))
      ·
       intro w62 D hS56 hd56
       have d118 : PA RSpan M1 x1 (D 15) w62 := dpA hd56 15 Z
       obtain ⟨p28, e16, ha15⟩ := d118
       exact dg_sub (E' := [(27, (.pointer (some p28))), (24, (.bool false))]) ⟨(congrArg some e16), (dpE hd56 12 Z Z), trivial⟩ (dg_on Z Z Z Z (ow_fieldAddr Z Z Tryd.underlying76 Z (Tryd.sizeOf3 _) ⟨BX.refl _ _, ⟨_, Z, (ha15.fld fld_Span_Hi)⟩⟩))
      ·
       intro w63 D hS57 hd57
       have d120 : PA RInt M1 x1.Hi (D 16) w63 := dpA hd57 16 Z
       obtain ⟨p29, e17, ha16⟩ := d120
       refine dg_sub (E' := [(28, (.pointer (some p29))), (24, (.bool false))]) ⟨(congrArg some e17), (dpE hd57 12 Z Z), trivial⟩ (dg_on Z Z Z Z (ow_load (R := RInt) Z Z ha16 (Tryd.sizeOf3 _) (Tryd.isAgg3 _) fun v27 hv27 => ?_))
       obtain rfl := vint_eq hv27
       exact ⟨BX.refl _ _, Z⟩
      ·
       intro w64 D hS58 hd58
       exact dg_sub (E' := [(24, (.bool false)), (1, (.int .i64 a_top))]) ⟨(dpE hd58 12 Z Z), Z, trivial⟩ (dg_on Z Z Z Z (ow_move Z Z ⟨BX.refl _ _, Z⟩))
      ·
       intro w65 D hS59 hd59
       have hl65 := Le.no M1 hS59
       have hC65 := hC1.no hS59
       refine dg_sub (E' := [(29, (.int .i64 x1.Hi)), (30, (.int .i64 a_top)), (24, (.bool false))]) ⟨(dpE hd59 17 Z Z), (dpE hd59 18 Z Z), (dpE hd59 12 Z Z), trivial⟩ (dg_on Z Z Z Z (ow_call Z Z Tryd.call82 (w_spec_l1In (hG.mono (hl1.trans hl65)) hC65.old hx3) fun v28 w66 hv28 => ?_))
       obtain ⟨hv28, hb7⟩ := hv28
       obtain rfl := vbool_eq hv28
       exact ⟨hb7, Z⟩
      ·
       intro w67 D hS60 hd60
       exact dg_sub (E' := [(31, (.bool true)), (24, (.bool false))]) ⟨(dpE hd60 19 Z Z), (dpE hd60 12 Z Z), trivial⟩ (dg_on Z Z Z Z (ow_not Z Z ⟨BX.refl _ _, Z⟩))
      ·
       intro w68 D hS61 hd61
       exact dg_sub (E' := [(24, (.bool false)), (32, (.bool false))]) ⟨(dpE hd61 12 Z Z), (dpE hd61 20 Z Z), trivial⟩ (dg_plain Z (ow_pickF Z Z Z ⟨BX.refl _ _, Z⟩))
      ·
       intro w69 D hS62 hd62
       exact dg_sub (E' := [(33, (.bool false))]) ⟨(dpE hd62 21 Z Z), trivial⟩ (dg_plain Z (ow_move Z Z ⟨BX.refl _ _, Z⟩))
      ·
       intro w70 D hS63 hd63
       exact dg_sub (E' := [(34, (.bool false)), (5, (.int .i64 k1))]) ⟨(dpE hd63 22 Z Z), Z, trivial⟩ (dg_on Z Z Z Z (ow_move Z Z ⟨BX.refl _ _, Z⟩))
      ·
       intro w71 D hS64 hd64
       refine dg_sub (E' := [(35, (.int .i64 k1)), (34, (.bool false))]) ⟨(dpE hd64 23 Z Z), (dpE hd64 22 Z Z), trivial⟩ (dg_on Z Z Z Z (ow_gtr Z Z Z fun bb5 hbb5 => ?_))
       obtain rfl := hbb5.trans hc4
       exact ⟨BX.refl _ _, Z⟩
      ·
       intro w72 D hS65 hd65
       exact dg_sub (E' := [(36, (.bool false)), (34, (.bool false))]) ⟨(dpE hd65 24 Z Z), (dpE hd65 22 Z Z), trivial⟩ (dg_on Z Z Z Z (ow_move Z Z ⟨BX.refl _ _, Z⟩))
      ·
       intro w73 D hS66 hd66
       exact dg_sub (E' := [(37, (.bool false)), (0, v0p)]) ⟨(dpE hd66 25 Z Z), Z, trivial⟩ (dg_off Z Z Z Z ⟨BX.refl _ _, Z⟩)
      ·
       intro w74 D hS67 hd67
       exact dg_sub (E' := [(37, (.bool false)), (5, (.int .i64 k1))]) ⟨(dpE hd67 25 Z Z), Z, trivial⟩ (dg_off Z Z Z Z ⟨BX.refl _ _, Z⟩)
      ·
       intro w75 D hS68 hd68
       exact dg_sub (E' := [(38, undef), (39, undef), (37, (.bool false))]) ⟨(dpE hd68 26 Z Z), (dpE hd68 27 Z Z), (dpE hd68 25 Z Z), trivial⟩ (dg_off Z Z Z Z ⟨BX.refl _ _, Z⟩)
      ·
       intro w76 D hS69 hd69
       exact dg_sub (E' := [(40, undef), (37, (.bool false))]) ⟨(dpE hd69 28 Z Z), (dpE hd69 25 Z Z), trivial⟩ (dg_off Z Z Z Z ⟨BX.refl _ _, Z⟩)
      ·
       intro w77 D hS70 hd70
       exact dg_sub (E' := [(41, undef), (37, (.bool false))]) ⟨(dpE hd70 29 Z Z), (dpE hd70 25 Z Z), trivial⟩ (dg_off Z Z Z Z ⟨BX.refl _ _, Z⟩)
      ·
       intro w78 D hS71 hd71
       exact dg_sub (E' := [(37, (.bool false)), (0, v0p)]) ⟨(dpE hd71 25 Z Z), Z, trivial⟩ (dg_off Z Z Z Z ⟨BX.refl _ _, Z⟩)
      ·
       intro w79 D hS72 hd72
       exact dg_sub (E' := [(37, (.bool false)), (5, (.int .i64 k1))]) ⟨(dpE hd72 25 Z Z), Z, trivial⟩ (dg_off Z Z Z Z ⟨BX.refl _ _, Z⟩)
      ·
       intro w80 D hS73 hd73
       exact dg_sub (E' := [(44, undef), (37, (.bool false))]) ⟨(dpE hd73 32 Z Z), (dpE hd73 25 Z Z), trivial⟩ (dg_off Z Z Z Z ⟨BX.refl _ _, Z⟩)
      ·
       intro w81 D hS74 hd74
       exact dg_sub (E' := [(43, undef), (45, undef), (37, (.bool false))]) ⟨(dpE hd74 31 Z Z), (dpE hd74 33 Z Z), (dpE hd74 25 Z Z), trivial⟩ (dg_off Z Z Z Z ⟨BX.refl _ _, Z⟩)
      ·
       intro w82 D hS75 hd75
       exact dg_sub (E' := [(46, undef), (37, (.bool false))]) ⟨(dpE hd75 34 Z Z), (dpE hd75 25 Z Z), trivial⟩ (dg_off Z Z Z Z ⟨BX.refl _ _, Z⟩)
      ·
       intro w83 D hS76 hd76
       exact dg_sub (E' := [(47, undef), (37, (.bool false))]) ⟨(dpE hd76 35 Z Z), (dpE hd76 25 Z Z), trivial⟩ (dg_off Z Z Z Z ⟨BX.refl _ _, Z⟩)
      ·
       intro w84 D hS77 hd77
       exact dg_sub (E' := [(48, undef), (37, (.bool false))]) ⟨(dpE hd77 36 Z Z), (dpE hd77 25 Z Z), trivial⟩ (dg_off Z Z Z Z ⟨BX.refl _ _, Z⟩)
      ·
       intro w85 D hS78 hd78
       have hl85 := Le.no M1 hS78
       have hC85 := hC1.no hS78
       exact lw_sub (E' := [(34, (.bool false)), (37, (.bool false)), (42, undef), (49, undef), (0, v0p), (1, (.int .i64 a_top)), (5, (.int .i64 k1))]) ⟨(dpE hd78 22 Z Z), (dpE hd78 25 Z Z), (dpE hd78 30 Z Z), (dpE hd78 37 Z Z), Z, Z, Z, trivial⟩ (lw_off Z Z Z Z Z Z (lw_on Z Z Z Z Z Z (ow_pickF Z Z Z (lw_op Z Z Z (ow_pickF Z Z Z (lw_nil (ew_then (cw_false Z (cw_skip (ew_blockN (ew_then (cw_region (lw_op Z Z Z (ow_move Z Z (lw_op Z Z Z (ow_add Z Z Z (lw_op Z Z Z (ow_assign Z Z (lw_nil (ew_nxt (W (k1 + 1)) hb1 fun a ha => ⟨M1, (ha.sub ⟨Z, Z, Z, trivial⟩), (hl1.trans hl85), hC85⟩))))))))))))))))))))
    ·
     subst hc3
     refine cw_sub (E' := [(0, v0p), (1, (.int .i64 a_top)), (5, (.int .i64 k1))]) ⟨Z, Z, Z, trivial⟩ (cw_drawQ 38 [PV (RSlice RSpan) M1 a_list, PEq (.int .i64 k1), PA RSpan M1 x1, PA RInt M1 x1.Lo, PEq (.int .i64 x1.Lo), PV (RSlice RSpan) M1 a_list, PEq (.int .i64 k1), PA RSpan M1 x1, PA RInt M1 x1.Hi, PEq (.int .i64 x1.Hi), PEq (.bool true), PEq (.bool false), PEq (.bool false), PV (RSlice RSpan) M1 a_list, PEq (.int .i64 k1), PA RSpan M1 x1, PA RInt M1 x1.Hi, PEq (.int .i64 x1.Hi), PEq (.int .i64 a_top), PEq (.bool false), PEq (.bool true), PEq (.bool true), PEq (.bool true), PEq undef, PEq undef, PEq undef, PEq undef, PEq undef, PEq undef, PEq undef, PEq undef, PEq undef, PEq undef, PEq undef, PEq undef, PEq undef, PEq undef, PEq undef] (by kernel_rfl) Z (by kernel_rfl) ⟨PV.mono _ _ _, PEq.mono _, PA.mono _ _ _, PA.mono _ _ _, PEq.mono _, PV.mono _ _ _, PEq.mono _, PA.mono _ _ _, PA.mono _ _ _, PEq.mono _, PEq.mono _, PEq.mono _, PEq.mono _, PV.mono _ _ _, PEq.mono _, PA.mono _ _ _, PA.mono _ _ _, PEq.mono _, PEq.mono _, PEq.mono _, PEq.mono _, PEq.mono _, PEq.mono _, PEq.mono _, PEq.mono _, PEq.mono _, PEq.mono _, PEq.mono _, PEq.mono _, PEq.mono _, PEq.mono _, PEq.mono _, PEq.mono _, PEq.mono _, PEq.mono _, PEq.mono _, PEq.mono _, PEq.mono _, trivial⟩ ⟨?_, ?_, ?_, ?_, ?_, ?_, ?_, ?_, ?_, ?_, ?_, ?_, ?_, ?_, ?_, ?_, ?_, ?_, ?_, ?_, ?_, ?_, ?_, ?_, ?_, ?_, ?_, ?_, ?_, ?_, ?_, ?_, ?_, ?_, ?_, ?_, ?_, ?_, trivial⟩ ?_)
     ·
      intro w86 D hS79 hd79
      have hl86 := Le.no M1 hS79
      exact dg_sub (E' := [(0, v0p)]) ⟨Z, trivial⟩ (dg_plain Z (ow_move Z Z ⟨BX.refl _ _, (VRep.mono (hl1.trans hl86) h0)⟩))
     ·
      intro w87 D hS80 hd80
      exact dg_sub (E' := [(5, (.int .i64 k1))]) ⟨Z, trivial⟩ (dg_plain Z (ow_move Z Z ⟨BX.refl _ _, Z⟩))
     ·
      intro w88 D hS81 hd81
      have d199 : PV (RSlice RSpan) M1 a_list (D 0) w88 := dpA hd81 0 Z
      generalize hq9 : (D 0) = v29 at d199
      exact dg_sub (E' := [(12, v29), (13, (.int .i64 k1))]) ⟨(congrArg some hq9), (dpE hd81 1 Z Z), trivial⟩ (dg_plain Z (ow_indexSlice (R := RSpan) Z Z Z d199 Tryd.underlying58 (Tryd.sizeOf76 _) hx1 fun p30 hp30 => ⟨BX.refl _ _, ⟨_, Z, hp30⟩⟩))
     ·
      intro w89 D hS82 hd82
      have d201 : PA RSpan M1 x1 (D 2) w89 := dpA hd82 2 Z
      obtain ⟨p31, e18, ha17⟩ := d201
      exact dg_sub (E' := [(14, (.pointer (some p31)))]) ⟨(congrArg some e18), trivial⟩ (dg_plain Z (ow_fieldAddr Z Z Tryd.underlying76 Z (Tryd.sizeOf3 _) ⟨BX.refl _ _, ⟨_, Z, (ha17.fld fld_Span_Lo)⟩⟩))
     ·
      intro w90 D hS83 hd83
      have d202 : PA RInt M1 x1.Lo (D 3) w90 := dpA hd83 3 Z
      obtain ⟨p32, e19, ha18⟩ := d202
      refine dg_sub (E' := [(15, (.pointer (some p32)))]) ⟨(congrArg some e19), trivial⟩ (dg_plain Z (ow_load (R := RInt) Z Z ha18 (Tryd.sizeOf3 _) (Tryd.isAgg3 _) fun v30 hv30 => ?_))
      obtain rfl := vint_eq hv30
      exact ⟨BX.refl _ _, Z⟩
     ·
      intro w91 D hS84 hd84
      have hl91 := Le.no M1 hS84
      exact dg_sub (E' := [(0, v0p)]) ⟨Z, trivial⟩ (dg_plain Z (ow_move Z Z ⟨BX.refl _ _, (VRep.mono (hl1.trans hl91) h0)⟩))
     ·
      intro w92 D hS85 hd85
      exact dg_sub (E' := [(5, (.int .i64 k1))]) ⟨Z, trivial⟩ (dg_plain Z (ow_move Z Z ⟨BX.refl _ _, Z⟩))
     ·
      intro w93 D hS86 hd86
      have d203 : PV (RSlice RSpan) M1 a_list (D 5) w93 := dpA hd86 5 Z
      generalize hq10 : (D 5) = v31 at d203
      exact dg_sub (E' := [(17, v31), (18, (.int .i64 k1))]) ⟨(congrArg some hq10), (dpE hd86 6 Z Z), trivial⟩ (dg_plain Z (ow_indexSlice (R := RSpan) Z Z Z d203 Tryd.underlying58 (Tryd.sizeOf76 _) hx1 fun p33 hp33 => ⟨BX.refl _ _, ⟨_, Z, hp33⟩⟩))
     ·
      intro w94 D hS87 hd87
      have d205 : PA RSpan M1 x1 (D 7) w94 := dpA hd87 7 Z
      obtain ⟨p34, e20, ha19⟩ := d205
      exact dg_sub (E' := [(19, (.pointer (some p34)))]) ⟨(congrArg some e20), trivial⟩ (dg_plain Z (ow_fieldAddr Z Z Tryd.underlying76 Z (Tryd.sizeOf3 _) ⟨BX.refl _ _, ⟨_, Z, (ha19.fld fld_Span_Hi)⟩⟩))
     ·
      intro w95 D hS88 hd88
      have d206 : PA RInt M1 x1.Hi (D 8) w95 := dpA hd88 8 Z
      obtain ⟨p35, e21, ha20⟩ := d206
      refine dg_sub (E' := [(20, (.pointer (some p35)))]) ⟨(congrArg some e21), trivial⟩ (dg_plain Z (ow_load (R := RInt) Z Z ha20 (Tryd.sizeOf3 _) (Tryd.isAgg3 _) fun v32 hv32 => ?_))
      obtain rfl := vint_eq hv32
      exact ⟨BX.refl _ _, Z⟩
     ·
      intro w96 D hS89 hd89
      have hl96 := Le.no M1 hS89
      have hC96 := hC1.no hS89
      refine dg_sub (E' := [(16, (.int .i64 x1.Lo)), (21, (.int .i64 x1.Hi))]) ⟨(dpE hd89 4 Z Z), (dpE hd89 9 Z Z), trivial⟩ (dg_plain Z (ow_call Z Z Tryd.call82 (w_spec_l1In (hG.mono (hl1.trans hl96)) hC96.old hx2) fun v33 w97 hv33 => ?_))
      obtain ⟨hv33, hb8⟩ := hv33
      obtain rfl := vbool_eq hv33
      exact ⟨hb8, Z⟩
     ·
      intro w98 D hS90 hd90
      exact dg_sub (E' := [(22, (.bool true))]) ⟨(dpE hd90 10 Z Z), trivial⟩ (dg_plain Z (ow_not Z Z ⟨BX.refl _ _, Z⟩))
     ·
      intro w99 D hS91 hd91
      exact dg_sub (E' := [(23, (.bool false))]) ⟨(dpE hd91 11 Z Z), trivial⟩ (dg_plain Z (ow_move Z Z ⟨BX.refl _ _, Z⟩))
     ·
      intro w100 D hS92 hd92
      have hl100 := Le.no M1 hS92
      exact dg_sub (E' := [(24, (.bool false)), (0, v0p)]) ⟨(dpE hd92 12 Z Z), Z, trivial⟩ (dg_on Z Z Z Z (ow_move Z Z ⟨BX.refl _ _, (VRep.mono (hl1.trans hl100) h0)⟩))
     ·
      intro w101 D hS93 hd93
      exact dg_sub (E' := [(24, (.bool false)), (5, (.int .i64 k1))]) ⟨(dpE hd93 12 Z Z), Z, trivial⟩ (dg_on Z Z Z Z (ow_move Z Z ⟨BX.refl _ _, Z⟩))
     ·
      intro w102 D hS94 hd94
      have d214 : PV (RSlice RSpan) M1 a_list (D 13) w102 := dpA hd94 13 Z
      generalize hq11 : (D 13) = v34 at d214
      exact dg_sub (E' := [(25, v34), (26, (.int .i64 k1)), (24, (.bool false))]) ⟨(congrArg some hq11), (dpE hd94 14 Z Z), (dpE hd94 12 Z Z), trivial⟩ (dg_on Z Z Z Z (ow_indexSlice (R := RSpan) Z Z Z d214 Tryd.underlying58 (Tryd.sizeOf76 _) hx1 fun p36 hp36 => ⟨BX.refl _ _, ⟨_, Z, hp36⟩⟩))
     ·
      intro w103 D hS95 hd95
      have d217 : PA RSpan M1 x1 (D 15) w103 := dpA hd95 15 Z
      obtain ⟨p37, e22, ha21⟩ := d217
      exact dg_sub (E' := [(27, (.pointer (some p37))), (24, (.bool false))]) ⟨(congrArg some e22), (dpE hd95 12 Z Z), trivial⟩ (dg_on Z Z Z Z (ow_fieldAddr Z Z Tryd.underlying76 Z (Tryd.sizeOf3 _) ⟨BX.refl _ _, ⟨_, Z, (ha21.fld fld_Span_Hi)⟩⟩))
     ·
      intro w104 D hS96 hd96
      have d219 : PA RInt M1 x1.Hi (D 16) w104 := dpA hd96 16 Z
      obtain ⟨p38, e23, ha22⟩ := d219
      refine dg_sub (E' := [(28, (.pointer (some p38))), (24, (.bool false))]) ⟨(congrArg some e23), (dpE hd96 12 Z Z), trivial⟩ (dg_on Z Z Z Z (ow_load (R := RInt) Z Z ha22 (Tryd.sizeOf3 _) (Tryd.isAgg3 _) fun v35 hv35 => ?_))
      obtain rfl := vint_eq hv35
      exact ⟨BX.refl _ _, Z⟩
     ·
      intro w105 D hS97 hd97
      exact dg_sub (E' := [(24, (.bool false)), (1, (.int .i64 a_top))]) ⟨(dpE hd97 12 Z Z), Z, trivial⟩ (dg_on Z Z Z Z (ow_move Z Z ⟨BX.refl _ _, Z⟩))
     ·
      intro w106 D hS98 hd98
      have hl106 := Le.no M1 hS98
      have hC106 := hC1.no hS98
      refine dg_sub (E' := [(29, (.int .i64 x1.Hi)), (30, (.int .i64 a_top)), (24, (.bool false))]) ⟨(dpE hd98 17 Z Z), (dpE hd98 18 Z Z), (dpE hd98 12 Z Z), trivial⟩ (dg_on Z Z Z Z (ow_call Z Z Tryd.call82 (w_spec_l1In (hG.mono (hl1.trans hl106)) hC106.old hx3) fun v36 w107 hv36 => ?_))
      obtain ⟨hv36, hb9⟩ := hv36
      obtain rfl := vbool_eq hv36
      exact ⟨hb9, Z⟩
     ·
      intro w108 D hS99 hd99
      exact dg_sub (E' := [(31, (.bool false)), (24, (.bool false))]) ⟨(dpE hd99 19 Z Z), (dpE hd99 12 Z Z), trivial⟩ (dg_on Z Z Z Z (ow_not Z Z ⟨BX.refl _ _, Z⟩))
     ·
      intro w109 D hS100 hd100
      exact dg_sub (E' := [(24, (.bool false)), (32, (.bool true))]) ⟨(dpE hd100 12 Z Z), (dpE hd100 20 Z Z), trivial⟩ (dg_plain Z (ow_pickF Z Z Z ⟨BX.refl _ _, Z⟩))
     ·
      intro w110 D hS101 hd101
      exact dg_sub (E' := [(33, (.bool true))]) ⟨(dpE hd101 21 Z Z), trivial⟩ (dg_plain Z (ow_move Z Z ⟨BX.refl _ _, Z⟩))
     ·
      intro w111 D hS102 hd102
      exact dg_sub (E' := [(34, (.bool true)), (5, (.int .i64 k1))]) ⟨(dpE hd102 22 Z Z), Z, trivial⟩ (dg_off Z Z Z Z ⟨BX.refl _ _, Z⟩)
     ·
      intro w112 D hS103 hd103
      exact dg_sub (E' := [(35, undef), (34, (.bool true))]) ⟨(dpE hd103 23 Z Z), (dpE hd103 22 Z Z), trivial⟩ (dg_off Z Z Z Z ⟨BX.refl _ _, Z⟩)
     ·
      intro w113 D hS104 hd104
      exact dg_sub (E' := [(36, undef), (34, (.bool true))]) ⟨(dpE hd104 24 Z Z), (dpE hd104 22 Z Z), trivial⟩ (dg_off Z Z Z Z ⟨BX.refl _ _, Z⟩)
     ·
      intro w114 D hS105 hd105
      exact dg_sub (E' := [(37, undef), (0, v0p)]) ⟨(dpE hd105 25 Z Z), Z, trivial⟩ (dg_off' Z Z Z Z ⟨BX.refl _ _, Z⟩)
     ·
      intro w115 D hS106 hd106
      exact dg_sub (E' := [(37, undef), (5, (.int .i64 k1))]) ⟨(dpE hd106 25 Z Z), Z, trivial⟩ (dg_off' Z Z Z Z ⟨BX.refl _ _, Z⟩)
     ·
      intro w116 D hS107 hd107
      exact dg_sub (E' := [(38, undef), (39, undef), (37, undef)]) ⟨(dpE hd107 26 Z Z), (dpE hd107 27 Z Z), (dpE hd107 25 Z Z), trivial⟩ (dg_off' Z Z Z Z ⟨BX.refl _ _, Z⟩)
     ·
      intro w117 D hS108 hd108
      exact dg_sub (E' := [(40, undef), (37, undef)]) ⟨(dpE hd108 28 Z Z), (dpE hd108 25 Z Z), trivial⟩ (dg_off' Z Z Z Z ⟨BX.refl _ _, Z⟩)
     ·
      intro w118 D hS109 hd109
      exact dg_sub (E' := [(41, undef), (37, undef)]) ⟨(dpE hd109 29 Z Z), (dpE hd109 25 Z Z), trivial⟩ (dg_off' Z Z Z Z ⟨BX.refl _ _, Z⟩)
     ·
      intro w119 D hS110 hd110
      exact dg_sub (E' := [(37, undef), (0, v0p)]) ⟨(dpE hd110 25 Z Z), Z, trivial⟩ (dg_off' Z Z Z Z ⟨BX.refl _ _, Z⟩)
     ·
      intro w120 D hS111 hd111
      exact dg_sub (E' := [(37, undef), (5, (.int .i64 k1))]) ⟨(dpE hd111 25 Z Z), Z, trivial⟩ (dg_off' Z Z Z Z ⟨BX.refl _ _, Z⟩)
     ·
      intro w121 D hS112 hd112
      exact dg_sub (E' := [(44, undef), (37, undef)]) ⟨(dpE hd112 32 Z Z), (dpE hd112 25 Z Z), trivial⟩ (dg_off' Z Z Z Z ⟨BX.refl _ _, Z⟩)
     ·
      intro w122 D hS113 hd113
      exact dg_sub (E' := [(43, undef), (45, undef), (37, undef)]) ⟨(dpE hd113 31 Z Z), (dpE hd113 33 Z Z), (dpE hd113 25 Z Z), trivial⟩ (dg_off' Z Z Z Z ⟨BX.refl _ _, Z⟩)
     ·
      intro w123 D hS114 hd114
      exact dg_sub (E' := [(46, undef), (37, undef)]) ⟨(dpE hd114 34 Z Z), (dpE hd114 25 Z Z), trivial⟩ (dg_off' Z Z Z Z ⟨BX.refl _ _, Z⟩)
     ·
      intro w124 D hS115 hd115
      exact dg_sub (E' := [(47, undef), (37, undef)]) ⟨(dpE hd115 35 Z Z), (dpE hd115 25 Z Z), trivial⟩ (dg_off' Z Z Z Z ⟨BX.refl _ _, Z⟩)
     ·
      intro w125 D hS116 hd116
      exact dg_sub (E' := [(48, undef), (37, undef)]) ⟨(dpE hd116 36 Z Z), (dpE hd116 25 Z Z), trivial⟩ (dg_off' Z Z Z Z ⟨BX.refl _ _, Z⟩)
     ·
      intro w126 D hS117 hd117
      have hC126 := hC1.no hS117
      refine lw_sub (E' := [(34, (.bool true)), (37, undef), (42, undef), (49, undef), (0, v0p), (1, (.int .i64 a_top)), (5, (.int .i64 k1))]) ⟨(dpE hd117 22 Z Z), (dpE hd117 25 Z Z), (dpE hd117 30 Z Z), (dpE hd117 37 Z Z), Z, Z, Z, trivial⟩ (lw_off' Z Z Z Z Z Z (lw_off Z Z Z Z Z Z (lw_op Z Z Z (ow_pickT Z Z Z (lw_nil (ew_then (cw_true Z (cw_seq (cw_region (lw_op Z Z Z (ow_assign Z Z (lw_nil (ew_then (cw_ret (ew_blockR (ew_thenR (ew_thenR (ew_blockR (ew_brkR (ew_thenR ?_))))))))))))))))))))
      have e24 := hR1 _ (Option.some.inj hb1).symm
      subst e24
      obtain rfl := Option.some.inj h
      exact ew_ret (res1 Z (.tmp Z)) ⟨_, Z, ((vbool _)), hC126.bx⟩
   ·
    subst hc2
    refine cw_sub (E' := [(0, v0p), (1, (.int .i64 a_top)), (5, (.int .i64 k1))]) ⟨Z, Z, Z, trivial⟩ (cw_drawQ 38 [PV (RSlice RSpan) M1 a_list, PEq (.int .i64 k1), PA RSpan M1 x1, PA RInt M1 x1.Lo, PEq (.int .i64 x1.Lo), PV (RSlice RSpan) M1 a_list, PEq (.int .i64 k1), PA RSpan M1 x1, PA RInt M1 x1.Hi, PEq (.int .i64 x1.Hi), PEq (.bool false), PEq (.bool true), PEq (.bool true), PEq undef, PEq undef, PEq undef, PEq undef, PEq undef, PEq undef, PEq undef, PEq undef, PEq (.bool true), PEq (.bool true), PEq undef, PEq undef, PEq undef, PEq undef, PEq undef, PEq undef, PEq undef, PEq undef, PEq undef, PEq undef, PEq undef, PEq undef, PEq undef, PEq undef, PEq undef] (by kernel_rfl) Z (by kernel_rfl) ⟨PV.mono _ _ _, PEq.mono _, PA.mono _ _ _, PA.mono _ _ _, PEq.mono _, PV.mono _ _ _, PEq.mono _, PA.mono _ _ _, PA.mono _ _ _, PEq.mono _, PEq.mono _, PEq.mono _, PEq.mono _, PEq.mono _, PEq.mono _, PEq.mono _, PEq.mono _, PEq.mono _, PEq.mono _, PEq.mono _, PEq.mono _, PEq.mono _, PEq.mono _, PEq.mono _, PEq.mono _, PEq.mono _, PEq.mono _, PEq.mono _, PEq.mono _, PEq.mono _, PEq.mono _, PEq.mono _, PEq.mono _, PEq.mono _, PEq.mono _, PEq.mono _, PEq.mono _, PEq.mono _, trivial⟩ ⟨?_, ?_, ?_, ?_, ?_, ?_, ?_, ?_, ?_, ?_, ?_, ?_, ?_, ?_, ?_, ?_, ?_, ?_, ?_, ?_, ?_, ?_, ?_, ?_, ?_, ?_, ?_, ?_, ?_, ?_, ?_, ?_, ?_, ?_, ?_, ?_, ?_, ?_, trivial⟩ ?_)
    ·
     intro w127 D hS118 hd118
     have hl127 := Le.no M1 hS118
     exact dg_sub (E' := [(0, v0p)]) ⟨Z, trivial⟩ (dg_plain Z (ow_move Z Z ⟨BX.refl _ _, (VRep.mono (hl1.trans hl127) h0)⟩))
    ·
     intro w128 D hS119 hd119
     exact dg_sub (E' := [(5, (.int .i64 k1))]) ⟨Z, trivial⟩ (dg_plain Z (ow_move Z Z ⟨BX.refl _ _, Z⟩))
    ·
     intro w129 D hS120 hd120
     have d298 : PV (RSlice RSpan) M1 a_list (D 0) w129 := dpA hd120 0 Z
     generalize hq12 : (D 0) = v37 at d298
     exact dg_sub (E' := [(12, v37), (13, (.int .i64 k1))]) ⟨(congrArg some hq12), (dpE hd120 1 Z Z), trivial⟩ (dg_plain Z (ow_indexSlice (R := RSpan) Z Z Z d298 Tryd.underlying58 (Tryd.sizeOf76 _) hx1 fun p39 hp39 => ⟨BX.refl _ _, ⟨_, Z, hp39⟩⟩))
    ·
     intro w130 D hS121 hd121
     have d300 : PA RSpan M1 x1 (D 2) w130 := dpA hd121 2 Z
     obtain ⟨p40, e25, ha23⟩ := d300
     exact dg_sub (E' := [(14, (.pointer (some p40)))]) ⟨(congrArg some e25), trivial⟩ (dg_plain Z (ow_fieldAddr Z Z Tryd.underlying76 Z (Tryd.sizeOf3 _) ⟨BX.refl _ _, ⟨_, Z, (ha23.fld fld_Span_Lo)⟩⟩))
    ·
     intro w131 D hS122 hd122
     have d301 : PA RInt M1 x1.Lo (D 3) w131 := dpA hd122 3 Z
     obtain ⟨p41, e26, ha24⟩ := d301
     refine dg_sub (E' := [(15, (.pointer (some p41)))]) ⟨(congrArg some e26), trivial⟩ (dg_plain Z (ow_load (R := RInt) Z Z ha24 (Tryd.sizeOf3 _) (Tryd.isAgg3 _) fun v38 hv38 => ?_))
     obtain rfl := vint_eq hv38
     exact ⟨BX.refl _ _, Z⟩
    ·
     intro w132 D hS123 hd123
     have hl132 := Le.no M1 hS123
     exact dg_sub (E' := [(0, v0p)]) ⟨Z, trivial⟩ (dg_plain Z (ow_move Z Z ⟨BX.refl _ _, (VRep.mono (hl1.trans hl132) h0)⟩))
    ·
     intro w133 D hS124 hd124
     exact dg_sub (E' := [(5, (.int .i64 k1))]) ⟨Z, trivial⟩ (dg_plain Z (ow_move Z Z ⟨BX.refl _ _, Z⟩))
    ·
     intro w134 D hS125 hd125
     have d302 : PV (RSlice RSpan) M1 a_list (D 5) w134 := dpA hd125 5 Z
     generalize hq13 : (D 5) = v39 at d302
     exact dg_sub (E' := [(17, v39), (18, (.int .i64 k1))]) ⟨(congrArg some hq13), (dpE hd125 6 Z Z), trivial⟩ (dg_plain Z (ow_indexSlice (R := RSpan) Z Z Z d302 Tryd.underlying58 (Tryd.sizeOf76 _) hx1 fun p42 hp42 => ⟨BX.refl _ _, ⟨_, Z, hp42⟩⟩))
    ·
     intro w135 D hS126 hd126
     have d304 : PA RSpan M1 x1 (D 7) w135 := dpA hd126 7 Z
     obtain ⟨p43, e27, ha25⟩ := d304
     exact dg_sub (E' := [(19, (.pointer (some p43)))]) ⟨(congrArg some e27), trivial⟩ (dg_plain Z (ow_fieldAddr Z Z Tryd.underlying76 Z (Tryd.sizeOf3 _) ⟨BX.refl _ _, ⟨_, Z, (ha25.fld fld_Span_Hi)⟩⟩))
    ·
     intro w136 D hS127 hd127
     have d305 : PA RInt M1 x1.Hi (D 8) w136 := dpA hd127 8 Z
     obtain ⟨p44, e28, ha26⟩ := d305
     refine dg_sub (E' := [(20, (.pointer (some p44)))]) ⟨(congrArg some e28), trivial⟩ (dg_plain Z (ow_load (R := RInt) Z Z ha26 (Tryd.sizeOf3 _) (Tryd.isAgg3 _) fun v40 hv40 => ?_))
     obtain rfl := vint_eq hv40
     exact ⟨BX.refl _ _, Z⟩
    ·
     intro w137 D hS128 hd128
     have hl137 := Le.no M1 hS128
     have hC137 := hC1.no hS128
     refine dg_sub (E' := [(16, (.int .i64 x1.Lo)), (21, (.int .i64 x1.Hi))]) ⟨(dpE hd128 4 Z Z), (dpE hd128 9 Z Z), trivial⟩ (dg_plain Z (ow_call Z Z Tryd.call82 (w_spec_l1In (hG.mono (hl1.trans hl137)) hC137.old hx2) fun v41 w138 hv41 => ?_))
     obtain ⟨hv41, hb10⟩ := hv41
     obtain rfl := vbool_eq hv41
     exact ⟨hb10, Z⟩
    ·
     intro w139 D hS129 hd129
     exact dg_sub (E' := [(22, (.bool false))]) ⟨(dpE hd129 10 Z Z), trivial⟩ (dg_plain Z (ow_not Z Z ⟨BX.refl _ _, Z⟩))
    ·
     intro w140 D hS130 hd130
     exact dg_sub (E' := [(23, (.bool true))]) ⟨(dpE hd130 11 Z Z), trivial⟩ (dg_plain Z (ow_move Z Z ⟨BX.refl _ _, Z⟩))
    ·
     intro w141 D hS131 hd131
     exact dg_sub (E' := [(24, (.bool true)), (0, v0p)]) ⟨(dpE hd131 12 Z Z), Z, trivial⟩ (dg_off Z Z Z Z ⟨BX.refl _ _, Z⟩)
    ·
     intro w142 D hS132 hd132
     exact dg_sub (E' := [(24, (.bool true)), (5, (.int .i64 k1))]) ⟨(dpE hd132 12 Z Z), Z, trivial⟩ (dg_off Z Z Z Z ⟨BX.refl _ _, Z⟩)
    ·
     intro w143 D hS133 hd133
     exact dg_sub (E' := [(25, undef), (26, undef), (24, (.bool true))]) ⟨(dpE hd133 13 Z Z), (dpE hd133 14 Z Z), (dpE hd133 12 Z Z), trivial⟩ (dg_off Z Z Z Z ⟨BX.refl _ _, Z⟩)
    ·
     intro w144 D hS134 hd134
     exact dg_sub (E' := [(27, undef), (24, (.bool true))]) ⟨(dpE hd134 15 Z Z), (dpE hd134 12 Z Z), trivial⟩ (dg_off Z Z Z Z ⟨BX.refl _ _, Z⟩)
    ·
     intro w145 D hS135 hd135
     exact dg_sub (E' := [(28, undef), (24, (.bool true))]) ⟨(dpE hd135 16 Z Z), (dpE hd135 12 Z Z), trivial⟩ (dg_off Z Z Z Z ⟨BX.refl _ _, Z⟩)
    ·
     intro w146 D hS136 hd136
     exact dg_sub (E' := [(24, (.bool true)), (1, (.int .i64 a_top))]) ⟨(dpE hd136 12 Z Z), Z, trivial⟩ (dg_off Z Z Z Z ⟨BX.refl _ _, Z⟩)
    ·
     intro w147 D hS137 hd137
     exact dg_sub (E' := [(29, undef), (30, undef), (24, (.bool true))]) ⟨(dpE hd137 17 Z Z), (dpE hd137 18 Z Z), (dpE hd137 12 Z Z), trivial⟩ (dg_off Z Z Z Z ⟨BX.refl _ _, Z⟩)
    ·
     intro w148 D hS138 hd138
     exact dg_sub (E' := [(31, undef), (24, (.bool true))]) ⟨(dpE hd138 19 Z Z), (dpE hd138 12 Z Z), trivial⟩ (dg_off Z Z Z Z ⟨BX.refl _ _, Z⟩)
    ·
     intro w149 D hS139 hd139
     exact dg_sub (E' := [(24, (.bool true)), (32, undef)]) ⟨(dpE hd139 12 Z Z), (dpE hd139 20 Z Z), trivial⟩ (dg_plain Z (ow_pickT Z Z Z ⟨BX.refl _ _, Z⟩))
    ·
     intro w150 D hS140 hd140
     exact dg_sub (E' := [(33, (.bool true))]) ⟨(dpE hd140 21 Z Z), trivial⟩ (dg_plain Z (ow_move Z Z ⟨BX.refl _ _, Z⟩))
    ·
     intro w151 D hS141 hd141
     exact dg_sub (E' := [(34, (.bool true)), (5, (.int .i64 k1))]) ⟨(dpE hd141 22 Z Z), Z, trivial⟩ (dg_off Z Z Z Z ⟨BX.refl _ _, Z⟩)
    ·
     intro w152 D hS142 hd142
     exact dg_sub (E' := [(35, undef), (34, (.bool true))]) ⟨(dpE hd142 23 Z Z), (dpE hd142 22 Z Z), trivial⟩ (dg_off Z Z Z Z ⟨BX.refl _ _, Z⟩)
    ·
     intro w153 D hS143 hd143
     exact dg_sub (E' := [(36, undef), (34, (.bool true))]) ⟨(dpE hd143 24 Z Z), (dpE hd143 22 Z Z), trivial⟩ (dg_off Z Z Z Z ⟨BX.refl _ _, Z⟩)
    ·
     intro w154 D hS144 hd144
     exact dg_sub (E' := [(37, undef), (0, v0p)]) ⟨(dpE hd144 25 Z Z), Z, trivial⟩ (dg_off' Z Z Z Z ⟨BX.refl _ _, Z⟩)
    ·
     intro w155 D hS145 hd145
     exact dg_sub (E' := [(37, undef), (5, (.int .i64 k1))]) ⟨(dpE hd145 25 Z Z), Z, trivial⟩ (dg_off' Z Z Z Z ⟨BX.refl _ _, Z⟩)
    ·
     intro w156 D hS146 hd146
     exact dg_sub (E' := [(38, undef), (39, undef), (37, undef)]) ⟨(dpE hd146 26 Z Z), (dpE hd146 27 Z Z), (dpE hd146 25 Z Z), trivial⟩ (dg_off' Z Z Z Z ⟨BX.refl _ _, Z⟩)
    ·
     intro w157 D hS147 hd147
     exact dg_sub (E' := [(40, undef), (37, undef)]) ⟨(dpE hd147 28 Z Z), (dpE hd147 25 Z Z), trivial⟩ (dg_off' Z Z Z Z ⟨BX.refl _ _, Z⟩)
    ·
     intro w158 D hS148 hd148
     exact dg_sub (E' := [(41, undef), (37, undef)]) ⟨(dpE hd148 29 Z Z), (dpE hd148 25 Z Z), trivial⟩ (dg_off' Z Z Z Z ⟨BX.refl _ _, Z⟩)
    ·
     intro w159 D hS149 hd149
     exact dg_sub (E' := [(37, undef), (0, v0p)]) ⟨(dpE hd149 25 Z Z), Z, trivial⟩ (dg_off' Z Z Z Z ⟨BX.refl _ _, Z⟩)
    ·
     intro w160 D hS150 hd150
     exact dg_sub (E' := [(37, undef), (5, (.int .i64 k1))]) ⟨(dpE hd150 25 Z Z), Z, trivial⟩ (dg_off' Z Z Z Z ⟨BX.refl _ _, Z⟩)
    ·
     intro w161 D hS151 hd151
     exact dg_sub (E' := [(44, undef), (37, undef)]) ⟨(dpE hd151 32 Z Z), (dpE hd151 25 Z Z), trivial⟩ (dg_off' Z Z Z Z ⟨BX.refl _ _, Z⟩)
    ·
     intro w162 D hS152 hd152
     exact dg_sub (E' := [(43, undef), (45, undef), (37, undef)]) ⟨(dpE hd152 31 Z Z), (dpE hd152 33 Z Z), (dpE hd152 25 Z Z), trivial⟩ (dg_off' Z Z Z Z ⟨BX.refl _ _, Z⟩)
    ·
     intro w163 D hS153 hd153
     exact dg_sub (E' := [(46, undef), (37, undef)]) ⟨(dpE hd153 34 Z Z), (dpE hd153 25 Z Z), trivial⟩ (dg_off' Z Z Z Z ⟨BX.refl _ _, Z⟩)
    ·
     intro w164 D hS154 hd154
     exact dg_sub (E' := [(47, undef), (37, undef)]) ⟨(dpE hd154 35 Z Z), (dpE hd154 25 Z Z), trivial⟩ (dg_off' Z Z Z Z ⟨BX.refl _ _, Z⟩)
    ·
     intro w165 D hS155 hd155
     exact dg_sub (E' := [(48, undef), (37, undef)]) ⟨(dpE hd155 36 Z Z), (dpE hd155 25 Z Z), trivial⟩ (dg_off' Z Z Z Z ⟨BX.refl _ _, Z⟩)
    ·
     intro w166 D hS156 hd156
     have hC166 := hC1.no hS156
     refine lw_sub (E' := [(34, (.bool true)), (37, undef), (42, undef), (49, undef), (0, v0p), (1, (.int .i64 a_top)), (5, (.int .i64 k1))]) ⟨(dpE hd156 22 Z Z), (dpE hd156 25 Z Z), (dpE hd156 30 Z Z), (dpE hd156 37 Z Z), Z, Z, Z, trivial⟩ (lw_off' Z Z Z Z Z Z (lw_off Z Z Z Z Z Z (lw_op Z Z Z (ow_pickT Z Z Z (lw_nil (ew_then (cw_true Z (cw_seq (cw_region (lw_op Z Z Z (ow_assign Z Z (lw_nil (ew_then (cw_ret (ew_blockR (ew_thenR (ew_thenR (ew_blockR (ew_brkR (ew_thenR ?_))))))))))))))))))))
     have e29 := hR1 _ (Option.some.inj hb1).symm
     subst e29
     obtain rfl := Option.some.inj h
     exact ew_ret (res1 Z (.tmp Z)) ⟨_, Z, ((vbool _)), hC166.bx⟩
  ·
   obtain rfl := hbb1.trans hc1
   exact cw_false Z (cw_exit (ew_thenX (ew_thenX (ew_blockX (ew_brk k1 hb1 fun a ha => ⟨M1, (ha.sub ⟨Z, Z, Z, trivial⟩), hl1, hC1⟩)))))
 ·
  rintro k2 a w167 hlr2 ⟨M2, hF2, hl167, hC167⟩
  subst hlr2
  refine ew_at (E := [(0, v0p), (1, (.int .i64 a_top)), (5, (.int .i64 k2))]) hF2 (ew_then (cw_seq (cw_region (lw_op Z Z Z (ow_move Z Z ?_)))))
  replace h := bind_some h
  obtain ⟨x5, hx5, h⟩ := h
  refine lw_op Z Z Z (ow_call Z Z Tryd.call82 (w_spec_l1In (hG.mono hl167) hC167.old hx5) fun v43 w168 hv43 => ?_)
  obtain ⟨hv43, hb11⟩ := hv43
  have hl168 := Le.no M2 hb11
  have hC168 := hC167.no hb11
  obtain rfl := vbool_eq hv43
  refine lw_op Z Z Z (ow_move Z Z ?_)
  replace h := cond_some h
  rcases h with ⟨hc6, h⟩ | ⟨hc6, h⟩
  ·
   subst hc6
   refine lw_on Z Z Z Z Z Z (ow_move Z Z (lw_on Z Z Z Z Z Z (ow_len Z Z (VRep.mono (hl167.trans hl168) h0) Tryd.underlying58 Z (lw_on Z Z Z Z Z Z (ow_leq Z Z Z fun bb6 hbb6 => lw_op Z Z Z (ow_pickT Z Z Z (lw_op Z Z Z (ow_assign Z Z (lw_nil (ew_then (cw_ret ?_)))))))))))
   obtain rfl := Option.some.inj h
   exact ew_ret (res1 Z (.tmp Z)) ⟨_, Z, ((vbool_of hbb6)), hC168.bx⟩
  ·
   subst hc6
   refine lw_off Z Z Z Z Z Z (lw_off Z Z Z Z Z Z (lw_off Z Z Z Z Z Z (lw_op Z Z Z (ow_pickF Z Z Z (lw_op Z Z Z (ow_assign Z Z (lw_nil (ew_then (cw_ret ?_)))))))))
   obtain rfl := Option.some.inj h
   exact ew_ret (res1 Z (.tmp Z)) ⟨_, Z, ((vbool _)), hC168.bx⟩

theorem w_spec_FieldTop {w : World} {M : Nat → Prop} (_hG : ARep (RArr 4 RShape) w M shapes ⟨0, 0, none⟩) (hO : ∀ b, M b → b < w.heap.size) {a_n : Int} {r : Int} (h : F.spec_FieldTop a_n = some r) :
  Calls Tryd.prog 81 [(.int .i64 a_n)].toArray w fun e w' => ∃ v, e = .returned v ∧ VRep RInt w' M r v ∧ BX No w w' := by
 have hC : Cx No w M w M := Cx.start hO (fun _ e => e.elim)
 clear _hG
 refine walk (N := 11) Tryd.func81 Z Tryd.ntmps81 Z (cw_seq (cw_region (lw_op Z Z Z (ow_assign Z Z (lw_nil (ew_then (cw_seq (cw_seq (cw_region (lw_op Z Z Z (ow_move Z Z (lw_nil (ew_then (cw_block (cw_seq (cw_seq (cw_region (lw_op Z Z Z (ow_eqlI Z Z Z fun bb1 hbb1 => lw_op Z Z Z (ow_assign Z Z (lw_nil (ew_then ?_))))))))))))))))))))))
 replace h := cond_some h
 rcases h with ⟨hc1, h⟩ | ⟨hc1, h⟩
 ·
  obtain rfl := hbb1.trans hc1
  refine cw_true Z (cw_skip (ew_then (cw_true Z (cw_seq (cw_region (lw_op Z Z Z (ow_assign Z Z (lw_nil (ew_then (cw_ret (ew_blockR (ew_thenR ?_))))))))))))
  obtain rfl := Option.some.inj h
  exact ew_ret (res1 Z (.tmp Z)) ⟨_, Z, ((vint _)), hC.bx⟩
 ·
  obtain rfl := hbb1.trans hc1
  refine cw_false Z (cw_region (lw_op Z Z Z (ow_eqlI Z Z Z fun bb2 hbb2 => lw_op Z Z Z (ow_assign Z Z (lw_nil (ew_then ?_))))))
  replace h := cond_some h
  rcases h with ⟨hc2, h⟩ | ⟨hc2, h⟩
  ·
   obtain rfl := hbb2.trans hc2
   refine cw_true Z (cw_seq (cw_region (lw_op Z Z Z (ow_assign Z Z (lw_nil (ew_then (cw_ret (ew_blockR (ew_thenR ?_)))))))))
   obtain rfl := Option.some.inj h
   exact ew_ret (res1 Z (.tmp Z)) ⟨_, Z, ((vint _)), hC.bx⟩
  ·
   obtain rfl := hbb2.trans hc2
   refine cw_false Z (cw_seq (cw_region (lw_op Z Z Z (ow_eqlI Z Z Z fun bb3 hbb3 => lw_op Z Z Z (ow_assign Z Z (lw_nil (ew_then ?_)))))))
   replace h := cond_some h
   rcases h with ⟨hc3, h⟩ | ⟨hc3, h⟩
   ·
    obtain rfl := hbb3.trans hc3
    refine cw_true Z (cw_seq (cw_region (lw_op Z Z Z (ow_assign Z Z (lw_nil (ew_then (cw_ret (ew_blockR (ew_thenR ?_)))))))))
    obtain rfl := Option.some.inj h
    exact ew_ret (res1 Z (.tmp Z)) ⟨_, Z, ((vint _)), hC.bx⟩
   ·
    obtain rfl := hbb3.trans hc3
    refine cw_false Z (cw_seq (cw_region (lw_op Z Z Z (ow_eqlI Z Z Z fun bb4 hbb4 => lw_op Z Z Z (ow_assign Z Z (lw_nil (ew_then ?_)))))))
    replace h := cond_some h
    rcases h with ⟨hc4, h⟩ | ⟨hc4, h⟩
    ·
     obtain rfl := hbb4.trans hc4
     refine cw_true Z (cw_seq (cw_region (lw_op Z Z Z (ow_assign Z Z (lw_nil (ew_then (cw_ret (ew_blockR (ew_thenR ?_)))))))))
     obtain rfl := Option.some.inj h
     exact ew_ret (res1 Z (.tmp Z)) ⟨_, Z, ((vint _)), hC.bx⟩
    ·
     obtain rfl := hbb4.trans hc4
     refine cw_false Z (cw_skip (ew_blockN (ew_then (cw_seq (cw_region (lw_op Z Z Z (ow_assign Z Z (lw_nil (ew_then (cw_ret ?_))))))))))
     obtain rfl := Option.some.inj h
     exact ew_ret (res1 Z (.tmp Z)) ⟨_, Z, ((vint _)), hC.bx⟩

theorem w_spec_BoxValid {w : World} {M : Nat → Prop} (hG : ARep (RArr 4 RShape) w M shapes ⟨0, 0, none⟩) (hO : ∀ b, M b → b < w.heap.size) {v0p : Value} {a_b : Box} (h0 : VRep RBox w M a_b v0p) {r : Bool} (h : F.spec_BoxValid a_b = some r) :
  Calls Tryd.prog 38 [v0p].toArray w fun e w' => ∃ v, e = .returned v ∧ VRep RBool w' M r v ∧ BX No w w' := by
 have hC : Cx No w M w M := Cx.start hO (fun _ e => e.elim)
 refine walk (N := 28) Tryd.func38 Z Tryd.ntmps38 Z (cw_seq (cw_region (lw_op Z Z Z (ow_box (R := RBox) Z Z h0 hC fun p1 w1 hp1 hb1 hl1 hC1 => lw_op Z Z Z (ow_assign Z Z (lw_nil (ew_then (cw_seq (cw_seq (cw_region (lw_op Z Z Z (ow_assign Z Z (lw_nil (ew_then ?_))))))))))))))
 replace h := bind_some h
 obtain ⟨lr1, hlr1, h⟩ := h
 refine cw_for hlr1 (fun s a w' => ∃ (M' : Nat → Prop), Fits 28 [(1, (.pointer (some p1))), (3, (.int .i64 s))] a ∧ Le w1 M w' M' ∧ Cx No w M w' M') ?_ ?_ ?_
 ·
  intro a ha
  exact ⟨M, ha.sub ⟨Z, Z, trivial⟩, Le.refl _ _, hC1⟩
 ·
  rintro k1 a w2 sr1 ⟨M1, hF1, hl2, hC2⟩ hb2 hR1
  refine cw_at (E := [(1, (.pointer (some p1))), (3, (.int .i64 k1))]) hF1 (cw_seq (cw_seq (cw_region (lw_op Z Z Z (ow_move Z Z (lw_op Z Z Z (ow_fieldAddr Z Z Tryd.underlying27 Z (Tryd.sizeOf25 _) (lw_op Z Z Z (ow_load (R := (RSlice (RSlice RSpan))) Z Z (ARep.mono hl2 (hp1.fld fld_Box_Sides)) (Tryd.sizeOf25 _) (Tryd.isAgg25 _) fun v2 hv2 => lw_op Z Z Z (ow_len Z Z hv2 Tryd.underlying25 Z (lw_op Z Z Z (ow_lss Z Z Z fun bb1 hbb1 => lw_nil (ew_then ?_)))))))))))))
  replace hb2 := cond_some hb2
  rcases hb2 with ⟨hc1, hb2⟩ | ⟨hc1, hb2⟩
  ·
   obtain rfl := hbb1.trans hc1
   refine cw_true Z (cw_skip (ew_then (cw_seq (cw_block (cw_seq ?_)))))
   replace hb2 := cond_some hb2
   rcases hb2 with ⟨hc2, hb2⟩ | ⟨hc2, hb2⟩
   ·
    refine cw_sub (E' := [(1, (.pointer (some p1))), (3, (.int .i64 k1))]) ⟨Z, Z, trivial⟩ (cw_drawQ 10 [PEq (.int .i64 k1), PEq (.bool true), PEq (.bool true), PEq undef, PEq undef, PEq undef, PEq undef, PEq undef, PEq undef, PEq undef] (by kernel_rfl) Z (by kernel_rfl) ⟨PEq.mono _, PEq.mono _, PEq.mono _, PEq.mono _, PEq.mono _, PEq.mono _, PEq.mono _, PEq.mono _, PEq.mono _, PEq.mono _, trivial⟩ ⟨?_, ?_, ?_, ?_, ?_, ?_, ?_, ?_, ?_, ?_, trivial⟩ ?_)
    ·
     intro w3 D hS1 hd1
     exact dg_sub (E' := [(3, (.int .i64 k1))]) ⟨Z, trivial⟩ (dg_plain Z (ow_move Z Z ⟨BX.refl _ _, Z⟩))
    ·
     intro w4 D hS2 hd2
     refine dg_sub (E' := [(11, (.int .i64 k1))]) ⟨(dpE hd2 0 Z Z), trivial⟩ (dg_plain Z (ow_geq Z Z Z fun bb3 hbb3 => ?_))
     obtain rfl := hbb3.trans hc2
     exact ⟨BX.refl _ _, Z⟩
    ·
     intro w5 D hS3 hd3
     exact dg_sub (E' := [(12, (.bool true))]) ⟨(dpE hd3 1 Z Z), trivial⟩ (dg_plain Z (ow_move Z Z ⟨BX.refl _ _, Z⟩))
    ·
     intro w6 D hS4 hd4
     exact dg_sub (E' := [(13, (.bool true)), (1, (.pointer (some p1)))]) ⟨(dpE hd4 2 Z Z), Z, trivial⟩ (dg_off Z Z Z Z ⟨BX.refl _ _, Z⟩)
    ·
     intro w7 D hS5 hd5
     exact dg_sub (E' := [(14, undef), (13, (.bool true))]) ⟨(dpE hd5 3 Z Z), (dpE hd5 2 Z Z), trivial⟩ (dg_off Z Z Z Z ⟨BX.refl _ _, Z⟩)
    ·
     intro w8 D hS6 hd6
     exact dg_sub (E' := [(13, (.bool true)), (3, (.int .i64 k1))]) ⟨(dpE hd6 2 Z Z), Z, trivial⟩ (dg_off Z Z Z Z ⟨BX.refl _ _, Z⟩)
    ·
     intro w9 D hS7 hd7
     exact dg_sub (E' := [(15, undef), (16, undef), (13, (.bool true))]) ⟨(dpE hd7 4 Z Z), (dpE hd7 5 Z Z), (dpE hd7 2 Z Z), trivial⟩ (dg_off Z Z Z Z ⟨BX.refl _ _, Z⟩)
    ·
     intro w10 D hS8 hd8
     exact dg_sub (E' := [(17, undef), (13, (.bool true))]) ⟨(dpE hd8 6 Z Z), (dpE hd8 2 Z Z), trivial⟩ (dg_off Z Z Z Z ⟨BX.refl _ _, Z⟩)
    ·
     intro w11 D hS9 hd9
     exact dg_sub (E' := [(13, (.bool true)), (3, (.int .i64 k1))]) ⟨(dpE hd9 2 Z Z), Z, trivial⟩ (dg_off Z Z Z Z ⟨BX.refl _ _, Z⟩)
    ·
     intro w12 D hS10 hd10
     exact dg_sub (E' := [(19, undef), (13, (.bool true))]) ⟨(dpE hd10 8 Z Z), (dpE hd10 2 Z Z), trivial⟩ (dg_off Z Z Z Z ⟨BX.refl _ _, Z⟩)
    ·
     intro w13 D hS11 hd11
     have hC13 := hC2.no hS11
     refine lw_sub (E' := [(13, (.bool true)), (18, undef), (20, undef), (1, (.pointer (some p1))), (3, (.int .i64 k1))]) ⟨(dpE hd11 2 Z Z), (dpE hd11 7 Z Z), (dpE hd11 9 Z Z), Z, Z, trivial⟩ (lw_off Z Z Z Z Z Z (lw_off Z Z Z Z Z Z (lw_op Z Z Z (ow_pickT Z Z Z (lw_nil (ew_then (cw_true Z (cw_seq (cw_region (lw_op Z Z Z (ow_assign Z Z (lw_nil (ew_then (cw_ret (ew_blockR (ew_thenR (ew_thenR (ew_blockR (ew_brkR (ew_thenR ?_))))))))))))))))))))
     have e1 := hR1 _ (Option.some.inj hb2).symm
     subst e1
     obtain rfl := Option.some.inj h
     exact ew_ret (res1 Z (.tmp Z)) ⟨_, Z, ((vbool _)), hC13.bx⟩
   ·
    replace hb2 := bind_some hb2
    obtain ⟨x1, hx1, hb2⟩ := hb2
    replace hb2 := bind_some hb2
    obtain ⟨x2, hx2, hb2⟩ := hb2
    have hz2 := (hl1.trans hl2)
    refine cw_sub (E' := [(1, (.pointer (some p1))), (3, (.int .i64 k1))]) ⟨Z, Z, trivial⟩ (cw_drawQ 10 [PEq (.int .i64 k1), PEq (.bool false), PEq (.bool false), PA (RSlice (RSlice RSpan)) M1 a_b.Sides, PV (RSlice (RSlice RSpan)) M1 a_b.Sides, PEq (.int .i64 k1), PA (RSlice RSpan) M1 x1, PV (RSlice RSpan) M1 x1, PEq (.int .i64 k1), PEq (.int .i64 x2)] (by kernel_rfl) Z (by kernel_rfl) ⟨PEq.mono _, PEq.mono _, PEq.mono _, PA.mono _ _ _, PV.mono _ _ _, PEq.mono _, PA.mono _ _ _, PV.mono _ _ _, PEq.mono _, PEq.mono _, trivial⟩ ⟨?_, ?_, ?_, ?_, ?_, ?_, ?_, ?_, ?_, ?_, trivial⟩ ?_)
    ·
     intro w15 D hS12 hd12
     exact dg_sub (E' := [(3, (.int .i64 k1))]) ⟨Z, trivial⟩ (dg_plain Z (ow_move Z Z ⟨BX.refl _ _, Z⟩))
    ·
     intro w16 D hS13 hd13
     refine dg_sub (E' := [(11, (.int .i64 k1))]) ⟨(dpE hd13 0 Z Z), trivial⟩ (dg_plain Z (ow_geq Z Z Z fun bb4 hbb4 => ?_))
     obtain rfl := hbb4.trans hc2
     exact ⟨BX.refl _ _, Z⟩
    ·
     intro w17 D hS14 hd14
     exact dg_sub (E' := [(12, (.bool false))]) ⟨(dpE hd14 1 Z Z), trivial⟩ (dg_plain Z (ow_move Z Z ⟨BX.refl _ _, Z⟩))
    ·
     intro w18 D hS15 hd15
     have hl18 := Le.no M1 hS15
     exact dg_sub (E' := [(13, (.bool false)), (1, (.pointer (some p1)))]) ⟨(dpE hd15 2 Z Z), Z, trivial⟩ (dg_on Z Z Z Z (ow_fieldAddr Z Z Tryd.underlying27 Z (Tryd.sizeOf25 _) ⟨BX.refl _ _, ⟨_, Z, (ARep.mono (hl2.trans hl18) (hp1.fld fld_Box_Sides))⟩⟩))
    ·
     intro w19 D hS16 hd16
     have d29 : PA (RSlice (RSlice RSpan)) M1 a_b.Sides (D 3) w19 := dpA hd16 3 Z
     obtain ⟨p3, e2, ha1⟩ := d29
     exact dg_sub (E' := [(14, (.pointer (some p3))), (13, (.bool false))]) ⟨(congrArg some e2), (dpE hd16 2 Z Z), trivial⟩ (dg_on Z Z Z Z (ow_load (R := (RSlice (RSlice RSpan))) Z Z ha1 (Tryd.sizeOf25 _) (Tryd.isAgg25 _) fun v6 hv6 => ⟨BX.refl _ _, hv6⟩))
    ·
     intro w20 D hS17 hd17
     exact dg_sub (E' := [(13, (.bool false)), (3, (.int .i64 k1))]) ⟨(dpE hd17 2 Z Z), Z, trivial⟩ (dg_on Z Z Z Z (ow_move Z Z ⟨BX.refl _ _, Z⟩))
    ·
     intro w21 D hS18 hd18
     have d32 : PV (RSlice (RSlice RSpan)) M1 a_b.Sides (D 4) w21 := dpA hd18 4 Z
     generalize hq1 : (D 4) = v7 at d32
     exact dg_sub (E' := [(15, v7), (16, (.int .i64 k1)), (13, (.bool false))]) ⟨(congrArg some hq1), (dpE hd18 5 Z Z), (dpE hd18 2 Z Z), trivial⟩ (dg_on Z Z Z Z (ow_indexSlice (R := (RSlice RSpan)) Z Z Z d32 Tryd.underlying25 (Tryd.sizeOf58 _) hx1 fun p4 hp4 => ⟨BX.refl _ _, ⟨_, Z, hp4⟩⟩))
    ·
     intro w22 D hS19 hd19
     have d35 : PA (RSlice RSpan) M1 x1 (D 6) w22 := dpA hd19 6 Z
     obtain ⟨p5, e3, ha2⟩ := d35
     exact dg_sub (E' := [(17, (.pointer (some p5))), (13, (.bool false))]) ⟨(congrArg some e3), (dpE hd19 2 Z Z), trivial⟩ (dg_on Z Z Z Z (ow_load (R := (RSlice RSpan)) Z Z ha2 (Tryd.sizeOf58 _) (Tryd.isAgg58 _) fun v8 hv8 => ⟨BX.refl _ _, hv8⟩))
    ·
     intro w23 D hS20 hd20
     exact dg_sub (E' := [(13, (.bool false)), (3, (.int .i64 k1))]) ⟨(dpE hd20 2 Z Z), Z, trivial⟩ (dg_on Z Z Z Z (ow_move Z Z ⟨BX.refl _ _, Z⟩))
    ·
     intro w24 D hS21 hd21
     have hl24 := Le.no M1 hS21
     have hC24 := hC2.no hS21
     refine dg_sub (E' := [(19, (.int .i64 k1)), (13, (.bool false))]) ⟨(dpE hd21 8 Z Z), (dpE hd21 2 Z Z), trivial⟩ (dg_on Z Z Z Z (ow_call Z Z Tryd.call81 (w_spec_FieldTop (hG.mono (hz2.trans hl24)) hC24.old hx2) fun v9 w25 hv9 => ?_))
     obtain ⟨hv9, hb4⟩ := hv9
     obtain rfl := vint_eq hv9
     exact ⟨hb4, Z⟩
    ·
     intro w26 D hS22 hd22
     have d48 : PV (RSlice RSpan) M1 x1 (D 7) w26 := dpA hd22 7 Z
     have hl26 := Le.no M1 hS22
     have hC26 := hC2.no hS22
     generalize hq2 : (D 7) = v10 at d48
     refine lw_sub (E' := [(13, (.bool false)), (18, v10), (20, (.int .i64 x2)), (1, (.pointer (some p1))), (3, (.int .i64 k1))]) ⟨(dpE hd22 2 Z Z), (congrArg some hq2), (dpE hd22 9 Z Z), Z, Z, trivial⟩ ?_
     replace hb2 := bind_some hb2
     obtain ⟨x3, hx3, hb2⟩ := hb2
     refine lw_on Z Z Z Z Z Z (ow_call Z Z Tryd.call80 (w_spec_SpansValid (hG.mono (hz2.trans hl26)) hC26.old d48 hx3) fun v11 w27 hv11 => ?_)
     obtain ⟨hv11, hb5⟩ := hv11
     have hl27 := Le.no M1 hb5
     have hC27 := hC26.no hb5
     obtain rfl := vbool_eq hv11
     refine lw_on Z Z Z Z Z Z (ow_not Z Z (lw_op Z Z Z (ow_pickF Z Z Z (lw_nil (ew_then ?_)))))
     replace hb2 := cond_some hb2
     rcases hb2 with ⟨hc3, hb2⟩ | ⟨hc3, hb2⟩
     ·
      subst hc3
      refine cw_false Z (cw_skip (ew_blockN (ew_then (cw_region (lw_op Z Z Z (ow_move Z Z (lw_op Z Z Z (ow_add Z Z Z (lw_op Z Z Z (ow_assign Z Z (lw_nil ?_)))))))))))
      have hz3 := ((hl2.trans hl26).trans hl27)
      exact ew_nxt (W (k1 + 1)) hb2 fun a ha => ⟨M1, (ha.sub ⟨Z, Z, trivial⟩), hz3, hC27⟩
     ·
      subst hc3
      refine cw_true Z (cw_seq (cw_region (lw_op Z Z Z (ow_assign Z Z (lw_nil (ew_then (cw_ret (ew_blockR (ew_thenR (ew_thenR (ew_blockR (ew_brkR (ew_thenR ?_)))))))))))))
      have e4 := hR1 _ (Option.some.inj hb2).symm
      subst e4
      obtain rfl := Option.some.inj h
      exact ew_ret (res1 Z (.tmp Z)) ⟨_, Z, ((vbool _)), hC27.bx⟩
  ·
   obtain rfl := hbb1.trans hc1
   exact cw_false Z (cw_exit (ew_thenX (ew_thenX (ew_blockX (ew_brk k1 hb2 fun a ha => ⟨M1, (ha.sub ⟨Z, Z, trivial⟩), hl2, hC2⟩)))))
 ·
  rintro k2 a w28 hlr2 ⟨M2, hF2, hl28, hC28⟩
  subst hlr2
  refine ew_at (E := [(1, (.pointer (some p1))), (3, (.int .i64 k2))]) hF2 (ew_then (cw_seq (cw_region (lw_op Z Z Z (ow_fieldAddr Z Z Tryd.underlying27 Z (Tryd.sizeOf25 _) (lw_op Z Z Z (ow_load (R := (RSlice (RSlice RSpan))) Z Z (ARep.mono hl28 (hp1.fld fld_Box_Sides)) (Tryd.sizeOf25 _) (Tryd.isAgg25 _) fun v13 hv13 => lw_op Z Z Z (ow_len Z Z hv13 Tryd.underlying25 Z (lw_op Z Z Z (ow_eqlI Z Z Z fun bb5 hbb5 => lw_op Z Z Z (ow_assign Z Z (lw_nil (ew_then (cw_ret ?_))))))))))))))
  obtain rfl := Option.some.inj h
  exact ew_ret (res1 Z (.tmp Z)) ⟨_, Z, ((vbool_of hbb5)), hC28.bx⟩

theorem w_spec_l20Open {w : World} {M : Nat → Prop} (_hG : ARep (RArr 4 RShape) w M shapes ⟨0, 0, none⟩) (hO : ∀ b, M b → b < w.heap.size) {v0p : Value} {a_code : List Int} (h0 : VRep (RSlice RU8) w M a_code v0p) {r : List Int × Int} (h : F.spec_l20Open a_code = some r) :
  Calls Tryd.prog 54 [v0p].toArray w fun e w' => ∃ v, e = .returned v ∧ (∃ g A c, v = .pointer (some ⟨g, 0, none⟩) ∧ w.heap.size ≤ g ∧ Own w' g 98 #[.slice A r.1.length c, .int .i64 r.2] ∧ VRep (RSlice RU8) w' (Add g M) r.1 (.slice A r.1.length c)) ∧ BX No w w' := by
 have hC : Cx No w M w M := Cx.start hO (fun _ e => e.elim)
 clear _hG
 refine walk (N := 11) Tryd.func54 Z Tryd.ntmps54 Z (cw_seq (cw_region (lw_op Z Z Z (ow_assign Z Z (lw_nil (ew_then (cw_seq (cw_seq (cw_region (lw_op Z Z Z (ow_move Z Z (lw_op Z Z Z (ow_len Z Z h0 Tryd.underlying22 Z (lw_op Z Z Z (ow_gtr Z Z Z fun bb1 hbb1 => lw_nil (ew_then ?_))))))))))))))))
 replace h := cond_some h
 rcases h with ⟨hc1, h⟩ | ⟨hc1, h⟩
 ·
  obtain rfl := hbb1.trans hc1
  refine cw_true Z (cw_region (lw_op Z Z Z (ow_move Z Z ?_)))
  replace h := bind_some h
  obtain ⟨y1, hy1, h⟩ := h
  refine lw_op Z Z Z (ow_sliceTo (R := RU8) Z Z Z h0 Tryd.underlying22 (Tryd.sizeOf5 _) (takeF_some hy1).2 fun v1 hv1 => ?_)
  rw [← (takeF_some hy1).1] at hv1
  refine lw_op Z Z Z (ow_assign Z Z (lw_nil (ew_then (cw_seq (cw_region (lw_op Z Z Z (ow_move Z Z ?_)))))))
  obtain ⟨A1, c1, rfl, -⟩ := vslice_shape hv1
  refine lw_op Z Z Z (ow_build (v := .agg #[(.slice A1 y1.length c1), (.int .i64 0)]) Z Z (by kernel_rfl) (lw_op Z Z Z (ow_boxOwn Z Z hC fun g1 w1 hg1 hg2 ho1 hb1 hl1 hC1 => lw_op Z Z Z (ow_assign Z Z (lw_nil (ew_then (cw_ret ?_)))))))
  obtain rfl := Option.some.inj h
  exact ew_ret (res1 Z (.tmp Z)) ⟨_, Z, ⟨_, _, _, Z, hg2, ho1, (VRep.mono hl1 hv1)⟩, hC1.bx⟩
 ·
  obtain rfl := hbb1.trans hc1
  refine cw_false Z (cw_skip (ew_then (cw_seq (cw_region (lw_op Z Z Z (ow_move Z Z ?_))))))
  obtain ⟨A2, c2, rfl, -⟩ := vslice_shape h0
  refine lw_op Z Z Z (ow_build (v := .agg #[(.slice A2 a_code.length c2), (.int .i64 0)]) Z Z (by kernel_rfl) (lw_op Z Z Z (ow_boxOwn Z Z hC fun g2 w2 hg3 hg4 ho2 hb2 hl2 hC2 => lw_op Z Z Z (ow_assign Z Z (lw_nil (ew_then (cw_ret ?_)))))))
  obtain rfl := Option.some.inj h
  exact ew_ret (res1 Z (.tmp Z)) ⟨_, Z, ⟨_, _, _, Z, hg4, ho2, (VRep.mono hl2 h0)⟩, hC2.bx⟩

theorem w_spec_l1OwnRowsSpan {w : World} {M : Nat → Prop} (_hG : ARep (RArr 4 RShape) w M shapes ⟨0, 0, none⟩) (hO : ∀ b, M b → b < w.heap.size) {v0p : Value} {a_list : List (List Span)} (h0 : VRep (RSlice (RSlice RSpan)) w M a_list v0p) {r : (List (List Span))} (h : F.spec_l1OwnRowsSpan a_list = some r) :
  Calls Tryd.prog 106 [v0p].toArray w fun e w' => ∃ v, e = .returned v ∧ VRep (RSlice (RSlice RSpan)) w' M r v ∧ BX No w w' := by
 obtain ⟨i58, hi58, hz58, hs58, hy58⟩ := info58
 obtain ⟨i76, hi76, hz76, hs76, hy76⟩ := info76
 have hC : Cx No w M w M := Cx.start hO (fun _ e => e.elim)
 clear _hG
 refine walk (N := 22) Tryd.func106 Z Tryd.ntmps106 Z (cw_seq (cw_region (lw_op Z Z Z (ow_assign Z Z (lw_nil (ew_then (cw_seq (cw_region (lw_op Z Z Z (ow_buildSlice0 (R := (RSlice RSpan)) (e := 58) Z (by kernel_rfl) hC fun p1 w1 M1 hr1 hb1 hl1 hC1 hM1 hat1 => lw_op Z Z Z (ow_assign Z Z (lw_nil (ew_then (cw_seq (cw_seq (cw_region (lw_op Z Z Z (ow_assign Z Z (lw_nil (ew_then ?_))))))))))))))))))))
 replace h := bind_some h
 obtain ⟨lr1, hlr1, h⟩ := h
 refine cw_for hlr1 (fun s a w' => ∃ (M' : Nat → Prop) (v0c : Value), Fits 22 [(0, v0p), (3, v0c), (4, (.int .i64 s.2))] a ∧ Le w1 M1 w' M' ∧ Cx No w M w' M' ∧ OwnRow (RSlice RSpan) w.heap.size 58 w' M' s.1 v0c) ?_ ?_ ?_
 ·
  intro a ha
  exact ⟨M1, (.slice (some p1) 0 0), ha.sub ⟨Z, Z, Z, trivial⟩, Le.refl _ _, hC1, hr1⟩
 ·
  rintro ⟨y1, k1⟩ a w2 sr1 ⟨M2, v1, hF1, hl2, hC2, hw1⟩ hb2 hR1
  refine cw_at (E := [(0, v0p), (3, v1), (4, (.int .i64 k1))]) hF1 (cw_seq (cw_seq (cw_region (lw_op Z Z Z (ow_move Z Z (lw_op Z Z Z (ow_move Z Z (lw_op Z Z Z (ow_len Z Z (VRep.mono (hl1.trans hl2) h0) Tryd.underlying25 Z (lw_op Z Z Z (ow_lss Z Z Z fun bb1 hbb1 => lw_nil (ew_then ?_))))))))))))
  replace hb2 := cond_some hb2
  rcases hb2 with ⟨hc1, hb2⟩ | ⟨hc1, hb2⟩
  ·
   obtain rfl := hbb1.trans hc1
   refine cw_true Z (cw_skip (ew_then (cw_seq (cw_block (cw_region (lw_op Z Z Z (ow_move Z Z (lw_op Z Z Z (ow_buildSlice0 (R := RSpan) (e := 76) Z (by kernel_rfl) hC2 fun p2 w3 M3 hr2 hb3 hl3 hC3 hM2 hat2 => ?_)))))))))
   have hr3 := hw1.go hb3 (fun _ _ e => e) hl3 hM2
   refine lw_op Z Z Z (ow_move Z Z (lw_op Z Z Z (ow_move Z Z ?_)))
   replace hb2 := bind_some hb2
   obtain ⟨x1, hx1, hb2⟩ := hb2
   have hz1 := ((hl1.trans hl2).trans hl3)
   refine lw_op Z Z Z (ow_indexSlice (R := (RSlice RSpan)) Z Z Z (VRep.mono hz1 h0) Tryd.underlying25 (Tryd.sizeOf58 _) hx1 fun p3 hp3 => lw_op Z Z Z (ow_load (R := (RSlice RSpan)) Z Z hp3 (Tryd.sizeOf58 _) (Tryd.isAgg58 _) fun v3 hv3 => ?_))
   replace hb2 := bind_some hb2
   obtain ⟨z1, hz1, hb2⟩ := hb2
   refine lw_op Z Z Z (ow_appendCopy (R := RSpan) Z Z Z Z Tryd.underlying58 hi76 hz76 hs76 hy76 Z Z Z Z hv3 hz1 hC3 fun v4 w4 hw2 hb4 hl4 hC4 => ?_)
   have hr4 := hr3.no hb4
   obtain ⟨A1, c1, rfl, -⟩ := vslice_shape hw2
   refine lw_op Z Z Z (ow_buildSlice (R := (RSlice RSpan)) (xs := [z1]) (cs := #[(.slice A1 z1.length c1)]) (e := 58) Z Z (by kernel_rfl) Z Z ⟨_, _, Z, hw2.cells, Z⟩ hC4 fun p4 w5 hw3 hb5 hl5 hC5 => ?_)
   have hr6 := hr4.no hb5
   replace hb2 := bind_some hb2
   obtain ⟨z2, hz2, hb2⟩ := hb2
   refine lw_op Z Z Z (ow_append (R := (RSlice RSpan)) Z Z Z Z Tryd.underlying25 hi58 hz58 hs58 hy58 Z Z Z Z hr6 hw3 hz2 hC5 fun v5 w6 M4 hr8 hb6 hl6 hC6 hM3 hat3 => lw_op Z Z Z (ow_assign Z Z (lw_nil (ew_blockN (ew_then (cw_region (lw_op Z Z Z (ow_move Z Z (lw_op Z Z Z (ow_add Z Z Z (lw_op Z Z Z (ow_assign Z Z (lw_nil ?_)))))))))))))
   have hz2 := ((((hl2.trans hl3).trans hl4).trans hl5).trans hl6)
   exact ew_nxt (z2, (W (k1 + 1))) hb2 fun a ha => ⟨M4, v5, (ha.sub ⟨Z, Z, Z, trivial⟩), hz2, hC6, hr8⟩
  ·
   obtain rfl := hbb1.trans hc1
   exact cw_false Z (cw_exit (ew_thenX (ew_thenX (ew_blockX (ew_brk (y1, k1) hb2 fun a ha => ⟨M2, v1, (ha.sub ⟨Z, Z, Z, trivial⟩), hl2, hC2, hw1⟩)))))
 ·
  rintro ⟨y2, k2⟩ a w7 hlr2 ⟨M5, v6, hF2, hl7, hC7, hw4⟩
  subst hlr2
  refine ew_at (E := [(0, v0p), (3, v6), (4, (.int .i64 k2))]) hF2 (ew_then (cw_seq (cw_region (lw_op Z Z Z (ow_move Z Z (lw_op Z Z Z (ow_assign Z Z (lw_nil (ew_then (cw_ret ?_))))))))))
  obtain rfl := Option.some.inj h
  exact ew_ret (res1 Z (.tmp Z)) ⟨_, Z, (hw4.freezeBack hC7 hO), hC7.bx⟩

theorem wo_spec_l1OwnRowsSpan {w : World} {M : Nat → Prop} (_hG : ARep (RArr 4 RShape) w M shapes ⟨0, 0, none⟩) (hO : ∀ b, M b → b < w.heap.size) {v0p : Value} {a_list : List (List Span)} (h0 : VRep (RSlice (RSlice RSpan)) w M a_list v0p) {r : (List (List Span))} (h : F.spec_l1OwnRowsSpan a_list = some r) :
  Calls Tryd.prog 106 [v0p].toArray w fun e w' => ∃ v, e = .returned v ∧ (∃ M', OwnRow (RSlice RSpan) w.heap.size 58 w' M' r v ∧ Cx No w M w' M') ∧ BX No w w' := by
 obtain ⟨i58, hi58, hz58, hs58, hy58⟩ := info58
 obtain ⟨i76, hi76, hz76, hs76, hy76⟩ := info76
 have hC : Cx No w M w M := Cx.start hO (fun _ e => e.elim)
 clear _hG
 refine walk (N := 22) Tryd.func106 Z Tryd.ntmps106 Z (cw_seq (cw_region (lw_op Z Z Z (ow_assign Z Z (lw_nil (ew_then (cw_seq (cw_region (lw_op Z Z Z (ow_buildSlice0 (R := (RSlice RSpan)) (e := 58) Z (by kernel_rfl) hC fun p1 w1 M1 hr1 hb1 hl1 hC1 hM1 hat1 => lw_op Z Z Z (ow_assign Z Z (lw_nil (ew_then (cw_seq (cw_seq (cw_region (lw_op Z Z Z (ow_assign Z Z (lw_nil (ew_then ?_))))))))))))))))))))
 replace h := bind_some h
 obtain ⟨lr1, hlr1, h⟩ := h
 refine cw_for hlr1 (fun s a w' => ∃ (M' : Nat → Prop) (v0c : Value), Fits 22 [(0, v0p), (3, v0c), (4, (.int .i64 s.2))] a ∧ Le w1 M1 w' M' ∧ Cx No w M w' M' ∧ OwnRow (RSlice RSpan) w.heap.size 58 w' M' s.1 v0c) ?_ ?_ ?_
 ·
  intro a ha
  exact ⟨M1, (.slice (some p1) 0 0), ha.sub ⟨Z, Z, Z, trivial⟩, Le.refl _ _, hC1, hr1⟩
 ·
  rintro ⟨y1, k1⟩ a w2 sr1 ⟨M2, v1, hF1, hl2, hC2, hw1⟩ hb2 hR1
  refine cw_at (E := [(0, v0p), (3, v1), (4, (.int .i64 k1))]) hF1 (cw_seq (cw_seq (cw_region (lw_op Z Z Z (ow_move Z Z (lw_op Z Z Z (ow_move Z Z (lw_op Z Z Z (ow_len Z Z (VRep.mono (hl1.trans hl2) h0) Tryd.underlying25 Z (lw_op Z Z Z (ow_lss Z Z Z fun bb1 hbb1 => lw_nil (ew_then ?_))))))))))))
  replace hb2 := cond_some hb2
  rcases hb2 with ⟨hc1, hb2⟩ | ⟨hc1, hb2⟩
  ·
   obtain rfl := hbb1.trans hc1
   refine cw_true Z (cw_skip (ew_then (cw_seq (cw_block (cw_region (lw_op Z Z Z (ow_move Z Z (lw_op Z Z Z (ow_buildSlice0 (R := RSpan) (e := 76) Z (by kernel_rfl) hC2 fun p2 w3 M3 hr2 hb3 hl3 hC3 hM2 hat2 => ?_)))))))))
   have hr3 := hw1.go hb3 (fun _ _ e => e) hl3 hM2
   refine lw_op Z Z Z (ow_move Z Z (lw_op Z Z Z (ow_move Z Z ?_)))
   replace hb2 := bind_some hb2
   obtain ⟨x1, hx1, hb2⟩ := hb2
   have hz1 := ((hl1.trans hl2).trans hl3)
   refine lw_op Z Z Z (ow_indexSlice (R := (RSlice RSpan)) Z Z Z (VRep.mono hz1 h0) Tryd.underlying25 (Tryd.sizeOf58 _) hx1 fun p3 hp3 => lw_op Z Z Z (ow_load (R := (RSlice RSpan)) Z Z hp3 (Tryd.sizeOf58 _) (Tryd.isAgg58 _) fun v3 hv3 => ?_))
   replace hb2 := bind_some hb2
   obtain ⟨z1, hz1, hb2⟩ := hb2
   refine lw_op Z Z Z (ow_appendCopy (R := RSpan) Z Z Z Z Tryd.underlying58 hi76 hz76 hs76 hy76 Z Z Z Z hv3 hz1 hC3 fun v4 w4 hw2 hb4 hl4 hC4 => ?_)
   have hr4 := hr3.no hb4
   obtain ⟨A1, c1, rfl, -⟩ := vslice_shape hw2
   refine lw_op Z Z Z (ow_buildSlice (R := (RSlice RSpan)) (xs := [z1]) (cs := #[(.slice A1 z1.length c1)]) (e := 58) Z Z (by kernel_rfl) Z Z ⟨_, _, Z, hw2.cells, Z⟩ hC4 fun p4 w5 hw3 hb5 hl5 hC5 => ?_)
   have hr6 := hr4.no hb5
   replace hb2 := bind_some hb2
   obtain ⟨z2, hz2, hb2⟩ := hb2
   refine lw_op Z Z Z (ow_append (R := (RSlice RSpan)) Z Z Z Z Tryd.underlying25 hi58 hz58 hs58 hy58 Z Z Z Z hr6 hw3 hz2 hC5 fun v5 w6 M4 hr8 hb6 hl6 hC6 hM3 hat3 => lw_op Z Z Z (ow_assign Z Z (lw_nil (ew_blockN (ew_then (cw_region (lw_op Z Z Z (ow_move Z Z (lw_op Z Z Z (ow_add Z Z Z (lw_op Z Z Z (ow_assign Z Z (lw_nil ?_)))))))))))))
   have hz2 := ((((hl2.trans hl3).trans hl4).trans hl5).trans hl6)
   exact ew_nxt (z2, (W (k1 + 1))) hb2 fun a ha => ⟨M4, v5, (ha.sub ⟨Z, Z, Z, trivial⟩), hz2, hC6, hr8⟩
  ·
   obtain rfl := hbb1.trans hc1
   exact cw_false Z (cw_exit (ew_thenX (ew_thenX (ew_blockX (ew_brk (y1, k1) hb2 fun a ha => ⟨M2, v1, (ha.sub ⟨Z, Z, Z, trivial⟩), hl2, hC2, hw1⟩)))))
 ·
  rintro ⟨y2, k2⟩ a w7 hlr2 ⟨M5, v6, hF2, hl7, hC7, hw4⟩
  subst hlr2
  refine ew_at (E := [(0, v0p), (3, v6), (4, (.int .i64 k2))]) hF2 (ew_then (cw_seq (cw_region (lw_op Z Z Z (ow_move Z Z (lw_op Z Z Z (ow_assign Z Z (lw_nil (ew_then (cw_ret ?_))))))))))
  obtain rfl := Option.some.inj h
  exact ew_ret (res1 Z (.tmp Z)) ⟨_, Z, ⟨M5, hw4, hC7⟩, hC7.bx⟩

theorem w_spec_l1OwnBox {w : World} {M : Nat → Prop} (hG : ARep (RArr 4 RShape) w M shapes ⟨0, 0, none⟩) (hO : ∀ b, M b → b < w.heap.size) {v0p : Value} {a_x : Box} (h0 : VRep RBox w M a_x v0p) {r : Box} (h : F.spec_l1OwnBox a_x = some r) :
  Calls Tryd.prog 85 [v0p].toArray w fun e w' => ∃ v, e = .returned v ∧ VRep RBox w' M r v ∧ BX No w w' := by
 have hC : Cx No w M w M := Cx.start hO (fun _ e => e.elim)
 refine walk (N := 10) Tryd.func85 Z Tryd.ntmps85 Z (cw_seq (cw_region (lw_op Z Z Z (ow_box (R := RBox) Z Z h0 hC fun p1 w1 hp1 hb1 hl1 hC1 => lw_op Z Z Z (ow_alloc Z (Tryd.zeroValue27 _) hC1 fun g1 w2 hg1 hg2 ho1 hb2 hl2 hC2 => ?_)))))
 have hm1 : (Add g1 M) g1 := .inl Z
 refine lw_nil (ew_then (cw_seq (cw_region (lw_op Z Z Z (ow_load (R := RBox) Z Z (ARep.mono hl2 hp1) (Tryd.sizeOf27 _) (Tryd.isAgg27 _) fun v1 hv1 => lw_op Z Z Z (ow_alloc Z (Tryd.zeroValue27 _) hC2 fun g2 w3 hg3 hg4 ho2 hb3 hl3 hC3 => ?_))))))
 have hn1 := Nat.ne_of_lt (Nat.lt_of_lt_of_le ho1.lt hg3)
 have ho3 := ho1.no hb3
 have hm2 : (Add g2 (Add g1 M)) g1 := .inr hm1
 have hm3 : (Add g2 (Add g1 M)) g2 := .inl Z
 obtain ⟨A1, c1, rfl, hw1⟩ := open_Box hv1
 refine lw_op0 Z Z (ow_store (X := No) (us := [(.slice A1 a_x.Sides.length c1)]) (cs' := #[(.slice A1 a_x.Sides.length c1)]) Z Z Z Z ho2 (Tryd.sizeOf27 _) Z Z Z Z hm3 (.inl hg4) Z hC3 fun w4 ho4 hb4 hl4 hC4 => ?_)
 have ho5 := ho3.go hb4 (fun e => hn1 e)
 refine lw_nil (ew_then (cw_seq (cw_region (lw_op Z Z Z (ow_fieldAddr Z Z Tryd.underlying27 Z (Tryd.sizeOf25 _) ?_)))))
 have hz1 := ((hl2.trans hl3).trans hl4)
 refine lw_op Z Z Z (ow_load (R := (RSlice (RSlice RSpan))) Z Z (ARep.mono hz1 (hp1.fld fld_Box_Sides)) (Tryd.sizeOf25 _) (Tryd.isAgg25 _) fun v2 hv2 => ?_)
 replace h := bind_some h
 obtain ⟨x1, hx1, h⟩ := h
 have hz2 := (((hl1.trans hl2).trans hl3).trans hl4)
 refine lw_op Z Z Z (ow_call Z Z Tryd.call106 (w_spec_l1OwnRowsSpan (hG.mono hz2) hC4.old hv2 hx1) fun v3 w5 hv3 => ?_)
 obtain ⟨hv3, hb5⟩ := hv3
 have hC5 := hC4.no hb5
 have ho6 := ho5.no hb5
 have ho7 := ho4.no hb5
 refine lw_op Z Z Z (ow_fieldAddr Z Z Tryd.underlying27 Z (Tryd.sizeOf25 _) ?_)
 obtain ⟨A2, c2, rfl, -⟩ := vslice_shape hv3
 refine lw_op0 Z Z (ow_store (X := No) (us := [(.slice A2 x1.length c2)]) (cs' := #[(.slice A2 x1.length c2)]) Z Z Z Z ho7 (Tryd.sizeOf25 _) Z Z Z Z hm3 (.inl hg4) Z hC5 fun w6 ho8 hb6 hl6 hC6 => ?_)
 have ho9 := ho6.go hb6 (fun e => hn1 e)
 refine lw_nil (ew_then (cw_seq (cw_region (lw_op Z Z Z (ow_loadOwnA Z Z Z ho8 (Tryd.isAgg27 _) (Tryd.sizeOf27 _) Z (lw_op0 Z Z (ow_store (X := No) (us := [(.slice A2 x1.length c2)]) (cs' := #[(.slice A2 x1.length c2)]) Z Z Z Z ho9 (Tryd.sizeOf27 _) Z Z Z Z hm2 (.inl hg2) Z hC6 fun w7 ho10 hb7 hl7 hC7 => lw_nil (ew_then (cw_ret ?_)))))))))
 have hw3 : VRep RBox w7 (Add g2 (Add g1 M)) ({ Sides := x1 } : Box) (.agg #[(.slice A2 x1.length c2)]) := shut_Box (VRep.mono (hl6.trans hl7) hv3)
 obtain rfl := Option.some.inj h
 exact ew_ret (res1 Z (.cell Z (own_loadVarA ho10 (Tryd.isAgg27 _) (Tryd.sizeOf27 _) Z))) ⟨_, Z, (hw3.mono hC7.back), hC7.bx⟩

theorem w_spec_l2Meet {w : World} {M : Nat → Prop} (_hG : ARep (RArr 4 RShape) w M shapes ⟨0, 0, none⟩) (hO : ∀ b, M b → b < w.heap.size) {v0p : Value} {a_a : List Span} (h0 : VRep (RSlice RSpan) w M a_a v0p) {v1p : Value} {a_b : List Span} (h1 : VRep (RSlice RSpan) w M a_b v1p) {r : (List Span)} (h : F.spec_l2Meet a_a a_b = some r) :
  Calls Tryd.prog 60 [v0p, v1p].toArray w fun e w' => ∃ v, e = .returned v ∧ VRep (RSlice RSpan) w' M r v ∧ BX No w w' := by
 obtain ⟨i76, hi76, hz76, hs76, hy76⟩ := info76
 have hC : Cx No w M w M := Cx.start hO (fun _ e => e.elim)
 clear _hG
 refine walk (N := 55) Tryd.func60 Z Tryd.ntmps60 Z (cw_seq (cw_region (lw_op Z Z Z (ow_assign Z Z (lw_nil (ew_then (cw_seq (cw_region (lw_op Z Z Z (ow_buildSlice0 (R := RSpan) (e := 76) Z (by kernel_rfl) hC fun p1 w1 M1 hr1 hb1 hl1 hC1 hM1 hat1 => lw_op Z Z Z (ow_assign Z Z (lw_nil (ew_then (cw_seq (cw_seq (cw_region (lw_op Z Z Z (ow_assign Z Z (lw_nil (ew_then ?_))))))))))))))))))))
 replace h := bind_some h
 obtain ⟨lr1, hlr1, h⟩ := h
 refine cw_for hlr1 (fun s a w' => ∃ (M' : Nat → Prop) (v0c : Value), Fits 55 [(0, v0p), (1, v1p), (5, v0c), (6, (.int .i64 s.2))] a ∧ Le w1 M1 w' M' ∧ Cx No w M w' M' ∧ OwnRow RSpan w.heap.size 76 w' M' s.1 v0c) ?_ ?_ ?_
 ·
  intro a ha
  exact ⟨M1, (.slice (some p1) 0 0), ha.sub ⟨Z, Z, Z, Z, trivial⟩, Le.refl _ _, hC1, hr1⟩
 ·
  rintro ⟨y1, k1⟩ a w2 sr1 ⟨M2, v1, hF1, hl2, hC2, hw1⟩ hb2 hR1
  refine cw_at (E := [(0, v0p), (1, v1p), (5, v1), (6, (.int .i64 k1))]) hF1 (cw_seq (cw_seq (cw_region (lw_op Z Z Z (ow_move Z Z (lw_op Z Z Z (ow_move Z Z (lw_op Z Z Z (ow_len Z Z (VRep.mono (hl1.trans hl2) h0) Tryd.underlying58 Z (lw_op Z Z Z (ow_lss Z Z Z fun bb1 hbb1 => lw_nil (ew_then ?_))))))))))))
  replace hb2 := cond_some hb2
  rcases hb2 with ⟨hc1, hb2⟩ | ⟨hc1, hb2⟩
  ·
   obtain rfl := hbb1.trans hc1
   refine cw_true Z (cw_skip (ew_then (cw_seq (cw_block (cw_seq (cw_region (lw_op Z Z Z (ow_assign Z Z (lw_nil (ew_then ?_))))))))))
   replace hb2 := bind_some hb2
   obtain ⟨lr2, hlr2, hb2⟩ := hb2
   refine cw_for hlr2 (fun s a w' => ∃ (M' : Nat → Prop) (v0c : Value), Fits 55 [(0, v0p), (1, v1p), (5, v0c), (6, (.int .i64 k1)), (7, (.int .i64 s.2))] a ∧ Le w2 M2 w' M' ∧ Cx No w M w' M' ∧ OwnRow RSpan w.heap.size 76 w' M' s.1 v0c) ?_ ?_ ?_
   ·
    intro a ha
    exact ⟨M2, v1, ha.sub ⟨Z, Z, Z, Z, Z, trivial⟩, Le.refl _ _, hC2, hw1⟩
   ·
    rintro ⟨y2, k2⟩ a w3 sr2 ⟨M3, v3, hF2, hl3, hC3, hw2⟩ hb3 hR2
    refine cw_at (E := [(0, v0p), (1, v1p), (5, v3), (6, (.int .i64 k1)), (7, (.int .i64 k2))]) hF2 (cw_seq (cw_seq (cw_region (lw_op Z Z Z (ow_move Z Z (lw_op Z Z Z (ow_move Z Z ?_)))))))
    have hz1 := ((hl1.trans hl2).trans hl3)
    refine lw_op Z Z Z (ow_len Z Z (VRep.mono hz1 h1) Tryd.underlying58 Z (lw_op Z Z Z (ow_lss Z Z Z fun bb2 hbb2 => lw_nil (ew_then ?_))))
    replace hb3 := cond_some hb3
    rcases hb3 with ⟨hc2, hb3⟩ | ⟨hc2, hb3⟩
    ·
     obtain rfl := hbb2.trans hc2
     refine cw_true Z (cw_skip (ew_then (cw_seq (cw_block (cw_seq ?_)))))
     replace hb3 := bind_some hb3
     obtain ⟨x1, hx1, hb3⟩ := hb3
     replace hb3 := bind_some hb3
     obtain ⟨x2, hx2, hb3⟩ := hb3
     refine cw_sub (E' := [(0, v0p), (1, v1p), (5, v3), (6, (.int .i64 k1)), (7, (.int .i64 k2))]) ⟨Z, Z, Z, Z, Z, trivial⟩ (cw_drawQ 10 [PV (RSlice RSpan) M3 a_a, PEq (.int .i64 k1), PA RSpan M3 x1, PA RInt M3 x1.Lo, PEq (.int .i64 x1.Lo), PV (RSlice RSpan) M3 a_b, PEq (.int .i64 k2), PA RSpan M3 x2, PA RInt M3 x2.Lo, PEq (.int .i64 x2.Lo)] (by kernel_rfl) Z (by kernel_rfl) ⟨PV.mono _ _ _, PEq.mono _, PA.mono _ _ _, PA.mono _ _ _, PEq.mono _, PV.mono _ _ _, PEq.mono _, PA.mono _ _ _, PA.mono _ _ _, PEq.mono _, trivial⟩ ⟨?_, ?_, ?_, ?_, ?_, ?_, ?_, ?_, ?_, ?_, trivial⟩ ?_)
     ·
      intro w4 D hS1 hd1
      have hl4 := Le.no M3 hS1
      exact dg_sub (E' := [(0, v0p)]) ⟨Z, trivial⟩ (dg_plain Z (ow_move Z Z ⟨BX.refl _ _, (VRep.mono (hz1.trans hl4) h0)⟩))
     ·
      intro w5 D hS2 hd2
      exact dg_sub (E' := [(6, (.int .i64 k1))]) ⟨Z, trivial⟩ (dg_plain Z (ow_move Z Z ⟨BX.refl _ _, Z⟩))
     ·
      intro w6 D hS3 hd3
      have d1 : PV (RSlice RSpan) M3 a_a (D 0) w6 := dpA hd3 0 Z
      generalize hq1 : (D 0) = v7 at d1
      exact dg_sub (E' := [(23, v7), (24, (.int .i64 k1))]) ⟨(congrArg some hq1), (dpE hd3 1 Z Z), trivial⟩ (dg_plain Z (ow_indexSlice (R := RSpan) Z Z Z d1 Tryd.underlying58 (Tryd.sizeOf76 _) hx1 fun p4 hp4 => ⟨BX.refl _ _, ⟨_, Z, hp4⟩⟩))
     ·
      intro w7 D hS4 hd4
      have d3 : PA RSpan M3 x1 (D 2) w7 := dpA hd4 2 Z
      obtain ⟨p5, e1, ha1⟩ := d3
      exact dg_sub (E' := [(25, (.pointer (some p5)))]) ⟨(congrArg some e1), trivial⟩ (dg_plain Z (ow_fieldAddr Z Z Tryd.underlying76 Z (Tryd.sizeOf3 _) ⟨BX.refl _ _, ⟨_, Z, (ha1.fld fld_Span_Lo)⟩⟩))
     ·
      intro w8 D hS5 hd5
      have d4 : PA RInt M3 x1.Lo (D 3) w8 := dpA hd5 3 Z
      obtain ⟨p6, e2, ha2⟩ := d4
      refine dg_sub (E' := [(26, (.pointer (some p6)))]) ⟨(congrArg some e2), trivial⟩ (dg_plain Z (ow_load (R := RInt) Z Z ha2 (Tryd.sizeOf3 _) (Tryd.isAgg3 _) fun v8 hv8 => ?_))
      obtain rfl := vint_eq hv8
      exact ⟨BX.refl _ _, Z⟩
     ·
      intro w9 D hS6 hd6
      have hl9 := Le.no M3 hS6
      exact dg_sub (E' := [(1, v1p)]) ⟨Z, trivial⟩ (dg_plain Z (ow_move Z Z ⟨BX.refl _ _, (VRep.mono (hz1.trans hl9) h1)⟩))
     ·
      intro w10 D hS7 hd7
      exact dg_sub (E' := [(7, (.int .i64 k2))]) ⟨Z, trivial⟩ (dg_plain Z (ow_move Z Z ⟨BX.refl _ _, Z⟩))
     ·
      intro w11 D hS8 hd8
      have d5 : PV (RSlice RSpan) M3 a_b (D 5) w11 := dpA hd8 5 Z
      generalize hq2 : (D 5) = v9 at d5
      exact dg_sub (E' := [(28, v9), (29, (.int .i64 k2))]) ⟨(congrArg some hq2), (dpE hd8 6 Z Z), trivial⟩ (dg_plain Z (ow_indexSlice (R := RSpan) Z Z Z d5 Tryd.underlying58 (Tryd.sizeOf76 _) hx2 fun p7 hp7 => ⟨BX.refl _ _, ⟨_, Z, hp7⟩⟩))
     ·
      intro w12 D hS9 hd9
      have d7 : PA RSpan M3 x2 (D 7) w12 := dpA hd9 7 Z
      obtain ⟨p8, e3, ha3⟩ := d7
      exact dg_sub (E' := [(30, (.pointer (some p8)))]) ⟨(congrArg some e3), trivial⟩ (dg_plain Z (ow_fieldAddr Z Z Tryd.underlying76 Z (Tryd.sizeOf3 _) ⟨BX.refl _ _, ⟨_, Z, (ha3.fld fld_Span_Lo)⟩⟩))
     ·
      intro w13 D hS10 hd10
      have d8 : PA RInt M3 x2.Lo (D 8) w13 := dpA hd10 8 Z
      obtain ⟨p9, e4, ha4⟩ := d8
      refine dg_sub (E' := [(31, (.pointer (some p9)))]) ⟨(congrArg some e4), trivial⟩ (dg_plain Z (ow_load (R := RInt) Z Z ha4 (Tryd.sizeOf3 _) (Tryd.isAgg3 _) fun v10 hv10 => ?_))
      obtain rfl := vint_eq hv10
      exact ⟨BX.refl _ _, Z⟩
     ·
      intro w14 D hS11 hd11
      have hl14 := Le.no M3 hS11
      have hC14 := hC3.no hS11
      have hr12 := hw2.no hS11
      refine lw_sub (E' := [(27, (.int .i64 x1.Lo)), (32, (.int .i64 x2.Lo)), (0, v0p), (1, v1p), (5, v3), (6, (.int .i64 k1)), (7, (.int .i64 k2))]) ⟨(dpE hd11 4 Z Z), (dpE hd11 9 Z Z), Z, Z, Z, Z, Z, trivial⟩ (lw_op Z Z Z (ow_max Z Z Z (lw_op Z Z Z (ow_assign Z Z (lw_nil (ew_then (cw_seq ?_)))))))
      have hz2 := (hz1.trans hl14)
      refine cw_sub (E' := [(0, v0p), (1, v1p), (5, v3), (6, (.int .i64 k1)), (7, (.int .i64 k2)), (8, (.int .i64 (imax x1.Lo x2.Lo)))]) ⟨Z, Z, Z, Z, Z, Z, trivial⟩ (cw_drawQ 10 [PV (RSlice RSpan) M3 a_a, PEq (.int .i64 k1), PA RSpan M3 x1, PA RInt M3 x1.Hi, PEq (.int .i64 x1.Hi), PV (RSlice RSpan) M3 a_b, PEq (.int .i64 k2), PA RSpan M3 x2, PA RInt M3 x2.Hi, PEq (.int .i64 x2.Hi)] (by kernel_rfl) Z (by kernel_rfl) ⟨PV.mono _ _ _, PEq.mono _, PA.mono _ _ _, PA.mono _ _ _, PEq.mono _, PV.mono _ _ _, PEq.mono _, PA.mono _ _ _, PA.mono _ _ _, PEq.mono _, trivial⟩ ⟨?_, ?_, ?_, ?_, ?_, ?_, ?_, ?_, ?_, ?_, trivial⟩ ?_)
      ·
       intro w15 D hS12 hd12
       have hl15 := Le.no M3 hS12
       exact dg_sub (E' := [(0, v0p)]) ⟨Z, trivial⟩ (dg_plain Z (ow_move Z Z ⟨BX.refl _ _, (VRep.mono (hz2.trans hl15) h0)⟩))
      ·
       intro w16 D hS13 hd13
       exact dg_sub (E' := [(6, (.int .i64 k1))]) ⟨Z, trivial⟩ (dg_plain Z (ow_move Z Z ⟨BX.refl _ _, Z⟩))
      ·
       intro w17 D hS14 hd14
       have d19 : PV (RSlice RSpan) M3 a_a (D 0) w17 := dpA hd14 0 Z
       generalize hq3 : (D 0) = v13 at d19
       exact dg_sub (E' := [(34, v13), (35, (.int .i64 k1))]) ⟨(congrArg some hq3), (dpE hd14 1 Z Z), trivial⟩ (dg_plain Z (ow_indexSlice (R := RSpan) Z Z Z d19 Tryd.underlying58 (Tryd.sizeOf76 _) hx1 fun p12 hp12 => ⟨BX.refl _ _, ⟨_, Z, hp12⟩⟩))
      ·
       intro w18 D hS15 hd15
       have d21 : PA RSpan M3 x1 (D 2) w18 := dpA hd15 2 Z
       obtain ⟨p13, e5, ha5⟩ := d21
       exact dg_sub (E' := [(36, (.pointer (some p13)))]) ⟨(congrArg some e5), trivial⟩ (dg_plain Z (ow_fieldAddr Z Z Tryd.underlying76 Z (Tryd.sizeOf3 _) ⟨BX.refl _ _, ⟨_, Z, (ha5.fld fld_Span_Hi)⟩⟩))
      ·
       intro w19 D hS16 hd16
       have d22 : PA RInt M3 x1.Hi (D 3) w19 := dpA hd16 3 Z
       obtain ⟨p14, e6, ha6⟩ := d22
       refine dg_sub (E' := [(37, (.pointer (some p14)))]) ⟨(congrArg some e6), trivial⟩ (dg_plain Z (ow_load (R := RInt) Z Z ha6 (Tryd.sizeOf3 _) (Tryd.isAgg3 _) fun v14 hv14 => ?_))
       obtain rfl := vint_eq hv14
       exact ⟨BX.refl _ _, Z⟩
      ·
       intro w20 D hS17 hd17
       have hl20 := Le.no M3 hS17
       exact dg_sub (E' := [(1, v1p)]) ⟨Z, trivial⟩ (dg_plain Z (ow_move Z Z ⟨BX.refl _ _, (VRep.mono (hz2.trans hl20) h1)⟩))
      ·
       intro w21 D hS18 hd18
       exact dg_sub (E' := [(7, (.int .i64 k2))]) ⟨Z, trivial⟩ (dg_plain Z (ow_move Z Z ⟨BX.refl _ _, Z⟩))
      ·
       intro w22 D hS19 hd19
       have d23 : PV (RSlice RSpan) M3 a_b (D 5) w22 := dpA hd19 5 Z
       generalize hq4 : (D 5) = v15 at d23
       exact dg_sub (E' := [(39, v15), (40, (.int .i64 k2))]) ⟨(congrArg some hq4), (dpE hd19 6 Z Z), trivial⟩ (dg_plain Z (ow_indexSlice (R := RSpan) Z Z Z d23 Tryd.underlying58 (Tryd.sizeOf76 _) hx2 fun p15 hp15 => ⟨BX.refl _ _, ⟨_, Z, hp15⟩⟩))
      ·
       intro w23 D hS20 hd20
       have d25 : PA RSpan M3 x2 (D 7) w23 := dpA hd20 7 Z
       obtain ⟨p16, e7, ha7⟩ := d25
       exact dg_sub (E' := [(41, (.pointer (some p16)))]) ⟨(congrArg some e7), trivial⟩ (dg_plain Z (ow_fieldAddr Z Z Tryd.underlying76 Z (Tryd.sizeOf3 _) ⟨BX.refl _ _, ⟨_, Z, (ha7.fld fld_Span_Hi)⟩⟩))
      ·
       intro w24 D hS21 hd21
       have d26 : PA RInt M3 x2.Hi (D 8) w24 := dpA hd21 8 Z
       obtain ⟨p17, e8, ha8⟩ := d26
       refine dg_sub (E' := [(42, (.pointer (some p17)))]) ⟨(congrArg some e8), trivial⟩ (dg_plain Z (ow_load (R := RInt) Z Z ha8 (Tryd.sizeOf3 _) (Tryd.isAgg3 _) fun v16 hv16 => ?_))
       obtain rfl := vint_eq hv16
       exact ⟨BX.refl _ _, Z⟩
      ·
       intro w25 D hS22 hd22
       have hl25 := Le.no M3 hS22
       have hC25 := hC14.no hS22
       have hr23 := hr12.no hS22
       refine lw_sub (E' := [(38, (.int .i64 x1.Hi)), (43, (.int .i64 x2.Hi)), (0, v0p), (1, v1p), (5, v3), (6, (.int .i64 k1)), (7, (.int .i64 k2)), (8, (.int .i64 (imax x1.Lo x2.Lo)))]) ⟨(dpE hd22 4 Z Z), (dpE hd22 9 Z Z), Z, Z, Z, Z, Z, Z, trivial⟩ (lw_op Z Z Z (ow_min Z Z Z (lw_op Z Z Z (ow_assign Z Z (lw_nil (ew_then (cw_seq (cw_region (lw_op Z Z Z (ow_move Z Z (lw_op Z Z Z (ow_move Z Z (lw_op Z Z Z (ow_leq Z Z Z fun bb3 hbb3 => lw_nil (ew_then ?_)))))))))))))))
       replace hb3 := cond_some hb3
       rcases hb3 with ⟨hc3, hb3⟩ | ⟨hc3, hb3⟩
       ·
        obtain rfl := hbb3.trans hc3
        refine cw_true Z (cw_region (lw_op Z Z Z (ow_move Z Z (lw_op Z Z Z (ow_move Z Z (lw_op Z Z Z (ow_move Z Z (lw_op Z Z Z (ow_build (v := .agg #[(.int .i64 (imax x1.Lo x2.Lo)), (.int .i64 (imin x1.Hi x2.Hi))]) Z Z (by kernel_rfl) ?_)))))))))
        have hw3 : VRep RSpan w25 M3 ({ Lo := (imax x1.Lo x2.Lo), Hi := (imin x1.Hi x2.Hi) } : Span) (.agg #[(.int .i64 (imax x1.Lo x2.Lo)), (.int .i64 (imin x1.Hi x2.Hi))]) := shut_Span
        refine lw_op Z Z Z (ow_buildSlice (R := RSpan) (xs := [({ Lo := (imax x1.Lo x2.Lo), Hi := (imin x1.Hi x2.Hi) } : Span)]) (cs := #[(.int .i64 (imax x1.Lo x2.Lo)), (.int .i64 (imin x1.Hi x2.Hi))]) (e := 76) Z Z (by kernel_rfl) Z Z ⟨_, _, Z, hw3.cells, Z⟩ hC25 fun p18 w26 hw4 hb4 hl26 hC26 => ?_)
        have hr24 := hr23.no hb4
        replace hb3 := bind_some hb3
        obtain ⟨z1, hz1, hb3⟩ := hb3
        refine lw_op Z Z Z (ow_append (R := RSpan) Z Z Z Z Tryd.underlying58 hi76 hz76 hs76 hy76 Z Z Z Z hr24 hw4 hz1 hC26 fun v17 w27 M4 hr25 hb5 hl27 hC27 hM2 hat2 => lw_op Z Z Z (ow_assign Z Z (lw_nil (ew_blockN (ew_then (cw_region (lw_op Z Z Z (ow_move Z Z (lw_op Z Z Z (ow_add Z Z Z (lw_op Z Z Z (ow_assign Z Z (lw_nil ?_)))))))))))))
        have hz3 := ((((hl3.trans hl14).trans hl25).trans hl26).trans hl27)
        exact ew_nxt (z1, (W (k2 + 1))) hb3 fun a ha => ⟨M4, v17, (ha.sub ⟨Z, Z, Z, Z, Z, trivial⟩), hz3, hC27, hr25⟩
       ·
        obtain rfl := hbb3.trans hc3
        refine cw_false Z (cw_skip (ew_blockN (ew_then (cw_region (lw_op Z Z Z (ow_move Z Z (lw_op Z Z Z (ow_add Z Z Z (lw_op Z Z Z (ow_assign Z Z (lw_nil ?_)))))))))))
        have hz4 := ((hl3.trans hl14).trans hl25)
        exact ew_nxt (y2, (W (k2 + 1))) hb3 fun a ha => ⟨M3, v3, (ha.sub ⟨Z, Z, Z, Z, Z, trivial⟩), hz4, hC25, hr23⟩
    ·
     obtain rfl := hbb2.trans hc2
     exact cw_false Z (cw_exit (ew_thenX (ew_thenX (ew_blockX (ew_brk (y2, k2) hb3 fun a ha => ⟨M3, v3, (ha.sub ⟨Z, Z, Z, Z, Z, trivial⟩), hl3, hC3, hw2⟩)))))
   ·
    rintro ⟨y3, k3⟩ a w28 hlr3 ⟨M5, v18, hF3, hl28, hC28, hw5⟩
    subst hlr3
    exact ew_at (E := [(0, v0p), (1, v1p), (5, v18), (6, (.int .i64 k1)), (7, (.int .i64 k3))]) hF3 (ew_blockN (ew_then (cw_region (lw_op Z Z Z (ow_move Z Z (lw_op Z Z Z (ow_add Z Z Z (lw_op Z Z Z (ow_assign Z Z (lw_nil (ew_nxt (y3, (W (k1 + 1))) hb2 fun a ha => ⟨M5, v18, (ha.sub ⟨Z, Z, Z, Z, trivial⟩), (hl2.trans hl28), hC28, hw5⟩)))))))))))
  ·
   obtain rfl := hbb1.trans hc1
   exact cw_false Z (cw_exit (ew_thenX (ew_thenX (ew_blockX (ew_brk (y1, k1) hb2 fun a ha => ⟨M2, v1, (ha.sub ⟨Z, Z, Z, Z, trivial⟩), hl2, hC2, hw1⟩)))))
 ·
  rintro ⟨y4, k4⟩ a w29 hlr4 ⟨M6, v20, hF4, hl29, hC29, hw6⟩
  subst hlr4
  refine ew_at (E := [(0, v0p), (1, v1p), (5, v20), (6, (.int .i64 k4))]) hF4 (ew_then (cw_seq (cw_region (lw_op Z Z Z (ow_move Z Z (lw_op Z Z Z (ow_assign Z Z (lw_nil (ew_then (cw_ret ?_))))))))))
  obtain rfl := Option.some.inj h
  exact ew_ret (res1 Z (.tmp Z)) ⟨_, Z, (hw6.freezeBack hC29 hO), hC29.bx⟩

theorem w_spec_l10Meet {w : World} {M : Nat → Prop} (hG : ARep (RArr 4 RShape) w M shapes ⟨0, 0, none⟩) (hO : ∀ b, M b → b < w.heap.size) {v0p : Value} {a_a : Box} (h0 : VRep RBox w M a_a v0p) {v1p : Value} {a_b : Box} (h1 : VRep RBox w M a_b v1p) {r : Box} (h : F.spec_l10Meet a_a a_b = some r) :
  Calls Tryd.prog 86 [v0p, v1p].toArray w fun e w' => ∃ v, e = .returned v ∧ VRep RBox w' M r v ∧ BX No w w' := by
 obtain ⟨i58, hi58, hz58, hs58, hy58⟩ := info58
 have hC : Cx No w M w M := Cx.start hO (fun _ e => e.elim)
 refine walk (N := 29) Tryd.func86 Z Tryd.ntmps86 Z (cw_seq (cw_region (lw_op Z Z Z (ow_box (R := RBox) Z Z h0 hC fun p1 w1 hp1 hb1 hl1 hC1 => lw_op Z Z Z (ow_box (R := RBox) Z Z (VRep.mono hl1 h1) hC1 fun p2 w2 hp2 hb2 hl2 hC2 => lw_op Z Z Z (ow_alloc Z (Tryd.zeroValue27 _) hC2 fun g1 w3 hg1 hg2 ho1 hb3 hl3 hC3 => ?_))))))
 have hm1 : (Add g1 M) g1 := .inl Z
 refine lw_nil (ew_then (cw_seq (cw_region (lw_op Z Z Z (ow_build (v := .agg #[(.slice none 0 0)]) Z Z (by kernel_rfl) (lw_op Z Z Z (ow_alloc Z (Tryd.zeroValue27 _) hC3 fun g2 w4 hg3 hg4 ho2 hb4 hl4 hC4 => ?_)))))))
 have hn1 := Nat.ne_of_lt (Nat.lt_of_lt_of_le ho1.lt hg3)
 have ho3 := ho1.no hb4
 have hm2 : (Add g2 (Add g1 M)) g1 := .inr hm1
 have hm3 : (Add g2 (Add g1 M)) g2 := .inl Z
 refine lw_op0 Z Z (ow_store (X := No) (us := [(.slice none 0 0)]) (cs' := #[(.slice none 0 0)]) Z Z Z Z ho2 (Tryd.sizeOf27 _) Z Z Z Z hm3 (.inl hg4) Z hC4 fun w5 ho4 hb5 hl5 hC5 => ?_)
 have ho5 := ho3.go hb5 (fun e => hn1 e)
 refine lw_nil (ew_then (cw_seq (cw_seq (cw_region (lw_op Z Z Z (ow_assign Z Z (lw_nil (ew_then ?_))))))))
 have hr1 : OwnRow (RSlice RSpan) w.heap.size 58 w5 (Add g2 (Add g1 M)) ([] : List (List Span)) (.slice none 0 0) := ownrow_nil
 replace h := bind_some h
 obtain ⟨lr1, hlr1, h⟩ := h
 refine cw_for hlr1 (fun s a w' => ∃ (M' : Nat → Prop) (v1c : Value), Fits 29 [(2, (.pointer (some p1))), (3, (.pointer (some p2))), (4, (.pointer (some ⟨g1, 0, none⟩))), (5, (.pointer (some ⟨g2, 0, none⟩))), (6, (.int .i64 s.1))] a ∧ Le w5 (Add g2 (Add g1 M)) w' M' ∧ Cx No w M w' M' ∧ OwnRow (RSlice RSpan) w.heap.size 58 w' M' s.2 v1c ∧ Own w' g1 27 #[(.slice none 0 0)] ∧ M' g1 ∧ Own w' g2 27 #[v1c] ∧ M' g2) ?_ ?_ ?_
 ·
  intro a ha
  exact ⟨(Add g2 (Add g1 M)), (.slice none 0 0), ha.sub ⟨Z, Z, Z, Z, Z, trivial⟩, Le.refl _ _, hC5, hr1, ho5, hm2, ho4, hm3⟩
 ·
  rintro ⟨k1, y1⟩ a w6 sr1 ⟨M1, v2, hF1, hl6, hC6, hw2, ho6, hm4, ho7, hm5⟩ hb6 hR1
  refine cw_at (E := [(2, (.pointer (some p1))), (3, (.pointer (some p2))), (4, (.pointer (some ⟨g1, 0, none⟩))), (5, (.pointer (some ⟨g2, 0, none⟩))), (6, (.int .i64 k1))]) hF1 (cw_seq (cw_seq (cw_region (lw_op Z Z Z (ow_move Z Z (lw_op Z Z Z (ow_lss Z Z Z fun bb1 hbb1 => lw_nil (ew_then ?_))))))))
  replace hb6 := cond_some hb6
  rcases hb6 with ⟨hc1, hb6⟩ | ⟨hc1, hb6⟩
  ·
   obtain rfl := hbb1.trans hc1
   refine cw_true Z (cw_skip (ew_then (cw_seq (cw_block ?_))))
   replace hb6 := bind_some hb6
   obtain ⟨x1, hx1, hb6⟩ := hb6
   replace hb6 := bind_some hb6
   obtain ⟨x2, hx2, hb6⟩ := hb6
   replace hb6 := bind_some hb6
   obtain ⟨x3, hx3, hb6⟩ := hb6
   have hz1 := (((((hl1.trans hl2).trans hl3).trans hl4).trans hl5).trans hl6)
   have hz2 := ((((hl2.trans hl3).trans hl4).trans hl5).trans hl6)
   have hz3 := (((hl3.trans hl4).trans hl5).trans hl6)
   refine cw_sub (E' := [(2, (.pointer (some p1))), (3, (.pointer (some p2))), (4, (.pointer (some ⟨g1, 0, none⟩))), (5, (.pointer (some ⟨g2, 0, none⟩))), (6, (.int .i64 k1))]) ⟨Z, Z, Z, Z, Z, trivial⟩ (cw_drawQ 14 [PEq (.pointer (some ⟨g2, 0, none⟩)), PEq v2, PA (RSlice (RSlice RSpan)) M1 a_a.Sides, PV (RSlice (RSlice RSpan)) M1 a_a.Sides, PEq (.int .i64 k1), PA (RSlice RSpan) M1 x1, PV (RSlice RSpan) M1 x1, PA (RSlice (RSlice RSpan)) M1 a_b.Sides, PV (RSlice (RSlice RSpan)) M1 a_b.Sides, PEq (.int .i64 k1), PA (RSlice RSpan) M1 x2, PV (RSlice RSpan) M1 x2, PV (RSlice RSpan) M1 x3, PV (RSlice (RSlice RSpan)) M1 [x3]] (by kernel_rfl) Z (by kernel_rfl) ⟨PEq.mono _, PEq.mono _, PA.mono _ _ _, PV.mono _ _ _, PEq.mono _, PA.mono _ _ _, PV.mono _ _ _, PA.mono _ _ _, PV.mono _ _ _, PEq.mono _, PA.mono _ _ _, PV.mono _ _ _, PV.mono _ _ _, PV.mono _ _ _, trivial⟩ ⟨?_, ?_, ?_, ?_, ?_, ?_, ?_, ?_, ?_, ?_, ?_, ?_, ?_, ?_, trivial⟩ ?_)
   ·
    intro w9 D hS1 hd1
    exact dg_sub (E' := [(5, (.pointer (some ⟨g2, 0, none⟩)))]) ⟨Z, trivial⟩ (dg_plain Z (ow_fieldAddr Z Z Tryd.underlying27 Z (Tryd.sizeOf25 _) ⟨BX.refl _ _, Z⟩))
   ·
    intro w10 D hS2 hd2
    have ho15 := ho7.no hS2
    exact dg_sub (E' := [(12, (.pointer (some ⟨g2, 0, none⟩)))]) ⟨(dpE hd2 0 Z Z), trivial⟩ (dg_plain Z (ow_loadOwn1 Z Z Z ho15 (Tryd.isAgg25 _) Z ⟨BX.refl _ _, Z⟩))
   ·
    intro w11 D hS3 hd3
    have hl11 := Le.no M1 hS3
    exact dg_sub (E' := [(2, (.pointer (some p1)))]) ⟨Z, trivial⟩ (dg_plain Z (ow_fieldAddr Z Z Tryd.underlying27 Z (Tryd.sizeOf25 _) ⟨BX.refl _ _, ⟨_, Z, (ARep.mono (hz2.trans hl11) (hp1.fld fld_Box_Sides))⟩⟩))
   ·
    intro w12 D hS4 hd4
    have d2 : PA (RSlice (RSlice RSpan)) M1 a_a.Sides (D 2) w12 := dpA hd4 2 Z
    obtain ⟨p6, e1, ha1⟩ := d2
    exact dg_sub (E' := [(14, (.pointer (some p6)))]) ⟨(congrArg some e1), trivial⟩ (dg_plain Z (ow_load (R := (RSlice (RSlice RSpan))) Z Z ha1 (Tryd.sizeOf25 _) (Tryd.isAgg25 _) fun v8 hv8 => ⟨BX.refl _ _, hv8⟩))
   ·
    intro w13 D hS5 hd5
    exact dg_sub (E' := [(6, (.int .i64 k1))]) ⟨Z, trivial⟩ (dg_plain Z (ow_move Z Z ⟨BX.refl _ _, Z⟩))
   ·
    intro w14 D hS6 hd6
    have d3 : PV (RSlice (RSlice RSpan)) M1 a_a.Sides (D 3) w14 := dpA hd6 3 Z
    generalize hq1 : (D 3) = v9 at d3
    exact dg_sub (E' := [(15, v9), (16, (.int .i64 k1))]) ⟨(congrArg some hq1), (dpE hd6 4 Z Z), trivial⟩ (dg_plain Z (ow_indexSlice (R := (RSlice RSpan)) Z Z Z d3 Tryd.underlying25 (Tryd.sizeOf58 _) hx1 fun p7 hp7 => ⟨BX.refl _ _, ⟨_, Z, hp7⟩⟩))
   ·
    intro w15 D hS7 hd7
    have d5 : PA (RSlice RSpan) M1 x1 (D 5) w15 := dpA hd7 5 Z
    obtain ⟨p8, e2, ha2⟩ := d5
    exact dg_sub (E' := [(17, (.pointer (some p8)))]) ⟨(congrArg some e2), trivial⟩ (dg_plain Z (ow_load (R := (RSlice RSpan)) Z Z ha2 (Tryd.sizeOf58 _) (Tryd.isAgg58 _) fun v10 hv10 => ⟨BX.refl _ _, hv10⟩))
   ·
    intro w16 D hS8 hd8
    have hl16 := Le.no M1 hS8
    exact dg_sub (E' := [(3, (.pointer (some p2)))]) ⟨Z, trivial⟩ (dg_plain Z (ow_fieldAddr Z Z Tryd.underlying27 Z (Tryd.sizeOf25 _) ⟨BX.refl _ _, ⟨_, Z, (ARep.mono (hz3.trans hl16) (hp2.fld fld_Box_Sides))⟩⟩))
   ·
    intro w17 D hS9 hd9
    have d6 : PA (RSlice (RSlice RSpan)) M1 a_b.Sides (D 7) w17 := dpA hd9 7 Z
    obtain ⟨p9, e3, ha3⟩ := d6
    exact dg_sub (E' := [(19, (.pointer (some p9)))]) ⟨(congrArg some e3), trivial⟩ (dg_plain Z (ow_load (R := (RSlice (RSlice RSpan))) Z Z ha3 (Tryd.sizeOf25 _) (Tryd.isAgg25 _) fun v11 hv11 => ⟨BX.refl _ _, hv11⟩))
   ·
    intro w18 D hS10 hd10
    exact dg_sub (E' := [(6, (.int .i64 k1))]) ⟨Z, trivial⟩ (dg_plain Z (ow_move Z Z ⟨BX.refl _ _, Z⟩))
   ·
    intro w19 D hS11 hd11
    have d7 : PV (RSlice (RSlice RSpan)) M1 a_b.Sides (D 8) w19 := dpA hd11 8 Z
    generalize hq2 : (D 8) = v12 at d7
    exact dg_sub (E' := [(20, v12), (21, (.int .i64 k1))]) ⟨(congrArg some hq2), (dpE hd11 9 Z Z), trivial⟩ (dg_plain Z (ow_indexSlice (R := (RSlice RSpan)) Z Z Z d7 Tryd.underlying25 (Tryd.sizeOf58 _) hx2 fun p10 hp10 => ⟨BX.refl _ _, ⟨_, Z, hp10⟩⟩))
   ·
    intro w20 D hS12 hd12
    have d9 : PA (RSlice RSpan) M1 x2 (D 10) w20 := dpA hd12 10 Z
    obtain ⟨p11, e4, ha4⟩ := d9
    exact dg_sub (E' := [(22, (.pointer (some p11)))]) ⟨(congrArg some e4), trivial⟩ (dg_plain Z (ow_load (R := (RSlice RSpan)) Z Z ha4 (Tryd.sizeOf58 _) (Tryd.isAgg58 _) fun v13 hv13 => ⟨BX.refl _ _, hv13⟩))
   ·
    intro w21 D hS13 hd13
    have hl21 := Le.no M1 hS13
    have hC21 := hC6.no hS13
    have d10 : PV (RSlice RSpan) M1 x1 (D 6) w21 := dpA hd13 6 Z
    have d11 : PV (RSlice RSpan) M1 x2 (D 11) w21 := dpA hd13 11 Z
    generalize hq3 : (D 6) = v14 at d10
    generalize hq4 : (D 11) = v15 at d11
    refine dg_sub (E' := [(18, v14), (23, v15)]) ⟨(congrArg some hq3), (congrArg some hq4), trivial⟩ (dg_plain Z (ow_call Z Z Tryd.call60 (w_spec_l2Meet (hG.mono (hz1.trans hl21)) hC21.old d10 d11 hx3) fun v16 w22 hv16 => ?_))
    obtain ⟨hv16, hb9⟩ := hv16
    exact ⟨hb9, hv16⟩
   ·
    intro w23 D hS14 hd14
    have hC23 := hC6.no hS14
    have d12 : PV (RSlice RSpan) M1 x3 (D 12) w23 := dpA hd14 12 Z
    generalize hq5 : (D 12) = v17 at d12
    refine dg_sub (E' := [(24, v17)]) ⟨(congrArg some hq5), trivial⟩ ?_
    obtain ⟨A2, c2, rfl, -⟩ := vslice_shape d12
    exact dg_plain Z (ow_buildSlice (R := (RSlice RSpan)) (xs := [x3]) (cs := #[(.slice A2 x3.length c2)]) (e := 58) Z Z (by kernel_rfl) Z Z ⟨_, _, Z, d12.cells, Z⟩ hC23 fun p12 w24 hw4 hb10 hl24 hC24 => ⟨hb10, hw4⟩)
   ·
    intro w25 D hS15 hd15
    have d26 : PV (RSlice (RSlice RSpan)) M1 [x3] (D 13) w25 := dpA hd15 13 Z
    have hl25 := Le.no M1 hS15
    have hC25 := hC6.no hS15
    have ho44 := ho6.no hS15
    have ho45 := ho7.no hS15
    have hr20 := hw2.no hS15
    generalize hq6 : (D 13) = v18 at d26
    refine lw_sub (E' := [(13, v2), (25, v18), (2, (.pointer (some p1))), (3, (.pointer (some p2))), (4, (.pointer (some ⟨g1, 0, none⟩))), (5, (.pointer (some ⟨g2, 0, none⟩))), (6, (.int .i64 k1))]) ⟨(dpE hd15 1 Z Z), (congrArg some hq6), Z, Z, Z, Z, Z, trivial⟩ ?_
    replace hb6 := bind_some hb6
    obtain ⟨z1, hz1, hb6⟩ := hb6
    refine lw_op Z Z Z (ow_append (R := (RSlice RSpan)) Z Z Z Z Tryd.underlying25 hi58 hz58 hs58 hy58 Z Z Z Z hr20 d26 hz1 hC25 fun v19 w26 M2 hr21 hb11 hl26 hC26 hM1 hat1 => ?_)
    have ho46 := ho44.go hb11 (fun e => (orow_ne hr20 ho44 (by decide)) e)
    have hm6 := hM1 _ hm4
    have ho47 := ho45.go hb11 (fun e => (orow_ne hr20 ho45 (by decide)) e)
    have hm7 := hM1 _ hm5
    refine lw_op Z Z Z (ow_fieldAddr Z Z Tryd.underlying27 Z (Tryd.sizeOf25 _) ?_)
    obtain ⟨A3, c3, rfl⟩ := hr21.len
    refine lw_op0 Z Z (ow_store (X := No) (us := [(.slice A3 z1.length c3)]) (cs' := #[(.slice A3 z1.length c3)]) Z Z Z Z ho47 (Tryd.sizeOf25 _) Z Z Z Z hm7 (.inl hg4) Z hC26 fun w27 ho48 hb12 hl27 hC27 => ?_)
    have ho49 := ho46.go hb12 (fun e => hn1 e)
    have hr22 := hr21.go hb12 (fun k hk e => (orow_ne hr21 ho47 (by decide)) (hk.trans (congrArg some e))) hl27 (fun _ h => h)
    refine lw_nil (ew_blockN (ew_then (cw_region (lw_op Z Z Z (ow_move Z Z (lw_op Z Z Z (ow_add Z Z Z (lw_op Z Z Z (ow_assign Z Z (lw_nil ?_))))))))))
    have hz4 := (((hl6.trans hl25).trans hl26).trans hl27)
    exact ew_nxt ((W (k1 + 1)), z1) hb6 fun a ha => ⟨M2, (.slice A3 z1.length c3), (ha.sub ⟨Z, Z, Z, Z, Z, trivial⟩), hz4, hC27, hr22, ho49, hm6, ho48, hm7⟩
  ·
   obtain rfl := hbb1.trans hc1
   exact cw_false Z (cw_exit (ew_thenX (ew_thenX (ew_blockX (ew_brk (k1, y1) hb6 fun a ha => ⟨M1, v2, (ha.sub ⟨Z, Z, Z, Z, Z, trivial⟩), hl6, hC6, hw2, ho6, hm4, ho7, hm5⟩)))))
 ·
  rintro ⟨k2, y2⟩ a w28 hlr2 ⟨M3, v21, hF2, hl28, hC28, hw5, ho50, hm8, ho51, hm9⟩
  subst hlr2
  refine ew_at (E := [(2, (.pointer (some p1))), (3, (.pointer (some p2))), (4, (.pointer (some ⟨g1, 0, none⟩))), (5, (.pointer (some ⟨g2, 0, none⟩))), (6, (.int .i64 k2))]) hF2 (ew_then (cw_seq (cw_region (lw_op Z Z Z (ow_loadOwnA Z Z Z ho51 (Tryd.isAgg27 _) (Tryd.sizeOf27 _) Z ?_)))))
  have hw6 := hw5.freezeDel
  have hC29 := hw5.cxDel hC28 (fun _ e => e.elim) hO
  have hm10 : (Del v21 M3) g1 := ⟨hm8, fun e => (orow_ne hw5 ho50 (by decide)) e⟩
  obtain ⟨A4, c4, rfl, -⟩ := vslice_shape hw6
  refine lw_op0 Z Z (ow_store (X := No) (us := [(.slice A4 y2.length c4)]) (cs' := #[(.slice A4 y2.length c4)]) Z Z Z Z ho50 (Tryd.sizeOf27 _) Z Z Z Z hm10 (.inl hg2) Z hC29 fun w29 ho52 hb13 hl30 hC30 => lw_nil (ew_then (cw_ret ?_)))
  have hw8 : VRep RBox w29 (Del (.slice A4 y2.length c4) M3) ({ Sides := y2 } : Box) (.agg #[(.slice A4 y2.length c4)]) := shut_Box (VRep.mono hl30 hw6)
  obtain rfl := Option.some.inj h
  exact ew_ret (res1 Z (.cell Z (own_loadVarA ho52 (Tryd.isAgg27 _) (Tryd.sizeOf27 _) Z))) ⟨_, Z, (hw8.mono hC30.back), hC30.bx⟩

theorem w_spec_BoxMeet {w : World} {M : Nat → Prop} (hG : ARep (RArr 4 RShape) w M shapes ⟨0, 0, none⟩) (hO : ∀ b, M b → b < w.heap.size) {v0p : Value} {a_a : Box} (h0 : VRep RBox w M a_a v0p) {v1p : Value} {a_b : Box} (h1 : VRep RBox w M a_b v1p) {r : Box} (h : F.spec_BoxMeet a_a a_b = some r) :
  Calls Tryd.prog 44 [v0p, v1p].toArray w fun e w' => ∃ v, e = .returned v ∧ VRep RBox w' M r v ∧ BX No w w' := by
 have hC : Cx No w M w M := Cx.start hO (fun _ e => e.elim)
 refine walk (N := 28) Tryd.func44 Z Tryd.ntmps44 Z (cw_seq (cw_region ?_))
 obtain ⟨A1, c1, rfl, hw1⟩ := open_Box h0
 refine lw_op Z Z Z (ow_boxOwn Z Z hC fun g1 w1 hg1 hg2 ho1 hb1 hl1 hC1 => ?_)
 have hm1 : (Add g1 M) g1 := .inl Z
 obtain ⟨A2, c2, rfl, hw2⟩ := open_Box h1
 refine lw_op Z Z Z (ow_boxOwn Z Z hC1 fun g2 w2 hg3 hg4 ho2 hb2 hl2 hC2 => ?_)
 have hn1 := Nat.ne_of_lt (Nat.lt_of_lt_of_le ho1.lt hg3)
 have ho3 := ho1.no hb2
 have hm2 : (Add g2 (Add g1 M)) g1 := .inr hm1
 have hm3 : (Add g2 (Add g1 M)) g2 := .inl Z
 refine lw_op Z Z Z (ow_alloc Z (Tryd.zeroValue27 _) hC2 fun g3 w3 hg5 hg6 ho4 hb3 hl3 hC3 => ?_)
 have hn2 := Nat.ne_of_lt (Nat.lt_of_lt_of_le ho3.lt hg5)
 have ho5 := ho3.no hb3
 have hm4 : (Add g3 (Add g2 (Add g1 M))) g1 := .inr hm2
 have hn3 := Nat.ne_of_lt (Nat.lt_of_lt_of_le ho2.lt hg5)
 have ho6 := ho2.no hb3
 have hm5 : (Add g3 (Add g2 (Add g1 M))) g2 := .inr hm3
 have hm6 : (Add g3 (Add g2 (Add g1 M))) g3 := .inl Z
 refine lw_nil (ew_then (cw_seq (cw_region (lw_op Z Z Z (ow_loadOwnA Z Z Z ho5 (Tryd.isAgg27 _) (Tryd.sizeOf27 _) Z ?_)))))
 have hz1 := ((hl1.trans hl2).trans hl3)
 have hw3 : VRep RBox w3 (Add g3 (Add g2 (Add g1 M))) ({ Sides := a_a.Sides } : Box) (.agg #[(.slice A1 a_a.Sides.length c1)]) := shut_Box (VRep.mono hz1 hw1)
 replace h := bind_some h
 obtain ⟨x1, hx1, h⟩ := h
 refine lw_op Z Z Z (ow_call Z Z Tryd.call85 (w_spec_l1OwnBox (hG.mono hz1) hC3.old hw3 hx1) fun v1 w4 hv1 => ?_)
 obtain ⟨hv1, hb4⟩ := hv1
 have hl4 := Le.no (Add g3 (Add g2 (Add g1 M))) hb4
 have hC4 := hC3.no hb4
 have ho7 := ho5.no hb4
 have ho8 := ho6.no hb4
 have ho9 := ho4.no hb4
 obtain ⟨A3, c3, rfl, hw4⟩ := open_Box hv1
 refine lw_op0 Z Z (ow_store (X := No) (us := [(.slice A3 x1.Sides.length c3)]) (cs' := #[(.slice A3 x1.Sides.length c3)]) Z Z Z Z ho7 (Tryd.sizeOf27 _) Z Z Z Z hm4 (.inl hg2) Z hC4 fun w5 ho10 hb5 hl5 hC5 => ?_)
 have ho11 := ho8.go hb5 (fun e => hn1 e.symm)
 have ho12 := ho9.go hb5 (fun e => hn2 e.symm)
 refine lw_nil (ew_then (cw_seq (cw_region (lw_op Z Z Z (ow_loadOwnA Z Z Z ho11 (Tryd.isAgg27 _) (Tryd.sizeOf27 _) Z ?_)))))
 have hz2 := ((hz1.trans hl4).trans hl5)
 have hw5 : VRep RBox w5 (Add g3 (Add g2 (Add g1 M))) ({ Sides := a_b.Sides } : Box) (.agg #[(.slice A2 a_b.Sides.length c2)]) := shut_Box (VRep.mono hz2 hw2)
 replace h := bind_some h
 obtain ⟨x2, hx2, h⟩ := h
 refine lw_op Z Z Z (ow_call Z Z Tryd.call85 (w_spec_l1OwnBox (hG.mono hz2) hC5.old hw5 hx2) fun v2 w6 hv2 => ?_)
 obtain ⟨hv2, hb6⟩ := hv2
 have hl6 := Le.no (Add g3 (Add g2 (Add g1 M))) hb6
 have hC6 := hC5.no hb6
 have ho13 := ho10.no hb6
 have ho14 := ho11.no hb6
 have ho15 := ho12.no hb6
 obtain ⟨A4, c4, rfl, hw6⟩ := open_Box hv2
 refine lw_op0 Z Z (ow_store (X := No) (us := [(.slice A4 x2.Sides.length c4)]) (cs' := #[(.slice A4 x2.Sides.length c4)]) Z Z Z Z ho14 (Tryd.sizeOf27 _) Z Z Z Z hm5 (.inl hg4) Z hC6 fun w7 ho16 hb7 hl7 hC7 => ?_)
 have ho17 := ho13.go hb7 (fun e => hn1 e)
 have ho18 := ho15.go hb7 (fun e => hn3 e.symm)
 refine lw_nil (ew_then (cw_seq (cw_seq (cw_region (lw_op Z Z Z (ow_loadOwnA Z Z Z ho17 (Tryd.isAgg27 _) (Tryd.sizeOf27 _) Z ?_))))))
 have hz3 := ((hl5.trans hl6).trans hl7)
 have hw7 : VRep RBox w7 (Add g3 (Add g2 (Add g1 M))) ({ Sides := x1.Sides } : Box) (.agg #[(.slice A3 x1.Sides.length c3)]) := shut_Box (VRep.mono hz3 hw4)
 replace h := bind_some h
 obtain ⟨x3, hx3, h⟩ := h
 have hz4 := ((hz2.trans hl6).trans hl7)
 refine lw_op Z Z Z (ow_call Z Z Tryd.call38 (w_spec_BoxValid (hG.mono hz4) hC7.old hw7 hx3) fun v3 w8 hv3 => ?_)
 obtain ⟨hv3, hb8⟩ := hv3
 have hl8 := Le.no (Add g3 (Add g2 (Add g1 M))) hb8
 have hC8 := hC7.no hb8
 have ho19 := ho17.no hb8
 have ho20 := ho16.no hb8
 have ho21 := ho18.no hb8
 obtain rfl := vbool_eq hv3
 refine lw_op Z Z Z (ow_not Z Z (lw_op Z Z Z (ow_move Z Z ?_)))
 replace h := cond_some h
 rcases h with ⟨hc1, h⟩ | ⟨hc1, h⟩
 ·
  subst hc1
  refine lw_on Z Z Z Z Z Z (ow_loadOwnA Z Z Z ho20 (Tryd.isAgg27 _) (Tryd.sizeOf27 _) Z ?_)
  have hw8 : VRep RBox w8 (Add g3 (Add g2 (Add g1 M))) ({ Sides := x2.Sides } : Box) (.agg #[(.slice A4 x2.Sides.length c4)]) := shut_Box (VRep.mono (hl7.trans hl8) hw6)
  replace h := bind_some h
  obtain ⟨x4, hx4, h⟩ := h
  refine lw_on Z Z Z Z Z Z (ow_call Z Z Tryd.call38 (w_spec_BoxValid (hG.mono (hz4.trans hl8)) hC8.old hw8 hx4) fun v4 w9 hv4 => ?_)
  obtain ⟨hv4, hb9⟩ := hv4
  have hl9 := Le.no (Add g3 (Add g2 (Add g1 M))) hb9
  have hC9 := hC8.no hb9
  have ho22 := ho19.no hb9
  have ho23 := ho20.no hb9
  have ho24 := ho21.no hb9
  obtain rfl := vbool_eq hv4
  refine lw_on Z Z Z Z Z Z (ow_not Z Z (lw_op Z Z Z (ow_pickF Z Z Z (lw_op Z Z Z (ow_move Z Z ?_)))))
  replace h := cond_some h
  rcases h with ⟨hc2, h⟩ | ⟨hc2, h⟩
  ·
   subst hc2
   refine lw_on Z Z Z Z Z Z (ow_loadOwnA Z Z Z ho22 (Tryd.isAgg27 _) (Tryd.sizeOf27 _) Z ?_)
   have hz5 := ((hz3.trans hl8).trans hl9)
   have hw9 : VRep RBox w9 (Add g3 (Add g2 (Add g1 M))) ({ Sides := x1.Sides } : Box) (.agg #[(.slice A3 x1.Sides.length c3)]) := shut_Box (VRep.mono hz5 hw4)
   refine lw_on Z Z Z Z Z Z (ow_loadOwnA Z Z Z ho23 (Tryd.isAgg27 _) (Tryd.sizeOf27 _) Z ?_)
   have hz6 := ((hl7.trans hl8).trans hl9)
   have hw10 : VRep RBox w9 (Add g3 (Add g2 (Add g1 M))) ({ Sides := x2.Sides } : Box) (.agg #[(.slice A4 x2.Sides.length c4)]) := shut_Box (VRep.mono hz6 hw6)
   replace h := bind_some h
   obtain ⟨x5, hx5, h⟩ := h
   have hz7 := ((hz4.trans hl8).trans hl9)
   refine lw_on Z Z Z Z Z Z (ow_call Z Z Tryd.call86 (w_spec_l10Meet (hG.mono hz7) hC9.old hw9 hw10 hx5) fun v5 w10 hv5 => ?_)
   obtain ⟨hv5, hb10⟩ := hv5
   have hl10 := Le.no (Add g3 (Add g2 (Add g1 M))) hb10
   have hC10 := hC9.no hb10
   have ho25 := ho22.no hb10
   have ho26 := ho23.no hb10
   have ho27 := ho24.no hb10
   replace h := bind_some h
   obtain ⟨x6, hx6, h⟩ := h
   refine lw_on Z Z Z Z Z Z (ow_call Z Z Tryd.call38 (w_spec_BoxValid (hG.mono (hz7.trans hl10)) hC10.old hv5 hx6) fun v6 w11 hv6 => ?_)
   obtain ⟨hv6, hb11⟩ := hv6
   have hl11 := Le.no (Add g3 (Add g2 (Add g1 M))) hb11
   have hC11 := hC10.no hb11
   have ho28 := ho25.no hb11
   have ho29 := ho26.no hb11
   have ho30 := ho27.no hb11
   obtain rfl := vbool_eq hv6
   refine lw_on Z Z Z Z Z Z (ow_not Z Z (lw_op Z Z Z (ow_pickF Z Z Z (lw_nil (ew_then ?_)))))
   replace h := cond_some h
   rcases h with ⟨hc3, h⟩ | ⟨hc3, h⟩
   ·
    subst hc3
    refine cw_false Z (cw_skip (ew_then (cw_seq (cw_region (lw_op Z Z Z (ow_loadOwnA Z Z Z ho28 (Tryd.isAgg27 _) (Tryd.sizeOf27 _) Z ?_))))))
    have hz8 := ((hz5.trans hl10).trans hl11)
    have hw11 : VRep RBox w11 (Add g3 (Add g2 (Add g1 M))) ({ Sides := x1.Sides } : Box) (.agg #[(.slice A3 x1.Sides.length c3)]) := shut_Box (VRep.mono hz8 hw4)
    refine lw_op Z Z Z (ow_loadOwnA Z Z Z ho29 (Tryd.isAgg27 _) (Tryd.sizeOf27 _) Z ?_)
    have hz9 := ((hz6.trans hl10).trans hl11)
    have hw12 : VRep RBox w11 (Add g3 (Add g2 (Add g1 M))) ({ Sides := x2.Sides } : Box) (.agg #[(.slice A4 x2.Sides.length c4)]) := shut_Box (VRep.mono hz9 hw6)
    have hz10 := ((hz7.trans hl10).trans hl11)
    refine lw_op Z Z Z (ow_call Z Z Tryd.call86 (w_spec_l10Meet (hG.mono hz10) hC11.old hw11 hw12 hx5) fun v7 w12 hv7 => ?_)
    obtain ⟨hv7, hb12⟩ := hv7
    have hC12 := hC11.no hb12
    have ho33 := ho30.no hb12
    obtain ⟨A5, c5, rfl, hw13⟩ := open_Box hv7
    refine lw_op0 Z Z (ow_store (X := No) (us := [(.slice A5 x5.Sides.length c5)]) (cs' := #[(.slice A5 x5.Sides.length c5)]) Z Z Z Z ho33 (Tryd.sizeOf27 _) Z Z Z Z hm6 (.inl hg6) Z hC12 fun w13 ho34 hb13 hl13 hC13 => lw_nil (ew_then (cw_ret ?_)))
    have hw14 : VRep RBox w13 (Add g3 (Add g2 (Add g1 M))) ({ Sides := x5.Sides } : Box) (.agg #[(.slice A5 x5.Sides.length c5)]) := shut_Box (VRep.mono hl13 hw13)
    obtain rfl := Option.some.inj h
    exact ew_ret (res1 Z (.cell Z (own_loadVarA ho34 (Tryd.isAgg27 _) (Tryd.sizeOf27 _) Z))) ⟨_, Z, (hw14.mono hC13.back), hC13.bx⟩
   ·
    subst hc3
    refine cw_true Z (cw_seq (cw_region (lw_op Z Z Z (ow_build (v := .agg #[(.slice none 0 0)]) Z Z (by kernel_rfl) (lw_op0 Z Z (ow_store (X := No) (us := [(.slice none 0 0)]) (cs' := #[(.slice none 0 0)]) Z Z Z Z ho30 (Tryd.sizeOf27 _) Z Z Z Z hm6 (.inl hg6) Z hC11 fun w14 ho37 hb14 hl14 hC14 => lw_nil (ew_then (cw_ret (ew_thenR ?_)))))))))
    have hw16 : VRep RBox w14 (Add g3 (Add g2 (Add g1 M))) ({ Sides := ([] : List (List Span)) } : Box) (.agg #[(.slice none 0 0)]) := shut_Box (VRep.mono hl14 (vslice_nil (R := (RSlice RSpan)) (w := w11) (M := (Add g3 (Add g2 (Add g1 M))))))
    obtain rfl := Option.some.inj h
    exact ew_ret (res1 Z (.cell Z (own_loadVarA ho37 (Tryd.isAgg27 _) (Tryd.sizeOf27 _) Z))) ⟨_, Z, (hw16.mono hC14.back), hC14.bx⟩
  ·
   subst hc2
   refine lw_off Z Z Z Z Z Z (lw_off Z Z Z Z Z Z (lw_off Z Z Z Z Z Z (lw_off Z Z Z Z Z Z (lw_off Z Z Z Z Z Z (lw_op Z Z Z (ow_pickT Z Z Z (lw_nil (ew_then (cw_true Z (cw_seq (cw_region (lw_op Z Z Z (ow_build (v := .agg #[(.slice none 0 0)]) Z Z (by kernel_rfl) (lw_op0 Z Z (ow_store (X := No) (us := [(.slice none 0 0)]) (cs' := #[(.slice none 0 0)]) Z Z Z Z ho24 (Tryd.sizeOf27 _) Z Z Z Z hm6 (.inl hg6) Z hC9 fun w15 ho40 hb15 hl15 hC15 => lw_nil (ew_then (cw_ret (ew_thenR ?_))))))))))))))))))
   have hw18 : VRep RBox w15 (Add g3 (Add g2 (Add g1 M))) ({ Sides := ([] : List (List Span)) } : Box) (.agg #[(.slice none 0 0)]) := shut_Box (VRep.mono hl15 (vslice_nil (R := (RSlice RSpan)) (w := w9) (M := (Add g3 (Add g2 (Add g1 M))))))
   obtain rfl := Option.some.inj h
   exact ew_ret (res1 Z (.cell Z (own_loadVarA ho40 (Tryd.isAgg27 _) (Tryd.sizeOf27 _) Z))) ⟨_, Z, (hw18.mono hC15.back), hC15.bx⟩
 ·
  subst hc1
  refine lw_off Z Z Z Z Z Z (lw_off Z Z Z Z Z Z (lw_off Z Z Z Z Z Z (lw_op Z Z Z (ow_pickT Z Z Z (lw_op Z Z Z (ow_move Z Z (lw_off Z Z Z Z Z Z (lw_off Z Z Z Z Z Z (lw_off Z Z Z Z Z Z (lw_off Z Z Z Z Z Z (lw_off Z Z Z Z Z Z (lw_op Z Z Z (ow_pickT Z Z Z (lw_nil (ew_then (cw_true Z (cw_seq (cw_region (lw_op Z Z Z (ow_build (v := .agg #[(.slice none 0 0)]) Z Z (by kernel_rfl) (lw_op0 Z Z (ow_store (X := No) (us := [(.slice none 0 0)]) (cs' := #[(.slice none 0 0)]) Z Z Z Z ho21 (Tryd.sizeOf27 _) Z Z Z Z hm6 (.inl hg6) Z hC8 fun w16 ho43 hb16 hl16 hC16 => lw_nil (ew_then (cw_ret (ew_thenR ?_)))))))))))))))))))))))))
  have hw20 : VRep RBox w16 (Add g3 (Add g2 (Add g1 M))) ({ Sides := ([] : List (List Span)) } : Box) (.agg #[(.slice none 0 0)]) := shut_Box (VRep.mono hl16 (vslice_nil (R := (RSlice RSpan)) (w := w8) (M := (Add g3 (Add g2 (Add g1 M))))))
  obtain rfl := Option.some.inj h
  exact ew_ret (res1 Z (.cell Z (own_loadVarA ho43 (Tryd.isAgg27 _) (Tryd.sizeOf27 _) Z))) ⟨_, Z, (hw20.mono hC16.back), hC16.bx⟩

theorem w_spec_BoxAll {w : World} {M : Nat → Prop} (hG : ARep (RArr 4 RShape) w M shapes ⟨0, 0, none⟩) (hO : ∀ b, M b → b < w.heap.size)  {r : Box} (h : F.spec_BoxAll = some r) :
  Calls Tryd.prog 59 [].toArray w fun e w' => ∃ v, e = .returned v ∧ VRep RBox w' M r v ∧ BX No w w' := by
 obtain ⟨i58, hi58, hz58, hs58, hy58⟩ := info58
 have hC : Cx No w M w M := Cx.start hO (fun _ e => e.elim)
 refine walk (N := 18) Tryd.func59 Z Tryd.ntmps59 Z (cw_seq (cw_region (lw_op Z Z Z (ow_alloc Z (Tryd.zeroValue27 _) hC fun g1 w1 hg1 hg2 ho1 hb1 hl1 hC1 => ?_))))
 have hm1 : (Add g1 M) g1 := .inl Z
 refine lw_nil (ew_then (cw_seq (cw_region (lw_op Z Z Z (ow_build (v := .agg #[(.slice none 0 0)]) Z Z (by kernel_rfl) (lw_op Z Z Z (ow_alloc Z (Tryd.zeroValue27 _) hC1 fun g2 w2 hg3 hg4 ho2 hb2 hl2 hC2 => ?_)))))))
 have hn1 := Nat.ne_of_lt (Nat.lt_of_lt_of_le ho1.lt hg3)
 have ho3 := ho1.no hb2
 have hm2 : (Add g2 (Add g1 M)) g1 := .inr hm1
 have hm3 : (Add g2 (Add g1 M)) g2 := .inl Z
 refine lw_op0 Z Z (ow_store (X := No) (us := [(.slice none 0 0)]) (cs' := #[(.slice none 0 0)]) Z Z Z Z ho2 (Tryd.sizeOf27 _) Z Z Z Z hm3 (.inl hg4) Z hC2 fun w3 ho4 hb3 hl3 hC3 => ?_)
 have ho5 := ho3.go hb3 (fun e => hn1 e)
 refine lw_nil (ew_then (cw_seq (cw_seq (cw_region (lw_op Z Z Z (ow_assign Z Z (lw_nil (ew_then ?_))))))))
 have hr1 : OwnRow (RSlice RSpan) w.heap.size 58 w3 (Add g2 (Add g1 M)) ([] : List (List Span)) (.slice none 0 0) := ownrow_nil
 replace h := bind_some h
 obtain ⟨lr1, hlr1, h⟩ := h
 refine cw_for hlr1 (fun s a w' => ∃ (M' : Nat → Prop) (v1c : Value), Fits 18 [(0, (.pointer (some ⟨g1, 0, none⟩))), (1, (.pointer (some ⟨g2, 0, none⟩))), (2, (.int .i64 s.1))] a ∧ Le w3 (Add g2 (Add g1 M)) w' M' ∧ Cx No w M w' M' ∧ OwnRow (RSlice RSpan) w.heap.size 58 w' M' s.2 v1c ∧ Own w' g1 27 #[(.slice none 0 0)] ∧ M' g1 ∧ Own w' g2 27 #[v1c] ∧ M' g2) ?_ ?_ ?_
 ·
  intro a ha
  exact ⟨(Add g2 (Add g1 M)), (.slice none 0 0), ha.sub ⟨Z, Z, Z, trivial⟩, Le.refl _ _, hC3, hr1, ho5, hm2, ho4, hm3⟩
 ·
  rintro ⟨k1, y1⟩ a w4 sr1 ⟨M1, v2, hF1, hl4, hC4, hw2, ho6, hm4, ho7, hm5⟩ hb4 hR1
  refine cw_at (E := [(0, (.pointer (some ⟨g1, 0, none⟩))), (1, (.pointer (some ⟨g2, 0, none⟩))), (2, (.int .i64 k1))]) hF1 (cw_seq (cw_seq (cw_region (lw_op Z Z Z (ow_move Z Z (lw_op Z Z Z (ow_lss Z Z Z fun bb1 hbb1 => lw_nil (ew_then ?_))))))))
  replace hb4 := cond_some hb4
  rcases hb4 with ⟨hc1, hb4⟩ | ⟨hc1, hb4⟩
  ·
   obtain rfl := hbb1.trans hc1
   refine cw_true Z (cw_skip (ew_then (cw_seq (cw_block ?_))))
   replace hb4 := bind_some hb4
   obtain ⟨x1, hx1, hb4⟩ := hb4
   have hz1 := (((hl1.trans hl2).trans hl3).trans hl4)
   refine cw_sub (E' := [(0, (.pointer (some ⟨g1, 0, none⟩))), (1, (.pointer (some ⟨g2, 0, none⟩))), (2, (.int .i64 k1))]) ⟨Z, Z, Z, trivial⟩ (cw_drawQ 7 [PEq (.pointer (some ⟨g2, 0, none⟩)), PEq v2, PEq (.int .i64 k1), PEq (.int .i64 x1), PV RSpan M1 ({ Lo := 0, Hi := x1 } : Span), PV (RSlice RSpan) M1 [({ Lo := 0, Hi := x1 } : Span)], PV (RSlice (RSlice RSpan)) M1 [[({ Lo := 0, Hi := x1 } : Span)]]] (by kernel_rfl) Z (by kernel_rfl) ⟨PEq.mono _, PEq.mono _, PEq.mono _, PEq.mono _, PV.mono _ _ _, PV.mono _ _ _, PV.mono _ _ _, trivial⟩ ⟨?_, ?_, ?_, ?_, ?_, ?_, ?_, trivial⟩ ?_)
   ·
    intro w8 D hS1 hd1
    exact dg_sub (E' := [(1, (.pointer (some ⟨g2, 0, none⟩)))]) ⟨Z, trivial⟩ (dg_plain Z (ow_fieldAddr Z Z Tryd.underlying27 Z (Tryd.sizeOf25 _) ⟨BX.refl _ _, Z⟩))
   ·
    intro w9 D hS2 hd2
    have ho17 := ho7.no hS2
    exact dg_sub (E' := [(8, (.pointer (some ⟨g2, 0, none⟩)))]) ⟨(dpE hd2 0 Z Z), trivial⟩ (dg_plain Z (ow_loadOwn1 Z Z Z ho17 (Tryd.isAgg25 _) Z ⟨BX.refl _ _, Z⟩))
   ·
    intro w10 D hS3 hd3
    exact dg_sub (E' := [(2, (.int .i64 k1))]) ⟨Z, trivial⟩ (dg_plain Z (ow_move Z Z ⟨BX.refl _ _, Z⟩))
   ·
    intro w11 D hS4 hd4
    have hl11 := Le.no M1 hS4
    have hC11 := hC4.no hS4
    refine dg_sub (E' := [(10, (.int .i64 k1))]) ⟨(dpE hd4 2 Z Z), trivial⟩ (dg_plain Z (ow_call Z Z Tryd.call81 (w_spec_FieldTop (hG.mono (hz1.trans hl11)) hC11.old hx1) fun v4 w12 hv4 => ?_))
    obtain ⟨hv4, hb8⟩ := hv4
    obtain rfl := vint_eq hv4
    exact ⟨hb8, Z⟩
   ·
    intro w13 D hS5 hd5
    refine dg_sub (E' := [(11, (.int .i64 x1))]) ⟨(dpE hd5 3 Z Z), trivial⟩ (dg_plain Z (ow_build (v := .agg #[(.int .i64 0), (.int .i64 x1)]) Z Z (by kernel_rfl) ?_))
    have hw6 : VRep RSpan w13 M1 ({ Lo := 0, Hi := x1 } : Span) (.agg #[(.int .i64 0), (.int .i64 x1)]) := shut_Span
    exact ⟨BX.refl _ _, hw6⟩
   ·
    intro w14 D hS6 hd6
    have hC14 := hC4.no hS6
    have d4 : PV RSpan M1 ({ Lo := 0, Hi := x1 } : Span) (D 4) w14 := dpA hd6 4 Z
    generalize hq1 : (D 4) = v5 at d4
    refine dg_sub (E' := [(12, v5)]) ⟨(congrArg some hq1), trivial⟩ ?_
    obtain rfl := open_Span d4
    exact dg_plain Z (ow_buildSlice (R := RSpan) (xs := [({ Lo := 0, Hi := x1 } : Span)]) (cs := #[(.int .i64 ({ Lo := 0, Hi := x1 } : Span).Lo), (.int .i64 ({ Lo := 0, Hi := x1 } : Span).Hi)]) (e := 76) Z Z (by kernel_rfl) Z Z ⟨_, _, Z, d4.cells, Z⟩ hC14 fun p3 w15 hw7 hb9 hl15 hC15 => ⟨hb9, hw7⟩)
   ·
    intro w16 D hS7 hd7
    have hC16 := hC4.no hS7
    have d5 : PV (RSlice RSpan) M1 [({ Lo := 0, Hi := x1 } : Span)] (D 5) w16 := dpA hd7 5 Z
    generalize hq2 : (D 5) = v6 at d5
    refine dg_sub (E' := [(13, v6)]) ⟨(congrArg some hq2), trivial⟩ ?_
    obtain ⟨A1, c1, rfl, -⟩ := vslice_shape d5
    exact dg_plain Z (ow_buildSlice (R := (RSlice RSpan)) (xs := [[({ Lo := 0, Hi := x1 } : Span)]]) (cs := #[(.slice A1 [({ Lo := 0, Hi := x1 } : Span)].length c1)]) (e := 58) Z Z (by kernel_rfl) Z Z ⟨_, _, Z, d5.cells, Z⟩ hC16 fun p4 w17 hw8 hb10 hl17 hC17 => ⟨hb10, hw8⟩)
   ·
    intro w18 D hS8 hd8
    have d12 : PV (RSlice (RSlice RSpan)) M1 [[({ Lo := 0, Hi := x1 } : Span)]] (D 6) w18 := dpA hd8 6 Z
    have hl18 := Le.no M1 hS8
    have hC18 := hC4.no hS8
    have ho34 := ho6.no hS8
    have ho35 := ho7.no hS8
    have hr15 := hw2.no hS8
    generalize hq3 : (D 6) = v7 at d12
    refine lw_sub (E' := [(9, v2), (14, v7), (0, (.pointer (some ⟨g1, 0, none⟩))), (1, (.pointer (some ⟨g2, 0, none⟩))), (2, (.int .i64 k1))]) ⟨(dpE hd8 1 Z Z), (congrArg some hq3), Z, Z, Z, trivial⟩ ?_
    replace hb4 := bind_some hb4
    obtain ⟨z1, hz1, hb4⟩ := hb4
    refine lw_op Z Z Z (ow_append (R := (RSlice RSpan)) Z Z Z Z Tryd.underlying25 hi58 hz58 hs58 hy58 Z Z Z Z hr15 d12 hz1 hC18 fun v8 w19 M2 hr16 hb11 hl19 hC19 hM1 hat1 => ?_)
    have ho36 := ho34.go hb11 (fun e => (orow_ne hr15 ho34 (by decide)) e)
    have hm6 := hM1 _ hm4
    have ho37 := ho35.go hb11 (fun e => (orow_ne hr15 ho35 (by decide)) e)
    have hm7 := hM1 _ hm5
    refine lw_op Z Z Z (ow_fieldAddr Z Z Tryd.underlying27 Z (Tryd.sizeOf25 _) ?_)
    obtain ⟨A2, c2, rfl⟩ := hr16.len
    refine lw_op0 Z Z (ow_store (X := No) (us := [(.slice A2 z1.length c2)]) (cs' := #[(.slice A2 z1.length c2)]) Z Z Z Z ho37 (Tryd.sizeOf25 _) Z Z Z Z hm7 (.inl hg4) Z hC19 fun w20 ho38 hb12 hl20 hC20 => ?_)
    have ho39 := ho36.go hb12 (fun e => hn1 e)
    have hr17 := hr16.go hb12 (fun k hk e => (orow_ne hr16 ho37 (by decide)) (hk.trans (congrArg some e))) hl20 (fun _ h => h)
    refine lw_nil (ew_blockN (ew_then (cw_region (lw_op Z Z Z (ow_move Z Z (lw_op Z Z Z (ow_add Z Z Z (lw_op Z Z Z (ow_assign Z Z (lw_nil ?_))))))))))
    have hz2 := (((hl4.trans hl18).trans hl19).trans hl20)
    exact ew_nxt ((W (k1 + 1)), z1) hb4 fun a ha => ⟨M2, (.slice A2 z1.length c2), (ha.sub ⟨Z, Z, Z, trivial⟩), hz2, hC20, hr17, ho39, hm6, ho38, hm7⟩
  ·
   obtain rfl := hbb1.trans hc1
   exact cw_false Z (cw_exit (ew_thenX (ew_thenX (ew_blockX (ew_brk (k1, y1) hb4 fun a ha => ⟨M1, v2, (ha.sub ⟨Z, Z, Z, trivial⟩), hl4, hC4, hw2, ho6, hm4, ho7, hm5⟩)))))
 ·
  rintro ⟨k2, y2⟩ a w21 hlr2 ⟨M3, v10, hF2, hl21, hC21, hw9, ho40, hm8, ho41, hm9⟩
  subst hlr2
  refine ew_at (E := [(0, (.pointer (some ⟨g1, 0, none⟩))), (1, (.pointer (some ⟨g2, 0, none⟩))), (2, (.int .i64 k2))]) hF2 (ew_then (cw_seq (cw_region (lw_op Z Z Z (ow_loadOwnA Z Z Z ho41 (Tryd.isAgg27 _) (Tryd.sizeOf27 _) Z ?_)))))
  have hw10 := hw9.freezeDel
  have hC22 := hw9.cxDel hC21 (fun _ e => e.elim) hO
  have hm10 : (Del v10 M3) g1 := ⟨hm8, fun e => (orow_ne hw9 ho40 (by decide)) e⟩
  obtain ⟨A3, c3, rfl, -⟩ := vslice_shape hw10
  refine lw_op0 Z Z (ow_store (X := No) (us := [(.slice A3 y2.length c3)]) (cs' := #[(.slice A3 y2.length c3)]) Z Z Z Z ho40 (Tryd.sizeOf27 _) Z Z Z Z hm10 (.inl hg2) Z hC22 fun w22 ho42 hb13 hl23 hC23 => lw_nil (ew_then (cw_ret ?_)))
  have hw12 : VRep RBox w22 (Del (.slice A3 y2.length c3) M3) ({ Sides := y2 } : Box) (.agg #[(.slice A3 y2.length c3)]) := shut_Box (VRep.mono hl23 hw10)
  obtain rfl := Option.some.inj h
  exact ew_ret (res1 Z (.cell Z (own_loadVarA ho42 (Tryd.isAgg27 _) (Tryd.sizeOf27 _) Z))) ⟨_, Z, (hw12.mono hC23.back), hC23.bx⟩


end Go.PF
