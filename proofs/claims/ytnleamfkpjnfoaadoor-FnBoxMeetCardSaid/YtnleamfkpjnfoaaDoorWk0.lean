/- The walks; no condition. -/
import Derived.Test.YtnleamfkpjnfoaaDoorProg
import Derived.Test.YtnleamfkpjnfoaaDoorFun
import Derived.Test.YtnleamfkpjnfoaaDoorPFNew
set_option maxRecDepth 100000
set_option maxHeartbeats 4000000
namespace Go.PF
open Go Go.RowKit Go.Proofs

theorem info31 : ∃ i, Tryd.prog.info? 31 = some i ∧ i.zero = some (.agg #[.int .i64 0, .int .i64 0, .int .i64 0, .bool false]) ∧ i.size = 4 ∧ i.bytes = 32 := info_parts (by kernel_rfl)
theorem info58 : ∃ i, Tryd.prog.info? 58 = some i ∧ i.zero = some (.slice none 0 0) ∧ i.size = 1 ∧ i.bytes = 24 := info_parts (by kernel_rfl)
theorem info76 : ∃ i, Tryd.prog.info? 76 = some i ∧ i.zero = some (.agg #[.int .i64 0, .int .i64 0]) ∧ i.size = 2 ∧ i.bytes = 16 := info_parts (by kernel_rfl)
theorem eqS76 {x y : Span} (w : World) : (Op.equalIn 10000 76 (.agg #[.int .i64 x.Lo, .int .i64 x.Hi]) (.agg #[.int .i64 y.Lo, .int .i64 y.Hi])).run Tryd.prog w = .ok (decide (x = y)) w := by
  obtain ⟨a0, a1⟩ := x
  obtain ⟨b0, b1⟩ := y
  rw [run_equalIn_struct w 9999 76 _ _ rfl Tryd.stoodInHeld76]
  simp only [Program.fieldsOf, Tryd.underlying76]
  by_cases h0 : a0 = b0 <;> by_cases h1 : a1 = b1 <;> simp [Op.eqFields, part, Tryd.isAgg3, run_equalIn_int, Tryd.underlying3, h0, h1]
theorem w_laws_sameSpans {w : World} {M : Nat → Prop} (_hG : ARep (RArr 4 RShape) w M shapes ⟨0, 0, none⟩) (hO : ∀ b, M b → b < w.heap.size) {v0p : Value} {a_a : List Span} (h0 : VRep (RSlice RSpan) w M a_a v0p) {v1p : Value} {a_b : List Span} (h1 : VRep (RSlice RSpan) w M a_b v1p) {r : Bool} (h : F.laws_sameSpans a_a a_b = some r) :
  Calls Tryd.prog 58 [v0p, v1p].toArray w fun e w' => ∃ v, e = .returned v ∧ VRep RBool w' M r v ∧ BX No w w' := by
 have hC : Cx No w M w M := Cx.start hO (fun _ e => e.elim)
 clear _hG
 refine walk (N := 26) Tryd.func58 Z Tryd.ntmps58 Z (cw_seq (cw_region (lw_op Z Z Z (ow_assign Z Z (lw_nil (ew_then (cw_seq (cw_seq (cw_region (lw_op Z Z Z (ow_move Z Z (lw_op Z Z Z (ow_len Z Z h0 Tryd.underlying58 Z (lw_op Z Z Z (ow_move Z Z (lw_op Z Z Z (ow_len Z Z h1 Tryd.underlying58 Z (lw_op Z Z Z (ow_neqI Z Z Z fun bb1 hbb1 => lw_nil (ew_then ?_))))))))))))))))))))
 replace h := cond_some h
 rcases h with ⟨hc1, h⟩ | ⟨hc1, h⟩
 ·
  obtain rfl := hbb1.trans hc1
  refine cw_true Z (cw_seq (cw_region (lw_op Z Z Z (ow_assign Z Z (lw_nil (ew_then (cw_ret (ew_thenR ?_))))))))
  obtain rfl := Option.some.inj h
  exact ew_ret (res1 Z (.tmp Z)) ⟨_, Z, ((vbool _)), hC.bx⟩
 ·
  obtain rfl := hbb1.trans hc1
  refine cw_false Z (cw_skip (ew_then (cw_seq (cw_seq (cw_region (lw_op Z Z Z (ow_assign Z Z (lw_nil (ew_then ?_)))))))))
  replace h := bind_some h
  obtain ⟨lr1, hlr1, h⟩ := h
  refine cw_for hlr1 (fun s a w' => ∃ (M' : Nat → Prop), Fits 26 [(0, v0p), (1, v1p), (5, (.int .i64 s))] a ∧ Le w M w' M' ∧ Cx No w M w' M') ?_ ?_ ?_
  ·
   intro a ha
   exact ⟨M, ha.sub ⟨Z, Z, Z, trivial⟩, Le.refl _ _, hC⟩
  ·
   rintro k1 a w1 sr1 ⟨M1, hF1, hl1, hC1⟩ hb1 hR1
   refine cw_at (E := [(0, v0p), (1, v1p), (5, (.int .i64 k1))]) hF1 (cw_seq (cw_seq (cw_region (lw_op Z Z Z (ow_move Z Z (lw_op Z Z Z (ow_move Z Z (lw_op Z Z Z (ow_len Z Z (VRep.mono hl1 h0) Tryd.underlying58 Z (lw_op Z Z Z (ow_lss Z Z Z fun bb2 hbb2 => lw_nil (ew_then ?_))))))))))))
   replace hb1 := cond_some hb1
   rcases hb1 with ⟨hc2, hb1⟩ | ⟨hc2, hb1⟩
   ·
    obtain rfl := hbb2.trans hc2
    refine cw_true Z (cw_skip (ew_then (cw_seq (cw_block (cw_seq ?_)))))
    replace hb1 := bind_some hb1
    obtain ⟨x1, hx1, hb1⟩ := hb1
    replace hb1 := bind_some hb1
    obtain ⟨x2, hx2, hb1⟩ := hb1
    refine cw_sub (E' := [(0, v0p), (1, v1p), (5, (.int .i64 k1))]) ⟨Z, Z, Z, trivial⟩ (cw_drawQ 8 [PV (RSlice RSpan) M1 a_a, PEq (.int .i64 k1), PA RSpan M1 x1, PV RSpan M1 x1, PV (RSlice RSpan) M1 a_b, PEq (.int .i64 k1), PA RSpan M1 x2, PV RSpan M1 x2] (by kernel_rfl) Z (by kernel_rfl) ⟨PV.mono _ _ _, PEq.mono _, PA.mono _ _ _, PV.mono _ _ _, PV.mono _ _ _, PEq.mono _, PA.mono _ _ _, PV.mono _ _ _, trivial⟩ ⟨?_, ?_, ?_, ?_, ?_, ?_, ?_, ?_, trivial⟩ ?_)
    ·
     intro w2 D hS1 hd1
     have hl2 := Le.no M1 hS1
     exact dg_sub (E' := [(0, v0p)]) ⟨Z, trivial⟩ (dg_plain Z (ow_move Z Z ⟨BX.refl _ _, (VRep.mono (hl1.trans hl2) h0)⟩))
    ·
     intro w3 D hS2 hd2
     exact dg_sub (E' := [(5, (.int .i64 k1))]) ⟨Z, trivial⟩ (dg_plain Z (ow_move Z Z ⟨BX.refl _ _, Z⟩))
    ·
     intro w4 D hS3 hd3
     have d1 : PV (RSlice RSpan) M1 a_a (D 0) w4 := dpA hd3 0 Z
     generalize hq1 : (D 0) = v4 at d1
     exact dg_sub (E' := [(17, v4), (18, (.int .i64 k1))]) ⟨(congrArg some hq1), (dpE hd3 1 Z Z), trivial⟩ (dg_plain Z (ow_indexSlice (R := RSpan) Z Z Z d1 Tryd.underlying58 (Tryd.sizeOf76 _) hx1 fun p3 hp3 => ⟨BX.refl _ _, ⟨_, Z, hp3⟩⟩))
    ·
     intro w5 D hS4 hd4
     have d3 : PA RSpan M1 x1 (D 2) w5 := dpA hd4 2 Z
     obtain ⟨p4, e1, ha1⟩ := d3
     exact dg_sub (E' := [(19, (.pointer (some p4)))]) ⟨(congrArg some e1), trivial⟩ (dg_plain Z (ow_load (R := RSpan) Z Z ha1 (Tryd.sizeOf76 _) (Tryd.isAgg76 _) fun v5 hv5 => ⟨BX.refl _ _, hv5⟩))
    ·
     intro w6 D hS5 hd5
     have hl6 := Le.no M1 hS5
     exact dg_sub (E' := [(1, v1p)]) ⟨Z, trivial⟩ (dg_plain Z (ow_move Z Z ⟨BX.refl _ _, (VRep.mono (hl1.trans hl6) h1)⟩))
    ·
     intro w7 D hS6 hd6
     exact dg_sub (E' := [(5, (.int .i64 k1))]) ⟨Z, trivial⟩ (dg_plain Z (ow_move Z Z ⟨BX.refl _ _, Z⟩))
    ·
     intro w8 D hS7 hd7
     have d4 : PV (RSlice RSpan) M1 a_b (D 4) w8 := dpA hd7 4 Z
     generalize hq2 : (D 4) = v6 at d4
     exact dg_sub (E' := [(21, v6), (22, (.int .i64 k1))]) ⟨(congrArg some hq2), (dpE hd7 5 Z Z), trivial⟩ (dg_plain Z (ow_indexSlice (R := RSpan) Z Z Z d4 Tryd.underlying58 (Tryd.sizeOf76 _) hx2 fun p5 hp5 => ⟨BX.refl _ _, ⟨_, Z, hp5⟩⟩))
    ·
     intro w9 D hS8 hd8
     have d6 : PA RSpan M1 x2 (D 6) w9 := dpA hd8 6 Z
     obtain ⟨p6, e2, ha2⟩ := d6
     exact dg_sub (E' := [(23, (.pointer (some p6)))]) ⟨(congrArg some e2), trivial⟩ (dg_plain Z (ow_load (R := RSpan) Z Z ha2 (Tryd.sizeOf76 _) (Tryd.isAgg76 _) fun v7 hv7 => ⟨BX.refl _ _, hv7⟩))
    ·
     intro w10 D hS9 hd9
     have d10 : PV RSpan M1 x1 (D 3) w10 := dpA hd9 3 Z
     have d14 : PV RSpan M1 x2 (D 7) w10 := dpA hd9 7 Z
     have hl10 := Le.no M1 hS9
     have hC10 := hC1.no hS9
     generalize hq3 : (D 3) = v8 at d10
     generalize hq4 : (D 7) = v9 at d14
     refine lw_sub (E' := [(20, v8), (24, v9), (0, v0p), (1, v1p), (5, (.int .i64 k1))]) ⟨(congrArg some hq3), (congrArg some hq4), Z, Z, Z, trivial⟩ ?_
     obtain rfl := open_Span d10
     obtain rfl := open_Span d14
     refine lw_op Z Z Z (ow_neqS Z Z Z (Tryd.eqGuardType76) (eqS76 (x := x1) (y := x2) _) fun bb3 hbb3 => lw_nil (ew_then ?_))
     replace hb1 := cond_some hb1
     rcases hb1 with ⟨hc3, hb1⟩ | ⟨hc3, hb1⟩
     ·
      obtain rfl := hbb3.trans hc3
      refine cw_true Z (cw_seq (cw_region (lw_op Z Z Z (ow_assign Z Z (lw_nil (ew_then (cw_ret (ew_blockR (ew_thenR (ew_thenR (ew_blockR (ew_brkR (ew_thenR ?_)))))))))))))
      have e3 := hR1 _ (Option.some.inj hb1).symm
      subst e3
      obtain rfl := Option.some.inj h
      exact ew_ret (res1 Z (.tmp Z)) ⟨_, Z, ((vbool _)), hC10.bx⟩
     ·
      obtain rfl := hbb3.trans hc3
      exact cw_false Z (cw_skip (ew_blockN (ew_then (cw_region (lw_op Z Z Z (ow_move Z Z (lw_op Z Z Z (ow_add Z Z Z (lw_op Z Z Z (ow_assign Z Z (lw_nil (ew_nxt (W (k1 + 1)) hb1 fun a ha => ⟨M1, (ha.sub ⟨Z, Z, Z, trivial⟩), (hl1.trans hl10), hC10⟩))))))))))))
   ·
    obtain rfl := hbb2.trans hc2
    exact cw_false Z (cw_exit (ew_thenX (ew_thenX (ew_blockX (ew_brk k1 hb1 fun a ha => ⟨M1, (ha.sub ⟨Z, Z, Z, trivial⟩), hl1, hC1⟩)))))
  ·
   rintro k2 a w11 hlr2 ⟨M2, hF2, hl11, hC11⟩
   subst hlr2
   refine ew_at (E := [(0, v0p), (1, v1p), (5, (.int .i64 k2))]) hF2 (ew_then (cw_seq (cw_region (lw_op Z Z Z (ow_assign Z Z (lw_nil (ew_then (cw_ret ?_))))))))
   obtain rfl := Option.some.inj h
   exact ew_ret (res1 Z (.tmp Z)) ⟨_, Z, ((vbool _)), hC11.bx⟩

theorem w_laws_sameBox {w : World} {M : Nat → Prop} (hG : ARep (RArr 4 RShape) w M shapes ⟨0, 0, none⟩) (hO : ∀ b, M b → b < w.heap.size) {v0p : Value} {a_a : Box} (h0 : VRep RBox w M a_a v0p) {v1p : Value} {a_b : Box} (h1 : VRep RBox w M a_b v1p) {r : Bool} (h : F.laws_sameBox a_a a_b = some r) :
  Calls Tryd.prog 17 [v0p, v1p].toArray w fun e w' => ∃ v, e = .returned v ∧ VRep RBool w' M r v ∧ BX No w w' := by
 have hC : Cx No w M w M := Cx.start hO (fun _ e => e.elim)
 refine walk (N := 32) Tryd.func17 Z Tryd.ntmps17 Z (cw_seq (cw_region (lw_op Z Z Z (ow_box (R := RBox) Z Z h0 hC fun p1 w1 hp1 hb1 hl1 hC1 => lw_op Z Z Z (ow_box (R := RBox) Z Z (VRep.mono hl1 h1) hC1 fun p2 w2 hp2 hb2 hl2 hC2 => lw_op Z Z Z (ow_assign Z Z (lw_nil (ew_then (cw_seq (cw_seq (cw_region (lw_op Z Z Z (ow_fieldAddr Z Z Tryd.underlying27 Z (Tryd.sizeOf25 _) (lw_op Z Z Z (ow_load (R := (RSlice (RSlice RSpan))) Z Z (ARep.mono hl2 (hp1.fld fld_Box_Sides)) (Tryd.sizeOf25 _) (Tryd.isAgg25 _) fun v1 hv1 => lw_op Z Z Z (ow_len Z Z hv1 Tryd.underlying25 Z (lw_op Z Z Z (ow_fieldAddr Z Z Tryd.underlying27 Z (Tryd.sizeOf25 _) (lw_op Z Z Z (ow_load (R := (RSlice (RSlice RSpan))) Z Z (hp2.fld fld_Box_Sides) (Tryd.sizeOf25 _) (Tryd.isAgg25 _) fun v2 hv2 => lw_op Z Z Z (ow_len Z Z hv2 Tryd.underlying25 Z (lw_op Z Z Z (ow_neqI Z Z Z fun bb1 hbb1 => lw_nil (ew_then ?_))))))))))))))))))))))))
 replace h := cond_some h
 rcases h with ⟨hc1, h⟩ | ⟨hc1, h⟩
 ·
  obtain rfl := hbb1.trans hc1
  refine cw_true Z (cw_seq (cw_region (lw_op Z Z Z (ow_assign Z Z (lw_nil (ew_then (cw_ret (ew_thenR ?_))))))))
  obtain rfl := Option.some.inj h
  exact ew_ret (res1 Z (.tmp Z)) ⟨_, Z, ((vbool _)), hC2.bx⟩
 ·
  obtain rfl := hbb1.trans hc1
  refine cw_false Z (cw_skip (ew_then (cw_seq (cw_seq (cw_region (lw_op Z Z Z (ow_assign Z Z (lw_nil (ew_then ?_)))))))))
  replace h := bind_some h
  obtain ⟨lr1, hlr1, h⟩ := h
  refine cw_for hlr1 (fun s a w' => ∃ (M' : Nat → Prop), Fits 32 [(2, (.pointer (some p1))), (3, (.pointer (some p2))), (5, (.int .i64 s))] a ∧ Le w2 M w' M' ∧ Cx No w M w' M') ?_ ?_ ?_
  ·
   intro a ha
   exact ⟨M, ha.sub ⟨Z, Z, Z, trivial⟩, Le.refl _ _, hC2⟩
  ·
   rintro k1 a w3 sr1 ⟨M1, hF1, hl3, hC3⟩ hb3 hR1
   refine cw_at (E := [(2, (.pointer (some p1))), (3, (.pointer (some p2))), (5, (.int .i64 k1))]) hF1 (cw_seq (cw_seq (cw_region (lw_op Z Z Z (ow_move Z Z (lw_op Z Z Z (ow_fieldAddr Z Z Tryd.underlying27 Z (Tryd.sizeOf25 _) (lw_op Z Z Z (ow_load (R := (RSlice (RSlice RSpan))) Z Z (ARep.mono (hl2.trans hl3) (hp1.fld fld_Box_Sides)) (Tryd.sizeOf25 _) (Tryd.isAgg25 _) fun v4 hv4 => lw_op Z Z Z (ow_len Z Z hv4 Tryd.underlying25 Z (lw_op Z Z Z (ow_lss Z Z Z fun bb2 hbb2 => lw_nil (ew_then ?_)))))))))))))
   replace hb3 := cond_some hb3
   rcases hb3 with ⟨hc2, hb3⟩ | ⟨hc2, hb3⟩
   ·
    obtain rfl := hbb2.trans hc2
    refine cw_true Z (cw_skip (ew_then (cw_seq (cw_block (cw_seq ?_)))))
    replace hb3 := bind_some hb3
    obtain ⟨x1, hx1, hb3⟩ := hb3
    replace hb3 := bind_some hb3
    obtain ⟨x2, hx2, hb3⟩ := hb3
    have hz1 := ((hl1.trans hl2).trans hl3)
    have hz2 := (hl2.trans hl3)
    refine cw_sub (E' := [(2, (.pointer (some p1))), (3, (.pointer (some p2))), (5, (.int .i64 k1))]) ⟨Z, Z, Z, trivial⟩ (cw_drawQ 10 [PA (RSlice (RSlice RSpan)) M1 a_a.Sides, PV (RSlice (RSlice RSpan)) M1 a_a.Sides, PEq (.int .i64 k1), PA (RSlice RSpan) M1 x1, PV (RSlice RSpan) M1 x1, PA (RSlice (RSlice RSpan)) M1 a_b.Sides, PV (RSlice (RSlice RSpan)) M1 a_b.Sides, PEq (.int .i64 k1), PA (RSlice RSpan) M1 x2, PV (RSlice RSpan) M1 x2] (by kernel_rfl) Z (by kernel_rfl) ⟨PA.mono _ _ _, PV.mono _ _ _, PEq.mono _, PA.mono _ _ _, PV.mono _ _ _, PA.mono _ _ _, PV.mono _ _ _, PEq.mono _, PA.mono _ _ _, PV.mono _ _ _, trivial⟩ ⟨?_, ?_, ?_, ?_, ?_, ?_, ?_, ?_, ?_, ?_, trivial⟩ ?_)
    ·
     intro w4 D hS1 hd1
     have hl4 := Le.no M1 hS1
     exact dg_sub (E' := [(2, (.pointer (some p1)))]) ⟨Z, trivial⟩ (dg_plain Z (ow_fieldAddr Z Z Tryd.underlying27 Z (Tryd.sizeOf25 _) ⟨BX.refl _ _, ⟨_, Z, (ARep.mono (hz2.trans hl4) (hp1.fld fld_Box_Sides))⟩⟩))
    ·
     intro w5 D hS2 hd2
     have d1 : PA (RSlice (RSlice RSpan)) M1 a_a.Sides (D 0) w5 := dpA hd2 0 Z
     obtain ⟨p5, e1, ha1⟩ := d1
     exact dg_sub (E' := [(20, (.pointer (some p5)))]) ⟨(congrArg some e1), trivial⟩ (dg_plain Z (ow_load (R := (RSlice (RSlice RSpan))) Z Z ha1 (Tryd.sizeOf25 _) (Tryd.isAgg25 _) fun v9 hv9 => ⟨BX.refl _ _, hv9⟩))
    ·
     intro w6 D hS3 hd3
     exact dg_sub (E' := [(5, (.int .i64 k1))]) ⟨Z, trivial⟩ (dg_plain Z (ow_move Z Z ⟨BX.refl _ _, Z⟩))
    ·
     intro w7 D hS4 hd4
     have d2 : PV (RSlice (RSlice RSpan)) M1 a_a.Sides (D 1) w7 := dpA hd4 1 Z
     generalize hq1 : (D 1) = v10 at d2
     exact dg_sub (E' := [(21, v10), (22, (.int .i64 k1))]) ⟨(congrArg some hq1), (dpE hd4 2 Z Z), trivial⟩ (dg_plain Z (ow_indexSlice (R := (RSlice RSpan)) Z Z Z d2 Tryd.underlying25 (Tryd.sizeOf58 _) hx1 fun p6 hp6 => ⟨BX.refl _ _, ⟨_, Z, hp6⟩⟩))
    ·
     intro w8 D hS5 hd5
     have d4 : PA (RSlice RSpan) M1 x1 (D 3) w8 := dpA hd5 3 Z
     obtain ⟨p7, e2, ha2⟩ := d4
     exact dg_sub (E' := [(23, (.pointer (some p7)))]) ⟨(congrArg some e2), trivial⟩ (dg_plain Z (ow_load (R := (RSlice RSpan)) Z Z ha2 (Tryd.sizeOf58 _) (Tryd.isAgg58 _) fun v11 hv11 => ⟨BX.refl _ _, hv11⟩))
    ·
     intro w9 D hS6 hd6
     have hl9 := Le.no M1 hS6
     exact dg_sub (E' := [(3, (.pointer (some p2)))]) ⟨Z, trivial⟩ (dg_plain Z (ow_fieldAddr Z Z Tryd.underlying27 Z (Tryd.sizeOf25 _) ⟨BX.refl _ _, ⟨_, Z, (ARep.mono (hl3.trans hl9) (hp2.fld fld_Box_Sides))⟩⟩))
    ·
     intro w10 D hS7 hd7
     have d5 : PA (RSlice (RSlice RSpan)) M1 a_b.Sides (D 5) w10 := dpA hd7 5 Z
     obtain ⟨p8, e3, ha3⟩ := d5
     exact dg_sub (E' := [(25, (.pointer (some p8)))]) ⟨(congrArg some e3), trivial⟩ (dg_plain Z (ow_load (R := (RSlice (RSlice RSpan))) Z Z ha3 (Tryd.sizeOf25 _) (Tryd.isAgg25 _) fun v12 hv12 => ⟨BX.refl _ _, hv12⟩))
    ·
     intro w11 D hS8 hd8
     exact dg_sub (E' := [(5, (.int .i64 k1))]) ⟨Z, trivial⟩ (dg_plain Z (ow_move Z Z ⟨BX.refl _ _, Z⟩))
    ·
     intro w12 D hS9 hd9
     have d6 : PV (RSlice (RSlice RSpan)) M1 a_b.Sides (D 6) w12 := dpA hd9 6 Z
     generalize hq2 : (D 6) = v13 at d6
     exact dg_sub (E' := [(26, v13), (27, (.int .i64 k1))]) ⟨(congrArg some hq2), (dpE hd9 7 Z Z), trivial⟩ (dg_plain Z (ow_indexSlice (R := (RSlice RSpan)) Z Z Z d6 Tryd.underlying25 (Tryd.sizeOf58 _) hx2 fun p9 hp9 => ⟨BX.refl _ _, ⟨_, Z, hp9⟩⟩))
    ·
     intro w13 D hS10 hd10
     have d8 : PA (RSlice RSpan) M1 x2 (D 8) w13 := dpA hd10 8 Z
     obtain ⟨p10, e4, ha4⟩ := d8
     exact dg_sub (E' := [(28, (.pointer (some p10)))]) ⟨(congrArg some e4), trivial⟩ (dg_plain Z (ow_load (R := (RSlice RSpan)) Z Z ha4 (Tryd.sizeOf58 _) (Tryd.isAgg58 _) fun v14 hv14 => ⟨BX.refl _ _, hv14⟩))
    ·
     intro w14 D hS11 hd11
     have d13 : PV (RSlice RSpan) M1 x1 (D 4) w14 := dpA hd11 4 Z
     have d18 : PV (RSlice RSpan) M1 x2 (D 9) w14 := dpA hd11 9 Z
     have hl14 := Le.no M1 hS11
     have hC14 := hC3.no hS11
     generalize hq3 : (D 4) = v15 at d13
     generalize hq4 : (D 9) = v16 at d18
     refine lw_sub (E' := [(24, v15), (29, v16), (2, (.pointer (some p1))), (3, (.pointer (some p2))), (5, (.int .i64 k1))]) ⟨(congrArg some hq3), (congrArg some hq4), Z, Z, Z, trivial⟩ ?_
     replace hb3 := bind_some hb3
     obtain ⟨x3, hx3, hb3⟩ := hb3
     refine lw_op Z Z Z (ow_call Z Z Tryd.call58 (w_laws_sameSpans (hG.mono (hz1.trans hl14)) hC14.old d13 d18 hx3) fun v17 w15 hv17 => ?_)
     obtain ⟨hv17, hb4⟩ := hv17
     have hl15 := Le.no M1 hb4
     have hC15 := hC14.no hb4
     obtain rfl := vbool_eq hv17
     refine lw_op Z Z Z (ow_not Z Z (lw_nil (ew_then ?_)))
     replace hb3 := cond_some hb3
     rcases hb3 with ⟨hc3, hb3⟩ | ⟨hc3, hb3⟩
     ·
      subst hc3
      refine cw_false Z (cw_skip (ew_blockN (ew_then (cw_region (lw_op Z Z Z (ow_move Z Z (lw_op Z Z Z (ow_add Z Z Z (lw_op Z Z Z (ow_assign Z Z (lw_nil ?_)))))))))))
      have hz3 := ((hl3.trans hl14).trans hl15)
      exact ew_nxt (W (k1 + 1)) hb3 fun a ha => ⟨M1, (ha.sub ⟨Z, Z, Z, trivial⟩), hz3, hC15⟩
     ·
      subst hc3
      refine cw_true Z (cw_seq (cw_region (lw_op Z Z Z (ow_assign Z Z (lw_nil (ew_then (cw_ret (ew_blockR (ew_thenR (ew_thenR (ew_blockR (ew_brkR (ew_thenR ?_)))))))))))))
      have e5 := hR1 _ (Option.some.inj hb3).symm
      subst e5
      obtain rfl := Option.some.inj h
      exact ew_ret (res1 Z (.tmp Z)) ⟨_, Z, ((vbool _)), hC15.bx⟩
   ·
    obtain rfl := hbb2.trans hc2
    exact cw_false Z (cw_exit (ew_thenX (ew_thenX (ew_blockX (ew_brk k1 hb3 fun a ha => ⟨M1, (ha.sub ⟨Z, Z, Z, trivial⟩), hl3, hC3⟩)))))
  ·
   rintro k2 a w16 hlr2 ⟨M2, hF2, hl16, hC16⟩
   subst hlr2
   refine ew_at (E := [(2, (.pointer (some p1))), (3, (.pointer (some p2))), (5, (.int .i64 k2))]) hF2 (ew_then (cw_seq (cw_region (lw_op Z Z Z (ow_assign Z Z (lw_nil (ew_then (cw_ret ?_))))))))
   obtain rfl := Option.some.inj h
   exact ew_ret (res1 Z (.tmp Z)) ⟨_, Z, ((vbool _)), hC16.bx⟩

theorem w_impl_SpansHave {w : World} {M : Nat → Prop} (_hG : ARep (RArr 4 RShape) w M shapes ⟨0, 0, none⟩) (hO : ∀ b, M b → b < w.heap.size) {v0p : Value} {a_list : List Span} (h0 : VRep (RSlice RSpan) w M a_list v0p) {a_n : Int} {r : Bool} (h : F.impl_SpansHave a_list a_n = some r) :
  Calls Tryd.prog 40 [v0p, (.int .i64 a_n)].toArray w fun e w' => ∃ v, e = .returned v ∧ VRep RBool w' M r v ∧ BX No w w' := by
 have hC : Cx No w M w M := Cx.start hO (fun _ e => e.elim)
 clear _hG
 refine walk (N := 24) Tryd.func40 Z Tryd.ntmps40 Z (cw_seq (cw_region (lw_op Z Z Z (ow_assign Z Z (lw_nil (ew_then (cw_seq (cw_seq (cw_region (lw_op Z Z Z (ow_move Z Z (lw_op Z Z Z (ow_len Z Z h0 Tryd.underlying58 Z (lw_op Z Z Z (ow_move Z Z (lw_nil (ew_then ?_)))))))))))))))))
 replace h := bind_some h
 obtain ⟨lr1, hlr1, h⟩ := h
 refine cw_for hlr1 (fun s a w' => ∃ (M' : Nat → Prop), Fits 24 [(1, (.int .i64 a_n)), (7, v0p), (8, (.int .i64 (a_list.length : Int))), (9, (.int .i64 s))] a ∧ Le w M w' M' ∧ Cx No w M w' M') ?_ ?_ ?_
 ·
  intro a ha
  exact ⟨M, ha.sub ⟨Z, Z, Z, Z, trivial⟩, Le.refl _ _, hC⟩
 ·
  rintro k1 a w1 sr1 ⟨M1, hF1, hl1, hC1⟩ hb1 hR1
  refine cw_at (E := [(1, (.int .i64 a_n)), (7, v0p), (8, (.int .i64 (a_list.length : Int))), (9, (.int .i64 k1))]) hF1 (cw_seq (cw_region (lw_op Z Z Z (ow_lss Z Z Z fun bb1 hbb1 => lw_nil (ew_then (cw_seq ?_))))))
  replace hb1 := cond_some hb1
  rcases hb1 with ⟨hc1, hb1⟩ | ⟨hc1, hb1⟩
  ·
   obtain rfl := hbb1.trans hc1
   refine cw_true Z (cw_skip (ew_then (cw_seq (cw_block (cw_seq (cw_region ?_))))))
   replace hb1 := bind_some hb1
   obtain ⟨x1, hx1, hb1⟩ := hb1
   refine lw_op Z Z Z (ow_indexSlice (R := RSpan) Z Z Z (VRep.mono hl1 h0) Tryd.underlying58 (Tryd.sizeOf76 _) hx1 fun p1 hp1 => lw_op Z Z Z (ow_load (R := RSpan) Z Z hp1 (Tryd.sizeOf76 _) (Tryd.isAgg76 _) fun v2 hv2 => lw_allocStore (R := RSpan) Z Z Z Z Z Z Z Tryd.zeroValue76 Tryd.sizeOf76 Z Z Z (by simp) hv2 hC1 fun p2 w2 hp2 hb2 hl2 hC2 => lw_nil (ew_then (cw_seq (cw_region (lw_op Z Z Z (ow_fieldAddr Z Z Tryd.underlying76 Z (Tryd.sizeOf3 _) (lw_op Z Z Z (ow_load (R := RInt) Z Z (hp2.fld fld_Span_Lo) (Tryd.sizeOf3 _) (Tryd.isAgg3 _) fun v3 hv3 => ?_)))))))))
   obtain rfl := vint_eq hv3
   refine lw_op Z Z Z (ow_move Z Z (lw_op Z Z Z (ow_leq Z Z Z fun bb2 hbb2 => lw_op Z Z Z (ow_move Z Z ?_))))
   replace hb1 := cond_some hb1
   rcases hb1 with ⟨hc2, hb1⟩ | ⟨hc2, hb1⟩
   ·
    obtain rfl := hbb2.trans hc2
    refine lw_on Z Z Z Z Z Z (ow_move Z Z (lw_on Z Z Z Z Z Z (ow_fieldAddr Z Z Tryd.underlying76 Z (Tryd.sizeOf3 _) (lw_on Z Z Z Z Z Z (ow_load (R := RInt) Z Z (hp2.fld fld_Span_Hi) (Tryd.sizeOf3 _) (Tryd.isAgg3 _) fun v4 hv4 => ?_)))))
    obtain rfl := vint_eq hv4
    refine lw_on Z Z Z Z Z Z (ow_leq Z Z Z fun bb3 hbb3 => lw_op Z Z Z (ow_pickT Z Z Z (lw_nil (ew_then ?_))))
    replace hb1 := cond_some hb1
    rcases hb1 with ⟨hc3, hb1⟩ | ⟨hc3, hb1⟩
    ·
     obtain rfl := hbb3.trans hc3
     refine cw_true Z (cw_seq (cw_region (lw_op Z Z Z (ow_assign Z Z (lw_nil (ew_then (cw_ret (ew_blockR (ew_thenR (ew_thenR (ew_blockR (ew_brkR (ew_thenR ?_)))))))))))))
     have e1 := hR1 _ (Option.some.inj hb1).symm
     subst e1
     obtain rfl := Option.some.inj h
     exact ew_ret (res1 Z (.tmp Z)) ⟨_, Z, ((vbool _)), hC2.bx⟩
    ·
     obtain rfl := hbb3.trans hc3
     exact cw_false Z (cw_skip (ew_blockN (ew_then (cw_region (lw_op Z Z Z (ow_add Z Z Z (lw_op Z Z Z (ow_move Z Z (lw_nil (ew_nxt (W (k1 + 1)) hb1 fun a ha => ⟨M1, (ha.sub ⟨Z, Z, Z, Z, trivial⟩), (hl1.trans hl2), hC2⟩))))))))))
   ·
    obtain rfl := hbb2.trans hc2
    exact lw_off Z Z Z Z Z Z (lw_off Z Z Z Z Z Z (lw_off Z Z Z Z Z Z (lw_off Z Z Z Z Z Z (lw_op Z Z Z (ow_pickF Z Z Z (lw_nil (ew_then (cw_false Z (cw_skip (ew_blockN (ew_then (cw_region (lw_op Z Z Z (ow_add Z Z Z (lw_op Z Z Z (ow_move Z Z (lw_nil (ew_nxt (W (k1 + 1)) hb1 fun a ha => ⟨M1, (ha.sub ⟨Z, Z, Z, Z, trivial⟩), (hl1.trans hl2), hC2⟩))))))))))))))))))
  ·
   obtain rfl := hbb1.trans hc1
   exact cw_false Z (cw_exit (ew_thenX (ew_thenX (ew_blockX (ew_brk k1 hb1 fun a ha => ⟨M1, (ha.sub ⟨Z, Z, Z, Z, trivial⟩), hl1, hC1⟩)))))
 ·
  rintro k2 a w3 hlr2 ⟨M2, hF2, hl3, hC3⟩
  subst hlr2
  refine ew_at (E := [(1, (.int .i64 a_n)), (7, v0p), (8, (.int .i64 (a_list.length : Int))), (9, (.int .i64 k2))]) hF2 (ew_then (cw_seq (cw_region (lw_op Z Z Z (ow_assign Z Z (lw_nil (ew_then (cw_ret ?_))))))))
  obtain rfl := Option.some.inj h
  exact ew_ret (res1 Z (.tmp Z)) ⟨_, Z, ((vbool _)), hC3.bx⟩

theorem w_laws_alive {w : World} {M : Nat → Prop} (hG : ARep (RArr 4 RShape) w M shapes ⟨0, 0, none⟩) (hO : ∀ b, M b → b < w.heap.size)  {r : Bool} (h : F.laws_alive = some r) :
  Calls Tryd.prog 19 [].toArray w fun e w' => ∃ v, e = .returned v ∧ VRep RBool w' M r v ∧ BX No w w' := by
 have hC : Cx No w M w M := Cx.start hO (fun _ e => e.elim)
 refine walk (N := 4) Tryd.func19 Z Tryd.ntmps19 Z (cw_seq (cw_region (lw_op Z Z Z (ow_assign Z Z (lw_nil (ew_then (cw_seq (cw_region (lw_op Z Z Z (ow_build (v := .agg #[(.int .i64 2), (.int .i64 4)]) Z Z (by kernel_rfl) ?_))))))))))
 have hw1 : VRep RSpan w M ({ Lo := 2, Hi := 4 } : Span) (.agg #[(.int .i64 2), (.int .i64 4)]) := shut_Span
 refine lw_op Z Z Z (ow_buildSlice (R := RSpan) (xs := [({ Lo := 2, Hi := 4 } : Span)]) (cs := #[(.int .i64 2), (.int .i64 4)]) (e := 76) Z Z (by kernel_rfl) Z Z ⟨_, _, Z, hw1.cells, Z⟩ hC fun p1 w1 hw2 hb1 hl1 hC1 => ?_)
 replace h := bind_some h
 obtain ⟨x1, hx1, h⟩ := h
 refine lw_op Z Z Z (ow_call Z Z Tryd.call40 (w_impl_SpansHave (hG.mono hl1) hC1.old hw2 hx1) fun v1 w2 hv1 => ?_)
 obtain ⟨hv1, hb2⟩ := hv1
 have hC2 := hC1.no hb2
 obtain rfl := vbool_eq hv1
 refine lw_op Z Z Z (ow_assign Z Z (lw_nil (ew_then (cw_ret ?_))))
 obtain rfl := Option.some.inj h
 exact ew_ret (res1 Z (.tmp Z)) ⟨_, Z, ((vbool _)), hC2.bx⟩

theorem w_impl_topValid {w : World} {M : Nat → Prop} (_hG : ARep (RArr 4 RShape) w M shapes ⟨0, 0, none⟩) (hO : ∀ b, M b → b < w.heap.size) {a_top : Int} {r : Bool} (h : F.impl_topValid a_top = some r) :
  Calls Tryd.prog 101 [(.int .i64 a_top)].toArray w fun e w' => ∃ v, e = .returned v ∧ VRep RBool w' M r v ∧ BX No w w' := by
 have hC : Cx No w M w M := Cx.start hO (fun _ e => e.elim)
 clear _hG
 refine walk (N := 9) Tryd.func101 Z Tryd.ntmps101 Z (cw_seq (cw_region (lw_op Z Z Z (ow_assign Z Z (lw_nil (ew_then (cw_seq (cw_region (lw_op Z Z Z (ow_move Z Z (lw_op Z Z Z (ow_geq Z Z Z fun bb1 hbb1 => lw_op Z Z Z (ow_move Z Z ?_)))))))))))))
 replace h := cond_some h
 rcases h with ⟨hc1, h⟩ | ⟨hc1, h⟩
 ·
  obtain rfl := hbb1.trans hc1
  refine lw_on Z Z Z Z Z Z (ow_move Z Z (lw_on Z Z Z Z Z Z (ow_leq Z Z Z fun bb2 hbb2 => lw_op Z Z Z (ow_pickT Z Z Z (lw_op Z Z Z (ow_assign Z Z (lw_nil (ew_then (cw_ret ?_)))))))))
  obtain rfl := Option.some.inj h
  exact ew_ret (res1 Z (.tmp Z)) ⟨_, Z, ((vbool_of hbb2)), hC.bx⟩
 ·
  obtain rfl := hbb1.trans hc1
  refine lw_off Z Z Z Z Z Z (lw_off Z Z Z Z Z Z (lw_op Z Z Z (ow_pickF Z Z Z (lw_op Z Z Z (ow_assign Z Z (lw_nil (ew_then (cw_ret ?_))))))))
  obtain rfl := Option.some.inj h
  exact ew_ret (res1 Z (.tmp Z)) ⟨_, Z, ((vbool _)), hC.bx⟩

theorem w_impl_SpansValid {w : World} {M : Nat → Prop} (hG : ARep (RArr 4 RShape) w M shapes ⟨0, 0, none⟩) (hO : ∀ b, M b → b < w.heap.size) {v0p : Value} {a_list : List Span} (h0 : VRep (RSlice RSpan) w M a_list v0p) {a_top : Int} {r : Bool} (h : F.impl_SpansValid a_list a_top = some r) :
  Calls Tryd.prog 68 [v0p, (.int .i64 a_top)].toArray w fun e w' => ∃ v, e = .returned v ∧ VRep RBool w' M r v ∧ BX No w w' := by
 have hC : Cx No w M w M := Cx.start hO (fun _ e => e.elim)
 refine walk (N := 43) Tryd.func68 Z Tryd.ntmps68 Z (cw_seq (cw_region (lw_op Z Z Z (ow_assign Z Z (lw_nil (ew_then (cw_seq (cw_seq (cw_region (lw_op Z Z Z (ow_move Z Z ?_)))))))))))
 replace h := bind_some h
 obtain ⟨x1, hx1, h⟩ := h
 refine lw_op Z Z Z (ow_call Z Z Tryd.call101 (w_impl_topValid hG hC.old hx1) fun v1 w1 hv1 => ?_)
 obtain ⟨hv1, hb1⟩ := hv1
 have hl1 := Le.no M hb1
 have hC1 := hC.no hb1
 obtain rfl := vbool_eq hv1
 refine lw_op Z Z Z (ow_not Z Z (lw_op Z Z Z (ow_move Z Z ?_)))
 replace h := cond_some h
 rcases h with ⟨hc1, h⟩ | ⟨hc1, h⟩
 ·
  subst hc1
  refine lw_on Z Z Z Z Z Z (ow_move Z Z (lw_on Z Z Z Z Z Z (ow_len Z Z (VRep.mono hl1 h0) Tryd.underlying58 Z (lw_on Z Z Z Z Z Z (ow_gtr Z Z Z fun bb1 hbb1 => lw_op Z Z Z (ow_pickF Z Z Z (lw_nil (ew_then ?_))))))))
  replace h := cond_some h
  rcases h with ⟨hc2, h⟩ | ⟨hc2, h⟩
  ·
   obtain rfl := hbb1.trans hc2
   refine cw_true Z (cw_seq (cw_region (lw_op Z Z Z (ow_assign Z Z (lw_nil (ew_then (cw_ret (ew_thenR ?_))))))))
   obtain rfl := Option.some.inj h
   exact ew_ret (res1 Z (.tmp Z)) ⟨_, Z, ((vbool _)), hC1.bx⟩
  ·
   obtain rfl := hbb1.trans hc2
   refine cw_false Z (cw_skip (ew_then (cw_seq (cw_region (lw_op Z Z Z (ow_assign Z Z (lw_nil (ew_then (cw_seq (cw_seq (cw_region (lw_op Z Z Z (ow_move Z Z (lw_op Z Z Z (ow_len Z Z (VRep.mono hl1 h0) Tryd.underlying58 Z (lw_op Z Z Z (ow_move Z Z (lw_nil (ew_then ?_)))))))))))))))))))
   replace h := bind_some h
   obtain ⟨lr1, hlr1, h⟩ := h
   refine cw_for hlr1 (fun s a w' => ∃ (M' : Nat → Prop), Fits 43 [(1, (.int .i64 a_top)), (5, (.int .i64 s.1)), (16, v0p), (17, (.int .i64 (a_list.length : Int))), (18, (.int .i64 s.2))] a ∧ Le w1 M w' M' ∧ Cx No w M w' M') ?_ ?_ ?_
   ·
    intro a ha
    exact ⟨M, ha.sub ⟨Z, Z, Z, Z, Z, trivial⟩, Le.refl _ _, hC1⟩
   ·
    rintro ⟨k1, k2⟩ a w2 sr1 ⟨M1, hF1, hl2, hC2⟩ hb2 hR1
    refine cw_at (E := [(1, (.int .i64 a_top)), (5, (.int .i64 k1)), (16, v0p), (17, (.int .i64 (a_list.length : Int))), (18, (.int .i64 k2))]) hF1 (cw_seq (cw_region (lw_op Z Z Z (ow_lss Z Z Z fun bb2 hbb2 => lw_nil (ew_then (cw_seq ?_))))))
    replace hb2 := cond_some hb2
    rcases hb2 with ⟨hc3, hb2⟩ | ⟨hc3, hb2⟩
    ·
     obtain rfl := hbb2.trans hc3
     refine cw_true Z (cw_skip (ew_then (cw_seq (cw_block (cw_seq (cw_region ?_))))))
     replace hb2 := bind_some hb2
     obtain ⟨x2, hx2, hb2⟩ := hb2
     refine lw_op Z Z Z (ow_indexSlice (R := RSpan) Z Z Z (VRep.mono (hl1.trans hl2) h0) Tryd.underlying58 (Tryd.sizeOf76 _) hx2 fun p1 hp1 => lw_op Z Z Z (ow_load (R := RSpan) Z Z hp1 (Tryd.sizeOf76 _) (Tryd.isAgg76 _) fun v4 hv4 => lw_allocStore (R := RSpan) Z Z Z Z Z Z Z Tryd.zeroValue76 Tryd.sizeOf76 Z Z Z (by simp) hv4 hC2 fun p2 w3 hp2 hb3 hl3 hC3 => lw_nil (ew_then (cw_seq (cw_seq (cw_region (lw_op Z Z Z (ow_fieldAddr Z Z Tryd.underlying76 Z (Tryd.sizeOf3 _) (lw_op Z Z Z (ow_load (R := RInt) Z Z (hp2.fld fld_Span_Lo) (Tryd.sizeOf3 _) (Tryd.isAgg3 _) fun v5 hv5 => ?_))))))))))
     obtain rfl := vint_eq hv5
     refine lw_op Z Z Z (ow_move Z Z (lw_op Z Z Z (ow_add Z Z Z (lw_op Z Z Z (ow_leq Z Z Z fun bb3 hbb3 => lw_op Z Z Z (ow_move Z Z ?_))))))
     replace hb2 := cond_some hb2
     rcases hb2 with ⟨hc4, hb2⟩ | ⟨hc4, hb2⟩
     ·
      obtain rfl := hbb3.trans hc4
      refine lw_off Z Z Z Z Z Z (lw_off Z Z Z Z Z Z (lw_off Z Z Z Z Z Z (lw_off Z Z Z Z Z Z (lw_off Z Z Z Z Z Z (lw_op Z Z Z (ow_pickT Z Z Z (lw_op Z Z Z (ow_move Z Z (lw_off Z Z Z Z Z Z (lw_off Z Z Z Z Z Z (lw_off Z Z Z Z Z Z (lw_off Z Z Z Z Z Z (lw_op Z Z Z (ow_pickT Z Z Z (lw_nil (ew_then (cw_true Z (cw_seq (cw_region (lw_op Z Z Z (ow_assign Z Z (lw_nil (ew_then (cw_ret (ew_thenR (ew_blockR (ew_thenR (ew_thenR ?_))))))))))))))))))))))))))))
      refine ew_blockR (ew_brkR (ew_thenR ?_))
      have e1 := hR1 _ (Option.some.inj hb2).symm
      subst e1
      obtain rfl := Option.some.inj h
      exact ew_ret (res1 Z (.tmp Z)) ⟨_, Z, ((vbool _)), hC3.bx⟩
     ·
      obtain rfl := hbb3.trans hc4
      refine lw_on Z Z Z Z Z Z (ow_fieldAddr Z Z Tryd.underlying76 Z (Tryd.sizeOf3 _) (lw_on Z Z Z Z Z Z (ow_load (R := RInt) Z Z (hp2.fld fld_Span_Lo) (Tryd.sizeOf3 _) (Tryd.isAgg3 _) fun v6 hv6 => ?_)))
      obtain rfl := vint_eq hv6
      refine lw_on Z Z Z Z Z Z (ow_fieldAddr Z Z Tryd.underlying76 Z (Tryd.sizeOf3 _) (lw_on Z Z Z Z Z Z (ow_load (R := RInt) Z Z (hp2.fld fld_Span_Hi) (Tryd.sizeOf3 _) (Tryd.isAgg3 _) fun v7 hv7 => ?_)))
      obtain rfl := vint_eq hv7
      refine lw_on Z Z Z Z Z Z (ow_gtr Z Z Z fun bb4 hbb4 => lw_op Z Z Z (ow_pickF Z Z Z (lw_op Z Z Z (ow_move Z Z ?_))))
      replace hb2 := cond_some hb2
      rcases hb2 with ⟨hc5, hb2⟩ | ⟨hc5, hb2⟩
      ·
       obtain rfl := hbb4.trans hc5
       refine lw_off Z Z Z Z Z Z (lw_off Z Z Z Z Z Z (lw_off Z Z Z Z Z Z (lw_off Z Z Z Z Z Z (lw_op Z Z Z (ow_pickT Z Z Z (lw_nil (ew_then (cw_true Z (cw_seq (cw_region (lw_op Z Z Z (ow_assign Z Z (lw_nil (ew_then (cw_ret (ew_thenR (ew_blockR (ew_thenR (ew_thenR (ew_blockR (ew_brkR (ew_thenR ?_))))))))))))))))))))))
       have e2 := hR1 _ (Option.some.inj hb2).symm
       subst e2
       obtain rfl := Option.some.inj h
       exact ew_ret (res1 Z (.tmp Z)) ⟨_, Z, ((vbool _)), hC3.bx⟩
      ·
       obtain rfl := hbb4.trans hc5
       refine lw_on Z Z Z Z Z Z (ow_fieldAddr Z Z Tryd.underlying76 Z (Tryd.sizeOf3 _) (lw_on Z Z Z Z Z Z (ow_load (R := RInt) Z Z (hp2.fld fld_Span_Hi) (Tryd.sizeOf3 _) (Tryd.isAgg3 _) fun v8 hv8 => ?_)))
       obtain rfl := vint_eq hv8
       refine lw_on Z Z Z Z Z Z (ow_move Z Z (lw_on Z Z Z Z Z Z (ow_gtr Z Z Z fun bb5 hbb5 => lw_op Z Z Z (ow_pickF Z Z Z (lw_nil (ew_then ?_))))))
       replace hb2 := cond_some hb2
       rcases hb2 with ⟨hc6, hb2⟩ | ⟨hc6, hb2⟩
       ·
        obtain rfl := hbb5.trans hc6
        refine cw_true Z (cw_seq (cw_region (lw_op Z Z Z (ow_assign Z Z (lw_nil (ew_then (cw_ret (ew_thenR (ew_blockR (ew_thenR (ew_thenR (ew_blockR (ew_brkR (ew_thenR ?_))))))))))))))
        have e3 := hR1 _ (Option.some.inj hb2).symm
        subst e3
        obtain rfl := Option.some.inj h
        exact ew_ret (res1 Z (.tmp Z)) ⟨_, Z, ((vbool _)), hC3.bx⟩
       ·
        obtain rfl := hbb5.trans hc6
        refine cw_false Z (cw_skip (ew_then (cw_region (lw_op Z Z Z (ow_fieldAddr Z Z Tryd.underlying76 Z (Tryd.sizeOf3 _) (lw_op Z Z Z (ow_load (R := RInt) Z Z (hp2.fld fld_Span_Hi) (Tryd.sizeOf3 _) (Tryd.isAgg3 _) fun v9 hv9 => ?_)))))))
        obtain rfl := vint_eq hv9
        exact lw_op Z Z Z (ow_assign Z Z (lw_nil (ew_blockN (ew_then (cw_region (lw_op Z Z Z (ow_add Z Z Z (lw_op Z Z Z (ow_move Z Z (lw_nil (ew_nxt (x2.Hi, (W (k2 + 1))) hb2 fun a ha => ⟨M1, (ha.sub ⟨Z, Z, Z, Z, Z, trivial⟩), (hl2.trans hl3), hC3⟩)))))))))))
    ·
     obtain rfl := hbb2.trans hc3
     exact cw_false Z (cw_exit (ew_thenX (ew_thenX (ew_blockX (ew_brk (k1, k2) hb2 fun a ha => ⟨M1, (ha.sub ⟨Z, Z, Z, Z, Z, trivial⟩), hl2, hC2⟩)))))
   ·
    rintro ⟨k3, k4⟩ a w4 hlr2 ⟨M2, hF2, hl4, hC4⟩
    subst hlr2
    refine ew_at (E := [(1, (.int .i64 a_top)), (5, (.int .i64 k3)), (16, v0p), (17, (.int .i64 (a_list.length : Int))), (18, (.int .i64 k4))]) hF2 (ew_then (cw_seq (cw_region (lw_op Z Z Z (ow_assign Z Z (lw_nil (ew_then (cw_ret ?_))))))))
    obtain rfl := Option.some.inj h
    exact ew_ret (res1 Z (.tmp Z)) ⟨_, Z, ((vbool _)), hC4.bx⟩
 ·
  subst hc1
  refine lw_off Z Z Z Z Z Z (lw_off Z Z Z Z Z Z (lw_off Z Z Z Z Z Z (lw_op Z Z Z (ow_pickT Z Z Z (lw_nil (ew_then (cw_true Z (cw_seq (cw_region (lw_op Z Z Z (ow_assign Z Z (lw_nil (ew_then (cw_ret (ew_thenR ?_)))))))))))))))
  obtain rfl := Option.some.inj h
  exact ew_ret (res1 Z (.tmp Z)) ⟨_, Z, ((vbool _)), hC1.bx⟩

theorem w_impl_FieldTop {w : World} {M : Nat → Prop} (hG : ARep (RArr 4 RShape) w M shapes ⟨0, 0, none⟩) (hO : ∀ b, M b → b < w.heap.size) {a_n : Int} {r : Int} (h : F.impl_FieldTop a_n = some r) :
  Calls Tryd.prog 69 [(.int .i64 a_n)].toArray w fun e w' => ∃ v, e = .returned v ∧ VRep RInt w' M r v ∧ BX No w w' := by
 have hC : Cx No w M w M := Cx.start hO (fun _ e => e.elim)
 refine walk (N := 13) Tryd.func69 Z Tryd.ntmps69 Z (cw_seq (cw_region (lw_op Z Z Z (ow_assign Z Z (lw_nil (ew_then (cw_seq (cw_seq (cw_region (lw_op Z Z Z (ow_move Z Z (lw_op Z Z Z (ow_lss Z Z Z fun bb1 hbb1 => lw_op Z Z Z (ow_move Z Z ?_))))))))))))))
 replace h := cond_some h
 rcases h with ⟨hc1, h⟩ | ⟨hc1, h⟩
 ·
  obtain rfl := hbb1.trans hc1
  refine lw_off Z Z Z Z Z Z (lw_off Z Z Z Z Z Z (lw_op Z Z Z (ow_pickT Z Z Z (lw_nil (ew_then (cw_true Z (cw_seq (cw_region (lw_op Z Z Z (ow_assign Z Z (lw_nil (ew_then (cw_ret (ew_thenR ?_))))))))))))))
  obtain rfl := Option.some.inj h
  exact ew_ret (res1 Z (.tmp Z)) ⟨_, Z, ((vint _)), hC.bx⟩
 ·
  obtain rfl := hbb1.trans hc1
  refine lw_on Z Z Z Z Z Z (ow_move Z Z (lw_on Z Z Z Z Z Z (ow_geq Z Z Z fun bb2 hbb2 => lw_op Z Z Z (ow_pickF Z Z Z (lw_nil (ew_then ?_))))))
  replace h := cond_some h
  rcases h with ⟨hc2, h⟩ | ⟨hc2, h⟩
  ·
   obtain rfl := hbb2.trans hc2
   refine cw_true Z (cw_seq (cw_region (lw_op Z Z Z (ow_assign Z Z (lw_nil (ew_then (cw_ret (ew_thenR ?_))))))))
   obtain rfl := Option.some.inj h
   exact ew_ret (res1 Z (.tmp Z)) ⟨_, Z, ((vint _)), hC.bx⟩
  ·
   obtain rfl := hbb2.trans hc2
   refine cw_false Z (cw_skip (ew_then (cw_seq (cw_region (lw_op Z Z Z (ow_move Z Z ?_))))))
   replace h := bind_some h
   obtain ⟨x1, hx1, h⟩ := h
   refine lw_op Z Z Z (ow_indexArr (R := RShape) Z Z Z hG Tryd.underlying109 (Tryd.sizeOf108 _) hx1 fun p1 hp1 => lw_op Z Z Z (ow_fieldAddr Z Z Tryd.underlying108 Z (Tryd.sizeOf3 _) (lw_op Z Z Z (ow_load (R := RInt) Z Z (hp1.fld fld_Shape_top) (Tryd.sizeOf3 _) (Tryd.isAgg3 _) fun v1 hv1 => ?_))))
   obtain rfl := vint_eq hv1
   refine lw_op Z Z Z (ow_assign Z Z (lw_nil (ew_then (cw_ret ?_))))
   obtain rfl := Option.some.inj h
   exact ew_ret (res1 Z (.tmp Z)) ⟨_, Z, ((vint _)), hC.bx⟩

theorem w_impl_BoxValid {w : World} {M : Nat → Prop} (hG : ARep (RArr 4 RShape) w M shapes ⟨0, 0, none⟩) (hO : ∀ b, M b → b < w.heap.size) {v0p : Value} {a_b : Box} (h0 : VRep RBox w M a_b v0p) {r : Bool} (h : F.impl_BoxValid a_b = some r) :
  Calls Tryd.prog 30 [v0p].toArray w fun e w' => ∃ v, e = .returned v ∧ VRep RBool w' M r v ∧ BX No w w' := by
 have hC : Cx No w M w M := Cx.start hO (fun _ e => e.elim)
 refine walk (N := 23) Tryd.func30 Z Tryd.ntmps30 Z (cw_seq (cw_region (lw_op Z Z Z (ow_box (R := RBox) Z Z h0 hC fun p1 w1 hp1 hb1 hl1 hC1 => lw_op Z Z Z (ow_assign Z Z (lw_nil (ew_then (cw_seq (cw_seq (cw_region (lw_op Z Z Z (ow_fieldAddr Z Z Tryd.underlying27 Z (Tryd.sizeOf25 _) (lw_op Z Z Z (ow_load (R := (RSlice (RSlice RSpan))) Z Z (hp1.fld fld_Box_Sides) (Tryd.sizeOf25 _) (Tryd.isAgg25 _) fun v1 hv1 => lw_op Z Z Z (ow_len Z Z hv1 Tryd.underlying25 Z (lw_op Z Z Z (ow_neqI Z Z Z fun bb1 hbb1 => lw_nil (ew_then ?_))))))))))))))))))
 replace h := cond_some h
 rcases h with ⟨hc1, h⟩ | ⟨hc1, h⟩
 ·
  obtain rfl := hbb1.trans hc1
  refine cw_true Z (cw_seq (cw_region (lw_op Z Z Z (ow_assign Z Z (lw_nil (ew_then (cw_ret (ew_thenR ?_))))))))
  obtain rfl := Option.some.inj h
  exact ew_ret (res1 Z (.tmp Z)) ⟨_, Z, ((vbool _)), hC1.bx⟩
 ·
  obtain rfl := hbb1.trans hc1
  refine cw_false Z (cw_skip (ew_then (cw_seq (cw_seq (cw_region (lw_op Z Z Z (ow_fieldAddr Z Z Tryd.underlying27 Z (Tryd.sizeOf25 _) (lw_op Z Z Z (ow_load (R := (RSlice (RSlice RSpan))) Z Z (hp1.fld fld_Box_Sides) (Tryd.sizeOf25 _) (Tryd.isAgg25 _) fun v2 hv2 => lw_op Z Z Z (ow_len Z Z hv2 Tryd.underlying25 Z (lw_op Z Z Z (ow_move Z Z (lw_nil (ew_then ?_))))))))))))))
  replace h := bind_some h
  obtain ⟨lr1, hlr1, h⟩ := h
  refine cw_for hlr1 (fun s a w' => ∃ (M' : Nat → Prop), Fits 23 [(10, v2), (11, (.int .i64 (a_b.Sides.length : Int))), (12, (.int .i64 s))] a ∧ Le w1 M w' M' ∧ Cx No w M w' M') ?_ ?_ ?_
  ·
   intro a ha
   exact ⟨M, ha.sub ⟨Z, Z, Z, trivial⟩, Le.refl _ _, hC1⟩
  ·
   rintro k1 a w2 sr1 ⟨M1, hF1, hl2, hC2⟩ hb2 hR1
   refine cw_at (E := [(10, v2), (11, (.int .i64 (a_b.Sides.length : Int))), (12, (.int .i64 k1))]) hF1 (cw_seq (cw_region (lw_op Z Z Z (ow_lss Z Z Z fun bb2 hbb2 => lw_nil (ew_then (cw_seq ?_))))))
   replace hb2 := cond_some hb2
   rcases hb2 with ⟨hc2, hb2⟩ | ⟨hc2, hb2⟩
   ·
    obtain rfl := hbb2.trans hc2
    refine cw_true Z (cw_skip (ew_then (cw_seq (cw_block (cw_seq (cw_region (lw_op Z Z Z (ow_move Z Z ?_))))))))
    replace hb2 := bind_some hb2
    obtain ⟨x1, hx1, hb2⟩ := hb2
    refine lw_op Z Z Z (ow_indexSlice (R := (RSlice RSpan)) Z Z Z (VRep.mono hl2 hv2) Tryd.underlying25 (Tryd.sizeOf58 _) hx1 fun p2 hp2 => lw_op Z Z Z (ow_load (R := (RSlice RSpan)) Z Z hp2 (Tryd.sizeOf58 _) (Tryd.isAgg58 _) fun v4 hv4 => lw_op Z Z Z (ow_assign Z Z (lw_op Z Z Z (ow_assign Z Z (lw_nil (ew_then (cw_seq (cw_region (lw_op Z Z Z (ow_move Z Z (lw_op Z Z Z (ow_move Z Z ?_)))))))))))))
    replace hb2 := bind_some hb2
    obtain ⟨x2, hx2, hb2⟩ := hb2
    refine lw_op Z Z Z (ow_call Z Z Tryd.call69 (w_impl_FieldTop (hG.mono (hl1.trans hl2)) hC2.old hx2) fun v5 w3 hv5 => ?_)
    obtain ⟨hv5, hb3⟩ := hv5
    have hl3 := Le.no M1 hb3
    have hC3 := hC2.no hb3
    obtain rfl := vint_eq hv5
    replace hb2 := bind_some hb2
    obtain ⟨x3, hx3, hb2⟩ := hb2
    have hz1 := ((hl1.trans hl2).trans hl3)
    refine lw_op Z Z Z (ow_call Z Z Tryd.call68 (w_impl_SpansValid (hG.mono hz1) hC3.old (VRep.mono hl3 hv4) hx3) fun v6 w4 hv6 => ?_)
    obtain ⟨hv6, hb4⟩ := hv6
    have hl4 := Le.no M1 hb4
    have hC4 := hC3.no hb4
    obtain rfl := vbool_eq hv6
    refine lw_op Z Z Z (ow_not Z Z (lw_nil (ew_then ?_)))
    replace hb2 := cond_some hb2
    rcases hb2 with ⟨hc3, hb2⟩ | ⟨hc3, hb2⟩
    ·
     subst hc3
     refine cw_false Z (cw_skip (ew_blockN (ew_then (cw_region (lw_op Z Z Z (ow_add Z Z Z (lw_op Z Z Z (ow_move Z Z (lw_nil ?_)))))))))
     have hz2 := ((hl2.trans hl3).trans hl4)
     exact ew_nxt (W (k1 + 1)) hb2 fun a ha => ⟨M1, (ha.sub ⟨Z, Z, Z, trivial⟩), hz2, hC4⟩
    ·
     subst hc3
     refine cw_true Z (cw_seq (cw_region (lw_op Z Z Z (ow_assign Z Z (lw_nil (ew_then (cw_ret (ew_blockR (ew_thenR (ew_thenR (ew_blockR (ew_brkR (ew_thenR ?_)))))))))))))
     have e1 := hR1 _ (Option.some.inj hb2).symm
     subst e1
     obtain rfl := Option.some.inj h
     exact ew_ret (res1 Z (.tmp Z)) ⟨_, Z, ((vbool _)), hC4.bx⟩
   ·
    obtain rfl := hbb2.trans hc2
    exact cw_false Z (cw_exit (ew_thenX (ew_thenX (ew_blockX (ew_brk k1 hb2 fun a ha => ⟨M1, (ha.sub ⟨Z, Z, Z, trivial⟩), hl2, hC2⟩)))))
  ·
   rintro k2 a w5 hlr2 ⟨M2, hF2, hl5, hC5⟩
   subst hlr2
   refine ew_at (E := [(10, v2), (11, (.int .i64 (a_b.Sides.length : Int))), (12, (.int .i64 k2))]) hF2 (ew_then (cw_seq (cw_region (lw_op Z Z Z (ow_assign Z Z (lw_nil (ew_then (cw_ret ?_))))))))
   obtain rfl := Option.some.inj h
   exact ew_ret (res1 Z (.tmp Z)) ⟨_, Z, ((vbool _)), hC5.bx⟩

theorem w_impl_sidesOf {w : World} {M : Nat → Prop} (_hG : ARep (RArr 4 RShape) w M shapes ⟨0, 0, none⟩) (hO : ∀ b, M b → b < w.heap.size) {v0p : Value} {a_b : Box} (h0 : VRep RBox w M a_b v0p) {r : (List (List Span))} (h : F.impl_sidesOf a_b = some r) :
  Calls Tryd.prog 65 [v0p].toArray w fun e w' => ∃ v, e = .returned v ∧ VRep (RArr 4 (RSlice RSpan)) w' M r v ∧ BX No w w' := by
 have hC : Cx No w M w M := Cx.start hO (fun _ e => e.elim)
 clear _hG
 refine walk (N := 7) Tryd.func65 Z Tryd.ntmps65 Z (cw_seq (cw_region (lw_op Z Z Z (ow_box (R := RBox) Z Z h0 hC fun p1 w1 hp1 hb1 hl1 hC1 => lw_op Z Z Z (ow_alloc Z (Tryd.zeroValue69 _) hC1 fun g1 w2 hg1 hg2 ho1 hb2 hl2 hC2 => ?_)))))
 have hm1 : (Add g1 M) g1 := .inl Z
 have ho2 : OwnA (RArr 4 (RSlice RSpan)) w2 (Add g1 M) g1 69 [([] : List Span), ([] : List Span), ([] : List Span), ([] : List Span)] := OwnA.of ho1 ⟨Z, ⟨_, _, Z, (vslice_nil (R := RSpan) (w := w2) (M := (Add g1 M))).cells, _, _, Z, (vslice_nil (R := RSpan) (w := w2) (M := (Add g1 M))).cells, _, _, Z, (vslice_nil (R := RSpan) (w := w2) (M := (Add g1 M))).cells, _, _, Z, (vslice_nil (R := RSpan) (w := w2) (M := (Add g1 M))).cells, Z⟩⟩
 refine lw_nil (ew_then (cw_seq (cw_region (lw_op Z Z Z (ow_fieldAddr Z Z Tryd.underlying27 Z (Tryd.sizeOf25 _) (lw_op Z Z Z (ow_load (R := (RSlice (RSlice RSpan))) Z Z (ARep.mono hl2 (hp1.fld fld_Box_Sides)) (Tryd.sizeOf25 _) (Tryd.isAgg25 _) fun v1 hv1 => ?_)))))))
 replace h := bind_some h
 obtain ⟨y1, hy1, h⟩ := h
 refine lw_op Z Z Z (ow_s2ap Z Z hv1 Tryd.underlying69 (arrF_some hy1).2 (by decide) fun p2 hp2 => ?_)
 rw [← (arrF_some hy1).1] at hp2
 refine lw_op Z Z Z (ow_load (R := (RArr 4 (RSlice RSpan))) Z Z hp2 (Tryd.sizeOf69 _) (Tryd.isAgg69 _) fun v2 hv2 => ?_)
 obtain ⟨cs1, h1, h2⟩ := ho2.own
 refine lw_op0 Z Z (ow_storeA (X := No) (R := (RArr 4 (RSlice RSpan))) Z Z Z Z h1 h2 (Tryd.sizeOf69 _) hv2 hm1 (.inl hg2) hC2 fun w3 ho3 hb3 hl3 hC3 => lw_nil (ew_then (cw_ret ?_)))
 obtain rfl := Option.some.inj h
 obtain ⟨v3, hq1, hw1⟩ := resA ho3 (Tryd.sizeOf69 _) (Tryd.isAgg69 _) rfl
 exact ew_ret (res1 Z (.cell Z hq1)) ⟨_, Z, (hw1.mono hC3.back), hC3.bx⟩

theorem w_impl_inFirstOnly {w : World} {M : Nat → Prop} (_hG : ARep (RArr 4 RShape) w M shapes ⟨0, 0, none⟩) (hO : ∀ b, M b → b < w.heap.size) {b0 a_inA : Bool} (h0 : b0 = a_inA) {b1 a_inB : Bool} (h1 : b1 = a_inB) {r : Bool} (h : F.impl_inFirstOnly a_inA a_inB = some r) :
  Calls Tryd.prog 100 [(.bool b0), (.bool b1)].toArray w fun e w' => ∃ v, e = .returned v ∧ VRep RBool w' M r v ∧ BX No w w' := by
 have hC : Cx No w M w M := Cx.start hO (fun _ e => e.elim)
 clear _hG
 refine walk (N := 10) Tryd.func100 Z Tryd.ntmps100 Z (cw_seq (cw_region (lw_op Z Z Z (ow_assign Z Z (lw_nil (ew_then (cw_seq (cw_region (lw_op Z Z Z (ow_move Z Z (lw_op Z Z Z (ow_move Z Z ?_))))))))))))
 replace h := cond_some h
 rcases h with ⟨hc1, h⟩ | ⟨hc1, h⟩
 ·
  obtain rfl := h0.trans hc1
  refine lw_on Z Z Z Z Z Z (ow_move Z Z (lw_on Z Z Z Z Z Z (ow_not Z Z (lw_op Z Z Z (ow_pickT Z Z Z (lw_op Z Z Z (ow_assign Z Z (lw_nil (ew_then (cw_ret ?_))))))))))
  obtain rfl := Option.some.inj h
  exact ew_ret (res1 Z (.tmp Z)) ⟨_, Z, ((vbool_of (congrArg (! ·) h1))), hC.bx⟩
 ·
  obtain rfl := h0.trans hc1
  refine lw_off Z Z Z Z Z Z (lw_off Z Z Z Z Z Z (lw_op Z Z Z (ow_pickF Z Z Z (lw_op Z Z Z (ow_assign Z Z (lw_nil (ew_then (cw_ret ?_))))))))
  obtain rfl := Option.some.inj h
  exact ew_ret (res1 Z (.tmp Z)) ⟨_, Z, ((vbool _)), hC.bx⟩

theorem w_impl_sides_empty {w : World} {M : Nat → Prop} (_hG : ARep (RArr 4 RShape) w M shapes ⟨0, 0, none⟩) (hO : ∀ b, M b → b < w.heap.size) {v0p : Value} {a_s : List (List Span)} (h0 : VRep (RArr 4 (RSlice RSpan)) w M a_s v0p) {r : Bool} (h : F.impl_sides_empty a_s = some r) :
  Calls Tryd.prog 90 [v0p].toArray w fun e w' => ∃ v, e = .returned v ∧ VRep RBool w' M r v ∧ BX No w w' := by
 have hC : Cx No w M w M := Cx.start hO (fun _ e => e.elim)
 clear _hG
 refine walk (N := 13) Tryd.func90 Z Tryd.ntmps90 Z (cw_seq (cw_region (lw_op Z Z Z (ow_box (R := (RArr 4 (RSlice RSpan))) Z Z h0 hC fun p1 w1 hp1 hb1 hl1 hC1 => lw_op Z Z Z (ow_assign Z Z (lw_nil (ew_then (cw_seq (cw_seq (cw_region (lw_op Z Z Z (ow_load (R := (RArr 4 (RSlice RSpan))) Z Z hp1 (Tryd.sizeOf69 _) (Tryd.isAgg69 _) fun v1 hv1 => lw_op Z Z Z (ow_move Z Z (lw_nil (ew_then ?_)))))))))))))))
 replace h := bind_some h
 obtain ⟨lr1, hlr1, h⟩ := h
 refine cw_for hlr1 (fun s a w' => ∃ (M' : Nat → Prop), Fits 13 [(5, v1), (6, (.int .i64 s))] a ∧ Le w1 M w' M' ∧ Cx No w M w' M') ?_ ?_ ?_
 ·
  intro a ha
  exact ⟨M, ha.sub ⟨Z, Z, trivial⟩, Le.refl _ _, hC1⟩
 ·
  rintro k1 a w2 sr1 ⟨M1, hF1, hl2, hC2⟩ hb2 hR1
  refine cw_at (E := [(5, v1), (6, (.int .i64 k1))]) hF1 (cw_seq (cw_region (lw_op Z Z Z (ow_lss Z Z Z fun bb1 hbb1 => lw_nil (ew_then (cw_seq ?_))))))
  replace hb2 := cond_some hb2
  rcases hb2 with ⟨hc1, hb2⟩ | ⟨hc1, hb2⟩
  ·
   obtain rfl := hbb1.trans hc1
   refine cw_true Z (cw_skip (ew_then (cw_seq (cw_block (cw_seq (cw_region ?_))))))
   replace hb2 := bind_some hb2
   obtain ⟨x1, hx1, hb2⟩ := hb2
   refine lw_op Z Z Z (ow_index (R := (RSlice RSpan)) Z Z Z (VRep.mono hl2 hv1) Tryd.underlying69 (Tryd.sizeOf58 _) (Tryd.isAgg58 _) hx1 fun v3 hv3 => lw_op Z Z Z (ow_assign Z Z (lw_nil (ew_then (cw_seq (cw_region (lw_op Z Z Z (ow_move Z Z (lw_op Z Z Z (ow_len Z Z hv3 Tryd.underlying58 Z (lw_op Z Z Z (ow_eqlI Z Z Z fun bb2 hbb2 => lw_nil (ew_then ?_)))))))))))))
   replace hb2 := cond_some hb2
   rcases hb2 with ⟨hc2, hb2⟩ | ⟨hc2, hb2⟩
   ·
    obtain rfl := hbb2.trans hc2
    refine cw_true Z (cw_seq (cw_region (lw_op Z Z Z (ow_assign Z Z (lw_nil (ew_then (cw_ret (ew_blockR (ew_thenR (ew_thenR (ew_blockR (ew_brkR (ew_thenR ?_)))))))))))))
    have e1 := hR1 _ (Option.some.inj hb2).symm
    subst e1
    obtain rfl := Option.some.inj h
    exact ew_ret (res1 Z (.tmp Z)) ⟨_, Z, ((vbool _)), hC2.bx⟩
   ·
    obtain rfl := hbb2.trans hc2
    exact cw_false Z (cw_skip (ew_blockN (ew_then (cw_region (lw_op Z Z Z (ow_add Z Z Z (lw_op Z Z Z (ow_move Z Z (lw_nil (ew_nxt (W (k1 + 1)) hb2 fun a ha => ⟨M1, (ha.sub ⟨Z, Z, trivial⟩), hl2, hC2⟩))))))))))
  ·
   obtain rfl := hbb1.trans hc1
   exact cw_false Z (cw_exit (ew_thenX (ew_thenX (ew_blockX (ew_brk k1 hb2 fun a ha => ⟨M1, (ha.sub ⟨Z, Z, trivial⟩), hl2, hC2⟩)))))
 ·
  rintro k2 a w3 hlr2 ⟨M2, hF2, hl3, hC3⟩
  subst hlr2
  refine ew_at (E := [(5, v1), (6, (.int .i64 k2))]) hF2 (ew_then (cw_seq (cw_region (lw_op Z Z Z (ow_assign Z Z (lw_nil (ew_then (cw_ret ?_))))))))
  obtain rfl := Option.some.inj h
  exact ew_ret (res1 Z (.tmp Z)) ⟨_, Z, ((vbool _)), hC3.bx⟩

theorem w_impl_stretch {w : World} {M : Nat → Prop} (_hG : ARep (RArr 4 RShape) w M shapes ⟨0, 0, none⟩) (hO : ∀ b, M b → b < w.heap.size) {v0p : Value} {a_rest : List Span} (h0 : VRep (RSlice RSpan) w M a_rest v0p) {a_at : Int} {a_top : Int} {r : Bool × Int} (h : F.impl_stretch a_rest a_at a_top = some r) :
  Calls Tryd.prog 114 [v0p, (.int .i64 a_at), (.int .i64 a_top)].toArray w fun e w' => ∃ v, e = .returned v ∧ (∃ u0 u1, v = .tuple #[u0, u1] ∧ VRep RBool w' M r.1 u0 ∧ VRep RInt w' M r.2 u1) ∧ BX No w w' := by
 have hC : Cx No w M w M := Cx.start hO (fun _ e => e.elim)
 clear _hG
 refine walk (N := 27) Tryd.func114 Z Tryd.ntmps114 Z (cw_seq (cw_region (lw_op Z Z Z (ow_assign Z Z (lw_op Z Z Z (ow_assign Z Z (lw_nil (ew_then (cw_seq (cw_seq (cw_region (lw_op Z Z Z (ow_move Z Z (lw_op Z Z Z (ow_len Z Z h0 Tryd.underlying58 Z (lw_op Z Z Z (ow_eqlI Z Z Z fun bb1 hbb1 => lw_nil (ew_then ?_))))))))))))))))))
 replace h := cond_some h
 rcases h with ⟨hc1, h⟩ | ⟨hc1, h⟩
 ·
  obtain rfl := hbb1.trans hc1
  refine cw_true Z (cw_seq (cw_region (lw_op Z Z Z (ow_move Z Z (lw_op Z Z Z (ow_assign Z Z (lw_op Z Z Z (ow_assign Z Z (lw_nil (ew_then (cw_ret (ew_thenR ?_))))))))))))
  obtain rfl := Option.some.inj h
  exact ew_ret (res2 Z (.tmp Z) (.tmp Z)) ⟨_, Z, ⟨_, _, Z, ((vbool _)), ((vint _))⟩, hC.bx⟩
 ·
  obtain rfl := hbb1.trans hc1
  refine cw_false Z (cw_skip (ew_then (cw_seq (cw_seq (cw_region (lw_op Z Z Z (ow_move Z Z (lw_op Z Z Z (ow_move Z Z ?_)))))))))
  replace h := bind_some h
  obtain ⟨x1, hx1, h⟩ := h
  refine lw_op Z Z Z (ow_indexSlice (R := RSpan) Z Z Z h0 Tryd.underlying58 (Tryd.sizeOf76 _) hx1 fun p1 hp1 => lw_op Z Z Z (ow_fieldAddr Z Z Tryd.underlying76 Z (Tryd.sizeOf3 _) (lw_op Z Z Z (ow_load (R := RInt) Z Z (hp1.fld fld_Span_Lo) (Tryd.sizeOf3 _) (Tryd.isAgg3 _) fun v1 hv1 => ?_))))
  obtain rfl := vint_eq hv1
  refine lw_op Z Z Z (ow_lss Z Z Z fun bb2 hbb2 => lw_nil (ew_then ?_))
  replace h := cond_some h
  rcases h with ⟨hc2, h⟩ | ⟨hc2, h⟩
  ·
   obtain rfl := hbb2.trans hc2
   refine cw_true Z (cw_seq (cw_sub (E' := [(0, v0p), (7, (.int .i64 0))]) ⟨Z, Z, trivial⟩ (cw_drawQ 6 [PV (RSlice RSpan) M a_rest, PA RSpan M x1, PA RInt M x1.Lo, PEq (.int .i64 x1.Lo), PEq (.int .i64 (W (x1.Lo - 1))), PEq (.bool false)] (by kernel_rfl) Z (by kernel_rfl) ⟨PV.mono _ _ _, PA.mono _ _ _, PA.mono _ _ _, PEq.mono _, PEq.mono _, PEq.mono _, trivial⟩ ⟨?_, ?_, ?_, ?_, ?_, ?_, trivial⟩ ?_)))
   ·
    intro w1 D hS1 hd1
    have hl1 := Le.no M hS1
    exact dg_sub (E' := [(0, v0p)]) ⟨Z, trivial⟩ (dg_plain Z (ow_move Z Z ⟨BX.refl _ _, (VRep.mono hl1 h0)⟩))
   ·
    intro w2 D hS2 hd2
    have d1 : PV (RSlice RSpan) M a_rest (D 0) w2 := dpA hd2 0 Z
    generalize hq1 : (D 0) = v3 at d1
    exact dg_sub (E' := [(18, v3)]) ⟨(congrArg some hq1), trivial⟩ (dg_plain Z (ow_indexSlice (R := RSpan) Z Z Z d1 Tryd.underlying58 (Tryd.sizeOf76 _) hx1 fun p3 hp3 => ⟨BX.refl _ _, ⟨_, Z, hp3⟩⟩))
   ·
    intro w3 D hS3 hd3
    have d2 : PA RSpan M x1 (D 1) w3 := dpA hd3 1 Z
    obtain ⟨p4, e1, ha1⟩ := d2
    exact dg_sub (E' := [(19, (.pointer (some p4)))]) ⟨(congrArg some e1), trivial⟩ (dg_plain Z (ow_fieldAddr Z Z Tryd.underlying76 Z (Tryd.sizeOf3 _) ⟨BX.refl _ _, ⟨_, Z, (ha1.fld fld_Span_Lo)⟩⟩))
   ·
    intro w4 D hS4 hd4
    have d3 : PA RInt M x1.Lo (D 2) w4 := dpA hd4 2 Z
    obtain ⟨p5, e2, ha2⟩ := d3
    refine dg_sub (E' := [(20, (.pointer (some p5)))]) ⟨(congrArg some e2), trivial⟩ (dg_plain Z (ow_load (R := RInt) Z Z ha2 (Tryd.sizeOf3 _) (Tryd.isAgg3 _) fun v4 hv4 => ?_))
    obtain rfl := vint_eq hv4
    exact ⟨BX.refl _ _, Z⟩
   ·
    intro w5 D hS5 hd5
    exact dg_sub (E' := [(21, (.int .i64 x1.Lo))]) ⟨(dpE hd5 3 Z Z), trivial⟩ (dg_plain Z (ow_sub Z Z Z ⟨BX.refl _ _, Z⟩))
   ·
    intro w6 D hS6 hd6
    exact dg_sub (E' := []) trivial (dg_plain Z (ow_assign Z Z ⟨BX.refl _ _, Z⟩))
   ·
    intro w7 D hS7 hd7
    have hC7 := hC.no hS7
    refine lw_sub (E' := [(22, (.int .i64 (W (x1.Lo - 1)))), (6, (.bool false)), (0, v0p), (7, (.int .i64 0))]) ⟨(dpE hd7 4 Z Z), (dpE hd7 5 Z Z), Z, Z, trivial⟩ (lw_op Z Z Z (ow_assign Z Z (lw_nil (ew_then (cw_ret (ew_thenR ?_))))))
    obtain rfl := Option.some.inj h
    exact ew_ret (res2 Z (.tmp Z) (.tmp Z)) ⟨_, Z, ⟨_, _, Z, ((vbool _)), ((vint _))⟩, hC7.bx⟩
  ·
   obtain rfl := hbb2.trans hc2
   refine cw_false Z (cw_skip (ew_then (cw_seq (cw_sub (E' := [(0, v0p), (7, (.int .i64 0))]) ⟨Z, Z, trivial⟩ (cw_drawQ 5 [PV (RSlice RSpan) M a_rest, PA RSpan M x1, PA RInt M x1.Hi, PEq (.int .i64 x1.Hi), PEq (.bool true)] (by kernel_rfl) Z (by kernel_rfl) ⟨PV.mono _ _ _, PA.mono _ _ _, PA.mono _ _ _, PEq.mono _, PEq.mono _, trivial⟩ ⟨?_, ?_, ?_, ?_, ?_, trivial⟩ ?_)))))
   ·
    intro w8 D hS8 hd8
    have hl8 := Le.no M hS8
    exact dg_sub (E' := [(0, v0p)]) ⟨Z, trivial⟩ (dg_plain Z (ow_move Z Z ⟨BX.refl _ _, (VRep.mono hl8 h0)⟩))
   ·
    intro w9 D hS9 hd9
    have d11 : PV (RSlice RSpan) M a_rest (D 0) w9 := dpA hd9 0 Z
    generalize hq2 : (D 0) = v6 at d11
    exact dg_sub (E' := [(23, v6)]) ⟨(congrArg some hq2), trivial⟩ (dg_plain Z (ow_indexSlice (R := RSpan) Z Z Z d11 Tryd.underlying58 (Tryd.sizeOf76 _) hx1 fun p7 hp7 => ⟨BX.refl _ _, ⟨_, Z, hp7⟩⟩))
   ·
    intro w10 D hS10 hd10
    have d12 : PA RSpan M x1 (D 1) w10 := dpA hd10 1 Z
    obtain ⟨p8, e3, ha3⟩ := d12
    exact dg_sub (E' := [(24, (.pointer (some p8)))]) ⟨(congrArg some e3), trivial⟩ (dg_plain Z (ow_fieldAddr Z Z Tryd.underlying76 Z (Tryd.sizeOf3 _) ⟨BX.refl _ _, ⟨_, Z, (ha3.fld fld_Span_Hi)⟩⟩))
   ·
    intro w11 D hS11 hd11
    have d13 : PA RInt M x1.Hi (D 2) w11 := dpA hd11 2 Z
    obtain ⟨p9, e4, ha4⟩ := d13
    refine dg_sub (E' := [(25, (.pointer (some p9)))]) ⟨(congrArg some e4), trivial⟩ (dg_plain Z (ow_load (R := RInt) Z Z ha4 (Tryd.sizeOf3 _) (Tryd.isAgg3 _) fun v7 hv7 => ?_))
    obtain rfl := vint_eq hv7
    exact ⟨BX.refl _ _, Z⟩
   ·
    intro w12 D hS12 hd12
    exact dg_sub (E' := []) trivial (dg_plain Z (ow_assign Z Z ⟨BX.refl _ _, Z⟩))
   ·
    intro w13 D hS13 hd13
    have hC13 := hC.no hS13
    refine lw_sub (E' := [(26, (.int .i64 x1.Hi)), (6, (.bool true)), (0, v0p), (7, (.int .i64 0))]) ⟨(dpE hd13 3 Z Z), (dpE hd13 4 Z Z), Z, Z, trivial⟩ (lw_op Z Z Z (ow_assign Z Z (lw_nil (ew_then (cw_ret ?_)))))
    obtain rfl := Option.some.inj h
    exact ew_ret (res2 Z (.tmp Z) (.tmp Z)) ⟨_, Z, ⟨_, _, Z, ((vbool _)), ((vint _))⟩, hC13.bx⟩

theorem w_impl_sweepSpans__impl_inFirstOnly {w : World} {M : Nat → Prop} (hG : ARep (RArr 4 RShape) w M shapes ⟨0, 0, none⟩) (hO : ∀ b, M b → b < w.heap.size) {v0p : Value} {a_a : List Span} (h0 : VRep (RSlice RSpan) w M a_a v0p) {v1p : Value} {a_b : List Span} (h1 : VRep (RSlice RSpan) w M a_b v1p) {a_top : Int} {r : (List Span)} (h : F.impl_sweepSpans__impl_inFirstOnly a_a a_b a_top = some r) :
  Calls Tryd.prog 99 [v0p, v1p, (.int .i64 a_top), (.func (.func 100) #[] #[])].toArray w fun e w' => ∃ v, e = .returned v ∧ VRep (RSlice RSpan) w' M r v ∧ BX No w w' := by
 obtain ⟨i76, hi76, hz76, hs76, hy76⟩ := info76
 have hC : Cx No w M w M := Cx.start hO (fun _ e => e.elim)
 refine walk (N := 107) Tryd.func99 Z Tryd.ntmps99 Z (cw_seq (cw_region (lw_op Z Z Z (ow_assign Z Z (lw_nil (ew_then (cw_seq (cw_region (lw_op Z Z Z (ow_assign Z Z (lw_nil (ew_then (cw_seq (cw_region (lw_op Z Z Z (ow_assign Z Z (lw_op Z Z Z (ow_assign Z Z (lw_nil (ew_then (cw_seq (cw_seq (cw_region (lw_op Z Z Z (ow_assign Z Z (lw_nil (ew_then ?_)))))))))))))))))))))))))))
 have hr1 : OwnRow RSpan w.heap.size 76 w M ([] : List Span) (.slice none 0 0) := ownrow_nil
 replace h := bind_some h
 obtain ⟨lr1, hlr1, h⟩ := h
 refine cw_for hlr1 (fun s a w' => ∃ (M' : Nat → Prop) (v0c : Value), Fits 107 [(0, v0p), (1, v1p), (2, (.int .i64 a_top)), (3, (.func (.func 100) #[] #[])), (9, v0c), (10, (.int .i64 s.2.1)), (11, (.int .i64 s.2.2.1)), (12, (.int .i64 s.2.2.2))] a ∧ Le w M w' M' ∧ Cx No w M w' M' ∧ OwnRow RSpan w.heap.size 76 w' M' s.1 v0c) ?_ ?_ ?_
 ·
  intro a ha
  exact ⟨M, (.slice none 0 0), ha.sub ⟨Z, Z, Z, Z, Z, Z, Z, Z, trivial⟩, Le.refl _ _, hC, hr1⟩
 ·
  rintro ⟨y1, k1, k2, k3⟩ a w1 sr1 ⟨M1, v1, hF1, hl1, hC1, hw1⟩ hb1 hR1
  refine cw_at (E := [(0, v0p), (1, v1p), (2, (.int .i64 a_top)), (3, (.func (.func 100) #[] #[])), (9, v1), (10, (.int .i64 k1)), (11, (.int .i64 k2)), (12, (.int .i64 k3))]) hF1 (cw_seq (cw_seq (cw_region (lw_op Z Z Z (ow_move Z Z (lw_op Z Z Z (ow_move Z Z (lw_op Z Z Z (ow_leq Z Z Z fun bb1 hbb1 => lw_nil (ew_then ?_))))))))))
  replace hb1 := cond_some hb1
  rcases hb1 with ⟨hc1, hb1⟩ | ⟨hc1, hb1⟩
  ·
   obtain rfl := hbb1.trans hc1
   refine cw_true Z (cw_skip (ew_then (cw_block (cw_seq ?_))))
   replace hb1 := bind_some hb1
   obtain ⟨lr2, hlr2, hb1⟩ := hb1
   refine cw_for hlr2 (fun s a w' => ∃ (M' : Nat → Prop), Fits 107 [(0, v0p), (1, v1p), (2, (.int .i64 a_top)), (3, (.func (.func 100) #[] #[])), (9, v1), (10, (.int .i64 s.1)), (11, (.int .i64 k2)), (12, (.int .i64 k3))] a ∧ Le w1 M1 w' M' ∧ Cx No w M w' M' ∧ OwnRow RSpan w.heap.size 76 w' M' s.2 v1) ?_ ?_ ?_
   ·
    intro a ha
    exact ⟨M1, ha.sub ⟨Z, Z, Z, Z, Z, Z, Z, Z, trivial⟩, Le.refl _ _, hC1, hw1⟩
   ·
    rintro ⟨k4, y2⟩ a w2 sr2 ⟨M2, hF2, hl2, hC2, hw2⟩ hb2 hR2
    refine cw_at (E := [(0, v0p), (1, v1p), (2, (.int .i64 a_top)), (3, (.func (.func 100) #[] #[])), (9, v1), (10, (.int .i64 k4)), (11, (.int .i64 k2)), (12, (.int .i64 k3))]) hF2 (cw_seq (cw_seq (cw_region (lw_op Z Z Z (ow_move Z Z (lw_op Z Z Z (ow_move Z Z (lw_op Z Z Z (ow_len Z Z (VRep.mono (hl1.trans hl2) h0) Tryd.underlying58 Z (lw_op Z Z Z (ow_lss Z Z Z fun bb2 hbb2 => lw_op Z Z Z (ow_move Z Z ?_))))))))))))
    replace hb2 := cond_some hb2
    rcases hb2 with ⟨hc2, hb2⟩ | ⟨hc2, hb2⟩
    ·
     obtain rfl := hbb2.trans hc2
     refine lw_on Z Z Z Z Z Z (ow_move Z Z (lw_on Z Z Z Z Z Z (ow_move Z Z ?_)))
     replace hb2 := bind_some hb2
     obtain ⟨x1, hx1, hb2⟩ := hb2
     refine lw_on Z Z Z Z Z Z (ow_indexSlice (R := RSpan) Z Z Z (VRep.mono (hl1.trans hl2) h0) Tryd.underlying58 (Tryd.sizeOf76 _) hx1 fun p1 hp1 => lw_on Z Z Z Z Z Z (ow_fieldAddr Z Z Tryd.underlying76 Z (Tryd.sizeOf3 _) (lw_on Z Z Z Z Z Z (ow_load (R := RInt) Z Z (hp1.fld fld_Span_Hi) (Tryd.sizeOf3 _) (Tryd.isAgg3 _) fun v7 hv7 => ?_))))
     obtain rfl := vint_eq hv7
     refine lw_on Z Z Z Z Z Z (ow_move Z Z (lw_on Z Z Z Z Z Z (ow_lss Z Z Z fun bb3 hbb3 => lw_op Z Z Z (ow_pickT Z Z Z (lw_nil (ew_then ?_))))))
     replace hb2 := cond_some hb2
     rcases hb2 with ⟨hc3, hb2⟩ | ⟨hc3, hb2⟩
     ·
      obtain rfl := hbb3.trans hc3
      exact cw_true Z (cw_skip (ew_then (cw_block (cw_region (lw_op Z Z Z (ow_move Z Z (lw_op Z Z Z (ow_add Z Z Z (lw_op Z Z Z (ow_assign Z Z (lw_nil (ew_blockN (ew_nxt ((W (k4 + 1)), y2) hb2 fun a ha => ⟨M2, (ha.sub ⟨Z, Z, Z, Z, Z, Z, Z, Z, trivial⟩), hl2, hC2, hw2⟩)))))))))))))
     ·
      obtain rfl := hbb3.trans hc3
      exact cw_false Z (cw_exit (ew_thenX (ew_thenX (ew_blockX (ew_brk (k4, y2) hb2 fun a ha => ⟨M2, (ha.sub ⟨Z, Z, Z, Z, Z, Z, Z, Z, trivial⟩), hl2, hC2, hw2⟩)))))
    ·
     obtain rfl := hbb2.trans hc2
     exact lw_off Z Z Z Z Z Z (lw_off Z Z Z Z Z Z (lw_off Z Z Z Z Z Z (lw_off Z Z Z Z Z Z (lw_off Z Z Z Z Z Z (lw_off Z Z Z Z Z Z (lw_off Z Z Z Z Z Z (lw_op Z Z Z (ow_pickF Z Z Z (lw_nil (ew_then (cw_false Z (cw_exit (ew_thenX (ew_thenX (ew_blockX (ew_brk (k4, y2) hb2 fun a ha => ⟨M2, (ha.sub ⟨Z, Z, Z, Z, Z, Z, Z, Z, trivial⟩), hl2, hC2, hw2⟩))))))))))))))))
   ·
    rintro ⟨k5, y3⟩ a w3 hlr3 ⟨M3, hF3, hl3, hC3, hw3⟩
    subst hlr3
    refine ew_at (E := [(0, v0p), (1, v1p), (2, (.int .i64 a_top)), (3, (.func (.func 100) #[] #[])), (9, v1), (10, (.int .i64 k5)), (11, (.int .i64 k2)), (12, (.int .i64 k3))]) hF3 (ew_then (cw_seq ?_))
    replace hb1 := bind_some hb1
    obtain ⟨lr3, hlr4, hb1⟩ := hb1
    refine cw_for hlr4 (fun s a w' => ∃ (M' : Nat → Prop), Fits 107 [(0, v0p), (1, v1p), (2, (.int .i64 a_top)), (3, (.func (.func 100) #[] #[])), (9, v1), (10, (.int .i64 k5)), (11, (.int .i64 s.1)), (12, (.int .i64 k3))] a ∧ Le w3 M3 w' M' ∧ Cx No w M w' M' ∧ OwnRow RSpan w.heap.size 76 w' M' s.2 v1) ?_ ?_ ?_
    ·
     intro a ha
     exact ⟨M3, ha.sub ⟨Z, Z, Z, Z, Z, Z, Z, Z, trivial⟩, Le.refl _ _, hC3, hw3⟩
    ·
     rintro ⟨k6, y4⟩ a w4 sr3 ⟨M4, hF4, hl4, hC4, hw4⟩ hb3 hR3
     refine cw_at (E := [(0, v0p), (1, v1p), (2, (.int .i64 a_top)), (3, (.func (.func 100) #[] #[])), (9, v1), (10, (.int .i64 k5)), (11, (.int .i64 k6)), (12, (.int .i64 k3))]) hF4 (cw_seq (cw_seq (cw_region (lw_op Z Z Z (ow_move Z Z (lw_op Z Z Z (ow_move Z Z ?_)))))))
     have hz1 := ((hl1.trans hl3).trans hl4)
     refine lw_op Z Z Z (ow_len Z Z (VRep.mono hz1 h1) Tryd.underlying58 Z (lw_op Z Z Z (ow_lss Z Z Z fun bb4 hbb4 => lw_op Z Z Z (ow_move Z Z ?_))))
     replace hb3 := cond_some hb3
     rcases hb3 with ⟨hc4, hb3⟩ | ⟨hc4, hb3⟩
     ·
      obtain rfl := hbb4.trans hc4
      refine lw_on Z Z Z Z Z Z (ow_move Z Z (lw_on Z Z Z Z Z Z (ow_move Z Z ?_)))
      replace hb3 := bind_some hb3
      obtain ⟨x2, hx2, hb3⟩ := hb3
      refine lw_on Z Z Z Z Z Z (ow_indexSlice (R := RSpan) Z Z Z (VRep.mono hz1 h1) Tryd.underlying58 (Tryd.sizeOf76 _) hx2 fun p2 hp2 => lw_on Z Z Z Z Z Z (ow_fieldAddr Z Z Tryd.underlying76 Z (Tryd.sizeOf3 _) (lw_on Z Z Z Z Z Z (ow_load (R := RInt) Z Z (hp2.fld fld_Span_Hi) (Tryd.sizeOf3 _) (Tryd.isAgg3 _) fun v12 hv12 => ?_))))
      obtain rfl := vint_eq hv12
      refine lw_on Z Z Z Z Z Z (ow_move Z Z (lw_on Z Z Z Z Z Z (ow_lss Z Z Z fun bb5 hbb5 => lw_op Z Z Z (ow_pickT Z Z Z (lw_nil (ew_then ?_))))))
      replace hb3 := cond_some hb3
      rcases hb3 with ⟨hc5, hb3⟩ | ⟨hc5, hb3⟩
      ·
       obtain rfl := hbb5.trans hc5
       exact cw_true Z (cw_skip (ew_then (cw_block (cw_region (lw_op Z Z Z (ow_move Z Z (lw_op Z Z Z (ow_add Z Z Z (lw_op Z Z Z (ow_assign Z Z (lw_nil (ew_blockN (ew_nxt ((W (k6 + 1)), y4) hb3 fun a ha => ⟨M4, (ha.sub ⟨Z, Z, Z, Z, Z, Z, Z, Z, trivial⟩), hl4, hC4, hw4⟩)))))))))))))
      ·
       obtain rfl := hbb5.trans hc5
       exact cw_false Z (cw_exit (ew_thenX (ew_thenX (ew_blockX (ew_brk (k6, y4) hb3 fun a ha => ⟨M4, (ha.sub ⟨Z, Z, Z, Z, Z, Z, Z, Z, trivial⟩), hl4, hC4, hw4⟩)))))
     ·
      obtain rfl := hbb4.trans hc4
      exact lw_off Z Z Z Z Z Z (lw_off Z Z Z Z Z Z (lw_off Z Z Z Z Z Z (lw_off Z Z Z Z Z Z (lw_off Z Z Z Z Z Z (lw_off Z Z Z Z Z Z (lw_off Z Z Z Z Z Z (lw_op Z Z Z (ow_pickF Z Z Z (lw_nil (ew_then (cw_false Z (cw_exit (ew_thenX (ew_thenX (ew_blockX (ew_brk (k6, y4) hb3 fun a ha => ⟨M4, (ha.sub ⟨Z, Z, Z, Z, Z, Z, Z, Z, trivial⟩), hl4, hC4, hw4⟩))))))))))))))))
    ·
     rintro ⟨k7, y5⟩ a w5 hlr5 ⟨M5, hF5, hl5, hC5, hw5⟩
     subst hlr5
     refine ew_at (E := [(0, v0p), (1, v1p), (2, (.int .i64 a_top)), (3, (.func (.func 100) #[] #[])), (9, v1), (10, (.int .i64 k5)), (11, (.int .i64 k7)), (12, (.int .i64 k3))]) hF5 (ew_then (cw_seq (cw_region (lw_op Z Z Z (ow_move Z Z (lw_op Z Z Z (ow_move Z Z ?_)))))))
     replace hb1 := bind_some hb1
     obtain ⟨y6, hy6, hb1⟩ := hb1
     have hz2 := ((hl1.trans hl3).trans hl5)
     refine lw_op Z Z Z (ow_sliceFrom (R := RSpan) Z Z Z (VRep.mono hz2 h0) Tryd.underlying58 (Tryd.sizeOf76 _) (dropF_some hy6).2 fun v15 hv15 => ?_)
     rw [← (dropF_some hy6).1] at hv15
     refine lw_op Z Z Z (ow_move Z Z (lw_op Z Z Z (ow_move Z Z ?_)))
     replace hb1 := bind_some hb1
     obtain ⟨x3, hx3, hb1⟩ := hb1
     refine lw_op Z Z Z (ow_call Z Z Tryd.call114 (w_impl_stretch (hG.mono hz2) hC5.old hv15 hx3) fun v16 w6 hv16 => ?_)
     obtain ⟨⟨v17, v18, rfl, hv17, hv18⟩, hb4⟩ := hv16
     have hl6 := Le.no M5 hb4
     have hC6 := hC5.no hb4
     have hr2 := hw5.no hb4
     obtain ⟨bb6, hbb6, rfl⟩ := vbool_ex hv17
     obtain rfl := vint_eq hv18
     refine lw_op Z Z Z (ow_move Z Z (lw_op Z Z Z (ow_extract Z Z Z (lw_op Z Z Z (ow_extract Z Z Z (lw_op Z Z Z (ow_assign Z Z (lw_op Z Z Z (ow_assign Z Z (lw_nil (ew_then (cw_seq (cw_region (lw_op Z Z Z (ow_move Z Z (lw_op Z Z Z (ow_move Z Z ?_)))))))))))))))))
     replace hb1 := bind_some hb1
     obtain ⟨y7, hy7, hb1⟩ := hb1
     refine lw_op Z Z Z (ow_sliceFrom (R := RSpan) Z Z Z (VRep.mono (hz2.trans hl6) h1) Tryd.underlying58 (Tryd.sizeOf76 _) (dropF_some hy7).2 fun v19 hv19 => ?_)
     rw [← (dropF_some hy7).1] at hv19
     refine lw_op Z Z Z (ow_move Z Z (lw_op Z Z Z (ow_move Z Z ?_)))
     replace hb1 := bind_some hb1
     obtain ⟨x4, hx4, hb1⟩ := hb1
     refine lw_op Z Z Z (ow_call Z Z Tryd.call114 (w_impl_stretch (hG.mono (hz2.trans hl6)) hC6.old hv19 hx4) fun v20 w7 hv20 => ?_)
     obtain ⟨⟨v21, v22, rfl, hv21, hv22⟩, hb5⟩ := hv20
     have hl7 := Le.no M5 hb5
     have hC7 := hC6.no hb5
     have hr3 := hr2.no hb5
     obtain ⟨bb7, hbb7, rfl⟩ := vbool_ex hv21
     obtain rfl := vint_eq hv22
     refine lw_op Z Z Z (ow_move Z Z (lw_op Z Z Z (ow_extract Z Z Z (lw_op Z Z Z (ow_extract Z Z Z (lw_op Z Z Z (ow_assign Z Z (lw_op Z Z Z (ow_assign Z Z (lw_nil (ew_then (cw_seq (cw_region (lw_op Z Z Z (ow_move Z Z (lw_op Z Z Z (ow_move Z Z (lw_op Z Z Z (ow_min Z Z Z (lw_op Z Z Z (ow_assign Z Z (lw_nil (ew_then (cw_seq (cw_seq (cw_region (lw_op Z Z Z (ow_move Z Z (lw_op Z Z Z (ow_move Z Z (lw_op Z Z Z (ow_move Z Z ?_))))))))))))))))))))))))))))))))
     replace hb1 := bind_some hb1
     obtain ⟨x5, hx5, hb1⟩ := hb1
     have hz3 := ((hz2.trans hl6).trans hl7)
     refine lw_op Z Z Z (ow_callv Z Z Z Tryd.call100 (w_impl_inFirstOnly (hG.mono hz3) hC7.old hbb6 hbb7 hx5) fun v23 w8 hv23 => ?_)
     obtain ⟨hv23, hb6⟩ := hv23
     have hl8 := Le.no M5 hb6
     have hC8 := hC7.no hb6
     have hr4 := hr3.no hb6
     obtain rfl := vbool_eq hv23
     refine lw_nil (ew_then ?_)
     replace hb1 := cond_some hb1
     rcases hb1 with ⟨hc6, hb1⟩ | ⟨hc6, hb1⟩
     ·
      subst hc6
      refine cw_true Z (cw_seq (cw_region (lw_op Z Z Z (ow_move Z Z (lw_op Z Z Z (ow_lenOwn Z Z hr4 Tryd.underlying58 (lw_op Z Z Z (ow_assign Z Z (lw_nil (ew_then (cw_seq (cw_region (lw_op Z Z Z (ow_move Z Z (lw_op Z Z Z (ow_gtr Z Z Z fun bb8 hbb8 => lw_op Z Z Z (ow_move Z Z ?_)))))))))))))))))
      replace hb1 := cond_some hb1
      rcases hb1 with ⟨hc7, hb1⟩ | ⟨hc7, hb1⟩
      ·
       obtain rfl := hbb8.trans hc7
       refine lw_on Z Z Z Z Z Z (ow_move Z Z (lw_on Z Z Z Z Z Z (ow_move Z Z (lw_on Z Z Z Z Z Z (ow_sub Z Z Z ?_)))))
       replace hb1 := bind_some hb1
       obtain ⟨x6, hx6, hb1⟩ := hb1
       refine lw_on Z Z Z Z Z Z (ow_indexRow (R := RSpan) Z Z Z hr4 Tryd.underlying58 (Tryd.sizeOf76 _) hx6 (lw_on Z Z Z Z Z Z (ow_fieldAddr Z Z Tryd.underlying76 Z (Tryd.sizeOf3 _) (lw_on Z Z Z Z Z Z (ow_loadElRow (R := RSpan) (S := RInt) Z Z Z hr4 (orow_blk hr4 hx6) hx6 fld_Span_Hi (Tryd.sizeOf3 _) (Tryd.isAgg3 _) fun v24 hv24 => ?_)))))
       obtain rfl := vint_eq hv24
       refine lw_on Z Z Z Z Z Z (ow_add Z Z Z (lw_on Z Z Z Z Z Z (ow_move Z Z (lw_on Z Z Z Z Z Z (ow_eqlI Z Z Z fun bb9 hbb9 => lw_op Z Z Z (ow_pickT Z Z Z (lw_nil (ew_then ?_))))))))
       replace hb1 := cond_some hb1
       rcases hb1 with ⟨hc8, hb1⟩ | ⟨hc8, hb1⟩
       ·
        obtain rfl := hbb9.trans hc8
        refine cw_true Z (cw_region (lw_op Z Z Z (ow_move Z Z (lw_op Z Z Z (ow_move Z Z (lw_op Z Z Z (ow_sub Z Z Z (lw_op Z Z Z (ow_move Z Z (lw_op Z Z Z (ow_indexRow (R := RSpan) Z Z Z hr4 Tryd.underlying58 (Tryd.sizeOf76 _) hx6 (lw_op Z Z Z (ow_fieldAddr Z Z Tryd.underlying76 Z (Tryd.sizeOf3 _) (lw_op0 Z Z (ow_storeElRow (X := No) (R := RSpan) (S := RInt) Z Z Z Z hr4 (orow_blk hr4 hx6) hx6 set_Span_Hi (Tryd.sizeOf3 _) (vint _) (Nat.le_refl _) hC8 fun w9 ho1 hb7 hl9 hC9 => lw_nil (ew_then (cw_region (lw_op Z Z Z (ow_move Z Z (lw_op Z Z Z (ow_add Z Z Z (lw_op Z Z Z (ow_assign Z Z (lw_nil (ew_blockN ?_)))))))))))))))))))))))))
        have hz4 := ((hz3.trans hl8).trans hl9)
        exact ew_nxt ((List.set y5 ((W ((y5.length : Int) - 1)) : Int).toNat { x6 with Hi := (imin x3.2 x4.2) }), k5, k7, (W ((imin x3.2 x4.2) + 1))) hb1 fun a ha => ⟨M5, v1, (ha.sub ⟨Z, Z, Z, Z, Z, Z, Z, Z, trivial⟩), hz4, hC9, ho1⟩
       ·
        obtain rfl := hbb9.trans hc8
        refine cw_false Z (cw_region (lw_op Z Z Z (ow_move Z Z (lw_op Z Z Z (ow_move Z Z (lw_op Z Z Z (ow_move Z Z (lw_op Z Z Z (ow_build (v := .agg #[(.int .i64 k3), (.int .i64 (imin x3.2 x4.2))]) Z Z (by kernel_rfl) ?_)))))))))
        have hw6 : VRep RSpan w8 M5 ({ Lo := k3, Hi := (imin x3.2 x4.2) } : Span) (.agg #[(.int .i64 k3), (.int .i64 (imin x3.2 x4.2))]) := shut_Span
        refine lw_op Z Z Z (ow_buildSlice (R := RSpan) (xs := [({ Lo := k3, Hi := (imin x3.2 x4.2) } : Span)]) (cs := #[(.int .i64 k3), (.int .i64 (imin x3.2 x4.2))]) (e := 76) Z Z (by kernel_rfl) Z Z ⟨_, _, Z, hw6.cells, Z⟩ hC8 fun p3 w10 hw7 hb8 hl10 hC10 => ?_)
        have hr5 := hr4.no hb8
        replace hb1 := bind_some hb1
        obtain ⟨z1, hz1, hb1⟩ := hb1
        refine lw_op Z Z Z (ow_append (R := RSpan) Z Z Z Z Tryd.underlying58 hi76 hz76 hs76 hy76 Z Z Z Z hr5 hw7 hz1 hC10 fun v25 w11 M6 hr6 hb9 hl11 hC11 hM1 hat1 => lw_op Z Z Z (ow_assign Z Z (lw_nil (ew_then (cw_region (lw_op Z Z Z (ow_move Z Z (lw_op Z Z Z (ow_add Z Z Z (lw_op Z Z Z (ow_assign Z Z (lw_nil (ew_blockN ?_)))))))))))))
        have hz5 := (((hz3.trans hl8).trans hl10).trans hl11)
        exact ew_nxt (z1, k5, k7, (W ((imin x3.2 x4.2) + 1))) hb1 fun a ha => ⟨M6, v25, (ha.sub ⟨Z, Z, Z, Z, Z, Z, Z, Z, trivial⟩), hz5, hC11, hr6⟩
      ·
       obtain rfl := hbb8.trans hc7
       refine lw_off Z Z Z Z Z Z (lw_off Z Z Z Z Z Z (lw_off Z Z Z Z Z Z (lw_off Z Z Z Z Z Z (lw_off Z Z Z Z Z Z (lw_off Z Z Z Z Z Z (lw_off Z Z Z Z Z Z (lw_off Z Z Z Z Z Z (lw_off Z Z Z Z Z Z (lw_op Z Z Z (ow_pickF Z Z Z (lw_nil (ew_then (cw_false Z (cw_region (lw_op Z Z Z (ow_move Z Z (lw_op Z Z Z (ow_move Z Z (lw_op Z Z Z (ow_move Z Z (lw_op Z Z Z (ow_build (v := .agg #[(.int .i64 k3), (.int .i64 (imin x3.2 x4.2))]) Z Z (by kernel_rfl) ?_))))))))))))))))))))))
       have hw8 : VRep RSpan w8 M5 ({ Lo := k3, Hi := (imin x3.2 x4.2) } : Span) (.agg #[(.int .i64 k3), (.int .i64 (imin x3.2 x4.2))]) := shut_Span
       refine lw_op Z Z Z (ow_buildSlice (R := RSpan) (xs := [({ Lo := k3, Hi := (imin x3.2 x4.2) } : Span)]) (cs := #[(.int .i64 k3), (.int .i64 (imin x3.2 x4.2))]) (e := 76) Z Z (by kernel_rfl) Z Z ⟨_, _, Z, hw8.cells, Z⟩ hC8 fun p4 w12 hw9 hb10 hl12 hC12 => ?_)
       have hr7 := hr4.no hb10
       replace hb1 := bind_some hb1
       obtain ⟨z2, hz2, hb1⟩ := hb1
       refine lw_op Z Z Z (ow_append (R := RSpan) Z Z Z Z Tryd.underlying58 hi76 hz76 hs76 hy76 Z Z Z Z hr7 hw9 hz2 hC12 fun v26 w13 M7 hr8 hb11 hl13 hC13 hM2 hat2 => lw_op Z Z Z (ow_assign Z Z (lw_nil (ew_then (cw_region (lw_op Z Z Z (ow_move Z Z (lw_op Z Z Z (ow_add Z Z Z (lw_op Z Z Z (ow_assign Z Z (lw_nil (ew_blockN ?_)))))))))))))
       have hz6 := (((hz3.trans hl8).trans hl12).trans hl13)
       exact ew_nxt (z2, k5, k7, (W ((imin x3.2 x4.2) + 1))) hb1 fun a ha => ⟨M7, v26, (ha.sub ⟨Z, Z, Z, Z, Z, Z, Z, Z, trivial⟩), hz6, hC13, hr8⟩
     ·
      subst hc6
      exact cw_false Z (cw_skip (ew_then (cw_region (lw_op Z Z Z (ow_move Z Z (lw_op Z Z Z (ow_add Z Z Z (lw_op Z Z Z (ow_assign Z Z (lw_nil (ew_blockN (ew_nxt (y5, k5, k7, (W ((imin x3.2 x4.2) + 1))) hb1 fun a ha => ⟨M5, v1, (ha.sub ⟨Z, Z, Z, Z, Z, Z, Z, Z, trivial⟩), (hz3.trans hl8), hC8, hr4⟩))))))))))))
  ·
   obtain rfl := hbb1.trans hc1
   exact cw_false Z (cw_exit (ew_thenX (ew_thenX (ew_blockX (ew_brk (y1, k1, k2, k3) hb1 fun a ha => ⟨M1, v1, (ha.sub ⟨Z, Z, Z, Z, Z, Z, Z, Z, trivial⟩), hl1, hC1, hw1⟩)))))
 ·
  rintro ⟨y8, k8, k9, k10⟩ a w14 hlr6 ⟨M8, v27, hF6, hl14, hC14, hw10⟩
  subst hlr6
  refine ew_at (E := [(0, v0p), (1, v1p), (2, (.int .i64 a_top)), (3, (.func (.func 100) #[] #[])), (9, v27), (10, (.int .i64 k8)), (11, (.int .i64 k9)), (12, (.int .i64 k10))]) hF6 (ew_then (cw_seq (cw_region (lw_op Z Z Z (ow_move Z Z (lw_op Z Z Z (ow_assign Z Z (lw_nil (ew_then (cw_ret ?_))))))))))
  obtain rfl := Option.some.inj h
  exact ew_ret (res1 Z (.tmp Z)) ⟨_, Z, (hw10.freezeBack hC14 hO), hC14.bx⟩

theorem w_impl_sides_within {w : World} {M : Nat → Prop} (hG : ARep (RArr 4 RShape) w M shapes ⟨0, 0, none⟩) (hO : ∀ b, M b → b < w.heap.size) {v0p : Value} {a_s : List (List Span)} (h0 : VRep (RArr 4 (RSlice RSpan)) w M a_s v0p) {v1p : Value} {a_other : List (List Span)} (h1 : VRep (RArr 4 (RSlice RSpan)) w M a_other v1p) {r : Bool} (h : F.impl_sides_within a_s a_other = some r) :
  Calls Tryd.prog 66 [v0p, v1p].toArray w fun e w' => ∃ v, e = .returned v ∧ VRep RBool w' M r v ∧ BX No w w' := by
 have hC : Cx No w M w M := Cx.start hO (fun _ e => e.elim)
 refine walk (N := 23) Tryd.func66 Z Tryd.ntmps66 Z (cw_seq (cw_region (lw_op Z Z Z (ow_box (R := (RArr 4 (RSlice RSpan))) Z Z h0 hC fun p1 w1 hp1 hb1 hl1 hC1 => lw_op Z Z Z (ow_box (R := (RArr 4 (RSlice RSpan))) Z Z (VRep.mono hl1 h1) hC1 fun p2 w2 hp2 hb2 hl2 hC2 => lw_op Z Z Z (ow_assign Z Z (lw_nil (ew_then (cw_seq (cw_seq (cw_region (lw_op Z Z Z (ow_load (R := (RArr 4 (RSlice RSpan))) Z Z (ARep.mono hl2 hp1) (Tryd.sizeOf69 _) (Tryd.isAgg69 _) fun v1 hv1 => ?_)))))))))))))
 replace h := bind_some h
 obtain ⟨x1, hx1, h⟩ := h
 refine lw_op Z Z Z (ow_call Z Z Tryd.call90 (w_impl_sides_empty (hG.mono (hl1.trans hl2)) hC2.old hv1 hx1) fun v2 w3 hv2 => ?_)
 obtain ⟨hv2, hb3⟩ := hv2
 have hl3 := Le.no M hb3
 have hC3 := hC2.no hb3
 obtain rfl := vbool_eq hv2
 refine lw_nil (ew_then ?_)
 replace h := cond_some h
 rcases h with ⟨hc1, h⟩ | ⟨hc1, h⟩
 ·
  subst hc1
  refine cw_true Z (cw_seq (cw_region (lw_op Z Z Z (ow_assign Z Z (lw_nil (ew_then (cw_ret (ew_thenR ?_))))))))
  obtain rfl := Option.some.inj h
  exact ew_ret (res1 Z (.tmp Z)) ⟨_, Z, ((vbool _)), hC3.bx⟩
 ·
  subst hc1
  refine cw_false Z (cw_skip (ew_then (cw_seq (cw_seq (cw_region (lw_op Z Z Z (ow_move Z Z (lw_nil (ew_then ?_)))))))))
  replace h := bind_some h
  obtain ⟨lr1, hlr1, h⟩ := h
  refine cw_for hlr1 (fun s a w' => ∃ (M' : Nat → Prop), Fits 23 [(2, (.pointer (some p1))), (3, (.pointer (some p2))), (8, (.int .i64 s))] a ∧ Le w3 M w' M' ∧ Cx No w M w' M') ?_ ?_ ?_
  ·
   intro a ha
   exact ⟨M, ha.sub ⟨Z, Z, Z, trivial⟩, Le.refl _ _, hC3⟩
  ·
   rintro k1 a w4 sr1 ⟨M1, hF1, hl4, hC4⟩ hb4 hR1
   refine cw_at (E := [(2, (.pointer (some p1))), (3, (.pointer (some p2))), (8, (.int .i64 k1))]) hF1 (cw_seq (cw_region (lw_op Z Z Z (ow_lss Z Z Z fun bb1 hbb1 => lw_nil (ew_then (cw_seq ?_))))))
   replace hb4 := cond_some hb4
   rcases hb4 with ⟨hc2, hb4⟩ | ⟨hc2, hb4⟩
   ·
    obtain rfl := hbb1.trans hc2
    refine cw_true Z (cw_skip (ew_then (cw_seq (cw_block (cw_seq (cw_region (lw_op Z Z Z (ow_move Z Z (lw_op Z Z Z (ow_assign Z Z (lw_nil (ew_then (cw_seq ?_)))))))))))))
    replace hb4 := bind_some hb4
    obtain ⟨x2, hx2, hb4⟩ := hb4
    replace hb4 := bind_some hb4
    obtain ⟨x3, hx3, hb4⟩ := hb4
    replace hb4 := bind_some hb4
    obtain ⟨x4, hx4, hb4⟩ := hb4
    have hz1 := (((hl1.trans hl2).trans hl3).trans hl4)
    have hz2 := ((hl2.trans hl3).trans hl4)
    have hz3 := (hl3.trans hl4)
    refine cw_sub (E' := [(2, (.pointer (some p1))), (3, (.pointer (some p2))), (5, (.int .i64 k1)), (8, (.int .i64 k1))]) ⟨Z, Z, Z, Z, trivial⟩ (cw_drawQ 8 [PEq (.int .i64 k1), PA (RSlice RSpan) M1 x2, PV (RSlice RSpan) M1 x2, PEq (.int .i64 k1), PA (RSlice RSpan) M1 x3, PV (RSlice RSpan) M1 x3, PEq (.int .i64 k1), PEq (.int .i64 x4)] (by kernel_rfl) Z (by kernel_rfl) ⟨PEq.mono _, PA.mono _ _ _, PV.mono _ _ _, PEq.mono _, PA.mono _ _ _, PV.mono _ _ _, PEq.mono _, PEq.mono _, trivial⟩ ⟨?_, ?_, ?_, ?_, ?_, ?_, ?_, ?_, trivial⟩ ?_)
    ·
     intro w6 D hS1 hd1
     exact dg_sub (E' := [(5, (.int .i64 k1))]) ⟨Z, trivial⟩ (dg_plain Z (ow_move Z Z ⟨BX.refl _ _, Z⟩))
    ·
     intro w7 D hS2 hd2
     have hl7 := Le.no M1 hS2
     exact dg_sub (E' := [(11, (.int .i64 k1)), (2, (.pointer (some p1)))]) ⟨(dpE hd2 0 Z Z), Z, trivial⟩ (dg_plain Z (ow_indexArr (R := (RSlice RSpan)) Z Z Z (ARep.mono (hz2.trans hl7) hp1) Tryd.underlying69 (Tryd.sizeOf58 _) hx2 fun p5 hp5 => ⟨BX.refl _ _, ⟨_, Z, hp5⟩⟩))
    ·
     intro w8 D hS3 hd3
     have d2 : PA (RSlice RSpan) M1 x2 (D 1) w8 := dpA hd3 1 Z
     obtain ⟨p6, e1, ha1⟩ := d2
     exact dg_sub (E' := [(12, (.pointer (some p6)))]) ⟨(congrArg some e1), trivial⟩ (dg_plain Z (ow_load (R := (RSlice RSpan)) Z Z ha1 (Tryd.sizeOf58 _) (Tryd.isAgg58 _) fun v7 hv7 => ⟨BX.refl _ _, hv7⟩))
    ·
     intro w9 D hS4 hd4
     exact dg_sub (E' := [(5, (.int .i64 k1))]) ⟨Z, trivial⟩ (dg_plain Z (ow_move Z Z ⟨BX.refl _ _, Z⟩))
    ·
     intro w10 D hS5 hd5
     have hl10 := Le.no M1 hS5
     exact dg_sub (E' := [(14, (.int .i64 k1)), (3, (.pointer (some p2)))]) ⟨(dpE hd5 3 Z Z), Z, trivial⟩ (dg_plain Z (ow_indexArr (R := (RSlice RSpan)) Z Z Z (ARep.mono (hz3.trans hl10) hp2) Tryd.underlying69 (Tryd.sizeOf58 _) hx3 fun p7 hp7 => ⟨BX.refl _ _, ⟨_, Z, hp7⟩⟩))
    ·
     intro w11 D hS6 hd6
     have d4 : PA (RSlice RSpan) M1 x3 (D 4) w11 := dpA hd6 4 Z
     obtain ⟨p8, e2, ha2⟩ := d4
     exact dg_sub (E' := [(15, (.pointer (some p8)))]) ⟨(congrArg some e2), trivial⟩ (dg_plain Z (ow_load (R := (RSlice RSpan)) Z Z ha2 (Tryd.sizeOf58 _) (Tryd.isAgg58 _) fun v8 hv8 => ⟨BX.refl _ _, hv8⟩))
    ·
     intro w12 D hS7 hd7
     exact dg_sub (E' := [(5, (.int .i64 k1))]) ⟨Z, trivial⟩ (dg_plain Z (ow_move Z Z ⟨BX.refl _ _, Z⟩))
    ·
     intro w13 D hS8 hd8
     have hl13 := Le.no M1 hS8
     have hC13 := hC4.no hS8
     refine dg_sub (E' := [(17, (.int .i64 k1))]) ⟨(dpE hd8 6 Z Z), trivial⟩ (dg_plain Z (ow_call Z Z Tryd.call69 (w_impl_FieldTop (hG.mono (hz1.trans hl13)) hC13.old hx4) fun v9 w14 hv9 => ?_))
     obtain ⟨hv9, hb6⟩ := hv9
     obtain rfl := vint_eq hv9
     exact ⟨hb6, Z⟩
    ·
     intro w15 D hS9 hd9
     have d8 : PV (RSlice RSpan) M1 x2 (D 2) w15 := dpA hd9 2 Z
     have d11 : PV (RSlice RSpan) M1 x3 (D 5) w15 := dpA hd9 5 Z
     have hl15 := Le.no M1 hS9
     have hC15 := hC4.no hS9
     generalize hq1 : (D 2) = v10 at d8
     generalize hq2 : (D 5) = v11 at d11
     refine lw_sub (E' := [(13, v10), (16, v11), (18, (.int .i64 x4)), (2, (.pointer (some p1))), (3, (.pointer (some p2))), (5, (.int .i64 k1)), (8, (.int .i64 k1))]) ⟨(congrArg some hq1), (congrArg some hq2), (dpE hd9 7 Z Z), Z, Z, Z, Z, trivial⟩ ?_
     replace hb4 := bind_some hb4
     obtain ⟨x5, hx5, hb4⟩ := hb4
     refine lw_op Z Z Z (ow_call Z Z Tryd.call99 (w_impl_sweepSpans__impl_inFirstOnly (hG.mono (hz1.trans hl15)) hC15.old d8 d11 hx5) fun v12 w16 hv12 => ?_)
     obtain ⟨hv12, hb7⟩ := hv12
     have hl16 := Le.no M1 hb7
     have hC16 := hC15.no hb7
     refine lw_op Z Z Z (ow_len Z Z hv12 Tryd.underlying58 Z (lw_op Z Z Z (ow_gtr Z Z Z fun bb2 hbb2 => lw_nil (ew_then ?_))))
     replace hb4 := cond_some hb4
     rcases hb4 with ⟨hc3, hb4⟩ | ⟨hc3, hb4⟩
     ·
      obtain rfl := hbb2.trans hc3
      refine cw_true Z (cw_seq (cw_region (lw_op Z Z Z (ow_assign Z Z (lw_nil (ew_then (cw_ret (ew_blockR (ew_thenR (ew_thenR (ew_blockR (ew_brkR (ew_thenR ?_)))))))))))))
      have e3 := hR1 _ (Option.some.inj hb4).symm
      subst e3
      obtain rfl := Option.some.inj h
      exact ew_ret (res1 Z (.tmp Z)) ⟨_, Z, ((vbool _)), hC16.bx⟩
     ·
      obtain rfl := hbb2.trans hc3
      refine cw_false Z (cw_skip (ew_blockN (ew_then (cw_region (lw_op Z Z Z (ow_add Z Z Z (lw_op Z Z Z (ow_move Z Z (lw_nil ?_)))))))))
      have hz4 := ((hl4.trans hl15).trans hl16)
      exact ew_nxt (W (k1 + 1)) hb4 fun a ha => ⟨M1, (ha.sub ⟨Z, Z, Z, trivial⟩), hz4, hC16⟩
   ·
    obtain rfl := hbb1.trans hc2
    exact cw_false Z (cw_exit (ew_thenX (ew_thenX (ew_blockX (ew_brk k1 hb4 fun a ha => ⟨M1, (ha.sub ⟨Z, Z, Z, trivial⟩), hl4, hC4⟩)))))
  ·
   rintro k2 a w17 hlr2 ⟨M2, hF2, hl17, hC17⟩
   subst hlr2
   refine ew_at (E := [(2, (.pointer (some p1))), (3, (.pointer (some p2))), (8, (.int .i64 k2))]) hF2 (ew_then (cw_seq (cw_region (lw_op Z Z Z (ow_assign Z Z (lw_nil (ew_then (cw_ret ?_))))))))
   obtain rfl := Option.some.inj h
   exact ew_ret (res1 Z (.tmp Z)) ⟨_, Z, ((vbool _)), hC17.bx⟩

theorem w_impl_BoxWithin {w : World} {M : Nat → Prop} (hG : ARep (RArr 4 RShape) w M shapes ⟨0, 0, none⟩) (hO : ∀ b, M b → b < w.heap.size) {v0p : Value} {a_a : Box} (h0 : VRep RBox w M a_a v0p) {v1p : Value} {a_b : Box} (h1 : VRep RBox w M a_b v1p) {r : Bool} (h : F.impl_BoxWithin a_a a_b = some r) :
  Calls Tryd.prog 27 [v0p, v1p].toArray w fun e w' => ∃ v, e = .returned v ∧ VRep RBool w' M r v ∧ BX No w w' := by
 have hC : Cx No w M w M := Cx.start hO (fun _ e => e.elim)
 refine walk (N := 18) Tryd.func27 Z Tryd.ntmps27 Z (cw_seq (cw_region (lw_op Z Z Z (ow_box (R := RBox) Z Z h0 hC fun p1 w1 hp1 hb1 hl1 hC1 => lw_op Z Z Z (ow_box (R := RBox) Z Z (VRep.mono hl1 h1) hC1 fun p2 w2 hp2 hb2 hl2 hC2 => lw_op Z Z Z (ow_assign Z Z (lw_nil (ew_then (cw_seq ?_)))))))))
 replace h := bind_some h
 obtain ⟨x1, hx1, h⟩ := h
 replace h := cond_some h
 rcases h with ⟨hc1, h⟩ | ⟨hc1, h⟩
 ·
  subst hc1
  replace h := bind_some h
  obtain ⟨x2, hx2, h⟩ := h
  replace h := cond_some h
  rcases h with ⟨hc2, h⟩ | ⟨hc2, h⟩
  ·
   subst hc2
   replace h := bind_some h
   obtain ⟨x3, hx3, h⟩ := h
   have hz1 := (hl1.trans hl2)
   refine cw_sub (E' := [(2, (.pointer (some p1))), (3, (.pointer (some p2))), (4, (.bool false))]) ⟨Z, Z, Z, trivial⟩ (cw_drawQ 10 [PV RBox M a_a, PEq (.bool true), PEq (.bool true), PV RBox M a_b, PEq (.bool true), PEq (.bool true), PEq (.bool true), PV RBox M a_a, PV (RArr 4 (RSlice RSpan)) M x3, PV RBox M a_b] (by kernel_rfl) Z (by kernel_rfl) ⟨PV.mono _ _ _, PEq.mono _, PEq.mono _, PV.mono _ _ _, PEq.mono _, PEq.mono _, PEq.mono _, PV.mono _ _ _, PV.mono _ _ _, PV.mono _ _ _, trivial⟩ ⟨?_, ?_, ?_, ?_, ?_, ?_, ?_, ?_, ?_, ?_, trivial⟩ ?_)
   ·
    intro w6 D hS1 hd1
    have hl6 := Le.no M hS1
    exact dg_sub (E' := [(2, (.pointer (some p1)))]) ⟨Z, trivial⟩ (dg_plain Z (ow_load (R := RBox) Z Z (ARep.mono (hl2.trans hl6) hp1) (Tryd.sizeOf27 _) (Tryd.isAgg27 _) fun v8 hv8 => ⟨BX.refl _ _, hv8⟩))
   ·
    intro w7 D hS2 hd2
    have hl7 := Le.no M hS2
    have hC7 := hC2.no hS2
    have d1 : PV RBox M a_a (D 0) w7 := dpA hd2 0 Z
    generalize hq1 : (D 0) = v9 at d1
    refine dg_sub (E' := [(5, v9)]) ⟨(congrArg some hq1), trivial⟩ (dg_plain Z (ow_call Z Z Tryd.call30 (w_impl_BoxValid (hG.mono (hz1.trans hl7)) hC7.old d1 hx1) fun v10 w8 hv10 => ?_))
    obtain ⟨hv10, hb6⟩ := hv10
    obtain rfl := vbool_eq hv10
    exact ⟨hb6, Z⟩
   ·
    intro w9 D hS3 hd3
    exact dg_sub (E' := [(6, (.bool true))]) ⟨(dpE hd3 1 Z Z), trivial⟩ (dg_plain Z (ow_move Z Z ⟨BX.refl _ _, Z⟩))
   ·
    intro w10 D hS4 hd4
    have hl10 := Le.no M hS4
    exact dg_sub (E' := [(7, (.bool true)), (3, (.pointer (some p2)))]) ⟨(dpE hd4 2 Z Z), Z, trivial⟩ (dg_on Z Z Z Z (ow_load (R := RBox) Z Z (ARep.mono hl10 hp2) (Tryd.sizeOf27 _) (Tryd.isAgg27 _) fun v11 hv11 => ⟨BX.refl _ _, hv11⟩))
   ·
    intro w11 D hS5 hd5
    have hl11 := Le.no M hS5
    have hC11 := hC2.no hS5
    have d5 : PV RBox M a_b (D 3) w11 := dpA hd5 3 Z
    generalize hq2 : (D 3) = v12 at d5
    refine dg_sub (E' := [(8, v12), (7, (.bool true))]) ⟨(congrArg some hq2), (dpE hd5 2 Z Z), trivial⟩ (dg_on Z Z Z Z (ow_call Z Z Tryd.call30 (w_impl_BoxValid (hG.mono (hz1.trans hl11)) hC11.old d5 hx2) fun v13 w12 hv13 => ?_))
    obtain ⟨hv13, hb7⟩ := hv13
    obtain rfl := vbool_eq hv13
    exact ⟨hb7, Z⟩
   ·
    intro w13 D hS6 hd6
    exact dg_sub (E' := [(7, (.bool true)), (9, (.bool true))]) ⟨(dpE hd6 2 Z Z), (dpE hd6 4 Z Z), trivial⟩ (dg_plain Z (ow_pickT Z Z Z ⟨BX.refl _ _, Z⟩))
   ·
    intro w14 D hS7 hd7
    exact dg_sub (E' := [(10, (.bool true))]) ⟨(dpE hd7 5 Z Z), trivial⟩ (dg_plain Z (ow_move Z Z ⟨BX.refl _ _, Z⟩))
   ·
    intro w15 D hS8 hd8
    have hl15 := Le.no M hS8
    exact dg_sub (E' := [(11, (.bool true)), (2, (.pointer (some p1)))]) ⟨(dpE hd8 6 Z Z), Z, trivial⟩ (dg_on Z Z Z Z (ow_load (R := RBox) Z Z (ARep.mono (hl2.trans hl15) hp1) (Tryd.sizeOf27 _) (Tryd.isAgg27 _) fun v14 hv14 => ⟨BX.refl _ _, hv14⟩))
   ·
    intro w16 D hS9 hd9
    have hl16 := Le.no M hS9
    have hC16 := hC2.no hS9
    have d13 : PV RBox M a_a (D 7) w16 := dpA hd9 7 Z
    generalize hq3 : (D 7) = v15 at d13
    refine dg_sub (E' := [(12, v15), (11, (.bool true))]) ⟨(congrArg some hq3), (dpE hd9 6 Z Z), trivial⟩ (dg_on Z Z Z Z (ow_call Z Z Tryd.call65 (w_impl_sidesOf (hG.mono (hz1.trans hl16)) hC16.old d13 hx3) fun v16 w17 hv16 => ?_))
    obtain ⟨hv16, hb8⟩ := hv16
    exact ⟨hb8, hv16⟩
   ·
    intro w18 D hS10 hd10
    have hl18 := Le.no M hS10
    exact dg_sub (E' := [(11, (.bool true)), (3, (.pointer (some p2)))]) ⟨(dpE hd10 6 Z Z), Z, trivial⟩ (dg_on Z Z Z Z (ow_load (R := RBox) Z Z (ARep.mono hl18 hp2) (Tryd.sizeOf27 _) (Tryd.isAgg27 _) fun v17 hv17 => ⟨BX.refl _ _, hv17⟩))
   ·
    intro w19 D hS11 hd11
    have d25 : PV (RArr 4 (RSlice RSpan)) M x3 (D 8) w19 := dpA hd11 8 Z
    have d26 : PV RBox M a_b (D 9) w19 := dpA hd11 9 Z
    have hl19 := Le.no M hS11
    have hC19 := hC2.no hS11
    generalize hq4 : (D 8) = v18 at d25
    generalize hq5 : (D 9) = v19 at d26
    refine lw_sub (E' := [(11, (.bool true)), (13, v18), (14, v19), (2, (.pointer (some p1))), (3, (.pointer (some p2))), (4, (.bool false))]) ⟨(dpE hd11 6 Z Z), (congrArg some hq4), (congrArg some hq5), Z, Z, Z, trivial⟩ ?_
    replace h := bind_some h
    obtain ⟨x4, hx4, h⟩ := h
    refine lw_on Z Z Z Z Z Z (ow_call Z Z Tryd.call65 (w_impl_sidesOf (hG.mono (hz1.trans hl19)) hC19.old d26 hx4) fun v20 w20 hv20 => ?_)
    obtain ⟨hv20, hb9⟩ := hv20
    have hl20 := Le.no M hb9
    have hC20 := hC19.no hb9
    replace h := bind_some h
    obtain ⟨x5, hx5, h⟩ := h
    have hz2 := ((hz1.trans hl19).trans hl20)
    refine lw_on Z Z Z Z Z Z (ow_call Z Z Tryd.call66 (w_impl_sides_within (hG.mono hz2) hC20.old (VRep.mono hl20 d25) hv20 hx5) fun v21 w21 hv21 => ?_)
    obtain ⟨hv21, hb10⟩ := hv21
    have hC21 := hC20.no hb10
    obtain rfl := vbool_eq hv21
    refine lw_op Z Z Z (ow_pickT Z Z Z (lw_op Z Z Z (ow_assign Z Z (lw_nil (ew_then (cw_ret ?_))))))
    obtain rfl := Option.some.inj h
    exact ew_ret (res1 Z (.tmp Z)) ⟨_, Z, ((vbool _)), hC21.bx⟩
  ·
   subst hc2
   have hz3 := (hl1.trans hl2)
   refine cw_sub (E' := [(2, (.pointer (some p1))), (3, (.pointer (some p2))), (4, (.bool false))]) ⟨Z, Z, Z, trivial⟩ (cw_drawQ 10 [PV RBox M a_a, PEq (.bool true), PEq (.bool true), PV RBox M a_b, PEq (.bool false), PEq (.bool false), PEq (.bool false), PEq undef, PEq undef, PEq undef] (by kernel_rfl) Z (by kernel_rfl) ⟨PV.mono _ _ _, PEq.mono _, PEq.mono _, PV.mono _ _ _, PEq.mono _, PEq.mono _, PEq.mono _, PEq.mono _, PEq.mono _, PEq.mono _, trivial⟩ ⟨?_, ?_, ?_, ?_, ?_, ?_, ?_, ?_, ?_, ?_, trivial⟩ ?_)
   ·
    intro w22 D hS12 hd12
    have hl22 := Le.no M hS12
    exact dg_sub (E' := [(2, (.pointer (some p1)))]) ⟨Z, trivial⟩ (dg_plain Z (ow_load (R := RBox) Z Z (ARep.mono (hl2.trans hl22) hp1) (Tryd.sizeOf27 _) (Tryd.isAgg27 _) fun v22 hv22 => ⟨BX.refl _ _, hv22⟩))
   ·
    intro w23 D hS13 hd13
    have hl23 := Le.no M hS13
    have hC23 := hC2.no hS13
    have d27 : PV RBox M a_a (D 0) w23 := dpA hd13 0 Z
    generalize hq6 : (D 0) = v23 at d27
    refine dg_sub (E' := [(5, v23)]) ⟨(congrArg some hq6), trivial⟩ (dg_plain Z (ow_call Z Z Tryd.call30 (w_impl_BoxValid (hG.mono (hz3.trans hl23)) hC23.old d27 hx1) fun v24 w24 hv24 => ?_))
    obtain ⟨hv24, hb11⟩ := hv24
    obtain rfl := vbool_eq hv24
    exact ⟨hb11, Z⟩
   ·
    intro w25 D hS14 hd14
    exact dg_sub (E' := [(6, (.bool true))]) ⟨(dpE hd14 1 Z Z), trivial⟩ (dg_plain Z (ow_move Z Z ⟨BX.refl _ _, Z⟩))
   ·
    intro w26 D hS15 hd15
    have hl26 := Le.no M hS15
    exact dg_sub (E' := [(7, (.bool true)), (3, (.pointer (some p2)))]) ⟨(dpE hd15 2 Z Z), Z, trivial⟩ (dg_on Z Z Z Z (ow_load (R := RBox) Z Z (ARep.mono hl26 hp2) (Tryd.sizeOf27 _) (Tryd.isAgg27 _) fun v25 hv25 => ⟨BX.refl _ _, hv25⟩))
   ·
    intro w27 D hS16 hd16
    have hl27 := Le.no M hS16
    have hC27 := hC2.no hS16
    have d31 : PV RBox M a_b (D 3) w27 := dpA hd16 3 Z
    generalize hq7 : (D 3) = v26 at d31
    refine dg_sub (E' := [(8, v26), (7, (.bool true))]) ⟨(congrArg some hq7), (dpE hd16 2 Z Z), trivial⟩ (dg_on Z Z Z Z (ow_call Z Z Tryd.call30 (w_impl_BoxValid (hG.mono (hz3.trans hl27)) hC27.old d31 hx2) fun v27 w28 hv27 => ?_))
    obtain ⟨hv27, hb12⟩ := hv27
    obtain rfl := vbool_eq hv27
    exact ⟨hb12, Z⟩
   ·
    intro w29 D hS17 hd17
    exact dg_sub (E' := [(7, (.bool true)), (9, (.bool false))]) ⟨(dpE hd17 2 Z Z), (dpE hd17 4 Z Z), trivial⟩ (dg_plain Z (ow_pickT Z Z Z ⟨BX.refl _ _, Z⟩))
   ·
    intro w30 D hS18 hd18
    exact dg_sub (E' := [(10, (.bool false))]) ⟨(dpE hd18 5 Z Z), trivial⟩ (dg_plain Z (ow_move Z Z ⟨BX.refl _ _, Z⟩))
   ·
    intro w31 D hS19 hd19
    exact dg_sub (E' := [(11, (.bool false)), (2, (.pointer (some p1)))]) ⟨(dpE hd19 6 Z Z), Z, trivial⟩ (dg_off Z Z Z Z ⟨BX.refl _ _, Z⟩)
   ·
    intro w32 D hS20 hd20
    exact dg_sub (E' := [(12, undef), (11, (.bool false))]) ⟨(dpE hd20 7 Z Z), (dpE hd20 6 Z Z), trivial⟩ (dg_off Z Z Z Z ⟨BX.refl _ _, Z⟩)
   ·
    intro w33 D hS21 hd21
    exact dg_sub (E' := [(11, (.bool false)), (3, (.pointer (some p2)))]) ⟨(dpE hd21 6 Z Z), Z, trivial⟩ (dg_off Z Z Z Z ⟨BX.refl _ _, Z⟩)
   ·
    intro w34 D hS22 hd22
    have hC34 := hC2.no hS22
    refine lw_sub (E' := [(11, (.bool false)), (13, undef), (14, undef), (2, (.pointer (some p1))), (3, (.pointer (some p2))), (4, (.bool false))]) ⟨(dpE hd22 6 Z Z), (dpE hd22 8 Z Z), (dpE hd22 9 Z Z), Z, Z, Z, trivial⟩ (lw_off Z Z Z Z Z Z (lw_off Z Z Z Z Z Z (lw_op Z Z Z (ow_pickF Z Z Z (lw_op Z Z Z (ow_assign Z Z (lw_nil (ew_then (cw_ret ?_)))))))))
    obtain rfl := Option.some.inj h
    exact ew_ret (res1 Z (.tmp Z)) ⟨_, Z, ((vbool _)), hC34.bx⟩
 ·
  subst hc1
  have hz4 := (hl1.trans hl2)
  refine cw_sub (E' := [(2, (.pointer (some p1))), (3, (.pointer (some p2))), (4, (.bool false))]) ⟨Z, Z, Z, trivial⟩ (cw_drawQ 10 [PV RBox M a_a, PEq (.bool false), PEq (.bool false), PEq undef, PEq undef, PEq (.bool false), PEq (.bool false), PEq undef, PEq undef, PEq undef] (by kernel_rfl) Z (by kernel_rfl) ⟨PV.mono _ _ _, PEq.mono _, PEq.mono _, PEq.mono _, PEq.mono _, PEq.mono _, PEq.mono _, PEq.mono _, PEq.mono _, PEq.mono _, trivial⟩ ⟨?_, ?_, ?_, ?_, ?_, ?_, ?_, ?_, ?_, ?_, trivial⟩ ?_)
  ·
   intro w35 D hS23 hd23
   have hl35 := Le.no M hS23
   exact dg_sub (E' := [(2, (.pointer (some p1)))]) ⟨Z, trivial⟩ (dg_plain Z (ow_load (R := RBox) Z Z (ARep.mono (hl2.trans hl35) hp1) (Tryd.sizeOf27 _) (Tryd.isAgg27 _) fun v28 hv28 => ⟨BX.refl _ _, hv28⟩))
  ·
   intro w36 D hS24 hd24
   have hl36 := Le.no M hS24
   have hC36 := hC2.no hS24
   have d53 : PV RBox M a_a (D 0) w36 := dpA hd24 0 Z
   generalize hq8 : (D 0) = v29 at d53
   refine dg_sub (E' := [(5, v29)]) ⟨(congrArg some hq8), trivial⟩ (dg_plain Z (ow_call Z Z Tryd.call30 (w_impl_BoxValid (hG.mono (hz4.trans hl36)) hC36.old d53 hx1) fun v30 w37 hv30 => ?_))
   obtain ⟨hv30, hb13⟩ := hv30
   obtain rfl := vbool_eq hv30
   exact ⟨hb13, Z⟩
  ·
   intro w38 D hS25 hd25
   exact dg_sub (E' := [(6, (.bool false))]) ⟨(dpE hd25 1 Z Z), trivial⟩ (dg_plain Z (ow_move Z Z ⟨BX.refl _ _, Z⟩))
  ·
   intro w39 D hS26 hd26
   exact dg_sub (E' := [(7, (.bool false)), (3, (.pointer (some p2)))]) ⟨(dpE hd26 2 Z Z), Z, trivial⟩ (dg_off Z Z Z Z ⟨BX.refl _ _, Z⟩)
  ·
   intro w40 D hS27 hd27
   exact dg_sub (E' := [(8, undef), (7, (.bool false))]) ⟨(dpE hd27 3 Z Z), (dpE hd27 2 Z Z), trivial⟩ (dg_off Z Z Z Z ⟨BX.refl _ _, Z⟩)
  ·
   intro w41 D hS28 hd28
   exact dg_sub (E' := [(7, (.bool false)), (9, undef)]) ⟨(dpE hd28 2 Z Z), (dpE hd28 4 Z Z), trivial⟩ (dg_plain Z (ow_pickF Z Z Z ⟨BX.refl _ _, Z⟩))
  ·
   intro w42 D hS29 hd29
   exact dg_sub (E' := [(10, (.bool false))]) ⟨(dpE hd29 5 Z Z), trivial⟩ (dg_plain Z (ow_move Z Z ⟨BX.refl _ _, Z⟩))
  ·
   intro w43 D hS30 hd30
   exact dg_sub (E' := [(11, (.bool false)), (2, (.pointer (some p1)))]) ⟨(dpE hd30 6 Z Z), Z, trivial⟩ (dg_off Z Z Z Z ⟨BX.refl _ _, Z⟩)
  ·
   intro w44 D hS31 hd31
   exact dg_sub (E' := [(12, undef), (11, (.bool false))]) ⟨(dpE hd31 7 Z Z), (dpE hd31 6 Z Z), trivial⟩ (dg_off Z Z Z Z ⟨BX.refl _ _, Z⟩)
  ·
   intro w45 D hS32 hd32
   exact dg_sub (E' := [(11, (.bool false)), (3, (.pointer (some p2)))]) ⟨(dpE hd32 6 Z Z), Z, trivial⟩ (dg_off Z Z Z Z ⟨BX.refl _ _, Z⟩)
  ·
   intro w46 D hS33 hd33
   have hC46 := hC2.no hS33
   refine lw_sub (E' := [(11, (.bool false)), (13, undef), (14, undef), (2, (.pointer (some p1))), (3, (.pointer (some p2))), (4, (.bool false))]) ⟨(dpE hd33 6 Z Z), (dpE hd33 8 Z Z), (dpE hd33 9 Z Z), Z, Z, Z, trivial⟩ (lw_off Z Z Z Z Z Z (lw_off Z Z Z Z Z Z (lw_op Z Z Z (ow_pickF Z Z Z (lw_op Z Z Z (ow_assign Z Z (lw_nil (ew_then (cw_ret ?_)))))))))
   obtain rfl := Option.some.inj h
   exact ew_ret (res1 Z (.tmp Z)) ⟨_, Z, ((vbool _)), hC46.bx⟩

theorem w_impl_sides_box {w : World} {M : Nat → Prop} (_hG : ARep (RArr 4 RShape) w M shapes ⟨0, 0, none⟩) (hO : ∀ b, M b → b < w.heap.size) {v0p : Value} {a_s : List (List Span)} (h0 : VRep (RArr 4 (RSlice RSpan)) w M a_s v0p) {r : Box} (h : F.impl_sides_box a_s = some r) :
  Calls Tryd.prog 57 [v0p].toArray w fun e w' => ∃ v, e = .returned v ∧ VRep RBox w' M r v ∧ BX No w w' := by
 obtain ⟨i58, hi58, hz58, hs58, hy58⟩ := info58
 obtain ⟨i76, hi76, hz76, hs76, hy76⟩ := info76
 have hC : Cx No w M w M := Cx.start hO (fun _ e => e.elim)
 clear _hG
 refine walk (N := 21) Tryd.func57 Z Tryd.ntmps57 Z (cw_seq (cw_region (lw_op Z Z Z (ow_box (R := (RArr 4 (RSlice RSpan))) Z Z h0 hC fun p1 w1 hp1 hb1 hl1 hC1 => lw_op Z Z Z (ow_alloc Z (Tryd.zeroValue27 _) hC1 fun g1 w2 hg1 hg2 ho1 hb2 hl2 hC2 => ?_)))))
 have hm1 : (Add g1 M) g1 := .inl Z
 refine lw_nil (ew_then (cw_seq (cw_region ?_)))
 replace h := bind_some h
 obtain ⟨mk1, hmk1, h⟩ := h
 refine lw_op Z Z Z (ow_make (R := (RSlice RSpan)) Z Z Z Tryd.underlying25 hi58 hz58 hs58 hy58 Z Z vslice_nil hmk1 hC2 fun v1 w3 M1 hr1 hb3 hl3 hC3 hM1 hat1 => ?_)
 have ho2 := ho1.no hb3
 have hm2 := hM1 _ hm1
 obtain ⟨A1, c1, rfl⟩ := hr1.len
 refine lw_op Z Z Z (ow_build (v := .agg #[(.slice A1 mk1.length c1)]) Z Z (by kernel_rfl) (lw_op Z Z Z (ow_alloc Z (Tryd.zeroValue27 _) hC3 fun g2 w4 hg3 hg4 ho3 hb4 hl4 hC4 => ?_)))
 have hn1 := Nat.ne_of_lt (Nat.lt_of_lt_of_le ho2.lt hg3)
 have ho4 := ho2.no hb4
 have hm3 : (Add g2 M1) g1 := .inr hm2
 have hr2 := hr1.add hb4 hg3
 have hm4 : (Add g2 M1) g2 := .inl Z
 refine lw_op0 Z Z (ow_store (X := No) (us := [(.slice A1 mk1.length c1)]) (cs' := #[(.slice A1 mk1.length c1)]) Z Z Z Z ho3 (Tryd.sizeOf27 _) Z Z Z Z hm4 (.inl hg4) Z hC4 fun w5 ho5 hb5 hl5 hC5 => ?_)
 have ho6 := ho4.go hb5 (fun e => hn1 e)
 have hr3 := hr2.go hb5 (fun k hk e => (orow_ne hr2 ho3 (by decide)) (hk.trans (congrArg some e))) hl5 (fun _ h => h)
 refine lw_nil (ew_then (cw_seq (cw_seq (cw_region ?_))))
 have hz1 := (((hl2.trans hl3).trans hl4).trans hl5)
 refine lw_op Z Z Z (ow_load (R := (RArr 4 (RSlice RSpan))) Z Z (ARep.mono hz1 hp1) (Tryd.sizeOf69 _) (Tryd.isAgg69 _) fun v2 hv2 => lw_op Z Z Z (ow_move Z Z (lw_nil (ew_then ?_))))
 replace h := bind_some h
 obtain ⟨lr1, hlr1, h⟩ := h
 refine cw_for hlr1 (fun s a w' => ∃ (M' : Nat → Prop), Fits 21 [(2, (.pointer (some ⟨g1, 0, none⟩))), (3, (.pointer (some ⟨g2, 0, none⟩))), (8, v2), (9, (.int .i64 s.1))] a ∧ Le w5 (Add g2 M1) w' M' ∧ Cx No w M w' M' ∧ OwnRow (RSlice RSpan) w.heap.size 58 w' M' s.2 (.slice A1 mk1.length c1) ∧ Own w' g1 27 #[(.slice none 0 0)] ∧ M' g1 ∧ Own w' g2 27 #[(.slice A1 mk1.length c1)] ∧ M' g2) ?_ ?_ ?_
 ·
  intro a ha
  exact ⟨(Add g2 M1), ha.sub ⟨Z, Z, Z, Z, trivial⟩, Le.refl _ _, hC5, hr3, ho6, hm3, ho5, hm4⟩
 ·
  rintro ⟨k1, y1⟩ a w6 sr1 ⟨M2, hF1, hl6, hC6, hw1, ho7, hm5, ho8, hm6⟩ hb6 hR1
  refine cw_at (E := [(2, (.pointer (some ⟨g1, 0, none⟩))), (3, (.pointer (some ⟨g2, 0, none⟩))), (8, v2), (9, (.int .i64 k1))]) hF1 (cw_seq (cw_region (lw_op Z Z Z (ow_lss Z Z Z fun bb1 hbb1 => lw_nil (ew_then (cw_seq ?_))))))
  replace hb6 := cond_some hb6
  rcases hb6 with ⟨hc1, hb6⟩ | ⟨hc1, hb6⟩
  ·
   obtain rfl := hbb1.trans hc1
   refine cw_true Z (cw_skip (ew_then (cw_seq (cw_block (cw_seq (cw_region (lw_op Z Z Z (ow_move Z Z ?_))))))))
   replace hb6 := bind_some hb6
   obtain ⟨x1, hx1, hb6⟩ := hb6
   refine lw_op Z Z Z (ow_index (R := (RSlice RSpan)) Z Z Z (VRep.mono hl6 hv2) Tryd.underlying69 (Tryd.sizeOf58 _) (Tryd.isAgg58 _) hx1 fun v5 hv5 => lw_op Z Z Z (ow_assign Z Z (lw_op Z Z Z (ow_assign Z Z (lw_nil (ew_then ?_))))))
   replace hb6 := bind_some hb6
   obtain ⟨z1, hz1, hb6⟩ := hb6
   refine cw_sub (E' := [(2, (.pointer (some ⟨g1, 0, none⟩))), (3, (.pointer (some ⟨g2, 0, none⟩))), (4, (.int .i64 k1)), (5, v5), (8, v2), (9, (.int .i64 k1))]) ⟨Z, Z, Z, Z, Z, Z, trivial⟩ (cw_drawQ 5 [PEq (.pointer (some ⟨g2, 0, none⟩)), PEq (.slice A1 mk1.length c1), PEq (.int .i64 k1), PV (RSlice RSpan) M2 x1, PV (RSlice RSpan) M2 z1] (by kernel_rfl) Z (by kernel_rfl) ⟨PEq.mono _, PEq.mono _, PEq.mono _, PV.mono _ _ _, PV.mono _ _ _, trivial⟩ ⟨?_, ?_, ?_, ?_, ?_, trivial⟩ ?_)
   ·
    intro w8 D hS1 hd1
    exact dg_sub (E' := [(3, (.pointer (some ⟨g2, 0, none⟩)))]) ⟨Z, trivial⟩ (dg_plain Z (ow_fieldAddr Z Z Tryd.underlying27 Z (Tryd.sizeOf25 _) ⟨BX.refl _ _, Z⟩))
   ·
    intro w9 D hS2 hd2
    have ho14 := ho8.no hS2
    exact dg_sub (E' := [(13, (.pointer (some ⟨g2, 0, none⟩)))]) ⟨(dpE hd2 0 Z Z), trivial⟩ (dg_plain Z (ow_loadOwn1 Z Z Z ho14 (Tryd.isAgg25 _) Z ⟨BX.refl _ _, Z⟩))
   ·
    intro w10 D hS3 hd3
    exact dg_sub (E' := [(4, (.int .i64 k1))]) ⟨Z, trivial⟩ (dg_plain Z (ow_move Z Z ⟨BX.refl _ _, Z⟩))
   ·
    intro w11 D hS4 hd4
    have hl11 := Le.no M2 hS4
    exact dg_sub (E' := [(5, v5)]) ⟨Z, trivial⟩ (dg_plain Z (ow_move Z Z ⟨BX.refl _ _, (VRep.mono hl11 hv5)⟩))
   ·
    intro w12 D hS5 hd5
    have hC12 := hC6.no hS5
    have d2 : PV (RSlice RSpan) M2 x1 (D 3) w12 := dpA hd5 3 Z
    generalize hq1 : (D 3) = v7 at d2
    exact dg_sub (E' := [(16, v7)]) ⟨(congrArg some hq1), trivial⟩ (dg_plain Z (ow_appendCopy (R := RSpan) Z Z Z Z Tryd.underlying58 hi76 hz76 hs76 hy76 Z Z Z Z d2 hz1 hC12 fun v8 w13 hw3 hb8 hl13 hC13 => ⟨hb8, hw3⟩))
   ·
    intro w14 D hS6 hd6
    have d7 : PV (RSlice RSpan) M2 z1 (D 4) w14 := dpA hd6 4 Z
    have hl14 := Le.no M2 hS6
    have hC14 := hC6.no hS6
    have ho23 := ho7.no hS6
    have ho24 := ho8.no hS6
    have hr11 := hw1.no hS6
    generalize hq2 : (D 4) = v9 at d7
    refine lw_sub (E' := [(14, (.slice A1 mk1.length c1)), (15, (.int .i64 k1)), (17, v9), (2, (.pointer (some ⟨g1, 0, none⟩))), (3, (.pointer (some ⟨g2, 0, none⟩))), (4, (.int .i64 k1)), (5, v5), (8, v2), (9, (.int .i64 k1))]) ⟨(dpE hd6 1 Z Z), (dpE hd6 2 Z Z), (congrArg some hq2), Z, Z, Z, Z, Z, Z, trivial⟩ ?_
    replace hb6 := bind_some hb6
    obtain ⟨x2, hx2, hb6⟩ := hb6
    refine lw_op Z Z Z (ow_indexRow (R := (RSlice RSpan)) Z Z Z hr11 Tryd.underlying25 (Tryd.sizeOf58 _) hx2 (lw_op0 Z Z (ow_storeElRow (X := No) (R := (RSlice RSpan)) (S := (RSlice RSpan)) Z Z Z Z hr11 (orow_blk hr11 hx2) hx2 (FldSet.whole (RSlice RSpan)) (Tryd.sizeOf58 _) d7 (Nat.le_refl _) hC14 fun w15 ho25 hb9 hl15 hC15 => ?_)))
    have ho26 := ho23.go hb9 (fun e => (orow_ne hr11 ho23 (by decide)) (by rw [orow_blk hr11 hx2]; exact congrArg some e.symm))
    have ho27 := ho24.go hb9 (fun e => (orow_ne hr11 ho24 (by decide)) (by rw [orow_blk hr11 hx2]; exact congrArg some e.symm))
    refine lw_nil (ew_blockN (ew_then (cw_region (lw_op Z Z Z (ow_add Z Z Z (lw_op Z Z Z (ow_move Z Z (lw_nil ?_))))))))
    have hz3 := ((hl6.trans hl14).trans hl15)
    exact ew_nxt ((W (k1 + 1)), (List.set y1 (k1 : Int).toNat z1)) hb6 fun a ha => ⟨M2, (ha.sub ⟨Z, Z, Z, Z, trivial⟩), hz3, hC15, ho25, ho26, hm5, ho27, hm6⟩
  ·
   obtain rfl := hbb1.trans hc1
   exact cw_false Z (cw_exit (ew_thenX (ew_thenX (ew_blockX (ew_brk (k1, y1) hb6 fun a ha => ⟨M2, (ha.sub ⟨Z, Z, Z, Z, trivial⟩), hl6, hC6, hw1, ho7, hm5, ho8, hm6⟩)))))
 ·
  rintro ⟨k2, y2⟩ a w16 hlr2 ⟨M3, hF2, hl16, hC16, hw4, ho28, hm7, ho29, hm8⟩
  subst hlr2
  refine ew_at (E := [(2, (.pointer (some ⟨g1, 0, none⟩))), (3, (.pointer (some ⟨g2, 0, none⟩))), (8, v2), (9, (.int .i64 k2))]) hF2 (ew_then (cw_seq (cw_region (lw_op Z Z Z (ow_loadOwnA Z Z Z ho29 (Tryd.isAgg27 _) (Tryd.sizeOf27 _) Z ?_)))))
  have hw5 := hw4.freezeDel
  have hC17 := hw4.cxDel hC16 (fun _ e => e.elim) hO
  have hm9 : (Del (.slice A1 mk1.length c1) M3) g1 := ⟨hm7, fun e => (orow_ne hw4 ho28 (by decide)) e⟩
  refine lw_op0 Z Z (ow_store (X := No) (us := [(.slice A1 mk1.length c1)]) (cs' := #[(.slice A1 mk1.length c1)]) Z Z Z Z ho28 (Tryd.sizeOf27 _) Z Z Z Z hm9 (.inl hg2) Z hC17 fun w17 ho30 hb10 hl18 hC18 => lw_nil (ew_then (cw_ret ?_)))
  have hw7 : VRep RBox w17 (Del (.slice A1 mk1.length c1) M3) ({ Sides := y2 } : Box) (.agg #[(.slice A1 mk1.length c1)]) := shut_Box (VRep.mono hl18 hw5)
  obtain rfl := Option.some.inj h
  exact ew_ret (res1 Z (.cell Z (own_loadVarA ho30 (Tryd.isAgg27 _) (Tryd.sizeOf27 _) Z))) ⟨_, Z, (hw7.mono hC18.back), hC18.bx⟩

theorem w_impl_limitSpans {w : World} {M : Nat → Prop} (_hG : ARep (RArr 4 RShape) w M shapes ⟨0, 0, none⟩) (hO : ∀ b, M b → b < w.heap.size) {v0p : Value} {a_list : List Span} (h0 : VRep (RSlice RSpan) w M a_list v0p) {r : (List Span) × Bool} (h : F.impl_limitSpans a_list = some r) :
  Calls Tryd.prog 110 [v0p].toArray w fun e w' => ∃ v, e = .returned v ∧ (∃ u0 u1, v = .tuple #[u0, u1] ∧ VRep (RSlice RSpan) w' M r.1 u0 ∧ VRep RBool w' M r.2 u1) ∧ BX No w w' := by
 have hC : Cx No w M w M := Cx.start hO (fun _ e => e.elim)
 clear _hG
 refine walk (N := 8) Tryd.func110 Z Tryd.ntmps110 Z (cw_seq (cw_region (lw_op Z Z Z (ow_assign Z Z (lw_op Z Z Z (ow_assign Z Z (lw_nil (ew_then (cw_seq (cw_seq (cw_region (lw_op Z Z Z (ow_move Z Z (lw_op Z Z Z (ow_len Z Z h0 Tryd.underlying58 Z (lw_op Z Z Z (ow_gtr Z Z Z fun bb1 hbb1 => lw_nil (ew_then ?_))))))))))))))))))
 replace h := cond_some h
 rcases h with ⟨hc1, h⟩ | ⟨hc1, h⟩
 ·
  obtain rfl := hbb1.trans hc1
  refine cw_true Z (cw_seq (cw_region (lw_op Z Z Z (ow_assign Z Z (lw_op Z Z Z (ow_assign Z Z (lw_nil (ew_then (cw_ret (ew_thenR ?_))))))))))
  obtain rfl := Option.some.inj h
  exact ew_ret (res2 Z (.tmp Z) (.tmp Z)) ⟨_, Z, ⟨_, _, Z, (VRep.mono hC.back (vslice_nil (R := RSpan) (w := w) (M := M))), ((vbool _))⟩, hC.bx⟩
 ·
  obtain rfl := hbb1.trans hc1
  refine cw_false Z (cw_skip (ew_then (cw_seq (cw_region (lw_op Z Z Z (ow_move Z Z (lw_op Z Z Z (ow_assign Z Z (lw_op Z Z Z (ow_assign Z Z (lw_nil (ew_then (cw_ret ?_)))))))))))))
  obtain rfl := Option.some.inj h
  exact ew_ret (res2 Z (.tmp Z) (.tmp Z)) ⟨_, Z, ⟨_, _, Z, (VRep.mono hC.back h0), ((vbool _))⟩, hC.bx⟩

theorem w_impl_inBoth {w : World} {M : Nat → Prop} (_hG : ARep (RArr 4 RShape) w M shapes ⟨0, 0, none⟩) (hO : ∀ b, M b → b < w.heap.size) {b0 a_inA : Bool} (h0 : b0 = a_inA) {b1 a_inB : Bool} (h1 : b1 = a_inB) {r : Bool} (h : F.impl_inBoth a_inA a_inB = some r) :
  Calls Tryd.prog 111 [(.bool b0), (.bool b1)].toArray w fun e w' => ∃ v, e = .returned v ∧ VRep RBool w' M r v ∧ BX No w w' := by
 have hC : Cx No w M w M := Cx.start hO (fun _ e => e.elim)
 clear _hG
 refine walk (N := 9) Tryd.func111 Z Tryd.ntmps111 Z (cw_seq (cw_region (lw_op Z Z Z (ow_assign Z Z (lw_nil (ew_then (cw_seq (cw_region (lw_op Z Z Z (ow_move Z Z (lw_op Z Z Z (ow_move Z Z ?_))))))))))))
 replace h := cond_some h
 rcases h with ⟨hc1, h⟩ | ⟨hc1, h⟩
 ·
  obtain rfl := h0.trans hc1
  refine lw_on Z Z Z Z Z Z (ow_move Z Z (lw_op Z Z Z (ow_pickT Z Z Z (lw_op Z Z Z (ow_assign Z Z (lw_nil (ew_then (cw_ret ?_))))))))
  obtain rfl := Option.some.inj h
  exact ew_ret (res1 Z (.tmp Z)) ⟨_, Z, ((vbool_of h1)), hC.bx⟩
 ·
  obtain rfl := h0.trans hc1
  refine lw_off Z Z Z Z Z Z (lw_op Z Z Z (ow_pickF Z Z Z (lw_op Z Z Z (ow_assign Z Z (lw_nil (ew_then (cw_ret ?_)))))))
  obtain rfl := Option.some.inj h
  exact ew_ret (res1 Z (.tmp Z)) ⟨_, Z, ((vbool _)), hC.bx⟩

theorem w_impl_sweepSpans__impl_inBoth {w : World} {M : Nat → Prop} (hG : ARep (RArr 4 RShape) w M shapes ⟨0, 0, none⟩) (hO : ∀ b, M b → b < w.heap.size) {v0p : Value} {a_a : List Span} (h0 : VRep (RSlice RSpan) w M a_a v0p) {v1p : Value} {a_b : List Span} (h1 : VRep (RSlice RSpan) w M a_b v1p) {a_top : Int} {r : (List Span)} (h : F.impl_sweepSpans__impl_inBoth a_a a_b a_top = some r) :
  Calls Tryd.prog 99 [v0p, v1p, (.int .i64 a_top), (.func (.func 111) #[] #[])].toArray w fun e w' => ∃ v, e = .returned v ∧ VRep (RSlice RSpan) w' M r v ∧ BX No w w' := by
 obtain ⟨i76, hi76, hz76, hs76, hy76⟩ := info76
 have hC : Cx No w M w M := Cx.start hO (fun _ e => e.elim)
 refine walk (N := 107) Tryd.func99 Z Tryd.ntmps99 Z (cw_seq (cw_region (lw_op Z Z Z (ow_assign Z Z (lw_nil (ew_then (cw_seq (cw_region (lw_op Z Z Z (ow_assign Z Z (lw_nil (ew_then (cw_seq (cw_region (lw_op Z Z Z (ow_assign Z Z (lw_op Z Z Z (ow_assign Z Z (lw_nil (ew_then (cw_seq (cw_seq (cw_region (lw_op Z Z Z (ow_assign Z Z (lw_nil (ew_then ?_)))))))))))))))))))))))))))
 have hr1 : OwnRow RSpan w.heap.size 76 w M ([] : List Span) (.slice none 0 0) := ownrow_nil
 replace h := bind_some h
 obtain ⟨lr1, hlr1, h⟩ := h
 refine cw_for hlr1 (fun s a w' => ∃ (M' : Nat → Prop) (v0c : Value), Fits 107 [(0, v0p), (1, v1p), (2, (.int .i64 a_top)), (3, (.func (.func 111) #[] #[])), (9, v0c), (10, (.int .i64 s.2.1)), (11, (.int .i64 s.2.2.1)), (12, (.int .i64 s.2.2.2))] a ∧ Le w M w' M' ∧ Cx No w M w' M' ∧ OwnRow RSpan w.heap.size 76 w' M' s.1 v0c) ?_ ?_ ?_
 ·
  intro a ha
  exact ⟨M, (.slice none 0 0), ha.sub ⟨Z, Z, Z, Z, Z, Z, Z, Z, trivial⟩, Le.refl _ _, hC, hr1⟩
 ·
  rintro ⟨y1, k1, k2, k3⟩ a w1 sr1 ⟨M1, v1, hF1, hl1, hC1, hw1⟩ hb1 hR1
  refine cw_at (E := [(0, v0p), (1, v1p), (2, (.int .i64 a_top)), (3, (.func (.func 111) #[] #[])), (9, v1), (10, (.int .i64 k1)), (11, (.int .i64 k2)), (12, (.int .i64 k3))]) hF1 (cw_seq (cw_seq (cw_region (lw_op Z Z Z (ow_move Z Z (lw_op Z Z Z (ow_move Z Z (lw_op Z Z Z (ow_leq Z Z Z fun bb1 hbb1 => lw_nil (ew_then ?_))))))))))
  replace hb1 := cond_some hb1
  rcases hb1 with ⟨hc1, hb1⟩ | ⟨hc1, hb1⟩
  ·
   obtain rfl := hbb1.trans hc1
   refine cw_true Z (cw_skip (ew_then (cw_block (cw_seq ?_))))
   replace hb1 := bind_some hb1
   obtain ⟨lr2, hlr2, hb1⟩ := hb1
   refine cw_for hlr2 (fun s a w' => ∃ (M' : Nat → Prop), Fits 107 [(0, v0p), (1, v1p), (2, (.int .i64 a_top)), (3, (.func (.func 111) #[] #[])), (9, v1), (10, (.int .i64 s.1)), (11, (.int .i64 k2)), (12, (.int .i64 k3))] a ∧ Le w1 M1 w' M' ∧ Cx No w M w' M' ∧ OwnRow RSpan w.heap.size 76 w' M' s.2 v1) ?_ ?_ ?_
   ·
    intro a ha
    exact ⟨M1, ha.sub ⟨Z, Z, Z, Z, Z, Z, Z, Z, trivial⟩, Le.refl _ _, hC1, hw1⟩
   ·
    rintro ⟨k4, y2⟩ a w2 sr2 ⟨M2, hF2, hl2, hC2, hw2⟩ hb2 hR2
    refine cw_at (E := [(0, v0p), (1, v1p), (2, (.int .i64 a_top)), (3, (.func (.func 111) #[] #[])), (9, v1), (10, (.int .i64 k4)), (11, (.int .i64 k2)), (12, (.int .i64 k3))]) hF2 (cw_seq (cw_seq (cw_region (lw_op Z Z Z (ow_move Z Z (lw_op Z Z Z (ow_move Z Z (lw_op Z Z Z (ow_len Z Z (VRep.mono (hl1.trans hl2) h0) Tryd.underlying58 Z (lw_op Z Z Z (ow_lss Z Z Z fun bb2 hbb2 => lw_op Z Z Z (ow_move Z Z ?_))))))))))))
    replace hb2 := cond_some hb2
    rcases hb2 with ⟨hc2, hb2⟩ | ⟨hc2, hb2⟩
    ·
     obtain rfl := hbb2.trans hc2
     refine lw_on Z Z Z Z Z Z (ow_move Z Z (lw_on Z Z Z Z Z Z (ow_move Z Z ?_)))
     replace hb2 := bind_some hb2
     obtain ⟨x1, hx1, hb2⟩ := hb2
     refine lw_on Z Z Z Z Z Z (ow_indexSlice (R := RSpan) Z Z Z (VRep.mono (hl1.trans hl2) h0) Tryd.underlying58 (Tryd.sizeOf76 _) hx1 fun p1 hp1 => lw_on Z Z Z Z Z Z (ow_fieldAddr Z Z Tryd.underlying76 Z (Tryd.sizeOf3 _) (lw_on Z Z Z Z Z Z (ow_load (R := RInt) Z Z (hp1.fld fld_Span_Hi) (Tryd.sizeOf3 _) (Tryd.isAgg3 _) fun v7 hv7 => ?_))))
     obtain rfl := vint_eq hv7
     refine lw_on Z Z Z Z Z Z (ow_move Z Z (lw_on Z Z Z Z Z Z (ow_lss Z Z Z fun bb3 hbb3 => lw_op Z Z Z (ow_pickT Z Z Z (lw_nil (ew_then ?_))))))
     replace hb2 := cond_some hb2
     rcases hb2 with ⟨hc3, hb2⟩ | ⟨hc3, hb2⟩
     ·
      obtain rfl := hbb3.trans hc3
      exact cw_true Z (cw_skip (ew_then (cw_block (cw_region (lw_op Z Z Z (ow_move Z Z (lw_op Z Z Z (ow_add Z Z Z (lw_op Z Z Z (ow_assign Z Z (lw_nil (ew_blockN (ew_nxt ((W (k4 + 1)), y2) hb2 fun a ha => ⟨M2, (ha.sub ⟨Z, Z, Z, Z, Z, Z, Z, Z, trivial⟩), hl2, hC2, hw2⟩)))))))))))))
     ·
      obtain rfl := hbb3.trans hc3
      exact cw_false Z (cw_exit (ew_thenX (ew_thenX (ew_blockX (ew_brk (k4, y2) hb2 fun a ha => ⟨M2, (ha.sub ⟨Z, Z, Z, Z, Z, Z, Z, Z, trivial⟩), hl2, hC2, hw2⟩)))))
    ·
     obtain rfl := hbb2.trans hc2
     exact lw_off Z Z Z Z Z Z (lw_off Z Z Z Z Z Z (lw_off Z Z Z Z Z Z (lw_off Z Z Z Z Z Z (lw_off Z Z Z Z Z Z (lw_off Z Z Z Z Z Z (lw_off Z Z Z Z Z Z (lw_op Z Z Z (ow_pickF Z Z Z (lw_nil (ew_then (cw_false Z (cw_exit (ew_thenX (ew_thenX (ew_blockX (ew_brk (k4, y2) hb2 fun a ha => ⟨M2, (ha.sub ⟨Z, Z, Z, Z, Z, Z, Z, Z, trivial⟩), hl2, hC2, hw2⟩))))))))))))))))
   ·
    rintro ⟨k5, y3⟩ a w3 hlr3 ⟨M3, hF3, hl3, hC3, hw3⟩
    subst hlr3
    refine ew_at (E := [(0, v0p), (1, v1p), (2, (.int .i64 a_top)), (3, (.func (.func 111) #[] #[])), (9, v1), (10, (.int .i64 k5)), (11, (.int .i64 k2)), (12, (.int .i64 k3))]) hF3 (ew_then (cw_seq ?_))
    replace hb1 := bind_some hb1
    obtain ⟨lr3, hlr4, hb1⟩ := hb1
    refine cw_for hlr4 (fun s a w' => ∃ (M' : Nat → Prop), Fits 107 [(0, v0p), (1, v1p), (2, (.int .i64 a_top)), (3, (.func (.func 111) #[] #[])), (9, v1), (10, (.int .i64 k5)), (11, (.int .i64 s.1)), (12, (.int .i64 k3))] a ∧ Le w3 M3 w' M' ∧ Cx No w M w' M' ∧ OwnRow RSpan w.heap.size 76 w' M' s.2 v1) ?_ ?_ ?_
    ·
     intro a ha
     exact ⟨M3, ha.sub ⟨Z, Z, Z, Z, Z, Z, Z, Z, trivial⟩, Le.refl _ _, hC3, hw3⟩
    ·
     rintro ⟨k6, y4⟩ a w4 sr3 ⟨M4, hF4, hl4, hC4, hw4⟩ hb3 hR3
     refine cw_at (E := [(0, v0p), (1, v1p), (2, (.int .i64 a_top)), (3, (.func (.func 111) #[] #[])), (9, v1), (10, (.int .i64 k5)), (11, (.int .i64 k6)), (12, (.int .i64 k3))]) hF4 (cw_seq (cw_seq (cw_region (lw_op Z Z Z (ow_move Z Z (lw_op Z Z Z (ow_move Z Z ?_)))))))
     have hz1 := ((hl1.trans hl3).trans hl4)
     refine lw_op Z Z Z (ow_len Z Z (VRep.mono hz1 h1) Tryd.underlying58 Z (lw_op Z Z Z (ow_lss Z Z Z fun bb4 hbb4 => lw_op Z Z Z (ow_move Z Z ?_))))
     replace hb3 := cond_some hb3
     rcases hb3 with ⟨hc4, hb3⟩ | ⟨hc4, hb3⟩
     ·
      obtain rfl := hbb4.trans hc4
      refine lw_on Z Z Z Z Z Z (ow_move Z Z (lw_on Z Z Z Z Z Z (ow_move Z Z ?_)))
      replace hb3 := bind_some hb3
      obtain ⟨x2, hx2, hb3⟩ := hb3
      refine lw_on Z Z Z Z Z Z (ow_indexSlice (R := RSpan) Z Z Z (VRep.mono hz1 h1) Tryd.underlying58 (Tryd.sizeOf76 _) hx2 fun p2 hp2 => lw_on Z Z Z Z Z Z (ow_fieldAddr Z Z Tryd.underlying76 Z (Tryd.sizeOf3 _) (lw_on Z Z Z Z Z Z (ow_load (R := RInt) Z Z (hp2.fld fld_Span_Hi) (Tryd.sizeOf3 _) (Tryd.isAgg3 _) fun v12 hv12 => ?_))))
      obtain rfl := vint_eq hv12
      refine lw_on Z Z Z Z Z Z (ow_move Z Z (lw_on Z Z Z Z Z Z (ow_lss Z Z Z fun bb5 hbb5 => lw_op Z Z Z (ow_pickT Z Z Z (lw_nil (ew_then ?_))))))
      replace hb3 := cond_some hb3
      rcases hb3 with ⟨hc5, hb3⟩ | ⟨hc5, hb3⟩
      ·
       obtain rfl := hbb5.trans hc5
       exact cw_true Z (cw_skip (ew_then (cw_block (cw_region (lw_op Z Z Z (ow_move Z Z (lw_op Z Z Z (ow_add Z Z Z (lw_op Z Z Z (ow_assign Z Z (lw_nil (ew_blockN (ew_nxt ((W (k6 + 1)), y4) hb3 fun a ha => ⟨M4, (ha.sub ⟨Z, Z, Z, Z, Z, Z, Z, Z, trivial⟩), hl4, hC4, hw4⟩)))))))))))))
      ·
       obtain rfl := hbb5.trans hc5
       exact cw_false Z (cw_exit (ew_thenX (ew_thenX (ew_blockX (ew_brk (k6, y4) hb3 fun a ha => ⟨M4, (ha.sub ⟨Z, Z, Z, Z, Z, Z, Z, Z, trivial⟩), hl4, hC4, hw4⟩)))))
     ·
      obtain rfl := hbb4.trans hc4
      exact lw_off Z Z Z Z Z Z (lw_off Z Z Z Z Z Z (lw_off Z Z Z Z Z Z (lw_off Z Z Z Z Z Z (lw_off Z Z Z Z Z Z (lw_off Z Z Z Z Z Z (lw_off Z Z Z Z Z Z (lw_op Z Z Z (ow_pickF Z Z Z (lw_nil (ew_then (cw_false Z (cw_exit (ew_thenX (ew_thenX (ew_blockX (ew_brk (k6, y4) hb3 fun a ha => ⟨M4, (ha.sub ⟨Z, Z, Z, Z, Z, Z, Z, Z, trivial⟩), hl4, hC4, hw4⟩))))))))))))))))
    ·
     rintro ⟨k7, y5⟩ a w5 hlr5 ⟨M5, hF5, hl5, hC5, hw5⟩
     subst hlr5
     refine ew_at (E := [(0, v0p), (1, v1p), (2, (.int .i64 a_top)), (3, (.func (.func 111) #[] #[])), (9, v1), (10, (.int .i64 k5)), (11, (.int .i64 k7)), (12, (.int .i64 k3))]) hF5 (ew_then (cw_seq (cw_region (lw_op Z Z Z (ow_move Z Z (lw_op Z Z Z (ow_move Z Z ?_)))))))
     replace hb1 := bind_some hb1
     obtain ⟨y6, hy6, hb1⟩ := hb1
     have hz2 := ((hl1.trans hl3).trans hl5)
     refine lw_op Z Z Z (ow_sliceFrom (R := RSpan) Z Z Z (VRep.mono hz2 h0) Tryd.underlying58 (Tryd.sizeOf76 _) (dropF_some hy6).2 fun v15 hv15 => ?_)
     rw [← (dropF_some hy6).1] at hv15
     refine lw_op Z Z Z (ow_move Z Z (lw_op Z Z Z (ow_move Z Z ?_)))
     replace hb1 := bind_some hb1
     obtain ⟨x3, hx3, hb1⟩ := hb1
     refine lw_op Z Z Z (ow_call Z Z Tryd.call114 (w_impl_stretch (hG.mono hz2) hC5.old hv15 hx3) fun v16 w6 hv16 => ?_)
     obtain ⟨⟨v17, v18, rfl, hv17, hv18⟩, hb4⟩ := hv16
     have hl6 := Le.no M5 hb4
     have hC6 := hC5.no hb4
     have hr2 := hw5.no hb4
     obtain ⟨bb6, hbb6, rfl⟩ := vbool_ex hv17
     obtain rfl := vint_eq hv18
     refine lw_op Z Z Z (ow_move Z Z (lw_op Z Z Z (ow_extract Z Z Z (lw_op Z Z Z (ow_extract Z Z Z (lw_op Z Z Z (ow_assign Z Z (lw_op Z Z Z (ow_assign Z Z (lw_nil (ew_then (cw_seq (cw_region (lw_op Z Z Z (ow_move Z Z (lw_op Z Z Z (ow_move Z Z ?_)))))))))))))))))
     replace hb1 := bind_some hb1
     obtain ⟨y7, hy7, hb1⟩ := hb1
     refine lw_op Z Z Z (ow_sliceFrom (R := RSpan) Z Z Z (VRep.mono (hz2.trans hl6) h1) Tryd.underlying58 (Tryd.sizeOf76 _) (dropF_some hy7).2 fun v19 hv19 => ?_)
     rw [← (dropF_some hy7).1] at hv19
     refine lw_op Z Z Z (ow_move Z Z (lw_op Z Z Z (ow_move Z Z ?_)))
     replace hb1 := bind_some hb1
     obtain ⟨x4, hx4, hb1⟩ := hb1
     refine lw_op Z Z Z (ow_call Z Z Tryd.call114 (w_impl_stretch (hG.mono (hz2.trans hl6)) hC6.old hv19 hx4) fun v20 w7 hv20 => ?_)
     obtain ⟨⟨v21, v22, rfl, hv21, hv22⟩, hb5⟩ := hv20
     have hl7 := Le.no M5 hb5
     have hC7 := hC6.no hb5
     have hr3 := hr2.no hb5
     obtain ⟨bb7, hbb7, rfl⟩ := vbool_ex hv21
     obtain rfl := vint_eq hv22
     refine lw_op Z Z Z (ow_move Z Z (lw_op Z Z Z (ow_extract Z Z Z (lw_op Z Z Z (ow_extract Z Z Z (lw_op Z Z Z (ow_assign Z Z (lw_op Z Z Z (ow_assign Z Z (lw_nil (ew_then (cw_seq (cw_region (lw_op Z Z Z (ow_move Z Z (lw_op Z Z Z (ow_move Z Z (lw_op Z Z Z (ow_min Z Z Z (lw_op Z Z Z (ow_assign Z Z (lw_nil (ew_then (cw_seq (cw_seq (cw_region (lw_op Z Z Z (ow_move Z Z (lw_op Z Z Z (ow_move Z Z (lw_op Z Z Z (ow_move Z Z ?_))))))))))))))))))))))))))))))))
     replace hb1 := bind_some hb1
     obtain ⟨x5, hx5, hb1⟩ := hb1
     have hz3 := ((hz2.trans hl6).trans hl7)
     refine lw_op Z Z Z (ow_callv Z Z Z Tryd.call111 (w_impl_inBoth (hG.mono hz3) hC7.old hbb6 hbb7 hx5) fun v23 w8 hv23 => ?_)
     obtain ⟨hv23, hb6⟩ := hv23
     have hl8 := Le.no M5 hb6
     have hC8 := hC7.no hb6
     have hr4 := hr3.no hb6
     obtain rfl := vbool_eq hv23
     refine lw_nil (ew_then ?_)
     replace hb1 := cond_some hb1
     rcases hb1 with ⟨hc6, hb1⟩ | ⟨hc6, hb1⟩
     ·
      subst hc6
      refine cw_true Z (cw_seq (cw_region (lw_op Z Z Z (ow_move Z Z (lw_op Z Z Z (ow_lenOwn Z Z hr4 Tryd.underlying58 (lw_op Z Z Z (ow_assign Z Z (lw_nil (ew_then (cw_seq (cw_region (lw_op Z Z Z (ow_move Z Z (lw_op Z Z Z (ow_gtr Z Z Z fun bb8 hbb8 => lw_op Z Z Z (ow_move Z Z ?_)))))))))))))))))
      replace hb1 := cond_some hb1
      rcases hb1 with ⟨hc7, hb1⟩ | ⟨hc7, hb1⟩
      ·
       obtain rfl := hbb8.trans hc7
       refine lw_on Z Z Z Z Z Z (ow_move Z Z (lw_on Z Z Z Z Z Z (ow_move Z Z (lw_on Z Z Z Z Z Z (ow_sub Z Z Z ?_)))))
       replace hb1 := bind_some hb1
       obtain ⟨x6, hx6, hb1⟩ := hb1
       refine lw_on Z Z Z Z Z Z (ow_indexRow (R := RSpan) Z Z Z hr4 Tryd.underlying58 (Tryd.sizeOf76 _) hx6 (lw_on Z Z Z Z Z Z (ow_fieldAddr Z Z Tryd.underlying76 Z (Tryd.sizeOf3 _) (lw_on Z Z Z Z Z Z (ow_loadElRow (R := RSpan) (S := RInt) Z Z Z hr4 (orow_blk hr4 hx6) hx6 fld_Span_Hi (Tryd.sizeOf3 _) (Tryd.isAgg3 _) fun v24 hv24 => ?_)))))
       obtain rfl := vint_eq hv24
       refine lw_on Z Z Z Z Z Z (ow_add Z Z Z (lw_on Z Z Z Z Z Z (ow_move Z Z (lw_on Z Z Z Z Z Z (ow_eqlI Z Z Z fun bb9 hbb9 => lw_op Z Z Z (ow_pickT Z Z Z (lw_nil (ew_then ?_))))))))
       replace hb1 := cond_some hb1
       rcases hb1 with ⟨hc8, hb1⟩ | ⟨hc8, hb1⟩
       ·
        obtain rfl := hbb9.trans hc8
        refine cw_true Z (cw_region (lw_op Z Z Z (ow_move Z Z (lw_op Z Z Z (ow_move Z Z (lw_op Z Z Z (ow_sub Z Z Z (lw_op Z Z Z (ow_move Z Z (lw_op Z Z Z (ow_indexRow (R := RSpan) Z Z Z hr4 Tryd.underlying58 (Tryd.sizeOf76 _) hx6 (lw_op Z Z Z (ow_fieldAddr Z Z Tryd.underlying76 Z (Tryd.sizeOf3 _) (lw_op0 Z Z (ow_storeElRow (X := No) (R := RSpan) (S := RInt) Z Z Z Z hr4 (orow_blk hr4 hx6) hx6 set_Span_Hi (Tryd.sizeOf3 _) (vint _) (Nat.le_refl _) hC8 fun w9 ho1 hb7 hl9 hC9 => lw_nil (ew_then (cw_region (lw_op Z Z Z (ow_move Z Z (lw_op Z Z Z (ow_add Z Z Z (lw_op Z Z Z (ow_assign Z Z (lw_nil (ew_blockN ?_)))))))))))))))))))))))))
        have hz4 := ((hz3.trans hl8).trans hl9)
        exact ew_nxt ((List.set y5 ((W ((y5.length : Int) - 1)) : Int).toNat { x6 with Hi := (imin x3.2 x4.2) }), k5, k7, (W ((imin x3.2 x4.2) + 1))) hb1 fun a ha => ⟨M5, v1, (ha.sub ⟨Z, Z, Z, Z, Z, Z, Z, Z, trivial⟩), hz4, hC9, ho1⟩
       ·
        obtain rfl := hbb9.trans hc8
        refine cw_false Z (cw_region (lw_op Z Z Z (ow_move Z Z (lw_op Z Z Z (ow_move Z Z (lw_op Z Z Z (ow_move Z Z (lw_op Z Z Z (ow_build (v := .agg #[(.int .i64 k3), (.int .i64 (imin x3.2 x4.2))]) Z Z (by kernel_rfl) ?_)))))))))
        have hw6 : VRep RSpan w8 M5 ({ Lo := k3, Hi := (imin x3.2 x4.2) } : Span) (.agg #[(.int .i64 k3), (.int .i64 (imin x3.2 x4.2))]) := shut_Span
        refine lw_op Z Z Z (ow_buildSlice (R := RSpan) (xs := [({ Lo := k3, Hi := (imin x3.2 x4.2) } : Span)]) (cs := #[(.int .i64 k3), (.int .i64 (imin x3.2 x4.2))]) (e := 76) Z Z (by kernel_rfl) Z Z ⟨_, _, Z, hw6.cells, Z⟩ hC8 fun p3 w10 hw7 hb8 hl10 hC10 => ?_)
        have hr5 := hr4.no hb8
        replace hb1 := bind_some hb1
        obtain ⟨z1, hz1, hb1⟩ := hb1
        refine lw_op Z Z Z (ow_append (R := RSpan) Z Z Z Z Tryd.underlying58 hi76 hz76 hs76 hy76 Z Z Z Z hr5 hw7 hz1 hC10 fun v25 w11 M6 hr6 hb9 hl11 hC11 hM1 hat1 => lw_op Z Z Z (ow_assign Z Z (lw_nil (ew_then (cw_region (lw_op Z Z Z (ow_move Z Z (lw_op Z Z Z (ow_add Z Z Z (lw_op Z Z Z (ow_assign Z Z (lw_nil (ew_blockN ?_)))))))))))))
        have hz5 := (((hz3.trans hl8).trans hl10).trans hl11)
        exact ew_nxt (z1, k5, k7, (W ((imin x3.2 x4.2) + 1))) hb1 fun a ha => ⟨M6, v25, (ha.sub ⟨Z, Z, Z, Z, Z, Z, Z, Z, trivial⟩), hz5, hC11, hr6⟩
      ·
       obtain rfl := hbb8.trans hc7
       refine lw_off Z Z Z Z Z Z (lw_off Z Z Z Z Z Z (lw_off Z Z Z Z Z Z (lw_off Z Z Z Z Z Z (lw_off Z Z Z Z Z Z (lw_off Z Z Z Z Z Z (lw_off Z Z Z Z Z Z (lw_off Z Z Z Z Z Z (lw_off Z Z Z Z Z Z (lw_op Z Z Z (ow_pickF Z Z Z (lw_nil (ew_then (cw_false Z (cw_region (lw_op Z Z Z (ow_move Z Z (lw_op Z Z Z (ow_move Z Z (lw_op Z Z Z (ow_move Z Z (lw_op Z Z Z (ow_build (v := .agg #[(.int .i64 k3), (.int .i64 (imin x3.2 x4.2))]) Z Z (by kernel_rfl) ?_))))))))))))))))))))))
       have hw8 : VRep RSpan w8 M5 ({ Lo := k3, Hi := (imin x3.2 x4.2) } : Span) (.agg #[(.int .i64 k3), (.int .i64 (imin x3.2 x4.2))]) := shut_Span
       refine lw_op Z Z Z (ow_buildSlice (R := RSpan) (xs := [({ Lo := k3, Hi := (imin x3.2 x4.2) } : Span)]) (cs := #[(.int .i64 k3), (.int .i64 (imin x3.2 x4.2))]) (e := 76) Z Z (by kernel_rfl) Z Z ⟨_, _, Z, hw8.cells, Z⟩ hC8 fun p4 w12 hw9 hb10 hl12 hC12 => ?_)
       have hr7 := hr4.no hb10
       replace hb1 := bind_some hb1
       obtain ⟨z2, hz2, hb1⟩ := hb1
       refine lw_op Z Z Z (ow_append (R := RSpan) Z Z Z Z Tryd.underlying58 hi76 hz76 hs76 hy76 Z Z Z Z hr7 hw9 hz2 hC12 fun v26 w13 M7 hr8 hb11 hl13 hC13 hM2 hat2 => lw_op Z Z Z (ow_assign Z Z (lw_nil (ew_then (cw_region (lw_op Z Z Z (ow_move Z Z (lw_op Z Z Z (ow_add Z Z Z (lw_op Z Z Z (ow_assign Z Z (lw_nil (ew_blockN ?_)))))))))))))
       have hz6 := (((hz3.trans hl8).trans hl12).trans hl13)
       exact ew_nxt (z2, k5, k7, (W ((imin x3.2 x4.2) + 1))) hb1 fun a ha => ⟨M7, v26, (ha.sub ⟨Z, Z, Z, Z, Z, Z, Z, Z, trivial⟩), hz6, hC13, hr8⟩
     ·
      subst hc6
      exact cw_false Z (cw_skip (ew_then (cw_region (lw_op Z Z Z (ow_move Z Z (lw_op Z Z Z (ow_add Z Z Z (lw_op Z Z Z (ow_assign Z Z (lw_nil (ew_blockN (ew_nxt (y5, k5, k7, (W ((imin x3.2 x4.2) + 1))) hb1 fun a ha => ⟨M5, v1, (ha.sub ⟨Z, Z, Z, Z, Z, Z, Z, Z, trivial⟩), (hz3.trans hl8), hC8, hr4⟩))))))))))))
  ·
   obtain rfl := hbb1.trans hc1
   exact cw_false Z (cw_exit (ew_thenX (ew_thenX (ew_blockX (ew_brk (y1, k1, k2, k3) hb1 fun a ha => ⟨M1, v1, (ha.sub ⟨Z, Z, Z, Z, Z, Z, Z, Z, trivial⟩), hl1, hC1, hw1⟩)))))
 ·
  rintro ⟨y8, k8, k9, k10⟩ a w14 hlr6 ⟨M8, v27, hF6, hl14, hC14, hw10⟩
  subst hlr6
  refine ew_at (E := [(0, v0p), (1, v1p), (2, (.int .i64 a_top)), (3, (.func (.func 111) #[] #[])), (9, v27), (10, (.int .i64 k8)), (11, (.int .i64 k9)), (12, (.int .i64 k10))]) hF6 (ew_then (cw_seq (cw_region (lw_op Z Z Z (ow_move Z Z (lw_op Z Z Z (ow_assign Z Z (lw_nil (ew_then (cw_ret ?_))))))))))
  obtain rfl := Option.some.inj h
  exact ew_ret (res1 Z (.tmp Z)) ⟨_, Z, (hw10.freezeBack hC14 hO), hC14.bx⟩

theorem w_impl_meetSpans {w : World} {M : Nat → Prop} (hG : ARep (RArr 4 RShape) w M shapes ⟨0, 0, none⟩) (hO : ∀ b, M b → b < w.heap.size) {v0p : Value} {a_a : List Span} (h0 : VRep (RSlice RSpan) w M a_a v0p) {v1p : Value} {a_b : List Span} (h1 : VRep (RSlice RSpan) w M a_b v1p) {a_top : Int} {r : (List Span) × Bool} (h : F.impl_meetSpans a_a a_b a_top = some r) :
  Calls Tryd.prog 95 [v0p, v1p, (.int .i64 a_top)].toArray w fun e w' => ∃ v, e = .returned v ∧ (∃ u0 u1, v = .tuple #[u0, u1] ∧ VRep (RSlice RSpan) w' M r.1 u0 ∧ VRep RBool w' M r.2 u1) ∧ BX No w w' := by
 have hC : Cx No w M w M := Cx.start hO (fun _ e => e.elim)
 refine walk (N := 15) Tryd.func95 Z Tryd.ntmps95 Z (cw_seq (cw_region (lw_op Z Z Z (ow_assign Z Z (lw_op Z Z Z (ow_assign Z Z (lw_nil (ew_then (cw_seq (cw_region (lw_op Z Z Z (ow_move Z Z (lw_op Z Z Z (ow_move Z Z (lw_op Z Z Z (ow_move Z Z ?_))))))))))))))))
 replace h := bind_some h
 obtain ⟨x1, hx1, h⟩ := h
 refine lw_op Z Z Z (ow_call Z Z Tryd.call99 (w_impl_sweepSpans__impl_inBoth hG hC.old h0 h1 hx1) fun v1 w1 hv1 => ?_)
 obtain ⟨hv1, hb1⟩ := hv1
 have hl1 := Le.no M hb1
 have hC1 := hC.no hb1
 replace h := bind_some h
 obtain ⟨x2, hx2, h⟩ := h
 refine lw_op Z Z Z (ow_call Z Z Tryd.call110 (w_impl_limitSpans (hG.mono hl1) hC1.old hv1 hx2) fun v2 w2 hv2 => ?_)
 obtain ⟨⟨v3, v4, rfl, hv3, hv4⟩, hb2⟩ := hv2
 have hC2 := hC1.no hb2
 obtain ⟨bb1, hbb1, rfl⟩ := vbool_ex hv4
 refine lw_op Z Z Z (ow_extract Z Z Z (lw_op Z Z Z (ow_extract Z Z Z (lw_op Z Z Z (ow_assign Z Z (lw_op Z Z Z (ow_assign Z Z (lw_nil (ew_then (cw_ret ?_))))))))))
 obtain rfl := Option.some.inj h
 exact ew_ret (res2 Z (.tmp Z) (.tmp Z)) ⟨_, Z, ⟨_, _, Z, (VRep.mono hC2.back hv3), ((vbool_of hbb1))⟩, hC2.bx⟩

theorem w_impl_sides_meet {w : World} {M : Nat → Prop} (hG : ARep (RArr 4 RShape) w M shapes ⟨0, 0, none⟩) (hO : ∀ b, M b → b < w.heap.size) {v0p : Value} {a_s : List (List Span)} (h0 : VRep (RArr 4 (RSlice RSpan)) w M a_s v0p) {v1p : Value} {a_other : List (List Span)} (h1 : VRep (RArr 4 (RSlice RSpan)) w M a_other v1p) {r : (List (List Span)) × Bool} (h : F.impl_sides_meet a_s a_other = some r) :
  Calls Tryd.prog 67 [v0p, v1p].toArray w fun e w' => ∃ v, e = .returned v ∧ (∃ u0 u1, v = .tuple #[u0, u1] ∧ VRep (RArr 4 (RSlice RSpan)) w' M r.1 u0 ∧ VRep RBool w' M r.2 u1) ∧ BX No w w' := by
 have hC : Cx No w M w M := Cx.start hO (fun _ e => e.elim)
 refine walk (N := 33) Tryd.func67 Z Tryd.ntmps67 Z (cw_seq (cw_region (lw_op Z Z Z (ow_box (R := (RArr 4 (RSlice RSpan))) Z Z h0 hC fun p1 w1 hp1 hb1 hl1 hC1 => lw_op Z Z Z (ow_box (R := (RArr 4 (RSlice RSpan))) Z Z (VRep.mono hl1 h1) hC1 fun p2 w2 hp2 hb2 hl2 hC2 => lw_op Z Z Z (ow_alloc Z (Tryd.zeroValue69 _) hC2 fun g1 w3 hg1 hg2 ho1 hb3 hl3 hC3 => ?_))))))
 have hm1 : (Add g1 M) g1 := .inl Z
 have ho2 : OwnA (RArr 4 (RSlice RSpan)) w3 (Add g1 M) g1 69 [([] : List Span), ([] : List Span), ([] : List Span), ([] : List Span)] := OwnA.of ho1 ⟨Z, ⟨_, _, Z, (vslice_nil (R := RSpan) (w := w3) (M := (Add g1 M))).cells, _, _, Z, (vslice_nil (R := RSpan) (w := w3) (M := (Add g1 M))).cells, _, _, Z, (vslice_nil (R := RSpan) (w := w3) (M := (Add g1 M))).cells, _, _, Z, (vslice_nil (R := RSpan) (w := w3) (M := (Add g1 M))).cells, Z⟩⟩
 refine lw_op Z Z Z (ow_assign Z Z (lw_nil (ew_then (cw_seq (cw_region (lw_op Z Z Z (ow_alloc Z (Tryd.zeroValue69 _) hC3 fun g2 w4 hg3 hg4 ho3 hb4 hl4 hC4 => ?_)))))))
 have hn1 := Nat.ne_of_lt (Nat.lt_of_lt_of_le ho2.lt hg3)
 have ho4 := ho2.no hb4 hl4
 have hm2 : (Add g2 (Add g1 M)) g1 := .inr hm1
 have hm3 : (Add g2 (Add g1 M)) g2 := .inl Z
 have ho5 : OwnA (RArr 4 (RSlice RSpan)) w4 (Add g2 (Add g1 M)) g2 69 [([] : List Span), ([] : List Span), ([] : List Span), ([] : List Span)] := OwnA.of ho3 ⟨Z, ⟨_, _, Z, (vslice_nil (R := RSpan) (w := w4) (M := (Add g2 (Add g1 M)))).cells, _, _, Z, (vslice_nil (R := RSpan) (w := w4) (M := (Add g2 (Add g1 M)))).cells, _, _, Z, (vslice_nil (R := RSpan) (w := w4) (M := (Add g2 (Add g1 M)))).cells, _, _, Z, (vslice_nil (R := RSpan) (w := w4) (M := (Add g2 (Add g1 M)))).cells, Z⟩⟩
 refine lw_nil (ew_then (cw_seq (cw_seq (cw_region (lw_op Z Z Z (ow_move Z Z (lw_nil (ew_then ?_))))))))
 replace h := bind_some h
 obtain ⟨lr1, hlr1, h⟩ := h
 refine cw_for hlr1 (fun s a w' => ∃ (M' : Nat → Prop), Fits 33 [(2, (.pointer (some p1))), (3, (.pointer (some p2))), (4, (.pointer (some ⟨g1, 0, none⟩))), (6, (.pointer (some ⟨g2, 0, none⟩))), (10, (.int .i64 s.1))] a ∧ Le w4 (Add g2 (Add g1 M)) w' M' ∧ Cx No w M w' M' ∧ OwnA (RArr 4 (RSlice RSpan)) w' M' g1 69 s.2.1 ∧ M' g1 ∧ OwnA (RArr 4 (RSlice RSpan)) w' M' g2 69 s.2.2 ∧ M' g2) ?_ ?_ ?_
 ·
  intro a ha
  exact ⟨(Add g2 (Add g1 M)), ha.sub ⟨Z, Z, Z, Z, Z, trivial⟩, Le.refl _ _, hC4, ho4, hm2, ho5, hm3⟩
 ·
  rintro ⟨k1, y1, y2⟩ a w5 sr1 ⟨M1, hF1, hl5, hC5, ho6, hm4, ho7, hm5⟩ hb5 hR1
  refine cw_at (E := [(2, (.pointer (some p1))), (3, (.pointer (some p2))), (4, (.pointer (some ⟨g1, 0, none⟩))), (6, (.pointer (some ⟨g2, 0, none⟩))), (10, (.int .i64 k1))]) hF1 (cw_seq (cw_region (lw_op Z Z Z (ow_lss Z Z Z fun bb1 hbb1 => lw_nil (ew_then (cw_seq ?_))))))
  replace hb5 := cond_some hb5
  rcases hb5 with ⟨hc1, hb5⟩ | ⟨hc1, hb5⟩
  ·
   obtain rfl := hbb1.trans hc1
   refine cw_true Z (cw_skip (ew_then (cw_seq (cw_block (cw_seq (cw_region (lw_op Z Z Z (ow_move Z Z (lw_op Z Z Z (ow_assign Z Z (lw_nil (ew_then (cw_seq ?_)))))))))))))
   replace hb5 := bind_some hb5
   obtain ⟨x1, hx1, hb5⟩ := hb5
   replace hb5 := bind_some hb5
   obtain ⟨x2, hx2, hb5⟩ := hb5
   replace hb5 := bind_some hb5
   obtain ⟨x3, hx3, hb5⟩ := hb5
   replace hb5 := bind_some hb5
   obtain ⟨x4, hx4, hb5⟩ := hb5
   have hz1 := ((((hl1.trans hl2).trans hl3).trans hl4).trans hl5)
   have hz2 := (((hl2.trans hl3).trans hl4).trans hl5)
   have hz3 := ((hl3.trans hl4).trans hl5)
   refine cw_sub (E' := [(2, (.pointer (some p1))), (3, (.pointer (some p2))), (4, (.pointer (some ⟨g1, 0, none⟩))), (6, (.pointer (some ⟨g2, 0, none⟩))), (7, (.int .i64 k1)), (10, (.int .i64 k1))]) ⟨Z, Z, Z, Z, Z, Z, trivial⟩ (cw_drawQ 13 [PEq (.int .i64 k1), PA (RSlice RSpan) M1 x1, PV (RSlice RSpan) M1 x1, PEq (.int .i64 k1), PA (RSlice RSpan) M1 x2, PV (RSlice RSpan) M1 x2, PEq (.int .i64 k1), PEq (.int .i64 x3), PT2 (PV (RSlice RSpan) M1 x4.1) (PEq (.bool x4.2)), PT2 (PV (RSlice RSpan) M1 x4.1) (PEq (.bool x4.2)), PV (RSlice RSpan) M1 x4.1, PEq (.bool x4.2), PV (RSlice RSpan) M1 x4.1] (by kernel_rfl) Z (by kernel_rfl) ⟨PEq.mono _, PA.mono _ _ _, PV.mono _ _ _, PEq.mono _, PA.mono _ _ _, PV.mono _ _ _, PEq.mono _, PEq.mono _, (PT2.mono (PV.mono _ _ _) (PEq.mono _)), (PT2.mono (PV.mono _ _ _) (PEq.mono _)), PV.mono _ _ _, PEq.mono _, PV.mono _ _ _, trivial⟩ ⟨?_, ?_, ?_, ?_, ?_, ?_, ?_, ?_, ?_, ?_, ?_, ?_, ?_, trivial⟩ ?_)
   ·
    intro w8 D hS1 hd1
    exact dg_sub (E' := [(7, (.int .i64 k1))]) ⟨Z, trivial⟩ (dg_plain Z (ow_move Z Z ⟨BX.refl _ _, Z⟩))
   ·
    intro w9 D hS2 hd2
    have hl9 := Le.no M1 hS2
    exact dg_sub (E' := [(14, (.int .i64 k1)), (2, (.pointer (some p1)))]) ⟨(dpE hd2 0 Z Z), Z, trivial⟩ (dg_plain Z (ow_indexArr (R := (RSlice RSpan)) Z Z Z (ARep.mono (hz2.trans hl9) hp1) Tryd.underlying69 (Tryd.sizeOf58 _) hx1 fun p5 hp5 => ⟨BX.refl _ _, ⟨_, Z, hp5⟩⟩))
   ·
    intro w10 D hS3 hd3
    have d2 : PA (RSlice RSpan) M1 x1 (D 1) w10 := dpA hd3 1 Z
    obtain ⟨p6, e1, ha1⟩ := d2
    exact dg_sub (E' := [(15, (.pointer (some p6)))]) ⟨(congrArg some e1), trivial⟩ (dg_plain Z (ow_load (R := (RSlice RSpan)) Z Z ha1 (Tryd.sizeOf58 _) (Tryd.isAgg58 _) fun v10 hv10 => ⟨BX.refl _ _, hv10⟩))
   ·
    intro w11 D hS4 hd4
    exact dg_sub (E' := [(7, (.int .i64 k1))]) ⟨Z, trivial⟩ (dg_plain Z (ow_move Z Z ⟨BX.refl _ _, Z⟩))
   ·
    intro w12 D hS5 hd5
    have hl12 := Le.no M1 hS5
    exact dg_sub (E' := [(17, (.int .i64 k1)), (3, (.pointer (some p2)))]) ⟨(dpE hd5 3 Z Z), Z, trivial⟩ (dg_plain Z (ow_indexArr (R := (RSlice RSpan)) Z Z Z (ARep.mono (hz3.trans hl12) hp2) Tryd.underlying69 (Tryd.sizeOf58 _) hx2 fun p7 hp7 => ⟨BX.refl _ _, ⟨_, Z, hp7⟩⟩))
   ·
    intro w13 D hS6 hd6
    have d4 : PA (RSlice RSpan) M1 x2 (D 4) w13 := dpA hd6 4 Z
    obtain ⟨p8, e2, ha2⟩ := d4
    exact dg_sub (E' := [(18, (.pointer (some p8)))]) ⟨(congrArg some e2), trivial⟩ (dg_plain Z (ow_load (R := (RSlice RSpan)) Z Z ha2 (Tryd.sizeOf58 _) (Tryd.isAgg58 _) fun v11 hv11 => ⟨BX.refl _ _, hv11⟩))
   ·
    intro w14 D hS7 hd7
    exact dg_sub (E' := [(7, (.int .i64 k1))]) ⟨Z, trivial⟩ (dg_plain Z (ow_move Z Z ⟨BX.refl _ _, Z⟩))
   ·
    intro w15 D hS8 hd8
    have hl15 := Le.no M1 hS8
    have hC15 := hC5.no hS8
    refine dg_sub (E' := [(20, (.int .i64 k1))]) ⟨(dpE hd8 6 Z Z), trivial⟩ (dg_plain Z (ow_call Z Z Tryd.call69 (w_impl_FieldTop (hG.mono (hz1.trans hl15)) hC15.old hx3) fun v12 w16 hv12 => ?_))
    obtain ⟨hv12, hb8⟩ := hv12
    obtain rfl := vint_eq hv12
    exact ⟨hb8, Z⟩
   ·
    intro w17 D hS9 hd9
    have hl17 := Le.no M1 hS9
    have hC17 := hC5.no hS9
    have d6 : PV (RSlice RSpan) M1 x1 (D 2) w17 := dpA hd9 2 Z
    have d7 : PV (RSlice RSpan) M1 x2 (D 5) w17 := dpA hd9 5 Z
    generalize hq1 : (D 2) = v13 at d6
    generalize hq2 : (D 5) = v14 at d7
    refine dg_sub (E' := [(16, v13), (19, v14), (21, (.int .i64 x3))]) ⟨(congrArg some hq1), (congrArg some hq2), (dpE hd9 7 Z Z), trivial⟩ (dg_plain Z (ow_call Z Z Tryd.call95 (w_impl_meetSpans (hG.mono (hz1.trans hl17)) hC17.old d6 d7 hx4) fun v15 w18 hv15 => ?_))
    obtain ⟨⟨v16, v17, rfl, hv16, hv17⟩, hb9⟩ := hv15
    obtain ⟨bb3, hbb3, rfl⟩ := vbool_ex hv17
    exact ⟨hb9, ⟨_, _, Z, hv16, (congrArg Value.bool hbb3)⟩⟩
   ·
    intro w19 D hS10 hd10
    have d10 : PT2 (PV (RSlice RSpan) M1 x4.1) (PEq (.bool x4.2)) (D 8) w19 := dpA hd10 8 Z
    obtain ⟨v18, v19, e3, hd11, hd12⟩ := d10
    obtain ⟨bb4, hq3, rfl⟩ : ∃ b, b = x4.2 ∧ v19 = .bool b := ⟨_, rfl, hd12⟩
    exact dg_sub (E' := [(22, (.tuple #[v18, (.bool bb4)]))]) ⟨(congrArg some e3), trivial⟩ (dg_plain Z (ow_move Z Z ⟨BX.refl _ _, ⟨_, _, Z, hd11, (congrArg Value.bool hq3)⟩⟩))
   ·
    intro w20 D hS11 hd13
    have d11 : PT2 (PV (RSlice RSpan) M1 x4.1) (PEq (.bool x4.2)) (D 9) w20 := dpA hd13 9 Z
    obtain ⟨v20, v21, e4, hd14, hd15⟩ := d11
    obtain ⟨bb5, hq4, rfl⟩ : ∃ b, b = x4.2 ∧ v21 = .bool b := ⟨_, rfl, hd15⟩
    exact dg_sub (E' := [(13, (.tuple #[v20, (.bool bb5)]))]) ⟨(congrArg some e4), trivial⟩ (dg_plain Z (ow_extract Z Z Z ⟨BX.refl _ _, hd14⟩))
   ·
    intro w21 D hS12 hd16
    have d12 : PT2 (PV (RSlice RSpan) M1 x4.1) (PEq (.bool x4.2)) (D 9) w21 := dpA hd16 9 Z
    obtain ⟨v22, v23, e5, hd17, hd18⟩ := d12
    obtain ⟨bb6, hq5, rfl⟩ : ∃ b, b = x4.2 ∧ v23 = .bool b := ⟨_, rfl, hd18⟩
    exact dg_sub (E' := [(13, (.tuple #[v22, (.bool bb6)]))]) ⟨(congrArg some e5), trivial⟩ (dg_plain Z (ow_extract Z Z Z ⟨BX.refl _ _, (congrArg Value.bool hq5)⟩))
   ·
    intro w22 D hS13 hd19
    have d13 : PV (RSlice RSpan) M1 x4.1 (D 10) w22 := dpA hd19 10 Z
    generalize hq6 : (D 10) = v24 at d13
    exact dg_sub (E' := [(23, v24)]) ⟨(congrArg some hq6), trivial⟩ (dg_plain Z (ow_assign Z Z ⟨BX.refl _ _, d13⟩))
   ·
    intro w23 D hS14 hd20
    have d37 : PEq (.bool x4.2) (D 11) w23 := dpA hd20 11 Z
    have d38 : PV (RSlice RSpan) M1 x4.1 (D 12) w23 := dpA hd20 12 Z
    have hl23 := Le.no M1 hS14
    have hC23 := hC5.no hS14
    have ho42 := ho6.no hS14 hl23
    have ho43 := ho7.no hS14 hl23
    obtain ⟨bb7, hq7, hq8⟩ : ∃ b, b = x4.2 ∧ (D 11) = .bool b := ⟨_, rfl, d37⟩
    generalize hq9 : (D 12) = v25 at d38
    refine lw_sub (E' := [(24, (.bool bb7)), (8, v25), (2, (.pointer (some p1))), (3, (.pointer (some p2))), (4, (.pointer (some ⟨g1, 0, none⟩))), (6, (.pointer (some ⟨g2, 0, none⟩))), (7, (.int .i64 k1)), (10, (.int .i64 k1))]) ⟨(congrArg some hq8), (congrArg some hq9), Z, Z, Z, Z, Z, Z, trivial⟩ (lw_op Z Z Z (ow_assign Z Z (lw_nil (ew_then (cw_seq (cw_seq (cw_region (lw_op Z Z Z (ow_move Z Z (lw_op Z Z Z (ow_not Z Z (lw_nil (ew_then ?_)))))))))))))
    replace hb5 := cond_some hb5
    rcases hb5 with ⟨hc2, hb5⟩ | ⟨hc2, hb5⟩
    ·
     obtain rfl := hq7.trans hc2
     refine cw_false Z (cw_skip (ew_then (cw_region (lw_op Z Z Z (ow_move Z Z (lw_op Z Z Z (ow_move Z Z ?_)))))))
     replace hb5 := bind_some hb5
     obtain ⟨x5, hx5, hb5⟩ := hb5
     refine lw_op Z Z Z (ow_indexA (R := (RSlice RSpan)) Z Z Z Z ho43 Tryd.underlying69 (Tryd.sizeOf58 _) hx5 (lw_op0 Z Z (ow_storeElA (X := No) (R := (RSlice RSpan)) Z Z Z Z ho43 hx5 (Tryd.sizeOf58 _) d38 hm5 (.inl hg4) hC23 fun w24 ho44 hb10 hl24 hC24 => ?_)))
     have ho45 := ho42.go hb10 (fun e => hn1 e) hl24
     refine lw_nil (ew_blockN (ew_then (cw_region (lw_op Z Z Z (ow_add Z Z Z (lw_op Z Z Z (ow_move Z Z (lw_nil ?_))))))))
     have hz4 := ((hl5.trans hl23).trans hl24)
     exact ew_nxt ((W (k1 + 1)), y1, (List.set y2 (k1 : Int).toNat x4.1)) hb5 fun a ha => ⟨M1, (ha.sub ⟨Z, Z, Z, Z, Z, trivial⟩), hz4, hC24, ho45, hm4, ho44, hm5⟩
    ·
     obtain rfl := hq7.trans hc2
     refine cw_true Z (cw_seq (cw_region (lw_op Z Z Z (ow_build (v := .agg #[(.slice none 0 0), (.slice none 0 0), (.slice none 0 0), (.slice none 0 0)]) Z Z (by kernel_rfl) ?_))))
     have hw1 : VRep (RArr 4 (RSlice RSpan)) w23 M1 [([] : List Span), ([] : List Span), ([] : List Span), ([] : List Span)] (.agg #[(.slice none 0 0), (.slice none 0 0), (.slice none 0 0), (.slice none 0 0)]) := ⟨_, ⟨Z, ⟨_, _, Z, (vslice_nil (R := RSpan) (w := w23) (M := M1)).cells, _, _, Z, (vslice_nil (R := RSpan) (w := w23) (M := M1)).cells, _, _, Z, (vslice_nil (R := RSpan) (w := w23) (M := M1)).cells, _, _, Z, (vslice_nil (R := RSpan) (w := w23) (M := M1)).cells, Z⟩⟩, Z⟩
     obtain ⟨cs1, h1, h2⟩ := ho42.own
     refine lw_op0 Z Z (ow_storeA (X := No) (R := (RArr 4 (RSlice RSpan))) Z Z Z Z h1 h2 (Tryd.sizeOf69 _) hw1 hm4 (.inl hg2) hC23 fun w25 ho46 hb11 hl25 hC25 => lw_op Z Z Z (ow_assign Z Z (lw_nil (ew_then (cw_ret (ew_thenR (ew_blockR (ew_thenR (ew_thenR (ew_blockR (ew_brkR (ew_thenR ?_))))))))))))
     have e6 := hR1 _ (Option.some.inj hb5).symm
     subst e6
     obtain rfl := Option.some.inj h
     obtain ⟨v26, hq10, hw2⟩ := resA ho46 (Tryd.sizeOf69 _) (Tryd.isAgg69 _) rfl
     exact ew_ret (res2 Z (.cell Z hq10) (.tmp Z)) ⟨_, Z, ⟨_, _, Z, (hw2.mono hC25.back), ((vbool _))⟩, hC25.bx⟩
  ·
   obtain rfl := hbb1.trans hc1
   exact cw_false Z (cw_exit (ew_thenX (ew_thenX (ew_blockX (ew_brk (k1, y1, y2) hb5 fun a ha => ⟨M1, (ha.sub ⟨Z, Z, Z, Z, Z, trivial⟩), hl5, hC5, ho6, hm4, ho7, hm5⟩)))))
 ·
  rintro ⟨k2, y3, y4⟩ a w26 hlr2 ⟨M2, hF2, hl26, hC26, ho48, hm6, ho49, hm7⟩
  subst hlr2
  refine ew_at (E := [(2, (.pointer (some p1))), (3, (.pointer (some p2))), (4, (.pointer (some ⟨g1, 0, none⟩))), (6, (.pointer (some ⟨g2, 0, none⟩))), (10, (.int .i64 k2))]) hF2 (ew_then (cw_seq (cw_region (lw_op Z Z Z (ow_loadA (R := (RArr 4 (RSlice RSpan))) Z Z Z ho49 (Tryd.sizeOf69 _) (Tryd.isAgg69 _) fun v30 hv30 => ?_)))))
  obtain ⟨cs2, h3, h4⟩ := ho48.own
  refine lw_op0 Z Z (ow_storeA (X := No) (R := (RArr 4 (RSlice RSpan))) Z Z Z Z h3 h4 (Tryd.sizeOf69 _) hv30 hm6 (.inl hg2) hC26 fun w27 ho50 hb12 hl27 hC27 => lw_op Z Z Z (ow_assign Z Z (lw_nil (ew_then (cw_ret ?_)))))
  obtain rfl := Option.some.inj h
  obtain ⟨v31, hq11, hw3⟩ := resA ho50 (Tryd.sizeOf69 _) (Tryd.isAgg69 _) rfl
  exact ew_ret (res2 Z (.cell Z hq11) (.tmp Z)) ⟨_, Z, ⟨_, _, Z, (hw3.mono hC27.back), ((vbool _))⟩, hC27.bx⟩

theorem w_impl_BoxMeet {w : World} {M : Nat → Prop} (hG : ARep (RArr 4 RShape) w M shapes ⟨0, 0, none⟩) (hO : ∀ b, M b → b < w.heap.size) {v0p : Value} {a_a : Box} (h0 : VRep RBox w M a_a v0p) {v1p : Value} {a_b : Box} (h1 : VRep RBox w M a_b v1p) {r : Box} (h : F.impl_BoxMeet a_a a_b = some r) :
  Calls Tryd.prog 28 [v0p, v1p].toArray w fun e w' => ∃ v, e = .returned v ∧ VRep RBox w' M r v ∧ BX No w w' := by
 have hC : Cx No w M w M := Cx.start hO (fun _ e => e.elim)
 refine walk (N := 29) Tryd.func28 Z Tryd.ntmps28 Z (cw_seq (cw_region (lw_op Z Z Z (ow_box (R := RBox) Z Z h0 hC fun p1 w1 hp1 hb1 hl1 hC1 => lw_op Z Z Z (ow_box (R := RBox) Z Z (VRep.mono hl1 h1) hC1 fun p2 w2 hp2 hb2 hl2 hC2 => lw_op Z Z Z (ow_alloc Z (Tryd.zeroValue27 _) hC2 fun g1 w3 hg1 hg2 ho1 hb3 hl3 hC3 => ?_))))))
 have hm1 : (Add g1 M) g1 := .inl Z
 refine lw_nil (ew_then (cw_seq (cw_seq (cw_region (lw_op Z Z Z (ow_load (R := RBox) Z Z (ARep.mono (hl2.trans hl3) hp1) (Tryd.sizeOf27 _) (Tryd.isAgg27 _) fun v1 hv1 => ?_))))))
 replace h := bind_some h
 obtain ⟨x1, hx1, h⟩ := h
 have hz1 := ((hl1.trans hl2).trans hl3)
 refine lw_op Z Z Z (ow_call Z Z Tryd.call30 (w_impl_BoxValid (hG.mono hz1) hC3.old hv1 hx1) fun v2 w4 hv2 => ?_)
 obtain ⟨hv2, hb4⟩ := hv2
 have hl4 := Le.no (Add g1 M) hb4
 have hC4 := hC3.no hb4
 have ho2 := ho1.no hb4
 obtain rfl := vbool_eq hv2
 refine lw_op Z Z Z (ow_not Z Z (lw_op Z Z Z (ow_move Z Z ?_)))
 replace h := cond_some h
 rcases h with ⟨hc1, h⟩ | ⟨hc1, h⟩
 ·
  subst hc1
  refine lw_on Z Z Z Z Z Z (ow_load (R := RBox) Z Z (ARep.mono (hl3.trans hl4) hp2) (Tryd.sizeOf27 _) (Tryd.isAgg27 _) fun v3 hv3 => ?_)
  replace h := bind_some h
  obtain ⟨x2, hx2, h⟩ := h
  refine lw_on Z Z Z Z Z Z (ow_call Z Z Tryd.call30 (w_impl_BoxValid (hG.mono (hz1.trans hl4)) hC4.old hv3 hx2) fun v4 w5 hv4 => ?_)
  obtain ⟨hv4, hb5⟩ := hv4
  have hl5 := Le.no (Add g1 M) hb5
  have hC5 := hC4.no hb5
  have ho3 := ho2.no hb5
  obtain rfl := vbool_eq hv4
  refine lw_on Z Z Z Z Z Z (ow_not Z Z (lw_op Z Z Z (ow_pickF Z Z Z (lw_nil (ew_then ?_)))))
  replace h := cond_some h
  rcases h with ⟨hc2, h⟩ | ⟨hc2, h⟩
  ·
   subst hc2
   refine cw_false Z (cw_skip (ew_then (cw_seq ?_)))
   replace h := bind_some h
   obtain ⟨x3, hx3, h⟩ := h
   replace h := bind_some h
   obtain ⟨x4, hx4, h⟩ := h
   replace h := bind_some h
   obtain ⟨x5, hx5, h⟩ := h
   have hz2 := ((hz1.trans hl4).trans hl5)
   have hz3 := (((hl2.trans hl3).trans hl4).trans hl5)
   have hz4 := ((hl3.trans hl4).trans hl5)
   refine cw_sub (E' := [(2, (.pointer (some p1))), (3, (.pointer (some p2))), (4, (.pointer (some ⟨g1, 0, none⟩)))]) ⟨Z, Z, Z, trivial⟩ (cw_drawL 9 7 5 23 16 [PV RBox (Add g1 M) a_a, PV (RArr 4 (RSlice RSpan)) (Add g1 M) x3, PV RBox (Add g1 M) a_b, PV (RArr 4 (RSlice RSpan)) (Add g1 M) x4, PT2 (PV (RArr 4 (RSlice RSpan)) (Add g1 M) x5.1) (PEq (.bool x5.2)), PT2 (PV (RArr 4 (RSlice RSpan)) (Add g1 M) x5.1) (PEq (.bool x5.2)), PV (RArr 4 (RSlice RSpan)) (Add g1 M) x5.1, PEq (.bool x5.2), PNew w5 69 #[(.slice none 0 0), (.slice none 0 0), (.slice none 0 0), (.slice none 0 0)]] (by kernel_rfl) Z (by kernel_rfl) Z Z Z Z Z Z Z ⟨PV.mono _ _ _, PV.mono _ _ _, PV.mono _ _ _, PV.mono _ _ _, (PT2.mono (PV.mono _ _ _) (PEq.mono _)), (PT2.mono (PV.mono _ _ _) (PEq.mono _)), PV.mono _ _ _, PEq.mono _, PNew.mono _ _ _, trivial⟩ (fun v w h => by obtain ⟨a, b, rfl, ha, hb⟩ := h; exact ⟨b, hb, fun w' => ow_extract Z Z Z ⟨Z, Z⟩⟩) ⟨?_, ?_, ?_, ?_, ?_, ?_, ?_, ?_, ?_, trivial⟩ ?_)
   ·
    intro w10 D hS1 hd1
    have hl10 := Le.no (Add g1 M) hS1
    exact dg_sub (E' := [(2, (.pointer (some p1)))]) ⟨Z, trivial⟩ (dg_plain Z (ow_load (R := RBox) Z Z (ARep.mono (hz3.trans hl10) hp1) (Tryd.sizeOf27 _) (Tryd.isAgg27 _) fun v12 hv12 => ⟨BX.refl _ _, hv12⟩))
   ·
    intro w11 D hS2 hd2
    have hl11 := Le.no (Add g1 M) hS2
    have hC11 := hC5.no hS2
    have d1 : PV RBox (Add g1 M) a_a (D 0) w11 := dpA hd2 0 Z
    generalize hq1 : (D 0) = v13 at d1
    refine dg_sub (E' := [(17, v13)]) ⟨(congrArg some hq1), trivial⟩ (dg_plain Z (ow_call Z Z Tryd.call65 (w_impl_sidesOf (hG.mono (hz2.trans hl11)) hC11.old d1 hx3) fun v14 w12 hv14 => ?_))
    obtain ⟨hv14, hb10⟩ := hv14
    exact ⟨hb10, hv14⟩
   ·
    intro w13 D hS3 hd3
    have hl13 := Le.no (Add g1 M) hS3
    exact dg_sub (E' := [(3, (.pointer (some p2)))]) ⟨Z, trivial⟩ (dg_plain Z (ow_load (R := RBox) Z Z (ARep.mono (hz4.trans hl13) hp2) (Tryd.sizeOf27 _) (Tryd.isAgg27 _) fun v15 hv15 => ⟨BX.refl _ _, hv15⟩))
   ·
    intro w14 D hS4 hd4
    have hl14 := Le.no (Add g1 M) hS4
    have hC14 := hC5.no hS4
    have d2 : PV RBox (Add g1 M) a_b (D 2) w14 := dpA hd4 2 Z
    generalize hq2 : (D 2) = v16 at d2
    refine dg_sub (E' := [(19, v16)]) ⟨(congrArg some hq2), trivial⟩ (dg_plain Z (ow_call Z Z Tryd.call65 (w_impl_sidesOf (hG.mono (hz2.trans hl14)) hC14.old d2 hx4) fun v17 w15 hv17 => ?_))
    obtain ⟨hv17, hb11⟩ := hv17
    exact ⟨hb11, hv17⟩
   ·
    intro w16 D hS5 hd5
    have hl16 := Le.no (Add g1 M) hS5
    have hC16 := hC5.no hS5
    have d4 : PV (RArr 4 (RSlice RSpan)) (Add g1 M) x3 (D 1) w16 := dpA hd5 1 Z
    have d5 : PV (RArr 4 (RSlice RSpan)) (Add g1 M) x4 (D 3) w16 := dpA hd5 3 Z
    generalize hq3 : (D 1) = v18 at d4
    generalize hq4 : (D 3) = v19 at d5
    refine dg_sub (E' := [(18, v18), (20, v19)]) ⟨(congrArg some hq3), (congrArg some hq4), trivial⟩ (dg_plain Z (ow_call Z Z Tryd.call67 (w_impl_sides_meet (hG.mono (hz2.trans hl16)) hC16.old d4 d5 hx5) fun v20 w17 hv20 => ?_))
    obtain ⟨⟨v21, v22, rfl, hv21, hv22⟩, hb12⟩ := hv20
    obtain ⟨bb2, hbb2, rfl⟩ := vbool_ex hv22
    exact ⟨hb12, ⟨_, _, Z, hv21, (congrArg Value.bool hbb2)⟩⟩
   ·
    intro w18 D hS6 hd6
    have d7 : PT2 (PV (RArr 4 (RSlice RSpan)) (Add g1 M) x5.1) (PEq (.bool x5.2)) (D 4) w18 := dpA hd6 4 Z
    obtain ⟨v23, v24, e1, hd7, hd8⟩ := d7
    obtain ⟨bb3, hq5, rfl⟩ : ∃ b, b = x5.2 ∧ v24 = .bool b := ⟨_, rfl, hd8⟩
    exact dg_sub (E' := [(21, (.tuple #[v23, (.bool bb3)]))]) ⟨(congrArg some e1), trivial⟩ (dg_plain Z (ow_move Z Z ⟨BX.refl _ _, ⟨_, _, Z, hd7, (congrArg Value.bool hq5)⟩⟩))
   ·
    intro w19 D hS7 hd9
    have d8 : PT2 (PV (RArr 4 (RSlice RSpan)) (Add g1 M) x5.1) (PEq (.bool x5.2)) (D 5) w19 := dpA hd9 5 Z
    obtain ⟨v25, v26, e2, hd10, hd11⟩ := d8
    obtain ⟨bb4, hq6, rfl⟩ : ∃ b, b = x5.2 ∧ v26 = .bool b := ⟨_, rfl, hd11⟩
    exact dg_sub (E' := [(16, (.tuple #[v25, (.bool bb4)]))]) ⟨(congrArg some e2), trivial⟩ (dg_plain Z (ow_extract Z Z Z ⟨BX.refl _ _, hd10⟩))
   ·
    intro w20 D hS8 hd12
    have d9 : PT2 (PV (RArr 4 (RSlice RSpan)) (Add g1 M) x5.1) (PEq (.bool x5.2)) (D 5) w20 := dpA hd12 5 Z
    obtain ⟨v27, v28, e3, hd13, hd14⟩ := d9
    obtain ⟨bb5, hq7, rfl⟩ : ∃ b, b = x5.2 ∧ v28 = .bool b := ⟨_, rfl, hd14⟩
    exact dg_sub (E' := [(16, (.tuple #[v27, (.bool bb5)]))]) ⟨(congrArg some e3), trivial⟩ (dg_plain Z (ow_extract Z Z Z ⟨BX.refl _ _, (congrArg Value.bool hq7)⟩))
   ·
    intro w21 D hS9 hd15
    have hC21 := hC5.no hS9
    exact dg_sub (E' := []) trivial (dg_plain Z (ow_alloc Z (Tryd.zeroValue69 _) hC21 fun g3 w22 hg5 hg6 ho22 hb13 hl22 hC22 => ⟨hb13, ⟨_, Z, Nat.le_trans hS9.size hg5, ho22⟩⟩))
   ·
    intro w23 D hS10 hd16
    have d16 : PV (RArr 4 (RSlice RSpan)) (Add g1 M) x5.1 (D 6) w23 := dpA hd16 6 Z
    have d17 : PEq (.bool x5.2) (D 7) w23 := dpA hd16 7 Z
    have d18 : PNew w5 69 #[(.slice none 0 0), (.slice none 0 0), (.slice none 0 0), (.slice none 0 0)] (D 8) w23 := dpA hd16 8 Z
    obtain ⟨g4, hq8, hg7, ho25⟩ := d18
    have hg8 := Nat.le_trans hC5.bx.size hg7
    have hl23 := (Le.no (Add g1 M) hS10).add hg7
    have hC23 := (hC5.no hS10).add ho25.lt hg8
    have hn3 := Nat.ne_of_lt (Nat.lt_of_lt_of_le ho3.lt hg7)
    have ho26 := ho3.no hS10
    have hm6 : (Add g4 (Add g1 M)) g1 := .inr hm1
    have hm7 : (Add g4 (Add g1 M)) g4 := .inl Z
    have ho27 : OwnA (RArr 4 (RSlice RSpan)) w23 (Add g4 (Add g1 M)) g4 69 [([] : List Span), ([] : List Span), ([] : List Span), ([] : List Span)] := OwnA.of ho25 ⟨Z, ⟨_, _, Z, (vslice_nil (R := RSpan) (w := w23) (M := (Add g4 (Add g1 M)))).cells, _, _, Z, (vslice_nil (R := RSpan) (w := w23) (M := (Add g4 (Add g1 M)))).cells, _, _, Z, (vslice_nil (R := RSpan) (w := w23) (M := (Add g4 (Add g1 M)))).cells, _, _, Z, (vslice_nil (R := RSpan) (w := w23) (M := (Add g4 (Add g1 M)))).cells, Z⟩⟩
    have d19 : VRep (RArr 4 (RSlice RSpan)) w23 (Add g4 (Add g1 M)) x5.1 (D 6) := sides_free ho25 nil4 d16
    generalize hq9 : (D 6) = v29 at d19
    obtain ⟨bb6, hq10, hq11⟩ : ∃ b, b = x5.2 ∧ (D 7) = .bool b := ⟨_, rfl, d17⟩
    refine ls_sub (E' := [(5, (.pointer (some ⟨g4, 0, none⟩))), (22, v29), (2, (.pointer (some p1))), (3, (.pointer (some p2))), (4, (.pointer (some ⟨g1, 0, none⟩)))]) ⟨(congrArg some hq8), (congrArg some hq9), Z, Z, Z, trivial⟩ ?_
    obtain ⟨cs1, h1, h2⟩ := ho27.own
    refine ls_op0 (by kernel_rfl) Z Z (ow_storeA (X := No) (R := (RArr 4 (RSlice RSpan))) Z Z Z Z h1 h2 (Tryd.sizeOf69 _) d19 hm7 (.inl hg8) hC23 fun w24 ho28 hb14 hl24 hC24 => ?_)
    have ho29 := ho26.go hb14 (fun e => hn3 e)
    refine ls_hang (by kernel_rfl) (lw_sub (E' := [(23, (.bool bb6)), (5, (.pointer (some ⟨g4, 0, none⟩))), (22, v29), (2, (.pointer (some p1))), (3, (.pointer (some p2))), (4, (.pointer (some ⟨g1, 0, none⟩)))]) ⟨(congrArg some hq11), Z, Z, Z, Z, Z, trivial⟩ (lw_op Z Z Z (ow_assign Z Z (lw_nil (ew_then (cw_seq (cw_seq (cw_region (lw_op Z Z Z (ow_move Z Z (lw_op Z Z Z (ow_not Z Z (lw_nil (ew_then ?_))))))))))))))
    replace h := cond_some h
    rcases h with ⟨hc3, h⟩ | ⟨hc3, h⟩
    ·
     obtain rfl := hq10.trans hc3
     refine cw_false Z (cw_skip (ew_then (cw_seq (cw_region (lw_op Z Z Z (ow_loadA (R := (RArr 4 (RSlice RSpan))) Z Z Z ho28 (Tryd.sizeOf69 _) (Tryd.isAgg69 _) fun v30 hv30 => ?_))))))
     replace h := bind_some h
     obtain ⟨x6, hx6, h⟩ := h
     have hz6 := ((hz2.trans hl23).trans hl24)
     refine lw_op Z Z Z (ow_call Z Z Tryd.call57 (w_impl_sides_box (hG.mono hz6) hC24.old hv30 hx6) fun v31 w25 hv31 => ?_)
     obtain ⟨hv31, hb15⟩ := hv31
     have hC25 := hC24.no hb15
     have ho30 := ho29.no hb15
     obtain ⟨A1, c1, rfl, hw1⟩ := open_Box hv31
     refine lw_op0 Z Z (ow_store (X := No) (us := [(.slice A1 x6.Sides.length c1)]) (cs' := #[(.slice A1 x6.Sides.length c1)]) Z Z Z Z ho30 (Tryd.sizeOf27 _) Z Z Z Z hm6 (.inl hg2) Z hC25 fun w26 ho32 hb16 hl26 hC26 => lw_nil (ew_then (cw_ret ?_)))
     have hw2 : VRep RBox w26 (Add g4 (Add g1 M)) ({ Sides := x6.Sides } : Box) (.agg #[(.slice A1 x6.Sides.length c1)]) := shut_Box (VRep.mono hl26 hw1)
     obtain rfl := Option.some.inj h
     exact ew_ret (res1 Z (.cell Z (own_loadVarA ho32 (Tryd.isAgg27 _) (Tryd.sizeOf27 _) Z))) ⟨_, Z, (hw2.mono hC26.back), hC26.bx⟩
    ·
     obtain rfl := hq10.trans hc3
     refine cw_true Z (cw_seq (cw_region (lw_op Z Z Z (ow_build (v := .agg #[(.slice none 0 0)]) Z Z (by kernel_rfl) (lw_op0 Z Z (ow_store (X := No) (us := [(.slice none 0 0)]) (cs' := #[(.slice none 0 0)]) Z Z Z Z ho29 (Tryd.sizeOf27 _) Z Z Z Z hm6 (.inl hg2) Z hC24 fun w27 ho34 hb17 hl27 hC27 => lw_nil (ew_then (cw_ret (ew_thenR ?_)))))))))
     have hw4 : VRep RBox w27 (Add g4 (Add g1 M)) ({ Sides := ([] : List (List Span)) } : Box) (.agg #[(.slice none 0 0)]) := shut_Box (VRep.mono hl27 (vslice_nil (R := (RSlice RSpan)) (w := w24) (M := (Add g4 (Add g1 M)))))
     obtain rfl := Option.some.inj h
     exact ew_ret (res1 Z (.cell Z (own_loadVarA ho34 (Tryd.isAgg27 _) (Tryd.sizeOf27 _) Z))) ⟨_, Z, (hw4.mono hC27.back), hC27.bx⟩
  ·
   subst hc2
   refine cw_true Z (cw_seq (cw_region (lw_op Z Z Z (ow_build (v := .agg #[(.slice none 0 0)]) Z Z (by kernel_rfl) (lw_op0 Z Z (ow_store (X := No) (us := [(.slice none 0 0)]) (cs' := #[(.slice none 0 0)]) Z Z Z Z ho3 (Tryd.sizeOf27 _) Z Z Z Z hm1 (.inl hg2) Z hC5 fun w28 ho36 hb18 hl28 hC28 => lw_nil (ew_then (cw_ret (ew_thenR ?_)))))))))
   have hw6 : VRep RBox w28 (Add g1 M) ({ Sides := ([] : List (List Span)) } : Box) (.agg #[(.slice none 0 0)]) := shut_Box (VRep.mono hl28 (vslice_nil (R := (RSlice RSpan)) (w := w5) (M := (Add g1 M))))
   obtain rfl := Option.some.inj h
   exact ew_ret (res1 Z (.cell Z (own_loadVarA ho36 (Tryd.isAgg27 _) (Tryd.sizeOf27 _) Z))) ⟨_, Z, (hw6.mono hC28.back), hC28.bx⟩
 ·
  subst hc1
  refine lw_off Z Z Z Z Z Z (lw_off Z Z Z Z Z Z (lw_off Z Z Z Z Z Z (lw_op Z Z Z (ow_pickT Z Z Z (lw_nil (ew_then (cw_true Z (cw_seq (cw_region (lw_op Z Z Z (ow_build (v := .agg #[(.slice none 0 0)]) Z Z (by kernel_rfl) (lw_op0 Z Z (ow_store (X := No) (us := [(.slice none 0 0)]) (cs' := #[(.slice none 0 0)]) Z Z Z Z ho2 (Tryd.sizeOf27 _) Z Z Z Z hm1 (.inl hg2) Z hC4 fun w29 ho37 hb19 hl29 hC29 => lw_nil (ew_then (cw_ret (ew_thenR ?_))))))))))))))))
  have hw8 : VRep RBox w29 (Add g1 M) ({ Sides := ([] : List (List Span)) } : Box) (.agg #[(.slice none 0 0)]) := shut_Box (VRep.mono hl29 (vslice_nil (R := (RSlice RSpan)) (w := w4) (M := (Add g1 M))))
  obtain rfl := Option.some.inj h
  exact ew_ret (res1 Z (.cell Z (own_loadVarA ho37 (Tryd.isAgg27 _) (Tryd.sizeOf27 _) Z))) ⟨_, Z, (hw8.mono hC29.back), hC29.bx⟩

theorem w_laws_probe {w : World} {M : Nat → Prop} (_hG : ARep (RArr 4 RShape) w M shapes ⟨0, 0, none⟩) (hO : ∀ b, M b → b < w.heap.size) {v0p : Value} {a_list : List Box} (h0 : VRep (RSlice RBox) w M a_list v0p) {a_seed : Int} {r : Packet} (h : F.laws_probe a_list a_seed = some r) :
  Calls Tryd.prog 29 [v0p, (.int .i64 a_seed)].toArray w fun e w' => ∃ v, e = .returned v ∧ VRep RPacket w' M r v ∧ BX No w w' := by
 have hC : Cx No w M w M := Cx.start hO (fun _ e => e.elim)
 clear _hG
 refine walk (N := 107) Tryd.func29 Z Tryd.ntmps29 Z (cw_seq (cw_region (lw_op Z Z Z (ow_alloc Z (Tryd.zeroValue45 _) hC fun g1 w1 hg1 hg2 ho1 hb1 hl1 hC1 => ?_))))
 have hm1 : (Add g1 M) g1 := .inl Z
 refine lw_nil (ew_then (cw_seq (cw_region (lw_op Z Z Z (ow_move Z Z (lw_op Z Z Z (ow_rem Z Z Z (by decide) (lw_op Z Z Z (ow_move Z Z (lw_op Z Z Z (ow_quo Z Z Z (by decide) (lw_op Z Z Z (ow_rem Z Z Z (by decide) (lw_op Z Z Z (ow_move Z Z (lw_op Z Z Z (ow_rem Z Z Z (by decide) (lw_op Z Z Z (ow_move Z Z (lw_op Z Z Z (ow_rem Z Z Z (by decide) (lw_op Z Z Z (ow_build (v := .agg #[(.int .i64 ((a_seed).tmod 65536)), (.int .i64 (((W ((a_seed).tdiv 3))).tmod 65536)), (.int .i64 ((a_seed).tmod 256)), (.int .i64 ((a_seed).tmod 8))]) Z Z (by kernel_rfl) ?_)))))))))))))))))))))))
 have hw1 : VRep RPacket w1 (Add g1 M) ({ From := ((a_seed).tmod 65536), To := (((W ((a_seed).tdiv 3))).tmod 65536), Port := ((a_seed).tmod 256), Proto := ((a_seed).tmod 8) } : Packet) (.agg #[(.int .i64 ((a_seed).tmod 65536)), (.int .i64 (((W ((a_seed).tdiv 3))).tmod 65536)), (.int .i64 ((a_seed).tmod 256)), (.int .i64 ((a_seed).tmod 8))]) := shut_Packet
 refine lw_allocStore (R := RPacket) Z Z Z Z Z Z Z Tryd.zeroValue45 Tryd.sizeOf45 Z Z Z (by simp) hw1 hC1 fun p1 w2 hp1 hb2 hl2 hC2 => ?_
 have ho2 := ho1.no hb2
 refine lw_nil (ew_then (cw_seq (cw_region (lw_op Z Z Z (ow_fieldAddr Z Z Tryd.underlying45 Z (Tryd.sizeOf3 _) (lw_op Z Z Z (ow_load (R := RInt) Z Z (hp1.fld fld_Packet_From) (Tryd.sizeOf3 _) (Tryd.isAgg3 _) fun v1 hv1 => ?_)))))))
 obtain rfl := vint_eq hv1
 refine lw_op Z Z Z (ow_fieldAddr Z Z Tryd.underlying45 Z (Tryd.sizeOf3 _) (lw_op Z Z Z (ow_load (R := RInt) Z Z (hp1.fld fld_Packet_To) (Tryd.sizeOf3 _) (Tryd.isAgg3 _) fun v2 hv2 => ?_)))
 obtain rfl := vint_eq hv2
 refine lw_op Z Z Z (ow_fieldAddr Z Z Tryd.underlying45 Z (Tryd.sizeOf3 _) (lw_op Z Z Z (ow_load (R := RInt) Z Z (hp1.fld fld_Packet_Port) (Tryd.sizeOf3 _) (Tryd.isAgg3 _) fun v3 hv3 => ?_)))
 obtain rfl := vint_eq hv3
 refine lw_op Z Z Z (ow_fieldAddr Z Z Tryd.underlying45 Z (Tryd.sizeOf3 _) (lw_op Z Z Z (ow_load (R := RInt) Z Z (hp1.fld fld_Packet_Proto) (Tryd.sizeOf3 _) (Tryd.isAgg3 _) fun v4 hv4 => ?_)))
 obtain rfl := vint_eq hv4
 refine lw_op Z Z Z (ow_buildSliceOwn (R := RInt) (xs := [({ From := ((a_seed).tmod 65536), To := (((W ((a_seed).tdiv 3))).tmod 65536), Port := ((a_seed).tmod 256), Proto := ((a_seed).tmod 8) } : Packet).From, ({ From := ((a_seed).tmod 65536), To := (((W ((a_seed).tdiv 3))).tmod 65536), Port := ((a_seed).tmod 256), Proto := ((a_seed).tmod 8) } : Packet).To, ({ From := ((a_seed).tmod 65536), To := (((W ((a_seed).tdiv 3))).tmod 65536), Port := ((a_seed).tmod 256), Proto := ((a_seed).tmod 8) } : Packet).Port, ({ From := ((a_seed).tmod 65536), To := (((W ((a_seed).tdiv 3))).tmod 65536), Port := ((a_seed).tmod 256), Proto := ((a_seed).tmod 8) } : Packet).Proto]) (cs := #[(.int .i64 ({ From := ((a_seed).tmod 65536), To := (((W ((a_seed).tdiv 3))).tmod 65536), Port := ((a_seed).tmod 256), Proto := ((a_seed).tmod 8) } : Packet).From), (.int .i64 ({ From := ((a_seed).tmod 65536), To := (((W ((a_seed).tdiv 3))).tmod 65536), Port := ((a_seed).tmod 256), Proto := ((a_seed).tmod 8) } : Packet).To), (.int .i64 ({ From := ((a_seed).tmod 65536), To := (((W ((a_seed).tdiv 3))).tmod 65536), Port := ((a_seed).tmod 256), Proto := ((a_seed).tmod 8) } : Packet).Port), (.int .i64 ({ From := ((a_seed).tmod 65536), To := (((W ((a_seed).tdiv 3))).tmod 65536), Port := ((a_seed).tmod 256), Proto := ((a_seed).tmod 8) } : Packet).Proto)]) (e := 3) Z Z (by kernel_rfl) Z Z ⟨_, _, Z, (vint _).cells, _, _, Z, (vint _).cells, _, _, Z, (vint _).cells, _, _, Z, (vint _).cells, Z⟩ hC2 fun p2 w3 M1 hr1 hb3 hl3 hC3 hM1 hat1 => ?_)
 have ho3 := ho2.no hb3
 have hm2 := hM1 _ hm1
 refine lw_op Z Z Z (ow_assign Z Z (lw_nil (ew_then (cw_seq (cw_seq (cw_region (lw_op Z Z Z (ow_assign Z Z (lw_nil (ew_then ?_))))))))))
 replace h := bind_some h
 obtain ⟨lr1, hlr1, h⟩ := h
 refine cw_for hlr1 (fun s a w' => ∃ (M' : Nat → Prop), Fits 107 [(0, v0p), (1, (.int .i64 a_seed)), (4, (.pointer (some ⟨g1, 0, none⟩))), (6, (.slice (some p2) 4 4)), (7, (.int .i64 s.1))] a ∧ Le w3 M1 w' M' ∧ Cx No w M w' M' ∧ OwnRow RInt w.heap.size 3 w' M' s.2 (.slice (some p2) 4 4) ∧ Own w' g1 45 #[(.int .i64 0), (.int .i64 0), (.int .i64 0), (.int .i64 0)] ∧ M' g1) ?_ ?_ ?_
 ·
  intro a ha
  exact ⟨M1, ha.sub ⟨Z, Z, Z, Z, Z, trivial⟩, Le.refl _ _, hC3, hr1, ho3, hm2⟩
 ·
  rintro ⟨k1, y1⟩ a w4 sr1 ⟨M2, hF1, hl4, hC4, hw2, ho4, hm3⟩ hb4 hR1
  refine cw_at (E := [(0, v0p), (1, (.int .i64 a_seed)), (4, (.pointer (some ⟨g1, 0, none⟩))), (6, (.slice (some p2) 4 4)), (7, (.int .i64 k1))]) hF1 (cw_seq (cw_seq (cw_region (lw_op Z Z Z (ow_move Z Z (lw_op Z Z Z (ow_move Z Z ?_)))))))
  have hz1 := (((hl1.trans hl2).trans hl3).trans hl4)
  refine lw_op Z Z Z (ow_len Z Z (VRep.mono hz1 h0) Tryd.underlying34 Z (lw_op Z Z Z (ow_lss Z Z Z fun bb1 hbb1 => lw_nil (ew_then ?_))))
  replace hb4 := cond_some hb4
  rcases hb4 with ⟨hc1, hb4⟩ | ⟨hc1, hb4⟩
  ·
   obtain rfl := hbb1.trans hc1
   refine cw_true Z (cw_skip (ew_then (cw_seq (cw_block (cw_seq (cw_region (lw_op Z Z Z (ow_assign Z Z (lw_nil (ew_then ?_))))))))))
   replace hb4 := bind_some hb4
   obtain ⟨lr2, hlr2, hb4⟩ := hb4
   refine cw_for hlr2 (fun s a w' => ∃ (M' : Nat → Prop), Fits 107 [(0, v0p), (1, (.int .i64 a_seed)), (4, (.pointer (some ⟨g1, 0, none⟩))), (6, (.slice (some p2) 4 4)), (7, (.int .i64 k1)), (8, (.int .i64 s.1))] a ∧ Le w4 M2 w' M' ∧ Cx No w M w' M' ∧ OwnRow RInt w.heap.size 3 w' M' s.2 (.slice (some p2) 4 4) ∧ Own w' g1 45 #[(.int .i64 0), (.int .i64 0), (.int .i64 0), (.int .i64 0)] ∧ M' g1) ?_ ?_ ?_
   ·
    intro a ha
    exact ⟨M2, ha.sub ⟨Z, Z, Z, Z, Z, Z, trivial⟩, Le.refl _ _, hC4, hw2, ho4, hm3⟩
   ·
    rintro ⟨k2, y2⟩ a w5 sr2 ⟨M3, hF2, hl5, hC5, hw3, ho5, hm4⟩ hb5 hR2
    refine cw_at (E := [(0, v0p), (1, (.int .i64 a_seed)), (4, (.pointer (some ⟨g1, 0, none⟩))), (6, (.slice (some p2) 4 4)), (7, (.int .i64 k1)), (8, (.int .i64 k2))]) hF2 (cw_seq (cw_seq (cw_region (lw_op Z Z Z (ow_move Z Z (lw_op Z Z Z (ow_lss Z Z Z fun bb2 hbb2 => lw_op Z Z Z (ow_move Z Z ?_))))))))
    replace hb5 := cond_some hb5
    rcases hb5 with ⟨hc2, hb5⟩ | ⟨hc2, hb5⟩
    ·
     obtain rfl := hbb2.trans hc2
     refine lw_on Z Z Z Z Z Z (ow_move Z Z (lw_on Z Z Z Z Z Z (ow_move Z Z (lw_on Z Z Z Z Z Z (ow_move Z Z ?_)))))
     replace hb5 := bind_some hb5
     obtain ⟨x1, hx1, hb5⟩ := hb5
     refine lw_on Z Z Z Z Z Z (ow_indexSlice (R := RBox) Z Z Z (VRep.mono (hz1.trans hl5) h0) Tryd.underlying34 (Tryd.sizeOf27 _) hx1 fun p3 hp3 => lw_on Z Z Z Z Z Z (ow_fieldAddr Z Z Tryd.underlying27 Z (Tryd.sizeOf25 _) (lw_on Z Z Z Z Z Z (ow_load (R := (RSlice (RSlice RSpan))) Z Z (hp3.fld fld_Box_Sides) (Tryd.sizeOf25 _) (Tryd.isAgg25 _) fun v9 hv9 => lw_on Z Z Z Z Z Z (ow_len Z Z hv9 Tryd.underlying25 Z (lw_on Z Z Z Z Z Z (ow_lss Z Z Z fun bb3 hbb3 => lw_op Z Z Z (ow_pickT Z Z Z (lw_nil (ew_then ?_))))))))))
     replace hb5 := cond_some hb5
     rcases hb5 with ⟨hc3, hb5⟩ | ⟨hc3, hb5⟩
     ·
      obtain rfl := hbb3.trans hc3
      refine cw_true Z (cw_skip (ew_then (cw_seq (cw_block (cw_seq (cw_region (lw_op Z Z Z (ow_move Z Z (lw_op Z Z Z (ow_move Z Z (lw_op Z Z Z (ow_indexSlice (R := RBox) Z Z Z (VRep.mono (hz1.trans hl5) h0) Tryd.underlying34 (Tryd.sizeOf27 _) hx1 fun p4 hp4 => lw_op Z Z Z (ow_fieldAddr Z Z Tryd.underlying27 Z (Tryd.sizeOf25 _) (lw_op Z Z Z (ow_load (R := (RSlice (RSlice RSpan))) Z Z (hp4.fld fld_Box_Sides) (Tryd.sizeOf25 _) (Tryd.isAgg25 _) fun v10 hv10 => lw_op Z Z Z (ow_move Z Z ?_))))))))))))))))
      replace hb5 := bind_some hb5
      obtain ⟨x2, hx2, hb5⟩ := hb5
      refine lw_op Z Z Z (ow_indexSlice (R := (RSlice RSpan)) Z Z Z hv10 Tryd.underlying25 (Tryd.sizeOf58 _) hx2 fun p5 hp5 => lw_op Z Z Z (ow_load (R := (RSlice RSpan)) Z Z hp5 (Tryd.sizeOf58 _) (Tryd.isAgg58 _) fun v11 hv11 => lw_op Z Z Z (ow_assign Z Z (lw_nil (ew_then (cw_seq (cw_seq (cw_region (lw_op Z Z Z (ow_move Z Z (lw_op Z Z Z (ow_len Z Z hv11 Tryd.underlying58 Z (lw_op Z Z Z (ow_eqlI Z Z Z fun bb4 hbb4 => lw_op Z Z Z (ow_move Z Z ?_)))))))))))))))
      replace hb5 := cond_some hb5
      rcases hb5 with ⟨hc4, hb5⟩ | ⟨hc4, hb5⟩
      ·
       obtain rfl := hbb4.trans hc4
       exact lw_off Z Z Z Z Z Z (lw_off Z Z Z Z Z Z (lw_off Z Z Z Z Z Z (lw_off Z Z Z Z Z Z (lw_off Z Z Z Z Z Z (lw_off Z Z Z Z Z Z (lw_off Z Z Z Z Z Z (lw_op Z Z Z (ow_pickT Z Z Z (lw_nil (ew_then (cw_true Z (cw_exit (ew_thenX (ew_blockX (ew_then (cw_region (lw_op Z Z Z (ow_move Z Z (lw_op Z Z Z (ow_add Z Z Z (lw_op Z Z Z (ow_assign Z Z (lw_nil (ew_nxt ((W (k2 + 1)), y2) hb5 fun a ha => ⟨M3, (ha.sub ⟨Z, Z, Z, Z, Z, Z, trivial⟩), hl5, hC5, hw3, ho5, hm4⟩))))))))))))))))))))))))
      ·
       obtain rfl := hbb4.trans hc4
       refine lw_on Z Z Z Z Z Z (ow_move Z Z (lw_on Z Z Z Z Z Z (ow_move Z Z (lw_on Z Z Z Z Z Z (ow_add Z Z Z (lw_on Z Z Z Z Z Z (ow_move Z Z (lw_on Z Z Z Z Z Z (ow_add Z Z Z (lw_on Z Z Z Z Z Z (ow_rem Z Z Z (by decide) (lw_on Z Z Z Z Z Z (ow_eqlI Z Z Z fun bb5 hbb5 => lw_op Z Z Z (ow_pickF Z Z Z (lw_nil (ew_then ?_))))))))))))))))
       replace hb5 := cond_some hb5
       rcases hb5 with ⟨hc5, hb5⟩ | ⟨hc5, hb5⟩
       ·
        obtain rfl := hbb5.trans hc5
        exact cw_true Z (cw_exit (ew_thenX (ew_blockX (ew_then (cw_region (lw_op Z Z Z (ow_move Z Z (lw_op Z Z Z (ow_add Z Z Z (lw_op Z Z Z (ow_assign Z Z (lw_nil (ew_nxt ((W (k2 + 1)), y2) hb5 fun a ha => ⟨M3, (ha.sub ⟨Z, Z, Z, Z, Z, Z, trivial⟩), hl5, hC5, hw3, ho5, hm4⟩)))))))))))))
       ·
        obtain rfl := hbb5.trans hc5
        refine cw_false Z (cw_skip (ew_then (cw_seq (cw_region (lw_op Z Z Z (ow_move Z Z (lw_op Z Z Z (ow_move Z Z (lw_op Z Z Z (ow_move Z Z (lw_op Z Z Z (ow_add Z Z Z (lw_op Z Z Z (ow_move Z Z (lw_op Z Z Z (ow_len Z Z hv11 Tryd.underlying58 Z ?_))))))))))))))))
        replace hb5 := bind_some hb5
        obtain ⟨u1, hu1, hb5⟩ := hb5
        refine lw_op Z Z Z (ow_rem Z Z Z (nzF_some hu1) ?_)
        replace hb5 := bind_some hb5
        obtain ⟨x3, hx3, hb5⟩ := hb5
        refine lw_op Z Z Z (ow_indexSlice (R := RSpan) Z Z Z hv11 Tryd.underlying58 (Tryd.sizeOf76 _) hx3 fun p6 hp6 => lw_op Z Z Z (ow_load (R := RSpan) Z Z hp6 (Tryd.sizeOf76 _) (Tryd.isAgg76 _) fun v12 hv12 => lw_allocStore (R := RSpan) Z Z Z Z Z Z Z Tryd.zeroValue76 Tryd.sizeOf76 Z Z Z (by simp) hv12 hC5 fun p7 w6 hp7 hb6 hl6 hC6 => ?_))
        have ho6 := ho5.no hb6
        have hr2 := hw3.no hb6
        refine lw_nil (ew_then (cw_seq (cw_region (lw_op Z Z Z (ow_move Z Z (lw_op Z Z Z (ow_move Z Z (lw_op Z Z Z (ow_fieldAddr Z Z Tryd.underlying76 Z (Tryd.sizeOf3 _) (lw_op Z Z Z (ow_load (R := RInt) Z Z (hp7.fld fld_Span_Lo) (Tryd.sizeOf3 _) (Tryd.isAgg3 _) fun v13 hv13 => ?_)))))))))))
        obtain rfl := vint_eq hv13
        replace hb5 := bind_some hb5
        obtain ⟨x4, hx4, hb5⟩ := hb5
        refine lw_op Z Z Z (ow_indexRow (R := RInt) Z Z Z hr2 Tryd.underlying84 (Tryd.sizeOf3 _) hx4 (lw_op0 Z Z (ow_storeElRow (X := No) (R := RInt) (S := RInt) Z Z Z Z hr2 (orow_blk hr2 hx4) hx4 (FldSet.whole RInt) (Tryd.sizeOf3 _) (vint _) (Nat.le_refl _) hC6 fun w7 ho7 hb7 hl7 hC7 => ?_)))
        have ho8 := ho6.go hb7 (fun e => (orow_ne hr2 ho6 (by decide)) (by rw [orow_blk hr2 hx4]; exact congrArg some e.symm))
        refine lw_nil (ew_then (cw_seq (cw_region (lw_op Z Z Z (ow_move Z Z (lw_op Z Z Z (ow_move Z Z (lw_op Z Z Z (ow_add Z Z Z (lw_op Z Z Z (ow_rem Z Z Z (by decide) (lw_op Z Z Z (ow_eqlI Z Z Z fun bb6 hbb6 => lw_nil (ew_then ?_))))))))))))))
        replace hb5 := cond_some hb5
        rcases hb5 with ⟨hc6, hb5⟩ | ⟨hc6, hb5⟩
        ·
         obtain rfl := hbb6.trans hc6
         refine cw_true Z (cw_region (lw_op Z Z Z (ow_move Z Z (lw_op Z Z Z (ow_move Z Z (lw_op Z Z Z (ow_fieldAddr Z Z Tryd.underlying76 Z (Tryd.sizeOf3 _) (lw_op Z Z Z (ow_load (R := RInt) Z Z (ARep.mono hl7 (hp7.fld fld_Span_Hi)) (Tryd.sizeOf3 _) (Tryd.isAgg3 _) fun v14 hv14 => ?_)))))))))
         obtain rfl := vint_eq hv14
         replace hb5 := bind_some hb5
         obtain ⟨x5, hx5, hb5⟩ := hb5
         refine lw_op Z Z Z (ow_indexRow (R := RInt) Z Z Z ho7 Tryd.underlying84 (Tryd.sizeOf3 _) hx5 (lw_op0 Z Z (ow_storeElRow (X := No) (R := RInt) (S := RInt) Z Z Z Z ho7 (orow_blk ho7 hx5) hx5 (FldSet.whole RInt) (Tryd.sizeOf3 _) (vint _) (Nat.le_refl _) hC7 fun w8 ho9 hb8 hl8 hC8 => ?_)))
         have ho10 := ho8.go hb8 (fun e => (orow_ne ho7 ho8 (by decide)) (by rw [orow_blk ho7 hx5]; exact congrArg some e.symm))
         refine lw_nil (ew_blockN (ew_then (cw_region (lw_op Z Z Z (ow_move Z Z (lw_op Z Z Z (ow_add Z Z Z (lw_op Z Z Z (ow_assign Z Z (lw_nil ?_))))))))))
         have hz2 := (((hl5.trans hl6).trans hl7).trans hl8)
         exact ew_nxt ((W (k2 + 1)), (List.set (List.set y2 (k2 : Int).toNat x3.Lo) (k2 : Int).toNat x3.Hi)) hb5 fun a ha => ⟨M3, (ha.sub ⟨Z, Z, Z, Z, Z, Z, trivial⟩), hz2, hC8, ho9, ho10, hm4⟩
        ·
         obtain rfl := hbb6.trans hc6
         refine cw_false Z (cw_skip (ew_blockN (ew_then (cw_region (lw_op Z Z Z (ow_move Z Z (lw_op Z Z Z (ow_add Z Z Z (lw_op Z Z Z (ow_assign Z Z (lw_nil ?_)))))))))))
         have hz3 := ((hl5.trans hl6).trans hl7)
         exact ew_nxt ((W (k2 + 1)), (List.set y2 (k2 : Int).toNat x3.Lo)) hb5 fun a ha => ⟨M3, (ha.sub ⟨Z, Z, Z, Z, Z, Z, trivial⟩), hz3, hC7, ho7, ho8, hm4⟩
     ·
      obtain rfl := hbb3.trans hc3
      exact cw_false Z (cw_exit (ew_thenX (ew_thenX (ew_blockX (ew_brk (k2, y2) hb5 fun a ha => ⟨M3, (ha.sub ⟨Z, Z, Z, Z, Z, Z, trivial⟩), hl5, hC5, hw3, ho5, hm4⟩)))))
    ·
     obtain rfl := hbb2.trans hc2
     exact lw_off Z Z Z Z Z Z (lw_off Z Z Z Z Z Z (lw_off Z Z Z Z Z Z (lw_off Z Z Z Z Z Z (lw_off Z Z Z Z Z Z (lw_off Z Z Z Z Z Z (lw_off Z Z Z Z Z Z (lw_off Z Z Z Z Z Z (lw_op Z Z Z (ow_pickF Z Z Z (lw_nil (ew_then (cw_false Z (cw_exit (ew_thenX (ew_thenX (ew_blockX (ew_brk (k2, y2) hb5 fun a ha => ⟨M3, (ha.sub ⟨Z, Z, Z, Z, Z, Z, trivial⟩), hl5, hC5, hw3, ho5, hm4⟩)))))))))))))))))
   ·
    rintro ⟨k3, y3⟩ a w9 hlr3 ⟨M4, hF3, hl9, hC9, hw4, ho11, hm5⟩
    subst hlr3
    exact ew_at (E := [(0, v0p), (1, (.int .i64 a_seed)), (4, (.pointer (some ⟨g1, 0, none⟩))), (6, (.slice (some p2) 4 4)), (7, (.int .i64 k1)), (8, (.int .i64 k3))]) hF3 (ew_blockN (ew_then (cw_region (lw_op Z Z Z (ow_move Z Z (lw_op Z Z Z (ow_add Z Z Z (lw_op Z Z Z (ow_assign Z Z (lw_nil (ew_nxt ((W (k1 + 1)), y3) hb4 fun a ha => ⟨M4, (ha.sub ⟨Z, Z, Z, Z, Z, trivial⟩), (hl4.trans hl9), hC9, hw4, ho11, hm5⟩)))))))))))
  ·
   obtain rfl := hbb1.trans hc1
   exact cw_false Z (cw_exit (ew_thenX (ew_thenX (ew_blockX (ew_brk (k1, y1) hb4 fun a ha => ⟨M2, (ha.sub ⟨Z, Z, Z, Z, Z, trivial⟩), hl4, hC4, hw2, ho4, hm3⟩)))))
 ·
  rintro ⟨k4, y4⟩ a w10 hlr4 ⟨M5, hF4, hl10, hC10, hw5, ho12, hm6⟩
  subst hlr4
  refine ew_at (E := [(0, v0p), (1, (.int .i64 a_seed)), (4, (.pointer (some ⟨g1, 0, none⟩))), (6, (.slice (some p2) 4 4)), (7, (.int .i64 k4))]) hF4 (ew_then (cw_seq ?_))
  replace h := bind_some h
  obtain ⟨x6, hx6, h⟩ := h
  replace h := bind_some h
  obtain ⟨x7, hx7, h⟩ := h
  replace h := bind_some h
  obtain ⟨x8, hx8, h⟩ := h
  replace h := bind_some h
  obtain ⟨x9, hx9, h⟩ := h
  refine cw_sub (E' := [(4, (.pointer (some ⟨g1, 0, none⟩))), (6, (.slice (some p2) 4 4))]) ⟨Z, Z, trivial⟩ (cw_drawQ 12 [PEq (.slice (some p2) 4 4), PEq (.pointer (some ⟨blk (.slice (some p2) 4 4), (0 : Int).toNat * RInt.size + 0, none⟩)), PEq (.int .i64 x6), PEq (.slice (some p2) 4 4), PEq (.pointer (some ⟨blk (.slice (some p2) 4 4), (1 : Int).toNat * RInt.size + 0, none⟩)), PEq (.int .i64 x7), PEq (.slice (some p2) 4 4), PEq (.pointer (some ⟨blk (.slice (some p2) 4 4), (2 : Int).toNat * RInt.size + 0, none⟩)), PEq (.int .i64 x8), PEq (.slice (some p2) 4 4), PEq (.pointer (some ⟨blk (.slice (some p2) 4 4), (3 : Int).toNat * RInt.size + 0, none⟩)), PEq (.int .i64 x9)] (by kernel_rfl) Z (by kernel_rfl) ⟨PEq.mono _, PEq.mono _, PEq.mono _, PEq.mono _, PEq.mono _, PEq.mono _, PEq.mono _, PEq.mono _, PEq.mono _, PEq.mono _, PEq.mono _, PEq.mono _, trivial⟩ ⟨?_, ?_, ?_, ?_, ?_, ?_, ?_, ?_, ?_, ?_, ?_, ?_, trivial⟩ ?_)
  ·
   intro w11 D hS1 hd1
   exact dg_sub (E' := [(6, (.slice (some p2) 4 4))]) ⟨Z, trivial⟩ (dg_plain Z (ow_move Z Z ⟨BX.refl _ _, Z⟩))
  ·
   intro w12 D hS2 hd2
   have hr4 := hw5.no hS2
   exact dg_sub (E' := [(94, (.slice (some p2) 4 4))]) ⟨(dpE hd2 0 Z Z), trivial⟩ (dg_plain Z (ow_indexRow (R := RInt) Z Z Z hr4 Tryd.underlying84 (Tryd.sizeOf3 _) hx6 ⟨BX.refl _ _, Z⟩))
  ·
   intro w13 D hS3 hd3
   have hr5 := hw5.no hS3
   refine dg_sub (E' := [(95, (.pointer (some ⟨blk (.slice (some p2) 4 4), (0 : Int).toNat * RInt.size + 0, none⟩)))]) ⟨(dpE hd3 1 Z Z), trivial⟩ (dg_plain Z (ow_loadElRow (R := RInt) (S := RInt) Z Z Z hr5 (orow_blk hr5 hx6) hx6 (Fld.whole RInt) (Tryd.sizeOf3 _) (Tryd.isAgg3 _) fun v23 hv23 => ?_))
   obtain rfl := vint_eq hv23
   exact ⟨BX.refl _ _, Z⟩
  ·
   intro w14 D hS4 hd4
   exact dg_sub (E' := [(6, (.slice (some p2) 4 4))]) ⟨Z, trivial⟩ (dg_plain Z (ow_move Z Z ⟨BX.refl _ _, Z⟩))
  ·
   intro w15 D hS5 hd5
   have hr7 := hw5.no hS5
   exact dg_sub (E' := [(97, (.slice (some p2) 4 4))]) ⟨(dpE hd5 3 Z Z), trivial⟩ (dg_plain Z (ow_indexRow (R := RInt) Z Z Z hr7 Tryd.underlying84 (Tryd.sizeOf3 _) hx7 ⟨BX.refl _ _, Z⟩))
  ·
   intro w16 D hS6 hd6
   have hr8 := hw5.no hS6
   refine dg_sub (E' := [(98, (.pointer (some ⟨blk (.slice (some p2) 4 4), (1 : Int).toNat * RInt.size + 0, none⟩)))]) ⟨(dpE hd6 4 Z Z), trivial⟩ (dg_plain Z (ow_loadElRow (R := RInt) (S := RInt) Z Z Z hr8 (orow_blk hr8 hx7) hx7 (Fld.whole RInt) (Tryd.sizeOf3 _) (Tryd.isAgg3 _) fun v24 hv24 => ?_))
   obtain rfl := vint_eq hv24
   exact ⟨BX.refl _ _, Z⟩
  ·
   intro w17 D hS7 hd7
   exact dg_sub (E' := [(6, (.slice (some p2) 4 4))]) ⟨Z, trivial⟩ (dg_plain Z (ow_move Z Z ⟨BX.refl _ _, Z⟩))
  ·
   intro w18 D hS8 hd8
   have hr10 := hw5.no hS8
   exact dg_sub (E' := [(100, (.slice (some p2) 4 4))]) ⟨(dpE hd8 6 Z Z), trivial⟩ (dg_plain Z (ow_indexRow (R := RInt) Z Z Z hr10 Tryd.underlying84 (Tryd.sizeOf3 _) hx8 ⟨BX.refl _ _, Z⟩))
  ·
   intro w19 D hS9 hd9
   have hr11 := hw5.no hS9
   refine dg_sub (E' := [(101, (.pointer (some ⟨blk (.slice (some p2) 4 4), (2 : Int).toNat * RInt.size + 0, none⟩)))]) ⟨(dpE hd9 7 Z Z), trivial⟩ (dg_plain Z (ow_loadElRow (R := RInt) (S := RInt) Z Z Z hr11 (orow_blk hr11 hx8) hx8 (Fld.whole RInt) (Tryd.sizeOf3 _) (Tryd.isAgg3 _) fun v25 hv25 => ?_))
   obtain rfl := vint_eq hv25
   exact ⟨BX.refl _ _, Z⟩
  ·
   intro w20 D hS10 hd10
   exact dg_sub (E' := [(6, (.slice (some p2) 4 4))]) ⟨Z, trivial⟩ (dg_plain Z (ow_move Z Z ⟨BX.refl _ _, Z⟩))
  ·
   intro w21 D hS11 hd11
   have hr13 := hw5.no hS11
   exact dg_sub (E' := [(103, (.slice (some p2) 4 4))]) ⟨(dpE hd11 9 Z Z), trivial⟩ (dg_plain Z (ow_indexRow (R := RInt) Z Z Z hr13 Tryd.underlying84 (Tryd.sizeOf3 _) hx9 ⟨BX.refl _ _, Z⟩))
  ·
   intro w22 D hS12 hd12
   have hr14 := hw5.no hS12
   refine dg_sub (E' := [(104, (.pointer (some ⟨blk (.slice (some p2) 4 4), (3 : Int).toNat * RInt.size + 0, none⟩)))]) ⟨(dpE hd12 10 Z Z), trivial⟩ (dg_plain Z (ow_loadElRow (R := RInt) (S := RInt) Z Z Z hr14 (orow_blk hr14 hx9) hx9 (Fld.whole RInt) (Tryd.sizeOf3 _) (Tryd.isAgg3 _) fun v26 hv26 => ?_))
   obtain rfl := vint_eq hv26
   exact ⟨BX.refl _ _, Z⟩
  ·
   intro w23 D hS13 hd13
   have hC23 := hC10.no hS13
   have ho25 := ho12.no hS13
   refine lw_sub (E' := [(96, (.int .i64 x6)), (99, (.int .i64 x7)), (102, (.int .i64 x8)), (105, (.int .i64 x9)), (4, (.pointer (some ⟨g1, 0, none⟩))), (6, (.slice (some p2) 4 4))]) ⟨(dpE hd13 2 Z Z), (dpE hd13 5 Z Z), (dpE hd13 8 Z Z), (dpE hd13 11 Z Z), Z, Z, trivial⟩ (lw_op Z Z Z (ow_build (v := .agg #[(.int .i64 x6), (.int .i64 x7), (.int .i64 x8), (.int .i64 x9)]) Z Z (by kernel_rfl) (lw_op0 Z Z (ow_store (X := No) (us := [(.int .i64 x6), (.int .i64 x7), (.int .i64 x8), (.int .i64 x9)]) (cs' := #[(.int .i64 x6), (.int .i64 x7), (.int .i64 x8), (.int .i64 x9)]) Z Z Z Z ho25 (Tryd.sizeOf45 _) Z Z Z Z hm6 (.inl hg2) Z hC23 fun w24 ho26 hb9 hl24 hC24 => lw_nil (ew_then (cw_ret ?_))))))
   have hw7 : VRep RPacket w24 M5 ({ From := x6, To := x7, Port := x8, Proto := x9 } : Packet) (.agg #[(.int .i64 x6), (.int .i64 x7), (.int .i64 x8), (.int .i64 x9)]) := shut_Packet
   obtain rfl := Option.some.inj h
   exact ew_ret (res1 Z (.cell Z (own_loadVarA ho26 (Tryd.isAgg45 _) (Tryd.sizeOf45 _) Z))) ⟨_, Z, (hw7.mono hC24.back), hC24.bx⟩

theorem w_impl_Packet_fields {w : World} {M : Nat → Prop} (_hG : ARep (RArr 4 RShape) w M shapes ⟨0, 0, none⟩) (hO : ∀ b, M b → b < w.heap.size) {v0p : Value} {a_p : Packet} (h0 : VRep RPacket w M a_p v0p) {r : (List Int)} (h : F.impl_Packet_fields a_p = some r) :
  Calls Tryd.prog 83 [v0p].toArray w fun e w' => ∃ v, e = .returned v ∧ VRep (RArr 4 RInt) w' M r v ∧ BX No w w' := by
 have hC : Cx No w M w M := Cx.start hO (fun _ e => e.elim)
 clear _hG
 refine walk (N := 12) Tryd.func83 Z Tryd.ntmps83 Z (cw_seq (cw_region (lw_op Z Z Z (ow_box (R := RPacket) Z Z h0 hC fun p1 w1 hp1 hb1 hl1 hC1 => lw_op Z Z Z (ow_alloc Z (Tryd.zeroValue91 _) hC1 fun g1 w2 hg1 hg2 ho1 hb2 hl2 hC2 => ?_)))))
 have hm1 : (Add g1 M) g1 := .inl Z
 have ho2 : OwnA (RArr 4 RInt) w2 (Add g1 M) g1 91 [0, 0, 0, 0] := OwnA.of ho1 ⟨Z, ⟨_, _, Z, (vint _).cells, _, _, Z, (vint _).cells, _, _, Z, (vint _).cells, _, _, Z, (vint _).cells, Z⟩⟩
 refine lw_nil (ew_then (cw_seq (cw_region (lw_op Z Z Z (ow_fieldAddr Z Z Tryd.underlying45 Z (Tryd.sizeOf3 _) (lw_op Z Z Z (ow_load (R := RInt) Z Z (ARep.mono hl2 (hp1.fld fld_Packet_From)) (Tryd.sizeOf3 _) (Tryd.isAgg3 _) fun v1 hv1 => ?_)))))))
 obtain rfl := vint_eq hv1
 refine lw_op Z Z Z (ow_fieldAddr Z Z Tryd.underlying45 Z (Tryd.sizeOf3 _) (lw_op Z Z Z (ow_load (R := RInt) Z Z (ARep.mono hl2 (hp1.fld fld_Packet_To)) (Tryd.sizeOf3 _) (Tryd.isAgg3 _) fun v2 hv2 => ?_)))
 obtain rfl := vint_eq hv2
 refine lw_op Z Z Z (ow_fieldAddr Z Z Tryd.underlying45 Z (Tryd.sizeOf3 _) (lw_op Z Z Z (ow_load (R := RInt) Z Z (ARep.mono hl2 (hp1.fld fld_Packet_Port)) (Tryd.sizeOf3 _) (Tryd.isAgg3 _) fun v3 hv3 => ?_)))
 obtain rfl := vint_eq hv3
 refine lw_op Z Z Z (ow_fieldAddr Z Z Tryd.underlying45 Z (Tryd.sizeOf3 _) (lw_op Z Z Z (ow_load (R := RInt) Z Z (ARep.mono hl2 (hp1.fld fld_Packet_Proto)) (Tryd.sizeOf3 _) (Tryd.isAgg3 _) fun v4 hv4 => ?_)))
 obtain rfl := vint_eq hv4
 refine lw_op Z Z Z (ow_build (v := .agg #[(.int .i64 a_p.From), (.int .i64 a_p.To), (.int .i64 a_p.Port), (.int .i64 a_p.Proto)]) Z Z (by kernel_rfl) ?_)
 have hw1 : VRep (RArr 4 RInt) w2 (Add g1 M) [a_p.From, a_p.To, a_p.Port, a_p.Proto] (.agg #[(.int .i64 a_p.From), (.int .i64 a_p.To), (.int .i64 a_p.Port), (.int .i64 a_p.Proto)]) := ⟨_, ⟨Z, ⟨_, _, Z, (vint _).cells, _, _, Z, (vint _).cells, _, _, Z, (vint _).cells, _, _, Z, (vint _).cells, Z⟩⟩, Z⟩
 obtain ⟨cs1, h1, h2⟩ := ho2.own
 refine lw_op0 Z Z (ow_storeA (X := No) (R := (RArr 4 RInt)) Z Z Z Z h1 h2 (Tryd.sizeOf91 _) hw1 hm1 (.inl hg2) hC2 fun w3 ho3 hb3 hl3 hC3 => lw_nil (ew_then (cw_ret ?_)))
 obtain rfl := Option.some.inj h
 obtain ⟨v5, hq1, hw2⟩ := resA ho3 (Tryd.sizeOf91 _) (Tryd.isAgg91 _) rfl
 exact ew_ret (res1 Z (.cell Z hq1)) ⟨_, Z, (hw2.mono hC3.back), hC3.bx⟩

theorem w_impl_PacketValid {w : World} {M : Nat → Prop} (hG : ARep (RArr 4 RShape) w M shapes ⟨0, 0, none⟩) (hO : ∀ b, M b → b < w.heap.size) {v0p : Value} {a_p : Packet} (h0 : VRep RPacket w M a_p v0p) {r : Bool} (h : F.impl_PacketValid a_p = some r) :
  Calls Tryd.prog 70 [v0p].toArray w fun e w' => ∃ v, e = .returned v ∧ VRep RBool w' M r v ∧ BX No w w' := by
 have hC : Cx No w M w M := Cx.start hO (fun _ e => e.elim)
 refine walk (N := 20) Tryd.func70 Z Tryd.ntmps70 Z (cw_seq (cw_region (lw_op Z Z Z (ow_box (R := RPacket) Z Z h0 hC fun p1 w1 hp1 hb1 hl1 hC1 => lw_op Z Z Z (ow_assign Z Z (lw_nil (ew_then (cw_seq (cw_seq (cw_region (lw_op Z Z Z (ow_load (R := RPacket) Z Z hp1 (Tryd.sizeOf45 _) (Tryd.isAgg45 _) fun v1 hv1 => ?_))))))))))))
 replace h := bind_some h
 obtain ⟨x1, hx1, h⟩ := h
 refine lw_op Z Z Z (ow_call Z Z Tryd.call83 (w_impl_Packet_fields (hG.mono hl1) hC1.old hv1 hx1) fun v2 w2 hv2 => ?_)
 obtain ⟨hv2, hb2⟩ := hv2
 have hl2 := Le.no M hb2
 have hC2 := hC1.no hb2
 refine lw_op Z Z Z (ow_move Z Z (lw_nil (ew_then ?_)))
 replace h := bind_some h
 obtain ⟨lr1, hlr1, h⟩ := h
 refine cw_for hlr1 (fun s a w' => ∃ (M' : Nat → Prop), Fits 20 [(6, v2), (7, (.int .i64 s))] a ∧ Le w2 M w' M' ∧ Cx No w M w' M') ?_ ?_ ?_
 ·
  intro a ha
  exact ⟨M, ha.sub ⟨Z, Z, trivial⟩, Le.refl _ _, hC2⟩
 ·
  rintro k1 a w3 sr1 ⟨M1, hF1, hl3, hC3⟩ hb3 hR1
  refine cw_at (E := [(6, v2), (7, (.int .i64 k1))]) hF1 (cw_seq (cw_region (lw_op Z Z Z (ow_lss Z Z Z fun bb1 hbb1 => lw_nil (ew_then (cw_seq ?_))))))
  replace hb3 := cond_some hb3
  rcases hb3 with ⟨hc1, hb3⟩ | ⟨hc1, hb3⟩
  ·
   obtain rfl := hbb1.trans hc1
   refine cw_true Z (cw_skip (ew_then (cw_seq (cw_block (cw_seq (cw_region (lw_op Z Z Z (ow_move Z Z ?_))))))))
   replace hb3 := bind_some hb3
   obtain ⟨x2, hx2, hb3⟩ := hb3
   refine lw_op Z Z Z (ow_index (R := RInt) Z Z Z (VRep.mono hl3 hv2) Tryd.underlying91 (Tryd.sizeOf3 _) (Tryd.isAgg3 _) hx2 fun v4 hv4 => ?_)
   obtain rfl := vint_eq hv4
   refine lw_op Z Z Z (ow_assign Z Z (lw_op Z Z Z (ow_assign Z Z (lw_nil (ew_then (cw_seq (cw_region (lw_op Z Z Z (ow_move Z Z (lw_op Z Z Z (ow_lss Z Z Z fun bb2 hbb2 => lw_op Z Z Z (ow_move Z Z ?_))))))))))))
   replace hb3 := cond_some hb3
   rcases hb3 with ⟨hc2, hb3⟩ | ⟨hc2, hb3⟩
   ·
    obtain rfl := hbb2.trans hc2
    refine lw_off Z Z Z Z Z Z (lw_off Z Z Z Z Z Z (lw_off Z Z Z Z Z Z (lw_off Z Z Z Z Z Z (lw_op Z Z Z (ow_pickT Z Z Z (lw_nil (ew_then (cw_true Z (cw_seq (cw_region (lw_op Z Z Z (ow_assign Z Z (lw_nil (ew_then (cw_ret (ew_blockR (ew_thenR (ew_thenR (ew_blockR (ew_brkR (ew_thenR ?_)))))))))))))))))))))
    have e1 := hR1 _ (Option.some.inj hb3).symm
    subst e1
    obtain rfl := Option.some.inj h
    exact ew_ret (res1 Z (.tmp Z)) ⟨_, Z, ((vbool _)), hC3.bx⟩
   ·
    obtain rfl := hbb2.trans hc2
    refine lw_on Z Z Z Z Z Z (ow_move Z Z (lw_on Z Z Z Z Z Z (ow_move Z Z ?_)))
    replace hb3 := bind_some hb3
    obtain ⟨x3, hx3, hb3⟩ := hb3
    have hz1 := ((hl1.trans hl2).trans hl3)
    refine lw_on Z Z Z Z Z Z (ow_call Z Z Tryd.call69 (w_impl_FieldTop (hG.mono hz1) hC3.old hx3) fun v5 w4 hv5 => ?_)
    obtain ⟨hv5, hb4⟩ := hv5
    have hl4 := Le.no M1 hb4
    have hC4 := hC3.no hb4
    obtain rfl := vint_eq hv5
    refine lw_on Z Z Z Z Z Z (ow_gtr Z Z Z fun bb3 hbb3 => lw_op Z Z Z (ow_pickF Z Z Z (lw_nil (ew_then ?_))))
    replace hb3 := cond_some hb3
    rcases hb3 with ⟨hc3, hb3⟩ | ⟨hc3, hb3⟩
    ·
     obtain rfl := hbb3.trans hc3
     refine cw_true Z (cw_seq (cw_region (lw_op Z Z Z (ow_assign Z Z (lw_nil (ew_then (cw_ret (ew_blockR (ew_thenR (ew_thenR (ew_blockR (ew_brkR (ew_thenR ?_)))))))))))))
     have e2 := hR1 _ (Option.some.inj hb3).symm
     subst e2
     obtain rfl := Option.some.inj h
     exact ew_ret (res1 Z (.tmp Z)) ⟨_, Z, ((vbool _)), hC4.bx⟩
    ·
     obtain rfl := hbb3.trans hc3
     exact cw_false Z (cw_skip (ew_blockN (ew_then (cw_region (lw_op Z Z Z (ow_add Z Z Z (lw_op Z Z Z (ow_move Z Z (lw_nil (ew_nxt (W (k1 + 1)) hb3 fun a ha => ⟨M1, (ha.sub ⟨Z, Z, trivial⟩), (hl3.trans hl4), hC4⟩))))))))))
  ·
   obtain rfl := hbb1.trans hc1
   exact cw_false Z (cw_exit (ew_thenX (ew_thenX (ew_blockX (ew_brk k1 hb3 fun a ha => ⟨M1, (ha.sub ⟨Z, Z, trivial⟩), hl3, hC3⟩)))))
 ·
  rintro k2 a w5 hlr2 ⟨M2, hF2, hl5, hC5⟩
  subst hlr2
  refine ew_at (E := [(6, v2), (7, (.int .i64 k2))]) hF2 (ew_then (cw_seq (cw_region (lw_op Z Z Z (ow_assign Z Z (lw_nil (ew_then (cw_ret ?_))))))))
  obtain rfl := Option.some.inj h
  exact ew_ret (res1 Z (.tmp Z)) ⟨_, Z, ((vbool _)), hC5.bx⟩

theorem w_impl_sides_has {w : World} {M : Nat → Prop} (hG : ARep (RArr 4 RShape) w M shapes ⟨0, 0, none⟩) (hO : ∀ b, M b → b < w.heap.size) {v0p : Value} {a_s : List (List Span)} (h0 : VRep (RArr 4 (RSlice RSpan)) w M a_s v0p) {v1p : Value} {a_p : Packet} (h1 : VRep RPacket w M a_p v1p) {r : Bool} (h : F.impl_sides_has a_s a_p = some r) :
  Calls Tryd.prog 71 [v0p, v1p].toArray w fun e w' => ∃ v, e = .returned v ∧ VRep RBool w' M r v ∧ BX No w w' := by
 have hC : Cx No w M w M := Cx.start hO (fun _ e => e.elim)
 refine walk (N := 20) Tryd.func71 Z Tryd.ntmps71 Z (cw_seq (cw_region (lw_op Z Z Z (ow_box (R := (RArr 4 (RSlice RSpan))) Z Z h0 hC fun p1 w1 hp1 hb1 hl1 hC1 => lw_op Z Z Z (ow_box (R := RPacket) Z Z (VRep.mono hl1 h1) hC1 fun p2 w2 hp2 hb2 hl2 hC2 => lw_op Z Z Z (ow_assign Z Z (lw_nil (ew_then (cw_seq (cw_seq (cw_region (lw_op Z Z Z (ow_load (R := RPacket) Z Z hp2 (Tryd.sizeOf45 _) (Tryd.isAgg45 _) fun v1 hv1 => ?_)))))))))))))
 replace h := bind_some h
 obtain ⟨x1, hx1, h⟩ := h
 refine lw_op Z Z Z (ow_call Z Z Tryd.call83 (w_impl_Packet_fields (hG.mono (hl1.trans hl2)) hC2.old hv1 hx1) fun v2 w3 hv2 => ?_)
 obtain ⟨hv2, hb3⟩ := hv2
 have hl3 := Le.no M hb3
 have hC3 := hC2.no hb3
 refine lw_op Z Z Z (ow_move Z Z (lw_nil (ew_then ?_)))
 replace h := bind_some h
 obtain ⟨lr1, hlr1, h⟩ := h
 refine cw_for hlr1 (fun s a w' => ∃ (M' : Nat → Prop), Fits 20 [(2, (.pointer (some p1))), (8, v2), (9, (.int .i64 s))] a ∧ Le w3 M w' M' ∧ Cx No w M w' M') ?_ ?_ ?_
 ·
  intro a ha
  exact ⟨M, ha.sub ⟨Z, Z, Z, trivial⟩, Le.refl _ _, hC3⟩
 ·
  rintro k1 a w4 sr1 ⟨M1, hF1, hl4, hC4⟩ hb4 hR1
  refine cw_at (E := [(2, (.pointer (some p1))), (8, v2), (9, (.int .i64 k1))]) hF1 (cw_seq (cw_region (lw_op Z Z Z (ow_lss Z Z Z fun bb1 hbb1 => lw_nil (ew_then (cw_seq ?_))))))
  replace hb4 := cond_some hb4
  rcases hb4 with ⟨hc1, hb4⟩ | ⟨hc1, hb4⟩
  ·
   obtain rfl := hbb1.trans hc1
   refine cw_true Z (cw_skip (ew_then (cw_seq (cw_block (cw_seq (cw_region (lw_op Z Z Z (ow_move Z Z ?_))))))))
   replace hb4 := bind_some hb4
   obtain ⟨x2, hx2, hb4⟩ := hb4
   refine lw_op Z Z Z (ow_index (R := RInt) Z Z Z (VRep.mono hl4 hv2) Tryd.underlying91 (Tryd.sizeOf3 _) (Tryd.isAgg3 _) hx2 fun v4 hv4 => ?_)
   obtain rfl := vint_eq hv4
   refine lw_op Z Z Z (ow_assign Z Z (lw_op Z Z Z (ow_assign Z Z (lw_nil (ew_then (cw_seq (cw_region (lw_op Z Z Z (ow_move Z Z ?_)))))))))
   replace hb4 := bind_some hb4
   obtain ⟨x3, hx3, hb4⟩ := hb4
   have hz1 := ((hl2.trans hl3).trans hl4)
   refine lw_op Z Z Z (ow_indexArr (R := (RSlice RSpan)) Z Z Z (ARep.mono hz1 hp1) Tryd.underlying69 (Tryd.sizeOf58 _) hx3 fun p3 hp3 => lw_op Z Z Z (ow_load (R := (RSlice RSpan)) Z Z hp3 (Tryd.sizeOf58 _) (Tryd.isAgg58 _) fun v5 hv5 => lw_op Z Z Z (ow_move Z Z ?_)))
   replace hb4 := bind_some hb4
   obtain ⟨x4, hx4, hb4⟩ := hb4
   have hz2 := (((hl1.trans hl2).trans hl3).trans hl4)
   refine lw_op Z Z Z (ow_call Z Z Tryd.call40 (w_impl_SpansHave (hG.mono hz2) hC4.old hv5 hx4) fun v6 w5 hv6 => ?_)
   obtain ⟨hv6, hb5⟩ := hv6
   have hl5 := Le.no M1 hb5
   have hC5 := hC4.no hb5
   obtain rfl := vbool_eq hv6
   refine lw_op Z Z Z (ow_not Z Z (lw_nil (ew_then ?_)))
   replace hb4 := cond_some hb4
   rcases hb4 with ⟨hc2, hb4⟩ | ⟨hc2, hb4⟩
   ·
    subst hc2
    exact cw_false Z (cw_skip (ew_blockN (ew_then (cw_region (lw_op Z Z Z (ow_add Z Z Z (lw_op Z Z Z (ow_move Z Z (lw_nil (ew_nxt (W (k1 + 1)) hb4 fun a ha => ⟨M1, (ha.sub ⟨Z, Z, Z, trivial⟩), (hl4.trans hl5), hC5⟩))))))))))
   ·
    subst hc2
    refine cw_true Z (cw_seq (cw_region (lw_op Z Z Z (ow_assign Z Z (lw_nil (ew_then (cw_ret (ew_blockR (ew_thenR (ew_thenR (ew_blockR (ew_brkR (ew_thenR ?_)))))))))))))
    have e1 := hR1 _ (Option.some.inj hb4).symm
    subst e1
    obtain rfl := Option.some.inj h
    exact ew_ret (res1 Z (.tmp Z)) ⟨_, Z, ((vbool _)), hC5.bx⟩
  ·
   obtain rfl := hbb1.trans hc1
   exact cw_false Z (cw_exit (ew_thenX (ew_thenX (ew_blockX (ew_brk k1 hb4 fun a ha => ⟨M1, (ha.sub ⟨Z, Z, Z, trivial⟩), hl4, hC4⟩)))))
 ·
  rintro k2 a w6 hlr2 ⟨M2, hF2, hl6, hC6⟩
  subst hlr2
  refine ew_at (E := [(2, (.pointer (some p1))), (8, v2), (9, (.int .i64 k2))]) hF2 (ew_then (cw_seq (cw_region (lw_op Z Z Z (ow_assign Z Z (lw_nil (ew_then (cw_ret ?_))))))))
  obtain rfl := Option.some.inj h
  exact ew_ret (res1 Z (.tmp Z)) ⟨_, Z, ((vbool _)), hC6.bx⟩

theorem w_impl_BoxHas {w : World} {M : Nat → Prop} (hG : ARep (RArr 4 RShape) w M shapes ⟨0, 0, none⟩) (hO : ∀ b, M b → b < w.heap.size) {v0p : Value} {a_b : Box} (h0 : VRep RBox w M a_b v0p) {v1p : Value} {a_p : Packet} (h1 : VRep RPacket w M a_p v1p) {r : Bool} (h : F.impl_BoxHas a_b a_p = some r) :
  Calls Tryd.prog 31 [v0p, v1p].toArray w fun e w' => ∃ v, e = .returned v ∧ VRep RBool w' M r v ∧ BX No w w' := by
 have hC : Cx No w M w M := Cx.start hO (fun _ e => e.elim)
 refine walk (N := 17) Tryd.func31 Z Tryd.ntmps31 Z (cw_seq (cw_region (lw_op Z Z Z (ow_box (R := RBox) Z Z h0 hC fun p1 w1 hp1 hb1 hl1 hC1 => lw_op Z Z Z (ow_box (R := RPacket) Z Z (VRep.mono hl1 h1) hC1 fun p2 w2 hp2 hb2 hl2 hC2 => lw_op Z Z Z (ow_assign Z Z (lw_nil (ew_then (cw_seq ?_)))))))))
 replace h := bind_some h
 obtain ⟨x1, hx1, h⟩ := h
 replace h := cond_some h
 rcases h with ⟨hc1, h⟩ | ⟨hc1, h⟩
 ·
  subst hc1
  replace h := bind_some h
  obtain ⟨x2, hx2, h⟩ := h
  replace h := cond_some h
  rcases h with ⟨hc2, h⟩ | ⟨hc2, h⟩
  ·
   subst hc2
   replace h := bind_some h
   obtain ⟨x3, hx3, h⟩ := h
   have hz1 := (hl1.trans hl2)
   refine cw_sub (E' := [(2, (.pointer (some p1))), (3, (.pointer (some p2))), (4, (.bool false))]) ⟨Z, Z, Z, trivial⟩ (cw_drawQ 10 [PV RBox M a_b, PEq (.bool true), PEq (.bool true), PV RPacket M a_p, PEq (.bool true), PEq (.bool true), PEq (.bool true), PV RBox M a_b, PV (RArr 4 (RSlice RSpan)) M x3, PV RPacket M a_p] (by kernel_rfl) Z (by kernel_rfl) ⟨PV.mono _ _ _, PEq.mono _, PEq.mono _, PV.mono _ _ _, PEq.mono _, PEq.mono _, PEq.mono _, PV.mono _ _ _, PV.mono _ _ _, PV.mono _ _ _, trivial⟩ ⟨?_, ?_, ?_, ?_, ?_, ?_, ?_, ?_, ?_, ?_, trivial⟩ ?_)
   ·
    intro w6 D hS1 hd1
    have hl6 := Le.no M hS1
    exact dg_sub (E' := [(2, (.pointer (some p1)))]) ⟨Z, trivial⟩ (dg_plain Z (ow_load (R := RBox) Z Z (ARep.mono (hl2.trans hl6) hp1) (Tryd.sizeOf27 _) (Tryd.isAgg27 _) fun v8 hv8 => ⟨BX.refl _ _, hv8⟩))
   ·
    intro w7 D hS2 hd2
    have hl7 := Le.no M hS2
    have hC7 := hC2.no hS2
    have d1 : PV RBox M a_b (D 0) w7 := dpA hd2 0 Z
    generalize hq1 : (D 0) = v9 at d1
    refine dg_sub (E' := [(5, v9)]) ⟨(congrArg some hq1), trivial⟩ (dg_plain Z (ow_call Z Z Tryd.call30 (w_impl_BoxValid (hG.mono (hz1.trans hl7)) hC7.old d1 hx1) fun v10 w8 hv10 => ?_))
    obtain ⟨hv10, hb6⟩ := hv10
    obtain rfl := vbool_eq hv10
    exact ⟨hb6, Z⟩
   ·
    intro w9 D hS3 hd3
    exact dg_sub (E' := [(6, (.bool true))]) ⟨(dpE hd3 1 Z Z), trivial⟩ (dg_plain Z (ow_move Z Z ⟨BX.refl _ _, Z⟩))
   ·
    intro w10 D hS4 hd4
    have hl10 := Le.no M hS4
    exact dg_sub (E' := [(7, (.bool true)), (3, (.pointer (some p2)))]) ⟨(dpE hd4 2 Z Z), Z, trivial⟩ (dg_on Z Z Z Z (ow_load (R := RPacket) Z Z (ARep.mono hl10 hp2) (Tryd.sizeOf45 _) (Tryd.isAgg45 _) fun v11 hv11 => ⟨BX.refl _ _, hv11⟩))
   ·
    intro w11 D hS5 hd5
    have hl11 := Le.no M hS5
    have hC11 := hC2.no hS5
    have d5 : PV RPacket M a_p (D 3) w11 := dpA hd5 3 Z
    generalize hq2 : (D 3) = v12 at d5
    refine dg_sub (E' := [(8, v12), (7, (.bool true))]) ⟨(congrArg some hq2), (dpE hd5 2 Z Z), trivial⟩ (dg_on Z Z Z Z (ow_call Z Z Tryd.call70 (w_impl_PacketValid (hG.mono (hz1.trans hl11)) hC11.old d5 hx2) fun v13 w12 hv13 => ?_))
    obtain ⟨hv13, hb7⟩ := hv13
    obtain rfl := vbool_eq hv13
    exact ⟨hb7, Z⟩
   ·
    intro w13 D hS6 hd6
    exact dg_sub (E' := [(7, (.bool true)), (9, (.bool true))]) ⟨(dpE hd6 2 Z Z), (dpE hd6 4 Z Z), trivial⟩ (dg_plain Z (ow_pickT Z Z Z ⟨BX.refl _ _, Z⟩))
   ·
    intro w14 D hS7 hd7
    exact dg_sub (E' := [(10, (.bool true))]) ⟨(dpE hd7 5 Z Z), trivial⟩ (dg_plain Z (ow_move Z Z ⟨BX.refl _ _, Z⟩))
   ·
    intro w15 D hS8 hd8
    have hl15 := Le.no M hS8
    exact dg_sub (E' := [(11, (.bool true)), (2, (.pointer (some p1)))]) ⟨(dpE hd8 6 Z Z), Z, trivial⟩ (dg_on Z Z Z Z (ow_load (R := RBox) Z Z (ARep.mono (hl2.trans hl15) hp1) (Tryd.sizeOf27 _) (Tryd.isAgg27 _) fun v14 hv14 => ⟨BX.refl _ _, hv14⟩))
   ·
    intro w16 D hS9 hd9
    have hl16 := Le.no M hS9
    have hC16 := hC2.no hS9
    have d13 : PV RBox M a_b (D 7) w16 := dpA hd9 7 Z
    generalize hq3 : (D 7) = v15 at d13
    refine dg_sub (E' := [(12, v15), (11, (.bool true))]) ⟨(congrArg some hq3), (dpE hd9 6 Z Z), trivial⟩ (dg_on Z Z Z Z (ow_call Z Z Tryd.call65 (w_impl_sidesOf (hG.mono (hz1.trans hl16)) hC16.old d13 hx3) fun v16 w17 hv16 => ?_))
    obtain ⟨hv16, hb8⟩ := hv16
    exact ⟨hb8, hv16⟩
   ·
    intro w18 D hS10 hd10
    have hl18 := Le.no M hS10
    exact dg_sub (E' := [(11, (.bool true)), (3, (.pointer (some p2)))]) ⟨(dpE hd10 6 Z Z), Z, trivial⟩ (dg_on Z Z Z Z (ow_load (R := RPacket) Z Z (ARep.mono hl18 hp2) (Tryd.sizeOf45 _) (Tryd.isAgg45 _) fun v17 hv17 => ⟨BX.refl _ _, hv17⟩))
   ·
    intro w19 D hS11 hd11
    have d25 : PV (RArr 4 (RSlice RSpan)) M x3 (D 8) w19 := dpA hd11 8 Z
    have d26 : PV RPacket M a_p (D 9) w19 := dpA hd11 9 Z
    have hl19 := Le.no M hS11
    have hC19 := hC2.no hS11
    generalize hq4 : (D 8) = v18 at d25
    generalize hq5 : (D 9) = v19 at d26
    refine lw_sub (E' := [(11, (.bool true)), (13, v18), (14, v19), (2, (.pointer (some p1))), (3, (.pointer (some p2))), (4, (.bool false))]) ⟨(dpE hd11 6 Z Z), (congrArg some hq4), (congrArg some hq5), Z, Z, Z, trivial⟩ ?_
    replace h := bind_some h
    obtain ⟨x4, hx4, h⟩ := h
    refine lw_on Z Z Z Z Z Z (ow_call Z Z Tryd.call71 (w_impl_sides_has (hG.mono (hz1.trans hl19)) hC19.old d25 d26 hx4) fun v20 w20 hv20 => ?_)
    obtain ⟨hv20, hb9⟩ := hv20
    have hC20 := hC19.no hb9
    obtain rfl := vbool_eq hv20
    refine lw_op Z Z Z (ow_pickT Z Z Z (lw_op Z Z Z (ow_assign Z Z (lw_nil (ew_then (cw_ret ?_))))))
    obtain rfl := Option.some.inj h
    exact ew_ret (res1 Z (.tmp Z)) ⟨_, Z, ((vbool _)), hC20.bx⟩
  ·
   subst hc2
   have hz2 := (hl1.trans hl2)
   refine cw_sub (E' := [(2, (.pointer (some p1))), (3, (.pointer (some p2))), (4, (.bool false))]) ⟨Z, Z, Z, trivial⟩ (cw_drawQ 10 [PV RBox M a_b, PEq (.bool true), PEq (.bool true), PV RPacket M a_p, PEq (.bool false), PEq (.bool false), PEq (.bool false), PEq undef, PEq undef, PEq undef] (by kernel_rfl) Z (by kernel_rfl) ⟨PV.mono _ _ _, PEq.mono _, PEq.mono _, PV.mono _ _ _, PEq.mono _, PEq.mono _, PEq.mono _, PEq.mono _, PEq.mono _, PEq.mono _, trivial⟩ ⟨?_, ?_, ?_, ?_, ?_, ?_, ?_, ?_, ?_, ?_, trivial⟩ ?_)
   ·
    intro w21 D hS12 hd12
    have hl21 := Le.no M hS12
    exact dg_sub (E' := [(2, (.pointer (some p1)))]) ⟨Z, trivial⟩ (dg_plain Z (ow_load (R := RBox) Z Z (ARep.mono (hl2.trans hl21) hp1) (Tryd.sizeOf27 _) (Tryd.isAgg27 _) fun v21 hv21 => ⟨BX.refl _ _, hv21⟩))
   ·
    intro w22 D hS13 hd13
    have hl22 := Le.no M hS13
    have hC22 := hC2.no hS13
    have d27 : PV RBox M a_b (D 0) w22 := dpA hd13 0 Z
    generalize hq6 : (D 0) = v22 at d27
    refine dg_sub (E' := [(5, v22)]) ⟨(congrArg some hq6), trivial⟩ (dg_plain Z (ow_call Z Z Tryd.call30 (w_impl_BoxValid (hG.mono (hz2.trans hl22)) hC22.old d27 hx1) fun v23 w23 hv23 => ?_))
    obtain ⟨hv23, hb10⟩ := hv23
    obtain rfl := vbool_eq hv23
    exact ⟨hb10, Z⟩
   ·
    intro w24 D hS14 hd14
    exact dg_sub (E' := [(6, (.bool true))]) ⟨(dpE hd14 1 Z Z), trivial⟩ (dg_plain Z (ow_move Z Z ⟨BX.refl _ _, Z⟩))
   ·
    intro w25 D hS15 hd15
    have hl25 := Le.no M hS15
    exact dg_sub (E' := [(7, (.bool true)), (3, (.pointer (some p2)))]) ⟨(dpE hd15 2 Z Z), Z, trivial⟩ (dg_on Z Z Z Z (ow_load (R := RPacket) Z Z (ARep.mono hl25 hp2) (Tryd.sizeOf45 _) (Tryd.isAgg45 _) fun v24 hv24 => ⟨BX.refl _ _, hv24⟩))
   ·
    intro w26 D hS16 hd16
    have hl26 := Le.no M hS16
    have hC26 := hC2.no hS16
    have d31 : PV RPacket M a_p (D 3) w26 := dpA hd16 3 Z
    generalize hq7 : (D 3) = v25 at d31
    refine dg_sub (E' := [(8, v25), (7, (.bool true))]) ⟨(congrArg some hq7), (dpE hd16 2 Z Z), trivial⟩ (dg_on Z Z Z Z (ow_call Z Z Tryd.call70 (w_impl_PacketValid (hG.mono (hz2.trans hl26)) hC26.old d31 hx2) fun v26 w27 hv26 => ?_))
    obtain ⟨hv26, hb11⟩ := hv26
    obtain rfl := vbool_eq hv26
    exact ⟨hb11, Z⟩
   ·
    intro w28 D hS17 hd17
    exact dg_sub (E' := [(7, (.bool true)), (9, (.bool false))]) ⟨(dpE hd17 2 Z Z), (dpE hd17 4 Z Z), trivial⟩ (dg_plain Z (ow_pickT Z Z Z ⟨BX.refl _ _, Z⟩))
   ·
    intro w29 D hS18 hd18
    exact dg_sub (E' := [(10, (.bool false))]) ⟨(dpE hd18 5 Z Z), trivial⟩ (dg_plain Z (ow_move Z Z ⟨BX.refl _ _, Z⟩))
   ·
    intro w30 D hS19 hd19
    exact dg_sub (E' := [(11, (.bool false)), (2, (.pointer (some p1)))]) ⟨(dpE hd19 6 Z Z), Z, trivial⟩ (dg_off Z Z Z Z ⟨BX.refl _ _, Z⟩)
   ·
    intro w31 D hS20 hd20
    exact dg_sub (E' := [(12, undef), (11, (.bool false))]) ⟨(dpE hd20 7 Z Z), (dpE hd20 6 Z Z), trivial⟩ (dg_off Z Z Z Z ⟨BX.refl _ _, Z⟩)
   ·
    intro w32 D hS21 hd21
    exact dg_sub (E' := [(11, (.bool false)), (3, (.pointer (some p2)))]) ⟨(dpE hd21 6 Z Z), Z, trivial⟩ (dg_off Z Z Z Z ⟨BX.refl _ _, Z⟩)
   ·
    intro w33 D hS22 hd22
    have hC33 := hC2.no hS22
    refine lw_sub (E' := [(11, (.bool false)), (13, undef), (14, undef), (2, (.pointer (some p1))), (3, (.pointer (some p2))), (4, (.bool false))]) ⟨(dpE hd22 6 Z Z), (dpE hd22 8 Z Z), (dpE hd22 9 Z Z), Z, Z, Z, trivial⟩ (lw_off Z Z Z Z Z Z (lw_op Z Z Z (ow_pickF Z Z Z (lw_op Z Z Z (ow_assign Z Z (lw_nil (ew_then (cw_ret ?_))))))))
    obtain rfl := Option.some.inj h
    exact ew_ret (res1 Z (.tmp Z)) ⟨_, Z, ((vbool _)), hC33.bx⟩
 ·
  subst hc1
  have hz3 := (hl1.trans hl2)
  refine cw_sub (E' := [(2, (.pointer (some p1))), (3, (.pointer (some p2))), (4, (.bool false))]) ⟨Z, Z, Z, trivial⟩ (cw_drawQ 10 [PV RBox M a_b, PEq (.bool false), PEq (.bool false), PEq undef, PEq undef, PEq (.bool false), PEq (.bool false), PEq undef, PEq undef, PEq undef] (by kernel_rfl) Z (by kernel_rfl) ⟨PV.mono _ _ _, PEq.mono _, PEq.mono _, PEq.mono _, PEq.mono _, PEq.mono _, PEq.mono _, PEq.mono _, PEq.mono _, PEq.mono _, trivial⟩ ⟨?_, ?_, ?_, ?_, ?_, ?_, ?_, ?_, ?_, ?_, trivial⟩ ?_)
  ·
   intro w34 D hS23 hd23
   have hl34 := Le.no M hS23
   exact dg_sub (E' := [(2, (.pointer (some p1)))]) ⟨Z, trivial⟩ (dg_plain Z (ow_load (R := RBox) Z Z (ARep.mono (hl2.trans hl34) hp1) (Tryd.sizeOf27 _) (Tryd.isAgg27 _) fun v27 hv27 => ⟨BX.refl _ _, hv27⟩))
  ·
   intro w35 D hS24 hd24
   have hl35 := Le.no M hS24
   have hC35 := hC2.no hS24
   have d53 : PV RBox M a_b (D 0) w35 := dpA hd24 0 Z
   generalize hq8 : (D 0) = v28 at d53
   refine dg_sub (E' := [(5, v28)]) ⟨(congrArg some hq8), trivial⟩ (dg_plain Z (ow_call Z Z Tryd.call30 (w_impl_BoxValid (hG.mono (hz3.trans hl35)) hC35.old d53 hx1) fun v29 w36 hv29 => ?_))
   obtain ⟨hv29, hb12⟩ := hv29
   obtain rfl := vbool_eq hv29
   exact ⟨hb12, Z⟩
  ·
   intro w37 D hS25 hd25
   exact dg_sub (E' := [(6, (.bool false))]) ⟨(dpE hd25 1 Z Z), trivial⟩ (dg_plain Z (ow_move Z Z ⟨BX.refl _ _, Z⟩))
  ·
   intro w38 D hS26 hd26
   exact dg_sub (E' := [(7, (.bool false)), (3, (.pointer (some p2)))]) ⟨(dpE hd26 2 Z Z), Z, trivial⟩ (dg_off Z Z Z Z ⟨BX.refl _ _, Z⟩)
  ·
   intro w39 D hS27 hd27
   exact dg_sub (E' := [(8, undef), (7, (.bool false))]) ⟨(dpE hd27 3 Z Z), (dpE hd27 2 Z Z), trivial⟩ (dg_off Z Z Z Z ⟨BX.refl _ _, Z⟩)
  ·
   intro w40 D hS28 hd28
   exact dg_sub (E' := [(7, (.bool false)), (9, undef)]) ⟨(dpE hd28 2 Z Z), (dpE hd28 4 Z Z), trivial⟩ (dg_plain Z (ow_pickF Z Z Z ⟨BX.refl _ _, Z⟩))
  ·
   intro w41 D hS29 hd29
   exact dg_sub (E' := [(10, (.bool false))]) ⟨(dpE hd29 5 Z Z), trivial⟩ (dg_plain Z (ow_move Z Z ⟨BX.refl _ _, Z⟩))
  ·
   intro w42 D hS30 hd30
   exact dg_sub (E' := [(11, (.bool false)), (2, (.pointer (some p1)))]) ⟨(dpE hd30 6 Z Z), Z, trivial⟩ (dg_off Z Z Z Z ⟨BX.refl _ _, Z⟩)
  ·
   intro w43 D hS31 hd31
   exact dg_sub (E' := [(12, undef), (11, (.bool false))]) ⟨(dpE hd31 7 Z Z), (dpE hd31 6 Z Z), trivial⟩ (dg_off Z Z Z Z ⟨BX.refl _ _, Z⟩)
  ·
   intro w44 D hS32 hd32
   exact dg_sub (E' := [(11, (.bool false)), (3, (.pointer (some p2)))]) ⟨(dpE hd32 6 Z Z), Z, trivial⟩ (dg_off Z Z Z Z ⟨BX.refl _ _, Z⟩)
  ·
   intro w45 D hS33 hd33
   have hC45 := hC2.no hS33
   refine lw_sub (E' := [(11, (.bool false)), (13, undef), (14, undef), (2, (.pointer (some p1))), (3, (.pointer (some p2))), (4, (.bool false))]) ⟨(dpE hd33 6 Z Z), (dpE hd33 8 Z Z), (dpE hd33 9 Z Z), Z, Z, Z, trivial⟩ (lw_off Z Z Z Z Z Z (lw_op Z Z Z (ow_pickF Z Z Z (lw_op Z Z Z (ow_assign Z Z (lw_nil (ew_then (cw_ret ?_))))))))
   obtain rfl := Option.some.inj h
   exact ew_ret (res1 Z (.tmp Z)) ⟨_, Z, ((vbool _)), hC45.bx⟩

theorem w_spec_l20Open {w : World} {M : Nat → Prop} (_hG : ARep (RArr 4 RShape) w M shapes ⟨0, 0, none⟩) (hO : ∀ b, M b → b < w.heap.size) {v0p : Value} {a_code : List Int} (h0 : VRep (RSlice RU8) w M a_code v0p) {r : List Int × Int} (h : F.spec_l20Open a_code = some r) :
  Calls Tryd.prog 54 [v0p].toArray w fun e w' => ∃ v, e = .returned v ∧ (∃ g A c, v = .pointer (some ⟨g, 0, none⟩) ∧ w.heap.size ≤ g ∧ Own w' g 98 #[.slice A r.1.length c, .int .i64 r.2] ∧ VRep (RSlice RU8) w' (Add g M) r.1 (.slice A r.1.length c)) ∧ BX No w w' := by
 have hC : Cx No w M w M := Cx.start hO (fun _ e => e.elim)
 clear _hG
 refine walk (N := 11) Tryd.func54 Z Tryd.ntmps54 Z (cw_seq (cw_region (lw_op Z Z Z (ow_assign Z Z (lw_nil (ew_then (cw_seq (cw_seq (cw_region (lw_op Z Z Z (ow_move Z Z (lw_op Z Z Z (ow_len Z Z h0 Tryd.underlying22 Z (lw_op Z Z Z (ow_gtr Z Z Z fun bb1 hbb1 => lw_nil (ew_then ?_))))))))))))))))
 replace h := cond_some h
 rcases h with ⟨hc1, h⟩ | ⟨hc1, h⟩
 ·
  obtain rfl := hbb1.trans hc1
  refine cw_true Z (cw_region (lw_op Z Z Z (ow_move Z Z ?_)))
  replace h := bind_some h
  obtain ⟨y1, hy1, h⟩ := h
  refine lw_op Z Z Z (ow_sliceTo (R := RU8) Z Z Z h0 Tryd.underlying22 (Tryd.sizeOf5 _) (takeF_some hy1).2 fun v1 hv1 => ?_)
  rw [← (takeF_some hy1).1] at hv1
  refine lw_op Z Z Z (ow_assign Z Z (lw_nil (ew_then (cw_seq (cw_region (lw_op Z Z Z (ow_move Z Z ?_)))))))
  obtain ⟨A1, c1, rfl, -⟩ := vslice_shape hv1
  refine lw_op Z Z Z (ow_build (v := .agg #[(.slice A1 y1.length c1), (.int .i64 0)]) Z Z (by kernel_rfl) (lw_op Z Z Z (ow_boxOwn Z Z hC fun g1 w1 hg1 hg2 ho1 hb1 hl1 hC1 => lw_op Z Z Z (ow_assign Z Z (lw_nil (ew_then (cw_ret ?_)))))))
  obtain rfl := Option.some.inj h
  exact ew_ret (res1 Z (.tmp Z)) ⟨_, Z, ⟨_, _, _, Z, hg2, ho1, (VRep.mono hl1 hv1)⟩, hC1.bx⟩
 ·
  obtain rfl := hbb1.trans hc1
  refine cw_false Z (cw_skip (ew_then (cw_seq (cw_region (lw_op Z Z Z (ow_move Z Z ?_))))))
  obtain ⟨A2, c2, rfl, -⟩ := vslice_shape h0
  refine lw_op Z Z Z (ow_build (v := .agg #[(.slice A2 a_code.length c2), (.int .i64 0)]) Z Z (by kernel_rfl) (lw_op Z Z Z (ow_boxOwn Z Z hC fun g2 w2 hg3 hg4 ho2 hb2 hl2 hC2 => lw_op Z Z Z (ow_assign Z Z (lw_nil (ew_then (cw_ret ?_)))))))
  obtain rfl := Option.some.inj h
  exact ew_ret (res1 Z (.tmp Z)) ⟨_, Z, ⟨_, _, _, Z, hg4, ho2, (VRep.mono hl2 h0)⟩, hC2.bx⟩

theorem w_spec_l1In {w : World} {M : Nat → Prop} (_hG : ARep (RArr 4 RShape) w M shapes ⟨0, 0, none⟩) (hO : ∀ b, M b → b < w.heap.size) {a_n : Int} {a_lo : Int} {a_hi : Int} {r : Bool} (h : F.spec_l1In a_n a_lo a_hi = some r) :
  Calls Tryd.prog 82 [(.int .i64 a_n), (.int .i64 a_lo), (.int .i64 a_hi)].toArray w fun e w' => ∃ v, e = .returned v ∧ VRep RBool w' M r v ∧ BX No w w' := by
 have hC : Cx No w M w M := Cx.start hO (fun _ e => e.elim)
 clear _hG
 refine walk (N := 15) Tryd.func82 Z Tryd.ntmps82 Z (cw_seq (cw_region (lw_op Z Z Z (ow_assign Z Z (lw_nil (ew_then (cw_seq (cw_region (lw_op Z Z Z (ow_move Z Z (lw_op Z Z Z (ow_move Z Z (lw_op Z Z Z (ow_geq Z Z Z fun bb1 hbb1 => lw_op Z Z Z (ow_move Z Z ?_)))))))))))))))
 replace h := cond_some h
 rcases h with ⟨hc1, h⟩ | ⟨hc1, h⟩
 ·
  obtain rfl := hbb1.trans hc1
  refine lw_on Z Z Z Z Z Z (ow_move Z Z (lw_on Z Z Z Z Z Z (ow_move Z Z (lw_on Z Z Z Z Z Z (ow_leq Z Z Z fun bb2 hbb2 => lw_op Z Z Z (ow_pickT Z Z Z (lw_op Z Z Z (ow_assign Z Z (lw_nil (ew_then (cw_ret ?_)))))))))))
  obtain rfl := Option.some.inj h
  exact ew_ret (res1 Z (.tmp Z)) ⟨_, Z, ((vbool_of hbb2)), hC.bx⟩
 ·
  obtain rfl := hbb1.trans hc1
  refine lw_off Z Z Z Z Z Z (lw_off Z Z Z Z Z Z (lw_off Z Z Z Z Z Z (lw_op Z Z Z (ow_pickF Z Z Z (lw_op Z Z Z (ow_assign Z Z (lw_nil (ew_then (cw_ret ?_)))))))))
  obtain rfl := Option.some.inj h
  exact ew_ret (res1 Z (.tmp Z)) ⟨_, Z, ((vbool _)), hC.bx⟩


end Go.PF
