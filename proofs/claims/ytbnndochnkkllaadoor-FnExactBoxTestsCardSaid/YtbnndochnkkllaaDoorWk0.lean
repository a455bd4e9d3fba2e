/- The walks; no condition. -/
import Derived.Test.YtbnndochnkkllaaDoorProg
import Derived.Test.YtbnndochnkkllaaDoorFun
import Derived.Test.YtbnndochnkkllaaDoorPFMark
import Derived.Test.YtbnndochnkkllaaDoorPFWild
set_option maxRecDepth 100000
set_option maxHeartbeats 4000000
namespace Go.PF
open Go Go.RowKit Go.Proofs

theorem info120 : ∃ i, Tryd.prog.info? 120 = some i ∧ i.zero = some (.agg #[.int .i64 0, .int .i64 0]) ∧ i.size = 2 ∧ i.bytes = 16 := info_parts (by kernel_rfl)
theorem info121 : ∃ i, Tryd.prog.info? 121 = some i ∧ i.zero = some (.slice none 0 0) ∧ i.size = 1 ∧ i.bytes = 24 := info_parts (by kernel_rfl)
theorem info128 : ∃ i, Tryd.prog.info? 128 = some i ∧ i.zero = some (.agg #[.int .i64 0, .int .i64 0, .int .i64 0, .bool false]) ∧ i.size = 4 ∧ i.bytes = 32 := info_parts (by kernel_rfl)
def actV : Act_ → Value
  | .deciding b => .iface 229 (.agg #[.bool b])
  | .calling c => .iface 231 (.agg #[.int .i64 c])
  | .returning => .iface 233 (.agg #[])
  | .passing => .iface 234 (.agg #[])
theorem eqS120 {x y : Span} (w : World) : (Op.equalIn 10000 120 (.agg #[.int .i64 x.Lo, .int .i64 x.Hi]) (.agg #[.int .i64 y.Lo, .int .i64 y.Hi])).run Tryd.prog w = .ok (decide (x = y)) w := by
  obtain ⟨a0, a1⟩ := x
  obtain ⟨b0, b1⟩ := y
  rw [run_equalIn_struct w 9999 120 _ _ rfl Tryd.stoodInHeld120]
  simp only [Program.fieldsOf, Tryd.underlying120]
  by_cases h0 : a0 = b0 <;> by_cases h1 : a1 = b1 <;> simp [Op.eqFields, part, Tryd.isAgg3, run_equalIn_int, Tryd.underlying3, h0, h1]
theorem w_laws_szSpanS {w : World} {M : Nat → Prop} (_hG : ARep (RArr 4 RShape) w M shapes ⟨0, 0, none⟩) (hO : ∀ b, M b → b < w.heap.size) {v0p : Value} {a_a : List Span} (h0 : VRep (RSlice RSpan) w M a_a v0p) {a_left : Int} {r : Int} (h : F.laws_szSpanS a_a a_left = some r) :
  Calls Tryd.prog 149 [v0p, (.int .i64 a_left)].toArray w fun e w' => ∃ v, e = .returned v ∧ VRep RInt w' M r v ∧ BX No w w' := by
 have hC : Cx No w M w M := Cx.start hO (fun _ e => e.elim)
 clear _hG
 refine walk (N := 12) Tryd.func149 Z Tryd.ntmps149 Z (cw_seq (cw_region (lw_op Z Z Z (ow_assign Z Z (lw_nil (ew_then (cw_seq (cw_region (lw_op Z Z Z (ow_move Z Z (lw_op Z Z Z (ow_move Z Z (lw_op Z Z Z (ow_len Z Z h0 Tryd.underlying197 Z (lw_op Z Z Z (ow_sub Z Z Z (lw_op Z Z Z (ow_assign Z Z (lw_nil (ew_then (cw_seq (cw_seq (cw_region (lw_op Z Z Z (ow_move Z Z (lw_op Z Z Z (ow_lss Z Z Z fun bb1 hbb1 => lw_nil (ew_then ?_))))))))))))))))))))))))))))
 replace h := cond_some h
 rcases h with ⟨hc1, h⟩ | ⟨hc1, h⟩
 ·
  obtain rfl := hbb1.trans hc1
  refine cw_true Z (cw_seq (cw_region (lw_op Z Z Z (ow_assign Z Z (lw_nil (ew_then (cw_ret (ew_thenR ?_))))))))
  obtain rfl := sj h
  exact ew_ret (res1 Z (.tmp Z)) ⟨_, Z, ((vint _)), hC.bx⟩
 ·
  obtain rfl := hbb1.trans hc1
  refine cw_false Z (cw_skip (ew_then (cw_seq (cw_region (lw_op Z Z Z (ow_move Z Z (lw_op Z Z Z (ow_assign Z Z (lw_nil (ew_then (cw_ret ?_)))))))))))
  obtain rfl := sj h
  exact ew_ret (res1 Z (.tmp Z)) ⟨_, Z, ((vint _)), hC.bx⟩

theorem w_laws_szSpanSS {w : World} {M : Nat → Prop} (hG : ARep (RArr 4 RShape) w M shapes ⟨0, 0, none⟩) (hO : ∀ b, M b → b < w.heap.size) {v0p : Value} {a_a : List (List Span)} (h0 : VRep (RSlice (RSlice RSpan)) w M a_a v0p) {a_left : Int} {r : Int} (h : F.laws_szSpanSS a_a a_left = some r) :
  Calls Tryd.prog 86 [v0p, (.int .i64 a_left)].toArray w fun e w' => ∃ v, e = .returned v ∧ VRep RInt w' M r v ∧ BX No w w' := by
 have hC : Cx No w M w M := Cx.start hO (fun _ e => e.elim)
 refine walk (N := 27) Tryd.func86 Z Tryd.ntmps86 Z (cw_seq (cw_region (lw_op Z Z Z (ow_assign Z Z (lw_nil (ew_then (cw_seq (cw_region (lw_op Z Z Z (ow_move Z Z (lw_op Z Z Z (ow_move Z Z (lw_op Z Z Z (ow_len Z Z h0 Tryd.underlying40 Z (lw_op Z Z Z (ow_sub Z Z Z (lw_op Z Z Z (ow_assign Z Z (lw_nil (ew_then (cw_seq (cw_seq (cw_region (lw_op Z Z Z (ow_move Z Z (lw_op Z Z Z (ow_lss Z Z Z fun bb1 hbb1 => lw_nil (ew_then ?_))))))))))))))))))))))))))))
 replace h := cond_some h
 rcases h with ⟨hc1, h⟩ | ⟨hc1, h⟩
 ·
  obtain rfl := hbb1.trans hc1
  refine cw_true Z (cw_seq (cw_region (lw_op Z Z Z (ow_assign Z Z (lw_nil (ew_then (cw_ret (ew_thenR ?_))))))))
  obtain rfl := sj h
  exact ew_ret (res1 Z (.tmp Z)) ⟨_, Z, ((vint _)), hC.bx⟩
 ·
  obtain rfl := hbb1.trans hc1
  refine cw_false Z (cw_skip (ew_then (cw_seq (cw_seq (cw_region (lw_op Z Z Z (ow_assign Z Z (lw_nil (ew_then ?_)))))))))
  replace h := bind_some h
  obtain ⟨lr1, hlr1, h⟩ := h
  refine cw_for hlr1 (fun s a w' => ∃ (M' : Nat → Prop), Fits 27 [(0, v0p), (1, (Zv s.1)), (5, (Zv s.2))] a ∧ Le w M w' M' ∧ Cx No w M w' M') ?_ ?_ ?_
  · exact fun a ha => ⟨M, ha.sub ⟨Z, Z, Z, Zt⟩, Le.refl _ _, hC⟩
  ·
   rintro ⟨k1, k2⟩ a w1 sr1 ⟨M1, hF1, hl1, hC1⟩ hb1 hR1
   refine cw_at (E := [(0, v0p), (1, (Zv k1)), (5, (Zv k2))]) hF1 (cw_seq (cw_seq (cw_region (lw_op Z Z Z (ow_move Z Z (lw_op Z Z Z (ow_move Z Z (lw_op Z Z Z (ow_len Z Z (VRep.mono hl1 h0) Tryd.underlying40 Z (lw_op Z Z Z (ow_lss Z Z Z fun bb2 hbb2 => lw_nil (ew_then ?_))))))))))))
   replace hb1 := cond_some hb1
   rcases hb1 with ⟨hc2, hb1⟩ | ⟨hc2, hb1⟩
   ·
    obtain rfl := hbb2.trans hc2
    refine cw_true Z (cw_skip (ew_then (cw_seq (cw_block (cw_seq (cw_region (lw_op Z Z Z (ow_move Z Z (lw_op Z Z Z (ow_move Z Z ?_))))))))))
    replace hb1 := bind_some hb1
    obtain ⟨x1, hx1, hb1⟩ := hb1
    refine lw_op Z Z Z (ow_indexSlice (R := (RSlice RSpan)) Z Z Z (VRep.mono hl1 h0) Tryd.underlying40 (Tryd.sizeOf197 _) hx1 fun p1 hp1 => lw_op Z Z Z (ow_load (R := (RSlice RSpan)) Z Z hp1 (Tryd.sizeOf197 _) (Tryd.isAgg197 _) fun v3 hv3 => lw_op Z Z Z (ow_move Z Z ?_)))
    replace hb1 := bind_some hb1
    obtain ⟨x2, hx2, hb1⟩ := hb1
    refine lw_op Z Z Z (ow_call Z Z Tryd.call149 (w_laws_szSpanS (hG.mono hl1) hC1.old hv3 hx2) fun v4 w2 hv4 => ?_)
    obtain ⟨hv4, hb2⟩ := hv4
    have hl2 := Le.no M1 hb2
    have hC2 := hC1.no hb2
    obtain rfl := vint_eq hv4
    refine lw_op Z Z Z (ow_assign Z Z (lw_nil (ew_then (cw_seq (cw_region (lw_op Z Z Z (ow_move Z Z (lw_op Z Z Z (ow_lss Z Z Z fun bb3 hbb3 => lw_nil (ew_then ?_))))))))))
    replace hb1 := cond_some hb1
    rcases hb1 with ⟨hc3, hb1⟩ | ⟨hc3, hb1⟩
    ·
     obtain rfl := hbb3.trans hc3
     refine cw_true Z (cw_seq (cw_region (lw_op Z Z Z (ow_assign Z Z (lw_nil (ew_then (cw_ret (ew_blockR (ew_thenR (ew_thenR (ew_blockR (ew_brkR (ew_thenR ?_)))))))))))))
     have e1 := hR1 _ (sj hb1).symm
     subst e1
     obtain rfl := sj h
     exact ew_ret (res1 Z (.tmp Z)) ⟨_, Z, ((vint _)), hC2.bx⟩
    ·
     obtain rfl := hbb3.trans hc3
     exact cw_false Z (cw_skip (ew_blockN (ew_then (cw_region (lw_op Z Z Z (ow_move Z Z (lw_op Z Z Z (ow_add Z Z Z (lw_op Z Z Z (ow_assign Z Z (lw_nil (ew_nxt (x2, (W (k2 + 1))) hb1 fun a ha => ⟨M1, (ha.sub ⟨Z, Z, Z, Zt⟩), (hl1.trans hl2), hC2⟩))))))))))))
   ·
    obtain rfl := hbb2.trans hc2
    exact cw_false Z (cw_exit (ew_thenX (ew_thenX (ew_blockX (ew_brk (k1, k2) hb1 fun a ha => ⟨M1, (ha.sub ⟨Z, Z, Z, Zt⟩), hl1, hC1⟩)))))
  ·
   rintro ⟨k3, k4⟩ a w3 hlr2 ⟨M2, hF2, hl3, hC3⟩
   subst hlr2
   refine ew_at (E := [(0, v0p), (1, (Zv k3)), (5, (Zv k4))]) hF2 (ew_then (cw_seq (cw_region (lw_op Z Z Z (ow_move Z Z (lw_op Z Z Z (ow_assign Z Z (lw_nil (ew_then (cw_ret ?_))))))))))
   obtain rfl := sj h
   exact ew_ret (res1 Z (.tmp Z)) ⟨_, Z, ((vint _)), hC3.bx⟩

theorem w_laws_szBox {w : World} {M : Nat → Prop} (hG : ARep (RArr 4 RShape) w M shapes ⟨0, 0, none⟩) (hO : ∀ b, M b → b < w.heap.size) {v0p : Value} {a_a : Box} (h0 : VRep RBox w M a_a v0p) {a_left : Int} {r : Int} (h : F.laws_szBox a_a a_left = some r) :
  Calls Tryd.prog 21 [v0p, (.int .i64 a_left)].toArray w fun e w' => ∃ v, e = .returned v ∧ VRep RInt w' M r v ∧ BX No w w' := by
 have hC : Cx No w M w M := Cx.start hO (fun _ e => e.elim)
 refine walk (N := 12) Tryd.func21 Z Tryd.ntmps21 Z (cw_seq (cw_region (lw_op Z Z Z (ow_box (R := RBox) Z Z h0 hC fun p1 w1 hp1 hb1 hl1 hC1 => lw_op Z Z Z (ow_assign Z Z (lw_nil (ew_then (cw_seq (cw_region (lw_op Z Z Z (ow_fieldAddr Z Z Tryd.underlying42 Z (Tryd.sizeOf40 _) (lw_op Z Z Z (ow_load (R := (RSlice (RSlice RSpan))) Z Z (hp1.fld fld_Box_Sides) (Tryd.sizeOf40 _) (Tryd.isAgg40 _) fun v1 hv1 => lw_op Z Z Z (ow_move Z Z ?_))))))))))))))
 replace h := bind_some h
 obtain ⟨x1, hx1, h⟩ := h
 refine lw_op Z Z Z (ow_call Z Z Tryd.call86 (w_laws_szSpanSS (hG.mono hl1) hC1.old hv1 hx1) fun v2 w2 hv2 => ?_)
 obtain ⟨hv2, hb2⟩ := hv2
 have hC2 := hC1.no hb2
 obtain rfl := vint_eq hv2
 refine lw_op Z Z Z (ow_assign Z Z (lw_nil (ew_then (cw_seq (cw_seq (cw_region (lw_op Z Z Z (ow_move Z Z (lw_op Z Z Z (ow_lss Z Z Z fun bb1 hbb1 => lw_nil (ew_then ?_)))))))))))
 replace h := cond_some h
 rcases h with ⟨hc1, h⟩ | ⟨hc1, h⟩
 ·
  obtain rfl := hbb1.trans hc1
  refine cw_true Z (cw_seq (cw_region (lw_op Z Z Z (ow_assign Z Z (lw_nil (ew_then (cw_ret (ew_thenR ?_))))))))
  obtain rfl := sj h
  exact ew_ret (res1 Z (.tmp Z)) ⟨_, Z, ((vint _)), hC2.bx⟩
 ·
  obtain rfl := hbb1.trans hc1
  refine cw_false Z (cw_skip (ew_then (cw_seq (cw_region (lw_op Z Z Z (ow_move Z Z (lw_op Z Z Z (ow_assign Z Z (lw_nil (ew_then (cw_ret ?_)))))))))))
  obtain rfl := sj h
  exact ew_ret (res1 Z (.tmp Z)) ⟨_, Z, ((vint _)), hC2.bx⟩

theorem w_spec_l1In {w : World} {M : Nat → Prop} (_hG : ARep (RArr 4 RShape) w M shapes ⟨0, 0, none⟩) (hO : ∀ b, M b → b < w.heap.size) {a_n : Int} {a_lo : Int} {a_hi : Int} {r : Bool} (h : F.spec_l1In a_n a_lo a_hi = some r) :
  Calls Tryd.prog 118 [(.int .i64 a_n), (.int .i64 a_lo), (.int .i64 a_hi)].toArray w fun e w' => ∃ v, e = .returned v ∧ VRep RBool w' M r v ∧ BX No w w' := by
 have hC : Cx No w M w M := Cx.start hO (fun _ e => e.elim)
 clear _hG
 refine walk (N := 15) Tryd.func118 Z Tryd.ntmps118 Z (cw_seq (cw_region (lw_op Z Z Z (ow_assign Z Z (lw_nil (ew_then (cw_seq (cw_region (lw_op Z Z Z (ow_move Z Z (lw_op Z Z Z (ow_move Z Z (lw_op Z Z Z (ow_geq Z Z Z fun bb1 hbb1 => lw_op Z Z Z (ow_move Z Z ?_)))))))))))))))
 replace h := cond_some h
 rcases h with ⟨hc1, h⟩ | ⟨hc1, h⟩
 ·
  obtain rfl := hbb1.trans hc1
  refine lw_on Z Z Z Z Z Z (ow_move Z Z (lw_on Z Z Z Z Z Z (ow_move Z Z (lw_on Z Z Z Z Z Z (ow_leq Z Z Z fun bb2 hbb2 => lw_op Z Z Z (ow_pickT Z Z Z (lw_op Z Z Z (ow_assign Z Z (lw_nil (ew_then (cw_ret ?_)))))))))))
  obtain rfl := sj h
  exact ew_ret (res1 Z (.tmp Z)) ⟨_, Z, ((vbool_of hbb2)), hC.bx⟩
 ·
  obtain rfl := hbb1.trans hc1
  refine lw_off Z Z Z Z Z Z (lw_off Z Z Z Z Z Z (lw_off Z Z Z Z Z Z (lw_op Z Z Z (ow_pickF Z Z Z (lw_op Z Z Z (ow_assign Z Z (lw_nil (ew_then (cw_ret ?_)))))))))
  obtain rfl := sj h
  exact ew_ret (res1 Z (.tmp Z)) ⟨_, Z, ((vbool _)), hC.bx⟩

theorem w_spec_SpansValid {w : World} {M : Nat → Prop} (hG : ARep (RArr 4 RShape) w M shapes ⟨0, 0, none⟩) (hO : ∀ b, M b → b < w.heap.size) {v0p : Value} {a_list : List Span} (h0 : VRep (RSlice RSpan) w M a_list v0p) {a_top : Int} {r : Bool} (h : F.spec_SpansValid a_list a_top = some r) :
  Calls Tryd.prog 133 [v0p, (.int .i64 a_top)].toArray w fun e w' => ∃ v, e = .returned v ∧ VRep RBool w' M r v ∧ BX No w w' := by
 have hC : Cx No w M w M := Cx.start hO (fun _ e => e.elim)
 refine walk (N := 60) Tryd.func133 Z Tryd.ntmps133 Z (cw_seq (cw_region (lw_op Z Z Z (ow_assign Z Z (lw_nil (ew_then (cw_seq (cw_seq (cw_region (lw_op Z Z Z (ow_assign Z Z (lw_nil (ew_then ?_)))))))))))))
 replace h := bind_some h
 obtain ⟨lr1, hlr1, h⟩ := h
 refine cw_for hlr1 (fun s a w' => ∃ (M' : Nat → Prop), Fits 60 [(0, v0p), (1, (Zv a_top)), (5, (Zv s))] a ∧ Le w M w' M' ∧ Cx No w M w' M') ?_ ?_ ?_
 · exact fun a ha => ⟨M, ha.sub ⟨Z, Z, Z, Zt⟩, Le.refl _ _, hC⟩
 ·
  rintro k1 a w1 sr1 ⟨M1, hF1, hl1, hC1⟩ hb1 hR1
  refine cw_at (E := [(0, v0p), (1, (Zv a_top)), (5, (Zv k1))]) hF1 (cw_seq (cw_seq (cw_region (lw_op Z Z Z (ow_move Z Z (lw_op Z Z Z (ow_move Z Z (lw_op Z Z Z (ow_len Z Z (VRep.mono hl1 h0) Tryd.underlying121 Z (lw_op Z Z Z (ow_lss Z Z Z fun bb1 hbb1 => lw_nil (ew_then ?_))))))))))))
  replace hb1 := cond_some hb1
  rcases hb1 with ⟨hc1, hb1⟩ | ⟨hc1, hb1⟩
  ·
   obtain rfl := hbb1.trans hc1
   refine cw_true Z (cw_skip (ew_then (cw_seq (cw_block (cw_seq ?_)))))
   replace hb1 := bind_some hb1
   obtain ⟨x1, hx1, hb1⟩ := hb1
   replace hb1 := bind_some hb1
   obtain ⟨x2, hx2, hb1⟩ := hb1
   replace hb1 := cond_some hb1
   rcases hb1 with ⟨hc2, hb1⟩ | ⟨hc2, hb1⟩
   ·
    subst hc2
    replace hb1 := bind_some hb1
    obtain ⟨x3, hx3, hb1⟩ := hb1
    replace hb1 := cond_some hb1
    rcases hb1 with ⟨hc3, hb1⟩ | ⟨hc3, hb1⟩
    ·
     subst hc3
     replace hb1 := cond_some hb1
     rcases hb1 with ⟨hc4, hb1⟩ | ⟨hc4, hb1⟩
     ·
      replace hb1 := bind_some hb1
      obtain ⟨x4, hx4, hb1⟩ := hb1
      refine cw_sub (E' := [(0, v0p), (1, (Zv a_top)), (5, (Zv k1))]) ⟨Z, Z, Z, Zt⟩ (cw_drawQ 38 [PV (RSlice RSpan) M1 a_list, PEq (Zv k1), PA RSpan M1 x1, PA RInt M1 x1.Lo, PEq (Zv x1.Lo), PV (RSlice RSpan) M1 a_list, PEq (Zv k1), PA RSpan M1 x1, PA RInt M1 x1.Hi, PEq (Zv x1.Hi), PEq (.bool true), PEq (.bool false), PEq (.bool false), PV (RSlice RSpan) M1 a_list, PEq (Zv k1), PA RSpan M1 x1, PA RInt M1 x1.Hi, PEq (Zv x1.Hi), PEq (Zv a_top), PEq (.bool true), PEq (.bool false), PEq (.bool false), PEq (.bool false), PEq (Zv k1), PEq (.bool true), PEq (.bool true), PV (RSlice RSpan) M1 a_list, PEq (Zv k1), PA RSpan M1 x1, PA RInt M1 x1.Lo, PEq (Zv x1.Lo), PV (RSlice RSpan) M1 a_list, PEq (Zv k1), PEq (Zv (W (k1 - 1))), PA RSpan M1 x4, PA RInt M1 x4.Hi, PEq (Zv x4.Hi), PEq (Zv (W (x4.Hi + 2)))] (by kernel_rfl) Z (by kernel_rfl) ⟨PV.mono _ _ _, Zq, PA.mono _ _ _, PA.mono _ _ _, Zq, PV.mono _ _ _, Zq, PA.mono _ _ _, PA.mono _ _ _, Zq, Zq, Zq, Zq, PV.mono _ _ _, Zq, PA.mono _ _ _, PA.mono _ _ _, Zq, Zq, Zq, Zq, Zq, Zq, Zq, Zq, Zq, PV.mono _ _ _, Zq, PA.mono _ _ _, PA.mono _ _ _, Zq, PV.mono _ _ _, Zq, Zq, PA.mono _ _ _, PA.mono _ _ _, Zq, Zq, Zt⟩ ⟨?_, ?_, ?_, ?_, ?_, ?_, ?_, ?_, ?_, ?_, ?_, ?_, ?_, ?_, ?_, ?_, ?_, ?_, ?_, ?_, ?_, ?_, ?_, ?_, ?_, ?_, ?_, ?_, ?_, ?_, ?_, ?_, ?_, ?_, ?_, ?_, ?_, ?_, Zt⟩ ?_)
      ·
       intro w4 D hS1 hd1
       have hl4 := Le.no M1 hS1
       exact dg_sub (E' := [(0, v0p)]) ⟨Z, Zt⟩ (dg_plain Z (ow_move Z Z ⟨BX.refl _ _, (VRep.mono (hl1.trans hl4) h0)⟩))
      · exact fun w5 D hS2 hd2 => dg_sub (E' := [(5, (Zv k1))]) ⟨Z, Zt⟩ (dg_plain Z (ow_move Z Z Zb))
      ·
       intro w6 D hS3 hd3
       have d1 : PV (RSlice RSpan) M1 a_list (D 0) w6 := dpA hd3 0 Z
       generalize hq1 : (D 0) = v9 at d1
       exact dg_sub (E' := [(12, v9), (13, (Zv k1))]) ⟨congrArg some hq1, dpE hd3 1 Z Z, Zt⟩ (dg_plain Z (ow_indexSlice (R := RSpan) Z Z Z d1 Tryd.underlying121 (Tryd.sizeOf120 _) hx1 fun p6 hp6 => ⟨BX.refl _ _, ⟨_, Z, hp6⟩⟩))
      ·
       intro w7 D hS4 hd4
       have d3 : PA RSpan M1 x1 (D 2) w7 := dpA hd4 2 Z
       obtain ⟨p7, e1, ha1⟩ := d3
       exact dg_sub (E' := [(14, (.pointer (some p7)))]) ⟨congrArg some e1, Zt⟩ (dg_plain Z (ow_fieldAddr Z Z Tryd.underlying120 Z (Tryd.sizeOf3 _) ⟨BX.refl _ _, ⟨_, Z, (ha1.fld fld_Span_Lo)⟩⟩))
      ·
       intro w8 D hS5 hd5
       have d4 : PA RInt M1 x1.Lo (D 3) w8 := dpA hd5 3 Z
       obtain ⟨p8, e2, ha2⟩ := d4
       refine dg_sub (E' := [(15, (.pointer (some p8)))]) ⟨congrArg some e2, Zt⟩ (dg_plain Z (ow_load (R := RInt) Z Z ha2 (Tryd.sizeOf3 _) (Tryd.isAgg3 _) fun v10 hv10 => ?_))
       obtain rfl := vint_eq hv10
       exact Zb
      ·
       intro w9 D hS6 hd6
       have hl9 := Le.no M1 hS6
       exact dg_sub (E' := [(0, v0p)]) ⟨Z, Zt⟩ (dg_plain Z (ow_move Z Z ⟨BX.refl _ _, (VRep.mono (hl1.trans hl9) h0)⟩))
      · exact fun w10 D hS7 hd7 => dg_sub (E' := [(5, (Zv k1))]) ⟨Z, Zt⟩ (dg_plain Z (ow_move Z Z Zb))
      ·
       intro w11 D hS8 hd8
       have d5 : PV (RSlice RSpan) M1 a_list (D 5) w11 := dpA hd8 5 Z
       generalize hq2 : (D 5) = v11 at d5
       exact dg_sub (E' := [(17, v11), (18, (Zv k1))]) ⟨congrArg some hq2, dpE hd8 6 Z Z, Zt⟩ (dg_plain Z (ow_indexSlice (R := RSpan) Z Z Z d5 Tryd.underlying121 (Tryd.sizeOf120 _) hx1 fun p9 hp9 => ⟨BX.refl _ _, ⟨_, Z, hp9⟩⟩))
      ·
       intro w12 D hS9 hd9
       have d7 : PA RSpan M1 x1 (D 7) w12 := dpA hd9 7 Z
       obtain ⟨p10, e3, ha3⟩ := d7
       exact dg_sub (E' := [(19, (.pointer (some p10)))]) ⟨congrArg some e3, Zt⟩ (dg_plain Z (ow_fieldAddr Z Z Tryd.underlying120 Z (Tryd.sizeOf3 _) ⟨BX.refl _ _, ⟨_, Z, (ha3.fld fld_Span_Hi)⟩⟩))
      ·
       intro w13 D hS10 hd10
       have d8 : PA RInt M1 x1.Hi (D 8) w13 := dpA hd10 8 Z
       obtain ⟨p11, e4, ha4⟩ := d8
       refine dg_sub (E' := [(20, (.pointer (some p11)))]) ⟨congrArg some e4, Zt⟩ (dg_plain Z (ow_load (R := RInt) Z Z ha4 (Tryd.sizeOf3 _) (Tryd.isAgg3 _) fun v12 hv12 => ?_))
       obtain rfl := vint_eq hv12
       exact Zb
      ·
       intro w14 D hS11 hd11
       have hl14 := Le.no M1 hS11
       have hC14 := hC1.no hS11
       refine dg_sub (E' := [(16, (Zv x1.Lo)), (21, (Zv x1.Hi))]) ⟨dpE hd11 4 Z Z, dpE hd11 9 Z Z, Zt⟩ (dg_plain Z (ow_call Z Z Tryd.call118 (w_spec_l1In (hG.mono (hl1.trans hl14)) hC14.old hx2) fun v13 w15 hv13 => ?_))
       obtain ⟨hv13, hb4⟩ := hv13
       obtain rfl := vbool_eq hv13
       exact ⟨hb4, Z⟩
      · exact fun w16 D hS12 hd12 => dg_sub (E' := [(22, (.bool true))]) ⟨dpE hd12 10 Z Z, Zt⟩ (dg_plain Z (ow_not Z Z Zb))
      · exact fun w17 D hS13 hd13 => dg_sub (E' := [(23, (.bool false))]) ⟨dpE hd13 11 Z Z, Zt⟩ (dg_plain Z (ow_move Z Z Zb))
      ·
       intro w18 D hS14 hd14
       have hl18 := Le.no M1 hS14
       exact dg_sub (E' := [(24, (.bool false)), (0, v0p)]) ⟨dpE hd14 12 Z Z, Z, Zt⟩ (dg_on Z Z Z Z (ow_move Z Z ⟨BX.refl _ _, (VRep.mono (hl1.trans hl18) h0)⟩))
      · exact fun w19 D hS15 hd15 => dg_sub (E' := [(24, (.bool false)), (5, (Zv k1))]) ⟨dpE hd15 12 Z Z, Z, Zt⟩ (dg_on Z Z Z Z (ow_move Z Z Zb))
      ·
       intro w20 D hS16 hd16
       have d16 : PV (RSlice RSpan) M1 a_list (D 13) w20 := dpA hd16 13 Z
       generalize hq3 : (D 13) = v14 at d16
       exact dg_sub (E' := [(25, v14), (26, (Zv k1)), (24, (.bool false))]) ⟨congrArg some hq3, dpE hd16 14 Z Z, dpE hd16 12 Z Z, Zt⟩ (dg_on Z Z Z Z (ow_indexSlice (R := RSpan) Z Z Z d16 Tryd.underlying121 (Tryd.sizeOf120 _) hx1 fun p12 hp12 => ⟨BX.refl _ _, ⟨_, Z, hp12⟩⟩))
      ·
       intro w21 D hS17 hd17
       have d19 : PA RSpan M1 x1 (D 15) w21 := dpA hd17 15 Z
       obtain ⟨p13, e5, ha5⟩ := d19
       exact dg_sub (E' := [(27, (.pointer (some p13))), (24, (.bool false))]) ⟨congrArg some e5, dpE hd17 12 Z Z, Zt⟩ (dg_on Z Z Z Z (ow_fieldAddr Z Z Tryd.underlying120 Z (Tryd.sizeOf3 _) ⟨BX.refl _ _, ⟨_, Z, (ha5.fld fld_Span_Hi)⟩⟩))
      ·
       intro w22 D hS18 hd18
       have d21 : PA RInt M1 x1.Hi (D 16) w22 := dpA hd18 16 Z
       obtain ⟨p14, e6, ha6⟩ := d21
       refine dg_sub (E' := [(28, (.pointer (some p14))), (24, (.bool false))]) ⟨congrArg some e6, dpE hd18 12 Z Z, Zt⟩ (dg_on Z Z Z Z (ow_load (R := RInt) Z Z ha6 (Tryd.sizeOf3 _) (Tryd.isAgg3 _) fun v15 hv15 => ?_))
       obtain rfl := vint_eq hv15
       exact Zb
      · exact fun w23 D hS19 hd19 => dg_sub (E' := [(24, (.bool false)), (1, (Zv a_top))]) ⟨dpE hd19 12 Z Z, Z, Zt⟩ (dg_on Z Z Z Z (ow_move Z Z Zb))
      ·
       intro w24 D hS20 hd20
       have hl24 := Le.no M1 hS20
       have hC24 := hC1.no hS20
       refine dg_sub (E' := [(29, (Zv x1.Hi)), (30, (Zv a_top)), (24, (.bool false))]) ⟨dpE hd20 17 Z Z, dpE hd20 18 Z Z, dpE hd20 12 Z Z, Zt⟩ (dg_on Z Z Z Z (ow_call Z Z Tryd.call118 (w_spec_l1In (hG.mono (hl1.trans hl24)) hC24.old hx3) fun v16 w25 hv16 => ?_))
       obtain ⟨hv16, hb5⟩ := hv16
       obtain rfl := vbool_eq hv16
       exact ⟨hb5, Z⟩
      · exact fun w26 D hS21 hd21 => dg_sub (E' := [(31, (.bool true)), (24, (.bool false))]) ⟨dpE hd21 19 Z Z, dpE hd21 12 Z Z, Zt⟩ (dg_on Z Z Z Z (ow_not Z Z Zb))
      · exact fun w27 D hS22 hd22 => dg_sub (E' := [(24, (.bool false)), (32, (.bool false))]) ⟨dpE hd22 12 Z Z, dpE hd22 20 Z Z, Zt⟩ (dg_plain Z (ow_pickF Z Z Z Zb))
      · exact fun w28 D hS23 hd23 => dg_sub (E' := [(33, (.bool false))]) ⟨dpE hd23 21 Z Z, Zt⟩ (dg_plain Z (ow_move Z Z Zb))
      · exact fun w29 D hS24 hd24 => dg_sub (E' := [(34, (.bool false)), (5, (Zv k1))]) ⟨dpE hd24 22 Z Z, Z, Zt⟩ (dg_on Z Z Z Z (ow_move Z Z Zb))
      ·
       intro w30 D hS25 hd25
       refine dg_sub (E' := [(35, (Zv k1)), (34, (.bool false))]) ⟨dpE hd25 23 Z Z, dpE hd25 22 Z Z, Zt⟩ (dg_on Z Z Z Z (ow_gtr Z Z Z fun bb3 hbb3 => ?_))
       obtain rfl := hbb3.trans hc4
       exact Zb
      · exact fun w31 D hS26 hd26 => dg_sub (E' := [(36, (.bool true)), (34, (.bool false))]) ⟨dpE hd26 24 Z Z, dpE hd26 22 Z Z, Zt⟩ (dg_on Z Z Z Z (ow_move Z Z Zb))
      ·
       intro w32 D hS27 hd27
       have hl32 := Le.no M1 hS27
       exact dg_sub (E' := [(37, (.bool true)), (0, v0p)]) ⟨dpE hd27 25 Z Z, Z, Zt⟩ (dg_on Z Z Z Z (ow_move Z Z ⟨BX.refl _ _, (VRep.mono (hl1.trans hl32) h0)⟩))
      · exact fun w33 D hS28 hd28 => dg_sub (E' := [(37, (.bool true)), (5, (Zv k1))]) ⟨dpE hd28 25 Z Z, Z, Zt⟩ (dg_on Z Z Z Z (ow_move Z Z Zb))
      ·
       intro w34 D hS29 hd29
       have d42 : PV (RSlice RSpan) M1 a_list (D 26) w34 := dpA hd29 26 Z
       generalize hq4 : (D 26) = v17 at d42
       exact dg_sub (E' := [(38, v17), (39, (Zv k1)), (37, (.bool true))]) ⟨congrArg some hq4, dpE hd29 27 Z Z, dpE hd29 25 Z Z, Zt⟩ (dg_on Z Z Z Z (ow_indexSlice (R := RSpan) Z Z Z d42 Tryd.underlying121 (Tryd.sizeOf120 _) hx1 fun p15 hp15 => ⟨BX.refl _ _, ⟨_, Z, hp15⟩⟩))
      ·
       intro w35 D hS30 hd30
       have d45 : PA RSpan M1 x1 (D 28) w35 := dpA hd30 28 Z
       obtain ⟨p16, e7, ha7⟩ := d45
       exact dg_sub (E' := [(40, (.pointer (some p16))), (37, (.bool true))]) ⟨congrArg some e7, dpE hd30 25 Z Z, Zt⟩ (dg_on Z Z Z Z (ow_fieldAddr Z Z Tryd.underlying120 Z (Tryd.sizeOf3 _) ⟨BX.refl _ _, ⟨_, Z, (ha7.fld fld_Span_Lo)⟩⟩))
      ·
       intro w36 D hS31 hd31
       have d47 : PA RInt M1 x1.Lo (D 29) w36 := dpA hd31 29 Z
       obtain ⟨p17, e8, ha8⟩ := d47
       refine dg_sub (E' := [(41, (.pointer (some p17))), (37, (.bool true))]) ⟨congrArg some e8, dpE hd31 25 Z Z, Zt⟩ (dg_on Z Z Z Z (ow_load (R := RInt) Z Z ha8 (Tryd.sizeOf3 _) (Tryd.isAgg3 _) fun v18 hv18 => ?_))
       obtain rfl := vint_eq hv18
       exact Zb
      ·
       intro w37 D hS32 hd32
       have hl37 := Le.no M1 hS32
       exact dg_sub (E' := [(37, (.bool true)), (0, v0p)]) ⟨dpE hd32 25 Z Z, Z, Zt⟩ (dg_on Z Z Z Z (ow_move Z Z ⟨BX.refl _ _, (VRep.mono (hl1.trans hl37) h0)⟩))
      · exact fun w38 D hS33 hd33 => dg_sub (E' := [(37, (.bool true)), (5, (Zv k1))]) ⟨dpE hd33 25 Z Z, Z, Zt⟩ (dg_on Z Z Z Z (ow_move Z Z Zb))
      · exact fun w39 D hS34 hd34 => dg_sub (E' := [(44, (Zv k1)), (37, (.bool true))]) ⟨dpE hd34 32 Z Z, dpE hd34 25 Z Z, Zt⟩ (dg_on Z Z Z Z (ow_sub Z Z Z Zb))
      ·
       intro w40 D hS35 hd35
       have d53 : PV (RSlice RSpan) M1 a_list (D 31) w40 := dpA hd35 31 Z
       generalize hq5 : (D 31) = v19 at d53
       exact dg_sub (E' := [(43, v19), (45, (Zv (W (k1 - 1)))), (37, (.bool true))]) ⟨congrArg some hq5, dpE hd35 33 Z Z, dpE hd35 25 Z Z, Zt⟩ (dg_on Z Z Z Z (ow_indexSlice (R := RSpan) Z Z Z d53 Tryd.underlying121 (Tryd.sizeOf120 _) hx4 fun p18 hp18 => ⟨BX.refl _ _, ⟨_, Z, hp18⟩⟩))
      ·
       intro w41 D hS36 hd36
       have d56 : PA RSpan M1 x4 (D 34) w41 := dpA hd36 34 Z
       obtain ⟨p19, e9, ha9⟩ := d56
       exact dg_sub (E' := [(46, (.pointer (some p19))), (37, (.bool true))]) ⟨congrArg some e9, dpE hd36 25 Z Z, Zt⟩ (dg_on Z Z Z Z (ow_fieldAddr Z Z Tryd.underlying120 Z (Tryd.sizeOf3 _) ⟨BX.refl _ _, ⟨_, Z, (ha9.fld fld_Span_Hi)⟩⟩))
      ·
       intro w42 D hS37 hd37
       have d58 : PA RInt M1 x4.Hi (D 35) w42 := dpA hd37 35 Z
       obtain ⟨p20, e10, ha10⟩ := d58
       refine dg_sub (E' := [(47, (.pointer (some p20))), (37, (.bool true))]) ⟨congrArg some e10, dpE hd37 25 Z Z, Zt⟩ (dg_on Z Z Z Z (ow_load (R := RInt) Z Z ha10 (Tryd.sizeOf3 _) (Tryd.isAgg3 _) fun v20 hv20 => ?_))
       obtain rfl := vint_eq hv20
       exact Zb
      · exact fun w43 D hS38 hd38 => dg_sub (E' := [(48, (Zv x4.Hi)), (37, (.bool true))]) ⟨dpE hd38 36 Z Z, dpE hd38 25 Z Z, Zt⟩ (dg_on Z Z Z Z (ow_add Z Z Z Zb))
      ·
       intro w44 D hS39 hd39
       have hl44 := Le.no M1 hS39
       have hC44 := hC1.no hS39
       refine lw_sub (E' := [(34, (.bool false)), (37, (.bool true)), (42, (Zv x1.Lo)), (49, (Zv (W (x4.Hi + 2)))), (0, v0p), (1, (Zv a_top)), (5, (Zv k1))]) ⟨dpE hd39 22 Z Z, dpE hd39 25 Z Z, dpE hd39 30 Z Z, dpE hd39 37 Z Z, Z, Z, Z, Zt⟩ (lw_on Z Z Z Z Z Z (ow_lss Z Z Z fun bb4 hbb4 => lw_on Z Z Z Z Z Z (ow_pickT Z Z Z (lw_op Z Z Z (ow_pickF Z Z Z (lw_nil (ew_then ?_)))))))
       replace hb1 := cond_some hb1
       rcases hb1 with ⟨hc5, hb1⟩ | ⟨hc5, hb1⟩
       ·
        obtain rfl := hbb4.trans hc5
        refine cw_true Z (cw_seq (cw_region (lw_op Z Z Z (ow_assign Z Z (lw_nil (ew_then (cw_ret (ew_blockR (ew_thenR (ew_thenR (ew_blockR (ew_brkR (ew_thenR ?_)))))))))))))
        have e11 := hR1 _ (sj hb1).symm
        subst e11
        obtain rfl := sj h
        exact ew_ret (res1 Z (.tmp Z)) ⟨_, Z, ((vbool _)), hC44.bx⟩
       ·
        obtain rfl := hbb4.trans hc5
        exact cw_false Z (cw_skip (ew_blockN (ew_then (cw_region (lw_op Z Z Z (ow_move Z Z (lw_op Z Z Z (ow_add Z Z Z (lw_op Z Z Z (ow_assign Z Z (lw_nil (ew_nxt (W (k1 + 1)) hb1 fun a ha => ⟨M1, (ha.sub ⟨Z, Z, Z, Zt⟩), (hl1.trans hl44), hC44⟩))))))))))))
     ·
      refine cw_sub (E' := [(0, v0p), (1, (Zv a_top)), (5, (Zv k1))]) ⟨Z, Z, Z, Zt⟩ (cw_drawQ 38 [PV (RSlice RSpan) M1 a_list, PEq (Zv k1), PA RSpan M1 x1, PA RInt M1 x1.Lo, PEq (Zv x1.Lo), PV (RSlice RSpan) M1 a_list, PEq (Zv k1), PA RSpan M1 x1, PA RInt M1 x1.Hi, PEq (Zv x1.Hi), PEq (.bool true), PEq (.bool false), PEq (.bool false), PV (RSlice RSpan) M1 a_list, PEq (Zv k1), PA RSpan M1 x1, PA RInt M1 x1.Hi, PEq (Zv x1.Hi), PEq (Zv a_top), PEq (.bool true), PEq (.bool false), PEq (.bool false), PEq (.bool false), PEq (Zv k1), PEq (.bool false), PEq (.bool false), PEq undef, PEq undef, PEq undef, PEq undef, PEq undef, PEq undef, PEq undef, PEq undef, PEq undef, PEq undef, PEq undef, PEq undef] (by kernel_rfl) Z (by kernel_rfl) ⟨PV.mono _ _ _, Zq, PA.mono _ _ _, PA.mono _ _ _, Zq, PV.mono _ _ _, Zq, PA.mono _ _ _, PA.mono _ _ _, Zq, Zq, Zq, Zq, PV.mono _ _ _, Zq, PA.mono _ _ _, PA.mono _ _ _, Zq, Zq, Zq, Zq, Zq, Zq, Zq, Zq, Zq, Zq, Zq, Zq, Zq, Zq, Zq, Zq, Zq, Zq, Zq, Zq, Zq, Zt⟩ ⟨?_, ?_, ?_, ?_, ?_, ?_, ?_, ?_, ?_, ?_, ?_, ?_, ?_, ?_, ?_, ?_, ?_, ?_, ?_, ?_, ?_, ?_, ?_, ?_, ?_, ?_, ?_, ?_, ?_, ?_, ?_, ?_, ?_, ?_, ?_, ?_, ?_, ?_, Zt⟩ ?_)
      ·
       intro w45 D hS40 hd40
       have hl45 := Le.no M1 hS40
       exact dg_sub (E' := [(0, v0p)]) ⟨Z, Zt⟩ (dg_plain Z (ow_move Z Z ⟨BX.refl _ _, (VRep.mono (hl1.trans hl45) h0)⟩))
      · exact fun w46 D hS41 hd41 => dg_sub (E' := [(5, (Zv k1))]) ⟨Z, Zt⟩ (dg_plain Z (ow_move Z Z Zb))
      ·
       intro w47 D hS42 hd42
       have d100 : PV (RSlice RSpan) M1 a_list (D 0) w47 := dpA hd42 0 Z
       generalize hq6 : (D 0) = v21 at d100
       exact dg_sub (E' := [(12, v21), (13, (Zv k1))]) ⟨congrArg some hq6, dpE hd42 1 Z Z, Zt⟩ (dg_plain Z (ow_indexSlice (R := RSpan) Z Z Z d100 Tryd.underlying121 (Tryd.sizeOf120 _) hx1 fun p21 hp21 => ⟨BX.refl _ _, ⟨_, Z, hp21⟩⟩))
      ·
       intro w48 D hS43 hd43
       have d102 : PA RSpan M1 x1 (D 2) w48 := dpA hd43 2 Z
       obtain ⟨p22, e12, ha11⟩ := d102
       exact dg_sub (E' := [(14, (.pointer (some p22)))]) ⟨congrArg some e12, Zt⟩ (dg_plain Z (ow_fieldAddr Z Z Tryd.underlying120 Z (Tryd.sizeOf3 _) ⟨BX.refl _ _, ⟨_, Z, (ha11.fld fld_Span_Lo)⟩⟩))
      ·
       intro w49 D hS44 hd44
       have d103 : PA RInt M1 x1.Lo (D 3) w49 := dpA hd44 3 Z
       obtain ⟨p23, e13, ha12⟩ := d103
       refine dg_sub (E' := [(15, (.pointer (some p23)))]) ⟨congrArg some e13, Zt⟩ (dg_plain Z (ow_load (R := RInt) Z Z ha12 (Tryd.sizeOf3 _) (Tryd.isAgg3 _) fun v22 hv22 => ?_))
       obtain rfl := vint_eq hv22
       exact Zb
      ·
       intro w50 D hS45 hd45
       have hl50 := Le.no M1 hS45
       exact dg_sub (E' := [(0, v0p)]) ⟨Z, Zt⟩ (dg_plain Z (ow_move Z Z ⟨BX.refl _ _, (VRep.mono (hl1.trans hl50) h0)⟩))
      · exact fun w51 D hS46 hd46 => dg_sub (E' := [(5, (Zv k1))]) ⟨Z, Zt⟩ (dg_plain Z (ow_move Z Z Zb))
      ·
       intro w52 D hS47 hd47
       have d104 : PV (RSlice RSpan) M1 a_list (D 5) w52 := dpA hd47 5 Z
       generalize hq7 : (D 5) = v23 at d104
       exact dg_sub (E' := [(17, v23), (18, (Zv k1))]) ⟨congrArg some hq7, dpE hd47 6 Z Z, Zt⟩ (dg_plain Z (ow_indexSlice (R := RSpan) Z Z Z d104 Tryd.underlying121 (Tryd.sizeOf120 _) hx1 fun p24 hp24 => ⟨BX.refl _ _, ⟨_, Z, hp24⟩⟩))
      ·
       intro w53 D hS48 hd48
       have d106 : PA RSpan M1 x1 (D 7) w53 := dpA hd48 7 Z
       obtain ⟨p25, e14, ha13⟩ := d106
       exact dg_sub (E' := [(19, (.pointer (some p25)))]) ⟨congrArg some e14, Zt⟩ (dg_plain Z (ow_fieldAddr Z Z Tryd.underlying120 Z (Tryd.sizeOf3 _) ⟨BX.refl _ _, ⟨_, Z, (ha13.fld fld_Span_Hi)⟩⟩))
      ·
       intro w54 D hS49 hd49
       have d107 : PA RInt M1 x1.Hi (D 8) w54 := dpA hd49 8 Z
       obtain ⟨p26, e15, ha14⟩ := d107
       refine dg_sub (E' := [(20, (.pointer (some p26)))]) ⟨congrArg some e15, Zt⟩ (dg_plain Z (ow_load (R := RInt) Z Z ha14 (Tryd.sizeOf3 _) (Tryd.isAgg3 _) fun v24 hv24 => ?_))
       obtain rfl := vint_eq hv24
       exact Zb
      ·
       intro w55 D hS50 hd50
       have hl55 := Le.no M1 hS50
       have hC55 := hC1.no hS50
       refine dg_sub (E' := [(16, (Zv x1.Lo)), (21, (Zv x1.Hi))]) ⟨dpE hd50 4 Z Z, dpE hd50 9 Z Z, Zt⟩ (dg_plain Z (ow_call Z Z Tryd.call118 (w_spec_l1In (hG.mono (hl1.trans hl55)) hC55.old hx2) fun v25 w56 hv25 => ?_))
       obtain ⟨hv25, hb6⟩ := hv25
       obtain rfl := vbool_eq hv25
       exact ⟨hb6, Z⟩
      · exact fun w57 D hS51 hd51 => dg_sub (E' := [(22, (.bool true))]) ⟨dpE hd51 10 Z Z, Zt⟩ (dg_plain Z (ow_not Z Z Zb))
      · exact fun w58 D hS52 hd52 => dg_sub (E' := [(23, (.bool false))]) ⟨dpE hd52 11 Z Z, Zt⟩ (dg_plain Z (ow_move Z Z Zb))
      ·
       intro w59 D hS53 hd53
       have hl59 := Le.no M1 hS53
       exact dg_sub (E' := [(24, (.bool false)), (0, v0p)]) ⟨dpE hd53 12 Z Z, Z, Zt⟩ (dg_on Z Z Z Z (ow_move Z Z ⟨BX.refl _ _, (VRep.mono (hl1.trans hl59) h0)⟩))
      · exact fun w60 D hS54 hd54 => dg_sub (E' := [(24, (.bool false)), (5, (Zv k1))]) ⟨dpE hd54 12 Z Z, Z, Zt⟩ (dg_on Z Z Z Z (ow_move Z Z Zb))
      ·
       intro w61 D hS55 hd55
       have d115 : PV (RSlice RSpan) M1 a_list (D 13) w61 := dpA hd55 13 Z
       generalize hq8 : (D 13) = v26 at d115
       exact dg_sub (E' := [(25, v26), (26, (Zv k1)), (24, (.bool false))]) ⟨congrArg some hq8, dpE hd55 14 Z Z, dpE hd55 12 Z Z, Zt⟩ (dg_on Z Z Z Z (ow_indexSlice (R := RSpan) Z Z Z d115 Tryd.underlying121 (Tryd.sizeOf120 _) hx1 fun p27 hp27 => ⟨BX.refl _ _, ⟨_, Z, hp27⟩⟩))
      ·
       intro w62 D hS56 hd56
       have d118 : PA RSpan M1 x1 (D 15) w62 := dpA hd56 15 Z
       obtain ⟨p28, e16, ha15⟩ := d118
       exact dg_sub (E' := [(27, (.pointer (some p28))), (24, (.bool false))]) ⟨congrArg some e16, dpE hd56 12 Z Z, Zt⟩ (dg_on Z Z Z Z (ow_fieldAddr Z Z Tryd.underlying120 Z (Tryd.sizeOf3 _) ⟨BX.refl _ _, ⟨_, Z, (ha15.fld fld_Span_Hi)⟩⟩))
      ·
       intro w63 D hS57 hd57
       have d120 : PA RInt M1 x1.Hi (D 16) w63 := dpA hd57 16 Z
       obtain ⟨p29, e17, ha16⟩ := d120
       refine dg_sub (E' := [(28, (.pointer (some p29))), (24, (.bool false))]) ⟨congrArg some e17, dpE hd57 12 Z Z, Zt⟩ (dg_on Z Z Z Z (ow_load (R := RInt) Z Z ha16 (Tryd.sizeOf3 _) (Tryd.isAgg3 _) fun v27 hv27 => ?_))
       obtain rfl := vint_eq hv27
       exact Zb
      · exact fun w64 D hS58 hd58 => dg_sub (E' := [(24, (.bool false)), (1, (Zv a_top))]) ⟨dpE hd58 12 Z Z, Z, Zt⟩ (dg_on Z Z Z Z (ow_move Z Z Zb))
      ·
       intro w65 D hS59 hd59
       have hl65 := Le.no M1 hS59
       have hC65 := hC1.no hS59
       refine dg_sub (E' := [(29, (Zv x1.Hi)), (30, (Zv a_top)), (24, (.bool false))]) ⟨dpE hd59 17 Z Z, dpE hd59 18 Z Z, dpE hd59 12 Z Z, Zt⟩ (dg_on Z Z Z Z (ow_call Z Z Tryd.call118 (w_spec_l1In (hG.mono (hl1.trans hl65)) hC65.old hx3) fun v28 w66 hv28 => ?_))
       obtain ⟨hv28, hb7⟩ := hv28
       obtain rfl := vbool_eq hv28
       exact ⟨hb7, Z⟩
      · exact fun w67 D hS60 hd60 => dg_sub (E' := [(31, (.bool true)), (24, (.bool false))]) ⟨dpE hd60 19 Z Z, dpE hd60 12 Z Z, Zt⟩ (dg_on Z Z Z Z (ow_not Z Z Zb))
      · exact fun w68 D hS61 hd61 => dg_sub (E' := [(24, (.bool false)), (32, (.bool false))]) ⟨dpE hd61 12 Z Z, dpE hd61 20 Z Z, Zt⟩ (dg_plain Z (ow_pickF Z Z Z Zb))
      · exact fun w69 D hS62 hd62 => dg_sub (E' := [(33, (.bool false))]) ⟨dpE hd62 21 Z Z, Zt⟩ (dg_plain Z (ow_move Z Z Zb))
      · exact fun w70 D hS63 hd63 => dg_sub (E' := [(34, (.bool false)), (5, (Zv k1))]) ⟨dpE hd63 22 Z Z, Z, Zt⟩ (dg_on Z Z Z Z (ow_move Z Z Zb))
      ·
       intro w71 D hS64 hd64
       refine dg_sub (E' := [(35, (Zv k1)), (34, (.bool false))]) ⟨dpE hd64 23 Z Z, dpE hd64 22 Z Z, Zt⟩ (dg_on Z Z Z Z (ow_gtr Z Z Z fun bb5 hbb5 => ?_))
       obtain rfl := hbb5.trans hc4
       exact Zb
      · exact fun w72 D hS65 hd65 => dg_sub (E' := [(36, (.bool false)), (34, (.bool false))]) ⟨dpE hd65 24 Z Z, dpE hd65 22 Z Z, Zt⟩ (dg_on Z Z Z Z (ow_move Z Z Zb))
      · exact fun w73 D hS66 hd66 => dg_sub (E' := [(37, (.bool false)), (0, v0p)]) ⟨dpE hd66 25 Z Z, Z, Zt⟩ (dg_off Z Z Z Z Zb)
      · exact fun w74 D hS67 hd67 => dg_sub (E' := [(37, (.bool false)), (5, (Zv k1))]) ⟨dpE hd67 25 Z Z, Z, Zt⟩ (dg_off Z Z Z Z Zb)
      · exact fun w75 D hS68 hd68 => dg_sub (E' := [(38, undef), (39, undef), (37, (.bool false))]) ⟨dpE hd68 26 Z Z, dpE hd68 27 Z Z, dpE hd68 25 Z Z, Zt⟩ (dg_off Z Z Z Z Zb)
      · exact fun w76 D hS69 hd69 => dg_sub (E' := [(40, undef), (37, (.bool false))]) ⟨dpE hd69 28 Z Z, dpE hd69 25 Z Z, Zt⟩ (dg_off Z Z Z Z Zb)
      · exact fun w77 D hS70 hd70 => dg_sub (E' := [(41, undef), (37, (.bool false))]) ⟨dpE hd70 29 Z Z, dpE hd70 25 Z Z, Zt⟩ (dg_off Z Z Z Z Zb)
      · exact fun w78 D hS71 hd71 => dg_sub (E' := [(37, (.bool false)), (0, v0p)]) ⟨dpE hd71 25 Z Z, Z, Zt⟩ (dg_off Z Z Z Z Zb)
      · exact fun w79 D hS72 hd72 => dg_sub (E' := [(37, (.bool false)), (5, (Zv k1))]) ⟨dpE hd72 25 Z Z, Z, Zt⟩ (dg_off Z Z Z Z Zb)
      · exact fun w80 D hS73 hd73 => dg_sub (E' := [(44, undef), (37, (.bool false))]) ⟨dpE hd73 32 Z Z, dpE hd73 25 Z Z, Zt⟩ (dg_off Z Z Z Z Zb)
      · exact fun w81 D hS74 hd74 => dg_sub (E' := [(43, undef), (45, undef), (37, (.bool false))]) ⟨dpE hd74 31 Z Z, dpE hd74 33 Z Z, dpE hd74 25 Z Z, Zt⟩ (dg_off Z Z Z Z Zb)
      · exact fun w82 D hS75 hd75 => dg_sub (E' := [(46, undef), (37, (.bool false))]) ⟨dpE hd75 34 Z Z, dpE hd75 25 Z Z, Zt⟩ (dg_off Z Z Z Z Zb)
      · exact fun w83 D hS76 hd76 => dg_sub (E' := [(47, undef), (37, (.bool false))]) ⟨dpE hd76 35 Z Z, dpE hd76 25 Z Z, Zt⟩ (dg_off Z Z Z Z Zb)
      · exact fun w84 D hS77 hd77 => dg_sub (E' := [(48, undef), (37, (.bool false))]) ⟨dpE hd77 36 Z Z, dpE hd77 25 Z Z, Zt⟩ (dg_off Z Z Z Z Zb)
      ·
       intro w85 D hS78 hd78
       have hl85 := Le.no M1 hS78
       have hC85 := hC1.no hS78
       exact lw_sub (E' := [(34, (.bool false)), (37, (.bool false)), (42, undef), (49, undef), (0, v0p), (1, (Zv a_top)), (5, (Zv k1))]) ⟨dpE hd78 22 Z Z, dpE hd78 25 Z Z, dpE hd78 30 Z Z, dpE hd78 37 Z Z, Z, Z, Z, Zt⟩ (lw_off Z Z Z Z Z Z (lw_on Z Z Z Z Z Z (ow_pickF Z Z Z (lw_op Z Z Z (ow_pickF Z Z Z (lw_nil (ew_then (cw_false Z (cw_skip (ew_blockN (ew_then (cw_region (lw_op Z Z Z (ow_move Z Z (lw_op Z Z Z (ow_add Z Z Z (lw_op Z Z Z (ow_assign Z Z (lw_nil (ew_nxt (W (k1 + 1)) hb1 fun a ha => ⟨M1, (ha.sub ⟨Z, Z, Z, Zt⟩), (hl1.trans hl85), hC85⟩))))))))))))))))))))
    ·
     subst hc3
     refine cw_sub (E' := [(0, v0p), (1, (Zv a_top)), (5, (Zv k1))]) ⟨Z, Z, Z, Zt⟩ (cw_drawQ 38 [PV (RSlice RSpan) M1 a_list, PEq (Zv k1), PA RSpan M1 x1, PA RInt M1 x1.Lo, PEq (Zv x1.Lo), PV (RSlice RSpan) M1 a_list, PEq (Zv k1), PA RSpan M1 x1, PA RInt M1 x1.Hi, PEq (Zv x1.Hi), PEq (.bool true), PEq (.bool false), PEq (.bool false), PV (RSlice RSpan) M1 a_list, PEq (Zv k1), PA RSpan M1 x1, PA RInt M1 x1.Hi, PEq (Zv x1.Hi), PEq (Zv a_top), PEq (.bool false), PEq (.bool true), PEq (.bool true), PEq (.bool true), PEq undef, PEq undef, PEq undef, PEq undef, PEq undef, PEq undef, PEq undef, PEq undef, PEq undef, PEq undef, PEq undef, PEq undef, PEq undef, PEq undef, PEq undef] (by kernel_rfl) Z (by kernel_rfl) ⟨PV.mono _ _ _, Zq, PA.mono _ _ _, PA.mono _ _ _, Zq, PV.mono _ _ _, Zq, PA.mono _ _ _, PA.mono _ _ _, Zq, Zq, Zq, Zq, PV.mono _ _ _, Zq, PA.mono _ _ _, PA.mono _ _ _, Zq, Zq, Zq, Zq, Zq, Zq, Zq, Zq, Zq, Zq, Zq, Zq, Zq, Zq, Zq, Zq, Zq, Zq, Zq, Zq, Zq, Zt⟩ ⟨?_, ?_, ?_, ?_, ?_, ?_, ?_, ?_, ?_, ?_, ?_, ?_, ?_, ?_, ?_, ?_, ?_, ?_, ?_, ?_, ?_, ?_, ?_, ?_, ?_, ?_, ?_, ?_, ?_, ?_, ?_, ?_, ?_, ?_, ?_, ?_, ?_, ?_, Zt⟩ ?_)
     ·
      intro w86 D hS79 hd79
      have hl86 := Le.no M1 hS79
      exact dg_sub (E' := [(0, v0p)]) ⟨Z, Zt⟩ (dg_plain Z (ow_move Z Z ⟨BX.refl _ _, (VRep.mono (hl1.trans hl86) h0)⟩))
     · exact fun w87 D hS80 hd80 => dg_sub (E' := [(5, (Zv k1))]) ⟨Z, Zt⟩ (dg_plain Z (ow_move Z Z Zb))
     ·
      intro w88 D hS81 hd81
      have d199 : PV (RSlice RSpan) M1 a_list (D 0) w88 := dpA hd81 0 Z
      generalize hq9 : (D 0) = v29 at d199
      exact dg_sub (E' := [(12, v29), (13, (Zv k1))]) ⟨congrArg some hq9, dpE hd81 1 Z Z, Zt⟩ (dg_plain Z (ow_indexSlice (R := RSpan) Z Z Z d199 Tryd.underlying121 (Tryd.sizeOf120 _) hx1 fun p30 hp30 => ⟨BX.refl _ _, ⟨_, Z, hp30⟩⟩))
     ·
      intro w89 D hS82 hd82
      have d201 : PA RSpan M1 x1 (D 2) w89 := dpA hd82 2 Z
      obtain ⟨p31, e18, ha17⟩ := d201
      exact dg_sub (E' := [(14, (.pointer (some p31)))]) ⟨congrArg some e18, Zt⟩ (dg_plain Z (ow_fieldAddr Z Z Tryd.underlying120 Z (Tryd.sizeOf3 _) ⟨BX.refl _ _, ⟨_, Z, (ha17.fld fld_Span_Lo)⟩⟩))
     ·
      intro w90 D hS83 hd83
      have d202 : PA RInt M1 x1.Lo (D 3) w90 := dpA hd83 3 Z
      obtain ⟨p32, e19, ha18⟩ := d202
      refine dg_sub (E' := [(15, (.pointer (some p32)))]) ⟨congrArg some e19, Zt⟩ (dg_plain Z (ow_load (R := RInt) Z Z ha18 (Tryd.sizeOf3 _) (Tryd.isAgg3 _) fun v30 hv30 => ?_))
      obtain rfl := vint_eq hv30
      exact Zb
     ·
      intro w91 D hS84 hd84
      have hl91 := Le.no M1 hS84
      exact dg_sub (E' := [(0, v0p)]) ⟨Z, Zt⟩ (dg_plain Z (ow_move Z Z ⟨BX.refl _ _, (VRep.mono (hl1.trans hl91) h0)⟩))
     · exact fun w92 D hS85 hd85 => dg_sub (E' := [(5, (Zv k1))]) ⟨Z, Zt⟩ (dg_plain Z (ow_move Z Z Zb))
     ·
      intro w93 D hS86 hd86
      have d203 : PV (RSlice RSpan) M1 a_list (D 5) w93 := dpA hd86 5 Z
      generalize hq10 : (D 5) = v31 at d203
      exact dg_sub (E' := [(17, v31), (18, (Zv k1))]) ⟨congrArg some hq10, dpE hd86 6 Z Z, Zt⟩ (dg_plain Z (ow_indexSlice (R := RSpan) Z Z Z d203 Tryd.underlying121 (Tryd.sizeOf120 _) hx1 fun p33 hp33 => ⟨BX.refl _ _, ⟨_, Z, hp33⟩⟩))
     ·
      intro w94 D hS87 hd87
      have d205 : PA RSpan M1 x1 (D 7) w94 := dpA hd87 7 Z
      obtain ⟨p34, e20, ha19⟩ := d205
      exact dg_sub (E' := [(19, (.pointer (some p34)))]) ⟨congrArg some e20, Zt⟩ (dg_plain Z (ow_fieldAddr Z Z Tryd.underlying120 Z (Tryd.sizeOf3 _) ⟨BX.refl _ _, ⟨_, Z, (ha19.fld fld_Span_Hi)⟩⟩))
     ·
      intro w95 D hS88 hd88
      have d206 : PA RInt M1 x1.Hi (D 8) w95 := dpA hd88 8 Z
      obtain ⟨p35, e21, ha20⟩ := d206
      refine dg_sub (E' := [(20, (.pointer (some p35)))]) ⟨congrArg some e21, Zt⟩ (dg_plain Z (ow_load (R := RInt) Z Z ha20 (Tryd.sizeOf3 _) (Tryd.isAgg3 _) fun v32 hv32 => ?_))
      obtain rfl := vint_eq hv32
      exact Zb
     ·
      intro w96 D hS89 hd89
      have hl96 := Le.no M1 hS89
      have hC96 := hC1.no hS89
      refine dg_sub (E' := [(16, (Zv x1.Lo)), (21, (Zv x1.Hi))]) ⟨dpE hd89 4 Z Z, dpE hd89 9 Z Z, Zt⟩ (dg_plain Z (ow_call Z Z Tryd.call118 (w_spec_l1In (hG.mono (hl1.trans hl96)) hC96.old hx2) fun v33 w97 hv33 => ?_))
      obtain ⟨hv33, hb8⟩ := hv33
      obtain rfl := vbool_eq hv33
      exact ⟨hb8, Z⟩
     · exact fun w98 D hS90 hd90 => dg_sub (E' := [(22, (.bool true))]) ⟨dpE hd90 10 Z Z, Zt⟩ (dg_plain Z (ow_not Z Z Zb))
     · exact fun w99 D hS91 hd91 => dg_sub (E' := [(23, (.bool false))]) ⟨dpE hd91 11 Z Z, Zt⟩ (dg_plain Z (ow_move Z Z Zb))
     ·
      intro w100 D hS92 hd92
      have hl100 := Le.no M1 hS92
      exact dg_sub (E' := [(24, (.bool false)), (0, v0p)]) ⟨dpE hd92 12 Z Z, Z, Zt⟩ (dg_on Z Z Z Z (ow_move Z Z ⟨BX.refl _ _, (VRep.mono (hl1.trans hl100) h0)⟩))
     · exact fun w101 D hS93 hd93 => dg_sub (E' := [(24, (.bool false)), (5, (Zv k1))]) ⟨dpE hd93 12 Z Z, Z, Zt⟩ (dg_on Z Z Z Z (ow_move Z Z Zb))
     ·
      intro w102 D hS94 hd94
      have d214 : PV (RSlice RSpan) M1 a_list (D 13) w102 := dpA hd94 13 Z
      generalize hq11 : (D 13) = v34 at d214
      exact dg_sub (E' := [(25, v34), (26, (Zv k1)), (24, (.bool false))]) ⟨congrArg some hq11, dpE hd94 14 Z Z, dpE hd94 12 Z Z, Zt⟩ (dg_on Z Z Z Z (ow_indexSlice (R := RSpan) Z Z Z d214 Tryd.underlying121 (Tryd.sizeOf120 _) hx1 fun p36 hp36 => ⟨BX.refl _ _, ⟨_, Z, hp36⟩⟩))
     ·
      intro w103 D hS95 hd95
      have d217 : PA RSpan M1 x1 (D 15) w103 := dpA hd95 15 Z
      obtain ⟨p37, e22, ha21⟩ := d217
      exact dg_sub (E' := [(27, (.pointer (some p37))), (24, (.bool false))]) ⟨congrArg some e22, dpE hd95 12 Z Z, Zt⟩ (dg_on Z Z Z Z (ow_fieldAddr Z Z Tryd.underlying120 Z (Tryd.sizeOf3 _) ⟨BX.refl _ _, ⟨_, Z, (ha21.fld fld_Span_Hi)⟩⟩))
     ·
      intro w104 D hS96 hd96
      have d219 : PA RInt M1 x1.Hi (D 16) w104 := dpA hd96 16 Z
      obtain ⟨p38, e23, ha22⟩ := d219
      refine dg_sub (E' := [(28, (.pointer (some p38))), (24, (.bool false))]) ⟨congrArg some e23, dpE hd96 12 Z Z, Zt⟩ (dg_on Z Z Z Z (ow_load (R := RInt) Z Z ha22 (Tryd.sizeOf3 _) (Tryd.isAgg3 _) fun v35 hv35 => ?_))
      obtain rfl := vint_eq hv35
      exact Zb
     · exact fun w105 D hS97 hd97 => dg_sub (E' := [(24, (.bool false)), (1, (Zv a_top))]) ⟨dpE hd97 12 Z Z, Z, Zt⟩ (dg_on Z Z Z Z (ow_move Z Z Zb))
     ·
      intro w106 D hS98 hd98
      have hl106 := Le.no M1 hS98
      have hC106 := hC1.no hS98
      refine dg_sub (E' := [(29, (Zv x1.Hi)), (30, (Zv a_top)), (24, (.bool false))]) ⟨dpE hd98 17 Z Z, dpE hd98 18 Z Z, dpE hd98 12 Z Z, Zt⟩ (dg_on Z Z Z Z (ow_call Z Z Tryd.call118 (w_spec_l1In (hG.mono (hl1.trans hl106)) hC106.old hx3) fun v36 w107 hv36 => ?_))
      obtain ⟨hv36, hb9⟩ := hv36
      obtain rfl := vbool_eq hv36
      exact ⟨hb9, Z⟩
     · exact fun w108 D hS99 hd99 => dg_sub (E' := [(31, (.bool false)), (24, (.bool false))]) ⟨dpE hd99 19 Z Z, dpE hd99 12 Z Z, Zt⟩ (dg_on Z Z Z Z (ow_not Z Z Zb))
     · exact fun w109 D hS100 hd100 => dg_sub (E' := [(24, (.bool false)), (32, (.bool true))]) ⟨dpE hd100 12 Z Z, dpE hd100 20 Z Z, Zt⟩ (dg_plain Z (ow_pickF Z Z Z Zb))
     · exact fun w110 D hS101 hd101 => dg_sub (E' := [(33, (.bool true))]) ⟨dpE hd101 21 Z Z, Zt⟩ (dg_plain Z (ow_move Z Z Zb))
     · exact fun w111 D hS102 hd102 => dg_sub (E' := [(34, (.bool true)), (5, (Zv k1))]) ⟨dpE hd102 22 Z Z, Z, Zt⟩ (dg_off Z Z Z Z Zb)
     · exact fun w112 D hS103 hd103 => dg_sub (E' := [(35, undef), (34, (.bool true))]) ⟨dpE hd103 23 Z Z, dpE hd103 22 Z Z, Zt⟩ (dg_off Z Z Z Z Zb)
     · exact fun w113 D hS104 hd104 => dg_sub (E' := [(36, undef), (34, (.bool true))]) ⟨dpE hd104 24 Z Z, dpE hd104 22 Z Z, Zt⟩ (dg_off Z Z Z Z Zb)
     · exact fun w114 D hS105 hd105 => dg_sub (E' := [(37, undef), (0, v0p)]) ⟨dpE hd105 25 Z Z, Z, Zt⟩ (dg_off' Z Z Z Z Zb)
     · exact fun w115 D hS106 hd106 => dg_sub (E' := [(37, undef), (5, (Zv k1))]) ⟨dpE hd106 25 Z Z, Z, Zt⟩ (dg_off' Z Z Z Z Zb)
     · exact fun w116 D hS107 hd107 => dg_sub (E' := [(38, undef), (39, undef), (37, undef)]) ⟨dpE hd107 26 Z Z, dpE hd107 27 Z Z, dpE hd107 25 Z Z, Zt⟩ (dg_off' Z Z Z Z Zb)
     · exact fun w117 D hS108 hd108 => dg_sub (E' := [(40, undef), (37, undef)]) ⟨dpE hd108 28 Z Z, dpE hd108 25 Z Z, Zt⟩ (dg_off' Z Z Z Z Zb)
     · exact fun w118 D hS109 hd109 => dg_sub (E' := [(41, undef), (37, undef)]) ⟨dpE hd109 29 Z Z, dpE hd109 25 Z Z, Zt⟩ (dg_off' Z Z Z Z Zb)
     · exact fun w119 D hS110 hd110 => dg_sub (E' := [(37, undef), (0, v0p)]) ⟨dpE hd110 25 Z Z, Z, Zt⟩ (dg_off' Z Z Z Z Zb)
     · exact fun w120 D hS111 hd111 => dg_sub (E' := [(37, undef), (5, (Zv k1))]) ⟨dpE hd111 25 Z Z, Z, Zt⟩ (dg_off' Z Z Z Z Zb)
     · exact fun w121 D hS112 hd112 => dg_sub (E' := [(44, undef), (37, undef)]) ⟨dpE hd112 32 Z Z, dpE hd112 25 Z Z, Zt⟩ (dg_off' Z Z Z Z Zb)
     · exact fun w122 D hS113 hd113 => dg_sub (E' := [(43, undef), (45, undef), (37, undef)]) ⟨dpE hd113 31 Z Z, dpE hd113 33 Z Z, dpE hd113 25 Z Z, Zt⟩ (dg_off' Z Z Z Z Zb)
     · exact fun w123 D hS114 hd114 => dg_sub (E' := [(46, undef), (37, undef)]) ⟨dpE hd114 34 Z Z, dpE hd114 25 Z Z, Zt⟩ (dg_off' Z Z Z Z Zb)
     · exact fun w124 D hS115 hd115 => dg_sub (E' := [(47, undef), (37, undef)]) ⟨dpE hd115 35 Z Z, dpE hd115 25 Z Z, Zt⟩ (dg_off' Z Z Z Z Zb)
     · exact fun w125 D hS116 hd116 => dg_sub (E' := [(48, undef), (37, undef)]) ⟨dpE hd116 36 Z Z, dpE hd116 25 Z Z, Zt⟩ (dg_off' Z Z Z Z Zb)
     ·
      intro w126 D hS117 hd117
      have hC126 := hC1.no hS117
      refine lw_sub (E' := [(34, (.bool true)), (37, undef), (42, undef), (49, undef), (0, v0p), (1, (Zv a_top)), (5, (Zv k1))]) ⟨dpE hd117 22 Z Z, dpE hd117 25 Z Z, dpE hd117 30 Z Z, dpE hd117 37 Z Z, Z, Z, Z, Zt⟩ (lw_off' Z Z Z Z Z Z (lw_off Z Z Z Z Z Z (lw_op Z Z Z (ow_pickT Z Z Z (lw_nil (ew_then (cw_true Z (cw_seq (cw_region (lw_op Z Z Z (ow_assign Z Z (lw_nil (ew_then (cw_ret (ew_blockR (ew_thenR (ew_thenR (ew_blockR (ew_brkR (ew_thenR ?_))))))))))))))))))))
      have e24 := hR1 _ (sj hb1).symm
      subst e24
      obtain rfl := sj h
      exact ew_ret (res1 Z (.tmp Z)) ⟨_, Z, ((vbool _)), hC126.bx⟩
   ·
    subst hc2
    refine cw_sub (E' := [(0, v0p), (1, (Zv a_top)), (5, (Zv k1))]) ⟨Z, Z, Z, Zt⟩ (cw_drawQ 38 [PV (RSlice RSpan) M1 a_list, PEq (Zv k1), PA RSpan M1 x1, PA RInt M1 x1.Lo, PEq (Zv x1.Lo), PV (RSlice RSpan) M1 a_list, PEq (Zv k1), PA RSpan M1 x1, PA RInt M1 x1.Hi, PEq (Zv x1.Hi), PEq (.bool false), PEq (.bool true), PEq (.bool true), PEq undef, PEq undef, PEq undef, PEq undef, PEq undef, PEq undef, PEq undef, PEq undef, PEq (.bool true), PEq (.bool true), PEq undef, PEq undef, PEq undef, PEq undef, PEq undef, PEq undef, PEq undef, PEq undef, PEq undef, PEq undef, PEq undef, PEq undef, PEq undef, PEq undef, PEq undef] (by kernel_rfl) Z (by kernel_rfl) ⟨PV.mono _ _ _, Zq, PA.mono _ _ _, PA.mono _ _ _, Zq, PV.mono _ _ _, Zq, PA.mono _ _ _, PA.mono _ _ _, Zq, Zq, Zq, Zq, Zq, Zq, Zq, Zq, Zq, Zq, Zq, Zq, Zq, Zq, Zq, Zq, Zq, Zq, Zq, Zq, Zq, Zq, Zq, Zq, Zq, Zq, Zq, Zq, Zq, Zt⟩ ⟨?_, ?_, ?_, ?_, ?_, ?_, ?_, ?_, ?_, ?_, ?_, ?_, ?_, ?_, ?_, ?_, ?_, ?_, ?_, ?_, ?_, ?_, ?_, ?_, ?_, ?_, ?_, ?_, ?_, ?_, ?_, ?_, ?_, ?_, ?_, ?_, ?_, ?_, Zt⟩ ?_)
    ·
     intro w127 D hS118 hd118
     have hl127 := Le.no M1 hS118
     exact dg_sub (E' := [(0, v0p)]) ⟨Z, Zt⟩ (dg_plain Z (ow_move Z Z ⟨BX.refl _ _, (VRep.mono (hl1.trans hl127) h0)⟩))
    · exact fun w128 D hS119 hd119 => dg_sub (E' := [(5, (Zv k1))]) ⟨Z, Zt⟩ (dg_plain Z (ow_move Z Z Zb))
    ·
     intro w129 D hS120 hd120
     have d298 : PV (RSlice RSpan) M1 a_list (D 0) w129 := dpA hd120 0 Z
     generalize hq12 : (D 0) = v37 at d298
     exact dg_sub (E' := [(12, v37), (13, (Zv k1))]) ⟨congrArg some hq12, dpE hd120 1 Z Z, Zt⟩ (dg_plain Z (ow_indexSlice (R := RSpan) Z Z Z d298 Tryd.underlying121 (Tryd.sizeOf120 _) hx1 fun p39 hp39 => ⟨BX.refl _ _, ⟨_, Z, hp39⟩⟩))
    ·
     intro w130 D hS121 hd121
     have d300 : PA RSpan M1 x1 (D 2) w130 := dpA hd121 2 Z
     obtain ⟨p40, e25, ha23⟩ := d300
     exact dg_sub (E' := [(14, (.pointer (some p40)))]) ⟨congrArg some e25, Zt⟩ (dg_plain Z (ow_fieldAddr Z Z Tryd.underlying120 Z (Tryd.sizeOf3 _) ⟨BX.refl _ _, ⟨_, Z, (ha23.fld fld_Span_Lo)⟩⟩))
    ·
     intro w131 D hS122 hd122
     have d301 : PA RInt M1 x1.Lo (D 3) w131 := dpA hd122 3 Z
     obtain ⟨p41, e26, ha24⟩ := d301
     refine dg_sub (E' := [(15, (.pointer (some p41)))]) ⟨congrArg some e26, Zt⟩ (dg_plain Z (ow_load (R := RInt) Z Z ha24 (Tryd.sizeOf3 _) (Tryd.isAgg3 _) fun v38 hv38 => ?_))
     obtain rfl := vint_eq hv38
     exact Zb
    ·
     intro w132 D hS123 hd123
     have hl132 := Le.no M1 hS123
     exact dg_sub (E' := [(0, v0p)]) ⟨Z, Zt⟩ (dg_plain Z (ow_move Z Z ⟨BX.refl _ _, (VRep.mono (hl1.trans hl132) h0)⟩))
    · exact fun w133 D hS124 hd124 => dg_sub (E' := [(5, (Zv k1))]) ⟨Z, Zt⟩ (dg_plain Z (ow_move Z Z Zb))
    ·
     intro w134 D hS125 hd125
     have d302 : PV (RSlice RSpan) M1 a_list (D 5) w134 := dpA hd125 5 Z
     generalize hq13 : (D 5) = v39 at d302
     exact dg_sub (E' := [(17, v39), (18, (Zv k1))]) ⟨congrArg some hq13, dpE hd125 6 Z Z, Zt⟩ (dg_plain Z (ow_indexSlice (R := RSpan) Z Z Z d302 Tryd.underlying121 (Tryd.sizeOf120 _) hx1 fun p42 hp42 => ⟨BX.refl _ _, ⟨_, Z, hp42⟩⟩))
    ·
     intro w135 D hS126 hd126
     have d304 : PA RSpan M1 x1 (D 7) w135 := dpA hd126 7 Z
     obtain ⟨p43, e27, ha25⟩ := d304
     exact dg_sub (E' := [(19, (.pointer (some p43)))]) ⟨congrArg some e27, Zt⟩ (dg_plain Z (ow_fieldAddr Z Z Tryd.underlying120 Z (Tryd.sizeOf3 _) ⟨BX.refl _ _, ⟨_, Z, (ha25.fld fld_Span_Hi)⟩⟩))
    ·
     intro w136 D hS127 hd127
     have d305 : PA RInt M1 x1.Hi (D 8) w136 := dpA hd127 8 Z
     obtain ⟨p44, e28, ha26⟩ := d305
     refine dg_sub (E' := [(20, (.pointer (some p44)))]) ⟨congrArg some e28, Zt⟩ (dg_plain Z (ow_load (R := RInt) Z Z ha26 (Tryd.sizeOf3 _) (Tryd.isAgg3 _) fun v40 hv40 => ?_))
     obtain rfl := vint_eq hv40
     exact Zb
    ·
     intro w137 D hS128 hd128
     have hl137 := Le.no M1 hS128
     have hC137 := hC1.no hS128
     refine dg_sub (E' := [(16, (Zv x1.Lo)), (21, (Zv x1.Hi))]) ⟨dpE hd128 4 Z Z, dpE hd128 9 Z Z, Zt⟩ (dg_plain Z (ow_call Z Z Tryd.call118 (w_spec_l1In (hG.mono (hl1.trans hl137)) hC137.old hx2) fun v41 w138 hv41 => ?_))
     obtain ⟨hv41, hb10⟩ := hv41
     obtain rfl := vbool_eq hv41
     exact ⟨hb10, Z⟩
    · exact fun w139 D hS129 hd129 => dg_sub (E' := [(22, (.bool false))]) ⟨dpE hd129 10 Z Z, Zt⟩ (dg_plain Z (ow_not Z Z Zb))
    · exact fun w140 D hS130 hd130 => dg_sub (E' := [(23, (.bool true))]) ⟨dpE hd130 11 Z Z, Zt⟩ (dg_plain Z (ow_move Z Z Zb))
    · exact fun w141 D hS131 hd131 => dg_sub (E' := [(24, (.bool true)), (0, v0p)]) ⟨dpE hd131 12 Z Z, Z, Zt⟩ (dg_off Z Z Z Z Zb)
    · exact fun w142 D hS132 hd132 => dg_sub (E' := [(24, (.bool true)), (5, (Zv k1))]) ⟨dpE hd132 12 Z Z, Z, Zt⟩ (dg_off Z Z Z Z Zb)
    · exact fun w143 D hS133 hd133 => dg_sub (E' := [(25, undef), (26, undef), (24, (.bool true))]) ⟨dpE hd133 13 Z Z, dpE hd133 14 Z Z, dpE hd133 12 Z Z, Zt⟩ (dg_off Z Z Z Z Zb)
    · exact fun w144 D hS134 hd134 => dg_sub (E' := [(27, undef), (24, (.bool true))]) ⟨dpE hd134 15 Z Z, dpE hd134 12 Z Z, Zt⟩ (dg_off Z Z Z Z Zb)
    · exact fun w145 D hS135 hd135 => dg_sub (E' := [(28, undef), (24, (.bool true))]) ⟨dpE hd135 16 Z Z, dpE hd135 12 Z Z, Zt⟩ (dg_off Z Z Z Z Zb)
    · exact fun w146 D hS136 hd136 => dg_sub (E' := [(24, (.bool true)), (1, (Zv a_top))]) ⟨dpE hd136 12 Z Z, Z, Zt⟩ (dg_off Z Z Z Z Zb)
    · exact fun w147 D hS137 hd137 => dg_sub (E' := [(29, undef), (30, undef), (24, (.bool true))]) ⟨dpE hd137 17 Z Z, dpE hd137 18 Z Z, dpE hd137 12 Z Z, Zt⟩ (dg_off Z Z Z Z Zb)
    · exact fun w148 D hS138 hd138 => dg_sub (E' := [(31, undef), (24, (.bool true))]) ⟨dpE hd138 19 Z Z, dpE hd138 12 Z Z, Zt⟩ (dg_off Z Z Z Z Zb)
    · exact fun w149 D hS139 hd139 => dg_sub (E' := [(24, (.bool true)), (32, undef)]) ⟨dpE hd139 12 Z Z, dpE hd139 20 Z Z, Zt⟩ (dg_plain Z (ow_pickT Z Z Z Zb))
    · exact fun w150 D hS140 hd140 => dg_sub (E' := [(33, (.bool true))]) ⟨dpE hd140 21 Z Z, Zt⟩ (dg_plain Z (ow_move Z Z Zb))
    · exact fun w151 D hS141 hd141 => dg_sub (E' := [(34, (.bool true)), (5, (Zv k1))]) ⟨dpE hd141 22 Z Z, Z, Zt⟩ (dg_off Z Z Z Z Zb)
    · exact fun w152 D hS142 hd142 => dg_sub (E' := [(35, undef), (34, (.bool true))]) ⟨dpE hd142 23 Z Z, dpE hd142 22 Z Z, Zt⟩ (dg_off Z Z Z Z Zb)
    · exact fun w153 D hS143 hd143 => dg_sub (E' := [(36, undef), (34, (.bool true))]) ⟨dpE hd143 24 Z Z, dpE hd143 22 Z Z, Zt⟩ (dg_off Z Z Z Z Zb)
    · exact fun w154 D hS144 hd144 => dg_sub (E' := [(37, undef), (0, v0p)]) ⟨dpE hd144 25 Z Z, Z, Zt⟩ (dg_off' Z Z Z Z Zb)
    · exact fun w155 D hS145 hd145 => dg_sub (E' := [(37, undef), (5, (Zv k1))]) ⟨dpE hd145 25 Z Z, Z, Zt⟩ (dg_off' Z Z Z Z Zb)
    · exact fun w156 D hS146 hd146 => dg_sub (E' := [(38, undef), (39, undef), (37, undef)]) ⟨dpE hd146 26 Z Z, dpE hd146 27 Z Z, dpE hd146 25 Z Z, Zt⟩ (dg_off' Z Z Z Z Zb)
    · exact fun w157 D hS147 hd147 => dg_sub (E' := [(40, undef), (37, undef)]) ⟨dpE hd147 28 Z Z, dpE hd147 25 Z Z, Zt⟩ (dg_off' Z Z Z Z Zb)
    · exact fun w158 D hS148 hd148 => dg_sub (E' := [(41, undef), (37, undef)]) ⟨dpE hd148 29 Z Z, dpE hd148 25 Z Z, Zt⟩ (dg_off' Z Z Z Z Zb)
    · exact fun w159 D hS149 hd149 => dg_sub (E' := [(37, undef), (0, v0p)]) ⟨dpE hd149 25 Z Z, Z, Zt⟩ (dg_off' Z Z Z Z Zb)
    · exact fun w160 D hS150 hd150 => dg_sub (E' := [(37, undef), (5, (Zv k1))]) ⟨dpE hd150 25 Z Z, Z, Zt⟩ (dg_off' Z Z Z Z Zb)
    · exact fun w161 D hS151 hd151 => dg_sub (E' := [(44, undef), (37, undef)]) ⟨dpE hd151 32 Z Z, dpE hd151 25 Z Z, Zt⟩ (dg_off' Z Z Z Z Zb)
    · exact fun w162 D hS152 hd152 => dg_sub (E' := [(43, undef), (45, undef), (37, undef)]) ⟨dpE hd152 31 Z Z, dpE hd152 33 Z Z, dpE hd152 25 Z Z, Zt⟩ (dg_off' Z Z Z Z Zb)
    · exact fun w163 D hS153 hd153 => dg_sub (E' := [(46, undef), (37, undef)]) ⟨dpE hd153 34 Z Z, dpE hd153 25 Z Z, Zt⟩ (dg_off' Z Z Z Z Zb)
    · exact fun w164 D hS154 hd154 => dg_sub (E' := [(47, undef), (37, undef)]) ⟨dpE hd154 35 Z Z, dpE hd154 25 Z Z, Zt⟩ (dg_off' Z Z Z Z Zb)
    · exact fun w165 D hS155 hd155 => dg_sub (E' := [(48, undef), (37, undef)]) ⟨dpE hd155 36 Z Z, dpE hd155 25 Z Z, Zt⟩ (dg_off' Z Z Z Z Zb)
    ·
     intro w166 D hS156 hd156
     have hC166 := hC1.no hS156
     refine lw_sub (E' := [(34, (.bool true)), (37, undef), (42, undef), (49, undef), (0, v0p), (1, (Zv a_top)), (5, (Zv k1))]) ⟨dpE hd156 22 Z Z, dpE hd156 25 Z Z, dpE hd156 30 Z Z, dpE hd156 37 Z Z, Z, Z, Z, Zt⟩ (lw_off' Z Z Z Z Z Z (lw_off Z Z Z Z Z Z (lw_op Z Z Z (ow_pickT Z Z Z (lw_nil (ew_then (cw_true Z (cw_seq (cw_region (lw_op Z Z Z (ow_assign Z Z (lw_nil (ew_then (cw_ret (ew_blockR (ew_thenR (ew_thenR (ew_blockR (ew_brkR (ew_thenR ?_))))))))))))))))))))
     have e29 := hR1 _ (sj hb1).symm
     subst e29
     obtain rfl := sj h
     exact ew_ret (res1 Z (.tmp Z)) ⟨_, Z, ((vbool _)), hC166.bx⟩
  ·
   obtain rfl := hbb1.trans hc1
   exact cw_false Z (cw_exit (ew_thenX (ew_thenX (ew_blockX (ew_brk k1 hb1 fun a ha => ⟨M1, (ha.sub ⟨Z, Z, Z, Zt⟩), hl1, hC1⟩)))))
 ·
  rintro k2 a w167 hlr2 ⟨M2, hF2, hl167, hC167⟩
  subst hlr2
  refine ew_at (E := [(0, v0p), (1, (Zv a_top)), (5, (Zv k2))]) hF2 (ew_then (cw_seq (cw_region (lw_op Z Z Z (ow_move Z Z ?_)))))
  replace h := bind_some h
  obtain ⟨x5, hx5, h⟩ := h
  refine lw_op Z Z Z (ow_call Z Z Tryd.call118 (w_spec_l1In (hG.mono hl167) hC167.old hx5) fun v43 w168 hv43 => ?_)
  obtain ⟨hv43, hb11⟩ := hv43
  have hl168 := Le.no M2 hb11
  have hC168 := hC167.no hb11
  obtain rfl := vbool_eq hv43
  refine lw_op Z Z Z (ow_move Z Z ?_)
  replace h := cond_some h
  rcases h with ⟨hc6, h⟩ | ⟨hc6, h⟩
  ·
   subst hc6
   refine lw_on Z Z Z Z Z Z (ow_move Z Z (lw_on Z Z Z Z Z Z (ow_len Z Z (VRep.mono (hl167.trans hl168) h0) Tryd.underlying121 Z (lw_on Z Z Z Z Z Z (ow_leq Z Z Z fun bb6 hbb6 => lw_op Z Z Z (ow_pickT Z Z Z (lw_op Z Z Z (ow_assign Z Z (lw_nil (ew_then (cw_ret ?_)))))))))))
   obtain rfl := sj h
   exact ew_ret (res1 Z (.tmp Z)) ⟨_, Z, ((vbool_of hbb6)), hC168.bx⟩
  ·
   subst hc6
   refine lw_off Z Z Z Z Z Z (lw_off Z Z Z Z Z Z (lw_off Z Z Z Z Z Z (lw_op Z Z Z (ow_pickF Z Z Z (lw_op Z Z Z (ow_assign Z Z (lw_nil (ew_then (cw_ret ?_)))))))))
   obtain rfl := sj h
   exact ew_ret (res1 Z (.tmp Z)) ⟨_, Z, ((vbool _)), hC168.bx⟩

theorem w_spec_FieldTop {w : World} {M : Nat → Prop} (_hG : ARep (RArr 4 RShape) w M shapes ⟨0, 0, none⟩) (hO : ∀ b, M b → b < w.heap.size) {a_n : Int} {r : Int} (h : F.spec_FieldTop a_n = some r) :
  Calls Tryd.prog 88 [(.int .i64 a_n)].toArray w fun e w' => ∃ v, e = .returned v ∧ VRep RInt w' M r v ∧ BX No w w' := by
 have hC : Cx No w M w M := Cx.start hO (fun _ e => e.elim)
 clear _hG
 refine walk (N := 11) Tryd.func88 Z Tryd.ntmps88 Z (cw_seq (cw_region (lw_op Z Z Z (ow_assign Z Z (lw_nil (ew_then (cw_seq (cw_seq (cw_region (lw_op Z Z Z (ow_move Z Z (lw_nil (ew_then (cw_block (cw_seq (cw_seq (cw_region (lw_op Z Z Z (ow_eqlI Z Z Z fun bb1 hbb1 => lw_op Z Z Z (ow_assign Z Z (lw_nil (ew_then ?_))))))))))))))))))))))
 replace h := cond_some h
 rcases h with ⟨hc1, h⟩ | ⟨hc1, h⟩
 ·
  obtain rfl := hbb1.trans hc1
  refine cw_true Z (cw_skip (ew_then (cw_true Z (cw_seq (cw_region (lw_op Z Z Z (ow_assign Z Z (lw_nil (ew_then (cw_ret (ew_blockR (ew_thenR ?_))))))))))))
  obtain rfl := sj h
  exact ew_ret (res1 Z (.tmp Z)) ⟨_, Z, ((vint _)), hC.bx⟩
 ·
  obtain rfl := hbb1.trans hc1
  refine cw_false Z (cw_region (lw_op Z Z Z (ow_eqlI Z Z Z fun bb2 hbb2 => lw_op Z Z Z (ow_assign Z Z (lw_nil (ew_then ?_))))))
  replace h := cond_some h
  rcases h with ⟨hc2, h⟩ | ⟨hc2, h⟩
  ·
   obtain rfl := hbb2.trans hc2
   refine cw_true Z (cw_seq (cw_region (lw_op Z Z Z (ow_assign Z Z (lw_nil (ew_then (cw_ret (ew_blockR (ew_thenR ?_)))))))))
   obtain rfl := sj h
   exact ew_ret (res1 Z (.tmp Z)) ⟨_, Z, ((vint _)), hC.bx⟩
  ·
   obtain rfl := hbb2.trans hc2
   refine cw_false Z (cw_seq (cw_region (lw_op Z Z Z (ow_eqlI Z Z Z fun bb3 hbb3 => lw_op Z Z Z (ow_assign Z Z (lw_nil (ew_then ?_)))))))
   replace h := cond_some h
   rcases h with ⟨hc3, h⟩ | ⟨hc3, h⟩
   ·
    obtain rfl := hbb3.trans hc3
    refine cw_true Z (cw_seq (cw_region (lw_op Z Z Z (ow_assign Z Z (lw_nil (ew_then (cw_ret (ew_blockR (ew_thenR ?_)))))))))
    obtain rfl := sj h
    exact ew_ret (res1 Z (.tmp Z)) ⟨_, Z, ((vint _)), hC.bx⟩
   ·
    obtain rfl := hbb3.trans hc3
    refine cw_false Z (cw_seq (cw_region (lw_op Z Z Z (ow_eqlI Z Z Z fun bb4 hbb4 => lw_op Z Z Z (ow_assign Z Z (lw_nil (ew_then ?_)))))))
    replace h := cond_some h
    rcases h with ⟨hc4, h⟩ | ⟨hc4, h⟩
    ·
     obtain rfl := hbb4.trans hc4
     refine cw_true Z (cw_seq (cw_region (lw_op Z Z Z (ow_assign Z Z (lw_nil (ew_then (cw_ret (ew_blockR (ew_thenR ?_)))))))))
     obtain rfl := sj h
     exact ew_ret (res1 Z (.tmp Z)) ⟨_, Z, ((vint _)), hC.bx⟩
    ·
     obtain rfl := hbb4.trans hc4
     refine cw_false Z (cw_skip (ew_blockN (ew_then (cw_seq (cw_region (lw_op Z Z Z (ow_assign Z Z (lw_nil (ew_then (cw_ret ?_))))))))))
     obtain rfl := sj h
     exact ew_ret (res1 Z (.tmp Z)) ⟨_, Z, ((vint _)), hC.bx⟩

theorem w_spec_BoxValid {w : World} {M : Nat → Prop} (hG : ARep (RArr 4 RShape) w M shapes ⟨0, 0, none⟩) (hO : ∀ b, M b → b < w.heap.size) {v0p : Value} {a_b : Box} (h0 : VRep RBox w M a_b v0p) {r : Bool} (h : F.spec_BoxValid a_b = some r) :
  Calls Tryd.prog 71 [v0p].toArray w fun e w' => ∃ v, e = .returned v ∧ VRep RBool w' M r v ∧ BX No w w' := by
 have hC : Cx No w M w M := Cx.start hO (fun _ e => e.elim)
 refine walk (N := 28) Tryd.func71 Z Tryd.ntmps71 Z (cw_seq (cw_region (lw_op Z Z Z (ow_box (R := RBox) Z Z h0 hC fun p1 w1 hp1 hb1 hl1 hC1 => lw_op Z Z Z (ow_assign Z Z (lw_nil (ew_then (cw_seq (cw_seq (cw_region (lw_op Z Z Z (ow_assign Z Z (lw_nil (ew_then ?_))))))))))))))
 replace h := bind_some h
 obtain ⟨lr1, hlr1, h⟩ := h
 refine cw_for hlr1 (fun s a w' => ∃ (M' : Nat → Prop), Fits 28 [(1, (.pointer (some p1))), (3, (Zv s))] a ∧ Le w1 M w' M' ∧ Cx No w M w' M') ?_ ?_ ?_
 · exact fun a ha => ⟨M, ha.sub ⟨Z, Z, Zt⟩, Le.refl _ _, hC1⟩
 ·
  rintro k1 a w2 sr1 ⟨M1, hF1, hl2, hC2⟩ hb2 hR1
  refine cw_at (E := [(1, (.pointer (some p1))), (3, (Zv k1))]) hF1 (cw_seq (cw_seq (cw_region (lw_op Z Z Z (ow_move Z Z (lw_op Z Z Z (ow_fieldAddr Z Z Tryd.underlying48 Z (Tryd.sizeOf46 _) (lw_op Z Z Z (ow_load (R := (RSlice (RSlice RSpan))) Z Z (ARep.mono hl2 (hp1.fld fld_Box_Sides)) (Tryd.sizeOf46 _) (Tryd.isAgg46 _) fun v2 hv2 => lw_op Z Z Z (ow_len Z Z hv2 Tryd.underlying46 Z (lw_op Z Z Z (ow_lss Z Z Z fun bb1 hbb1 => lw_nil (ew_then ?_)))))))))))))
  replace hb2 := cond_some hb2
  rcases hb2 with ⟨hc1, hb2⟩ | ⟨hc1, hb2⟩
  ·
   obtain rfl := hbb1.trans hc1
   refine cw_true Z (cw_skip (ew_then (cw_seq (cw_block (cw_seq ?_)))))
   replace hb2 := cond_some hb2
   rcases hb2 with ⟨hc2, hb2⟩ | ⟨hc2, hb2⟩
   ·
    refine cw_sub (E' := [(1, (.pointer (some p1))), (3, (Zv k1))]) ⟨Z, Z, Zt⟩ (cw_drawQ 10 [PEq (Zv k1), PEq (.bool true), PEq (.bool true), PEq undef, PEq undef, PEq undef, PEq undef, PEq undef, PEq undef, PEq undef] (by kernel_rfl) Z (by kernel_rfl) ⟨Zq, Zq, Zq, Zq, Zq, Zq, Zq, Zq, Zq, Zq, Zt⟩ ⟨?_, ?_, ?_, ?_, ?_, ?_, ?_, ?_, ?_, ?_, Zt⟩ ?_)
    · exact fun w3 D hS1 hd1 => dg_sub (E' := [(3, (Zv k1))]) ⟨Z, Zt⟩ (dg_plain Z (ow_move Z Z Zb))
    ·
     intro w4 D hS2 hd2
     refine dg_sub (E' := [(11, (Zv k1))]) ⟨dpE hd2 0 Z Z, Zt⟩ (dg_plain Z (ow_geq Z Z Z fun bb3 hbb3 => ?_))
     obtain rfl := hbb3.trans hc2
     exact Zb
    · exact fun w5 D hS3 hd3 => dg_sub (E' := [(12, (.bool true))]) ⟨dpE hd3 1 Z Z, Zt⟩ (dg_plain Z (ow_move Z Z Zb))
    · exact fun w6 D hS4 hd4 => dg_sub (E' := [(13, (.bool true)), (1, (.pointer (some p1)))]) ⟨dpE hd4 2 Z Z, Z, Zt⟩ (dg_off Z Z Z Z Zb)
    · exact fun w7 D hS5 hd5 => dg_sub (E' := [(14, undef), (13, (.bool true))]) ⟨dpE hd5 3 Z Z, dpE hd5 2 Z Z, Zt⟩ (dg_off Z Z Z Z Zb)
    · exact fun w8 D hS6 hd6 => dg_sub (E' := [(13, (.bool true)), (3, (Zv k1))]) ⟨dpE hd6 2 Z Z, Z, Zt⟩ (dg_off Z Z Z Z Zb)
    · exact fun w9 D hS7 hd7 => dg_sub (E' := [(15, undef), (16, undef), (13, (.bool true))]) ⟨dpE hd7 4 Z Z, dpE hd7 5 Z Z, dpE hd7 2 Z Z, Zt⟩ (dg_off Z Z Z Z Zb)
    · exact fun w10 D hS8 hd8 => dg_sub (E' := [(17, undef), (13, (.bool true))]) ⟨dpE hd8 6 Z Z, dpE hd8 2 Z Z, Zt⟩ (dg_off Z Z Z Z Zb)
    · exact fun w11 D hS9 hd9 => dg_sub (E' := [(13, (.bool true)), (3, (Zv k1))]) ⟨dpE hd9 2 Z Z, Z, Zt⟩ (dg_off Z Z Z Z Zb)
    · exact fun w12 D hS10 hd10 => dg_sub (E' := [(19, undef), (13, (.bool true))]) ⟨dpE hd10 8 Z Z, dpE hd10 2 Z Z, Zt⟩ (dg_off Z Z Z Z Zb)
    ·
     intro w13 D hS11 hd11
     have hC13 := hC2.no hS11
     refine lw_sub (E' := [(13, (.bool true)), (18, undef), (20, undef), (1, (.pointer (some p1))), (3, (Zv k1))]) ⟨dpE hd11 2 Z Z, dpE hd11 7 Z Z, dpE hd11 9 Z Z, Z, Z, Zt⟩ (lw_off Z Z Z Z Z Z (lw_off Z Z Z Z Z Z (lw_op Z Z Z (ow_pickT Z Z Z (lw_nil (ew_then (cw_true Z (cw_seq (cw_region (lw_op Z Z Z (ow_assign Z Z (lw_nil (ew_then (cw_ret (ew_blockR (ew_thenR (ew_thenR (ew_blockR (ew_brkR (ew_thenR ?_))))))))))))))))))))
     have e1 := hR1 _ (sj hb2).symm
     subst e1
     obtain rfl := sj h
     exact ew_ret (res1 Z (.tmp Z)) ⟨_, Z, ((vbool _)), hC13.bx⟩
   ·
    replace hb2 := bind_some hb2
    obtain ⟨x1, hx1, hb2⟩ := hb2
    replace hb2 := bind_some hb2
    obtain ⟨x2, hx2, hb2⟩ := hb2
    have lz2 := (hl1.trans hl2)
    refine cw_sub (E' := [(1, (.pointer (some p1))), (3, (Zv k1))]) ⟨Z, Z, Zt⟩ (cw_drawQ 10 [PEq (Zv k1), PEq (.bool false), PEq (.bool false), PA (RSlice (RSlice RSpan)) M1 a_b.Sides, PV (RSlice (RSlice RSpan)) M1 a_b.Sides, PEq (Zv k1), PA (RSlice RSpan) M1 x1, PV (RSlice RSpan) M1 x1, PEq (Zv k1), PEq (Zv x2)] (by kernel_rfl) Z (by kernel_rfl) ⟨Zq, Zq, Zq, PA.mono _ _ _, PV.mono _ _ _, Zq, PA.mono _ _ _, PV.mono _ _ _, Zq, Zq, Zt⟩ ⟨?_, ?_, ?_, ?_, ?_, ?_, ?_, ?_, ?_, ?_, Zt⟩ ?_)
    · exact fun w15 D hS12 hd12 => dg_sub (E' := [(3, (Zv k1))]) ⟨Z, Zt⟩ (dg_plain Z (ow_move Z Z Zb))
    ·
     intro w16 D hS13 hd13
     refine dg_sub (E' := [(11, (Zv k1))]) ⟨dpE hd13 0 Z Z, Zt⟩ (dg_plain Z (ow_geq Z Z Z fun bb4 hbb4 => ?_))
     obtain rfl := hbb4.trans hc2
     exact Zb
    · exact fun w17 D hS14 hd14 => dg_sub (E' := [(12, (.bool false))]) ⟨dpE hd14 1 Z Z, Zt⟩ (dg_plain Z (ow_move Z Z Zb))
    ·
     intro w18 D hS15 hd15
     have hl18 := Le.no M1 hS15
     exact dg_sub (E' := [(13, (.bool false)), (1, (.pointer (some p1)))]) ⟨dpE hd15 2 Z Z, Z, Zt⟩ (dg_on Z Z Z Z (ow_fieldAddr Z Z Tryd.underlying48 Z (Tryd.sizeOf46 _) ⟨BX.refl _ _, ⟨_, Z, (ARep.mono (hl2.trans hl18) (hp1.fld fld_Box_Sides))⟩⟩))
    ·
     intro w19 D hS16 hd16
     have d29 : PA (RSlice (RSlice RSpan)) M1 a_b.Sides (D 3) w19 := dpA hd16 3 Z
     obtain ⟨p3, e2, ha1⟩ := d29
     exact dg_sub (E' := [(14, (.pointer (some p3))), (13, (.bool false))]) ⟨congrArg some e2, dpE hd16 2 Z Z, Zt⟩ (dg_on Z Z Z Z (ow_load (R := (RSlice (RSlice RSpan))) Z Z ha1 (Tryd.sizeOf46 _) (Tryd.isAgg46 _) fun v6 hv6 => ⟨BX.refl _ _, hv6⟩))
    · exact fun w20 D hS17 hd17 => dg_sub (E' := [(13, (.bool false)), (3, (Zv k1))]) ⟨dpE hd17 2 Z Z, Z, Zt⟩ (dg_on Z Z Z Z (ow_move Z Z Zb))
    ·
     intro w21 D hS18 hd18
     have d32 : PV (RSlice (RSlice RSpan)) M1 a_b.Sides (D 4) w21 := dpA hd18 4 Z
     generalize hq1 : (D 4) = v7 at d32
     exact dg_sub (E' := [(15, v7), (16, (Zv k1)), (13, (.bool false))]) ⟨congrArg some hq1, dpE hd18 5 Z Z, dpE hd18 2 Z Z, Zt⟩ (dg_on Z Z Z Z (ow_indexSlice (R := (RSlice RSpan)) Z Z Z d32 Tryd.underlying46 (Tryd.sizeOf121 _) hx1 fun p4 hp4 => ⟨BX.refl _ _, ⟨_, Z, hp4⟩⟩))
    ·
     intro w22 D hS19 hd19
     have d35 : PA (RSlice RSpan) M1 x1 (D 6) w22 := dpA hd19 6 Z
     obtain ⟨p5, e3, ha2⟩ := d35
     exact dg_sub (E' := [(17, (.pointer (some p5))), (13, (.bool false))]) ⟨congrArg some e3, dpE hd19 2 Z Z, Zt⟩ (dg_on Z Z Z Z (ow_load (R := (RSlice RSpan)) Z Z ha2 (Tryd.sizeOf121 _) (Tryd.isAgg121 _) fun v8 hv8 => ⟨BX.refl _ _, hv8⟩))
    · exact fun w23 D hS20 hd20 => dg_sub (E' := [(13, (.bool false)), (3, (Zv k1))]) ⟨dpE hd20 2 Z Z, Z, Zt⟩ (dg_on Z Z Z Z (ow_move Z Z Zb))
    ·
     intro w24 D hS21 hd21
     have hl24 := Le.no M1 hS21
     have hC24 := hC2.no hS21
     refine dg_sub (E' := [(19, (Zv k1)), (13, (.bool false))]) ⟨dpE hd21 8 Z Z, dpE hd21 2 Z Z, Zt⟩ (dg_on Z Z Z Z (ow_call Z Z Tryd.call88 (w_spec_FieldTop (hG.mono (lz2.trans hl24)) hC24.old hx2) fun v9 w25 hv9 => ?_))
     obtain ⟨hv9, hb4⟩ := hv9
     obtain rfl := vint_eq hv9
     exact ⟨hb4, Z⟩
    ·
     intro w26 D hS22 hd22
     have d48 : PV (RSlice RSpan) M1 x1 (D 7) w26 := dpA hd22 7 Z
     have hl26 := Le.no M1 hS22
     have hC26 := hC2.no hS22
     generalize hq2 : (D 7) = v10 at d48
     refine lw_sub (E' := [(13, (.bool false)), (18, v10), (20, (Zv x2)), (1, (.pointer (some p1))), (3, (Zv k1))]) ⟨dpE hd22 2 Z Z, congrArg some hq2, dpE hd22 9 Z Z, Z, Z, Zt⟩ ?_
     replace hb2 := bind_some hb2
     obtain ⟨x3, hx3, hb2⟩ := hb2
     refine lw_on Z Z Z Z Z Z (ow_call Z Z Tryd.call133 (w_spec_SpansValid (hG.mono (lz2.trans hl26)) hC26.old d48 hx3) fun v11 w27 hv11 => ?_)
     obtain ⟨hv11, hb5⟩ := hv11
     have hl27 := Le.no M1 hb5
     have hC27 := hC26.no hb5
     obtain rfl := vbool_eq hv11
     refine lw_on Z Z Z Z Z Z (ow_not Z Z (lw_op Z Z Z (ow_pickF Z Z Z (lw_nil (ew_then ?_)))))
     replace hb2 := cond_some hb2
     rcases hb2 with ⟨hc3, hb2⟩ | ⟨hc3, hb2⟩
     ·
      subst hc3
      refine cw_false Z (cw_skip (ew_blockN (ew_then (cw_region (lw_op Z Z Z (ow_move Z Z (lw_op Z Z Z (ow_add Z Z Z (lw_op Z Z Z (ow_assign Z Z (lw_nil ?_)))))))))))
      have lz3 := ((hl2.trans hl26).trans hl27)
      exact ew_nxt (W (k1 + 1)) hb2 fun a ha => ⟨M1, (ha.sub ⟨Z, Z, Zt⟩), lz3, hC27⟩
     ·
      subst hc3
      refine cw_true Z (cw_seq (cw_region (lw_op Z Z Z (ow_assign Z Z (lw_nil (ew_then (cw_ret (ew_blockR (ew_thenR (ew_thenR (ew_blockR (ew_brkR (ew_thenR ?_)))))))))))))
      have e4 := hR1 _ (sj hb2).symm
      subst e4
      obtain rfl := sj h
      exact ew_ret (res1 Z (.tmp Z)) ⟨_, Z, ((vbool _)), hC27.bx⟩
  ·
   obtain rfl := hbb1.trans hc1
   exact cw_false Z (cw_exit (ew_thenX (ew_thenX (ew_blockX (ew_brk k1 hb2 fun a ha => ⟨M1, (ha.sub ⟨Z, Z, Zt⟩), hl2, hC2⟩)))))
 ·
  rintro k2 a w28 hlr2 ⟨M2, hF2, hl28, hC28⟩
  subst hlr2
  refine ew_at (E := [(1, (.pointer (some p1))), (3, (Zv k2))]) hF2 (ew_then (cw_seq (cw_region (lw_op Z Z Z (ow_fieldAddr Z Z Tryd.underlying48 Z (Tryd.sizeOf46 _) (lw_op Z Z Z (ow_load (R := (RSlice (RSlice RSpan))) Z Z (ARep.mono hl28 (hp1.fld fld_Box_Sides)) (Tryd.sizeOf46 _) (Tryd.isAgg46 _) fun v13 hv13 => lw_op Z Z Z (ow_len Z Z hv13 Tryd.underlying46 Z (lw_op Z Z Z (ow_eqlI Z Z Z fun bb5 hbb5 => lw_op Z Z Z (ow_assign Z Z (lw_nil (ew_then (cw_ret ?_))))))))))))))
  obtain rfl := sj h
  exact ew_ret (res1 Z (.tmp Z)) ⟨_, Z, ((vbool_of hbb5)), hC28.bx⟩

theorem w_spec_l10Empty {w : World} {M : Nat → Prop} (_hG : ARep (RArr 4 RShape) w M shapes ⟨0, 0, none⟩) (hO : ∀ b, M b → b < w.heap.size) {v0p : Value} {a_b : Box} (h0 : VRep RBox w M a_b v0p) {r : Bool} (h : F.spec_l10Empty a_b = some r) :
  Calls Tryd.prog 87 [v0p].toArray w fun e w' => ∃ v, e = .returned v ∧ VRep RBool w' M r v ∧ BX No w w' := by
 have hC : Cx No w M w M := Cx.start hO (fun _ e => e.elim)
 clear _hG
 refine walk (N := 18) Tryd.func87 Z Tryd.ntmps87 Z (cw_seq (cw_region (lw_op Z Z Z (ow_box (R := RBox) Z Z h0 hC fun p1 w1 hp1 hb1 hl1 hC1 => lw_op Z Z Z (ow_assign Z Z (lw_nil (ew_then (cw_seq (cw_seq (cw_region (lw_op Z Z Z (ow_assign Z Z (lw_nil (ew_then ?_))))))))))))))
 replace h := bind_some h
 obtain ⟨lr1, hlr1, h⟩ := h
 refine cw_for hlr1 (fun s a w' => ∃ (M' : Nat → Prop), Fits 18 [(1, (.pointer (some p1))), (3, (Zv s))] a ∧ Le w1 M w' M' ∧ Cx No w M w' M') ?_ ?_ ?_
 · exact fun a ha => ⟨M, ha.sub ⟨Z, Z, Zt⟩, Le.refl _ _, hC1⟩
 ·
  rintro k1 a w2 sr1 ⟨M1, hF1, hl2, hC2⟩ hb2 hR1
  refine cw_at (E := [(1, (.pointer (some p1))), (3, (Zv k1))]) hF1 (cw_seq (cw_seq (cw_region (lw_op Z Z Z (ow_move Z Z (lw_op Z Z Z (ow_fieldAddr Z Z Tryd.underlying48 Z (Tryd.sizeOf46 _) (lw_op Z Z Z (ow_load (R := (RSlice (RSlice RSpan))) Z Z (ARep.mono hl2 (hp1.fld fld_Box_Sides)) (Tryd.sizeOf46 _) (Tryd.isAgg46 _) fun v2 hv2 => lw_op Z Z Z (ow_len Z Z hv2 Tryd.underlying46 Z (lw_op Z Z Z (ow_lss Z Z Z fun bb1 hbb1 => lw_nil (ew_then ?_)))))))))))))
  replace hb2 := cond_some hb2
  rcases hb2 with ⟨hc1, hb2⟩ | ⟨hc1, hb2⟩
  ·
   obtain rfl := hbb1.trans hc1
   refine cw_true Z (cw_skip (ew_then (cw_seq (cw_block (cw_seq (cw_region (lw_op Z Z Z (ow_fieldAddr Z Z Tryd.underlying48 Z (Tryd.sizeOf46 _) (lw_op Z Z Z (ow_load (R := (RSlice (RSlice RSpan))) Z Z (ARep.mono hl2 (hp1.fld fld_Box_Sides)) (Tryd.sizeOf46 _) (Tryd.isAgg46 _) fun v3 hv3 => lw_op Z Z Z (ow_move Z Z ?_)))))))))))
   replace hb2 := bind_some hb2
   obtain ⟨x1, hx1, hb2⟩ := hb2
   refine lw_op Z Z Z (ow_indexSlice (R := (RSlice RSpan)) Z Z Z hv3 Tryd.underlying46 (Tryd.sizeOf121 _) hx1 fun p2 hp2 => lw_op Z Z Z (ow_load (R := (RSlice RSpan)) Z Z hp2 (Tryd.sizeOf121 _) (Tryd.isAgg121 _) fun v4 hv4 => lw_op Z Z Z (ow_len Z Z hv4 Tryd.underlying121 Z (lw_op Z Z Z (ow_eqlI Z Z Z fun bb2 hbb2 => lw_nil (ew_then ?_))))))
   replace hb2 := cond_some hb2
   rcases hb2 with ⟨hc2, hb2⟩ | ⟨hc2, hb2⟩
   ·
    obtain rfl := hbb2.trans hc2
    refine cw_true Z (cw_seq (cw_region (lw_op Z Z Z (ow_assign Z Z (lw_nil (ew_then (cw_ret (ew_blockR (ew_thenR (ew_thenR (ew_blockR (ew_brkR (ew_thenR ?_)))))))))))))
    have e1 := hR1 _ (sj hb2).symm
    subst e1
    obtain rfl := sj h
    exact ew_ret (res1 Z (.tmp Z)) ⟨_, Z, ((vbool _)), hC2.bx⟩
   ·
    obtain rfl := hbb2.trans hc2
    exact cw_false Z (cw_skip (ew_blockN (ew_then (cw_region (lw_op Z Z Z (ow_move Z Z (lw_op Z Z Z (ow_add Z Z Z (lw_op Z Z Z (ow_assign Z Z (lw_nil (ew_nxt (W (k1 + 1)) hb2 fun a ha => ⟨M1, (ha.sub ⟨Z, Z, Zt⟩), hl2, hC2⟩))))))))))))
  ·
   obtain rfl := hbb1.trans hc1
   exact cw_false Z (cw_exit (ew_thenX (ew_thenX (ew_blockX (ew_brk k1 hb2 fun a ha => ⟨M1, (ha.sub ⟨Z, Z, Zt⟩), hl2, hC2⟩)))))
 ·
  rintro k2 a w3 hlr2 ⟨M2, hF2, hl3, hC3⟩
  subst hlr2
  refine ew_at (E := [(1, (.pointer (some p1))), (3, (Zv k2))]) hF2 (ew_then (cw_seq (cw_region (lw_op Z Z Z (ow_assign Z Z (lw_nil (ew_then (cw_ret ?_))))))))
  obtain rfl := sj h
  exact ew_ret (res1 Z (.tmp Z)) ⟨_, Z, ((vbool _)), hC3.bx⟩

theorem w_spec_BoxTests {w : World} {M : Nat → Prop} (hG : ARep (RArr 4 RShape) w M shapes ⟨0, 0, none⟩) (hO : ∀ b, M b → b < w.heap.size) {v0p : Value} {a_b : Box} (h0 : VRep RBox w M a_b v0p) {r : (List Test) × Bool} (h : F.spec_BoxTests a_b = some r) :
  Calls Tryd.prog 22 [v0p].toArray w fun e w' => ∃ v, e = .returned v ∧ (∃ u0 u1, v = .tuple #[u0, u1] ∧ VRep (RSlice RTest) w' M r.1 u0 ∧ VRep RBool w' M r.2 u1) ∧ BX No w w' := by
 obtain ⟨i128, hi128, hz128, hs128, hy128⟩ := info128
 have hC : Cx No w M w M := Cx.start hO (fun _ e => e.elim)
 refine walk (N := 93) Tryd.func22 Z Tryd.ntmps22 Z (cw_seq (cw_region (lw_op Z Z Z (ow_box (R := RBox) Z Z h0 hC fun p1 w1 hp1 hb1 hl1 hC1 => lw_op Z Z Z (ow_assign Z Z (lw_op Z Z Z (ow_assign Z Z (lw_nil (ew_then (cw_seq (cw_region (lw_op Z Z Z (ow_buildSlice0 (R := RTest) (e := 128) Z (by kernel_rfl) hC1 fun p2 w2 M1 hr1 hb2 hl2 hC2 hM1 hat1 => lw_op Z Z Z (ow_assign Z Z (lw_nil (ew_then (cw_seq (cw_seq (cw_region (lw_op Z Z Z (ow_load (R := RBox) Z Z (ARep.mono hl2 hp1) (Tryd.sizeOf48 _) (Tryd.isAgg48 _) fun v1 hv1 => ?_)))))))))))))))))))))
 replace h := bind_some h
 obtain ⟨x1, hx1, h⟩ := h
 refine lw_op Z Z Z (ow_call Z Z Tryd.call71 (w_spec_BoxValid (hG.mono (hl1.trans hl2)) hC2.old hv1 hx1) fun v2 w3 hv2 => ?_)
 obtain ⟨hv2, hb3⟩ := hv2
 have hl3 := Le.no M1 hb3
 have hC3 := hC2.no hb3
 have hr2 := hr1.no hb3
 obtain rfl := vbool_eq hv2
 refine lw_op Z Z Z (ow_not Z Z (lw_op Z Z Z (ow_move Z Z ?_)))
 replace h := cond_some h
 rcases h with ⟨hc1, h⟩ | ⟨hc1, h⟩
 ·
  subst hc1
  refine lw_on Z Z Z Z Z Z (ow_load (R := RBox) Z Z (ARep.mono (hl2.trans hl3) hp1) (Tryd.sizeOf48 _) (Tryd.isAgg48 _) fun v3 hv3 => ?_)
  replace h := bind_some h
  obtain ⟨x2, hx2, h⟩ := h
  have lz1 := ((hl1.trans hl2).trans hl3)
  refine lw_on Z Z Z Z Z Z (ow_call Z Z Tryd.call87 (w_spec_l10Empty (hG.mono lz1) hC3.old hv3 hx2) fun v4 w4 hv4 => ?_)
  obtain ⟨hv4, hb4⟩ := hv4
  have hl4 := Le.no M1 hb4
  have hC4 := hC3.no hb4
  have hr3 := hr2.no hb4
  obtain rfl := vbool_eq hv4
  refine lw_op Z Z Z (ow_pickF Z Z Z (lw_nil (ew_then ?_)))
  replace h := cond_some h
  rcases h with ⟨hc2, h⟩ | ⟨hc2, h⟩
  ·
   subst hc2
   refine cw_true Z (cw_seq (cw_region (lw_op Z Z Z (ow_move Z Z (lw_op Z Z Z (ow_assign Z Z (lw_op Z Z Z (ow_assign Z Z (lw_nil (ew_then (cw_ret (ew_thenR ?_))))))))))))
   obtain rfl := sj h
   exact ew_ret (res2 Z (.tmp Z) (.tmp Z)) ⟨_, Z, ⟨_, _, Z, (hr3.freezeBack hC4 hO), ((vbool _))⟩, hC4.bx⟩
  ·
   subst hc2
   refine cw_false Z (cw_skip (ew_then (cw_seq (cw_seq (cw_region (lw_op Z Z Z (ow_assign Z Z (lw_nil (ew_then ?_)))))))))
   replace h := bind_some h
   obtain ⟨lr1, hlr1, h⟩ := h
   refine cw_for hlr1 (fun s a w' => ∃ (M' : Nat → Prop) (v0c : Value), Fits 93 [(1, (.pointer (some p1))), (4, v0c), (5, (Zv s.2))] a ∧ Le w4 M1 w' M' ∧ Cx No w M w' M' ∧ OwnRow RTest w.heap.size 128 w' M' s.1 v0c) ?_ ?_ ?_
   · exact fun a ha => ⟨M1, (.slice (some p2) 0 0), ha.sub ⟨Z, Z, Z, Zt⟩, Le.refl _ _, hC4, hr3⟩
   ·
    rintro ⟨y1, k1⟩ a w5 sr1 ⟨M2, v5, hF1, hl5, hC5, hw1⟩ hb5 hR1
    refine cw_at (E := [(1, (.pointer (some p1))), (4, v5), (5, (Zv k1))]) hF1 (cw_seq (cw_seq (cw_region (lw_op Z Z Z (ow_move Z Z (lw_op Z Z Z (ow_lss Z Z Z fun bb1 hbb1 => lw_nil (ew_then ?_))))))))
    replace hb5 := cond_some hb5
    rcases hb5 with ⟨hc3, hb5⟩ | ⟨hc3, hb5⟩
    ·
     obtain rfl := hbb1.trans hc3
     refine cw_true Z (cw_skip (ew_then (cw_seq (cw_block (cw_seq (cw_region (lw_op Z Z Z (ow_fieldAddr Z Z Tryd.underlying48 Z (Tryd.sizeOf46 _) ?_))))))))
     have lz2 := (((hl2.trans hl3).trans hl4).trans hl5)
     refine lw_op Z Z Z (ow_load (R := (RSlice (RSlice RSpan))) Z Z (ARep.mono lz2 (hp1.fld fld_Box_Sides)) (Tryd.sizeOf46 _) (Tryd.isAgg46 _) fun v7 hv7 => lw_op Z Z Z (ow_move Z Z ?_))
     replace hb5 := bind_some hb5
     obtain ⟨x3, hx3, hb5⟩ := hb5
     refine lw_op Z Z Z (ow_indexSlice (R := (RSlice RSpan)) Z Z Z hv7 Tryd.underlying46 (Tryd.sizeOf121 _) hx3 fun p3 hp3 => lw_op Z Z Z (ow_load (R := (RSlice RSpan)) Z Z hp3 (Tryd.sizeOf121 _) (Tryd.isAgg121 _) fun v8 hv8 => lw_op Z Z Z (ow_assign Z Z (lw_nil (ew_then (cw_seq (cw_region (lw_op Z Z Z (ow_move Z Z ?_)))))))))
     replace hb5 := bind_some hb5
     obtain ⟨x4, hx4, hb5⟩ := hb5
     have lz3 := ((lz1.trans hl4).trans hl5)
     refine lw_op Z Z Z (ow_call Z Z Tryd.call88 (w_spec_FieldTop (hG.mono lz3) hC5.old hx4) fun v9 w6 hv9 => ?_)
     obtain ⟨hv9, hb6⟩ := hv9
     have hl6 := Le.no M2 hb6
     have hC6 := hC5.no hb6
     have hr4 := hw1.no hb6
     obtain rfl := vint_eq hv9
     refine lw_op Z Z Z (ow_assign Z Z (lw_nil (ew_then (cw_block (cw_seq (cw_region (lw_op Z Z Z (ow_move Z Z (lw_op Z Z Z (ow_len Z Z (VRep.mono hl6 hv8) Tryd.underlying121 Z (lw_op Z Z Z (ow_eqlI Z Z Z fun bb2 hbb2 => lw_op Z Z Z (ow_move Z Z ?_)))))))))))))
     replace hb5 := cond_some hb5
     rcases hb5 with ⟨hc4, hb5⟩ | ⟨hc4, hb5⟩
     ·
      obtain rfl := hbb2.trans hc4
      refine lw_on Z Z Z Z Z Z (ow_move Z Z ?_)
      replace hb5 := bind_some hb5
      obtain ⟨x5, hx5, hb5⟩ := hb5
      refine lw_on Z Z Z Z Z Z (ow_indexSlice (R := RSpan) Z Z Z (VRep.mono hl6 hv8) Tryd.underlying121 (Tryd.sizeOf120 _) hx5 fun p4 hp4 => lw_on Z Z Z Z Z Z (ow_load (R := RSpan) Z Z hp4 (Tryd.sizeOf120 _) (Tryd.isAgg120 _) fun v10 hv10 => lw_on Z Z Z Z Z Z (ow_move Z Z (lw_on Z Z Z Z Z Z (ow_build (v := .agg #[(Zv 0), (Zv x4)]) Z Z (by kernel_rfl) ?_)))))
      obtain rfl := open_Span hv10
      refine lw_on Z Z Z Z Z Z (ow_eqlS Z Z Z (Tryd.eqGuardType120) (eqS120 (x := x5) (y := ({ Lo := 0, Hi := x4 } : Span)) _) fun bb3 hbb3 => lw_op Z Z Z (ow_pickT Z Z Z (lw_op Z Z Z (ow_assign Z Z (lw_nil (ew_then ?_))))))
      replace hb5 := cond_some hb5
      rcases hb5 with ⟨hc5, hb5⟩ | ⟨hc5, hb5⟩
      ·
       obtain rfl := hbb3.trans hc5
       exact cw_true Z (cw_skip (ew_blockN (ew_blockN (ew_then (cw_region (lw_op Z Z Z (ow_move Z Z (lw_op Z Z Z (ow_add Z Z Z (lw_op Z Z Z (ow_assign Z Z (lw_nil (ew_nxt (y1, (W (k1 + 1))) hb5 fun a ha => ⟨M2, v5, (ha.sub ⟨Z, Z, Z, Zt⟩), (hl5.trans hl6), hC6, hr4⟩)))))))))))))
      ·
       obtain rfl := hbb3.trans hc5
       refine cw_false Z (cw_seq (cw_region (lw_op Z Z Z (ow_move Z Z (lw_op Z Z Z (ow_len Z Z (VRep.mono hl6 hv8) Tryd.underlying121 Z (lw_op Z Z Z (ow_eqlI Z Z Z fun bb4 hbb4 => ?_))))))))
       obtain rfl := hbb4.trans hc4
       refine lw_op Z Z Z (ow_assign Z Z (lw_nil (ew_then (cw_true Z (cw_sub (E' := [(1, (.pointer (some p1))), (4, v5), (5, (Zv k1)), (6, v8)]) ⟨Z, Z, Z, Z, Zt⟩ (cw_drawQ 12 [PEq v5, PEq (Zv k1), PV (RSlice RSpan) M2 x3, PA RSpan M2 x5, PA RInt M2 x5.Lo, PEq (Zv x5.Lo), PV (RSlice RSpan) M2 x3, PA RSpan M2 x5, PA RInt M2 x5.Hi, PEq (Zv x5.Hi), PV RTest M2 ({ Field := k1, Lo := x5.Lo, Hi := x5.Hi, Not := false } : Test), PV (RSlice RTest) M2 [({ Field := k1, Lo := x5.Lo, Hi := x5.Hi, Not := false } : Test)]] (by kernel_rfl) Z (by kernel_rfl) ⟨Zq, Zq, PV.mono _ _ _, PA.mono _ _ _, PA.mono _ _ _, Zq, PV.mono _ _ _, PA.mono _ _ _, PA.mono _ _ _, Zq, PV.mono _ _ _, PV.mono _ _ _, Zt⟩ ⟨?_, ?_, ?_, ?_, ?_, ?_, ?_, ?_, ?_, ?_, ?_, ?_, Zt⟩ ?_))))))
       · exact fun w8 D hS1 hd1 => dg_sub (E' := [(4, v5)]) ⟨Z, Zt⟩ (dg_plain Z (ow_move Z Z Zb))
       · exact fun w9 D hS2 hd2 => dg_sub (E' := [(5, (Zv k1))]) ⟨Z, Zt⟩ (dg_plain Z (ow_move Z Z Zb))
       ·
        intro w10 D hS3 hd3
        have hl10 := Le.no M2 hS3
        exact dg_sub (E' := [(6, v8)]) ⟨Z, Zt⟩ (dg_plain Z (ow_move Z Z ⟨BX.refl _ _, (VRep.mono (hl6.trans hl10) hv8)⟩))
       ·
        intro w11 D hS4 hd4
        have d1 : PV (RSlice RSpan) M2 x3 (D 2) w11 := dpA hd4 2 Z
        generalize hq1 : (D 2) = v13 at d1
        exact dg_sub (E' := [(47, v13)]) ⟨congrArg some hq1, Zt⟩ (dg_plain Z (ow_indexSlice (R := RSpan) Z Z Z d1 Tryd.underlying121 (Tryd.sizeOf120 _) hx5 fun p8 hp8 => ⟨BX.refl _ _, ⟨_, Z, hp8⟩⟩))
       ·
        intro w12 D hS5 hd5
        have d2 : PA RSpan M2 x5 (D 3) w12 := dpA hd5 3 Z
        obtain ⟨p9, e1, ha1⟩ := d2
        exact dg_sub (E' := [(48, (.pointer (some p9)))]) ⟨congrArg some e1, Zt⟩ (dg_plain Z (ow_fieldAddr Z Z Tryd.underlying120 Z (Tryd.sizeOf3 _) ⟨BX.refl _ _, ⟨_, Z, (ha1.fld fld_Span_Lo)⟩⟩))
       ·
        intro w13 D hS6 hd6
        have d3 : PA RInt M2 x5.Lo (D 4) w13 := dpA hd6 4 Z
        obtain ⟨p10, e2, ha2⟩ := d3
        refine dg_sub (E' := [(49, (.pointer (some p10)))]) ⟨congrArg some e2, Zt⟩ (dg_plain Z (ow_load (R := RInt) Z Z ha2 (Tryd.sizeOf3 _) (Tryd.isAgg3 _) fun v14 hv14 => ?_))
        obtain rfl := vint_eq hv14
        exact Zb
       ·
        intro w14 D hS7 hd7
        have hl14 := Le.no M2 hS7
        exact dg_sub (E' := [(6, v8)]) ⟨Z, Zt⟩ (dg_plain Z (ow_move Z Z ⟨BX.refl _ _, (VRep.mono (hl6.trans hl14) hv8)⟩))
       ·
        intro w15 D hS8 hd8
        have d4 : PV (RSlice RSpan) M2 x3 (D 6) w15 := dpA hd8 6 Z
        generalize hq2 : (D 6) = v15 at d4
        exact dg_sub (E' := [(51, v15)]) ⟨congrArg some hq2, Zt⟩ (dg_plain Z (ow_indexSlice (R := RSpan) Z Z Z d4 Tryd.underlying121 (Tryd.sizeOf120 _) hx5 fun p11 hp11 => ⟨BX.refl _ _, ⟨_, Z, hp11⟩⟩))
       ·
        intro w16 D hS9 hd9
        have d5 : PA RSpan M2 x5 (D 7) w16 := dpA hd9 7 Z
        obtain ⟨p12, e3, ha3⟩ := d5
        exact dg_sub (E' := [(52, (.pointer (some p12)))]) ⟨congrArg some e3, Zt⟩ (dg_plain Z (ow_fieldAddr Z Z Tryd.underlying120 Z (Tryd.sizeOf3 _) ⟨BX.refl _ _, ⟨_, Z, (ha3.fld fld_Span_Hi)⟩⟩))
       ·
        intro w17 D hS10 hd10
        have d6 : PA RInt M2 x5.Hi (D 8) w17 := dpA hd10 8 Z
        obtain ⟨p13, e4, ha4⟩ := d6
        refine dg_sub (E' := [(53, (.pointer (some p13)))]) ⟨congrArg some e4, Zt⟩ (dg_plain Z (ow_load (R := RInt) Z Z ha4 (Tryd.sizeOf3 _) (Tryd.isAgg3 _) fun v16 hv16 => ?_))
        obtain rfl := vint_eq hv16
        exact Zb
       ·
        intro w18 D hS11 hd11
        refine dg_sub (E' := [(46, (Zv k1)), (50, (Zv x5.Lo)), (54, (Zv x5.Hi))]) ⟨dpE hd11 1 Z Z, dpE hd11 5 Z Z, dpE hd11 9 Z Z, Zt⟩ (dg_plain Z (ow_build (v := .agg #[(Zv k1), (Zv x5.Lo), (Zv x5.Hi), (.bool false)]) Z Z (by kernel_rfl) ?_))
        have hw5 : VRep RTest w18 M2 ({ Field := k1, Lo := x5.Lo, Hi := x5.Hi, Not := false } : Test) (.agg #[(Zv k1), (Zv x5.Lo), (Zv x5.Hi), (.bool false)]) := shut_Test
        exact ⟨BX.refl _ _, hw5⟩
       ·
        intro w19 D hS12 hd12
        have hC19 := hC6.no hS12
        have d10 : PV RTest M2 ({ Field := k1, Lo := x5.Lo, Hi := x5.Hi, Not := false } : Test) (D 10) w19 := dpA hd12 10 Z
        generalize hq3 : (D 10) = v17 at d10
        refine dg_sub (E' := [(55, v17)]) ⟨congrArg some hq3, Zt⟩ ?_
        obtain rfl := open_Test d10
        exact dg_plain Z (ow_buildSlice (R := RTest) (xs := [({ Field := k1, Lo := x5.Lo, Hi := x5.Hi, Not := false } : Test)]) (cs := #[(Zv ({ Field := k1, Lo := x5.Lo, Hi := x5.Hi, Not := false } : Test).Field), (Zv ({ Field := k1, Lo := x5.Lo, Hi := x5.Hi, Not := false } : Test).Lo), (Zv ({ Field := k1, Lo := x5.Lo, Hi := x5.Hi, Not := false } : Test).Hi), (.bool ({ Field := k1, Lo := x5.Lo, Hi := x5.Hi, Not := false } : Test).Not)]) (e := 128) Z Z (by kernel_rfl) Z Z ⟨_, _, Z, d10.cells, Z⟩ hC19 fun p14 w20 hw6 hb8 hl20 hC20 => ⟨hb8, hw6⟩)
       ·
        intro w21 D hS13 hd13
        have d22 : PV (RSlice RTest) M2 [({ Field := k1, Lo := x5.Lo, Hi := x5.Hi, Not := false } : Test)] (D 11) w21 := dpA hd13 11 Z
        have hl21 := Le.no M2 hS13
        have hC21 := hC6.no hS13
        have hr19 := hr4.no hS13
        generalize hq4 : (D 11) = v18 at d22
        refine lw_sub (E' := [(45, v5), (56, v18), (1, (.pointer (some p1))), (4, v5), (5, (Zv k1)), (6, v8)]) ⟨dpE hd13 0 Z Z, congrArg some hq4, Z, Z, Z, Z, Zt⟩ ?_
        replace hb5 := bind_some hb5
        obtain ⟨z1, hz1, hb5⟩ := hb5
        refine lw_op Z Z Z (ow_append (R := RTest) Z Z Z Z Tryd.underlying36 hi128 hz128 hs128 hy128 Z Z Z Z hr19 d22 hz1 hC21 fun v19 w22 M3 hr20 hb9 hl22 hC22 hM2 hat2 => lw_op Z Z Z (ow_assign Z Z (lw_nil (ew_blockN (ew_blockN (ew_then (cw_region (lw_op Z Z Z (ow_move Z Z (lw_op Z Z Z (ow_add Z Z Z (lw_op Z Z Z (ow_assign Z Z (lw_nil ?_))))))))))))))
        have lz6 := (((hl5.trans hl6).trans hl21).trans hl22)
        exact ew_nxt (z1, (W (k1 + 1))) hb5 fun a ha => ⟨M3, v19, (ha.sub ⟨Z, Z, Z, Zt⟩), lz6, hC22, hr20⟩
     ·
      obtain rfl := hbb2.trans hc4
      refine lw_off Z Z Z Z Z Z (lw_off Z Z Z Z Z Z (lw_off Z Z Z Z Z Z (lw_off Z Z Z Z Z Z (lw_off Z Z Z Z Z Z (lw_off Z Z Z Z Z Z (lw_op Z Z Z (ow_pickF Z Z Z (lw_op Z Z Z (ow_assign Z Z (lw_nil (ew_then (cw_false Z (cw_seq (cw_region (lw_op Z Z Z (ow_move Z Z (lw_op Z Z Z (ow_len Z Z (VRep.mono hl6 hv8) Tryd.underlying121 Z (lw_op Z Z Z (ow_eqlI Z Z Z fun bb5 hbb5 => ?_))))))))))))))))))))
      obtain rfl := hbb5.trans hc4
      refine lw_op Z Z Z (ow_assign Z Z (lw_nil (ew_then (cw_false Z (cw_seq (cw_region (lw_op Z Z Z (ow_move Z Z (lw_op Z Z Z (ow_len Z Z (VRep.mono hl6 hv8) Tryd.underlying121 Z (lw_op Z Z Z (ow_eqlI Z Z Z fun bb6 hbb6 => lw_op Z Z Z (ow_move Z Z ?_)))))))))))))
      replace hb5 := cond_some hb5
      rcases hb5 with ⟨hc6, hb5⟩ | ⟨hc6, hb5⟩
      ·
       obtain rfl := hbb6.trans hc6
       refine lw_on Z Z Z Z Z Z (ow_move Z Z ?_)
       replace hb5 := bind_some hb5
       obtain ⟨x6, hx6, hb5⟩ := hb5
       refine lw_on Z Z Z Z Z Z (ow_indexSlice (R := RSpan) Z Z Z (VRep.mono hl6 hv8) Tryd.underlying121 (Tryd.sizeOf120 _) hx6 fun p15 hp15 => lw_on Z Z Z Z Z Z (ow_fieldAddr Z Z Tryd.underlying120 Z (Tryd.sizeOf3 _) (lw_on Z Z Z Z Z Z (ow_load (R := RInt) Z Z (hp15.fld fld_Span_Lo) (Tryd.sizeOf3 _) (Tryd.isAgg3 _) fun v20 hv20 => ?_))))
       obtain rfl := vint_eq hv20
       refine lw_on Z Z Z Z Z Z (ow_eqlI Z Z Z fun bb7 hbb7 => lw_op Z Z Z (ow_pickT Z Z Z (lw_op Z Z Z (ow_move Z Z ?_))))
       replace hb5 := cond_some hb5
       rcases hb5 with ⟨hc7, hb5⟩ | ⟨hc7, hb5⟩
       ·
        obtain rfl := hbb7.trans hc7
        refine lw_on Z Z Z Z Z Z (ow_move Z Z ?_)
        replace hb5 := bind_some hb5
        obtain ⟨x7, hx7, hb5⟩ := hb5
        refine lw_on Z Z Z Z Z Z (ow_indexSlice (R := RSpan) Z Z Z (VRep.mono hl6 hv8) Tryd.underlying121 (Tryd.sizeOf120 _) hx7 fun p16 hp16 => lw_on Z Z Z Z Z Z (ow_fieldAddr Z Z Tryd.underlying120 Z (Tryd.sizeOf3 _) (lw_on Z Z Z Z Z Z (ow_load (R := RInt) Z Z (hp16.fld fld_Span_Hi) (Tryd.sizeOf3 _) (Tryd.isAgg3 _) fun v21 hv21 => ?_))))
        obtain rfl := vint_eq hv21
        refine lw_on Z Z Z Z Z Z (ow_move Z Z (lw_on Z Z Z Z Z Z (ow_eqlI Z Z Z fun bb8 hbb8 => lw_op Z Z Z (ow_pickT Z Z Z (lw_op Z Z Z (ow_assign Z Z (lw_nil (ew_then ?_))))))))
        replace hb5 := cond_some hb5
        rcases hb5 with ⟨hc8, hb5⟩ | ⟨hc8, hb5⟩
        ·
         obtain rfl := hbb8.trans hc8
         refine cw_true Z (cw_sub (E' := [(1, (.pointer (some p1))), (4, v5), (5, (Zv k1)), (6, v8)]) ⟨Z, Z, Z, Z, Zt⟩ (cw_drawQ 14 [PEq v5, PEq (Zv k1), PV (RSlice RSpan) M2 x3, PA RSpan M2 x6, PA RInt M2 x6.Hi, PEq (Zv x6.Hi), PEq (Zv (W (x6.Hi + 1))), PV (RSlice RSpan) M2 x3, PA RSpan M2 x7, PA RInt M2 x7.Lo, PEq (Zv x7.Lo), PEq (Zv (W (x7.Lo - 1))), PV RTest M2 ({ Field := k1, Lo := (W (x6.Hi + 1)), Hi := (W (x7.Lo - 1)), Not := true } : Test), PV (RSlice RTest) M2 [({ Field := k1, Lo := (W (x6.Hi + 1)), Hi := (W (x7.Lo - 1)), Not := true } : Test)]] (by kernel_rfl) Z (by kernel_rfl) ⟨Zq, Zq, PV.mono _ _ _, PA.mono _ _ _, PA.mono _ _ _, Zq, Zq, PV.mono _ _ _, PA.mono _ _ _, PA.mono _ _ _, Zq, Zq, PV.mono _ _ _, PV.mono _ _ _, Zt⟩ ⟨?_, ?_, ?_, ?_, ?_, ?_, ?_, ?_, ?_, ?_, ?_, ?_, ?_, ?_, Zt⟩ ?_))
         · exact fun w24 D hS14 hd14 => dg_sub (E' := [(4, v5)]) ⟨Z, Zt⟩ (dg_plain Z (ow_move Z Z Zb))
         · exact fun w25 D hS15 hd15 => dg_sub (E' := [(5, (Zv k1))]) ⟨Z, Zt⟩ (dg_plain Z (ow_move Z Z Zb))
         ·
          intro w26 D hS16 hd16
          have hl26 := Le.no M2 hS16
          exact dg_sub (E' := [(6, v8)]) ⟨Z, Zt⟩ (dg_plain Z (ow_move Z Z ⟨BX.refl _ _, (VRep.mono (hl6.trans hl26) hv8)⟩))
         ·
          intro w27 D hS17 hd17
          have d23 : PV (RSlice RSpan) M2 x3 (D 2) w27 := dpA hd17 2 Z
          generalize hq5 : (D 2) = v24 at d23
          exact dg_sub (E' := [(79, v24)]) ⟨congrArg some hq5, Zt⟩ (dg_plain Z (ow_indexSlice (R := RSpan) Z Z Z d23 Tryd.underlying121 (Tryd.sizeOf120 _) hx6 fun p20 hp20 => ⟨BX.refl _ _, ⟨_, Z, hp20⟩⟩))
         ·
          intro w28 D hS18 hd18
          have d24 : PA RSpan M2 x6 (D 3) w28 := dpA hd18 3 Z
          obtain ⟨p21, e5, ha5⟩ := d24
          exact dg_sub (E' := [(80, (.pointer (some p21)))]) ⟨congrArg some e5, Zt⟩ (dg_plain Z (ow_fieldAddr Z Z Tryd.underlying120 Z (Tryd.sizeOf3 _) ⟨BX.refl _ _, ⟨_, Z, (ha5.fld fld_Span_Hi)⟩⟩))
         ·
          intro w29 D hS19 hd19
          have d25 : PA RInt M2 x6.Hi (D 4) w29 := dpA hd19 4 Z
          obtain ⟨p22, e6, ha6⟩ := d25
          refine dg_sub (E' := [(81, (.pointer (some p22)))]) ⟨congrArg some e6, Zt⟩ (dg_plain Z (ow_load (R := RInt) Z Z ha6 (Tryd.sizeOf3 _) (Tryd.isAgg3 _) fun v25 hv25 => ?_))
          obtain rfl := vint_eq hv25
          exact Zb
         · exact fun w30 D hS20 hd20 => dg_sub (E' := [(82, (Zv x6.Hi))]) ⟨dpE hd20 5 Z Z, Zt⟩ (dg_plain Z (ow_add Z Z Z Zb))
         ·
          intro w31 D hS21 hd21
          have hl31 := Le.no M2 hS21
          exact dg_sub (E' := [(6, v8)]) ⟨Z, Zt⟩ (dg_plain Z (ow_move Z Z ⟨BX.refl _ _, (VRep.mono (hl6.trans hl31) hv8)⟩))
         ·
          intro w32 D hS22 hd22
          have d27 : PV (RSlice RSpan) M2 x3 (D 7) w32 := dpA hd22 7 Z
          generalize hq6 : (D 7) = v26 at d27
          exact dg_sub (E' := [(84, v26)]) ⟨congrArg some hq6, Zt⟩ (dg_plain Z (ow_indexSlice (R := RSpan) Z Z Z d27 Tryd.underlying121 (Tryd.sizeOf120 _) hx7 fun p23 hp23 => ⟨BX.refl _ _, ⟨_, Z, hp23⟩⟩))
         ·
          intro w33 D hS23 hd23
          have d28 : PA RSpan M2 x7 (D 8) w33 := dpA hd23 8 Z
          obtain ⟨p24, e7, ha7⟩ := d28
          exact dg_sub (E' := [(85, (.pointer (some p24)))]) ⟨congrArg some e7, Zt⟩ (dg_plain Z (ow_fieldAddr Z Z Tryd.underlying120 Z (Tryd.sizeOf3 _) ⟨BX.refl _ _, ⟨_, Z, (ha7.fld fld_Span_Lo)⟩⟩))
         ·
          intro w34 D hS24 hd24
          have d29 : PA RInt M2 x7.Lo (D 9) w34 := dpA hd24 9 Z
          obtain ⟨p25, e8, ha8⟩ := d29
          refine dg_sub (E' := [(86, (.pointer (some p25)))]) ⟨congrArg some e8, Zt⟩ (dg_plain Z (ow_load (R := RInt) Z Z ha8 (Tryd.sizeOf3 _) (Tryd.isAgg3 _) fun v27 hv27 => ?_))
          obtain rfl := vint_eq hv27
          exact Zb
         · exact fun w35 D hS25 hd25 => dg_sub (E' := [(87, (Zv x7.Lo))]) ⟨dpE hd25 10 Z Z, Zt⟩ (dg_plain Z (ow_sub Z Z Z Zb))
         ·
          intro w36 D hS26 hd26
          refine dg_sub (E' := [(78, (Zv k1)), (83, (Zv (W (x6.Hi + 1)))), (88, (Zv (W (x7.Lo - 1))))]) ⟨dpE hd26 1 Z Z, dpE hd26 6 Z Z, dpE hd26 11 Z Z, Zt⟩ (dg_plain Z (ow_build (v := .agg #[(Zv k1), (Zv (W (x6.Hi + 1))), (Zv (W (x7.Lo - 1))), (.bool true)]) Z Z (by kernel_rfl) ?_))
          have hw9 : VRep RTest w36 M2 ({ Field := k1, Lo := (W (x6.Hi + 1)), Hi := (W (x7.Lo - 1)), Not := true } : Test) (.agg #[(Zv k1), (Zv (W (x6.Hi + 1))), (Zv (W (x7.Lo - 1))), (.bool true)]) := shut_Test
          exact ⟨BX.refl _ _, hw9⟩
         ·
          intro w37 D hS27 hd27
          have hC37 := hC6.no hS27
          have d34 : PV RTest M2 ({ Field := k1, Lo := (W (x6.Hi + 1)), Hi := (W (x7.Lo - 1)), Not := true } : Test) (D 12) w37 := dpA hd27 12 Z
          generalize hq7 : (D 12) = v28 at d34
          refine dg_sub (E' := [(89, v28)]) ⟨congrArg some hq7, Zt⟩ ?_
          obtain rfl := open_Test d34
          exact dg_plain Z (ow_buildSlice (R := RTest) (xs := [({ Field := k1, Lo := (W (x6.Hi + 1)), Hi := (W (x7.Lo - 1)), Not := true } : Test)]) (cs := #[(Zv ({ Field := k1, Lo := (W (x6.Hi + 1)), Hi := (W (x7.Lo - 1)), Not := true } : Test).Field), (Zv ({ Field := k1, Lo := (W (x6.Hi + 1)), Hi := (W (x7.Lo - 1)), Not := true } : Test).Lo), (Zv ({ Field := k1, Lo := (W (x6.Hi + 1)), Hi := (W (x7.Lo - 1)), Not := true } : Test).Hi), (.bool ({ Field := k1, Lo := (W (x6.Hi + 1)), Hi := (W (x7.Lo - 1)), Not := true } : Test).Not)]) (e := 128) Z Z (by kernel_rfl) Z Z ⟨_, _, Z, d34.cells, Z⟩ hC37 fun p26 w38 hw10 hb11 hl38 hC38 => ⟨hb11, hw10⟩)
         ·
          intro w39 D hS28 hd28
          have d48 : PV (RSlice RTest) M2 [({ Field := k1, Lo := (W (x6.Hi + 1)), Hi := (W (x7.Lo - 1)), Not := true } : Test)] (D 13) w39 := dpA hd28 13 Z
          have hl39 := Le.no M2 hS28
          have hC39 := hC6.no hS28
          have hr37 := hr4.no hS28
          generalize hq8 : (D 13) = v29 at d48
          refine lw_sub (E' := [(77, v5), (90, v29), (1, (.pointer (some p1))), (4, v5), (5, (Zv k1)), (6, v8)]) ⟨dpE hd28 0 Z Z, congrArg some hq8, Z, Z, Z, Z, Zt⟩ ?_
          replace hb5 := bind_some hb5
          obtain ⟨z2, hz2, hb5⟩ := hb5
          refine lw_op Z Z Z (ow_append (R := RTest) Z Z Z Z Tryd.underlying36 hi128 hz128 hs128 hy128 Z Z Z Z hr37 d48 hz2 hC39 fun v30 w40 M4 hr38 hb12 hl40 hC40 hM3 hat3 => lw_op Z Z Z (ow_assign Z Z (lw_nil (ew_blockN (ew_blockN (ew_then (cw_region (lw_op Z Z Z (ow_move Z Z (lw_op Z Z Z (ow_add Z Z Z (lw_op Z Z Z (ow_assign Z Z (lw_nil ?_))))))))))))))
          have lz9 := (((hl5.trans hl6).trans hl39).trans hl40)
          exact ew_nxt (z2, (W (k1 + 1))) hb5 fun a ha => ⟨M4, v30, (ha.sub ⟨Z, Z, Z, Zt⟩), lz9, hC40, hr38⟩
        ·
         obtain rfl := hbb8.trans hc8
         refine cw_false Z (cw_seq (cw_region (lw_op Z Z Z (ow_buildSlice0I (R := RTest) (e := 128) Z (by kernel_rfl) hC6 fun p27 w41 hw11 hb13 hl41 hC41 => lw_op Z Z Z (ow_assign Z Z (lw_op Z Z Z (ow_assign Z Z (lw_nil (ew_then (cw_ret (ew_blockR (ew_blockR (ew_thenR (ew_thenR (ew_blockR (ew_brkR (ew_thenR ?_)))))))))))))))))
         have e9 := hR1 _ (sj hb5).symm
         subst e9
         obtain rfl := sj h
         exact ew_ret (res2 Z (.tmp Z) (.tmp Z)) ⟨_, Z, ⟨_, _, Z, (VRep.mono hC41.back hw11), ((vbool _))⟩, hC41.bx⟩
       ·
        obtain rfl := hbb7.trans hc7
        refine lw_off Z Z Z Z Z Z (lw_off Z Z Z Z Z Z (lw_off Z Z Z Z Z Z (lw_off Z Z Z Z Z Z (lw_off Z Z Z Z Z Z (lw_off Z Z Z Z Z Z (lw_op Z Z Z (ow_pickF Z Z Z (lw_op Z Z Z (ow_assign Z Z (lw_nil (ew_then (cw_false Z (cw_seq (cw_region (lw_op Z Z Z (ow_buildSlice0I (R := RTest) (e := 128) Z (by kernel_rfl) hC6 fun p28 w42 hw12 hb14 hl42 hC42 => lw_op Z Z Z (ow_assign Z Z (lw_op Z Z Z (ow_assign Z Z (lw_nil (ew_then (cw_ret (ew_blockR (ew_blockR (ew_thenR (ew_thenR (ew_blockR (ew_brkR ?_))))))))))))))))))))))))))))
        refine ew_thenR ?_
        have e10 := hR1 _ (sj hb5).symm
        subst e10
        obtain rfl := sj h
        exact ew_ret (res2 Z (.tmp Z) (.tmp Z)) ⟨_, Z, ⟨_, _, Z, (VRep.mono hC42.back hw12), ((vbool _))⟩, hC42.bx⟩
      ·
       obtain rfl := hbb6.trans hc6
       refine lw_off Z Z Z Z Z Z (lw_off Z Z Z Z Z Z (lw_off Z Z Z Z Z Z (lw_off Z Z Z Z Z Z (lw_off Z Z Z Z Z Z (lw_op Z Z Z (ow_pickF Z Z Z (lw_op Z Z Z (ow_move Z Z (lw_off Z Z Z Z Z Z (lw_off Z Z Z Z Z Z (lw_off Z Z Z Z Z Z (lw_off Z Z Z Z Z Z (lw_off Z Z Z Z Z Z (lw_off Z Z Z Z Z Z (lw_op Z Z Z (ow_pickF Z Z Z (lw_op Z Z Z (ow_assign Z Z (lw_nil (ew_then (cw_false Z (cw_seq (cw_region (lw_op Z Z Z (ow_buildSlice0I (R := RTest) (e := 128) Z (by kernel_rfl) hC6 fun p29 w43 hw13 hb15 hl43 hC43 => lw_op Z Z Z (ow_assign Z Z (lw_op Z Z Z (ow_assign Z Z (lw_nil (ew_then ?_))))))))))))))))))))))))))))))
       refine cw_ret (ew_blockR (ew_blockR (ew_thenR (ew_thenR (ew_blockR (ew_brkR (ew_thenR ?_)))))))
       have e11 := hR1 _ (sj hb5).symm
       subst e11
       obtain rfl := sj h
       exact ew_ret (res2 Z (.tmp Z) (.tmp Z)) ⟨_, Z, ⟨_, _, Z, (VRep.mono hC43.back hw13), ((vbool _))⟩, hC43.bx⟩
    ·
     obtain rfl := hbb1.trans hc3
     exact cw_false Z (cw_exit (ew_thenX (ew_thenX (ew_blockX (ew_brk (y1, k1) hb5 fun a ha => ⟨M2, v5, (ha.sub ⟨Z, Z, Z, Zt⟩), hl5, hC5, hw1⟩)))))
   ·
    rintro ⟨y2, k2⟩ a w44 hlr2 ⟨M5, v31, hF2, hl44, hC44, hw14⟩
    subst hlr2
    refine ew_at (E := [(1, (.pointer (some p1))), (4, v31), (5, (Zv k2))]) hF2 (ew_then (cw_seq (cw_region (lw_op Z Z Z (ow_move Z Z (lw_op Z Z Z (ow_assign Z Z (lw_op Z Z Z (ow_assign Z Z (lw_nil (ew_then (cw_ret ?_))))))))))))
    obtain rfl := sj h
    exact ew_ret (res2 Z (.tmp Z) (.tmp Z)) ⟨_, Z, ⟨_, _, Z, (hw14.freezeBack hC44 hO), ((vbool _))⟩, hC44.bx⟩
 ·
  subst hc1
  refine lw_off Z Z Z Z Z Z (lw_off Z Z Z Z Z Z (lw_op Z Z Z (ow_pickT Z Z Z (lw_nil (ew_then (cw_true Z (cw_seq (cw_region (lw_op Z Z Z (ow_move Z Z (lw_op Z Z Z (ow_assign Z Z (lw_op Z Z Z (ow_assign Z Z (lw_nil (ew_then (cw_ret (ew_thenR ?_))))))))))))))))))
  obtain rfl := sj h
  exact ew_ret (res2 Z (.tmp Z) (.tmp Z)) ⟨_, Z, ⟨_, _, Z, (hr2.freezeBack hC3 hO), ((vbool _))⟩, hC3.bx⟩

theorem w_laws_toSpan {w : World} {M : Nat → Prop} (_hG : ARep (RArr 4 RShape) w M shapes ⟨0, 0, none⟩) (hO : ∀ b, M b → b < w.heap.size) {v0p : Value} {a_a : Span} (h0 : VRep RSpan w M a_a v0p) {r : Span} (h : F.laws_toSpan a_a = some r) :
  Calls Tryd.prog 178 [v0p].toArray w fun e w' => ∃ v, e = .returned v ∧ VRep RSpan w' M r v ∧ BX No w w' := by
 have hC : Cx No w M w M := Cx.start hO (fun _ e => e.elim)
 clear _hG
 refine walk (N := 11) Tryd.func178 Z Tryd.ntmps178 Z (cw_seq (cw_region (lw_op Z Z Z (ow_box (R := RSpan) Z Z h0 hC fun p1 w1 hp1 hb1 hl1 hC1 => lw_op Z Z Z (ow_alloc Z (Tryd.zeroValue120 _) hC1 fun g1 w2 hg1 hg2 ho1 hb2 hl2 hC2 => ?_)))))
 have hm1 : (Add g1 M) g1 := .inl Z
 refine lw_nil (ew_then (cw_seq (cw_region (lw_op Z Z Z (ow_alloc Z (Tryd.zeroValue120 _) hC2 fun g2 w3 hg3 hg4 ho2 hb3 hl3 hC3 => ?_)))))
 have hn1 := Nat.ne_of_lt (Nat.lt_of_lt_of_le ho1.lt hg3)
 have ho3 := ho1.no hb3
 have hm2 : (Add g2 (Add g1 M)) g1 := .inr hm1
 have hm3 : (Add g2 (Add g1 M)) g2 := .inl Z
 refine lw_nil (ew_then (cw_seq (cw_region (lw_op Z Z Z (ow_fieldAddr Z Z Tryd.underlying236 Z (Tryd.sizeOf3 _) (lw_op Z Z Z (ow_load (R := RInt) Z Z (ARep.mono (hl2.trans hl3) (hp1.fld fld_Span_Lo)) (Tryd.sizeOf3 _) (Tryd.isAgg3 _) fun v1 hv1 => ?_)))))))
 obtain rfl := vint_eq hv1
 refine lw_op Z Z Z (ow_fieldAddr Z Z Tryd.underlying120 Z (Tryd.sizeOf3 _) (lw_op0 Z Z (ow_store (X := No) (us := [(Zv a_a.Lo)]) (cs' := #[(Zv a_a.Lo), (Zv 0)]) Z Z Z Z ho2 (Tryd.sizeOf3 _) Z Z Z Z hm3 (.inl hg4) Z hC3 fun w4 ho4 hb4 hl4 hC4 => ?_)))
 have ho5 := ho3.go hb4 (fun e => hn1 e)
 refine lw_nil (ew_then (cw_seq (cw_region (lw_op Z Z Z (ow_fieldAddr Z Z Tryd.underlying236 Z (Tryd.sizeOf3 _) ?_)))))
 have lz1 := ((hl2.trans hl3).trans hl4)
 refine lw_op Z Z Z (ow_load (R := RInt) Z Z (ARep.mono lz1 (hp1.fld fld_Span_Hi)) (Tryd.sizeOf3 _) (Tryd.isAgg3 _) fun v2 hv2 => ?_)
 obtain rfl := vint_eq hv2
 refine lw_op Z Z Z (ow_fieldAddr Z Z Tryd.underlying120 Z (Tryd.sizeOf3 _) (lw_op0 Z Z (ow_store (X := No) (us := [(Zv a_a.Hi)]) (cs' := #[(Zv a_a.Lo), (Zv a_a.Hi)]) Z Z Z Z ho4 (Tryd.sizeOf3 _) Z Z Z Z hm3 (.inl hg4) Z hC4 fun w5 ho6 hb5 hl5 hC5 => ?_)))
 have ho7 := ho5.go hb5 (fun e => hn1 e)
 refine lw_nil (ew_then (cw_seq (cw_region (lw_op Z Z Z (ow_loadOwnA Z Z Z ho6 (Tryd.isAgg120 _) (Tryd.sizeOf120 _) Z (lw_op0 Z Z (ow_store (X := No) (us := [(Zv a_a.Lo), (Zv a_a.Hi)]) (cs' := #[(Zv a_a.Lo), (Zv a_a.Hi)]) Z Z Z Z ho7 (Tryd.sizeOf120 _) Z Z Z Z hm2 (.inl hg2) Z hC5 fun w6 ho8 hb6 hl6 hC6 => lw_nil (ew_then (cw_ret ?_)))))))))
 have hw2 : VRep RSpan w6 (Add g2 (Add g1 M)) ({ Lo := a_a.Lo, Hi := a_a.Hi } : Span) (.agg #[(Zv a_a.Lo), (Zv a_a.Hi)]) := shut_Span
 obtain rfl := sj h
 exact ew_ret (res1 Z (.cell Z (own_loadVarA ho8 (Tryd.isAgg120 _) (Tryd.sizeOf120 _) Z))) ⟨_, Z, (hw2.mono hC6.back), hC6.bx⟩

theorem wu_laws_toSpanS {w : World} {M : Nat → Prop} (hG : ARep (RArr 4 RShape) w M shapes ⟨0, 0, none⟩) (hO : ∀ b, M b → b < w.heap.size) {Y : Nat → Prop} (hY : ∀ b, w.heap.size ≤ b → Y b) {v0p : Value} {a_a : List Span} (h0 : VRep (RSlice RSpan) w M a_a v0p) {r : (List Span)} (h : F.laws_toSpanS a_a = some r) :
  Calls Tryd.prog 150 [v0p].toArray w fun e w' => ∃ v, e = .returned v ∧ VRep (RSliceU Y RSpan) w' M r v ∧ BX No w w' := by
 obtain ⟨i120, hi120, hz120, hs120, hy120⟩ := info120
 have hC : Cx No w M w M := Cx.start hO (fun _ e => e.elim)
 refine walk (N := 23) Tryd.func150 Z Tryd.ntmps150 Z (cw_seq (cw_region (lw_op Z Z Z (ow_assign Z Z (lw_nil (ew_then (cw_seq (cw_region (lw_op Z Z Z (ow_move Z Z (lw_op Z Z Z (ow_len Z Z h0 Tryd.underlying197 Z ?_))))))))))))
 replace h := bind_some h
 obtain ⟨mk1, hmk1, h⟩ := h
 refine lw_op Z Z Z (ow_make (R := RSpan) Z Z Z Tryd.underlying121 hi120 hz120 hs120 hy120 Z Z (shut_Span) hmk1 hC fun v1 w1 M1 hr1 hb1 hl1 hC1 hM1 hat1 => lw_op Z Z Z (ow_assign Z Z (lw_nil (ew_then (cw_seq (cw_seq (cw_region (lw_op Z Z Z (ow_assign Z Z (lw_nil (ew_then ?_)))))))))))
 replace h := bind_some h
 obtain ⟨lr1, hlr1, h⟩ := h
 refine cw_for hlr1 (fun s a w' => ∃ (M' : Nat → Prop), Fits 23 [(0, v0p), (3, v1), (4, (Zv s.1))] a ∧ Le w1 M1 w' M' ∧ Cx No w M w' M' ∧ OwnRow RSpan w.heap.size 120 w' M' s.2 v1) ?_ ?_ ?_
 · exact fun a ha => ⟨M1, ha.sub ⟨Z, Z, Z, Zt⟩, Le.refl _ _, hC1, hr1⟩
 ·
  rintro ⟨k1, y1⟩ a w2 sr1 ⟨M2, hF1, hl2, hC2, hw1⟩ hb2 hR1
  refine cw_at (E := [(0, v0p), (3, v1), (4, (Zv k1))]) hF1 (cw_seq (cw_seq (cw_region (lw_op Z Z Z (ow_move Z Z (lw_op Z Z Z (ow_move Z Z (lw_op Z Z Z (ow_len Z Z (VRep.mono (hl1.trans hl2) h0) Tryd.underlying197 Z (lw_op Z Z Z (ow_lss Z Z Z fun bb1 hbb1 => lw_nil (ew_then ?_))))))))))))
  replace hb2 := cond_some hb2
  rcases hb2 with ⟨hc1, hb2⟩ | ⟨hc1, hb2⟩
  ·
   obtain rfl := hbb1.trans hc1
   refine cw_true Z (cw_skip (ew_then (cw_seq (cw_block (cw_region (lw_op Z Z Z (ow_move Z Z (lw_op Z Z Z (ow_move Z Z (lw_op Z Z Z (ow_move Z Z (lw_op Z Z Z (ow_move Z Z ?_)))))))))))))
   replace hb2 := bind_some hb2
   obtain ⟨x1, hx1, hb2⟩ := hb2
   refine lw_op Z Z Z (ow_indexSlice (R := RSpan) Z Z Z (VRep.mono (hl1.trans hl2) h0) Tryd.underlying197 (Tryd.sizeOf236 _) hx1 fun p1 hp1 => lw_op Z Z Z (ow_load (R := RSpan) Z Z hp1 (Tryd.sizeOf236 _) (Tryd.isAgg236 _) fun v4 hv4 => ?_))
   replace hb2 := bind_some hb2
   obtain ⟨x2, hx2, hb2⟩ := hb2
   refine lw_op Z Z Z (ow_call Z Z Tryd.call178 (w_laws_toSpan (hG.mono (hl1.trans hl2)) hC2.old hv4 hx2) fun v5 w3 hv5 => ?_)
   obtain ⟨hv5, hb3⟩ := hv5
   have hl3 := Le.no M2 hb3
   have hC3 := hC2.no hb3
   have hr2 := hw1.no hb3
   replace hb2 := bind_some hb2
   obtain ⟨x3, hx3, hb2⟩ := hb2
   refine lw_op Z Z Z (ow_indexRow (R := RSpan) Z Z Z hr2 Tryd.underlying121 (Tryd.sizeOf120 _) hx3 (lw_op0 Z Z (ow_storeElRow (X := No) (R := RSpan) (S := RSpan) Z Z Z Z hr2 (orow_blk hr2 hx3) hx3 (FldSet.whole RSpan) (Tryd.sizeOf120 _) hv5 (Nat.le_refl _) hC3 fun w4 ho1 hb4 hl4 hC4 => lw_nil (ew_blockN (ew_then (cw_region (lw_op Z Z Z (ow_move Z Z (lw_op Z Z Z (ow_add Z Z Z (lw_op Z Z Z (ow_assign Z Z (lw_nil ?_)))))))))))))
   have lz1 := ((hl2.trans hl3).trans hl4)
   exact ew_nxt ((W (k1 + 1)), (List.set y1 (k1 : Int).toNat x2)) hb2 fun a ha => ⟨M2, (ha.sub ⟨Z, Z, Z, Zt⟩), lz1, hC4, ho1⟩
  ·
   obtain rfl := hbb1.trans hc1
   exact cw_false Z (cw_exit (ew_thenX (ew_thenX (ew_blockX (ew_brk (k1, y1) hb2 fun a ha => ⟨M2, (ha.sub ⟨Z, Z, Z, Zt⟩), hl2, hC2, hw1⟩)))))
 ·
  rintro ⟨k2, y2⟩ a w5 hlr2 ⟨M3, hF2, hl5, hC5, hw2⟩
  subst hlr2
  refine ew_at (E := [(0, v0p), (3, v1), (4, (Zv k2))]) hF2 (ew_then (cw_seq (cw_region (lw_op Z Z Z (ow_move Z Z (lw_op Z Z Z (ow_assign Z Z (lw_nil (ew_then (cw_ret ?_))))))))))
  obtain rfl := sj h
  exact ew_ret (res1 Z (.tmp Z)) ⟨_, Z, (hw2.freezeBackU hC5 hO hY), hC5.bx⟩

theorem wu_laws_toSpanSS {w : World} {M : Nat → Prop} (hG : ARep (RArr 4 RShape) w M shapes ⟨0, 0, none⟩) (hO : ∀ b, M b → b < w.heap.size) {Y : Nat → Prop} (hY : ∀ b, w.heap.size ≤ b → Y b) {v0p : Value} {a_a : List (List Span)} (h0 : VRep (RSlice (RSlice RSpan)) w M a_a v0p) {r : (List (List Span))} (h : F.laws_toSpanSS a_a = some r) :
  Calls Tryd.prog 89 [v0p].toArray w fun e w' => ∃ v, e = .returned v ∧ VRep (RSliceU Y (RSliceU Y RSpan)) w' M r v ∧ BX No w w' := by
 obtain ⟨i121, hi121, hz121, hs121, hy121⟩ := info121
 have hC : Cx No w M w M := Cx.start hO (fun _ e => e.elim)
 refine walk (N := 23) Tryd.func89 Z Tryd.ntmps89 Z (cw_seq (cw_region (lw_op Z Z Z (ow_assign Z Z (lw_nil (ew_then (cw_seq (cw_region (lw_op Z Z Z (ow_move Z Z (lw_op Z Z Z (ow_len Z Z h0 Tryd.underlying40 Z ?_))))))))))))
 replace h := bind_some h
 obtain ⟨mk1, hmk1, h⟩ := h
 refine lw_op Z Z Z (ow_make (R := (RSliceU Y RSpan)) Z Z Z Tryd.underlying46 hi121 hz121 hs121 hy121 Z Z vsliceU_nil hmk1 hC fun v1 w1 M1 hr1 hb1 hl1 hC1 hM1 hat1 => lw_op Z Z Z (ow_assign Z Z (lw_nil (ew_then (cw_seq (cw_seq (cw_region (lw_op Z Z Z (ow_assign Z Z (lw_nil (ew_then ?_)))))))))))
 replace h := bind_some h
 obtain ⟨lr1, hlr1, h⟩ := h
 refine cw_for hlr1 (fun s a w' => ∃ (M' : Nat → Prop), Fits 23 [(0, v0p), (3, v1), (4, (Zv s.1))] a ∧ Le w1 M1 w' M' ∧ Cx No w M w' M' ∧ OwnRow (RSliceU Y RSpan) w.heap.size 121 w' M' s.2 v1) ?_ ?_ ?_
 · exact fun a ha => ⟨M1, ha.sub ⟨Z, Z, Z, Zt⟩, Le.refl _ _, hC1, hr1⟩
 ·
  rintro ⟨k1, y1⟩ a w2 sr1 ⟨M2, hF1, hl2, hC2, hw1⟩ hb2 hR1
  refine cw_at (E := [(0, v0p), (3, v1), (4, (Zv k1))]) hF1 (cw_seq (cw_seq (cw_region (lw_op Z Z Z (ow_move Z Z (lw_op Z Z Z (ow_move Z Z (lw_op Z Z Z (ow_len Z Z (VRep.mono (hl1.trans hl2) h0) Tryd.underlying40 Z (lw_op Z Z Z (ow_lss Z Z Z fun bb1 hbb1 => lw_nil (ew_then ?_))))))))))))
  replace hb2 := cond_some hb2
  rcases hb2 with ⟨hc1, hb2⟩ | ⟨hc1, hb2⟩
  ·
   obtain rfl := hbb1.trans hc1
   refine cw_true Z (cw_skip (ew_then (cw_seq (cw_block (cw_region (lw_op Z Z Z (ow_move Z Z (lw_op Z Z Z (ow_move Z Z (lw_op Z Z Z (ow_move Z Z (lw_op Z Z Z (ow_move Z Z ?_)))))))))))))
   replace hb2 := bind_some hb2
   obtain ⟨x1, hx1, hb2⟩ := hb2
   refine lw_op Z Z Z (ow_indexSlice (R := (RSlice RSpan)) Z Z Z (VRep.mono (hl1.trans hl2) h0) Tryd.underlying40 (Tryd.sizeOf197 _) hx1 fun p1 hp1 => lw_op Z Z Z (ow_load (R := (RSlice RSpan)) Z Z hp1 (Tryd.sizeOf197 _) (Tryd.isAgg197 _) fun v4 hv4 => ?_))
   replace hb2 := bind_some hb2
   obtain ⟨x2, hx2, hb2⟩ := hb2
   refine lw_op Z Z Z (ow_call Z Z Tryd.call150 (wu_laws_toSpanS (hG.mono (hl1.trans hl2)) hC2.old (fun b hb => hY b (Nat.le_trans hC2.bx.size hb)) hv4 hx2) fun v5 w3 hv5 => ?_)
   obtain ⟨hv5, hb3⟩ := hv5
   have hl3 := Le.no M2 hb3
   have hC3 := hC2.no hb3
   have hr2 := hw1.no hb3
   replace hb2 := bind_some hb2
   obtain ⟨x3, hx3, hb2⟩ := hb2
   refine lw_op Z Z Z (ow_indexRow (R := (RSliceU Y RSpan)) Z Z Z hr2 Tryd.underlying46 (Tryd.sizeOf121 _) hx3 (lw_op0 Z Z (ow_storeElRow (X := No) (R := (RSliceU Y RSpan)) (S := (RSliceU Y RSpan)) Z Z Z Z hr2 (orow_blk hr2 hx3) hx3 (FldSet.whole (RSliceU Y RSpan)) (Tryd.sizeOf121 _) hv5 (Nat.le_refl _) hC3 fun w4 ho1 hb4 hl4 hC4 => lw_nil (ew_blockN (ew_then (cw_region (lw_op Z Z Z (ow_move Z Z (lw_op Z Z Z (ow_add Z Z Z (lw_op Z Z Z (ow_assign Z Z (lw_nil ?_)))))))))))))
   have lz1 := ((hl2.trans hl3).trans hl4)
   exact ew_nxt ((W (k1 + 1)), (List.set y1 (k1 : Int).toNat x2)) hb2 fun a ha => ⟨M2, (ha.sub ⟨Z, Z, Z, Zt⟩), lz1, hC4, ho1⟩
  ·
   obtain rfl := hbb1.trans hc1
   exact cw_false Z (cw_exit (ew_thenX (ew_thenX (ew_blockX (ew_brk (k1, y1) hb2 fun a ha => ⟨M2, (ha.sub ⟨Z, Z, Z, Zt⟩), hl2, hC2, hw1⟩)))))
 ·
  rintro ⟨k2, y2⟩ a w5 hlr2 ⟨M3, hF2, hl5, hC5, hw2⟩
  subst hlr2
  refine ew_at (E := [(0, v0p), (3, v1), (4, (Zv k2))]) hF2 (ew_then (cw_seq (cw_region (lw_op Z Z Z (ow_move Z Z (lw_op Z Z Z (ow_assign Z Z (lw_nil (ew_then (cw_ret ?_))))))))))
  obtain rfl := sj h
  exact ew_ret (res1 Z (.tmp Z)) ⟨_, Z, (hw2.freezeBackU hC5 hO hY), hC5.bx⟩

theorem wu_laws_toBox {w : World} {M : Nat → Prop} (hG : ARep (RArr 4 RShape) w M shapes ⟨0, 0, none⟩) (hO : ∀ b, M b → b < w.heap.size) {Y : Nat → Prop} (hY : ∀ b, w.heap.size ≤ b → Y b) {v0p : Value} {a_a : Box} (h0 : VRep RBox w M a_a v0p) {r : Box} (h : F.laws_toBox a_a = some r) :
  Calls Tryd.prog 23 [v0p].toArray w fun e w' => ∃ v, e = .returned v ∧ VRep (RBoxU Y) w' M r v ∧ BX No w w' := by
 have hC : Cx No w M w M := Cx.start hO (fun _ e => e.elim)
 refine walk (N := 9) Tryd.func23 Z Tryd.ntmps23 Z (cw_seq (cw_region (lw_op Z Z Z (ow_box (R := RBox) Z Z h0 hC fun p1 w1 hp1 hb1 hl1 hC1 => lw_op Z Z Z (ow_alloc Z (Tryd.zeroValue48 _) hC1 fun g1 w2 hg1 hg2 ho1 hb2 hl2 hC2 => ?_)))))
 have hm1 : (Add g1 M) g1 := .inl Z
 refine lw_nil (ew_then (cw_seq (cw_region (lw_op Z Z Z (ow_alloc Z (Tryd.zeroValue48 _) hC2 fun g2 w3 hg3 hg4 ho2 hb3 hl3 hC3 => ?_)))))
 have hn1 := Nat.ne_of_lt (Nat.lt_of_lt_of_le ho1.lt hg3)
 have ho3 := ho1.no hb3
 have hm2 : (Add g2 (Add g1 M)) g1 := .inr hm1
 have hm3 : (Add g2 (Add g1 M)) g2 := .inl Z
 refine lw_nil (ew_then (cw_seq (cw_region (lw_op Z Z Z (ow_fieldAddr Z Z Tryd.underlying42 Z (Tryd.sizeOf40 _) (lw_op Z Z Z (ow_load (R := (RSlice (RSlice RSpan))) Z Z (ARep.mono (hl2.trans hl3) (hp1.fld fld_Box_Sides)) (Tryd.sizeOf40 _) (Tryd.isAgg40 _) fun v1 hv1 => ?_)))))))
 replace h := bind_some h
 obtain ⟨x1, hx1, h⟩ := h
 have lz1 := ((hl1.trans hl2).trans hl3)
 refine lw_op Z Z Z (ow_call Z Z Tryd.call89 (wu_laws_toSpanSS (hG.mono lz1) hC3.old (fun b hb => hY b (Nat.le_trans hC3.bx.size hb)) hv1 hx1) fun v2 w4 hv2 => ?_)
 obtain ⟨hv2, hb4⟩ := hv2
 have hC4 := hC3.no hb4
 have ho4 := ho3.no hb4
 have ho5 := ho2.no hb4
 refine lw_op Z Z Z (ow_fieldAddr Z Z Tryd.underlying48 Z (Tryd.sizeOf46 _) ?_)
 obtain ⟨A1, c1, rfl, -⟩ := vsliceU_shape hv2
 refine lw_op0 Z Z (ow_store (X := No) (us := [(.slice A1 x1.length c1)]) (cs' := #[(.slice A1 x1.length c1)]) Z Z Z Z ho5 (Tryd.sizeOf46 _) Z Z Z Z hm3 (.inl hg4) Z hC4 fun w5 ho6 hb5 hl5 hC5 => ?_)
 have ho7 := ho4.go hb5 (fun e => hn1 e)
 refine lw_nil (ew_then (cw_seq (cw_region (lw_op Z Z Z (ow_loadOwnA Z Z Z ho6 (Tryd.isAgg48 _) (Tryd.sizeOf48 _) Z (lw_op0 Z Z (ow_store (X := No) (us := [(.slice A1 x1.length c1)]) (cs' := #[(.slice A1 x1.length c1)]) Z Z Z Z ho7 (Tryd.sizeOf48 _) Z Z Z Z hm2 (.inl hg2) Z hC5 fun w6 ho8 hb6 hl6 hC6 => lw_nil (ew_then (cw_ret ?_)))))))))
 have hw2 : VRep (RBoxU Y) w6 (Add g2 (Add g1 M)) ({ Sides := x1 } : Box) (.agg #[(.slice A1 x1.length c1)]) := shutU_Box (VRep.mono (hl5.trans hl6) hv2)
 obtain rfl := sj h
 exact ew_ret (res1 Z (.cell Z (own_loadVarA ho8 (Tryd.isAgg48 _) (Tryd.sizeOf48 _) Z))) ⟨_, Z, (hw2.mono hC6.back), hC6.bx⟩

theorem w_impl_FieldTop {w : World} {M : Nat → Prop} (hG : ARep (RArr 4 RShape) w M shapes ⟨0, 0, none⟩) (hO : ∀ b, M b → b < w.heap.size) {a_n : Int} {r : Int} (h : F.impl_FieldTop a_n = some r) :
  Calls Tryd.prog 142 [(.int .i64 a_n)].toArray w fun e w' => ∃ v, e = .returned v ∧ VRep RInt w' M r v ∧ BX No w w' := by
 have hC : Cx No w M w M := Cx.start hO (fun _ e => e.elim)
 refine walk (N := 13) Tryd.func142 Z Tryd.ntmps142 Z (cw_seq (cw_region (lw_op Z Z Z (ow_assign Z Z (lw_nil (ew_then (cw_seq (cw_seq (cw_region (lw_op Z Z Z (ow_move Z Z (lw_op Z Z Z (ow_lss Z Z Z fun bb1 hbb1 => lw_op Z Z Z (ow_move Z Z ?_))))))))))))))
 replace h := cond_some h
 rcases h with ⟨hc1, h⟩ | ⟨hc1, h⟩
 ·
  obtain rfl := hbb1.trans hc1
  refine lw_off Z Z Z Z Z Z (lw_off Z Z Z Z Z Z (lw_op Z Z Z (ow_pickT Z Z Z (lw_nil (ew_then (cw_true Z (cw_seq (cw_region (lw_op Z Z Z (ow_assign Z Z (lw_nil (ew_then (cw_ret (ew_thenR ?_))))))))))))))
  obtain rfl := sj h
  exact ew_ret (res1 Z (.tmp Z)) ⟨_, Z, ((vint _)), hC.bx⟩
 ·
  obtain rfl := hbb1.trans hc1
  refine lw_on Z Z Z Z Z Z (ow_move Z Z (lw_on Z Z Z Z Z Z (ow_geq Z Z Z fun bb2 hbb2 => lw_op Z Z Z (ow_pickF Z Z Z (lw_nil (ew_then ?_))))))
  replace h := cond_some h
  rcases h with ⟨hc2, h⟩ | ⟨hc2, h⟩
  ·
   obtain rfl := hbb2.trans hc2
   refine cw_true Z (cw_seq (cw_region (lw_op Z Z Z (ow_assign Z Z (lw_nil (ew_then (cw_ret (ew_thenR ?_))))))))
   obtain rfl := sj h
   exact ew_ret (res1 Z (.tmp Z)) ⟨_, Z, ((vint _)), hC.bx⟩
  ·
   obtain rfl := hbb2.trans hc2
   refine cw_false Z (cw_skip (ew_then (cw_seq (cw_region (lw_op Z Z Z (ow_move Z Z ?_))))))
   replace h := bind_some h
   obtain ⟨x1, hx1, h⟩ := h
   refine lw_op Z Z Z (ow_indexArr (R := RShape) Z Z Z hG Tryd.underlying135 (Tryd.sizeOf134 _) hx1 fun p1 hp1 => lw_op Z Z Z (ow_fieldAddr Z Z Tryd.underlying134 Z (Tryd.sizeOf3 _) (lw_op Z Z Z (ow_load (R := RInt) Z Z (hp1.fld fld_Shape_top) (Tryd.sizeOf3 _) (Tryd.isAgg3 _) fun v1 hv1 => ?_))))
   obtain rfl := vint_eq hv1
   refine lw_op Z Z Z (ow_assign Z Z (lw_nil (ew_then (cw_ret ?_))))
   obtain rfl := sj h
   exact ew_ret (res1 Z (.tmp Z)) ⟨_, Z, ((vint _)), hC.bx⟩

theorem w_impl_topValid {w : World} {M : Nat → Prop} (_hG : ARep (RArr 4 RShape) w M shapes ⟨0, 0, none⟩) (hO : ∀ b, M b → b < w.heap.size) {a_top : Int} {r : Bool} (h : F.impl_topValid a_top = some r) :
  Calls Tryd.prog 179 [(.int .i64 a_top)].toArray w fun e w' => ∃ v, e = .returned v ∧ VRep RBool w' M r v ∧ BX No w w' := by
 have hC : Cx No w M w M := Cx.start hO (fun _ e => e.elim)
 clear _hG
 refine walk (N := 9) Tryd.func179 Z Tryd.ntmps179 Z (cw_seq (cw_region (lw_op Z Z Z (ow_assign Z Z (lw_nil (ew_then (cw_seq (cw_region (lw_op Z Z Z (ow_move Z Z (lw_op Z Z Z (ow_geq Z Z Z fun bb1 hbb1 => lw_op Z Z Z (ow_move Z Z ?_)))))))))))))
 replace h := cond_some h
 rcases h with ⟨hc1, h⟩ | ⟨hc1, h⟩
 ·
  obtain rfl := hbb1.trans hc1
  refine lw_on Z Z Z Z Z Z (ow_move Z Z (lw_on Z Z Z Z Z Z (ow_leq Z Z Z fun bb2 hbb2 => lw_op Z Z Z (ow_pickT Z Z Z (lw_op Z Z Z (ow_assign Z Z (lw_nil (ew_then (cw_ret ?_)))))))))
  obtain rfl := sj h
  exact ew_ret (res1 Z (.tmp Z)) ⟨_, Z, ((vbool_of hbb2)), hC.bx⟩
 ·
  obtain rfl := hbb1.trans hc1
  refine lw_off Z Z Z Z Z Z (lw_off Z Z Z Z Z Z (lw_op Z Z Z (ow_pickF Z Z Z (lw_op Z Z Z (ow_assign Z Z (lw_nil (ew_then (cw_ret ?_))))))))
  obtain rfl := sj h
  exact ew_ret (res1 Z (.tmp Z)) ⟨_, Z, ((vbool _)), hC.bx⟩

theorem w_impl_SpansValid {w : World} {M : Nat → Prop} (hG : ARep (RArr 4 RShape) w M shapes ⟨0, 0, none⟩) (hO : ∀ b, M b → b < w.heap.size) {v0p : Value} {a_list : List Span} (h0 : VRep (RSlice RSpan) w M a_list v0p) {a_top : Int} {r : Bool} (h : F.impl_SpansValid a_list a_top = some r) :
  Calls Tryd.prog 151 [v0p, (.int .i64 a_top)].toArray w fun e w' => ∃ v, e = .returned v ∧ VRep RBool w' M r v ∧ BX No w w' := by
 have hC : Cx No w M w M := Cx.start hO (fun _ e => e.elim)
 refine walk (N := 43) Tryd.func151 Z Tryd.ntmps151 Z (cw_seq (cw_region (lw_op Z Z Z (ow_assign Z Z (lw_nil (ew_then (cw_seq (cw_seq (cw_region (lw_op Z Z Z (ow_move Z Z ?_)))))))))))
 replace h := bind_some h
 obtain ⟨x1, hx1, h⟩ := h
 refine lw_op Z Z Z (ow_call Z Z Tryd.call179 (w_impl_topValid hG hC.old hx1) fun v1 w1 hv1 => ?_)
 obtain ⟨hv1, hb1⟩ := hv1
 have hl1 := Le.no M hb1
 have hC1 := hC.no hb1
 obtain rfl := vbool_eq hv1
 refine lw_op Z Z Z (ow_not Z Z (lw_op Z Z Z (ow_move Z Z ?_)))
 replace h := cond_some h
 rcases h with ⟨hc1, h⟩ | ⟨hc1, h⟩
 ·
  subst hc1
  refine lw_on Z Z Z Z Z Z (ow_move Z Z (lw_on Z Z Z Z Z Z (ow_len Z Z (VRep.mono hl1 h0) Tryd.underlying121 Z (lw_on Z Z Z Z Z Z (ow_gtr Z Z Z fun bb1 hbb1 => lw_op Z Z Z (ow_pickF Z Z Z (lw_nil (ew_then ?_))))))))
  replace h := cond_some h
  rcases h with ⟨hc2, h⟩ | ⟨hc2, h⟩
  ·
   obtain rfl := hbb1.trans hc2
   refine cw_true Z (cw_seq (cw_region (lw_op Z Z Z (ow_assign Z Z (lw_nil (ew_then (cw_ret (ew_thenR ?_))))))))
   obtain rfl := sj h
   exact ew_ret (res1 Z (.tmp Z)) ⟨_, Z, ((vbool _)), hC1.bx⟩
  ·
   obtain rfl := hbb1.trans hc2
   refine cw_false Z (cw_skip (ew_then (cw_seq (cw_region (lw_op Z Z Z (ow_assign Z Z (lw_nil (ew_then (cw_seq (cw_seq (cw_region (lw_op Z Z Z (ow_move Z Z (lw_op Z Z Z (ow_len Z Z (VRep.mono hl1 h0) Tryd.underlying121 Z (lw_op Z Z Z (ow_move Z Z (lw_nil (ew_then ?_)))))))))))))))))))
   replace h := bind_some h
   obtain ⟨lr1, hlr1, h⟩ := h
   refine cw_for hlr1 (fun s a w' => ∃ (M' : Nat → Prop), Fits 43 [(1, (Zv a_top)), (5, (Zv s.1)), (16, v0p), (17, (Zv (a_list.length : Int))), (18, (Zv s.2))] a ∧ Le w1 M w' M' ∧ Cx No w M w' M') ?_ ?_ ?_
   · exact fun a ha => ⟨M, ha.sub ⟨Z, Z, Z, Z, Z, Zt⟩, Le.refl _ _, hC1⟩
   ·
    rintro ⟨k1, k2⟩ a w2 sr1 ⟨M1, hF1, hl2, hC2⟩ hb2 hR1
    refine cw_at (E := [(1, (Zv a_top)), (5, (Zv k1)), (16, v0p), (17, (Zv (a_list.length : Int))), (18, (Zv k2))]) hF1 (cw_seq (cw_region (lw_op Z Z Z (ow_lss Z Z Z fun bb2 hbb2 => lw_nil (ew_then (cw_seq ?_))))))
    replace hb2 := cond_some hb2
    rcases hb2 with ⟨hc3, hb2⟩ | ⟨hc3, hb2⟩
    ·
     obtain rfl := hbb2.trans hc3
     refine cw_true Z (cw_skip (ew_then (cw_seq (cw_block (cw_seq (cw_region ?_))))))
     replace hb2 := bind_some hb2
     obtain ⟨x2, hx2, hb2⟩ := hb2
     refine lw_op Z Z Z (ow_indexSlice (R := RSpan) Z Z Z (VRep.mono (hl1.trans hl2) h0) Tryd.underlying121 (Tryd.sizeOf120 _) hx2 fun p1 hp1 => lw_op Z Z Z (ow_load (R := RSpan) Z Z hp1 (Tryd.sizeOf120 _) (Tryd.isAgg120 _) fun v4 hv4 => lw_allocStore (R := RSpan) Z Z Z Z Z Z Z Tryd.zeroValue120 Tryd.sizeOf120 Z Z Z (by simp) hv4 hC2 fun p2 w3 hp2 hb3 hl3 hC3 => lw_nil (ew_then (cw_seq (cw_seq (cw_region (lw_op Z Z Z (ow_fieldAddr Z Z Tryd.underlying120 Z (Tryd.sizeOf3 _) (lw_op Z Z Z (ow_load (R := RInt) Z Z (hp2.fld fld_Span_Lo) (Tryd.sizeOf3 _) (Tryd.isAgg3 _) fun v5 hv5 => ?_))))))))))
     obtain rfl := vint_eq hv5
     refine lw_op Z Z Z (ow_move Z Z (lw_op Z Z Z (ow_add Z Z Z (lw_op Z Z Z (ow_leq Z Z Z fun bb3 hbb3 => lw_op Z Z Z (ow_move Z Z ?_))))))
     replace hb2 := cond_some hb2
     rcases hb2 with ⟨hc4, hb2⟩ | ⟨hc4, hb2⟩
     ·
      obtain rfl := hbb3.trans hc4
      refine lw_off Z Z Z Z Z Z (lw_off Z Z Z Z Z Z (lw_off Z Z Z Z Z Z (lw_off Z Z Z Z Z Z (lw_off Z Z Z Z Z Z (lw_op Z Z Z (ow_pickT Z Z Z (lw_op Z Z Z (ow_move Z Z (lw_off Z Z Z Z Z Z (lw_off Z Z Z Z Z Z (lw_off Z Z Z Z Z Z (lw_off Z Z Z Z Z Z (lw_op Z Z Z (ow_pickT Z Z Z (lw_nil (ew_then (cw_true Z (cw_seq (cw_region (lw_op Z Z Z (ow_assign Z Z (lw_nil (ew_then (cw_ret (ew_thenR (ew_blockR (ew_thenR (ew_thenR ?_))))))))))))))))))))))))))))
      refine ew_blockR (ew_brkR (ew_thenR ?_))
      have e1 := hR1 _ (sj hb2).symm
      subst e1
      obtain rfl := sj h
      exact ew_ret (res1 Z (.tmp Z)) ⟨_, Z, ((vbool _)), hC3.bx⟩
     ·
      obtain rfl := hbb3.trans hc4
      refine lw_on Z Z Z Z Z Z (ow_fieldAddr Z Z Tryd.underlying120 Z (Tryd.sizeOf3 _) (lw_on Z Z Z Z Z Z (ow_load (R := RInt) Z Z (hp2.fld fld_Span_Lo) (Tryd.sizeOf3 _) (Tryd.isAgg3 _) fun v6 hv6 => ?_)))
      obtain rfl := vint_eq hv6
      refine lw_on Z Z Z Z Z Z (ow_fieldAddr Z Z Tryd.underlying120 Z (Tryd.sizeOf3 _) (lw_on Z Z Z Z Z Z (ow_load (R := RInt) Z Z (hp2.fld fld_Span_Hi) (Tryd.sizeOf3 _) (Tryd.isAgg3 _) fun v7 hv7 => ?_)))
      obtain rfl := vint_eq hv7
      refine lw_on Z Z Z Z Z Z (ow_gtr Z Z Z fun bb4 hbb4 => lw_op Z Z Z (ow_pickF Z Z Z (lw_op Z Z Z (ow_move Z Z ?_))))
      replace hb2 := cond_some hb2
      rcases hb2 with ⟨hc5, hb2⟩ | ⟨hc5, hb2⟩
      ·
       obtain rfl := hbb4.trans hc5
       refine lw_off Z Z Z Z Z Z (lw_off Z Z Z Z Z Z (lw_off Z Z Z Z Z Z (lw_off Z Z Z Z Z Z (lw_op Z Z Z (ow_pickT Z Z Z (lw_nil (ew_then (cw_true Z (cw_seq (cw_region (lw_op Z Z Z (ow_assign Z Z (lw_nil (ew_then (cw_ret (ew_thenR (ew_blockR (ew_thenR (ew_thenR (ew_blockR (ew_brkR (ew_thenR ?_))))))))))))))))))))))
       have e2 := hR1 _ (sj hb2).symm
       subst e2
       obtain rfl := sj h
       exact ew_ret (res1 Z (.tmp Z)) ⟨_, Z, ((vbool _)), hC3.bx⟩
      ·
       obtain rfl := hbb4.trans hc5
       refine lw_on Z Z Z Z Z Z (ow_fieldAddr Z Z Tryd.underlying120 Z (Tryd.sizeOf3 _) (lw_on Z Z Z Z Z Z (ow_load (R := RInt) Z Z (hp2.fld fld_Span_Hi) (Tryd.sizeOf3 _) (Tryd.isAgg3 _) fun v8 hv8 => ?_)))
       obtain rfl := vint_eq hv8
       refine lw_on Z Z Z Z Z Z (ow_move Z Z (lw_on Z Z Z Z Z Z (ow_gtr Z Z Z fun bb5 hbb5 => lw_op Z Z Z (ow_pickF Z Z Z (lw_nil (ew_then ?_))))))
       replace hb2 := cond_some hb2
       rcases hb2 with ⟨hc6, hb2⟩ | ⟨hc6, hb2⟩
       ·
        obtain rfl := hbb5.trans hc6
        refine cw_true Z (cw_seq (cw_region (lw_op Z Z Z (ow_assign Z Z (lw_nil (ew_then (cw_ret (ew_thenR (ew_blockR (ew_thenR (ew_thenR (ew_blockR (ew_brkR (ew_thenR ?_))))))))))))))
        have e3 := hR1 _ (sj hb2).symm
        subst e3
        obtain rfl := sj h
        exact ew_ret (res1 Z (.tmp Z)) ⟨_, Z, ((vbool _)), hC3.bx⟩
       ·
        obtain rfl := hbb5.trans hc6
        refine cw_false Z (cw_skip (ew_then (cw_region (lw_op Z Z Z (ow_fieldAddr Z Z Tryd.underlying120 Z (Tryd.sizeOf3 _) (lw_op Z Z Z (ow_load (R := RInt) Z Z (hp2.fld fld_Span_Hi) (Tryd.sizeOf3 _) (Tryd.isAgg3 _) fun v9 hv9 => ?_)))))))
        obtain rfl := vint_eq hv9
        exact lw_op Z Z Z (ow_assign Z Z (lw_nil (ew_blockN (ew_then (cw_region (lw_op Z Z Z (ow_add Z Z Z (lw_op Z Z Z (ow_move Z Z (lw_nil (ew_nxt (x2.Hi, (W (k2 + 1))) hb2 fun a ha => ⟨M1, (ha.sub ⟨Z, Z, Z, Z, Z, Zt⟩), (hl2.trans hl3), hC3⟩)))))))))))
    ·
     obtain rfl := hbb2.trans hc3
     exact cw_false Z (cw_exit (ew_thenX (ew_thenX (ew_blockX (ew_brk (k1, k2) hb2 fun a ha => ⟨M1, (ha.sub ⟨Z, Z, Z, Z, Z, Zt⟩), hl2, hC2⟩)))))
   ·
    rintro ⟨k3, k4⟩ a w4 hlr2 ⟨M2, hF2, hl4, hC4⟩
    subst hlr2
    refine ew_at (E := [(1, (Zv a_top)), (5, (Zv k3)), (16, v0p), (17, (Zv (a_list.length : Int))), (18, (Zv k4))]) hF2 (ew_then (cw_seq (cw_region (lw_op Z Z Z (ow_assign Z Z (lw_nil (ew_then (cw_ret ?_))))))))
    obtain rfl := sj h
    exact ew_ret (res1 Z (.tmp Z)) ⟨_, Z, ((vbool _)), hC4.bx⟩
 ·
  subst hc1
  refine lw_off Z Z Z Z Z Z (lw_off Z Z Z Z Z Z (lw_off Z Z Z Z Z Z (lw_op Z Z Z (ow_pickT Z Z Z (lw_nil (ew_then (cw_true Z (cw_seq (cw_region (lw_op Z Z Z (ow_assign Z Z (lw_nil (ew_then (cw_ret (ew_thenR ?_)))))))))))))))
  obtain rfl := sj h
  exact ew_ret (res1 Z (.tmp Z)) ⟨_, Z, ((vbool _)), hC1.bx⟩

theorem w_impl_BoxValid {w : World} {M : Nat → Prop} (hG : ARep (RArr 4 RShape) w M shapes ⟨0, 0, none⟩) (hO : ∀ b, M b → b < w.heap.size) {v0p : Value} {a_b : Box} (h0 : VRep RBox w M a_b v0p) {r : Bool} (h : F.impl_BoxValid a_b = some r) :
  Calls Tryd.prog 90 [v0p].toArray w fun e w' => ∃ v, e = .returned v ∧ VRep RBool w' M r v ∧ BX No w w' := by
 have hC : Cx No w M w M := Cx.start hO (fun _ e => e.elim)
 refine walk (N := 23) Tryd.func90 Z Tryd.ntmps90 Z (cw_seq (cw_region (lw_op Z Z Z (ow_box (R := RBox) Z Z h0 hC fun p1 w1 hp1 hb1 hl1 hC1 => lw_op Z Z Z (ow_assign Z Z (lw_nil (ew_then (cw_seq (cw_seq (cw_region (lw_op Z Z Z (ow_fieldAddr Z Z Tryd.underlying48 Z (Tryd.sizeOf46 _) (lw_op Z Z Z (ow_load (R := (RSlice (RSlice RSpan))) Z Z (hp1.fld fld_Box_Sides) (Tryd.sizeOf46 _) (Tryd.isAgg46 _) fun v1 hv1 => lw_op Z Z Z (ow_len Z Z hv1 Tryd.underlying46 Z (lw_op Z Z Z (ow_neqI Z Z Z fun bb1 hbb1 => lw_nil (ew_then ?_))))))))))))))))))
 replace h := cond_some h
 rcases h with ⟨hc1, h⟩ | ⟨hc1, h⟩
 ·
  obtain rfl := hbb1.trans hc1
  refine cw_true Z (cw_seq (cw_region (lw_op Z Z Z (ow_assign Z Z (lw_nil (ew_then (cw_ret (ew_thenR ?_))))))))
  obtain rfl := sj h
  exact ew_ret (res1 Z (.tmp Z)) ⟨_, Z, ((vbool _)), hC1.bx⟩
 ·
  obtain rfl := hbb1.trans hc1
  refine cw_false Z (cw_skip (ew_then (cw_seq (cw_seq (cw_region (lw_op Z Z Z (ow_fieldAddr Z Z Tryd.underlying48 Z (Tryd.sizeOf46 _) (lw_op Z Z Z (ow_load (R := (RSlice (RSlice RSpan))) Z Z (hp1.fld fld_Box_Sides) (Tryd.sizeOf46 _) (Tryd.isAgg46 _) fun v2 hv2 => lw_op Z Z Z (ow_len Z Z hv2 Tryd.underlying46 Z (lw_op Z Z Z (ow_move Z Z (lw_nil (ew_then ?_))))))))))))))
  replace h := bind_some h
  obtain ⟨lr1, hlr1, h⟩ := h
  refine cw_for hlr1 (fun s a w' => ∃ (M' : Nat → Prop), Fits 23 [(10, v2), (11, (Zv (a_b.Sides.length : Int))), (12, (Zv s))] a ∧ Le w1 M w' M' ∧ Cx No w M w' M') ?_ ?_ ?_
  · exact fun a ha => ⟨M, ha.sub ⟨Z, Z, Z, Zt⟩, Le.refl _ _, hC1⟩
  ·
   rintro k1 a w2 sr1 ⟨M1, hF1, hl2, hC2⟩ hb2 hR1
   refine cw_at (E := [(10, v2), (11, (Zv (a_b.Sides.length : Int))), (12, (Zv k1))]) hF1 (cw_seq (cw_region (lw_op Z Z Z (ow_lss Z Z Z fun bb2 hbb2 => lw_nil (ew_then (cw_seq ?_))))))
   replace hb2 := cond_some hb2
   rcases hb2 with ⟨hc2, hb2⟩ | ⟨hc2, hb2⟩
   ·
    obtain rfl := hbb2.trans hc2
    refine cw_true Z (cw_skip (ew_then (cw_seq (cw_block (cw_seq (cw_region (lw_op Z Z Z (ow_move Z Z ?_))))))))
    replace hb2 := bind_some hb2
    obtain ⟨x1, hx1, hb2⟩ := hb2
    refine lw_op Z Z Z (ow_indexSlice (R := (RSlice RSpan)) Z Z Z (VRep.mono hl2 hv2) Tryd.underlying46 (Tryd.sizeOf121 _) hx1 fun p2 hp2 => lw_op Z Z Z (ow_load (R := (RSlice RSpan)) Z Z hp2 (Tryd.sizeOf121 _) (Tryd.isAgg121 _) fun v4 hv4 => lw_op Z Z Z (ow_assign Z Z (lw_op Z Z Z (ow_assign Z Z (lw_nil (ew_then (cw_seq (cw_region (lw_op Z Z Z (ow_move Z Z (lw_op Z Z Z (ow_move Z Z ?_)))))))))))))
    replace hb2 := bind_some hb2
    obtain ⟨x2, hx2, hb2⟩ := hb2
    refine lw_op Z Z Z (ow_call Z Z Tryd.call142 (w_impl_FieldTop (hG.mono (hl1.trans hl2)) hC2.old hx2) fun v5 w3 hv5 => ?_)
    obtain ⟨hv5, hb3⟩ := hv5
    have hl3 := Le.no M1 hb3
    have hC3 := hC2.no hb3
    obtain rfl := vint_eq hv5
    replace hb2 := bind_some hb2
    obtain ⟨x3, hx3, hb2⟩ := hb2
    have lz1 := ((hl1.trans hl2).trans hl3)
    refine lw_op Z Z Z (ow_call Z Z Tryd.call151 (w_impl_SpansValid (hG.mono lz1) hC3.old (VRep.mono hl3 hv4) hx3) fun v6 w4 hv6 => ?_)
    obtain ⟨hv6, hb4⟩ := hv6
    have hl4 := Le.no M1 hb4
    have hC4 := hC3.no hb4
    obtain rfl := vbool_eq hv6
    refine lw_op Z Z Z (ow_not Z Z (lw_nil (ew_then ?_)))
    replace hb2 := cond_some hb2
    rcases hb2 with ⟨hc3, hb2⟩ | ⟨hc3, hb2⟩
    ·
     subst hc3
     refine cw_false Z (cw_skip (ew_blockN (ew_then (cw_region (lw_op Z Z Z (ow_add Z Z Z (lw_op Z Z Z (ow_move Z Z (lw_nil ?_)))))))))
     have lz2 := ((hl2.trans hl3).trans hl4)
     exact ew_nxt (W (k1 + 1)) hb2 fun a ha => ⟨M1, (ha.sub ⟨Z, Z, Z, Zt⟩), lz2, hC4⟩
    ·
     subst hc3
     refine cw_true Z (cw_seq (cw_region (lw_op Z Z Z (ow_assign Z Z (lw_nil (ew_then (cw_ret (ew_blockR (ew_thenR (ew_thenR (ew_blockR (ew_brkR (ew_thenR ?_)))))))))))))
     have e1 := hR1 _ (sj hb2).symm
     subst e1
     obtain rfl := sj h
     exact ew_ret (res1 Z (.tmp Z)) ⟨_, Z, ((vbool _)), hC4.bx⟩
   ·
    obtain rfl := hbb2.trans hc2
    exact cw_false Z (cw_exit (ew_thenX (ew_thenX (ew_blockX (ew_brk k1 hb2 fun a ha => ⟨M1, (ha.sub ⟨Z, Z, Z, Zt⟩), hl2, hC2⟩)))))
  ·
   rintro k2 a w5 hlr2 ⟨M2, hF2, hl5, hC5⟩
   subst hlr2
   refine ew_at (E := [(10, v2), (11, (Zv (a_b.Sides.length : Int))), (12, (Zv k2))]) hF2 (ew_then (cw_seq (cw_region (lw_op Z Z Z (ow_assign Z Z (lw_nil (ew_then (cw_ret ?_))))))))
   obtain rfl := sj h
   exact ew_ret (res1 Z (.tmp Z)) ⟨_, Z, ((vbool _)), hC5.bx⟩

theorem w_impl_sidesOf {w : World} {M : Nat → Prop} (_hG : ARep (RArr 4 RShape) w M shapes ⟨0, 0, none⟩) (hO : ∀ b, M b → b < w.heap.size) {v0p : Value} {a_b : Box} (h0 : VRep RBox w M a_b v0p) {r : (List (List Span))} (h : F.impl_sidesOf a_b = some r) :
  Calls Tryd.prog 91 [v0p].toArray w fun e w' => ∃ v, e = .returned v ∧ VRep (RArr 4 (RSlice RSpan)) w' M r v ∧ BX No w w' := by
 have hC : Cx No w M w M := Cx.start hO (fun _ e => e.elim)
 clear _hG
 refine walk (N := 7) Tryd.func91 Z Tryd.ntmps91 Z (cw_seq (cw_region (lw_op Z Z Z (ow_box (R := RBox) Z Z h0 hC fun p1 w1 hp1 hb1 hl1 hC1 => lw_op Z Z Z (ow_alloc Z (Tryd.zeroValue131 _) hC1 fun g1 w2 hg1 hg2 ho1 hb2 hl2 hC2 => ?_)))))
 have hm1 : (Add g1 M) g1 := .inl Z
 have ho2 : OwnA (RArr 4 (RSlice RSpan)) w2 (Add g1 M) g1 131 [([] : List Span), ([] : List Span), ([] : List Span), ([] : List Span)] := OwnA.of ho1 ⟨Z, ⟨_, _, Z, (vslice_nil (R := RSpan) (w := w2) (M := (Add g1 M))).cells, _, _, Z, (vslice_nil (R := RSpan) (w := w2) (M := (Add g1 M))).cells, _, _, Z, (vslice_nil (R := RSpan) (w := w2) (M := (Add g1 M))).cells, _, _, Z, (vslice_nil (R := RSpan) (w := w2) (M := (Add g1 M))).cells, Z⟩⟩
 refine lw_nil (ew_then (cw_seq (cw_region (lw_op Z Z Z (ow_fieldAddr Z Z Tryd.underlying48 Z (Tryd.sizeOf46 _) (lw_op Z Z Z (ow_load (R := (RSlice (RSlice RSpan))) Z Z (ARep.mono hl2 (hp1.fld fld_Box_Sides)) (Tryd.sizeOf46 _) (Tryd.isAgg46 _) fun v1 hv1 => ?_)))))))
 replace h := bind_some h
 obtain ⟨y1, hy1, h⟩ := h
 refine lw_op Z Z Z (ow_s2ap Z Z hv1 Tryd.underlying131 (arrF_some hy1).2 (by decide) fun p2 hp2 => ?_)
 rw [← (arrF_some hy1).1] at hp2
 refine lw_op Z Z Z (ow_load (R := (RArr 4 (RSlice RSpan))) Z Z hp2 (Tryd.sizeOf131 _) (Tryd.isAgg131 _) fun v2 hv2 => ?_)
 obtain ⟨cs1, h1, h2⟩ := ho2.own
 refine lw_op0 Z Z (ow_storeA (X := No) (R := (RArr 4 (RSlice RSpan))) Z Z Z Z h1 h2 (Tryd.sizeOf131 _) hv2 hm1 (.inl hg2) hC2 fun w3 ho3 hb3 hl3 hC3 => lw_nil (ew_then (cw_ret ?_)))
 obtain rfl := sj h
 obtain ⟨v3, hq1, hw1⟩ := resA ho3 (Tryd.sizeOf131 _) (Tryd.isAgg131 _) rfl
 exact ew_ret (res1 Z (.cell Z hq1)) ⟨_, Z, (hw1.mono hC3.back), hC3.bx⟩

theorem w_impl_sides_empty {w : World} {M : Nat → Prop} (_hG : ARep (RArr 4 RShape) w M shapes ⟨0, 0, none⟩) (hO : ∀ b, M b → b < w.heap.size) {v0p : Value} {a_s : List (List Span)} (h0 : VRep (RArr 4 (RSlice RSpan)) w M a_s v0p) {r : Bool} (h : F.impl_sides_empty a_s = some r) :
  Calls Tryd.prog 92 [v0p].toArray w fun e w' => ∃ v, e = .returned v ∧ VRep RBool w' M r v ∧ BX No w w' := by
 have hC : Cx No w M w M := Cx.start hO (fun _ e => e.elim)
 clear _hG
 refine walk (N := 13) Tryd.func92 Z Tryd.ntmps92 Z (cw_seq (cw_region (lw_op Z Z Z (ow_box (R := (RArr 4 (RSlice RSpan))) Z Z h0 hC fun p1 w1 hp1 hb1 hl1 hC1 => lw_op Z Z Z (ow_assign Z Z (lw_nil (ew_then (cw_seq (cw_seq (cw_region (lw_op Z Z Z (ow_load (R := (RArr 4 (RSlice RSpan))) Z Z hp1 (Tryd.sizeOf131 _) (Tryd.isAgg131 _) fun v1 hv1 => lw_op Z Z Z (ow_move Z Z (lw_nil (ew_then ?_)))))))))))))))
 replace h := bind_some h
 obtain ⟨lr1, hlr1, h⟩ := h
 refine cw_for hlr1 (fun s a w' => ∃ (M' : Nat → Prop), Fits 13 [(5, v1), (6, (Zv s))] a ∧ Le w1 M w' M' ∧ Cx No w M w' M') ?_ ?_ ?_
 · exact fun a ha => ⟨M, ha.sub ⟨Z, Z, Zt⟩, Le.refl _ _, hC1⟩
 ·
  rintro k1 a w2 sr1 ⟨M1, hF1, hl2, hC2⟩ hb2 hR1
  refine cw_at (E := [(5, v1), (6, (Zv k1))]) hF1 (cw_seq (cw_region (lw_op Z Z Z (ow_lss Z Z Z fun bb1 hbb1 => lw_nil (ew_then (cw_seq ?_))))))
  replace hb2 := cond_some hb2
  rcases hb2 with ⟨hc1, hb2⟩ | ⟨hc1, hb2⟩
  ·
   obtain rfl := hbb1.trans hc1
   refine cw_true Z (cw_skip (ew_then (cw_seq (cw_block (cw_seq (cw_region ?_))))))
   replace hb2 := bind_some hb2
   obtain ⟨x1, hx1, hb2⟩ := hb2
   refine lw_op Z Z Z (ow_index (R := (RSlice RSpan)) Z Z Z (VRep.mono hl2 hv1) Tryd.underlying131 (Tryd.sizeOf121 _) (Tryd.isAgg121 _) hx1 fun v3 hv3 => lw_op Z Z Z (ow_assign Z Z (lw_nil (ew_then (cw_seq (cw_region (lw_op Z Z Z (ow_move Z Z (lw_op Z Z Z (ow_len Z Z hv3 Tryd.underlying121 Z (lw_op Z Z Z (ow_eqlI Z Z Z fun bb2 hbb2 => lw_nil (ew_then ?_)))))))))))))
   replace hb2 := cond_some hb2
   rcases hb2 with ⟨hc2, hb2⟩ | ⟨hc2, hb2⟩
   ·
    obtain rfl := hbb2.trans hc2
    refine cw_true Z (cw_seq (cw_region (lw_op Z Z Z (ow_assign Z Z (lw_nil (ew_then (cw_ret (ew_blockR (ew_thenR (ew_thenR (ew_blockR (ew_brkR (ew_thenR ?_)))))))))))))
    have e1 := hR1 _ (sj hb2).symm
    subst e1
    obtain rfl := sj h
    exact ew_ret (res1 Z (.tmp Z)) ⟨_, Z, ((vbool _)), hC2.bx⟩
   ·
    obtain rfl := hbb2.trans hc2
    exact cw_false Z (cw_skip (ew_blockN (ew_then (cw_region (lw_op Z Z Z (ow_add Z Z Z (lw_op Z Z Z (ow_move Z Z (lw_nil (ew_nxt (W (k1 + 1)) hb2 fun a ha => ⟨M1, (ha.sub ⟨Z, Z, Zt⟩), hl2, hC2⟩))))))))))
  ·
   obtain rfl := hbb1.trans hc1
   exact cw_false Z (cw_exit (ew_thenX (ew_thenX (ew_blockX (ew_brk k1 hb2 fun a ha => ⟨M1, (ha.sub ⟨Z, Z, Zt⟩), hl2, hC2⟩)))))
 ·
  rintro k2 a w3 hlr2 ⟨M2, hF2, hl3, hC3⟩
  subst hlr2
  refine ew_at (E := [(5, v1), (6, (Zv k2))]) hF2 (ew_then (cw_seq (cw_region (lw_op Z Z Z (ow_assign Z Z (lw_nil (ew_then (cw_ret ?_))))))))
  obtain rfl := sj h
  exact ew_ret (res1 Z (.tmp Z)) ⟨_, Z, ((vbool _)), hC3.bx⟩

theorem wo_impl_BoxTests {w : World} {M : Nat → Prop} (hG : ARep (RArr 4 RShape) w M shapes ⟨0, 0, none⟩) (hO : ∀ b, M b → b < w.heap.size) {v0p : Value} {a_b : Box} (h0 : VRep RBox w M a_b v0p) {r : (List Test) × Bool} (h : F.impl_BoxTests a_b = some r) :
  Calls Tryd.prog 24 [v0p].toArray w fun e w' => ∃ v, e = .returned v ∧ (∃ u0 u1, v = .tuple #[u0, u1] ∧ (∃ M', OwnRow RTest w.heap.size 128 w' M' r.1 u0 ∧ Cx No w M w' M') ∧ VRep RBool w' M r.2 u1) ∧ BX No w w' := by
 obtain ⟨i128, hi128, hz128, hs128, hy128⟩ := info128
 have hC : Cx No w M w M := Cx.start hO (fun _ e => e.elim)
 refine walk (N := 93) Tryd.func24 Z Tryd.ntmps24 Z (cw_seq (cw_region (lw_op Z Z Z (ow_box (R := RBox) Z Z h0 hC fun p1 w1 hp1 hb1 hl1 hC1 => lw_op Z Z Z (ow_assign Z Z (lw_op Z Z Z (ow_assign Z Z (lw_nil (ew_then (cw_seq (cw_seq (cw_region (lw_op Z Z Z (ow_load (R := RBox) Z Z hp1 (Tryd.sizeOf48 _) (Tryd.isAgg48 _) fun v1 hv1 => ?_))))))))))))))
 replace h := bind_some h
 obtain ⟨x1, hx1, h⟩ := h
 refine lw_op Z Z Z (ow_call Z Z Tryd.call90 (w_impl_BoxValid (hG.mono hl1) hC1.old hv1 hx1) fun v2 w2 hv2 => ?_)
 obtain ⟨hv2, hb2⟩ := hv2
 have hl2 := Le.no M hb2
 have hC2 := hC1.no hb2
 obtain rfl := vbool_eq hv2
 refine lw_op Z Z Z (ow_not Z Z (lw_op Z Z Z (ow_move Z Z ?_)))
 replace h := cond_some h
 rcases h with ⟨hc1, h⟩ | ⟨hc1, h⟩
 ·
  subst hc1
  refine lw_on Z Z Z Z Z Z (ow_load (R := RBox) Z Z (ARep.mono hl2 hp1) (Tryd.sizeOf48 _) (Tryd.isAgg48 _) fun v3 hv3 => ?_)
  replace h := bind_some h
  obtain ⟨x2, hx2, h⟩ := h
  refine lw_on Z Z Z Z Z Z (ow_call Z Z Tryd.call91 (w_impl_sidesOf (hG.mono (hl1.trans hl2)) hC2.old hv3 hx2) fun v4 w3 hv4 => ?_)
  obtain ⟨hv4, hb3⟩ := hv4
  have hl3 := Le.no M hb3
  have hC3 := hC2.no hb3
  replace h := bind_some h
  obtain ⟨x3, hx3, h⟩ := h
  have lz1 := ((hl1.trans hl2).trans hl3)
  refine lw_on Z Z Z Z Z Z (ow_call Z Z Tryd.call92 (w_impl_sides_empty (hG.mono lz1) hC3.old hv4 hx3) fun v5 w4 hv5 => ?_)
  obtain ⟨hv5, hb4⟩ := hv5
  have hl4 := Le.no M hb4
  have hC4 := hC3.no hb4
  obtain rfl := vbool_eq hv5
  refine lw_op Z Z Z (ow_pickF Z Z Z (lw_nil (ew_then ?_)))
  replace h := cond_some h
  rcases h with ⟨hc2, h⟩ | ⟨hc2, h⟩
  ·
   subst hc2
   refine cw_true Z (cw_seq (cw_region (lw_op Z Z Z (ow_assign Z Z (lw_op Z Z Z (ow_assign Z Z (lw_nil (ew_then (cw_ret (ew_thenR ?_))))))))))
   obtain rfl := sj h
   exact ew_ret (res2 Z (.tmp Z) (.tmp Z)) ⟨_, Z, ⟨_, _, Z, ⟨M, ownrow_nil, hC4⟩, ((vbool _))⟩, hC4.bx⟩
  ·
   subst hc2
   refine cw_false Z (cw_skip (ew_then (cw_seq (cw_region (lw_op Z Z Z (ow_assign Z Z (lw_nil (ew_then (cw_seq (cw_seq (cw_region (lw_op Z Z Z (ow_fieldAddr Z Z Tryd.underlying48 Z (Tryd.sizeOf46 _) ?_)))))))))))))
   have lz2 := ((hl2.trans hl3).trans hl4)
   refine lw_op Z Z Z (ow_load (R := (RSlice (RSlice RSpan))) Z Z (ARep.mono lz2 (hp1.fld fld_Box_Sides)) (Tryd.sizeOf46 _) (Tryd.isAgg46 _) fun v6 hv6 => lw_op Z Z Z (ow_len Z Z hv6 Tryd.underlying46 Z (lw_op Z Z Z (ow_move Z Z (lw_nil (ew_then ?_))))))
   have hr1 : OwnRow RTest w.heap.size 128 w4 M ([] : List Test) (.slice none 0 0) := ownrow_nil
   replace h := bind_some h
   obtain ⟨lr1, hlr1, h⟩ := h
   refine cw_for hlr1 (fun s a w' => ∃ (M' : Nat → Prop) (v0c : Value), Fits 93 [(4, v0c), (17, v6), (18, (Zv (a_b.Sides.length : Int))), (19, (Zv s.2))] a ∧ Le w4 M w' M' ∧ Cx No w M w' M' ∧ OwnRow RTest w.heap.size 128 w' M' s.1 v0c) ?_ ?_ ?_
   · exact fun a ha => ⟨M, (.slice none 0 0), ha.sub ⟨Z, Z, Z, Z, Zt⟩, Le.refl _ _, hC4, hr1⟩
   ·
    rintro ⟨y1, k1⟩ a w5 sr1 ⟨M1, v7, hF1, hl5, hC5, hw1⟩ hb5 hR1
    refine cw_at (E := [(4, v7), (17, v6), (18, (Zv (a_b.Sides.length : Int))), (19, (Zv k1))]) hF1 (cw_seq (cw_region (lw_op Z Z Z (ow_lss Z Z Z fun bb1 hbb1 => lw_nil (ew_then (cw_seq ?_))))))
    replace hb5 := cond_some hb5
    rcases hb5 with ⟨hc3, hb5⟩ | ⟨hc3, hb5⟩
    ·
     obtain rfl := hbb1.trans hc3
     refine cw_true Z (cw_skip (ew_then (cw_seq (cw_block (cw_seq (cw_region (lw_op Z Z Z (ow_move Z Z ?_))))))))
     replace hb5 := bind_some hb5
     obtain ⟨x4, hx4, hb5⟩ := hb5
     refine lw_op Z Z Z (ow_indexSlice (R := (RSlice RSpan)) Z Z Z (VRep.mono hl5 hv6) Tryd.underlying46 (Tryd.sizeOf121 _) hx4 fun p2 hp2 => lw_op Z Z Z (ow_load (R := (RSlice RSpan)) Z Z hp2 (Tryd.sizeOf121 _) (Tryd.isAgg121 _) fun v9 hv9 => lw_op Z Z Z (ow_assign Z Z (lw_op Z Z Z (ow_assign Z Z (lw_nil (ew_then (cw_seq (cw_region (lw_op Z Z Z (ow_move Z Z ?_)))))))))))
     replace hb5 := bind_some hb5
     obtain ⟨x5, hx5, hb5⟩ := hb5
     have lz3 := ((lz1.trans hl4).trans hl5)
     refine lw_op Z Z Z (ow_indexArr (R := RShape) Z Z Z (ARep.mono lz3 hG) Tryd.underlying135 (Tryd.sizeOf134 _) hx5 fun p3 hp3 => lw_op Z Z Z (ow_fieldAddr Z Z Tryd.underlying134 Z (Tryd.sizeOf3 _) (lw_op Z Z Z (ow_load (R := RInt) Z Z (hp3.fld fld_Shape_top) (Tryd.sizeOf3 _) (Tryd.isAgg3 _) fun v10 hv10 => ?_))))
     obtain rfl := vint_eq hv10
     refine lw_op Z Z Z (ow_assign Z Z (lw_nil (ew_then (cw_block (cw_seq (cw_region (lw_op Z Z Z (ow_move Z Z (lw_op Z Z Z (ow_len Z Z hv9 Tryd.underlying121 Z (lw_op Z Z Z (ow_eqlI Z Z Z fun bb2 hbb2 => lw_op Z Z Z (ow_move Z Z ?_)))))))))))))
     replace hb5 := cond_some hb5
     rcases hb5 with ⟨hc4, hb5⟩ | ⟨hc4, hb5⟩
     ·
      obtain rfl := hbb2.trans hc4
      refine lw_on Z Z Z Z Z Z (ow_move Z Z ?_)
      replace hb5 := bind_some hb5
      obtain ⟨x6, hx6, hb5⟩ := hb5
      refine lw_on Z Z Z Z Z Z (ow_indexSlice (R := RSpan) Z Z Z hv9 Tryd.underlying121 (Tryd.sizeOf120 _) hx6 fun p4 hp4 => lw_on Z Z Z Z Z Z (ow_load (R := RSpan) Z Z hp4 (Tryd.sizeOf120 _) (Tryd.isAgg120 _) fun v11 hv11 => lw_on Z Z Z Z Z Z (ow_move Z Z (lw_on Z Z Z Z Z Z (ow_build (v := .agg #[(Zv 0), (Zv x5.top)]) Z Z (by kernel_rfl) ?_)))))
      obtain rfl := open_Span hv11
      refine lw_on Z Z Z Z Z Z (ow_eqlS Z Z Z (Tryd.eqGuardType120) (eqS120 (x := x6) (y := ({ Lo := 0, Hi := x5.top } : Span)) _) fun bb3 hbb3 => lw_op Z Z Z (ow_pickT Z Z Z (lw_op Z Z Z (ow_assign Z Z (lw_nil (ew_then ?_))))))
      replace hb5 := cond_some hb5
      rcases hb5 with ⟨hc5, hb5⟩ | ⟨hc5, hb5⟩
      ·
       obtain rfl := hbb3.trans hc5
       exact cw_true Z (cw_skip (ew_blockN (ew_blockN (ew_then (cw_region (lw_op Z Z Z (ow_add Z Z Z (lw_op Z Z Z (ow_move Z Z (lw_nil (ew_nxt (y1, (W (k1 + 1))) hb5 fun a ha => ⟨M1, v7, (ha.sub ⟨Z, Z, Z, Z, Zt⟩), hl5, hC5, hw1⟩)))))))))))
      ·
       obtain rfl := hbb3.trans hc5
       refine cw_false Z (cw_seq (cw_region (lw_op Z Z Z (ow_move Z Z (lw_op Z Z Z (ow_len Z Z hv9 Tryd.underlying121 Z (lw_op Z Z Z (ow_eqlI Z Z Z fun bb4 hbb4 => ?_))))))))
       obtain rfl := hbb4.trans hc4
       refine lw_op Z Z Z (ow_assign Z Z (lw_nil (ew_then (cw_true Z (cw_sub (E' := [(4, v7), (5, (Zv k1)), (6, v9), (17, v6), (18, (Zv (a_b.Sides.length : Int))), (19, (Zv k1))]) ⟨Z, Z, Z, Z, Z, Z, Zt⟩ (cw_drawQ 12 [PEq v7, PEq (Zv k1), PV (RSlice RSpan) M1 x4, PA RSpan M1 x6, PA RInt M1 x6.Lo, PEq (Zv x6.Lo), PV (RSlice RSpan) M1 x4, PA RSpan M1 x6, PA RInt M1 x6.Hi, PEq (Zv x6.Hi), PV RTest M1 ({ Field := k1, Lo := x6.Lo, Hi := x6.Hi, Not := false } : Test), PV (RSlice RTest) M1 [({ Field := k1, Lo := x6.Lo, Hi := x6.Hi, Not := false } : Test)]] (by kernel_rfl) Z (by kernel_rfl) ⟨Zq, Zq, PV.mono _ _ _, PA.mono _ _ _, PA.mono _ _ _, Zq, PV.mono _ _ _, PA.mono _ _ _, PA.mono _ _ _, Zq, PV.mono _ _ _, PV.mono _ _ _, Zt⟩ ⟨?_, ?_, ?_, ?_, ?_, ?_, ?_, ?_, ?_, ?_, ?_, ?_, Zt⟩ ?_))))))
       · exact fun w7 D hS1 hd1 => dg_sub (E' := [(4, v7)]) ⟨Z, Zt⟩ (dg_plain Z (ow_move Z Z Zb))
       · exact fun w8 D hS2 hd2 => dg_sub (E' := [(5, (Zv k1))]) ⟨Z, Zt⟩ (dg_plain Z (ow_move Z Z Zb))
       ·
        intro w9 D hS3 hd3
        have hl9 := Le.no M1 hS3
        exact dg_sub (E' := [(6, v9)]) ⟨Z, Zt⟩ (dg_plain Z (ow_move Z Z ⟨BX.refl _ _, (VRep.mono hl9 hv9)⟩))
       ·
        intro w10 D hS4 hd4
        have d1 : PV (RSlice RSpan) M1 x4 (D 2) w10 := dpA hd4 2 Z
        generalize hq1 : (D 2) = v14 at d1
        exact dg_sub (E' := [(46, v14)]) ⟨congrArg some hq1, Zt⟩ (dg_plain Z (ow_indexSlice (R := RSpan) Z Z Z d1 Tryd.underlying121 (Tryd.sizeOf120 _) hx6 fun p8 hp8 => ⟨BX.refl _ _, ⟨_, Z, hp8⟩⟩))
       ·
        intro w11 D hS5 hd5
        have d2 : PA RSpan M1 x6 (D 3) w11 := dpA hd5 3 Z
        obtain ⟨p9, e1, ha1⟩ := d2
        exact dg_sub (E' := [(47, (.pointer (some p9)))]) ⟨congrArg some e1, Zt⟩ (dg_plain Z (ow_fieldAddr Z Z Tryd.underlying120 Z (Tryd.sizeOf3 _) ⟨BX.refl _ _, ⟨_, Z, (ha1.fld fld_Span_Lo)⟩⟩))
       ·
        intro w12 D hS6 hd6
        have d3 : PA RInt M1 x6.Lo (D 4) w12 := dpA hd6 4 Z
        obtain ⟨p10, e2, ha2⟩ := d3
        refine dg_sub (E' := [(48, (.pointer (some p10)))]) ⟨congrArg some e2, Zt⟩ (dg_plain Z (ow_load (R := RInt) Z Z ha2 (Tryd.sizeOf3 _) (Tryd.isAgg3 _) fun v15 hv15 => ?_))
        obtain rfl := vint_eq hv15
        exact Zb
       ·
        intro w13 D hS7 hd7
        have hl13 := Le.no M1 hS7
        exact dg_sub (E' := [(6, v9)]) ⟨Z, Zt⟩ (dg_plain Z (ow_move Z Z ⟨BX.refl _ _, (VRep.mono hl13 hv9)⟩))
       ·
        intro w14 D hS8 hd8
        have d4 : PV (RSlice RSpan) M1 x4 (D 6) w14 := dpA hd8 6 Z
        generalize hq2 : (D 6) = v16 at d4
        exact dg_sub (E' := [(50, v16)]) ⟨congrArg some hq2, Zt⟩ (dg_plain Z (ow_indexSlice (R := RSpan) Z Z Z d4 Tryd.underlying121 (Tryd.sizeOf120 _) hx6 fun p11 hp11 => ⟨BX.refl _ _, ⟨_, Z, hp11⟩⟩))
       ·
        intro w15 D hS9 hd9
        have d5 : PA RSpan M1 x6 (D 7) w15 := dpA hd9 7 Z
        obtain ⟨p12, e3, ha3⟩ := d5
        exact dg_sub (E' := [(51, (.pointer (some p12)))]) ⟨congrArg some e3, Zt⟩ (dg_plain Z (ow_fieldAddr Z Z Tryd.underlying120 Z (Tryd.sizeOf3 _) ⟨BX.refl _ _, ⟨_, Z, (ha3.fld fld_Span_Hi)⟩⟩))
       ·
        intro w16 D hS10 hd10
        have d6 : PA RInt M1 x6.Hi (D 8) w16 := dpA hd10 8 Z
        obtain ⟨p13, e4, ha4⟩ := d6
        refine dg_sub (E' := [(52, (.pointer (some p13)))]) ⟨congrArg some e4, Zt⟩ (dg_plain Z (ow_load (R := RInt) Z Z ha4 (Tryd.sizeOf3 _) (Tryd.isAgg3 _) fun v17 hv17 => ?_))
        obtain rfl := vint_eq hv17
        exact Zb
       ·
        intro w17 D hS11 hd11
        refine dg_sub (E' := [(45, (Zv k1)), (49, (Zv x6.Lo)), (53, (Zv x6.Hi))]) ⟨dpE hd11 1 Z Z, dpE hd11 5 Z Z, dpE hd11 9 Z Z, Zt⟩ (dg_plain Z (ow_build (v := .agg #[(Zv k1), (Zv x6.Lo), (Zv x6.Hi), (.bool false)]) Z Z (by kernel_rfl) ?_))
        have hw5 : VRep RTest w17 M1 ({ Field := k1, Lo := x6.Lo, Hi := x6.Hi, Not := false } : Test) (.agg #[(Zv k1), (Zv x6.Lo), (Zv x6.Hi), (.bool false)]) := shut_Test
        exact ⟨BX.refl _ _, hw5⟩
       ·
        intro w18 D hS12 hd12
        have hC18 := hC5.no hS12
        have d10 : PV RTest M1 ({ Field := k1, Lo := x6.Lo, Hi := x6.Hi, Not := false } : Test) (D 10) w18 := dpA hd12 10 Z
        generalize hq3 : (D 10) = v18 at d10
        refine dg_sub (E' := [(54, v18)]) ⟨congrArg some hq3, Zt⟩ ?_
        obtain rfl := open_Test d10
        exact dg_plain Z (ow_buildSlice (R := RTest) (xs := [({ Field := k1, Lo := x6.Lo, Hi := x6.Hi, Not := false } : Test)]) (cs := #[(Zv ({ Field := k1, Lo := x6.Lo, Hi := x6.Hi, Not := false } : Test).Field), (Zv ({ Field := k1, Lo := x6.Lo, Hi := x6.Hi, Not := false } : Test).Lo), (Zv ({ Field := k1, Lo := x6.Lo, Hi := x6.Hi, Not := false } : Test).Hi), (.bool ({ Field := k1, Lo := x6.Lo, Hi := x6.Hi, Not := false } : Test).Not)]) (e := 128) Z Z (by kernel_rfl) Z Z ⟨_, _, Z, d10.cells, Z⟩ hC18 fun p14 w19 hw6 hb7 hl19 hC19 => ⟨hb7, hw6⟩)
       ·
        intro w20 D hS13 hd13
        have d22 : PV (RSlice RTest) M1 [({ Field := k1, Lo := x6.Lo, Hi := x6.Hi, Not := false } : Test)] (D 11) w20 := dpA hd13 11 Z
        have hl20 := Le.no M1 hS13
        have hC20 := hC5.no hS13
        have hr16 := hw1.no hS13
        generalize hq4 : (D 11) = v19 at d22
        refine lw_sub (E' := [(44, v7), (55, v19), (4, v7), (5, (Zv k1)), (6, v9), (17, v6), (18, (Zv (a_b.Sides.length : Int))), (19, (Zv k1))]) ⟨dpE hd13 0 Z Z, congrArg some hq4, Z, Z, Z, Z, Z, Z, Zt⟩ ?_
        replace hb5 := bind_some hb5
        obtain ⟨z1, hz1, hb5⟩ := hb5
        refine lw_op Z Z Z (ow_append (R := RTest) Z Z Z Z Tryd.underlying36 hi128 hz128 hs128 hy128 Z Z Z Z hr16 d22 hz1 hC20 fun v20 w21 M2 hr17 hb8 hl21 hC21 hM1 hat1 => lw_op Z Z Z (ow_assign Z Z (lw_nil (ew_blockN (ew_blockN (ew_then (cw_region (lw_op Z Z Z (ow_add Z Z Z (lw_op Z Z Z (ow_move Z Z (lw_nil ?_))))))))))))
        have lz4 := ((hl5.trans hl20).trans hl21)
        exact ew_nxt (z1, (W (k1 + 1))) hb5 fun a ha => ⟨M2, v20, (ha.sub ⟨Z, Z, Z, Z, Zt⟩), lz4, hC21, hr17⟩
     ·
      obtain rfl := hbb2.trans hc4
      refine lw_off Z Z Z Z Z Z (lw_off Z Z Z Z Z Z (lw_off Z Z Z Z Z Z (lw_off Z Z Z Z Z Z (lw_off Z Z Z Z Z Z (lw_off Z Z Z Z Z Z (lw_op Z Z Z (ow_pickF Z Z Z (lw_op Z Z Z (ow_assign Z Z (lw_nil (ew_then (cw_false Z (cw_seq (cw_region (lw_op Z Z Z (ow_move Z Z (lw_op Z Z Z (ow_len Z Z hv9 Tryd.underlying121 Z (lw_op Z Z Z (ow_eqlI Z Z Z fun bb5 hbb5 => ?_))))))))))))))))))))
      obtain rfl := hbb5.trans hc4
      refine lw_op Z Z Z (ow_assign Z Z (lw_nil (ew_then (cw_false Z (cw_seq (cw_region (lw_op Z Z Z (ow_move Z Z (lw_op Z Z Z (ow_len Z Z hv9 Tryd.underlying121 Z (lw_op Z Z Z (ow_eqlI Z Z Z fun bb6 hbb6 => lw_op Z Z Z (ow_move Z Z ?_)))))))))))))
      replace hb5 := cond_some hb5
      rcases hb5 with ⟨hc6, hb5⟩ | ⟨hc6, hb5⟩
      ·
       obtain rfl := hbb6.trans hc6
       refine lw_on Z Z Z Z Z Z (ow_move Z Z ?_)
       replace hb5 := bind_some hb5
       obtain ⟨x7, hx7, hb5⟩ := hb5
       refine lw_on Z Z Z Z Z Z (ow_indexSlice (R := RSpan) Z Z Z hv9 Tryd.underlying121 (Tryd.sizeOf120 _) hx7 fun p15 hp15 => lw_on Z Z Z Z Z Z (ow_fieldAddr Z Z Tryd.underlying120 Z (Tryd.sizeOf3 _) (lw_on Z Z Z Z Z Z (ow_load (R := RInt) Z Z (hp15.fld fld_Span_Lo) (Tryd.sizeOf3 _) (Tryd.isAgg3 _) fun v21 hv21 => ?_))))
       obtain rfl := vint_eq hv21
       refine lw_on Z Z Z Z Z Z (ow_eqlI Z Z Z fun bb7 hbb7 => lw_op Z Z Z (ow_pickT Z Z Z (lw_op Z Z Z (ow_move Z Z ?_))))
       replace hb5 := cond_some hb5
       rcases hb5 with ⟨hc7, hb5⟩ | ⟨hc7, hb5⟩
       ·
        obtain rfl := hbb7.trans hc7
        refine lw_on Z Z Z Z Z Z (ow_move Z Z ?_)
        replace hb5 := bind_some hb5
        obtain ⟨x8, hx8, hb5⟩ := hb5
        refine lw_on Z Z Z Z Z Z (ow_indexSlice (R := RSpan) Z Z Z hv9 Tryd.underlying121 (Tryd.sizeOf120 _) hx8 fun p16 hp16 => lw_on Z Z Z Z Z Z (ow_fieldAddr Z Z Tryd.underlying120 Z (Tryd.sizeOf3 _) (lw_on Z Z Z Z Z Z (ow_load (R := RInt) Z Z (hp16.fld fld_Span_Hi) (Tryd.sizeOf3 _) (Tryd.isAgg3 _) fun v22 hv22 => ?_))))
        obtain rfl := vint_eq hv22
        refine lw_on Z Z Z Z Z Z (ow_move Z Z (lw_on Z Z Z Z Z Z (ow_eqlI Z Z Z fun bb8 hbb8 => lw_op Z Z Z (ow_pickT Z Z Z (lw_op Z Z Z (ow_assign Z Z (lw_nil (ew_then ?_))))))))
        replace hb5 := cond_some hb5
        rcases hb5 with ⟨hc8, hb5⟩ | ⟨hc8, hb5⟩
        ·
         obtain rfl := hbb8.trans hc8
         refine cw_true Z (cw_sub (E' := [(4, v7), (5, (Zv k1)), (6, v9), (17, v6), (18, (Zv (a_b.Sides.length : Int))), (19, (Zv k1))]) ⟨Z, Z, Z, Z, Z, Z, Zt⟩ (cw_drawQ 14 [PEq v7, PEq (Zv k1), PV (RSlice RSpan) M1 x4, PA RSpan M1 x7, PA RInt M1 x7.Hi, PEq (Zv x7.Hi), PEq (Zv (W (x7.Hi + 1))), PV (RSlice RSpan) M1 x4, PA RSpan M1 x8, PA RInt M1 x8.Lo, PEq (Zv x8.Lo), PEq (Zv (W (x8.Lo - 1))), PV RTest M1 ({ Field := k1, Lo := (W (x7.Hi + 1)), Hi := (W (x8.Lo - 1)), Not := true } : Test), PV (RSlice RTest) M1 [({ Field := k1, Lo := (W (x7.Hi + 1)), Hi := (W (x8.Lo - 1)), Not := true } : Test)]] (by kernel_rfl) Z (by kernel_rfl) ⟨Zq, Zq, PV.mono _ _ _, PA.mono _ _ _, PA.mono _ _ _, Zq, Zq, PV.mono _ _ _, PA.mono _ _ _, PA.mono _ _ _, Zq, Zq, PV.mono _ _ _, PV.mono _ _ _, Zt⟩ ⟨?_, ?_, ?_, ?_, ?_, ?_, ?_, ?_, ?_, ?_, ?_, ?_, ?_, ?_, Zt⟩ ?_))
         · exact fun w23 D hS14 hd14 => dg_sub (E' := [(4, v7)]) ⟨Z, Zt⟩ (dg_plain Z (ow_move Z Z Zb))
         · exact fun w24 D hS15 hd15 => dg_sub (E' := [(5, (Zv k1))]) ⟨Z, Zt⟩ (dg_plain Z (ow_move Z Z Zb))
         ·
          intro w25 D hS16 hd16
          have hl25 := Le.no M1 hS16
          exact dg_sub (E' := [(6, v9)]) ⟨Z, Zt⟩ (dg_plain Z (ow_move Z Z ⟨BX.refl _ _, (VRep.mono hl25 hv9)⟩))
         ·
          intro w26 D hS17 hd17
          have d23 : PV (RSlice RSpan) M1 x4 (D 2) w26 := dpA hd17 2 Z
          generalize hq5 : (D 2) = v25 at d23
          exact dg_sub (E' := [(78, v25)]) ⟨congrArg some hq5, Zt⟩ (dg_plain Z (ow_indexSlice (R := RSpan) Z Z Z d23 Tryd.underlying121 (Tryd.sizeOf120 _) hx7 fun p20 hp20 => ⟨BX.refl _ _, ⟨_, Z, hp20⟩⟩))
         ·
          intro w27 D hS18 hd18
          have d24 : PA RSpan M1 x7 (D 3) w27 := dpA hd18 3 Z
          obtain ⟨p21, e5, ha5⟩ := d24
          exact dg_sub (E' := [(79, (.pointer (some p21)))]) ⟨congrArg some e5, Zt⟩ (dg_plain Z (ow_fieldAddr Z Z Tryd.underlying120 Z (Tryd.sizeOf3 _) ⟨BX.refl _ _, ⟨_, Z, (ha5.fld fld_Span_Hi)⟩⟩))
         ·
          intro w28 D hS19 hd19
          have d25 : PA RInt M1 x7.Hi (D 4) w28 := dpA hd19 4 Z
          obtain ⟨p22, e6, ha6⟩ := d25
          refine dg_sub (E' := [(80, (.pointer (some p22)))]) ⟨congrArg some e6, Zt⟩ (dg_plain Z (ow_load (R := RInt) Z Z ha6 (Tryd.sizeOf3 _) (Tryd.isAgg3 _) fun v26 hv26 => ?_))
          obtain rfl := vint_eq hv26
          exact Zb
         · exact fun w29 D hS20 hd20 => dg_sub (E' := [(81, (Zv x7.Hi))]) ⟨dpE hd20 5 Z Z, Zt⟩ (dg_plain Z (ow_add Z Z Z Zb))
         ·
          intro w30 D hS21 hd21
          have hl30 := Le.no M1 hS21
          exact dg_sub (E' := [(6, v9)]) ⟨Z, Zt⟩ (dg_plain Z (ow_move Z Z ⟨BX.refl _ _, (VRep.mono hl30 hv9)⟩))
         ·
          intro w31 D hS22 hd22
          have d27 : PV (RSlice RSpan) M1 x4 (D 7) w31 := dpA hd22 7 Z
          generalize hq6 : (D 7) = v27 at d27
          exact dg_sub (E' := [(83, v27)]) ⟨congrArg some hq6, Zt⟩ (dg_plain Z (ow_indexSlice (R := RSpan) Z Z Z d27 Tryd.underlying121 (Tryd.sizeOf120 _) hx8 fun p23 hp23 => ⟨BX.refl _ _, ⟨_, Z, hp23⟩⟩))
         ·
          intro w32 D hS23 hd23
          have d28 : PA RSpan M1 x8 (D 8) w32 := dpA hd23 8 Z
          obtain ⟨p24, e7, ha7⟩ := d28
          exact dg_sub (E' := [(84, (.pointer (some p24)))]) ⟨congrArg some e7, Zt⟩ (dg_plain Z (ow_fieldAddr Z Z Tryd.underlying120 Z (Tryd.sizeOf3 _) ⟨BX.refl _ _, ⟨_, Z, (ha7.fld fld_Span_Lo)⟩⟩))
         ·
          intro w33 D hS24 hd24
          have d29 : PA RInt M1 x8.Lo (D 9) w33 := dpA hd24 9 Z
          obtain ⟨p25, e8, ha8⟩ := d29
          refine dg_sub (E' := [(85, (.pointer (some p25)))]) ⟨congrArg some e8, Zt⟩ (dg_plain Z (ow_load (R := RInt) Z Z ha8 (Tryd.sizeOf3 _) (Tryd.isAgg3 _) fun v28 hv28 => ?_))
          obtain rfl := vint_eq hv28
          exact Zb
         · exact fun w34 D hS25 hd25 => dg_sub (E' := [(86, (Zv x8.Lo))]) ⟨dpE hd25 10 Z Z, Zt⟩ (dg_plain Z (ow_sub Z Z Z Zb))
         ·
          intro w35 D hS26 hd26
          refine dg_sub (E' := [(77, (Zv k1)), (82, (Zv (W (x7.Hi + 1)))), (87, (Zv (W (x8.Lo - 1))))]) ⟨dpE hd26 1 Z Z, dpE hd26 6 Z Z, dpE hd26 11 Z Z, Zt⟩ (dg_plain Z (ow_build (v := .agg #[(Zv k1), (Zv (W (x7.Hi + 1))), (Zv (W (x8.Lo - 1))), (.bool true)]) Z Z (by kernel_rfl) ?_))
          have hw9 : VRep RTest w35 M1 ({ Field := k1, Lo := (W (x7.Hi + 1)), Hi := (W (x8.Lo - 1)), Not := true } : Test) (.agg #[(Zv k1), (Zv (W (x7.Hi + 1))), (Zv (W (x8.Lo - 1))), (.bool true)]) := shut_Test
          exact ⟨BX.refl _ _, hw9⟩
         ·
          intro w36 D hS27 hd27
          have hC36 := hC5.no hS27
          have d34 : PV RTest M1 ({ Field := k1, Lo := (W (x7.Hi + 1)), Hi := (W (x8.Lo - 1)), Not := true } : Test) (D 12) w36 := dpA hd27 12 Z
          generalize hq7 : (D 12) = v29 at d34
          refine dg_sub (E' := [(88, v29)]) ⟨congrArg some hq7, Zt⟩ ?_
          obtain rfl := open_Test d34
          exact dg_plain Z (ow_buildSlice (R := RTest) (xs := [({ Field := k1, Lo := (W (x7.Hi + 1)), Hi := (W (x8.Lo - 1)), Not := true } : Test)]) (cs := #[(Zv ({ Field := k1, Lo := (W (x7.Hi + 1)), Hi := (W (x8.Lo - 1)), Not := true } : Test).Field), (Zv ({ Field := k1, Lo := (W (x7.Hi + 1)), Hi := (W (x8.Lo - 1)), Not := true } : Test).Lo), (Zv ({ Field := k1, Lo := (W (x7.Hi + 1)), Hi := (W (x8.Lo - 1)), Not := true } : Test).Hi), (.bool ({ Field := k1, Lo := (W (x7.Hi + 1)), Hi := (W (x8.Lo - 1)), Not := true } : Test).Not)]) (e := 128) Z Z (by kernel_rfl) Z Z ⟨_, _, Z, d34.cells, Z⟩ hC36 fun p26 w37 hw10 hb10 hl37 hC37 => ⟨hb10, hw10⟩)
         ·
          intro w38 D hS28 hd28
          have d48 : PV (RSlice RTest) M1 [({ Field := k1, Lo := (W (x7.Hi + 1)), Hi := (W (x8.Lo - 1)), Not := true } : Test)] (D 13) w38 := dpA hd28 13 Z
          have hl38 := Le.no M1 hS28
          have hC38 := hC5.no hS28
          have hr34 := hw1.no hS28
          generalize hq8 : (D 13) = v30 at d48
          refine lw_sub (E' := [(76, v7), (89, v30), (4, v7), (5, (Zv k1)), (6, v9), (17, v6), (18, (Zv (a_b.Sides.length : Int))), (19, (Zv k1))]) ⟨dpE hd28 0 Z Z, congrArg some hq8, Z, Z, Z, Z, Z, Z, Zt⟩ ?_
          replace hb5 := bind_some hb5
          obtain ⟨z2, hz2, hb5⟩ := hb5
          refine lw_op Z Z Z (ow_append (R := RTest) Z Z Z Z Tryd.underlying36 hi128 hz128 hs128 hy128 Z Z Z Z hr34 d48 hz2 hC38 fun v31 w39 M3 hr35 hb11 hl39 hC39 hM2 hat2 => lw_op Z Z Z (ow_assign Z Z (lw_nil (ew_blockN (ew_blockN (ew_then (cw_region (lw_op Z Z Z (ow_add Z Z Z (lw_op Z Z Z (ow_move Z Z (lw_nil ?_))))))))))))
          have lz5 := ((hl5.trans hl38).trans hl39)
          exact ew_nxt (z2, (W (k1 + 1))) hb5 fun a ha => ⟨M3, v31, (ha.sub ⟨Z, Z, Z, Z, Zt⟩), lz5, hC39, hr35⟩
        ·
         obtain rfl := hbb8.trans hc8
         refine cw_false Z (cw_seq (cw_region (lw_op Z Z Z (ow_assign Z Z (lw_op Z Z Z (ow_assign Z Z (lw_nil (ew_then (cw_ret (ew_blockR (ew_blockR (ew_thenR (ew_thenR (ew_blockR (ew_brkR (ew_thenR ?_))))))))))))))))
         have e9 := hR1 _ (sj hb5).symm
         subst e9
         obtain rfl := sj h
         exact ew_ret (res2 Z (.tmp Z) (.tmp Z)) ⟨_, Z, ⟨_, _, Z, ⟨M1, ownrow_nil, hC5⟩, ((vbool _))⟩, hC5.bx⟩
       ·
        obtain rfl := hbb7.trans hc7
        refine lw_off Z Z Z Z Z Z (lw_off Z Z Z Z Z Z (lw_off Z Z Z Z Z Z (lw_off Z Z Z Z Z Z (lw_off Z Z Z Z Z Z (lw_off Z Z Z Z Z Z (lw_op Z Z Z (ow_pickF Z Z Z (lw_op Z Z Z (ow_assign Z Z (lw_nil (ew_then (cw_false Z (cw_seq (cw_region (lw_op Z Z Z (ow_assign Z Z (lw_op Z Z Z (ow_assign Z Z (lw_nil (ew_then (cw_ret (ew_blockR (ew_blockR (ew_thenR (ew_thenR (ew_blockR (ew_brkR (ew_thenR ?_))))))))))))))))))))))))))))
        have e10 := hR1 _ (sj hb5).symm
        subst e10
        obtain rfl := sj h
        exact ew_ret (res2 Z (.tmp Z) (.tmp Z)) ⟨_, Z, ⟨_, _, Z, ⟨M1, ownrow_nil, hC5⟩, ((vbool _))⟩, hC5.bx⟩
      ·
       obtain rfl := hbb6.trans hc6
       refine lw_off Z Z Z Z Z Z (lw_off Z Z Z Z Z Z (lw_off Z Z Z Z Z Z (lw_off Z Z Z Z Z Z (lw_off Z Z Z Z Z Z (lw_op Z Z Z (ow_pickF Z Z Z (lw_op Z Z Z (ow_move Z Z (lw_off Z Z Z Z Z Z (lw_off Z Z Z Z Z Z (lw_off Z Z Z Z Z Z (lw_off Z Z Z Z Z Z (lw_off Z Z Z Z Z Z (lw_off Z Z Z Z Z Z (lw_op Z Z Z (ow_pickF Z Z Z (lw_op Z Z Z (ow_assign Z Z (lw_nil (ew_then (cw_false Z (cw_seq (cw_region (lw_op Z Z Z (ow_assign Z Z (lw_op Z Z Z (ow_assign Z Z (lw_nil (ew_then (cw_ret ?_))))))))))))))))))))))))))))))
       refine ew_blockR (ew_blockR (ew_thenR (ew_thenR (ew_blockR (ew_brkR (ew_thenR ?_))))))
       have e11 := hR1 _ (sj hb5).symm
       subst e11
       obtain rfl := sj h
       exact ew_ret (res2 Z (.tmp Z) (.tmp Z)) ⟨_, Z, ⟨_, _, Z, ⟨M1, ownrow_nil, hC5⟩, ((vbool _))⟩, hC5.bx⟩
    ·
     obtain rfl := hbb1.trans hc3
     exact cw_false Z (cw_exit (ew_thenX (ew_thenX (ew_blockX (ew_brk (y1, k1) hb5 fun a ha => ⟨M1, v7, (ha.sub ⟨Z, Z, Z, Z, Zt⟩), hl5, hC5, hw1⟩)))))
   ·
    rintro ⟨y2, k2⟩ a w40 hlr2 ⟨M4, v32, hF2, hl40, hC40, hw11⟩
    subst hlr2
    refine ew_at (E := [(4, v32), (17, v6), (18, (Zv (a_b.Sides.length : Int))), (19, (Zv k2))]) hF2 (ew_then (cw_seq (cw_region (lw_op Z Z Z (ow_move Z Z (lw_op Z Z Z (ow_assign Z Z (lw_op Z Z Z (ow_assign Z Z (lw_nil (ew_then (cw_ret ?_))))))))))))
    obtain rfl := sj h
    exact ew_ret (res2 Z (.tmp Z) (.tmp Z)) ⟨_, Z, ⟨_, _, Z, ⟨M4, hw11, hC40⟩, ((vbool _))⟩, hC40.bx⟩
 ·
  subst hc1
  refine lw_off Z Z Z Z Z Z (lw_off Z Z Z Z Z Z (lw_off Z Z Z Z Z Z (lw_op Z Z Z (ow_pickT Z Z Z (lw_nil (ew_then (cw_true Z (cw_seq (cw_region (lw_op Z Z Z (ow_assign Z Z (lw_op Z Z Z (ow_assign Z Z (lw_nil (ew_then (cw_ret (ew_thenR ?_)))))))))))))))))
  obtain rfl := sj h
  exact ew_ret (res2 Z (.tmp Z) (.tmp Z)) ⟨_, Z, ⟨_, _, Z, ⟨M, ownrow_nil, hC2⟩, ((vbool _))⟩, hC2.bx⟩

theorem w_impl_BoxTests {w : World} {M : Nat → Prop} (hG : ARep (RArr 4 RShape) w M shapes ⟨0, 0, none⟩) (hO : ∀ b, M b → b < w.heap.size) {v0p : Value} {a_b : Box} (h0 : VRep RBox w M a_b v0p) {r : (List Test) × Bool} (h : F.impl_BoxTests a_b = some r) :
  Calls Tryd.prog 24 [v0p].toArray w fun e w' => ∃ v, e = .returned v ∧ (∃ u0 u1, v = .tuple #[u0, u1] ∧ VRep (RSlice RTest) w' M r.1 u0 ∧ VRep RBool w' M r.2 u1) ∧ BX No w w' := by
 refine Calls.mono (wo_impl_BoxTests hG hO h0 h) fun e w1 hz => ?_
 obtain ⟨v, e1, ⟨u0, u1, rfl, ⟨M1, hr, hc⟩, h2⟩, hb⟩ := hz
 exact ⟨_, e1, ⟨_, _, Z, hr.freezeBack hc hO, h2⟩, hb⟩

theorem w_laws_eqTest {w : World} {M : Nat → Prop} (_hG : ARep (RArr 4 RShape) w M shapes ⟨0, 0, none⟩) (hO : ∀ b, M b → b < w.heap.size) {v0p : Value} {a_a : Test} (h0 : VRep RTest w M a_a v0p) {v1p : Value} {a_b : Test} (h1 : VRep RTest w M a_b v1p) {r : Bool} (h : F.laws_eqTest a_a a_b = some r) :
  Calls Tryd.prog 93 [v0p, v1p].toArray w fun e w' => ∃ v, e = .returned v ∧ VRep RBool w' M r v ∧ BX No w w' := by
 have hC : Cx No w M w M := Cx.start hO (fun _ e => e.elim)
 clear _hG
 refine walk (N := 25) Tryd.func93 Z Tryd.ntmps93 Z (cw_seq (cw_region (lw_op Z Z Z (ow_box (R := RTest) Z Z h0 hC fun p1 w1 hp1 hb1 hl1 hC1 => lw_op Z Z Z (ow_box (R := RTest) Z Z (VRep.mono hl1 h1) hC1 fun p2 w2 hp2 hb2 hl2 hC2 => lw_op Z Z Z (ow_assign Z Z (lw_nil (ew_then (cw_seq (cw_seq (cw_region (lw_op Z Z Z (ow_fieldAddr Z Z Tryd.underlying128 Z (Tryd.sizeOf3 _) (lw_op Z Z Z (ow_load (R := RInt) Z Z (ARep.mono hl2 (hp1.fld fld_Test_Field)) (Tryd.sizeOf3 _) (Tryd.isAgg3 _) fun v1 hv1 => ?_)))))))))))))))
 obtain rfl := vint_eq hv1
 refine lw_op Z Z Z (ow_fieldAddr Z Z Tryd.underlying128 Z (Tryd.sizeOf3 _) (lw_op Z Z Z (ow_load (R := RInt) Z Z (hp2.fld fld_Test_Field) (Tryd.sizeOf3 _) (Tryd.isAgg3 _) fun v2 hv2 => ?_)))
 obtain rfl := vint_eq hv2
 refine lw_op Z Z Z (ow_neqI Z Z Z fun bb1 hbb1 => lw_nil (ew_then ?_))
 replace h := cond_some h
 rcases h with ⟨hc1, h⟩ | ⟨hc1, h⟩
 ·
  obtain rfl := hbb1.trans hc1
  refine cw_true Z (cw_seq (cw_region (lw_op Z Z Z (ow_assign Z Z (lw_nil (ew_then (cw_ret (ew_thenR ?_))))))))
  obtain rfl := sj h
  exact ew_ret (res1 Z (.tmp Z)) ⟨_, Z, ((vbool _)), hC2.bx⟩
 ·
  obtain rfl := hbb1.trans hc1
  refine cw_false Z (cw_skip (ew_then (cw_seq (cw_seq (cw_region (lw_op Z Z Z (ow_fieldAddr Z Z Tryd.underlying128 Z (Tryd.sizeOf3 _) (lw_op Z Z Z (ow_load (R := RInt) Z Z (ARep.mono hl2 (hp1.fld fld_Test_Lo)) (Tryd.sizeOf3 _) (Tryd.isAgg3 _) fun v3 hv3 => ?_)))))))))
  obtain rfl := vint_eq hv3
  refine lw_op Z Z Z (ow_fieldAddr Z Z Tryd.underlying128 Z (Tryd.sizeOf3 _) (lw_op Z Z Z (ow_load (R := RInt) Z Z (hp2.fld fld_Test_Lo) (Tryd.sizeOf3 _) (Tryd.isAgg3 _) fun v4 hv4 => ?_)))
  obtain rfl := vint_eq hv4
  refine lw_op Z Z Z (ow_neqI Z Z Z fun bb2 hbb2 => lw_nil (ew_then ?_))
  replace h := cond_some h
  rcases h with ⟨hc2, h⟩ | ⟨hc2, h⟩
  ·
   obtain rfl := hbb2.trans hc2
   refine cw_true Z (cw_seq (cw_region (lw_op Z Z Z (ow_assign Z Z (lw_nil (ew_then (cw_ret (ew_thenR ?_))))))))
   obtain rfl := sj h
   exact ew_ret (res1 Z (.tmp Z)) ⟨_, Z, ((vbool _)), hC2.bx⟩
  ·
   obtain rfl := hbb2.trans hc2
   refine cw_false Z (cw_skip (ew_then (cw_seq (cw_seq (cw_region (lw_op Z Z Z (ow_fieldAddr Z Z Tryd.underlying128 Z (Tryd.sizeOf3 _) (lw_op Z Z Z (ow_load (R := RInt) Z Z (ARep.mono hl2 (hp1.fld fld_Test_Hi)) (Tryd.sizeOf3 _) (Tryd.isAgg3 _) fun v5 hv5 => ?_)))))))))
   obtain rfl := vint_eq hv5
   refine lw_op Z Z Z (ow_fieldAddr Z Z Tryd.underlying128 Z (Tryd.sizeOf3 _) (lw_op Z Z Z (ow_load (R := RInt) Z Z (hp2.fld fld_Test_Hi) (Tryd.sizeOf3 _) (Tryd.isAgg3 _) fun v6 hv6 => ?_)))
   obtain rfl := vint_eq hv6
   refine lw_op Z Z Z (ow_neqI Z Z Z fun bb3 hbb3 => lw_nil (ew_then ?_))
   replace h := cond_some h
   rcases h with ⟨hc3, h⟩ | ⟨hc3, h⟩
   ·
    obtain rfl := hbb3.trans hc3
    refine cw_true Z (cw_seq (cw_region (lw_op Z Z Z (ow_assign Z Z (lw_nil (ew_then (cw_ret (ew_thenR ?_))))))))
    obtain rfl := sj h
    exact ew_ret (res1 Z (.tmp Z)) ⟨_, Z, ((vbool _)), hC2.bx⟩
   ·
    obtain rfl := hbb3.trans hc3
    refine cw_false Z (cw_skip (ew_then (cw_seq (cw_seq (cw_region (lw_op Z Z Z (ow_fieldAddr Z Z Tryd.underlying128 Z (Tryd.sizeOf4 _) (lw_op Z Z Z (ow_load (R := RBool) Z Z (ARep.mono hl2 (hp1.fld fld_Test_Not)) (Tryd.sizeOf4 _) (Tryd.isAgg4 _) fun v7 hv7 => ?_)))))))))
    obtain ⟨bb4, hbb4, rfl⟩ := vbool_ex hv7
    refine lw_op Z Z Z (ow_fieldAddr Z Z Tryd.underlying128 Z (Tryd.sizeOf4 _) (lw_op Z Z Z (ow_load (R := RBool) Z Z (hp2.fld fld_Test_Not) (Tryd.sizeOf4 _) (Tryd.isAgg4 _) fun v8 hv8 => ?_)))
    obtain ⟨bb5, hbb5, rfl⟩ := vbool_ex hv8
    refine lw_op Z Z Z (ow_neqB Z Z Z Tryd.underlying4 fun bb6 hbb6 => ?_)
    have hbb6' : bb6 = (a_a.Not != a_b.Not) := hbb6.trans (by rw [hbb4, hbb5])
    refine lw_nil (ew_then ?_)
    replace h := cond_some h
    rcases h with ⟨hc4, h⟩ | ⟨hc4, h⟩
    ·
     obtain rfl := hbb6'.trans hc4
     refine cw_true Z (cw_seq (cw_region (lw_op Z Z Z (ow_assign Z Z (lw_nil (ew_then (cw_ret (ew_thenR ?_))))))))
     obtain rfl := sj h
     exact ew_ret (res1 Z (.tmp Z)) ⟨_, Z, ((vbool _)), hC2.bx⟩
    ·
     obtain rfl := hbb6'.trans hc4
     refine cw_false Z (cw_skip (ew_then (cw_seq (cw_region (lw_op Z Z Z (ow_assign Z Z (lw_nil (ew_then (cw_ret ?_)))))))))
     obtain rfl := sj h
     exact ew_ret (res1 Z (.tmp Z)) ⟨_, Z, ((vbool _)), hC2.bx⟩

theorem w_laws_eqTestS {w : World} {M : Nat → Prop} (hG : ARep (RArr 4 RShape) w M shapes ⟨0, 0, none⟩) (hO : ∀ b, M b → b < w.heap.size) {v0p : Value} {a_a : List Test} (h0 : VRep (RSlice RTest) w M a_a v0p) {v1p : Value} {a_b : List Test} (h1 : VRep (RSlice RTest) w M a_b v1p) {r : Bool} (h : F.laws_eqTestS a_a a_b = some r) :
  Calls Tryd.prog 25 [v0p, v1p].toArray w fun e w' => ∃ v, e = .returned v ∧ VRep RBool w' M r v ∧ BX No w w' := by
 have hC : Cx No w M w M := Cx.start hO (fun _ e => e.elim)
 refine walk (N := 27) Tryd.func25 Z Tryd.ntmps25 Z (cw_seq (cw_region (lw_op Z Z Z (ow_assign Z Z (lw_nil (ew_then (cw_seq (cw_seq (cw_region (lw_op Z Z Z (ow_move Z Z (lw_op Z Z Z (ow_len Z Z h0 Tryd.underlying36 Z (lw_op Z Z Z (ow_move Z Z (lw_op Z Z Z (ow_len Z Z h1 Tryd.underlying36 Z (lw_op Z Z Z (ow_neqI Z Z Z fun bb1 hbb1 => lw_nil (ew_then ?_))))))))))))))))))))
 replace h := cond_some h
 rcases h with ⟨hc1, h⟩ | ⟨hc1, h⟩
 ·
  obtain rfl := hbb1.trans hc1
  refine cw_true Z (cw_seq (cw_region (lw_op Z Z Z (ow_assign Z Z (lw_nil (ew_then (cw_ret (ew_thenR ?_))))))))
  obtain rfl := sj h
  exact ew_ret (res1 Z (.tmp Z)) ⟨_, Z, ((vbool _)), hC.bx⟩
 ·
  obtain rfl := hbb1.trans hc1
  refine cw_false Z (cw_skip (ew_then (cw_seq (cw_seq (cw_region (lw_op Z Z Z (ow_assign Z Z (lw_nil (ew_then ?_)))))))))
  replace h := bind_some h
  obtain ⟨lr1, hlr1, h⟩ := h
  refine cw_for hlr1 (fun s a w' => ∃ (M' : Nat → Prop), Fits 27 [(0, v0p), (1, v1p), (5, (Zv s))] a ∧ Le w M w' M' ∧ Cx No w M w' M') ?_ ?_ ?_
  · exact fun a ha => ⟨M, ha.sub ⟨Z, Z, Z, Zt⟩, Le.refl _ _, hC⟩
  ·
   rintro k1 a w1 sr1 ⟨M1, hF1, hl1, hC1⟩ hb1 hR1
   refine cw_at (E := [(0, v0p), (1, v1p), (5, (Zv k1))]) hF1 (cw_seq (cw_seq (cw_region (lw_op Z Z Z (ow_move Z Z (lw_op Z Z Z (ow_move Z Z (lw_op Z Z Z (ow_len Z Z (VRep.mono hl1 h0) Tryd.underlying36 Z (lw_op Z Z Z (ow_lss Z Z Z fun bb2 hbb2 => lw_nil (ew_then ?_))))))))))))
   replace hb1 := cond_some hb1
   rcases hb1 with ⟨hc2, hb1⟩ | ⟨hc2, hb1⟩
   ·
    obtain rfl := hbb2.trans hc2
    refine cw_true Z (cw_skip (ew_then (cw_seq (cw_block (cw_seq ?_)))))
    replace hb1 := bind_some hb1
    obtain ⟨x1, hx1, hb1⟩ := hb1
    replace hb1 := bind_some hb1
    obtain ⟨x2, hx2, hb1⟩ := hb1
    refine cw_sub (E' := [(0, v0p), (1, v1p), (5, (Zv k1))]) ⟨Z, Z, Z, Zt⟩ (cw_drawQ 8 [PV (RSlice RTest) M1 a_a, PEq (Zv k1), PA RTest M1 x1, PV RTest M1 x1, PV (RSlice RTest) M1 a_b, PEq (Zv k1), PA RTest M1 x2, PV RTest M1 x2] (by kernel_rfl) Z (by kernel_rfl) ⟨PV.mono _ _ _, Zq, PA.mono _ _ _, PV.mono _ _ _, PV.mono _ _ _, Zq, PA.mono _ _ _, PV.mono _ _ _, Zt⟩ ⟨?_, ?_, ?_, ?_, ?_, ?_, ?_, ?_, Zt⟩ ?_)
    ·
     intro w2 D hS1 hd1
     have hl2 := Le.no M1 hS1
     exact dg_sub (E' := [(0, v0p)]) ⟨Z, Zt⟩ (dg_plain Z (ow_move Z Z ⟨BX.refl _ _, (VRep.mono (hl1.trans hl2) h0)⟩))
    · exact fun w3 D hS2 hd2 => dg_sub (E' := [(5, (Zv k1))]) ⟨Z, Zt⟩ (dg_plain Z (ow_move Z Z Zb))
    ·
     intro w4 D hS3 hd3
     have d1 : PV (RSlice RTest) M1 a_a (D 0) w4 := dpA hd3 0 Z
     generalize hq1 : (D 0) = v4 at d1
     exact dg_sub (E' := [(17, v4), (18, (Zv k1))]) ⟨congrArg some hq1, dpE hd3 1 Z Z, Zt⟩ (dg_plain Z (ow_indexSlice (R := RTest) Z Z Z d1 Tryd.underlying36 (Tryd.sizeOf128 _) hx1 fun p3 hp3 => ⟨BX.refl _ _, ⟨_, Z, hp3⟩⟩))
    ·
     intro w5 D hS4 hd4
     have d3 : PA RTest M1 x1 (D 2) w5 := dpA hd4 2 Z
     obtain ⟨p4, e1, ha1⟩ := d3
     exact dg_sub (E' := [(19, (.pointer (some p4)))]) ⟨congrArg some e1, Zt⟩ (dg_plain Z (ow_load (R := RTest) Z Z ha1 (Tryd.sizeOf128 _) (Tryd.isAgg128 _) fun v5 hv5 => ⟨BX.refl _ _, hv5⟩))
    ·
     intro w6 D hS5 hd5
     have hl6 := Le.no M1 hS5
     exact dg_sub (E' := [(1, v1p)]) ⟨Z, Zt⟩ (dg_plain Z (ow_move Z Z ⟨BX.refl _ _, (VRep.mono (hl1.trans hl6) h1)⟩))
    · exact fun w7 D hS6 hd6 => dg_sub (E' := [(5, (Zv k1))]) ⟨Z, Zt⟩ (dg_plain Z (ow_move Z Z Zb))
    ·
     intro w8 D hS7 hd7
     have d4 : PV (RSlice RTest) M1 a_b (D 4) w8 := dpA hd7 4 Z
     generalize hq2 : (D 4) = v6 at d4
     exact dg_sub (E' := [(21, v6), (22, (Zv k1))]) ⟨congrArg some hq2, dpE hd7 5 Z Z, Zt⟩ (dg_plain Z (ow_indexSlice (R := RTest) Z Z Z d4 Tryd.underlying36 (Tryd.sizeOf128 _) hx2 fun p5 hp5 => ⟨BX.refl _ _, ⟨_, Z, hp5⟩⟩))
    ·
     intro w9 D hS8 hd8
     have d6 : PA RTest M1 x2 (D 6) w9 := dpA hd8 6 Z
     obtain ⟨p6, e2, ha2⟩ := d6
     exact dg_sub (E' := [(23, (.pointer (some p6)))]) ⟨congrArg some e2, Zt⟩ (dg_plain Z (ow_load (R := RTest) Z Z ha2 (Tryd.sizeOf128 _) (Tryd.isAgg128 _) fun v7 hv7 => ⟨BX.refl _ _, hv7⟩))
    ·
     intro w10 D hS9 hd9
     have d10 : PV RTest M1 x1 (D 3) w10 := dpA hd9 3 Z
     have d14 : PV RTest M1 x2 (D 7) w10 := dpA hd9 7 Z
     have hl10 := Le.no M1 hS9
     have hC10 := hC1.no hS9
     generalize hq3 : (D 3) = v8 at d10
     generalize hq4 : (D 7) = v9 at d14
     refine lw_sub (E' := [(20, v8), (24, v9), (0, v0p), (1, v1p), (5, (Zv k1))]) ⟨congrArg some hq3, congrArg some hq4, Z, Z, Z, Zt⟩ ?_
     replace hb1 := bind_some hb1
     obtain ⟨x3, hx3, hb1⟩ := hb1
     refine lw_op Z Z Z (ow_call Z Z Tryd.call93 (w_laws_eqTest (hG.mono (hl1.trans hl10)) hC10.old d10 d14 hx3) fun v10 w11 hv10 => ?_)
     obtain ⟨hv10, hb2⟩ := hv10
     have hl11 := Le.no M1 hb2
     have hC11 := hC10.no hb2
     obtain rfl := vbool_eq hv10
     refine lw_op Z Z Z (ow_not Z Z (lw_nil (ew_then ?_)))
     replace hb1 := cond_some hb1
     rcases hb1 with ⟨hc3, hb1⟩ | ⟨hc3, hb1⟩
     ·
      subst hc3
      refine cw_false Z (cw_skip (ew_blockN (ew_then (cw_region (lw_op Z Z Z (ow_move Z Z (lw_op Z Z Z (ow_add Z Z Z (lw_op Z Z Z (ow_assign Z Z (lw_nil ?_)))))))))))
      have lz1 := ((hl1.trans hl10).trans hl11)
      exact ew_nxt (W (k1 + 1)) hb1 fun a ha => ⟨M1, (ha.sub ⟨Z, Z, Z, Zt⟩), lz1, hC11⟩
     ·
      subst hc3
      refine cw_true Z (cw_seq (cw_region (lw_op Z Z Z (ow_assign Z Z (lw_nil (ew_then (cw_ret (ew_blockR (ew_thenR (ew_thenR (ew_blockR (ew_brkR (ew_thenR ?_)))))))))))))
      have e3 := hR1 _ (sj hb1).symm
      subst e3
      obtain rfl := sj h
      exact ew_ret (res1 Z (.tmp Z)) ⟨_, Z, ((vbool _)), hC11.bx⟩
   ·
    obtain rfl := hbb2.trans hc2
    exact cw_false Z (cw_exit (ew_thenX (ew_thenX (ew_blockX (ew_brk k1 hb1 fun a ha => ⟨M1, (ha.sub ⟨Z, Z, Z, Zt⟩), hl1, hC1⟩)))))
  ·
   rintro k2 a w12 hlr2 ⟨M2, hF2, hl12, hC12⟩
   subst hlr2
   refine ew_at (E := [(0, v0p), (1, v1p), (5, (Zv k2))]) hF2 (ew_then (cw_seq (cw_region (lw_op Z Z Z (ow_assign Z Z (lw_nil (ew_then (cw_ret ?_))))))))
   obtain rfl := sj h
   exact ew_ret (res1 Z (.tmp Z)) ⟨_, Z, ((vbool _)), hC12.bx⟩

theorem w_laws_eqSpan {w : World} {M : Nat → Prop} (_hG : ARep (RArr 4 RShape) w M shapes ⟨0, 0, none⟩) (hO : ∀ b, M b → b < w.heap.size) {v0p : Value} {a_a : Span} (h0 : VRep RSpan w M a_a v0p) {v1p : Value} {a_b : Span} (h1 : VRep RSpan w M a_b v1p) {r : Bool} (h : F.laws_eqSpan a_a a_b = some r) :
  Calls Tryd.prog 180 [v0p, v1p].toArray w fun e w' => ∃ v, e = .returned v ∧ VRep RBool w' M r v ∧ BX No w w' := by
 have hC : Cx No w M w M := Cx.start hO (fun _ e => e.elim)
 clear _hG
 refine walk (N := 15) Tryd.func180 Z Tryd.ntmps180 Z (cw_seq (cw_region (lw_op Z Z Z (ow_box (R := RSpan) Z Z h0 hC fun p1 w1 hp1 hb1 hl1 hC1 => lw_op Z Z Z (ow_box (R := RSpan) Z Z (VRep.mono hl1 h1) hC1 fun p2 w2 hp2 hb2 hl2 hC2 => lw_op Z Z Z (ow_assign Z Z (lw_nil (ew_then (cw_seq (cw_seq (cw_region (lw_op Z Z Z (ow_fieldAddr Z Z Tryd.underlying120 Z (Tryd.sizeOf3 _) (lw_op Z Z Z (ow_load (R := RInt) Z Z (ARep.mono hl2 (hp1.fld fld_Span_Lo)) (Tryd.sizeOf3 _) (Tryd.isAgg3 _) fun v1 hv1 => ?_)))))))))))))))
 obtain rfl := vint_eq hv1
 refine lw_op Z Z Z (ow_fieldAddr Z Z Tryd.underlying120 Z (Tryd.sizeOf3 _) (lw_op Z Z Z (ow_load (R := RInt) Z Z (hp2.fld fld_Span_Lo) (Tryd.sizeOf3 _) (Tryd.isAgg3 _) fun v2 hv2 => ?_)))
 obtain rfl := vint_eq hv2
 refine lw_op Z Z Z (ow_neqI Z Z Z fun bb1 hbb1 => lw_nil (ew_then ?_))
 replace h := cond_some h
 rcases h with ⟨hc1, h⟩ | ⟨hc1, h⟩
 ·
  obtain rfl := hbb1.trans hc1
  refine cw_true Z (cw_seq (cw_region (lw_op Z Z Z (ow_assign Z Z (lw_nil (ew_then (cw_ret (ew_thenR ?_))))))))
  obtain rfl := sj h
  exact ew_ret (res1 Z (.tmp Z)) ⟨_, Z, ((vbool _)), hC2.bx⟩
 ·
  obtain rfl := hbb1.trans hc1
  refine cw_false Z (cw_skip (ew_then (cw_seq (cw_seq (cw_region (lw_op Z Z Z (ow_fieldAddr Z Z Tryd.underlying120 Z (Tryd.sizeOf3 _) (lw_op Z Z Z (ow_load (R := RInt) Z Z (ARep.mono hl2 (hp1.fld fld_Span_Hi)) (Tryd.sizeOf3 _) (Tryd.isAgg3 _) fun v3 hv3 => ?_)))))))))
  obtain rfl := vint_eq hv3
  refine lw_op Z Z Z (ow_fieldAddr Z Z Tryd.underlying120 Z (Tryd.sizeOf3 _) (lw_op Z Z Z (ow_load (R := RInt) Z Z (hp2.fld fld_Span_Hi) (Tryd.sizeOf3 _) (Tryd.isAgg3 _) fun v4 hv4 => ?_)))
  obtain rfl := vint_eq hv4
  refine lw_op Z Z Z (ow_neqI Z Z Z fun bb2 hbb2 => lw_nil (ew_then ?_))
  replace h := cond_some h
  rcases h with ⟨hc2, h⟩ | ⟨hc2, h⟩
  ·
   obtain rfl := hbb2.trans hc2
   refine cw_true Z (cw_seq (cw_region (lw_op Z Z Z (ow_assign Z Z (lw_nil (ew_then (cw_ret (ew_thenR ?_))))))))
   obtain rfl := sj h
   exact ew_ret (res1 Z (.tmp Z)) ⟨_, Z, ((vbool _)), hC2.bx⟩
  ·
   obtain rfl := hbb2.trans hc2
   refine cw_false Z (cw_skip (ew_then (cw_seq (cw_region (lw_op Z Z Z (ow_assign Z Z (lw_nil (ew_then (cw_ret ?_)))))))))
   obtain rfl := sj h
   exact ew_ret (res1 Z (.tmp Z)) ⟨_, Z, ((vbool _)), hC2.bx⟩

theorem w_laws_eqSpanS {w : World} {M : Nat → Prop} (hG : ARep (RArr 4 RShape) w M shapes ⟨0, 0, none⟩) (hO : ∀ b, M b → b < w.heap.size) {v0p : Value} {a_a : List Span} (h0 : VRep (RSlice RSpan) w M a_a v0p) {v1p : Value} {a_b : List Span} (h1 : VRep (RSlice RSpan) w M a_b v1p) {r : Bool} (h : F.laws_eqSpanS a_a a_b = some r) :
  Calls Tryd.prog 152 [v0p, v1p].toArray w fun e w' => ∃ v, e = .returned v ∧ VRep RBool w' M r v ∧ BX No w w' := by
 have hC : Cx No w M w M := Cx.start hO (fun _ e => e.elim)
 refine walk (N := 27) Tryd.func152 Z Tryd.ntmps152 Z (cw_seq (cw_region (lw_op Z Z Z (ow_assign Z Z (lw_nil (ew_then (cw_seq (cw_seq (cw_region (lw_op Z Z Z (ow_move Z Z (lw_op Z Z Z (ow_len Z Z h0 Tryd.underlying121 Z (lw_op Z Z Z (ow_move Z Z (lw_op Z Z Z (ow_len Z Z h1 Tryd.underlying121 Z (lw_op Z Z Z (ow_neqI Z Z Z fun bb1 hbb1 => lw_nil (ew_then ?_))))))))))))))))))))
 replace h := cond_some h
 rcases h with ⟨hc1, h⟩ | ⟨hc1, h⟩
 ·
  obtain rfl := hbb1.trans hc1
  refine cw_true Z (cw_seq (cw_region (lw_op Z Z Z (ow_assign Z Z (lw_nil (ew_then (cw_ret (ew_thenR ?_))))))))
  obtain rfl := sj h
  exact ew_ret (res1 Z (.tmp Z)) ⟨_, Z, ((vbool _)), hC.bx⟩
 ·
  obtain rfl := hbb1.trans hc1
  refine cw_false Z (cw_skip (ew_then (cw_seq (cw_seq (cw_region (lw_op Z Z Z (ow_assign Z Z (lw_nil (ew_then ?_)))))))))
  replace h := bind_some h
  obtain ⟨lr1, hlr1, h⟩ := h
  refine cw_for hlr1 (fun s a w' => ∃ (M' : Nat → Prop), Fits 27 [(0, v0p), (1, v1p), (5, (Zv s))] a ∧ Le w M w' M' ∧ Cx No w M w' M') ?_ ?_ ?_
  · exact fun a ha => ⟨M, ha.sub ⟨Z, Z, Z, Zt⟩, Le.refl _ _, hC⟩
  ·
   rintro k1 a w1 sr1 ⟨M1, hF1, hl1, hC1⟩ hb1 hR1
   refine cw_at (E := [(0, v0p), (1, v1p), (5, (Zv k1))]) hF1 (cw_seq (cw_seq (cw_region (lw_op Z Z Z (ow_move Z Z (lw_op Z Z Z (ow_move Z Z (lw_op Z Z Z (ow_len Z Z (VRep.mono hl1 h0) Tryd.underlying121 Z (lw_op Z Z Z (ow_lss Z Z Z fun bb2 hbb2 => lw_nil (ew_then ?_))))))))))))
   replace hb1 := cond_some hb1
   rcases hb1 with ⟨hc2, hb1⟩ | ⟨hc2, hb1⟩
   ·
    obtain rfl := hbb2.trans hc2
    refine cw_true Z (cw_skip (ew_then (cw_seq (cw_block (cw_seq ?_)))))
    replace hb1 := bind_some hb1
    obtain ⟨x1, hx1, hb1⟩ := hb1
    replace hb1 := bind_some hb1
    obtain ⟨x2, hx2, hb1⟩ := hb1
    refine cw_sub (E' := [(0, v0p), (1, v1p), (5, (Zv k1))]) ⟨Z, Z, Z, Zt⟩ (cw_drawQ 8 [PV (RSlice RSpan) M1 a_a, PEq (Zv k1), PA RSpan M1 x1, PV RSpan M1 x1, PV (RSlice RSpan) M1 a_b, PEq (Zv k1), PA RSpan M1 x2, PV RSpan M1 x2] (by kernel_rfl) Z (by kernel_rfl) ⟨PV.mono _ _ _, Zq, PA.mono _ _ _, PV.mono _ _ _, PV.mono _ _ _, Zq, PA.mono _ _ _, PV.mono _ _ _, Zt⟩ ⟨?_, ?_, ?_, ?_, ?_, ?_, ?_, ?_, Zt⟩ ?_)
    ·
     intro w2 D hS1 hd1
     have hl2 := Le.no M1 hS1
     exact dg_sub (E' := [(0, v0p)]) ⟨Z, Zt⟩ (dg_plain Z (ow_move Z Z ⟨BX.refl _ _, (VRep.mono (hl1.trans hl2) h0)⟩))
    · exact fun w3 D hS2 hd2 => dg_sub (E' := [(5, (Zv k1))]) ⟨Z, Zt⟩ (dg_plain Z (ow_move Z Z Zb))
    ·
     intro w4 D hS3 hd3
     have d1 : PV (RSlice RSpan) M1 a_a (D 0) w4 := dpA hd3 0 Z
     generalize hq1 : (D 0) = v4 at d1
     exact dg_sub (E' := [(17, v4), (18, (Zv k1))]) ⟨congrArg some hq1, dpE hd3 1 Z Z, Zt⟩ (dg_plain Z (ow_indexSlice (R := RSpan) Z Z Z d1 Tryd.underlying121 (Tryd.sizeOf120 _) hx1 fun p3 hp3 => ⟨BX.refl _ _, ⟨_, Z, hp3⟩⟩))
    ·
     intro w5 D hS4 hd4
     have d3 : PA RSpan M1 x1 (D 2) w5 := dpA hd4 2 Z
     obtain ⟨p4, e1, ha1⟩ := d3
     exact dg_sub (E' := [(19, (.pointer (some p4)))]) ⟨congrArg some e1, Zt⟩ (dg_plain Z (ow_load (R := RSpan) Z Z ha1 (Tryd.sizeOf120 _) (Tryd.isAgg120 _) fun v5 hv5 => ⟨BX.refl _ _, hv5⟩))
    ·
     intro w6 D hS5 hd5
     have hl6 := Le.no M1 hS5
     exact dg_sub (E' := [(1, v1p)]) ⟨Z, Zt⟩ (dg_plain Z (ow_move Z Z ⟨BX.refl _ _, (VRep.mono (hl1.trans hl6) h1)⟩))
    · exact fun w7 D hS6 hd6 => dg_sub (E' := [(5, (Zv k1))]) ⟨Z, Zt⟩ (dg_plain Z (ow_move Z Z Zb))
    ·
     intro w8 D hS7 hd7
     have d4 : PV (RSlice RSpan) M1 a_b (D 4) w8 := dpA hd7 4 Z
     generalize hq2 : (D 4) = v6 at d4
     exact dg_sub (E' := [(21, v6), (22, (Zv k1))]) ⟨congrArg some hq2, dpE hd7 5 Z Z, Zt⟩ (dg_plain Z (ow_indexSlice (R := RSpan) Z Z Z d4 Tryd.underlying121 (Tryd.sizeOf120 _) hx2 fun p5 hp5 => ⟨BX.refl _ _, ⟨_, Z, hp5⟩⟩))
    ·
     intro w9 D hS8 hd8
     have d6 : PA RSpan M1 x2 (D 6) w9 := dpA hd8 6 Z
     obtain ⟨p6, e2, ha2⟩ := d6
     exact dg_sub (E' := [(23, (.pointer (some p6)))]) ⟨congrArg some e2, Zt⟩ (dg_plain Z (ow_load (R := RSpan) Z Z ha2 (Tryd.sizeOf120 _) (Tryd.isAgg120 _) fun v7 hv7 => ⟨BX.refl _ _, hv7⟩))
    ·
     intro w10 D hS9 hd9
     have d10 : PV RSpan M1 x1 (D 3) w10 := dpA hd9 3 Z
     have d14 : PV RSpan M1 x2 (D 7) w10 := dpA hd9 7 Z
     have hl10 := Le.no M1 hS9
     have hC10 := hC1.no hS9
     generalize hq3 : (D 3) = v8 at d10
     generalize hq4 : (D 7) = v9 at d14
     refine lw_sub (E' := [(20, v8), (24, v9), (0, v0p), (1, v1p), (5, (Zv k1))]) ⟨congrArg some hq3, congrArg some hq4, Z, Z, Z, Zt⟩ ?_
     replace hb1 := bind_some hb1
     obtain ⟨x3, hx3, hb1⟩ := hb1
     refine lw_op Z Z Z (ow_call Z Z Tryd.call180 (w_laws_eqSpan (hG.mono (hl1.trans hl10)) hC10.old d10 d14 hx3) fun v10 w11 hv10 => ?_)
     obtain ⟨hv10, hb2⟩ := hv10
     have hl11 := Le.no M1 hb2
     have hC11 := hC10.no hb2
     obtain rfl := vbool_eq hv10
     refine lw_op Z Z Z (ow_not Z Z (lw_nil (ew_then ?_)))
     replace hb1 := cond_some hb1
     rcases hb1 with ⟨hc3, hb1⟩ | ⟨hc3, hb1⟩
     ·
      subst hc3
      refine cw_false Z (cw_skip (ew_blockN (ew_then (cw_region (lw_op Z Z Z (ow_move Z Z (lw_op Z Z Z (ow_add Z Z Z (lw_op Z Z Z (ow_assign Z Z (lw_nil ?_)))))))))))
      have lz1 := ((hl1.trans hl10).trans hl11)
      exact ew_nxt (W (k1 + 1)) hb1 fun a ha => ⟨M1, (ha.sub ⟨Z, Z, Z, Zt⟩), lz1, hC11⟩
     ·
      subst hc3
      refine cw_true Z (cw_seq (cw_region (lw_op Z Z Z (ow_assign Z Z (lw_nil (ew_then (cw_ret (ew_blockR (ew_thenR (ew_thenR (ew_blockR (ew_brkR (ew_thenR ?_)))))))))))))
      have e3 := hR1 _ (sj hb1).symm
      subst e3
      obtain rfl := sj h
      exact ew_ret (res1 Z (.tmp Z)) ⟨_, Z, ((vbool _)), hC11.bx⟩
   ·
    obtain rfl := hbb2.trans hc2
    exact cw_false Z (cw_exit (ew_thenX (ew_thenX (ew_blockX (ew_brk k1 hb1 fun a ha => ⟨M1, (ha.sub ⟨Z, Z, Z, Zt⟩), hl1, hC1⟩)))))
  ·
   rintro k2 a w12 hlr2 ⟨M2, hF2, hl12, hC12⟩
   subst hlr2
   refine ew_at (E := [(0, v0p), (1, v1p), (5, (Zv k2))]) hF2 (ew_then (cw_seq (cw_region (lw_op Z Z Z (ow_assign Z Z (lw_nil (ew_then (cw_ret ?_))))))))
   obtain rfl := sj h
   exact ew_ret (res1 Z (.tmp Z)) ⟨_, Z, ((vbool _)), hC12.bx⟩

theorem w_laws_eqSpanSS {w : World} {M : Nat → Prop} (hG : ARep (RArr 4 RShape) w M shapes ⟨0, 0, none⟩) (hO : ∀ b, M b → b < w.heap.size) {v0p : Value} {a_a : List (List Span)} (h0 : VRep (RSlice (RSlice RSpan)) w M a_a v0p) {v1p : Value} {a_b : List (List Span)} (h1 : VRep (RSlice (RSlice RSpan)) w M a_b v1p) {r : Bool} (h : F.laws_eqSpanSS a_a a_b = some r) :
  Calls Tryd.prog 94 [v0p, v1p].toArray w fun e w' => ∃ v, e = .returned v ∧ VRep RBool w' M r v ∧ BX No w w' := by
 have hC : Cx No w M w M := Cx.start hO (fun _ e => e.elim)
 refine walk (N := 27) Tryd.func94 Z Tryd.ntmps94 Z (cw_seq (cw_region (lw_op Z Z Z (ow_assign Z Z (lw_nil (ew_then (cw_seq (cw_seq (cw_region (lw_op Z Z Z (ow_move Z Z (lw_op Z Z Z (ow_len Z Z h0 Tryd.underlying46 Z (lw_op Z Z Z (ow_move Z Z (lw_op Z Z Z (ow_len Z Z h1 Tryd.underlying46 Z (lw_op Z Z Z (ow_neqI Z Z Z fun bb1 hbb1 => lw_nil (ew_then ?_))))))))))))))))))))
 replace h := cond_some h
 rcases h with ⟨hc1, h⟩ | ⟨hc1, h⟩
 ·
  obtain rfl := hbb1.trans hc1
  refine cw_true Z (cw_seq (cw_region (lw_op Z Z Z (ow_assign Z Z (lw_nil (ew_then (cw_ret (ew_thenR ?_))))))))
  obtain rfl := sj h
  exact ew_ret (res1 Z (.tmp Z)) ⟨_, Z, ((vbool _)), hC.bx⟩
 ·
  obtain rfl := hbb1.trans hc1
  refine cw_false Z (cw_skip (ew_then (cw_seq (cw_seq (cw_region (lw_op Z Z Z (ow_assign Z Z (lw_nil (ew_then ?_)))))))))
  replace h := bind_some h
  obtain ⟨lr1, hlr1, h⟩ := h
  refine cw_for hlr1 (fun s a w' => ∃ (M' : Nat → Prop), Fits 27 [(0, v0p), (1, v1p), (5, (Zv s))] a ∧ Le w M w' M' ∧ Cx No w M w' M') ?_ ?_ ?_
  · exact fun a ha => ⟨M, ha.sub ⟨Z, Z, Z, Zt⟩, Le.refl _ _, hC⟩
  ·
   rintro k1 a w1 sr1 ⟨M1, hF1, hl1, hC1⟩ hb1 hR1
   refine cw_at (E := [(0, v0p), (1, v1p), (5, (Zv k1))]) hF1 (cw_seq (cw_seq (cw_region (lw_op Z Z Z (ow_move Z Z (lw_op Z Z Z (ow_move Z Z (lw_op Z Z Z (ow_len Z Z (VRep.mono hl1 h0) Tryd.underlying46 Z (lw_op Z Z Z (ow_lss Z Z Z fun bb2 hbb2 => lw_nil (ew_then ?_))))))))))))
   replace hb1 := cond_some hb1
   rcases hb1 with ⟨hc2, hb1⟩ | ⟨hc2, hb1⟩
   ·
    obtain rfl := hbb2.trans hc2
    refine cw_true Z (cw_skip (ew_then (cw_seq (cw_block (cw_seq ?_)))))
    replace hb1 := bind_some hb1
    obtain ⟨x1, hx1, hb1⟩ := hb1
    replace hb1 := bind_some hb1
    obtain ⟨x2, hx2, hb1⟩ := hb1
    refine cw_sub (E' := [(0, v0p), (1, v1p), (5, (Zv k1))]) ⟨Z, Z, Z, Zt⟩ (cw_drawQ 8 [PV (RSlice (RSlice RSpan)) M1 a_a, PEq (Zv k1), PA (RSlice RSpan) M1 x1, PV (RSlice RSpan) M1 x1, PV (RSlice (RSlice RSpan)) M1 a_b, PEq (Zv k1), PA (RSlice RSpan) M1 x2, PV (RSlice RSpan) M1 x2] (by kernel_rfl) Z (by kernel_rfl) ⟨PV.mono _ _ _, Zq, PA.mono _ _ _, PV.mono _ _ _, PV.mono _ _ _, Zq, PA.mono _ _ _, PV.mono _ _ _, Zt⟩ ⟨?_, ?_, ?_, ?_, ?_, ?_, ?_, ?_, Zt⟩ ?_)
    ·
     intro w2 D hS1 hd1
     have hl2 := Le.no M1 hS1
     exact dg_sub (E' := [(0, v0p)]) ⟨Z, Zt⟩ (dg_plain Z (ow_move Z Z ⟨BX.refl _ _, (VRep.mono (hl1.trans hl2) h0)⟩))
    · exact fun w3 D hS2 hd2 => dg_sub (E' := [(5, (Zv k1))]) ⟨Z, Zt⟩ (dg_plain Z (ow_move Z Z Zb))
    ·
     intro w4 D hS3 hd3
     have d1 : PV (RSlice (RSlice RSpan)) M1 a_a (D 0) w4 := dpA hd3 0 Z
     generalize hq1 : (D 0) = v4 at d1
     exact dg_sub (E' := [(17, v4), (18, (Zv k1))]) ⟨congrArg some hq1, dpE hd3 1 Z Z, Zt⟩ (dg_plain Z (ow_indexSlice (R := (RSlice RSpan)) Z Z Z d1 Tryd.underlying46 (Tryd.sizeOf121 _) hx1 fun p3 hp3 => ⟨BX.refl _ _, ⟨_, Z, hp3⟩⟩))
    ·
     intro w5 D hS4 hd4
     have d3 : PA (RSlice RSpan) M1 x1 (D 2) w5 := dpA hd4 2 Z
     obtain ⟨p4, e1, ha1⟩ := d3
     exact dg_sub (E' := [(19, (.pointer (some p4)))]) ⟨congrArg some e1, Zt⟩ (dg_plain Z (ow_load (R := (RSlice RSpan)) Z Z ha1 (Tryd.sizeOf121 _) (Tryd.isAgg121 _) fun v5 hv5 => ⟨BX.refl _ _, hv5⟩))
    ·
     intro w6 D hS5 hd5
     have hl6 := Le.no M1 hS5
     exact dg_sub (E' := [(1, v1p)]) ⟨Z, Zt⟩ (dg_plain Z (ow_move Z Z ⟨BX.refl _ _, (VRep.mono (hl1.trans hl6) h1)⟩))
    · exact fun w7 D hS6 hd6 => dg_sub (E' := [(5, (Zv k1))]) ⟨Z, Zt⟩ (dg_plain Z (ow_move Z Z Zb))
    ·
     intro w8 D hS7 hd7
     have d4 : PV (RSlice (RSlice RSpan)) M1 a_b (D 4) w8 := dpA hd7 4 Z
     generalize hq2 : (D 4) = v6 at d4
     exact dg_sub (E' := [(21, v6), (22, (Zv k1))]) ⟨congrArg some hq2, dpE hd7 5 Z Z, Zt⟩ (dg_plain Z (ow_indexSlice (R := (RSlice RSpan)) Z Z Z d4 Tryd.underlying46 (Tryd.sizeOf121 _) hx2 fun p5 hp5 => ⟨BX.refl _ _, ⟨_, Z, hp5⟩⟩))
    ·
     intro w9 D hS8 hd8
     have d6 : PA (RSlice RSpan) M1 x2 (D 6) w9 := dpA hd8 6 Z
     obtain ⟨p6, e2, ha2⟩ := d6
     exact dg_sub (E' := [(23, (.pointer (some p6)))]) ⟨congrArg some e2, Zt⟩ (dg_plain Z (ow_load (R := (RSlice RSpan)) Z Z ha2 (Tryd.sizeOf121 _) (Tryd.isAgg121 _) fun v7 hv7 => ⟨BX.refl _ _, hv7⟩))
    ·
     intro w10 D hS9 hd9
     have d10 : PV (RSlice RSpan) M1 x1 (D 3) w10 := dpA hd9 3 Z
     have d14 : PV (RSlice RSpan) M1 x2 (D 7) w10 := dpA hd9 7 Z
     have hl10 := Le.no M1 hS9
     have hC10 := hC1.no hS9
     generalize hq3 : (D 3) = v8 at d10
     generalize hq4 : (D 7) = v9 at d14
     refine lw_sub (E' := [(20, v8), (24, v9), (0, v0p), (1, v1p), (5, (Zv k1))]) ⟨congrArg some hq3, congrArg some hq4, Z, Z, Z, Zt⟩ ?_
     replace hb1 := bind_some hb1
     obtain ⟨x3, hx3, hb1⟩ := hb1
     refine lw_op Z Z Z (ow_call Z Z Tryd.call152 (w_laws_eqSpanS (hG.mono (hl1.trans hl10)) hC10.old d10 d14 hx3) fun v10 w11 hv10 => ?_)
     obtain ⟨hv10, hb2⟩ := hv10
     have hl11 := Le.no M1 hb2
     have hC11 := hC10.no hb2
     obtain rfl := vbool_eq hv10
     refine lw_op Z Z Z (ow_not Z Z (lw_nil (ew_then ?_)))
     replace hb1 := cond_some hb1
     rcases hb1 with ⟨hc3, hb1⟩ | ⟨hc3, hb1⟩
     ·
      subst hc3
      refine cw_false Z (cw_skip (ew_blockN (ew_then (cw_region (lw_op Z Z Z (ow_move Z Z (lw_op Z Z Z (ow_add Z Z Z (lw_op Z Z Z (ow_assign Z Z (lw_nil ?_)))))))))))
      have lz1 := ((hl1.trans hl10).trans hl11)
      exact ew_nxt (W (k1 + 1)) hb1 fun a ha => ⟨M1, (ha.sub ⟨Z, Z, Z, Zt⟩), lz1, hC11⟩
     ·
      subst hc3
      refine cw_true Z (cw_seq (cw_region (lw_op Z Z Z (ow_assign Z Z (lw_nil (ew_then (cw_ret (ew_blockR (ew_thenR (ew_thenR (ew_blockR (ew_brkR (ew_thenR ?_)))))))))))))
      have e3 := hR1 _ (sj hb1).symm
      subst e3
      obtain rfl := sj h
      exact ew_ret (res1 Z (.tmp Z)) ⟨_, Z, ((vbool _)), hC11.bx⟩
   ·
    obtain rfl := hbb2.trans hc2
    exact cw_false Z (cw_exit (ew_thenX (ew_thenX (ew_blockX (ew_brk k1 hb1 fun a ha => ⟨M1, (ha.sub ⟨Z, Z, Z, Zt⟩), hl1, hC1⟩)))))
  ·
   rintro k2 a w12 hlr2 ⟨M2, hF2, hl12, hC12⟩
   subst hlr2
   refine ew_at (E := [(0, v0p), (1, v1p), (5, (Zv k2))]) hF2 (ew_then (cw_seq (cw_region (lw_op Z Z Z (ow_assign Z Z (lw_nil (ew_then (cw_ret ?_))))))))
   obtain rfl := sj h
   exact ew_ret (res1 Z (.tmp Z)) ⟨_, Z, ((vbool _)), hC12.bx⟩

theorem w_laws_eqBox {w : World} {M : Nat → Prop} (hG : ARep (RArr 4 RShape) w M shapes ⟨0, 0, none⟩) (hO : ∀ b, M b → b < w.heap.size) {v0p : Value} {a_a : Box} (h0 : VRep RBox w M a_a v0p) {v1p : Value} {a_b : Box} (h1 : VRep RBox w M a_b v1p) {r : Bool} (h : F.laws_eqBox a_a a_b = some r) :
  Calls Tryd.prog 26 [v0p, v1p].toArray w fun e w' => ∃ v, e = .returned v ∧ VRep RBool w' M r v ∧ BX No w w' := by
 have hC : Cx No w M w M := Cx.start hO (fun _ e => e.elim)
 refine walk (N := 11) Tryd.func26 Z Tryd.ntmps26 Z (cw_seq (cw_region (lw_op Z Z Z (ow_box (R := RBox) Z Z h0 hC fun p1 w1 hp1 hb1 hl1 hC1 => lw_op Z Z Z (ow_box (R := RBox) Z Z (VRep.mono hl1 h1) hC1 fun p2 w2 hp2 hb2 hl2 hC2 => lw_op Z Z Z (ow_assign Z Z (lw_nil (ew_then (cw_seq (cw_seq (cw_region (lw_op Z Z Z (ow_fieldAddr Z Z Tryd.underlying48 Z (Tryd.sizeOf46 _) (lw_op Z Z Z (ow_load (R := (RSlice (RSlice RSpan))) Z Z (ARep.mono hl2 (hp1.fld fld_Box_Sides)) (Tryd.sizeOf46 _) (Tryd.isAgg46 _) fun v1 hv1 => lw_op Z Z Z (ow_fieldAddr Z Z Tryd.underlying48 Z (Tryd.sizeOf46 _) (lw_op Z Z Z (ow_load (R := (RSlice (RSlice RSpan))) Z Z (hp2.fld fld_Box_Sides) (Tryd.sizeOf46 _) (Tryd.isAgg46 _) fun v2 hv2 => ?_))))))))))))))))))
 replace h := bind_some h
 obtain ⟨x1, hx1, h⟩ := h
 refine lw_op Z Z Z (ow_call Z Z Tryd.call94 (w_laws_eqSpanSS (hG.mono (hl1.trans hl2)) hC2.old hv1 hv2 hx1) fun v3 w3 hv3 => ?_)
 obtain ⟨hv3, hb3⟩ := hv3
 have hC3 := hC2.no hb3
 obtain rfl := vbool_eq hv3
 refine lw_op Z Z Z (ow_not Z Z (lw_nil (ew_then ?_)))
 replace h := cond_some h
 rcases h with ⟨hc1, h⟩ | ⟨hc1, h⟩
 ·
  subst hc1
  refine cw_false Z (cw_skip (ew_then (cw_seq (cw_region (lw_op Z Z Z (ow_assign Z Z (lw_nil (ew_then (cw_ret ?_)))))))))
  obtain rfl := sj h
  exact ew_ret (res1 Z (.tmp Z)) ⟨_, Z, ((vbool _)), hC3.bx⟩
 ·
  subst hc1
  refine cw_true Z (cw_seq (cw_region (lw_op Z Z Z (ow_assign Z Z (lw_nil (ew_then (cw_ret (ew_thenR ?_))))))))
  obtain rfl := sj h
  exact ew_ret (res1 Z (.tmp Z)) ⟨_, Z, ((vbool _)), hC3.bx⟩

theorem wm_laws_markSpanS {Y : Nat → Prop} {w : World} (hU : UFz Y w) {v0p : Value} {a_a : List Span} (h0 : VRep (RSlice RSpanA) w (NotY Y) a_a v0p) {a_k : Int} {r : Int} (h : F.laws_markSpanS a_a a_k = some r) :
  Calls Tryd.prog 153 [v0p, (.int .i64 a_k)].toArray w fun e w' => ∃ v, e = .returned v ∧ v = .int .i64 r ∧ MK Y w w' := by
 have hO : ∀ b, Y b → b < w.heap.size := fun b h => (hU b h).1
 have hC : Cx Y w Y w Y := Cx.start hO (fun _ h => h)
 refine walk (N := 27) Tryd.func153 Z Tryd.ntmps153 Z (cw_seq (cw_region (lw_op Z Z Z (ow_assign Z Z (lw_nil (ew_then (cw_seq (cw_seq (cw_region (lw_op Z Z Z (ow_assign Z Z (lw_nil (ew_then ?_)))))))))))))
 replace h := bind_some h
 obtain ⟨lr1, hlr1, h⟩ := h
 refine cw_for hlr1 (fun s a w' => ∃ (M' : Nat → Prop), Fits 27 [(0, v0p), (1, (Zv s.1)), (5, (Zv s.2))] a ∧ Le w Y w' M' ∧ Cx Y w Y w' M' ∧ MK Y w w') ?_ ?_ ?_
 · exact fun a ha => ⟨Y, ha.sub ⟨Z, Z, Z, Zt⟩, Le.refl _ _, hC, (MK.refl _ _)⟩
 ·
  rintro ⟨k1, k2⟩ a w1 sr1 ⟨M1, hF1, hl1, hC1, hmk1⟩ hb1 hR1
  refine cw_at (E := [(0, v0p), (1, (Zv k1)), (5, (Zv k2))]) hF1 (cw_seq (cw_seq (cw_region (lw_op Z Z Z (ow_move Z Z (lw_op Z Z Z (ow_move Z Z (lw_op Z Z Z (ow_len Z Z (KnA.vrep (KnA.slice knA_Span) hmk1.kin h0) Tryd.underlying121 Z (lw_op Z Z Z (ow_lss Z Z Z fun bb1 hbb1 => lw_nil (ew_then ?_))))))))))))
  replace hb1 := cond_some hb1
  rcases hb1 with ⟨hc1, hb1⟩ | ⟨hc1, hb1⟩
  ·
   obtain rfl := hbb1.trans hc1
   refine cw_true Z (cw_skip (ew_then (cw_seq (cw_block (cw_seq (cw_region (lw_op Z Z Z (ow_move Z Z (lw_op Z Z Z (ow_move Z Z (lw_op Z Z Z (ow_move Z Z ?_))))))))))))
   replace hb1 := bind_some hb1
   obtain ⟨x1, hx1, hb1⟩ := hb1
   refine lw_op Z Z Z (ow_indexSlice (R := RSpanA) Z Z Z (KnA.vrep (KnA.slice knA_Span) hmk1.kin h0) Tryd.underlying121 (Tryd.sizeOf120 _) hx1 fun p1 hp1 => lw_op Z Z Z (ow_fieldAddr Z Z Tryd.underlying120 Z (Tryd.sizeOf3 _) (lw_op0 Z Z (ow_storeK (R := RIntA) Z Z Z (hp1.fld fldA_Span_Lo) Z kd_int Z Z (Tryd.sizeOf3 _) (hU.mk hmk1) fun w2 hmk2 => ?_))))
   have hl2 := Le.of_bx M1 hmk2.bx hC1.xm
   have hC2 := hC1.go hmk2.bx (fun b e => .inr e)
   refine lw_nil (ew_then (cw_seq (cw_region (lw_op Z Z Z (ow_move Z Z (lw_op Z Z Z (ow_add Z Z Z (lw_op Z Z Z (ow_assign Z Z (lw_nil (ew_then (cw_seq (cw_region (lw_op Z Z Z (ow_move Z Z (lw_op Z Z Z (ow_move Z Z (lw_op Z Z Z (ow_move Z Z (lw_op Z Z Z (ow_indexSlice (R := RSpanA) Z Z Z (KnA.vrep (KnA.slice knA_Span) (hmk1.trans hmk2).kin h0) Tryd.underlying121 (Tryd.sizeOf120 _) hx1 fun p2 hp2 => lw_op Z Z Z (ow_fieldAddr Z Z Tryd.underlying120 Z (Tryd.sizeOf3 _) (lw_op0 Z Z (ow_storeK (R := RIntA) Z Z Z (hp2.fld fldA_Span_Hi) Z kd_int Z Z (Tryd.sizeOf3 _) (hU.mk (hmk1.trans hmk2)) fun w3 hmk3 => ?_))))))))))))))))))))))))
   have hl3 := Le.of_bx M1 hmk3.bx hC2.xm
   have hC3 := hC2.go hmk3.bx (fun b e => .inr e)
   refine lw_nil (ew_then (cw_region (lw_op Z Z Z (ow_move Z Z (lw_op Z Z Z (ow_add Z Z Z (lw_op Z Z Z (ow_assign Z Z (lw_nil (ew_blockN (ew_then (cw_region (lw_op Z Z Z (ow_move Z Z (lw_op Z Z Z (ow_add Z Z Z (lw_op Z Z Z (ow_assign Z Z (lw_nil ?_)))))))))))))))))))
   have lz1 := ((hl1.trans hl2).trans hl3)
   exact ew_nxt ((W ((W (k1 + 1)) + 1)), (W (k2 + 1))) hb1 fun a ha => ⟨M1, (ha.sub ⟨Z, Z, Z, Zt⟩), lz1, hC3, ((hmk1.trans hmk2).trans hmk3)⟩
  ·
   obtain rfl := hbb1.trans hc1
   exact cw_false Z (cw_exit (ew_thenX (ew_thenX (ew_blockX (ew_brk (k1, k2) hb1 fun a ha => ⟨M1, (ha.sub ⟨Z, Z, Z, Zt⟩), hl1, hC1, hmk1⟩)))))
 ·
  rintro ⟨k3, k4⟩ a w4 hlr2 ⟨M2, hF2, hl4, hC4, hmk4⟩
  subst hlr2
  refine ew_at (E := [(0, v0p), (1, (Zv k3)), (5, (Zv k4))]) hF2 (ew_then (cw_seq (cw_region (lw_op Z Z Z (ow_move Z Z (lw_op Z Z Z (ow_assign Z Z (lw_nil (ew_then (cw_ret ?_))))))))))
  obtain rfl := sj h
  exact ew_ret (res1 Z (.tmp Z)) ⟨_, Z, Z, hmk4⟩

theorem wm_laws_markSpanSS {Y : Nat → Prop} {w : World} (hU : UFz Y w) {v0p : Value} {a_a : List (List Span)} (h0 : VRep (RSlice (RSlice RSpanA)) w (NotY Y) a_a v0p) {a_k : Int} {r : Int} (h : F.laws_markSpanSS a_a a_k = some r) :
  Calls Tryd.prog 95 [v0p, (.int .i64 a_k)].toArray w fun e w' => ∃ v, e = .returned v ∧ v = .int .i64 r ∧ MK Y w w' := by
 have hO : ∀ b, Y b → b < w.heap.size := fun b h => (hU b h).1
 have hC : Cx Y w Y w Y := Cx.start hO (fun _ h => h)
 refine walk (N := 19) Tryd.func95 Z Tryd.ntmps95 Z (cw_seq (cw_region (lw_op Z Z Z (ow_assign Z Z (lw_nil (ew_then (cw_seq (cw_seq (cw_region (lw_op Z Z Z (ow_assign Z Z (lw_nil (ew_then ?_)))))))))))))
 replace h := bind_some h
 obtain ⟨lr1, hlr1, h⟩ := h
 refine cw_for hlr1 (fun s a w' => ∃ (M' : Nat → Prop), Fits 19 [(0, v0p), (1, (Zv s.1)), (5, (Zv s.2))] a ∧ Le w Y w' M' ∧ Cx Y w Y w' M' ∧ MK Y w w') ?_ ?_ ?_
 · exact fun a ha => ⟨Y, ha.sub ⟨Z, Z, Z, Zt⟩, Le.refl _ _, hC, (MK.refl _ _)⟩
 ·
  rintro ⟨k1, k2⟩ a w1 sr1 ⟨M1, hF1, hl1, hC1, hmk1⟩ hb1 hR1
  refine cw_at (E := [(0, v0p), (1, (Zv k1)), (5, (Zv k2))]) hF1 (cw_seq (cw_seq (cw_region (lw_op Z Z Z (ow_move Z Z (lw_op Z Z Z (ow_move Z Z (lw_op Z Z Z (ow_len Z Z (KnA.vrep (KnA.slice (KnA.slice knA_Span)) hmk1.kin h0) Tryd.underlying46 Z (lw_op Z Z Z (ow_lss Z Z Z fun bb1 hbb1 => lw_nil (ew_then ?_))))))))))))
  replace hb1 := cond_some hb1
  rcases hb1 with ⟨hc1, hb1⟩ | ⟨hc1, hb1⟩
  ·
   obtain rfl := hbb1.trans hc1
   refine cw_true Z (cw_skip (ew_then (cw_seq (cw_block (cw_region (lw_op Z Z Z (ow_move Z Z (lw_op Z Z Z (ow_move Z Z ?_)))))))))
   replace hb1 := bind_some hb1
   obtain ⟨x1, hx1, hb1⟩ := hb1
   refine lw_op Z Z Z (ow_indexSlice (R := (RSlice RSpanA)) Z Z Z (KnA.vrep (KnA.slice (KnA.slice knA_Span)) hmk1.kin h0) Tryd.underlying46 (Tryd.sizeOf121 _) hx1 fun p1 hp1 => lw_op Z Z Z (ow_load (R := (RSlice RSpanA)) Z Z hp1 (Tryd.sizeOf121 _) (Tryd.isAgg121 _) fun v3 hv3 => lw_op Z Z Z (ow_move Z Z ?_)))
   replace hb1 := bind_some hb1
   obtain ⟨x2, hx2, hb1⟩ := hb1
   refine lw_op Z Z Z (ow_call Z Z Tryd.call153 (wm_laws_markSpanS (hU.mk hmk1) hv3 hx2) fun v4 w2 hv4 => ?_)
   obtain ⟨rfl, hmk2⟩ := hv4
   have hl2 := Le.of_bx M1 hmk2.bx hC1.xm
   have hC2 := hC1.go hmk2.bx (fun b e => .inr e)
   exact lw_op Z Z Z (ow_assign Z Z (lw_nil (ew_blockN (ew_then (cw_region (lw_op Z Z Z (ow_move Z Z (lw_op Z Z Z (ow_add Z Z Z (lw_op Z Z Z (ow_assign Z Z (lw_nil (ew_nxt (x2, (W (k2 + 1))) hb1 fun a ha => ⟨M1, (ha.sub ⟨Z, Z, Z, Zt⟩), (hl1.trans hl2), hC2, (hmk1.trans hmk2)⟩)))))))))))))
  ·
   obtain rfl := hbb1.trans hc1
   exact cw_false Z (cw_exit (ew_thenX (ew_thenX (ew_blockX (ew_brk (k1, k2) hb1 fun a ha => ⟨M1, (ha.sub ⟨Z, Z, Z, Zt⟩), hl1, hC1, hmk1⟩)))))
 ·
  rintro ⟨k3, k4⟩ a w3 hlr2 ⟨M2, hF2, hl3, hC3, hmk3⟩
  subst hlr2
  refine ew_at (E := [(0, v0p), (1, (Zv k3)), (5, (Zv k4))]) hF2 (ew_then (cw_seq (cw_region (lw_op Z Z Z (ow_move Z Z (lw_op Z Z Z (ow_assign Z Z (lw_nil (ew_then (cw_ret ?_))))))))))
  obtain rfl := sj h
  exact ew_ret (res1 Z (.tmp Z)) ⟨_, Z, Z, hmk3⟩

theorem wm_laws_markBox {Y : Nat → Prop} {w : World} (hU : UFz Y w) {v0p : Value} {a_a : Box} (h0 : VRep RBoxA w (NotY Y) a_a v0p) {a_k : Int} {r : Int} (h : F.laws_markBox a_a a_k = some r) :
  Calls Tryd.prog 27 [v0p, (.int .i64 a_k)].toArray w fun e w' => ∃ v, e = .returned v ∧ v = .int .i64 r ∧ MK Y w w' := by
 have hO : ∀ b, Y b → b < w.heap.size := fun b h => (hU b h).1
 have hC : Cx Y w Y w Y := Cx.start hO (fun _ h => h)
 refine walk (N := 10) Tryd.func27 Z Tryd.ntmps27 Z (cw_seq (cw_region ?_))
 obtain ⟨A1, c1, rfl, hw1⟩ := openA_Box h0
 refine lw_op Z Z Z (ow_boxOwn Z Z hC fun g1 w1 hg1 hg2 ho1 hb1 hl1 hC1 => lw_op Z Z Z (ow_assign Z Z (lw_nil (ew_then (cw_seq (cw_region (lw_op Z Z Z (ow_fieldAddr Z Z Tryd.underlying48 Z (Tryd.sizeOf46 _) (lw_op Z Z Z (ow_loadOwn1 Z Z Z ho1 (Tryd.isAgg46 _) Z (lw_op Z Z Z (ow_move Z Z ?_))))))))))))
 replace h := bind_some h
 obtain ⟨x1, hx1, h⟩ := h
 refine lw_op Z Z Z (ow_call Z Z Tryd.call95 (wm_laws_markSpanSS (hU.mk (MK.no (Y := Y) hb1)) (KnA.vrep (KnA.slice (KnA.slice knA_Span)) (MK.no (Y := Y) hb1).kin hw1) hx1) fun v1 w2 hv1 => ?_)
 obtain ⟨rfl, hmk1⟩ := hv1
 refine lw_op Z Z Z (ow_assign Z Z (lw_nil (ew_then (cw_seq (cw_region (lw_op Z Z Z (ow_move Z Z (lw_op Z Z Z (ow_assign Z Z (lw_nil (ew_then (cw_ret ?_))))))))))))
 obtain rfl := sj h
 exact ew_ret (res1 Z (.tmp Z)) ⟨_, Z, Z, ((MK.no (Y := Y) hb1).trans hmk1)⟩

theorem wr_laws_markTestS {w : World} {M : Nat → Prop} (_hG : ARep (RArr 4 RShape) w M shapes ⟨0, 0, none⟩) (hO : ∀ b, M b → b < w.heap.size) {B : Nat} {v0p : Value} {a_a : List Test} (h0 : OwnRow RTest B 128 w M a_a v0p) {a_k : Int} {r : Int × (List Test)} (h : F.laws_markTestS_r a_a a_k = some r) :
  Calls Tryd.prog 28 [v0p, (.int .i64 a_k)].toArray w fun e w' => ∃ v, e = .returned v ∧ VRep RInt w' M r.1 v ∧ ∃ M', OwnRow RTest B 128 w' M' r.2 v0p ∧ Cx (fun b => v0p.ownBlock = some b) w M w' M' := by
 have hC : Cx (fun b => v0p.ownBlock = some b) w M w M := Cx.start hO (fun b e => h0.mem b e)
 clear _hG
 refine walk (N := 43) Tryd.func28 Z Tryd.ntmps28 Z (cw_seq (cw_region (lw_op Z Z Z (ow_assign Z Z (lw_nil (ew_then (cw_seq (cw_seq (cw_region (lw_op Z Z Z (ow_assign Z Z (lw_nil (ew_then ?_)))))))))))))
 replace h := bind_some h
 obtain ⟨lr1, hlr1, h⟩ := h
 refine cw_for hlr1 (fun s a w' => ∃ (M' : Nat → Prop), Fits 43 [(0, v0p), (1, (Zv s.1)), (5, (Zv s.2.1))] a ∧ Le w M w' M' ∧ Cx (fun b => v0p.ownBlock = some b) w M w' M' ∧ OwnRow RTest B 128 w' M' s.2.2 v0p ∧ (∀ b, (Value.ownBlock v0p) = some b → w.heap.size ≤ b ∨ (fun b => v0p.ownBlock = some b) b)) ?_ ?_ ?_
 · exact fun a ha => ⟨M, ha.sub ⟨Z, Z, Z, Zt⟩, Le.refl _ _, hC, h0, (fun b e => .inr e)⟩
 ·
  rintro ⟨k1, k2, y1⟩ a w1 sr1 ⟨M1, hF1, hl1, hC1, hw1, hge1⟩ hb1 hR1
  refine cw_at (E := [(0, v0p), (1, (Zv k1)), (5, (Zv k2))]) hF1 (cw_seq (cw_seq (cw_region (lw_op Z Z Z (ow_move Z Z (lw_op Z Z Z (ow_move Z Z (lw_op Z Z Z (ow_lenOwn Z Z hw1 Tryd.underlying36 (lw_op Z Z Z (ow_lss Z Z Z fun bb1 hbb1 => lw_nil (ew_then ?_))))))))))))
  replace hb1 := cond_some hb1
  rcases hb1 with ⟨hc1, hb1⟩ | ⟨hc1, hb1⟩
  ·
   obtain rfl := hbb1.trans hc1
   refine cw_true Z (cw_skip (ew_then (cw_seq (cw_block (cw_seq (cw_region (lw_op Z Z Z (ow_move Z Z (lw_op Z Z Z (ow_move Z Z (lw_op Z Z Z (ow_move Z Z ?_))))))))))))
   replace hb1 := bind_some hb1
   obtain ⟨x1, hx1, hb1⟩ := hb1
   refine lw_op Z Z Z (ow_indexRow (R := RTest) Z Z Z hw1 Tryd.underlying36 (Tryd.sizeOf128 _) hx1 (lw_op Z Z Z (ow_fieldAddr Z Z Tryd.underlying128 Z (Tryd.sizeOf3 _) (lw_op0 Z Z (ow_storeElX (X := (fun b => v0p.ownBlock = some b)) (R := RTest) (S := RInt) Z Z Z Z hw1 (orow_blk hw1 hx1) hx1 set_Test_Field (Tryd.sizeOf3 _) (vint _) hge1 hC1 fun w2 ho1 hb2 hl2 hC2 => lw_nil (ew_then (cw_seq (cw_region (lw_op Z Z Z (ow_move Z Z (lw_op Z Z Z (ow_add Z Z Z (lw_op Z Z Z (ow_assign Z Z (lw_nil (ew_then (cw_seq (cw_region (lw_op Z Z Z (ow_move Z Z (lw_op Z Z Z (ow_move Z Z (lw_op Z Z Z (ow_move Z Z ?_))))))))))))))))))))))))
   replace hb1 := bind_some hb1
   obtain ⟨x2, hx2, hb1⟩ := hb1
   refine lw_op Z Z Z (ow_indexRow (R := RTest) Z Z Z ho1 Tryd.underlying36 (Tryd.sizeOf128 _) hx2 (lw_op Z Z Z (ow_fieldAddr Z Z Tryd.underlying128 Z (Tryd.sizeOf3 _) (lw_op0 Z Z (ow_storeElX (X := (fun b => v0p.ownBlock = some b)) (R := RTest) (S := RInt) Z Z Z Z ho1 (orow_blk ho1 hx2) hx2 set_Test_Lo (Tryd.sizeOf3 _) (vint _) hge1 hC2 fun w3 ho2 hb3 hl3 hC3 => lw_nil (ew_then (cw_seq (cw_region (lw_op Z Z Z (ow_move Z Z (lw_op Z Z Z (ow_add Z Z Z (lw_op Z Z Z (ow_assign Z Z (lw_nil (ew_then (cw_seq (cw_region (lw_op Z Z Z (ow_move Z Z (lw_op Z Z Z (ow_move Z Z (lw_op Z Z Z (ow_move Z Z ?_))))))))))))))))))))))))
   replace hb1 := bind_some hb1
   obtain ⟨x3, hx3, hb1⟩ := hb1
   refine lw_op Z Z Z (ow_indexRow (R := RTest) Z Z Z ho2 Tryd.underlying36 (Tryd.sizeOf128 _) hx3 (lw_op Z Z Z (ow_fieldAddr Z Z Tryd.underlying128 Z (Tryd.sizeOf3 _) (lw_op0 Z Z (ow_storeElX (X := (fun b => v0p.ownBlock = some b)) (R := RTest) (S := RInt) Z Z Z Z ho2 (orow_blk ho2 hx3) hx3 set_Test_Hi (Tryd.sizeOf3 _) (vint _) hge1 hC3 fun w4 ho3 hb4 hl4 hC4 => lw_nil (ew_then (cw_seq (cw_region (lw_op Z Z Z (ow_move Z Z (lw_op Z Z Z (ow_add Z Z Z (lw_op Z Z Z (ow_assign Z Z (lw_nil (ew_then (cw_seq (cw_region (lw_op Z Z Z (ow_move Z Z (lw_op Z Z Z (ow_move Z Z (lw_op Z Z Z (ow_move Z Z (lw_op Z Z Z (ow_rem Z Z Z (by decide) (lw_op Z Z Z (ow_eqlI Z Z Z fun bb2 hbb2 => ?_))))))))))))))))))))))))))))
   replace hb1 := bind_some hb1
   obtain ⟨x4, hx4, hb1⟩ := hb1
   refine lw_op Z Z Z (ow_indexRow (R := RTest) Z Z Z ho3 Tryd.underlying36 (Tryd.sizeOf128 _) hx4 (lw_op Z Z Z (ow_fieldAddr Z Z Tryd.underlying128 Z (Tryd.sizeOf4 _) (lw_op0 Z Z (ow_storeElX (X := (fun b => v0p.ownBlock = some b)) (R := RTest) (S := RBool) Z Z Z Z ho3 (orow_blk ho3 hx4) hx4 set_Test_Not (Tryd.sizeOf4 _) (vbool_of hbb2) hge1 hC4 fun w5 ho4 hb5 hl5 hC5 => lw_nil (ew_then (cw_region (lw_op Z Z Z (ow_move Z Z (lw_op Z Z Z (ow_add Z Z Z (lw_op Z Z Z (ow_assign Z Z (lw_nil (ew_blockN (ew_then (cw_region (lw_op Z Z Z (ow_move Z Z (lw_op Z Z Z (ow_add Z Z Z (lw_op Z Z Z (ow_assign Z Z (lw_nil ?_))))))))))))))))))))))))
   have lz1 := ((((hl1.trans hl2).trans hl3).trans hl4).trans hl5)
   exact ew_nxt ((W ((W ((W ((W (k1 + 1)) + 1)) + 1)) + 1)), (W (k2 + 1)), (List.set (List.set (List.set (List.set y1 (k2 : Int).toNat { x1 with Field := k1 }) (k2 : Int).toNat { x2 with Lo := (W (k1 + 1)) }) (k2 : Int).toNat { x3 with Hi := (W ((W (k1 + 1)) + 1)) }) (k2 : Int).toNat { x4 with Not := ((((W ((W ((W (k1 + 1)) + 1)) + 1))).tmod 3) == 0) })) hb1 fun a ha => ⟨M1, (ha.sub ⟨Z, Z, Z, Zt⟩), lz1, hC5, ho4, hge1⟩
  ·
   obtain rfl := hbb1.trans hc1
   exact cw_false Z (cw_exit (ew_thenX (ew_thenX (ew_blockX (ew_brk (k1, k2, y1) hb1 fun a ha => ⟨M1, (ha.sub ⟨Z, Z, Z, Zt⟩), hl1, hC1, hw1, hge1⟩)))))
 ·
  rintro ⟨k3, k4, y2⟩ a w6 hlr2 ⟨M2, hF2, hl6, hC6, hw2, hge2⟩
  subst hlr2
  refine ew_at (E := [(0, v0p), (1, (Zv k3)), (5, (Zv k4))]) hF2 (ew_then (cw_seq (cw_region (lw_op Z Z Z (ow_move Z Z (lw_op Z Z Z (ow_assign Z Z (lw_nil (ew_then (cw_ret ?_))))))))))
  obtain rfl := sj h
  exact ew_ret (res1 Z (.tmp Z)) ⟨_, Z, (vint _), M2, hw2, hC6⟩

theorem w_laws_heldTestS {w : World} {M : Nat → Prop} (_hG : ARep (RArr 4 RShape) w M shapes ⟨0, 0, none⟩) (hO : ∀ b, M b → b < w.heap.size) {v0p : Value} {a_a : List Test} (h0 : VRep (RSlice RTest) w M a_a v0p) {a_k : Int} {r : Int} (h : F.laws_heldTestS a_a a_k = some r) :
  Calls Tryd.prog 29 [v0p, (.int .i64 a_k)].toArray w fun e w' => ∃ v, e = .returned v ∧ VRep RInt w' M r v ∧ BX No w w' := by
 have hC : Cx No w M w M := Cx.start hO (fun _ e => e.elim)
 clear _hG
 refine walk (N := 51) Tryd.func29 Z Tryd.ntmps29 Z (cw_seq (cw_region (lw_op Z Z Z (ow_assign Z Z (lw_nil (ew_then (cw_seq (cw_seq (cw_region (lw_op Z Z Z (ow_assign Z Z (lw_nil (ew_then ?_)))))))))))))
 replace h := bind_some h
 obtain ⟨lr1, hlr1, h⟩ := h
 refine cw_for hlr1 (fun s a w' => ∃ (M' : Nat → Prop), Fits 51 [(0, v0p), (1, (Zv s.1)), (5, (Zv s.2))] a ∧ Le w M w' M' ∧ Cx No w M w' M') ?_ ?_ ?_
 · exact fun a ha => ⟨M, ha.sub ⟨Z, Z, Z, Zt⟩, Le.refl _ _, hC⟩
 ·
  rintro ⟨k1, k2⟩ a w1 sr1 ⟨M1, hF1, hl1, hC1⟩ hb1 hR1
  refine cw_at (E := [(0, v0p), (1, (Zv k1)), (5, (Zv k2))]) hF1 (cw_seq (cw_seq (cw_region (lw_op Z Z Z (ow_move Z Z (lw_op Z Z Z (ow_move Z Z (lw_op Z Z Z (ow_len Z Z (VRep.mono hl1 h0) Tryd.underlying36 Z (lw_op Z Z Z (ow_lss Z Z Z fun bb1 hbb1 => lw_nil (ew_then ?_))))))))))))
  replace hb1 := cond_some hb1
  rcases hb1 with ⟨hc1, hb1⟩ | ⟨hc1, hb1⟩
  ·
   obtain rfl := hbb1.trans hc1
   refine cw_true Z (cw_skip (ew_then (cw_seq (cw_block (cw_seq (cw_seq (cw_region (lw_op Z Z Z (ow_move Z Z (lw_op Z Z Z (ow_move Z Z ?_)))))))))))
   replace hb1 := bind_some hb1
   obtain ⟨x1, hx1, hb1⟩ := hb1
   refine lw_op Z Z Z (ow_indexSlice (R := RTest) Z Z Z (VRep.mono hl1 h0) Tryd.underlying36 (Tryd.sizeOf128 _) hx1 fun p1 hp1 => lw_op Z Z Z (ow_fieldAddr Z Z Tryd.underlying128 Z (Tryd.sizeOf3 _) (lw_op Z Z Z (ow_load (R := RInt) Z Z (hp1.fld fld_Test_Field) (Tryd.sizeOf3 _) (Tryd.isAgg3 _) fun v3 hv3 => ?_))))
   obtain rfl := vint_eq hv3
   refine lw_op Z Z Z (ow_move Z Z (lw_op Z Z Z (ow_neqI Z Z Z fun bb2 hbb2 => lw_nil (ew_then ?_))))
   replace hb1 := cond_some hb1
   rcases hb1 with ⟨hc2, hb1⟩ | ⟨hc2, hb1⟩
   ·
    obtain rfl := hbb2.trans hc2
    refine cw_true Z (cw_seq (cw_region (lw_op Z Z Z (ow_assign Z Z (lw_nil (ew_then (cw_ret (ew_thenR (ew_blockR (ew_thenR (ew_thenR (ew_blockR (ew_brkR (ew_thenR ?_))))))))))))))
    have e1 := hR1 _ (sj hb1).symm
    subst e1
    obtain rfl := sj h
    exact ew_ret (res1 Z (.tmp Z)) ⟨_, Z, ((vint _)), hC1.bx⟩
   ·
    obtain rfl := hbb2.trans hc2
    refine cw_false Z (cw_skip (ew_then (cw_seq (cw_region (lw_op Z Z Z (ow_move Z Z (lw_op Z Z Z (ow_add Z Z Z (lw_op Z Z Z (ow_assign Z Z (lw_nil (ew_then (cw_seq (cw_seq (cw_region (lw_op Z Z Z (ow_move Z Z (lw_op Z Z Z (ow_move Z Z (lw_op Z Z Z (ow_indexSlice (R := RTest) Z Z Z (VRep.mono hl1 h0) Tryd.underlying36 (Tryd.sizeOf128 _) hx1 fun p2 hp2 => lw_op Z Z Z (ow_fieldAddr Z Z Tryd.underlying128 Z (Tryd.sizeOf3 _) (lw_op Z Z Z (ow_load (R := RInt) Z Z (hp2.fld fld_Test_Lo) (Tryd.sizeOf3 _) (Tryd.isAgg3 _) fun v4 hv4 => ?_))))))))))))))))))))))))
    obtain rfl := vint_eq hv4
    refine lw_op Z Z Z (ow_move Z Z (lw_op Z Z Z (ow_neqI Z Z Z fun bb3 hbb3 => lw_nil (ew_then ?_))))
    replace hb1 := cond_some hb1
    rcases hb1 with ⟨hc3, hb1⟩ | ⟨hc3, hb1⟩
    ·
     obtain rfl := hbb3.trans hc3
     refine cw_true Z (cw_seq (cw_region (lw_op Z Z Z (ow_assign Z Z (lw_nil (ew_then (cw_ret (ew_thenR (ew_blockR (ew_thenR (ew_thenR (ew_blockR (ew_brkR (ew_thenR ?_))))))))))))))
     have e2 := hR1 _ (sj hb1).symm
     subst e2
     obtain rfl := sj h
     exact ew_ret (res1 Z (.tmp Z)) ⟨_, Z, ((vint _)), hC1.bx⟩
    ·
     obtain rfl := hbb3.trans hc3
     refine cw_false Z (cw_skip (ew_then (cw_seq (cw_region (lw_op Z Z Z (ow_move Z Z (lw_op Z Z Z (ow_add Z Z Z (lw_op Z Z Z (ow_assign Z Z (lw_nil (ew_then (cw_seq (cw_seq (cw_region (lw_op Z Z Z (ow_move Z Z (lw_op Z Z Z (ow_move Z Z (lw_op Z Z Z (ow_indexSlice (R := RTest) Z Z Z (VRep.mono hl1 h0) Tryd.underlying36 (Tryd.sizeOf128 _) hx1 fun p3 hp3 => lw_op Z Z Z (ow_fieldAddr Z Z Tryd.underlying128 Z (Tryd.sizeOf3 _) (lw_op Z Z Z (ow_load (R := RInt) Z Z (hp3.fld fld_Test_Hi) (Tryd.sizeOf3 _) (Tryd.isAgg3 _) fun v5 hv5 => ?_))))))))))))))))))))))))
     obtain rfl := vint_eq hv5
     refine lw_op Z Z Z (ow_move Z Z (lw_op Z Z Z (ow_neqI Z Z Z fun bb4 hbb4 => lw_nil (ew_then ?_))))
     replace hb1 := cond_some hb1
     rcases hb1 with ⟨hc4, hb1⟩ | ⟨hc4, hb1⟩
     ·
      obtain rfl := hbb4.trans hc4
      refine cw_true Z (cw_seq (cw_region (lw_op Z Z Z (ow_assign Z Z (lw_nil (ew_then (cw_ret (ew_thenR (ew_blockR (ew_thenR (ew_thenR (ew_blockR (ew_brkR (ew_thenR ?_))))))))))))))
      have e3 := hR1 _ (sj hb1).symm
      subst e3
      obtain rfl := sj h
      exact ew_ret (res1 Z (.tmp Z)) ⟨_, Z, ((vint _)), hC1.bx⟩
     ·
      obtain rfl := hbb4.trans hc4
      refine cw_false Z (cw_skip (ew_then (cw_seq (cw_region (lw_op Z Z Z (ow_move Z Z (lw_op Z Z Z (ow_add Z Z Z (lw_op Z Z Z (ow_assign Z Z (lw_nil (ew_then (cw_seq (cw_seq (cw_region (lw_op Z Z Z (ow_move Z Z (lw_op Z Z Z (ow_move Z Z (lw_op Z Z Z (ow_indexSlice (R := RTest) Z Z Z (VRep.mono hl1 h0) Tryd.underlying36 (Tryd.sizeOf128 _) hx1 fun p4 hp4 => lw_op Z Z Z (ow_fieldAddr Z Z Tryd.underlying128 Z (Tryd.sizeOf4 _) (lw_op Z Z Z (ow_load (R := RBool) Z Z (hp4.fld fld_Test_Not) (Tryd.sizeOf4 _) (Tryd.isAgg4 _) fun v6 hv6 => ?_))))))))))))))))))))))))
      obtain ⟨bb5, hbb5, rfl⟩ := vbool_ex hv6
      refine lw_op Z Z Z (ow_move Z Z (lw_op Z Z Z (ow_rem Z Z Z (by decide) (lw_op Z Z Z (ow_eqlI Z Z Z fun bb6 hbb6 => lw_op Z Z Z (ow_neqB Z Z Z Tryd.underlying4 fun bb7 hbb7 => ?_))))))
      have hbb7' : bb7 = (x1.Not != ((((W ((W ((W (k1 + 1)) + 1)) + 1))).tmod 3) == 0)) := hbb7.trans (by rw [hbb5, hbb6])
      refine lw_nil (ew_then ?_)
      replace hb1 := cond_some hb1
      rcases hb1 with ⟨hc5, hb1⟩ | ⟨hc5, hb1⟩
      ·
       obtain rfl := hbb7'.trans hc5
       refine cw_true Z (cw_seq (cw_region (lw_op Z Z Z (ow_assign Z Z (lw_nil (ew_then (cw_ret (ew_thenR (ew_blockR (ew_thenR (ew_thenR (ew_blockR (ew_brkR (ew_thenR ?_))))))))))))))
       have e4 := hR1 _ (sj hb1).symm
       subst e4
       obtain rfl := sj h
       exact ew_ret (res1 Z (.tmp Z)) ⟨_, Z, ((vint _)), hC1.bx⟩
      ·
       obtain rfl := hbb7'.trans hc5
       exact cw_false Z (cw_skip (ew_then (cw_region (lw_op Z Z Z (ow_move Z Z (lw_op Z Z Z (ow_add Z Z Z (lw_op Z Z Z (ow_assign Z Z (lw_nil (ew_blockN (ew_then (cw_region (lw_op Z Z Z (ow_move Z Z (lw_op Z Z Z (ow_add Z Z Z (lw_op Z Z Z (ow_assign Z Z (lw_nil (ew_nxt ((W ((W ((W ((W (k1 + 1)) + 1)) + 1)) + 1)), (W (k2 + 1))) hb1 fun a ha => ⟨M1, (ha.sub ⟨Z, Z, Z, Zt⟩), hl1, hC1⟩)))))))))))))))))))))
  ·
   obtain rfl := hbb1.trans hc1
   exact cw_false Z (cw_exit (ew_thenX (ew_thenX (ew_blockX (ew_brk (k1, k2) hb1 fun a ha => ⟨M1, (ha.sub ⟨Z, Z, Z, Zt⟩), hl1, hC1⟩)))))
 ·
  rintro ⟨k3, k4⟩ a w2 hlr2 ⟨M2, hF2, hl2, hC2⟩
  subst hlr2
  refine ew_at (E := [(0, v0p), (1, (Zv k3)), (5, (Zv k4))]) hF2 (ew_then (cw_seq (cw_region (lw_op Z Z Z (ow_move Z Z (lw_op Z Z Z (ow_assign Z Z (lw_nil (ew_then (cw_ret ?_))))))))))
  obtain rfl := sj h
  exact ew_ret (res1 Z (.tmp Z)) ⟨_, Z, ((vint _)), hC2.bx⟩

theorem w_laws_FnExactBoxTests {w : World} {M : Nat → Prop} (hG : ARep (RArr 4 RShape) w M shapes ⟨0, 0, none⟩) (hO : ∀ b, M b → b < w.heap.size) {v0p : Value} {a_aB : Box} (h0 : VRep RBox w M a_aB v0p) {r : Bool} (h : F.laws_FnExactBoxTests a_aB = some r) :
  Calls Tryd.prog 5 [v0p].toArray w fun e w' => ∃ v, e = .returned v ∧ VRep RBool w' M r v ∧ BX No w w' := by
 have hC : Cx No w M w M := Cx.start hO (fun _ e => e.elim)
 refine walk (N := 96) Tryd.func5 Z Tryd.ntmps5 Z (cw_seq (cw_region (lw_op Z Z Z (ow_box (R := RBox) Z Z h0 hC fun p1 w1 hp1 hb1 hl1 hC1 => lw_op Z Z Z (ow_assign Z Z (lw_nil (ew_then (cw_seq (cw_region (lw_op Z Z Z (ow_assign Z Z (lw_nil (ew_then (cw_seq (cw_region (lw_op Z Z Z (ow_load (R := RBox) Z Z hp1 (Tryd.sizeOf42 _) (Tryd.isAgg42 _) fun v1 hv1 => lw_op Z Z Z (ow_move Z Z ?_))))))))))))))))))
 replace h := bind_some h
 obtain ⟨x1, hx1, h⟩ := h
 refine lw_op Z Z Z (ow_call Z Z Tryd.call21 (w_laws_szBox (hG.mono hl1) hC1.old hv1 hx1) fun v2 w2 hv2 => ?_)
 obtain ⟨hv2, hb2⟩ := hv2
 have hl2 := Le.no M hb2
 have hC2 := hC1.no hb2
 obtain rfl := vint_eq hv2
 refine lw_op Z Z Z (ow_assign Z Z (lw_nil (ew_then (cw_seq (cw_seq (cw_region (lw_op Z Z Z (ow_move Z Z (lw_op Z Z Z (ow_lss Z Z Z fun bb1 hbb1 => lw_nil (ew_then ?_)))))))))))
 replace h := cond_some h
 rcases h with ⟨hc1, h⟩ | ⟨hc1, h⟩
 ·
  obtain rfl := hbb1.trans hc1
  refine cw_true Z (cw_seq (cw_region (lw_op Z Z Z (ow_assign Z Z (lw_nil (ew_then (cw_ret (ew_thenR ?_))))))))
  obtain rfl := sj h
  exact ew_ret (res1 Z (.tmp Z)) ⟨_, Z, ((vbool _)), hC2.bx⟩
 ·
  obtain rfl := hbb1.trans hc1
  refine cw_false Z (cw_skip (ew_then (cw_seq (cw_region (lw_op Z Z Z (ow_load (R := RBox) Z Z (ARep.mono hl2 hp1) (Tryd.sizeOf42 _) (Tryd.isAgg42 _) fun v3 hv3 => ?_))))))
  replace h := bind_some h
  obtain ⟨x2, hx2, h⟩ := h
  refine lw_op Z Z Z (ow_call Z Z Tryd.call23 (wu_laws_toBox (hG.mono (hl1.trans hl2)) hC2.old (Y := (fun b => w2.heap.size ≤ b)) (fun _ hb => hb) hv3 hx2) fun v4 w3 hv4 => ?_)
  obtain ⟨hv4, hb3⟩ := hv4
  have hl3 := Le.no M hb3
  have hC3 := hC2.no hb3
  have hw1 := Fg.vrep fg_Box hv4
  replace h := bind_some h
  obtain ⟨x3, hx3, h⟩ := h
  have lz1 := ((hl1.trans hl2).trans hl3)
  refine lw_op Z Z Z (ow_call Z Z Tryd.call22 (w_spec_BoxTests (hG.mono lz1) hC3.old hw1 hx3) fun v5 w4 hv5 => ?_)
  obtain ⟨⟨v6, v7, rfl, hv6, hv7⟩, hb4⟩ := hv5
  have hl4 := Le.no M hb4
  have hC4 := hC3.no hb4
  obtain ⟨bb2, hbb2, rfl⟩ := vbool_ex hv7
  refine lw_op Z Z Z (ow_move Z Z (lw_op Z Z Z (ow_extract Z Z Z (lw_op Z Z Z (ow_extract Z Z Z (lw_op Z Z Z (ow_assign Z Z (lw_op Z Z Z (ow_assign Z Z (lw_nil (ew_then (cw_seq (cw_region ?_)))))))))))))
  have lz2 := ((hl2.trans hl3).trans hl4)
  refine lw_op Z Z Z (ow_load (R := RBox) Z Z (ARep.mono lz2 hp1) (Tryd.sizeOf42 _) (Tryd.isAgg42 _) fun v8 hv8 => lw_op Z Z Z (ow_call Z Z Tryd.call23 (wu_laws_toBox (hG.mono (lz1.trans hl4)) hC4.old (Y := (fun b => w4.heap.size ≤ b)) (fun _ hb => hb) hv8 hx2) fun v9 w5 hv9 => ?_))
  obtain ⟨hv9, hb5⟩ := hv9
  have hl5 := Le.no M hb5
  have hC5 := hC4.no hb5
  have hw2 := Fg.vrep fg_Box hv9
  have hw3 := Wd.vrep wd_Box hv9
  have hu1 := UFz.yf (fun b => w4.heap.size ≤ b) w5
  refine lw_op Z Z Z (ow_alloc Z (Tryd.zeroValue48 _) hC5 fun g1 w6 hg1 hg2 ho1 hb6 hl6 hC6 => ?_)
  have hy1 := fun (h : (YF (fun b => w4.heap.size ≤ b) w5) g1) => Nat.lt_irrefl _ (Nat.lt_of_lt_of_le (hu1 _ h).1 hg1)
  have hw4 := VRep.mono (Le.no _ hb6) hw3
  have hu2 := UFz.no hu1 hb6
  have hm1 : (Add g1 M) g1 := .inl Z
  obtain ⟨A1, c1, rfl, hw5⟩ := open_Box hw2
  refine lw_op0 Z Z (ow_store (X := No) (us := [(.slice A1 x2.Sides.length c1)]) (cs' := #[(.slice A1 x2.Sides.length c1)]) Z Z Z Z ho1 (Tryd.sizeOf48 _) Z Z Z Z hm1 (.inl hg2) Z hC6 fun w7 ho2 hb7 hl7 hC7 => ?_)
  have hw6 := VRep.other hw4 hb7 (fun b e h => hy1 ((show b = g1 from e) ▸ h))
  have hu3 := UFz.other hu2 hb7 (fun b e h => hy1 ((show b = g1 from e) ▸ h))
  refine lw_nil (ew_then (cw_seq (cw_region (lw_op Z Z Z (ow_loadOwnA Z Z Z ho2 (Tryd.isAgg48 _) (Tryd.sizeOf48 _) Z ?_)))))
  have hw7 : VRep RBox w7 (Add g1 M) ({ Sides := x2.Sides } : Box) (.agg #[(.slice A1 x2.Sides.length c1)]) := shut_Box (VRep.mono (hl6.trans hl7) hw5)
  replace h := bind_some h
  obtain ⟨x4, hx4, h⟩ := h
  have lz3 := ((((lz1.trans hl4).trans hl5).trans hl6).trans hl7)
  refine lw_op Z Z Z (ow_call Z Z Tryd.call24 (wo_impl_BoxTests (hG.mono lz3) hC7.old hw7 hx4) fun v10 w8 hv10 => ?_)
  obtain ⟨⟨v11, v12, rfl, ⟨M1, hr1, hk1⟩, hv1⟩, hb8⟩ := hv10
  have hy2 := fun b (e : (Value.ownBlock v11) = some b) (h : (YF (fun b => w4.heap.size ≤ b) w5) b) => Nat.lt_irrefl _ (Nat.lt_of_lt_of_le (hu3 _ h).1 (hr1.block e).1)
  replace hr1 := hr1.base hC7.bx.size
  have hl8 := hk1.le
  have hC8 := hC7.trans hk1
  have hw8 := VRep.mono (Le.no _ hb8) hw6
  have hu4 := UFz.no hu3 hb8
  have ho3 := ho2.no hb8
  obtain ⟨bb3, hbb3, rfl⟩ := vbool_ex hv1
  refine lw_op Z Z Z (ow_move Z Z (lw_op Z Z Z (ow_extract Z Z Z (lw_op Z Z Z (ow_extract Z Z Z (lw_op Z Z Z (ow_assign Z Z (lw_op Z Z Z (ow_assign Z Z (lw_nil (ew_then (cw_seq (cw_seq (cw_region (lw_op Z Z Z (ow_move Z Z (lw_op Z Z Z (ow_move Z Z ?_))))))))))))))))))
  have lz4 := (((hl5.trans hl6).trans hl7).trans hl8)
  replace h := bind_some h
  obtain ⟨x5, hx5, h⟩ := h
  refine lw_op Z Z Z (ow_call Z Z Tryd.call25 (w_laws_eqTestS (ARep.mono (Le.del w8 M1 v11) (hG.mono (lz3.trans hl8))) (hr1.cxDel hC8 (fun _ e => e.elim) hO).old hr1.freezeDel (VRep.mono (Le.del w8 M1 v11) (VRep.mono lz4 hv6)) hx5) fun v13 w9 hv13 => ?_)
  obtain ⟨hv13, hb9⟩ := hv13
  have hl9 := Le.no M1 hb9
  have hC9 := hC8.no hb9
  have hw9 := VRep.mono (Le.no _ hb9) hw8
  have hu5 := UFz.no hu4 hb9
  have ho4 := ho3.no hb9
  have hr2 := hr1.no hb9
  obtain rfl := vbool_eq hv13
  refine lw_op Z Z Z (ow_not Z Z (lw_op Z Z Z (ow_move Z Z ?_)))
  replace h := cond_some h
  rcases h with ⟨hc2, h⟩ | ⟨hc2, h⟩
  ·
   subst hc2
   refine lw_on Z Z Z Z Z Z (ow_move Z Z (lw_on Z Z Z Z Z Z (ow_move Z Z (lw_on Z Z Z Z Z Z (ow_neqB Z Z Z Tryd.underlying4 fun bb4 hbb4 => ?_)))))
   have hbb4' : bb4 = (x4.2 != x3.2) := hbb4.trans (by rw [hbb3, hbb2])
   refine lw_op Z Z Z (ow_pickF Z Z Z (lw_nil (ew_then ?_)))
   replace h := cond_some h
   rcases h with ⟨hc3, h⟩ | ⟨hc3, h⟩
   ·
    obtain rfl := hbb4'.trans hc3
    refine cw_true Z (cw_seq (cw_region (lw_op Z Z Z (ow_assign Z Z (lw_nil (ew_then (cw_ret (ew_thenR ?_))))))))
    obtain rfl := sj h
    exact ew_ret (res1 Z (.tmp Z)) ⟨_, Z, ((vbool _)), hC9.bx⟩
   ·
    obtain rfl := hbb4'.trans hc3
    refine cw_false Z (cw_skip (ew_then (cw_seq (cw_seq ?_))))
    have lz5 := ((lz3.trans hl8).trans hl9)
    have lz6 := (((((lz2.trans hl5).trans hl6).trans hl7).trans hl8).trans hl9)
    have lz10 := (((hl6.trans hl7).trans hl8).trans hl9)
    refine cw_sub (E' := [(1, (.pointer (some p1))), (2, (.bool false)), (4, v6), (5, (.bool bb2)), (6, (Zw g1 0)), (7, v11), (8, (.bool bb3))]) ⟨Z, Z, Z, Z, Z, Z, Z, Zt⟩ (cw_drawQ 3 [PV RBox M1 ({ Sides := x2.Sides } : Box), PV RBox M1 a_aB, PV RBox M1 x2] (by kernel_rfl) Z (by kernel_rfl) ⟨PV.mono _ _ _, PV.mono _ _ _, PV.mono _ _ _, Zt⟩ ⟨?_, ?_, ?_, Zt⟩ ?_)
    ·
     intro w11 D hS1 hd1
     have hl11 := Le.no M1 hS1
     have ho6 := ho4.no hS1
     refine dg_sub (E' := [(6, (Zw g1 0))]) ⟨Z, Zt⟩ (dg_plain Z (ow_loadOwnA Z Z Z ho6 (Tryd.isAgg48 _) (Tryd.sizeOf48 _) Z ?_))
     have hw14 : VRep RBox w11 M1 ({ Sides := x2.Sides } : Box) (.agg #[(.slice A1 x2.Sides.length c1)]) := shut_Box (VRep.mono (lz10.trans hl11) hw5)
     exact ⟨BX.refl _ _, hw14⟩
    ·
     intro w12 D hS2 hd2
     have hl12 := Le.no M1 hS2
     exact dg_sub (E' := [(1, (.pointer (some p1)))]) ⟨Z, Zt⟩ (dg_plain Z (ow_load (R := RBox) Z Z (ARep.mono (lz6.trans hl12) hp1) (Tryd.sizeOf42 _) (Tryd.isAgg42 _) fun v16 hv16 => ⟨BX.refl _ _, hv16⟩))
    ·
     intro w13 D hS3 hd3
     have hl13 := Le.no M1 hS3
     have hC13 := hC9.no hS3
     have d1 : PV RBox M1 a_aB (D 1) w13 := dpA hd3 1 Z
     generalize hq1 : (D 1) = v17 at d1
     refine dg_sub (E' := [(42, v17)]) ⟨congrArg some hq1, Zt⟩ (dg_plain Z (ow_call Z Z Tryd.call23 (wu_laws_toBox (hG.mono (lz5.trans hl13)) hC13.old (Y := (fun b => w13.heap.size ≤ b)) (fun _ hb => hb) d1 hx2) fun v18 w14 hv18 => ?_))
     obtain ⟨hv18, hb11⟩ := hv18
     have hw18 := Fg.vrep fg_Box hv18
     exact ⟨hb11, hw18⟩
    ·
     intro w15 D hS4 hd4
     have d2 : PV RBox M1 ({ Sides := x2.Sides } : Box) (D 0) w15 := dpA hd4 0 Z
     have d4 : PV RBox M1 x2 (D 2) w15 := dpA hd4 2 Z
     have hl15 := Le.no M1 hS4
     have hC15 := hC9.no hS4
     have hw19 := VRep.mono (Le.no _ hS4) hw9
     have hu11 := UFz.no hu5 hS4
     have ho10 := ho4.no hS4
     have hr8 := hr2.no hS4
     generalize hq2 : (D 0) = v19 at d2
     generalize hq3 : (D 2) = v20 at d4
     refine lw_sub (E' := [(41, v19), (43, v20), (1, (.pointer (some p1))), (2, (.bool false)), (4, v6), (5, (.bool bb2)), (6, (Zw g1 0)), (7, v11), (8, (.bool bb3))]) ⟨congrArg some hq2, congrArg some hq3, Z, Z, Z, Z, Z, Z, Z, Zt⟩ ?_
     replace h := bind_some h
     obtain ⟨x6, hx6, h⟩ := h
     refine lw_op Z Z Z (ow_call Z Z Tryd.call26 (w_laws_eqBox (hG.mono (lz5.trans hl15)) hC15.old d2 d4 hx6) fun v21 w16 hv21 => ?_)
     obtain ⟨hv21, hb12⟩ := hv21
     have hl16 := Le.no M1 hb12
     have hC16 := hC15.no hb12
     have hw20 := VRep.mono (Le.no _ hb12) hw19
     have hu12 := UFz.no hu11 hb12
     have ho11 := ho10.no hb12
     have hr9 := hr8.no hb12
     obtain rfl := vbool_eq hv21
     refine lw_op Z Z Z (ow_not Z Z (lw_nil (ew_then ?_)))
     replace h := cond_some h
     rcases h with ⟨hc4, h⟩ | ⟨hc4, h⟩
     ·
      subst hc4
      refine cw_false Z (cw_skip (ew_then (cw_seq (cw_region (lw_op Z Z Z (ow_assign Z Z (lw_nil (ew_then (cw_seq (cw_region (lw_op Z Z Z (ow_loadOwnA Z Z Z ho11 (Tryd.isAgg48 _) (Tryd.sizeOf48 _) Z (lw_op Z Z Z (ow_move Z Z ?_))))))))))))))
      replace h := bind_some h
      obtain ⟨x7, hx7, h⟩ := h
      refine lw_op Z Z Z (ow_call Z Z Tryd.call27 (wm_laws_markBox hu12 hw20 hx7) fun v22 w17 hv22 => ?_)
      obtain ⟨rfl, hmk1⟩ := hv22
      have hl17 := Le.mark ((((((hl5.trans hl6).trans hl7).trans hl8).trans hl9).trans hl15).trans hl16) hmk1.bx (fun b h => h.1)
      have hC17 := hC16.mark hmk1.bx hu12 (fun b h => Nat.le_trans hC4.bx.size h.1)
      have hr10 := hr9.mark (fun _ _ _ _ _ _ h => h) hmk1.bx hy2
      refine lw_op Z Z Z (ow_assign Z Z (lw_nil (ew_then (cw_seq (cw_seq (cw_region (lw_op Z Z Z (ow_move Z Z (lw_op Z Z Z (ow_lss Z Z Z fun bb5 hbb5 => lw_op Z Z Z (ow_move Z Z ?_)))))))))))
      replace h := cond_some h
      rcases h with ⟨hc5, h⟩ | ⟨hc5, h⟩
      ·
       obtain rfl := hbb5.trans hc5
       refine lw_off Z Z Z Z Z Z (lw_off Z Z Z Z Z Z (lw_off Z Z Z Z Z Z (lw_off Z Z Z Z Z Z (lw_op Z Z Z (ow_pickT Z Z Z (lw_op Z Z Z (ow_move Z Z (lw_off Z Z Z Z Z Z (lw_off Z Z Z Z Z Z (lw_off Z Z Z Z Z Z (lw_op Z Z Z (ow_pickT Z Z Z (lw_nil (ew_then (cw_true Z (cw_seq (cw_region (lw_op Z Z Z (ow_assign Z Z (lw_nil (ew_then (cw_ret (ew_thenR ?_)))))))))))))))))))))))
       obtain rfl := sj h
       exact ew_ret (res1 Z (.tmp Z)) ⟨_, Z, ((vbool _)), hC17.bx⟩
      ·
       obtain rfl := hbb5.trans hc5
       refine lw_on Z Z Z Z Z Z (ow_move Z Z (lw_on Z Z Z Z Z Z (ow_move Z Z ?_)))
       have lz13 := ((((hl1.trans hl2).trans hl3).trans hl4).trans hl17)
       refine lw_on Z Z Z Z Z Z (ow_call Z Z Tryd.call25 (w_laws_eqTestS (ARep.mono (Le.del w17 (MY M1 (YF (fun b => w4.heap.size ≤ b) w5)) v11) (hG.mono lz13)) (hr10.cxDel hC17 (fun _ e => e.elim) hO).old hr10.freezeDel (VRep.mono (Le.del w17 (MY M1 (YF (fun b => w4.heap.size ≤ b) w5)) v11) (VRep.mono hl17 hv6)) hx5) fun v23 w18 hv23 => ?_)
       obtain ⟨hv23, hb13⟩ := hv23
       have hl18 := Le.no (MY M1 (YF (fun b => w4.heap.size ≤ b) w5)) hb13
       have hC18 := hC17.no hb13
       have hr11 := hr10.no hb13
       obtain rfl := vbool_eq hv23
       refine lw_on Z Z Z Z Z Z (ow_not Z Z (lw_op Z Z Z (ow_pickF Z Z Z (lw_op Z Z Z (ow_move Z Z (lw_on Z Z Z Z Z Z (ow_move Z Z (lw_on Z Z Z Z Z Z (ow_move Z Z (lw_on Z Z Z Z Z Z (ow_neqB Z Z Z Tryd.underlying4 fun bb6 hbb6 => ?_)))))))))))
       have hbb6' : bb6 = (x4.2 != x3.2) := hbb6.trans (by rw [hbb3, hbb2])
       obtain rfl := hbb6'.trans hc3
       refine lw_op Z Z Z (ow_pickF Z Z Z (lw_nil (ew_then (cw_false Z (cw_skip (ew_then (cw_seq (cw_region (lw_op Z Z Z (ow_assign Z Z (lw_nil (ew_then (cw_seq (cw_region (lw_op Z Z Z (ow_move Z Z (lw_op Z Z Z (ow_move Z Z ?_))))))))))))))))))
       replace h := bind_some h
       obtain ⟨x8, hx8, h⟩ := h
       refine lw_op Z Z Z (ow_call Z Z Tryd.call28 (wr_laws_markTestS (hG.mono (lz13.trans hl18)) hC18.old hr11 hx8) fun v24 w19 hv24 => ?_)
       obtain ⟨hv24, M2, hr12, hk2⟩ := hv24
       obtain rfl := vint_eq hv24
       have hl19 := hk2.leY (fun b e => hr11.mem b e)
       have hC19 := hC18.trans2 hk2 (fun b e => .inl (hr11.block e).1)
       refine lw_op Z Z Z (ow_assign Z Z (lw_nil (ew_then (cw_seq (cw_region (lw_op Z Z Z (ow_assign Z Z (lw_nil (ew_then (cw_seq (cw_region (lw_op Z Z Z (ow_move Z Z (lw_op Z Z Z (ow_move Z Z ?_)))))))))))))))
       replace h := bind_some h
       obtain ⟨x9, hx9, h⟩ := h
       have lz14 := ((lz13.trans hl18).trans hl19)
       refine lw_op Z Z Z (ow_call Z Z Tryd.call29 (w_laws_heldTestS (ARep.mono (Le.del w19 M2 v11) (hG.mono lz14)) (hr12.cxDel hC19 (fun _ e => e.elim) hO).old hr12.freezeDel hx9) fun v25 w20 hv25 => ?_)
       obtain ⟨hv25, hb14⟩ := hv25
       have hl20 := Le.no M2 hb14
       have hC20 := hC19.no hb14
       have hr13 := hr12.no hb14
       obtain rfl := vint_eq hv25
       refine lw_op Z Z Z (ow_assign Z Z (lw_nil (ew_then (cw_seq (cw_seq (cw_region (lw_op Z Z Z (ow_move Z Z (lw_op Z Z Z (ow_lss Z Z Z fun bb7 hbb7 => lw_nil (ew_then ?_)))))))))))
       replace h := cond_some h
       rcases h with ⟨hc6, h⟩ | ⟨hc6, h⟩
       ·
        obtain rfl := hbb7.trans hc6
        refine cw_true Z (cw_seq (cw_region (lw_op Z Z Z (ow_assign Z Z (lw_nil (ew_then (cw_ret (ew_thenR ?_))))))))
        obtain rfl := sj h
        exact ew_ret (res1 Z (.tmp Z)) ⟨_, Z, ((vbool _)), hC20.bx⟩
       ·
        obtain rfl := hbb7.trans hc6
        refine cw_false Z (cw_skip (ew_then (cw_seq (cw_seq (cw_region (lw_op Z Z Z (ow_move Z Z (lw_op Z Z Z (ow_move Z Z (lw_op Z Z Z (ow_neqI Z Z Z fun bb8 hbb8 => lw_nil (ew_then ?_))))))))))))
        replace h := cond_some h
        rcases h with ⟨hc7, h⟩ | ⟨hc7, h⟩
        ·
         obtain rfl := hbb8.trans hc7
         refine cw_true Z (cw_seq (cw_region (lw_op Z Z Z (ow_assign Z Z (lw_nil (ew_then (cw_ret (ew_thenR ?_))))))))
         obtain rfl := sj h
         exact ew_ret (res1 Z (.tmp Z)) ⟨_, Z, ((vbool _)), hC20.bx⟩
        ·
         obtain rfl := hbb8.trans hc7
         refine cw_false Z (cw_skip (ew_then (cw_seq (cw_region ?_))))
         have lz15 := ((((((hl2.trans hl3).trans hl4).trans hl17).trans hl18).trans hl19).trans hl20)
         refine lw_op Z Z Z (ow_load (R := RBox) Z Z (ARep.mono lz15 hp1) (Tryd.sizeOf42 _) (Tryd.isAgg42 _) fun v26 hv26 => lw_op Z Z Z (ow_call Z Z Tryd.call23 (wu_laws_toBox (hG.mono (lz14.trans hl20)) hC20.old (Y := (fun b => w20.heap.size ≤ b)) (fun _ hb => hb) hv26 hx2) fun v27 w21 hv27 => ?_))
         obtain ⟨hv27, hb15⟩ := hv27
         have hl21 := Le.no M2 hb15
         have hC21 := hC20.no hb15
         have hr14 := hr13.no hb15
         have hw22 := Fg.vrep fg_Box hv27
         replace h := bind_some h
         obtain ⟨x10, hx10, h⟩ := h
         have lz16 := ((lz14.trans hl20).trans hl21)
         refine lw_op Z Z Z (ow_call Z Z Tryd.call24 (w_impl_BoxTests (hG.mono lz16) hC21.old hw22 hx10) fun v28 w22 hv28 => ?_)
         obtain ⟨⟨v29, v30, rfl, hv29, hv30⟩, hb16⟩ := hv28
         have hl22 := Le.no M2 hb16
         have hC22 := hC21.no hb16
         have hr15 := hr14.no hb16
         obtain ⟨bb9, hbb9, rfl⟩ := vbool_ex hv30
         refine lw_op Z Z Z (ow_move Z Z (lw_op Z Z Z (ow_extract Z Z Z (lw_op Z Z Z (ow_extract Z Z Z (lw_op Z Z Z (ow_assign Z Z (lw_op Z Z Z (ow_assign Z Z (lw_nil (ew_then (cw_seq (cw_seq (cw_region (lw_op Z Z Z (ow_move Z Z (lw_op Z Z Z (ow_move Z Z ?_))))))))))))))))))
         have lz17 := (((((hl17.trans hl18).trans hl19).trans hl20).trans hl21).trans hl22)
         replace h := bind_some h
         obtain ⟨x11, hx11, h⟩ := h
         refine lw_op Z Z Z (ow_call Z Z Tryd.call25 (w_laws_eqTestS (hG.mono (lz16.trans hl22)) hC22.old hv29 (VRep.mono lz17 hv6) hx11) fun v31 w23 hv31 => ?_)
         obtain ⟨hv31, hb17⟩ := hv31
         have hl23 := Le.no M2 hb17
         have hC23 := hC22.no hb17
         have hr16 := hr15.no hb17
         obtain rfl := vbool_eq hv31
         refine lw_op Z Z Z (ow_not Z Z (lw_op Z Z Z (ow_move Z Z ?_)))
         replace h := cond_some h
         rcases h with ⟨hc8, h⟩ | ⟨hc8, h⟩
         ·
          subst hc8
          refine lw_on Z Z Z Z Z Z (ow_move Z Z (lw_on Z Z Z Z Z Z (ow_move Z Z (lw_on Z Z Z Z Z Z (ow_neqB Z Z Z Tryd.underlying4 fun bb10 hbb10 => ?_)))))
          have hbb10' : bb10 = (x10.2 != x3.2) := hbb10.trans (by rw [hbb9, hbb2])
          refine lw_op Z Z Z (ow_pickF Z Z Z (lw_nil (ew_then ?_)))
          replace h := cond_some h
          rcases h with ⟨hc9, h⟩ | ⟨hc9, h⟩
          ·
           obtain rfl := hbb10'.trans hc9
           refine cw_true Z (cw_seq (cw_region (lw_op Z Z Z (ow_assign Z Z (lw_nil (ew_then (cw_ret (ew_thenR ?_))))))))
           obtain rfl := sj h
           exact ew_ret (res1 Z (.tmp Z)) ⟨_, Z, ((vbool _)), hC23.bx⟩
          ·
           obtain rfl := hbb10'.trans hc9
           refine cw_false Z (cw_skip (ew_then (cw_seq (cw_region (lw_op Z Z Z (ow_assign Z Z (lw_nil (ew_then (cw_seq (cw_region (lw_op Z Z Z (ow_move Z Z (lw_op Z Z Z (ow_move Z Z ?_))))))))))))))
           have lz18 := ((lz16.trans hl22).trans hl23)
           refine lw_op Z Z Z (ow_call Z Z Tryd.call29 (w_laws_heldTestS (ARep.mono (Le.del w23 M2 v11) (hG.mono lz18)) (hr16.cxDel hC23 (fun _ e => e.elim) hO).old hr16.freezeDel hx9) fun v32 w24 hv32 => ?_)
           obtain ⟨hv32, hb18⟩ := hv32
           have hC24 := hC23.no hb18
           obtain rfl := vint_eq hv32
           refine lw_op Z Z Z (ow_assign Z Z (lw_nil (ew_then (cw_seq (cw_seq (cw_region (lw_op Z Z Z (ow_move Z Z (lw_op Z Z Z (ow_lss Z Z Z fun bb11 hbb11 => ?_))))))))))
           obtain rfl := hbb11.trans hc6
           refine lw_nil (ew_then (cw_false Z (cw_skip (ew_then (cw_seq (cw_seq (cw_region (lw_op Z Z Z (ow_move Z Z (lw_op Z Z Z (ow_move Z Z (lw_op Z Z Z (ow_neqI Z Z Z fun bb12 hbb12 => ?_)))))))))))))
           obtain rfl := hbb12.trans hc7
           refine lw_nil (ew_then (cw_false Z (cw_skip (ew_then (cw_seq (cw_region (lw_op Z Z Z (ow_assign Z Z (lw_nil (ew_then (cw_ret ?_)))))))))))
           obtain rfl := sj h
           exact ew_ret (res1 Z (.tmp Z)) ⟨_, Z, ((vbool _)), hC24.bx⟩
         ·
          subst hc8
          refine lw_off Z Z Z Z Z Z (lw_off Z Z Z Z Z Z (lw_off Z Z Z Z Z Z (lw_op Z Z Z (ow_pickT Z Z Z (lw_nil (ew_then (cw_true Z (cw_seq (cw_region (lw_op Z Z Z (ow_assign Z Z (lw_nil (ew_then (cw_ret (ew_thenR ?_)))))))))))))))
          obtain rfl := sj h
          exact ew_ret (res1 Z (.tmp Z)) ⟨_, Z, ((vbool _)), hC23.bx⟩
     ·
      subst hc4
      refine cw_true Z (cw_seq (cw_region (lw_op Z Z Z (ow_assign Z Z (lw_nil (ew_then (cw_ret (ew_thenR ?_))))))))
      obtain rfl := sj h
      exact ew_ret (res1 Z (.tmp Z)) ⟨_, Z, ((vbool _)), hC16.bx⟩
  ·
   subst hc2
   refine lw_off Z Z Z Z Z Z (lw_off Z Z Z Z Z Z (lw_off Z Z Z Z Z Z (lw_op Z Z Z (ow_pickT Z Z Z (lw_nil (ew_then (cw_true Z (cw_seq (cw_region (lw_op Z Z Z (ow_assign Z Z (lw_nil (ew_then (cw_ret (ew_thenR ?_)))))))))))))))
   obtain rfl := sj h
   exact ew_ret (res1 Z (.tmp Z)) ⟨_, Z, ((vbool _)), hC9.bx⟩


end Go.PF
