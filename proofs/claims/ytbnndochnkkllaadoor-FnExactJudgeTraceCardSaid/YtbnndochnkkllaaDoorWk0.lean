/- The walks; no condition. -/
import Derived.Test.YtbnndochnkkllaaDoorProg
import Derived.Test.YtbnndochnkkllaaDoorFun
import Derived.Test.YtbnndochnkkllaaDoorPFMark
import Derived.Test.YtbnndochnkkllaaDoorPFWild
set_option maxRecDepth 100000
set_option maxHeartbeats 4000000
namespace Go.PF
open Go Go.RowKit Go.Proofs

theorem info3 : ∃ i, Tryd.prog.info? 3 = some i ∧ i.zero = some (.int .i64 0) ∧ i.size = 1 ∧ i.bytes = 8 := info_parts (by kernel_rfl)
theorem info4 : ∃ i, Tryd.prog.info? 4 = some i ∧ i.zero = some (.bool false) ∧ i.size = 1 ∧ i.bytes = 1 := info_parts (by kernel_rfl)
theorem info38 : ∃ i, Tryd.prog.info? 38 = some i ∧ i.zero = some (.agg #[.slice none 0 0, .int .i64 0, .int .i64 0]) ∧ i.size = 3 ∧ i.bytes = 40 := info_parts (by kernel_rfl)
theorem info39 : ∃ i, Tryd.prog.info? 39 = some i ∧ i.zero = some (.slice none 0 0) ∧ i.size = 1 ∧ i.bytes = 24 := info_parts (by kernel_rfl)
theorem info128 : ∃ i, Tryd.prog.info? 128 = some i ∧ i.zero = some (.agg #[.int .i64 0, .int .i64 0, .int .i64 0, .bool false]) ∧ i.size = 4 ∧ i.bytes = 32 := info_parts (by kernel_rfl)
theorem info171 : ∃ i, Tryd.prog.info? 171 = some i ∧ i.zero = some (.agg #[.int .i64 0, .int .i64 0]) ∧ i.size = 2 ∧ i.bytes = 16 := info_parts (by kernel_rfl)
theorem info190 : ∃ i, Tryd.prog.info? 190 = some i ∧ i.zero = some (.agg #[.int .i64 0, .int .i64 0]) ∧ i.size = 2 ∧ i.bytes = 16 := info_parts (by kernel_rfl)
def actV : Act_ → Value
  | .deciding b => .iface 229 (.agg #[.bool b])
  | .calling c => .iface 231 (.agg #[.int .i64 c])
  | .returning => .iface 233 (.agg #[])
  | .passing => .iface 234 (.agg #[])
theorem w_laws_szTestS {w : World} {M : Nat → Prop} (_hG : ARep (RArr 4 RShape) w M shapes ⟨0, 0, none⟩) (hO : ∀ b, M b → b < w.heap.size) {v0p : Value} {a_a : List Test} (h0 : VRep (RSlice RTest) w M a_a v0p) {a_left : Int} {r : Int} (h : F.laws_szTestS a_a a_left = some r) :
  Calls Tryd.prog 33 [v0p, (.int .i64 a_left)].toArray w fun e w' => ∃ v, e = .returned v ∧ VRep RInt w' M r v ∧ BX No w w' := by
 have hC : Cx No w M w M := Cx.start hO (fun _ e => e.elim)
 clear _hG
 refine walk (N := 12) Tryd.func33 Z Tryd.ntmps33 Z (cw_seq (cw_region (lw_op Z Z Z (ow_assign Z Z (lw_nil (ew_then (cw_seq (cw_region (lw_op Z Z Z (ow_move Z Z (lw_op Z Z Z (ow_move Z Z (lw_op Z Z Z (ow_len Z Z h0 Tryd.underlying57 Z (lw_op Z Z Z (ow_sub Z Z Z (lw_op Z Z Z (ow_assign Z Z (lw_nil (ew_then (cw_seq (cw_seq (cw_region (lw_op Z Z Z (ow_move Z Z (lw_op Z Z Z (ow_lss Z Z Z fun bb1 hbb1 => lw_nil (ew_then ?_))))))))))))))))))))))))))))
 replace h := cond_some h
 rcases h with ⟨hc1, h⟩ | ⟨hc1, h⟩
 ·
  obtain rfl := hbb1.trans hc1
  refine cw_true Z (cw_seq (cw_region (lw_op Z Z Z (ow_assign Z Z (lw_nil (ew_then (cw_ret (ew_thenR ?_))))))))
  obtain rfl := sj h
  exact ew_ret (res1 Z (.tmp Z)) ⟨_, Z, ((vint _)), hC.bx⟩
 ·
  obtain rfl := hbb1.trans hc1
  refine cw_false Z (cw_skip (ew_then (cw_seq (cw_region (lw_op Z Z Z (ow_move Z Z (lw_op Z Z Z (ow_assign Z Z (lw_nil (ew_then (cw_ret ?_)))))))))))
  obtain rfl := sj h
  exact ew_ret (res1 Z (.tmp Z)) ⟨_, Z, ((vint _)), hC.bx⟩

theorem w_laws_szRule {w : World} {M : Nat → Prop} (hG : ARep (RArr 4 RShape) w M shapes ⟨0, 0, none⟩) (hO : ∀ b, M b → b < w.heap.size) {v0p : Value} {a_a : Rule} (h0 : VRep RRule w M a_a v0p) {a_left : Int} {r : Int} (h : F.laws_szRule a_a a_left = some r) :
  Calls Tryd.prog 183 [v0p, (.int .i64 a_left)].toArray w fun e w' => ∃ v, e = .returned v ∧ VRep RInt w' M r v ∧ BX No w w' := by
 have hC : Cx No w M w M := Cx.start hO (fun _ e => e.elim)
 refine walk (N := 12) Tryd.func183 Z Tryd.ntmps183 Z (cw_seq (cw_region (lw_op Z Z Z (ow_box (R := RRule) Z Z h0 hC fun p1 w1 hp1 hb1 hl1 hC1 => lw_op Z Z Z (ow_assign Z Z (lw_nil (ew_then (cw_seq (cw_region (lw_op Z Z Z (ow_fieldAddr Z Z Tryd.underlying241 Z (Tryd.sizeOf57 _) (lw_op Z Z Z (ow_load (R := (RSlice RTest)) Z Z (hp1.fld fld_Rule_Tests) (Tryd.sizeOf57 _) (Tryd.isAgg57 _) fun v1 hv1 => lw_op Z Z Z (ow_move Z Z ?_))))))))))))))
 replace h := bind_some h
 obtain ⟨x1, hx1, h⟩ := h
 refine lw_op Z Z Z (ow_call Z Z Tryd.call33 (w_laws_szTestS (hG.mono hl1) hC1.old hv1 hx1) fun v2 w2 hv2 => ?_)
 obtain ⟨hv2, hb2⟩ := hv2
 have hC2 := hC1.no hb2
 obtain rfl := vint_eq hv2
 refine lw_op Z Z Z (ow_assign Z Z (lw_nil (ew_then (cw_seq (cw_seq (cw_region (lw_op Z Z Z (ow_move Z Z (lw_op Z Z Z (ow_lss Z Z Z fun bb1 hbb1 => lw_nil (ew_then ?_)))))))))))
 replace h := cond_some h
 rcases h with ⟨hc1, h⟩ | ⟨hc1, h⟩
 ·
  obtain rfl := hbb1.trans hc1
  refine cw_true Z (cw_seq (cw_region (lw_op Z Z Z (ow_assign Z Z (lw_nil (ew_then (cw_ret (ew_thenR ?_))))))))
  obtain rfl := sj h
  exact ew_ret (res1 Z (.tmp Z)) ⟨_, Z, ((vint _)), hC2.bx⟩
 ·
  obtain rfl := hbb1.trans hc1
  refine cw_false Z (cw_skip (ew_then (cw_seq (cw_region (lw_op Z Z Z (ow_move Z Z (lw_op Z Z Z (ow_assign Z Z (lw_nil (ew_then (cw_ret ?_)))))))))))
  obtain rfl := sj h
  exact ew_ret (res1 Z (.tmp Z)) ⟨_, Z, ((vint _)), hC2.bx⟩

theorem w_laws_szRuleS {w : World} {M : Nat → Prop} (hG : ARep (RArr 4 RShape) w M shapes ⟨0, 0, none⟩) (hO : ∀ b, M b → b < w.heap.size) {v0p : Value} {a_a : List Rule} (h0 : VRep (RSlice RRule) w M a_a v0p) {a_left : Int} {r : Int} (h : F.laws_szRuleS a_a a_left = some r) :
  Calls Tryd.prog 162 [v0p, (.int .i64 a_left)].toArray w fun e w' => ∃ v, e = .returned v ∧ VRep RInt w' M r v ∧ BX No w w' := by
 have hC : Cx No w M w M := Cx.start hO (fun _ e => e.elim)
 refine walk (N := 27) Tryd.func162 Z Tryd.ntmps162 Z (cw_seq (cw_region (lw_op Z Z Z (ow_assign Z Z (lw_nil (ew_then (cw_seq (cw_region (lw_op Z Z Z (ow_move Z Z (lw_op Z Z Z (ow_move Z Z (lw_op Z Z Z (ow_len Z Z h0 Tryd.underlying211 Z (lw_op Z Z Z (ow_sub Z Z Z (lw_op Z Z Z (ow_assign Z Z (lw_nil (ew_then (cw_seq (cw_seq (cw_region (lw_op Z Z Z (ow_move Z Z (lw_op Z Z Z (ow_lss Z Z Z fun bb1 hbb1 => lw_nil (ew_then ?_))))))))))))))))))))))))))))
 replace h := cond_some h
 rcases h with ⟨hc1, h⟩ | ⟨hc1, h⟩
 ·
  obtain rfl := hbb1.trans hc1
  refine cw_true Z (cw_seq (cw_region (lw_op Z Z Z (ow_assign Z Z (lw_nil (ew_then (cw_ret (ew_thenR ?_))))))))
  obtain rfl := sj h
  exact ew_ret (res1 Z (.tmp Z)) ⟨_, Z, ((vint _)), hC.bx⟩
 ·
  obtain rfl := hbb1.trans hc1
  refine cw_false Z (cw_skip (ew_then (cw_seq (cw_seq (cw_region (lw_op Z Z Z (ow_assign Z Z (lw_nil (ew_then ?_)))))))))
  replace h := bind_some h
  obtain ⟨lr1, hlr1, h⟩ := h
  refine cw_for hlr1 (fun s a w' => ∃ (M' : Nat → Prop), Fits 27 [(0, v0p), (1, (Zv s.1)), (5, (Zv s.2))] a ∧ Le w M w' M' ∧ Cx No w M w' M') ?_ ?_ ?_
  · exact fun a ha => ⟨M, ha.sub ⟨Z, Z, Z, Zt⟩, Le.refl _ _, hC⟩
  ·
   rintro ⟨k1, k2⟩ a w1 sr1 ⟨M1, hF1, hl1, hC1⟩ hb1 hR1
   refine cw_at (E := [(0, v0p), (1, (Zv k1)), (5, (Zv k2))]) hF1 (cw_seq (cw_seq (cw_region (lw_op Z Z Z (ow_move Z Z (lw_op Z Z Z (ow_move Z Z (lw_op Z Z Z (ow_len Z Z (VRep.mono hl1 h0) Tryd.underlying211 Z (lw_op Z Z Z (ow_lss Z Z Z fun bb2 hbb2 => lw_nil (ew_then ?_))))))))))))
   replace hb1 := cond_some hb1
   rcases hb1 with ⟨hc2, hb1⟩ | ⟨hc2, hb1⟩
   ·
    obtain rfl := hbb2.trans hc2
    refine cw_true Z (cw_skip (ew_then (cw_seq (cw_block (cw_seq (cw_region (lw_op Z Z Z (ow_move Z Z (lw_op Z Z Z (ow_move Z Z ?_))))))))))
    replace hb1 := bind_some hb1
    obtain ⟨x1, hx1, hb1⟩ := hb1
    refine lw_op Z Z Z (ow_indexSlice (R := RRule) Z Z Z (VRep.mono hl1 h0) Tryd.underlying211 (Tryd.sizeOf241 _) hx1 fun p1 hp1 => lw_op Z Z Z (ow_load (R := RRule) Z Z hp1 (Tryd.sizeOf241 _) (Tryd.isAgg241 _) fun v3 hv3 => lw_op Z Z Z (ow_move Z Z ?_)))
    replace hb1 := bind_some hb1
    obtain ⟨x2, hx2, hb1⟩ := hb1
    refine lw_op Z Z Z (ow_call Z Z Tryd.call183 (w_laws_szRule (hG.mono hl1) hC1.old hv3 hx2) fun v4 w2 hv4 => ?_)
    obtain ⟨hv4, hb2⟩ := hv4
    have hl2 := Le.no M1 hb2
    have hC2 := hC1.no hb2
    obtain rfl := vint_eq hv4
    refine lw_op Z Z Z (ow_assign Z Z (lw_nil (ew_then (cw_seq (cw_region (lw_op Z Z Z (ow_move Z Z (lw_op Z Z Z (ow_lss Z Z Z fun bb3 hbb3 => lw_nil (ew_then ?_))))))))))
    replace hb1 := cond_some hb1
    rcases hb1 with ⟨hc3, hb1⟩ | ⟨hc3, hb1⟩
    ·
     obtain rfl := hbb3.trans hc3
     refine cw_true Z (cw_seq (cw_region (lw_op Z Z Z (ow_assign Z Z (lw_nil (ew_then (cw_ret (ew_blockR (ew_thenR (ew_thenR (ew_blockR (ew_brkR (ew_thenR ?_)))))))))))))
     have e1 := hR1 _ (sj hb1).symm
     subst e1
     obtain rfl := sj h
     exact ew_ret (res1 Z (.tmp Z)) ⟨_, Z, ((vint _)), hC2.bx⟩
    ·
     obtain rfl := hbb3.trans hc3
     exact cw_false Z (cw_skip (ew_blockN (ew_then (cw_region (lw_op Z Z Z (ow_move Z Z (lw_op Z Z Z (ow_add Z Z Z (lw_op Z Z Z (ow_assign Z Z (lw_nil (ew_nxt (x2, (W (k2 + 1))) hb1 fun a ha => ⟨M1, (ha.sub ⟨Z, Z, Z, Zt⟩), (hl1.trans hl2), hC2⟩))))))))))))
   ·
    obtain rfl := hbb2.trans hc2
    exact cw_false Z (cw_exit (ew_thenX (ew_thenX (ew_blockX (ew_brk (k1, k2) hb1 fun a ha => ⟨M1, (ha.sub ⟨Z, Z, Z, Zt⟩), hl1, hC1⟩)))))
  ·
   rintro ⟨k3, k4⟩ a w3 hlr2 ⟨M2, hF2, hl3, hC3⟩
   subst hlr2
   refine ew_at (E := [(0, v0p), (1, (Zv k3)), (5, (Zv k4))]) hF2 (ew_then (cw_seq (cw_region (lw_op Z Z Z (ow_move Z Z (lw_op Z Z Z (ow_assign Z Z (lw_nil (ew_then (cw_ret ?_))))))))))
   obtain rfl := sj h
   exact ew_ret (res1 Z (.tmp Z)) ⟨_, Z, ((vint _)), hC3.bx⟩

theorem w_laws_szRuleSS {w : World} {M : Nat → Prop} (hG : ARep (RArr 4 RShape) w M shapes ⟨0, 0, none⟩) (hO : ∀ b, M b → b < w.heap.size) {v0p : Value} {a_a : List (List Rule)} (h0 : VRep (RSlice (RSlice RRule)) w M a_a v0p) {a_left : Int} {r : Int} (h : F.laws_szRuleSS a_a a_left = some r) :
  Calls Tryd.prog 117 [v0p, (.int .i64 a_left)].toArray w fun e w' => ∃ v, e = .returned v ∧ VRep RInt w' M r v ∧ BX No w w' := by
 have hC : Cx No w M w M := Cx.start hO (fun _ e => e.elim)
 refine walk (N := 27) Tryd.func117 Z Tryd.ntmps117 Z (cw_seq (cw_region (lw_op Z Z Z (ow_assign Z Z (lw_nil (ew_then (cw_seq (cw_region (lw_op Z Z Z (ow_move Z Z (lw_op Z Z Z (ow_move Z Z (lw_op Z Z Z (ow_len Z Z h0 Tryd.underlying73 Z (lw_op Z Z Z (ow_sub Z Z Z (lw_op Z Z Z (ow_assign Z Z (lw_nil (ew_then (cw_seq (cw_seq (cw_region (lw_op Z Z Z (ow_move Z Z (lw_op Z Z Z (ow_lss Z Z Z fun bb1 hbb1 => lw_nil (ew_then ?_))))))))))))))))))))))))))))
 replace h := cond_some h
 rcases h with ⟨hc1, h⟩ | ⟨hc1, h⟩
 ·
  obtain rfl := hbb1.trans hc1
  refine cw_true Z (cw_seq (cw_region (lw_op Z Z Z (ow_assign Z Z (lw_nil (ew_then (cw_ret (ew_thenR ?_))))))))
  obtain rfl := sj h
  exact ew_ret (res1 Z (.tmp Z)) ⟨_, Z, ((vint _)), hC.bx⟩
 ·
  obtain rfl := hbb1.trans hc1
  refine cw_false Z (cw_skip (ew_then (cw_seq (cw_seq (cw_region (lw_op Z Z Z (ow_assign Z Z (lw_nil (ew_then ?_)))))))))
  replace h := bind_some h
  obtain ⟨lr1, hlr1, h⟩ := h
  refine cw_for hlr1 (fun s a w' => ∃ (M' : Nat → Prop), Fits 27 [(0, v0p), (1, (Zv s.1)), (5, (Zv s.2))] a ∧ Le w M w' M' ∧ Cx No w M w' M') ?_ ?_ ?_
  · exact fun a ha => ⟨M, ha.sub ⟨Z, Z, Z, Zt⟩, Le.refl _ _, hC⟩
  ·
   rintro ⟨k1, k2⟩ a w1 sr1 ⟨M1, hF1, hl1, hC1⟩ hb1 hR1
   refine cw_at (E := [(0, v0p), (1, (Zv k1)), (5, (Zv k2))]) hF1 (cw_seq (cw_seq (cw_region (lw_op Z Z Z (ow_move Z Z (lw_op Z Z Z (ow_move Z Z (lw_op Z Z Z (ow_len Z Z (VRep.mono hl1 h0) Tryd.underlying73 Z (lw_op Z Z Z (ow_lss Z Z Z fun bb2 hbb2 => lw_nil (ew_then ?_))))))))))))
   replace hb1 := cond_some hb1
   rcases hb1 with ⟨hc2, hb1⟩ | ⟨hc2, hb1⟩
   ·
    obtain rfl := hbb2.trans hc2
    refine cw_true Z (cw_skip (ew_then (cw_seq (cw_block (cw_seq (cw_region (lw_op Z Z Z (ow_move Z Z (lw_op Z Z Z (ow_move Z Z ?_))))))))))
    replace hb1 := bind_some hb1
    obtain ⟨x1, hx1, hb1⟩ := hb1
    refine lw_op Z Z Z (ow_indexSlice (R := (RSlice RRule)) Z Z Z (VRep.mono hl1 h0) Tryd.underlying73 (Tryd.sizeOf211 _) hx1 fun p1 hp1 => lw_op Z Z Z (ow_load (R := (RSlice RRule)) Z Z hp1 (Tryd.sizeOf211 _) (Tryd.isAgg211 _) fun v3 hv3 => lw_op Z Z Z (ow_move Z Z ?_)))
    replace hb1 := bind_some hb1
    obtain ⟨x2, hx2, hb1⟩ := hb1
    refine lw_op Z Z Z (ow_call Z Z Tryd.call162 (w_laws_szRuleS (hG.mono hl1) hC1.old hv3 hx2) fun v4 w2 hv4 => ?_)
    obtain ⟨hv4, hb2⟩ := hv4
    have hl2 := Le.no M1 hb2
    have hC2 := hC1.no hb2
    obtain rfl := vint_eq hv4
    refine lw_op Z Z Z (ow_assign Z Z (lw_nil (ew_then (cw_seq (cw_region (lw_op Z Z Z (ow_move Z Z (lw_op Z Z Z (ow_lss Z Z Z fun bb3 hbb3 => lw_nil (ew_then ?_))))))))))
    replace hb1 := cond_some hb1
    rcases hb1 with ⟨hc3, hb1⟩ | ⟨hc3, hb1⟩
    ·
     obtain rfl := hbb3.trans hc3
     refine cw_true Z (cw_seq (cw_region (lw_op Z Z Z (ow_assign Z Z (lw_nil (ew_then (cw_ret (ew_blockR (ew_thenR (ew_thenR (ew_blockR (ew_brkR (ew_thenR ?_)))))))))))))
     have e1 := hR1 _ (sj hb1).symm
     subst e1
     obtain rfl := sj h
     exact ew_ret (res1 Z (.tmp Z)) ⟨_, Z, ((vint _)), hC2.bx⟩
    ·
     obtain rfl := hbb3.trans hc3
     exact cw_false Z (cw_skip (ew_blockN (ew_then (cw_region (lw_op Z Z Z (ow_move Z Z (lw_op Z Z Z (ow_add Z Z Z (lw_op Z Z Z (ow_assign Z Z (lw_nil (ew_nxt (x2, (W (k2 + 1))) hb1 fun a ha => ⟨M1, (ha.sub ⟨Z, Z, Z, Zt⟩), (hl1.trans hl2), hC2⟩))))))))))))
   ·
    obtain rfl := hbb2.trans hc2
    exact cw_false Z (cw_exit (ew_thenX (ew_thenX (ew_blockX (ew_brk (k1, k2) hb1 fun a ha => ⟨M1, (ha.sub ⟨Z, Z, Z, Zt⟩), hl1, hC1⟩)))))
  ·
   rintro ⟨k3, k4⟩ a w3 hlr2 ⟨M2, hF2, hl3, hC3⟩
   subst hlr2
   refine ew_at (E := [(0, v0p), (1, (Zv k3)), (5, (Zv k4))]) hF2 (ew_then (cw_seq (cw_region (lw_op Z Z Z (ow_move Z Z (lw_op Z Z Z (ow_assign Z Z (lw_nil (ew_then (cw_ret ?_))))))))))
   obtain rfl := sj h
   exact ew_ret (res1 Z (.tmp Z)) ⟨_, Z, ((vint _)), hC3.bx⟩

theorem w_laws_szRuleset {w : World} {M : Nat → Prop} (hG : ARep (RArr 4 RShape) w M shapes ⟨0, 0, none⟩) (hO : ∀ b, M b → b < w.heap.size) {v0p : Value} {a_a : Ruleset} (h0 : VRep RRuleset w M a_a v0p) {a_left : Int} {r : Int} (h : F.laws_szRuleset a_a a_left = some r) :
  Calls Tryd.prog 46 [v0p, (.int .i64 a_left)].toArray w fun e w' => ∃ v, e = .returned v ∧ VRep RInt w' M r v ∧ BX No w w' := by
 have hC : Cx No w M w M := Cx.start hO (fun _ e => e.elim)
 refine walk (N := 12) Tryd.func46 Z Tryd.ntmps46 Z (cw_seq (cw_region (lw_op Z Z Z (ow_box (R := RRuleset) Z Z h0 hC fun p1 w1 hp1 hb1 hl1 hC1 => lw_op Z Z Z (ow_assign Z Z (lw_nil (ew_then (cw_seq (cw_region (lw_op Z Z Z (ow_fieldAddr Z Z Tryd.underlying75 Z (Tryd.sizeOf73 _) (lw_op Z Z Z (ow_load (R := (RSlice (RSlice RRule))) Z Z (hp1.fld fld_Ruleset_Chains) (Tryd.sizeOf73 _) (Tryd.isAgg73 _) fun v1 hv1 => lw_op Z Z Z (ow_move Z Z ?_))))))))))))))
 replace h := bind_some h
 obtain ⟨x1, hx1, h⟩ := h
 refine lw_op Z Z Z (ow_call Z Z Tryd.call117 (w_laws_szRuleSS (hG.mono hl1) hC1.old hv1 hx1) fun v2 w2 hv2 => ?_)
 obtain ⟨hv2, hb2⟩ := hv2
 have hC2 := hC1.no hb2
 obtain rfl := vint_eq hv2
 refine lw_op Z Z Z (ow_assign Z Z (lw_nil (ew_then (cw_seq (cw_seq (cw_region (lw_op Z Z Z (ow_move Z Z (lw_op Z Z Z (ow_lss Z Z Z fun bb1 hbb1 => lw_nil (ew_then ?_)))))))))))
 replace h := cond_some h
 rcases h with ⟨hc1, h⟩ | ⟨hc1, h⟩
 ·
  obtain rfl := hbb1.trans hc1
  refine cw_true Z (cw_seq (cw_region (lw_op Z Z Z (ow_assign Z Z (lw_nil (ew_then (cw_ret (ew_thenR ?_))))))))
  obtain rfl := sj h
  exact ew_ret (res1 Z (.tmp Z)) ⟨_, Z, ((vint _)), hC2.bx⟩
 ·
  obtain rfl := hbb1.trans hc1
  refine cw_false Z (cw_skip (ew_then (cw_seq (cw_region (lw_op Z Z Z (ow_move Z Z (lw_op Z Z Z (ow_assign Z Z (lw_nil (ew_then (cw_ret ?_)))))))))))
  obtain rfl := sj h
  exact ew_ret (res1 Z (.tmp Z)) ⟨_, Z, ((vint _)), hC2.bx⟩

theorem w_laws_toTest {w : World} {M : Nat → Prop} (_hG : ARep (RArr 4 RShape) w M shapes ⟨0, 0, none⟩) (hO : ∀ b, M b → b < w.heap.size) {v0p : Value} {a_a : Test} (h0 : VRep RTest w M a_a v0p) {r : Test} (h : F.laws_toTest a_a = some r) :
  Calls Tryd.prog 105 [v0p].toArray w fun e w' => ∃ v, e = .returned v ∧ VRep RTest w' M r v ∧ BX No w w' := by
 have hC : Cx No w M w M := Cx.start hO (fun _ e => e.elim)
 clear _hG
 refine walk (N := 17) Tryd.func105 Z Tryd.ntmps105 Z (cw_seq (cw_region (lw_op Z Z Z (ow_box (R := RTest) Z Z h0 hC fun p1 w1 hp1 hb1 hl1 hC1 => lw_op Z Z Z (ow_alloc Z (Tryd.zeroValue128 _) hC1 fun g1 w2 hg1 hg2 ho1 hb2 hl2 hC2 => ?_)))))
 have hm1 : (Add g1 M) g1 := .inl Z
 refine lw_nil (ew_then (cw_seq (cw_region (lw_op Z Z Z (ow_alloc Z (Tryd.zeroValue128 _) hC2 fun g2 w3 hg3 hg4 ho2 hb3 hl3 hC3 => ?_)))))
 have hn1 := Nat.ne_of_lt (Nat.lt_of_lt_of_le ho1.lt hg3)
 have ho3 := ho1.no hb3
 have hm2 : (Add g2 (Add g1 M)) g1 := .inr hm1
 have hm3 : (Add g2 (Add g1 M)) g2 := .inl Z
 refine lw_nil (ew_then (cw_seq (cw_region (lw_op Z Z Z (ow_fieldAddr Z Z Tryd.underlying146 Z (Tryd.sizeOf3 _) (lw_op Z Z Z (ow_load (R := RInt) Z Z (ARep.mono (hl2.trans hl3) (hp1.fld fld_Test_Field)) (Tryd.sizeOf3 _) (Tryd.isAgg3 _) fun v1 hv1 => ?_)))))))
 obtain rfl := vint_eq hv1
 refine lw_op Z Z Z (ow_fieldAddr Z Z Tryd.underlying128 Z (Tryd.sizeOf3 _) (lw_op0 Z Z (ow_store (X := No) (us := [(Zv a_a.Field)]) (cs' := #[(Zv a_a.Field), (Zv 0), (Zv 0), (.bool false)]) Z Z Z Z ho2 (Tryd.sizeOf3 _) Z Z Z Z hm3 (.inl hg4) Z hC3 fun w4 ho4 hb4 hl4 hC4 => ?_)))
 have ho5 := ho3.go hb4 (fun e => hn1 e)
 refine lw_nil (ew_then (cw_seq (cw_region (lw_op Z Z Z (ow_fieldAddr Z Z Tryd.underlying146 Z (Tryd.sizeOf3 _) ?_)))))
 have lz1 := ((hl2.trans hl3).trans hl4)
 refine lw_op Z Z Z (ow_load (R := RInt) Z Z (ARep.mono lz1 (hp1.fld fld_Test_Lo)) (Tryd.sizeOf3 _) (Tryd.isAgg3 _) fun v2 hv2 => ?_)
 obtain rfl := vint_eq hv2
 refine lw_op Z Z Z (ow_fieldAddr Z Z Tryd.underlying128 Z (Tryd.sizeOf3 _) (lw_op0 Z Z (ow_store (X := No) (us := [(Zv a_a.Lo)]) (cs' := #[(Zv a_a.Field), (Zv a_a.Lo), (Zv 0), (.bool false)]) Z Z Z Z ho4 (Tryd.sizeOf3 _) Z Z Z Z hm3 (.inl hg4) Z hC4 fun w5 ho6 hb5 hl5 hC5 => ?_)))
 have ho7 := ho5.go hb5 (fun e => hn1 e)
 refine lw_nil (ew_then (cw_seq (cw_region (lw_op Z Z Z (ow_fieldAddr Z Z Tryd.underlying146 Z (Tryd.sizeOf3 _) (lw_op Z Z Z (ow_load (R := RInt) Z Z (ARep.mono (lz1.trans hl5) (hp1.fld fld_Test_Hi)) (Tryd.sizeOf3 _) (Tryd.isAgg3 _) fun v3 hv3 => ?_)))))))
 obtain rfl := vint_eq hv3
 refine lw_op Z Z Z (ow_fieldAddr Z Z Tryd.underlying128 Z (Tryd.sizeOf3 _) (lw_op0 Z Z (ow_store (X := No) (us := [(Zv a_a.Hi)]) (cs' := #[(Zv a_a.Field), (Zv a_a.Lo), (Zv a_a.Hi), (.bool false)]) Z Z Z Z ho6 (Tryd.sizeOf3 _) Z Z Z Z hm3 (.inl hg4) Z hC5 fun w6 ho8 hb6 hl6 hC6 => ?_)))
 have ho9 := ho7.go hb6 (fun e => hn1 e)
 refine lw_nil (ew_then (cw_seq (cw_region (lw_op Z Z Z (ow_fieldAddr Z Z Tryd.underlying146 Z (Tryd.sizeOf4 _) ?_)))))
 have lz2 := ((lz1.trans hl5).trans hl6)
 refine lw_op Z Z Z (ow_load (R := RBool) Z Z (ARep.mono lz2 (hp1.fld fld_Test_Not)) (Tryd.sizeOf4 _) (Tryd.isAgg4 _) fun v4 hv4 => ?_)
 obtain ⟨bb1, hbb1, rfl⟩ := vbool_ex hv4
 refine lw_op Z Z Z (ow_fieldAddr Z Z Tryd.underlying128 Z (Tryd.sizeOf4 _) (lw_op0 Z Z (ow_store (X := No) (us := [(.bool bb1)]) (cs' := #[(Zv a_a.Field), (Zv a_a.Lo), (Zv a_a.Hi), (.bool bb1)]) Z Z Z Z ho8 (Tryd.sizeOf4 _) Z Z Z Z hm3 (.inl hg4) Z hC6 fun w7 ho10 hb7 hl7 hC7 => ?_)))
 have ho11 := ho9.go hb7 (fun e => hn1 e)
 refine lw_nil (ew_then (cw_seq (cw_region (lw_op Z Z Z (ow_loadOwnA Z Z Z ho10 (Tryd.isAgg128 _) (Tryd.sizeOf128 _) Z (lw_op0 Z Z (ow_store (X := No) (us := [(Zv a_a.Field), (Zv a_a.Lo), (Zv a_a.Hi), (.bool bb1)]) (cs' := #[(Zv a_a.Field), (Zv a_a.Lo), (Zv a_a.Hi), (.bool bb1)]) Z Z Z Z ho11 (Tryd.sizeOf128 _) Z Z Z Z hm2 (.inl hg2) Z hC7 fun w8 ho12 hb8 hl8 hC8 => lw_nil (ew_then (cw_ret ?_)))))))))
 have hw2 : VRep RTest w8 (Add g2 (Add g1 M)) ({ Field := a_a.Field, Lo := a_a.Lo, Hi := a_a.Hi, Not := a_a.Not } : Test) (.agg #[(Zv a_a.Field), (Zv a_a.Lo), (Zv a_a.Hi), (.bool bb1)]) := by subst hbb1; exact shut_Test
 obtain rfl := sj h
 exact ew_ret (res1 Z (.cell Z (own_loadVarA ho12 (Tryd.isAgg128 _) (Tryd.sizeOf128 _) Z))) ⟨_, Z, (hw2.mono hC8.back), hC8.bx⟩

theorem wu_laws_toTestS {w : World} {M : Nat → Prop} (hG : ARep (RArr 4 RShape) w M shapes ⟨0, 0, none⟩) (hO : ∀ b, M b → b < w.heap.size) {Y : Nat → Prop} (hY : ∀ b, w.heap.size ≤ b → Y b) {v0p : Value} {a_a : List Test} (h0 : VRep (RSlice RTest) w M a_a v0p) {r : (List Test)} (h : F.laws_toTestS a_a = some r) :
  Calls Tryd.prog 35 [v0p].toArray w fun e w' => ∃ v, e = .returned v ∧ VRep (RSliceU Y RTest) w' M r v ∧ BX No w w' := by
 obtain ⟨i128, hi128, hz128, hs128, hy128⟩ := info128
 have hC : Cx No w M w M := Cx.start hO (fun _ e => e.elim)
 refine walk (N := 23) Tryd.func35 Z Tryd.ntmps35 Z (cw_seq (cw_region (lw_op Z Z Z (ow_assign Z Z (lw_nil (ew_then (cw_seq (cw_region (lw_op Z Z Z (ow_move Z Z (lw_op Z Z Z (ow_len Z Z h0 Tryd.underlying57 Z ?_))))))))))))
 replace h := bind_some h
 obtain ⟨mk1, hmk1, h⟩ := h
 refine lw_op Z Z Z (ow_make (R := RTest) Z Z Z Tryd.underlying36 hi128 hz128 hs128 hy128 Z Z (shut_Test) hmk1 hC fun v1 w1 M1 hr1 hb1 hl1 hC1 hM1 hat1 => lw_op Z Z Z (ow_assign Z Z (lw_nil (ew_then (cw_seq (cw_seq (cw_region (lw_op Z Z Z (ow_assign Z Z (lw_nil (ew_then ?_)))))))))))
 replace h := bind_some h
 obtain ⟨lr1, hlr1, h⟩ := h
 refine cw_for hlr1 (fun s a w' => ∃ (M' : Nat → Prop), Fits 23 [(0, v0p), (3, v1), (4, (Zv s.1))] a ∧ Le w1 M1 w' M' ∧ Cx No w M w' M' ∧ OwnRow RTest w.heap.size 128 w' M' s.2 v1) ?_ ?_ ?_
 · exact fun a ha => ⟨M1, ha.sub ⟨Z, Z, Z, Zt⟩, Le.refl _ _, hC1, hr1⟩
 ·
  rintro ⟨k1, y1⟩ a w2 sr1 ⟨M2, hF1, hl2, hC2, hw1⟩ hb2 hR1
  refine cw_at (E := [(0, v0p), (3, v1), (4, (Zv k1))]) hF1 (cw_seq (cw_seq (cw_region (lw_op Z Z Z (ow_move Z Z (lw_op Z Z Z (ow_move Z Z (lw_op Z Z Z (ow_len Z Z (VRep.mono (hl1.trans hl2) h0) Tryd.underlying57 Z (lw_op Z Z Z (ow_lss Z Z Z fun bb1 hbb1 => lw_nil (ew_then ?_))))))))))))
  replace hb2 := cond_some hb2
  rcases hb2 with ⟨hc1, hb2⟩ | ⟨hc1, hb2⟩
  ·
   obtain rfl := hbb1.trans hc1
   refine cw_true Z (cw_skip (ew_then (cw_seq (cw_block (cw_region (lw_op Z Z Z (ow_move Z Z (lw_op Z Z Z (ow_move Z Z (lw_op Z Z Z (ow_move Z Z (lw_op Z Z Z (ow_move Z Z ?_)))))))))))))
   replace hb2 := bind_some hb2
   obtain ⟨x1, hx1, hb2⟩ := hb2
   refine lw_op Z Z Z (ow_indexSlice (R := RTest) Z Z Z (VRep.mono (hl1.trans hl2) h0) Tryd.underlying57 (Tryd.sizeOf146 _) hx1 fun p1 hp1 => lw_op Z Z Z (ow_load (R := RTest) Z Z hp1 (Tryd.sizeOf146 _) (Tryd.isAgg146 _) fun v4 hv4 => ?_))
   replace hb2 := bind_some hb2
   obtain ⟨x2, hx2, hb2⟩ := hb2
   refine lw_op Z Z Z (ow_call Z Z Tryd.call105 (w_laws_toTest (hG.mono (hl1.trans hl2)) hC2.old hv4 hx2) fun v5 w3 hv5 => ?_)
   obtain ⟨hv5, hb3⟩ := hv5
   have hl3 := Le.no M2 hb3
   have hC3 := hC2.no hb3
   have hr2 := hw1.no hb3
   replace hb2 := bind_some hb2
   obtain ⟨x3, hx3, hb2⟩ := hb2
   refine lw_op Z Z Z (ow_indexRow (R := RTest) Z Z Z hr2 Tryd.underlying36 (Tryd.sizeOf128 _) hx3 (lw_op0 Z Z (ow_storeElRow (X := No) (R := RTest) (S := RTest) Z Z Z Z hr2 (orow_blk hr2 hx3) hx3 (FldSet.whole RTest) (Tryd.sizeOf128 _) hv5 (Nat.le_refl _) hC3 fun w4 ho1 hb4 hl4 hC4 => lw_nil (ew_blockN (ew_then (cw_region (lw_op Z Z Z (ow_move Z Z (lw_op Z Z Z (ow_add Z Z Z (lw_op Z Z Z (ow_assign Z Z (lw_nil ?_)))))))))))))
   have lz1 := ((hl2.trans hl3).trans hl4)
   exact ew_nxt ((W (k1 + 1)), (List.set y1 (k1 : Int).toNat x2)) hb2 fun a ha => ⟨M2, (ha.sub ⟨Z, Z, Z, Zt⟩), lz1, hC4, ho1⟩
  ·
   obtain rfl := hbb1.trans hc1
   exact cw_false Z (cw_exit (ew_thenX (ew_thenX (ew_blockX (ew_brk (k1, y1) hb2 fun a ha => ⟨M2, (ha.sub ⟨Z, Z, Z, Zt⟩), hl2, hC2, hw1⟩)))))
 ·
  rintro ⟨k2, y2⟩ a w5 hlr2 ⟨M3, hF2, hl5, hC5, hw2⟩
  subst hlr2
  refine ew_at (E := [(0, v0p), (3, v1), (4, (Zv k2))]) hF2 (ew_then (cw_seq (cw_region (lw_op Z Z Z (ow_move Z Z (lw_op Z Z Z (ow_assign Z Z (lw_nil (ew_then (cw_ret ?_))))))))))
  obtain rfl := sj h
  exact ew_ret (res1 Z (.tmp Z)) ⟨_, Z, (hw2.freezeBackU hC5 hO hY), hC5.bx⟩

theorem wu_laws_toRule {w : World} {M : Nat → Prop} (hG : ARep (RArr 4 RShape) w M shapes ⟨0, 0, none⟩) (hO : ∀ b, M b → b < w.heap.size) {Y : Nat → Prop} (hY : ∀ b, w.heap.size ≤ b → Y b) {v0p : Value} {a_a : Rule} (h0 : VRep RRule w M a_a v0p) {r : Rule} (h : F.laws_toRule a_a = some r) :
  Calls Tryd.prog 184 [v0p].toArray w fun e w' => ∃ v, e = .returned v ∧ VRep (RRuleU Y) w' M r v ∧ BX No w w' := by
 have hC : Cx No w M w M := Cx.start hO (fun _ e => e.elim)
 refine walk (N := 15) Tryd.func184 Z Tryd.ntmps184 Z (cw_seq (cw_region (lw_op Z Z Z (ow_box (R := RRule) Z Z h0 hC fun p1 w1 hp1 hb1 hl1 hC1 => lw_op Z Z Z (ow_alloc Z (Tryd.zeroValue38 _) hC1 fun g1 w2 hg1 hg2 ho1 hb2 hl2 hC2 => ?_)))))
 have hm1 : (Add g1 M) g1 := .inl Z
 refine lw_nil (ew_then (cw_seq (cw_region (lw_op Z Z Z (ow_alloc Z (Tryd.zeroValue38 _) hC2 fun g2 w3 hg3 hg4 ho2 hb3 hl3 hC3 => ?_)))))
 have hn1 := Nat.ne_of_lt (Nat.lt_of_lt_of_le ho1.lt hg3)
 have ho3 := ho1.no hb3
 have hm2 : (Add g2 (Add g1 M)) g1 := .inr hm1
 have hm3 : (Add g2 (Add g1 M)) g2 := .inl Z
 refine lw_nil (ew_then (cw_seq (cw_region (lw_op Z Z Z (ow_fieldAddr Z Z Tryd.underlying241 Z (Tryd.sizeOf57 _) (lw_op Z Z Z (ow_load (R := (RSlice RTest)) Z Z (ARep.mono (hl2.trans hl3) (hp1.fld fld_Rule_Tests)) (Tryd.sizeOf57 _) (Tryd.isAgg57 _) fun v1 hv1 => ?_)))))))
 replace h := bind_some h
 obtain ⟨x1, hx1, h⟩ := h
 have lz1 := ((hl1.trans hl2).trans hl3)
 refine lw_op Z Z Z (ow_call Z Z Tryd.call35 (wu_laws_toTestS (hG.mono lz1) hC3.old (fun b hb => hY b (Nat.le_trans hC3.bx.size hb)) hv1 hx1) fun v2 w4 hv2 => ?_)
 obtain ⟨hv2, hb4⟩ := hv2
 have hl4 := Le.no (Add g2 (Add g1 M)) hb4
 have hC4 := hC3.no hb4
 have ho4 := ho3.no hb4
 have ho5 := ho2.no hb4
 refine lw_op Z Z Z (ow_fieldAddr Z Z Tryd.underlying38 Z (Tryd.sizeOf36 _) ?_)
 obtain ⟨A1, c1, rfl, -⟩ := vsliceU_shape hv2
 refine lw_op0 Z Z (ow_store (X := No) (us := [(.slice A1 x1.length c1)]) (cs' := #[(.slice A1 x1.length c1), (Zv 0), (Zv 0)]) Z Z Z Z ho5 (Tryd.sizeOf36 _) Z Z Z Z hm3 (.inl hg4) Z hC4 fun w5 ho6 hb5 hl5 hC5 => ?_)
 have ho7 := ho4.go hb5 (fun e => hn1 e)
 refine lw_nil (ew_then (cw_seq (cw_region (lw_op Z Z Z (ow_fieldAddr Z Z Tryd.underlying241 Z (Tryd.sizeOf3 _) ?_)))))
 have lz2 := (((hl2.trans hl3).trans hl4).trans hl5)
 refine lw_op Z Z Z (ow_load (R := RInt) Z Z (ARep.mono lz2 (hp1.fld fld_Rule_Action)) (Tryd.sizeOf3 _) (Tryd.isAgg3 _) fun v3 hv3 => ?_)
 obtain rfl := vint_eq hv3
 refine lw_op Z Z Z (ow_fieldAddr Z Z Tryd.underlying38 Z (Tryd.sizeOf3 _) (lw_op0 Z Z (ow_store (X := No) (us := [(Zv a_a.Action)]) (cs' := #[(.slice A1 x1.length c1), (Zv a_a.Action), (Zv 0)]) Z Z Z Z ho6 (Tryd.sizeOf3 _) Z Z Z Z hm3 (.inl hg4) Z hC5 fun w6 ho8 hb6 hl6 hC6 => ?_)))
 have ho9 := ho7.go hb6 (fun e => hn1 e)
 refine lw_nil (ew_then (cw_seq (cw_region (lw_op Z Z Z (ow_fieldAddr Z Z Tryd.underlying241 Z (Tryd.sizeOf3 _) (lw_op Z Z Z (ow_load (R := RInt) Z Z (ARep.mono (lz2.trans hl6) (hp1.fld fld_Rule_Chain)) (Tryd.sizeOf3 _) (Tryd.isAgg3 _) fun v4 hv4 => ?_)))))))
 obtain rfl := vint_eq hv4
 refine lw_op Z Z Z (ow_fieldAddr Z Z Tryd.underlying38 Z (Tryd.sizeOf3 _) (lw_op0 Z Z (ow_store (X := No) (us := [(Zv a_a.Chain)]) (cs' := #[(.slice A1 x1.length c1), (Zv a_a.Action), (Zv a_a.Chain)]) Z Z Z Z ho8 (Tryd.sizeOf3 _) Z Z Z Z hm3 (.inl hg4) Z hC6 fun w7 ho10 hb7 hl7 hC7 => ?_)))
 have ho11 := ho9.go hb7 (fun e => hn1 e)
 refine lw_nil (ew_then (cw_seq (cw_region (lw_op Z Z Z (ow_loadOwnA Z Z Z ho10 (Tryd.isAgg38 _) (Tryd.sizeOf38 _) Z ?_)))))
 have lz3 := ((hl5.trans hl6).trans hl7)
 refine lw_op0 Z Z (ow_store (X := No) (us := [(.slice A1 x1.length c1), (Zv a_a.Action), (Zv a_a.Chain)]) (cs' := #[(.slice A1 x1.length c1), (Zv a_a.Action), (Zv a_a.Chain)]) Z Z Z Z ho11 (Tryd.sizeOf38 _) Z Z Z Z hm2 (.inl hg2) Z hC7 fun w8 ho12 hb8 hl8 hC8 => lw_nil (ew_then (cw_ret ?_)))
 have hw2 : VRep (RRuleU Y) w8 (Add g2 (Add g1 M)) ({ Tests := x1, Action := a_a.Action, Chain := a_a.Chain } : Rule) (.agg #[(.slice A1 x1.length c1), (Zv a_a.Action), (Zv a_a.Chain)]) := shutU_Rule (VRep.mono (lz3.trans hl8) hv2)
 obtain rfl := sj h
 exact ew_ret (res1 Z (.cell Z (own_loadVarA ho12 (Tryd.isAgg38 _) (Tryd.sizeOf38 _) Z))) ⟨_, Z, (hw2.mono hC8.back), hC8.bx⟩

theorem wu_laws_toRuleS {w : World} {M : Nat → Prop} (hG : ARep (RArr 4 RShape) w M shapes ⟨0, 0, none⟩) (hO : ∀ b, M b → b < w.heap.size) {Y : Nat → Prop} (hY : ∀ b, w.heap.size ≤ b → Y b) {v0p : Value} {a_a : List Rule} (h0 : VRep (RSlice RRule) w M a_a v0p) {r : (List Rule)} (h : F.laws_toRuleS a_a = some r) :
  Calls Tryd.prog 163 [v0p].toArray w fun e w' => ∃ v, e = .returned v ∧ VRep (RSliceU Y (RRuleU Y)) w' M r v ∧ BX No w w' := by
 obtain ⟨i38, hi38, hz38, hs38, hy38⟩ := info38
 have hC : Cx No w M w M := Cx.start hO (fun _ e => e.elim)
 refine walk (N := 23) Tryd.func163 Z Tryd.ntmps163 Z (cw_seq (cw_region (lw_op Z Z Z (ow_assign Z Z (lw_nil (ew_then (cw_seq (cw_region (lw_op Z Z Z (ow_move Z Z (lw_op Z Z Z (ow_len Z Z h0 Tryd.underlying211 Z ?_))))))))))))
 replace h := bind_some h
 obtain ⟨mk1, hmk1, h⟩ := h
 refine lw_op Z Z Z (ow_make (R := (RRuleU Y)) Z Z Z Tryd.underlying39 hi38 hz38 hs38 hy38 Z Z (shutU_Rule vsliceU_nil) hmk1 hC fun v1 w1 M1 hr1 hb1 hl1 hC1 hM1 hat1 => lw_op Z Z Z (ow_assign Z Z (lw_nil (ew_then (cw_seq (cw_seq (cw_region (lw_op Z Z Z (ow_assign Z Z (lw_nil (ew_then ?_)))))))))))
 replace h := bind_some h
 obtain ⟨lr1, hlr1, h⟩ := h
 refine cw_for hlr1 (fun s a w' => ∃ (M' : Nat → Prop), Fits 23 [(0, v0p), (3, v1), (4, (Zv s.1))] a ∧ Le w1 M1 w' M' ∧ Cx No w M w' M' ∧ OwnRow (RRuleU Y) w.heap.size 38 w' M' s.2 v1) ?_ ?_ ?_
 · exact fun a ha => ⟨M1, ha.sub ⟨Z, Z, Z, Zt⟩, Le.refl _ _, hC1, hr1⟩
 ·
  rintro ⟨k1, y1⟩ a w2 sr1 ⟨M2, hF1, hl2, hC2, hw1⟩ hb2 hR1
  refine cw_at (E := [(0, v0p), (3, v1), (4, (Zv k1))]) hF1 (cw_seq (cw_seq (cw_region (lw_op Z Z Z (ow_move Z Z (lw_op Z Z Z (ow_move Z Z (lw_op Z Z Z (ow_len Z Z (VRep.mono (hl1.trans hl2) h0) Tryd.underlying211 Z (lw_op Z Z Z (ow_lss Z Z Z fun bb1 hbb1 => lw_nil (ew_then ?_))))))))))))
  replace hb2 := cond_some hb2
  rcases hb2 with ⟨hc1, hb2⟩ | ⟨hc1, hb2⟩
  ·
   obtain rfl := hbb1.trans hc1
   refine cw_true Z (cw_skip (ew_then (cw_seq (cw_block (cw_region (lw_op Z Z Z (ow_move Z Z (lw_op Z Z Z (ow_move Z Z (lw_op Z Z Z (ow_move Z Z (lw_op Z Z Z (ow_move Z Z ?_)))))))))))))
   replace hb2 := bind_some hb2
   obtain ⟨x1, hx1, hb2⟩ := hb2
   refine lw_op Z Z Z (ow_indexSlice (R := RRule) Z Z Z (VRep.mono (hl1.trans hl2) h0) Tryd.underlying211 (Tryd.sizeOf241 _) hx1 fun p1 hp1 => lw_op Z Z Z (ow_load (R := RRule) Z Z hp1 (Tryd.sizeOf241 _) (Tryd.isAgg241 _) fun v4 hv4 => ?_))
   replace hb2 := bind_some hb2
   obtain ⟨x2, hx2, hb2⟩ := hb2
   refine lw_op Z Z Z (ow_call Z Z Tryd.call184 (wu_laws_toRule (hG.mono (hl1.trans hl2)) hC2.old (fun b hb => hY b (Nat.le_trans hC2.bx.size hb)) hv4 hx2) fun v5 w3 hv5 => ?_)
   obtain ⟨hv5, hb3⟩ := hv5
   have hl3 := Le.no M2 hb3
   have hC3 := hC2.no hb3
   have hr2 := hw1.no hb3
   replace hb2 := bind_some hb2
   obtain ⟨x3, hx3, hb2⟩ := hb2
   refine lw_op Z Z Z (ow_indexRow (R := (RRuleU Y)) Z Z Z hr2 Tryd.underlying39 (Tryd.sizeOf38 _) hx3 (lw_op0 Z Z (ow_storeElRow (X := No) (R := (RRuleU Y)) (S := (RRuleU Y)) Z Z Z Z hr2 (orow_blk hr2 hx3) hx3 (FldSet.whole (RRuleU Y)) (Tryd.sizeOf38 _) hv5 (Nat.le_refl _) hC3 fun w4 ho1 hb4 hl4 hC4 => lw_nil (ew_blockN (ew_then (cw_region (lw_op Z Z Z (ow_move Z Z (lw_op Z Z Z (ow_add Z Z Z (lw_op Z Z Z (ow_assign Z Z (lw_nil ?_)))))))))))))
   have lz1 := ((hl2.trans hl3).trans hl4)
   exact ew_nxt ((W (k1 + 1)), (List.set y1 (k1 : Int).toNat x2)) hb2 fun a ha => ⟨M2, (ha.sub ⟨Z, Z, Z, Zt⟩), lz1, hC4, ho1⟩
  ·
   obtain rfl := hbb1.trans hc1
   exact cw_false Z (cw_exit (ew_thenX (ew_thenX (ew_blockX (ew_brk (k1, y1) hb2 fun a ha => ⟨M2, (ha.sub ⟨Z, Z, Z, Zt⟩), hl2, hC2, hw1⟩)))))
 ·
  rintro ⟨k2, y2⟩ a w5 hlr2 ⟨M3, hF2, hl5, hC5, hw2⟩
  subst hlr2
  refine ew_at (E := [(0, v0p), (3, v1), (4, (Zv k2))]) hF2 (ew_then (cw_seq (cw_region (lw_op Z Z Z (ow_move Z Z (lw_op Z Z Z (ow_assign Z Z (lw_nil (ew_then (cw_ret ?_))))))))))
  obtain rfl := sj h
  exact ew_ret (res1 Z (.tmp Z)) ⟨_, Z, (hw2.freezeBackU hC5 hO hY), hC5.bx⟩

theorem wu_laws_toRuleSS {w : World} {M : Nat → Prop} (hG : ARep (RArr 4 RShape) w M shapes ⟨0, 0, none⟩) (hO : ∀ b, M b → b < w.heap.size) {Y : Nat → Prop} (hY : ∀ b, w.heap.size ≤ b → Y b) {v0p : Value} {a_a : List (List Rule)} (h0 : VRep (RSlice (RSlice RRule)) w M a_a v0p) {r : (List (List Rule))} (h : F.laws_toRuleSS a_a = some r) :
  Calls Tryd.prog 119 [v0p].toArray w fun e w' => ∃ v, e = .returned v ∧ VRep (RSliceU Y (RSliceU Y (RRuleU Y))) w' M r v ∧ BX No w w' := by
 obtain ⟨i39, hi39, hz39, hs39, hy39⟩ := info39
 have hC : Cx No w M w M := Cx.start hO (fun _ e => e.elim)
 refine walk (N := 23) Tryd.func119 Z Tryd.ntmps119 Z (cw_seq (cw_region (lw_op Z Z Z (ow_assign Z Z (lw_nil (ew_then (cw_seq (cw_region (lw_op Z Z Z (ow_move Z Z (lw_op Z Z Z (ow_len Z Z h0 Tryd.underlying73 Z ?_))))))))))))
 replace h := bind_some h
 obtain ⟨mk1, hmk1, h⟩ := h
 refine lw_op Z Z Z (ow_make (R := (RSliceU Y (RRuleU Y))) Z Z Z Tryd.underlying23 hi39 hz39 hs39 hy39 Z Z vsliceU_nil hmk1 hC fun v1 w1 M1 hr1 hb1 hl1 hC1 hM1 hat1 => lw_op Z Z Z (ow_assign Z Z (lw_nil (ew_then (cw_seq (cw_seq (cw_region (lw_op Z Z Z (ow_assign Z Z (lw_nil (ew_then ?_)))))))))))
 replace h := bind_some h
 obtain ⟨lr1, hlr1, h⟩ := h
 refine cw_for hlr1 (fun s a w' => ∃ (M' : Nat → Prop), Fits 23 [(0, v0p), (3, v1), (4, (Zv s.1))] a ∧ Le w1 M1 w' M' ∧ Cx No w M w' M' ∧ OwnRow (RSliceU Y (RRuleU Y)) w.heap.size 39 w' M' s.2 v1) ?_ ?_ ?_
 · exact fun a ha => ⟨M1, ha.sub ⟨Z, Z, Z, Zt⟩, Le.refl _ _, hC1, hr1⟩
 ·
  rintro ⟨k1, y1⟩ a w2 sr1 ⟨M2, hF1, hl2, hC2, hw1⟩ hb2 hR1
  refine cw_at (E := [(0, v0p), (3, v1), (4, (Zv k1))]) hF1 (cw_seq (cw_seq (cw_region (lw_op Z Z Z (ow_move Z Z (lw_op Z Z Z (ow_move Z Z (lw_op Z Z Z (ow_len Z Z (VRep.mono (hl1.trans hl2) h0) Tryd.underlying73 Z (lw_op Z Z Z (ow_lss Z Z Z fun bb1 hbb1 => lw_nil (ew_then ?_))))))))))))
  replace hb2 := cond_some hb2
  rcases hb2 with ⟨hc1, hb2⟩ | ⟨hc1, hb2⟩
  ·
   obtain rfl := hbb1.trans hc1
   refine cw_true Z (cw_skip (ew_then (cw_seq (cw_block (cw_region (lw_op Z Z Z (ow_move Z Z (lw_op Z Z Z (ow_move Z Z (lw_op Z Z Z (ow_move Z Z (lw_op Z Z Z (ow_move Z Z ?_)))))))))))))
   replace hb2 := bind_some hb2
   obtain ⟨x1, hx1, hb2⟩ := hb2
   refine lw_op Z Z Z (ow_indexSlice (R := (RSlice RRule)) Z Z Z (VRep.mono (hl1.trans hl2) h0) Tryd.underlying73 (Tryd.sizeOf211 _) hx1 fun p1 hp1 => lw_op Z Z Z (ow_load (R := (RSlice RRule)) Z Z hp1 (Tryd.sizeOf211 _) (Tryd.isAgg211 _) fun v4 hv4 => ?_))
   replace hb2 := bind_some hb2
   obtain ⟨x2, hx2, hb2⟩ := hb2
   refine lw_op Z Z Z (ow_call Z Z Tryd.call163 (wu_laws_toRuleS (hG.mono (hl1.trans hl2)) hC2.old (fun b hb => hY b (Nat.le_trans hC2.bx.size hb)) hv4 hx2) fun v5 w3 hv5 => ?_)
   obtain ⟨hv5, hb3⟩ := hv5
   have hl3 := Le.no M2 hb3
   have hC3 := hC2.no hb3
   have hr2 := hw1.no hb3
   replace hb2 := bind_some hb2
   obtain ⟨x3, hx3, hb2⟩ := hb2
   refine lw_op Z Z Z (ow_indexRow (R := (RSliceU Y (RRuleU Y))) Z Z Z hr2 Tryd.underlying23 (Tryd.sizeOf39 _) hx3 (lw_op0 Z Z (ow_storeElRow (X := No) (R := (RSliceU Y (RRuleU Y))) (S := (RSliceU Y (RRuleU Y))) Z Z Z Z hr2 (orow_blk hr2 hx3) hx3 (FldSet.whole (RSliceU Y (RRuleU Y))) (Tryd.sizeOf39 _) hv5 (Nat.le_refl _) hC3 fun w4 ho1 hb4 hl4 hC4 => lw_nil (ew_blockN (ew_then (cw_region (lw_op Z Z Z (ow_move Z Z (lw_op Z Z Z (ow_add Z Z Z (lw_op Z Z Z (ow_assign Z Z (lw_nil ?_)))))))))))))
   have lz1 := ((hl2.trans hl3).trans hl4)
   exact ew_nxt ((W (k1 + 1)), (List.set y1 (k1 : Int).toNat x2)) hb2 fun a ha => ⟨M2, (ha.sub ⟨Z, Z, Z, Zt⟩), lz1, hC4, ho1⟩
  ·
   obtain rfl := hbb1.trans hc1
   exact cw_false Z (cw_exit (ew_thenX (ew_thenX (ew_blockX (ew_brk (k1, y1) hb2 fun a ha => ⟨M2, (ha.sub ⟨Z, Z, Z, Zt⟩), hl2, hC2, hw1⟩)))))
 ·
  rintro ⟨k2, y2⟩ a w5 hlr2 ⟨M3, hF2, hl5, hC5, hw2⟩
  subst hlr2
  refine ew_at (E := [(0, v0p), (3, v1), (4, (Zv k2))]) hF2 (ew_then (cw_seq (cw_region (lw_op Z Z Z (ow_move Z Z (lw_op Z Z Z (ow_assign Z Z (lw_nil (ew_then (cw_ret ?_))))))))))
  obtain rfl := sj h
  exact ew_ret (res1 Z (.tmp Z)) ⟨_, Z, (hw2.freezeBackU hC5 hO hY), hC5.bx⟩

theorem wu_laws_toRuleset {w : World} {M : Nat → Prop} (hG : ARep (RArr 4 RShape) w M shapes ⟨0, 0, none⟩) (hO : ∀ b, M b → b < w.heap.size) {Y : Nat → Prop} (hY : ∀ b, w.heap.size ≤ b → Y b) {v0p : Value} {a_a : Ruleset} (h0 : VRep RRuleset w M a_a v0p) {r : Ruleset} (h : F.laws_toRuleset a_a = some r) :
  Calls Tryd.prog 48 [v0p].toArray w fun e w' => ∃ v, e = .returned v ∧ VRep (RRulesetU Y) w' M r v ∧ BX No w w' := by
 have hC : Cx No w M w M := Cx.start hO (fun _ e => e.elim)
 refine walk (N := 12) Tryd.func48 Z Tryd.ntmps48 Z (cw_seq (cw_region (lw_op Z Z Z (ow_box (R := RRuleset) Z Z h0 hC fun p1 w1 hp1 hb1 hl1 hC1 => lw_op Z Z Z (ow_alloc Z (Tryd.zeroValue25 _) hC1 fun g1 w2 hg1 hg2 ho1 hb2 hl2 hC2 => ?_)))))
 have hm1 : (Add g1 M) g1 := .inl Z
 refine lw_nil (ew_then (cw_seq (cw_region (lw_op Z Z Z (ow_alloc Z (Tryd.zeroValue25 _) hC2 fun g2 w3 hg3 hg4 ho2 hb3 hl3 hC3 => ?_)))))
 have hn1 := Nat.ne_of_lt (Nat.lt_of_lt_of_le ho1.lt hg3)
 have ho3 := ho1.no hb3
 have hm2 : (Add g2 (Add g1 M)) g1 := .inr hm1
 have hm3 : (Add g2 (Add g1 M)) g2 := .inl Z
 refine lw_nil (ew_then (cw_seq (cw_region (lw_op Z Z Z (ow_fieldAddr Z Z Tryd.underlying75 Z (Tryd.sizeOf73 _) (lw_op Z Z Z (ow_load (R := (RSlice (RSlice RRule))) Z Z (ARep.mono (hl2.trans hl3) (hp1.fld fld_Ruleset_Chains)) (Tryd.sizeOf73 _) (Tryd.isAgg73 _) fun v1 hv1 => ?_)))))))
 replace h := bind_some h
 obtain ⟨x1, hx1, h⟩ := h
 have lz1 := ((hl1.trans hl2).trans hl3)
 refine lw_op Z Z Z (ow_call Z Z Tryd.call119 (wu_laws_toRuleSS (hG.mono lz1) hC3.old (fun b hb => hY b (Nat.le_trans hC3.bx.size hb)) hv1 hx1) fun v2 w4 hv2 => ?_)
 obtain ⟨hv2, hb4⟩ := hv2
 have hl4 := Le.no (Add g2 (Add g1 M)) hb4
 have hC4 := hC3.no hb4
 have ho4 := ho3.no hb4
 have ho5 := ho2.no hb4
 refine lw_op Z Z Z (ow_fieldAddr Z Z Tryd.underlying25 Z (Tryd.sizeOf23 _) ?_)
 obtain ⟨A1, c1, rfl, -⟩ := vsliceU_shape hv2
 refine lw_op0 Z Z (ow_store (X := No) (us := [(.slice A1 x1.length c1)]) (cs' := #[(.slice A1 x1.length c1), (.bool false)]) Z Z Z Z ho5 (Tryd.sizeOf23 _) Z Z Z Z hm3 (.inl hg4) Z hC4 fun w5 ho6 hb5 hl5 hC5 => ?_)
 have ho7 := ho4.go hb5 (fun e => hn1 e)
 refine lw_nil (ew_then (cw_seq (cw_region (lw_op Z Z Z (ow_fieldAddr Z Z Tryd.underlying75 Z (Tryd.sizeOf4 _) ?_)))))
 have lz2 := (((hl2.trans hl3).trans hl4).trans hl5)
 refine lw_op Z Z Z (ow_load (R := RBool) Z Z (ARep.mono lz2 (hp1.fld fld_Ruleset_Accept)) (Tryd.sizeOf4 _) (Tryd.isAgg4 _) fun v3 hv3 => ?_)
 obtain ⟨bb1, hbb1, rfl⟩ := vbool_ex hv3
 refine lw_op Z Z Z (ow_fieldAddr Z Z Tryd.underlying25 Z (Tryd.sizeOf4 _) (lw_op0 Z Z (ow_store (X := No) (us := [(.bool bb1)]) (cs' := #[(.slice A1 x1.length c1), (.bool bb1)]) Z Z Z Z ho6 (Tryd.sizeOf4 _) Z Z Z Z hm3 (.inl hg4) Z hC5 fun w6 ho8 hb6 hl6 hC6 => ?_)))
 have ho9 := ho7.go hb6 (fun e => hn1 e)
 refine lw_nil (ew_then (cw_seq (cw_region (lw_op Z Z Z (ow_loadOwnA Z Z Z ho8 (Tryd.isAgg25 _) (Tryd.sizeOf25 _) Z (lw_op0 Z Z (ow_store (X := No) (us := [(.slice A1 x1.length c1), (.bool bb1)]) (cs' := #[(.slice A1 x1.length c1), (.bool bb1)]) Z Z Z Z ho9 (Tryd.sizeOf25 _) Z Z Z Z hm2 (.inl hg2) Z hC6 fun w7 ho10 hb7 hl7 hC7 => lw_nil (ew_then (cw_ret ?_)))))))))
 have lz3 := ((hl5.trans hl6).trans hl7)
 have hw2 : VRep (RRulesetU Y) w7 (Add g2 (Add g1 M)) ({ Chains := x1, Accept := a_a.Accept } : Ruleset) (.agg #[(.slice A1 x1.length c1), (.bool bb1)]) := by subst hbb1; exact shutU_Ruleset (VRep.mono lz3 hv2)
 obtain rfl := sj h
 exact ew_ret (res1 Z (.cell Z (own_loadVarA ho10 (Tryd.isAgg25 _) (Tryd.sizeOf25 _) Z))) ⟨_, Z, (hw2.mono hC7.back), hC7.bx⟩

theorem w_laws_eqTest {w : World} {M : Nat → Prop} (_hG : ARep (RArr 4 RShape) w M shapes ⟨0, 0, none⟩) (hO : ∀ b, M b → b < w.heap.size) {v0p : Value} {a_a : Test} (h0 : VRep RTest w M a_a v0p) {v1p : Value} {a_b : Test} (h1 : VRep RTest w M a_b v1p) {r : Bool} (h : F.laws_eqTest a_a a_b = some r) :
  Calls Tryd.prog 93 [v0p, v1p].toArray w fun e w' => ∃ v, e = .returned v ∧ VRep RBool w' M r v ∧ BX No w w' := by
 have hC : Cx No w M w M := Cx.start hO (fun _ e => e.elim)
 clear _hG
 refine walk (N := 25) Tryd.func93 Z Tryd.ntmps93 Z (cw_seq (cw_region (lw_op Z Z Z (ow_box (R := RTest) Z Z h0 hC fun p1 w1 hp1 hb1 hl1 hC1 => lw_op Z Z Z (ow_box (R := RTest) Z Z (VRep.mono hl1 h1) hC1 fun p2 w2 hp2 hb2 hl2 hC2 => lw_op Z Z Z (ow_assign Z Z (lw_nil (ew_then (cw_seq (cw_seq (cw_region (lw_op Z Z Z (ow_fieldAddr Z Z Tryd.underlying128 Z (Tryd.sizeOf3 _) (lw_op Z Z Z (ow_load (R := RInt) Z Z (ARep.mono hl2 (hp1.fld fld_Test_Field)) (Tryd.sizeOf3 _) (Tryd.isAgg3 _) fun v1 hv1 => ?_)))))))))))))))
 obtain rfl := vint_eq hv1
 refine lw_op Z Z Z (ow_fieldAddr Z Z Tryd.underlying128 Z (Tryd.sizeOf3 _) (lw_op Z Z Z (ow_load (R := RInt) Z Z (hp2.fld fld_Test_Field) (Tryd.sizeOf3 _) (Tryd.isAgg3 _) fun v2 hv2 => ?_)))
 obtain rfl := vint_eq hv2
 refine lw_op Z Z Z (ow_neqI Z Z Z fun bb1 hbb1 => lw_nil (ew_then ?_))
 replace h := cond_some h
 rcases h with ⟨hc1, h⟩ | ⟨hc1, h⟩
 ·
  obtain rfl := hbb1.trans hc1
  refine cw_true Z (cw_seq (cw_region (lw_op Z Z Z (ow_assign Z Z (lw_nil (ew_then (cw_ret (ew_thenR ?_))))))))
  obtain rfl := sj h
  exact ew_ret (res1 Z (.tmp Z)) ⟨_, Z, ((vbool _)), hC2.bx⟩
 ·
  obtain rfl := hbb1.trans hc1
  refine cw_false Z (cw_skip (ew_then (cw_seq (cw_seq (cw_region (lw_op Z Z Z (ow_fieldAddr Z Z Tryd.underlying128 Z (Tryd.sizeOf3 _) (lw_op Z Z Z (ow_load (R := RInt) Z Z (ARep.mono hl2 (hp1.fld fld_Test_Lo)) (Tryd.sizeOf3 _) (Tryd.isAgg3 _) fun v3 hv3 => ?_)))))))))
  obtain rfl := vint_eq hv3
  refine lw_op Z Z Z (ow_fieldAddr Z Z Tryd.underlying128 Z (Tryd.sizeOf3 _) (lw_op Z Z Z (ow_load (R := RInt) Z Z (hp2.fld fld_Test_Lo) (Tryd.sizeOf3 _) (Tryd.isAgg3 _) fun v4 hv4 => ?_)))
  obtain rfl := vint_eq hv4
  refine lw_op Z Z Z (ow_neqI Z Z Z fun bb2 hbb2 => lw_nil (ew_then ?_))
  replace h := cond_some h
  rcases h with ⟨hc2, h⟩ | ⟨hc2, h⟩
  ·
   obtain rfl := hbb2.trans hc2
   refine cw_true Z (cw_seq (cw_region (lw_op Z Z Z (ow_assign Z Z (lw_nil (ew_then (cw_ret (ew_thenR ?_))))))))
   obtain rfl := sj h
   exact ew_ret (res1 Z (.tmp Z)) ⟨_, Z, ((vbool _)), hC2.bx⟩
  ·
   obtain rfl := hbb2.trans hc2
   refine cw_false Z (cw_skip (ew_then (cw_seq (cw_seq (cw_region (lw_op Z Z Z (ow_fieldAddr Z Z Tryd.underlying128 Z (Tryd.sizeOf3 _) (lw_op Z Z Z (ow_load (R := RInt) Z Z (ARep.mono hl2 (hp1.fld fld_Test_Hi)) (Tryd.sizeOf3 _) (Tryd.isAgg3 _) fun v5 hv5 => ?_)))))))))
   obtain rfl := vint_eq hv5
   refine lw_op Z Z Z (ow_fieldAddr Z Z Tryd.underlying128 Z (Tryd.sizeOf3 _) (lw_op Z Z Z (ow_load (R := RInt) Z Z (hp2.fld fld_Test_Hi) (Tryd.sizeOf3 _) (Tryd.isAgg3 _) fun v6 hv6 => ?_)))
   obtain rfl := vint_eq hv6
   refine lw_op Z Z Z (ow_neqI Z Z Z fun bb3 hbb3 => lw_nil (ew_then ?_))
   replace h := cond_some h
   rcases h with ⟨hc3, h⟩ | ⟨hc3, h⟩
   ·
    obtain rfl := hbb3.trans hc3
    refine cw_true Z (cw_seq (cw_region (lw_op Z Z Z (ow_assign Z Z (lw_nil (ew_then (cw_ret (ew_thenR ?_))))))))
    obtain rfl := sj h
    exact ew_ret (res1 Z (.tmp Z)) ⟨_, Z, ((vbool _)), hC2.bx⟩
   ·
    obtain rfl := hbb3.trans hc3
    refine cw_false Z (cw_skip (ew_then (cw_seq (cw_seq (cw_region (lw_op Z Z Z (ow_fieldAddr Z Z Tryd.underlying128 Z (Tryd.sizeOf4 _) (lw_op Z Z Z (ow_load (R := RBool) Z Z (ARep.mono hl2 (hp1.fld fld_Test_Not)) (Tryd.sizeOf4 _) (Tryd.isAgg4 _) fun v7 hv7 => ?_)))))))))
    obtain ⟨bb4, hbb4, rfl⟩ := vbool_ex hv7
    refine lw_op Z Z Z (ow_fieldAddr Z Z Tryd.underlying128 Z (Tryd.sizeOf4 _) (lw_op Z Z Z (ow_load (R := RBool) Z Z (hp2.fld fld_Test_Not) (Tryd.sizeOf4 _) (Tryd.isAgg4 _) fun v8 hv8 => ?_)))
    obtain ⟨bb5, hbb5, rfl⟩ := vbool_ex hv8
    refine lw_op Z Z Z (ow_neqB Z Z Z Tryd.underlying4 fun bb6 hbb6 => ?_)
    have hbb6' : bb6 = (a_a.Not != a_b.Not) := hbb6.trans (by rw [hbb4, hbb5])
    refine lw_nil (ew_then ?_)
    replace h := cond_some h
    rcases h with ⟨hc4, h⟩ | ⟨hc4, h⟩
    ·
     obtain rfl := hbb6'.trans hc4
     refine cw_true Z (cw_seq (cw_region (lw_op Z Z Z (ow_assign Z Z (lw_nil (ew_then (cw_ret (ew_thenR ?_))))))))
     obtain rfl := sj h
     exact ew_ret (res1 Z (.tmp Z)) ⟨_, Z, ((vbool _)), hC2.bx⟩
    ·
     obtain rfl := hbb6'.trans hc4
     refine cw_false Z (cw_skip (ew_then (cw_seq (cw_region (lw_op Z Z Z (ow_assign Z Z (lw_nil (ew_then (cw_ret ?_)))))))))
     obtain rfl := sj h
     exact ew_ret (res1 Z (.tmp Z)) ⟨_, Z, ((vbool _)), hC2.bx⟩

theorem w_laws_eqTestS {w : World} {M : Nat → Prop} (hG : ARep (RArr 4 RShape) w M shapes ⟨0, 0, none⟩) (hO : ∀ b, M b → b < w.heap.size) {v0p : Value} {a_a : List Test} (h0 : VRep (RSlice RTest) w M a_a v0p) {v1p : Value} {a_b : List Test} (h1 : VRep (RSlice RTest) w M a_b v1p) {r : Bool} (h : F.laws_eqTestS a_a a_b = some r) :
  Calls Tryd.prog 25 [v0p, v1p].toArray w fun e w' => ∃ v, e = .returned v ∧ VRep RBool w' M r v ∧ BX No w w' := by
 have hC : Cx No w M w M := Cx.start hO (fun _ e => e.elim)
 refine walk (N := 27) Tryd.func25 Z Tryd.ntmps25 Z (cw_seq (cw_region (lw_op Z Z Z (ow_assign Z Z (lw_nil (ew_then (cw_seq (cw_seq (cw_region (lw_op Z Z Z (ow_move Z Z (lw_op Z Z Z (ow_len Z Z h0 Tryd.underlying36 Z (lw_op Z Z Z (ow_move Z Z (lw_op Z Z Z (ow_len Z Z h1 Tryd.underlying36 Z (lw_op Z Z Z (ow_neqI Z Z Z fun bb1 hbb1 => lw_nil (ew_then ?_))))))))))))))))))))
 replace h := cond_some h
 rcases h with ⟨hc1, h⟩ | ⟨hc1, h⟩
 ·
  obtain rfl := hbb1.trans hc1
  refine cw_true Z (cw_seq (cw_region (lw_op Z Z Z (ow_assign Z Z (lw_nil (ew_then (cw_ret (ew_thenR ?_))))))))
  obtain rfl := sj h
  exact ew_ret (res1 Z (.tmp Z)) ⟨_, Z, ((vbool _)), hC.bx⟩
 ·
  obtain rfl := hbb1.trans hc1
  refine cw_false Z (cw_skip (ew_then (cw_seq (cw_seq (cw_region (lw_op Z Z Z (ow_assign Z Z (lw_nil (ew_then ?_)))))))))
  replace h := bind_some h
  obtain ⟨lr1, hlr1, h⟩ := h
  refine cw_for hlr1 (fun s a w' => ∃ (M' : Nat → Prop), Fits 27 [(0, v0p), (1, v1p), (5, (Zv s))] a ∧ Le w M w' M' ∧ Cx No w M w' M') ?_ ?_ ?_
  · exact fun a ha => ⟨M, ha.sub ⟨Z, Z, Z, Zt⟩, Le.refl _ _, hC⟩
  ·
   rintro k1 a w1 sr1 ⟨M1, hF1, hl1, hC1⟩ hb1 hR1
   refine cw_at (E := [(0, v0p), (1, v1p), (5, (Zv k1))]) hF1 (cw_seq (cw_seq (cw_region (lw_op Z Z Z (ow_move Z Z (lw_op Z Z Z (ow_move Z Z (lw_op Z Z Z (ow_len Z Z (VRep.mono hl1 h0) Tryd.underlying36 Z (lw_op Z Z Z (ow_lss Z Z Z fun bb2 hbb2 => lw_nil (ew_then ?_))))))))))))
   replace hb1 := cond_some hb1
   rcases hb1 with ⟨hc2, hb1⟩ | ⟨hc2, hb1⟩
   ·
    obtain rfl := hbb2.trans hc2
    refine cw_true Z (cw_skip (ew_then (cw_seq (cw_block (cw_seq ?_)))))
    replace hb1 := bind_some hb1
    obtain ⟨x1, hx1, hb1⟩ := hb1
    replace hb1 := bind_some hb1
    obtain ⟨x2, hx2, hb1⟩ := hb1
    refine cw_sub (E' := [(0, v0p), (1, v1p), (5, (Zv k1))]) ⟨Z, Z, Z, Zt⟩ (cw_drawQ 8 [PV (RSlice RTest) M1 a_a, PEq (Zv k1), PA RTest M1 x1, PV RTest M1 x1, PV (RSlice RTest) M1 a_b, PEq (Zv k1), PA RTest M1 x2, PV RTest M1 x2] (by kernel_rfl) Z (by kernel_rfl) ⟨PV.mono _ _ _, Zq, PA.mono _ _ _, PV.mono _ _ _, PV.mono _ _ _, Zq, PA.mono _ _ _, PV.mono _ _ _, Zt⟩ ⟨?_, ?_, ?_, ?_, ?_, ?_, ?_, ?_, Zt⟩ ?_)
    ·
     intro w2 D hS1 hd1
     have hl2 := Le.no M1 hS1
     exact dg_sub (E' := [(0, v0p)]) ⟨Z, Zt⟩ (dg_plain Z (ow_move Z Z ⟨BX.refl _ _, (VRep.mono (hl1.trans hl2) h0)⟩))
    · exact fun w3 D hS2 hd2 => dg_sub (E' := [(5, (Zv k1))]) ⟨Z, Zt⟩ (dg_plain Z (ow_move Z Z Zb))
    ·
     intro w4 D hS3 hd3
     have d1 : PV (RSlice RTest) M1 a_a (D 0) w4 := dpA hd3 0 Z
     generalize hq1 : (D 0) = v4 at d1
     exact dg_sub (E' := [(17, v4), (18, (Zv k1))]) ⟨congrArg some hq1, dpE hd3 1 Z Z, Zt⟩ (dg_plain Z (ow_indexSlice (R := RTest) Z Z Z d1 Tryd.underlying36 (Tryd.sizeOf128 _) hx1 fun p3 hp3 => ⟨BX.refl _ _, ⟨_, Z, hp3⟩⟩))
    ·
     intro w5 D hS4 hd4
     have d3 : PA RTest M1 x1 (D 2) w5 := dpA hd4 2 Z
     obtain ⟨p4, e1, ha1⟩ := d3
     exact dg_sub (E' := [(19, (.pointer (some p4)))]) ⟨congrArg some e1, Zt⟩ (dg_plain Z (ow_load (R := RTest) Z Z ha1 (Tryd.sizeOf128 _) (Tryd.isAgg128 _) fun v5 hv5 => ⟨BX.refl _ _, hv5⟩))
    ·
     intro w6 D hS5 hd5
     have hl6 := Le.no M1 hS5
     exact dg_sub (E' := [(1, v1p)]) ⟨Z, Zt⟩ (dg_plain Z (ow_move Z Z ⟨BX.refl _ _, (VRep.mono (hl1.trans hl6) h1)⟩))
    · exact fun w7 D hS6 hd6 => dg_sub (E' := [(5, (Zv k1))]) ⟨Z, Zt⟩ (dg_plain Z (ow_move Z Z Zb))
    ·
     intro w8 D hS7 hd7
     have d4 : PV (RSlice RTest) M1 a_b (D 4) w8 := dpA hd7 4 Z
     generalize hq2 : (D 4) = v6 at d4
     exact dg_sub (E' := [(21, v6), (22, (Zv k1))]) ⟨congrArg some hq2, dpE hd7 5 Z Z, Zt⟩ (dg_plain Z (ow_indexSlice (R := RTest) Z Z Z d4 Tryd.underlying36 (Tryd.sizeOf128 _) hx2 fun p5 hp5 => ⟨BX.refl _ _, ⟨_, Z, hp5⟩⟩))
    ·
     intro w9 D hS8 hd8
     have d6 : PA RTest M1 x2 (D 6) w9 := dpA hd8 6 Z
     obtain ⟨p6, e2, ha2⟩ := d6
     exact dg_sub (E' := [(23, (.pointer (some p6)))]) ⟨congrArg some e2, Zt⟩ (dg_plain Z (ow_load (R := RTest) Z Z ha2 (Tryd.sizeOf128 _) (Tryd.isAgg128 _) fun v7 hv7 => ⟨BX.refl _ _, hv7⟩))
    ·
     intro w10 D hS9 hd9
     have d10 : PV RTest M1 x1 (D 3) w10 := dpA hd9 3 Z
     have d14 : PV RTest M1 x2 (D 7) w10 := dpA hd9 7 Z
     have hl10 := Le.no M1 hS9
     have hC10 := hC1.no hS9
     generalize hq3 : (D 3) = v8 at d10
     generalize hq4 : (D 7) = v9 at d14
     refine lw_sub (E' := [(20, v8), (24, v9), (0, v0p), (1, v1p), (5, (Zv k1))]) ⟨congrArg some hq3, congrArg some hq4, Z, Z, Z, Zt⟩ ?_
     replace hb1 := bind_some hb1
     obtain ⟨x3, hx3, hb1⟩ := hb1
     refine lw_op Z Z Z (ow_call Z Z Tryd.call93 (w_laws_eqTest (hG.mono (hl1.trans hl10)) hC10.old d10 d14 hx3) fun v10 w11 hv10 => ?_)
     obtain ⟨hv10, hb2⟩ := hv10
     have hl11 := Le.no M1 hb2
     have hC11 := hC10.no hb2
     obtain rfl := vbool_eq hv10
     refine lw_op Z Z Z (ow_not Z Z (lw_nil (ew_then ?_)))
     replace hb1 := cond_some hb1
     rcases hb1 with ⟨hc3, hb1⟩ | ⟨hc3, hb1⟩
     ·
      subst hc3
      refine cw_false Z (cw_skip (ew_blockN (ew_then (cw_region (lw_op Z Z Z (ow_move Z Z (lw_op Z Z Z (ow_add Z Z Z (lw_op Z Z Z (ow_assign Z Z (lw_nil ?_)))))))))))
      have lz1 := ((hl1.trans hl10).trans hl11)
      exact ew_nxt (W (k1 + 1)) hb1 fun a ha => ⟨M1, (ha.sub ⟨Z, Z, Z, Zt⟩), lz1, hC11⟩
     ·
      subst hc3
      refine cw_true Z (cw_seq (cw_region (lw_op Z Z Z (ow_assign Z Z (lw_nil (ew_then (cw_ret (ew_blockR (ew_thenR (ew_thenR (ew_blockR (ew_brkR (ew_thenR ?_)))))))))))))
      have e3 := hR1 _ (sj hb1).symm
      subst e3
      obtain rfl := sj h
      exact ew_ret (res1 Z (.tmp Z)) ⟨_, Z, ((vbool _)), hC11.bx⟩
   ·
    obtain rfl := hbb2.trans hc2
    exact cw_false Z (cw_exit (ew_thenX (ew_thenX (ew_blockX (ew_brk k1 hb1 fun a ha => ⟨M1, (ha.sub ⟨Z, Z, Z, Zt⟩), hl1, hC1⟩)))))
  ·
   rintro k2 a w12 hlr2 ⟨M2, hF2, hl12, hC12⟩
   subst hlr2
   refine ew_at (E := [(0, v0p), (1, v1p), (5, (Zv k2))]) hF2 (ew_then (cw_seq (cw_region (lw_op Z Z Z (ow_assign Z Z (lw_nil (ew_then (cw_ret ?_))))))))
   obtain rfl := sj h
   exact ew_ret (res1 Z (.tmp Z)) ⟨_, Z, ((vbool _)), hC12.bx⟩

theorem w_laws_eqRule {w : World} {M : Nat → Prop} (hG : ARep (RArr 4 RShape) w M shapes ⟨0, 0, none⟩) (hO : ∀ b, M b → b < w.heap.size) {v0p : Value} {a_a : Rule} (h0 : VRep RRule w M a_a v0p) {v1p : Value} {a_b : Rule} (h1 : VRep RRule w M a_b v1p) {r : Bool} (h : F.laws_eqRule a_a a_b = some r) :
  Calls Tryd.prog 185 [v0p, v1p].toArray w fun e w' => ∃ v, e = .returned v ∧ VRep RBool w' M r v ∧ BX No w w' := by
 have hC : Cx No w M w M := Cx.start hO (fun _ e => e.elim)
 refine walk (N := 21) Tryd.func185 Z Tryd.ntmps185 Z (cw_seq (cw_region (lw_op Z Z Z (ow_box (R := RRule) Z Z h0 hC fun p1 w1 hp1 hb1 hl1 hC1 => lw_op Z Z Z (ow_box (R := RRule) Z Z (VRep.mono hl1 h1) hC1 fun p2 w2 hp2 hb2 hl2 hC2 => lw_op Z Z Z (ow_assign Z Z (lw_nil (ew_then (cw_seq (cw_seq (cw_region (lw_op Z Z Z (ow_fieldAddr Z Z Tryd.underlying38 Z (Tryd.sizeOf36 _) (lw_op Z Z Z (ow_load (R := (RSlice RTest)) Z Z (ARep.mono hl2 (hp1.fld fld_Rule_Tests)) (Tryd.sizeOf36 _) (Tryd.isAgg36 _) fun v1 hv1 => lw_op Z Z Z (ow_fieldAddr Z Z Tryd.underlying38 Z (Tryd.sizeOf36 _) (lw_op Z Z Z (ow_load (R := (RSlice RTest)) Z Z (hp2.fld fld_Rule_Tests) (Tryd.sizeOf36 _) (Tryd.isAgg36 _) fun v2 hv2 => ?_))))))))))))))))))
 replace h := bind_some h
 obtain ⟨x1, hx1, h⟩ := h
 refine lw_op Z Z Z (ow_call Z Z Tryd.call25 (w_laws_eqTestS (hG.mono (hl1.trans hl2)) hC2.old hv1 hv2 hx1) fun v3 w3 hv3 => ?_)
 obtain ⟨hv3, hb3⟩ := hv3
 have hl3 := Le.no M hb3
 have hC3 := hC2.no hb3
 obtain rfl := vbool_eq hv3
 refine lw_op Z Z Z (ow_not Z Z (lw_nil (ew_then ?_)))
 replace h := cond_some h
 rcases h with ⟨hc1, h⟩ | ⟨hc1, h⟩
 ·
  subst hc1
  refine cw_false Z (cw_skip (ew_then (cw_seq (cw_seq (cw_region (lw_op Z Z Z (ow_fieldAddr Z Z Tryd.underlying38 Z (Tryd.sizeOf3 _) (lw_op Z Z Z (ow_load (R := RInt) Z Z (ARep.mono (hl2.trans hl3) (hp1.fld fld_Rule_Action)) (Tryd.sizeOf3 _) (Tryd.isAgg3 _) fun v4 hv4 => ?_)))))))))
  obtain rfl := vint_eq hv4
  refine lw_op Z Z Z (ow_fieldAddr Z Z Tryd.underlying38 Z (Tryd.sizeOf3 _) (lw_op Z Z Z (ow_load (R := RInt) Z Z (ARep.mono hl3 (hp2.fld fld_Rule_Action)) (Tryd.sizeOf3 _) (Tryd.isAgg3 _) fun v5 hv5 => ?_)))
  obtain rfl := vint_eq hv5
  refine lw_op Z Z Z (ow_neqI Z Z Z fun bb1 hbb1 => lw_nil (ew_then ?_))
  replace h := cond_some h
  rcases h with ⟨hc2, h⟩ | ⟨hc2, h⟩
  ·
   obtain rfl := hbb1.trans hc2
   refine cw_true Z (cw_seq (cw_region (lw_op Z Z Z (ow_assign Z Z (lw_nil (ew_then (cw_ret (ew_thenR ?_))))))))
   obtain rfl := sj h
   exact ew_ret (res1 Z (.tmp Z)) ⟨_, Z, ((vbool _)), hC3.bx⟩
  ·
   obtain rfl := hbb1.trans hc2
   refine cw_false Z (cw_skip (ew_then (cw_seq (cw_seq (cw_region (lw_op Z Z Z (ow_fieldAddr Z Z Tryd.underlying38 Z (Tryd.sizeOf3 _) (lw_op Z Z Z (ow_load (R := RInt) Z Z (ARep.mono (hl2.trans hl3) (hp1.fld fld_Rule_Chain)) (Tryd.sizeOf3 _) (Tryd.isAgg3 _) fun v6 hv6 => ?_)))))))))
   obtain rfl := vint_eq hv6
   refine lw_op Z Z Z (ow_fieldAddr Z Z Tryd.underlying38 Z (Tryd.sizeOf3 _) (lw_op Z Z Z (ow_load (R := RInt) Z Z (ARep.mono hl3 (hp2.fld fld_Rule_Chain)) (Tryd.sizeOf3 _) (Tryd.isAgg3 _) fun v7 hv7 => ?_)))
   obtain rfl := vint_eq hv7
   refine lw_op Z Z Z (ow_neqI Z Z Z fun bb2 hbb2 => lw_nil (ew_then ?_))
   replace h := cond_some h
   rcases h with ⟨hc3, h⟩ | ⟨hc3, h⟩
   ·
    obtain rfl := hbb2.trans hc3
    refine cw_true Z (cw_seq (cw_region (lw_op Z Z Z (ow_assign Z Z (lw_nil (ew_then (cw_ret (ew_thenR ?_))))))))
    obtain rfl := sj h
    exact ew_ret (res1 Z (.tmp Z)) ⟨_, Z, ((vbool _)), hC3.bx⟩
   ·
    obtain rfl := hbb2.trans hc3
    refine cw_false Z (cw_skip (ew_then (cw_seq (cw_region (lw_op Z Z Z (ow_assign Z Z (lw_nil (ew_then (cw_ret ?_)))))))))
    obtain rfl := sj h
    exact ew_ret (res1 Z (.tmp Z)) ⟨_, Z, ((vbool _)), hC3.bx⟩
 ·
  subst hc1
  refine cw_true Z (cw_seq (cw_region (lw_op Z Z Z (ow_assign Z Z (lw_nil (ew_then (cw_ret (ew_thenR ?_))))))))
  obtain rfl := sj h
  exact ew_ret (res1 Z (.tmp Z)) ⟨_, Z, ((vbool _)), hC3.bx⟩

theorem w_laws_eqRuleS {w : World} {M : Nat → Prop} (hG : ARep (RArr 4 RShape) w M shapes ⟨0, 0, none⟩) (hO : ∀ b, M b → b < w.heap.size) {v0p : Value} {a_a : List Rule} (h0 : VRep (RSlice RRule) w M a_a v0p) {v1p : Value} {a_b : List Rule} (h1 : VRep (RSlice RRule) w M a_b v1p) {r : Bool} (h : F.laws_eqRuleS a_a a_b = some r) :
  Calls Tryd.prog 164 [v0p, v1p].toArray w fun e w' => ∃ v, e = .returned v ∧ VRep RBool w' M r v ∧ BX No w w' := by
 have hC : Cx No w M w M := Cx.start hO (fun _ e => e.elim)
 refine walk (N := 27) Tryd.func164 Z Tryd.ntmps164 Z (cw_seq (cw_region (lw_op Z Z Z (ow_assign Z Z (lw_nil (ew_then (cw_seq (cw_seq (cw_region (lw_op Z Z Z (ow_move Z Z (lw_op Z Z Z (ow_len Z Z h0 Tryd.underlying39 Z (lw_op Z Z Z (ow_move Z Z (lw_op Z Z Z (ow_len Z Z h1 Tryd.underlying39 Z (lw_op Z Z Z (ow_neqI Z Z Z fun bb1 hbb1 => lw_nil (ew_then ?_))))))))))))))))))))
 replace h := cond_some h
 rcases h with ⟨hc1, h⟩ | ⟨hc1, h⟩
 ·
  obtain rfl := hbb1.trans hc1
  refine cw_true Z (cw_seq (cw_region (lw_op Z Z Z (ow_assign Z Z (lw_nil (ew_then (cw_ret (ew_thenR ?_))))))))
  obtain rfl := sj h
  exact ew_ret (res1 Z (.tmp Z)) ⟨_, Z, ((vbool _)), hC.bx⟩
 ·
  obtain rfl := hbb1.trans hc1
  refine cw_false Z (cw_skip (ew_then (cw_seq (cw_seq (cw_region (lw_op Z Z Z (ow_assign Z Z (lw_nil (ew_then ?_)))))))))
  replace h := bind_some h
  obtain ⟨lr1, hlr1, h⟩ := h
  refine cw_for hlr1 (fun s a w' => ∃ (M' : Nat → Prop), Fits 27 [(0, v0p), (1, v1p), (5, (Zv s))] a ∧ Le w M w' M' ∧ Cx No w M w' M') ?_ ?_ ?_
  · exact fun a ha => ⟨M, ha.sub ⟨Z, Z, Z, Zt⟩, Le.refl _ _, hC⟩
  ·
   rintro k1 a w1 sr1 ⟨M1, hF1, hl1, hC1⟩ hb1 hR1
   refine cw_at (E := [(0, v0p), (1, v1p), (5, (Zv k1))]) hF1 (cw_seq (cw_seq (cw_region (lw_op Z Z Z (ow_move Z Z (lw_op Z Z Z (ow_move Z Z (lw_op Z Z Z (ow_len Z Z (VRep.mono hl1 h0) Tryd.underlying39 Z (lw_op Z Z Z (ow_lss Z Z Z fun bb2 hbb2 => lw_nil (ew_then ?_))))))))))))
   replace hb1 := cond_some hb1
   rcases hb1 with ⟨hc2, hb1⟩ | ⟨hc2, hb1⟩
   ·
    obtain rfl := hbb2.trans hc2
    refine cw_true Z (cw_skip (ew_then (cw_seq (cw_block (cw_seq ?_)))))
    replace hb1 := bind_some hb1
    obtain ⟨x1, hx1, hb1⟩ := hb1
    replace hb1 := bind_some hb1
    obtain ⟨x2, hx2, hb1⟩ := hb1
    refine cw_sub (E' := [(0, v0p), (1, v1p), (5, (Zv k1))]) ⟨Z, Z, Z, Zt⟩ (cw_drawQ 8 [PV (RSlice RRule) M1 a_a, PEq (Zv k1), PA RRule M1 x1, PV RRule M1 x1, PV (RSlice RRule) M1 a_b, PEq (Zv k1), PA RRule M1 x2, PV RRule M1 x2] (by kernel_rfl) Z (by kernel_rfl) ⟨PV.mono _ _ _, Zq, PA.mono _ _ _, PV.mono _ _ _, PV.mono _ _ _, Zq, PA.mono _ _ _, PV.mono _ _ _, Zt⟩ ⟨?_, ?_, ?_, ?_, ?_, ?_, ?_, ?_, Zt⟩ ?_)
    ·
     intro w2 D hS1 hd1
     have hl2 := Le.no M1 hS1
     exact dg_sub (E' := [(0, v0p)]) ⟨Z, Zt⟩ (dg_plain Z (ow_move Z Z ⟨BX.refl _ _, (VRep.mono (hl1.trans hl2) h0)⟩))
    · exact fun w3 D hS2 hd2 => dg_sub (E' := [(5, (Zv k1))]) ⟨Z, Zt⟩ (dg_plain Z (ow_move Z Z Zb))
    ·
     intro w4 D hS3 hd3
     have d1 : PV (RSlice RRule) M1 a_a (D 0) w4 := dpA hd3 0 Z
     generalize hq1 : (D 0) = v4 at d1
     exact dg_sub (E' := [(17, v4), (18, (Zv k1))]) ⟨congrArg some hq1, dpE hd3 1 Z Z, Zt⟩ (dg_plain Z (ow_indexSlice (R := RRule) Z Z Z d1 Tryd.underlying39 (Tryd.sizeOf38 _) hx1 fun p3 hp3 => ⟨BX.refl _ _, ⟨_, Z, hp3⟩⟩))
    ·
     intro w5 D hS4 hd4
     have d3 : PA RRule M1 x1 (D 2) w5 := dpA hd4 2 Z
     obtain ⟨p4, e1, ha1⟩ := d3
     exact dg_sub (E' := [(19, (.pointer (some p4)))]) ⟨congrArg some e1, Zt⟩ (dg_plain Z (ow_load (R := RRule) Z Z ha1 (Tryd.sizeOf38 _) (Tryd.isAgg38 _) fun v5 hv5 => ⟨BX.refl _ _, hv5⟩))
    ·
     intro w6 D hS5 hd5
     have hl6 := Le.no M1 hS5
     exact dg_sub (E' := [(1, v1p)]) ⟨Z, Zt⟩ (dg_plain Z (ow_move Z Z ⟨BX.refl _ _, (VRep.mono (hl1.trans hl6) h1)⟩))
    · exact fun w7 D hS6 hd6 => dg_sub (E' := [(5, (Zv k1))]) ⟨Z, Zt⟩ (dg_plain Z (ow_move Z Z Zb))
    ·
     intro w8 D hS7 hd7
     have d4 : PV (RSlice RRule) M1 a_b (D 4) w8 := dpA hd7 4 Z
     generalize hq2 : (D 4) = v6 at d4
     exact dg_sub (E' := [(21, v6), (22, (Zv k1))]) ⟨congrArg some hq2, dpE hd7 5 Z Z, Zt⟩ (dg_plain Z (ow_indexSlice (R := RRule) Z Z Z d4 Tryd.underlying39 (Tryd.sizeOf38 _) hx2 fun p5 hp5 => ⟨BX.refl _ _, ⟨_, Z, hp5⟩⟩))
    ·
     intro w9 D hS8 hd8
     have d6 : PA RRule M1 x2 (D 6) w9 := dpA hd8 6 Z
     obtain ⟨p6, e2, ha2⟩ := d6
     exact dg_sub (E' := [(23, (.pointer (some p6)))]) ⟨congrArg some e2, Zt⟩ (dg_plain Z (ow_load (R := RRule) Z Z ha2 (Tryd.sizeOf38 _) (Tryd.isAgg38 _) fun v7 hv7 => ⟨BX.refl _ _, hv7⟩))
    ·
     intro w10 D hS9 hd9
     have d10 : PV RRule M1 x1 (D 3) w10 := dpA hd9 3 Z
     have d14 : PV RRule M1 x2 (D 7) w10 := dpA hd9 7 Z
     have hl10 := Le.no M1 hS9
     have hC10 := hC1.no hS9
     generalize hq3 : (D 3) = v8 at d10
     generalize hq4 : (D 7) = v9 at d14
     refine lw_sub (E' := [(20, v8), (24, v9), (0, v0p), (1, v1p), (5, (Zv k1))]) ⟨congrArg some hq3, congrArg some hq4, Z, Z, Z, Zt⟩ ?_
     replace hb1 := bind_some hb1
     obtain ⟨x3, hx3, hb1⟩ := hb1
     refine lw_op Z Z Z (ow_call Z Z Tryd.call185 (w_laws_eqRule (hG.mono (hl1.trans hl10)) hC10.old d10 d14 hx3) fun v10 w11 hv10 => ?_)
     obtain ⟨hv10, hb2⟩ := hv10
     have hl11 := Le.no M1 hb2
     have hC11 := hC10.no hb2
     obtain rfl := vbool_eq hv10
     refine lw_op Z Z Z (ow_not Z Z (lw_nil (ew_then ?_)))
     replace hb1 := cond_some hb1
     rcases hb1 with ⟨hc3, hb1⟩ | ⟨hc3, hb1⟩
     ·
      subst hc3
      refine cw_false Z (cw_skip (ew_blockN (ew_then (cw_region (lw_op Z Z Z (ow_move Z Z (lw_op Z Z Z (ow_add Z Z Z (lw_op Z Z Z (ow_assign Z Z (lw_nil ?_)))))))))))
      have lz1 := ((hl1.trans hl10).trans hl11)
      exact ew_nxt (W (k1 + 1)) hb1 fun a ha => ⟨M1, (ha.sub ⟨Z, Z, Z, Zt⟩), lz1, hC11⟩
     ·
      subst hc3
      refine cw_true Z (cw_seq (cw_region (lw_op Z Z Z (ow_assign Z Z (lw_nil (ew_then (cw_ret (ew_blockR (ew_thenR (ew_thenR (ew_blockR (ew_brkR (ew_thenR ?_)))))))))))))
      have e3 := hR1 _ (sj hb1).symm
      subst e3
      obtain rfl := sj h
      exact ew_ret (res1 Z (.tmp Z)) ⟨_, Z, ((vbool _)), hC11.bx⟩
   ·
    obtain rfl := hbb2.trans hc2
    exact cw_false Z (cw_exit (ew_thenX (ew_thenX (ew_blockX (ew_brk k1 hb1 fun a ha => ⟨M1, (ha.sub ⟨Z, Z, Z, Zt⟩), hl1, hC1⟩)))))
  ·
   rintro k2 a w12 hlr2 ⟨M2, hF2, hl12, hC12⟩
   subst hlr2
   refine ew_at (E := [(0, v0p), (1, v1p), (5, (Zv k2))]) hF2 (ew_then (cw_seq (cw_region (lw_op Z Z Z (ow_assign Z Z (lw_nil (ew_then (cw_ret ?_))))))))
   obtain rfl := sj h
   exact ew_ret (res1 Z (.tmp Z)) ⟨_, Z, ((vbool _)), hC12.bx⟩

theorem w_laws_eqRuleSS {w : World} {M : Nat → Prop} (hG : ARep (RArr 4 RShape) w M shapes ⟨0, 0, none⟩) (hO : ∀ b, M b → b < w.heap.size) {v0p : Value} {a_a : List (List Rule)} (h0 : VRep (RSlice (RSlice RRule)) w M a_a v0p) {v1p : Value} {a_b : List (List Rule)} (h1 : VRep (RSlice (RSlice RRule)) w M a_b v1p) {r : Bool} (h : F.laws_eqRuleSS a_a a_b = some r) :
  Calls Tryd.prog 121 [v0p, v1p].toArray w fun e w' => ∃ v, e = .returned v ∧ VRep RBool w' M r v ∧ BX No w w' := by
 have hC : Cx No w M w M := Cx.start hO (fun _ e => e.elim)
 refine walk (N := 27) Tryd.func121 Z Tryd.ntmps121 Z (cw_seq (cw_region (lw_op Z Z Z (ow_assign Z Z (lw_nil (ew_then (cw_seq (cw_seq (cw_region (lw_op Z Z Z (ow_move Z Z (lw_op Z Z Z (ow_len Z Z h0 Tryd.underlying23 Z (lw_op Z Z Z (ow_move Z Z (lw_op Z Z Z (ow_len Z Z h1 Tryd.underlying23 Z (lw_op Z Z Z (ow_neqI Z Z Z fun bb1 hbb1 => lw_nil (ew_then ?_))))))))))))))))))))
 replace h := cond_some h
 rcases h with ⟨hc1, h⟩ | ⟨hc1, h⟩
 ·
  obtain rfl := hbb1.trans hc1
  refine cw_true Z (cw_seq (cw_region (lw_op Z Z Z (ow_assign Z Z (lw_nil (ew_then (cw_ret (ew_thenR ?_))))))))
  obtain rfl := sj h
  exact ew_ret (res1 Z (.tmp Z)) ⟨_, Z, ((vbool _)), hC.bx⟩
 ·
  obtain rfl := hbb1.trans hc1
  refine cw_false Z (cw_skip (ew_then (cw_seq (cw_seq (cw_region (lw_op Z Z Z (ow_assign Z Z (lw_nil (ew_then ?_)))))))))
  replace h := bind_some h
  obtain ⟨lr1, hlr1, h⟩ := h
  refine cw_for hlr1 (fun s a w' => ∃ (M' : Nat → Prop), Fits 27 [(0, v0p), (1, v1p), (5, (Zv s))] a ∧ Le w M w' M' ∧ Cx No w M w' M') ?_ ?_ ?_
  · exact fun a ha => ⟨M, ha.sub ⟨Z, Z, Z, Zt⟩, Le.refl _ _, hC⟩
  ·
   rintro k1 a w1 sr1 ⟨M1, hF1, hl1, hC1⟩ hb1 hR1
   refine cw_at (E := [(0, v0p), (1, v1p), (5, (Zv k1))]) hF1 (cw_seq (cw_seq (cw_region (lw_op Z Z Z (ow_move Z Z (lw_op Z Z Z (ow_move Z Z (lw_op Z Z Z (ow_len Z Z (VRep.mono hl1 h0) Tryd.underlying23 Z (lw_op Z Z Z (ow_lss Z Z Z fun bb2 hbb2 => lw_nil (ew_then ?_))))))))))))
   replace hb1 := cond_some hb1
   rcases hb1 with ⟨hc2, hb1⟩ | ⟨hc2, hb1⟩
   ·
    obtain rfl := hbb2.trans hc2
    refine cw_true Z (cw_skip (ew_then (cw_seq (cw_block (cw_seq ?_)))))
    replace hb1 := bind_some hb1
    obtain ⟨x1, hx1, hb1⟩ := hb1
    replace hb1 := bind_some hb1
    obtain ⟨x2, hx2, hb1⟩ := hb1
    refine cw_sub (E' := [(0, v0p), (1, v1p), (5, (Zv k1))]) ⟨Z, Z, Z, Zt⟩ (cw_drawQ 8 [PV (RSlice (RSlice RRule)) M1 a_a, PEq (Zv k1), PA (RSlice RRule) M1 x1, PV (RSlice RRule) M1 x1, PV (RSlice (RSlice RRule)) M1 a_b, PEq (Zv k1), PA (RSlice RRule) M1 x2, PV (RSlice RRule) M1 x2] (by kernel_rfl) Z (by kernel_rfl) ⟨PV.mono _ _ _, Zq, PA.mono _ _ _, PV.mono _ _ _, PV.mono _ _ _, Zq, PA.mono _ _ _, PV.mono _ _ _, Zt⟩ ⟨?_, ?_, ?_, ?_, ?_, ?_, ?_, ?_, Zt⟩ ?_)
    ·
     intro w2 D hS1 hd1
     have hl2 := Le.no M1 hS1
     exact dg_sub (E' := [(0, v0p)]) ⟨Z, Zt⟩ (dg_plain Z (ow_move Z Z ⟨BX.refl _ _, (VRep.mono (hl1.trans hl2) h0)⟩))
    · exact fun w3 D hS2 hd2 => dg_sub (E' := [(5, (Zv k1))]) ⟨Z, Zt⟩ (dg_plain Z (ow_move Z Z Zb))
    ·
     intro w4 D hS3 hd3
     have d1 : PV (RSlice (RSlice RRule)) M1 a_a (D 0) w4 := dpA hd3 0 Z
     generalize hq1 : (D 0) = v4 at d1
     exact dg_sub (E' := [(17, v4), (18, (Zv k1))]) ⟨congrArg some hq1, dpE hd3 1 Z Z, Zt⟩ (dg_plain Z (ow_indexSlice (R := (RSlice RRule)) Z Z Z d1 Tryd.underlying23 (Tryd.sizeOf39 _) hx1 fun p3 hp3 => ⟨BX.refl _ _, ⟨_, Z, hp3⟩⟩))
    ·
     intro w5 D hS4 hd4
     have d3 : PA (RSlice RRule) M1 x1 (D 2) w5 := dpA hd4 2 Z
     obtain ⟨p4, e1, ha1⟩ := d3
     exact dg_sub (E' := [(19, (.pointer (some p4)))]) ⟨congrArg some e1, Zt⟩ (dg_plain Z (ow_load (R := (RSlice RRule)) Z Z ha1 (Tryd.sizeOf39 _) (Tryd.isAgg39 _) fun v5 hv5 => ⟨BX.refl _ _, hv5⟩))
    ·
     intro w6 D hS5 hd5
     have hl6 := Le.no M1 hS5
     exact dg_sub (E' := [(1, v1p)]) ⟨Z, Zt⟩ (dg_plain Z (ow_move Z Z ⟨BX.refl _ _, (VRep.mono (hl1.trans hl6) h1)⟩))
    · exact fun w7 D hS6 hd6 => dg_sub (E' := [(5, (Zv k1))]) ⟨Z, Zt⟩ (dg_plain Z (ow_move Z Z Zb))
    ·
     intro w8 D hS7 hd7
     have d4 : PV (RSlice (RSlice RRule)) M1 a_b (D 4) w8 := dpA hd7 4 Z
     generalize hq2 : (D 4) = v6 at d4
     exact dg_sub (E' := [(21, v6), (22, (Zv k1))]) ⟨congrArg some hq2, dpE hd7 5 Z Z, Zt⟩ (dg_plain Z (ow_indexSlice (R := (RSlice RRule)) Z Z Z d4 Tryd.underlying23 (Tryd.sizeOf39 _) hx2 fun p5 hp5 => ⟨BX.refl _ _, ⟨_, Z, hp5⟩⟩))
    ·
     intro w9 D hS8 hd8
     have d6 : PA (RSlice RRule) M1 x2 (D 6) w9 := dpA hd8 6 Z
     obtain ⟨p6, e2, ha2⟩ := d6
     exact dg_sub (E' := [(23, (.pointer (some p6)))]) ⟨congrArg some e2, Zt⟩ (dg_plain Z (ow_load (R := (RSlice RRule)) Z Z ha2 (Tryd.sizeOf39 _) (Tryd.isAgg39 _) fun v7 hv7 => ⟨BX.refl _ _, hv7⟩))
    ·
     intro w10 D hS9 hd9
     have d10 : PV (RSlice RRule) M1 x1 (D 3) w10 := dpA hd9 3 Z
     have d14 : PV (RSlice RRule) M1 x2 (D 7) w10 := dpA hd9 7 Z
     have hl10 := Le.no M1 hS9
     have hC10 := hC1.no hS9
     generalize hq3 : (D 3) = v8 at d10
     generalize hq4 : (D 7) = v9 at d14
     refine lw_sub (E' := [(20, v8), (24, v9), (0, v0p), (1, v1p), (5, (Zv k1))]) ⟨congrArg some hq3, congrArg some hq4, Z, Z, Z, Zt⟩ ?_
     replace hb1 := bind_some hb1
     obtain ⟨x3, hx3, hb1⟩ := hb1
     refine lw_op Z Z Z (ow_call Z Z Tryd.call164 (w_laws_eqRuleS (hG.mono (hl1.trans hl10)) hC10.old d10 d14 hx3) fun v10 w11 hv10 => ?_)
     obtain ⟨hv10, hb2⟩ := hv10
     have hl11 := Le.no M1 hb2
     have hC11 := hC10.no hb2
     obtain rfl := vbool_eq hv10
     refine lw_op Z Z Z (ow_not Z Z (lw_nil (ew_then ?_)))
     replace hb1 := cond_some hb1
     rcases hb1 with ⟨hc3, hb1⟩ | ⟨hc3, hb1⟩
     ·
      subst hc3
      refine cw_false Z (cw_skip (ew_blockN (ew_then (cw_region (lw_op Z Z Z (ow_move Z Z (lw_op Z Z Z (ow_add Z Z Z (lw_op Z Z Z (ow_assign Z Z (lw_nil ?_)))))))))))
      have lz1 := ((hl1.trans hl10).trans hl11)
      exact ew_nxt (W (k1 + 1)) hb1 fun a ha => ⟨M1, (ha.sub ⟨Z, Z, Z, Zt⟩), lz1, hC11⟩
     ·
      subst hc3
      refine cw_true Z (cw_seq (cw_region (lw_op Z Z Z (ow_assign Z Z (lw_nil (ew_then (cw_ret (ew_blockR (ew_thenR (ew_thenR (ew_blockR (ew_brkR (ew_thenR ?_)))))))))))))
      have e3 := hR1 _ (sj hb1).symm
      subst e3
      obtain rfl := sj h
      exact ew_ret (res1 Z (.tmp Z)) ⟨_, Z, ((vbool _)), hC11.bx⟩
   ·
    obtain rfl := hbb2.trans hc2
    exact cw_false Z (cw_exit (ew_thenX (ew_thenX (ew_blockX (ew_brk k1 hb1 fun a ha => ⟨M1, (ha.sub ⟨Z, Z, Z, Zt⟩), hl1, hC1⟩)))))
  ·
   rintro k2 a w12 hlr2 ⟨M2, hF2, hl12, hC12⟩
   subst hlr2
   refine ew_at (E := [(0, v0p), (1, v1p), (5, (Zv k2))]) hF2 (ew_then (cw_seq (cw_region (lw_op Z Z Z (ow_assign Z Z (lw_nil (ew_then (cw_ret ?_))))))))
   obtain rfl := sj h
   exact ew_ret (res1 Z (.tmp Z)) ⟨_, Z, ((vbool _)), hC12.bx⟩

theorem w_laws_eqRuleset {w : World} {M : Nat → Prop} (hG : ARep (RArr 4 RShape) w M shapes ⟨0, 0, none⟩) (hO : ∀ b, M b → b < w.heap.size) {v0p : Value} {a_a : Ruleset} (h0 : VRep RRuleset w M a_a v0p) {v1p : Value} {a_b : Ruleset} (h1 : VRep RRuleset w M a_b v1p) {r : Bool} (h : F.laws_eqRuleset a_a a_b = some r) :
  Calls Tryd.prog 51 [v0p, v1p].toArray w fun e w' => ∃ v, e = .returned v ∧ VRep RBool w' M r v ∧ BX No w w' := by
 have hC : Cx No w M w M := Cx.start hO (fun _ e => e.elim)
 refine walk (N := 16) Tryd.func51 Z Tryd.ntmps51 Z (cw_seq (cw_region (lw_op Z Z Z (ow_box (R := RRuleset) Z Z h0 hC fun p1 w1 hp1 hb1 hl1 hC1 => lw_op Z Z Z (ow_box (R := RRuleset) Z Z (VRep.mono hl1 h1) hC1 fun p2 w2 hp2 hb2 hl2 hC2 => lw_op Z Z Z (ow_assign Z Z (lw_nil (ew_then (cw_seq (cw_seq (cw_region (lw_op Z Z Z (ow_fieldAddr Z Z Tryd.underlying25 Z (Tryd.sizeOf23 _) (lw_op Z Z Z (ow_load (R := (RSlice (RSlice RRule))) Z Z (ARep.mono hl2 (hp1.fld fld_Ruleset_Chains)) (Tryd.sizeOf23 _) (Tryd.isAgg23 _) fun v1 hv1 => lw_op Z Z Z (ow_fieldAddr Z Z Tryd.underlying25 Z (Tryd.sizeOf23 _) (lw_op Z Z Z (ow_load (R := (RSlice (RSlice RRule))) Z Z (hp2.fld fld_Ruleset_Chains) (Tryd.sizeOf23 _) (Tryd.isAgg23 _) fun v2 hv2 => ?_))))))))))))))))))
 replace h := bind_some h
 obtain ⟨x1, hx1, h⟩ := h
 refine lw_op Z Z Z (ow_call Z Z Tryd.call121 (w_laws_eqRuleSS (hG.mono (hl1.trans hl2)) hC2.old hv1 hv2 hx1) fun v3 w3 hv3 => ?_)
 obtain ⟨hv3, hb3⟩ := hv3
 have hl3 := Le.no M hb3
 have hC3 := hC2.no hb3
 obtain rfl := vbool_eq hv3
 refine lw_op Z Z Z (ow_not Z Z (lw_nil (ew_then ?_)))
 replace h := cond_some h
 rcases h with ⟨hc1, h⟩ | ⟨hc1, h⟩
 ·
  subst hc1
  refine cw_false Z (cw_skip (ew_then (cw_seq (cw_seq (cw_region (lw_op Z Z Z (ow_fieldAddr Z Z Tryd.underlying25 Z (Tryd.sizeOf4 _) (lw_op Z Z Z (ow_load (R := RBool) Z Z (ARep.mono (hl2.trans hl3) (hp1.fld fld_Ruleset_Accept)) (Tryd.sizeOf4 _) (Tryd.isAgg4 _) fun v4 hv4 => ?_)))))))))
  obtain ⟨bb1, hbb1, rfl⟩ := vbool_ex hv4
  refine lw_op Z Z Z (ow_fieldAddr Z Z Tryd.underlying25 Z (Tryd.sizeOf4 _) (lw_op Z Z Z (ow_load (R := RBool) Z Z (ARep.mono hl3 (hp2.fld fld_Ruleset_Accept)) (Tryd.sizeOf4 _) (Tryd.isAgg4 _) fun v5 hv5 => ?_)))
  obtain ⟨bb2, hbb2, rfl⟩ := vbool_ex hv5
  refine lw_op Z Z Z (ow_neqB Z Z Z Tryd.underlying4 fun bb3 hbb3 => ?_)
  have hbb3' : bb3 = (a_a.Accept != a_b.Accept) := hbb3.trans (by rw [hbb1, hbb2])
  refine lw_nil (ew_then ?_)
  replace h := cond_some h
  rcases h with ⟨hc2, h⟩ | ⟨hc2, h⟩
  ·
   obtain rfl := hbb3'.trans hc2
   refine cw_true Z (cw_seq (cw_region (lw_op Z Z Z (ow_assign Z Z (lw_nil (ew_then (cw_ret (ew_thenR ?_))))))))
   obtain rfl := sj h
   exact ew_ret (res1 Z (.tmp Z)) ⟨_, Z, ((vbool _)), hC3.bx⟩
  ·
   obtain rfl := hbb3'.trans hc2
   refine cw_false Z (cw_skip (ew_then (cw_seq (cw_region (lw_op Z Z Z (ow_assign Z Z (lw_nil (ew_then (cw_ret ?_)))))))))
   obtain rfl := sj h
   exact ew_ret (res1 Z (.tmp Z)) ⟨_, Z, ((vbool _)), hC3.bx⟩
 ·
  subst hc1
  refine cw_true Z (cw_seq (cw_region (lw_op Z Z Z (ow_assign Z Z (lw_nil (ew_then (cw_ret (ew_thenR ?_))))))))
  obtain rfl := sj h
  exact ew_ret (res1 Z (.tmp Z)) ⟨_, Z, ((vbool _)), hC3.bx⟩

theorem wm_laws_markTestS {Y : Nat → Prop} {w : World} (hU : UFz Y w) {v0p : Value} {a_a : List Test} (h0 : VRep (RSlice RTestA) w (NotY Y) a_a v0p) {a_k : Int} {r : Int} (h : F.laws_markTestS a_a a_k = some r) :
  Calls Tryd.prog 28 [v0p, (.int .i64 a_k)].toArray w fun e w' => ∃ v, e = .returned v ∧ v = .int .i64 r ∧ MK Y w w' := by
 have hO : ∀ b, Y b → b < w.heap.size := fun b h => (hU b h).1
 have hC : Cx Y w Y w Y := Cx.start hO (fun _ h => h)
 refine walk (N := 43) Tryd.func28 Z Tryd.ntmps28 Z (cw_seq (cw_region (lw_op Z Z Z (ow_assign Z Z (lw_nil (ew_then (cw_seq (cw_seq (cw_region (lw_op Z Z Z (ow_assign Z Z (lw_nil (ew_then ?_)))))))))))))
 replace h := bind_some h
 obtain ⟨lr1, hlr1, h⟩ := h
 refine cw_for hlr1 (fun s a w' => ∃ (M' : Nat → Prop), Fits 43 [(0, v0p), (1, (Zv s.1)), (5, (Zv s.2))] a ∧ Le w Y w' M' ∧ Cx Y w Y w' M' ∧ MK Y w w') ?_ ?_ ?_
 · exact fun a ha => ⟨Y, ha.sub ⟨Z, Z, Z, Zt⟩, Le.refl _ _, hC, (MK.refl _ _)⟩
 ·
  rintro ⟨k1, k2⟩ a w1 sr1 ⟨M1, hF1, hl1, hC1, hmk1⟩ hb1 hR1
  refine cw_at (E := [(0, v0p), (1, (Zv k1)), (5, (Zv k2))]) hF1 (cw_seq (cw_seq (cw_region (lw_op Z Z Z (ow_move Z Z (lw_op Z Z Z (ow_move Z Z (lw_op Z Z Z (ow_len Z Z (KnA.vrep (KnA.slice knA_Test) hmk1.kin h0) Tryd.underlying36 Z (lw_op Z Z Z (ow_lss Z Z Z fun bb1 hbb1 => lw_nil (ew_then ?_))))))))))))
  replace hb1 := cond_some hb1
  rcases hb1 with ⟨hc1, hb1⟩ | ⟨hc1, hb1⟩
  ·
   obtain rfl := hbb1.trans hc1
   refine cw_true Z (cw_skip (ew_then (cw_seq (cw_block (cw_seq (cw_region (lw_op Z Z Z (ow_move Z Z (lw_op Z Z Z (ow_move Z Z (lw_op Z Z Z (ow_move Z Z ?_))))))))))))
   replace hb1 := bind_some hb1
   obtain ⟨x1, hx1, hb1⟩ := hb1
   refine lw_op Z Z Z (ow_indexSlice (R := RTestA) Z Z Z (KnA.vrep (KnA.slice knA_Test) hmk1.kin h0) Tryd.underlying36 (Tryd.sizeOf128 _) hx1 fun p1 hp1 => lw_op Z Z Z (ow_fieldAddr Z Z Tryd.underlying128 Z (Tryd.sizeOf3 _) (lw_op0 Z Z (ow_storeK (R := RIntA) Z Z Z (hp1.fld fldA_Test_Field) Z kd_int Z Z (Tryd.sizeOf3 _) (hU.mk hmk1) fun w2 hmk2 => ?_))))
   have hl2 := Le.of_bx M1 hmk2.bx hC1.xm
   have hC2 := hC1.go hmk2.bx (fun b e => .inr e)
   refine lw_nil (ew_then (cw_seq (cw_region (lw_op Z Z Z (ow_move Z Z (lw_op Z Z Z (ow_add Z Z Z (lw_op Z Z Z (ow_assign Z Z (lw_nil (ew_then (cw_seq (cw_region (lw_op Z Z Z (ow_move Z Z (lw_op Z Z Z (ow_move Z Z (lw_op Z Z Z (ow_move Z Z (lw_op Z Z Z (ow_indexSlice (R := RTestA) Z Z Z (KnA.vrep (KnA.slice knA_Test) (hmk1.trans hmk2).kin h0) Tryd.underlying36 (Tryd.sizeOf128 _) hx1 fun p2 hp2 => lw_op Z Z Z (ow_fieldAddr Z Z Tryd.underlying128 Z (Tryd.sizeOf3 _) (lw_op0 Z Z (ow_storeK (R := RIntA) Z Z Z (hp2.fld fldA_Test_Lo) Z kd_int Z Z (Tryd.sizeOf3 _) (hU.mk (hmk1.trans hmk2)) fun w3 hmk3 => ?_))))))))))))))))))))))))
   have hl3 := Le.of_bx M1 hmk3.bx hC2.xm
   have hC3 := hC2.go hmk3.bx (fun b e => .inr e)
   refine lw_nil (ew_then (cw_seq (cw_region (lw_op Z Z Z (ow_move Z Z (lw_op Z Z Z (ow_add Z Z Z (lw_op Z Z Z (ow_assign Z Z (lw_nil (ew_then (cw_seq (cw_region (lw_op Z Z Z (ow_move Z Z (lw_op Z Z Z (ow_move Z Z (lw_op Z Z Z (ow_move Z Z (lw_op Z Z Z (ow_indexSlice (R := RTestA) Z Z Z (KnA.vrep (KnA.slice knA_Test) ((hmk1.trans hmk2).trans hmk3).kin h0) Tryd.underlying36 (Tryd.sizeOf128 _) hx1 fun p3 hp3 => lw_op Z Z Z (ow_fieldAddr Z Z Tryd.underlying128 Z (Tryd.sizeOf3 _) (lw_op0 Z Z (ow_storeK (R := RIntA) Z Z Z (hp3.fld fldA_Test_Hi) Z kd_int Z Z (Tryd.sizeOf3 _) (hU.mk ((hmk1.trans hmk2).trans hmk3)) fun w4 hmk4 => ?_))))))))))))))))))))))))
   have hl4 := Le.of_bx M1 hmk4.bx hC3.xm
   have hC4 := hC3.go hmk4.bx (fun b e => .inr e)
   refine lw_nil (ew_then (cw_seq (cw_region (lw_op Z Z Z (ow_move Z Z (lw_op Z Z Z (ow_add Z Z Z (lw_op Z Z Z (ow_assign Z Z (lw_nil (ew_then (cw_seq (cw_region (lw_op Z Z Z (ow_move Z Z (lw_op Z Z Z (ow_move Z Z (lw_op Z Z Z (ow_move Z Z (lw_op Z Z Z (ow_rem Z Z Z (by decide) (lw_op Z Z Z (ow_eqlI Z Z Z fun bb2 hbb2 => lw_op Z Z Z (ow_indexSlice (R := RTestA) Z Z Z (KnA.vrep (KnA.slice knA_Test) (((hmk1.trans hmk2).trans hmk3).trans hmk4).kin h0) Tryd.underlying36 (Tryd.sizeOf128 _) hx1 fun p4 hp4 => lw_op Z Z Z (ow_fieldAddr Z Z Tryd.underlying128 Z (Tryd.sizeOf4 _) (lw_op0 Z Z (ow_storeK (R := RBoolA) Z Z Z (hp4.fld fldA_Test_Not) Z kd_bool Z Z (Tryd.sizeOf4 _) (hU.mk (((hmk1.trans hmk2).trans hmk3).trans hmk4)) fun w5 hmk5 => ?_)))))))))))))))))))))))))))
   have hl5 := Le.of_bx M1 hmk5.bx hC4.xm
   have hC5 := hC4.go hmk5.bx (fun b e => .inr e)
   refine lw_nil (ew_then (cw_region (lw_op Z Z Z (ow_move Z Z (lw_op Z Z Z (ow_add Z Z Z (lw_op Z Z Z (ow_assign Z Z (lw_nil (ew_blockN (ew_then (cw_region (lw_op Z Z Z (ow_move Z Z (lw_op Z Z Z (ow_add Z Z Z (lw_op Z Z Z (ow_assign Z Z (lw_nil ?_)))))))))))))))))))
   have lz1 := ((((hl1.trans hl2).trans hl3).trans hl4).trans hl5)
   exact ew_nxt ((W ((W ((W ((W (k1 + 1)) + 1)) + 1)) + 1)), (W (k2 + 1))) hb1 fun a ha => ⟨M1, (ha.sub ⟨Z, Z, Z, Zt⟩), lz1, hC5, ((((hmk1.trans hmk2).trans hmk3).trans hmk4).trans hmk5)⟩
  ·
   obtain rfl := hbb1.trans hc1
   exact cw_false Z (cw_exit (ew_thenX (ew_thenX (ew_blockX (ew_brk (k1, k2) hb1 fun a ha => ⟨M1, (ha.sub ⟨Z, Z, Z, Zt⟩), hl1, hC1, hmk1⟩)))))
 ·
  rintro ⟨k3, k4⟩ a w6 hlr2 ⟨M2, hF2, hl6, hC6, hmk6⟩
  subst hlr2
  refine ew_at (E := [(0, v0p), (1, (Zv k3)), (5, (Zv k4))]) hF2 (ew_then (cw_seq (cw_region (lw_op Z Z Z (ow_move Z Z (lw_op Z Z Z (ow_assign Z Z (lw_nil (ew_then (cw_ret ?_))))))))))
  obtain rfl := sj h
  exact ew_ret (res1 Z (.tmp Z)) ⟨_, Z, Z, hmk6⟩

theorem wm_laws_markRuleS {Y : Nat → Prop} {w : World} (hU : UFz Y w) {v0p : Value} {a_a : List Rule} (h0 : VRep (RSlice RRuleA) w (NotY Y) a_a v0p) {a_k : Int} {r : Int} (h : F.laws_markRuleS a_a a_k = some r) :
  Calls Tryd.prog 165 [v0p, (.int .i64 a_k)].toArray w fun e w' => ∃ v, e = .returned v ∧ v = .int .i64 r ∧ MK Y w w' := by
 have hO : ∀ b, Y b → b < w.heap.size := fun b h => (hU b h).1
 have hC : Cx Y w Y w Y := Cx.start hO (fun _ h => h)
 refine walk (N := 34) Tryd.func165 Z Tryd.ntmps165 Z (cw_seq (cw_region (lw_op Z Z Z (ow_assign Z Z (lw_nil (ew_then (cw_seq (cw_seq (cw_region (lw_op Z Z Z (ow_assign Z Z (lw_nil (ew_then ?_)))))))))))))
 replace h := bind_some h
 obtain ⟨lr1, hlr1, h⟩ := h
 refine cw_for hlr1 (fun s a w' => ∃ (M' : Nat → Prop), Fits 34 [(0, v0p), (1, (Zv s.1)), (5, (Zv s.2))] a ∧ Le w Y w' M' ∧ Cx Y w Y w' M' ∧ MK Y w w') ?_ ?_ ?_
 · exact fun a ha => ⟨Y, ha.sub ⟨Z, Z, Z, Zt⟩, Le.refl _ _, hC, (MK.refl _ _)⟩
 ·
  rintro ⟨k1, k2⟩ a w1 sr1 ⟨M1, hF1, hl1, hC1, hmk1⟩ hb1 hR1
  refine cw_at (E := [(0, v0p), (1, (Zv k1)), (5, (Zv k2))]) hF1 (cw_seq (cw_seq (cw_region (lw_op Z Z Z (ow_move Z Z (lw_op Z Z Z (ow_move Z Z (lw_op Z Z Z (ow_len Z Z (KnA.vrep (KnA.slice knA_Rule) hmk1.kin h0) Tryd.underlying39 Z (lw_op Z Z Z (ow_lss Z Z Z fun bb1 hbb1 => lw_nil (ew_then ?_))))))))))))
  replace hb1 := cond_some hb1
  rcases hb1 with ⟨hc1, hb1⟩ | ⟨hc1, hb1⟩
  ·
   obtain rfl := hbb1.trans hc1
   refine cw_true Z (cw_skip (ew_then (cw_seq (cw_block (cw_seq (cw_region (lw_op Z Z Z (ow_move Z Z (lw_op Z Z Z (ow_move Z Z ?_))))))))))
   replace hb1 := bind_some hb1
   obtain ⟨x1, hx1, hb1⟩ := hb1
   refine lw_op Z Z Z (ow_indexSlice (R := RRuleA) Z Z Z (KnA.vrep (KnA.slice knA_Rule) hmk1.kin h0) Tryd.underlying39 (Tryd.sizeOf38 _) hx1 fun p1 hp1 => lw_op Z Z Z (ow_fieldAddr Z Z Tryd.underlying38 Z (Tryd.sizeOf36 _) (lw_op Z Z Z (ow_load (R := (RSlice RTestA)) Z Z (hp1.fld fldA_Rule_Tests) (Tryd.sizeOf36 _) (Tryd.isAgg36 _) fun v3 hv3 => lw_op Z Z Z (ow_move Z Z ?_)))))
   replace hb1 := bind_some hb1
   obtain ⟨x2, hx2, hb1⟩ := hb1
   refine lw_op Z Z Z (ow_call Z Z Tryd.call28 (wm_laws_markTestS (hU.mk hmk1) hv3 hx2) fun v4 w2 hv4 => ?_)
   obtain ⟨rfl, hmk2⟩ := hv4
   have hl2 := Le.of_bx M1 hmk2.bx hC1.xm
   have hC2 := hC1.go hmk2.bx (fun b e => .inr e)
   refine lw_op Z Z Z (ow_assign Z Z (lw_nil (ew_then (cw_seq (cw_region (lw_op Z Z Z (ow_move Z Z (lw_op Z Z Z (ow_move Z Z (lw_op Z Z Z (ow_move Z Z (lw_op Z Z Z (ow_indexSlice (R := RRuleA) Z Z Z (KnA.vrep (KnA.slice knA_Rule) (hmk1.trans hmk2).kin h0) Tryd.underlying39 (Tryd.sizeOf38 _) hx1 fun p2 hp2 => lw_op Z Z Z (ow_fieldAddr Z Z Tryd.underlying38 Z (Tryd.sizeOf3 _) (lw_op0 Z Z (ow_storeK (R := RIntA) Z Z Z (hp2.fld fldA_Rule_Action) Z kd_int Z Z (Tryd.sizeOf3 _) (hU.mk (hmk1.trans hmk2)) fun w3 hmk3 => ?_))))))))))))))))
   have hl3 := Le.of_bx M1 hmk3.bx hC2.xm
   have hC3 := hC2.go hmk3.bx (fun b e => .inr e)
   refine lw_nil (ew_then (cw_seq (cw_region (lw_op Z Z Z (ow_move Z Z (lw_op Z Z Z (ow_add Z Z Z (lw_op Z Z Z (ow_assign Z Z (lw_nil (ew_then (cw_seq (cw_region (lw_op Z Z Z (ow_move Z Z (lw_op Z Z Z (ow_move Z Z (lw_op Z Z Z (ow_move Z Z (lw_op Z Z Z (ow_indexSlice (R := RRuleA) Z Z Z (KnA.vrep (KnA.slice knA_Rule) ((hmk1.trans hmk2).trans hmk3).kin h0) Tryd.underlying39 (Tryd.sizeOf38 _) hx1 fun p3 hp3 => lw_op Z Z Z (ow_fieldAddr Z Z Tryd.underlying38 Z (Tryd.sizeOf3 _) (lw_op0 Z Z (ow_storeK (R := RIntA) Z Z Z (hp3.fld fldA_Rule_Chain) Z kd_int Z Z (Tryd.sizeOf3 _) (hU.mk ((hmk1.trans hmk2).trans hmk3)) fun w4 hmk4 => ?_))))))))))))))))))))))))
   have hl4 := Le.of_bx M1 hmk4.bx hC3.xm
   have hC4 := hC3.go hmk4.bx (fun b e => .inr e)
   refine lw_nil (ew_then (cw_region (lw_op Z Z Z (ow_move Z Z (lw_op Z Z Z (ow_add Z Z Z (lw_op Z Z Z (ow_assign Z Z (lw_nil (ew_blockN (ew_then (cw_region (lw_op Z Z Z (ow_move Z Z (lw_op Z Z Z (ow_add Z Z Z (lw_op Z Z Z (ow_assign Z Z (lw_nil ?_)))))))))))))))))))
   have lz1 := (((hl1.trans hl2).trans hl3).trans hl4)
   exact ew_nxt ((W ((W (x2 + 1)) + 1)), (W (k2 + 1))) hb1 fun a ha => ⟨M1, (ha.sub ⟨Z, Z, Z, Zt⟩), lz1, hC4, (((hmk1.trans hmk2).trans hmk3).trans hmk4)⟩
  ·
   obtain rfl := hbb1.trans hc1
   exact cw_false Z (cw_exit (ew_thenX (ew_thenX (ew_blockX (ew_brk (k1, k2) hb1 fun a ha => ⟨M1, (ha.sub ⟨Z, Z, Z, Zt⟩), hl1, hC1, hmk1⟩)))))
 ·
  rintro ⟨k3, k4⟩ a w5 hlr2 ⟨M2, hF2, hl5, hC5, hmk5⟩
  subst hlr2
  refine ew_at (E := [(0, v0p), (1, (Zv k3)), (5, (Zv k4))]) hF2 (ew_then (cw_seq (cw_region (lw_op Z Z Z (ow_move Z Z (lw_op Z Z Z (ow_assign Z Z (lw_nil (ew_then (cw_ret ?_))))))))))
  obtain rfl := sj h
  exact ew_ret (res1 Z (.tmp Z)) ⟨_, Z, Z, hmk5⟩

theorem wm_laws_markRuleSS {Y : Nat → Prop} {w : World} (hU : UFz Y w) {v0p : Value} {a_a : List (List Rule)} (h0 : VRep (RSlice (RSlice RRuleA)) w (NotY Y) a_a v0p) {a_k : Int} {r : Int} (h : F.laws_markRuleSS a_a a_k = some r) :
  Calls Tryd.prog 122 [v0p, (.int .i64 a_k)].toArray w fun e w' => ∃ v, e = .returned v ∧ v = .int .i64 r ∧ MK Y w w' := by
 have hO : ∀ b, Y b → b < w.heap.size := fun b h => (hU b h).1
 have hC : Cx Y w Y w Y := Cx.start hO (fun _ h => h)
 refine walk (N := 19) Tryd.func122 Z Tryd.ntmps122 Z (cw_seq (cw_region (lw_op Z Z Z (ow_assign Z Z (lw_nil (ew_then (cw_seq (cw_seq (cw_region (lw_op Z Z Z (ow_assign Z Z (lw_nil (ew_then ?_)))))))))))))
 replace h := bind_some h
 obtain ⟨lr1, hlr1, h⟩ := h
 refine cw_for hlr1 (fun s a w' => ∃ (M' : Nat → Prop), Fits 19 [(0, v0p), (1, (Zv s.1)), (5, (Zv s.2))] a ∧ Le w Y w' M' ∧ Cx Y w Y w' M' ∧ MK Y w w') ?_ ?_ ?_
 · exact fun a ha => ⟨Y, ha.sub ⟨Z, Z, Z, Zt⟩, Le.refl _ _, hC, (MK.refl _ _)⟩
 ·
  rintro ⟨k1, k2⟩ a w1 sr1 ⟨M1, hF1, hl1, hC1, hmk1⟩ hb1 hR1
  refine cw_at (E := [(0, v0p), (1, (Zv k1)), (5, (Zv k2))]) hF1 (cw_seq (cw_seq (cw_region (lw_op Z Z Z (ow_move Z Z (lw_op Z Z Z (ow_move Z Z (lw_op Z Z Z (ow_len Z Z (KnA.vrep (KnA.slice (KnA.slice knA_Rule)) hmk1.kin h0) Tryd.underlying23 Z (lw_op Z Z Z (ow_lss Z Z Z fun bb1 hbb1 => lw_nil (ew_then ?_))))))))))))
  replace hb1 := cond_some hb1
  rcases hb1 with ⟨hc1, hb1⟩ | ⟨hc1, hb1⟩
  ·
   obtain rfl := hbb1.trans hc1
   refine cw_true Z (cw_skip (ew_then (cw_seq (cw_block (cw_region (lw_op Z Z Z (ow_move Z Z (lw_op Z Z Z (ow_move Z Z ?_)))))))))
   replace hb1 := bind_some hb1
   obtain ⟨x1, hx1, hb1⟩ := hb1
   refine lw_op Z Z Z (ow_indexSlice (R := (RSlice RRuleA)) Z Z Z (KnA.vrep (KnA.slice (KnA.slice knA_Rule)) hmk1.kin h0) Tryd.underlying23 (Tryd.sizeOf39 _) hx1 fun p1 hp1 => lw_op Z Z Z (ow_load (R := (RSlice RRuleA)) Z Z hp1 (Tryd.sizeOf39 _) (Tryd.isAgg39 _) fun v3 hv3 => lw_op Z Z Z (ow_move Z Z ?_)))
   replace hb1 := bind_some hb1
   obtain ⟨x2, hx2, hb1⟩ := hb1
   refine lw_op Z Z Z (ow_call Z Z Tryd.call165 (wm_laws_markRuleS (hU.mk hmk1) hv3 hx2) fun v4 w2 hv4 => ?_)
   obtain ⟨rfl, hmk2⟩ := hv4
   have hl2 := Le.of_bx M1 hmk2.bx hC1.xm
   have hC2 := hC1.go hmk2.bx (fun b e => .inr e)
   exact lw_op Z Z Z (ow_assign Z Z (lw_nil (ew_blockN (ew_then (cw_region (lw_op Z Z Z (ow_move Z Z (lw_op Z Z Z (ow_add Z Z Z (lw_op Z Z Z (ow_assign Z Z (lw_nil (ew_nxt (x2, (W (k2 + 1))) hb1 fun a ha => ⟨M1, (ha.sub ⟨Z, Z, Z, Zt⟩), (hl1.trans hl2), hC2, (hmk1.trans hmk2)⟩)))))))))))))
  ·
   obtain rfl := hbb1.trans hc1
   exact cw_false Z (cw_exit (ew_thenX (ew_thenX (ew_blockX (ew_brk (k1, k2) hb1 fun a ha => ⟨M1, (ha.sub ⟨Z, Z, Z, Zt⟩), hl1, hC1, hmk1⟩)))))
 ·
  rintro ⟨k3, k4⟩ a w3 hlr2 ⟨M2, hF2, hl3, hC3, hmk3⟩
  subst hlr2
  refine ew_at (E := [(0, v0p), (1, (Zv k3)), (5, (Zv k4))]) hF2 (ew_then (cw_seq (cw_region (lw_op Z Z Z (ow_move Z Z (lw_op Z Z Z (ow_assign Z Z (lw_nil (ew_then (cw_ret ?_))))))))))
  obtain rfl := sj h
  exact ew_ret (res1 Z (.tmp Z)) ⟨_, Z, Z, hmk3⟩

theorem wm_laws_markRuleset {Y : Nat → Prop} {w : World} (hU : UFz Y w) {v0p : Value} {a_a : Ruleset} (h0 : VRep RRulesetA w (NotY Y) a_a v0p) {a_k : Int} {r : Int} (h : F.laws_markRuleset a_a a_k = some r) :
  Calls Tryd.prog 52 [v0p, (.int .i64 a_k)].toArray w fun e w' => ∃ v, e = .returned v ∧ v = .int .i64 r ∧ MK Y w w' := by
 have hO : ∀ b, Y b → b < w.heap.size := fun b h => (hU b h).1
 have hC : Cx Y w Y w Y := Cx.start hO (fun _ h => h)
 refine walk (N := 10) Tryd.func52 Z Tryd.ntmps52 Z (cw_seq (cw_region ?_))
 obtain ⟨A1, c1, bb1, rfl, hw1⟩ := openA_Ruleset h0
 refine lw_op Z Z Z (ow_boxOwn Z Z hC fun g1 w1 hg1 hg2 ho1 hb1 hl1 hC1 => lw_op Z Z Z (ow_assign Z Z (lw_nil (ew_then (cw_seq (cw_region (lw_op Z Z Z (ow_fieldAddr Z Z Tryd.underlying25 Z (Tryd.sizeOf23 _) (lw_op Z Z Z (ow_loadOwn1 Z Z Z ho1 (Tryd.isAgg23 _) Z (lw_op Z Z Z (ow_move Z Z ?_))))))))))))
 replace h := bind_some h
 obtain ⟨x1, hx1, h⟩ := h
 refine lw_op Z Z Z (ow_call Z Z Tryd.call122 (wm_laws_markRuleSS (hU.mk (MK.no (Y := Y) hb1)) (KnA.vrep (KnA.slice (KnA.slice knA_Rule)) (MK.no (Y := Y) hb1).kin hw1) hx1) fun v1 w2 hv1 => ?_)
 obtain ⟨rfl, hmk1⟩ := hv1
 refine lw_op Z Z Z (ow_assign Z Z (lw_nil (ew_then (cw_seq (cw_region (lw_op Z Z Z (ow_move Z Z (lw_op Z Z Z (ow_assign Z Z (lw_nil (ew_then (cw_ret ?_))))))))))))
 obtain rfl := sj h
 exact ew_ret (res1 Z (.tmp Z)) ⟨_, Z, Z, ((MK.no (Y := Y) hb1).trans hmk1)⟩

theorem w_spec_l1In {w : World} {M : Nat → Prop} (_hG : ARep (RArr 4 RShape) w M shapes ⟨0, 0, none⟩) (hO : ∀ b, M b → b < w.heap.size) {a_n : Int} {a_lo : Int} {a_hi : Int} {r : Bool} (h : F.spec_l1In a_n a_lo a_hi = some r) :
  Calls Tryd.prog 118 [(.int .i64 a_n), (.int .i64 a_lo), (.int .i64 a_hi)].toArray w fun e w' => ∃ v, e = .returned v ∧ VRep RBool w' M r v ∧ BX No w w' := by
 have hC : Cx No w M w M := Cx.start hO (fun _ e => e.elim)
 clear _hG
 refine walk (N := 15) Tryd.func118 Z Tryd.ntmps118 Z (cw_seq (cw_region (lw_op Z Z Z (ow_assign Z Z (lw_nil (ew_then (cw_seq (cw_region (lw_op Z Z Z (ow_move Z Z (lw_op Z Z Z (ow_move Z Z (lw_op Z Z Z (ow_geq Z Z Z fun bb1 hbb1 => lw_op Z Z Z (ow_move Z Z ?_)))))))))))))))
 replace h := cond_some h
 rcases h with ⟨hc1, h⟩ | ⟨hc1, h⟩
 ·
  obtain rfl := hbb1.trans hc1
  refine lw_on Z Z Z Z Z Z (ow_move Z Z (lw_on Z Z Z Z Z Z (ow_move Z Z (lw_on Z Z Z Z Z Z (ow_leq Z Z Z fun bb2 hbb2 => lw_op Z Z Z (ow_pickT Z Z Z (lw_op Z Z Z (ow_assign Z Z (lw_nil (ew_then (cw_ret ?_)))))))))))
  obtain rfl := sj h
  exact ew_ret (res1 Z (.tmp Z)) ⟨_, Z, ((vbool_of hbb2)), hC.bx⟩
 ·
  obtain rfl := hbb1.trans hc1
  refine lw_off Z Z Z Z Z Z (lw_off Z Z Z Z Z Z (lw_off Z Z Z Z Z Z (lw_op Z Z Z (ow_pickF Z Z Z (lw_op Z Z Z (ow_assign Z Z (lw_nil (ew_then (cw_ret ?_)))))))))
  obtain rfl := sj h
  exact ew_ret (res1 Z (.tmp Z)) ⟨_, Z, ((vbool _)), hC.bx⟩

theorem w_spec_FieldTop {w : World} {M : Nat → Prop} (_hG : ARep (RArr 4 RShape) w M shapes ⟨0, 0, none⟩) (hO : ∀ b, M b → b < w.heap.size) {a_n : Int} {r : Int} (h : F.spec_FieldTop a_n = some r) :
  Calls Tryd.prog 88 [(.int .i64 a_n)].toArray w fun e w' => ∃ v, e = .returned v ∧ VRep RInt w' M r v ∧ BX No w w' := by
 have hC : Cx No w M w M := Cx.start hO (fun _ e => e.elim)
 clear _hG
 refine walk (N := 11) Tryd.func88 Z Tryd.ntmps88 Z (cw_seq (cw_region (lw_op Z Z Z (ow_assign Z Z (lw_nil (ew_then (cw_seq (cw_seq (cw_region (lw_op Z Z Z (ow_move Z Z (lw_nil (ew_then (cw_block (cw_seq (cw_seq (cw_region (lw_op Z Z Z (ow_eqlI Z Z Z fun bb1 hbb1 => lw_op Z Z Z (ow_assign Z Z (lw_nil (ew_then ?_))))))))))))))))))))))
 replace h := cond_some h
 rcases h with ⟨hc1, h⟩ | ⟨hc1, h⟩
 ·
  obtain rfl := hbb1.trans hc1
  refine cw_true Z (cw_skip (ew_then (cw_true Z (cw_seq (cw_region (lw_op Z Z Z (ow_assign Z Z (lw_nil (ew_then (cw_ret (ew_blockR (ew_thenR ?_))))))))))))
  obtain rfl := sj h
  exact ew_ret (res1 Z (.tmp Z)) ⟨_, Z, ((vint _)), hC.bx⟩
 ·
  obtain rfl := hbb1.trans hc1
  refine cw_false Z (cw_region (lw_op Z Z Z (ow_eqlI Z Z Z fun bb2 hbb2 => lw_op Z Z Z (ow_assign Z Z (lw_nil (ew_then ?_))))))
  replace h := cond_some h
  rcases h with ⟨hc2, h⟩ | ⟨hc2, h⟩
  ·
   obtain rfl := hbb2.trans hc2
   refine cw_true Z (cw_seq (cw_region (lw_op Z Z Z (ow_assign Z Z (lw_nil (ew_then (cw_ret (ew_blockR (ew_thenR ?_)))))))))
   obtain rfl := sj h
   exact ew_ret (res1 Z (.tmp Z)) ⟨_, Z, ((vint _)), hC.bx⟩
  ·
   obtain rfl := hbb2.trans hc2
   refine cw_false Z (cw_seq (cw_region (lw_op Z Z Z (ow_eqlI Z Z Z fun bb3 hbb3 => lw_op Z Z Z (ow_assign Z Z (lw_nil (ew_then ?_)))))))
   replace h := cond_some h
   rcases h with ⟨hc3, h⟩ | ⟨hc3, h⟩
   ·
    obtain rfl := hbb3.trans hc3
    refine cw_true Z (cw_seq (cw_region (lw_op Z Z Z (ow_assign Z Z (lw_nil (ew_then (cw_ret (ew_blockR (ew_thenR ?_)))))))))
    obtain rfl := sj h
    exact ew_ret (res1 Z (.tmp Z)) ⟨_, Z, ((vint _)), hC.bx⟩
   ·
    obtain rfl := hbb3.trans hc3
    refine cw_false Z (cw_seq (cw_region (lw_op Z Z Z (ow_eqlI Z Z Z fun bb4 hbb4 => lw_op Z Z Z (ow_assign Z Z (lw_nil (ew_then ?_)))))))
    replace h := cond_some h
    rcases h with ⟨hc4, h⟩ | ⟨hc4, h⟩
    ·
     obtain rfl := hbb4.trans hc4
     refine cw_true Z (cw_seq (cw_region (lw_op Z Z Z (ow_assign Z Z (lw_nil (ew_then (cw_ret (ew_blockR (ew_thenR ?_)))))))))
     obtain rfl := sj h
     exact ew_ret (res1 Z (.tmp Z)) ⟨_, Z, ((vint _)), hC.bx⟩
    ·
     obtain rfl := hbb4.trans hc4
     refine cw_false Z (cw_skip (ew_blockN (ew_then (cw_seq (cw_region (lw_op Z Z Z (ow_assign Z Z (lw_nil (ew_then (cw_ret ?_))))))))))
     obtain rfl := sj h
     exact ew_ret (res1 Z (.tmp Z)) ⟨_, Z, ((vint _)), hC.bx⟩

theorem w_spec_TestValid {w : World} {M : Nat → Prop} (hG : ARep (RArr 4 RShape) w M shapes ⟨0, 0, none⟩) (hO : ∀ b, M b → b < w.heap.size) {v0p : Value} {a_t : Test} (h0 : VRep RTest w M a_t v0p) {r : Bool} (h : F.spec_TestValid a_t = some r) :
  Calls Tryd.prog 157 [v0p].toArray w fun e w' => ∃ v, e = .returned v ∧ VRep RBool w' M r v ∧ BX No w w' := by
 have hC : Cx No w M w M := Cx.start hO (fun _ e => e.elim)
 refine walk (N := 21) Tryd.func157 Z Tryd.ntmps157 Z (cw_seq (cw_region (lw_op Z Z Z (ow_box (R := RTest) Z Z h0 hC fun p1 w1 hp1 hb1 hl1 hC1 => lw_op Z Z Z (ow_assign Z Z (lw_nil (ew_then (cw_seq ?_))))))))
 replace h := bind_some h
 obtain ⟨x1, hx1, h⟩ := h
 replace h := cond_some h
 rcases h with ⟨hc1, h⟩ | ⟨hc1, h⟩
 ·
  subst hc1
  replace h := bind_some h
  obtain ⟨x2, hx2, h⟩ := h
  replace h := cond_some h
  rcases h with ⟨hc2, h⟩ | ⟨hc2, h⟩
  ·
   subst hc2
   replace h := bind_some h
   obtain ⟨x3, hx3, h⟩ := h
   refine cw_sub (E' := [(1, (.pointer (some p1))), (2, (.bool false))]) ⟨Z, Z, Zt⟩ (cw_drawQ 16 [PA RInt M a_t.Field, PEq (Zv a_t.Field), PEq (.bool true), PEq (.bool true), PA RInt M a_t.Lo, PEq (Zv a_t.Lo), PA RInt M a_t.Hi, PEq (Zv a_t.Hi), PEq (.bool true), PEq (.bool true), PEq (.bool true), PA RInt M a_t.Hi, PEq (Zv a_t.Hi), PA RInt M a_t.Field, PEq (Zv a_t.Field), PEq (Zv x3)] (by kernel_rfl) Z (by kernel_rfl) ⟨PA.mono _ _ _, Zq, Zq, Zq, PA.mono _ _ _, Zq, PA.mono _ _ _, Zq, Zq, Zq, Zq, PA.mono _ _ _, Zq, PA.mono _ _ _, Zq, Zq, Zt⟩ ⟨?_, ?_, ?_, ?_, ?_, ?_, ?_, ?_, ?_, ?_, ?_, ?_, ?_, ?_, ?_, ?_, Zt⟩ ?_)
   ·
    intro w5 D hS1 hd1
    have hl5 := Le.no M hS1
    exact dg_sub (E' := [(1, (.pointer (some p1)))]) ⟨Z, Zt⟩ (dg_plain Z (ow_fieldAddr Z Z Tryd.underlying128 Z (Tryd.sizeOf3 _) ⟨BX.refl _ _, ⟨_, Z, (ARep.mono hl5 (hp1.fld fld_Test_Field))⟩⟩))
   ·
    intro w6 D hS2 hd2
    have d1 : PA RInt M a_t.Field (D 0) w6 := dpA hd2 0 Z
    obtain ⟨p2, e1, ha1⟩ := d1
    refine dg_sub (E' := [(3, (.pointer (some p2)))]) ⟨congrArg some e1, Zt⟩ (dg_plain Z (ow_load (R := RInt) Z Z ha1 (Tryd.sizeOf3 _) (Tryd.isAgg3 _) fun v9 hv9 => ?_))
    obtain rfl := vint_eq hv9
    exact Zb
   ·
    intro w7 D hS3 hd3
    have hl7 := Le.no M hS3
    have hC7 := hC1.no hS3
    refine dg_sub (E' := [(4, (Zv a_t.Field))]) ⟨dpE hd3 1 Z Z, Zt⟩ (dg_plain Z (ow_call Z Z Tryd.call118 (w_spec_l1In (hG.mono (hl1.trans hl7)) hC7.old hx1) fun v10 w8 hv10 => ?_))
    obtain ⟨hv10, hb5⟩ := hv10
    obtain rfl := vbool_eq hv10
    exact ⟨hb5, Z⟩
   · exact fun w9 D hS4 hd4 => dg_sub (E' := [(5, (.bool true))]) ⟨dpE hd4 2 Z Z, Zt⟩ (dg_plain Z (ow_move Z Z Zb))
   ·
    intro w10 D hS5 hd5
    have hl10 := Le.no M hS5
    exact dg_sub (E' := [(6, (.bool true)), (1, (.pointer (some p1)))]) ⟨dpE hd5 3 Z Z, Z, Zt⟩ (dg_on Z Z Z Z (ow_fieldAddr Z Z Tryd.underlying128 Z (Tryd.sizeOf3 _) ⟨BX.refl _ _, ⟨_, Z, (ARep.mono hl10 (hp1.fld fld_Test_Lo))⟩⟩))
   ·
    intro w11 D hS6 hd6
    have d6 : PA RInt M a_t.Lo (D 4) w11 := dpA hd6 4 Z
    obtain ⟨p3, e2, ha2⟩ := d6
    refine dg_sub (E' := [(7, (.pointer (some p3))), (6, (.bool true))]) ⟨congrArg some e2, dpE hd6 3 Z Z, Zt⟩ (dg_on Z Z Z Z (ow_load (R := RInt) Z Z ha2 (Tryd.sizeOf3 _) (Tryd.isAgg3 _) fun v11 hv11 => ?_))
    obtain rfl := vint_eq hv11
    exact Zb
   ·
    intro w12 D hS7 hd7
    have hl12 := Le.no M hS7
    exact dg_sub (E' := [(6, (.bool true)), (1, (.pointer (some p1)))]) ⟨dpE hd7 3 Z Z, Z, Zt⟩ (dg_on Z Z Z Z (ow_fieldAddr Z Z Tryd.underlying128 Z (Tryd.sizeOf3 _) ⟨BX.refl _ _, ⟨_, Z, (ARep.mono hl12 (hp1.fld fld_Test_Hi))⟩⟩))
   ·
    intro w13 D hS8 hd8
    have d9 : PA RInt M a_t.Hi (D 6) w13 := dpA hd8 6 Z
    obtain ⟨p4, e3, ha3⟩ := d9
    refine dg_sub (E' := [(9, (.pointer (some p4))), (6, (.bool true))]) ⟨congrArg some e3, dpE hd8 3 Z Z, Zt⟩ (dg_on Z Z Z Z (ow_load (R := RInt) Z Z ha3 (Tryd.sizeOf3 _) (Tryd.isAgg3 _) fun v12 hv12 => ?_))
    obtain rfl := vint_eq hv12
    exact Zb
   ·
    intro w14 D hS9 hd9
    have hl14 := Le.no M hS9
    have hC14 := hC1.no hS9
    refine dg_sub (E' := [(8, (Zv a_t.Lo)), (10, (Zv a_t.Hi)), (6, (.bool true))]) ⟨dpE hd9 5 Z Z, dpE hd9 7 Z Z, dpE hd9 3 Z Z, Zt⟩ (dg_on Z Z Z Z (ow_call Z Z Tryd.call118 (w_spec_l1In (hG.mono (hl1.trans hl14)) hC14.old hx2) fun v13 w15 hv13 => ?_))
    obtain ⟨hv13, hb6⟩ := hv13
    obtain rfl := vbool_eq hv13
    exact ⟨hb6, Z⟩
   · exact fun w16 D hS10 hd10 => dg_sub (E' := [(6, (.bool true)), (11, (.bool true))]) ⟨dpE hd10 3 Z Z, dpE hd10 8 Z Z, Zt⟩ (dg_plain Z (ow_pickT Z Z Z Zb))
   · exact fun w17 D hS11 hd11 => dg_sub (E' := [(12, (.bool true))]) ⟨dpE hd11 9 Z Z, Zt⟩ (dg_plain Z (ow_move Z Z Zb))
   ·
    intro w18 D hS12 hd12
    have hl18 := Le.no M hS12
    exact dg_sub (E' := [(13, (.bool true)), (1, (.pointer (some p1)))]) ⟨dpE hd12 10 Z Z, Z, Zt⟩ (dg_on Z Z Z Z (ow_fieldAddr Z Z Tryd.underlying128 Z (Tryd.sizeOf3 _) ⟨BX.refl _ _, ⟨_, Z, (ARep.mono hl18 (hp1.fld fld_Test_Hi))⟩⟩))
   ·
    intro w19 D hS13 hd13
    have d20 : PA RInt M a_t.Hi (D 11) w19 := dpA hd13 11 Z
    obtain ⟨p5, e4, ha4⟩ := d20
    refine dg_sub (E' := [(14, (.pointer (some p5))), (13, (.bool true))]) ⟨congrArg some e4, dpE hd13 10 Z Z, Zt⟩ (dg_on Z Z Z Z (ow_load (R := RInt) Z Z ha4 (Tryd.sizeOf3 _) (Tryd.isAgg3 _) fun v14 hv14 => ?_))
    obtain rfl := vint_eq hv14
    exact Zb
   ·
    intro w20 D hS14 hd14
    have hl20 := Le.no M hS14
    exact dg_sub (E' := [(13, (.bool true)), (1, (.pointer (some p1)))]) ⟨dpE hd14 10 Z Z, Z, Zt⟩ (dg_on Z Z Z Z (ow_fieldAddr Z Z Tryd.underlying128 Z (Tryd.sizeOf3 _) ⟨BX.refl _ _, ⟨_, Z, (ARep.mono hl20 (hp1.fld fld_Test_Field))⟩⟩))
   ·
    intro w21 D hS15 hd15
    have d23 : PA RInt M a_t.Field (D 13) w21 := dpA hd15 13 Z
    obtain ⟨p6, e5, ha5⟩ := d23
    refine dg_sub (E' := [(16, (.pointer (some p6))), (13, (.bool true))]) ⟨congrArg some e5, dpE hd15 10 Z Z, Zt⟩ (dg_on Z Z Z Z (ow_load (R := RInt) Z Z ha5 (Tryd.sizeOf3 _) (Tryd.isAgg3 _) fun v15 hv15 => ?_))
    obtain rfl := vint_eq hv15
    exact Zb
   ·
    intro w22 D hS16 hd16
    have hl22 := Le.no M hS16
    have hC22 := hC1.no hS16
    refine dg_sub (E' := [(17, (Zv a_t.Field)), (13, (.bool true))]) ⟨dpE hd16 14 Z Z, dpE hd16 10 Z Z, Zt⟩ (dg_on Z Z Z Z (ow_call Z Z Tryd.call88 (w_spec_FieldTop (hG.mono (hl1.trans hl22)) hC22.old hx3) fun v16 w23 hv16 => ?_))
    obtain ⟨hv16, hb7⟩ := hv16
    obtain rfl := vint_eq hv16
    exact ⟨hb7, Z⟩
   ·
    intro w24 D hS17 hd17
    have hC24 := hC1.no hS17
    refine lw_sub (E' := [(13, (.bool true)), (15, (Zv a_t.Hi)), (18, (Zv x3)), (1, (.pointer (some p1))), (2, (.bool false))]) ⟨dpE hd17 10 Z Z, dpE hd17 12 Z Z, dpE hd17 15 Z Z, Z, Z, Zt⟩ (lw_on Z Z Z Z Z Z (ow_leq Z Z Z fun bb1 hbb1 => lw_op Z Z Z (ow_pickT Z Z Z (lw_op Z Z Z (ow_assign Z Z (lw_nil (ew_then (cw_ret ?_))))))))
    obtain rfl := sj h
    exact ew_ret (res1 Z (.tmp Z)) ⟨_, Z, ((vbool_of hbb1)), hC24.bx⟩
  ·
   subst hc2
   refine cw_sub (E' := [(1, (.pointer (some p1))), (2, (.bool false))]) ⟨Z, Z, Zt⟩ (cw_drawQ 16 [PA RInt M a_t.Field, PEq (Zv a_t.Field), PEq (.bool true), PEq (.bool true), PA RInt M a_t.Lo, PEq (Zv a_t.Lo), PA RInt M a_t.Hi, PEq (Zv a_t.Hi), PEq (.bool false), PEq (.bool false), PEq (.bool false), PEq undef, PEq undef, PEq undef, PEq undef, PEq undef] (by kernel_rfl) Z (by kernel_rfl) ⟨PA.mono _ _ _, Zq, Zq, Zq, PA.mono _ _ _, Zq, PA.mono _ _ _, Zq, Zq, Zq, Zq, Zq, Zq, Zq, Zq, Zq, Zt⟩ ⟨?_, ?_, ?_, ?_, ?_, ?_, ?_, ?_, ?_, ?_, ?_, ?_, ?_, ?_, ?_, ?_, Zt⟩ ?_)
   ·
    intro w25 D hS18 hd18
    have hl25 := Le.no M hS18
    exact dg_sub (E' := [(1, (.pointer (some p1)))]) ⟨Z, Zt⟩ (dg_plain Z (ow_fieldAddr Z Z Tryd.underlying128 Z (Tryd.sizeOf3 _) ⟨BX.refl _ _, ⟨_, Z, (ARep.mono hl25 (hp1.fld fld_Test_Field))⟩⟩))
   ·
    intro w26 D hS19 hd19
    have d44 : PA RInt M a_t.Field (D 0) w26 := dpA hd19 0 Z
    obtain ⟨p7, e6, ha6⟩ := d44
    refine dg_sub (E' := [(3, (.pointer (some p7)))]) ⟨congrArg some e6, Zt⟩ (dg_plain Z (ow_load (R := RInt) Z Z ha6 (Tryd.sizeOf3 _) (Tryd.isAgg3 _) fun v17 hv17 => ?_))
    obtain rfl := vint_eq hv17
    exact Zb
   ·
    intro w27 D hS20 hd20
    have hl27 := Le.no M hS20
    have hC27 := hC1.no hS20
    refine dg_sub (E' := [(4, (Zv a_t.Field))]) ⟨dpE hd20 1 Z Z, Zt⟩ (dg_plain Z (ow_call Z Z Tryd.call118 (w_spec_l1In (hG.mono (hl1.trans hl27)) hC27.old hx1) fun v18 w28 hv18 => ?_))
    obtain ⟨hv18, hb8⟩ := hv18
    obtain rfl := vbool_eq hv18
    exact ⟨hb8, Z⟩
   · exact fun w29 D hS21 hd21 => dg_sub (E' := [(5, (.bool true))]) ⟨dpE hd21 2 Z Z, Zt⟩ (dg_plain Z (ow_move Z Z Zb))
   ·
    intro w30 D hS22 hd22
    have hl30 := Le.no M hS22
    exact dg_sub (E' := [(6, (.bool true)), (1, (.pointer (some p1)))]) ⟨dpE hd22 3 Z Z, Z, Zt⟩ (dg_on Z Z Z Z (ow_fieldAddr Z Z Tryd.underlying128 Z (Tryd.sizeOf3 _) ⟨BX.refl _ _, ⟨_, Z, (ARep.mono hl30 (hp1.fld fld_Test_Lo))⟩⟩))
   ·
    intro w31 D hS23 hd23
    have d49 : PA RInt M a_t.Lo (D 4) w31 := dpA hd23 4 Z
    obtain ⟨p8, e7, ha7⟩ := d49
    refine dg_sub (E' := [(7, (.pointer (some p8))), (6, (.bool true))]) ⟨congrArg some e7, dpE hd23 3 Z Z, Zt⟩ (dg_on Z Z Z Z (ow_load (R := RInt) Z Z ha7 (Tryd.sizeOf3 _) (Tryd.isAgg3 _) fun v19 hv19 => ?_))
    obtain rfl := vint_eq hv19
    exact Zb
   ·
    intro w32 D hS24 hd24
    have hl32 := Le.no M hS24
    exact dg_sub (E' := [(6, (.bool true)), (1, (.pointer (some p1)))]) ⟨dpE hd24 3 Z Z, Z, Zt⟩ (dg_on Z Z Z Z (ow_fieldAddr Z Z Tryd.underlying128 Z (Tryd.sizeOf3 _) ⟨BX.refl _ _, ⟨_, Z, (ARep.mono hl32 (hp1.fld fld_Test_Hi))⟩⟩))
   ·
    intro w33 D hS25 hd25
    have d52 : PA RInt M a_t.Hi (D 6) w33 := dpA hd25 6 Z
    obtain ⟨p9, e8, ha8⟩ := d52
    refine dg_sub (E' := [(9, (.pointer (some p9))), (6, (.bool true))]) ⟨congrArg some e8, dpE hd25 3 Z Z, Zt⟩ (dg_on Z Z Z Z (ow_load (R := RInt) Z Z ha8 (Tryd.sizeOf3 _) (Tryd.isAgg3 _) fun v20 hv20 => ?_))
    obtain rfl := vint_eq hv20
    exact Zb
   ·
    intro w34 D hS26 hd26
    have hl34 := Le.no M hS26
    have hC34 := hC1.no hS26
    refine dg_sub (E' := [(8, (Zv a_t.Lo)), (10, (Zv a_t.Hi)), (6, (.bool true))]) ⟨dpE hd26 5 Z Z, dpE hd26 7 Z Z, dpE hd26 3 Z Z, Zt⟩ (dg_on Z Z Z Z (ow_call Z Z Tryd.call118 (w_spec_l1In (hG.mono (hl1.trans hl34)) hC34.old hx2) fun v21 w35 hv21 => ?_))
    obtain ⟨hv21, hb9⟩ := hv21
    obtain rfl := vbool_eq hv21
    exact ⟨hb9, Z⟩
   · exact fun w36 D hS27 hd27 => dg_sub (E' := [(6, (.bool true)), (11, (.bool false))]) ⟨dpE hd27 3 Z Z, dpE hd27 8 Z Z, Zt⟩ (dg_plain Z (ow_pickT Z Z Z Zb))
   · exact fun w37 D hS28 hd28 => dg_sub (E' := [(12, (.bool false))]) ⟨dpE hd28 9 Z Z, Zt⟩ (dg_plain Z (ow_move Z Z Zb))
   · exact fun w38 D hS29 hd29 => dg_sub (E' := [(13, (.bool false)), (1, (.pointer (some p1)))]) ⟨dpE hd29 10 Z Z, Z, Zt⟩ (dg_off Z Z Z Z Zb)
   · exact fun w39 D hS30 hd30 => dg_sub (E' := [(14, undef), (13, (.bool false))]) ⟨dpE hd30 11 Z Z, dpE hd30 10 Z Z, Zt⟩ (dg_off Z Z Z Z Zb)
   · exact fun w40 D hS31 hd31 => dg_sub (E' := [(13, (.bool false)), (1, (.pointer (some p1)))]) ⟨dpE hd31 10 Z Z, Z, Zt⟩ (dg_off Z Z Z Z Zb)
   · exact fun w41 D hS32 hd32 => dg_sub (E' := [(16, undef), (13, (.bool false))]) ⟨dpE hd32 13 Z Z, dpE hd32 10 Z Z, Zt⟩ (dg_off Z Z Z Z Zb)
   · exact fun w42 D hS33 hd33 => dg_sub (E' := [(17, undef), (13, (.bool false))]) ⟨dpE hd33 14 Z Z, dpE hd33 10 Z Z, Zt⟩ (dg_off Z Z Z Z Zb)
   ·
    intro w43 D hS34 hd34
    have hC43 := hC1.no hS34
    refine lw_sub (E' := [(13, (.bool false)), (15, undef), (18, undef), (1, (.pointer (some p1))), (2, (.bool false))]) ⟨dpE hd34 10 Z Z, dpE hd34 12 Z Z, dpE hd34 15 Z Z, Z, Z, Zt⟩ (lw_off Z Z Z Z Z Z (lw_op Z Z Z (ow_pickF Z Z Z (lw_op Z Z Z (ow_assign Z Z (lw_nil (ew_then (cw_ret ?_))))))))
    obtain rfl := sj h
    exact ew_ret (res1 Z (.tmp Z)) ⟨_, Z, ((vbool _)), hC43.bx⟩
 ·
  subst hc1
  refine cw_sub (E' := [(1, (.pointer (some p1))), (2, (.bool false))]) ⟨Z, Z, Zt⟩ (cw_drawQ 16 [PA RInt M a_t.Field, PEq (Zv a_t.Field), PEq (.bool false), PEq (.bool false), PEq undef, PEq undef, PEq undef, PEq undef, PEq undef, PEq (.bool false), PEq (.bool false), PEq undef, PEq undef, PEq undef, PEq undef, PEq undef] (by kernel_rfl) Z (by kernel_rfl) ⟨PA.mono _ _ _, Zq, Zq, Zq, Zq, Zq, Zq, Zq, Zq, Zq, Zq, Zq, Zq, Zq, Zq, Zq, Zt⟩ ⟨?_, ?_, ?_, ?_, ?_, ?_, ?_, ?_, ?_, ?_, ?_, ?_, ?_, ?_, ?_, ?_, Zt⟩ ?_)
  ·
   intro w44 D hS35 hd35
   have hl44 := Le.no M hS35
   exact dg_sub (E' := [(1, (.pointer (some p1)))]) ⟨Z, Zt⟩ (dg_plain Z (ow_fieldAddr Z Z Tryd.underlying128 Z (Tryd.sizeOf3 _) ⟨BX.refl _ _, ⟨_, Z, (ARep.mono hl44 (hp1.fld fld_Test_Field))⟩⟩))
  ·
   intro w45 D hS36 hd36
   have d87 : PA RInt M a_t.Field (D 0) w45 := dpA hd36 0 Z
   obtain ⟨p10, e9, ha9⟩ := d87
   refine dg_sub (E' := [(3, (.pointer (some p10)))]) ⟨congrArg some e9, Zt⟩ (dg_plain Z (ow_load (R := RInt) Z Z ha9 (Tryd.sizeOf3 _) (Tryd.isAgg3 _) fun v22 hv22 => ?_))
   obtain rfl := vint_eq hv22
   exact Zb
  ·
   intro w46 D hS37 hd37
   have hl46 := Le.no M hS37
   have hC46 := hC1.no hS37
   refine dg_sub (E' := [(4, (Zv a_t.Field))]) ⟨dpE hd37 1 Z Z, Zt⟩ (dg_plain Z (ow_call Z Z Tryd.call118 (w_spec_l1In (hG.mono (hl1.trans hl46)) hC46.old hx1) fun v23 w47 hv23 => ?_))
   obtain ⟨hv23, hb10⟩ := hv23
   obtain rfl := vbool_eq hv23
   exact ⟨hb10, Z⟩
  · exact fun w48 D hS38 hd38 => dg_sub (E' := [(5, (.bool false))]) ⟨dpE hd38 2 Z Z, Zt⟩ (dg_plain Z (ow_move Z Z Zb))
  · exact fun w49 D hS39 hd39 => dg_sub (E' := [(6, (.bool false)), (1, (.pointer (some p1)))]) ⟨dpE hd39 3 Z Z, Z, Zt⟩ (dg_off Z Z Z Z Zb)
  · exact fun w50 D hS40 hd40 => dg_sub (E' := [(7, undef), (6, (.bool false))]) ⟨dpE hd40 4 Z Z, dpE hd40 3 Z Z, Zt⟩ (dg_off Z Z Z Z Zb)
  · exact fun w51 D hS41 hd41 => dg_sub (E' := [(6, (.bool false)), (1, (.pointer (some p1)))]) ⟨dpE hd41 3 Z Z, Z, Zt⟩ (dg_off Z Z Z Z Zb)
  · exact fun w52 D hS42 hd42 => dg_sub (E' := [(9, undef), (6, (.bool false))]) ⟨dpE hd42 6 Z Z, dpE hd42 3 Z Z, Zt⟩ (dg_off Z Z Z Z Zb)
  · exact fun w53 D hS43 hd43 => dg_sub (E' := [(8, undef), (10, undef), (6, (.bool false))]) ⟨dpE hd43 5 Z Z, dpE hd43 7 Z Z, dpE hd43 3 Z Z, Zt⟩ (dg_off Z Z Z Z Zb)
  · exact fun w54 D hS44 hd44 => dg_sub (E' := [(6, (.bool false)), (11, undef)]) ⟨dpE hd44 3 Z Z, dpE hd44 8 Z Z, Zt⟩ (dg_plain Z (ow_pickF Z Z Z Zb))
  · exact fun w55 D hS45 hd45 => dg_sub (E' := [(12, (.bool false))]) ⟨dpE hd45 9 Z Z, Zt⟩ (dg_plain Z (ow_move Z Z Zb))
  · exact fun w56 D hS46 hd46 => dg_sub (E' := [(13, (.bool false)), (1, (.pointer (some p1)))]) ⟨dpE hd46 10 Z Z, Z, Zt⟩ (dg_off Z Z Z Z Zb)
  · exact fun w57 D hS47 hd47 => dg_sub (E' := [(14, undef), (13, (.bool false))]) ⟨dpE hd47 11 Z Z, dpE hd47 10 Z Z, Zt⟩ (dg_off Z Z Z Z Zb)
  · exact fun w58 D hS48 hd48 => dg_sub (E' := [(13, (.bool false)), (1, (.pointer (some p1)))]) ⟨dpE hd48 10 Z Z, Z, Zt⟩ (dg_off Z Z Z Z Zb)
  · exact fun w59 D hS49 hd49 => dg_sub (E' := [(16, undef), (13, (.bool false))]) ⟨dpE hd49 13 Z Z, dpE hd49 10 Z Z, Zt⟩ (dg_off Z Z Z Z Zb)
  · exact fun w60 D hS50 hd50 => dg_sub (E' := [(17, undef), (13, (.bool false))]) ⟨dpE hd50 14 Z Z, dpE hd50 10 Z Z, Zt⟩ (dg_off Z Z Z Z Zb)
  ·
   intro w61 D hS51 hd51
   have hC61 := hC1.no hS51
   refine lw_sub (E' := [(13, (.bool false)), (15, undef), (18, undef), (1, (.pointer (some p1))), (2, (.bool false))]) ⟨dpE hd51 10 Z Z, dpE hd51 12 Z Z, dpE hd51 15 Z Z, Z, Z, Zt⟩ (lw_off Z Z Z Z Z Z (lw_op Z Z Z (ow_pickF Z Z Z (lw_op Z Z Z (ow_assign Z Z (lw_nil (ew_then (cw_ret ?_))))))))
   obtain rfl := sj h
   exact ew_ret (res1 Z (.tmp Z)) ⟨_, Z, ((vbool _)), hC61.bx⟩

theorem w_spec_TestsValid {w : World} {M : Nat → Prop} (hG : ARep (RArr 4 RShape) w M shapes ⟨0, 0, none⟩) (hO : ∀ b, M b → b < w.heap.size) {v0p : Value} {a_list : List Test} (h0 : VRep (RSlice RTest) w M a_list v0p) {r : Bool} (h : F.spec_TestsValid a_list = some r) :
  Calls Tryd.prog 101 [v0p].toArray w fun e w' => ∃ v, e = .returned v ∧ VRep RBool w' M r v ∧ BX No w w' := by
 have hC : Cx No w M w M := Cx.start hO (fun _ e => e.elim)
 refine walk (N := 19) Tryd.func101 Z Tryd.ntmps101 Z (cw_seq (cw_region (lw_op Z Z Z (ow_assign Z Z (lw_nil (ew_then (cw_seq (cw_seq (cw_region (lw_op Z Z Z (ow_assign Z Z (lw_nil (ew_then ?_)))))))))))))
 replace h := bind_some h
 obtain ⟨lr1, hlr1, h⟩ := h
 refine cw_for hlr1 (fun s a w' => ∃ (M' : Nat → Prop), Fits 19 [(0, v0p), (3, (Zv s))] a ∧ Le w M w' M' ∧ Cx No w M w' M') ?_ ?_ ?_
 · exact fun a ha => ⟨M, ha.sub ⟨Z, Z, Zt⟩, Le.refl _ _, hC⟩
 ·
  rintro k1 a w1 sr1 ⟨M1, hF1, hl1, hC1⟩ hb1 hR1
  refine cw_at (E := [(0, v0p), (3, (Zv k1))]) hF1 (cw_seq (cw_seq (cw_region (lw_op Z Z Z (ow_move Z Z (lw_op Z Z Z (ow_move Z Z (lw_op Z Z Z (ow_len Z Z (VRep.mono hl1 h0) Tryd.underlying36 Z (lw_op Z Z Z (ow_lss Z Z Z fun bb1 hbb1 => lw_nil (ew_then ?_))))))))))))
  replace hb1 := cond_some hb1
  rcases hb1 with ⟨hc1, hb1⟩ | ⟨hc1, hb1⟩
  ·
   obtain rfl := hbb1.trans hc1
   refine cw_true Z (cw_skip (ew_then (cw_seq (cw_block (cw_seq (cw_region (lw_op Z Z Z (ow_move Z Z (lw_op Z Z Z (ow_move Z Z ?_))))))))))
   replace hb1 := bind_some hb1
   obtain ⟨x1, hx1, hb1⟩ := hb1
   refine lw_op Z Z Z (ow_indexSlice (R := RTest) Z Z Z (VRep.mono hl1 h0) Tryd.underlying36 (Tryd.sizeOf128 _) hx1 fun p1 hp1 => lw_op Z Z Z (ow_load (R := RTest) Z Z hp1 (Tryd.sizeOf128 _) (Tryd.isAgg128 _) fun v2 hv2 => ?_))
   replace hb1 := bind_some hb1
   obtain ⟨x2, hx2, hb1⟩ := hb1
   refine lw_op Z Z Z (ow_call Z Z Tryd.call157 (w_spec_TestValid (hG.mono hl1) hC1.old hv2 hx2) fun v3 w2 hv3 => ?_)
   obtain ⟨hv3, hb2⟩ := hv3
   have hl2 := Le.no M1 hb2
   have hC2 := hC1.no hb2
   obtain rfl := vbool_eq hv3
   refine lw_op Z Z Z (ow_not Z Z (lw_nil (ew_then ?_)))
   replace hb1 := cond_some hb1
   rcases hb1 with ⟨hc2, hb1⟩ | ⟨hc2, hb1⟩
   ·
    subst hc2
    exact cw_false Z (cw_skip (ew_blockN (ew_then (cw_region (lw_op Z Z Z (ow_move Z Z (lw_op Z Z Z (ow_add Z Z Z (lw_op Z Z Z (ow_assign Z Z (lw_nil (ew_nxt (W (k1 + 1)) hb1 fun a ha => ⟨M1, (ha.sub ⟨Z, Z, Zt⟩), (hl1.trans hl2), hC2⟩))))))))))))
   ·
    subst hc2
    refine cw_true Z (cw_seq (cw_region (lw_op Z Z Z (ow_assign Z Z (lw_nil (ew_then (cw_ret (ew_blockR (ew_thenR (ew_thenR (ew_blockR (ew_brkR (ew_thenR ?_)))))))))))))
    have e1 := hR1 _ (sj hb1).symm
    subst e1
    obtain rfl := sj h
    exact ew_ret (res1 Z (.tmp Z)) ⟨_, Z, ((vbool _)), hC2.bx⟩
  ·
   obtain rfl := hbb1.trans hc1
   exact cw_false Z (cw_exit (ew_thenX (ew_thenX (ew_blockX (ew_brk k1 hb1 fun a ha => ⟨M1, (ha.sub ⟨Z, Z, Zt⟩), hl1, hC1⟩)))))
 ·
  rintro k2 a w3 hlr2 ⟨M2, hF2, hl3, hC3⟩
  subst hlr2
  refine ew_at (E := [(0, v0p), (3, (Zv k2))]) hF2 (ew_then (cw_seq (cw_region (lw_op Z Z Z (ow_move Z Z (lw_op Z Z Z (ow_len Z Z (VRep.mono hl3 h0) Tryd.underlying36 Z (lw_op Z Z Z (ow_leq Z Z Z fun bb2 hbb2 => lw_op Z Z Z (ow_assign Z Z (lw_nil (ew_then (cw_ret ?_)))))))))))))
  obtain rfl := sj h
  exact ew_ret (res1 Z (.tmp Z)) ⟨_, Z, ((vbool_of hbb2)), hC3.bx⟩

theorem w_spec_RuleValid {w : World} {M : Nat → Prop} (hG : ARep (RArr 4 RShape) w M shapes ⟨0, 0, none⟩) (hO : ∀ b, M b → b < w.heap.size) {v0p : Value} {a_r : Rule} (h0 : VRep RRule w M a_r v0p) {r : Bool} (h : F.spec_RuleValid a_r = some r) :
  Calls Tryd.prog 175 [v0p].toArray w fun e w' => ∃ v, e = .returned v ∧ VRep RBool w' M r v ∧ BX No w w' := by
 have hC : Cx No w M w M := Cx.start hO (fun _ e => e.elim)
 refine walk (N := 31) Tryd.func175 Z Tryd.ntmps175 Z (cw_seq (cw_region (lw_op Z Z Z (ow_box (R := RRule) Z Z h0 hC fun p1 w1 hp1 hb1 hl1 hC1 => lw_op Z Z Z (ow_assign Z Z (lw_nil (ew_then (cw_seq (cw_region (lw_op Z Z Z (ow_fieldAddr Z Z Tryd.underlying38 Z (Tryd.sizeOf36 _) (lw_op Z Z Z (ow_load (R := (RSlice RTest)) Z Z (hp1.fld fld_Rule_Tests) (Tryd.sizeOf36 _) (Tryd.isAgg36 _) fun v1 hv1 => ?_)))))))))))))
 replace h := bind_some h
 obtain ⟨x1, hx1, h⟩ := h
 refine lw_op Z Z Z (ow_call Z Z Tryd.call101 (w_spec_TestsValid (hG.mono hl1) hC1.old hv1 hx1) fun v2 w2 hv2 => ?_)
 obtain ⟨hv2, hb2⟩ := hv2
 have hl2 := Le.no M hb2
 have hC2 := hC1.no hb2
 obtain rfl := vbool_eq hv2
 refine lw_op Z Z Z (ow_move Z Z ?_)
 replace h := cond_some h
 rcases h with ⟨hc1, h⟩ | ⟨hc1, h⟩
 ·
  subst hc1
  refine lw_on Z Z Z Z Z Z (ow_fieldAddr Z Z Tryd.underlying38 Z (Tryd.sizeOf3 _) (lw_on Z Z Z Z Z Z (ow_load (R := RInt) Z Z (ARep.mono hl2 (hp1.fld fld_Rule_Action)) (Tryd.sizeOf3 _) (Tryd.isAgg3 _) fun v3 hv3 => ?_)))
  obtain rfl := vint_eq hv3
  replace h := bind_some h
  obtain ⟨x2, hx2, h⟩ := h
  refine lw_on Z Z Z Z Z Z (ow_call Z Z Tryd.call118 (w_spec_l1In (hG.mono (hl1.trans hl2)) hC2.old hx2) fun v4 w3 hv4 => ?_)
  obtain ⟨hv4, hb3⟩ := hv4
  have hl3 := Le.no M hb3
  have hC3 := hC2.no hb3
  obtain rfl := vbool_eq hv4
  refine lw_op Z Z Z (ow_pickT Z Z Z (lw_op Z Z Z (ow_move Z Z ?_)))
  replace h := cond_some h
  rcases h with ⟨hc2, h⟩ | ⟨hc2, h⟩
  ·
   subst hc2
   refine lw_on Z Z Z Z Z Z (ow_fieldAddr Z Z Tryd.underlying38 Z (Tryd.sizeOf3 _) (lw_on Z Z Z Z Z Z (ow_load (R := RInt) Z Z (ARep.mono (hl2.trans hl3) (hp1.fld fld_Rule_Action)) (Tryd.sizeOf3 _) (Tryd.isAgg3 _) fun v5 hv5 => ?_)))
   obtain rfl := vint_eq hv5
   refine lw_on Z Z Z Z Z Z (ow_eqlI Z Z Z fun bb1 hbb1 => lw_on Z Z Z Z Z Z (ow_move Z Z ?_))
   replace h := cond_some h
   rcases h with ⟨hc3, h⟩ | ⟨hc3, h⟩
   ·
    obtain rfl := hbb1.trans hc3
    refine lw_on Z Z Z Z Z Z (ow_fieldAddr Z Z Tryd.underlying38 Z (Tryd.sizeOf3 _) (lw_on Z Z Z Z Z Z (ow_load (R := RInt) Z Z (ARep.mono (hl2.trans hl3) (hp1.fld fld_Rule_Chain)) (Tryd.sizeOf3 _) (Tryd.isAgg3 _) fun v6 hv6 => ?_)))
    obtain rfl := vint_eq hv6
    replace h := bind_some h
    obtain ⟨x3, hx3, h⟩ := h
    have lz1 := ((hl1.trans hl2).trans hl3)
    refine lw_on Z Z Z Z Z Z (ow_call Z Z Tryd.call118 (w_spec_l1In (hG.mono lz1) hC3.old hx3) fun v7 w4 hv7 => ?_)
    obtain ⟨hv7, hb4⟩ := hv7
    have hl4 := Le.no M hb4
    have hC4 := hC3.no hb4
    obtain rfl := vbool_eq hv7
    refine lw_on Z Z Z Z Z Z (ow_pickT Z Z Z (lw_on Z Z Z Z Z Z (ow_move Z Z ?_)))
    replace h := cond_some h
    rcases h with ⟨hc4, h⟩ | ⟨hc4, h⟩
    ·
     subst hc4
     refine lw_off Z Z Z Z Z Z (lw_off Z Z Z Z Z Z (lw_off Z Z Z Z Z Z (lw_off Z Z Z Z Z Z (lw_off' Z Z Z Z Z Z (lw_off' Z Z Z Z Z Z (lw_off' Z Z Z Z Z Z (lw_off Z Z Z Z Z Z (lw_on Z Z Z Z Z Z (ow_pickT Z Z Z (lw_op Z Z Z (ow_pickT Z Z Z (lw_op Z Z Z (ow_assign Z Z (lw_nil (ew_then (cw_ret ?_))))))))))))))))
     obtain rfl := sj h
     exact ew_ret (res1 Z (.tmp Z)) ⟨_, Z, ((vbool _)), hC4.bx⟩
    ·
     subst hc4
     refine lw_on Z Z Z Z Z Z (ow_fieldAddr Z Z Tryd.underlying38 Z (Tryd.sizeOf3 _) ?_)
     have lz2 := ((hl2.trans hl3).trans hl4)
     refine lw_on Z Z Z Z Z Z (ow_load (R := RInt) Z Z (ARep.mono lz2 (hp1.fld fld_Rule_Action)) (Tryd.sizeOf3 _) (Tryd.isAgg3 _) fun v8 hv8 => ?_)
     obtain rfl := vint_eq hv8
     refine lw_on Z Z Z Z Z Z (ow_neqI Z Z Z fun bb2 hbb2 => lw_on Z Z Z Z Z Z (ow_move Z Z ?_))
     replace h := cond_some h
     rcases h with ⟨hc5, h⟩ | ⟨hc5, h⟩
     ·
      obtain rfl := hbb2.trans hc5
      refine lw_on Z Z Z Z Z Z (ow_fieldAddr Z Z Tryd.underlying38 Z (Tryd.sizeOf3 _) (lw_on Z Z Z Z Z Z (ow_load (R := RInt) Z Z (ARep.mono lz2 (hp1.fld fld_Rule_Chain)) (Tryd.sizeOf3 _) (Tryd.isAgg3 _) fun v9 hv9 => ?_)))
      obtain rfl := vint_eq hv9
      refine lw_on Z Z Z Z Z Z (ow_eqlI Z Z Z fun bb3 hbb3 => lw_on Z Z Z Z Z Z (ow_pickT Z Z Z (lw_on Z Z Z Z Z Z (ow_pickF Z Z Z (lw_op Z Z Z (ow_pickT Z Z Z (lw_op Z Z Z (ow_assign Z Z (lw_nil (ew_then (cw_ret ?_)))))))))))
      obtain rfl := sj h
      exact ew_ret (res1 Z (.tmp Z)) ⟨_, Z, ((vbool_of hbb3)), hC4.bx⟩
     ·
      obtain rfl := hbb2.trans hc5
      refine lw_off Z Z Z Z Z Z (lw_off Z Z Z Z Z Z (lw_off Z Z Z Z Z Z (lw_on Z Z Z Z Z Z (ow_pickF Z Z Z (lw_on Z Z Z Z Z Z (ow_pickF Z Z Z (lw_op Z Z Z (ow_pickT Z Z Z (lw_op Z Z Z (ow_assign Z Z (lw_nil (ew_then (cw_ret ?_)))))))))))))
      obtain rfl := sj h
      exact ew_ret (res1 Z (.tmp Z)) ⟨_, Z, ((vbool _)), hC4.bx⟩
   ·
    obtain rfl := hbb1.trans hc3
    refine lw_off Z Z Z Z Z Z (lw_off Z Z Z Z Z Z (lw_off Z Z Z Z Z Z (lw_on Z Z Z Z Z Z (ow_pickF Z Z Z (lw_on Z Z Z Z Z Z (ow_move Z Z (lw_on Z Z Z Z Z Z (ow_fieldAddr Z Z Tryd.underlying38 Z (Tryd.sizeOf3 _) (lw_on Z Z Z Z Z Z (ow_load (R := RInt) Z Z (ARep.mono (hl2.trans hl3) (hp1.fld fld_Rule_Action)) (Tryd.sizeOf3 _) (Tryd.isAgg3 _) fun v10 hv10 => ?_))))))))))
    obtain rfl := vint_eq hv10
    refine lw_on Z Z Z Z Z Z (ow_neqI Z Z Z fun bb4 hbb4 => lw_on Z Z Z Z Z Z (ow_move Z Z ?_))
    replace h := cond_some h
    rcases h with ⟨hc6, h⟩ | ⟨hc6, h⟩
    ·
     obtain rfl := hbb4.trans hc6
     refine lw_on Z Z Z Z Z Z (ow_fieldAddr Z Z Tryd.underlying38 Z (Tryd.sizeOf3 _) (lw_on Z Z Z Z Z Z (ow_load (R := RInt) Z Z (ARep.mono (hl2.trans hl3) (hp1.fld fld_Rule_Chain)) (Tryd.sizeOf3 _) (Tryd.isAgg3 _) fun v11 hv11 => ?_)))
     obtain rfl := vint_eq hv11
     refine lw_on Z Z Z Z Z Z (ow_eqlI Z Z Z fun bb5 hbb5 => lw_on Z Z Z Z Z Z (ow_pickT Z Z Z (lw_on Z Z Z Z Z Z (ow_pickF Z Z Z (lw_op Z Z Z (ow_pickT Z Z Z (lw_op Z Z Z (ow_assign Z Z (lw_nil (ew_then (cw_ret ?_)))))))))))
     obtain rfl := sj h
     exact ew_ret (res1 Z (.tmp Z)) ⟨_, Z, ((vbool_of hbb5)), hC3.bx⟩
    ·
     obtain rfl := hbb4.trans hc6
     refine lw_off Z Z Z Z Z Z (lw_off Z Z Z Z Z Z (lw_off Z Z Z Z Z Z (lw_on Z Z Z Z Z Z (ow_pickF Z Z Z (lw_on Z Z Z Z Z Z (ow_pickF Z Z Z (lw_op Z Z Z (ow_pickT Z Z Z (lw_op Z Z Z (ow_assign Z Z (lw_nil (ew_then (cw_ret ?_)))))))))))))
     obtain rfl := sj h
     exact ew_ret (res1 Z (.tmp Z)) ⟨_, Z, ((vbool _)), hC3.bx⟩
  ·
   subst hc2
   refine lw_off Z Z Z Z Z Z (lw_off Z Z Z Z Z Z (lw_off Z Z Z Z Z Z (lw_off Z Z Z Z Z Z (lw_off' Z Z Z Z Z Z (lw_off' Z Z Z Z Z Z (lw_off' Z Z Z Z Z Z (lw_off Z Z Z Z Z Z (lw_off Z Z Z Z Z Z (lw_off' Z Z Z Z Z Z (lw_off' Z Z Z Z Z Z (lw_off' Z Z Z Z Z Z (lw_off' Z Z Z Z Z Z (lw_off' Z Z Z Z Z Z (lw_off' Z Z Z Z Z Z (lw_off' Z Z Z Z Z Z (lw_off' Z Z Z Z Z Z (lw_off Z Z Z Z Z Z (lw_op Z Z Z (ow_pickF Z Z Z (lw_op Z Z Z (ow_assign Z Z (lw_nil (ew_then (cw_ret ?_))))))))))))))))))))))))
   obtain rfl := sj h
   exact ew_ret (res1 Z (.tmp Z)) ⟨_, Z, ((vbool _)), hC3.bx⟩
 ·
  subst hc1
  refine lw_off Z Z Z Z Z Z (lw_off Z Z Z Z Z Z (lw_off Z Z Z Z Z Z (lw_op Z Z Z (ow_pickF Z Z Z (lw_op Z Z Z (ow_move Z Z (lw_off Z Z Z Z Z Z (lw_off Z Z Z Z Z Z (lw_off Z Z Z Z Z Z (lw_off Z Z Z Z Z Z (lw_off' Z Z Z Z Z Z (lw_off' Z Z Z Z Z Z (lw_off' Z Z Z Z Z Z (lw_off Z Z Z Z Z Z (lw_off Z Z Z Z Z Z (lw_off' Z Z Z Z Z Z (lw_off' Z Z Z Z Z Z (lw_off' Z Z Z Z Z Z (lw_off' Z Z Z Z Z Z (lw_off' Z Z Z Z Z Z (lw_off' Z Z Z Z Z Z (lw_off' Z Z Z Z Z Z (lw_off' Z Z Z Z Z Z (lw_off Z Z Z Z Z Z (lw_op Z Z Z (ow_pickF Z Z Z (lw_op Z Z Z (ow_assign Z Z ?_))))))))))))))))))))))))))))
  refine lw_nil (ew_then (cw_ret ?_))
  obtain rfl := sj h
  exact ew_ret (res1 Z (.tmp Z)) ⟨_, Z, ((vbool _)), hC2.bx⟩

theorem w_spec_RulesValid {w : World} {M : Nat → Prop} (hG : ARep (RArr 4 RShape) w M shapes ⟨0, 0, none⟩) (hO : ∀ b, M b → b < w.heap.size) {v0p : Value} {a_list : List Rule} (h0 : VRep (RSlice RRule) w M a_list v0p) {r : Bool} (h : F.spec_RulesValid a_list = some r) :
  Calls Tryd.prog 143 [v0p].toArray w fun e w' => ∃ v, e = .returned v ∧ VRep RBool w' M r v ∧ BX No w w' := by
 have hC : Cx No w M w M := Cx.start hO (fun _ e => e.elim)
 refine walk (N := 19) Tryd.func143 Z Tryd.ntmps143 Z (cw_seq (cw_region (lw_op Z Z Z (ow_assign Z Z (lw_nil (ew_then (cw_seq (cw_seq (cw_region (lw_op Z Z Z (ow_assign Z Z (lw_nil (ew_then ?_)))))))))))))
 replace h := bind_some h
 obtain ⟨lr1, hlr1, h⟩ := h
 refine cw_for hlr1 (fun s a w' => ∃ (M' : Nat → Prop), Fits 19 [(0, v0p), (3, (Zv s))] a ∧ Le w M w' M' ∧ Cx No w M w' M') ?_ ?_ ?_
 · exact fun a ha => ⟨M, ha.sub ⟨Z, Z, Zt⟩, Le.refl _ _, hC⟩
 ·
  rintro k1 a w1 sr1 ⟨M1, hF1, hl1, hC1⟩ hb1 hR1
  refine cw_at (E := [(0, v0p), (3, (Zv k1))]) hF1 (cw_seq (cw_seq (cw_region (lw_op Z Z Z (ow_move Z Z (lw_op Z Z Z (ow_move Z Z (lw_op Z Z Z (ow_len Z Z (VRep.mono hl1 h0) Tryd.underlying39 Z (lw_op Z Z Z (ow_lss Z Z Z fun bb1 hbb1 => lw_nil (ew_then ?_))))))))))))
  replace hb1 := cond_some hb1
  rcases hb1 with ⟨hc1, hb1⟩ | ⟨hc1, hb1⟩
  ·
   obtain rfl := hbb1.trans hc1
   refine cw_true Z (cw_skip (ew_then (cw_seq (cw_block (cw_seq (cw_region (lw_op Z Z Z (ow_move Z Z (lw_op Z Z Z (ow_move Z Z ?_))))))))))
   replace hb1 := bind_some hb1
   obtain ⟨x1, hx1, hb1⟩ := hb1
   refine lw_op Z Z Z (ow_indexSlice (R := RRule) Z Z Z (VRep.mono hl1 h0) Tryd.underlying39 (Tryd.sizeOf38 _) hx1 fun p1 hp1 => lw_op Z Z Z (ow_load (R := RRule) Z Z hp1 (Tryd.sizeOf38 _) (Tryd.isAgg38 _) fun v2 hv2 => ?_))
   replace hb1 := bind_some hb1
   obtain ⟨x2, hx2, hb1⟩ := hb1
   refine lw_op Z Z Z (ow_call Z Z Tryd.call175 (w_spec_RuleValid (hG.mono hl1) hC1.old hv2 hx2) fun v3 w2 hv3 => ?_)
   obtain ⟨hv3, hb2⟩ := hv3
   have hl2 := Le.no M1 hb2
   have hC2 := hC1.no hb2
   obtain rfl := vbool_eq hv3
   refine lw_op Z Z Z (ow_not Z Z (lw_nil (ew_then ?_)))
   replace hb1 := cond_some hb1
   rcases hb1 with ⟨hc2, hb1⟩ | ⟨hc2, hb1⟩
   ·
    subst hc2
    exact cw_false Z (cw_skip (ew_blockN (ew_then (cw_region (lw_op Z Z Z (ow_move Z Z (lw_op Z Z Z (ow_add Z Z Z (lw_op Z Z Z (ow_assign Z Z (lw_nil (ew_nxt (W (k1 + 1)) hb1 fun a ha => ⟨M1, (ha.sub ⟨Z, Z, Zt⟩), (hl1.trans hl2), hC2⟩))))))))))))
   ·
    subst hc2
    refine cw_true Z (cw_seq (cw_region (lw_op Z Z Z (ow_assign Z Z (lw_nil (ew_then (cw_ret (ew_blockR (ew_thenR (ew_thenR (ew_blockR (ew_brkR (ew_thenR ?_)))))))))))))
    have e1 := hR1 _ (sj hb1).symm
    subst e1
    obtain rfl := sj h
    exact ew_ret (res1 Z (.tmp Z)) ⟨_, Z, ((vbool _)), hC2.bx⟩
  ·
   obtain rfl := hbb1.trans hc1
   exact cw_false Z (cw_exit (ew_thenX (ew_thenX (ew_blockX (ew_brk k1 hb1 fun a ha => ⟨M1, (ha.sub ⟨Z, Z, Zt⟩), hl1, hC1⟩)))))
 ·
  rintro k2 a w3 hlr2 ⟨M2, hF2, hl3, hC3⟩
  subst hlr2
  refine ew_at (E := [(0, v0p), (3, (Zv k2))]) hF2 (ew_then (cw_seq (cw_region (lw_op Z Z Z (ow_move Z Z (lw_op Z Z Z (ow_len Z Z (VRep.mono hl3 h0) Tryd.underlying39 Z (lw_op Z Z Z (ow_leq Z Z Z fun bb2 hbb2 => lw_op Z Z Z (ow_assign Z Z (lw_nil (ew_then (cw_ret ?_)))))))))))))
  obtain rfl := sj h
  exact ew_ret (res1 Z (.tmp Z)) ⟨_, Z, ((vbool_of hbb2)), hC3.bx⟩

theorem w_spec_l8Order {w : World} {M : Nat → Prop} (_hG : ARep (RArr 4 RShape) w M shapes ⟨0, 0, none⟩) (hO : ∀ b, M b → b < w.heap.size) {v0p : Value} {a_s : Ruleset} (h0 : VRep RRuleset w M a_s v0p) {r : (List Int)} (h : F.spec_l8Order a_s = some r) :
  Calls Tryd.prog 144 [v0p].toArray w fun e w' => ∃ v, e = .returned v ∧ VRep (RSlice RInt) w' M r v ∧ BX No w w' := by
 obtain ⟨i3, hi3, hz3, hs3, hy3⟩ := info3
 obtain ⟨i4, hi4, hz4, hs4, hy4⟩ := info4
 have hC : Cx No w M w M := Cx.start hO (fun _ e => e.elim)
 clear _hG
 refine walk (N := 74) Tryd.func144 Z Tryd.ntmps144 Z (cw_seq (cw_region (lw_op Z Z Z (ow_box (R := RRuleset) Z Z h0 hC fun p1 w1 hp1 hb1 hl1 hC1 => lw_op Z Z Z (ow_assign Z Z (lw_nil (ew_then (cw_seq (cw_region (lw_op Z Z Z (ow_fieldAddr Z Z Tryd.underlying25 Z (Tryd.sizeOf23 _) (lw_op Z Z Z (ow_load (R := (RSlice (RSlice RRule))) Z Z (hp1.fld fld_Ruleset_Chains) (Tryd.sizeOf23 _) (Tryd.isAgg23 _) fun v1 hv1 => lw_op Z Z Z (ow_len Z Z hv1 Tryd.underlying23 Z ?_))))))))))))))
 replace h := bind_some h
 obtain ⟨mk1, hmk1, h⟩ := h
 refine lw_op Z Z Z (ow_make (R := RBool) Z Z Z Tryd.underlying168 hi4 hz4 hs4 hy4 Z Z (vbool false) hmk1 hC1 fun v2 w2 M1 hr1 hb2 hl2 hC2 hM1 hat1 => lw_op Z Z Z (ow_assign Z Z (lw_nil (ew_then (cw_seq (cw_region (lw_op Z Z Z (ow_buildSlice0 (R := RInt) (e := 3) Z (by kernel_rfl) hC2 fun p2 w3 M2 hr2 hb3 hl3 hC3 hM2 hat2 => ?_))))))))
 have hr3 := hr1.go hb3 (fun _ _ e => e) hl3 hM2
 refine lw_op Z Z Z (ow_assign Z Z (lw_nil (ew_then (cw_seq (cw_seq (cw_region (lw_op Z Z Z (ow_assign Z Z (lw_nil (ew_then ?_))))))))))
 replace h := bind_some h
 obtain ⟨lr1, hlr1, h⟩ := h
 refine cw_for hlr1 (fun s a w' => ∃ (M' : Nat → Prop) (v0c : Value), Fits 74 [(1, (.pointer (some p1))), (3, v2), (4, v0c), (5, (Zv s.2.1))] a ∧ Le w3 M2 w' M' ∧ Cx No w M w' M' ∧ OwnRow RInt w.heap.size 3 w' M' s.1 v0c ∧ OwnRow RBool w.heap.size 4 w' M' s.2.2 v2) ?_ ?_ ?_
 · exact fun a ha => ⟨M2, (.slice (some p2) 0 0), ha.sub ⟨Z, Z, Z, Z, Zt⟩, Le.refl _ _, hC3, hr2, hr3⟩
 ·
  rintro ⟨y1, k1, y2⟩ a w4 sr1 ⟨M3, v3, hF1, hl4, hC4, hw1, hw2⟩ hb4 hR1
  refine cw_at (E := [(1, (.pointer (some p1))), (3, v2), (4, v3), (5, (Zv k1))]) hF1 (cw_seq (cw_seq (cw_region (lw_op Z Z Z (ow_move Z Z (lw_op Z Z Z (ow_fieldAddr Z Z Tryd.underlying25 Z (Tryd.sizeOf23 _) ?_)))))))
  have lz1 := ((hl2.trans hl3).trans hl4)
  refine lw_op Z Z Z (ow_load (R := (RSlice (RSlice RRule))) Z Z (ARep.mono lz1 (hp1.fld fld_Ruleset_Chains)) (Tryd.sizeOf23 _) (Tryd.isAgg23 _) fun v6 hv6 => lw_op Z Z Z (ow_len Z Z hv6 Tryd.underlying23 Z (lw_op Z Z Z (ow_lss Z Z Z fun bb1 hbb1 => lw_nil (ew_then ?_)))))
  replace hb4 := cond_some hb4
  rcases hb4 with ⟨hc1, hb4⟩ | ⟨hc1, hb4⟩
  ·
   obtain rfl := hbb1.trans hc1
   refine cw_true Z (cw_skip (ew_then (cw_seq (cw_block (cw_seq (cw_region (lw_op Z Z Z (ow_assign Z Z (lw_nil (ew_then ?_))))))))))
   replace hb4 := bind_some hb4
   obtain ⟨lr2, hlr2, hb4⟩ := hb4
   refine cw_for hlr2 (fun s a w' => ∃ (M' : Nat → Prop) (v0c : Value), Fits 74 [(1, (.pointer (some p1))), (3, v2), (4, v0c), (5, (Zv k1)), (6, (Zv s.2.1))] a ∧ Le w4 M3 w' M' ∧ Cx No w M w' M' ∧ OwnRow RInt w.heap.size 3 w' M' s.1 v0c ∧ OwnRow RBool w.heap.size 4 w' M' s.2.2 v2) ?_ ?_ ?_
   · exact fun a ha => ⟨M3, v3, ha.sub ⟨Z, Z, Z, Z, Z, Zt⟩, Le.refl _ _, hC4, hw1, hw2⟩
   ·
    rintro ⟨y3, k2, y4⟩ a w5 sr2 ⟨M4, v7, hF2, hl5, hC5, hw3, hw4⟩ hb5 hR2
    refine cw_at (E := [(1, (.pointer (some p1))), (3, v2), (4, v7), (5, (Zv k1)), (6, (Zv k2))]) hF2 (cw_seq (cw_seq (cw_region (lw_op Z Z Z (ow_move Z Z (lw_op Z Z Z (ow_fieldAddr Z Z Tryd.underlying25 Z (Tryd.sizeOf23 _) (lw_op Z Z Z (ow_load (R := (RSlice (RSlice RRule))) Z Z (ARep.mono (lz1.trans hl5) (hp1.fld fld_Ruleset_Chains)) (Tryd.sizeOf23 _) (Tryd.isAgg23 _) fun v10 hv10 => lw_op Z Z Z (ow_len Z Z hv10 Tryd.underlying23 Z (lw_op Z Z Z (ow_lss Z Z Z fun bb2 hbb2 => lw_nil (ew_then ?_)))))))))))))
    replace hb5 := cond_some hb5
    rcases hb5 with ⟨hc2, hb5⟩ | ⟨hc2, hb5⟩
    ·
     obtain rfl := hbb2.trans hc2
     refine cw_true Z (cw_skip (ew_then (cw_seq (cw_block (cw_seq (cw_region (lw_op Z Z Z (ow_move Z Z (lw_op Z Z Z (ow_move Z Z ?_))))))))))
     replace hb5 := bind_some hb5
     obtain ⟨x1, hx1, hb5⟩ := hb5
     refine lw_op Z Z Z (ow_indexRow (R := RBool) Z Z Z hw4 Tryd.underlying168 (Tryd.sizeOf4 _) hx1 (lw_op Z Z Z (ow_loadElRow (R := RBool) (S := RBool) Z Z Z hw4 (orow_blk hw4 hx1) hx1 (Fld.whole RBool) (Tryd.sizeOf4 _) (Tryd.isAgg4 _) fun v11 hv11 => ?_)))
     obtain rfl := vbool_eq hv11
     refine lw_op Z Z Z (ow_not Z Z (lw_op Z Z Z (ow_assign Z Z (lw_nil (ew_then (cw_seq (cw_seq (cw_region (lw_op Z Z Z (ow_assign Z Z (lw_nil (ew_then ?_))))))))))))
     replace hb5 := bind_some hb5
     obtain ⟨lr3, hlr3, hb5⟩ := hb5
     refine cw_for hlr3 (fun s a w' => ∃ (M' : Nat → Prop), Fits 74 [(1, (.pointer (some p1))), (3, v2), (4, v7), (5, (Zv k1)), (6, (Zv k2)), (7, (.bool s.1)), (8, (Zv s.2.1))] a ∧ Le w5 M4 w' M' ∧ Cx No w M w' M' ∧ OwnRow RBool w.heap.size 4 w' M' s.2.2.1 v2 ∧ OwnRow RInt w.heap.size 3 w' M' s.2.2.2 v7) ?_ ?_ ?_
     · exact fun a ha => ⟨M4, ha.sub ⟨Z, Z, Z, Z, Z, Z, Z, Zt⟩, Le.refl _ _, hC5, hw4, hw3⟩
     ·
      rintro ⟨y5, k3, y6, y7⟩ a w6 sr3 ⟨M5, hF3, hl6, hC6, hw5, hw6⟩ hb6 hR3
      refine cw_at (E := [(1, (.pointer (some p1))), (3, v2), (4, v7), (5, (Zv k1)), (6, (Zv k2)), (7, (.bool y5)), (8, (Zv k3))]) hF3 (cw_seq (cw_seq (cw_region (lw_op Z Z Z (ow_move Z Z (lw_op Z Z Z (ow_fieldAddr Z Z Tryd.underlying25 Z (Tryd.sizeOf23 _) ?_)))))))
      have lz2 := ((lz1.trans hl5).trans hl6)
      refine lw_op Z Z Z (ow_load (R := (RSlice (RSlice RRule))) Z Z (ARep.mono lz2 (hp1.fld fld_Ruleset_Chains)) (Tryd.sizeOf23 _) (Tryd.isAgg23 _) fun v16 hv16 => lw_op Z Z Z (ow_move Z Z ?_))
      replace hb6 := bind_some hb6
      obtain ⟨x2, hx2, hb6⟩ := hb6
      refine lw_op Z Z Z (ow_indexSlice (R := (RSlice RRule)) Z Z Z hv16 Tryd.underlying23 (Tryd.sizeOf39 _) hx2 fun p3 hp3 => lw_op Z Z Z (ow_load (R := (RSlice RRule)) Z Z hp3 (Tryd.sizeOf39 _) (Tryd.isAgg39 _) fun v17 hv17 => lw_op Z Z Z (ow_len Z Z hv17 Tryd.underlying39 Z (lw_op Z Z Z (ow_lss Z Z Z fun bb3 hbb3 => lw_nil (ew_then ?_))))))
      replace hb6 := cond_some hb6
      rcases hb6 with ⟨hc3, hb6⟩ | ⟨hc3, hb6⟩
      ·
       obtain rfl := hbb3.trans hc3
       refine cw_true Z (cw_skip (ew_then (cw_seq (cw_block (cw_seq (cw_region (lw_op Z Z Z (ow_fieldAddr Z Z Tryd.underlying25 Z (Tryd.sizeOf23 _) (lw_op Z Z Z (ow_load (R := (RSlice (RSlice RRule))) Z Z (ARep.mono lz2 (hp1.fld fld_Ruleset_Chains)) (Tryd.sizeOf23 _) (Tryd.isAgg23 _) fun v18 hv18 => lw_op Z Z Z (ow_move Z Z (lw_op Z Z Z (ow_indexSlice (R := (RSlice RRule)) Z Z Z hv18 Tryd.underlying23 (Tryd.sizeOf39 _) hx2 fun p4 hp4 => lw_op Z Z Z (ow_load (R := (RSlice RRule)) Z Z hp4 (Tryd.sizeOf39 _) (Tryd.isAgg39 _) fun v19 hv19 => lw_op Z Z Z (ow_move Z Z ?_)))))))))))))))
       replace hb6 := bind_some hb6
       obtain ⟨x3, hx3, hb6⟩ := hb6
       refine lw_op Z Z Z (ow_indexSlice (R := RRule) Z Z Z hv19 Tryd.underlying39 (Tryd.sizeOf38 _) hx3 fun p5 hp5 => lw_op Z Z Z (ow_load (R := RRule) Z Z hp5 (Tryd.sizeOf38 _) (Tryd.isAgg38 _) fun v20 hv20 => lw_allocStore (R := RRule) Z Z Z Z Z Z Z Tryd.zeroValue38 Tryd.sizeOf38 Z Z Z (by simp) hv20 hC6 fun p6 w7 hp6 hb7 hl7 hC7 => ?_))
       have hr4 := hw5.no hb7
       have hr5 := hw6.no hb7
       refine lw_nil (ew_then (cw_region (lw_op Z Z Z (ow_move Z Z (lw_op Z Z Z (ow_move Z Z ?_))))))
       replace hb6 := cond_some hb6
       rcases hb6 with ⟨hc4, hb6⟩ | ⟨hc4, hb6⟩
       ·
        subst hc4
        refine lw_on Z Z Z Z Z Z (ow_fieldAddr Z Z Tryd.underlying38 Z (Tryd.sizeOf3 _) (lw_on Z Z Z Z Z Z (ow_load (R := RInt) Z Z (hp6.fld fld_Rule_Action) (Tryd.sizeOf3 _) (Tryd.isAgg3 _) fun v21 hv21 => ?_)))
        obtain rfl := vint_eq hv21
        refine lw_on Z Z Z Z Z Z (ow_neqI Z Z Z fun bb4 hbb4 => lw_on Z Z Z Z Z Z (ow_move Z Z ?_))
        replace hb6 := cond_some hb6
        rcases hb6 with ⟨hc5, hb6⟩ | ⟨hc5, hb6⟩
        ·
         obtain rfl := hbb4.trans hc5
         exact lw_off Z Z Z Z Z Z (lw_off Z Z Z Z Z Z (lw_off Z Z Z Z Z Z (lw_off Z Z Z Z Z Z (lw_off Z Z Z Z Z Z (lw_on Z Z Z Z Z Z (ow_pickT Z Z Z (lw_op Z Z Z (ow_pickT Z Z Z (lw_op Z Z Z (ow_assign Z Z (lw_nil (ew_blockN (ew_then (cw_region (lw_op Z Z Z (ow_move Z Z (lw_op Z Z Z (ow_add Z Z Z (lw_op Z Z Z (ow_assign Z Z (lw_nil (ew_nxt (true, (W (k3 + 1)), y6, y7) hb6 fun a ha => ⟨M5, (ha.sub ⟨Z, Z, Z, Z, Z, Z, Z, Zt⟩), (hl6.trans hl7), hC7, hr4, hr5⟩))))))))))))))))))))))
        ·
         obtain rfl := hbb4.trans hc5
         refine lw_on Z Z Z Z Z Z (ow_move Z Z (lw_on Z Z Z Z Z Z (ow_fieldAddr Z Z Tryd.underlying38 Z (Tryd.sizeOf3 _) (lw_on Z Z Z Z Z Z (ow_load (R := RInt) Z Z (hp6.fld fld_Rule_Chain) (Tryd.sizeOf3 _) (Tryd.isAgg3 _) fun v22 hv22 => ?_)))))
         obtain rfl := vint_eq hv22
         replace hb6 := bind_some hb6
         obtain ⟨x4, hx4, hb6⟩ := hb6
         refine lw_on Z Z Z Z Z Z (ow_indexRow (R := RBool) Z Z Z hr4 Tryd.underlying168 (Tryd.sizeOf4 _) hx4 (lw_on Z Z Z Z Z Z (ow_loadElRow (R := RBool) (S := RBool) Z Z Z hr4 (orow_blk hr4 hx4) hx4 (Fld.whole RBool) (Tryd.sizeOf4 _) (Tryd.isAgg4 _) fun v23 hv23 => ?_)))
         obtain rfl := vbool_eq hv23
         exact lw_on Z Z Z Z Z Z (ow_pickF Z Z Z (lw_op Z Z Z (ow_pickT Z Z Z (lw_op Z Z Z (ow_assign Z Z (lw_nil (ew_blockN (ew_then (cw_region (lw_op Z Z Z (ow_move Z Z (lw_op Z Z Z (ow_add Z Z Z (lw_op Z Z Z (ow_assign Z Z (lw_nil (ew_nxt (x4, (W (k3 + 1)), y6, y7) hb6 fun a ha => ⟨M5, (ha.sub ⟨Z, Z, Z, Z, Z, Z, Z, Zt⟩), (hl6.trans hl7), hC7, hr4, hr5⟩)))))))))))))))))
       ·
        subst hc4
        exact lw_off Z Z Z Z Z Z (lw_off Z Z Z Z Z Z (lw_off Z Z Z Z Z Z (lw_off Z Z Z Z Z Z (lw_off' Z Z Z Z Z Z (lw_off' Z Z Z Z Z Z (lw_off' Z Z Z Z Z Z (lw_off' Z Z Z Z Z Z (lw_off' Z Z Z Z Z Z (lw_off Z Z Z Z Z Z (lw_op Z Z Z (ow_pickF Z Z Z (lw_op Z Z Z (ow_assign Z Z (lw_nil (ew_blockN (ew_then (cw_region (lw_op Z Z Z (ow_move Z Z (lw_op Z Z Z (ow_add Z Z Z (lw_op Z Z Z (ow_assign Z Z (lw_nil (ew_nxt (false, (W (k3 + 1)), y6, y7) hb6 fun a ha => ⟨M5, (ha.sub ⟨Z, Z, Z, Z, Z, Z, Z, Zt⟩), (hl6.trans hl7), hC7, hr4, hr5⟩)))))))))))))))))))))))))
      ·
       obtain rfl := hbb3.trans hc3
       exact cw_false Z (cw_exit (ew_thenX (ew_thenX (ew_blockX (ew_brk (y5, k3, y6, y7) hb6 fun a ha => ⟨M5, (ha.sub ⟨Z, Z, Z, Z, Z, Z, Z, Zt⟩), hl6, hC6, hw5, hw6⟩)))))
     ·
      rintro ⟨y8, k4, y9, y10⟩ a w8 hlr4 ⟨M6, hF4, hl8, hC8, hw7, hw8⟩
      subst hlr4
      refine ew_at (E := [(1, (.pointer (some p1))), (3, v2), (4, v7), (5, (Zv k1)), (6, (Zv k2)), (7, (.bool y8)), (8, (Zv k4))]) hF4 (ew_then (cw_seq (cw_region (lw_op Z Z Z (ow_move Z Z (lw_nil (ew_then ?_)))))))
      replace hb5 := cond_some hb5
      rcases hb5 with ⟨hc6, hb5⟩ | ⟨hc6, hb5⟩
      ·
       subst hc6
       refine cw_true Z (cw_seq (cw_region (lw_op Z Z Z (ow_move Z Z (lw_op Z Z Z (ow_move Z Z ?_))))))
       replace hb5 := bind_some hb5
       obtain ⟨x5, hx5, hb5⟩ := hb5
       refine lw_op Z Z Z (ow_indexRow (R := RBool) Z Z Z hw7 Tryd.underlying168 (Tryd.sizeOf4 _) hx5 (lw_op0 Z Z (ow_storeElRow (X := No) (R := RBool) (S := RBool) Z Z Z Z hw7 (orow_blk hw7 hx5) hx5 (FldSet.whole RBool) (Tryd.sizeOf4 _) (vbool _) (Nat.le_refl _) hC8 fun w9 ho1 hb8 hl9 hC9 => ?_)))
       have hr6 := hw8.go hb8 (fun k hk e => orow_row_ne hw8 hw7 (by decide) hk (by rw [orow_blk hw7 hx5]; exact congrArg some e.symm)) hl9 (fun _ h => h)
       refine lw_nil (ew_then (cw_region (lw_op Z Z Z (ow_move Z Z (lw_op Z Z Z (ow_move Z Z (lw_op Z Z Z (ow_buildSlice (R := RInt) (xs := [k2]) (cs := #[(Zv k2)]) (e := 3) Z Z (by kernel_rfl) Z Z ⟨_, _, Z, (vint _).cells, Z⟩ hC9 fun p7 w10 hw9 hb9 hl10 hC10 => ?_))))))))
       have hr7 := ho1.no hb9
       have hr8 := hr6.no hb9
       replace hb5 := bind_some hb5
       obtain ⟨z1, hz1, hb5⟩ := hb5
       refine lw_op Z Z Z (ow_append (R := RInt) Z Z Z Z Tryd.underlying34 hi3 hz3 hs3 hy3 Z Z Z Z hr8 hw9 hz1 hC10 fun v28 w11 M7 hr9 hb10 hl11 hC11 hM3 hat3 => ?_)
       have hr10 := hr7.goRow hr8 hb10 hl11 hM3 (by decide)
       refine lw_op Z Z Z (ow_assign Z Z (lw_nil (ew_blockN (ew_then (cw_region (lw_op Z Z Z (ow_move Z Z (lw_op Z Z Z (ow_add Z Z Z (lw_op Z Z Z (ow_assign Z Z (lw_nil ?_))))))))))))
       have lz3 := ((((hl5.trans hl8).trans hl9).trans hl10).trans hl11)
       exact ew_nxt (z1, (W (k2 + 1)), (List.set y9 (k2 : Int).toNat true)) hb5 fun a ha => ⟨M7, v28, (ha.sub ⟨Z, Z, Z, Z, Z, Zt⟩), lz3, hC11, hr9, hr10⟩
      ·
       subst hc6
       exact cw_false Z (cw_skip (ew_blockN (ew_then (cw_region (lw_op Z Z Z (ow_move Z Z (lw_op Z Z Z (ow_add Z Z Z (lw_op Z Z Z (ow_assign Z Z (lw_nil (ew_nxt (y10, (W (k2 + 1)), y9) hb5 fun a ha => ⟨M6, v7, (ha.sub ⟨Z, Z, Z, Z, Z, Zt⟩), (hl5.trans hl8), hC8, hw8, hw7⟩))))))))))))
    ·
     obtain rfl := hbb2.trans hc2
     exact cw_false Z (cw_exit (ew_thenX (ew_thenX (ew_blockX (ew_brk (y3, k2, y4) hb5 fun a ha => ⟨M4, v7, (ha.sub ⟨Z, Z, Z, Z, Z, Zt⟩), hl5, hC5, hw3, hw4⟩)))))
   ·
    rintro ⟨y11, k5, y12⟩ a w12 hlr5 ⟨M8, v29, hF5, hl12, hC12, hw10, hw11⟩
    subst hlr5
    exact ew_at (E := [(1, (.pointer (some p1))), (3, v2), (4, v29), (5, (Zv k1)), (6, (Zv k5))]) hF5 (ew_blockN (ew_then (cw_region (lw_op Z Z Z (ow_move Z Z (lw_op Z Z Z (ow_add Z Z Z (lw_op Z Z Z (ow_assign Z Z (lw_nil (ew_nxt (y11, (W (k1 + 1)), y12) hb4 fun a ha => ⟨M8, v29, (ha.sub ⟨Z, Z, Z, Z, Zt⟩), (hl4.trans hl12), hC12, hw10, hw11⟩)))))))))))
  ·
   obtain rfl := hbb1.trans hc1
   exact cw_false Z (cw_exit (ew_thenX (ew_thenX (ew_blockX (ew_brk (y1, k1, y2) hb4 fun a ha => ⟨M3, v3, (ha.sub ⟨Z, Z, Z, Z, Zt⟩), hl4, hC4, hw1, hw2⟩)))))
 ·
  rintro ⟨y13, k6, y14⟩ a w13 hlr6 ⟨M9, v32, hF6, hl13, hC13, hw12, hw13⟩
  subst hlr6
  refine ew_at (E := [(1, (.pointer (some p1))), (3, v2), (4, v32), (5, (Zv k6))]) hF6 (ew_then (cw_seq (cw_region (lw_op Z Z Z (ow_move Z Z (lw_op Z Z Z (ow_assign Z Z (lw_nil (ew_then (cw_ret ?_))))))))))
  obtain rfl := sj h
  exact ew_ret (res1 Z (.tmp Z)) ⟨_, Z, (hw12.freezeBack hC13 hO), hC13.bx⟩

theorem w_spec_RulesetValid {w : World} {M : Nat → Prop} (hG : ARep (RArr 4 RShape) w M shapes ⟨0, 0, none⟩) (hO : ∀ b, M b → b < w.heap.size) {v0p : Value} {a_s : Ruleset} (h0 : VRep RRuleset w M a_s v0p) {r : Bool} (h : F.spec_RulesetValid a_s = some r) :
  Calls Tryd.prog 80 [v0p].toArray w fun e w' => ∃ v, e = .returned v ∧ VRep RBool w' M r v ∧ BX No w w' := by
 have hC : Cx No w M w M := Cx.start hO (fun _ e => e.elim)
 refine walk (N := 55) Tryd.func80 Z Tryd.ntmps80 Z (cw_seq (cw_region (lw_op Z Z Z (ow_box (R := RRuleset) Z Z h0 hC fun p1 w1 hp1 hb1 hl1 hC1 => lw_op Z Z Z (ow_assign Z Z (lw_nil (ew_then (cw_seq (cw_seq (cw_region (lw_op Z Z Z (ow_assign Z Z (lw_nil (ew_then ?_))))))))))))))
 replace h := bind_some h
 obtain ⟨lr1, hlr1, h⟩ := h
 refine cw_for hlr1 (fun s a w' => ∃ (M' : Nat → Prop), Fits 55 [(1, (.pointer (some p1))), (3, (Zv s))] a ∧ Le w1 M w' M' ∧ Cx No w M w' M') ?_ ?_ ?_
 · exact fun a ha => ⟨M, ha.sub ⟨Z, Z, Zt⟩, Le.refl _ _, hC1⟩
 ·
  rintro k1 a w2 sr1 ⟨M1, hF1, hl2, hC2⟩ hb2 hR1
  refine cw_at (E := [(1, (.pointer (some p1))), (3, (Zv k1))]) hF1 (cw_seq (cw_seq (cw_region (lw_op Z Z Z (ow_move Z Z (lw_op Z Z Z (ow_fieldAddr Z Z Tryd.underlying25 Z (Tryd.sizeOf23 _) (lw_op Z Z Z (ow_load (R := (RSlice (RSlice RRule))) Z Z (ARep.mono hl2 (hp1.fld fld_Ruleset_Chains)) (Tryd.sizeOf23 _) (Tryd.isAgg23 _) fun v2 hv2 => lw_op Z Z Z (ow_len Z Z hv2 Tryd.underlying23 Z (lw_op Z Z Z (ow_lss Z Z Z fun bb1 hbb1 => lw_nil (ew_then ?_)))))))))))))
  replace hb2 := cond_some hb2
  rcases hb2 with ⟨hc1, hb2⟩ | ⟨hc1, hb2⟩
  ·
   obtain rfl := hbb1.trans hc1
   refine cw_true Z (cw_skip (ew_then (cw_seq (cw_block (cw_seq (cw_seq (cw_region (lw_op Z Z Z (ow_fieldAddr Z Z Tryd.underlying25 Z (Tryd.sizeOf23 _) (lw_op Z Z Z (ow_load (R := (RSlice (RSlice RRule))) Z Z (ARep.mono hl2 (hp1.fld fld_Ruleset_Chains)) (Tryd.sizeOf23 _) (Tryd.isAgg23 _) fun v3 hv3 => lw_op Z Z Z (ow_move Z Z ?_))))))))))))
   replace hb2 := bind_some hb2
   obtain ⟨x1, hx1, hb2⟩ := hb2
   refine lw_op Z Z Z (ow_indexSlice (R := (RSlice RRule)) Z Z Z hv3 Tryd.underlying23 (Tryd.sizeOf39 _) hx1 fun p2 hp2 => lw_op Z Z Z (ow_load (R := (RSlice RRule)) Z Z hp2 (Tryd.sizeOf39 _) (Tryd.isAgg39 _) fun v4 hv4 => ?_))
   replace hb2 := bind_some hb2
   obtain ⟨x2, hx2, hb2⟩ := hb2
   refine lw_op Z Z Z (ow_call Z Z Tryd.call143 (w_spec_RulesValid (hG.mono (hl1.trans hl2)) hC2.old hv4 hx2) fun v5 w3 hv5 => ?_)
   obtain ⟨hv5, hb3⟩ := hv5
   have hl3 := Le.no M1 hb3
   have hC3 := hC2.no hb3
   obtain rfl := vbool_eq hv5
   refine lw_op Z Z Z (ow_not Z Z (lw_nil (ew_then ?_)))
   replace hb2 := cond_some hb2
   rcases hb2 with ⟨hc2, hb2⟩ | ⟨hc2, hb2⟩
   ·
    subst hc2
    refine cw_false Z (cw_skip (ew_then (cw_seq (cw_region (lw_op Z Z Z (ow_assign Z Z (lw_nil (ew_then ?_))))))))
    replace hb2 := bind_some hb2
    obtain ⟨lr2, hlr2, hb2⟩ := hb2
    refine cw_for hlr2 (fun s a w' => ∃ (M' : Nat → Prop), Fits 55 [(1, (.pointer (some p1))), (3, (Zv k1)), (4, (Zv s))] a ∧ Le w3 M1 w' M' ∧ Cx No w M w' M') ?_ ?_ ?_
    · exact fun a ha => ⟨M1, ha.sub ⟨Z, Z, Z, Zt⟩, Le.refl _ _, hC3⟩
    ·
     rintro k2 a w4 sr2 ⟨M2, hF2, hl4, hC4⟩ hb4 hR2
     refine cw_at (E := [(1, (.pointer (some p1))), (3, (Zv k1)), (4, (Zv k2))]) hF2 (cw_seq (cw_seq (cw_region (lw_op Z Z Z (ow_move Z Z (lw_op Z Z Z (ow_fieldAddr Z Z Tryd.underlying25 Z (Tryd.sizeOf23 _) ?_)))))))
     have lz1 := ((hl2.trans hl3).trans hl4)
     refine lw_op Z Z Z (ow_load (R := (RSlice (RSlice RRule))) Z Z (ARep.mono lz1 (hp1.fld fld_Ruleset_Chains)) (Tryd.sizeOf23 _) (Tryd.isAgg23 _) fun v7 hv7 => lw_op Z Z Z (ow_move Z Z (lw_op Z Z Z (ow_indexSlice (R := (RSlice RRule)) Z Z Z hv7 Tryd.underlying23 (Tryd.sizeOf39 _) hx1 fun p3 hp3 => lw_op Z Z Z (ow_load (R := (RSlice RRule)) Z Z hp3 (Tryd.sizeOf39 _) (Tryd.isAgg39 _) fun v8 hv8 => lw_op Z Z Z (ow_len Z Z hv8 Tryd.underlying39 Z (lw_op Z Z Z (ow_lss Z Z Z fun bb2 hbb2 => lw_nil (ew_then ?_)))))))))
     replace hb4 := cond_some hb4
     rcases hb4 with ⟨hc3, hb4⟩ | ⟨hc3, hb4⟩
     ·
      obtain rfl := hbb2.trans hc3
      refine cw_true Z (cw_skip (ew_then (cw_seq (cw_block (cw_seq ?_)))))
      replace hb4 := bind_some hb4
      obtain ⟨x3, hx3, hb4⟩ := hb4
      refine cw_sub (E' := [(1, (.pointer (some p1))), (3, (Zv k1)), (4, (Zv k2))]) ⟨Z, Z, Z, Zt⟩ (cw_drawQ 12 [PA (RSlice (RSlice RRule)) M2 a_s.Chains, PV (RSlice (RSlice RRule)) M2 a_s.Chains, PEq (Zv k1), PA (RSlice RRule) M2 x1, PV (RSlice RRule) M2 x1, PEq (Zv k2), PA RRule M2 x3, PA RInt M2 x3.Chain, PEq (Zv x3.Chain), PA (RSlice (RSlice RRule)) M2 a_s.Chains, PV (RSlice (RSlice RRule)) M2 a_s.Chains, PEq (Zv (a_s.Chains.length : Int))] (by kernel_rfl) Z (by kernel_rfl) ⟨PA.mono _ _ _, PV.mono _ _ _, Zq, PA.mono _ _ _, PV.mono _ _ _, Zq, PA.mono _ _ _, PA.mono _ _ _, Zq, PA.mono _ _ _, PV.mono _ _ _, Zq, Zt⟩ ⟨?_, ?_, ?_, ?_, ?_, ?_, ?_, ?_, ?_, ?_, ?_, ?_, Zt⟩ ?_)
      ·
       intro w5 D hS1 hd1
       have hl5 := Le.no M2 hS1
       exact dg_sub (E' := [(1, (.pointer (some p1)))]) ⟨Z, Zt⟩ (dg_plain Z (ow_fieldAddr Z Z Tryd.underlying25 Z (Tryd.sizeOf23 _) ⟨BX.refl _ _, ⟨_, Z, (ARep.mono (lz1.trans hl5) (hp1.fld fld_Ruleset_Chains))⟩⟩))
      ·
       intro w6 D hS2 hd2
       have d1 : PA (RSlice (RSlice RRule)) M2 a_s.Chains (D 0) w6 := dpA hd2 0 Z
       obtain ⟨p6, e1, ha1⟩ := d1
       exact dg_sub (E' := [(29, (.pointer (some p6)))]) ⟨congrArg some e1, Zt⟩ (dg_plain Z (ow_load (R := (RSlice (RSlice RRule))) Z Z ha1 (Tryd.sizeOf23 _) (Tryd.isAgg23 _) fun v13 hv13 => ⟨BX.refl _ _, hv13⟩))
      · exact fun w7 D hS3 hd3 => dg_sub (E' := [(3, (Zv k1))]) ⟨Z, Zt⟩ (dg_plain Z (ow_move Z Z Zb))
      ·
       intro w8 D hS4 hd4
       have d2 : PV (RSlice (RSlice RRule)) M2 a_s.Chains (D 1) w8 := dpA hd4 1 Z
       generalize hq1 : (D 1) = v14 at d2
       exact dg_sub (E' := [(30, v14), (31, (Zv k1))]) ⟨congrArg some hq1, dpE hd4 2 Z Z, Zt⟩ (dg_plain Z (ow_indexSlice (R := (RSlice RRule)) Z Z Z d2 Tryd.underlying23 (Tryd.sizeOf39 _) hx1 fun p7 hp7 => ⟨BX.refl _ _, ⟨_, Z, hp7⟩⟩))
      ·
       intro w9 D hS5 hd5
       have d4 : PA (RSlice RRule) M2 x1 (D 3) w9 := dpA hd5 3 Z
       obtain ⟨p8, e2, ha2⟩ := d4
       exact dg_sub (E' := [(32, (.pointer (some p8)))]) ⟨congrArg some e2, Zt⟩ (dg_plain Z (ow_load (R := (RSlice RRule)) Z Z ha2 (Tryd.sizeOf39 _) (Tryd.isAgg39 _) fun v15 hv15 => ⟨BX.refl _ _, hv15⟩))
      · exact fun w10 D hS6 hd6 => dg_sub (E' := [(4, (Zv k2))]) ⟨Z, Zt⟩ (dg_plain Z (ow_move Z Z Zb))
      ·
       intro w11 D hS7 hd7
       have d5 : PV (RSlice RRule) M2 x1 (D 4) w11 := dpA hd7 4 Z
       generalize hq2 : (D 4) = v16 at d5
       exact dg_sub (E' := [(33, v16), (34, (Zv k2))]) ⟨congrArg some hq2, dpE hd7 5 Z Z, Zt⟩ (dg_plain Z (ow_indexSlice (R := RRule) Z Z Z d5 Tryd.underlying39 (Tryd.sizeOf38 _) hx3 fun p9 hp9 => ⟨BX.refl _ _, ⟨_, Z, hp9⟩⟩))
      ·
       intro w12 D hS8 hd8
       have d7 : PA RRule M2 x3 (D 6) w12 := dpA hd8 6 Z
       obtain ⟨p10, e3, ha3⟩ := d7
       exact dg_sub (E' := [(35, (.pointer (some p10)))]) ⟨congrArg some e3, Zt⟩ (dg_plain Z (ow_fieldAddr Z Z Tryd.underlying38 Z (Tryd.sizeOf3 _) ⟨BX.refl _ _, ⟨_, Z, (ha3.fld fld_Rule_Chain)⟩⟩))
      ·
       intro w13 D hS9 hd9
       have d8 : PA RInt M2 x3.Chain (D 7) w13 := dpA hd9 7 Z
       obtain ⟨p11, e4, ha4⟩ := d8
       refine dg_sub (E' := [(36, (.pointer (some p11)))]) ⟨congrArg some e4, Zt⟩ (dg_plain Z (ow_load (R := RInt) Z Z ha4 (Tryd.sizeOf3 _) (Tryd.isAgg3 _) fun v17 hv17 => ?_))
       obtain rfl := vint_eq hv17
       exact Zb
      ·
       intro w14 D hS10 hd10
       have hl14 := Le.no M2 hS10
       exact dg_sub (E' := [(1, (.pointer (some p1)))]) ⟨Z, Zt⟩ (dg_plain Z (ow_fieldAddr Z Z Tryd.underlying25 Z (Tryd.sizeOf23 _) ⟨BX.refl _ _, ⟨_, Z, (ARep.mono (lz1.trans hl14) (hp1.fld fld_Ruleset_Chains))⟩⟩))
      ·
       intro w15 D hS11 hd11
       have d9 : PA (RSlice (RSlice RRule)) M2 a_s.Chains (D 9) w15 := dpA hd11 9 Z
       obtain ⟨p12, e5, ha5⟩ := d9
       exact dg_sub (E' := [(38, (.pointer (some p12)))]) ⟨congrArg some e5, Zt⟩ (dg_plain Z (ow_load (R := (RSlice (RSlice RRule))) Z Z ha5 (Tryd.sizeOf23 _) (Tryd.isAgg23 _) fun v18 hv18 => ⟨BX.refl _ _, hv18⟩))
      ·
       intro w16 D hS12 hd12
       have d10 : PV (RSlice (RSlice RRule)) M2 a_s.Chains (D 10) w16 := dpA hd12 10 Z
       generalize hq3 : (D 10) = v19 at d10
       exact dg_sub (E' := [(39, v19)]) ⟨congrArg some hq3, Zt⟩ (dg_plain Z (ow_len Z Z d10 Tryd.underlying23 Z Zb))
      ·
       intro w17 D hS13 hd13
       have hl17 := Le.no M2 hS13
       have hC17 := hC4.no hS13
       refine lw_sub (E' := [(37, (Zv x3.Chain)), (40, (Zv (a_s.Chains.length : Int))), (1, (.pointer (some p1))), (3, (Zv k1)), (4, (Zv k2))]) ⟨dpE hd13 8 Z Z, dpE hd13 11 Z Z, Z, Z, Z, Zt⟩ (lw_op Z Z Z (ow_geq Z Z Z fun bb3 hbb3 => lw_nil (ew_then ?_)))
       replace hb4 := cond_some hb4
       rcases hb4 with ⟨hc4, hb4⟩ | ⟨hc4, hb4⟩
       ·
        obtain rfl := hbb3.trans hc4
        refine cw_true Z (cw_seq (cw_region (lw_op Z Z Z (ow_assign Z Z (lw_nil (ew_then (cw_ret (ew_blockR (ew_thenR (ew_thenR (ew_blockR (ew_brkR (ew_blockR (ew_thenR (ew_thenR (ew_blockR (ew_brkR (ew_thenR ?_))))))))))))))))))
        have e6 := hR2 _ (sj hb4).symm
        subst e6
        have e7 := hR1 _ (sj hb2).symm
        subst e7
        obtain rfl := sj h
        exact ew_ret (res1 Z (.tmp Z)) ⟨_, Z, ((vbool _)), hC17.bx⟩
       ·
        obtain rfl := hbb3.trans hc4
        exact cw_false Z (cw_skip (ew_blockN (ew_then (cw_region (lw_op Z Z Z (ow_move Z Z (lw_op Z Z Z (ow_add Z Z Z (lw_op Z Z Z (ow_assign Z Z (lw_nil (ew_nxt (W (k2 + 1)) hb4 fun a ha => ⟨M2, (ha.sub ⟨Z, Z, Z, Zt⟩), (hl4.trans hl17), hC17⟩))))))))))))
     ·
      obtain rfl := hbb2.trans hc3
      exact cw_false Z (cw_exit (ew_thenX (ew_thenX (ew_blockX (ew_brk k2 hb4 fun a ha => ⟨M2, (ha.sub ⟨Z, Z, Z, Zt⟩), hl4, hC4⟩)))))
    ·
     rintro k3 a w18 hlr3 ⟨M3, hF3, hl18, hC18⟩
     subst hlr3
     refine ew_at (E := [(1, (.pointer (some p1))), (3, (Zv k1)), (4, (Zv k3))]) hF3 (ew_blockN (ew_then (cw_region (lw_op Z Z Z (ow_move Z Z (lw_op Z Z Z (ow_add Z Z Z (lw_op Z Z Z (ow_assign Z Z (lw_nil ?_))))))))))
     have lz3 := ((hl2.trans hl3).trans hl18)
     exact ew_nxt (W (k1 + 1)) hb2 fun a ha => ⟨M3, (ha.sub ⟨Z, Z, Zt⟩), lz3, hC18⟩
   ·
    subst hc2
    refine cw_true Z (cw_seq (cw_region (lw_op Z Z Z (ow_assign Z Z (lw_nil (ew_then (cw_ret (ew_thenR (ew_blockR (ew_thenR (ew_thenR (ew_blockR (ew_brkR (ew_thenR ?_))))))))))))))
    have e8 := hR1 _ (sj hb2).symm
    subst e8
    obtain rfl := sj h
    exact ew_ret (res1 Z (.tmp Z)) ⟨_, Z, ((vbool _)), hC3.bx⟩
  ·
   obtain rfl := hbb1.trans hc1
   exact cw_false Z (cw_exit (ew_thenX (ew_thenX (ew_blockX (ew_brk k1 hb2 fun a ha => ⟨M1, (ha.sub ⟨Z, Z, Zt⟩), hl2, hC2⟩)))))
 ·
  rintro k4 a w19 hlr4 ⟨M4, hF4, hl19, hC19⟩
  subst hlr4
  refine ew_at (E := [(1, (.pointer (some p1))), (3, (Zv k4))]) hF4 (ew_then (cw_seq ?_))
  replace h := bind_some h
  obtain ⟨x4, hx4, h⟩ := h
  replace h := cond_some h
  rcases h with ⟨hc5, h⟩ | ⟨hc5, h⟩
  ·
   subst hc5
   replace h := bind_some h
   obtain ⟨x5, hx5, h⟩ := h
   have lz4 := (hl1.trans hl19)
   refine cw_sub (E' := [(1, (.pointer (some p1)))]) ⟨Z, Zt⟩ (cw_drawQ 11 [PA (RSlice (RSlice RRule)) M4 a_s.Chains, PV (RSlice (RSlice RRule)) M4 a_s.Chains, PEq (Zv (a_s.Chains.length : Int)), PEq (.bool true), PEq (.bool true), PV RRuleset M4 a_s, PV (RSlice RInt) M4 x5, PEq (Zv (x5.length : Int)), PA (RSlice (RSlice RRule)) M4 a_s.Chains, PV (RSlice (RSlice RRule)) M4 a_s.Chains, PEq (Zv (a_s.Chains.length : Int))] (by kernel_rfl) Z (by kernel_rfl) ⟨PA.mono _ _ _, PV.mono _ _ _, Zq, Zq, Zq, PV.mono _ _ _, PV.mono _ _ _, Zq, PA.mono _ _ _, PV.mono _ _ _, Zq, Zt⟩ ⟨?_, ?_, ?_, ?_, ?_, ?_, ?_, ?_, ?_, ?_, ?_, Zt⟩ ?_)
   ·
    intro w22 D hS14 hd14
    have hl22 := Le.no M4 hS14
    exact dg_sub (E' := [(1, (.pointer (some p1)))]) ⟨Z, Zt⟩ (dg_plain Z (ow_fieldAddr Z Z Tryd.underlying25 Z (Tryd.sizeOf23 _) ⟨BX.refl _ _, ⟨_, Z, (ARep.mono (hl19.trans hl22) (hp1.fld fld_Ruleset_Chains))⟩⟩))
   ·
    intro w23 D hS15 hd15
    have d23 : PA (RSlice (RSlice RRule)) M4 a_s.Chains (D 0) w23 := dpA hd15 0 Z
    obtain ⟨p13, e9, ha6⟩ := d23
    exact dg_sub (E' := [(42, (.pointer (some p13)))]) ⟨congrArg some e9, Zt⟩ (dg_plain Z (ow_load (R := (RSlice (RSlice RRule))) Z Z ha6 (Tryd.sizeOf23 _) (Tryd.isAgg23 _) fun v27 hv27 => ⟨BX.refl _ _, hv27⟩))
   ·
    intro w24 D hS16 hd16
    have d24 : PV (RSlice (RSlice RRule)) M4 a_s.Chains (D 1) w24 := dpA hd16 1 Z
    generalize hq4 : (D 1) = v28 at d24
    exact dg_sub (E' := [(43, v28)]) ⟨congrArg some hq4, Zt⟩ (dg_plain Z (ow_len Z Z d24 Tryd.underlying23 Z Zb))
   ·
    intro w25 D hS17 hd17
    have hl25 := Le.no M4 hS17
    have hC25 := hC19.no hS17
    refine dg_sub (E' := [(44, (Zv (a_s.Chains.length : Int)))]) ⟨dpE hd17 2 Z Z, Zt⟩ (dg_plain Z (ow_call Z Z Tryd.call118 (w_spec_l1In (hG.mono (lz4.trans hl25)) hC25.old hx4) fun v29 w26 hv29 => ?_))
    obtain ⟨hv29, hb7⟩ := hv29
    obtain rfl := vbool_eq hv29
    exact ⟨hb7, Z⟩
   · exact fun w27 D hS18 hd18 => dg_sub (E' := [(45, (.bool true))]) ⟨dpE hd18 3 Z Z, Zt⟩ (dg_plain Z (ow_move Z Z Zb))
   ·
    intro w28 D hS19 hd19
    have hl28 := Le.no M4 hS19
    exact dg_sub (E' := [(46, (.bool true)), (1, (.pointer (some p1)))]) ⟨dpE hd19 4 Z Z, Z, Zt⟩ (dg_on Z Z Z Z (ow_load (R := RRuleset) Z Z (ARep.mono (hl19.trans hl28) hp1) (Tryd.sizeOf25 _) (Tryd.isAgg25 _) fun v30 hv30 => ⟨BX.refl _ _, hv30⟩))
   ·
    intro w29 D hS20 hd20
    have hl29 := Le.no M4 hS20
    have hC29 := hC19.no hS20
    have d29 : PV RRuleset M4 a_s (D 5) w29 := dpA hd20 5 Z
    generalize hq5 : (D 5) = v31 at d29
    refine dg_sub (E' := [(47, v31), (46, (.bool true))]) ⟨congrArg some hq5, dpE hd20 4 Z Z, Zt⟩ (dg_on Z Z Z Z (ow_call Z Z Tryd.call144 (w_spec_l8Order (hG.mono (lz4.trans hl29)) hC29.old d29 hx5) fun v32 w30 hv32 => ?_))
    obtain ⟨hv32, hb8⟩ := hv32
    exact ⟨hb8, hv32⟩
   ·
    intro w31 D hS21 hd21
    have d32 : PV (RSlice RInt) M4 x5 (D 6) w31 := dpA hd21 6 Z
    generalize hq6 : (D 6) = v33 at d32
    exact dg_sub (E' := [(48, v33), (46, (.bool true))]) ⟨congrArg some hq6, dpE hd21 4 Z Z, Zt⟩ (dg_on Z Z Z Z (ow_len Z Z d32 Tryd.underlying34 Z Zb))
   ·
    intro w32 D hS22 hd22
    have hl32 := Le.no M4 hS22
    exact dg_sub (E' := [(46, (.bool true)), (1, (.pointer (some p1)))]) ⟨dpE hd22 4 Z Z, Z, Zt⟩ (dg_on Z Z Z Z (ow_fieldAddr Z Z Tryd.underlying25 Z (Tryd.sizeOf23 _) ⟨BX.refl _ _, ⟨_, Z, (ARep.mono (hl19.trans hl32) (hp1.fld fld_Ruleset_Chains))⟩⟩))
   ·
    intro w33 D hS23 hd23
    have d35 : PA (RSlice (RSlice RRule)) M4 a_s.Chains (D 8) w33 := dpA hd23 8 Z
    obtain ⟨p14, e10, ha7⟩ := d35
    exact dg_sub (E' := [(50, (.pointer (some p14))), (46, (.bool true))]) ⟨congrArg some e10, dpE hd23 4 Z Z, Zt⟩ (dg_on Z Z Z Z (ow_load (R := (RSlice (RSlice RRule))) Z Z ha7 (Tryd.sizeOf23 _) (Tryd.isAgg23 _) fun v34 hv34 => ⟨BX.refl _ _, hv34⟩))
   ·
    intro w34 D hS24 hd24
    have d37 : PV (RSlice (RSlice RRule)) M4 a_s.Chains (D 9) w34 := dpA hd24 9 Z
    generalize hq7 : (D 9) = v35 at d37
    exact dg_sub (E' := [(51, v35), (46, (.bool true))]) ⟨congrArg some hq7, dpE hd24 4 Z Z, Zt⟩ (dg_on Z Z Z Z (ow_len Z Z d37 Tryd.underlying23 Z Zb))
   ·
    intro w35 D hS25 hd25
    have hC35 := hC19.no hS25
    refine lw_sub (E' := [(46, (.bool true)), (49, (Zv (x5.length : Int))), (52, (Zv (a_s.Chains.length : Int))), (1, (.pointer (some p1)))]) ⟨dpE hd25 4 Z Z, dpE hd25 7 Z Z, dpE hd25 10 Z Z, Z, Zt⟩ (lw_on Z Z Z Z Z Z (ow_eqlI Z Z Z fun bb4 hbb4 => lw_op Z Z Z (ow_pickT Z Z Z (lw_op Z Z Z (ow_assign Z Z (lw_nil (ew_then (cw_ret ?_))))))))
    obtain rfl := sj h
    exact ew_ret (res1 Z (.tmp Z)) ⟨_, Z, ((vbool_of hbb4)), hC35.bx⟩
  ·
   subst hc5
   have lz5 := (hl1.trans hl19)
   refine cw_sub (E' := [(1, (.pointer (some p1)))]) ⟨Z, Zt⟩ (cw_drawQ 11 [PA (RSlice (RSlice RRule)) M4 a_s.Chains, PV (RSlice (RSlice RRule)) M4 a_s.Chains, PEq (Zv (a_s.Chains.length : Int)), PEq (.bool false), PEq (.bool false), PEq undef, PEq undef, PEq undef, PEq undef, PEq undef, PEq undef] (by kernel_rfl) Z (by kernel_rfl) ⟨PA.mono _ _ _, PV.mono _ _ _, Zq, Zq, Zq, Zq, Zq, Zq, Zq, Zq, Zq, Zt⟩ ⟨?_, ?_, ?_, ?_, ?_, ?_, ?_, ?_, ?_, ?_, ?_, Zt⟩ ?_)
   ·
    intro w36 D hS26 hd26
    have hl36 := Le.no M4 hS26
    exact dg_sub (E' := [(1, (.pointer (some p1)))]) ⟨Z, Zt⟩ (dg_plain Z (ow_fieldAddr Z Z Tryd.underlying25 Z (Tryd.sizeOf23 _) ⟨BX.refl _ _, ⟨_, Z, (ARep.mono (hl19.trans hl36) (hp1.fld fld_Ruleset_Chains))⟩⟩))
   ·
    intro w37 D hS27 hd27
    have d50 : PA (RSlice (RSlice RRule)) M4 a_s.Chains (D 0) w37 := dpA hd27 0 Z
    obtain ⟨p15, e11, ha8⟩ := d50
    exact dg_sub (E' := [(42, (.pointer (some p15)))]) ⟨congrArg some e11, Zt⟩ (dg_plain Z (ow_load (R := (RSlice (RSlice RRule))) Z Z ha8 (Tryd.sizeOf23 _) (Tryd.isAgg23 _) fun v36 hv36 => ⟨BX.refl _ _, hv36⟩))
   ·
    intro w38 D hS28 hd28
    have d51 : PV (RSlice (RSlice RRule)) M4 a_s.Chains (D 1) w38 := dpA hd28 1 Z
    generalize hq8 : (D 1) = v37 at d51
    exact dg_sub (E' := [(43, v37)]) ⟨congrArg some hq8, Zt⟩ (dg_plain Z (ow_len Z Z d51 Tryd.underlying23 Z Zb))
   ·
    intro w39 D hS29 hd29
    have hl39 := Le.no M4 hS29
    have hC39 := hC19.no hS29
    refine dg_sub (E' := [(44, (Zv (a_s.Chains.length : Int)))]) ⟨dpE hd29 2 Z Z, Zt⟩ (dg_plain Z (ow_call Z Z Tryd.call118 (w_spec_l1In (hG.mono (lz5.trans hl39)) hC39.old hx4) fun v38 w40 hv38 => ?_))
    obtain ⟨hv38, hb9⟩ := hv38
    obtain rfl := vbool_eq hv38
    exact ⟨hb9, Z⟩
   · exact fun w41 D hS30 hd30 => dg_sub (E' := [(45, (.bool false))]) ⟨dpE hd30 3 Z Z, Zt⟩ (dg_plain Z (ow_move Z Z Zb))
   · exact fun w42 D hS31 hd31 => dg_sub (E' := [(46, (.bool false)), (1, (.pointer (some p1)))]) ⟨dpE hd31 4 Z Z, Z, Zt⟩ (dg_off Z Z Z Z Zb)
   · exact fun w43 D hS32 hd32 => dg_sub (E' := [(47, undef), (46, (.bool false))]) ⟨dpE hd32 5 Z Z, dpE hd32 4 Z Z, Zt⟩ (dg_off Z Z Z Z Zb)
   · exact fun w44 D hS33 hd33 => dg_sub (E' := [(48, undef), (46, (.bool false))]) ⟨dpE hd33 6 Z Z, dpE hd33 4 Z Z, Zt⟩ (dg_off Z Z Z Z Zb)
   · exact fun w45 D hS34 hd34 => dg_sub (E' := [(46, (.bool false)), (1, (.pointer (some p1)))]) ⟨dpE hd34 4 Z Z, Z, Zt⟩ (dg_off Z Z Z Z Zb)
   · exact fun w46 D hS35 hd35 => dg_sub (E' := [(50, undef), (46, (.bool false))]) ⟨dpE hd35 8 Z Z, dpE hd35 4 Z Z, Zt⟩ (dg_off Z Z Z Z Zb)
   · exact fun w47 D hS36 hd36 => dg_sub (E' := [(51, undef), (46, (.bool false))]) ⟨dpE hd36 9 Z Z, dpE hd36 4 Z Z, Zt⟩ (dg_off Z Z Z Z Zb)
   ·
    intro w48 D hS37 hd37
    have hC48 := hC19.no hS37
    refine lw_sub (E' := [(46, (.bool false)), (49, undef), (52, undef), (1, (.pointer (some p1)))]) ⟨dpE hd37 4 Z Z, dpE hd37 7 Z Z, dpE hd37 10 Z Z, Z, Zt⟩ (lw_off Z Z Z Z Z Z (lw_op Z Z Z (ow_pickF Z Z Z (lw_op Z Z Z (ow_assign Z Z (lw_nil (ew_then (cw_ret ?_))))))))
    obtain rfl := sj h
    exact ew_ret (res1 Z (.tmp Z)) ⟨_, Z, ((vbool _)), hC48.bx⟩

theorem w_spec_PacketValid {w : World} {M : Nat → Prop} (hG : ARep (RArr 4 RShape) w M shapes ⟨0, 0, none⟩) (hO : ∀ b, M b → b < w.heap.size) {v0p : Value} {a_p : Packet} (h0 : VRep RPacket w M a_p v0p) {r : Bool} (h : F.spec_PacketValid a_p = some r) :
  Calls Tryd.prog 81 [v0p].toArray w fun e w' => ∃ v, e = .returned v ∧ VRep RBool w' M r v ∧ BX No w w' := by
 have hC : Cx No w M w M := Cx.start hO (fun _ e => e.elim)
 refine walk (N := 21) Tryd.func81 Z Tryd.ntmps81 Z (cw_seq (cw_region (lw_op Z Z Z (ow_box (R := RPacket) Z Z h0 hC fun p1 w1 hp1 hb1 hl1 hC1 => lw_op Z Z Z (ow_assign Z Z (lw_nil (ew_then (cw_seq (cw_region (lw_op Z Z Z (ow_fieldAddr Z Z Tryd.underlying27 Z (Tryd.sizeOf3 _) (lw_op Z Z Z (ow_load (R := RInt) Z Z (hp1.fld fld_Packet_From) (Tryd.sizeOf3 _) (Tryd.isAgg3 _) fun v1 hv1 => ?_)))))))))))))
 obtain rfl := vint_eq hv1
 replace h := bind_some h
 obtain ⟨x1, hx1, h⟩ := h
 refine lw_op Z Z Z (ow_call Z Z Tryd.call118 (w_spec_l1In (hG.mono hl1) hC1.old hx1) fun v2 w2 hv2 => ?_)
 obtain ⟨hv2, hb2⟩ := hv2
 have hl2 := Le.no M hb2
 have hC2 := hC1.no hb2
 obtain rfl := vbool_eq hv2
 refine lw_op Z Z Z (ow_move Z Z ?_)
 replace h := cond_some h
 rcases h with ⟨hc1, h⟩ | ⟨hc1, h⟩
 ·
  subst hc1
  refine lw_on Z Z Z Z Z Z (ow_fieldAddr Z Z Tryd.underlying27 Z (Tryd.sizeOf3 _) (lw_on Z Z Z Z Z Z (ow_load (R := RInt) Z Z (ARep.mono hl2 (hp1.fld fld_Packet_To)) (Tryd.sizeOf3 _) (Tryd.isAgg3 _) fun v3 hv3 => ?_)))
  obtain rfl := vint_eq hv3
  replace h := bind_some h
  obtain ⟨x2, hx2, h⟩ := h
  refine lw_on Z Z Z Z Z Z (ow_call Z Z Tryd.call118 (w_spec_l1In (hG.mono (hl1.trans hl2)) hC2.old hx2) fun v4 w3 hv4 => ?_)
  obtain ⟨hv4, hb3⟩ := hv4
  have hl3 := Le.no M hb3
  have hC3 := hC2.no hb3
  obtain rfl := vbool_eq hv4
  refine lw_op Z Z Z (ow_pickT Z Z Z (lw_op Z Z Z (ow_move Z Z ?_)))
  replace h := cond_some h
  rcases h with ⟨hc2, h⟩ | ⟨hc2, h⟩
  ·
   subst hc2
   refine lw_on Z Z Z Z Z Z (ow_fieldAddr Z Z Tryd.underlying27 Z (Tryd.sizeOf3 _) (lw_on Z Z Z Z Z Z (ow_load (R := RInt) Z Z (ARep.mono (hl2.trans hl3) (hp1.fld fld_Packet_Port)) (Tryd.sizeOf3 _) (Tryd.isAgg3 _) fun v5 hv5 => ?_)))
   obtain rfl := vint_eq hv5
   replace h := bind_some h
   obtain ⟨x3, hx3, h⟩ := h
   have lz1 := ((hl1.trans hl2).trans hl3)
   refine lw_on Z Z Z Z Z Z (ow_call Z Z Tryd.call118 (w_spec_l1In (hG.mono lz1) hC3.old hx3) fun v6 w4 hv6 => ?_)
   obtain ⟨hv6, hb4⟩ := hv6
   have hl4 := Le.no M hb4
   have hC4 := hC3.no hb4
   obtain rfl := vbool_eq hv6
   refine lw_op Z Z Z (ow_pickT Z Z Z (lw_op Z Z Z (ow_move Z Z ?_)))
   replace h := cond_some h
   rcases h with ⟨hc3, h⟩ | ⟨hc3, h⟩
   ·
    subst hc3
    refine lw_on Z Z Z Z Z Z (ow_fieldAddr Z Z Tryd.underlying27 Z (Tryd.sizeOf3 _) ?_)
    have lz2 := ((hl2.trans hl3).trans hl4)
    refine lw_on Z Z Z Z Z Z (ow_load (R := RInt) Z Z (ARep.mono lz2 (hp1.fld fld_Packet_Proto)) (Tryd.sizeOf3 _) (Tryd.isAgg3 _) fun v7 hv7 => ?_)
    obtain rfl := vint_eq hv7
    replace h := bind_some h
    obtain ⟨x4, hx4, h⟩ := h
    refine lw_on Z Z Z Z Z Z (ow_call Z Z Tryd.call118 (w_spec_l1In (hG.mono (lz1.trans hl4)) hC4.old hx4) fun v8 w5 hv8 => ?_)
    obtain ⟨hv8, hb5⟩ := hv8
    have hC5 := hC4.no hb5
    obtain rfl := vbool_eq hv8
    refine lw_op Z Z Z (ow_pickT Z Z Z (lw_op Z Z Z (ow_assign Z Z (lw_nil (ew_then (cw_ret ?_))))))
    obtain rfl := sj h
    exact ew_ret (res1 Z (.tmp Z)) ⟨_, Z, ((vbool _)), hC5.bx⟩
   ·
    subst hc3
    refine lw_off Z Z Z Z Z Z (lw_off Z Z Z Z Z Z (lw_off Z Z Z Z Z Z (lw_op Z Z Z (ow_pickF Z Z Z (lw_op Z Z Z (ow_assign Z Z (lw_nil (ew_then (cw_ret ?_)))))))))
    obtain rfl := sj h
    exact ew_ret (res1 Z (.tmp Z)) ⟨_, Z, ((vbool _)), hC4.bx⟩
  ·
   subst hc2
   refine lw_off Z Z Z Z Z Z (lw_off Z Z Z Z Z Z (lw_off Z Z Z Z Z Z (lw_op Z Z Z (ow_pickF Z Z Z (lw_op Z Z Z (ow_move Z Z (lw_off Z Z Z Z Z Z (lw_off Z Z Z Z Z Z (lw_off Z Z Z Z Z Z (lw_op Z Z Z (ow_pickF Z Z Z (lw_op Z Z Z (ow_assign Z Z (lw_nil (ew_then (cw_ret ?_))))))))))))))))
   obtain rfl := sj h
   exact ew_ret (res1 Z (.tmp Z)) ⟨_, Z, ((vbool _)), hC3.bx⟩
 ·
  subst hc1
  refine lw_off Z Z Z Z Z Z (lw_off Z Z Z Z Z Z (lw_off Z Z Z Z Z Z (lw_op Z Z Z (ow_pickF Z Z Z (lw_op Z Z Z (ow_move Z Z (lw_off Z Z Z Z Z Z (lw_off Z Z Z Z Z Z (lw_off Z Z Z Z Z Z (lw_op Z Z Z (ow_pickF Z Z Z (lw_op Z Z Z (ow_move Z Z (lw_off Z Z Z Z Z Z (lw_off Z Z Z Z Z Z (lw_off Z Z Z Z Z Z (lw_op Z Z Z (ow_pickF Z Z Z (lw_op Z Z Z (ow_assign Z Z (lw_nil (ew_then (cw_ret ?_)))))))))))))))))))))))
  obtain rfl := sj h
  exact ew_ret (res1 Z (.tmp Z)) ⟨_, Z, ((vbool _)), hC2.bx⟩

theorem w_spec_PacketField {w : World} {M : Nat → Prop} (hG : ARep (RArr 4 RShape) w M shapes ⟨0, 0, none⟩) (hO : ∀ b, M b → b < w.heap.size) {v0p : Value} {a_p : Packet} (h0 : VRep RPacket w M a_p v0p) {a_n : Int} {r : Int} (h : F.spec_PacketField a_p a_n = some r) :
  Calls Tryd.prog 195 [v0p, (.int .i64 a_n)].toArray w fun e w' => ∃ v, e = .returned v ∧ VRep RInt w' M r v ∧ BX No w w' := by
 have hC : Cx No w M w M := Cx.start hO (fun _ e => e.elim)
 refine walk (N := 25) Tryd.func195 Z Tryd.ntmps195 Z (cw_seq (cw_region (lw_op Z Z Z (ow_box (R := RPacket) Z Z h0 hC fun p1 w1 hp1 hb1 hl1 hC1 => lw_op Z Z Z (ow_assign Z Z (lw_nil (ew_then (cw_seq (cw_seq (cw_region (lw_op Z Z Z (ow_load (R := RPacket) Z Z hp1 (Tryd.sizeOf27 _) (Tryd.isAgg27 _) fun v1 hv1 => ?_))))))))))))
 replace h := bind_some h
 obtain ⟨x1, hx1, h⟩ := h
 refine lw_op Z Z Z (ow_call Z Z Tryd.call81 (w_spec_PacketValid (hG.mono hl1) hC1.old hv1 hx1) fun v2 w2 hv2 => ?_)
 obtain ⟨hv2, hb2⟩ := hv2
 have hl2 := Le.no M hb2
 have hC2 := hC1.no hb2
 obtain rfl := vbool_eq hv2
 refine lw_op Z Z Z (ow_not Z Z (lw_op Z Z Z (ow_move Z Z ?_)))
 replace h := cond_some h
 rcases h with ⟨hc1, h⟩ | ⟨hc1, h⟩
 ·
  subst hc1
  refine lw_on Z Z Z Z Z Z (ow_move Z Z ?_)
  replace h := bind_some h
  obtain ⟨x2, hx2, h⟩ := h
  refine lw_on Z Z Z Z Z Z (ow_call Z Z Tryd.call118 (w_spec_l1In (hG.mono (hl1.trans hl2)) hC2.old hx2) fun v3 w3 hv3 => ?_)
  obtain ⟨hv3, hb3⟩ := hv3
  have hl3 := Le.no M hb3
  have hC3 := hC2.no hb3
  obtain rfl := vbool_eq hv3
  refine lw_on Z Z Z Z Z Z (ow_not Z Z (lw_op Z Z Z (ow_pickF Z Z Z (lw_nil (ew_then ?_)))))
  replace h := cond_some h
  rcases h with ⟨hc2, h⟩ | ⟨hc2, h⟩
  ·
   subst hc2
   refine cw_false Z (cw_skip (ew_then (cw_seq (cw_region (lw_op Z Z Z (ow_fieldAddr Z Z Tryd.underlying27 Z (Tryd.sizeOf3 _) (lw_op Z Z Z (ow_load (R := RInt) Z Z (ARep.mono (hl2.trans hl3) (hp1.fld fld_Packet_From)) (Tryd.sizeOf3 _) (Tryd.isAgg3 _) fun v4 hv4 => ?_))))))))
   obtain rfl := vint_eq hv4
   refine lw_op Z Z Z (ow_fieldAddr Z Z Tryd.underlying27 Z (Tryd.sizeOf3 _) (lw_op Z Z Z (ow_load (R := RInt) Z Z (ARep.mono (hl2.trans hl3) (hp1.fld fld_Packet_To)) (Tryd.sizeOf3 _) (Tryd.isAgg3 _) fun v5 hv5 => ?_)))
   obtain rfl := vint_eq hv5
   refine lw_op Z Z Z (ow_fieldAddr Z Z Tryd.underlying27 Z (Tryd.sizeOf3 _) (lw_op Z Z Z (ow_load (R := RInt) Z Z (ARep.mono (hl2.trans hl3) (hp1.fld fld_Packet_Port)) (Tryd.sizeOf3 _) (Tryd.isAgg3 _) fun v6 hv6 => ?_)))
   obtain rfl := vint_eq hv6
   refine lw_op Z Z Z (ow_fieldAddr Z Z Tryd.underlying27 Z (Tryd.sizeOf3 _) (lw_op Z Z Z (ow_load (R := RInt) Z Z (ARep.mono (hl2.trans hl3) (hp1.fld fld_Packet_Proto)) (Tryd.sizeOf3 _) (Tryd.isAgg3 _) fun v7 hv7 => ?_)))
   obtain rfl := vint_eq hv7
   refine lw_op Z Z Z (ow_buildSlice (R := RInt) (xs := [a_p.From, a_p.To, a_p.Port, a_p.Proto]) (cs := #[(Zv a_p.From), (Zv a_p.To), (Zv a_p.Port), (Zv a_p.Proto)]) (e := 3) Z Z (by kernel_rfl) Z Z ⟨_, _, Z, (vint _).cells, _, _, Z, (vint _).cells, _, _, Z, (vint _).cells, _, _, Z, (vint _).cells, Z⟩ hC3 fun p2 w4 hw1 hb4 hl4 hC4 => lw_op Z Z Z (ow_move Z Z ?_))
   replace h := bind_some h
   obtain ⟨x3, hx3, h⟩ := h
   refine lw_op Z Z Z (ow_indexSlice (R := RInt) Z Z Z hw1 Tryd.underlying34 (Tryd.sizeOf3 _) hx3 fun p3 hp3 => lw_op Z Z Z (ow_load (R := RInt) Z Z hp3 (Tryd.sizeOf3 _) (Tryd.isAgg3 _) fun v8 hv8 => ?_))
   obtain rfl := vint_eq hv8
   refine lw_op Z Z Z (ow_assign Z Z (lw_nil (ew_then (cw_ret ?_))))
   obtain rfl := sj h
   exact ew_ret (res1 Z (.tmp Z)) ⟨_, Z, ((vint _)), hC4.bx⟩
  ·
   subst hc2
   refine cw_true Z (cw_seq (cw_region (lw_op Z Z Z (ow_assign Z Z (lw_nil (ew_then (cw_ret (ew_thenR ?_))))))))
   obtain rfl := sj h
   exact ew_ret (res1 Z (.tmp Z)) ⟨_, Z, ((vint _)), hC3.bx⟩
 ·
  subst hc1
  refine lw_off Z Z Z Z Z Z (lw_off Z Z Z Z Z Z (lw_off Z Z Z Z Z Z (lw_op Z Z Z (ow_pickT Z Z Z (lw_nil (ew_then (cw_true Z (cw_seq (cw_region (lw_op Z Z Z (ow_assign Z Z (lw_nil (ew_then (cw_ret (ew_thenR ?_)))))))))))))))
  obtain rfl := sj h
  exact ew_ret (res1 Z (.tmp Z)) ⟨_, Z, ((vint _)), hC2.bx⟩

theorem w_spec_TestHolds {w : World} {M : Nat → Prop} (hG : ARep (RArr 4 RShape) w M shapes ⟨0, 0, none⟩) (hO : ∀ b, M b → b < w.heap.size) {v0p : Value} {a_t : Test} (h0 : VRep RTest w M a_t v0p) {v1p : Value} {a_p : Packet} (h1 : VRep RPacket w M a_p v1p) {r : Bool} (h : F.spec_TestHolds a_t a_p = some r) :
  Calls Tryd.prog 176 [v0p, v1p].toArray w fun e w' => ∃ v, e = .returned v ∧ VRep RBool w' M r v ∧ BX No w w' := by
 have hC : Cx No w M w M := Cx.start hO (fun _ e => e.elim)
 refine walk (N := 25) Tryd.func176 Z Tryd.ntmps176 Z (cw_seq (cw_region (lw_op Z Z Z (ow_box (R := RTest) Z Z h0 hC fun p1 w1 hp1 hb1 hl1 hC1 => lw_op Z Z Z (ow_box (R := RPacket) Z Z (VRep.mono hl1 h1) hC1 fun p2 w2 hp2 hb2 hl2 hC2 => lw_op Z Z Z (ow_assign Z Z (lw_nil (ew_then (cw_seq ?_)))))))))
 replace h := bind_some h
 obtain ⟨x1, hx1, h⟩ := h
 replace h := cond_some h
 rcases h with ⟨hc1, h⟩ | ⟨hc1, h⟩
 ·
  subst hc1
  replace h := bind_some h
  obtain ⟨x2, hx2, h⟩ := h
  replace h := cond_some h
  rcases h with ⟨hc2, h⟩ | ⟨hc2, h⟩
  ·
   subst hc2
   replace h := bind_some h
   obtain ⟨x3, hx3, h⟩ := h
   replace h := bind_some h
   obtain ⟨x4, hx4, h⟩ := h
   have lz1 := (hl1.trans hl2)
   refine cw_sub (E' := [(2, (.pointer (some p1))), (3, (.pointer (some p2))), (4, (.bool false))]) ⟨Z, Z, Z, Zt⟩ (cw_drawQ 18 [PV RTest M a_t, PEq (.bool true), PEq (.bool true), PV RPacket M a_p, PEq (.bool true), PEq (.bool true), PEq (.bool true), PV RPacket M a_p, PA RInt M a_t.Field, PEq (Zv a_t.Field), PEq (Zv x3), PA RInt M a_t.Lo, PEq (Zv a_t.Lo), PA RInt M a_t.Hi, PEq (Zv a_t.Hi), PEq (.bool x4), PA RBool M a_t.Not, PEq (.bool a_t.Not)] (by kernel_rfl) Z (by kernel_rfl) ⟨PV.mono _ _ _, Zq, Zq, PV.mono _ _ _, Zq, Zq, Zq, PV.mono _ _ _, PA.mono _ _ _, Zq, Zq, PA.mono _ _ _, Zq, PA.mono _ _ _, Zq, Zq, PA.mono _ _ _, Zq, Zt⟩ ⟨?_, ?_, ?_, ?_, ?_, ?_, ?_, ?_, ?_, ?_, ?_, ?_, ?_, ?_, ?_, ?_, ?_, ?_, Zt⟩ ?_)
   ·
    intro w7 D hS1 hd1
    have hl7 := Le.no M hS1
    exact dg_sub (E' := [(2, (.pointer (some p1)))]) ⟨Z, Zt⟩ (dg_plain Z (ow_load (R := RTest) Z Z (ARep.mono (hl2.trans hl7) hp1) (Tryd.sizeOf128 _) (Tryd.isAgg128 _) fun v12 hv12 => ⟨BX.refl _ _, hv12⟩))
   ·
    intro w8 D hS2 hd2
    have hl8 := Le.no M hS2
    have hC8 := hC2.no hS2
    have d1 : PV RTest M a_t (D 0) w8 := dpA hd2 0 Z
    generalize hq1 : (D 0) = v13 at d1
    refine dg_sub (E' := [(5, v13)]) ⟨congrArg some hq1, Zt⟩ (dg_plain Z (ow_call Z Z Tryd.call157 (w_spec_TestValid (hG.mono (lz1.trans hl8)) hC8.old d1 hx1) fun v14 w9 hv14 => ?_))
    obtain ⟨hv14, hb7⟩ := hv14
    obtain rfl := vbool_eq hv14
    exact ⟨hb7, Z⟩
   · exact fun w10 D hS3 hd3 => dg_sub (E' := [(6, (.bool true))]) ⟨dpE hd3 1 Z Z, Zt⟩ (dg_plain Z (ow_move Z Z Zb))
   ·
    intro w11 D hS4 hd4
    have hl11 := Le.no M hS4
    exact dg_sub (E' := [(7, (.bool true)), (3, (.pointer (some p2)))]) ⟨dpE hd4 2 Z Z, Z, Zt⟩ (dg_on Z Z Z Z (ow_load (R := RPacket) Z Z (ARep.mono hl11 hp2) (Tryd.sizeOf27 _) (Tryd.isAgg27 _) fun v15 hv15 => ⟨BX.refl _ _, hv15⟩))
   ·
    intro w12 D hS5 hd5
    have hl12 := Le.no M hS5
    have hC12 := hC2.no hS5
    have d5 : PV RPacket M a_p (D 3) w12 := dpA hd5 3 Z
    generalize hq2 : (D 3) = v16 at d5
    refine dg_sub (E' := [(8, v16), (7, (.bool true))]) ⟨congrArg some hq2, dpE hd5 2 Z Z, Zt⟩ (dg_on Z Z Z Z (ow_call Z Z Tryd.call81 (w_spec_PacketValid (hG.mono (lz1.trans hl12)) hC12.old d5 hx2) fun v17 w13 hv17 => ?_))
    obtain ⟨hv17, hb8⟩ := hv17
    obtain rfl := vbool_eq hv17
    exact ⟨hb8, Z⟩
   · exact fun w14 D hS6 hd6 => dg_sub (E' := [(7, (.bool true)), (9, (.bool true))]) ⟨dpE hd6 2 Z Z, dpE hd6 4 Z Z, Zt⟩ (dg_plain Z (ow_pickT Z Z Z Zb))
   · exact fun w15 D hS7 hd7 => dg_sub (E' := [(10, (.bool true))]) ⟨dpE hd7 5 Z Z, Zt⟩ (dg_plain Z (ow_move Z Z Zb))
   ·
    intro w16 D hS8 hd8
    have hl16 := Le.no M hS8
    exact dg_sub (E' := [(11, (.bool true)), (3, (.pointer (some p2)))]) ⟨dpE hd8 6 Z Z, Z, Zt⟩ (dg_on Z Z Z Z (ow_load (R := RPacket) Z Z (ARep.mono hl16 hp2) (Tryd.sizeOf27 _) (Tryd.isAgg27 _) fun v18 hv18 => ⟨BX.refl _ _, hv18⟩))
   ·
    intro w17 D hS9 hd9
    have hl17 := Le.no M hS9
    exact dg_sub (E' := [(11, (.bool true)), (2, (.pointer (some p1)))]) ⟨dpE hd9 6 Z Z, Z, Zt⟩ (dg_on Z Z Z Z (ow_fieldAddr Z Z Tryd.underlying128 Z (Tryd.sizeOf3 _) ⟨BX.refl _ _, ⟨_, Z, (ARep.mono (hl2.trans hl17) (hp1.fld fld_Test_Field))⟩⟩))
   ·
    intro w18 D hS10 hd10
    have d14 : PA RInt M a_t.Field (D 8) w18 := dpA hd10 8 Z
    obtain ⟨p3, e1, ha1⟩ := d14
    refine dg_sub (E' := [(13, (.pointer (some p3))), (11, (.bool true))]) ⟨congrArg some e1, dpE hd10 6 Z Z, Zt⟩ (dg_on Z Z Z Z (ow_load (R := RInt) Z Z ha1 (Tryd.sizeOf3 _) (Tryd.isAgg3 _) fun v19 hv19 => ?_))
    obtain rfl := vint_eq hv19
    exact Zb
   ·
    intro w19 D hS11 hd11
    have hl19 := Le.no M hS11
    have hC19 := hC2.no hS11
    have d16 : PV RPacket M a_p (D 7) w19 := dpA hd11 7 Z
    generalize hq3 : (D 7) = v20 at d16
    refine dg_sub (E' := [(12, v20), (14, (Zv a_t.Field)), (11, (.bool true))]) ⟨congrArg some hq3, dpE hd11 9 Z Z, dpE hd11 6 Z Z, Zt⟩ (dg_on Z Z Z Z (ow_call Z Z Tryd.call195 (w_spec_PacketField (hG.mono (lz1.trans hl19)) hC19.old d16 hx3) fun v21 w20 hv21 => ?_))
    obtain ⟨hv21, hb9⟩ := hv21
    obtain rfl := vint_eq hv21
    exact ⟨hb9, Z⟩
   ·
    intro w21 D hS12 hd12
    have hl21 := Le.no M hS12
    exact dg_sub (E' := [(11, (.bool true)), (2, (.pointer (some p1)))]) ⟨dpE hd12 6 Z Z, Z, Zt⟩ (dg_on Z Z Z Z (ow_fieldAddr Z Z Tryd.underlying128 Z (Tryd.sizeOf3 _) ⟨BX.refl _ _, ⟨_, Z, (ARep.mono (hl2.trans hl21) (hp1.fld fld_Test_Lo))⟩⟩))
   ·
    intro w22 D hS13 hd13
    have d21 : PA RInt M a_t.Lo (D 11) w22 := dpA hd13 11 Z
    obtain ⟨p4, e2, ha2⟩ := d21
    refine dg_sub (E' := [(16, (.pointer (some p4))), (11, (.bool true))]) ⟨congrArg some e2, dpE hd13 6 Z Z, Zt⟩ (dg_on Z Z Z Z (ow_load (R := RInt) Z Z ha2 (Tryd.sizeOf3 _) (Tryd.isAgg3 _) fun v22 hv22 => ?_))
    obtain rfl := vint_eq hv22
    exact Zb
   ·
    intro w23 D hS14 hd14
    have hl23 := Le.no M hS14
    exact dg_sub (E' := [(11, (.bool true)), (2, (.pointer (some p1)))]) ⟨dpE hd14 6 Z Z, Z, Zt⟩ (dg_on Z Z Z Z (ow_fieldAddr Z Z Tryd.underlying128 Z (Tryd.sizeOf3 _) ⟨BX.refl _ _, ⟨_, Z, (ARep.mono (hl2.trans hl23) (hp1.fld fld_Test_Hi))⟩⟩))
   ·
    intro w24 D hS15 hd15
    have d24 : PA RInt M a_t.Hi (D 13) w24 := dpA hd15 13 Z
    obtain ⟨p5, e3, ha3⟩ := d24
    refine dg_sub (E' := [(18, (.pointer (some p5))), (11, (.bool true))]) ⟨congrArg some e3, dpE hd15 6 Z Z, Zt⟩ (dg_on Z Z Z Z (ow_load (R := RInt) Z Z ha3 (Tryd.sizeOf3 _) (Tryd.isAgg3 _) fun v23 hv23 => ?_))
    obtain rfl := vint_eq hv23
    exact Zb
   ·
    intro w25 D hS16 hd16
    have hl25 := Le.no M hS16
    have hC25 := hC2.no hS16
    refine dg_sub (E' := [(15, (Zv x3)), (17, (Zv a_t.Lo)), (19, (Zv a_t.Hi)), (11, (.bool true))]) ⟨dpE hd16 10 Z Z, dpE hd16 12 Z Z, dpE hd16 14 Z Z, dpE hd16 6 Z Z, Zt⟩ (dg_on Z Z Z Z (ow_call Z Z Tryd.call118 (w_spec_l1In (hG.mono (lz1.trans hl25)) hC25.old hx4) fun v24 w26 hv24 => ?_))
    obtain ⟨hv24, hb10⟩ := hv24
    obtain rfl := vbool_eq hv24
    exact ⟨hb10, Z⟩
   ·
    intro w27 D hS17 hd17
    have hl27 := Le.no M hS17
    exact dg_sub (E' := [(11, (.bool true)), (2, (.pointer (some p1)))]) ⟨dpE hd17 6 Z Z, Z, Zt⟩ (dg_on Z Z Z Z (ow_fieldAddr Z Z Tryd.underlying128 Z (Tryd.sizeOf4 _) ⟨BX.refl _ _, ⟨_, Z, (ARep.mono (hl2.trans hl27) (hp1.fld fld_Test_Not))⟩⟩))
   ·
    intro w28 D hS18 hd18
    have d32 : PA RBool M a_t.Not (D 16) w28 := dpA hd18 16 Z
    obtain ⟨p6, e4, ha4⟩ := d32
    refine dg_sub (E' := [(21, (.pointer (some p6))), (11, (.bool true))]) ⟨congrArg some e4, dpE hd18 6 Z Z, Zt⟩ (dg_on Z Z Z Z (ow_load (R := RBool) Z Z ha4 (Tryd.sizeOf4 _) (Tryd.isAgg4 _) fun v25 hv25 => ?_))
    obtain ⟨bb2, hbb2, rfl⟩ := vbool_ex hv25
    exact ⟨BX.refl _ _, (congrArg Value.bool hbb2)⟩
   ·
    intro w29 D hS19 hd19
    have d49 : PEq (.bool x4) (D 15) w29 := dpA hd19 15 Z
    have d51 : PEq (.bool a_t.Not) (D 17) w29 := dpA hd19 17 Z
    have hC29 := hC2.no hS19
    obtain ⟨bb3, hq4, hq5⟩ : ∃ b, b = x4 ∧ (D 15) = .bool b := ⟨_, rfl, d49⟩
    obtain ⟨bb4, hq6, hq7⟩ : ∃ b, b = a_t.Not ∧ (D 17) = .bool b := ⟨_, rfl, d51⟩
    refine lw_sub (E' := [(11, (.bool true)), (20, (.bool bb3)), (22, (.bool bb4)), (2, (.pointer (some p1))), (3, (.pointer (some p2))), (4, (.bool false))]) ⟨dpE hd19 6 Z Z, congrArg some hq5, congrArg some hq7, Z, Z, Z, Zt⟩ (lw_on Z Z Z Z Z Z (ow_neqB Z Z Z Tryd.underlying4 fun bb5 hbb5 => ?_))
    have hbb5' : bb5 = (x4 != a_t.Not) := hbb5.trans (by rw [hq4, hq6])
    refine lw_op Z Z Z (ow_pickT Z Z Z (lw_op Z Z Z (ow_assign Z Z (lw_nil (ew_then (cw_ret ?_))))))
    obtain rfl := sj h
    exact ew_ret (res1 Z (.tmp Z)) ⟨_, Z, ((vbool_of hbb5')), hC29.bx⟩
  ·
   subst hc2
   have lz2 := (hl1.trans hl2)
   refine cw_sub (E' := [(2, (.pointer (some p1))), (3, (.pointer (some p2))), (4, (.bool false))]) ⟨Z, Z, Z, Zt⟩ (cw_drawQ 18 [PV RTest M a_t, PEq (.bool true), PEq (.bool true), PV RPacket M a_p, PEq (.bool false), PEq (.bool false), PEq (.bool false), PEq undef, PEq undef, PEq undef, PEq undef, PEq undef, PEq undef, PEq undef, PEq undef, PEq undef, PEq undef, PEq undef] (by kernel_rfl) Z (by kernel_rfl) ⟨PV.mono _ _ _, Zq, Zq, PV.mono _ _ _, Zq, Zq, Zq, Zq, Zq, Zq, Zq, Zq, Zq, Zq, Zq, Zq, Zq, Zq, Zt⟩ ⟨?_, ?_, ?_, ?_, ?_, ?_, ?_, ?_, ?_, ?_, ?_, ?_, ?_, ?_, ?_, ?_, ?_, ?_, Zt⟩ ?_)
   ·
    intro w30 D hS20 hd20
    have hl30 := Le.no M hS20
    exact dg_sub (E' := [(2, (.pointer (some p1)))]) ⟨Z, Zt⟩ (dg_plain Z (ow_load (R := RTest) Z Z (ARep.mono (hl2.trans hl30) hp1) (Tryd.sizeOf128 _) (Tryd.isAgg128 _) fun v26 hv26 => ⟨BX.refl _ _, hv26⟩))
   ·
    intro w31 D hS21 hd21
    have hl31 := Le.no M hS21
    have hC31 := hC2.no hS21
    have d52 : PV RTest M a_t (D 0) w31 := dpA hd21 0 Z
    generalize hq8 : (D 0) = v27 at d52
    refine dg_sub (E' := [(5, v27)]) ⟨congrArg some hq8, Zt⟩ (dg_plain Z (ow_call Z Z Tryd.call157 (w_spec_TestValid (hG.mono (lz2.trans hl31)) hC31.old d52 hx1) fun v28 w32 hv28 => ?_))
    obtain ⟨hv28, hb11⟩ := hv28
    obtain rfl := vbool_eq hv28
    exact ⟨hb11, Z⟩
   · exact fun w33 D hS22 hd22 => dg_sub (E' := [(6, (.bool true))]) ⟨dpE hd22 1 Z Z, Zt⟩ (dg_plain Z (ow_move Z Z Zb))
   ·
    intro w34 D hS23 hd23
    have hl34 := Le.no M hS23
    exact dg_sub (E' := [(7, (.bool true)), (3, (.pointer (some p2)))]) ⟨dpE hd23 2 Z Z, Z, Zt⟩ (dg_on Z Z Z Z (ow_load (R := RPacket) Z Z (ARep.mono hl34 hp2) (Tryd.sizeOf27 _) (Tryd.isAgg27 _) fun v29 hv29 => ⟨BX.refl _ _, hv29⟩))
   ·
    intro w35 D hS24 hd24
    have hl35 := Le.no M hS24
    have hC35 := hC2.no hS24
    have d56 : PV RPacket M a_p (D 3) w35 := dpA hd24 3 Z
    generalize hq9 : (D 3) = v30 at d56
    refine dg_sub (E' := [(8, v30), (7, (.bool true))]) ⟨congrArg some hq9, dpE hd24 2 Z Z, Zt⟩ (dg_on Z Z Z Z (ow_call Z Z Tryd.call81 (w_spec_PacketValid (hG.mono (lz2.trans hl35)) hC35.old d56 hx2) fun v31 w36 hv31 => ?_))
    obtain ⟨hv31, hb12⟩ := hv31
    obtain rfl := vbool_eq hv31
    exact ⟨hb12, Z⟩
   · exact fun w37 D hS25 hd25 => dg_sub (E' := [(7, (.bool true)), (9, (.bool false))]) ⟨dpE hd25 2 Z Z, dpE hd25 4 Z Z, Zt⟩ (dg_plain Z (ow_pickT Z Z Z Zb))
   · exact fun w38 D hS26 hd26 => dg_sub (E' := [(10, (.bool false))]) ⟨dpE hd26 5 Z Z, Zt⟩ (dg_plain Z (ow_move Z Z Zb))
   · exact fun w39 D hS27 hd27 => dg_sub (E' := [(11, (.bool false)), (3, (.pointer (some p2)))]) ⟨dpE hd27 6 Z Z, Z, Zt⟩ (dg_off Z Z Z Z Zb)
   · exact fun w40 D hS28 hd28 => dg_sub (E' := [(11, (.bool false)), (2, (.pointer (some p1)))]) ⟨dpE hd28 6 Z Z, Z, Zt⟩ (dg_off Z Z Z Z Zb)
   · exact fun w41 D hS29 hd29 => dg_sub (E' := [(13, undef), (11, (.bool false))]) ⟨dpE hd29 8 Z Z, dpE hd29 6 Z Z, Zt⟩ (dg_off Z Z Z Z Zb)
   · exact fun w42 D hS30 hd30 => dg_sub (E' := [(12, undef), (14, undef), (11, (.bool false))]) ⟨dpE hd30 7 Z Z, dpE hd30 9 Z Z, dpE hd30 6 Z Z, Zt⟩ (dg_off Z Z Z Z Zb)
   · exact fun w43 D hS31 hd31 => dg_sub (E' := [(11, (.bool false)), (2, (.pointer (some p1)))]) ⟨dpE hd31 6 Z Z, Z, Zt⟩ (dg_off Z Z Z Z Zb)
   · exact fun w44 D hS32 hd32 => dg_sub (E' := [(16, undef), (11, (.bool false))]) ⟨dpE hd32 11 Z Z, dpE hd32 6 Z Z, Zt⟩ (dg_off Z Z Z Z Zb)
   · exact fun w45 D hS33 hd33 => dg_sub (E' := [(11, (.bool false)), (2, (.pointer (some p1)))]) ⟨dpE hd33 6 Z Z, Z, Zt⟩ (dg_off Z Z Z Z Zb)
   · exact fun w46 D hS34 hd34 => dg_sub (E' := [(18, undef), (11, (.bool false))]) ⟨dpE hd34 13 Z Z, dpE hd34 6 Z Z, Zt⟩ (dg_off Z Z Z Z Zb)
   · exact fun w47 D hS35 hd35 => dg_sub (E' := [(15, undef), (17, undef), (19, undef), (11, (.bool false))]) ⟨dpE hd35 10 Z Z, dpE hd35 12 Z Z, dpE hd35 14 Z Z, dpE hd35 6 Z Z, Zt⟩ (dg_off Z Z Z Z Zb)
   · exact fun w48 D hS36 hd36 => dg_sub (E' := [(11, (.bool false)), (2, (.pointer (some p1)))]) ⟨dpE hd36 6 Z Z, Z, Zt⟩ (dg_off Z Z Z Z Zb)
   · exact fun w49 D hS37 hd37 => dg_sub (E' := [(21, undef), (11, (.bool false))]) ⟨dpE hd37 16 Z Z, dpE hd37 6 Z Z, Zt⟩ (dg_off Z Z Z Z Zb)
   ·
    intro w50 D hS38 hd38
    have hC50 := hC2.no hS38
    refine lw_sub (E' := [(11, (.bool false)), (20, undef), (22, undef), (2, (.pointer (some p1))), (3, (.pointer (some p2))), (4, (.bool false))]) ⟨dpE hd38 6 Z Z, dpE hd38 15 Z Z, dpE hd38 17 Z Z, Z, Z, Z, Zt⟩ (lw_off Z Z Z Z Z Z (lw_op Z Z Z (ow_pickF Z Z Z (lw_op Z Z Z (ow_assign Z Z (lw_nil (ew_then (cw_ret ?_))))))))
    obtain rfl := sj h
    exact ew_ret (res1 Z (.tmp Z)) ⟨_, Z, ((vbool _)), hC50.bx⟩
 ·
  subst hc1
  have lz3 := (hl1.trans hl2)
  refine cw_sub (E' := [(2, (.pointer (some p1))), (3, (.pointer (some p2))), (4, (.bool false))]) ⟨Z, Z, Z, Zt⟩ (cw_drawQ 18 [PV RTest M a_t, PEq (.bool false), PEq (.bool false), PEq undef, PEq undef, PEq (.bool false), PEq (.bool false), PEq undef, PEq undef, PEq undef, PEq undef, PEq undef, PEq undef, PEq undef, PEq undef, PEq undef, PEq undef, PEq undef] (by kernel_rfl) Z (by kernel_rfl) ⟨PV.mono _ _ _, Zq, Zq, Zq, Zq, Zq, Zq, Zq, Zq, Zq, Zq, Zq, Zq, Zq, Zq, Zq, Zq, Zq, Zt⟩ ⟨?_, ?_, ?_, ?_, ?_, ?_, ?_, ?_, ?_, ?_, ?_, ?_, ?_, ?_, ?_, ?_, ?_, ?_, Zt⟩ ?_)
  ·
   intro w51 D hS39 hd39
   have hl51 := Le.no M hS39
   exact dg_sub (E' := [(2, (.pointer (some p1)))]) ⟨Z, Zt⟩ (dg_plain Z (ow_load (R := RTest) Z Z (ARep.mono (hl2.trans hl51) hp1) (Tryd.sizeOf128 _) (Tryd.isAgg128 _) fun v32 hv32 => ⟨BX.refl _ _, hv32⟩))
  ·
   intro w52 D hS40 hd40
   have hl52 := Le.no M hS40
   have hC52 := hC2.no hS40
   have d103 : PV RTest M a_t (D 0) w52 := dpA hd40 0 Z
   generalize hq10 : (D 0) = v33 at d103
   refine dg_sub (E' := [(5, v33)]) ⟨congrArg some hq10, Zt⟩ (dg_plain Z (ow_call Z Z Tryd.call157 (w_spec_TestValid (hG.mono (lz3.trans hl52)) hC52.old d103 hx1) fun v34 w53 hv34 => ?_))
   obtain ⟨hv34, hb13⟩ := hv34
   obtain rfl := vbool_eq hv34
   exact ⟨hb13, Z⟩
  · exact fun w54 D hS41 hd41 => dg_sub (E' := [(6, (.bool false))]) ⟨dpE hd41 1 Z Z, Zt⟩ (dg_plain Z (ow_move Z Z Zb))
  · exact fun w55 D hS42 hd42 => dg_sub (E' := [(7, (.bool false)), (3, (.pointer (some p2)))]) ⟨dpE hd42 2 Z Z, Z, Zt⟩ (dg_off Z Z Z Z Zb)
  · exact fun w56 D hS43 hd43 => dg_sub (E' := [(8, undef), (7, (.bool false))]) ⟨dpE hd43 3 Z Z, dpE hd43 2 Z Z, Zt⟩ (dg_off Z Z Z Z Zb)
  · exact fun w57 D hS44 hd44 => dg_sub (E' := [(7, (.bool false)), (9, undef)]) ⟨dpE hd44 2 Z Z, dpE hd44 4 Z Z, Zt⟩ (dg_plain Z (ow_pickF Z Z Z Zb))
  · exact fun w58 D hS45 hd45 => dg_sub (E' := [(10, (.bool false))]) ⟨dpE hd45 5 Z Z, Zt⟩ (dg_plain Z (ow_move Z Z Zb))
  · exact fun w59 D hS46 hd46 => dg_sub (E' := [(11, (.bool false)), (3, (.pointer (some p2)))]) ⟨dpE hd46 6 Z Z, Z, Zt⟩ (dg_off Z Z Z Z Zb)
  · exact fun w60 D hS47 hd47 => dg_sub (E' := [(11, (.bool false)), (2, (.pointer (some p1)))]) ⟨dpE hd47 6 Z Z, Z, Zt⟩ (dg_off Z Z Z Z Zb)
  · exact fun w61 D hS48 hd48 => dg_sub (E' := [(13, undef), (11, (.bool false))]) ⟨dpE hd48 8 Z Z, dpE hd48 6 Z Z, Zt⟩ (dg_off Z Z Z Z Zb)
  · exact fun w62 D hS49 hd49 => dg_sub (E' := [(12, undef), (14, undef), (11, (.bool false))]) ⟨dpE hd49 7 Z Z, dpE hd49 9 Z Z, dpE hd49 6 Z Z, Zt⟩ (dg_off Z Z Z Z Zb)
  · exact fun w63 D hS50 hd50 => dg_sub (E' := [(11, (.bool false)), (2, (.pointer (some p1)))]) ⟨dpE hd50 6 Z Z, Z, Zt⟩ (dg_off Z Z Z Z Zb)
  · exact fun w64 D hS51 hd51 => dg_sub (E' := [(16, undef), (11, (.bool false))]) ⟨dpE hd51 11 Z Z, dpE hd51 6 Z Z, Zt⟩ (dg_off Z Z Z Z Zb)
  · exact fun w65 D hS52 hd52 => dg_sub (E' := [(11, (.bool false)), (2, (.pointer (some p1)))]) ⟨dpE hd52 6 Z Z, Z, Zt⟩ (dg_off Z Z Z Z Zb)
  · exact fun w66 D hS53 hd53 => dg_sub (E' := [(18, undef), (11, (.bool false))]) ⟨dpE hd53 13 Z Z, dpE hd53 6 Z Z, Zt⟩ (dg_off Z Z Z Z Zb)
  · exact fun w67 D hS54 hd54 => dg_sub (E' := [(15, undef), (17, undef), (19, undef), (11, (.bool false))]) ⟨dpE hd54 10 Z Z, dpE hd54 12 Z Z, dpE hd54 14 Z Z, dpE hd54 6 Z Z, Zt⟩ (dg_off Z Z Z Z Zb)
  · exact fun w68 D hS55 hd55 => dg_sub (E' := [(11, (.bool false)), (2, (.pointer (some p1)))]) ⟨dpE hd55 6 Z Z, Z, Zt⟩ (dg_off Z Z Z Z Zb)
  · exact fun w69 D hS56 hd56 => dg_sub (E' := [(21, undef), (11, (.bool false))]) ⟨dpE hd56 16 Z Z, dpE hd56 6 Z Z, Zt⟩ (dg_off Z Z Z Z Zb)
  ·
   intro w70 D hS57 hd57
   have hC70 := hC2.no hS57
   refine lw_sub (E' := [(11, (.bool false)), (20, undef), (22, undef), (2, (.pointer (some p1))), (3, (.pointer (some p2))), (4, (.bool false))]) ⟨dpE hd57 6 Z Z, dpE hd57 15 Z Z, dpE hd57 17 Z Z, Z, Z, Z, Zt⟩ (lw_off Z Z Z Z Z Z (lw_op Z Z Z (ow_pickF Z Z Z (lw_op Z Z Z (ow_assign Z Z (lw_nil (ew_then (cw_ret ?_))))))))
   obtain rfl := sj h
   exact ew_ret (res1 Z (.tmp Z)) ⟨_, Z, ((vbool _)), hC70.bx⟩

theorem w_spec_TestsHold {w : World} {M : Nat → Prop} (hG : ARep (RArr 4 RShape) w M shapes ⟨0, 0, none⟩) (hO : ∀ b, M b → b < w.heap.size) {v0p : Value} {a_list : List Test} (h0 : VRep (RSlice RTest) w M a_list v0p) {v1p : Value} {a_p : Packet} (h1 : VRep RPacket w M a_p v1p) {r : Bool} (h : F.spec_TestsHold a_list a_p = some r) :
  Calls Tryd.prog 145 [v0p, v1p].toArray w fun e w' => ∃ v, e = .returned v ∧ VRep RBool w' M r v ∧ BX No w w' := by
 have hC : Cx No w M w M := Cx.start hO (fun _ e => e.elim)
 refine walk (N := 25) Tryd.func145 Z Tryd.ntmps145 Z (cw_seq (cw_region (lw_op Z Z Z (ow_box (R := RPacket) Z Z h1 hC fun p1 w1 hp1 hb1 hl1 hC1 => lw_op Z Z Z (ow_assign Z Z (lw_nil (ew_then (cw_seq (cw_seq (cw_region (lw_op Z Z Z (ow_assign Z Z (lw_nil (ew_then ?_))))))))))))))
 replace h := bind_some h
 obtain ⟨lr1, hlr1, h⟩ := h
 refine cw_for hlr1 (fun s a w' => ∃ (M' : Nat → Prop), Fits 25 [(0, v0p), (3, (.pointer (some p1))), (5, (Zv s))] a ∧ Le w1 M w' M' ∧ Cx No w M w' M') ?_ ?_ ?_
 · exact fun a ha => ⟨M, ha.sub ⟨Z, Z, Z, Zt⟩, Le.refl _ _, hC1⟩
 ·
  rintro k1 a w2 sr1 ⟨M1, hF1, hl2, hC2⟩ hb2 hR1
  refine cw_at (E := [(0, v0p), (3, (.pointer (some p1))), (5, (Zv k1))]) hF1 (cw_seq (cw_seq (cw_region (lw_op Z Z Z (ow_move Z Z (lw_op Z Z Z (ow_move Z Z (lw_op Z Z Z (ow_len Z Z (VRep.mono (hl1.trans hl2) h0) Tryd.underlying36 Z (lw_op Z Z Z (ow_lss Z Z Z fun bb1 hbb1 => lw_nil (ew_then ?_))))))))))))
  replace hb2 := cond_some hb2
  rcases hb2 with ⟨hc1, hb2⟩ | ⟨hc1, hb2⟩
  ·
   obtain rfl := hbb1.trans hc1
   refine cw_true Z (cw_skip (ew_then (cw_seq (cw_block (cw_seq ?_)))))
   replace hb2 := bind_some hb2
   obtain ⟨x1, hx1, hb2⟩ := hb2
   have lz1 := (hl1.trans hl2)
   refine cw_sub (E' := [(0, v0p), (3, (.pointer (some p1))), (5, (Zv k1))]) ⟨Z, Z, Z, Zt⟩ (cw_drawQ 5 [PV (RSlice RTest) M1 a_list, PEq (Zv k1), PA RTest M1 x1, PV RTest M1 x1, PV RPacket M1 a_p] (by kernel_rfl) Z (by kernel_rfl) ⟨PV.mono _ _ _, Zq, PA.mono _ _ _, PV.mono _ _ _, PV.mono _ _ _, Zt⟩ ⟨?_, ?_, ?_, ?_, ?_, Zt⟩ ?_)
   ·
    intro w3 D hS1 hd1
    have hl3 := Le.no M1 hS1
    exact dg_sub (E' := [(0, v0p)]) ⟨Z, Zt⟩ (dg_plain Z (ow_move Z Z ⟨BX.refl _ _, (VRep.mono (lz1.trans hl3) h0)⟩))
   · exact fun w4 D hS2 hd2 => dg_sub (E' := [(5, (Zv k1))]) ⟨Z, Zt⟩ (dg_plain Z (ow_move Z Z Zb))
   ·
    intro w5 D hS3 hd3
    have d1 : PV (RSlice RTest) M1 a_list (D 0) w5 := dpA hd3 0 Z
    generalize hq1 : (D 0) = v4 at d1
    exact dg_sub (E' := [(12, v4), (13, (Zv k1))]) ⟨congrArg some hq1, dpE hd3 1 Z Z, Zt⟩ (dg_plain Z (ow_indexSlice (R := RTest) Z Z Z d1 Tryd.underlying36 (Tryd.sizeOf128 _) hx1 fun p3 hp3 => ⟨BX.refl _ _, ⟨_, Z, hp3⟩⟩))
   ·
    intro w6 D hS4 hd4
    have d3 : PA RTest M1 x1 (D 2) w6 := dpA hd4 2 Z
    obtain ⟨p4, e1, ha1⟩ := d3
    exact dg_sub (E' := [(14, (.pointer (some p4)))]) ⟨congrArg some e1, Zt⟩ (dg_plain Z (ow_load (R := RTest) Z Z ha1 (Tryd.sizeOf128 _) (Tryd.isAgg128 _) fun v5 hv5 => ⟨BX.refl _ _, hv5⟩))
   ·
    intro w7 D hS5 hd5
    have hl7 := Le.no M1 hS5
    exact dg_sub (E' := [(3, (.pointer (some p1)))]) ⟨Z, Zt⟩ (dg_plain Z (ow_load (R := RPacket) Z Z (ARep.mono (hl2.trans hl7) hp1) (Tryd.sizeOf27 _) (Tryd.isAgg27 _) fun v6 hv6 => ⟨BX.refl _ _, hv6⟩))
   ·
    intro w8 D hS6 hd6
    have d7 : PV RTest M1 x1 (D 3) w8 := dpA hd6 3 Z
    have d8 : PV RPacket M1 a_p (D 4) w8 := dpA hd6 4 Z
    have hl8 := Le.no M1 hS6
    have hC8 := hC2.no hS6
    generalize hq2 : (D 3) = v7 at d7
    generalize hq3 : (D 4) = v8 at d8
    refine lw_sub (E' := [(15, v7), (16, v8), (0, v0p), (3, (.pointer (some p1))), (5, (Zv k1))]) ⟨congrArg some hq2, congrArg some hq3, Z, Z, Z, Zt⟩ ?_
    replace hb2 := bind_some hb2
    obtain ⟨x2, hx2, hb2⟩ := hb2
    refine lw_op Z Z Z (ow_call Z Z Tryd.call176 (w_spec_TestHolds (hG.mono (lz1.trans hl8)) hC8.old d7 d8 hx2) fun v9 w9 hv9 => ?_)
    obtain ⟨hv9, hb3⟩ := hv9
    have hl9 := Le.no M1 hb3
    have hC9 := hC8.no hb3
    obtain rfl := vbool_eq hv9
    refine lw_op Z Z Z (ow_not Z Z (lw_nil (ew_then ?_)))
    replace hb2 := cond_some hb2
    rcases hb2 with ⟨hc2, hb2⟩ | ⟨hc2, hb2⟩
    ·
     subst hc2
     refine cw_false Z (cw_skip (ew_blockN (ew_then (cw_region (lw_op Z Z Z (ow_move Z Z (lw_op Z Z Z (ow_add Z Z Z (lw_op Z Z Z (ow_assign Z Z (lw_nil ?_)))))))))))
     have lz2 := ((hl2.trans hl8).trans hl9)
     exact ew_nxt (W (k1 + 1)) hb2 fun a ha => ⟨M1, (ha.sub ⟨Z, Z, Z, Zt⟩), lz2, hC9⟩
    ·
     subst hc2
     refine cw_true Z (cw_seq (cw_region (lw_op Z Z Z (ow_assign Z Z (lw_nil (ew_then (cw_ret (ew_blockR (ew_thenR (ew_thenR (ew_blockR (ew_brkR (ew_thenR ?_)))))))))))))
     have e2 := hR1 _ (sj hb2).symm
     subst e2
     obtain rfl := sj h
     exact ew_ret (res1 Z (.tmp Z)) ⟨_, Z, ((vbool _)), hC9.bx⟩
  ·
   obtain rfl := hbb1.trans hc1
   exact cw_false Z (cw_exit (ew_thenX (ew_thenX (ew_blockX (ew_brk k1 hb2 fun a ha => ⟨M1, (ha.sub ⟨Z, Z, Z, Zt⟩), hl2, hC2⟩)))))
 ·
  rintro k2 a w10 hlr2 ⟨M2, hF2, hl10, hC10⟩
  subst hlr2
  refine ew_at (E := [(0, v0p), (3, (.pointer (some p1))), (5, (Zv k2))]) hF2 (ew_then (cw_seq (cw_region (lw_op Z Z Z (ow_move Z Z ?_)))))
  replace h := bind_some h
  obtain ⟨x3, hx3, h⟩ := h
  refine lw_op Z Z Z (ow_call Z Z Tryd.call101 (w_spec_TestsValid (hG.mono (hl1.trans hl10)) hC10.old (VRep.mono (hl1.trans hl10) h0) hx3) fun v11 w11 hv11 => ?_)
  obtain ⟨hv11, hb4⟩ := hv11
  have hl11 := Le.no M2 hb4
  have hC11 := hC10.no hb4
  obtain rfl := vbool_eq hv11
  refine lw_op Z Z Z (ow_move Z Z ?_)
  replace h := cond_some h
  rcases h with ⟨hc3, h⟩ | ⟨hc3, h⟩
  ·
   subst hc3
   refine lw_on Z Z Z Z Z Z (ow_load (R := RPacket) Z Z (ARep.mono (hl10.trans hl11) hp1) (Tryd.sizeOf27 _) (Tryd.isAgg27 _) fun v12 hv12 => ?_)
   replace h := bind_some h
   obtain ⟨x4, hx4, h⟩ := h
   have lz3 := ((hl1.trans hl10).trans hl11)
   refine lw_on Z Z Z Z Z Z (ow_call Z Z Tryd.call81 (w_spec_PacketValid (hG.mono lz3) hC11.old hv12 hx4) fun v13 w12 hv13 => ?_)
   obtain ⟨hv13, hb5⟩ := hv13
   have hC12 := hC11.no hb5
   obtain rfl := vbool_eq hv13
   refine lw_op Z Z Z (ow_pickT Z Z Z (lw_op Z Z Z (ow_assign Z Z (lw_nil (ew_then (cw_ret ?_))))))
   obtain rfl := sj h
   exact ew_ret (res1 Z (.tmp Z)) ⟨_, Z, ((vbool _)), hC12.bx⟩
  ·
   subst hc3
   refine lw_off Z Z Z Z Z Z (lw_off Z Z Z Z Z Z (lw_op Z Z Z (ow_pickF Z Z Z (lw_op Z Z Z (ow_assign Z Z (lw_nil (ew_then (cw_ret ?_))))))))
   obtain rfl := sj h
   exact ew_ret (res1 Z (.tmp Z)) ⟨_, Z, ((vbool _)), hC11.bx⟩

theorem w_spec_l9Walk (n_ : Nat) : ∀ {w : World} {M : Nat → Prop} (hG : ARep (RArr 4 RShape) w M shapes ⟨0, 0, none⟩) (hO : ∀ b, M b → b < w.heap.size) {v0p : Value} {a_s : Ruleset} (h0 : VRep RRuleset w M a_s v0p) {a_chain : Int} {v2p : Value} {a_p : Packet} (h2 : VRep RPacket w M a_p v2p) {vs0 : Value} {a_0c : List Visit} (hr0p : OwnRow RVisit 0 171 w M a_0c vs0) {g : Nat} (hown : Own w g 86 #[vs0]) (hgM : M g) {r : Int × (List Visit)} (h : F.spec_l9Walk n_ a_s a_chain a_p a_0c = some r),
  Calls Tryd.prog 82 [v0p, (.int .i64 a_chain), v2p, (.pointer (some ⟨g, 0, none⟩))].toArray w fun e w' => ∃ v, e = .returned v ∧ VRep RInt w' M r.1 v ∧ ∃ (M' : Nat → Prop) (u0 : Value), Own w' g 86 #[u0] ∧ OwnRow RVisit 0 171 w' M' r.2 u0 ∧ Cx (fun b => b = g ∨ vs0.ownBlock = some b) w M w' M' ∧ (∀ b, u0.ownBlock = some b → w.heap.size ≤ b ∨ (fun b => b = g ∨ vs0.ownBlock = some b) b) := by
 induction n_ with
 | zero =>
  intro w M hG hO v0p a_s h0 a_chain v2p a_p h2 vs0 a_0c hr0p g hown hgM r h
  exact (Option.some_ne_none _ (show (none : Option (Int × (List Visit))) = some r from h).symm).elim
 | succ n_ ih =>
 intro w M hG hO v0p a_s h0 a_chain v2p a_p h2 vs0 a_0c hr0p g hown hgM r h
 obtain ⟨i171, hi171, hz171, hs171, hy171⟩ := info171
 have hX : ∀ b, (fun b => b = g ∨ vs0.ownBlock = some b) b → M b := fun b e => (e.elim (fun e => by rw [show b = g from e]; exact hgM) (fun e => (hr0p.mem b e)))
 have hC : Cx (fun b => b = g ∨ vs0.ownBlock = some b) w M w M := Cx.start hO hX
 have hge0p : ∀ b, vs0.ownBlock = some b → w.heap.size ≤ b ∨ (fun b => b = g ∨ vs0.ownBlock = some b) b := fun b e => .inr (.inr e)
 refine walk (N := 70) Tryd.func82 Z Tryd.ntmps82 Z (cw_seq (cw_region (lw_op Z Z Z (ow_box (R := RRuleset) Z Z h0 hC fun p1 w1 hp1 hb1 hl1 hC1 => ?_))))
 have ho1 := hown.no hb1
 have hr1 := hr0p.no hb1
 refine lw_op Z Z Z (ow_box (R := RPacket) Z Z (VRep.mono hl1 h2) hC1 fun p2 w2 hp2 hb2 hl2 hC2 => ?_)
 have ho2 := ho1.no hb2
 have hr2 := hr1.no hb2
 refine lw_op Z Z Z (ow_assign Z Z (lw_nil (ew_then (cw_seq (cw_seq (cw_region (lw_op Z Z Z (ow_assign Z Z (lw_nil (ew_then ?_))))))))))
 replace h := bind_some h
 obtain ⟨lr1, hlr1, h⟩ := h
 refine cw_for hlr1 (fun s a w' => ∃ (M' : Nat → Prop) (v1c : Value), Fits 70 [(1, (Zv a_chain)), (3, (Zw g 0)), (4, (.pointer (some p1))), (6, (.pointer (some p2))), (9, (Zv s.1))] a ∧ Le w2 M w' M' ∧ Cx (fun b => b = g ∨ vs0.ownBlock = some b) w M w' M' ∧ OwnRow RVisit 0 171 w' M' s.2 v1c ∧ Own w' g 86 #[v1c] ∧ M' g ∧ (∀ b, (Value.ownBlock v1c) = some b → w.heap.size ≤ b ∨ (fun b => b = g ∨ vs0.ownBlock = some b) b)) ?_ ?_ ?_
 · exact fun a ha => ⟨M, vs0, ha.sub ⟨Z, Z, Z, Z, Z, Zt⟩, Le.refl _ _, hC2, hr2, ho2, hgM, hge0p⟩
 ·
  rintro ⟨k1, y1⟩ a w3 sr1 ⟨M1, v2, hF1, hl3, hC3, hw1, ho3, hm1, hge1⟩ hb3 hR1
  refine cw_at (E := [(1, (Zv a_chain)), (3, (Zw g 0)), (4, (.pointer (some p1))), (6, (.pointer (some p2))), (9, (Zv k1))]) hF1 (cw_seq (cw_seq (cw_region (lw_op Z Z Z (ow_move Z Z (lw_op Z Z Z (ow_fieldAddr Z Z Tryd.underlying25 Z (Tryd.sizeOf23 _) (lw_op Z Z Z (ow_load (R := (RSlice (RSlice RRule))) Z Z (ARep.mono (hl2.trans hl3) (hp1.fld fld_Ruleset_Chains)) (Tryd.sizeOf23 _) (Tryd.isAgg23 _) fun v3 hv3 => lw_op Z Z Z (ow_move Z Z ?_))))))))))
  replace hb3 := bind_some hb3
  obtain ⟨x1, hx1, hb3⟩ := hb3
  refine lw_op Z Z Z (ow_indexSlice (R := (RSlice RRule)) Z Z Z hv3 Tryd.underlying23 (Tryd.sizeOf39 _) hx1 fun p3 hp3 => lw_op Z Z Z (ow_load (R := (RSlice RRule)) Z Z hp3 (Tryd.sizeOf39 _) (Tryd.isAgg39 _) fun v4 hv4 => lw_op Z Z Z (ow_len Z Z hv4 Tryd.underlying39 Z (lw_op Z Z Z (ow_lss Z Z Z fun bb1 hbb1 => lw_nil (ew_then ?_))))))
  replace hb3 := cond_some hb3
  rcases hb3 with ⟨hc1, hb3⟩ | ⟨hc1, hb3⟩
  ·
   obtain rfl := hbb1.trans hc1
   refine cw_true Z (cw_skip (ew_then (cw_seq (cw_block (cw_seq (cw_region (lw_op Z Z Z (ow_fieldAddr Z Z Tryd.underlying25 Z (Tryd.sizeOf23 _) (lw_op Z Z Z (ow_load (R := (RSlice (RSlice RRule))) Z Z (ARep.mono (hl2.trans hl3) (hp1.fld fld_Ruleset_Chains)) (Tryd.sizeOf23 _) (Tryd.isAgg23 _) fun v5 hv5 => lw_op Z Z Z (ow_move Z Z (lw_op Z Z Z (ow_indexSlice (R := (RSlice RRule)) Z Z Z hv5 Tryd.underlying23 (Tryd.sizeOf39 _) hx1 fun p4 hp4 => lw_op Z Z Z (ow_load (R := (RSlice RRule)) Z Z hp4 (Tryd.sizeOf39 _) (Tryd.isAgg39 _) fun v6 hv6 => lw_op Z Z Z (ow_move Z Z ?_)))))))))))))))
   replace hb3 := bind_some hb3
   obtain ⟨x2, hx2, hb3⟩ := hb3
   refine lw_op Z Z Z (ow_indexSlice (R := RRule) Z Z Z hv6 Tryd.underlying39 (Tryd.sizeOf38 _) hx2 fun p5 hp5 => lw_op Z Z Z (ow_load (R := RRule) Z Z hp5 (Tryd.sizeOf38 _) (Tryd.isAgg38 _) fun v7 hv7 => lw_allocStore (R := RRule) Z Z Z Z Z Z Z Tryd.zeroValue38 Tryd.sizeOf38 Z Z Z (by simp) hv7 hC3 fun p6 w4 hp6 hb4 hl4 hC4 => ?_))
   have ho4 := ho3.no hb4
   have hr3 := hw1.no hb4
   refine lw_nil (ew_then (cw_seq (cw_seq (cw_region (lw_op Z Z Z (ow_fieldAddr Z Z Tryd.underlying38 Z (Tryd.sizeOf36 _) (lw_op Z Z Z (ow_load (R := (RSlice RTest)) Z Z (hp6.fld fld_Rule_Tests) (Tryd.sizeOf36 _) (Tryd.isAgg36 _) fun v8 hv8 => lw_op Z Z Z (ow_load (R := RPacket) Z Z (ARep.mono (hl3.trans hl4) hp2) (Tryd.sizeOf27 _) (Tryd.isAgg27 _) fun v9 hv9 => ?_)))))))))
   replace hb3 := bind_some hb3
   obtain ⟨x3, hx3, hb3⟩ := hb3
   have lz1 := (((hl1.trans hl2).trans hl3).trans hl4)
   refine lw_op Z Z Z (ow_call Z Z Tryd.call145 (w_spec_TestsHold (hG.mono lz1) hC4.old hv8 hv9 hx3) fun v10 w5 hv10 => ?_)
   obtain ⟨hv10, hb5⟩ := hv10
   have hl5 := Le.no M1 hb5
   have hC5 := hC4.no hb5
   have ho5 := ho4.no hb5
   have hr4 := hr3.no hb5
   obtain rfl := vbool_eq hv10
   refine lw_op Z Z Z (ow_not Z Z (lw_nil (ew_then ?_)))
   replace hb3 := cond_some hb3
   rcases hb3 with ⟨hc2, hb3⟩ | ⟨hc2, hb3⟩
   ·
    subst hc2
    refine cw_false Z (cw_skip (ew_then (cw_seq (cw_seq (cw_region (lw_op Z Z Z (ow_move Z Z (lw_op Z Z Z (ow_nilCheck Z Z (lw_op Z Z Z (ow_loadOwn1 Z Z Z ho5 (Tryd.isAgg86 _) Z (lw_op Z Z Z (ow_lenOwn Z Z hr4 Tryd.underlying86 (lw_op Z Z Z (ow_lss Z Z Z fun bb2 hbb2 => lw_nil (ew_then ?_))))))))))))))))
    replace hb3 := cond_some hb3
    rcases hb3 with ⟨hc3, hb3⟩ | ⟨hc3, hb3⟩
    ·
     obtain rfl := hbb2.trans hc3
     refine cw_true Z (cw_region (lw_op Z Z Z (ow_move Z Z (lw_op Z Z Z (ow_move Z Z (lw_op Z Z Z (ow_nilCheck Z Z (lw_op Z Z Z (ow_loadOwn1 Z Z Z ho5 (Tryd.isAgg86 _) Z (lw_op Z Z Z (ow_move Z Z (lw_op Z Z Z (ow_move Z Z (lw_op Z Z Z (ow_build (v := .agg #[(Zv a_chain), (Zv k1)]) Z Z (by kernel_rfl) ?_)))))))))))))))
     have hw2 : VRep RVisit w5 M1 ({ Chain := a_chain, Place := k1 } : Visit) (.agg #[(Zv a_chain), (Zv k1)]) := shut_Visit
     refine lw_op Z Z Z (ow_buildSlice (R := RVisit) (xs := [({ Chain := a_chain, Place := k1 } : Visit)]) (cs := #[(Zv a_chain), (Zv k1)]) (e := 171) Z Z (by kernel_rfl) Z Z ⟨_, _, Z, hw2.cells, Z⟩ hC5 fun p7 w6 hw3 hb6 hl6 hC6 => ?_)
     have ho6 := ho5.no hb6
     have hr5 := hr4.no hb6
     replace hb3 := bind_some hb3
     obtain ⟨z1, hz1, hb3⟩ := hb3
     refine lw_op Z Z Z (ow_appendX (R := RVisit) (B := 0) Z Z Z Z Tryd.underlying86 hi171 hz171 hs171 hy171 Z Z Z Z hr5 hw3 hz1 hC6 (Nat.zero_le _) hge1 fun v11 w7 M2 hr6 hb7 hl7 hC7 hM1 hat1 => ?_)
     have ho7 := ho6.go hb7 (fun e => (orow_ne hr5 ho6 (by decide)) e)
     have hm2 := hM1 _ hm1
     have hge2 := ge_app hge1 hat1 hC6
     refine lw_op Z Z Z (ow_nilCheck Z Z ?_)
     obtain ⟨A1, c1, rfl⟩ := hr6.len
     refine lw_op0 Z Z (ow_store (X := (fun b => b = g ∨ vs0.ownBlock = some b)) (us := [(.slice A1 z1.length c1)]) (cs' := #[(.slice A1 z1.length c1)]) Z Z Z Z ho7 (Tryd.sizeOf86 _) Z Z Z Z hm2 (.inr (.inl Z)) Z hC7 fun w8 ho8 hb8 hl8 hC8 => ?_)
     have hr7 := hr6.go hb8 (fun k hk e => (orow_ne hr6 ho7 (by decide)) (hk.trans (congrArg some e))) hl8 (fun _ h => h)
     refine lw_nil (ew_then (cw_seq (cw_region (lw_op Z Z Z (ow_fieldAddr Z Z Tryd.underlying38 Z (Tryd.sizeOf3 _) ?_)))))
     have lz2 := (((hl5.trans hl6).trans hl7).trans hl8)
     refine lw_op Z Z Z (ow_load (R := RInt) Z Z (ARep.mono lz2 (hp6.fld fld_Rule_Action)) (Tryd.sizeOf3 _) (Tryd.isAgg3 _) fun v12 hv12 => ?_)
     obtain rfl := vint_eq hv12
     refine lw_nil (ew_then (cw_block (cw_seq (cw_seq (cw_region (lw_op Z Z Z (ow_eqlI Z Z Z fun bb3 hbb3 => lw_op Z Z Z (ow_assign Z Z (lw_nil (ew_then ?_))))))))))
     replace hb3 := cond_some hb3
     rcases hb3 with ⟨hc4, hb3⟩ | ⟨hc4, hb3⟩
     ·
      obtain rfl := hbb3.trans hc4
      refine cw_true Z (cw_skip (ew_then (cw_true Z (cw_seq (cw_region (lw_op Z Z Z (ow_fieldAddr Z Z Tryd.underlying38 Z (Tryd.sizeOf3 _) (lw_op Z Z Z (ow_load (R := RInt) Z Z (ARep.mono lz2 (hp6.fld fld_Rule_Action)) (Tryd.sizeOf3 _) (Tryd.isAgg3 _) fun v13 hv13 => ?_)))))))))
      obtain rfl := vint_eq hv13
      refine lw_op Z Z Z (ow_assign Z Z (lw_nil (ew_then (cw_ret (ew_blockR (ew_blockR (ew_thenR (ew_thenR (ew_blockR (ew_brkR (ew_thenR ?_)))))))))))
      have e1 := hR1 _ (sj hb3).symm
      subst e1
      obtain rfl := sj h
      exact ew_ret (res1 Z (.tmp Z)) ⟨_, Z, ((vint _)), M2, (.slice A1 z1.length c1), ho8, hr7, hC8, hge2⟩
     ·
      obtain rfl := hbb3.trans hc4
      refine cw_false Z (cw_region (lw_op Z Z Z (ow_eqlI Z Z Z fun bb4 hbb4 => lw_op Z Z Z (ow_assign Z Z (lw_nil (ew_then ?_))))))
      replace hb3 := cond_some hb3
      rcases hb3 with ⟨hc5, hb3⟩ | ⟨hc5, hb3⟩
      ·
       obtain rfl := hbb4.trans hc5
       refine cw_true Z (cw_seq (cw_region (lw_op Z Z Z (ow_fieldAddr Z Z Tryd.underlying38 Z (Tryd.sizeOf3 _) (lw_op Z Z Z (ow_load (R := RInt) Z Z (ARep.mono lz2 (hp6.fld fld_Rule_Action)) (Tryd.sizeOf3 _) (Tryd.isAgg3 _) fun v14 hv14 => ?_))))))
       obtain rfl := vint_eq hv14
       refine lw_op Z Z Z (ow_assign Z Z (lw_nil (ew_then (cw_ret (ew_blockR (ew_blockR (ew_thenR (ew_thenR (ew_blockR (ew_brkR (ew_thenR ?_)))))))))))
       have e2 := hR1 _ (sj hb3).symm
       subst e2
       obtain rfl := sj h
       exact ew_ret (res1 Z (.tmp Z)) ⟨_, Z, ((vint _)), M2, (.slice A1 z1.length c1), ho8, hr7, hC8, hge2⟩
      ·
       obtain rfl := hbb4.trans hc5
       refine cw_false Z (cw_seq (cw_region (lw_op Z Z Z (ow_eqlI Z Z Z fun bb5 hbb5 => lw_op Z Z Z (ow_assign Z Z (lw_nil (ew_then ?_)))))))
       replace hb3 := cond_some hb3
       rcases hb3 with ⟨hc6, hb3⟩ | ⟨hc6, hb3⟩
       ·
        obtain rfl := hbb5.trans hc6
        refine cw_true Z (cw_seq (cw_region (lw_op Z Z Z (ow_assign Z Z (lw_nil (ew_then (cw_ret (ew_blockR (ew_blockR (ew_thenR (ew_thenR (ew_blockR (ew_brkR (ew_thenR ?_))))))))))))))
        have e3 := hR1 _ (sj hb3).symm
        subst e3
        obtain rfl := sj h
        exact ew_ret (res1 Z (.tmp Z)) ⟨_, Z, ((vint _)), M2, (.slice A1 z1.length c1), ho8, hr7, hC8, hge2⟩
       ·
        obtain rfl := hbb5.trans hc6
        refine cw_false Z (cw_seq (cw_region (lw_op Z Z Z (ow_eqlI Z Z Z fun bb6 hbb6 => lw_op Z Z Z (ow_assign Z Z (lw_nil (ew_then ?_)))))))
        replace hb3 := cond_some hb3
        rcases hb3 with ⟨hc7, hb3⟩ | ⟨hc7, hb3⟩
        ·
         obtain rfl := hbb6.trans hc7
         refine cw_true Z (cw_seq (cw_region ?_))
         have lz3 := ((((((hl2.trans hl3).trans hl4).trans hl5).trans hl6).trans hl7).trans hl8)
         refine lw_op Z Z Z (ow_load (R := RRuleset) Z Z (ARep.mono lz3 hp1) (Tryd.sizeOf25 _) (Tryd.isAgg25 _) fun v15 hv15 => lw_op Z Z Z (ow_fieldAddr Z Z Tryd.underlying38 Z (Tryd.sizeOf3 _) (lw_op Z Z Z (ow_load (R := RInt) Z Z (ARep.mono lz2 (hp6.fld fld_Rule_Chain)) (Tryd.sizeOf3 _) (Tryd.isAgg3 _) fun v16 hv16 => ?_))))
         obtain rfl := vint_eq hv16
         have lz4 := (((((hl3.trans hl4).trans hl5).trans hl6).trans hl7).trans hl8)
         refine lw_op Z Z Z (ow_load (R := RPacket) Z Z (ARep.mono lz4 hp2) (Tryd.sizeOf27 _) (Tryd.isAgg27 _) fun v17 hv17 => lw_op Z Z Z (ow_move Z Z ?_))
         replace hb3 := bind_some hb3
         obtain ⟨x4, hx4, hb3⟩ := hb3
         have lz5 := ((((lz1.trans hl5).trans hl6).trans hl7).trans hl8)
         refine lw_op Z Z Z (ow_call Z Z Tryd.call82 (ih (hG.mono lz5) hC8.old hv15 hv17 (hr7.base (Nat.zero_le _)) ho8 hm2 hx4) fun v18 w9 hv18 => ?_)
         obtain ⟨hw4, M3, v19, ho9, hr8, hk1, hge3⟩ := hv18
         have hY1 : ∀ b, (fun b => b = g ∨ (Value.ownBlock (.slice A1 z1.length c1)) = some b) b → w.heap.size ≤ b ∨ (fun b => b = g ∨ vs0.ownBlock = some b) b := fun b e => (e.elim (fun e => by rw [show b = g from e]; exact (.inr (.inl Z))) (fun e => (hge2 b e)))
         have hl9 := hk1.leY (fun b e => (e.elim (fun e => by rw [show b = g from e]; exact hm2) (fun e => (hr7.mem b e))))
         have hC9 := hC8.trans2 hk1 hY1
         have hge4 : ∀ b, (Value.ownBlock v19) = some b → w.heap.size ≤ b ∨ (fun b => b = g ∨ vs0.ownBlock = some b) b := fun b e => (hge3 b e).elim (fun h => .inl (Nat.le_trans hC8.bx.size h)) (hY1 b)
         have hm3 := hk1.sup _ hm2
         obtain rfl := vint_eq hw4
         refine lw_op Z Z Z (ow_assign Z Z (lw_nil (ew_then (cw_seq (cw_region (lw_op Z Z Z (ow_move Z Z (lw_op Z Z Z (ow_neqI Z Z Z fun bb7 hbb7 => lw_nil (ew_then ?_))))))))))
         replace hb3 := cond_some hb3
         rcases hb3 with ⟨hc8, hb3⟩ | ⟨hc8, hb3⟩
         ·
          obtain rfl := hbb7.trans hc8
          refine cw_true Z (cw_seq (cw_region (lw_op Z Z Z (ow_move Z Z (lw_op Z Z Z (ow_assign Z Z (lw_nil (ew_then (cw_ret (ew_blockR (ew_blockR (ew_thenR (ew_thenR (ew_blockR (ew_brkR (ew_thenR ?_))))))))))))))))
          have e4 := hR1 _ (sj hb3).symm
          subst e4
          obtain rfl := sj h
          exact ew_ret (res1 Z (.tmp Z)) ⟨_, Z, ((vint _)), M3, v19, ho9, hr8, hC9, hge4⟩
         ·
          obtain rfl := hbb7.trans hc8
          exact cw_false Z (cw_skip (ew_blockN (ew_blockN (ew_then (cw_region (lw_op Z Z Z (ow_move Z Z (lw_op Z Z Z (ow_add Z Z Z (lw_op Z Z Z (ow_assign Z Z (lw_nil (ew_nxt ((W (k1 + 1)), x4.2) hb3 fun a ha => ⟨M3, v19, (ha.sub ⟨Z, Z, Z, Z, Z, Zt⟩), (lz4.trans hl9), hC9, hr8, ho9, hm3, hge4⟩)))))))))))))
        ·
         obtain rfl := hbb6.trans hc7
         refine cw_false Z (cw_skip (ew_blockN (ew_blockN (ew_then (cw_region (lw_op Z Z Z (ow_move Z Z (lw_op Z Z Z (ow_add Z Z Z (lw_op Z Z Z (ow_assign Z Z (lw_nil ?_))))))))))))
         have lz6 := (((((hl3.trans hl4).trans hl5).trans hl6).trans hl7).trans hl8)
         exact ew_nxt ((W (k1 + 1)), z1) hb3 fun a ha => ⟨M2, (.slice A1 z1.length c1), (ha.sub ⟨Z, Z, Z, Z, Z, Zt⟩), lz6, hC8, hr7, ho8, hm2, hge2⟩
    ·
     obtain rfl := hbb2.trans hc3
     refine cw_false Z (cw_skip (ew_then (cw_seq (cw_region (lw_op Z Z Z (ow_fieldAddr Z Z Tryd.underlying38 Z (Tryd.sizeOf3 _) (lw_op Z Z Z (ow_load (R := RInt) Z Z (ARep.mono hl5 (hp6.fld fld_Rule_Action)) (Tryd.sizeOf3 _) (Tryd.isAgg3 _) fun v20 hv20 => ?_))))))))
     obtain rfl := vint_eq hv20
     refine lw_nil (ew_then (cw_block (cw_seq (cw_seq (cw_region (lw_op Z Z Z (ow_eqlI Z Z Z fun bb8 hbb8 => lw_op Z Z Z (ow_assign Z Z (lw_nil (ew_then ?_))))))))))
     replace hb3 := cond_some hb3
     rcases hb3 with ⟨hc9, hb3⟩ | ⟨hc9, hb3⟩
     ·
      obtain rfl := hbb8.trans hc9
      refine cw_true Z (cw_skip (ew_then (cw_true Z (cw_seq (cw_region (lw_op Z Z Z (ow_fieldAddr Z Z Tryd.underlying38 Z (Tryd.sizeOf3 _) (lw_op Z Z Z (ow_load (R := RInt) Z Z (ARep.mono hl5 (hp6.fld fld_Rule_Action)) (Tryd.sizeOf3 _) (Tryd.isAgg3 _) fun v21 hv21 => ?_)))))))))
      obtain rfl := vint_eq hv21
      refine lw_op Z Z Z (ow_assign Z Z (lw_nil (ew_then (cw_ret (ew_blockR (ew_blockR (ew_thenR (ew_thenR (ew_blockR (ew_brkR (ew_thenR ?_)))))))))))
      have e5 := hR1 _ (sj hb3).symm
      subst e5
      obtain rfl := sj h
      exact ew_ret (res1 Z (.tmp Z)) ⟨_, Z, ((vint _)), M1, v2, ho5, hr4, hC5, hge1⟩
     ·
      obtain rfl := hbb8.trans hc9
      refine cw_false Z (cw_region (lw_op Z Z Z (ow_eqlI Z Z Z fun bb9 hbb9 => lw_op Z Z Z (ow_assign Z Z (lw_nil (ew_then ?_))))))
      replace hb3 := cond_some hb3
      rcases hb3 with ⟨hc10, hb3⟩ | ⟨hc10, hb3⟩
      ·
       obtain rfl := hbb9.trans hc10
       refine cw_true Z (cw_seq (cw_region (lw_op Z Z Z (ow_fieldAddr Z Z Tryd.underlying38 Z (Tryd.sizeOf3 _) (lw_op Z Z Z (ow_load (R := RInt) Z Z (ARep.mono hl5 (hp6.fld fld_Rule_Action)) (Tryd.sizeOf3 _) (Tryd.isAgg3 _) fun v22 hv22 => ?_))))))
       obtain rfl := vint_eq hv22
       refine lw_op Z Z Z (ow_assign Z Z (lw_nil (ew_then (cw_ret (ew_blockR (ew_blockR (ew_thenR (ew_thenR (ew_blockR (ew_brkR (ew_thenR ?_)))))))))))
       have e6 := hR1 _ (sj hb3).symm
       subst e6
       obtain rfl := sj h
       exact ew_ret (res1 Z (.tmp Z)) ⟨_, Z, ((vint _)), M1, v2, ho5, hr4, hC5, hge1⟩
      ·
       obtain rfl := hbb9.trans hc10
       refine cw_false Z (cw_seq (cw_region (lw_op Z Z Z (ow_eqlI Z Z Z fun bb10 hbb10 => lw_op Z Z Z (ow_assign Z Z (lw_nil (ew_then ?_)))))))
       replace hb3 := cond_some hb3
       rcases hb3 with ⟨hc11, hb3⟩ | ⟨hc11, hb3⟩
       ·
        obtain rfl := hbb10.trans hc11
        refine cw_true Z (cw_seq (cw_region (lw_op Z Z Z (ow_assign Z Z (lw_nil (ew_then (cw_ret (ew_blockR (ew_blockR (ew_thenR (ew_thenR (ew_blockR (ew_brkR (ew_thenR ?_))))))))))))))
        have e7 := hR1 _ (sj hb3).symm
        subst e7
        obtain rfl := sj h
        exact ew_ret (res1 Z (.tmp Z)) ⟨_, Z, ((vint _)), M1, v2, ho5, hr4, hC5, hge1⟩
       ·
        obtain rfl := hbb10.trans hc11
        refine cw_false Z (cw_seq (cw_region (lw_op Z Z Z (ow_eqlI Z Z Z fun bb11 hbb11 => lw_op Z Z Z (ow_assign Z Z (lw_nil (ew_then ?_)))))))
        replace hb3 := cond_some hb3
        rcases hb3 with ⟨hc12, hb3⟩ | ⟨hc12, hb3⟩
        ·
         obtain rfl := hbb11.trans hc12
         refine cw_true Z (cw_seq (cw_region ?_))
         have lz7 := (((hl2.trans hl3).trans hl4).trans hl5)
         refine lw_op Z Z Z (ow_load (R := RRuleset) Z Z (ARep.mono lz7 hp1) (Tryd.sizeOf25 _) (Tryd.isAgg25 _) fun v23 hv23 => lw_op Z Z Z (ow_fieldAddr Z Z Tryd.underlying38 Z (Tryd.sizeOf3 _) (lw_op Z Z Z (ow_load (R := RInt) Z Z (ARep.mono hl5 (hp6.fld fld_Rule_Chain)) (Tryd.sizeOf3 _) (Tryd.isAgg3 _) fun v24 hv24 => ?_))))
         obtain rfl := vint_eq hv24
         have lz8 := ((hl3.trans hl4).trans hl5)
         refine lw_op Z Z Z (ow_load (R := RPacket) Z Z (ARep.mono lz8 hp2) (Tryd.sizeOf27 _) (Tryd.isAgg27 _) fun v25 hv25 => lw_op Z Z Z (ow_move Z Z ?_))
         replace hb3 := bind_some hb3
         obtain ⟨x5, hx5, hb3⟩ := hb3
         refine lw_op Z Z Z (ow_call Z Z Tryd.call82 (ih (hG.mono (lz1.trans hl5)) hC5.old hv23 hv25 (hr4.base (Nat.zero_le _)) ho5 hm1 hx5) fun v26 w10 hv26 => ?_)
         obtain ⟨hw5, M4, v27, ho10, hr9, hk2, hge5⟩ := hv26
         have hY2 : ∀ b, (fun b => b = g ∨ (Value.ownBlock v2) = some b) b → w.heap.size ≤ b ∨ (fun b => b = g ∨ vs0.ownBlock = some b) b := fun b e => (e.elim (fun e => by rw [show b = g from e]; exact (.inr (.inl Z))) (fun e => (hge1 b e)))
         have hl10 := hk2.leY (fun b e => (e.elim (fun e => by rw [show b = g from e]; exact hm1) (fun e => (hr4.mem b e))))
         have hC10 := hC5.trans2 hk2 hY2
         have hge6 : ∀ b, (Value.ownBlock v27) = some b → w.heap.size ≤ b ∨ (fun b => b = g ∨ vs0.ownBlock = some b) b := fun b e => (hge5 b e).elim (fun h => .inl (Nat.le_trans hC5.bx.size h)) (hY2 b)
         have hm4 := hk2.sup _ hm1
         obtain rfl := vint_eq hw5
         refine lw_op Z Z Z (ow_assign Z Z (lw_nil (ew_then (cw_seq (cw_region (lw_op Z Z Z (ow_move Z Z (lw_op Z Z Z (ow_neqI Z Z Z fun bb12 hbb12 => lw_nil (ew_then ?_))))))))))
         replace hb3 := cond_some hb3
         rcases hb3 with ⟨hc13, hb3⟩ | ⟨hc13, hb3⟩
         ·
          obtain rfl := hbb12.trans hc13
          refine cw_true Z (cw_seq (cw_region (lw_op Z Z Z (ow_move Z Z (lw_op Z Z Z (ow_assign Z Z (lw_nil (ew_then (cw_ret (ew_blockR (ew_blockR (ew_thenR (ew_thenR (ew_blockR (ew_brkR (ew_thenR ?_))))))))))))))))
          have e8 := hR1 _ (sj hb3).symm
          subst e8
          obtain rfl := sj h
          exact ew_ret (res1 Z (.tmp Z)) ⟨_, Z, ((vint _)), M4, v27, ho10, hr9, hC10, hge6⟩
         ·
          obtain rfl := hbb12.trans hc13
          exact cw_false Z (cw_skip (ew_blockN (ew_blockN (ew_then (cw_region (lw_op Z Z Z (ow_move Z Z (lw_op Z Z Z (ow_add Z Z Z (lw_op Z Z Z (ow_assign Z Z (lw_nil (ew_nxt ((W (k1 + 1)), x5.2) hb3 fun a ha => ⟨M4, v27, (ha.sub ⟨Z, Z, Z, Z, Z, Zt⟩), (lz8.trans hl10), hC10, hr9, ho10, hm4, hge6⟩)))))))))))))
        ·
         obtain rfl := hbb11.trans hc12
         refine cw_false Z (cw_skip (ew_blockN (ew_blockN (ew_then (cw_region (lw_op Z Z Z (ow_move Z Z (lw_op Z Z Z (ow_add Z Z Z (lw_op Z Z Z (ow_assign Z Z (lw_nil ?_))))))))))))
         have lz9 := ((hl3.trans hl4).trans hl5)
         exact ew_nxt ((W (k1 + 1)), y1) hb3 fun a ha => ⟨M1, v2, (ha.sub ⟨Z, Z, Z, Z, Z, Zt⟩), lz9, hC5, hr4, ho5, hm1, hge1⟩
   ·
    subst hc2
    refine cw_true Z (cw_exit (ew_thenX (ew_blockX (ew_then (cw_region (lw_op Z Z Z (ow_move Z Z (lw_op Z Z Z (ow_add Z Z Z (lw_op Z Z Z (ow_assign Z Z (lw_nil ?_))))))))))))
    have lz10 := ((hl3.trans hl4).trans hl5)
    exact ew_nxt ((W (k1 + 1)), y1) hb3 fun a ha => ⟨M1, v2, (ha.sub ⟨Z, Z, Z, Z, Z, Zt⟩), lz10, hC5, hr4, ho5, hm1, hge1⟩
  ·
   obtain rfl := hbb1.trans hc1
   exact cw_false Z (cw_exit (ew_thenX (ew_thenX (ew_blockX (ew_brk (k1, y1) hb3 fun a ha => ⟨M1, v2, (ha.sub ⟨Z, Z, Z, Z, Z, Zt⟩), hl3, hC3, hw1, ho3, hm1, hge1⟩)))))
 ·
  rintro ⟨k2, y2⟩ a w11 hlr2 ⟨M5, v29, hF2, hl11, hC11, hw6, ho11, hm5, hge7⟩
  subst hlr2
  refine ew_at (E := [(1, (Zv a_chain)), (3, (Zw g 0)), (4, (.pointer (some p1))), (6, (.pointer (some p2))), (9, (Zv k2))]) hF2 (ew_then (cw_seq (cw_region (lw_op Z Z Z (ow_assign Z Z (lw_nil (ew_then (cw_ret ?_))))))))
  obtain rfl := sj h
  exact ew_ret (res1 Z (.tmp Z)) ⟨_, Z, ((vint _)), M5, v29, ho11, hw6, hC11, hge7⟩

theorem w_spec_JudgeTrace {w : World} {M : Nat → Prop} (hG : ARep (RArr 4 RShape) w M shapes ⟨0, 0, none⟩) (hO : ∀ b, M b → b < w.heap.size) {v0p : Value} {a_s : Ruleset} (h0 : VRep RRuleset w M a_s v0p) {v1p : Value} {a_p : Packet} (h1 : VRep RPacket w M a_p v1p) {r : (List Visit)} (h : F.spec_JudgeTrace a_s a_p = some r) :
  Calls Tryd.prog 56 [v0p, v1p].toArray w fun e w' => ∃ v, e = .returned v ∧ VRep (RSlice RVisit) w' M r v ∧ BX No w w' := by
 have hC : Cx No w M w M := Cx.start hO (fun _ e => e.elim)
 refine walk (N := 17) Tryd.func56 Z Tryd.ntmps56 Z (cw_seq (cw_region (lw_op Z Z Z (ow_box (R := RRuleset) Z Z h0 hC fun p1 w1 hp1 hb1 hl1 hC1 => lw_op Z Z Z (ow_box (R := RPacket) Z Z (VRep.mono hl1 h1) hC1 fun p2 w2 hp2 hb2 hl2 hC2 => lw_op Z Z Z (ow_assign Z Z (lw_nil (ew_then (cw_seq (cw_region (lw_op Z Z Z (ow_buildSlice0 (R := RVisit) (e := 171) Z (by kernel_rfl) hC2 fun p3 w3 M1 hr1 hb3 hl3 hC3 hM1 hat1 => lw_op Z Z Z (ow_alloc Z (Tryd.zeroValue86 _) hC3 fun g1 w4 hg1 hg2 ho1 hb4 hl4 hC4 => ?_)))))))))))))
 have hr2 := hr1.add hb4 hg1
 have hm1 : (Add g1 M1) g1 := .inl Z
 refine lw_op0 Z Z (ow_store (X := No) (us := [(.slice (some p3) 0 0)]) (cs' := #[(.slice (some p3) 0 0)]) Z Z Z Z ho1 (Tryd.sizeOf86 _) Z Z Z Z hm1 (.inl hg2) Z hC4 fun w5 ho2 hb5 hl5 hC5 => ?_)
 have hr3 := hr2.go hb5 (fun k hk e => (orow_ne hr2 ho1 (by decide)) (hk.trans (congrArg some e))) hl5 (fun _ h => h)
 refine lw_nil (ew_then (cw_seq (cw_seq (cw_region ?_))))
 have lz1 := (((hl2.trans hl3).trans hl4).trans hl5)
 refine lw_op Z Z Z (ow_load (R := RRuleset) Z Z (ARep.mono lz1 hp1) (Tryd.sizeOf25 _) (Tryd.isAgg25 _) fun v1 hv1 => ?_)
 replace h := bind_some h
 obtain ⟨x1, hx1, h⟩ := h
 have lz2 := ((((hl1.trans hl2).trans hl3).trans hl4).trans hl5)
 refine lw_op Z Z Z (ow_call Z Z Tryd.call80 (w_spec_RulesetValid (hG.mono lz2) hC5.old hv1 hx1) fun v2 w6 hv2 => ?_)
 obtain ⟨hv2, hb6⟩ := hv2
 have hl6 := Le.no (Add g1 M1) hb6
 have hC6 := hC5.no hb6
 have ho3 := ho2.no hb6
 have hr4 := hr3.no hb6
 obtain rfl := vbool_eq hv2
 refine lw_op Z Z Z (ow_move Z Z ?_)
 replace h := cond_some h
 rcases h with ⟨hc1, h⟩ | ⟨hc1, h⟩
 ·
  subst hc1
  have lz3 := (((hl3.trans hl4).trans hl5).trans hl6)
  refine lw_on Z Z Z Z Z Z (ow_load (R := RPacket) Z Z (ARep.mono lz3 hp2) (Tryd.sizeOf27 _) (Tryd.isAgg27 _) fun v3 hv3 => ?_)
  replace h := bind_some h
  obtain ⟨x2, hx2, h⟩ := h
  refine lw_on Z Z Z Z Z Z (ow_call Z Z Tryd.call81 (w_spec_PacketValid (hG.mono (lz2.trans hl6)) hC6.old hv3 hx2) fun v4 w7 hv4 => ?_)
  obtain ⟨hv4, hb7⟩ := hv4
  have hl7 := Le.no (Add g1 M1) hb7
  have hC7 := hC6.no hb7
  have ho4 := ho3.no hb7
  have hr5 := hr4.no hb7
  obtain rfl := vbool_eq hv4
  refine lw_op Z Z Z (ow_pickT Z Z Z (lw_nil (ew_then ?_)))
  replace h := cond_some h
  rcases h with ⟨hc2, h⟩ | ⟨hc2, h⟩
  ·
   subst hc2
   refine cw_true Z (cw_region ?_)
   have lz4 := ((lz1.trans hl6).trans hl7)
   refine lw_op Z Z Z (ow_load (R := RRuleset) Z Z (ARep.mono lz4 hp1) (Tryd.sizeOf25 _) (Tryd.isAgg25 _) fun v5 hv5 => lw_op Z Z Z (ow_load (R := RPacket) Z Z (ARep.mono (lz3.trans hl7) hp2) (Tryd.sizeOf27 _) (Tryd.isAgg27 _) fun v6 hv6 => ?_))
   replace h := bind_some h
   obtain ⟨x3, hx3, h⟩ := h
   have lz5 := ((lz2.trans hl6).trans hl7)
   refine lw_op Z Z Z (ow_call Z Z Tryd.call82 (w_spec_l9Walk 10 (hG.mono lz5) hC7.old hv5 hv6 (hr5.base (Nat.zero_le _)) ho4 hm1 hx3) fun v7 w8 hv7 => ?_)
   obtain ⟨hw1, M2, v8, ho5, hr6, hk1, hge1⟩ := hv7
   have hY1 : ∀ b, (fun b => b = g1 ∨ (Value.ownBlock (.slice (some p3) 0 0)) = some b) b → w.heap.size ≤ b ∨ No b := fun b e => (e.elim (fun e => by rw [show b = g1 from e]; exact (.inl hg2)) (fun e => ((fun b e => .inl (hr5.block e).1) b e)))
   have hC8 := hC7.trans2 hk1 hY1
   have hr7 := hr6.raise (B' := w.heap.size) (fun b e => (hge1 b e).elim (fun h => Nat.le_trans hC7.bx.size h) (fun e => (e.elim (fun e => by rw [show b = g1 from e]; exact hg2) (fun e => ((hr5.block e).1)))))
   obtain rfl := vint_eq hw1
   refine lw_nil (ew_then (cw_seq (cw_region (lw_op Z Z Z (ow_loadOwn1 Z Z Z ho5 (Tryd.isAgg86 _) Z (lw_op Z Z Z (ow_assign Z Z (lw_nil (ew_then (cw_ret ?_))))))))))
   obtain rfl := sj h
   exact ew_ret (res1 Z (.tmp Z)) ⟨_, Z, (hr7.freezeBack hC8 hO), hC8.bx⟩
  ·
   subst hc2
   refine cw_false Z (cw_skip (ew_then (cw_seq (cw_region (lw_op Z Z Z (ow_loadOwn1 Z Z Z ho4 (Tryd.isAgg86 _) Z (lw_op Z Z Z (ow_assign Z Z (lw_nil (ew_then (cw_ret ?_)))))))))))
   obtain rfl := sj h
   exact ew_ret (res1 Z (.tmp Z)) ⟨_, Z, (hr5.freezeBack hC7 hO), hC7.bx⟩
 ·
  subst hc1
  refine lw_off Z Z Z Z Z Z (lw_off Z Z Z Z Z Z (lw_op Z Z Z (ow_pickF Z Z Z (lw_nil (ew_then (cw_false Z (cw_skip (ew_then (cw_seq (cw_region (lw_op Z Z Z (ow_loadOwn1 Z Z Z ho3 (Tryd.isAgg86 _) Z (lw_op Z Z Z (ow_assign Z Z (lw_nil (ew_then (cw_ret ?_)))))))))))))))))
  obtain rfl := sj h
  exact ew_ret (res1 Z (.tmp Z)) ⟨_, Z, (hr4.freezeBack hC6 hO), hC6.bx⟩

theorem w_laws_toPacket {w : World} {M : Nat → Prop} (_hG : ARep (RArr 4 RShape) w M shapes ⟨0, 0, none⟩) (hO : ∀ b, M b → b < w.heap.size) {v0p : Value} {a_a : Packet} (h0 : VRep RPacket w M a_a v0p) {r : Packet} (h : F.laws_toPacket a_a = some r) :
  Calls Tryd.prog 57 [v0p].toArray w fun e w' => ∃ v, e = .returned v ∧ VRep RPacket w' M r v ∧ BX No w w' := by
 have hC : Cx No w M w M := Cx.start hO (fun _ e => e.elim)
 clear _hG
 refine walk (N := 17) Tryd.func57 Z Tryd.ntmps57 Z (cw_seq (cw_region (lw_op Z Z Z (ow_box (R := RPacket) Z Z h0 hC fun p1 w1 hp1 hb1 hl1 hC1 => lw_op Z Z Z (ow_alloc Z (Tryd.zeroValue27 _) hC1 fun g1 w2 hg1 hg2 ho1 hb2 hl2 hC2 => ?_)))))
 have hm1 : (Add g1 M) g1 := .inl Z
 refine lw_nil (ew_then (cw_seq (cw_region (lw_op Z Z Z (ow_alloc Z (Tryd.zeroValue27 _) hC2 fun g2 w3 hg3 hg4 ho2 hb3 hl3 hC3 => ?_)))))
 have hn1 := Nat.ne_of_lt (Nat.lt_of_lt_of_le ho1.lt hg3)
 have ho3 := ho1.no hb3
 have hm2 : (Add g2 (Add g1 M)) g1 := .inr hm1
 have hm3 : (Add g2 (Add g1 M)) g2 := .inl Z
 refine lw_nil (ew_then (cw_seq (cw_region (lw_op Z Z Z (ow_fieldAddr Z Z Tryd.underlying85 Z (Tryd.sizeOf3 _) (lw_op Z Z Z (ow_load (R := RInt) Z Z (ARep.mono (hl2.trans hl3) (hp1.fld fld_Packet_From)) (Tryd.sizeOf3 _) (Tryd.isAgg3 _) fun v1 hv1 => ?_)))))))
 obtain rfl := vint_eq hv1
 refine lw_op Z Z Z (ow_fieldAddr Z Z Tryd.underlying27 Z (Tryd.sizeOf3 _) (lw_op0 Z Z (ow_store (X := No) (us := [(Zv a_a.From)]) (cs' := #[(Zv a_a.From), (Zv 0), (Zv 0), (Zv 0)]) Z Z Z Z ho2 (Tryd.sizeOf3 _) Z Z Z Z hm3 (.inl hg4) Z hC3 fun w4 ho4 hb4 hl4 hC4 => ?_)))
 have ho5 := ho3.go hb4 (fun e => hn1 e)
 refine lw_nil (ew_then (cw_seq (cw_region (lw_op Z Z Z (ow_fieldAddr Z Z Tryd.underlying85 Z (Tryd.sizeOf3 _) ?_)))))
 have lz1 := ((hl2.trans hl3).trans hl4)
 refine lw_op Z Z Z (ow_load (R := RInt) Z Z (ARep.mono lz1 (hp1.fld fld_Packet_To)) (Tryd.sizeOf3 _) (Tryd.isAgg3 _) fun v2 hv2 => ?_)
 obtain rfl := vint_eq hv2
 refine lw_op Z Z Z (ow_fieldAddr Z Z Tryd.underlying27 Z (Tryd.sizeOf3 _) (lw_op0 Z Z (ow_store (X := No) (us := [(Zv a_a.To)]) (cs' := #[(Zv a_a.From), (Zv a_a.To), (Zv 0), (Zv 0)]) Z Z Z Z ho4 (Tryd.sizeOf3 _) Z Z Z Z hm3 (.inl hg4) Z hC4 fun w5 ho6 hb5 hl5 hC5 => ?_)))
 have ho7 := ho5.go hb5 (fun e => hn1 e)
 refine lw_nil (ew_then (cw_seq (cw_region (lw_op Z Z Z (ow_fieldAddr Z Z Tryd.underlying85 Z (Tryd.sizeOf3 _) (lw_op Z Z Z (ow_load (R := RInt) Z Z (ARep.mono (lz1.trans hl5) (hp1.fld fld_Packet_Port)) (Tryd.sizeOf3 _) (Tryd.isAgg3 _) fun v3 hv3 => ?_)))))))
 obtain rfl := vint_eq hv3
 refine lw_op Z Z Z (ow_fieldAddr Z Z Tryd.underlying27 Z (Tryd.sizeOf3 _) (lw_op0 Z Z (ow_store (X := No) (us := [(Zv a_a.Port)]) (cs' := #[(Zv a_a.From), (Zv a_a.To), (Zv a_a.Port), (Zv 0)]) Z Z Z Z ho6 (Tryd.sizeOf3 _) Z Z Z Z hm3 (.inl hg4) Z hC5 fun w6 ho8 hb6 hl6 hC6 => ?_)))
 have ho9 := ho7.go hb6 (fun e => hn1 e)
 refine lw_nil (ew_then (cw_seq (cw_region (lw_op Z Z Z (ow_fieldAddr Z Z Tryd.underlying85 Z (Tryd.sizeOf3 _) ?_)))))
 have lz2 := ((lz1.trans hl5).trans hl6)
 refine lw_op Z Z Z (ow_load (R := RInt) Z Z (ARep.mono lz2 (hp1.fld fld_Packet_Proto)) (Tryd.sizeOf3 _) (Tryd.isAgg3 _) fun v4 hv4 => ?_)
 obtain rfl := vint_eq hv4
 refine lw_op Z Z Z (ow_fieldAddr Z Z Tryd.underlying27 Z (Tryd.sizeOf3 _) (lw_op0 Z Z (ow_store (X := No) (us := [(Zv a_a.Proto)]) (cs' := #[(Zv a_a.From), (Zv a_a.To), (Zv a_a.Port), (Zv a_a.Proto)]) Z Z Z Z ho8 (Tryd.sizeOf3 _) Z Z Z Z hm3 (.inl hg4) Z hC6 fun w7 ho10 hb7 hl7 hC7 => ?_)))
 have ho11 := ho9.go hb7 (fun e => hn1 e)
 refine lw_nil (ew_then (cw_seq (cw_region (lw_op Z Z Z (ow_loadOwnA Z Z Z ho10 (Tryd.isAgg27 _) (Tryd.sizeOf27 _) Z (lw_op0 Z Z (ow_store (X := No) (us := [(Zv a_a.From), (Zv a_a.To), (Zv a_a.Port), (Zv a_a.Proto)]) (cs' := #[(Zv a_a.From), (Zv a_a.To), (Zv a_a.Port), (Zv a_a.Proto)]) Z Z Z Z ho11 (Tryd.sizeOf27 _) Z Z Z Z hm2 (.inl hg2) Z hC7 fun w8 ho12 hb8 hl8 hC8 => lw_nil (ew_then (cw_ret ?_)))))))))
 have hw2 : VRep RPacket w8 (Add g2 (Add g1 M)) ({ From := a_a.From, To := a_a.To, Port := a_a.Port, Proto := a_a.Proto } : Packet) (.agg #[(Zv a_a.From), (Zv a_a.To), (Zv a_a.Port), (Zv a_a.Proto)]) := shut_Packet
 obtain rfl := sj h
 exact ew_ret (res1 Z (.cell Z (own_loadVarA ho12 (Tryd.isAgg27 _) (Tryd.sizeOf27 _) Z))) ⟨_, Z, (hw2.mono hC8.back), hC8.bx⟩

theorem wo_impl_callsIn {w : World} {M : Nat → Prop} (_hG : ARep (RArr 4 RShape) w M shapes ⟨0, 0, none⟩) (hO : ∀ b, M b → b < w.heap.size) {v0p : Value} {a_rules : List Rule} (h0 : VRep (RSlice RRule) w M a_rules v0p) {r : (List Int)} (h : F.impl_callsIn a_rules = some r) :
  Calls Tryd.prog 120 [v0p].toArray w fun e w' => ∃ v, e = .returned v ∧ (∃ M', OwnRow RInt w.heap.size 3 w' M' r v ∧ Cx No w M w' M') ∧ BX No w w' := by
 obtain ⟨i3, hi3, hz3, hs3, hy3⟩ := info3
 have hC : Cx No w M w M := Cx.start hO (fun _ e => e.elim)
 clear _hG
 refine walk (N := 34) Tryd.func120 Z Tryd.ntmps120 Z (cw_seq (cw_region (lw_op Z Z Z (ow_assign Z Z (lw_nil (ew_then (cw_seq (cw_region (lw_op Z Z Z (ow_alloc Z (Tryd.zeroValue213 _) hC fun g1 w1 hg1 hg2 ho1 hb1 hl1 hC1 => ?_))))))))))
 have hm1 : (Add g1 M) g1 := .inl Z
 have ho2 : OwnA (RArr 5 RBool) w1 (Add g1 M) g1 213 [false, false, false, false, false] := OwnA.of ho1 ⟨Z, ⟨_, _, Z, (vbool _).cells, _, _, Z, (vbool _).cells, _, _, Z, (vbool _).cells, _, _, Z, (vbool _).cells, _, _, Z, (vbool _).cells, Z⟩⟩
 refine lw_nil (ew_then (cw_seq (cw_seq (cw_region (lw_op Z Z Z (ow_move Z Z (lw_op Z Z Z (ow_len Z Z (VRep.mono hl1 h0) Tryd.underlying39 Z (lw_op Z Z Z (ow_move Z Z (lw_nil (ew_then ?_))))))))))))
 replace h := bind_some h
 obtain ⟨lr1, hlr1, h⟩ := h
 refine cw_for hlr1 (fun s a w' => ∃ (M' : Nat → Prop), Fits 34 [(3, (Zw g1 0)), (9, v0p), (10, (Zv (a_rules.length : Int))), (11, (Zv s.1))] a ∧ Le w1 (Add g1 M) w' M' ∧ Cx No w M w' M' ∧ OwnA (RArr 5 RBool) w' M' g1 213 s.2 ∧ M' g1) ?_ ?_ ?_
 · exact fun a ha => ⟨(Add g1 M), ha.sub ⟨Z, Z, Z, Z, Zt⟩, Le.refl _ _, hC1, ho2, hm1⟩
 ·
  rintro ⟨k1, y1⟩ a w2 sr1 ⟨M1, hF1, hl2, hC2, ho3, hm2⟩ hb2 hR1
  refine cw_at (E := [(3, (Zw g1 0)), (9, v0p), (10, (Zv (a_rules.length : Int))), (11, (Zv k1))]) hF1 (cw_seq (cw_region (lw_op Z Z Z (ow_lss Z Z Z fun bb1 hbb1 => lw_nil (ew_then (cw_seq ?_))))))
  replace hb2 := cond_some hb2
  rcases hb2 with ⟨hc1, hb2⟩ | ⟨hc1, hb2⟩
  ·
   obtain rfl := hbb1.trans hc1
   refine cw_true Z (cw_skip (ew_then (cw_seq (cw_block (cw_seq (cw_region ?_))))))
   replace hb2 := bind_some hb2
   obtain ⟨x1, hx1, hb2⟩ := hb2
   refine lw_op Z Z Z (ow_indexSlice (R := RRule) Z Z Z (VRep.mono (hl1.trans hl2) h0) Tryd.underlying39 (Tryd.sizeOf38 _) hx1 fun p1 hp1 => lw_op Z Z Z (ow_load (R := RRule) Z Z hp1 (Tryd.sizeOf38 _) (Tryd.isAgg38 _) fun v3 hv3 => lw_allocStore (R := RRule) Z Z Z Z Z Z Z Tryd.zeroValue38 Tryd.sizeOf38 Z Z Z (by simp) hv3 hC2 fun p2 w3 hp2 hb3 hl3 hC3 => ?_))
   have ho4 := ho3.no hb3 hl3
   refine lw_nil (ew_then (cw_seq (cw_region (lw_op Z Z Z (ow_fieldAddr Z Z Tryd.underlying38 Z (Tryd.sizeOf3 _) (lw_op Z Z Z (ow_load (R := RInt) Z Z (hp2.fld fld_Rule_Action) (Tryd.sizeOf3 _) (Tryd.isAgg3 _) fun v4 hv4 => ?_)))))))
   obtain rfl := vint_eq hv4
   refine lw_op Z Z Z (ow_eqlI Z Z Z fun bb2 hbb2 => lw_nil (ew_then ?_))
   replace hb2 := cond_some hb2
   rcases hb2 with ⟨hc2, hb2⟩ | ⟨hc2, hb2⟩
   ·
    obtain rfl := hbb2.trans hc2
    refine cw_true Z (cw_region (lw_op Z Z Z (ow_fieldAddr Z Z Tryd.underlying38 Z (Tryd.sizeOf3 _) (lw_op Z Z Z (ow_load (R := RInt) Z Z (hp2.fld fld_Rule_Chain) (Tryd.sizeOf3 _) (Tryd.isAgg3 _) fun v5 hv5 => ?_)))))
    obtain rfl := vint_eq hv5
    replace hb2 := bind_some hb2
    obtain ⟨x2, hx2, hb2⟩ := hb2
    refine lw_op Z Z Z (ow_indexA (R := RBool) Z Z Z Z ho4 Tryd.underlying213 (Tryd.sizeOf4 _) hx2 (lw_op0 Z Z (ow_storeElA (X := No) (R := RBool) Z Z Z Z ho4 hx2 (Tryd.sizeOf4 _) (vbool _) hm2 (.inl hg2) hC3 fun w4 ho5 hb4 hl4 hC4 => lw_nil (ew_blockN (ew_then (cw_region (lw_op Z Z Z (ow_add Z Z Z (lw_op Z Z Z (ow_move Z Z (lw_nil ?_)))))))))))
    have lz1 := ((hl2.trans hl3).trans hl4)
    exact ew_nxt ((W (k1 + 1)), (List.set y1 (x1.Chain : Int).toNat true)) hb2 fun a ha => ⟨M1, (ha.sub ⟨Z, Z, Z, Z, Zt⟩), lz1, hC4, ho5, hm2⟩
   ·
    obtain rfl := hbb2.trans hc2
    exact cw_false Z (cw_skip (ew_blockN (ew_then (cw_region (lw_op Z Z Z (ow_add Z Z Z (lw_op Z Z Z (ow_move Z Z (lw_nil (ew_nxt ((W (k1 + 1)), y1) hb2 fun a ha => ⟨M1, (ha.sub ⟨Z, Z, Z, Z, Zt⟩), (hl2.trans hl3), hC3, ho4, hm2⟩))))))))))
  ·
   obtain rfl := hbb1.trans hc1
   exact cw_false Z (cw_exit (ew_thenX (ew_thenX (ew_blockX (ew_brk (k1, y1) hb2 fun a ha => ⟨M1, (ha.sub ⟨Z, Z, Z, Z, Zt⟩), hl2, hC2, ho3, hm2⟩)))))
 ·
  rintro ⟨k2, y2⟩ a w5 hlr2 ⟨M2, hF2, hl5, hC5, ho6, hm3⟩
  subst hlr2
  refine ew_at (E := [(3, (Zw g1 0)), (9, v0p), (10, (Zv (a_rules.length : Int))), (11, (Zv k2))]) hF2 (ew_then (cw_seq (cw_region (lw_op Z Z Z (ow_assign Z Z (lw_nil (ew_then (cw_seq (cw_seq (cw_region (lw_op Z Z Z (ow_loadA (R := (RArr 5 RBool)) Z Z Z ho6 (Tryd.sizeOf213 _) (Tryd.isAgg213 _) fun v8 hv8 => lw_op Z Z Z (ow_move Z Z (lw_nil (ew_then ?_)))))))))))))))
  have hr1 : OwnRow RInt w.heap.size 3 w5 M2 ([] : List Int) (.slice none 0 0) := ownrow_nil
  replace h := bind_some h
  obtain ⟨lr2, hlr3, h⟩ := h
  refine cw_for hlr3 (fun s a w' => ∃ (M' : Nat → Prop) (v0c : Value), Fits 34 [(6, v0c), (22, v8), (23, (Zv s.2))] a ∧ Le w5 M2 w' M' ∧ Cx No w M w' M' ∧ OwnRow RInt w.heap.size 3 w' M' s.1 v0c) ?_ ?_ ?_
  · exact fun a ha => ⟨M2, (.slice none 0 0), ha.sub ⟨Z, Z, Z, Zt⟩, Le.refl _ _, hC5, hr1⟩
  ·
   rintro ⟨y3, k3⟩ a w6 sr2 ⟨M3, v9, hF3, hl6, hC6, hw1⟩ hb5 hR2
   refine cw_at (E := [(6, v9), (22, v8), (23, (Zv k3))]) hF3 (cw_seq (cw_region (lw_op Z Z Z (ow_lss Z Z Z fun bb3 hbb3 => lw_nil (ew_then (cw_seq ?_))))))
   replace hb5 := cond_some hb5
   rcases hb5 with ⟨hc3, hb5⟩ | ⟨hc3, hb5⟩
   ·
    obtain rfl := hbb3.trans hc3
    refine cw_true Z (cw_skip (ew_then (cw_seq (cw_block (cw_seq (cw_region (lw_op Z Z Z (ow_move Z Z ?_))))))))
    replace hb5 := bind_some hb5
    obtain ⟨x3, hx3, hb5⟩ := hb5
    refine lw_op Z Z Z (ow_index (R := RBool) Z Z Z (VRep.mono hl6 hv8) Tryd.underlying213 (Tryd.sizeOf4 _) (Tryd.isAgg4 _) hx3 fun v11 hv11 => ?_)
    obtain rfl := vbool_eq hv11
    refine lw_op Z Z Z (ow_assign Z Z (lw_op Z Z Z (ow_assign Z Z (lw_nil (ew_then (cw_seq (cw_region (lw_op Z Z Z (ow_move Z Z (lw_nil (ew_then ?_)))))))))))
    replace hb5 := cond_some hb5
    rcases hb5 with ⟨hc4, hb5⟩ | ⟨hc4, hb5⟩
    ·
     subst hc4
     refine cw_true Z (cw_region (lw_op Z Z Z (ow_move Z Z (lw_op Z Z Z (ow_move Z Z (lw_op Z Z Z (ow_buildSlice (R := RInt) (xs := [k3]) (cs := #[(Zv k3)]) (e := 3) Z Z (by kernel_rfl) Z Z ⟨_, _, Z, (vint _).cells, Z⟩ hC6 fun p3 w7 hw2 hb6 hl7 hC7 => ?_)))))))
     have hr2 := hw1.no hb6
     replace hb5 := bind_some hb5
     obtain ⟨z1, hz1, hb5⟩ := hb5
     refine lw_op Z Z Z (ow_append (R := RInt) Z Z Z Z Tryd.underlying34 hi3 hz3 hs3 hy3 Z Z Z Z hr2 hw2 hz1 hC7 fun v12 w8 M4 hr3 hb7 hl8 hC8 hM1 hat1 => lw_op Z Z Z (ow_assign Z Z (lw_nil (ew_blockN (ew_then (cw_region (lw_op Z Z Z (ow_add Z Z Z (lw_op Z Z Z (ow_move Z Z (lw_nil ?_)))))))))))
     have lz2 := ((hl6.trans hl7).trans hl8)
     exact ew_nxt (z1, (W (k3 + 1))) hb5 fun a ha => ⟨M4, v12, (ha.sub ⟨Z, Z, Z, Zt⟩), lz2, hC8, hr3⟩
    ·
     subst hc4
     exact cw_false Z (cw_skip (ew_blockN (ew_then (cw_region (lw_op Z Z Z (ow_add Z Z Z (lw_op Z Z Z (ow_move Z Z (lw_nil (ew_nxt (y3, (W (k3 + 1))) hb5 fun a ha => ⟨M3, v9, (ha.sub ⟨Z, Z, Z, Zt⟩), hl6, hC6, hw1⟩))))))))))
   ·
    obtain rfl := hbb3.trans hc3
    exact cw_false Z (cw_exit (ew_thenX (ew_thenX (ew_blockX (ew_brk (y3, k3) hb5 fun a ha => ⟨M3, v9, (ha.sub ⟨Z, Z, Z, Zt⟩), hl6, hC6, hw1⟩)))))
  ·
   rintro ⟨y4, k4⟩ a w9 hlr4 ⟨M5, v13, hF4, hl9, hC9, hw3⟩
   subst hlr4
   refine ew_at (E := [(6, v13), (22, v8), (23, (Zv k4))]) hF4 (ew_then (cw_seq (cw_region (lw_op Z Z Z (ow_move Z Z (lw_op Z Z Z (ow_assign Z Z (lw_nil (ew_then (cw_ret ?_))))))))))
   obtain rfl := sj h
   exact ew_ret (res1 Z (.tmp Z)) ⟨_, Z, ⟨M5, hw3, hC9⟩, hC9.bx⟩

theorem w_impl_callsIn {w : World} {M : Nat → Prop} (hG : ARep (RArr 4 RShape) w M shapes ⟨0, 0, none⟩) (hO : ∀ b, M b → b < w.heap.size) {v0p : Value} {a_rules : List Rule} (h0 : VRep (RSlice RRule) w M a_rules v0p) {r : (List Int)} (h : F.impl_callsIn a_rules = some r) :
  Calls Tryd.prog 120 [v0p].toArray w fun e w' => ∃ v, e = .returned v ∧ VRep (RSlice RInt) w' M r v ∧ BX No w w' := by
 refine Calls.mono (wo_impl_callsIn hG hO h0 h) fun e w1 hz => ?_
 obtain ⟨v, e1, ⟨M1, hr, hc⟩, hb⟩ := hz
 exact ⟨v, e1, hr.freezeBack hc hO, hb⟩

theorem w_impl_FieldTop {w : World} {M : Nat → Prop} (hG : ARep (RArr 4 RShape) w M shapes ⟨0, 0, none⟩) (hO : ∀ b, M b → b < w.heap.size) {a_n : Int} {r : Int} (h : F.impl_FieldTop a_n = some r) :
  Calls Tryd.prog 142 [(.int .i64 a_n)].toArray w fun e w' => ∃ v, e = .returned v ∧ VRep RInt w' M r v ∧ BX No w w' := by
 have hC : Cx No w M w M := Cx.start hO (fun _ e => e.elim)
 refine walk (N := 13) Tryd.func142 Z Tryd.ntmps142 Z (cw_seq (cw_region (lw_op Z Z Z (ow_assign Z Z (lw_nil (ew_then (cw_seq (cw_seq (cw_region (lw_op Z Z Z (ow_move Z Z (lw_op Z Z Z (ow_lss Z Z Z fun bb1 hbb1 => lw_op Z Z Z (ow_move Z Z ?_))))))))))))))
 replace h := cond_some h
 rcases h with ⟨hc1, h⟩ | ⟨hc1, h⟩
 ·
  obtain rfl := hbb1.trans hc1
  refine lw_off Z Z Z Z Z Z (lw_off Z Z Z Z Z Z (lw_op Z Z Z (ow_pickT Z Z Z (lw_nil (ew_then (cw_true Z (cw_seq (cw_region (lw_op Z Z Z (ow_assign Z Z (lw_nil (ew_then (cw_ret (ew_thenR ?_))))))))))))))
  obtain rfl := sj h
  exact ew_ret (res1 Z (.tmp Z)) ⟨_, Z, ((vint _)), hC.bx⟩
 ·
  obtain rfl := hbb1.trans hc1
  refine lw_on Z Z Z Z Z Z (ow_move Z Z (lw_on Z Z Z Z Z Z (ow_geq Z Z Z fun bb2 hbb2 => lw_op Z Z Z (ow_pickF Z Z Z (lw_nil (ew_then ?_))))))
  replace h := cond_some h
  rcases h with ⟨hc2, h⟩ | ⟨hc2, h⟩
  ·
   obtain rfl := hbb2.trans hc2
   refine cw_true Z (cw_seq (cw_region (lw_op Z Z Z (ow_assign Z Z (lw_nil (ew_then (cw_ret (ew_thenR ?_))))))))
   obtain rfl := sj h
   exact ew_ret (res1 Z (.tmp Z)) ⟨_, Z, ((vint _)), hC.bx⟩
  ·
   obtain rfl := hbb2.trans hc2
   refine cw_false Z (cw_skip (ew_then (cw_seq (cw_region (lw_op Z Z Z (ow_move Z Z ?_))))))
   replace h := bind_some h
   obtain ⟨x1, hx1, h⟩ := h
   refine lw_op Z Z Z (ow_indexArr (R := RShape) Z Z Z hG Tryd.underlying135 (Tryd.sizeOf134 _) hx1 fun p1 hp1 => lw_op Z Z Z (ow_fieldAddr Z Z Tryd.underlying134 Z (Tryd.sizeOf3 _) (lw_op Z Z Z (ow_load (R := RInt) Z Z (hp1.fld fld_Shape_top) (Tryd.sizeOf3 _) (Tryd.isAgg3 _) fun v1 hv1 => ?_))))
   obtain rfl := vint_eq hv1
   refine lw_op Z Z Z (ow_assign Z Z (lw_nil (ew_then (cw_ret ?_))))
   obtain rfl := sj h
   exact ew_ret (res1 Z (.tmp Z)) ⟨_, Z, ((vint _)), hC.bx⟩


end Go.PF
