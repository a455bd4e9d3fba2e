/- The walks; no condition. -/
import Derived.Test.YtfoodjhnagclfaaDoorProg
import Derived.Test.YtfoodjhnagclfaaDoorFun
import Derived.Test.YtfoodjhnagclfaaDoorPFWalk
set_option maxRecDepth 100000
set_option maxHeartbeats 4000000
namespace Go.PF
open Go Go.RowKit Go.Proofs

theorem info3 : ∃ i, Tryd.prog.info? 3 = some i ∧ i.zero = some (.int .i64 0) ∧ i.size = 1 ∧ i.bytes = 8 := info_parts (by kernel_rfl)
theorem info4 : ∃ i, Tryd.prog.info? 4 = some i ∧ i.zero = some (.bool false) ∧ i.size = 1 ∧ i.bytes = 1 := info_parts (by kernel_rfl)
theorem info39 : ∃ i, Tryd.prog.info? 39 = some i ∧ i.zero = some (.agg #[.int .i64 0, .int .i64 0, .int .i64 0, .int .i64 0]) ∧ i.size = 4 ∧ i.bytes = 32 := info_parts (by kernel_rfl)
theorem info76 : ∃ i, Tryd.prog.info? 76 = some i ∧ i.zero = some (.agg #[.slice none 0 0, .int .i64 0, .int .i64 0]) ∧ i.size = 3 ∧ i.bytes = 40 := info_parts (by kernel_rfl)
theorem info86 : ∃ i, Tryd.prog.info? 86 = some i ∧ i.zero = some (.slice none 0 0) ∧ i.size = 1 ∧ i.bytes = 24 := info_parts (by kernel_rfl)
theorem info171 : ∃ i, Tryd.prog.info? 171 = some i ∧ i.zero = some (.agg #[.int .i64 0, .int .i64 0]) ∧ i.size = 2 ∧ i.bytes = 16 := info_parts (by kernel_rfl)
theorem info173 : ∃ i, Tryd.prog.info? 173 = some i ∧ i.zero = some (.agg #[.int .i64 0, .int .i64 0]) ∧ i.size = 2 ∧ i.bytes = 16 := info_parts (by kernel_rfl)
theorem info186 : ∃ i, Tryd.prog.info? 186 = some i ∧ i.zero = some (.agg #[.int .i64 0, .int .i64 0, .int .i64 0, .bool false]) ∧ i.size = 4 ∧ i.bytes = 32 := info_parts (by kernel_rfl)
def actV : Act_ → Value
  | .deciding b => .iface 205 (.agg #[.bool b])
  | .calling c => .iface 207 (.agg #[.int .i64 c])
  | .returning => .iface 209 (.agg #[])
  | .passing => .iface 210 (.agg #[])
theorem w_laws_szTestS {w : World} {M : Nat → Prop} (_hG : ARep (RArr 4 RShape) w M shapes ⟨0, 0, none⟩) (hO : ∀ b, M b → b < w.heap.size) {v0p : Value} {a_a : List Test} (h0 : VRep (RSlice RTest) w M a_a v0p) {a_left : Int} {r : Int} (h : F.laws_szTestS a_a a_left = some r) :
    Calls Tryd.prog 157 [v0p, (.int .i64 a_left)].toArray w fun e w' => ∃ v, e = .returned v ∧ VRep RInt w' M r v ∧ BX No w w' := by
  have hC : Cx No w M w M := Cx.start hO (fun _ e => e.elim)
  clear _hG
  refine walk (N := 12) Tryd.func157 rfl Tryd.ntmps157 rfl ?_
  refine cw_seq ?_
  refine cw_region ?_
  refine lw_op rfl rfl rfl (ow_assign rfl rfl ?_)
  refine lw_nil ?_
  refine ew_then ?_
  refine cw_seq ?_
  refine cw_region ?_
  refine lw_op rfl rfl rfl (ow_move rfl rfl ?_)
  refine lw_op rfl rfl rfl (ow_move rfl rfl ?_)
  refine lw_op rfl rfl rfl (ow_len rfl rfl h0 Tryd.underlying199 rfl ?_)
  refine lw_op rfl rfl rfl (ow_sub rfl rfl rfl ?_)
  refine lw_op rfl rfl rfl (ow_assign rfl rfl ?_)
  refine lw_nil ?_
  refine ew_then ?_
  refine cw_seq ?_
  refine cw_seq ?_
  refine cw_region ?_
  refine lw_op rfl rfl rfl (ow_move rfl rfl ?_)
  refine lw_op rfl rfl rfl (ow_lss rfl rfl rfl fun bb1 hbb1 => ?_)
  refine lw_nil ?_
  refine ew_then ?_
  replace h := cond_some h
  rcases h with ⟨hc1, h⟩ | ⟨hc1, h⟩
  · obtain rfl := hbb1.trans hc1
    refine cw_true rfl ?_
    refine cw_seq ?_
    refine cw_region ?_
    refine lw_op rfl rfl rfl (ow_assign rfl rfl ?_)
    refine lw_nil ?_
    refine ew_then ?_
    refine cw_ret ?_
    refine ew_thenR ?_
    obtain rfl := Option.some.inj h
    exact ew_ret (res1 rfl (.tmp rfl)) ⟨_, rfl, ((vint _)), hC.bx⟩
  · obtain rfl := hbb1.trans hc1
    refine cw_false rfl ?_
    refine cw_skip ?_
    refine ew_then ?_
    refine cw_seq ?_
    refine cw_region ?_
    refine lw_op rfl rfl rfl (ow_move rfl rfl ?_)
    refine lw_op rfl rfl rfl (ow_assign rfl rfl ?_)
    refine lw_nil ?_
    refine ew_then ?_
    refine cw_ret ?_
    obtain rfl := Option.some.inj h
    exact ew_ret (res1 rfl (.tmp rfl)) ⟨_, rfl, ((vint _)), hC.bx⟩

theorem w_laws_szRule {w : World} {M : Nat → Prop} (hG : ARep (RArr 4 RShape) w M shapes ⟨0, 0, none⟩) (hO : ∀ b, M b → b < w.heap.size) {v0p : Value} {a_a : Rule} (h0 : VRep RRule w M a_a v0p) {a_left : Int} {r : Int} (h : F.laws_szRule a_a a_left = some r) :
    Calls Tryd.prog 148 [v0p, (.int .i64 a_left)].toArray w fun e w' => ∃ v, e = .returned v ∧ VRep RInt w' M r v ∧ BX No w w' := by
  have hC : Cx No w M w M := Cx.start hO (fun _ e => e.elim)
  refine walk (N := 12) Tryd.func148 rfl Tryd.ntmps148 rfl ?_
  refine cw_seq ?_
  refine cw_region ?_
  refine lw_op rfl rfl rfl (ow_box (R := RRule) rfl rfl h0 hC fun p1 w1 hp1 hb1 hl1 hC1 => ?_)
  refine lw_op rfl rfl rfl (ow_assign rfl rfl ?_)
  refine lw_nil ?_
  refine ew_then ?_
  refine cw_seq ?_
  refine cw_region ?_
  refine lw_op rfl rfl rfl (ow_fieldAddr rfl rfl Tryd.underlying201 rfl (Tryd.sizeOf199 _) ?_)
  refine lw_op rfl rfl rfl (ow_load (R := (RSlice RTest)) rfl rfl (hp1.fld fld_Rule_Tests) (Tryd.sizeOf199 _) (Tryd.isAgg199 _) fun v1 hv1 => ?_)
  refine lw_op rfl rfl rfl (ow_move rfl rfl ?_)
  replace h := bind_some h
  obtain ⟨x1, hx1, h⟩ := h
  refine lw_op rfl rfl rfl (ow_call rfl rfl Tryd.call157 (w_laws_szTestS (hG.mono hl1) hC1.old hv1 hx1) fun v2 w2 hv2 => ?_)
  obtain ⟨hv2, hb2⟩ := hv2
  have hl2 := Le.no M hb2
  have hC2 := hC1.no hb2
  obtain rfl := vint_eq hv2
  refine lw_op rfl rfl rfl (ow_assign rfl rfl ?_)
  refine lw_nil ?_
  refine ew_then ?_
  refine cw_seq ?_
  refine cw_seq ?_
  refine cw_region ?_
  refine lw_op rfl rfl rfl (ow_move rfl rfl ?_)
  refine lw_op rfl rfl rfl (ow_lss rfl rfl rfl fun bb1 hbb1 => ?_)
  refine lw_nil ?_
  refine ew_then ?_
  replace h := cond_some h
  rcases h with ⟨hc1, h⟩ | ⟨hc1, h⟩
  · obtain rfl := hbb1.trans hc1
    refine cw_true rfl ?_
    refine cw_seq ?_
    refine cw_region ?_
    refine lw_op rfl rfl rfl (ow_assign rfl rfl ?_)
    refine lw_nil ?_
    refine ew_then ?_
    refine cw_ret ?_
    refine ew_thenR ?_
    obtain rfl := Option.some.inj h
    exact ew_ret (res1 rfl (.tmp rfl)) ⟨_, rfl, ((vint _)), hC2.bx⟩
  · obtain rfl := hbb1.trans hc1
    refine cw_false rfl ?_
    refine cw_skip ?_
    refine ew_then ?_
    refine cw_seq ?_
    refine cw_region ?_
    refine lw_op rfl rfl rfl (ow_move rfl rfl ?_)
    refine lw_op rfl rfl rfl (ow_assign rfl rfl ?_)
    refine lw_nil ?_
    refine ew_then ?_
    refine cw_ret ?_
    obtain rfl := Option.some.inj h
    exact ew_ret (res1 rfl (.tmp rfl)) ⟨_, rfl, ((vint _)), hC2.bx⟩

theorem w_laws_szRuleS {w : World} {M : Nat → Prop} (hG : ARep (RArr 4 RShape) w M shapes ⟨0, 0, none⟩) (hO : ∀ b, M b → b < w.heap.size) {v0p : Value} {a_a : List Rule} (h0 : VRep (RSlice RRule) w M a_a v0p) {a_left : Int} {r : Int} (h : F.laws_szRuleS a_a a_left = some r) :
    Calls Tryd.prog 129 [v0p, (.int .i64 a_left)].toArray w fun e w' => ∃ v, e = .returned v ∧ VRep RInt w' M r v ∧ BX No w w' := by
  have hC : Cx No w M w M := Cx.start hO (fun _ e => e.elim)
  refine walk (N := 27) Tryd.func129 rfl Tryd.ntmps129 rfl ?_
  refine cw_seq ?_
  refine cw_region ?_
  refine lw_op rfl rfl rfl (ow_assign rfl rfl ?_)
  refine lw_nil ?_
  refine ew_then ?_
  refine cw_seq ?_
  refine cw_region ?_
  refine lw_op rfl rfl rfl (ow_move rfl rfl ?_)
  refine lw_op rfl rfl rfl (ow_move rfl rfl ?_)
  refine lw_op rfl rfl rfl (ow_len rfl rfl h0 Tryd.underlying162 rfl ?_)
  refine lw_op rfl rfl rfl (ow_sub rfl rfl rfl ?_)
  refine lw_op rfl rfl rfl (ow_assign rfl rfl ?_)
  refine lw_nil ?_
  refine ew_then ?_
  refine cw_seq ?_
  refine cw_seq ?_
  refine cw_region ?_
  refine lw_op rfl rfl rfl (ow_move rfl rfl ?_)
  refine lw_op rfl rfl rfl (ow_lss rfl rfl rfl fun bb1 hbb1 => ?_)
  refine lw_nil ?_
  refine ew_then ?_
  replace h := cond_some h
  rcases h with ⟨hc1, h⟩ | ⟨hc1, h⟩
  · obtain rfl := hbb1.trans hc1
    refine cw_true rfl ?_
    refine cw_seq ?_
    refine cw_region ?_
    refine lw_op rfl rfl rfl (ow_assign rfl rfl ?_)
    refine lw_nil ?_
    refine ew_then ?_
    refine cw_ret ?_
    refine ew_thenR ?_
    obtain rfl := Option.some.inj h
    exact ew_ret (res1 rfl (.tmp rfl)) ⟨_, rfl, ((vint _)), hC.bx⟩
  · obtain rfl := hbb1.trans hc1
    refine cw_false rfl ?_
    refine cw_skip ?_
    refine ew_then ?_
    refine cw_seq ?_
    refine cw_seq ?_
    refine cw_region ?_
    refine lw_op rfl rfl rfl (ow_assign rfl rfl ?_)
    refine lw_nil ?_
    refine ew_then ?_
    replace h := bind_some h
    obtain ⟨lr1, hlr1, h⟩ := h
    refine cw_for hlr1 (fun s a w' => ∃ (M' : Nat → Prop), Fits 27 [(0, v0p), (1, (.int .i64 s.1)), (5, (.int .i64 s.2))] a ∧ Le w M w' M' ∧ Cx No w M w' M') ?_ ?_ ?_
    · intro a ha
      exact ⟨M, ha.sub ⟨rfl, rfl, rfl, trivial⟩, Le.refl _ _, hC⟩
    · rintro ⟨k1, k2⟩ a w1 sr1 ⟨M1, hF1, hl1, hC1⟩ hb1 hR1
      refine cw_at (E := [(0, v0p), (1, (.int .i64 k1)), (5, (.int .i64 k2))]) hF1 ?_
      refine cw_seq ?_
      refine cw_seq ?_
      refine cw_region ?_
      refine lw_op rfl rfl rfl (ow_move rfl rfl ?_)
      refine lw_op rfl rfl rfl (ow_move rfl rfl ?_)
      refine lw_op rfl rfl rfl (ow_len rfl rfl (VRep.mono hl1 h0) Tryd.underlying162 rfl ?_)
      refine lw_op rfl rfl rfl (ow_lss rfl rfl rfl fun bb2 hbb2 => ?_)
      refine lw_nil ?_
      refine ew_then ?_
      replace hb1 := cond_some hb1
      rcases hb1 with ⟨hc2, hb1⟩ | ⟨hc2, hb1⟩
      · obtain rfl := hbb2.trans hc2
        refine cw_true rfl ?_
        refine cw_skip ?_
        refine ew_then ?_
        refine cw_seq ?_
        refine cw_block ?_
        refine cw_seq ?_
        refine cw_region ?_
        refine lw_op rfl rfl rfl (ow_move rfl rfl ?_)
        refine lw_op rfl rfl rfl (ow_move rfl rfl ?_)
        replace hb1 := bind_some hb1
        obtain ⟨x1, hx1, hb1⟩ := hb1
        refine lw_op rfl rfl rfl (ow_indexSlice (R := RRule) rfl rfl rfl (VRep.mono hl1 h0) Tryd.underlying162 (Tryd.sizeOf201 _) hx1 fun p1 hp1 => ?_)
        refine lw_op rfl rfl rfl (ow_load (R := RRule) rfl rfl hp1 (Tryd.sizeOf201 _) (Tryd.isAgg201 _) fun v3 hv3 => ?_)
        refine lw_op rfl rfl rfl (ow_move rfl rfl ?_)
        replace hb1 := bind_some hb1
        obtain ⟨x2, hx2, hb1⟩ := hb1
        refine lw_op rfl rfl rfl (ow_call rfl rfl Tryd.call148 (w_laws_szRule (hG.mono hl1) hC1.old hv3 hx2) fun v4 w2 hv4 => ?_)
        obtain ⟨hv4, hb2⟩ := hv4
        have hl2 := Le.no M1 hb2
        have hC2 := hC1.no hb2
        obtain rfl := vint_eq hv4
        refine lw_op rfl rfl rfl (ow_assign rfl rfl ?_)
        refine lw_nil ?_
        refine ew_then ?_
        refine cw_seq ?_
        refine cw_region ?_
        refine lw_op rfl rfl rfl (ow_move rfl rfl ?_)
        refine lw_op rfl rfl rfl (ow_lss rfl rfl rfl fun bb3 hbb3 => ?_)
        refine lw_nil ?_
        refine ew_then ?_
        replace hb1 := cond_some hb1
        rcases hb1 with ⟨hc3, hb1⟩ | ⟨hc3, hb1⟩
        · obtain rfl := hbb3.trans hc3
          refine cw_true rfl ?_
          refine cw_seq ?_
          refine cw_region ?_
          refine lw_op rfl rfl rfl (ow_assign rfl rfl ?_)
          refine lw_nil ?_
          refine ew_then ?_
          refine cw_ret ?_
          refine ew_blockR ?_
          refine ew_thenR ?_
          refine ew_thenR ?_
          refine ew_blockR ?_
          refine ew_brkR ?_
          refine ew_thenR ?_
          have e1 := hR1 _ (Option.some.inj hb1).symm
          subst e1
          obtain rfl := Option.some.inj h
          exact ew_ret (res1 rfl (.tmp rfl)) ⟨_, rfl, ((vint _)), hC2.bx⟩
        · obtain rfl := hbb3.trans hc3
          refine cw_false rfl ?_
          refine cw_skip ?_
          refine ew_blockN ?_
          refine ew_then ?_
          refine cw_region ?_
          refine lw_op rfl rfl rfl (ow_move rfl rfl ?_)
          refine lw_op rfl rfl rfl (ow_add rfl rfl rfl ?_)
          refine lw_op rfl rfl rfl (ow_assign rfl rfl ?_)
          refine lw_nil ?_
          refine ew_nxt (x2, (W (k2 + 1))) hb1 fun a ha => ⟨M1, ?_, (hl1.trans hl2), hC2⟩
          exact ha.sub ⟨rfl, rfl, rfl, trivial⟩
      · obtain rfl := hbb2.trans hc2
        refine cw_false rfl ?_
        refine cw_exit ?_
        refine ew_thenX ?_
        refine ew_thenX ?_
        refine ew_blockX ?_
        refine ew_brk (k1, k2) hb1 fun a ha => ⟨M1, ?_, hl1, hC1⟩
        exact ha.sub ⟨rfl, rfl, rfl, trivial⟩
    · rintro ⟨k3, k4⟩ a w3 hlr2 ⟨M2, hF2, hl3, hC3⟩
      subst hlr2
      refine ew_at (E := [(0, v0p), (1, (.int .i64 k3)), (5, (.int .i64 k4))]) hF2 ?_
      refine ew_then ?_
      refine cw_seq ?_
      refine cw_region ?_
      refine lw_op rfl rfl rfl (ow_move rfl rfl ?_)
      refine lw_op rfl rfl rfl (ow_assign rfl rfl ?_)
      refine lw_nil ?_
      refine ew_then ?_
      refine cw_ret ?_
      obtain rfl := Option.some.inj h
      exact ew_ret (res1 rfl (.tmp rfl)) ⟨_, rfl, ((vint _)), hC3.bx⟩

theorem w_laws_szRuleSS {w : World} {M : Nat → Prop} (hG : ARep (RArr 4 RShape) w M shapes ⟨0, 0, none⟩) (hO : ∀ b, M b → b < w.heap.size) {v0p : Value} {a_a : List (List Rule)} (h0 : VRep (RSlice (RSlice RRule)) w M a_a v0p) {a_left : Int} {r : Int} (h : F.laws_szRuleSS a_a a_left = some r) :
    Calls Tryd.prog 82 [v0p, (.int .i64 a_left)].toArray w fun e w' => ∃ v, e = .returned v ∧ VRep RInt w' M r v ∧ BX No w w' := by
  have hC : Cx No w M w M := Cx.start hO (fun _ e => e.elim)
  refine walk (N := 27) Tryd.func82 rfl Tryd.ntmps82 rfl ?_
  refine cw_seq ?_
  refine cw_region ?_
  refine lw_op rfl rfl rfl (ow_assign rfl rfl ?_)
  refine lw_nil ?_
  refine ew_then ?_
  refine cw_seq ?_
  refine cw_region ?_
  refine lw_op rfl rfl rfl (ow_move rfl rfl ?_)
  refine lw_op rfl rfl rfl (ow_move rfl rfl ?_)
  refine lw_op rfl rfl rfl (ow_len rfl rfl h0 Tryd.underlying50 rfl ?_)
  refine lw_op rfl rfl rfl (ow_sub rfl rfl rfl ?_)
  refine lw_op rfl rfl rfl (ow_assign rfl rfl ?_)
  refine lw_nil ?_
  refine ew_then ?_
  refine cw_seq ?_
  refine cw_seq ?_
  refine cw_region ?_
  refine lw_op rfl rfl rfl (ow_move rfl rfl ?_)
  refine lw_op rfl rfl rfl (ow_lss rfl rfl rfl fun bb1 hbb1 => ?_)
  refine lw_nil ?_
  refine ew_then ?_
  replace h := cond_some h
  rcases h with ⟨hc1, h⟩ | ⟨hc1, h⟩
  · obtain rfl := hbb1.trans hc1
    refine cw_true rfl ?_
    refine cw_seq ?_
    refine cw_region ?_
    refine lw_op rfl rfl rfl (ow_assign rfl rfl ?_)
    refine lw_nil ?_
    refine ew_then ?_
    refine cw_ret ?_
    refine ew_thenR ?_
    obtain rfl := Option.some.inj h
    exact ew_ret (res1 rfl (.tmp rfl)) ⟨_, rfl, ((vint _)), hC.bx⟩
  · obtain rfl := hbb1.trans hc1
    refine cw_false rfl ?_
    refine cw_skip ?_
    refine ew_then ?_
    refine cw_seq ?_
    refine cw_seq ?_
    refine cw_region ?_
    refine lw_op rfl rfl rfl (ow_assign rfl rfl ?_)
    refine lw_nil ?_
    refine ew_then ?_
    replace h := bind_some h
    obtain ⟨lr1, hlr1, h⟩ := h
    refine cw_for hlr1 (fun s a w' => ∃ (M' : Nat → Prop), Fits 27 [(0, v0p), (1, (.int .i64 s.1)), (5, (.int .i64 s.2))] a ∧ Le w M w' M' ∧ Cx No w M w' M') ?_ ?_ ?_
    · intro a ha
      exact ⟨M, ha.sub ⟨rfl, rfl, rfl, trivial⟩, Le.refl _ _, hC⟩
    · rintro ⟨k1, k2⟩ a w1 sr1 ⟨M1, hF1, hl1, hC1⟩ hb1 hR1
      refine cw_at (E := [(0, v0p), (1, (.int .i64 k1)), (5, (.int .i64 k2))]) hF1 ?_
      refine cw_seq ?_
      refine cw_seq ?_
      refine cw_region ?_
      refine lw_op rfl rfl rfl (ow_move rfl rfl ?_)
      refine lw_op rfl rfl rfl (ow_move rfl rfl ?_)
      refine lw_op rfl rfl rfl (ow_len rfl rfl (VRep.mono hl1 h0) Tryd.underlying50 rfl ?_)
      refine lw_op rfl rfl rfl (ow_lss rfl rfl rfl fun bb2 hbb2 => ?_)
      refine lw_nil ?_
      refine ew_then ?_
      replace hb1 := cond_some hb1
      rcases hb1 with ⟨hc2, hb1⟩ | ⟨hc2, hb1⟩
      · obtain rfl := hbb2.trans hc2
        refine cw_true rfl ?_
        refine cw_skip ?_
        refine ew_then ?_
        refine cw_seq ?_
        refine cw_block ?_
        refine cw_seq ?_
        refine cw_region ?_
        refine lw_op rfl rfl rfl (ow_move rfl rfl ?_)
        refine lw_op rfl rfl rfl (ow_move rfl rfl ?_)
        replace hb1 := bind_some hb1
        obtain ⟨x1, hx1, hb1⟩ := hb1
        refine lw_op rfl rfl rfl (ow_indexSlice (R := (RSlice RRule)) rfl rfl rfl (VRep.mono hl1 h0) Tryd.underlying50 (Tryd.sizeOf162 _) hx1 fun p1 hp1 => ?_)
        refine lw_op rfl rfl rfl (ow_load (R := (RSlice RRule)) rfl rfl hp1 (Tryd.sizeOf162 _) (Tryd.isAgg162 _) fun v3 hv3 => ?_)
        refine lw_op rfl rfl rfl (ow_move rfl rfl ?_)
        replace hb1 := bind_some hb1
        obtain ⟨x2, hx2, hb1⟩ := hb1
        refine lw_op rfl rfl rfl (ow_call rfl rfl Tryd.call129 (w_laws_szRuleS (hG.mono hl1) hC1.old hv3 hx2) fun v4 w2 hv4 => ?_)
        obtain ⟨hv4, hb2⟩ := hv4
        have hl2 := Le.no M1 hb2
        have hC2 := hC1.no hb2
        obtain rfl := vint_eq hv4
        refine lw_op rfl rfl rfl (ow_assign rfl rfl ?_)
        refine lw_nil ?_
        refine ew_then ?_
        refine cw_seq ?_
        refine cw_region ?_
        refine lw_op rfl rfl rfl (ow_move rfl rfl ?_)
        refine lw_op rfl rfl rfl (ow_lss rfl rfl rfl fun bb3 hbb3 => ?_)
        refine lw_nil ?_
        refine ew_then ?_
        replace hb1 := cond_some hb1
        rcases hb1 with ⟨hc3, hb1⟩ | ⟨hc3, hb1⟩
        · obtain rfl := hbb3.trans hc3
          refine cw_true rfl ?_
          refine cw_seq ?_
          refine cw_region ?_
          refine lw_op rfl rfl rfl (ow_assign rfl rfl ?_)
          refine lw_nil ?_
          refine ew_then ?_
          refine cw_ret ?_
          refine ew_blockR ?_
          refine ew_thenR ?_
          refine ew_thenR ?_
          refine ew_blockR ?_
          refine ew_brkR ?_
          refine ew_thenR ?_
          have e1 := hR1 _ (Option.some.inj hb1).symm
          subst e1
          obtain rfl := Option.some.inj h
          exact ew_ret (res1 rfl (.tmp rfl)) ⟨_, rfl, ((vint _)), hC2.bx⟩
        · obtain rfl := hbb3.trans hc3
          refine cw_false rfl ?_
          refine cw_skip ?_
          refine ew_blockN ?_
          refine ew_then ?_
          refine cw_region ?_
          refine lw_op rfl rfl rfl (ow_move rfl rfl ?_)
          refine lw_op rfl rfl rfl (ow_add rfl rfl rfl ?_)
          refine lw_op rfl rfl rfl (ow_assign rfl rfl ?_)
          refine lw_nil ?_
          refine ew_nxt (x2, (W (k2 + 1))) hb1 fun a ha => ⟨M1, ?_, (hl1.trans hl2), hC2⟩
          exact ha.sub ⟨rfl, rfl, rfl, trivial⟩
      · obtain rfl := hbb2.trans hc2
        refine cw_false rfl ?_
        refine cw_exit ?_
        refine ew_thenX ?_
        refine ew_thenX ?_
        refine ew_blockX ?_
        refine ew_brk (k1, k2) hb1 fun a ha => ⟨M1, ?_, hl1, hC1⟩
        exact ha.sub ⟨rfl, rfl, rfl, trivial⟩
    · rintro ⟨k3, k4⟩ a w3 hlr2 ⟨M2, hF2, hl3, hC3⟩
      subst hlr2
      refine ew_at (E := [(0, v0p), (1, (.int .i64 k3)), (5, (.int .i64 k4))]) hF2 ?_
      refine ew_then ?_
      refine cw_seq ?_
      refine cw_region ?_
      refine lw_op rfl rfl rfl (ow_move rfl rfl ?_)
      refine lw_op rfl rfl rfl (ow_assign rfl rfl ?_)
      refine lw_nil ?_
      refine ew_then ?_
      refine cw_ret ?_
      obtain rfl := Option.some.inj h
      exact ew_ret (res1 rfl (.tmp rfl)) ⟨_, rfl, ((vint _)), hC3.bx⟩

theorem w_laws_szRuleset {w : World} {M : Nat → Prop} (hG : ARep (RArr 4 RShape) w M shapes ⟨0, 0, none⟩) (hO : ∀ b, M b → b < w.heap.size) {v0p : Value} {a_a : Ruleset} (h0 : VRep RRuleset w M a_a v0p) {a_left : Int} {r : Int} (h : F.laws_szRuleset a_a a_left = some r) :
    Calls Tryd.prog 33 [v0p, (.int .i64 a_left)].toArray w fun e w' => ∃ v, e = .returned v ∧ VRep RInt w' M r v ∧ BX No w w' := by
  have hC : Cx No w M w M := Cx.start hO (fun _ e => e.elim)
  refine walk (N := 12) Tryd.func33 rfl Tryd.ntmps33 rfl ?_
  refine cw_seq ?_
  refine cw_region ?_
  refine lw_op rfl rfl rfl (ow_box (R := RRuleset) rfl rfl h0 hC fun p1 w1 hp1 hb1 hl1 hC1 => ?_)
  refine lw_op rfl rfl rfl (ow_assign rfl rfl ?_)
  refine lw_nil ?_
  refine ew_then ?_
  refine cw_seq ?_
  refine cw_region ?_
  refine lw_op rfl rfl rfl (ow_fieldAddr rfl rfl Tryd.underlying52 rfl (Tryd.sizeOf50 _) ?_)
  refine lw_op rfl rfl rfl (ow_load (R := (RSlice (RSlice RRule))) rfl rfl (hp1.fld fld_Ruleset_Chains) (Tryd.sizeOf50 _) (Tryd.isAgg50 _) fun v1 hv1 => ?_)
  refine lw_op rfl rfl rfl (ow_move rfl rfl ?_)
  replace h := bind_some h
  obtain ⟨x1, hx1, h⟩ := h
  refine lw_op rfl rfl rfl (ow_call rfl rfl Tryd.call82 (w_laws_szRuleSS (hG.mono hl1) hC1.old hv1 hx1) fun v2 w2 hv2 => ?_)
  obtain ⟨hv2, hb2⟩ := hv2
  have hl2 := Le.no M hb2
  have hC2 := hC1.no hb2
  obtain rfl := vint_eq hv2
  refine lw_op rfl rfl rfl (ow_assign rfl rfl ?_)
  refine lw_nil ?_
  refine ew_then ?_
  refine cw_seq ?_
  refine cw_seq ?_
  refine cw_region ?_
  refine lw_op rfl rfl rfl (ow_move rfl rfl ?_)
  refine lw_op rfl rfl rfl (ow_lss rfl rfl rfl fun bb1 hbb1 => ?_)
  refine lw_nil ?_
  refine ew_then ?_
  replace h := cond_some h
  rcases h with ⟨hc1, h⟩ | ⟨hc1, h⟩
  · obtain rfl := hbb1.trans hc1
    refine cw_true rfl ?_
    refine cw_seq ?_
    refine cw_region ?_
    refine lw_op rfl rfl rfl (ow_assign rfl rfl ?_)
    refine lw_nil ?_
    refine ew_then ?_
    refine cw_ret ?_
    refine ew_thenR ?_
    obtain rfl := Option.some.inj h
    exact ew_ret (res1 rfl (.tmp rfl)) ⟨_, rfl, ((vint _)), hC2.bx⟩
  · obtain rfl := hbb1.trans hc1
    refine cw_false rfl ?_
    refine cw_skip ?_
    refine ew_then ?_
    refine cw_seq ?_
    refine cw_region ?_
    refine lw_op rfl rfl rfl (ow_move rfl rfl ?_)
    refine lw_op rfl rfl rfl (ow_assign rfl rfl ?_)
    refine lw_nil ?_
    refine ew_then ?_
    refine cw_ret ?_
    obtain rfl := Option.some.inj h
    exact ew_ret (res1 rfl (.tmp rfl)) ⟨_, rfl, ((vint _)), hC2.bx⟩

theorem w_laws_toTest {w : World} {M : Nat → Prop} (_hG : ARep (RArr 4 RShape) w M shapes ⟨0, 0, none⟩) (hO : ∀ b, M b → b < w.heap.size) {v0p : Value} {a_a : Test} (h0 : VRep RTest w M a_a v0p) {r : Test} (h : F.laws_toTest a_a = some r) :
    Calls Tryd.prog 161 [v0p].toArray w fun e w' => ∃ v, e = .returned v ∧ VRep RTest w' M r v ∧ BX No w w' := by
  have hC : Cx No w M w M := Cx.start hO (fun _ e => e.elim)
  clear _hG
  refine walk (N := 17) Tryd.func161 rfl Tryd.ntmps161 rfl ?_
  refine cw_seq ?_
  refine cw_region ?_
  refine lw_op rfl rfl rfl (ow_box (R := RTest) rfl rfl h0 hC fun p1 w1 hp1 hb1 hl1 hC1 => ?_)
  refine lw_op rfl rfl rfl (ow_alloc rfl (Tryd.zeroValue186 _) hC1 fun g1 w2 hg1 hg2 ho1 hb2 hl2 hC2 => ?_)
  have hm1 : (Add g1 M) g1 := .inl rfl
  refine lw_nil ?_
  refine ew_then ?_
  refine cw_seq ?_
  refine cw_region ?_
  refine lw_op rfl rfl rfl (ow_alloc rfl (Tryd.zeroValue186 _) hC2 fun g2 w3 hg3 hg4 ho2 hb3 hl3 hC3 => ?_)
  have hn1 := Nat.ne_of_lt (Nat.lt_of_lt_of_le ho1.lt hg3)
  have ho3 := ho1.no hb3
  have hm2 : (Add g2 (Add g1 M)) g1 := .inr hm1
  have hm3 : (Add g2 (Add g1 M)) g2 := .inl rfl
  refine lw_nil ?_
  refine ew_then ?_
  refine cw_seq ?_
  refine cw_region ?_
  refine lw_op rfl rfl rfl (ow_fieldAddr rfl rfl Tryd.underlying220 rfl (Tryd.sizeOf3 _) ?_)
  refine lw_op rfl rfl rfl (ow_load (R := RInt) rfl rfl (ARep.mono (hl2.trans hl3) (hp1.fld fld_Test_Field)) (Tryd.sizeOf3 _) (Tryd.isAgg3 _) fun v1 hv1 => ?_)
  obtain rfl := vint_eq hv1
  refine lw_op rfl rfl rfl (ow_fieldAddr rfl rfl Tryd.underlying186 rfl (Tryd.sizeOf3 _) ?_)
  refine lw_op0 rfl rfl (ow_store (X := No) (us := [(.int .i64 a_a.Field)]) (cs' := #[(.int .i64 a_a.Field), (.int .i64 0), (.int .i64 0), (.bool false)]) rfl rfl rfl rfl ho2 (Tryd.sizeOf3 _) rfl rfl rfl rfl hm3 (.inl hg4) rfl hC3 fun w4 ho4 hb4 hl4 hC4 => ?_)
  have ho5 := ho3.go hb4 (fun e => hn1 e)
  refine lw_nil ?_
  refine ew_then ?_
  refine cw_seq ?_
  refine cw_region ?_
  refine lw_op rfl rfl rfl (ow_fieldAddr rfl rfl Tryd.underlying220 rfl (Tryd.sizeOf3 _) ?_)
  refine lw_op rfl rfl rfl (ow_load (R := RInt) rfl rfl (ARep.mono ((hl2.trans hl3).trans hl4) (hp1.fld fld_Test_Lo)) (Tryd.sizeOf3 _) (Tryd.isAgg3 _) fun v2 hv2 => ?_)
  obtain rfl := vint_eq hv2
  refine lw_op rfl rfl rfl (ow_fieldAddr rfl rfl Tryd.underlying186 rfl (Tryd.sizeOf3 _) ?_)
  refine lw_op0 rfl rfl (ow_store (X := No) (us := [(.int .i64 a_a.Lo)]) (cs' := #[(.int .i64 a_a.Field), (.int .i64 a_a.Lo), (.int .i64 0), (.bool false)]) rfl rfl rfl rfl ho4 (Tryd.sizeOf3 _) rfl rfl rfl rfl hm3 (.inl hg4) rfl hC4 fun w5 ho6 hb5 hl5 hC5 => ?_)
  have ho7 := ho5.go hb5 (fun e => hn1 e)
  refine lw_nil ?_
  refine ew_then ?_
  refine cw_seq ?_
  refine cw_region ?_
  refine lw_op rfl rfl rfl (ow_fieldAddr rfl rfl Tryd.underlying220 rfl (Tryd.sizeOf3 _) ?_)
  refine lw_op rfl rfl rfl (ow_load (R := RInt) rfl rfl (ARep.mono (((hl2.trans hl3).trans hl4).trans hl5) (hp1.fld fld_Test_Hi)) (Tryd.sizeOf3 _) (Tryd.isAgg3 _) fun v3 hv3 => ?_)
  obtain rfl := vint_eq hv3
  refine lw_op rfl rfl rfl (ow_fieldAddr rfl rfl Tryd.underlying186 rfl (Tryd.sizeOf3 _) ?_)
  refine lw_op0 rfl rfl (ow_store (X := No) (us := [(.int .i64 a_a.Hi)]) (cs' := #[(.int .i64 a_a.Field), (.int .i64 a_a.Lo), (.int .i64 a_a.Hi), (.bool false)]) rfl rfl rfl rfl ho6 (Tryd.sizeOf3 _) rfl rfl rfl rfl hm3 (.inl hg4) rfl hC5 fun w6 ho8 hb6 hl6 hC6 => ?_)
  have ho9 := ho7.go hb6 (fun e => hn1 e)
  refine lw_nil ?_
  refine ew_then ?_
  refine cw_seq ?_
  refine cw_region ?_
  refine lw_op rfl rfl rfl (ow_fieldAddr rfl rfl Tryd.underlying220 rfl (Tryd.sizeOf4 _) ?_)
  refine lw_op rfl rfl rfl (ow_load (R := RBool) rfl rfl (ARep.mono ((((hl2.trans hl3).trans hl4).trans hl5).trans hl6) (hp1.fld fld_Test_Not)) (Tryd.sizeOf4 _) (Tryd.isAgg4 _) fun v4 hv4 => ?_)
  obtain ⟨bb1, hbb1, rfl⟩ := vbool_ex hv4
  refine lw_op rfl rfl rfl (ow_fieldAddr rfl rfl Tryd.underlying186 rfl (Tryd.sizeOf4 _) ?_)
  refine lw_op0 rfl rfl (ow_store (X := No) (us := [(.bool bb1)]) (cs' := #[(.int .i64 a_a.Field), (.int .i64 a_a.Lo), (.int .i64 a_a.Hi), (.bool bb1)]) rfl rfl rfl rfl ho8 (Tryd.sizeOf4 _) rfl rfl rfl rfl hm3 (.inl hg4) rfl hC6 fun w7 ho10 hb7 hl7 hC7 => ?_)
  have ho11 := ho9.go hb7 (fun e => hn1 e)
  refine lw_nil ?_
  refine ew_then ?_
  refine cw_seq ?_
  refine cw_region ?_
  refine lw_op rfl rfl rfl (ow_loadOwnA rfl rfl rfl ho10 (Tryd.isAgg186 _) (Tryd.sizeOf186 _) rfl ?_)
  have hw1 : VRep RTest w7 (Add g2 (Add g1 M)) ({ Field := a_a.Field, Lo := a_a.Lo, Hi := a_a.Hi, Not := a_a.Not } : Test) (.agg #[(.int .i64 a_a.Field), (.int .i64 a_a.Lo), (.int .i64 a_a.Hi), (.bool bb1)]) := by subst hbb1; exact shut_Test
  refine lw_op0 rfl rfl (ow_store (X := No) (us := [(.int .i64 a_a.Field), (.int .i64 a_a.Lo), (.int .i64 a_a.Hi), (.bool bb1)]) (cs' := #[(.int .i64 a_a.Field), (.int .i64 a_a.Lo), (.int .i64 a_a.Hi), (.bool bb1)]) rfl rfl rfl rfl ho11 (Tryd.sizeOf186 _) rfl rfl rfl rfl hm2 (.inl hg2) rfl hC7 fun w8 ho12 hb8 hl8 hC8 => ?_)
  have ho13 := ho10.go hb8 (fun e => hn1 e.symm)
  refine lw_nil ?_
  refine ew_then ?_
  refine cw_ret ?_
  have hw2 : VRep RTest w8 (Add g2 (Add g1 M)) ({ Field := a_a.Field, Lo := a_a.Lo, Hi := a_a.Hi, Not := a_a.Not } : Test) (.agg #[(.int .i64 a_a.Field), (.int .i64 a_a.Lo), (.int .i64 a_a.Hi), (.bool bb1)]) := by subst hbb1; exact shut_Test
  obtain rfl := Option.some.inj h
  exact ew_ret (res1 rfl (.cell rfl (own_loadVarA ho12 (Tryd.isAgg186 _) (Tryd.sizeOf186 _) rfl))) ⟨_, rfl, (hw2.mono hC8.back), hC8.bx⟩

theorem w_laws_toTestS {w : World} {M : Nat → Prop} (hG : ARep (RArr 4 RShape) w M shapes ⟨0, 0, none⟩) (hO : ∀ b, M b → b < w.heap.size) {v0p : Value} {a_a : List Test} (h0 : VRep (RSlice RTest) w M a_a v0p) {r : (List Test)} (h : F.laws_toTestS a_a = some r) :
    Calls Tryd.prog 158 [v0p].toArray w fun e w' => ∃ v, e = .returned v ∧ VRep (RSlice RTest) w' M r v ∧ BX No w w' := by
  obtain ⟨i186, hi186, hz186, hs186, hy186⟩ := info186
  have hC : Cx No w M w M := Cx.start hO (fun _ e => e.elim)
  refine walk (N := 23) Tryd.func158 rfl Tryd.ntmps158 rfl ?_
  refine cw_seq ?_
  refine cw_region ?_
  refine lw_op rfl rfl rfl (ow_assign rfl rfl ?_)
  refine lw_nil ?_
  refine ew_then ?_
  refine cw_seq ?_
  refine cw_region ?_
  refine lw_op rfl rfl rfl (ow_move rfl rfl ?_)
  refine lw_op rfl rfl rfl (ow_len rfl rfl h0 Tryd.underlying199 rfl ?_)
  replace h := bind_some h
  obtain ⟨mk1, hmk1, h⟩ := h
  refine lw_op rfl rfl rfl (ow_make (R := RTest) rfl rfl rfl Tryd.underlying74 hi186 hz186 hs186 hy186 rfl rfl (shut_Test) hmk1 hC fun v1 w1 M1 hr1 hb1 hl1 hC1 hM1 hat1 => ?_)
  refine lw_op rfl rfl rfl (ow_assign rfl rfl ?_)
  refine lw_nil ?_
  refine ew_then ?_
  refine cw_seq ?_
  refine cw_seq ?_
  refine cw_region ?_
  refine lw_op rfl rfl rfl (ow_assign rfl rfl ?_)
  refine lw_nil ?_
  refine ew_then ?_
  replace h := bind_some h
  obtain ⟨lr1, hlr1, h⟩ := h
  refine cw_for hlr1 (fun s a w' => ∃ (M' : Nat → Prop), Fits 23 [(0, v0p), (3, v1), (4, (.int .i64 s.1))] a ∧ Le w1 M1 w' M' ∧ Cx No w M w' M' ∧ OwnRow RTest w.heap.size 186 w' M' s.2 v1) ?_ ?_ ?_
  · intro a ha
    exact ⟨M1, ha.sub ⟨rfl, rfl, rfl, trivial⟩, Le.refl _ _, hC1, hr1⟩
  · rintro ⟨k1, y1⟩ a w2 sr1 ⟨M2, hF1, hl2, hC2, hw1⟩ hb2 hR1
    refine cw_at (E := [(0, v0p), (3, v1), (4, (.int .i64 k1))]) hF1 ?_
    refine cw_seq ?_
    refine cw_seq ?_
    refine cw_region ?_
    refine lw_op rfl rfl rfl (ow_move rfl rfl ?_)
    refine lw_op rfl rfl rfl (ow_move rfl rfl ?_)
    refine lw_op rfl rfl rfl (ow_len rfl rfl (VRep.mono (hl1.trans hl2) h0) Tryd.underlying199 rfl ?_)
    refine lw_op rfl rfl rfl (ow_lss rfl rfl rfl fun bb1 hbb1 => ?_)
    refine lw_nil ?_
    refine ew_then ?_
    replace hb2 := cond_some hb2
    rcases hb2 with ⟨hc1, hb2⟩ | ⟨hc1, hb2⟩
    · obtain rfl := hbb1.trans hc1
      refine cw_true rfl ?_
      refine cw_skip ?_
      refine ew_then ?_
      refine cw_seq ?_
      refine cw_block ?_
      refine cw_region ?_
      refine lw_op rfl rfl rfl (ow_move rfl rfl ?_)
      refine lw_op rfl rfl rfl (ow_move rfl rfl ?_)
      refine lw_op rfl rfl rfl (ow_move rfl rfl ?_)
      refine lw_op rfl rfl rfl (ow_move rfl rfl ?_)
      replace hb2 := bind_some hb2
      obtain ⟨x1, hx1, hb2⟩ := hb2
      refine lw_op rfl rfl rfl (ow_indexSlice (R := RTest) rfl rfl rfl (VRep.mono (hl1.trans hl2) h0) Tryd.underlying199 (Tryd.sizeOf220 _) hx1 fun p1 hp1 => ?_)
      refine lw_op rfl rfl rfl (ow_load (R := RTest) rfl rfl hp1 (Tryd.sizeOf220 _) (Tryd.isAgg220 _) fun v4 hv4 => ?_)
      replace hb2 := bind_some hb2
      obtain ⟨x2, hx2, hb2⟩ := hb2
      refine lw_op rfl rfl rfl (ow_call rfl rfl Tryd.call161 (w_laws_toTest (hG.mono (hl1.trans hl2)) hC2.old hv4 hx2) fun v5 w3 hv5 => ?_)
      obtain ⟨hv5, hb3⟩ := hv5
      have hl3 := Le.no M2 hb3
      have hC3 := hC2.no hb3
      have hr2 := hw1.no hb3
      replace hb2 := bind_some hb2
      obtain ⟨x3, hx3, hb2⟩ := hb2
      refine lw_op rfl rfl rfl (ow_indexRow (R := RTest) rfl rfl rfl hr2 Tryd.underlying74 (Tryd.sizeOf186 _) hx3 ?_)
      refine lw_op0 rfl rfl (ow_storeElRow (X := No) (R := RTest) (S := RTest) rfl rfl rfl rfl hr2 (orow_blk hr2 hx3) hx3 (FldSet.whole RTest) (Tryd.sizeOf186 _) hv5 (Nat.le_refl _) hC3 fun w4 ho1 hb4 hl4 hC4 => ?_)
      refine lw_nil ?_
      refine ew_blockN ?_
      refine ew_then ?_
      refine cw_region ?_
      refine lw_op rfl rfl rfl (ow_move rfl rfl ?_)
      refine lw_op rfl rfl rfl (ow_add rfl rfl rfl ?_)
      refine lw_op rfl rfl rfl (ow_assign rfl rfl ?_)
      refine lw_nil ?_
      refine ew_nxt ((W (k1 + 1)), (List.set y1 (k1 : Int).toNat x2)) hb2 fun a ha => ⟨M2, ?_, ((hl2.trans hl3).trans hl4), hC4, ho1⟩
      exact ha.sub ⟨rfl, rfl, rfl, trivial⟩
    · obtain rfl := hbb1.trans hc1
      refine cw_false rfl ?_
      refine cw_exit ?_
      refine ew_thenX ?_
      refine ew_thenX ?_
      refine ew_blockX ?_
      refine ew_brk (k1, y1) hb2 fun a ha => ⟨M2, ?_, hl2, hC2, hw1⟩
      exact ha.sub ⟨rfl, rfl, rfl, trivial⟩
  · rintro ⟨k2, y2⟩ a w5 hlr2 ⟨M3, hF2, hl5, hC5, hw2⟩
    subst hlr2
    refine ew_at (E := [(0, v0p), (3, v1), (4, (.int .i64 k2))]) hF2 ?_
    refine ew_then ?_
    refine cw_seq ?_
    refine cw_region ?_
    refine lw_op rfl rfl rfl (ow_move rfl rfl ?_)
    refine lw_op rfl rfl rfl (ow_assign rfl rfl ?_)
    refine lw_nil ?_
    refine ew_then ?_
    refine cw_ret ?_
    obtain rfl := Option.some.inj h
    exact ew_ret (res1 rfl (.tmp rfl)) ⟨_, rfl, (hw2.freezeBack hC5 hO), hC5.bx⟩

theorem w_laws_toRule {w : World} {M : Nat → Prop} (hG : ARep (RArr 4 RShape) w M shapes ⟨0, 0, none⟩) (hO : ∀ b, M b → b < w.heap.size) {v0p : Value} {a_a : Rule} (h0 : VRep RRule w M a_a v0p) {r : Rule} (h : F.laws_toRule a_a = some r) :
    Calls Tryd.prog 149 [v0p].toArray w fun e w' => ∃ v, e = .returned v ∧ VRep RRule w' M r v ∧ BX No w w' := by
  have hC : Cx No w M w M := Cx.start hO (fun _ e => e.elim)
  refine walk (N := 15) Tryd.func149 rfl Tryd.ntmps149 rfl ?_
  refine cw_seq ?_
  refine cw_region ?_
  refine lw_op rfl rfl rfl (ow_box (R := RRule) rfl rfl h0 hC fun p1 w1 hp1 hb1 hl1 hC1 => ?_)
  refine lw_op rfl rfl rfl (ow_alloc rfl (Tryd.zeroValue76 _) hC1 fun g1 w2 hg1 hg2 ho1 hb2 hl2 hC2 => ?_)
  have hm1 : (Add g1 M) g1 := .inl rfl
  refine lw_nil ?_
  refine ew_then ?_
  refine cw_seq ?_
  refine cw_region ?_
  refine lw_op rfl rfl rfl (ow_alloc rfl (Tryd.zeroValue76 _) hC2 fun g2 w3 hg3 hg4 ho2 hb3 hl3 hC3 => ?_)
  have hn1 := Nat.ne_of_lt (Nat.lt_of_lt_of_le ho1.lt hg3)
  have ho3 := ho1.no hb3
  have hm2 : (Add g2 (Add g1 M)) g1 := .inr hm1
  have hm3 : (Add g2 (Add g1 M)) g2 := .inl rfl
  refine lw_nil ?_
  refine ew_then ?_
  refine cw_seq ?_
  refine cw_region ?_
  refine lw_op rfl rfl rfl (ow_fieldAddr rfl rfl Tryd.underlying201 rfl (Tryd.sizeOf199 _) ?_)
  refine lw_op rfl rfl rfl (ow_load (R := (RSlice RTest)) rfl rfl (ARep.mono (hl2.trans hl3) (hp1.fld fld_Rule_Tests)) (Tryd.sizeOf199 _) (Tryd.isAgg199 _) fun v1 hv1 => ?_)
  replace h := bind_some h
  obtain ⟨x1, hx1, h⟩ := h
  refine lw_op rfl rfl rfl (ow_call rfl rfl Tryd.call158 (w_laws_toTestS (hG.mono ((hl1.trans hl2).trans hl3)) hC3.old hv1 hx1) fun v2 w4 hv2 => ?_)
  obtain ⟨hv2, hb4⟩ := hv2
  have hl4 := Le.no (Add g2 (Add g1 M)) hb4
  have hC4 := hC3.no hb4
  have ho4 := ho3.no hb4
  have ho5 := ho2.no hb4
  refine lw_op rfl rfl rfl (ow_fieldAddr rfl rfl Tryd.underlying76 rfl (Tryd.sizeOf74 _) ?_)
  obtain ⟨A1, c1, rfl, -⟩ := vslice_shape hv2
  refine lw_op0 rfl rfl (ow_store (X := No) (us := [(.slice A1 x1.length c1)]) (cs' := #[(.slice A1 x1.length c1), (.int .i64 0), (.int .i64 0)]) rfl rfl rfl rfl ho5 (Tryd.sizeOf74 _) rfl rfl rfl rfl hm3 (.inl hg4) rfl hC4 fun w5 ho6 hb5 hl5 hC5 => ?_)
  have ho7 := ho4.go hb5 (fun e => hn1 e)
  refine lw_nil ?_
  refine ew_then ?_
  refine cw_seq ?_
  refine cw_region ?_
  refine lw_op rfl rfl rfl (ow_fieldAddr rfl rfl Tryd.underlying201 rfl (Tryd.sizeOf3 _) ?_)
  refine lw_op rfl rfl rfl (ow_load (R := RInt) rfl rfl (ARep.mono (((hl2.trans hl3).trans hl4).trans hl5) (hp1.fld fld_Rule_Action)) (Tryd.sizeOf3 _) (Tryd.isAgg3 _) fun v3 hv3 => ?_)
  obtain rfl := vint_eq hv3
  refine lw_op rfl rfl rfl (ow_fieldAddr rfl rfl Tryd.underlying76 rfl (Tryd.sizeOf3 _) ?_)
  refine lw_op0 rfl rfl (ow_store (X := No) (us := [(.int .i64 a_a.Action)]) (cs' := #[(.slice A1 x1.length c1), (.int .i64 a_a.Action), (.int .i64 0)]) rfl rfl rfl rfl ho6 (Tryd.sizeOf3 _) rfl rfl rfl rfl hm3 (.inl hg4) rfl hC5 fun w6 ho8 hb6 hl6 hC6 => ?_)
  have ho9 := ho7.go hb6 (fun e => hn1 e)
  refine lw_nil ?_
  refine ew_then ?_
  refine cw_seq ?_
  refine cw_region ?_
  refine lw_op rfl rfl rfl (ow_fieldAddr rfl rfl Tryd.underlying201 rfl (Tryd.sizeOf3 _) ?_)
  refine lw_op rfl rfl rfl (ow_load (R := RInt) rfl rfl (ARep.mono ((((hl2.trans hl3).trans hl4).trans hl5).trans hl6) (hp1.fld fld_Rule_Chain)) (Tryd.sizeOf3 _) (Tryd.isAgg3 _) fun v4 hv4 => ?_)
  obtain rfl := vint_eq hv4
  refine lw_op rfl rfl rfl (ow_fieldAddr rfl rfl Tryd.underlying76 rfl (Tryd.sizeOf3 _) ?_)
  refine lw_op0 rfl rfl (ow_store (X := No) (us := [(.int .i64 a_a.Chain)]) (cs' := #[(.slice A1 x1.length c1), (.int .i64 a_a.Action), (.int .i64 a_a.Chain)]) rfl rfl rfl rfl ho8 (Tryd.sizeOf3 _) rfl rfl rfl rfl hm3 (.inl hg4) rfl hC6 fun w7 ho10 hb7 hl7 hC7 => ?_)
  have ho11 := ho9.go hb7 (fun e => hn1 e)
  refine lw_nil ?_
  refine ew_then ?_
  refine cw_seq ?_
  refine cw_region ?_
  refine lw_op rfl rfl rfl (ow_loadOwnA rfl rfl rfl ho10 (Tryd.isAgg76 _) (Tryd.sizeOf76 _) rfl ?_)
  have hw1 : VRep RRule w7 (Add g2 (Add g1 M)) ({ Tests := x1, Action := a_a.Action, Chain := a_a.Chain } : Rule) (.agg #[(.slice A1 x1.length c1), (.int .i64 a_a.Action), (.int .i64 a_a.Chain)]) := shut_Rule (VRep.mono ((hl5.trans hl6).trans hl7) hv2)
  refine lw_op0 rfl rfl (ow_store (X := No) (us := [(.slice A1 x1.length c1), (.int .i64 a_a.Action), (.int .i64 a_a.Chain)]) (cs' := #[(.slice A1 x1.length c1), (.int .i64 a_a.Action), (.int .i64 a_a.Chain)]) rfl rfl rfl rfl ho11 (Tryd.sizeOf76 _) rfl rfl rfl rfl hm2 (.inl hg2) rfl hC7 fun w8 ho12 hb8 hl8 hC8 => ?_)
  have ho13 := ho10.go hb8 (fun e => hn1 e.symm)
  refine lw_nil ?_
  refine ew_then ?_
  refine cw_ret ?_
  have hw2 : VRep RRule w8 (Add g2 (Add g1 M)) ({ Tests := x1, Action := a_a.Action, Chain := a_a.Chain } : Rule) (.agg #[(.slice A1 x1.length c1), (.int .i64 a_a.Action), (.int .i64 a_a.Chain)]) := shut_Rule (VRep.mono (((hl5.trans hl6).trans hl7).trans hl8) hv2)
  obtain rfl := Option.some.inj h
  exact ew_ret (res1 rfl (.cell rfl (own_loadVarA ho12 (Tryd.isAgg76 _) (Tryd.sizeOf76 _) rfl))) ⟨_, rfl, (hw2.mono hC8.back), hC8.bx⟩

theorem w_laws_toRuleS {w : World} {M : Nat → Prop} (hG : ARep (RArr 4 RShape) w M shapes ⟨0, 0, none⟩) (hO : ∀ b, M b → b < w.heap.size) {v0p : Value} {a_a : List Rule} (h0 : VRep (RSlice RRule) w M a_a v0p) {r : (List Rule)} (h : F.laws_toRuleS a_a = some r) :
    Calls Tryd.prog 130 [v0p].toArray w fun e w' => ∃ v, e = .returned v ∧ VRep (RSlice RRule) w' M r v ∧ BX No w w' := by
  obtain ⟨i76, hi76, hz76, hs76, hy76⟩ := info76
  have hC : Cx No w M w M := Cx.start hO (fun _ e => e.elim)
  refine walk (N := 23) Tryd.func130 rfl Tryd.ntmps130 rfl ?_
  refine cw_seq ?_
  refine cw_region ?_
  refine lw_op rfl rfl rfl (ow_assign rfl rfl ?_)
  refine lw_nil ?_
  refine ew_then ?_
  refine cw_seq ?_
  refine cw_region ?_
  refine lw_op rfl rfl rfl (ow_move rfl rfl ?_)
  refine lw_op rfl rfl rfl (ow_len rfl rfl h0 Tryd.underlying162 rfl ?_)
  replace h := bind_some h
  obtain ⟨mk1, hmk1, h⟩ := h
  refine lw_op rfl rfl rfl (ow_make (R := RRule) rfl rfl rfl Tryd.underlying86 hi76 hz76 hs76 hy76 rfl rfl (shut_Rule vslice_nil) hmk1 hC fun v1 w1 M1 hr1 hb1 hl1 hC1 hM1 hat1 => ?_)
  refine lw_op rfl rfl rfl (ow_assign rfl rfl ?_)
  refine lw_nil ?_
  refine ew_then ?_
  refine cw_seq ?_
  refine cw_seq ?_
  refine cw_region ?_
  refine lw_op rfl rfl rfl (ow_assign rfl rfl ?_)
  refine lw_nil ?_
  refine ew_then ?_
  replace h := bind_some h
  obtain ⟨lr1, hlr1, h⟩ := h
  refine cw_for hlr1 (fun s a w' => ∃ (M' : Nat → Prop), Fits 23 [(0, v0p), (3, v1), (4, (.int .i64 s.1))] a ∧ Le w1 M1 w' M' ∧ Cx No w M w' M' ∧ OwnRow RRule w.heap.size 76 w' M' s.2 v1) ?_ ?_ ?_
  · intro a ha
    exact ⟨M1, ha.sub ⟨rfl, rfl, rfl, trivial⟩, Le.refl _ _, hC1, hr1⟩
  · rintro ⟨k1, y1⟩ a w2 sr1 ⟨M2, hF1, hl2, hC2, hw1⟩ hb2 hR1
    refine cw_at (E := [(0, v0p), (3, v1), (4, (.int .i64 k1))]) hF1 ?_
    refine cw_seq ?_
    refine cw_seq ?_
    refine cw_region ?_
    refine lw_op rfl rfl rfl (ow_move rfl rfl ?_)
    refine lw_op rfl rfl rfl (ow_move rfl rfl ?_)
    refine lw_op rfl rfl rfl (ow_len rfl rfl (VRep.mono (hl1.trans hl2) h0) Tryd.underlying162 rfl ?_)
    refine lw_op rfl rfl rfl (ow_lss rfl rfl rfl fun bb1 hbb1 => ?_)
    refine lw_nil ?_
    refine ew_then ?_
    replace hb2 := cond_some hb2
    rcases hb2 with ⟨hc1, hb2⟩ | ⟨hc1, hb2⟩
    · obtain rfl := hbb1.trans hc1
      refine cw_true rfl ?_
      refine cw_skip ?_
      refine ew_then ?_
      refine cw_seq ?_
      refine cw_block ?_
      refine cw_region ?_
      refine lw_op rfl rfl rfl (ow_move rfl rfl ?_)
      refine lw_op rfl rfl rfl (ow_move rfl rfl ?_)
      refine lw_op rfl rfl rfl (ow_move rfl rfl ?_)
      refine lw_op rfl rfl rfl (ow_move rfl rfl ?_)
      replace hb2 := bind_some hb2
      obtain ⟨x1, hx1, hb2⟩ := hb2
      refine lw_op rfl rfl rfl (ow_indexSlice (R := RRule) rfl rfl rfl (VRep.mono (hl1.trans hl2) h0) Tryd.underlying162 (Tryd.sizeOf201 _) hx1 fun p1 hp1 => ?_)
      refine lw_op rfl rfl rfl (ow_load (R := RRule) rfl rfl hp1 (Tryd.sizeOf201 _) (Tryd.isAgg201 _) fun v4 hv4 => ?_)
      replace hb2 := bind_some hb2
      obtain ⟨x2, hx2, hb2⟩ := hb2
      refine lw_op rfl rfl rfl (ow_call rfl rfl Tryd.call149 (w_laws_toRule (hG.mono (hl1.trans hl2)) hC2.old hv4 hx2) fun v5 w3 hv5 => ?_)
      obtain ⟨hv5, hb3⟩ := hv5
      have hl3 := Le.no M2 hb3
      have hC3 := hC2.no hb3
      have hr2 := hw1.no hb3
      replace hb2 := bind_some hb2
      obtain ⟨x3, hx3, hb2⟩ := hb2
      refine lw_op rfl rfl rfl (ow_indexRow (R := RRule) rfl rfl rfl hr2 Tryd.underlying86 (Tryd.sizeOf76 _) hx3 ?_)
      refine lw_op0 rfl rfl (ow_storeElRow (X := No) (R := RRule) (S := RRule) rfl rfl rfl rfl hr2 (orow_blk hr2 hx3) hx3 (FldSet.whole RRule) (Tryd.sizeOf76 _) hv5 (Nat.le_refl _) hC3 fun w4 ho1 hb4 hl4 hC4 => ?_)
      refine lw_nil ?_
      refine ew_blockN ?_
      refine ew_then ?_
      refine cw_region ?_
      refine lw_op rfl rfl rfl (ow_move rfl rfl ?_)
      refine lw_op rfl rfl rfl (ow_add rfl rfl rfl ?_)
      refine lw_op rfl rfl rfl (ow_assign rfl rfl ?_)
      refine lw_nil ?_
      refine ew_nxt ((W (k1 + 1)), (List.set y1 (k1 : Int).toNat x2)) hb2 fun a ha => ⟨M2, ?_, ((hl2.trans hl3).trans hl4), hC4, ho1⟩
      exact ha.sub ⟨rfl, rfl, rfl, trivial⟩
    · obtain rfl := hbb1.trans hc1
      refine cw_false rfl ?_
      refine cw_exit ?_
      refine ew_thenX ?_
      refine ew_thenX ?_
      refine ew_blockX ?_
      refine ew_brk (k1, y1) hb2 fun a ha => ⟨M2, ?_, hl2, hC2, hw1⟩
      exact ha.sub ⟨rfl, rfl, rfl, trivial⟩
  · rintro ⟨k2, y2⟩ a w5 hlr2 ⟨M3, hF2, hl5, hC5, hw2⟩
    subst hlr2
    refine ew_at (E := [(0, v0p), (3, v1), (4, (.int .i64 k2))]) hF2 ?_
    refine ew_then ?_
    refine cw_seq ?_
    refine cw_region ?_
    refine lw_op rfl rfl rfl (ow_move rfl rfl ?_)
    refine lw_op rfl rfl rfl (ow_assign rfl rfl ?_)
    refine lw_nil ?_
    refine ew_then ?_
    refine cw_ret ?_
    obtain rfl := Option.some.inj h
    exact ew_ret (res1 rfl (.tmp rfl)) ⟨_, rfl, (hw2.freezeBack hC5 hO), hC5.bx⟩

theorem w_laws_toRuleSS {w : World} {M : Nat → Prop} (hG : ARep (RArr 4 RShape) w M shapes ⟨0, 0, none⟩) (hO : ∀ b, M b → b < w.heap.size) {v0p : Value} {a_a : List (List Rule)} (h0 : VRep (RSlice (RSlice RRule)) w M a_a v0p) {r : (List (List Rule))} (h : F.laws_toRuleSS a_a = some r) :
    Calls Tryd.prog 85 [v0p].toArray w fun e w' => ∃ v, e = .returned v ∧ VRep (RSlice (RSlice RRule)) w' M r v ∧ BX No w w' := by
  obtain ⟨i86, hi86, hz86, hs86, hy86⟩ := info86
  have hC : Cx No w M w M := Cx.start hO (fun _ e => e.elim)
  refine walk (N := 23) Tryd.func85 rfl Tryd.ntmps85 rfl ?_
  refine cw_seq ?_
  refine cw_region ?_
  refine lw_op rfl rfl rfl (ow_assign rfl rfl ?_)
  refine lw_nil ?_
  refine ew_then ?_
  refine cw_seq ?_
  refine cw_region ?_
  refine lw_op rfl rfl rfl (ow_move rfl rfl ?_)
  refine lw_op rfl rfl rfl (ow_len rfl rfl h0 Tryd.underlying50 rfl ?_)
  replace h := bind_some h
  obtain ⟨mk1, hmk1, h⟩ := h
  refine lw_op rfl rfl rfl (ow_make (R := (RSlice RRule)) rfl rfl rfl Tryd.underlying55 hi86 hz86 hs86 hy86 rfl rfl vslice_nil hmk1 hC fun v1 w1 M1 hr1 hb1 hl1 hC1 hM1 hat1 => ?_)
  refine lw_op rfl rfl rfl (ow_assign rfl rfl ?_)
  refine lw_nil ?_
  refine ew_then ?_
  refine cw_seq ?_
  refine cw_seq ?_
  refine cw_region ?_
  refine lw_op rfl rfl rfl (ow_assign rfl rfl ?_)
  refine lw_nil ?_
  refine ew_then ?_
  replace h := bind_some h
  obtain ⟨lr1, hlr1, h⟩ := h
  refine cw_for hlr1 (fun s a w' => ∃ (M' : Nat → Prop), Fits 23 [(0, v0p), (3, v1), (4, (.int .i64 s.1))] a ∧ Le w1 M1 w' M' ∧ Cx No w M w' M' ∧ OwnRow (RSlice RRule) w.heap.size 86 w' M' s.2 v1) ?_ ?_ ?_
  · intro a ha
    exact ⟨M1, ha.sub ⟨rfl, rfl, rfl, trivial⟩, Le.refl _ _, hC1, hr1⟩
  · rintro ⟨k1, y1⟩ a w2 sr1 ⟨M2, hF1, hl2, hC2, hw1⟩ hb2 hR1
    refine cw_at (E := [(0, v0p), (3, v1), (4, (.int .i64 k1))]) hF1 ?_
    refine cw_seq ?_
    refine cw_seq ?_
    refine cw_region ?_
    refine lw_op rfl rfl rfl (ow_move rfl rfl ?_)
    refine lw_op rfl rfl rfl (ow_move rfl rfl ?_)
    refine lw_op rfl rfl rfl (ow_len rfl rfl (VRep.mono (hl1.trans hl2) h0) Tryd.underlying50 rfl ?_)
    refine lw_op rfl rfl rfl (ow_lss rfl rfl rfl fun bb1 hbb1 => ?_)
    refine lw_nil ?_
    refine ew_then ?_
    replace hb2 := cond_some hb2
    rcases hb2 with ⟨hc1, hb2⟩ | ⟨hc1, hb2⟩
    · obtain rfl := hbb1.trans hc1
      refine cw_true rfl ?_
      refine cw_skip ?_
      refine ew_then ?_
      refine cw_seq ?_
      refine cw_block ?_
      refine cw_region ?_
      refine lw_op rfl rfl rfl (ow_move rfl rfl ?_)
      refine lw_op rfl rfl rfl (ow_move rfl rfl ?_)
      refine lw_op rfl rfl rfl (ow_move rfl rfl ?_)
      refine lw_op rfl rfl rfl (ow_move rfl rfl ?_)
      replace hb2 := bind_some hb2
      obtain ⟨x1, hx1, hb2⟩ := hb2
      refine lw_op rfl rfl rfl (ow_indexSlice (R := (RSlice RRule)) rfl rfl rfl (VRep.mono (hl1.trans hl2) h0) Tryd.underlying50 (Tryd.sizeOf162 _) hx1 fun p1 hp1 => ?_)
      refine lw_op rfl rfl rfl (ow_load (R := (RSlice RRule)) rfl rfl hp1 (Tryd.sizeOf162 _) (Tryd.isAgg162 _) fun v4 hv4 => ?_)
      replace hb2 := bind_some hb2
      obtain ⟨x2, hx2, hb2⟩ := hb2
      refine lw_op rfl rfl rfl (ow_call rfl rfl Tryd.call130 (w_laws_toRuleS (hG.mono (hl1.trans hl2)) hC2.old hv4 hx2) fun v5 w3 hv5 => ?_)
      obtain ⟨hv5, hb3⟩ := hv5
      have hl3 := Le.no M2 hb3
      have hC3 := hC2.no hb3
      have hr2 := hw1.no hb3
      replace hb2 := bind_some hb2
      obtain ⟨x3, hx3, hb2⟩ := hb2
      refine lw_op rfl rfl rfl (ow_indexRow (R := (RSlice RRule)) rfl rfl rfl hr2 Tryd.underlying55 (Tryd.sizeOf86 _) hx3 ?_)
      refine lw_op0 rfl rfl (ow_storeElRow (X := No) (R := (RSlice RRule)) (S := (RSlice RRule)) rfl rfl rfl rfl hr2 (orow_blk hr2 hx3) hx3 (FldSet.whole (RSlice RRule)) (Tryd.sizeOf86 _) hv5 (Nat.le_refl _) hC3 fun w4 ho1 hb4 hl4 hC4 => ?_)
      refine lw_nil ?_
      refine ew_blockN ?_
      refine ew_then ?_
      refine cw_region ?_
      refine lw_op rfl rfl rfl (ow_move rfl rfl ?_)
      refine lw_op rfl rfl rfl (ow_add rfl rfl rfl ?_)
      refine lw_op rfl rfl rfl (ow_assign rfl rfl ?_)
      refine lw_nil ?_
      refine ew_nxt ((W (k1 + 1)), (List.set y1 (k1 : Int).toNat x2)) hb2 fun a ha => ⟨M2, ?_, ((hl2.trans hl3).trans hl4), hC4, ho1⟩
      exact ha.sub ⟨rfl, rfl, rfl, trivial⟩
    · obtain rfl := hbb1.trans hc1
      refine cw_false rfl ?_
      refine cw_exit ?_
      refine ew_thenX ?_
      refine ew_thenX ?_
      refine ew_blockX ?_
      refine ew_brk (k1, y1) hb2 fun a ha => ⟨M2, ?_, hl2, hC2, hw1⟩
      exact ha.sub ⟨rfl, rfl, rfl, trivial⟩
  · rintro ⟨k2, y2⟩ a w5 hlr2 ⟨M3, hF2, hl5, hC5, hw2⟩
    subst hlr2
    refine ew_at (E := [(0, v0p), (3, v1), (4, (.int .i64 k2))]) hF2 ?_
    refine ew_then ?_
    refine cw_seq ?_
    refine cw_region ?_
    refine lw_op rfl rfl rfl (ow_move rfl rfl ?_)
    refine lw_op rfl rfl rfl (ow_assign rfl rfl ?_)
    refine lw_nil ?_
    refine ew_then ?_
    refine cw_ret ?_
    obtain rfl := Option.some.inj h
    exact ew_ret (res1 rfl (.tmp rfl)) ⟨_, rfl, (hw2.freezeBack hC5 hO), hC5.bx⟩

theorem w_laws_toRuleset {w : World} {M : Nat → Prop} (hG : ARep (RArr 4 RShape) w M shapes ⟨0, 0, none⟩) (hO : ∀ b, M b → b < w.heap.size) {v0p : Value} {a_a : Ruleset} (h0 : VRep RRuleset w M a_a v0p) {r : Ruleset} (h : F.laws_toRuleset a_a = some r) :
    Calls Tryd.prog 35 [v0p].toArray w fun e w' => ∃ v, e = .returned v ∧ VRep RRuleset w' M r v ∧ BX No w w' := by
  have hC : Cx No w M w M := Cx.start hO (fun _ e => e.elim)
  refine walk (N := 12) Tryd.func35 rfl Tryd.ntmps35 rfl ?_
  refine cw_seq ?_
  refine cw_region ?_
  refine lw_op rfl rfl rfl (ow_box (R := RRuleset) rfl rfl h0 hC fun p1 w1 hp1 hb1 hl1 hC1 => ?_)
  refine lw_op rfl rfl rfl (ow_alloc rfl (Tryd.zeroValue57 _) hC1 fun g1 w2 hg1 hg2 ho1 hb2 hl2 hC2 => ?_)
  have hm1 : (Add g1 M) g1 := .inl rfl
  refine lw_nil ?_
  refine ew_then ?_
  refine cw_seq ?_
  refine cw_region ?_
  refine lw_op rfl rfl rfl (ow_alloc rfl (Tryd.zeroValue57 _) hC2 fun g2 w3 hg3 hg4 ho2 hb3 hl3 hC3 => ?_)
  have hn1 := Nat.ne_of_lt (Nat.lt_of_lt_of_le ho1.lt hg3)
  have ho3 := ho1.no hb3
  have hm2 : (Add g2 (Add g1 M)) g1 := .inr hm1
  have hm3 : (Add g2 (Add g1 M)) g2 := .inl rfl
  refine lw_nil ?_
  refine ew_then ?_
  refine cw_seq ?_
  refine cw_region ?_
  refine lw_op rfl rfl rfl (ow_fieldAddr rfl rfl Tryd.underlying52 rfl (Tryd.sizeOf50 _) ?_)
  refine lw_op rfl rfl rfl (ow_load (R := (RSlice (RSlice RRule))) rfl rfl (ARep.mono (hl2.trans hl3) (hp1.fld fld_Ruleset_Chains)) (Tryd.sizeOf50 _) (Tryd.isAgg50 _) fun v1 hv1 => ?_)
  replace h := bind_some h
  obtain ⟨x1, hx1, h⟩ := h
  refine lw_op rfl rfl rfl (ow_call rfl rfl Tryd.call85 (w_laws_toRuleSS (hG.mono ((hl1.trans hl2).trans hl3)) hC3.old hv1 hx1) fun v2 w4 hv2 => ?_)
  obtain ⟨hv2, hb4⟩ := hv2
  have hl4 := Le.no (Add g2 (Add g1 M)) hb4
  have hC4 := hC3.no hb4
  have ho4 := ho3.no hb4
  have ho5 := ho2.no hb4
  refine lw_op rfl rfl rfl (ow_fieldAddr rfl rfl Tryd.underlying57 rfl (Tryd.sizeOf55 _) ?_)
  obtain ⟨A1, c1, rfl, -⟩ := vslice_shape hv2
  refine lw_op0 rfl rfl (ow_store (X := No) (us := [(.slice A1 x1.length c1)]) (cs' := #[(.slice A1 x1.length c1), (.bool false)]) rfl rfl rfl rfl ho5 (Tryd.sizeOf55 _) rfl rfl rfl rfl hm3 (.inl hg4) rfl hC4 fun w5 ho6 hb5 hl5 hC5 => ?_)
  have ho7 := ho4.go hb5 (fun e => hn1 e)
  refine lw_nil ?_
  refine ew_then ?_
  refine cw_seq ?_
  refine cw_region ?_
  refine lw_op rfl rfl rfl (ow_fieldAddr rfl rfl Tryd.underlying52 rfl (Tryd.sizeOf4 _) ?_)
  refine lw_op rfl rfl rfl (ow_load (R := RBool) rfl rfl (ARep.mono (((hl2.trans hl3).trans hl4).trans hl5) (hp1.fld fld_Ruleset_Accept)) (Tryd.sizeOf4 _) (Tryd.isAgg4 _) fun v3 hv3 => ?_)
  obtain ⟨bb1, hbb1, rfl⟩ := vbool_ex hv3
  refine lw_op rfl rfl rfl (ow_fieldAddr rfl rfl Tryd.underlying57 rfl (Tryd.sizeOf4 _) ?_)
  refine lw_op0 rfl rfl (ow_store (X := No) (us := [(.bool bb1)]) (cs' := #[(.slice A1 x1.length c1), (.bool bb1)]) rfl rfl rfl rfl ho6 (Tryd.sizeOf4 _) rfl rfl rfl rfl hm3 (.inl hg4) rfl hC5 fun w6 ho8 hb6 hl6 hC6 => ?_)
  have ho9 := ho7.go hb6 (fun e => hn1 e)
  refine lw_nil ?_
  refine ew_then ?_
  refine cw_seq ?_
  refine cw_region ?_
  refine lw_op rfl rfl rfl (ow_loadOwnA rfl rfl rfl ho8 (Tryd.isAgg57 _) (Tryd.sizeOf57 _) rfl ?_)
  have hw1 : VRep RRuleset w6 (Add g2 (Add g1 M)) ({ Chains := x1, Accept := a_a.Accept } : Ruleset) (.agg #[(.slice A1 x1.length c1), (.bool bb1)]) := by subst hbb1; exact shut_Ruleset (VRep.mono (hl5.trans hl6) hv2)
  refine lw_op0 rfl rfl (ow_store (X := No) (us := [(.slice A1 x1.length c1), (.bool bb1)]) (cs' := #[(.slice A1 x1.length c1), (.bool bb1)]) rfl rfl rfl rfl ho9 (Tryd.sizeOf57 _) rfl rfl rfl rfl hm2 (.inl hg2) rfl hC6 fun w7 ho10 hb7 hl7 hC7 => ?_)
  have ho11 := ho8.go hb7 (fun e => hn1 e.symm)
  refine lw_nil ?_
  refine ew_then ?_
  refine cw_ret ?_
  have hw2 : VRep RRuleset w7 (Add g2 (Add g1 M)) ({ Chains := x1, Accept := a_a.Accept } : Ruleset) (.agg #[(.slice A1 x1.length c1), (.bool bb1)]) := by subst hbb1; exact shut_Ruleset (VRep.mono ((hl5.trans hl6).trans hl7) hv2)
  obtain rfl := Option.some.inj h
  exact ew_ret (res1 rfl (.cell rfl (own_loadVarA ho10 (Tryd.isAgg57 _) (Tryd.sizeOf57 _) rfl))) ⟨_, rfl, (hw2.mono hC7.back), hC7.bx⟩

theorem w_laws_eqTest {w : World} {M : Nat → Prop} (_hG : ARep (RArr 4 RShape) w M shapes ⟨0, 0, none⟩) (hO : ∀ b, M b → b < w.heap.size) {v0p : Value} {a_a : Test} (h0 : VRep RTest w M a_a v0p) {v1p : Value} {a_b : Test} (h1 : VRep RTest w M a_b v1p) {r : Bool} (h : F.laws_eqTest a_a a_b = some r) :
    Calls Tryd.prog 162 [v0p, v1p].toArray w fun e w' => ∃ v, e = .returned v ∧ VRep RBool w' M r v ∧ BX No w w' := by
  have hC : Cx No w M w M := Cx.start hO (fun _ e => e.elim)
  clear _hG
  refine walk (N := 25) Tryd.func162 rfl Tryd.ntmps162 rfl ?_
  refine cw_seq ?_
  refine cw_region ?_
  refine lw_op rfl rfl rfl (ow_box (R := RTest) rfl rfl h0 hC fun p1 w1 hp1 hb1 hl1 hC1 => ?_)
  refine lw_op rfl rfl rfl (ow_box (R := RTest) rfl rfl (VRep.mono hl1 h1) hC1 fun p2 w2 hp2 hb2 hl2 hC2 => ?_)
  refine lw_op rfl rfl rfl (ow_assign rfl rfl ?_)
  refine lw_nil ?_
  refine ew_then ?_
  refine cw_seq ?_
  refine cw_seq ?_
  refine cw_region ?_
  refine lw_op rfl rfl rfl (ow_fieldAddr rfl rfl Tryd.underlying186 rfl (Tryd.sizeOf3 _) ?_)
  refine lw_op rfl rfl rfl (ow_load (R := RInt) rfl rfl (ARep.mono hl2 (hp1.fld fld_Test_Field)) (Tryd.sizeOf3 _) (Tryd.isAgg3 _) fun v1 hv1 => ?_)
  obtain rfl := vint_eq hv1
  refine lw_op rfl rfl rfl (ow_fieldAddr rfl rfl Tryd.underlying186 rfl (Tryd.sizeOf3 _) ?_)
  refine lw_op rfl rfl rfl (ow_load (R := RInt) rfl rfl (hp2.fld fld_Test_Field) (Tryd.sizeOf3 _) (Tryd.isAgg3 _) fun v2 hv2 => ?_)
  obtain rfl := vint_eq hv2
  refine lw_op rfl rfl rfl (ow_neqI rfl rfl rfl fun bb1 hbb1 => ?_)
  refine lw_nil ?_
  refine ew_then ?_
  replace h := cond_some h
  rcases h with ⟨hc1, h⟩ | ⟨hc1, h⟩
  · obtain rfl := hbb1.trans hc1
    refine cw_true rfl ?_
    refine cw_seq ?_
    refine cw_region ?_
    refine lw_op rfl rfl rfl (ow_assign rfl rfl ?_)
    refine lw_nil ?_
    refine ew_then ?_
    refine cw_ret ?_
    refine ew_thenR ?_
    obtain rfl := Option.some.inj h
    exact ew_ret (res1 rfl (.tmp rfl)) ⟨_, rfl, ((vbool _)), hC2.bx⟩
  · obtain rfl := hbb1.trans hc1
    refine cw_false rfl ?_
    refine cw_skip ?_
    refine ew_then ?_
    refine cw_seq ?_
    refine cw_seq ?_
    refine cw_region ?_
    refine lw_op rfl rfl rfl (ow_fieldAddr rfl rfl Tryd.underlying186 rfl (Tryd.sizeOf3 _) ?_)
    refine lw_op rfl rfl rfl (ow_load (R := RInt) rfl rfl (ARep.mono hl2 (hp1.fld fld_Test_Lo)) (Tryd.sizeOf3 _) (Tryd.isAgg3 _) fun v3 hv3 => ?_)
    obtain rfl := vint_eq hv3
    refine lw_op rfl rfl rfl (ow_fieldAddr rfl rfl Tryd.underlying186 rfl (Tryd.sizeOf3 _) ?_)
    refine lw_op rfl rfl rfl (ow_load (R := RInt) rfl rfl (hp2.fld fld_Test_Lo) (Tryd.sizeOf3 _) (Tryd.isAgg3 _) fun v4 hv4 => ?_)
    obtain rfl := vint_eq hv4
    refine lw_op rfl rfl rfl (ow_neqI rfl rfl rfl fun bb2 hbb2 => ?_)
    refine lw_nil ?_
    refine ew_then ?_
    replace h := cond_some h
    rcases h with ⟨hc2, h⟩ | ⟨hc2, h⟩
    · obtain rfl := hbb2.trans hc2
      refine cw_true rfl ?_
      refine cw_seq ?_
      refine cw_region ?_
      refine lw_op rfl rfl rfl (ow_assign rfl rfl ?_)
      refine lw_nil ?_
      refine ew_then ?_
      refine cw_ret ?_
      refine ew_thenR ?_
      obtain rfl := Option.some.inj h
      exact ew_ret (res1 rfl (.tmp rfl)) ⟨_, rfl, ((vbool _)), hC2.bx⟩
    · obtain rfl := hbb2.trans hc2
      refine cw_false rfl ?_
      refine cw_skip ?_
      refine ew_then ?_
      refine cw_seq ?_
      refine cw_seq ?_
      refine cw_region ?_
      refine lw_op rfl rfl rfl (ow_fieldAddr rfl rfl Tryd.underlying186 rfl (Tryd.sizeOf3 _) ?_)
      refine lw_op rfl rfl rfl (ow_load (R := RInt) rfl rfl (ARep.mono hl2 (hp1.fld fld_Test_Hi)) (Tryd.sizeOf3 _) (Tryd.isAgg3 _) fun v5 hv5 => ?_)
      obtain rfl := vint_eq hv5
      refine lw_op rfl rfl rfl (ow_fieldAddr rfl rfl Tryd.underlying186 rfl (Tryd.sizeOf3 _) ?_)
      refine lw_op rfl rfl rfl (ow_load (R := RInt) rfl rfl (hp2.fld fld_Test_Hi) (Tryd.sizeOf3 _) (Tryd.isAgg3 _) fun v6 hv6 => ?_)
      obtain rfl := vint_eq hv6
      refine lw_op rfl rfl rfl (ow_neqI rfl rfl rfl fun bb3 hbb3 => ?_)
      refine lw_nil ?_
      refine ew_then ?_
      replace h := cond_some h
      rcases h with ⟨hc3, h⟩ | ⟨hc3, h⟩
      · obtain rfl := hbb3.trans hc3
        refine cw_true rfl ?_
        refine cw_seq ?_
        refine cw_region ?_
        refine lw_op rfl rfl rfl (ow_assign rfl rfl ?_)
        refine lw_nil ?_
        refine ew_then ?_
        refine cw_ret ?_
        refine ew_thenR ?_
        obtain rfl := Option.some.inj h
        exact ew_ret (res1 rfl (.tmp rfl)) ⟨_, rfl, ((vbool _)), hC2.bx⟩
      · obtain rfl := hbb3.trans hc3
        refine cw_false rfl ?_
        refine cw_skip ?_
        refine ew_then ?_
        refine cw_seq ?_
        refine cw_seq ?_
        refine cw_region ?_
        refine lw_op rfl rfl rfl (ow_fieldAddr rfl rfl Tryd.underlying186 rfl (Tryd.sizeOf4 _) ?_)
        refine lw_op rfl rfl rfl (ow_load (R := RBool) rfl rfl (ARep.mono hl2 (hp1.fld fld_Test_Not)) (Tryd.sizeOf4 _) (Tryd.isAgg4 _) fun v7 hv7 => ?_)
        obtain ⟨bb4, hbb4, rfl⟩ := vbool_ex hv7
        refine lw_op rfl rfl rfl (ow_fieldAddr rfl rfl Tryd.underlying186 rfl (Tryd.sizeOf4 _) ?_)
        refine lw_op rfl rfl rfl (ow_load (R := RBool) rfl rfl (hp2.fld fld_Test_Not) (Tryd.sizeOf4 _) (Tryd.isAgg4 _) fun v8 hv8 => ?_)
        obtain ⟨bb5, hbb5, rfl⟩ := vbool_ex hv8
        refine lw_op rfl rfl rfl (ow_neqB rfl rfl rfl Tryd.underlying4 fun bb6 hbb6 => ?_)
        have hbb6' : bb6 = (a_a.Not != a_b.Not) := hbb6.trans (by rw [hbb4, hbb5])
        refine lw_nil ?_
        refine ew_then ?_
        replace h := cond_some h
        rcases h with ⟨hc4, h⟩ | ⟨hc4, h⟩
        · obtain rfl := hbb6'.trans hc4
          refine cw_true rfl ?_
          refine cw_seq ?_
          refine cw_region ?_
          refine lw_op rfl rfl rfl (ow_assign rfl rfl ?_)
          refine lw_nil ?_
          refine ew_then ?_
          refine cw_ret ?_
          refine ew_thenR ?_
          obtain rfl := Option.some.inj h
          exact ew_ret (res1 rfl (.tmp rfl)) ⟨_, rfl, ((vbool _)), hC2.bx⟩
        · obtain rfl := hbb6'.trans hc4
          refine cw_false rfl ?_
          refine cw_skip ?_
          refine ew_then ?_
          refine cw_seq ?_
          refine cw_region ?_
          refine lw_op rfl rfl rfl (ow_assign rfl rfl ?_)
          refine lw_nil ?_
          refine ew_then ?_
          refine cw_ret ?_
          obtain rfl := Option.some.inj h
          exact ew_ret (res1 rfl (.tmp rfl)) ⟨_, rfl, ((vbool _)), hC2.bx⟩

theorem w_laws_eqTestS {w : World} {M : Nat → Prop} (hG : ARep (RArr 4 RShape) w M shapes ⟨0, 0, none⟩) (hO : ∀ b, M b → b < w.heap.size) {v0p : Value} {a_a : List Test} (h0 : VRep (RSlice RTest) w M a_a v0p) {v1p : Value} {a_b : List Test} (h1 : VRep (RSlice RTest) w M a_b v1p) {r : Bool} (h : F.laws_eqTestS a_a a_b = some r) :
    Calls Tryd.prog 159 [v0p, v1p].toArray w fun e w' => ∃ v, e = .returned v ∧ VRep RBool w' M r v ∧ BX No w w' := by
  have hC : Cx No w M w M := Cx.start hO (fun _ e => e.elim)
  refine walk (N := 27) Tryd.func159 rfl Tryd.ntmps159 rfl ?_
  refine cw_seq ?_
  refine cw_region ?_
  refine lw_op rfl rfl rfl (ow_assign rfl rfl ?_)
  refine lw_nil ?_
  refine ew_then ?_
  refine cw_seq ?_
  refine cw_seq ?_
  refine cw_region ?_
  refine lw_op rfl rfl rfl (ow_move rfl rfl ?_)
  refine lw_op rfl rfl rfl (ow_len rfl rfl h0 Tryd.underlying74 rfl ?_)
  refine lw_op rfl rfl rfl (ow_move rfl rfl ?_)
  refine lw_op rfl rfl rfl (ow_len rfl rfl h1 Tryd.underlying74 rfl ?_)
  refine lw_op rfl rfl rfl (ow_neqI rfl rfl rfl fun bb1 hbb1 => ?_)
  refine lw_nil ?_
  refine ew_then ?_
  replace h := cond_some h
  rcases h with ⟨hc1, h⟩ | ⟨hc1, h⟩
  · obtain rfl := hbb1.trans hc1
    refine cw_true rfl ?_
    refine cw_seq ?_
    refine cw_region ?_
    refine lw_op rfl rfl rfl (ow_assign rfl rfl ?_)
    refine lw_nil ?_
    refine ew_then ?_
    refine cw_ret ?_
    refine ew_thenR ?_
    obtain rfl := Option.some.inj h
    exact ew_ret (res1 rfl (.tmp rfl)) ⟨_, rfl, ((vbool _)), hC.bx⟩
  · obtain rfl := hbb1.trans hc1
    refine cw_false rfl ?_
    refine cw_skip ?_
    refine ew_then ?_
    refine cw_seq ?_
    refine cw_seq ?_
    refine cw_region ?_
    refine lw_op rfl rfl rfl (ow_assign rfl rfl ?_)
    refine lw_nil ?_
    refine ew_then ?_
    replace h := bind_some h
    obtain ⟨lr1, hlr1, h⟩ := h
    refine cw_for hlr1 (fun s a w' => ∃ (M' : Nat → Prop), Fits 27 [(0, v0p), (1, v1p), (5, (.int .i64 s))] a ∧ Le w M w' M' ∧ Cx No w M w' M') ?_ ?_ ?_
    · intro a ha
      exact ⟨M, ha.sub ⟨rfl, rfl, rfl, trivial⟩, Le.refl _ _, hC⟩
    · rintro k1 a w1 sr1 ⟨M1, hF1, hl1, hC1⟩ hb1 hR1
      refine cw_at (E := [(0, v0p), (1, v1p), (5, (.int .i64 k1))]) hF1 ?_
      refine cw_seq ?_
      refine cw_seq ?_
      refine cw_region ?_
      refine lw_op rfl rfl rfl (ow_move rfl rfl ?_)
      refine lw_op rfl rfl rfl (ow_move rfl rfl ?_)
      refine lw_op rfl rfl rfl (ow_len rfl rfl (VRep.mono hl1 h0) Tryd.underlying74 rfl ?_)
      refine lw_op rfl rfl rfl (ow_lss rfl rfl rfl fun bb2 hbb2 => ?_)
      refine lw_nil ?_
      refine ew_then ?_
      replace hb1 := cond_some hb1
      rcases hb1 with ⟨hc2, hb1⟩ | ⟨hc2, hb1⟩
      · obtain rfl := hbb2.trans hc2
        refine cw_true rfl ?_
        refine cw_skip ?_
        refine ew_then ?_
        refine cw_seq ?_
        refine cw_block ?_
        refine cw_seq ?_
        replace hb1 := bind_some hb1
        obtain ⟨x1, hx1, hb1⟩ := hb1
        replace hb1 := bind_some hb1
        obtain ⟨x2, hx2, hb1⟩ := hb1
        refine cw_sub (E' := [(0, v0p), (1, v1p), (5, (.int .i64 k1))]) ⟨rfl, rfl, rfl, trivial⟩ ?_
        refine cw_drawQ 8 [PV (RSlice RTest) M1 a_a, PEq (.int .i64 k1), PA RTest M1 x1, PV RTest M1 x1, PV (RSlice RTest) M1 a_b, PEq (.int .i64 k1), PA RTest M1 x2, PV RTest M1 x2] (by kernel_rfl) rfl (by kernel_rfl) ⟨PV.mono _ _ _, PEq.mono _, PA.mono _ _ _, PV.mono _ _ _, PV.mono _ _ _, PEq.mono _, PA.mono _ _ _, PV.mono _ _ _, trivial⟩ ⟨?_, ?_, ?_, ?_, ?_, ?_, ?_, ?_, trivial⟩ ?_
        · intro w2 D hS1 hd1
          have hl2 := Le.no M1 hS1
          have hC2 := hC1.no hS1
          refine dg_sub (E' := [(0, v0p)]) ⟨rfl, trivial⟩ ?_
          refine dg_plain rfl (ow_move rfl rfl ?_)
          exact ⟨BX.refl _ _, (VRep.mono (hl1.trans hl2) h0)⟩
        · intro w3 D hS2 hd2
          have hl3 := Le.no M1 hS2
          have hC3 := hC1.no hS2
          refine dg_sub (E' := [(5, (.int .i64 k1))]) ⟨rfl, trivial⟩ ?_
          refine dg_plain rfl (ow_move rfl rfl ?_)
          exact ⟨BX.refl _ _, rfl⟩
        · intro w4 D hS3 hd3
          have hl4 := Le.no M1 hS3
          have hC4 := hC1.no hS3
          have hd3 : PV (RSlice RTest) M1 a_a (D 0) w4 ∧ PEq (.int .i64 k1) (D 1) w4 ∧ True := hd3
          obtain ⟨d1, d2, -⟩ := hd3
          obtain ⟨v4, hq1⟩ : ∃ v, (D 0) = v := ⟨_, rfl⟩
          rw [hq1] at d1
          refine dg_sub (E' := [(17, v4), (18, (.int .i64 k1))]) ⟨(congrArg some hq1), (congrArg some d2), trivial⟩ ?_
          refine dg_plain rfl (ow_indexSlice (R := RTest) rfl rfl rfl d1 Tryd.underlying74 (Tryd.sizeOf186 _) hx1 fun p3 hp3 => ?_)
          exact ⟨BX.refl _ _, ⟨_, rfl, hp3⟩⟩
        · intro w5 D hS4 hd4
          have hl5 := Le.no M1 hS4
          have hC5 := hC1.no hS4
          have hd4 : PA RTest M1 x1 (D 2) w5 ∧ True := hd4
          obtain ⟨d3, -⟩ := hd4
          obtain ⟨p4, e1, ha1⟩ := d3
          refine dg_sub (E' := [(19, (.pointer (some p4)))]) ⟨(congrArg some e1), trivial⟩ ?_
          refine dg_plain rfl (ow_load (R := RTest) rfl rfl ha1 (Tryd.sizeOf186 _) (Tryd.isAgg186 _) fun v5 hv5 => ?_)
          exact ⟨BX.refl _ _, hv5⟩
        · intro w6 D hS5 hd5
          have hl6 := Le.no M1 hS5
          have hC6 := hC1.no hS5
          refine dg_sub (E' := [(1, v1p)]) ⟨rfl, trivial⟩ ?_
          refine dg_plain rfl (ow_move rfl rfl ?_)
          exact ⟨BX.refl _ _, (VRep.mono (hl1.trans hl6) h1)⟩
        · intro w7 D hS6 hd6
          have hl7 := Le.no M1 hS6
          have hC7 := hC1.no hS6
          refine dg_sub (E' := [(5, (.int .i64 k1))]) ⟨rfl, trivial⟩ ?_
          refine dg_plain rfl (ow_move rfl rfl ?_)
          exact ⟨BX.refl _ _, rfl⟩
        · intro w8 D hS7 hd7
          have hl8 := Le.no M1 hS7
          have hC8 := hC1.no hS7
          have hd7 : PV (RSlice RTest) M1 a_b (D 4) w8 ∧ PEq (.int .i64 k1) (D 5) w8 ∧ True := hd7
          obtain ⟨d4, d5, -⟩ := hd7
          obtain ⟨v6, hq2⟩ : ∃ v, (D 4) = v := ⟨_, rfl⟩
          rw [hq2] at d4
          refine dg_sub (E' := [(21, v6), (22, (.int .i64 k1))]) ⟨(congrArg some hq2), (congrArg some d5), trivial⟩ ?_
          refine dg_plain rfl (ow_indexSlice (R := RTest) rfl rfl rfl d4 Tryd.underlying74 (Tryd.sizeOf186 _) hx2 fun p5 hp5 => ?_)
          exact ⟨BX.refl _ _, ⟨_, rfl, hp5⟩⟩
        · intro w9 D hS8 hd8
          have hl9 := Le.no M1 hS8
          have hC9 := hC1.no hS8
          have hd8 : PA RTest M1 x2 (D 6) w9 ∧ True := hd8
          obtain ⟨d6, -⟩ := hd8
          obtain ⟨p6, e2, ha2⟩ := d6
          refine dg_sub (E' := [(23, (.pointer (some p6)))]) ⟨(congrArg some e2), trivial⟩ ?_
          refine dg_plain rfl (ow_load (R := RTest) rfl rfl ha2 (Tryd.sizeOf186 _) (Tryd.isAgg186 _) fun v7 hv7 => ?_)
          exact ⟨BX.refl _ _, hv7⟩
        · intro w10 D hS9 hd9
          have hl10 := Le.no M1 hS9
          have hC10 := hC1.no hS9
          have hd9 : PV (RSlice RTest) M1 a_a (D 0) w10 ∧ PEq (.int .i64 k1) (D 1) w10 ∧ PA RTest M1 x1 (D 2) w10 ∧ PV RTest M1 x1 (D 3) w10 ∧ PV (RSlice RTest) M1 a_b (D 4) w10 ∧ PEq (.int .i64 k1) (D 5) w10 ∧ PA RTest M1 x2 (D 6) w10 ∧ PV RTest M1 x2 (D 7) w10 ∧ True := hd9
          obtain ⟨-, -, -, d10, -, -, -, d14, -⟩ := hd9
          obtain ⟨v8, hq3⟩ : ∃ v, (D 3) = v := ⟨_, rfl⟩
          rw [hq3] at d10
          obtain ⟨v9, hq4⟩ : ∃ v, (D 7) = v := ⟨_, rfl⟩
          rw [hq4] at d14
          refine lw_sub (E' := [(20, v8), (24, v9), (0, v0p), (1, v1p), (5, (.int .i64 k1))]) ⟨(congrArg some hq3), (congrArg some hq4), rfl, rfl, rfl, trivial⟩ ?_
          replace hb1 := bind_some hb1
          obtain ⟨x3, hx3, hb1⟩ := hb1
          refine lw_op rfl rfl rfl (ow_call rfl rfl Tryd.call162 (w_laws_eqTest (hG.mono (hl1.trans hl10)) hC10.old d10 d14 hx3) fun v10 w11 hv10 => ?_)
          obtain ⟨hv10, hb2⟩ := hv10
          have hl11 := Le.no M1 hb2
          have hC11 := hC10.no hb2
          obtain rfl := vbool_eq hv10
          refine lw_op rfl rfl rfl (ow_not rfl rfl ?_)
          refine lw_nil ?_
          refine ew_then ?_
          replace hb1 := cond_some hb1
          rcases hb1 with ⟨hc3, hb1⟩ | ⟨hc3, hb1⟩
          · subst hc3
            refine cw_false rfl ?_
            refine cw_skip ?_
            refine ew_blockN ?_
            refine ew_then ?_
            refine cw_region ?_
            refine lw_op rfl rfl rfl (ow_move rfl rfl ?_)
            refine lw_op rfl rfl rfl (ow_add rfl rfl rfl ?_)
            refine lw_op rfl rfl rfl (ow_assign rfl rfl ?_)
            refine lw_nil ?_
            refine ew_nxt (W (k1 + 1)) hb1 fun a ha => ⟨M1, ?_, ((hl1.trans hl10).trans hl11), hC11⟩
            exact ha.sub ⟨rfl, rfl, rfl, trivial⟩
          · subst hc3
            refine cw_true rfl ?_
            refine cw_seq ?_
            refine cw_region ?_
            refine lw_op rfl rfl rfl (ow_assign rfl rfl ?_)
            refine lw_nil ?_
            refine ew_then ?_
            refine cw_ret ?_
            refine ew_blockR ?_
            refine ew_thenR ?_
            refine ew_thenR ?_
            refine ew_blockR ?_
            refine ew_brkR ?_
            refine ew_thenR ?_
            have e3 := hR1 _ (Option.some.inj hb1).symm
            subst e3
            obtain rfl := Option.some.inj h
            exact ew_ret (res1 rfl (.tmp rfl)) ⟨_, rfl, ((vbool _)), hC11.bx⟩
      · obtain rfl := hbb2.trans hc2
        refine cw_false rfl ?_
        refine cw_exit ?_
        refine ew_thenX ?_
        refine ew_thenX ?_
        refine ew_blockX ?_
        refine ew_brk k1 hb1 fun a ha => ⟨M1, ?_, hl1, hC1⟩
        exact ha.sub ⟨rfl, rfl, rfl, trivial⟩
    · rintro k2 a w12 hlr2 ⟨M2, hF2, hl12, hC12⟩
      subst hlr2
      refine ew_at (E := [(0, v0p), (1, v1p), (5, (.int .i64 k2))]) hF2 ?_
      refine ew_then ?_
      refine cw_seq ?_
      refine cw_region ?_
      refine lw_op rfl rfl rfl (ow_assign rfl rfl ?_)
      refine lw_nil ?_
      refine ew_then ?_
      refine cw_ret ?_
      obtain rfl := Option.some.inj h
      exact ew_ret (res1 rfl (.tmp rfl)) ⟨_, rfl, ((vbool _)), hC12.bx⟩

theorem w_laws_eqRule {w : World} {M : Nat → Prop} (hG : ARep (RArr 4 RShape) w M shapes ⟨0, 0, none⟩) (hO : ∀ b, M b → b < w.heap.size) {v0p : Value} {a_a : Rule} (h0 : VRep RRule w M a_a v0p) {v1p : Value} {a_b : Rule} (h1 : VRep RRule w M a_b v1p) {r : Bool} (h : F.laws_eqRule a_a a_b = some r) :
    Calls Tryd.prog 150 [v0p, v1p].toArray w fun e w' => ∃ v, e = .returned v ∧ VRep RBool w' M r v ∧ BX No w w' := by
  have hC : Cx No w M w M := Cx.start hO (fun _ e => e.elim)
  refine walk (N := 21) Tryd.func150 rfl Tryd.ntmps150 rfl ?_
  refine cw_seq ?_
  refine cw_region ?_
  refine lw_op rfl rfl rfl (ow_box (R := RRule) rfl rfl h0 hC fun p1 w1 hp1 hb1 hl1 hC1 => ?_)
  refine lw_op rfl rfl rfl (ow_box (R := RRule) rfl rfl (VRep.mono hl1 h1) hC1 fun p2 w2 hp2 hb2 hl2 hC2 => ?_)
  refine lw_op rfl rfl rfl (ow_assign rfl rfl ?_)
  refine lw_nil ?_
  refine ew_then ?_
  refine cw_seq ?_
  refine cw_seq ?_
  refine cw_region ?_
  refine lw_op rfl rfl rfl (ow_fieldAddr rfl rfl Tryd.underlying76 rfl (Tryd.sizeOf74 _) ?_)
  refine lw_op rfl rfl rfl (ow_load (R := (RSlice RTest)) rfl rfl (ARep.mono hl2 (hp1.fld fld_Rule_Tests)) (Tryd.sizeOf74 _) (Tryd.isAgg74 _) fun v1 hv1 => ?_)
  refine lw_op rfl rfl rfl (ow_fieldAddr rfl rfl Tryd.underlying76 rfl (Tryd.sizeOf74 _) ?_)
  refine lw_op rfl rfl rfl (ow_load (R := (RSlice RTest)) rfl rfl (hp2.fld fld_Rule_Tests) (Tryd.sizeOf74 _) (Tryd.isAgg74 _) fun v2 hv2 => ?_)
  replace h := bind_some h
  obtain ⟨x1, hx1, h⟩ := h
  refine lw_op rfl rfl rfl (ow_call rfl rfl Tryd.call159 (w_laws_eqTestS (hG.mono (hl1.trans hl2)) hC2.old hv1 hv2 hx1) fun v3 w3 hv3 => ?_)
  obtain ⟨hv3, hb3⟩ := hv3
  have hl3 := Le.no M hb3
  have hC3 := hC2.no hb3
  obtain rfl := vbool_eq hv3
  refine lw_op rfl rfl rfl (ow_not rfl rfl ?_)
  refine lw_nil ?_
  refine ew_then ?_
  replace h := cond_some h
  rcases h with ⟨hc1, h⟩ | ⟨hc1, h⟩
  · subst hc1
    refine cw_false rfl ?_
    refine cw_skip ?_
    refine ew_then ?_
    refine cw_seq ?_
    refine cw_seq ?_
    refine cw_region ?_
    refine lw_op rfl rfl rfl (ow_fieldAddr rfl rfl Tryd.underlying76 rfl (Tryd.sizeOf3 _) ?_)
    refine lw_op rfl rfl rfl (ow_load (R := RInt) rfl rfl (ARep.mono (hl2.trans hl3) (hp1.fld fld_Rule_Action)) (Tryd.sizeOf3 _) (Tryd.isAgg3 _) fun v4 hv4 => ?_)
    obtain rfl := vint_eq hv4
    refine lw_op rfl rfl rfl (ow_fieldAddr rfl rfl Tryd.underlying76 rfl (Tryd.sizeOf3 _) ?_)
    refine lw_op rfl rfl rfl (ow_load (R := RInt) rfl rfl (ARep.mono hl3 (hp2.fld fld_Rule_Action)) (Tryd.sizeOf3 _) (Tryd.isAgg3 _) fun v5 hv5 => ?_)
    obtain rfl := vint_eq hv5
    refine lw_op rfl rfl rfl (ow_neqI rfl rfl rfl fun bb1 hbb1 => ?_)
    refine lw_nil ?_
    refine ew_then ?_
    replace h := cond_some h
    rcases h with ⟨hc2, h⟩ | ⟨hc2, h⟩
    · obtain rfl := hbb1.trans hc2
      refine cw_true rfl ?_
      refine cw_seq ?_
      refine cw_region ?_
      refine lw_op rfl rfl rfl (ow_assign rfl rfl ?_)
      refine lw_nil ?_
      refine ew_then ?_
      refine cw_ret ?_
      refine ew_thenR ?_
      obtain rfl := Option.some.inj h
      exact ew_ret (res1 rfl (.tmp rfl)) ⟨_, rfl, ((vbool _)), hC3.bx⟩
    · obtain rfl := hbb1.trans hc2
      refine cw_false rfl ?_
      refine cw_skip ?_
      refine ew_then ?_
      refine cw_seq ?_
      refine cw_seq ?_
      refine cw_region ?_
      refine lw_op rfl rfl rfl (ow_fieldAddr rfl rfl Tryd.underlying76 rfl (Tryd.sizeOf3 _) ?_)
      refine lw_op rfl rfl rfl (ow_load (R := RInt) rfl rfl (ARep.mono (hl2.trans hl3) (hp1.fld fld_Rule_Chain)) (Tryd.sizeOf3 _) (Tryd.isAgg3 _) fun v6 hv6 => ?_)
      obtain rfl := vint_eq hv6
      refine lw_op rfl rfl rfl (ow_fieldAddr rfl rfl Tryd.underlying76 rfl (Tryd.sizeOf3 _) ?_)
      refine lw_op rfl rfl rfl (ow_load (R := RInt) rfl rfl (ARep.mono hl3 (hp2.fld fld_Rule_Chain)) (Tryd.sizeOf3 _) (Tryd.isAgg3 _) fun v7 hv7 => ?_)
      obtain rfl := vint_eq hv7
      refine lw_op rfl rfl rfl (ow_neqI rfl rfl rfl fun bb2 hbb2 => ?_)
      refine lw_nil ?_
      refine ew_then ?_
      replace h := cond_some h
      rcases h with ⟨hc3, h⟩ | ⟨hc3, h⟩
      · obtain rfl := hbb2.trans hc3
        refine cw_true rfl ?_
        refine cw_seq ?_
        refine cw_region ?_
        refine lw_op rfl rfl rfl (ow_assign rfl rfl ?_)
        refine lw_nil ?_
        refine ew_then ?_
        refine cw_ret ?_
        refine ew_thenR ?_
        obtain rfl := Option.some.inj h
        exact ew_ret (res1 rfl (.tmp rfl)) ⟨_, rfl, ((vbool _)), hC3.bx⟩
      · obtain rfl := hbb2.trans hc3
        refine cw_false rfl ?_
        refine cw_skip ?_
        refine ew_then ?_
        refine cw_seq ?_
        refine cw_region ?_
        refine lw_op rfl rfl rfl (ow_assign rfl rfl ?_)
        refine lw_nil ?_
        refine ew_then ?_
        refine cw_ret ?_
        obtain rfl := Option.some.inj h
        exact ew_ret (res1 rfl (.tmp rfl)) ⟨_, rfl, ((vbool _)), hC3.bx⟩
  · subst hc1
    refine cw_true rfl ?_
    refine cw_seq ?_
    refine cw_region ?_
    refine lw_op rfl rfl rfl (ow_assign rfl rfl ?_)
    refine lw_nil ?_
    refine ew_then ?_
    refine cw_ret ?_
    refine ew_thenR ?_
    obtain rfl := Option.some.inj h
    exact ew_ret (res1 rfl (.tmp rfl)) ⟨_, rfl, ((vbool _)), hC3.bx⟩

theorem w_laws_eqRuleS {w : World} {M : Nat → Prop} (hG : ARep (RArr 4 RShape) w M shapes ⟨0, 0, none⟩) (hO : ∀ b, M b → b < w.heap.size) {v0p : Value} {a_a : List Rule} (h0 : VRep (RSlice RRule) w M a_a v0p) {v1p : Value} {a_b : List Rule} (h1 : VRep (RSlice RRule) w M a_b v1p) {r : Bool} (h : F.laws_eqRuleS a_a a_b = some r) :
    Calls Tryd.prog 132 [v0p, v1p].toArray w fun e w' => ∃ v, e = .returned v ∧ VRep RBool w' M r v ∧ BX No w w' := by
  have hC : Cx No w M w M := Cx.start hO (fun _ e => e.elim)
  refine walk (N := 27) Tryd.func132 rfl Tryd.ntmps132 rfl ?_
  refine cw_seq ?_
  refine cw_region ?_
  refine lw_op rfl rfl rfl (ow_assign rfl rfl ?_)
  refine lw_nil ?_
  refine ew_then ?_
  refine cw_seq ?_
  refine cw_seq ?_
  refine cw_region ?_
  refine lw_op rfl rfl rfl (ow_move rfl rfl ?_)
  refine lw_op rfl rfl rfl (ow_len rfl rfl h0 Tryd.underlying86 rfl ?_)
  refine lw_op rfl rfl rfl (ow_move rfl rfl ?_)
  refine lw_op rfl rfl rfl (ow_len rfl rfl h1 Tryd.underlying86 rfl ?_)
  refine lw_op rfl rfl rfl (ow_neqI rfl rfl rfl fun bb1 hbb1 => ?_)
  refine lw_nil ?_
  refine ew_then ?_
  replace h := cond_some h
  rcases h with ⟨hc1, h⟩ | ⟨hc1, h⟩
  · obtain rfl := hbb1.trans hc1
    refine cw_true rfl ?_
    refine cw_seq ?_
    refine cw_region ?_
    refine lw_op rfl rfl rfl (ow_assign rfl rfl ?_)
    refine lw_nil ?_
    refine ew_then ?_
    refine cw_ret ?_
    refine ew_thenR ?_
    obtain rfl := Option.some.inj h
    exact ew_ret (res1 rfl (.tmp rfl)) ⟨_, rfl, ((vbool _)), hC.bx⟩
  · obtain rfl := hbb1.trans hc1
    refine cw_false rfl ?_
    refine cw_skip ?_
    refine ew_then ?_
    refine cw_seq ?_
    refine cw_seq ?_
    refine cw_region ?_
    refine lw_op rfl rfl rfl (ow_assign rfl rfl ?_)
    refine lw_nil ?_
    refine ew_then ?_
    replace h := bind_some h
    obtain ⟨lr1, hlr1, h⟩ := h
    refine cw_for hlr1 (fun s a w' => ∃ (M' : Nat → Prop), Fits 27 [(0, v0p), (1, v1p), (5, (.int .i64 s))] a ∧ Le w M w' M' ∧ Cx No w M w' M') ?_ ?_ ?_
    · intro a ha
      exact ⟨M, ha.sub ⟨rfl, rfl, rfl, trivial⟩, Le.refl _ _, hC⟩
    · rintro k1 a w1 sr1 ⟨M1, hF1, hl1, hC1⟩ hb1 hR1
      refine cw_at (E := [(0, v0p), (1, v1p), (5, (.int .i64 k1))]) hF1 ?_
      refine cw_seq ?_
      refine cw_seq ?_
      refine cw_region ?_
      refine lw_op rfl rfl rfl (ow_move rfl rfl ?_)
      refine lw_op rfl rfl rfl (ow_move rfl rfl ?_)
      refine lw_op rfl rfl rfl (ow_len rfl rfl (VRep.mono hl1 h0) Tryd.underlying86 rfl ?_)
      refine lw_op rfl rfl rfl (ow_lss rfl rfl rfl fun bb2 hbb2 => ?_)
      refine lw_nil ?_
      refine ew_then ?_
      replace hb1 := cond_some hb1
      rcases hb1 with ⟨hc2, hb1⟩ | ⟨hc2, hb1⟩
      · obtain rfl := hbb2.trans hc2
        refine cw_true rfl ?_
        refine cw_skip ?_
        refine ew_then ?_
        refine cw_seq ?_
        refine cw_block ?_
        refine cw_seq ?_
        replace hb1 := bind_some hb1
        obtain ⟨x1, hx1, hb1⟩ := hb1
        replace hb1 := bind_some hb1
        obtain ⟨x2, hx2, hb1⟩ := hb1
        refine cw_sub (E' := [(0, v0p), (1, v1p), (5, (.int .i64 k1))]) ⟨rfl, rfl, rfl, trivial⟩ ?_
        refine cw_drawQ 8 [PV (RSlice RRule) M1 a_a, PEq (.int .i64 k1), PA RRule M1 x1, PV RRule M1 x1, PV (RSlice RRule) M1 a_b, PEq (.int .i64 k1), PA RRule M1 x2, PV RRule M1 x2] (by kernel_rfl) rfl (by kernel_rfl) ⟨PV.mono _ _ _, PEq.mono _, PA.mono _ _ _, PV.mono _ _ _, PV.mono _ _ _, PEq.mono _, PA.mono _ _ _, PV.mono _ _ _, trivial⟩ ⟨?_, ?_, ?_, ?_, ?_, ?_, ?_, ?_, trivial⟩ ?_
        · intro w2 D hS1 hd1
          have hl2 := Le.no M1 hS1
          have hC2 := hC1.no hS1
          refine dg_sub (E' := [(0, v0p)]) ⟨rfl, trivial⟩ ?_
          refine dg_plain rfl (ow_move rfl rfl ?_)
          exact ⟨BX.refl _ _, (VRep.mono (hl1.trans hl2) h0)⟩
        · intro w3 D hS2 hd2
          have hl3 := Le.no M1 hS2
          have hC3 := hC1.no hS2
          refine dg_sub (E' := [(5, (.int .i64 k1))]) ⟨rfl, trivial⟩ ?_
          refine dg_plain rfl (ow_move rfl rfl ?_)
          exact ⟨BX.refl _ _, rfl⟩
        · intro w4 D hS3 hd3
          have hl4 := Le.no M1 hS3
          have hC4 := hC1.no hS3
          have hd3 : PV (RSlice RRule) M1 a_a (D 0) w4 ∧ PEq (.int .i64 k1) (D 1) w4 ∧ True := hd3
          obtain ⟨d1, d2, -⟩ := hd3
          obtain ⟨v4, hq1⟩ : ∃ v, (D 0) = v := ⟨_, rfl⟩
          rw [hq1] at d1
          refine dg_sub (E' := [(17, v4), (18, (.int .i64 k1))]) ⟨(congrArg some hq1), (congrArg some d2), trivial⟩ ?_
          refine dg_plain rfl (ow_indexSlice (R := RRule) rfl rfl rfl d1 Tryd.underlying86 (Tryd.sizeOf76 _) hx1 fun p3 hp3 => ?_)
          exact ⟨BX.refl _ _, ⟨_, rfl, hp3⟩⟩
        · intro w5 D hS4 hd4
          have hl5 := Le.no M1 hS4
          have hC5 := hC1.no hS4
          have hd4 : PA RRule M1 x1 (D 2) w5 ∧ True := hd4
          obtain ⟨d3, -⟩ := hd4
          obtain ⟨p4, e1, ha1⟩ := d3
          refine dg_sub (E' := [(19, (.pointer (some p4)))]) ⟨(congrArg some e1), trivial⟩ ?_
          refine dg_plain rfl (ow_load (R := RRule) rfl rfl ha1 (Tryd.sizeOf76 _) (Tryd.isAgg76 _) fun v5 hv5 => ?_)
          exact ⟨BX.refl _ _, hv5⟩
        · intro w6 D hS5 hd5
          have hl6 := Le.no M1 hS5
          have hC6 := hC1.no hS5
          refine dg_sub (E' := [(1, v1p)]) ⟨rfl, trivial⟩ ?_
          refine dg_plain rfl (ow_move rfl rfl ?_)
          exact ⟨BX.refl _ _, (VRep.mono (hl1.trans hl6) h1)⟩
        · intro w7 D hS6 hd6
          have hl7 := Le.no M1 hS6
          have hC7 := hC1.no hS6
          refine dg_sub (E' := [(5, (.int .i64 k1))]) ⟨rfl, trivial⟩ ?_
          refine dg_plain rfl (ow_move rfl rfl ?_)
          exact ⟨BX.refl _ _, rfl⟩
        · intro w8 D hS7 hd7
          have hl8 := Le.no M1 hS7
          have hC8 := hC1.no hS7
          have hd7 : PV (RSlice RRule) M1 a_b (D 4) w8 ∧ PEq (.int .i64 k1) (D 5) w8 ∧ True := hd7
          obtain ⟨d4, d5, -⟩ := hd7
          obtain ⟨v6, hq2⟩ : ∃ v, (D 4) = v := ⟨_, rfl⟩
          rw [hq2] at d4
          refine dg_sub (E' := [(21, v6), (22, (.int .i64 k1))]) ⟨(congrArg some hq2), (congrArg some d5), trivial⟩ ?_
          refine dg_plain rfl (ow_indexSlice (R := RRule) rfl rfl rfl d4 Tryd.underlying86 (Tryd.sizeOf76 _) hx2 fun p5 hp5 => ?_)
          exact ⟨BX.refl _ _, ⟨_, rfl, hp5⟩⟩
        · intro w9 D hS8 hd8
          have hl9 := Le.no M1 hS8
          have hC9 := hC1.no hS8
          have hd8 : PA RRule M1 x2 (D 6) w9 ∧ True := hd8
          obtain ⟨d6, -⟩ := hd8
          obtain ⟨p6, e2, ha2⟩ := d6
          refine dg_sub (E' := [(23, (.pointer (some p6)))]) ⟨(congrArg some e2), trivial⟩ ?_
          refine dg_plain rfl (ow_load (R := RRule) rfl rfl ha2 (Tryd.sizeOf76 _) (Tryd.isAgg76 _) fun v7 hv7 => ?_)
          exact ⟨BX.refl _ _, hv7⟩
        · intro w10 D hS9 hd9
          have hl10 := Le.no M1 hS9
          have hC10 := hC1.no hS9
          have hd9 : PV (RSlice RRule) M1 a_a (D 0) w10 ∧ PEq (.int .i64 k1) (D 1) w10 ∧ PA RRule M1 x1 (D 2) w10 ∧ PV RRule M1 x1 (D 3) w10 ∧ PV (RSlice RRule) M1 a_b (D 4) w10 ∧ PEq (.int .i64 k1) (D 5) w10 ∧ PA RRule M1 x2 (D 6) w10 ∧ PV RRule M1 x2 (D 7) w10 ∧ True := hd9
          obtain ⟨-, -, -, d10, -, -, -, d14, -⟩ := hd9
          obtain ⟨v8, hq3⟩ : ∃ v, (D 3) = v := ⟨_, rfl⟩
          rw [hq3] at d10
          obtain ⟨v9, hq4⟩ : ∃ v, (D 7) = v := ⟨_, rfl⟩
          rw [hq4] at d14
          refine lw_sub (E' := [(20, v8), (24, v9), (0, v0p), (1, v1p), (5, (.int .i64 k1))]) ⟨(congrArg some hq3), (congrArg some hq4), rfl, rfl, rfl, trivial⟩ ?_
          replace hb1 := bind_some hb1
          obtain ⟨x3, hx3, hb1⟩ := hb1
          refine lw_op rfl rfl rfl (ow_call rfl rfl Tryd.call150 (w_laws_eqRule (hG.mono (hl1.trans hl10)) hC10.old d10 d14 hx3) fun v10 w11 hv10 => ?_)
          obtain ⟨hv10, hb2⟩ := hv10
          have hl11 := Le.no M1 hb2
          have hC11 := hC10.no hb2
          obtain rfl := vbool_eq hv10
          refine lw_op rfl rfl rfl (ow_not rfl rfl ?_)
          refine lw_nil ?_
          refine ew_then ?_
          replace hb1 := cond_some hb1
          rcases hb1 with ⟨hc3, hb1⟩ | ⟨hc3, hb1⟩
          · subst hc3
            refine cw_false rfl ?_
            refine cw_skip ?_
            refine ew_blockN ?_
            refine ew_then ?_
            refine cw_region ?_
            refine lw_op rfl rfl rfl (ow_move rfl rfl ?_)
            refine lw_op rfl rfl rfl (ow_add rfl rfl rfl ?_)
            refine lw_op rfl rfl rfl (ow_assign rfl rfl ?_)
            refine lw_nil ?_
            refine ew_nxt (W (k1 + 1)) hb1 fun a ha => ⟨M1, ?_, ((hl1.trans hl10).trans hl11), hC11⟩
            exact ha.sub ⟨rfl, rfl, rfl, trivial⟩
          · subst hc3
            refine cw_true rfl ?_
            refine cw_seq ?_
            refine cw_region ?_
            refine lw_op rfl rfl rfl (ow_assign rfl rfl ?_)
            refine lw_nil ?_
            refine ew_then ?_
            refine cw_ret ?_
            refine ew_blockR ?_
            refine ew_thenR ?_
            refine ew_thenR ?_
            refine ew_blockR ?_
            refine ew_brkR ?_
            refine ew_thenR ?_
            have e3 := hR1 _ (Option.some.inj hb1).symm
            subst e3
            obtain rfl := Option.some.inj h
            exact ew_ret (res1 rfl (.tmp rfl)) ⟨_, rfl, ((vbool _)), hC11.bx⟩
      · obtain rfl := hbb2.trans hc2
        refine cw_false rfl ?_
        refine cw_exit ?_
        refine ew_thenX ?_
        refine ew_thenX ?_
        refine ew_blockX ?_
        refine ew_brk k1 hb1 fun a ha => ⟨M1, ?_, hl1, hC1⟩
        exact ha.sub ⟨rfl, rfl, rfl, trivial⟩
    · rintro k2 a w12 hlr2 ⟨M2, hF2, hl12, hC12⟩
      subst hlr2
      refine ew_at (E := [(0, v0p), (1, v1p), (5, (.int .i64 k2))]) hF2 ?_
      refine ew_then ?_
      refine cw_seq ?_
      refine cw_region ?_
      refine lw_op rfl rfl rfl (ow_assign rfl rfl ?_)
      refine lw_nil ?_
      refine ew_then ?_
      refine cw_ret ?_
      obtain rfl := Option.some.inj h
      exact ew_ret (res1 rfl (.tmp rfl)) ⟨_, rfl, ((vbool _)), hC12.bx⟩

theorem w_laws_eqRuleSS {w : World} {M : Nat → Prop} (hG : ARep (RArr 4 RShape) w M shapes ⟨0, 0, none⟩) (hO : ∀ b, M b → b < w.heap.size) {v0p : Value} {a_a : List (List Rule)} (h0 : VRep (RSlice (RSlice RRule)) w M a_a v0p) {v1p : Value} {a_b : List (List Rule)} (h1 : VRep (RSlice (RSlice RRule)) w M a_b v1p) {r : Bool} (h : F.laws_eqRuleSS a_a a_b = some r) :
    Calls Tryd.prog 89 [v0p, v1p].toArray w fun e w' => ∃ v, e = .returned v ∧ VRep RBool w' M r v ∧ BX No w w' := by
  have hC : Cx No w M w M := Cx.start hO (fun _ e => e.elim)
  refine walk (N := 27) Tryd.func89 rfl Tryd.ntmps89 rfl ?_
  refine cw_seq ?_
  refine cw_region ?_
  refine lw_op rfl rfl rfl (ow_assign rfl rfl ?_)
  refine lw_nil ?_
  refine ew_then ?_
  refine cw_seq ?_
  refine cw_seq ?_
  refine cw_region ?_
  refine lw_op rfl rfl rfl (ow_move rfl rfl ?_)
  refine lw_op rfl rfl rfl (ow_len rfl rfl h0 Tryd.underlying55 rfl ?_)
  refine lw_op rfl rfl rfl (ow_move rfl rfl ?_)
  refine lw_op rfl rfl rfl (ow_len rfl rfl h1 Tryd.underlying55 rfl ?_)
  refine lw_op rfl rfl rfl (ow_neqI rfl rfl rfl fun bb1 hbb1 => ?_)
  refine lw_nil ?_
  refine ew_then ?_
  replace h := cond_some h
  rcases h with ⟨hc1, h⟩ | ⟨hc1, h⟩
  · obtain rfl := hbb1.trans hc1
    refine cw_true rfl ?_
    refine cw_seq ?_
    refine cw_region ?_
    refine lw_op rfl rfl rfl (ow_assign rfl rfl ?_)
    refine lw_nil ?_
    refine ew_then ?_
    refine cw_ret ?_
    refine ew_thenR ?_
    obtain rfl := Option.some.inj h
    exact ew_ret (res1 rfl (.tmp rfl)) ⟨_, rfl, ((vbool _)), hC.bx⟩
  · obtain rfl := hbb1.trans hc1
    refine cw_false rfl ?_
    refine cw_skip ?_
    refine ew_then ?_
    refine cw_seq ?_
    refine cw_seq ?_
    refine cw_region ?_
    refine lw_op rfl rfl rfl (ow_assign rfl rfl ?_)
    refine lw_nil ?_
    refine ew_then ?_
    replace h := bind_some h
    obtain ⟨lr1, hlr1, h⟩ := h
    refine cw_for hlr1 (fun s a w' => ∃ (M' : Nat → Prop), Fits 27 [(0, v0p), (1, v1p), (5, (.int .i64 s))] a ∧ Le w M w' M' ∧ Cx No w M w' M') ?_ ?_ ?_
    · intro a ha
      exact ⟨M, ha.sub ⟨rfl, rfl, rfl, trivial⟩, Le.refl _ _, hC⟩
    · rintro k1 a w1 sr1 ⟨M1, hF1, hl1, hC1⟩ hb1 hR1
      refine cw_at (E := [(0, v0p), (1, v1p), (5, (.int .i64 k1))]) hF1 ?_
      refine cw_seq ?_
      refine cw_seq ?_
      refine cw_region ?_
      refine lw_op rfl rfl rfl (ow_move rfl rfl ?_)
      refine lw_op rfl rfl rfl (ow_move rfl rfl ?_)
      refine lw_op rfl rfl rfl (ow_len rfl rfl (VRep.mono hl1 h0) Tryd.underlying55 rfl ?_)
      refine lw_op rfl rfl rfl (ow_lss rfl rfl rfl fun bb2 hbb2 => ?_)
      refine lw_nil ?_
      refine ew_then ?_
      replace hb1 := cond_some hb1
      rcases hb1 with ⟨hc2, hb1⟩ | ⟨hc2, hb1⟩
      · obtain rfl := hbb2.trans hc2
        refine cw_true rfl ?_
        refine cw_skip ?_
        refine ew_then ?_
        refine cw_seq ?_
        refine cw_block ?_
        refine cw_seq ?_
        replace hb1 := bind_some hb1
        obtain ⟨x1, hx1, hb1⟩ := hb1
        replace hb1 := bind_some hb1
        obtain ⟨x2, hx2, hb1⟩ := hb1
        refine cw_sub (E' := [(0, v0p), (1, v1p), (5, (.int .i64 k1))]) ⟨rfl, rfl, rfl, trivial⟩ ?_
        refine cw_drawQ 8 [PV (RSlice (RSlice RRule)) M1 a_a, PEq (.int .i64 k1), PA (RSlice RRule) M1 x1, PV (RSlice RRule) M1 x1, PV (RSlice (RSlice RRule)) M1 a_b, PEq (.int .i64 k1), PA (RSlice RRule) M1 x2, PV (RSlice RRule) M1 x2] (by kernel_rfl) rfl (by kernel_rfl) ⟨PV.mono _ _ _, PEq.mono _, PA.mono _ _ _, PV.mono _ _ _, PV.mono _ _ _, PEq.mono _, PA.mono _ _ _, PV.mono _ _ _, trivial⟩ ⟨?_, ?_, ?_, ?_, ?_, ?_, ?_, ?_, trivial⟩ ?_
        · intro w2 D hS1 hd1
          have hl2 := Le.no M1 hS1
          have hC2 := hC1.no hS1
          refine dg_sub (E' := [(0, v0p)]) ⟨rfl, trivial⟩ ?_
          refine dg_plain rfl (ow_move rfl rfl ?_)
          exact ⟨BX.refl _ _, (VRep.mono (hl1.trans hl2) h0)⟩
        · intro w3 D hS2 hd2
          have hl3 := Le.no M1 hS2
          have hC3 := hC1.no hS2
          refine dg_sub (E' := [(5, (.int .i64 k1))]) ⟨rfl, trivial⟩ ?_
          refine dg_plain rfl (ow_move rfl rfl ?_)
          exact ⟨BX.refl _ _, rfl⟩
        · intro w4 D hS3 hd3
          have hl4 := Le.no M1 hS3
          have hC4 := hC1.no hS3
          have hd3 : PV (RSlice (RSlice RRule)) M1 a_a (D 0) w4 ∧ PEq (.int .i64 k1) (D 1) w4 ∧ True := hd3
          obtain ⟨d1, d2, -⟩ := hd3
          obtain ⟨v4, hq1⟩ : ∃ v, (D 0) = v := ⟨_, rfl⟩
          rw [hq1] at d1
          refine dg_sub (E' := [(17, v4), (18, (.int .i64 k1))]) ⟨(congrArg some hq1), (congrArg some d2), trivial⟩ ?_
          refine dg_plain rfl (ow_indexSlice (R := (RSlice RRule)) rfl rfl rfl d1 Tryd.underlying55 (Tryd.sizeOf86 _) hx1 fun p3 hp3 => ?_)
          exact ⟨BX.refl _ _, ⟨_, rfl, hp3⟩⟩
        · intro w5 D hS4 hd4
          have hl5 := Le.no M1 hS4
          have hC5 := hC1.no hS4
          have hd4 : PA (RSlice RRule) M1 x1 (D 2) w5 ∧ True := hd4
          obtain ⟨d3, -⟩ := hd4
          obtain ⟨p4, e1, ha1⟩ := d3
          refine dg_sub (E' := [(19, (.pointer (some p4)))]) ⟨(congrArg some e1), trivial⟩ ?_
          refine dg_plain rfl (ow_load (R := (RSlice RRule)) rfl rfl ha1 (Tryd.sizeOf86 _) (Tryd.isAgg86 _) fun v5 hv5 => ?_)
          exact ⟨BX.refl _ _, hv5⟩
        · intro w6 D hS5 hd5
          have hl6 := Le.no M1 hS5
          have hC6 := hC1.no hS5
          refine dg_sub (E' := [(1, v1p)]) ⟨rfl, trivial⟩ ?_
          refine dg_plain rfl (ow_move rfl rfl ?_)
          exact ⟨BX.refl _ _, (VRep.mono (hl1.trans hl6) h1)⟩
        · intro w7 D hS6 hd6
          have hl7 := Le.no M1 hS6
          have hC7 := hC1.no hS6
          refine dg_sub (E' := [(5, (.int .i64 k1))]) ⟨rfl, trivial⟩ ?_
          refine dg_plain rfl (ow_move rfl rfl ?_)
          exact ⟨BX.refl _ _, rfl⟩
        · intro w8 D hS7 hd7
          have hl8 := Le.no M1 hS7
          have hC8 := hC1.no hS7
          have hd7 : PV (RSlice (RSlice RRule)) M1 a_b (D 4) w8 ∧ PEq (.int .i64 k1) (D 5) w8 ∧ True := hd7
          obtain ⟨d4, d5, -⟩ := hd7
          obtain ⟨v6, hq2⟩ : ∃ v, (D 4) = v := ⟨_, rfl⟩
          rw [hq2] at d4
          refine dg_sub (E' := [(21, v6), (22, (.int .i64 k1))]) ⟨(congrArg some hq2), (congrArg some d5), trivial⟩ ?_
          refine dg_plain rfl (ow_indexSlice (R := (RSlice RRule)) rfl rfl rfl d4 Tryd.underlying55 (Tryd.sizeOf86 _) hx2 fun p5 hp5 => ?_)
          exact ⟨BX.refl _ _, ⟨_, rfl, hp5⟩⟩
        · intro w9 D hS8 hd8
          have hl9 := Le.no M1 hS8
          have hC9 := hC1.no hS8
          have hd8 : PA (RSlice RRule) M1 x2 (D 6) w9 ∧ True := hd8
          obtain ⟨d6, -⟩ := hd8
          obtain ⟨p6, e2, ha2⟩ := d6
          refine dg_sub (E' := [(23, (.pointer (some p6)))]) ⟨(congrArg some e2), trivial⟩ ?_
          refine dg_plain rfl (ow_load (R := (RSlice RRule)) rfl rfl ha2 (Tryd.sizeOf86 _) (Tryd.isAgg86 _) fun v7 hv7 => ?_)
          exact ⟨BX.refl _ _, hv7⟩
        · intro w10 D hS9 hd9
          have hl10 := Le.no M1 hS9
          have hC10 := hC1.no hS9
          have hd9 : PV (RSlice (RSlice RRule)) M1 a_a (D 0) w10 ∧ PEq (.int .i64 k1) (D 1) w10 ∧ PA (RSlice RRule) M1 x1 (D 2) w10 ∧ PV (RSlice RRule) M1 x1 (D 3) w10 ∧ PV (RSlice (RSlice RRule)) M1 a_b (D 4) w10 ∧ PEq (.int .i64 k1) (D 5) w10 ∧ PA (RSlice RRule) M1 x2 (D 6) w10 ∧ PV (RSlice RRule) M1 x2 (D 7) w10 ∧ True := hd9
          obtain ⟨-, -, -, d10, -, -, -, d14, -⟩ := hd9
          obtain ⟨v8, hq3⟩ : ∃ v, (D 3) = v := ⟨_, rfl⟩
          rw [hq3] at d10
          obtain ⟨v9, hq4⟩ : ∃ v, (D 7) = v := ⟨_, rfl⟩
          rw [hq4] at d14
          refine lw_sub (E' := [(20, v8), (24, v9), (0, v0p), (1, v1p), (5, (.int .i64 k1))]) ⟨(congrArg some hq3), (congrArg some hq4), rfl, rfl, rfl, trivial⟩ ?_
          replace hb1 := bind_some hb1
          obtain ⟨x3, hx3, hb1⟩ := hb1
          refine lw_op rfl rfl rfl (ow_call rfl rfl Tryd.call132 (w_laws_eqRuleS (hG.mono (hl1.trans hl10)) hC10.old d10 d14 hx3) fun v10 w11 hv10 => ?_)
          obtain ⟨hv10, hb2⟩ := hv10
          have hl11 := Le.no M1 hb2
          have hC11 := hC10.no hb2
          obtain rfl := vbool_eq hv10
          refine lw_op rfl rfl rfl (ow_not rfl rfl ?_)
          refine lw_nil ?_
          refine ew_then ?_
          replace hb1 := cond_some hb1
          rcases hb1 with ⟨hc3, hb1⟩ | ⟨hc3, hb1⟩
          · subst hc3
            refine cw_false rfl ?_
            refine cw_skip ?_
            refine ew_blockN ?_
            refine ew_then ?_
            refine cw_region ?_
            refine lw_op rfl rfl rfl (ow_move rfl rfl ?_)
            refine lw_op rfl rfl rfl (ow_add rfl rfl rfl ?_)
            refine lw_op rfl rfl rfl (ow_assign rfl rfl ?_)
            refine lw_nil ?_
            refine ew_nxt (W (k1 + 1)) hb1 fun a ha => ⟨M1, ?_, ((hl1.trans hl10).trans hl11), hC11⟩
            exact ha.sub ⟨rfl, rfl, rfl, trivial⟩
          · subst hc3
            refine cw_true rfl ?_
            refine cw_seq ?_
            refine cw_region ?_
            refine lw_op rfl rfl rfl (ow_assign rfl rfl ?_)
            refine lw_nil ?_
            refine ew_then ?_
            refine cw_ret ?_
            refine ew_blockR ?_
            refine ew_thenR ?_
            refine ew_thenR ?_
            refine ew_blockR ?_
            refine ew_brkR ?_
            refine ew_thenR ?_
            have e3 := hR1 _ (Option.some.inj hb1).symm
            subst e3
            obtain rfl := Option.some.inj h
            exact ew_ret (res1 rfl (.tmp rfl)) ⟨_, rfl, ((vbool _)), hC11.bx⟩
      · obtain rfl := hbb2.trans hc2
        refine cw_false rfl ?_
        refine cw_exit ?_
        refine ew_thenX ?_
        refine ew_thenX ?_
        refine ew_blockX ?_
        refine ew_brk k1 hb1 fun a ha => ⟨M1, ?_, hl1, hC1⟩
        exact ha.sub ⟨rfl, rfl, rfl, trivial⟩
    · rintro k2 a w12 hlr2 ⟨M2, hF2, hl12, hC12⟩
      subst hlr2
      refine ew_at (E := [(0, v0p), (1, v1p), (5, (.int .i64 k2))]) hF2 ?_
      refine ew_then ?_
      refine cw_seq ?_
      refine cw_region ?_
      refine lw_op rfl rfl rfl (ow_assign rfl rfl ?_)
      refine lw_nil ?_
      refine ew_then ?_
      refine cw_ret ?_
      obtain rfl := Option.some.inj h
      exact ew_ret (res1 rfl (.tmp rfl)) ⟨_, rfl, ((vbool _)), hC12.bx⟩

theorem w_laws_eqRuleset {w : World} {M : Nat → Prop} (hG : ARep (RArr 4 RShape) w M shapes ⟨0, 0, none⟩) (hO : ∀ b, M b → b < w.heap.size) {v0p : Value} {a_a : Ruleset} (h0 : VRep RRuleset w M a_a v0p) {v1p : Value} {a_b : Ruleset} (h1 : VRep RRuleset w M a_b v1p) {r : Bool} (h : F.laws_eqRuleset a_a a_b = some r) :
    Calls Tryd.prog 37 [v0p, v1p].toArray w fun e w' => ∃ v, e = .returned v ∧ VRep RBool w' M r v ∧ BX No w w' := by
  have hC : Cx No w M w M := Cx.start hO (fun _ e => e.elim)
  refine walk (N := 16) Tryd.func37 rfl Tryd.ntmps37 rfl ?_
  refine cw_seq ?_
  refine cw_region ?_
  refine lw_op rfl rfl rfl (ow_box (R := RRuleset) rfl rfl h0 hC fun p1 w1 hp1 hb1 hl1 hC1 => ?_)
  refine lw_op rfl rfl rfl (ow_box (R := RRuleset) rfl rfl (VRep.mono hl1 h1) hC1 fun p2 w2 hp2 hb2 hl2 hC2 => ?_)
  refine lw_op rfl rfl rfl (ow_assign rfl rfl ?_)
  refine lw_nil ?_
  refine ew_then ?_
  refine cw_seq ?_
  refine cw_seq ?_
  refine cw_region ?_
  refine lw_op rfl rfl rfl (ow_fieldAddr rfl rfl Tryd.underlying57 rfl (Tryd.sizeOf55 _) ?_)
  refine lw_op rfl rfl rfl (ow_load (R := (RSlice (RSlice RRule))) rfl rfl (ARep.mono hl2 (hp1.fld fld_Ruleset_Chains)) (Tryd.sizeOf55 _) (Tryd.isAgg55 _) fun v1 hv1 => ?_)
  refine lw_op rfl rfl rfl (ow_fieldAddr rfl rfl Tryd.underlying57 rfl (Tryd.sizeOf55 _) ?_)
  refine lw_op rfl rfl rfl (ow_load (R := (RSlice (RSlice RRule))) rfl rfl (hp2.fld fld_Ruleset_Chains) (Tryd.sizeOf55 _) (Tryd.isAgg55 _) fun v2 hv2 => ?_)
  replace h := bind_some h
  obtain ⟨x1, hx1, h⟩ := h
  refine lw_op rfl rfl rfl (ow_call rfl rfl Tryd.call89 (w_laws_eqRuleSS (hG.mono (hl1.trans hl2)) hC2.old hv1 hv2 hx1) fun v3 w3 hv3 => ?_)
  obtain ⟨hv3, hb3⟩ := hv3
  have hl3 := Le.no M hb3
  have hC3 := hC2.no hb3
  obtain rfl := vbool_eq hv3
  refine lw_op rfl rfl rfl (ow_not rfl rfl ?_)
  refine lw_nil ?_
  refine ew_then ?_
  replace h := cond_some h
  rcases h with ⟨hc1, h⟩ | ⟨hc1, h⟩
  · subst hc1
    refine cw_false rfl ?_
    refine cw_skip ?_
    refine ew_then ?_
    refine cw_seq ?_
    refine cw_seq ?_
    refine cw_region ?_
    refine lw_op rfl rfl rfl (ow_fieldAddr rfl rfl Tryd.underlying57 rfl (Tryd.sizeOf4 _) ?_)
    refine lw_op rfl rfl rfl (ow_load (R := RBool) rfl rfl (ARep.mono (hl2.trans hl3) (hp1.fld fld_Ruleset_Accept)) (Tryd.sizeOf4 _) (Tryd.isAgg4 _) fun v4 hv4 => ?_)
    obtain ⟨bb1, hbb1, rfl⟩ := vbool_ex hv4
    refine lw_op rfl rfl rfl (ow_fieldAddr rfl rfl Tryd.underlying57 rfl (Tryd.sizeOf4 _) ?_)
    refine lw_op rfl rfl rfl (ow_load (R := RBool) rfl rfl (ARep.mono hl3 (hp2.fld fld_Ruleset_Accept)) (Tryd.sizeOf4 _) (Tryd.isAgg4 _) fun v5 hv5 => ?_)
    obtain ⟨bb2, hbb2, rfl⟩ := vbool_ex hv5
    refine lw_op rfl rfl rfl (ow_neqB rfl rfl rfl Tryd.underlying4 fun bb3 hbb3 => ?_)
    have hbb3' : bb3 = (a_a.Accept != a_b.Accept) := hbb3.trans (by rw [hbb1, hbb2])
    refine lw_nil ?_
    refine ew_then ?_
    replace h := cond_some h
    rcases h with ⟨hc2, h⟩ | ⟨hc2, h⟩
    · obtain rfl := hbb3'.trans hc2
      refine cw_true rfl ?_
      refine cw_seq ?_
      refine cw_region ?_
      refine lw_op rfl rfl rfl (ow_assign rfl rfl ?_)
      refine lw_nil ?_
      refine ew_then ?_
      refine cw_ret ?_
      refine ew_thenR ?_
      obtain rfl := Option.some.inj h
      exact ew_ret (res1 rfl (.tmp rfl)) ⟨_, rfl, ((vbool _)), hC3.bx⟩
    · obtain rfl := hbb3'.trans hc2
      refine cw_false rfl ?_
      refine cw_skip ?_
      refine ew_then ?_
      refine cw_seq ?_
      refine cw_region ?_
      refine lw_op rfl rfl rfl (ow_assign rfl rfl ?_)
      refine lw_nil ?_
      refine ew_then ?_
      refine cw_ret ?_
      obtain rfl := Option.some.inj h
      exact ew_ret (res1 rfl (.tmp rfl)) ⟨_, rfl, ((vbool _)), hC3.bx⟩
  · subst hc1
    refine cw_true rfl ?_
    refine cw_seq ?_
    refine cw_region ?_
    refine lw_op rfl rfl rfl (ow_assign rfl rfl ?_)
    refine lw_nil ?_
    refine ew_then ?_
    refine cw_ret ?_
    refine ew_thenR ?_
    obtain rfl := Option.some.inj h
    exact ew_ret (res1 rfl (.tmp rfl)) ⟨_, rfl, ((vbool _)), hC3.bx⟩

theorem w_laws_szPacketS {w : World} {M : Nat → Prop} (_hG : ARep (RArr 4 RShape) w M shapes ⟨0, 0, none⟩) (hO : ∀ b, M b → b < w.heap.size) {v0p : Value} {a_a : List Packet} (h0 : VRep (RSlice RPacket) w M a_a v0p) {a_left : Int} {r : Int} (h : F.laws_szPacketS a_a a_left = some r) :
    Calls Tryd.prog 44 [v0p, (.int .i64 a_left)].toArray w fun e w' => ∃ v, e = .returned v ∧ VRep RInt w' M r v ∧ BX No w w' := by
  have hC : Cx No w M w M := Cx.start hO (fun _ e => e.elim)
  clear _hG
  refine walk (N := 12) Tryd.func44 rfl Tryd.ntmps44 rfl ?_
  refine cw_seq ?_
  refine cw_region ?_
  refine lw_op rfl rfl rfl (ow_assign rfl rfl ?_)
  refine lw_nil ?_
  refine ew_then ?_
  refine cw_seq ?_
  refine cw_region ?_
  refine lw_op rfl rfl rfl (ow_move rfl rfl ?_)
  refine lw_op rfl rfl rfl (ow_move rfl rfl ?_)
  refine lw_op rfl rfl rfl (ow_len rfl rfl h0 Tryd.underlying66 rfl ?_)
  refine lw_op rfl rfl rfl (ow_sub rfl rfl rfl ?_)
  refine lw_op rfl rfl rfl (ow_assign rfl rfl ?_)
  refine lw_nil ?_
  refine ew_then ?_
  refine cw_seq ?_
  refine cw_seq ?_
  refine cw_region ?_
  refine lw_op rfl rfl rfl (ow_move rfl rfl ?_)
  refine lw_op rfl rfl rfl (ow_lss rfl rfl rfl fun bb1 hbb1 => ?_)
  refine lw_nil ?_
  refine ew_then ?_
  replace h := cond_some h
  rcases h with ⟨hc1, h⟩ | ⟨hc1, h⟩
  · obtain rfl := hbb1.trans hc1
    refine cw_true rfl ?_
    refine cw_seq ?_
    refine cw_region ?_
    refine lw_op rfl rfl rfl (ow_assign rfl rfl ?_)
    refine lw_nil ?_
    refine ew_then ?_
    refine cw_ret ?_
    refine ew_thenR ?_
    obtain rfl := Option.some.inj h
    exact ew_ret (res1 rfl (.tmp rfl)) ⟨_, rfl, ((vint _)), hC.bx⟩
  · obtain rfl := hbb1.trans hc1
    refine cw_false rfl ?_
    refine cw_skip ?_
    refine ew_then ?_
    refine cw_seq ?_
    refine cw_region ?_
    refine lw_op rfl rfl rfl (ow_move rfl rfl ?_)
    refine lw_op rfl rfl rfl (ow_assign rfl rfl ?_)
    refine lw_nil ?_
    refine ew_then ?_
    refine cw_ret ?_
    obtain rfl := Option.some.inj h
    exact ew_ret (res1 rfl (.tmp rfl)) ⟨_, rfl, ((vint _)), hC.bx⟩

theorem w_spec_FieldTop {w : World} {M : Nat → Prop} (_hG : ARep (RArr 4 RShape) w M shapes ⟨0, 0, none⟩) (hO : ∀ b, M b → b < w.heap.size) {a_n : Int} {r : Int} (h : F.spec_FieldTop a_n = some r) :
    Calls Tryd.prog 109 [(.int .i64 a_n)].toArray w fun e w' => ∃ v, e = .returned v ∧ VRep RInt w' M r v ∧ BX No w w' := by
  have hC : Cx No w M w M := Cx.start hO (fun _ e => e.elim)
  clear _hG
  refine walk (N := 11) Tryd.func109 rfl Tryd.ntmps109 rfl ?_
  refine cw_seq ?_
  refine cw_region ?_
  refine lw_op rfl rfl rfl (ow_assign rfl rfl ?_)
  refine lw_nil ?_
  refine ew_then ?_
  refine cw_seq ?_
  refine cw_seq ?_
  refine cw_region ?_
  refine lw_op rfl rfl rfl (ow_move rfl rfl ?_)
  refine lw_nil ?_
  refine ew_then ?_
  refine cw_block ?_
  refine cw_seq ?_
  refine cw_seq ?_
  refine cw_region ?_
  refine lw_op rfl rfl rfl (ow_eqlI rfl rfl rfl fun bb1 hbb1 => ?_)
  refine lw_op rfl rfl rfl (ow_assign rfl rfl ?_)
  refine lw_nil ?_
  refine ew_then ?_
  replace h := cond_some h
  rcases h with ⟨hc1, h⟩ | ⟨hc1, h⟩
  · obtain rfl := hbb1.trans hc1
    refine cw_true rfl ?_
    refine cw_skip ?_
    refine ew_then ?_
    refine cw_true rfl ?_
    refine cw_seq ?_
    refine cw_region ?_
    refine lw_op rfl rfl rfl (ow_assign rfl rfl ?_)
    refine lw_nil ?_
    refine ew_then ?_
    refine cw_ret ?_
    refine ew_blockR ?_
    refine ew_thenR ?_
    obtain rfl := Option.some.inj h
    exact ew_ret (res1 rfl (.tmp rfl)) ⟨_, rfl, ((vint _)), hC.bx⟩
  · obtain rfl := hbb1.trans hc1
    refine cw_false rfl ?_
    refine cw_region ?_
    refine lw_op rfl rfl rfl (ow_eqlI rfl rfl rfl fun bb2 hbb2 => ?_)
    refine lw_op rfl rfl rfl (ow_assign rfl rfl ?_)
    refine lw_nil ?_
    refine ew_then ?_
    replace h := cond_some h
    rcases h with ⟨hc2, h⟩ | ⟨hc2, h⟩
    · obtain rfl := hbb2.trans hc2
      refine cw_true rfl ?_
      refine cw_seq ?_
      refine cw_region ?_
      refine lw_op rfl rfl rfl (ow_assign rfl rfl ?_)
      refine lw_nil ?_
      refine ew_then ?_
      refine cw_ret ?_
      refine ew_blockR ?_
      refine ew_thenR ?_
      obtain rfl := Option.some.inj h
      exact ew_ret (res1 rfl (.tmp rfl)) ⟨_, rfl, ((vint _)), hC.bx⟩
    · obtain rfl := hbb2.trans hc2
      refine cw_false rfl ?_
      refine cw_seq ?_
      refine cw_region ?_
      refine lw_op rfl rfl rfl (ow_eqlI rfl rfl rfl fun bb3 hbb3 => ?_)
      refine lw_op rfl rfl rfl (ow_assign rfl rfl ?_)
      refine lw_nil ?_
      refine ew_then ?_
      replace h := cond_some h
      rcases h with ⟨hc3, h⟩ | ⟨hc3, h⟩
      · obtain rfl := hbb3.trans hc3
        refine cw_true rfl ?_
        refine cw_seq ?_
        refine cw_region ?_
        refine lw_op rfl rfl rfl (ow_assign rfl rfl ?_)
        refine lw_nil ?_
        refine ew_then ?_
        refine cw_ret ?_
        refine ew_blockR ?_
        refine ew_thenR ?_
        obtain rfl := Option.some.inj h
        exact ew_ret (res1 rfl (.tmp rfl)) ⟨_, rfl, ((vint _)), hC.bx⟩
      · obtain rfl := hbb3.trans hc3
        refine cw_false rfl ?_
        refine cw_seq ?_
        refine cw_region ?_
        refine lw_op rfl rfl rfl (ow_eqlI rfl rfl rfl fun bb4 hbb4 => ?_)
        refine lw_op rfl rfl rfl (ow_assign rfl rfl ?_)
        refine lw_nil ?_
        refine ew_then ?_
        replace h := cond_some h
        rcases h with ⟨hc4, h⟩ | ⟨hc4, h⟩
        · obtain rfl := hbb4.trans hc4
          refine cw_true rfl ?_
          refine cw_seq ?_
          refine cw_region ?_
          refine lw_op rfl rfl rfl (ow_assign rfl rfl ?_)
          refine lw_nil ?_
          refine ew_then ?_
          refine cw_ret ?_
          refine ew_blockR ?_
          refine ew_thenR ?_
          obtain rfl := Option.some.inj h
          exact ew_ret (res1 rfl (.tmp rfl)) ⟨_, rfl, ((vint _)), hC.bx⟩
        · obtain rfl := hbb4.trans hc4
          refine cw_false rfl ?_
          refine cw_skip ?_
          refine ew_blockN ?_
          refine ew_then ?_
          refine cw_seq ?_
          refine cw_region ?_
          refine lw_op rfl rfl rfl (ow_assign rfl rfl ?_)
          refine lw_nil ?_
          refine ew_then ?_
          refine cw_ret ?_
          obtain rfl := Option.some.inj h
          exact ew_ret (res1 rfl (.tmp rfl)) ⟨_, rfl, ((vint _)), hC.bx⟩

theorem w_spec_l1In {w : World} {M : Nat → Prop} (_hG : ARep (RArr 4 RShape) w M shapes ⟨0, 0, none⟩) (hO : ∀ b, M b → b < w.heap.size) {a_n : Int} {a_lo : Int} {a_hi : Int} {r : Bool} (h : F.spec_l1In a_n a_lo a_hi = some r) :
    Calls Tryd.prog 83 [(.int .i64 a_n), (.int .i64 a_lo), (.int .i64 a_hi)].toArray w fun e w' => ∃ v, e = .returned v ∧ VRep RBool w' M r v ∧ BX No w w' := by
  have hC : Cx No w M w M := Cx.start hO (fun _ e => e.elim)
  clear _hG
  refine walk (N := 15) Tryd.func83 rfl Tryd.ntmps83 rfl ?_
  refine cw_seq ?_
  refine cw_region ?_
  refine lw_op rfl rfl rfl (ow_assign rfl rfl ?_)
  refine lw_nil ?_
  refine ew_then ?_
  refine cw_seq ?_
  refine cw_region ?_
  refine lw_op rfl rfl rfl (ow_move rfl rfl ?_)
  refine lw_op rfl rfl rfl (ow_move rfl rfl ?_)
  refine lw_op rfl rfl rfl (ow_geq rfl rfl rfl fun bb1 hbb1 => ?_)
  refine lw_op rfl rfl rfl (ow_move rfl rfl ?_)
  replace h := cond_some h
  rcases h with ⟨hc1, h⟩ | ⟨hc1, h⟩
  · obtain rfl := hbb1.trans hc1
    refine lw_on rfl rfl rfl rfl rfl rfl (ow_move rfl rfl ?_)
    refine lw_on rfl rfl rfl rfl rfl rfl (ow_move rfl rfl ?_)
    refine lw_on rfl rfl rfl rfl rfl rfl (ow_leq rfl rfl rfl fun bb2 hbb2 => ?_)
    refine lw_op rfl rfl rfl (ow_pickT rfl rfl rfl ?_)
    refine lw_op rfl rfl rfl (ow_assign rfl rfl ?_)
    refine lw_nil ?_
    refine ew_then ?_
    refine cw_ret ?_
    obtain rfl := Option.some.inj h
    exact ew_ret (res1 rfl (.tmp rfl)) ⟨_, rfl, ((vbool_of hbb2)), hC.bx⟩
  · obtain rfl := hbb1.trans hc1
    refine lw_off rfl rfl rfl rfl rfl rfl ?_
    refine lw_off rfl rfl rfl rfl rfl rfl ?_
    refine lw_off rfl rfl rfl rfl rfl rfl ?_
    refine lw_op rfl rfl rfl (ow_pickF rfl rfl rfl ?_)
    refine lw_op rfl rfl rfl (ow_assign rfl rfl ?_)
    refine lw_nil ?_
    refine ew_then ?_
    refine cw_ret ?_
    obtain rfl := Option.some.inj h
    exact ew_ret (res1 rfl (.tmp rfl)) ⟨_, rfl, ((vbool _)), hC.bx⟩

theorem w_spec_TestValid {w : World} {M : Nat → Prop} (hG : ARep (RArr 4 RShape) w M shapes ⟨0, 0, none⟩) (hO : ∀ b, M b → b < w.heap.size) {v0p : Value} {a_t : Test} (h0 : VRep RTest w M a_t v0p) {r : Bool} (h : F.spec_TestValid a_t = some r) :
    Calls Tryd.prog 138 [v0p].toArray w fun e w' => ∃ v, e = .returned v ∧ VRep RBool w' M r v ∧ BX No w w' := by
  have hC : Cx No w M w M := Cx.start hO (fun _ e => e.elim)
  refine walk (N := 21) Tryd.func138 rfl Tryd.ntmps138 rfl ?_
  refine cw_seq ?_
  refine cw_region ?_
  refine lw_op rfl rfl rfl (ow_box (R := RTest) rfl rfl h0 hC fun p1 w1 hp1 hb1 hl1 hC1 => ?_)
  refine lw_op rfl rfl rfl (ow_assign rfl rfl ?_)
  refine lw_nil ?_
  refine ew_then ?_
  refine cw_seq ?_
  replace h := bind_some h
  obtain ⟨x1, hx1, h⟩ := h
  replace h := cond_some h
  rcases h with ⟨hc1, h⟩ | ⟨hc1, h⟩
  · subst hc1
    replace h := bind_some h
    obtain ⟨x2, hx2, h⟩ := h
    replace h := cond_some h
    rcases h with ⟨hc2, h⟩ | ⟨hc2, h⟩
    · subst hc2
      replace h := bind_some h
      obtain ⟨x3, hx3, h⟩ := h
      refine cw_sub (E' := [(1, (.pointer (some p1))), (2, (.bool false))]) ⟨rfl, rfl, trivial⟩ ?_
      refine cw_drawQ 16 [PA RInt M a_t.Field, PEq (.int .i64 a_t.Field), PEq (.bool true), PEq (.bool true), PA RInt M a_t.Lo, PEq (.int .i64 a_t.Lo), PA RInt M a_t.Hi, PEq (.int .i64 a_t.Hi), PEq (.bool true), PEq (.bool true), PEq (.bool true), PA RInt M a_t.Hi, PEq (.int .i64 a_t.Hi), PA RInt M a_t.Field, PEq (.int .i64 a_t.Field), PEq (.int .i64 x3)] (by kernel_rfl) rfl (by kernel_rfl) ⟨PA.mono _ _ _, PEq.mono _, PEq.mono _, PEq.mono _, PA.mono _ _ _, PEq.mono _, PA.mono _ _ _, PEq.mono _, PEq.mono _, PEq.mono _, PEq.mono _, PA.mono _ _ _, PEq.mono _, PA.mono _ _ _, PEq.mono _, PEq.mono _, trivial⟩ ⟨?_, ?_, ?_, ?_, ?_, ?_, ?_, ?_, ?_, ?_, ?_, ?_, ?_, ?_, ?_, ?_, trivial⟩ ?_
      · intro w5 D hS1 hd1
        have hl5 := Le.no M hS1
        have hC5 := hC1.no hS1
        refine dg_sub (E' := [(1, (.pointer (some p1)))]) ⟨rfl, trivial⟩ ?_
        refine dg_plain rfl (ow_fieldAddr rfl rfl Tryd.underlying186 rfl (Tryd.sizeOf3 _) ?_)
        exact ⟨BX.refl _ _, ⟨_, rfl, (ARep.mono hl5 (hp1.fld fld_Test_Field))⟩⟩
      · intro w6 D hS2 hd2
        have hl6 := Le.no M hS2
        have hC6 := hC1.no hS2
        have hd2 : PA RInt M a_t.Field (D 0) w6 ∧ True := hd2
        obtain ⟨d1, -⟩ := hd2
        obtain ⟨p2, e1, ha1⟩ := d1
        refine dg_sub (E' := [(3, (.pointer (some p2)))]) ⟨(congrArg some e1), trivial⟩ ?_
        refine dg_plain rfl (ow_load (R := RInt) rfl rfl ha1 (Tryd.sizeOf3 _) (Tryd.isAgg3 _) fun v9 hv9 => ?_)
        obtain rfl := vint_eq hv9
        exact ⟨BX.refl _ _, rfl⟩
      · intro w7 D hS3 hd3
        have hl7 := Le.no M hS3
        have hC7 := hC1.no hS3
        have hd3 : PEq (.int .i64 a_t.Field) (D 1) w7 ∧ True := hd3
        obtain ⟨d2, -⟩ := hd3
        refine dg_sub (E' := [(4, (.int .i64 a_t.Field))]) ⟨(congrArg some d2), trivial⟩ ?_
        refine dg_plain rfl (ow_call rfl rfl Tryd.call83 (w_spec_l1In (hG.mono (hl1.trans hl7)) hC7.old hx1) fun v10 w8 hv10 => ?_)
        obtain ⟨hv10, hb5⟩ := hv10
        have hl8 := Le.no M hb5
        have hC8 := hC7.no hb5
        obtain rfl := vbool_eq hv10
        exact ⟨hb5, rfl⟩
      · intro w9 D hS4 hd4
        have hl9 := Le.no M hS4
        have hC9 := hC1.no hS4
        have hd4 : PEq (.bool true) (D 2) w9 ∧ PEq (.bool true) (D 2) w9 ∧ True := hd4
        obtain ⟨d3, d4, -⟩ := hd4
        refine dg_sub (E' := [(5, (.bool true))]) ⟨(congrArg some d3), trivial⟩ ?_
        refine dg_plain rfl (ow_move rfl rfl ?_)
        exact ⟨BX.refl _ _, rfl⟩
      · intro w10 D hS5 hd5
        have hl10 := Le.no M hS5
        have hC10 := hC1.no hS5
        have hd5 : PEq (.bool true) (D 3) w10 ∧ True := hd5
        obtain ⟨d5, -⟩ := hd5
        refine dg_sub (E' := [(6, (.bool true)), (1, (.pointer (some p1)))]) ⟨(congrArg some d5), rfl, trivial⟩ ?_
        refine dg_on rfl rfl rfl rfl (ow_fieldAddr rfl rfl Tryd.underlying186 rfl (Tryd.sizeOf3 _) ?_)
        exact ⟨BX.refl _ _, ⟨_, rfl, (ARep.mono hl10 (hp1.fld fld_Test_Lo))⟩⟩
      · intro w11 D hS6 hd6
        have hl11 := Le.no M hS6
        have hC11 := hC1.no hS6
        have hd6 : PA RInt M a_t.Lo (D 4) w11 ∧ PEq (.bool true) (D 3) w11 ∧ True := hd6
        obtain ⟨d6, d7, -⟩ := hd6
        obtain ⟨p3, e2, ha2⟩ := d6
        refine dg_sub (E' := [(7, (.pointer (some p3))), (6, (.bool true))]) ⟨(congrArg some e2), (congrArg some d7), trivial⟩ ?_
        refine dg_on rfl rfl rfl rfl (ow_load (R := RInt) rfl rfl ha2 (Tryd.sizeOf3 _) (Tryd.isAgg3 _) fun v11 hv11 => ?_)
        obtain rfl := vint_eq hv11
        exact ⟨BX.refl _ _, rfl⟩
      · intro w12 D hS7 hd7
        have hl12 := Le.no M hS7
        have hC12 := hC1.no hS7
        have hd7 : PEq (.bool true) (D 3) w12 ∧ True := hd7
        obtain ⟨d8, -⟩ := hd7
        refine dg_sub (E' := [(6, (.bool true)), (1, (.pointer (some p1)))]) ⟨(congrArg some d8), rfl, trivial⟩ ?_
        refine dg_on rfl rfl rfl rfl (ow_fieldAddr rfl rfl Tryd.underlying186 rfl (Tryd.sizeOf3 _) ?_)
        exact ⟨BX.refl _ _, ⟨_, rfl, (ARep.mono hl12 (hp1.fld fld_Test_Hi))⟩⟩
      · intro w13 D hS8 hd8
        have hl13 := Le.no M hS8
        have hC13 := hC1.no hS8
        have hd8 : PA RInt M a_t.Hi (D 6) w13 ∧ PEq (.bool true) (D 3) w13 ∧ True := hd8
        obtain ⟨d9, d10, -⟩ := hd8
        obtain ⟨p4, e3, ha3⟩ := d9
        refine dg_sub (E' := [(9, (.pointer (some p4))), (6, (.bool true))]) ⟨(congrArg some e3), (congrArg some d10), trivial⟩ ?_
        refine dg_on rfl rfl rfl rfl (ow_load (R := RInt) rfl rfl ha3 (Tryd.sizeOf3 _) (Tryd.isAgg3 _) fun v12 hv12 => ?_)
        obtain rfl := vint_eq hv12
        exact ⟨BX.refl _ _, rfl⟩
      · intro w14 D hS9 hd9
        have hl14 := Le.no M hS9
        have hC14 := hC1.no hS9
        have hd9 : PEq (.int .i64 a_t.Lo) (D 5) w14 ∧ PEq (.int .i64 a_t.Hi) (D 7) w14 ∧ PEq (.bool true) (D 3) w14 ∧ PEq (.bool true) (D 3) w14 ∧ True := hd9
        obtain ⟨d11, d12, d13, d14, -⟩ := hd9
        refine dg_sub (E' := [(8, (.int .i64 a_t.Lo)), (10, (.int .i64 a_t.Hi)), (6, (.bool true))]) ⟨(congrArg some d11), (congrArg some d12), (congrArg some d13), trivial⟩ ?_
        refine dg_on rfl rfl rfl rfl (ow_call rfl rfl Tryd.call83 (w_spec_l1In (hG.mono (hl1.trans hl14)) hC14.old hx2) fun v13 w15 hv13 => ?_)
        obtain ⟨hv13, hb6⟩ := hv13
        have hl15 := Le.no M hb6
        have hC15 := hC14.no hb6
        obtain rfl := vbool_eq hv13
        exact ⟨hb6, rfl⟩
      · intro w16 D hS10 hd10
        have hl16 := Le.no M hS10
        have hC16 := hC1.no hS10
        have hd10 : PEq (.bool true) (D 3) w16 ∧ PEq (.bool true) (D 8) w16 ∧ True := hd10
        obtain ⟨d15, d16, -⟩ := hd10
        refine dg_sub (E' := [(6, (.bool true)), (11, (.bool true))]) ⟨(congrArg some d15), (congrArg some d16), trivial⟩ ?_
        refine dg_plain rfl (ow_pickT rfl rfl rfl ?_)
        exact ⟨BX.refl _ _, rfl⟩
      · intro w17 D hS11 hd11
        have hl17 := Le.no M hS11
        have hC17 := hC1.no hS11
        have hd11 : PEq (.bool true) (D 9) w17 ∧ PEq (.bool true) (D 8) w17 ∧ True := hd11
        obtain ⟨d17, d18, -⟩ := hd11
        refine dg_sub (E' := [(12, (.bool true))]) ⟨(congrArg some d17), trivial⟩ ?_
        refine dg_plain rfl (ow_move rfl rfl ?_)
        exact ⟨BX.refl _ _, rfl⟩
      · intro w18 D hS12 hd12
        have hl18 := Le.no M hS12
        have hC18 := hC1.no hS12
        have hd12 : PEq (.bool true) (D 10) w18 ∧ True := hd12
        obtain ⟨d19, -⟩ := hd12
        refine dg_sub (E' := [(13, (.bool true)), (1, (.pointer (some p1)))]) ⟨(congrArg some d19), rfl, trivial⟩ ?_
        refine dg_on rfl rfl rfl rfl (ow_fieldAddr rfl rfl Tryd.underlying186 rfl (Tryd.sizeOf3 _) ?_)
        exact ⟨BX.refl _ _, ⟨_, rfl, (ARep.mono hl18 (hp1.fld fld_Test_Hi))⟩⟩
      · intro w19 D hS13 hd13
        have hl19 := Le.no M hS13
        have hC19 := hC1.no hS13
        have hd13 : PA RInt M a_t.Hi (D 11) w19 ∧ PEq (.bool true) (D 10) w19 ∧ True := hd13
        obtain ⟨d20, d21, -⟩ := hd13
        obtain ⟨p5, e4, ha4⟩ := d20
        refine dg_sub (E' := [(14, (.pointer (some p5))), (13, (.bool true))]) ⟨(congrArg some e4), (congrArg some d21), trivial⟩ ?_
        refine dg_on rfl rfl rfl rfl (ow_load (R := RInt) rfl rfl ha4 (Tryd.sizeOf3 _) (Tryd.isAgg3 _) fun v14 hv14 => ?_)
        obtain rfl := vint_eq hv14
        exact ⟨BX.refl _ _, rfl⟩
      · intro w20 D hS14 hd14
        have hl20 := Le.no M hS14
        have hC20 := hC1.no hS14
        have hd14 : PEq (.bool true) (D 10) w20 ∧ True := hd14
        obtain ⟨d22, -⟩ := hd14
        refine dg_sub (E' := [(13, (.bool true)), (1, (.pointer (some p1)))]) ⟨(congrArg some d22), rfl, trivial⟩ ?_
        refine dg_on rfl rfl rfl rfl (ow_fieldAddr rfl rfl Tryd.underlying186 rfl (Tryd.sizeOf3 _) ?_)
        exact ⟨BX.refl _ _, ⟨_, rfl, (ARep.mono hl20 (hp1.fld fld_Test_Field))⟩⟩
      · intro w21 D hS15 hd15
        have hl21 := Le.no M hS15
        have hC21 := hC1.no hS15
        have hd15 : PA RInt M a_t.Field (D 13) w21 ∧ PEq (.bool true) (D 10) w21 ∧ True := hd15
        obtain ⟨d23, d24, -⟩ := hd15
        obtain ⟨p6, e5, ha5⟩ := d23
        refine dg_sub (E' := [(16, (.pointer (some p6))), (13, (.bool true))]) ⟨(congrArg some e5), (congrArg some d24), trivial⟩ ?_
        refine dg_on rfl rfl rfl rfl (ow_load (R := RInt) rfl rfl ha5 (Tryd.sizeOf3 _) (Tryd.isAgg3 _) fun v15 hv15 => ?_)
        obtain rfl := vint_eq hv15
        exact ⟨BX.refl _ _, rfl⟩
      · intro w22 D hS16 hd16
        have hl22 := Le.no M hS16
        have hC22 := hC1.no hS16
        have hd16 : PEq (.int .i64 a_t.Field) (D 14) w22 ∧ PEq (.bool true) (D 10) w22 ∧ PEq (.bool true) (D 10) w22 ∧ True := hd16
        obtain ⟨d25, d26, d27, -⟩ := hd16
        refine dg_sub (E' := [(17, (.int .i64 a_t.Field)), (13, (.bool true))]) ⟨(congrArg some d25), (congrArg some d26), trivial⟩ ?_
        refine dg_on rfl rfl rfl rfl (ow_call rfl rfl Tryd.call109 (w_spec_FieldTop (hG.mono (hl1.trans hl22)) hC22.old hx3) fun v16 w23 hv16 => ?_)
        obtain ⟨hv16, hb7⟩ := hv16
        have hl23 := Le.no M hb7
        have hC23 := hC22.no hb7
        obtain rfl := vint_eq hv16
        exact ⟨hb7, rfl⟩
      · intro w24 D hS17 hd17
        have hl24 := Le.no M hS17
        have hC24 := hC1.no hS17
        have hd17 : PA RInt M a_t.Field (D 0) w24 ∧ PEq (.int .i64 a_t.Field) (D 1) w24 ∧ PEq (.bool true) (D 2) w24 ∧ PEq (.bool true) (D 3) w24 ∧ PA RInt M a_t.Lo (D 4) w24 ∧ PEq (.int .i64 a_t.Lo) (D 5) w24 ∧ PA RInt M a_t.Hi (D 6) w24 ∧ PEq (.int .i64 a_t.Hi) (D 7) w24 ∧ PEq (.bool true) (D 8) w24 ∧ PEq (.bool true) (D 9) w24 ∧ PEq (.bool true) (D 10) w24 ∧ PA RInt M a_t.Hi (D 11) w24 ∧ PEq (.int .i64 a_t.Hi) (D 12) w24 ∧ PA RInt M a_t.Field (D 13) w24 ∧ PEq (.int .i64 a_t.Field) (D 14) w24 ∧ PEq (.int .i64 x3) (D 15) w24 ∧ True := hd17
        obtain ⟨-, -, -, -, -, -, -, -, -, -, d38, -, d40, -, -, d43, -⟩ := hd17
        refine lw_sub (E' := [(13, (.bool true)), (15, (.int .i64 a_t.Hi)), (18, (.int .i64 x3)), (1, (.pointer (some p1))), (2, (.bool false))]) ⟨(congrArg some d38), (congrArg some d40), (congrArg some d43), rfl, rfl, trivial⟩ ?_
        refine lw_on rfl rfl rfl rfl rfl rfl (ow_leq rfl rfl rfl fun bb1 hbb1 => ?_)
        refine lw_op rfl rfl rfl (ow_pickT rfl rfl rfl ?_)
        refine lw_op rfl rfl rfl (ow_assign rfl rfl ?_)
        refine lw_nil ?_
        refine ew_then ?_
        refine cw_ret ?_
        obtain rfl := Option.some.inj h
        exact ew_ret (res1 rfl (.tmp rfl)) ⟨_, rfl, ((vbool_of hbb1)), hC24.bx⟩
    · subst hc2
      refine cw_sub (E' := [(1, (.pointer (some p1))), (2, (.bool false))]) ⟨rfl, rfl, trivial⟩ ?_
      refine cw_drawQ 16 [PA RInt M a_t.Field, PEq (.int .i64 a_t.Field), PEq (.bool true), PEq (.bool true), PA RInt M a_t.Lo, PEq (.int .i64 a_t.Lo), PA RInt M a_t.Hi, PEq (.int .i64 a_t.Hi), PEq (.bool false), PEq (.bool false), PEq (.bool false), PEq undef, PEq undef, PEq undef, PEq undef, PEq undef] (by kernel_rfl) rfl (by kernel_rfl) ⟨PA.mono _ _ _, PEq.mono _, PEq.mono _, PEq.mono _, PA.mono _ _ _, PEq.mono _, PA.mono _ _ _, PEq.mono _, PEq.mono _, PEq.mono _, PEq.mono _, PEq.mono _, PEq.mono _, PEq.mono _, PEq.mono _, PEq.mono _, trivial⟩ ⟨?_, ?_, ?_, ?_, ?_, ?_, ?_, ?_, ?_, ?_, ?_, ?_, ?_, ?_, ?_, ?_, trivial⟩ ?_
      · intro w25 D hS18 hd18
        have hl25 := Le.no M hS18
        have hC25 := hC1.no hS18
        refine dg_sub (E' := [(1, (.pointer (some p1)))]) ⟨rfl, trivial⟩ ?_
        refine dg_plain rfl (ow_fieldAddr rfl rfl Tryd.underlying186 rfl (Tryd.sizeOf3 _) ?_)
        exact ⟨BX.refl _ _, ⟨_, rfl, (ARep.mono hl25 (hp1.fld fld_Test_Field))⟩⟩
      · intro w26 D hS19 hd19
        have hl26 := Le.no M hS19
        have hC26 := hC1.no hS19
        have hd19 : PA RInt M a_t.Field (D 0) w26 ∧ True := hd19
        obtain ⟨d44, -⟩ := hd19
        obtain ⟨p7, e6, ha6⟩ := d44
        refine dg_sub (E' := [(3, (.pointer (some p7)))]) ⟨(congrArg some e6), trivial⟩ ?_
        refine dg_plain rfl (ow_load (R := RInt) rfl rfl ha6 (Tryd.sizeOf3 _) (Tryd.isAgg3 _) fun v17 hv17 => ?_)
        obtain rfl := vint_eq hv17
        exact ⟨BX.refl _ _, rfl⟩
      · intro w27 D hS20 hd20
        have hl27 := Le.no M hS20
        have hC27 := hC1.no hS20
        have hd20 : PEq (.int .i64 a_t.Field) (D 1) w27 ∧ True := hd20
        obtain ⟨d45, -⟩ := hd20
        refine dg_sub (E' := [(4, (.int .i64 a_t.Field))]) ⟨(congrArg some d45), trivial⟩ ?_
        refine dg_plain rfl (ow_call rfl rfl Tryd.call83 (w_spec_l1In (hG.mono (hl1.trans hl27)) hC27.old hx1) fun v18 w28 hv18 => ?_)
        obtain ⟨hv18, hb8⟩ := hv18
        have hl28 := Le.no M hb8
        have hC28 := hC27.no hb8
        obtain rfl := vbool_eq hv18
        exact ⟨hb8, rfl⟩
      · intro w29 D hS21 hd21
        have hl29 := Le.no M hS21
        have hC29 := hC1.no hS21
        have hd21 : PEq (.bool true) (D 2) w29 ∧ PEq (.bool true) (D 2) w29 ∧ True := hd21
        obtain ⟨d46, d47, -⟩ := hd21
        refine dg_sub (E' := [(5, (.bool true))]) ⟨(congrArg some d46), trivial⟩ ?_
        refine dg_plain rfl (ow_move rfl rfl ?_)
        exact ⟨BX.refl _ _, rfl⟩
      · intro w30 D hS22 hd22
        have hl30 := Le.no M hS22
        have hC30 := hC1.no hS22
        have hd22 : PEq (.bool true) (D 3) w30 ∧ True := hd22
        obtain ⟨d48, -⟩ := hd22
        refine dg_sub (E' := [(6, (.bool true)), (1, (.pointer (some p1)))]) ⟨(congrArg some d48), rfl, trivial⟩ ?_
        refine dg_on rfl rfl rfl rfl (ow_fieldAddr rfl rfl Tryd.underlying186 rfl (Tryd.sizeOf3 _) ?_)
        exact ⟨BX.refl _ _, ⟨_, rfl, (ARep.mono hl30 (hp1.fld fld_Test_Lo))⟩⟩
      · intro w31 D hS23 hd23
        have hl31 := Le.no M hS23
        have hC31 := hC1.no hS23
        have hd23 : PA RInt M a_t.Lo (D 4) w31 ∧ PEq (.bool true) (D 3) w31 ∧ True := hd23
        obtain ⟨d49, d50, -⟩ := hd23
        obtain ⟨p8, e7, ha7⟩ := d49
        refine dg_sub (E' := [(7, (.pointer (some p8))), (6, (.bool true))]) ⟨(congrArg some e7), (congrArg some d50), trivial⟩ ?_
        refine dg_on rfl rfl rfl rfl (ow_load (R := RInt) rfl rfl ha7 (Tryd.sizeOf3 _) (Tryd.isAgg3 _) fun v19 hv19 => ?_)
        obtain rfl := vint_eq hv19
        exact ⟨BX.refl _ _, rfl⟩
      · intro w32 D hS24 hd24
        have hl32 := Le.no M hS24
        have hC32 := hC1.no hS24
        have hd24 : PEq (.bool true) (D 3) w32 ∧ True := hd24
        obtain ⟨d51, -⟩ := hd24
        refine dg_sub (E' := [(6, (.bool true)), (1, (.pointer (some p1)))]) ⟨(congrArg some d51), rfl, trivial⟩ ?_
        refine dg_on rfl rfl rfl rfl (ow_fieldAddr rfl rfl Tryd.underlying186 rfl (Tryd.sizeOf3 _) ?_)
        exact ⟨BX.refl _ _, ⟨_, rfl, (ARep.mono hl32 (hp1.fld fld_Test_Hi))⟩⟩
      · intro w33 D hS25 hd25
        have hl33 := Le.no M hS25
        have hC33 := hC1.no hS25
        have hd25 : PA RInt M a_t.Hi (D 6) w33 ∧ PEq (.bool true) (D 3) w33 ∧ True := hd25
        obtain ⟨d52, d53, -⟩ := hd25
        obtain ⟨p9, e8, ha8⟩ := d52
        refine dg_sub (E' := [(9, (.pointer (some p9))), (6, (.bool true))]) ⟨(congrArg some e8), (congrArg some d53), trivial⟩ ?_
        refine dg_on rfl rfl rfl rfl (ow_load (R := RInt) rfl rfl ha8 (Tryd.sizeOf3 _) (Tryd.isAgg3 _) fun v20 hv20 => ?_)
        obtain rfl := vint_eq hv20
        exact ⟨BX.refl _ _, rfl⟩
      · intro w34 D hS26 hd26
        have hl34 := Le.no M hS26
        have hC34 := hC1.no hS26
        have hd26 : PEq (.int .i64 a_t.Lo) (D 5) w34 ∧ PEq (.int .i64 a_t.Hi) (D 7) w34 ∧ PEq (.bool true) (D 3) w34 ∧ PEq (.bool true) (D 3) w34 ∧ True := hd26
        obtain ⟨d54, d55, d56, d57, -⟩ := hd26
        refine dg_sub (E' := [(8, (.int .i64 a_t.Lo)), (10, (.int .i64 a_t.Hi)), (6, (.bool true))]) ⟨(congrArg some d54), (congrArg some d55), (congrArg some d56), trivial⟩ ?_
        refine dg_on rfl rfl rfl rfl (ow_call rfl rfl Tryd.call83 (w_spec_l1In (hG.mono (hl1.trans hl34)) hC34.old hx2) fun v21 w35 hv21 => ?_)
        obtain ⟨hv21, hb9⟩ := hv21
        have hl35 := Le.no M hb9
        have hC35 := hC34.no hb9
        obtain rfl := vbool_eq hv21
        exact ⟨hb9, rfl⟩
      · intro w36 D hS27 hd27
        have hl36 := Le.no M hS27
        have hC36 := hC1.no hS27
        have hd27 : PEq (.bool true) (D 3) w36 ∧ PEq (.bool false) (D 8) w36 ∧ True := hd27
        obtain ⟨d58, d59, -⟩ := hd27
        refine dg_sub (E' := [(6, (.bool true)), (11, (.bool false))]) ⟨(congrArg some d58), (congrArg some d59), trivial⟩ ?_
        refine dg_plain rfl (ow_pickT rfl rfl rfl ?_)
        exact ⟨BX.refl _ _, rfl⟩
      · intro w37 D hS28 hd28
        have hl37 := Le.no M hS28
        have hC37 := hC1.no hS28
        have hd28 : PEq (.bool false) (D 9) w37 ∧ PEq (.bool false) (D 8) w37 ∧ True := hd28
        obtain ⟨d60, d61, -⟩ := hd28
        refine dg_sub (E' := [(12, (.bool false))]) ⟨(congrArg some d60), trivial⟩ ?_
        refine dg_plain rfl (ow_move rfl rfl ?_)
        exact ⟨BX.refl _ _, rfl⟩
      · intro w38 D hS29 hd29
        have hl38 := Le.no M hS29
        have hC38 := hC1.no hS29
        have hd29 : PEq (.bool false) (D 10) w38 ∧ True := hd29
        obtain ⟨d62, -⟩ := hd29
        refine dg_sub (E' := [(13, (.bool false)), (1, (.pointer (some p1)))]) ⟨(congrArg some d62), rfl, trivial⟩ ?_
        exact dg_off rfl rfl rfl rfl ⟨BX.refl _ _, rfl⟩
      · intro w39 D hS30 hd30
        have hl39 := Le.no M hS30
        have hC39 := hC1.no hS30
        have hd30 : PEq undef (D 11) w39 ∧ PEq (.bool false) (D 10) w39 ∧ True := hd30
        obtain ⟨d63, d64, -⟩ := hd30
        refine dg_sub (E' := [(14, undef), (13, (.bool false))]) ⟨(congrArg some d63), (congrArg some d64), trivial⟩ ?_
        exact dg_off rfl rfl rfl rfl ⟨BX.refl _ _, rfl⟩
      · intro w40 D hS31 hd31
        have hl40 := Le.no M hS31
        have hC40 := hC1.no hS31
        have hd31 : PEq (.bool false) (D 10) w40 ∧ True := hd31
        obtain ⟨d65, -⟩ := hd31
        refine dg_sub (E' := [(13, (.bool false)), (1, (.pointer (some p1)))]) ⟨(congrArg some d65), rfl, trivial⟩ ?_
        exact dg_off rfl rfl rfl rfl ⟨BX.refl _ _, rfl⟩
      · intro w41 D hS32 hd32
        have hl41 := Le.no M hS32
        have hC41 := hC1.no hS32
        have hd32 : PEq undef (D 13) w41 ∧ PEq (.bool false) (D 10) w41 ∧ True := hd32
        obtain ⟨d66, d67, -⟩ := hd32
        refine dg_sub (E' := [(16, undef), (13, (.bool false))]) ⟨(congrArg some d66), (congrArg some d67), trivial⟩ ?_
        exact dg_off rfl rfl rfl rfl ⟨BX.refl _ _, rfl⟩
      · intro w42 D hS33 hd33
        have hl42 := Le.no M hS33
        have hC42 := hC1.no hS33
        have hd33 : PEq undef (D 14) w42 ∧ PEq (.bool false) (D 10) w42 ∧ PEq (.bool false) (D 10) w42 ∧ True := hd33
        obtain ⟨d68, d69, d70, -⟩ := hd33
        refine dg_sub (E' := [(17, undef), (13, (.bool false))]) ⟨(congrArg some d68), (congrArg some d69), trivial⟩ ?_
        exact dg_off rfl rfl rfl rfl ⟨BX.refl _ _, rfl⟩
      · intro w43 D hS34 hd34
        have hl43 := Le.no M hS34
        have hC43 := hC1.no hS34
        have hd34 : PA RInt M a_t.Field (D 0) w43 ∧ PEq (.int .i64 a_t.Field) (D 1) w43 ∧ PEq (.bool true) (D 2) w43 ∧ PEq (.bool true) (D 3) w43 ∧ PA RInt M a_t.Lo (D 4) w43 ∧ PEq (.int .i64 a_t.Lo) (D 5) w43 ∧ PA RInt M a_t.Hi (D 6) w43 ∧ PEq (.int .i64 a_t.Hi) (D 7) w43 ∧ PEq (.bool false) (D 8) w43 ∧ PEq (.bool false) (D 9) w43 ∧ PEq (.bool false) (D 10) w43 ∧ PEq undef (D 11) w43 ∧ PEq undef (D 12) w43 ∧ PEq undef (D 13) w43 ∧ PEq undef (D 14) w43 ∧ PEq undef (D 15) w43 ∧ True := hd34
        obtain ⟨-, -, -, -, -, -, -, -, -, -, d81, -, d83, -, -, d86, -⟩ := hd34
        refine lw_sub (E' := [(13, (.bool false)), (15, undef), (18, undef), (1, (.pointer (some p1))), (2, (.bool false))]) ⟨(congrArg some d81), (congrArg some d83), (congrArg some d86), rfl, rfl, trivial⟩ ?_
        refine lw_off rfl rfl rfl rfl rfl rfl ?_
        refine lw_op rfl rfl rfl (ow_pickF rfl rfl rfl ?_)
        refine lw_op rfl rfl rfl (ow_assign rfl rfl ?_)
        refine lw_nil ?_
        refine ew_then ?_
        refine cw_ret ?_
        obtain rfl := Option.some.inj h
        exact ew_ret (res1 rfl (.tmp rfl)) ⟨_, rfl, ((vbool _)), hC43.bx⟩
  · subst hc1
    refine cw_sub (E' := [(1, (.pointer (some p1))), (2, (.bool false))]) ⟨rfl, rfl, trivial⟩ ?_
    refine cw_drawQ 16 [PA RInt M a_t.Field, PEq (.int .i64 a_t.Field), PEq (.bool false), PEq (.bool false), PEq undef, PEq undef, PEq undef, PEq undef, PEq undef, PEq (.bool false), PEq (.bool false), PEq undef, PEq undef, PEq undef, PEq undef, PEq undef] (by kernel_rfl) rfl (by kernel_rfl) ⟨PA.mono _ _ _, PEq.mono _, PEq.mono _, PEq.mono _, PEq.mono _, PEq.mono _, PEq.mono _, PEq.mono _, PEq.mono _, PEq.mono _, PEq.mono _, PEq.mono _, PEq.mono _, PEq.mono _, PEq.mono _, PEq.mono _, trivial⟩ ⟨?_, ?_, ?_, ?_, ?_, ?_, ?_, ?_, ?_, ?_, ?_, ?_, ?_, ?_, ?_, ?_, trivial⟩ ?_
    · intro w44 D hS35 hd35
      have hl44 := Le.no M hS35
      have hC44 := hC1.no hS35
      refine dg_sub (E' := [(1, (.pointer (some p1)))]) ⟨rfl, trivial⟩ ?_
      refine dg_plain rfl (ow_fieldAddr rfl rfl Tryd.underlying186 rfl (Tryd.sizeOf3 _) ?_)
      exact ⟨BX.refl _ _, ⟨_, rfl, (ARep.mono hl44 (hp1.fld fld_Test_Field))⟩⟩
    · intro w45 D hS36 hd36
      have hl45 := Le.no M hS36
      have hC45 := hC1.no hS36
      have hd36 : PA RInt M a_t.Field (D 0) w45 ∧ True := hd36
      obtain ⟨d87, -⟩ := hd36
      obtain ⟨p10, e9, ha9⟩ := d87
      refine dg_sub (E' := [(3, (.pointer (some p10)))]) ⟨(congrArg some e9), trivial⟩ ?_
      refine dg_plain rfl (ow_load (R := RInt) rfl rfl ha9 (Tryd.sizeOf3 _) (Tryd.isAgg3 _) fun v22 hv22 => ?_)
      obtain rfl := vint_eq hv22
      exact ⟨BX.refl _ _, rfl⟩
    · intro w46 D hS37 hd37
      have hl46 := Le.no M hS37
      have hC46 := hC1.no hS37
      have hd37 : PEq (.int .i64 a_t.Field) (D 1) w46 ∧ True := hd37
      obtain ⟨d88, -⟩ := hd37
      refine dg_sub (E' := [(4, (.int .i64 a_t.Field))]) ⟨(congrArg some d88), trivial⟩ ?_
      refine dg_plain rfl (ow_call rfl rfl Tryd.call83 (w_spec_l1In (hG.mono (hl1.trans hl46)) hC46.old hx1) fun v23 w47 hv23 => ?_)
      obtain ⟨hv23, hb10⟩ := hv23
      have hl47 := Le.no M hb10
      have hC47 := hC46.no hb10
      obtain rfl := vbool_eq hv23
      exact ⟨hb10, rfl⟩
    · intro w48 D hS38 hd38
      have hl48 := Le.no M hS38
      have hC48 := hC1.no hS38
      have hd38 : PEq (.bool false) (D 2) w48 ∧ PEq (.bool false) (D 2) w48 ∧ True := hd38
      obtain ⟨d89, d90, -⟩ := hd38
      refine dg_sub (E' := [(5, (.bool false))]) ⟨(congrArg some d89), trivial⟩ ?_
      refine dg_plain rfl (ow_move rfl rfl ?_)
      exact ⟨BX.refl _ _, rfl⟩
    · intro w49 D hS39 hd39
      have hl49 := Le.no M hS39
      have hC49 := hC1.no hS39
      have hd39 : PEq (.bool false) (D 3) w49 ∧ True := hd39
      obtain ⟨d91, -⟩ := hd39
      refine dg_sub (E' := [(6, (.bool false)), (1, (.pointer (some p1)))]) ⟨(congrArg some d91), rfl, trivial⟩ ?_
      exact dg_off rfl rfl rfl rfl ⟨BX.refl _ _, rfl⟩
    · intro w50 D hS40 hd40
      have hl50 := Le.no M hS40
      have hC50 := hC1.no hS40
      have hd40 : PEq undef (D 4) w50 ∧ PEq (.bool false) (D 3) w50 ∧ True := hd40
      obtain ⟨d92, d93, -⟩ := hd40
      refine dg_sub (E' := [(7, undef), (6, (.bool false))]) ⟨(congrArg some d92), (congrArg some d93), trivial⟩ ?_
      exact dg_off rfl rfl rfl rfl ⟨BX.refl _ _, rfl⟩
    · intro w51 D hS41 hd41
      have hl51 := Le.no M hS41
      have hC51 := hC1.no hS41
      have hd41 : PEq (.bool false) (D 3) w51 ∧ True := hd41
      obtain ⟨d94, -⟩ := hd41
      refine dg_sub (E' := [(6, (.bool false)), (1, (.pointer (some p1)))]) ⟨(congrArg some d94), rfl, trivial⟩ ?_
      exact dg_off rfl rfl rfl rfl ⟨BX.refl _ _, rfl⟩
    · intro w52 D hS42 hd42
      have hl52 := Le.no M hS42
      have hC52 := hC1.no hS42
      have hd42 : PEq undef (D 6) w52 ∧ PEq (.bool false) (D 3) w52 ∧ True := hd42
      obtain ⟨d95, d96, -⟩ := hd42
      refine dg_sub (E' := [(9, undef), (6, (.bool false))]) ⟨(congrArg some d95), (congrArg some d96), trivial⟩ ?_
      exact dg_off rfl rfl rfl rfl ⟨BX.refl _ _, rfl⟩
    · intro w53 D hS43 hd43
      have hl53 := Le.no M hS43
      have hC53 := hC1.no hS43
      have hd43 : PEq undef (D 5) w53 ∧ PEq undef (D 7) w53 ∧ PEq (.bool false) (D 3) w53 ∧ PEq (.bool false) (D 3) w53 ∧ True := hd43
      obtain ⟨d97, d98, d99, d100, -⟩ := hd43
      refine dg_sub (E' := [(8, undef), (10, undef), (6, (.bool false))]) ⟨(congrArg some d97), (congrArg some d98), (congrArg some d99), trivial⟩ ?_
      exact dg_off rfl rfl rfl rfl ⟨BX.refl _ _, rfl⟩
    · intro w54 D hS44 hd44
      have hl54 := Le.no M hS44
      have hC54 := hC1.no hS44
      have hd44 : PEq (.bool false) (D 3) w54 ∧ PEq undef (D 8) w54 ∧ True := hd44
      obtain ⟨d101, d102, -⟩ := hd44
      refine dg_sub (E' := [(6, (.bool false)), (11, undef)]) ⟨(congrArg some d101), (congrArg some d102), trivial⟩ ?_
      refine dg_plain rfl (ow_pickF rfl rfl rfl ?_)
      exact ⟨BX.refl _ _, rfl⟩
    · intro w55 D hS45 hd45
      have hl55 := Le.no M hS45
      have hC55 := hC1.no hS45
      have hd45 : PEq (.bool false) (D 9) w55 ∧ PEq undef (D 8) w55 ∧ True := hd45
      obtain ⟨d103, d104, -⟩ := hd45
      refine dg_sub (E' := [(12, (.bool false))]) ⟨(congrArg some d103), trivial⟩ ?_
      refine dg_plain rfl (ow_move rfl rfl ?_)
      exact ⟨BX.refl _ _, rfl⟩
    · intro w56 D hS46 hd46
      have hl56 := Le.no M hS46
      have hC56 := hC1.no hS46
      have hd46 : PEq (.bool false) (D 10) w56 ∧ True := hd46
      obtain ⟨d105, -⟩ := hd46
      refine dg_sub (E' := [(13, (.bool false)), (1, (.pointer (some p1)))]) ⟨(congrArg some d105), rfl, trivial⟩ ?_
      exact dg_off rfl rfl rfl rfl ⟨BX.refl _ _, rfl⟩
    · intro w57 D hS47 hd47
      have hl57 := Le.no M hS47
      have hC57 := hC1.no hS47
      have hd47 : PEq undef (D 11) w57 ∧ PEq (.bool false) (D 10) w57 ∧ True := hd47
      obtain ⟨d106, d107, -⟩ := hd47
      refine dg_sub (E' := [(14, undef), (13, (.bool false))]) ⟨(congrArg some d106), (congrArg some d107), trivial⟩ ?_
      exact dg_off rfl rfl rfl rfl ⟨BX.refl _ _, rfl⟩
    · intro w58 D hS48 hd48
      have hl58 := Le.no M hS48
      have hC58 := hC1.no hS48
      have hd48 : PEq (.bool false) (D 10) w58 ∧ True := hd48
      obtain ⟨d108, -⟩ := hd48
      refine dg_sub (E' := [(13, (.bool false)), (1, (.pointer (some p1)))]) ⟨(congrArg some d108), rfl, trivial⟩ ?_
      exact dg_off rfl rfl rfl rfl ⟨BX.refl _ _, rfl⟩
    · intro w59 D hS49 hd49
      have hl59 := Le.no M hS49
      have hC59 := hC1.no hS49
      have hd49 : PEq undef (D 13) w59 ∧ PEq (.bool false) (D 10) w59 ∧ True := hd49
      obtain ⟨d109, d110, -⟩ := hd49
      refine dg_sub (E' := [(16, undef), (13, (.bool false))]) ⟨(congrArg some d109), (congrArg some d110), trivial⟩ ?_
      exact dg_off rfl rfl rfl rfl ⟨BX.refl _ _, rfl⟩
    · intro w60 D hS50 hd50
      have hl60 := Le.no M hS50
      have hC60 := hC1.no hS50
      have hd50 : PEq undef (D 14) w60 ∧ PEq (.bool false) (D 10) w60 ∧ PEq (.bool false) (D 10) w60 ∧ True := hd50
      obtain ⟨d111, d112, d113, -⟩ := hd50
      refine dg_sub (E' := [(17, undef), (13, (.bool false))]) ⟨(congrArg some d111), (congrArg some d112), trivial⟩ ?_
      exact dg_off rfl rfl rfl rfl ⟨BX.refl _ _, rfl⟩
    · intro w61 D hS51 hd51
      have hl61 := Le.no M hS51
      have hC61 := hC1.no hS51
      have hd51 : PA RInt M a_t.Field (D 0) w61 ∧ PEq (.int .i64 a_t.Field) (D 1) w61 ∧ PEq (.bool false) (D 2) w61 ∧ PEq (.bool false) (D 3) w61 ∧ PEq undef (D 4) w61 ∧ PEq undef (D 5) w61 ∧ PEq undef (D 6) w61 ∧ PEq undef (D 7) w61 ∧ PEq undef (D 8) w61 ∧ PEq (.bool false) (D 9) w61 ∧ PEq (.bool false) (D 10) w61 ∧ PEq undef (D 11) w61 ∧ PEq undef (D 12) w61 ∧ PEq undef (D 13) w61 ∧ PEq undef (D 14) w61 ∧ PEq undef (D 15) w61 ∧ True := hd51
      obtain ⟨-, -, -, -, -, -, -, -, -, -, d124, -, d126, -, -, d129, -⟩ := hd51
      refine lw_sub (E' := [(13, (.bool false)), (15, undef), (18, undef), (1, (.pointer (some p1))), (2, (.bool false))]) ⟨(congrArg some d124), (congrArg some d126), (congrArg some d129), rfl, rfl, trivial⟩ ?_
      refine lw_off rfl rfl rfl rfl rfl rfl ?_
      refine lw_op rfl rfl rfl (ow_pickF rfl rfl rfl ?_)
      refine lw_op rfl rfl rfl (ow_assign rfl rfl ?_)
      refine lw_nil ?_
      refine ew_then ?_
      refine cw_ret ?_
      obtain rfl := Option.some.inj h
      exact ew_ret (res1 rfl (.tmp rfl)) ⟨_, rfl, ((vbool _)), hC61.bx⟩

theorem w_spec_TestsValid {w : World} {M : Nat → Prop} (hG : ARep (RArr 4 RShape) w M shapes ⟨0, 0, none⟩) (hO : ∀ b, M b → b < w.heap.size) {v0p : Value} {a_list : List Test} (h0 : VRep (RSlice RTest) w M a_list v0p) {r : Bool} (h : F.spec_TestsValid a_list = some r) :
    Calls Tryd.prog 102 [v0p].toArray w fun e w' => ∃ v, e = .returned v ∧ VRep RBool w' M r v ∧ BX No w w' := by
  have hC : Cx No w M w M := Cx.start hO (fun _ e => e.elim)
  refine walk (N := 19) Tryd.func102 rfl Tryd.ntmps102 rfl ?_
  refine cw_seq ?_
  refine cw_region ?_
  refine lw_op rfl rfl rfl (ow_assign rfl rfl ?_)
  refine lw_nil ?_
  refine ew_then ?_
  refine cw_seq ?_
  refine cw_seq ?_
  refine cw_region ?_
  refine lw_op rfl rfl rfl (ow_assign rfl rfl ?_)
  refine lw_nil ?_
  refine ew_then ?_
  replace h := bind_some h
  obtain ⟨lr1, hlr1, h⟩ := h
  refine cw_for hlr1 (fun s a w' => ∃ (M' : Nat → Prop), Fits 19 [(0, v0p), (3, (.int .i64 s))] a ∧ Le w M w' M' ∧ Cx No w M w' M') ?_ ?_ ?_
  · intro a ha
    exact ⟨M, ha.sub ⟨rfl, rfl, trivial⟩, Le.refl _ _, hC⟩
  · rintro k1 a w1 sr1 ⟨M1, hF1, hl1, hC1⟩ hb1 hR1
    refine cw_at (E := [(0, v0p), (3, (.int .i64 k1))]) hF1 ?_
    refine cw_seq ?_
    refine cw_seq ?_
    refine cw_region ?_
    refine lw_op rfl rfl rfl (ow_move rfl rfl ?_)
    refine lw_op rfl rfl rfl (ow_move rfl rfl ?_)
    refine lw_op rfl rfl rfl (ow_len rfl rfl (VRep.mono hl1 h0) Tryd.underlying74 rfl ?_)
    refine lw_op rfl rfl rfl (ow_lss rfl rfl rfl fun bb1 hbb1 => ?_)
    refine lw_nil ?_
    refine ew_then ?_
    replace hb1 := cond_some hb1
    rcases hb1 with ⟨hc1, hb1⟩ | ⟨hc1, hb1⟩
    · obtain rfl := hbb1.trans hc1
      refine cw_true rfl ?_
      refine cw_skip ?_
      refine ew_then ?_
      refine cw_seq ?_
      refine cw_block ?_
      refine cw_seq ?_
      refine cw_region ?_
      refine lw_op rfl rfl rfl (ow_move rfl rfl ?_)
      refine lw_op rfl rfl rfl (ow_move rfl rfl ?_)
      replace hb1 := bind_some hb1
      obtain ⟨x1, hx1, hb1⟩ := hb1
      refine lw_op rfl rfl rfl (ow_indexSlice (R := RTest) rfl rfl rfl (VRep.mono hl1 h0) Tryd.underlying74 (Tryd.sizeOf186 _) hx1 fun p1 hp1 => ?_)
      refine lw_op rfl rfl rfl (ow_load (R := RTest) rfl rfl hp1 (Tryd.sizeOf186 _) (Tryd.isAgg186 _) fun v2 hv2 => ?_)
      replace hb1 := bind_some hb1
      obtain ⟨x2, hx2, hb1⟩ := hb1
      refine lw_op rfl rfl rfl (ow_call rfl rfl Tryd.call138 (w_spec_TestValid (hG.mono hl1) hC1.old hv2 hx2) fun v3 w2 hv3 => ?_)
      obtain ⟨hv3, hb2⟩ := hv3
      have hl2 := Le.no M1 hb2
      have hC2 := hC1.no hb2
      obtain rfl := vbool_eq hv3
      refine lw_op rfl rfl rfl (ow_not rfl rfl ?_)
      refine lw_nil ?_
      refine ew_then ?_
      replace hb1 := cond_some hb1
      rcases hb1 with ⟨hc2, hb1⟩ | ⟨hc2, hb1⟩
      · subst hc2
        refine cw_false rfl ?_
        refine cw_skip ?_
        refine ew_blockN ?_
        refine ew_then ?_
        refine cw_region ?_
        refine lw_op rfl rfl rfl (ow_move rfl rfl ?_)
        refine lw_op rfl rfl rfl (ow_add rfl rfl rfl ?_)
        refine lw_op rfl rfl rfl (ow_assign rfl rfl ?_)
        refine lw_nil ?_
        refine ew_nxt (W (k1 + 1)) hb1 fun a ha => ⟨M1, ?_, (hl1.trans hl2), hC2⟩
        exact ha.sub ⟨rfl, rfl, trivial⟩
      · subst hc2
        refine cw_true rfl ?_
        refine cw_seq ?_
        refine cw_region ?_
        refine lw_op rfl rfl rfl (ow_assign rfl rfl ?_)
        refine lw_nil ?_
        refine ew_then ?_
        refine cw_ret ?_
        refine ew_blockR ?_
        refine ew_thenR ?_
        refine ew_thenR ?_
        refine ew_blockR ?_
        refine ew_brkR ?_
        refine ew_thenR ?_
        have e1 := hR1 _ (Option.some.inj hb1).symm
        subst e1
        obtain rfl := Option.some.inj h
        exact ew_ret (res1 rfl (.tmp rfl)) ⟨_, rfl, ((vbool _)), hC2.bx⟩
    · obtain rfl := hbb1.trans hc1
      refine cw_false rfl ?_
      refine cw_exit ?_
      refine ew_thenX ?_
      refine ew_thenX ?_
      refine ew_blockX ?_
      refine ew_brk k1 hb1 fun a ha => ⟨M1, ?_, hl1, hC1⟩
      exact ha.sub ⟨rfl, rfl, trivial⟩
  · rintro k2 a w3 hlr2 ⟨M2, hF2, hl3, hC3⟩
    subst hlr2
    refine ew_at (E := [(0, v0p), (3, (.int .i64 k2))]) hF2 ?_
    refine ew_then ?_
    refine cw_seq ?_
    refine cw_region ?_
    refine lw_op rfl rfl rfl (ow_move rfl rfl ?_)
    refine lw_op rfl rfl rfl (ow_len rfl rfl (VRep.mono hl3 h0) Tryd.underlying74 rfl ?_)
    refine lw_op rfl rfl rfl (ow_leq rfl rfl rfl fun bb2 hbb2 => ?_)
    refine lw_op rfl rfl rfl (ow_assign rfl rfl ?_)
    refine lw_nil ?_
    refine ew_then ?_
    refine cw_ret ?_
    obtain rfl := Option.some.inj h
    exact ew_ret (res1 rfl (.tmp rfl)) ⟨_, rfl, ((vbool_of hbb2)), hC3.bx⟩

theorem w_spec_RuleValid {w : World} {M : Nat → Prop} (hG : ARep (RArr 4 RShape) w M shapes ⟨0, 0, none⟩) (hO : ∀ b, M b → b < w.heap.size) {v0p : Value} {a_r : Rule} (h0 : VRep RRule w M a_r v0p) {r : Bool} (h : F.spec_RuleValid a_r = some r) :
    Calls Tryd.prog 52 [v0p].toArray w fun e w' => ∃ v, e = .returned v ∧ VRep RBool w' M r v ∧ BX No w w' := by
  have hC : Cx No w M w M := Cx.start hO (fun _ e => e.elim)
  refine walk (N := 31) Tryd.func52 rfl Tryd.ntmps52 rfl ?_
  refine cw_seq ?_
  refine cw_region ?_
  refine lw_op rfl rfl rfl (ow_box (R := RRule) rfl rfl h0 hC fun p1 w1 hp1 hb1 hl1 hC1 => ?_)
  refine lw_op rfl rfl rfl (ow_assign rfl rfl ?_)
  refine lw_nil ?_
  refine ew_then ?_
  refine cw_seq ?_
  refine cw_region ?_
  refine lw_op rfl rfl rfl (ow_fieldAddr rfl rfl Tryd.underlying76 rfl (Tryd.sizeOf74 _) ?_)
  refine lw_op rfl rfl rfl (ow_load (R := (RSlice RTest)) rfl rfl (hp1.fld fld_Rule_Tests) (Tryd.sizeOf74 _) (Tryd.isAgg74 _) fun v1 hv1 => ?_)
  replace h := bind_some h
  obtain ⟨x1, hx1, h⟩ := h
  refine lw_op rfl rfl rfl (ow_call rfl rfl Tryd.call102 (w_spec_TestsValid (hG.mono hl1) hC1.old hv1 hx1) fun v2 w2 hv2 => ?_)
  obtain ⟨hv2, hb2⟩ := hv2
  have hl2 := Le.no M hb2
  have hC2 := hC1.no hb2
  obtain rfl := vbool_eq hv2
  refine lw_op rfl rfl rfl (ow_move rfl rfl ?_)
  replace h := cond_some h
  rcases h with ⟨hc1, h⟩ | ⟨hc1, h⟩
  · subst hc1
    refine lw_on rfl rfl rfl rfl rfl rfl (ow_fieldAddr rfl rfl Tryd.underlying76 rfl (Tryd.sizeOf3 _) ?_)
    refine lw_on rfl rfl rfl rfl rfl rfl (ow_load (R := RInt) rfl rfl (ARep.mono hl2 (hp1.fld fld_Rule_Action)) (Tryd.sizeOf3 _) (Tryd.isAgg3 _) fun v3 hv3 => ?_)
    obtain rfl := vint_eq hv3
    replace h := bind_some h
    obtain ⟨x2, hx2, h⟩ := h
    refine lw_on rfl rfl rfl rfl rfl rfl (ow_call rfl rfl Tryd.call83 (w_spec_l1In (hG.mono (hl1.trans hl2)) hC2.old hx2) fun v4 w3 hv4 => ?_)
    obtain ⟨hv4, hb3⟩ := hv4
    have hl3 := Le.no M hb3
    have hC3 := hC2.no hb3
    obtain rfl := vbool_eq hv4
    refine lw_op rfl rfl rfl (ow_pickT rfl rfl rfl ?_)
    refine lw_op rfl rfl rfl (ow_move rfl rfl ?_)
    replace h := cond_some h
    rcases h with ⟨hc2, h⟩ | ⟨hc2, h⟩
    · subst hc2
      refine lw_on rfl rfl rfl rfl rfl rfl (ow_fieldAddr rfl rfl Tryd.underlying76 rfl (Tryd.sizeOf3 _) ?_)
      refine lw_on rfl rfl rfl rfl rfl rfl (ow_load (R := RInt) rfl rfl (ARep.mono (hl2.trans hl3) (hp1.fld fld_Rule_Action)) (Tryd.sizeOf3 _) (Tryd.isAgg3 _) fun v5 hv5 => ?_)
      obtain rfl := vint_eq hv5
      refine lw_on rfl rfl rfl rfl rfl rfl (ow_eqlI rfl rfl rfl fun bb1 hbb1 => ?_)
      refine lw_on rfl rfl rfl rfl rfl rfl (ow_move rfl rfl ?_)
      replace h := cond_some h
      rcases h with ⟨hc3, h⟩ | ⟨hc3, h⟩
      · obtain rfl := hbb1.trans hc3
        refine lw_on rfl rfl rfl rfl rfl rfl (ow_fieldAddr rfl rfl Tryd.underlying76 rfl (Tryd.sizeOf3 _) ?_)
        refine lw_on rfl rfl rfl rfl rfl rfl (ow_load (R := RInt) rfl rfl (ARep.mono (hl2.trans hl3) (hp1.fld fld_Rule_Chain)) (Tryd.sizeOf3 _) (Tryd.isAgg3 _) fun v6 hv6 => ?_)
        obtain rfl := vint_eq hv6
        replace h := bind_some h
        obtain ⟨x3, hx3, h⟩ := h
        refine lw_on rfl rfl rfl rfl rfl rfl (ow_call rfl rfl Tryd.call83 (w_spec_l1In (hG.mono ((hl1.trans hl2).trans hl3)) hC3.old hx3) fun v7 w4 hv7 => ?_)
        obtain ⟨hv7, hb4⟩ := hv7
        have hl4 := Le.no M hb4
        have hC4 := hC3.no hb4
        obtain rfl := vbool_eq hv7
        refine lw_on rfl rfl rfl rfl rfl rfl (ow_pickT rfl rfl rfl ?_)
        refine lw_on rfl rfl rfl rfl rfl rfl (ow_move rfl rfl ?_)
        replace h := cond_some h
        rcases h with ⟨hc4, h⟩ | ⟨hc4, h⟩
        · subst hc4
          refine lw_off rfl rfl rfl rfl rfl rfl ?_
          refine lw_off rfl rfl rfl rfl rfl rfl ?_
          refine lw_off rfl rfl rfl rfl rfl rfl ?_
          refine lw_off rfl rfl rfl rfl rfl rfl ?_
          refine lw_off' rfl rfl rfl rfl rfl rfl ?_
          refine lw_off' rfl rfl rfl rfl rfl rfl ?_
          refine lw_off' rfl rfl rfl rfl rfl rfl ?_
          refine lw_off rfl rfl rfl rfl rfl rfl ?_
          refine lw_on rfl rfl rfl rfl rfl rfl (ow_pickT rfl rfl rfl ?_)
          refine lw_op rfl rfl rfl (ow_pickT rfl rfl rfl ?_)
          refine lw_op rfl rfl rfl (ow_assign rfl rfl ?_)
          refine lw_nil ?_
          refine ew_then ?_
          refine cw_ret ?_
          obtain rfl := Option.some.inj h
          exact ew_ret (res1 rfl (.tmp rfl)) ⟨_, rfl, ((vbool _)), hC4.bx⟩
        · subst hc4
          refine lw_on rfl rfl rfl rfl rfl rfl (ow_fieldAddr rfl rfl Tryd.underlying76 rfl (Tryd.sizeOf3 _) ?_)
          refine lw_on rfl rfl rfl rfl rfl rfl (ow_load (R := RInt) rfl rfl (ARep.mono ((hl2.trans hl3).trans hl4) (hp1.fld fld_Rule_Action)) (Tryd.sizeOf3 _) (Tryd.isAgg3 _) fun v8 hv8 => ?_)
          obtain rfl := vint_eq hv8
          refine lw_on rfl rfl rfl rfl rfl rfl (ow_neqI rfl rfl rfl fun bb2 hbb2 => ?_)
          refine lw_on rfl rfl rfl rfl rfl rfl (ow_move rfl rfl ?_)
          replace h := cond_some h
          rcases h with ⟨hc5, h⟩ | ⟨hc5, h⟩
          · obtain rfl := hbb2.trans hc5
            refine lw_on rfl rfl rfl rfl rfl rfl (ow_fieldAddr rfl rfl Tryd.underlying76 rfl (Tryd.sizeOf3 _) ?_)
            refine lw_on rfl rfl rfl rfl rfl rfl (ow_load (R := RInt) rfl rfl (ARep.mono ((hl2.trans hl3).trans hl4) (hp1.fld fld_Rule_Chain)) (Tryd.sizeOf3 _) (Tryd.isAgg3 _) fun v9 hv9 => ?_)
            obtain rfl := vint_eq hv9
            refine lw_on rfl rfl rfl rfl rfl rfl (ow_eqlI rfl rfl rfl fun bb3 hbb3 => ?_)
            refine lw_on rfl rfl rfl rfl rfl rfl (ow_pickT rfl rfl rfl ?_)
            refine lw_on rfl rfl rfl rfl rfl rfl (ow_pickF rfl rfl rfl ?_)
            refine lw_op rfl rfl rfl (ow_pickT rfl rfl rfl ?_)
            refine lw_op rfl rfl rfl (ow_assign rfl rfl ?_)
            refine lw_nil ?_
            refine ew_then ?_
            refine cw_ret ?_
            obtain rfl := Option.some.inj h
            exact ew_ret (res1 rfl (.tmp rfl)) ⟨_, rfl, ((vbool_of hbb3)), hC4.bx⟩
          · obtain rfl := hbb2.trans hc5
            refine lw_off rfl rfl rfl rfl rfl rfl ?_
            refine lw_off rfl rfl rfl rfl rfl rfl ?_
            refine lw_off rfl rfl rfl rfl rfl rfl ?_
            refine lw_on rfl rfl rfl rfl rfl rfl (ow_pickF rfl rfl rfl ?_)
            refine lw_on rfl rfl rfl rfl rfl rfl (ow_pickF rfl rfl rfl ?_)
            refine lw_op rfl rfl rfl (ow_pickT rfl rfl rfl ?_)
            refine lw_op rfl rfl rfl (ow_assign rfl rfl ?_)
            refine lw_nil ?_
            refine ew_then ?_
            refine cw_ret ?_
            obtain rfl := Option.some.inj h
            exact ew_ret (res1 rfl (.tmp rfl)) ⟨_, rfl, ((vbool _)), hC4.bx⟩
      · obtain rfl := hbb1.trans hc3
        refine lw_off rfl rfl rfl rfl rfl rfl ?_
        refine lw_off rfl rfl rfl rfl rfl rfl ?_
        refine lw_off rfl rfl rfl rfl rfl rfl ?_
        refine lw_on rfl rfl rfl rfl rfl rfl (ow_pickF rfl rfl rfl ?_)
        refine lw_on rfl rfl rfl rfl rfl rfl (ow_move rfl rfl ?_)
        refine lw_on rfl rfl rfl rfl rfl rfl (ow_fieldAddr rfl rfl Tryd.underlying76 rfl (Tryd.sizeOf3 _) ?_)
        refine lw_on rfl rfl rfl rfl rfl rfl (ow_load (R := RInt) rfl rfl (ARep.mono (hl2.trans hl3) (hp1.fld fld_Rule_Action)) (Tryd.sizeOf3 _) (Tryd.isAgg3 _) fun v10 hv10 => ?_)
        obtain rfl := vint_eq hv10
        refine lw_on rfl rfl rfl rfl rfl rfl (ow_neqI rfl rfl rfl fun bb4 hbb4 => ?_)
        refine lw_on rfl rfl rfl rfl rfl rfl (ow_move rfl rfl ?_)
        replace h := cond_some h
        rcases h with ⟨hc6, h⟩ | ⟨hc6, h⟩
        · obtain rfl := hbb4.trans hc6
          refine lw_on rfl rfl rfl rfl rfl rfl (ow_fieldAddr rfl rfl Tryd.underlying76 rfl (Tryd.sizeOf3 _) ?_)
          refine lw_on rfl rfl rfl rfl rfl rfl (ow_load (R := RInt) rfl rfl (ARep.mono (hl2.trans hl3) (hp1.fld fld_Rule_Chain)) (Tryd.sizeOf3 _) (Tryd.isAgg3 _) fun v11 hv11 => ?_)
          obtain rfl := vint_eq hv11
          refine lw_on rfl rfl rfl rfl rfl rfl (ow_eqlI rfl rfl rfl fun bb5 hbb5 => ?_)
          refine lw_on rfl rfl rfl rfl rfl rfl (ow_pickT rfl rfl rfl ?_)
          refine lw_on rfl rfl rfl rfl rfl rfl (ow_pickF rfl rfl rfl ?_)
          refine lw_op rfl rfl rfl (ow_pickT rfl rfl rfl ?_)
          refine lw_op rfl rfl rfl (ow_assign rfl rfl ?_)
          refine lw_nil ?_
          refine ew_then ?_
          refine cw_ret ?_
          obtain rfl := Option.some.inj h
          exact ew_ret (res1 rfl (.tmp rfl)) ⟨_, rfl, ((vbool_of hbb5)), hC3.bx⟩
        · obtain rfl := hbb4.trans hc6
          refine lw_off rfl rfl rfl rfl rfl rfl ?_
          refine lw_off rfl rfl rfl rfl rfl rfl ?_
          refine lw_off rfl rfl rfl rfl rfl rfl ?_
          refine lw_on rfl rfl rfl rfl rfl rfl (ow_pickF rfl rfl rfl ?_)
          refine lw_on rfl rfl rfl rfl rfl rfl (ow_pickF rfl rfl rfl ?_)
          refine lw_op rfl rfl rfl (ow_pickT rfl rfl rfl ?_)
          refine lw_op rfl rfl rfl (ow_assign rfl rfl ?_)
          refine lw_nil ?_
          refine ew_then ?_
          refine cw_ret ?_
          obtain rfl := Option.some.inj h
          exact ew_ret (res1 rfl (.tmp rfl)) ⟨_, rfl, ((vbool _)), hC3.bx⟩
    · subst hc2
      refine lw_off rfl rfl rfl rfl rfl rfl ?_
      refine lw_off rfl rfl rfl rfl rfl rfl ?_
      refine lw_off rfl rfl rfl rfl rfl rfl ?_
      refine lw_off rfl rfl rfl rfl rfl rfl ?_
      refine lw_off' rfl rfl rfl rfl rfl rfl ?_
      refine lw_off' rfl rfl rfl rfl rfl rfl ?_
      refine lw_off' rfl rfl rfl rfl rfl rfl ?_
      refine lw_off rfl rfl rfl rfl rfl rfl ?_
      refine lw_off rfl rfl rfl rfl rfl rfl ?_
      refine lw_off' rfl rfl rfl rfl rfl rfl ?_
      refine lw_off' rfl rfl rfl rfl rfl rfl ?_
      refine lw_off' rfl rfl rfl rfl rfl rfl ?_
      refine lw_off' rfl rfl rfl rfl rfl rfl ?_
      refine lw_off' rfl rfl rfl rfl rfl rfl ?_
      refine lw_off' rfl rfl rfl rfl rfl rfl ?_
      refine lw_off' rfl rfl rfl rfl rfl rfl ?_
      refine lw_off' rfl rfl rfl rfl rfl rfl ?_
      refine lw_off rfl rfl rfl rfl rfl rfl ?_
      refine lw_op rfl rfl rfl (ow_pickF rfl rfl rfl ?_)
      refine lw_op rfl rfl rfl (ow_assign rfl rfl ?_)
      refine lw_nil ?_
      refine ew_then ?_
      refine cw_ret ?_
      obtain rfl := Option.some.inj h
      exact ew_ret (res1 rfl (.tmp rfl)) ⟨_, rfl, ((vbool _)), hC3.bx⟩
  · subst hc1
    refine lw_off rfl rfl rfl rfl rfl rfl ?_
    refine lw_off rfl rfl rfl rfl rfl rfl ?_
    refine lw_off rfl rfl rfl rfl rfl rfl ?_
    refine lw_op rfl rfl rfl (ow_pickF rfl rfl rfl ?_)
    refine lw_op rfl rfl rfl (ow_move rfl rfl ?_)
    refine lw_off rfl rfl rfl rfl rfl rfl ?_
    refine lw_off rfl rfl rfl rfl rfl rfl ?_
    refine lw_off rfl rfl rfl rfl rfl rfl ?_
    refine lw_off rfl rfl rfl rfl rfl rfl ?_
    refine lw_off' rfl rfl rfl rfl rfl rfl ?_
    refine lw_off' rfl rfl rfl rfl rfl rfl ?_
    refine lw_off' rfl rfl rfl rfl rfl rfl ?_
    refine lw_off rfl rfl rfl rfl rfl rfl ?_
    refine lw_off rfl rfl rfl rfl rfl rfl ?_
    refine lw_off' rfl rfl rfl rfl rfl rfl ?_
    refine lw_off' rfl rfl rfl rfl rfl rfl ?_
    refine lw_off' rfl rfl rfl rfl rfl rfl ?_
    refine lw_off' rfl rfl rfl rfl rfl rfl ?_
    refine lw_off' rfl rfl rfl rfl rfl rfl ?_
    refine lw_off' rfl rfl rfl rfl rfl rfl ?_
    refine lw_off' rfl rfl rfl rfl rfl rfl ?_
    refine lw_off' rfl rfl rfl rfl rfl rfl ?_
    refine lw_off rfl rfl rfl rfl rfl rfl ?_
    refine lw_op rfl rfl rfl (ow_pickF rfl rfl rfl ?_)
    refine lw_op rfl rfl rfl (ow_assign rfl rfl ?_)
    refine lw_nil ?_
    refine ew_then ?_
    refine cw_ret ?_
    obtain rfl := Option.some.inj h
    exact ew_ret (res1 rfl (.tmp rfl)) ⟨_, rfl, ((vbool _)), hC2.bx⟩

theorem w_spec_RulesValid {w : World} {M : Nat → Prop} (hG : ARep (RArr 4 RShape) w M shapes ⟨0, 0, none⟩) (hO : ∀ b, M b → b < w.heap.size) {v0p : Value} {a_list : List Rule} (h0 : VRep (RSlice RRule) w M a_list v0p) {r : Bool} (h : F.spec_RulesValid a_list = some r) :
    Calls Tryd.prog 61 [v0p].toArray w fun e w' => ∃ v, e = .returned v ∧ VRep RBool w' M r v ∧ BX No w w' := by
  have hC : Cx No w M w M := Cx.start hO (fun _ e => e.elim)
  refine walk (N := 19) Tryd.func61 rfl Tryd.ntmps61 rfl ?_
  refine cw_seq ?_
  refine cw_region ?_
  refine lw_op rfl rfl rfl (ow_assign rfl rfl ?_)
  refine lw_nil ?_
  refine ew_then ?_
  refine cw_seq ?_
  refine cw_seq ?_
  refine cw_region ?_
  refine lw_op rfl rfl rfl (ow_assign rfl rfl ?_)
  refine lw_nil ?_
  refine ew_then ?_
  replace h := bind_some h
  obtain ⟨lr1, hlr1, h⟩ := h
  refine cw_for hlr1 (fun s a w' => ∃ (M' : Nat → Prop), Fits 19 [(0, v0p), (3, (.int .i64 s))] a ∧ Le w M w' M' ∧ Cx No w M w' M') ?_ ?_ ?_
  · intro a ha
    exact ⟨M, ha.sub ⟨rfl, rfl, trivial⟩, Le.refl _ _, hC⟩
  · rintro k1 a w1 sr1 ⟨M1, hF1, hl1, hC1⟩ hb1 hR1
    refine cw_at (E := [(0, v0p), (3, (.int .i64 k1))]) hF1 ?_
    refine cw_seq ?_
    refine cw_seq ?_
    refine cw_region ?_
    refine lw_op rfl rfl rfl (ow_move rfl rfl ?_)
    refine lw_op rfl rfl rfl (ow_move rfl rfl ?_)
    refine lw_op rfl rfl rfl (ow_len rfl rfl (VRep.mono hl1 h0) Tryd.underlying86 rfl ?_)
    refine lw_op rfl rfl rfl (ow_lss rfl rfl rfl fun bb1 hbb1 => ?_)
    refine lw_nil ?_
    refine ew_then ?_
    replace hb1 := cond_some hb1
    rcases hb1 with ⟨hc1, hb1⟩ | ⟨hc1, hb1⟩
    · obtain rfl := hbb1.trans hc1
      refine cw_true rfl ?_
      refine cw_skip ?_
      refine ew_then ?_
      refine cw_seq ?_
      refine cw_block ?_
      refine cw_seq ?_
      refine cw_region ?_
      refine lw_op rfl rfl rfl (ow_move rfl rfl ?_)
      refine lw_op rfl rfl rfl (ow_move rfl rfl ?_)
      replace hb1 := bind_some hb1
      obtain ⟨x1, hx1, hb1⟩ := hb1
      refine lw_op rfl rfl rfl (ow_indexSlice (R := RRule) rfl rfl rfl (VRep.mono hl1 h0) Tryd.underlying86 (Tryd.sizeOf76 _) hx1 fun p1 hp1 => ?_)
      refine lw_op rfl rfl rfl (ow_load (R := RRule) rfl rfl hp1 (Tryd.sizeOf76 _) (Tryd.isAgg76 _) fun v2 hv2 => ?_)
      replace hb1 := bind_some hb1
      obtain ⟨x2, hx2, hb1⟩ := hb1
      refine lw_op rfl rfl rfl (ow_call rfl rfl Tryd.call52 (w_spec_RuleValid (hG.mono hl1) hC1.old hv2 hx2) fun v3 w2 hv3 => ?_)
      obtain ⟨hv3, hb2⟩ := hv3
      have hl2 := Le.no M1 hb2
      have hC2 := hC1.no hb2
      obtain rfl := vbool_eq hv3
      refine lw_op rfl rfl rfl (ow_not rfl rfl ?_)
      refine lw_nil ?_
      refine ew_then ?_
      replace hb1 := cond_some hb1
      rcases hb1 with ⟨hc2, hb1⟩ | ⟨hc2, hb1⟩
      · subst hc2
        refine cw_false rfl ?_
        refine cw_skip ?_
        refine ew_blockN ?_
        refine ew_then ?_
        refine cw_region ?_
        refine lw_op rfl rfl rfl (ow_move rfl rfl ?_)
        refine lw_op rfl rfl rfl (ow_add rfl rfl rfl ?_)
        refine lw_op rfl rfl rfl (ow_assign rfl rfl ?_)
        refine lw_nil ?_
        refine ew_nxt (W (k1 + 1)) hb1 fun a ha => ⟨M1, ?_, (hl1.trans hl2), hC2⟩
        exact ha.sub ⟨rfl, rfl, trivial⟩
      · subst hc2
        refine cw_true rfl ?_
        refine cw_seq ?_
        refine cw_region ?_
        refine lw_op rfl rfl rfl (ow_assign rfl rfl ?_)
        refine lw_nil ?_
        refine ew_then ?_
        refine cw_ret ?_
        refine ew_blockR ?_
        refine ew_thenR ?_
        refine ew_thenR ?_
        refine ew_blockR ?_
        refine ew_brkR ?_
        refine ew_thenR ?_
        have e1 := hR1 _ (Option.some.inj hb1).symm
        subst e1
        obtain rfl := Option.some.inj h
        exact ew_ret (res1 rfl (.tmp rfl)) ⟨_, rfl, ((vbool _)), hC2.bx⟩
    · obtain rfl := hbb1.trans hc1
      refine cw_false rfl ?_
      refine cw_exit ?_
      refine ew_thenX ?_
      refine ew_thenX ?_
      refine ew_blockX ?_
      refine ew_brk k1 hb1 fun a ha => ⟨M1, ?_, hl1, hC1⟩
      exact ha.sub ⟨rfl, rfl, trivial⟩
  · rintro k2 a w3 hlr2 ⟨M2, hF2, hl3, hC3⟩
    subst hlr2
    refine ew_at (E := [(0, v0p), (3, (.int .i64 k2))]) hF2 ?_
    refine ew_then ?_
    refine cw_seq ?_
    refine cw_region ?_
    refine lw_op rfl rfl rfl (ow_move rfl rfl ?_)
    refine lw_op rfl rfl rfl (ow_len rfl rfl (VRep.mono hl3 h0) Tryd.underlying86 rfl ?_)
    refine lw_op rfl rfl rfl (ow_leq rfl rfl rfl fun bb2 hbb2 => ?_)
    refine lw_op rfl rfl rfl (ow_assign rfl rfl ?_)
    refine lw_nil ?_
    refine ew_then ?_
    refine cw_ret ?_
    obtain rfl := Option.some.inj h
    exact ew_ret (res1 rfl (.tmp rfl)) ⟨_, rfl, ((vbool_of hbb2)), hC3.bx⟩

theorem w_spec_l8Order {w : World} {M : Nat → Prop} (_hG : ARep (RArr 4 RShape) w M shapes ⟨0, 0, none⟩) (hO : ∀ b, M b → b < w.heap.size) {v0p : Value} {a_s : Ruleset} (h0 : VRep RRuleset w M a_s v0p) {r : (List Int)} (h : F.spec_l8Order a_s = some r) :
    Calls Tryd.prog 84 [v0p].toArray w fun e w' => ∃ v, e = .returned v ∧ VRep (RSlice RInt) w' M r v ∧ BX No w w' := by
  obtain ⟨i3, hi3, hz3, hs3, hy3⟩ := info3
  obtain ⟨i4, hi4, hz4, hs4, hy4⟩ := info4
  have hC : Cx No w M w M := Cx.start hO (fun _ e => e.elim)
  clear _hG
  refine walk (N := 74) Tryd.func84 rfl Tryd.ntmps84 rfl ?_
  refine cw_seq ?_
  refine cw_region ?_
  refine lw_op rfl rfl rfl (ow_box (R := RRuleset) rfl rfl h0 hC fun p1 w1 hp1 hb1 hl1 hC1 => ?_)
  refine lw_op rfl rfl rfl (ow_assign rfl rfl ?_)
  refine lw_nil ?_
  refine ew_then ?_
  refine cw_seq ?_
  refine cw_region ?_
  refine lw_op rfl rfl rfl (ow_fieldAddr rfl rfl Tryd.underlying57 rfl (Tryd.sizeOf55 _) ?_)
  refine lw_op rfl rfl rfl (ow_load (R := (RSlice (RSlice RRule))) rfl rfl (hp1.fld fld_Ruleset_Chains) (Tryd.sizeOf55 _) (Tryd.isAgg55 _) fun v1 hv1 => ?_)
  refine lw_op rfl rfl rfl (ow_len rfl rfl hv1 Tryd.underlying55 rfl ?_)
  replace h := bind_some h
  obtain ⟨mk1, hmk1, h⟩ := h
  refine lw_op rfl rfl rfl (ow_make (R := RBool) rfl rfl rfl Tryd.underlying163 hi4 hz4 hs4 hy4 rfl rfl (vbool false) hmk1 hC1 fun v2 w2 M1 hr1 hb2 hl2 hC2 hM1 hat1 => ?_)
  refine lw_op rfl rfl rfl (ow_assign rfl rfl ?_)
  refine lw_nil ?_
  refine ew_then ?_
  refine cw_seq ?_
  refine cw_region ?_
  refine lw_op rfl rfl rfl (ow_buildSlice0 (R := RInt) (e := 3) rfl (by kernel_rfl) hC2 fun p2 w3 M2 hr2 hb3 hl3 hC3 hM2 hat2 => ?_)
  have hr3 := hr1.go hb3 (fun _ _ e => e) hl3 hM2
  refine lw_op rfl rfl rfl (ow_assign rfl rfl ?_)
  refine lw_nil ?_
  refine ew_then ?_
  refine cw_seq ?_
  refine cw_seq ?_
  refine cw_region ?_
  refine lw_op rfl rfl rfl (ow_assign rfl rfl ?_)
  refine lw_nil ?_
  refine ew_then ?_
  replace h := bind_some h
  obtain ⟨lr1, hlr1, h⟩ := h
  refine cw_for hlr1 (fun s a w' => ∃ (M' : Nat → Prop) (v0c : Value), Fits 74 [(1, (.pointer (some p1))), (3, v2), (4, v0c), (5, (.int .i64 s.2.1))] a ∧ Le w3 M2 w' M' ∧ Cx No w M w' M' ∧ OwnRow RInt w.heap.size 3 w' M' s.1 v0c ∧ OwnRow RBool w.heap.size 4 w' M' s.2.2 v2) ?_ ?_ ?_
  · intro a ha
    exact ⟨M2, (.slice (some p2) 0 0), ha.sub ⟨rfl, rfl, rfl, rfl, trivial⟩, Le.refl _ _, hC3, hr2, hr3⟩
  · rintro ⟨y1, k1, y2⟩ a w4 sr1 ⟨M3, v3, hF1, hl4, hC4, hw1, hw2⟩ hb4 hR1
    refine cw_at (E := [(1, (.pointer (some p1))), (3, v2), (4, v3), (5, (.int .i64 k1))]) hF1 ?_
    refine cw_seq ?_
    refine cw_seq ?_
    refine cw_region ?_
    refine lw_op rfl rfl rfl (ow_move rfl rfl ?_)
    refine lw_op rfl rfl rfl (ow_fieldAddr rfl rfl Tryd.underlying57 rfl (Tryd.sizeOf55 _) ?_)
    refine lw_op rfl rfl rfl (ow_load (R := (RSlice (RSlice RRule))) rfl rfl (ARep.mono ((hl2.trans hl3).trans hl4) (hp1.fld fld_Ruleset_Chains)) (Tryd.sizeOf55 _) (Tryd.isAgg55 _) fun v6 hv6 => ?_)
    refine lw_op rfl rfl rfl (ow_len rfl rfl hv6 Tryd.underlying55 rfl ?_)
    refine lw_op rfl rfl rfl (ow_lss rfl rfl rfl fun bb1 hbb1 => ?_)
    refine lw_nil ?_
    refine ew_then ?_
    replace hb4 := cond_some hb4
    rcases hb4 with ⟨hc1, hb4⟩ | ⟨hc1, hb4⟩
    · obtain rfl := hbb1.trans hc1
      refine cw_true rfl ?_
      refine cw_skip ?_
      refine ew_then ?_
      refine cw_seq ?_
      refine cw_block ?_
      refine cw_seq ?_
      refine cw_region ?_
      refine lw_op rfl rfl rfl (ow_assign rfl rfl ?_)
      refine lw_nil ?_
      refine ew_then ?_
      replace hb4 := bind_some hb4
      obtain ⟨lr2, hlr2, hb4⟩ := hb4
      refine cw_for hlr2 (fun s a w' => ∃ (M' : Nat → Prop) (v0c : Value), Fits 74 [(1, (.pointer (some p1))), (3, v2), (4, v0c), (5, (.int .i64 k1)), (6, (.int .i64 s.2.1))] a ∧ Le w4 M3 w' M' ∧ Cx No w M w' M' ∧ OwnRow RInt w.heap.size 3 w' M' s.1 v0c ∧ OwnRow RBool w.heap.size 4 w' M' s.2.2 v2) ?_ ?_ ?_
      · intro a ha
        exact ⟨M3, v3, ha.sub ⟨rfl, rfl, rfl, rfl, rfl, trivial⟩, Le.refl _ _, hC4, hw1, hw2⟩
      · rintro ⟨y3, k2, y4⟩ a w5 sr2 ⟨M4, v7, hF2, hl5, hC5, hw3, hw4⟩ hb5 hR2
        refine cw_at (E := [(1, (.pointer (some p1))), (3, v2), (4, v7), (5, (.int .i64 k1)), (6, (.int .i64 k2))]) hF2 ?_
        refine cw_seq ?_
        refine cw_seq ?_
        refine cw_region ?_
        refine lw_op rfl rfl rfl (ow_move rfl rfl ?_)
        refine lw_op rfl rfl rfl (ow_fieldAddr rfl rfl Tryd.underlying57 rfl (Tryd.sizeOf55 _) ?_)
        refine lw_op rfl rfl rfl (ow_load (R := (RSlice (RSlice RRule))) rfl rfl (ARep.mono (((hl2.trans hl3).trans hl4).trans hl5) (hp1.fld fld_Ruleset_Chains)) (Tryd.sizeOf55 _) (Tryd.isAgg55 _) fun v10 hv10 => ?_)
        refine lw_op rfl rfl rfl (ow_len rfl rfl hv10 Tryd.underlying55 rfl ?_)
        refine lw_op rfl rfl rfl (ow_lss rfl rfl rfl fun bb2 hbb2 => ?_)
        refine lw_nil ?_
        refine ew_then ?_
        replace hb5 := cond_some hb5
        rcases hb5 with ⟨hc2, hb5⟩ | ⟨hc2, hb5⟩
        · obtain rfl := hbb2.trans hc2
          refine cw_true rfl ?_
          refine cw_skip ?_
          refine ew_then ?_
          refine cw_seq ?_
          refine cw_block ?_
          refine cw_seq ?_
          refine cw_region ?_
          refine lw_op rfl rfl rfl (ow_move rfl rfl ?_)
          refine lw_op rfl rfl rfl (ow_move rfl rfl ?_)
          replace hb5 := bind_some hb5
          obtain ⟨x1, hx1, hb5⟩ := hb5
          refine lw_op rfl rfl rfl (ow_indexRow (R := RBool) rfl rfl rfl hw4 Tryd.underlying163 (Tryd.sizeOf4 _) hx1 ?_)
          refine lw_op rfl rfl rfl (ow_loadElRow (R := RBool) (S := RBool) rfl rfl rfl hw4 (orow_blk hw4 hx1) hx1 (Fld.whole RBool) (Tryd.sizeOf4 _) (Tryd.isAgg4 _) fun v11 hv11 => ?_)
          obtain rfl := vbool_eq hv11
          refine lw_op rfl rfl rfl (ow_not rfl rfl ?_)
          refine lw_op rfl rfl rfl (ow_assign rfl rfl ?_)
          refine lw_nil ?_
          refine ew_then ?_
          refine cw_seq ?_
          refine cw_seq ?_
          refine cw_region ?_
          refine lw_op rfl rfl rfl (ow_assign rfl rfl ?_)
          refine lw_nil ?_
          refine ew_then ?_
          replace hb5 := bind_some hb5
          obtain ⟨lr3, hlr3, hb5⟩ := hb5
          refine cw_for hlr3 (fun s a w' => ∃ (M' : Nat → Prop), Fits 74 [(1, (.pointer (some p1))), (3, v2), (4, v7), (5, (.int .i64 k1)), (6, (.int .i64 k2)), (7, (.bool s.1)), (8, (.int .i64 s.2.1))] a ∧ Le w5 M4 w' M' ∧ Cx No w M w' M' ∧ OwnRow RBool w.heap.size 4 w' M' s.2.2.1 v2 ∧ OwnRow RInt w.heap.size 3 w' M' s.2.2.2 v7) ?_ ?_ ?_
          · intro a ha
            exact ⟨M4, ha.sub ⟨rfl, rfl, rfl, rfl, rfl, rfl, rfl, trivial⟩, Le.refl _ _, hC5, hw4, hw3⟩
          · rintro ⟨y5, k3, y6, y7⟩ a w6 sr3 ⟨M5, hF3, hl6, hC6, hw5, hw6⟩ hb6 hR3
            refine cw_at (E := [(1, (.pointer (some p1))), (3, v2), (4, v7), (5, (.int .i64 k1)), (6, (.int .i64 k2)), (7, (.bool y5)), (8, (.int .i64 k3))]) hF3 ?_
            refine cw_seq ?_
            refine cw_seq ?_
            refine cw_region ?_
            refine lw_op rfl rfl rfl (ow_move rfl rfl ?_)
            refine lw_op rfl rfl rfl (ow_fieldAddr rfl rfl Tryd.underlying57 rfl (Tryd.sizeOf55 _) ?_)
            refine lw_op rfl rfl rfl (ow_load (R := (RSlice (RSlice RRule))) rfl rfl (ARep.mono ((((hl2.trans hl3).trans hl4).trans hl5).trans hl6) (hp1.fld fld_Ruleset_Chains)) (Tryd.sizeOf55 _) (Tryd.isAgg55 _) fun v16 hv16 => ?_)
            refine lw_op rfl rfl rfl (ow_move rfl rfl ?_)
            replace hb6 := bind_some hb6
            obtain ⟨x2, hx2, hb6⟩ := hb6
            refine lw_op rfl rfl rfl (ow_indexSlice (R := (RSlice RRule)) rfl rfl rfl hv16 Tryd.underlying55 (Tryd.sizeOf86 _) hx2 fun p3 hp3 => ?_)
            refine lw_op rfl rfl rfl (ow_load (R := (RSlice RRule)) rfl rfl hp3 (Tryd.sizeOf86 _) (Tryd.isAgg86 _) fun v17 hv17 => ?_)
            refine lw_op rfl rfl rfl (ow_len rfl rfl hv17 Tryd.underlying86 rfl ?_)
            refine lw_op rfl rfl rfl (ow_lss rfl rfl rfl fun bb3 hbb3 => ?_)
            refine lw_nil ?_
            refine ew_then ?_
            replace hb6 := cond_some hb6
            rcases hb6 with ⟨hc3, hb6⟩ | ⟨hc3, hb6⟩
            · obtain rfl := hbb3.trans hc3
              refine cw_true rfl ?_
              refine cw_skip ?_
              refine ew_then ?_
              refine cw_seq ?_
              refine cw_block ?_
              refine cw_seq ?_
              refine cw_region ?_
              refine lw_op rfl rfl rfl (ow_fieldAddr rfl rfl Tryd.underlying57 rfl (Tryd.sizeOf55 _) ?_)
              refine lw_op rfl rfl rfl (ow_load (R := (RSlice (RSlice RRule))) rfl rfl (ARep.mono ((((hl2.trans hl3).trans hl4).trans hl5).trans hl6) (hp1.fld fld_Ruleset_Chains)) (Tryd.sizeOf55 _) (Tryd.isAgg55 _) fun v18 hv18 => ?_)
              refine lw_op rfl rfl rfl (ow_move rfl rfl ?_)
              refine lw_op rfl rfl rfl (ow_indexSlice (R := (RSlice RRule)) rfl rfl rfl hv18 Tryd.underlying55 (Tryd.sizeOf86 _) hx2 fun p4 hp4 => ?_)
              refine lw_op rfl rfl rfl (ow_load (R := (RSlice RRule)) rfl rfl hp4 (Tryd.sizeOf86 _) (Tryd.isAgg86 _) fun v19 hv19 => ?_)
              refine lw_op rfl rfl rfl (ow_move rfl rfl ?_)
              replace hb6 := bind_some hb6
              obtain ⟨x3, hx3, hb6⟩ := hb6
              refine lw_op rfl rfl rfl (ow_indexSlice (R := RRule) rfl rfl rfl hv19 Tryd.underlying86 (Tryd.sizeOf76 _) hx3 fun p5 hp5 => ?_)
              refine lw_op rfl rfl rfl (ow_load (R := RRule) rfl rfl hp5 (Tryd.sizeOf76 _) (Tryd.isAgg76 _) fun v20 hv20 => ?_)
              refine lw_allocStore (R := RRule) rfl rfl rfl rfl rfl rfl rfl Tryd.zeroValue76 Tryd.sizeOf76 rfl rfl rfl (by simp) hv20 hC6 fun p6 w7 hp6 hb7 hl7 hC7 => ?_
              have hr4 := hw5.no hb7
              have hr5 := hw6.no hb7
              refine lw_nil ?_
              refine ew_then ?_
              refine cw_region ?_
              refine lw_op rfl rfl rfl (ow_move rfl rfl ?_)
              refine lw_op rfl rfl rfl (ow_move rfl rfl ?_)
              replace hb6 := cond_some hb6
              rcases hb6 with ⟨hc4, hb6⟩ | ⟨hc4, hb6⟩
              · subst hc4
                refine lw_on rfl rfl rfl rfl rfl rfl (ow_fieldAddr rfl rfl Tryd.underlying76 rfl (Tryd.sizeOf3 _) ?_)
                refine lw_on rfl rfl rfl rfl rfl rfl (ow_load (R := RInt) rfl rfl (hp6.fld fld_Rule_Action) (Tryd.sizeOf3 _) (Tryd.isAgg3 _) fun v21 hv21 => ?_)
                obtain rfl := vint_eq hv21
                refine lw_on rfl rfl rfl rfl rfl rfl (ow_neqI rfl rfl rfl fun bb4 hbb4 => ?_)
                refine lw_on rfl rfl rfl rfl rfl rfl (ow_move rfl rfl ?_)
                replace hb6 := cond_some hb6
                rcases hb6 with ⟨hc5, hb6⟩ | ⟨hc5, hb6⟩
                · obtain rfl := hbb4.trans hc5
                  refine lw_off rfl rfl rfl rfl rfl rfl ?_
                  refine lw_off rfl rfl rfl rfl rfl rfl ?_
                  refine lw_off rfl rfl rfl rfl rfl rfl ?_
                  refine lw_off rfl rfl rfl rfl rfl rfl ?_
                  refine lw_off rfl rfl rfl rfl rfl rfl ?_
                  refine lw_on rfl rfl rfl rfl rfl rfl (ow_pickT rfl rfl rfl ?_)
                  refine lw_op rfl rfl rfl (ow_pickT rfl rfl rfl ?_)
                  refine lw_op rfl rfl rfl (ow_assign rfl rfl ?_)
                  refine lw_nil ?_
                  refine ew_blockN ?_
                  refine ew_then ?_
                  refine cw_region ?_
                  refine lw_op rfl rfl rfl (ow_move rfl rfl ?_)
                  refine lw_op rfl rfl rfl (ow_add rfl rfl rfl ?_)
                  refine lw_op rfl rfl rfl (ow_assign rfl rfl ?_)
                  refine lw_nil ?_
                  refine ew_nxt (true, (W (k3 + 1)), y6, y7) hb6 fun a ha => ⟨M5, ?_, (hl6.trans hl7), hC7, hr4, hr5⟩
                  exact ha.sub ⟨rfl, rfl, rfl, rfl, rfl, rfl, rfl, trivial⟩
                · obtain rfl := hbb4.trans hc5
                  refine lw_on rfl rfl rfl rfl rfl rfl (ow_move rfl rfl ?_)
                  refine lw_on rfl rfl rfl rfl rfl rfl (ow_fieldAddr rfl rfl Tryd.underlying76 rfl (Tryd.sizeOf3 _) ?_)
                  refine lw_on rfl rfl rfl rfl rfl rfl (ow_load (R := RInt) rfl rfl (hp6.fld fld_Rule_Chain) (Tryd.sizeOf3 _) (Tryd.isAgg3 _) fun v22 hv22 => ?_)
                  obtain rfl := vint_eq hv22
                  replace hb6 := bind_some hb6
                  obtain ⟨x4, hx4, hb6⟩ := hb6
                  refine lw_on rfl rfl rfl rfl rfl rfl (ow_indexRow (R := RBool) rfl rfl rfl hr4 Tryd.underlying163 (Tryd.sizeOf4 _) hx4 ?_)
                  refine lw_on rfl rfl rfl rfl rfl rfl (ow_loadElRow (R := RBool) (S := RBool) rfl rfl rfl hr4 (orow_blk hr4 hx4) hx4 (Fld.whole RBool) (Tryd.sizeOf4 _) (Tryd.isAgg4 _) fun v23 hv23 => ?_)
                  obtain rfl := vbool_eq hv23
                  refine lw_on rfl rfl rfl rfl rfl rfl (ow_pickF rfl rfl rfl ?_)
                  refine lw_op rfl rfl rfl (ow_pickT rfl rfl rfl ?_)
                  refine lw_op rfl rfl rfl (ow_assign rfl rfl ?_)
                  refine lw_nil ?_
                  refine ew_blockN ?_
                  refine ew_then ?_
                  refine cw_region ?_
                  refine lw_op rfl rfl rfl (ow_move rfl rfl ?_)
                  refine lw_op rfl rfl rfl (ow_add rfl rfl rfl ?_)
                  refine lw_op rfl rfl rfl (ow_assign rfl rfl ?_)
                  refine lw_nil ?_
                  refine ew_nxt (x4, (W (k3 + 1)), y6, y7) hb6 fun a ha => ⟨M5, ?_, (hl6.trans hl7), hC7, hr4, hr5⟩
                  exact ha.sub ⟨rfl, rfl, rfl, rfl, rfl, rfl, rfl, trivial⟩
              · subst hc4
                refine lw_off rfl rfl rfl rfl rfl rfl ?_
                refine lw_off rfl rfl rfl rfl rfl rfl ?_
                refine lw_off rfl rfl rfl rfl rfl rfl ?_
                refine lw_off rfl rfl rfl rfl rfl rfl ?_
                refine lw_off' rfl rfl rfl rfl rfl rfl ?_
                refine lw_off' rfl rfl rfl rfl rfl rfl ?_
                refine lw_off' rfl rfl rfl rfl rfl rfl ?_
                refine lw_off' rfl rfl rfl rfl rfl rfl ?_
                refine lw_off' rfl rfl rfl rfl rfl rfl ?_
                refine lw_off rfl rfl rfl rfl rfl rfl ?_
                refine lw_op rfl rfl rfl (ow_pickF rfl rfl rfl ?_)
                refine lw_op rfl rfl rfl (ow_assign rfl rfl ?_)
                refine lw_nil ?_
                refine ew_blockN ?_
                refine ew_then ?_
                refine cw_region ?_
                refine lw_op rfl rfl rfl (ow_move rfl rfl ?_)
                refine lw_op rfl rfl rfl (ow_add rfl rfl rfl ?_)
                refine lw_op rfl rfl rfl (ow_assign rfl rfl ?_)
                refine lw_nil ?_
                refine ew_nxt (false, (W (k3 + 1)), y6, y7) hb6 fun a ha => ⟨M5, ?_, (hl6.trans hl7), hC7, hr4, hr5⟩
                exact ha.sub ⟨rfl, rfl, rfl, rfl, rfl, rfl, rfl, trivial⟩
            · obtain rfl := hbb3.trans hc3
              refine cw_false rfl ?_
              refine cw_exit ?_
              refine ew_thenX ?_
              refine ew_thenX ?_
              refine ew_blockX ?_
              refine ew_brk (y5, k3, y6, y7) hb6 fun a ha => ⟨M5, ?_, hl6, hC6, hw5, hw6⟩
              exact ha.sub ⟨rfl, rfl, rfl, rfl, rfl, rfl, rfl, trivial⟩
          · rintro ⟨y8, k4, y9, y10⟩ a w8 hlr4 ⟨M6, hF4, hl8, hC8, hw7, hw8⟩
            subst hlr4
            refine ew_at (E := [(1, (.pointer (some p1))), (3, v2), (4, v7), (5, (.int .i64 k1)), (6, (.int .i64 k2)), (7, (.bool y8)), (8, (.int .i64 k4))]) hF4 ?_
            refine ew_then ?_
            refine cw_seq ?_
            refine cw_region ?_
            refine lw_op rfl rfl rfl (ow_move rfl rfl ?_)
            refine lw_nil ?_
            refine ew_then ?_
            replace hb5 := cond_some hb5
            rcases hb5 with ⟨hc6, hb5⟩ | ⟨hc6, hb5⟩
            · subst hc6
              refine cw_true rfl ?_
              refine cw_seq ?_
              refine cw_region ?_
              refine lw_op rfl rfl rfl (ow_move rfl rfl ?_)
              refine lw_op rfl rfl rfl (ow_move rfl rfl ?_)
              replace hb5 := bind_some hb5
              obtain ⟨x5, hx5, hb5⟩ := hb5
              refine lw_op rfl rfl rfl (ow_indexRow (R := RBool) rfl rfl rfl hw7 Tryd.underlying163 (Tryd.sizeOf4 _) hx5 ?_)
              refine lw_op0 rfl rfl (ow_storeElRow (X := No) (R := RBool) (S := RBool) rfl rfl rfl rfl hw7 (orow_blk hw7 hx5) hx5 (FldSet.whole RBool) (Tryd.sizeOf4 _) (vbool _) (Nat.le_refl _) hC8 fun w9 ho1 hb8 hl9 hC9 => ?_)
              have hr6 := hw8.go hb8 (fun k hk e => orow_row_ne hw8 hw7 (by decide) hk (by rw [orow_blk hw7 hx5]; exact congrArg some e.symm)) hl9 (fun _ h => h)
              refine lw_nil ?_
              refine ew_then ?_
              refine cw_region ?_
              refine lw_op rfl rfl rfl (ow_move rfl rfl ?_)
              refine lw_op rfl rfl rfl (ow_move rfl rfl ?_)
              refine lw_op rfl rfl rfl (ow_buildSlice (R := RInt) (xs := [k2]) (cs := #[(.int .i64 k2)]) (e := 3) rfl rfl (by kernel_rfl) rfl rfl ⟨_, _, rfl, (vint _).cells, rfl⟩ hC9 fun p7 w10 hw9 hb9 hl10 hC10 => ?_)
              have hr7 := ho1.no hb9
              have hr8 := hr6.no hb9
              replace hb5 := bind_some hb5
              obtain ⟨z1, hz1, hb5⟩ := hb5
              refine lw_op rfl rfl rfl (ow_append (R := RInt) rfl rfl rfl rfl Tryd.underlying116 hi3 hz3 hs3 hy3 rfl rfl rfl rfl hr8 hw9 hz1 hC10 fun v28 w11 M7 hr9 hb10 hl11 hC11 hM3 hat3 => ?_)
              have hr10 := hr7.goRow hr8 hb10 hl11 hM3 (by decide)
              refine lw_op rfl rfl rfl (ow_assign rfl rfl ?_)
              refine lw_nil ?_
              refine ew_blockN ?_
              refine ew_then ?_
              refine cw_region ?_
              refine lw_op rfl rfl rfl (ow_move rfl rfl ?_)
              refine lw_op rfl rfl rfl (ow_add rfl rfl rfl ?_)
              refine lw_op rfl rfl rfl (ow_assign rfl rfl ?_)
              refine lw_nil ?_
              refine ew_nxt (z1, (W (k2 + 1)), (List.set y9 (k2 : Int).toNat true)) hb5 fun a ha => ⟨M7, v28, ?_, ((((hl5.trans hl8).trans hl9).trans hl10).trans hl11), hC11, hr9, hr10⟩
              exact ha.sub ⟨rfl, rfl, rfl, rfl, rfl, trivial⟩
            · subst hc6
              refine cw_false rfl ?_
              refine cw_skip ?_
              refine ew_blockN ?_
              refine ew_then ?_
              refine cw_region ?_
              refine lw_op rfl rfl rfl (ow_move rfl rfl ?_)
              refine lw_op rfl rfl rfl (ow_add rfl rfl rfl ?_)
              refine lw_op rfl rfl rfl (ow_assign rfl rfl ?_)
              refine lw_nil ?_
              refine ew_nxt (y10, (W (k2 + 1)), y9) hb5 fun a ha => ⟨M6, v7, ?_, (hl5.trans hl8), hC8, hw8, hw7⟩
              exact ha.sub ⟨rfl, rfl, rfl, rfl, rfl, trivial⟩
        · obtain rfl := hbb2.trans hc2
          refine cw_false rfl ?_
          refine cw_exit ?_
          refine ew_thenX ?_
          refine ew_thenX ?_
          refine ew_blockX ?_
          refine ew_brk (y3, k2, y4) hb5 fun a ha => ⟨M4, v7, ?_, hl5, hC5, hw3, hw4⟩
          exact ha.sub ⟨rfl, rfl, rfl, rfl, rfl, trivial⟩
      · rintro ⟨y11, k5, y12⟩ a w12 hlr5 ⟨M8, v29, hF5, hl12, hC12, hw10, hw11⟩
        subst hlr5
        refine ew_at (E := [(1, (.pointer (some p1))), (3, v2), (4, v29), (5, (.int .i64 k1)), (6, (.int .i64 k5))]) hF5 ?_
        refine ew_blockN ?_
        refine ew_then ?_
        refine cw_region ?_
        refine lw_op rfl rfl rfl (ow_move rfl rfl ?_)
        refine lw_op rfl rfl rfl (ow_add rfl rfl rfl ?_)
        refine lw_op rfl rfl rfl (ow_assign rfl rfl ?_)
        refine lw_nil ?_
        refine ew_nxt (y11, (W (k1 + 1)), y12) hb4 fun a ha => ⟨M8, v29, ?_, (hl4.trans hl12), hC12, hw10, hw11⟩
        exact ha.sub ⟨rfl, rfl, rfl, rfl, trivial⟩
    · obtain rfl := hbb1.trans hc1
      refine cw_false rfl ?_
      refine cw_exit ?_
      refine ew_thenX ?_
      refine ew_thenX ?_
      refine ew_blockX ?_
      refine ew_brk (y1, k1, y2) hb4 fun a ha => ⟨M3, v3, ?_, hl4, hC4, hw1, hw2⟩
      exact ha.sub ⟨rfl, rfl, rfl, rfl, trivial⟩
  · rintro ⟨y13, k6, y14⟩ a w13 hlr6 ⟨M9, v32, hF6, hl13, hC13, hw12, hw13⟩
    subst hlr6
    refine ew_at (E := [(1, (.pointer (some p1))), (3, v2), (4, v32), (5, (.int .i64 k6))]) hF6 ?_
    refine ew_then ?_
    refine cw_seq ?_
    refine cw_region ?_
    refine lw_op rfl rfl rfl (ow_move rfl rfl ?_)
    refine lw_op rfl rfl rfl (ow_assign rfl rfl ?_)
    refine lw_nil ?_
    refine ew_then ?_
    refine cw_ret ?_
    obtain rfl := Option.some.inj h
    exact ew_ret (res1 rfl (.tmp rfl)) ⟨_, rfl, (hw12.freezeBack hC13 hO), hC13.bx⟩

theorem w_spec_RulesetValid {w : World} {M : Nat → Prop} (hG : ARep (RArr 4 RShape) w M shapes ⟨0, 0, none⟩) (hO : ∀ b, M b → b < w.heap.size) {v0p : Value} {a_s : Ruleset} (h0 : VRep RRuleset w M a_s v0p) {r : Bool} (h : F.spec_RulesetValid a_s = some r) :
    Calls Tryd.prog 34 [v0p].toArray w fun e w' => ∃ v, e = .returned v ∧ VRep RBool w' M r v ∧ BX No w w' := by
  have hC : Cx No w M w M := Cx.start hO (fun _ e => e.elim)
  refine walk (N := 55) Tryd.func34 rfl Tryd.ntmps34 rfl ?_
  refine cw_seq ?_
  refine cw_region ?_
  refine lw_op rfl rfl rfl (ow_box (R := RRuleset) rfl rfl h0 hC fun p1 w1 hp1 hb1 hl1 hC1 => ?_)
  refine lw_op rfl rfl rfl (ow_assign rfl rfl ?_)
  refine lw_nil ?_
  refine ew_then ?_
  refine cw_seq ?_
  refine cw_seq ?_
  refine cw_region ?_
  refine lw_op rfl rfl rfl (ow_assign rfl rfl ?_)
  refine lw_nil ?_
  refine ew_then ?_
  replace h := bind_some h
  obtain ⟨lr1, hlr1, h⟩ := h
  refine cw_for hlr1 (fun s a w' => ∃ (M' : Nat → Prop), Fits 55 [(1, (.pointer (some p1))), (3, (.int .i64 s))] a ∧ Le w1 M w' M' ∧ Cx No w M w' M') ?_ ?_ ?_
  · intro a ha
    exact ⟨M, ha.sub ⟨rfl, rfl, trivial⟩, Le.refl _ _, hC1⟩
  · rintro k1 a w2 sr1 ⟨M1, hF1, hl2, hC2⟩ hb2 hR1
    refine cw_at (E := [(1, (.pointer (some p1))), (3, (.int .i64 k1))]) hF1 ?_
    refine cw_seq ?_
    refine cw_seq ?_
    refine cw_region ?_
    refine lw_op rfl rfl rfl (ow_move rfl rfl ?_)
    refine lw_op rfl rfl rfl (ow_fieldAddr rfl rfl Tryd.underlying57 rfl (Tryd.sizeOf55 _) ?_)
    refine lw_op rfl rfl rfl (ow_load (R := (RSlice (RSlice RRule))) rfl rfl (ARep.mono hl2 (hp1.fld fld_Ruleset_Chains)) (Tryd.sizeOf55 _) (Tryd.isAgg55 _) fun v2 hv2 => ?_)
    refine lw_op rfl rfl rfl (ow_len rfl rfl hv2 Tryd.underlying55 rfl ?_)
    refine lw_op rfl rfl rfl (ow_lss rfl rfl rfl fun bb1 hbb1 => ?_)
    refine lw_nil ?_
    refine ew_then ?_
    replace hb2 := cond_some hb2
    rcases hb2 with ⟨hc1, hb2⟩ | ⟨hc1, hb2⟩
    · obtain rfl := hbb1.trans hc1
      refine cw_true rfl ?_
      refine cw_skip ?_
      refine ew_then ?_
      refine cw_seq ?_
      refine cw_block ?_
      refine cw_seq ?_
      refine cw_seq ?_
      refine cw_region ?_
      refine lw_op rfl rfl rfl (ow_fieldAddr rfl rfl Tryd.underlying57 rfl (Tryd.sizeOf55 _) ?_)
      refine lw_op rfl rfl rfl (ow_load (R := (RSlice (RSlice RRule))) rfl rfl (ARep.mono hl2 (hp1.fld fld_Ruleset_Chains)) (Tryd.sizeOf55 _) (Tryd.isAgg55 _) fun v3 hv3 => ?_)
      refine lw_op rfl rfl rfl (ow_move rfl rfl ?_)
      replace hb2 := bind_some hb2
      obtain ⟨x1, hx1, hb2⟩ := hb2
      refine lw_op rfl rfl rfl (ow_indexSlice (R := (RSlice RRule)) rfl rfl rfl hv3 Tryd.underlying55 (Tryd.sizeOf86 _) hx1 fun p2 hp2 => ?_)
      refine lw_op rfl rfl rfl (ow_load (R := (RSlice RRule)) rfl rfl hp2 (Tryd.sizeOf86 _) (Tryd.isAgg86 _) fun v4 hv4 => ?_)
      replace hb2 := bind_some hb2
      obtain ⟨x2, hx2, hb2⟩ := hb2
      refine lw_op rfl rfl rfl (ow_call rfl rfl Tryd.call61 (w_spec_RulesValid (hG.mono (hl1.trans hl2)) hC2.old hv4 hx2) fun v5 w3 hv5 => ?_)
      obtain ⟨hv5, hb3⟩ := hv5
      have hl3 := Le.no M1 hb3
      have hC3 := hC2.no hb3
      obtain rfl := vbool_eq hv5
      refine lw_op rfl rfl rfl (ow_not rfl rfl ?_)
      refine lw_nil ?_
      refine ew_then ?_
      replace hb2 := cond_some hb2
      rcases hb2 with ⟨hc2, hb2⟩ | ⟨hc2, hb2⟩
      · subst hc2
        refine cw_false rfl ?_
        refine cw_skip ?_
        refine ew_then ?_
        refine cw_seq ?_
        refine cw_region ?_
        refine lw_op rfl rfl rfl (ow_assign rfl rfl ?_)
        refine lw_nil ?_
        refine ew_then ?_
        replace hb2 := bind_some hb2
        obtain ⟨lr2, hlr2, hb2⟩ := hb2
        refine cw_for hlr2 (fun s a w' => ∃ (M' : Nat → Prop), Fits 55 [(1, (.pointer (some p1))), (3, (.int .i64 k1)), (4, (.int .i64 s))] a ∧ Le w3 M1 w' M' ∧ Cx No w M w' M') ?_ ?_ ?_
        · intro a ha
          exact ⟨M1, ha.sub ⟨rfl, rfl, rfl, trivial⟩, Le.refl _ _, hC3⟩
        · rintro k2 a w4 sr2 ⟨M2, hF2, hl4, hC4⟩ hb4 hR2
          refine cw_at (E := [(1, (.pointer (some p1))), (3, (.int .i64 k1)), (4, (.int .i64 k2))]) hF2 ?_
          refine cw_seq ?_
          refine cw_seq ?_
          refine cw_region ?_
          refine lw_op rfl rfl rfl (ow_move rfl rfl ?_)
          refine lw_op rfl rfl rfl (ow_fieldAddr rfl rfl Tryd.underlying57 rfl (Tryd.sizeOf55 _) ?_)
          refine lw_op rfl rfl rfl (ow_load (R := (RSlice (RSlice RRule))) rfl rfl (ARep.mono ((hl2.trans hl3).trans hl4) (hp1.fld fld_Ruleset_Chains)) (Tryd.sizeOf55 _) (Tryd.isAgg55 _) fun v7 hv7 => ?_)
          refine lw_op rfl rfl rfl (ow_move rfl rfl ?_)
          refine lw_op rfl rfl rfl (ow_indexSlice (R := (RSlice RRule)) rfl rfl rfl hv7 Tryd.underlying55 (Tryd.sizeOf86 _) hx1 fun p3 hp3 => ?_)
          refine lw_op rfl rfl rfl (ow_load (R := (RSlice RRule)) rfl rfl hp3 (Tryd.sizeOf86 _) (Tryd.isAgg86 _) fun v8 hv8 => ?_)
          refine lw_op rfl rfl rfl (ow_len rfl rfl hv8 Tryd.underlying86 rfl ?_)
          refine lw_op rfl rfl rfl (ow_lss rfl rfl rfl fun bb2 hbb2 => ?_)
          refine lw_nil ?_
          refine ew_then ?_
          replace hb4 := cond_some hb4
          rcases hb4 with ⟨hc3, hb4⟩ | ⟨hc3, hb4⟩
          · obtain rfl := hbb2.trans hc3
            refine cw_true rfl ?_
            refine cw_skip ?_
            refine ew_then ?_
            refine cw_seq ?_
            refine cw_block ?_
            refine cw_seq ?_
            replace hb4 := bind_some hb4
            obtain ⟨x3, hx3, hb4⟩ := hb4
            refine cw_sub (E' := [(1, (.pointer (some p1))), (3, (.int .i64 k1)), (4, (.int .i64 k2))]) ⟨rfl, rfl, rfl, trivial⟩ ?_
            refine cw_drawQ 12 [PA (RSlice (RSlice RRule)) M2 a_s.Chains, PV (RSlice (RSlice RRule)) M2 a_s.Chains, PEq (.int .i64 k1), PA (RSlice RRule) M2 x1, PV (RSlice RRule) M2 x1, PEq (.int .i64 k2), PA RRule M2 x3, PA RInt M2 x3.Chain, PEq (.int .i64 x3.Chain), PA (RSlice (RSlice RRule)) M2 a_s.Chains, PV (RSlice (RSlice RRule)) M2 a_s.Chains, PEq (.int .i64 (a_s.Chains.length : Int))] (by kernel_rfl) rfl (by kernel_rfl) ⟨PA.mono _ _ _, PV.mono _ _ _, PEq.mono _, PA.mono _ _ _, PV.mono _ _ _, PEq.mono _, PA.mono _ _ _, PA.mono _ _ _, PEq.mono _, PA.mono _ _ _, PV.mono _ _ _, PEq.mono _, trivial⟩ ⟨?_, ?_, ?_, ?_, ?_, ?_, ?_, ?_, ?_, ?_, ?_, ?_, trivial⟩ ?_
            · intro w5 D hS1 hd1
              have hl5 := Le.no M2 hS1
              have hC5 := hC4.no hS1
              refine dg_sub (E' := [(1, (.pointer (some p1)))]) ⟨rfl, trivial⟩ ?_
              refine dg_plain rfl (ow_fieldAddr rfl rfl Tryd.underlying57 rfl (Tryd.sizeOf55 _) ?_)
              exact ⟨BX.refl _ _, ⟨_, rfl, (ARep.mono (((hl2.trans hl3).trans hl4).trans hl5) (hp1.fld fld_Ruleset_Chains))⟩⟩
            · intro w6 D hS2 hd2
              have hl6 := Le.no M2 hS2
              have hC6 := hC4.no hS2
              have hd2 : PA (RSlice (RSlice RRule)) M2 a_s.Chains (D 0) w6 ∧ True := hd2
              obtain ⟨d1, -⟩ := hd2
              obtain ⟨p6, e1, ha1⟩ := d1
              refine dg_sub (E' := [(29, (.pointer (some p6)))]) ⟨(congrArg some e1), trivial⟩ ?_
              refine dg_plain rfl (ow_load (R := (RSlice (RSlice RRule))) rfl rfl ha1 (Tryd.sizeOf55 _) (Tryd.isAgg55 _) fun v13 hv13 => ?_)
              exact ⟨BX.refl _ _, hv13⟩
            · intro w7 D hS3 hd3
              have hl7 := Le.no M2 hS3
              have hC7 := hC4.no hS3
              refine dg_sub (E' := [(3, (.int .i64 k1))]) ⟨rfl, trivial⟩ ?_
              refine dg_plain rfl (ow_move rfl rfl ?_)
              exact ⟨BX.refl _ _, rfl⟩
            · intro w8 D hS4 hd4
              have hl8 := Le.no M2 hS4
              have hC8 := hC4.no hS4
              have hd4 : PV (RSlice (RSlice RRule)) M2 a_s.Chains (D 1) w8 ∧ PEq (.int .i64 k1) (D 2) w8 ∧ True := hd4
              obtain ⟨d2, d3, -⟩ := hd4
              obtain ⟨v14, hq1⟩ : ∃ v, (D 1) = v := ⟨_, rfl⟩
              rw [hq1] at d2
              refine dg_sub (E' := [(30, v14), (31, (.int .i64 k1))]) ⟨(congrArg some hq1), (congrArg some d3), trivial⟩ ?_
              refine dg_plain rfl (ow_indexSlice (R := (RSlice RRule)) rfl rfl rfl d2 Tryd.underlying55 (Tryd.sizeOf86 _) hx1 fun p7 hp7 => ?_)
              exact ⟨BX.refl _ _, ⟨_, rfl, hp7⟩⟩
            · intro w9 D hS5 hd5
              have hl9 := Le.no M2 hS5
              have hC9 := hC4.no hS5
              have hd5 : PA (RSlice RRule) M2 x1 (D 3) w9 ∧ True := hd5
              obtain ⟨d4, -⟩ := hd5
              obtain ⟨p8, e2, ha2⟩ := d4
              refine dg_sub (E' := [(32, (.pointer (some p8)))]) ⟨(congrArg some e2), trivial⟩ ?_
              refine dg_plain rfl (ow_load (R := (RSlice RRule)) rfl rfl ha2 (Tryd.sizeOf86 _) (Tryd.isAgg86 _) fun v15 hv15 => ?_)
              exact ⟨BX.refl _ _, hv15⟩
            · intro w10 D hS6 hd6
              have hl10 := Le.no M2 hS6
              have hC10 := hC4.no hS6
              refine dg_sub (E' := [(4, (.int .i64 k2))]) ⟨rfl, trivial⟩ ?_
              refine dg_plain rfl (ow_move rfl rfl ?_)
              exact ⟨BX.refl _ _, rfl⟩
            · intro w11 D hS7 hd7
              have hl11 := Le.no M2 hS7
              have hC11 := hC4.no hS7
              have hd7 : PV (RSlice RRule) M2 x1 (D 4) w11 ∧ PEq (.int .i64 k2) (D 5) w11 ∧ True := hd7
              obtain ⟨d5, d6, -⟩ := hd7
              obtain ⟨v16, hq2⟩ : ∃ v, (D 4) = v := ⟨_, rfl⟩
              rw [hq2] at d5
              refine dg_sub (E' := [(33, v16), (34, (.int .i64 k2))]) ⟨(congrArg some hq2), (congrArg some d6), trivial⟩ ?_
              refine dg_plain rfl (ow_indexSlice (R := RRule) rfl rfl rfl d5 Tryd.underlying86 (Tryd.sizeOf76 _) hx3 fun p9 hp9 => ?_)
              exact ⟨BX.refl _ _, ⟨_, rfl, hp9⟩⟩
            · intro w12 D hS8 hd8
              have hl12 := Le.no M2 hS8
              have hC12 := hC4.no hS8
              have hd8 : PA RRule M2 x3 (D 6) w12 ∧ True := hd8
              obtain ⟨d7, -⟩ := hd8
              obtain ⟨p10, e3, ha3⟩ := d7
              refine dg_sub (E' := [(35, (.pointer (some p10)))]) ⟨(congrArg some e3), trivial⟩ ?_
              refine dg_plain rfl (ow_fieldAddr rfl rfl Tryd.underlying76 rfl (Tryd.sizeOf3 _) ?_)
              exact ⟨BX.refl _ _, ⟨_, rfl, (ha3.fld fld_Rule_Chain)⟩⟩
            · intro w13 D hS9 hd9
              have hl13 := Le.no M2 hS9
              have hC13 := hC4.no hS9
              have hd9 : PA RInt M2 x3.Chain (D 7) w13 ∧ True := hd9
              obtain ⟨d8, -⟩ := hd9
              obtain ⟨p11, e4, ha4⟩ := d8
              refine dg_sub (E' := [(36, (.pointer (some p11)))]) ⟨(congrArg some e4), trivial⟩ ?_
              refine dg_plain rfl (ow_load (R := RInt) rfl rfl ha4 (Tryd.sizeOf3 _) (Tryd.isAgg3 _) fun v17 hv17 => ?_)
              obtain rfl := vint_eq hv17
              exact ⟨BX.refl _ _, rfl⟩
            · intro w14 D hS10 hd10
              have hl14 := Le.no M2 hS10
              have hC14 := hC4.no hS10
              refine dg_sub (E' := [(1, (.pointer (some p1)))]) ⟨rfl, trivial⟩ ?_
              refine dg_plain rfl (ow_fieldAddr rfl rfl Tryd.underlying57 rfl (Tryd.sizeOf55 _) ?_)
              exact ⟨BX.refl _ _, ⟨_, rfl, (ARep.mono (((hl2.trans hl3).trans hl4).trans hl14) (hp1.fld fld_Ruleset_Chains))⟩⟩
            · intro w15 D hS11 hd11
              have hl15 := Le.no M2 hS11
              have hC15 := hC4.no hS11
              have hd11 : PA (RSlice (RSlice RRule)) M2 a_s.Chains (D 9) w15 ∧ True := hd11
              obtain ⟨d9, -⟩ := hd11
              obtain ⟨p12, e5, ha5⟩ := d9
              refine dg_sub (E' := [(38, (.pointer (some p12)))]) ⟨(congrArg some e5), trivial⟩ ?_
              refine dg_plain rfl (ow_load (R := (RSlice (RSlice RRule))) rfl rfl ha5 (Tryd.sizeOf55 _) (Tryd.isAgg55 _) fun v18 hv18 => ?_)
              exact ⟨BX.refl _ _, hv18⟩
            · intro w16 D hS12 hd12
              have hl16 := Le.no M2 hS12
              have hC16 := hC4.no hS12
              have hd12 : PV (RSlice (RSlice RRule)) M2 a_s.Chains (D 10) w16 ∧ True := hd12
              obtain ⟨d10, -⟩ := hd12
              obtain ⟨v19, hq3⟩ : ∃ v, (D 10) = v := ⟨_, rfl⟩
              rw [hq3] at d10
              refine dg_sub (E' := [(39, v19)]) ⟨(congrArg some hq3), trivial⟩ ?_
              refine dg_plain rfl (ow_len rfl rfl d10 Tryd.underlying55 rfl ?_)
              exact ⟨BX.refl _ _, rfl⟩
            · intro w17 D hS13 hd13
              have hl17 := Le.no M2 hS13
              have hC17 := hC4.no hS13
              have hd13 : PA (RSlice (RSlice RRule)) M2 a_s.Chains (D 0) w17 ∧ PV (RSlice (RSlice RRule)) M2 a_s.Chains (D 1) w17 ∧ PEq (.int .i64 k1) (D 2) w17 ∧ PA (RSlice RRule) M2 x1 (D 3) w17 ∧ PV (RSlice RRule) M2 x1 (D 4) w17 ∧ PEq (.int .i64 k2) (D 5) w17 ∧ PA RRule M2 x3 (D 6) w17 ∧ PA RInt M2 x3.Chain (D 7) w17 ∧ PEq (.int .i64 x3.Chain) (D 8) w17 ∧ PA (RSlice (RSlice RRule)) M2 a_s.Chains (D 9) w17 ∧ PV (RSlice (RSlice RRule)) M2 a_s.Chains (D 10) w17 ∧ PEq (.int .i64 (a_s.Chains.length : Int)) (D 11) w17 ∧ True := hd13
              obtain ⟨-, -, -, -, -, -, -, -, d19, -, -, d22, -⟩ := hd13
              refine lw_sub (E' := [(37, (.int .i64 x3.Chain)), (40, (.int .i64 (a_s.Chains.length : Int))), (1, (.pointer (some p1))), (3, (.int .i64 k1)), (4, (.int .i64 k2))]) ⟨(congrArg some d19), (congrArg some d22), rfl, rfl, rfl, trivial⟩ ?_
              refine lw_op rfl rfl rfl (ow_geq rfl rfl rfl fun bb3 hbb3 => ?_)
              refine lw_nil ?_
              refine ew_then ?_
              replace hb4 := cond_some hb4
              rcases hb4 with ⟨hc4, hb4⟩ | ⟨hc4, hb4⟩
              · obtain rfl := hbb3.trans hc4
                refine cw_true rfl ?_
                refine cw_seq ?_
                refine cw_region ?_
                refine lw_op rfl rfl rfl (ow_assign rfl rfl ?_)
                refine lw_nil ?_
                refine ew_then ?_
                refine cw_ret ?_
                refine ew_blockR ?_
                refine ew_thenR ?_
                refine ew_thenR ?_
                refine ew_blockR ?_
                refine ew_brkR ?_
                refine ew_blockR ?_
                refine ew_thenR ?_
                refine ew_thenR ?_
                refine ew_blockR ?_
                refine ew_brkR ?_
                refine ew_thenR ?_
                have e6 := hR2 _ (Option.some.inj hb4).symm
                subst e6
                have e7 := hR1 _ (Option.some.inj hb2).symm
                subst e7
                obtain rfl := Option.some.inj h
                exact ew_ret (res1 rfl (.tmp rfl)) ⟨_, rfl, ((vbool _)), hC17.bx⟩
              · obtain rfl := hbb3.trans hc4
                refine cw_false rfl ?_
                refine cw_skip ?_
                refine ew_blockN ?_
                refine ew_then ?_
                refine cw_region ?_
                refine lw_op rfl rfl rfl (ow_move rfl rfl ?_)
                refine lw_op rfl rfl rfl (ow_add rfl rfl rfl ?_)
                refine lw_op rfl rfl rfl (ow_assign rfl rfl ?_)
                refine lw_nil ?_
                refine ew_nxt (W (k2 + 1)) hb4 fun a ha => ⟨M2, ?_, (hl4.trans hl17), hC17⟩
                exact ha.sub ⟨rfl, rfl, rfl, trivial⟩
          · obtain rfl := hbb2.trans hc3
            refine cw_false rfl ?_
            refine cw_exit ?_
            refine ew_thenX ?_
            refine ew_thenX ?_
            refine ew_blockX ?_
            refine ew_brk k2 hb4 fun a ha => ⟨M2, ?_, hl4, hC4⟩
            exact ha.sub ⟨rfl, rfl, rfl, trivial⟩
        · rintro k3 a w18 hlr3 ⟨M3, hF3, hl18, hC18⟩
          subst hlr3
          refine ew_at (E := [(1, (.pointer (some p1))), (3, (.int .i64 k1)), (4, (.int .i64 k3))]) hF3 ?_
          refine ew_blockN ?_
          refine ew_then ?_
          refine cw_region ?_
          refine lw_op rfl rfl rfl (ow_move rfl rfl ?_)
          refine lw_op rfl rfl rfl (ow_add rfl rfl rfl ?_)
          refine lw_op rfl rfl rfl (ow_assign rfl rfl ?_)
          refine lw_nil ?_
          refine ew_nxt (W (k1 + 1)) hb2 fun a ha => ⟨M3, ?_, ((hl2.trans hl3).trans hl18), hC18⟩
          exact ha.sub ⟨rfl, rfl, trivial⟩
      · subst hc2
        refine cw_true rfl ?_
        refine cw_seq ?_
        refine cw_region ?_
        refine lw_op rfl rfl rfl (ow_assign rfl rfl ?_)
        refine lw_nil ?_
        refine ew_then ?_
        refine cw_ret ?_
        refine ew_thenR ?_
        refine ew_blockR ?_
        refine ew_thenR ?_
        refine ew_thenR ?_
        refine ew_blockR ?_
        refine ew_brkR ?_
        refine ew_thenR ?_
        have e8 := hR1 _ (Option.some.inj hb2).symm
        subst e8
        obtain rfl := Option.some.inj h
        exact ew_ret (res1 rfl (.tmp rfl)) ⟨_, rfl, ((vbool _)), hC3.bx⟩
    · obtain rfl := hbb1.trans hc1
      refine cw_false rfl ?_
      refine cw_exit ?_
      refine ew_thenX ?_
      refine ew_thenX ?_
      refine ew_blockX ?_
      refine ew_brk k1 hb2 fun a ha => ⟨M1, ?_, hl2, hC2⟩
      exact ha.sub ⟨rfl, rfl, trivial⟩
  · rintro k4 a w19 hlr4 ⟨M4, hF4, hl19, hC19⟩
    subst hlr4
    refine ew_at (E := [(1, (.pointer (some p1))), (3, (.int .i64 k4))]) hF4 ?_
    refine ew_then ?_
    refine cw_seq ?_
    replace h := bind_some h
    obtain ⟨x4, hx4, h⟩ := h
    replace h := cond_some h
    rcases h with ⟨hc5, h⟩ | ⟨hc5, h⟩
    · subst hc5
      replace h := bind_some h
      obtain ⟨x5, hx5, h⟩ := h
      refine cw_sub (E' := [(1, (.pointer (some p1)))]) ⟨rfl, trivial⟩ ?_
      refine cw_drawQ 11 [PA (RSlice (RSlice RRule)) M4 a_s.Chains, PV (RSlice (RSlice RRule)) M4 a_s.Chains, PEq (.int .i64 (a_s.Chains.length : Int)), PEq (.bool true), PEq (.bool true), PV RRuleset M4 a_s, PV (RSlice RInt) M4 x5, PEq (.int .i64 (x5.length : Int)), PA (RSlice (RSlice RRule)) M4 a_s.Chains, PV (RSlice (RSlice RRule)) M4 a_s.Chains, PEq (.int .i64 (a_s.Chains.length : Int))] (by kernel_rfl) rfl (by kernel_rfl) ⟨PA.mono _ _ _, PV.mono _ _ _, PEq.mono _, PEq.mono _, PEq.mono _, PV.mono _ _ _, PV.mono _ _ _, PEq.mono _, PA.mono _ _ _, PV.mono _ _ _, PEq.mono _, trivial⟩ ⟨?_, ?_, ?_, ?_, ?_, ?_, ?_, ?_, ?_, ?_, ?_, trivial⟩ ?_
      · intro w22 D hS14 hd14
        have hl22 := Le.no M4 hS14
        have hC22 := hC19.no hS14
        refine dg_sub (E' := [(1, (.pointer (some p1)))]) ⟨rfl, trivial⟩ ?_
        refine dg_plain rfl (ow_fieldAddr rfl rfl Tryd.underlying57 rfl (Tryd.sizeOf55 _) ?_)
        exact ⟨BX.refl _ _, ⟨_, rfl, (ARep.mono (hl19.trans hl22) (hp1.fld fld_Ruleset_Chains))⟩⟩
      · intro w23 D hS15 hd15
        have hl23 := Le.no M4 hS15
        have hC23 := hC19.no hS15
        have hd15 : PA (RSlice (RSlice RRule)) M4 a_s.Chains (D 0) w23 ∧ True := hd15
        obtain ⟨d23, -⟩ := hd15
        obtain ⟨p13, e9, ha6⟩ := d23
        refine dg_sub (E' := [(42, (.pointer (some p13)))]) ⟨(congrArg some e9), trivial⟩ ?_
        refine dg_plain rfl (ow_load (R := (RSlice (RSlice RRule))) rfl rfl ha6 (Tryd.sizeOf55 _) (Tryd.isAgg55 _) fun v27 hv27 => ?_)
        exact ⟨BX.refl _ _, hv27⟩
      · intro w24 D hS16 hd16
        have hl24 := Le.no M4 hS16
        have hC24 := hC19.no hS16
        have hd16 : PV (RSlice (RSlice RRule)) M4 a_s.Chains (D 1) w24 ∧ True := hd16
        obtain ⟨d24, -⟩ := hd16
        obtain ⟨v28, hq4⟩ : ∃ v, (D 1) = v := ⟨_, rfl⟩
        rw [hq4] at d24
        refine dg_sub (E' := [(43, v28)]) ⟨(congrArg some hq4), trivial⟩ ?_
        refine dg_plain rfl (ow_len rfl rfl d24 Tryd.underlying55 rfl ?_)
        exact ⟨BX.refl _ _, rfl⟩
      · intro w25 D hS17 hd17
        have hl25 := Le.no M4 hS17
        have hC25 := hC19.no hS17
        have hd17 : PEq (.int .i64 (a_s.Chains.length : Int)) (D 2) w25 ∧ True := hd17
        obtain ⟨d25, -⟩ := hd17
        refine dg_sub (E' := [(44, (.int .i64 (a_s.Chains.length : Int)))]) ⟨(congrArg some d25), trivial⟩ ?_
        refine dg_plain rfl (ow_call rfl rfl Tryd.call83 (w_spec_l1In (hG.mono ((hl1.trans hl19).trans hl25)) hC25.old hx4) fun v29 w26 hv29 => ?_)
        obtain ⟨hv29, hb7⟩ := hv29
        have hl26 := Le.no M4 hb7
        have hC26 := hC25.no hb7
        obtain rfl := vbool_eq hv29
        exact ⟨hb7, rfl⟩
      · intro w27 D hS18 hd18
        have hl27 := Le.no M4 hS18
        have hC27 := hC19.no hS18
        have hd18 : PEq (.bool true) (D 3) w27 ∧ PEq (.bool true) (D 3) w27 ∧ True := hd18
        obtain ⟨d26, d27, -⟩ := hd18
        refine dg_sub (E' := [(45, (.bool true))]) ⟨(congrArg some d26), trivial⟩ ?_
        refine dg_plain rfl (ow_move rfl rfl ?_)
        exact ⟨BX.refl _ _, rfl⟩
      · intro w28 D hS19 hd19
        have hl28 := Le.no M4 hS19
        have hC28 := hC19.no hS19
        have hd19 : PEq (.bool true) (D 4) w28 ∧ True := hd19
        obtain ⟨d28, -⟩ := hd19
        refine dg_sub (E' := [(46, (.bool true)), (1, (.pointer (some p1)))]) ⟨(congrArg some d28), rfl, trivial⟩ ?_
        refine dg_on rfl rfl rfl rfl (ow_load (R := RRuleset) rfl rfl (ARep.mono (hl19.trans hl28) hp1) (Tryd.sizeOf57 _) (Tryd.isAgg57 _) fun v30 hv30 => ?_)
        exact ⟨BX.refl _ _, hv30⟩
      · intro w29 D hS20 hd20
        have hl29 := Le.no M4 hS20
        have hC29 := hC19.no hS20
        have hd20 : PV RRuleset M4 a_s (D 5) w29 ∧ PEq (.bool true) (D 4) w29 ∧ PEq (.bool true) (D 4) w29 ∧ True := hd20
        obtain ⟨d29, d30, d31, -⟩ := hd20
        obtain ⟨v31, hq5⟩ : ∃ v, (D 5) = v := ⟨_, rfl⟩
        rw [hq5] at d29
        refine dg_sub (E' := [(47, v31), (46, (.bool true))]) ⟨(congrArg some hq5), (congrArg some d30), trivial⟩ ?_
        refine dg_on rfl rfl rfl rfl (ow_call rfl rfl Tryd.call84 (w_spec_l8Order (hG.mono ((hl1.trans hl19).trans hl29)) hC29.old d29 hx5) fun v32 w30 hv32 => ?_)
        obtain ⟨hv32, hb8⟩ := hv32
        have hl30 := Le.no M4 hb8
        have hC30 := hC29.no hb8
        exact ⟨hb8, hv32⟩
      · intro w31 D hS21 hd21
        have hl31 := Le.no M4 hS21
        have hC31 := hC19.no hS21
        have hd21 : PV (RSlice RInt) M4 x5 (D 6) w31 ∧ PEq (.bool true) (D 4) w31 ∧ True := hd21
        obtain ⟨d32, d33, -⟩ := hd21
        obtain ⟨v33, hq6⟩ : ∃ v, (D 6) = v := ⟨_, rfl⟩
        rw [hq6] at d32
        refine dg_sub (E' := [(48, v33), (46, (.bool true))]) ⟨(congrArg some hq6), (congrArg some d33), trivial⟩ ?_
        refine dg_on rfl rfl rfl rfl (ow_len rfl rfl d32 Tryd.underlying116 rfl ?_)
        exact ⟨BX.refl _ _, rfl⟩
      · intro w32 D hS22 hd22
        have hl32 := Le.no M4 hS22
        have hC32 := hC19.no hS22
        have hd22 : PEq (.bool true) (D 4) w32 ∧ True := hd22
        obtain ⟨d34, -⟩ := hd22
        refine dg_sub (E' := [(46, (.bool true)), (1, (.pointer (some p1)))]) ⟨(congrArg some d34), rfl, trivial⟩ ?_
        refine dg_on rfl rfl rfl rfl (ow_fieldAddr rfl rfl Tryd.underlying57 rfl (Tryd.sizeOf55 _) ?_)
        exact ⟨BX.refl _ _, ⟨_, rfl, (ARep.mono (hl19.trans hl32) (hp1.fld fld_Ruleset_Chains))⟩⟩
      · intro w33 D hS23 hd23
        have hl33 := Le.no M4 hS23
        have hC33 := hC19.no hS23
        have hd23 : PA (RSlice (RSlice RRule)) M4 a_s.Chains (D 8) w33 ∧ PEq (.bool true) (D 4) w33 ∧ True := hd23
        obtain ⟨d35, d36, -⟩ := hd23
        obtain ⟨p14, e10, ha7⟩ := d35
        refine dg_sub (E' := [(50, (.pointer (some p14))), (46, (.bool true))]) ⟨(congrArg some e10), (congrArg some d36), trivial⟩ ?_
        refine dg_on rfl rfl rfl rfl (ow_load (R := (RSlice (RSlice RRule))) rfl rfl ha7 (Tryd.sizeOf55 _) (Tryd.isAgg55 _) fun v34 hv34 => ?_)
        exact ⟨BX.refl _ _, hv34⟩
      · intro w34 D hS24 hd24
        have hl34 := Le.no M4 hS24
        have hC34 := hC19.no hS24
        have hd24 : PV (RSlice (RSlice RRule)) M4 a_s.Chains (D 9) w34 ∧ PEq (.bool true) (D 4) w34 ∧ True := hd24
        obtain ⟨d37, d38, -⟩ := hd24
        obtain ⟨v35, hq7⟩ : ∃ v, (D 9) = v := ⟨_, rfl⟩
        rw [hq7] at d37
        refine dg_sub (E' := [(51, v35), (46, (.bool true))]) ⟨(congrArg some hq7), (congrArg some d38), trivial⟩ ?_
        refine dg_on rfl rfl rfl rfl (ow_len rfl rfl d37 Tryd.underlying55 rfl ?_)
        exact ⟨BX.refl _ _, rfl⟩
      · intro w35 D hS25 hd25
        have hl35 := Le.no M4 hS25
        have hC35 := hC19.no hS25
        have hd25 : PA (RSlice (RSlice RRule)) M4 a_s.Chains (D 0) w35 ∧ PV (RSlice (RSlice RRule)) M4 a_s.Chains (D 1) w35 ∧ PEq (.int .i64 (a_s.Chains.length : Int)) (D 2) w35 ∧ PEq (.bool true) (D 3) w35 ∧ PEq (.bool true) (D 4) w35 ∧ PV RRuleset M4 a_s (D 5) w35 ∧ PV (RSlice RInt) M4 x5 (D 6) w35 ∧ PEq (.int .i64 (x5.length : Int)) (D 7) w35 ∧ PA (RSlice (RSlice RRule)) M4 a_s.Chains (D 8) w35 ∧ PV (RSlice (RSlice RRule)) M4 a_s.Chains (D 9) w35 ∧ PEq (.int .i64 (a_s.Chains.length : Int)) (D 10) w35 ∧ True := hd25
        obtain ⟨-, -, -, -, d43, -, -, d46, -, -, d49, -⟩ := hd25
        refine lw_sub (E' := [(46, (.bool true)), (49, (.int .i64 (x5.length : Int))), (52, (.int .i64 (a_s.Chains.length : Int))), (1, (.pointer (some p1)))]) ⟨(congrArg some d43), (congrArg some d46), (congrArg some d49), rfl, trivial⟩ ?_
        refine lw_on rfl rfl rfl rfl rfl rfl (ow_eqlI rfl rfl rfl fun bb4 hbb4 => ?_)
        refine lw_op rfl rfl rfl (ow_pickT rfl rfl rfl ?_)
        refine lw_op rfl rfl rfl (ow_assign rfl rfl ?_)
        refine lw_nil ?_
        refine ew_then ?_
        refine cw_ret ?_
        obtain rfl := Option.some.inj h
        exact ew_ret (res1 rfl (.tmp rfl)) ⟨_, rfl, ((vbool_of hbb4)), hC35.bx⟩
    · subst hc5
      refine cw_sub (E' := [(1, (.pointer (some p1)))]) ⟨rfl, trivial⟩ ?_
      refine cw_drawQ 11 [PA (RSlice (RSlice RRule)) M4 a_s.Chains, PV (RSlice (RSlice RRule)) M4 a_s.Chains, PEq (.int .i64 (a_s.Chains.length : Int)), PEq (.bool false), PEq (.bool false), PEq undef, PEq undef, PEq undef, PEq undef, PEq undef, PEq undef] (by kernel_rfl) rfl (by kernel_rfl) ⟨PA.mono _ _ _, PV.mono _ _ _, PEq.mono _, PEq.mono _, PEq.mono _, PEq.mono _, PEq.mono _, PEq.mono _, PEq.mono _, PEq.mono _, PEq.mono _, trivial⟩ ⟨?_, ?_, ?_, ?_, ?_, ?_, ?_, ?_, ?_, ?_, ?_, trivial⟩ ?_
      · intro w36 D hS26 hd26
        have hl36 := Le.no M4 hS26
        have hC36 := hC19.no hS26
        refine dg_sub (E' := [(1, (.pointer (some p1)))]) ⟨rfl, trivial⟩ ?_
        refine dg_plain rfl (ow_fieldAddr rfl rfl Tryd.underlying57 rfl (Tryd.sizeOf55 _) ?_)
        exact ⟨BX.refl _ _, ⟨_, rfl, (ARep.mono (hl19.trans hl36) (hp1.fld fld_Ruleset_Chains))⟩⟩
      · intro w37 D hS27 hd27
        have hl37 := Le.no M4 hS27
        have hC37 := hC19.no hS27
        have hd27 : PA (RSlice (RSlice RRule)) M4 a_s.Chains (D 0) w37 ∧ True := hd27
        obtain ⟨d50, -⟩ := hd27
        obtain ⟨p15, e11, ha8⟩ := d50
        refine dg_sub (E' := [(42, (.pointer (some p15)))]) ⟨(congrArg some e11), trivial⟩ ?_
        refine dg_plain rfl (ow_load (R := (RSlice (RSlice RRule))) rfl rfl ha8 (Tryd.sizeOf55 _) (Tryd.isAgg55 _) fun v36 hv36 => ?_)
        exact ⟨BX.refl _ _, hv36⟩
      · intro w38 D hS28 hd28
        have hl38 := Le.no M4 hS28
        have hC38 := hC19.no hS28
        have hd28 : PV (RSlice (RSlice RRule)) M4 a_s.Chains (D 1) w38 ∧ True := hd28
        obtain ⟨d51, -⟩ := hd28
        obtain ⟨v37, hq8⟩ : ∃ v, (D 1) = v := ⟨_, rfl⟩
        rw [hq8] at d51
        refine dg_sub (E' := [(43, v37)]) ⟨(congrArg some hq8), trivial⟩ ?_
        refine dg_plain rfl (ow_len rfl rfl d51 Tryd.underlying55 rfl ?_)
        exact ⟨BX.refl _ _, rfl⟩
      · intro w39 D hS29 hd29
        have hl39 := Le.no M4 hS29
        have hC39 := hC19.no hS29
        have hd29 : PEq (.int .i64 (a_s.Chains.length : Int)) (D 2) w39 ∧ True := hd29
        obtain ⟨d52, -⟩ := hd29
        refine dg_sub (E' := [(44, (.int .i64 (a_s.Chains.length : Int)))]) ⟨(congrArg some d52), trivial⟩ ?_
        refine dg_plain rfl (ow_call rfl rfl Tryd.call83 (w_spec_l1In (hG.mono ((hl1.trans hl19).trans hl39)) hC39.old hx4) fun v38 w40 hv38 => ?_)
        obtain ⟨hv38, hb9⟩ := hv38
        have hl40 := Le.no M4 hb9
        have hC40 := hC39.no hb9
        obtain rfl := vbool_eq hv38
        exact ⟨hb9, rfl⟩
      · intro w41 D hS30 hd30
        have hl41 := Le.no M4 hS30
        have hC41 := hC19.no hS30
        have hd30 : PEq (.bool false) (D 3) w41 ∧ PEq (.bool false) (D 3) w41 ∧ True := hd30
        obtain ⟨d53, d54, -⟩ := hd30
        refine dg_sub (E' := [(45, (.bool false))]) ⟨(congrArg some d53), trivial⟩ ?_
        refine dg_plain rfl (ow_move rfl rfl ?_)
        exact ⟨BX.refl _ _, rfl⟩
      · intro w42 D hS31 hd31
        have hl42 := Le.no M4 hS31
        have hC42 := hC19.no hS31
        have hd31 : PEq (.bool false) (D 4) w42 ∧ True := hd31
        obtain ⟨d55, -⟩ := hd31
        refine dg_sub (E' := [(46, (.bool false)), (1, (.pointer (some p1)))]) ⟨(congrArg some d55), rfl, trivial⟩ ?_
        exact dg_off rfl rfl rfl rfl ⟨BX.refl _ _, rfl⟩
      · intro w43 D hS32 hd32
        have hl43 := Le.no M4 hS32
        have hC43 := hC19.no hS32
        have hd32 : PEq undef (D 5) w43 ∧ PEq (.bool false) (D 4) w43 ∧ PEq (.bool false) (D 4) w43 ∧ True := hd32
        obtain ⟨d56, d57, d58, -⟩ := hd32
        refine dg_sub (E' := [(47, undef), (46, (.bool false))]) ⟨(congrArg some d56), (congrArg some d57), trivial⟩ ?_
        exact dg_off rfl rfl rfl rfl ⟨BX.refl _ _, rfl⟩
      · intro w44 D hS33 hd33
        have hl44 := Le.no M4 hS33
        have hC44 := hC19.no hS33
        have hd33 : PEq undef (D 6) w44 ∧ PEq (.bool false) (D 4) w44 ∧ True := hd33
        obtain ⟨d59, d60, -⟩ := hd33
        refine dg_sub (E' := [(48, undef), (46, (.bool false))]) ⟨(congrArg some d59), (congrArg some d60), trivial⟩ ?_
        exact dg_off rfl rfl rfl rfl ⟨BX.refl _ _, rfl⟩
      · intro w45 D hS34 hd34
        have hl45 := Le.no M4 hS34
        have hC45 := hC19.no hS34
        have hd34 : PEq (.bool false) (D 4) w45 ∧ True := hd34
        obtain ⟨d61, -⟩ := hd34
        refine dg_sub (E' := [(46, (.bool false)), (1, (.pointer (some p1)))]) ⟨(congrArg some d61), rfl, trivial⟩ ?_
        exact dg_off rfl rfl rfl rfl ⟨BX.refl _ _, rfl⟩
      · intro w46 D hS35 hd35
        have hl46 := Le.no M4 hS35
        have hC46 := hC19.no hS35
        have hd35 : PEq undef (D 8) w46 ∧ PEq (.bool false) (D 4) w46 ∧ True := hd35
        obtain ⟨d62, d63, -⟩ := hd35
        refine dg_sub (E' := [(50, undef), (46, (.bool false))]) ⟨(congrArg some d62), (congrArg some d63), trivial⟩ ?_
        exact dg_off rfl rfl rfl rfl ⟨BX.refl _ _, rfl⟩
      · intro w47 D hS36 hd36
        have hl47 := Le.no M4 hS36
        have hC47 := hC19.no hS36
        have hd36 : PEq undef (D 9) w47 ∧ PEq (.bool false) (D 4) w47 ∧ True := hd36
        obtain ⟨d64, d65, -⟩ := hd36
        refine dg_sub (E' := [(51, undef), (46, (.bool false))]) ⟨(congrArg some d64), (congrArg some d65), trivial⟩ ?_
        exact dg_off rfl rfl rfl rfl ⟨BX.refl _ _, rfl⟩
      · intro w48 D hS37 hd37
        have hl48 := Le.no M4 hS37
        have hC48 := hC19.no hS37
        have hd37 : PA (RSlice (RSlice RRule)) M4 a_s.Chains (D 0) w48 ∧ PV (RSlice (RSlice RRule)) M4 a_s.Chains (D 1) w48 ∧ PEq (.int .i64 (a_s.Chains.length : Int)) (D 2) w48 ∧ PEq (.bool false) (D 3) w48 ∧ PEq (.bool false) (D 4) w48 ∧ PEq undef (D 5) w48 ∧ PEq undef (D 6) w48 ∧ PEq undef (D 7) w48 ∧ PEq undef (D 8) w48 ∧ PEq undef (D 9) w48 ∧ PEq undef (D 10) w48 ∧ True := hd37
        obtain ⟨-, -, -, -, d70, -, -, d73, -, -, d76, -⟩ := hd37
        refine lw_sub (E' := [(46, (.bool false)), (49, undef), (52, undef), (1, (.pointer (some p1)))]) ⟨(congrArg some d70), (congrArg some d73), (congrArg some d76), rfl, trivial⟩ ?_
        refine lw_off rfl rfl rfl rfl rfl rfl ?_
        refine lw_op rfl rfl rfl (ow_pickF rfl rfl rfl ?_)
        refine lw_op rfl rfl rfl (ow_assign rfl rfl ?_)
        refine lw_nil ?_
        refine ew_then ?_
        refine cw_ret ?_
        obtain rfl := Option.some.inj h
        exact ew_ret (res1 rfl (.tmp rfl)) ⟨_, rfl, ((vbool _)), hC48.bx⟩

theorem w_spec_PacketValid {w : World} {M : Nat → Prop} (hG : ARep (RArr 4 RShape) w M shapes ⟨0, 0, none⟩) (hO : ∀ b, M b → b < w.heap.size) {v0p : Value} {a_p : Packet} (h0 : VRep RPacket w M a_p v0p) {r : Bool} (h : F.spec_PacketValid a_p = some r) :
    Calls Tryd.prog 76 [v0p].toArray w fun e w' => ∃ v, e = .returned v ∧ VRep RBool w' M r v ∧ BX No w w' := by
  have hC : Cx No w M w M := Cx.start hO (fun _ e => e.elim)
  refine walk (N := 21) Tryd.func76 rfl Tryd.ntmps76 rfl ?_
  refine cw_seq ?_
  refine cw_region ?_
  refine lw_op rfl rfl rfl (ow_box (R := RPacket) rfl rfl h0 hC fun p1 w1 hp1 hb1 hl1 hC1 => ?_)
  refine lw_op rfl rfl rfl (ow_assign rfl rfl ?_)
  refine lw_nil ?_
  refine ew_then ?_
  refine cw_seq ?_
  refine cw_region ?_
  refine lw_op rfl rfl rfl (ow_fieldAddr rfl rfl Tryd.underlying39 rfl (Tryd.sizeOf3 _) ?_)
  refine lw_op rfl rfl rfl (ow_load (R := RInt) rfl rfl (hp1.fld fld_Packet_From) (Tryd.sizeOf3 _) (Tryd.isAgg3 _) fun v1 hv1 => ?_)
  obtain rfl := vint_eq hv1
  replace h := bind_some h
  obtain ⟨x1, hx1, h⟩ := h
  refine lw_op rfl rfl rfl (ow_call rfl rfl Tryd.call83 (w_spec_l1In (hG.mono hl1) hC1.old hx1) fun v2 w2 hv2 => ?_)
  obtain ⟨hv2, hb2⟩ := hv2
  have hl2 := Le.no M hb2
  have hC2 := hC1.no hb2
  obtain rfl := vbool_eq hv2
  refine lw_op rfl rfl rfl (ow_move rfl rfl ?_)
  replace h := cond_some h
  rcases h with ⟨hc1, h⟩ | ⟨hc1, h⟩
  · subst hc1
    refine lw_on rfl rfl rfl rfl rfl rfl (ow_fieldAddr rfl rfl Tryd.underlying39 rfl (Tryd.sizeOf3 _) ?_)
    refine lw_on rfl rfl rfl rfl rfl rfl (ow_load (R := RInt) rfl rfl (ARep.mono hl2 (hp1.fld fld_Packet_To)) (Tryd.sizeOf3 _) (Tryd.isAgg3 _) fun v3 hv3 => ?_)
    obtain rfl := vint_eq hv3
    replace h := bind_some h
    obtain ⟨x2, hx2, h⟩ := h
    refine lw_on rfl rfl rfl rfl rfl rfl (ow_call rfl rfl Tryd.call83 (w_spec_l1In (hG.mono (hl1.trans hl2)) hC2.old hx2) fun v4 w3 hv4 => ?_)
    obtain ⟨hv4, hb3⟩ := hv4
    have hl3 := Le.no M hb3
    have hC3 := hC2.no hb3
    obtain rfl := vbool_eq hv4
    refine lw_op rfl rfl rfl (ow_pickT rfl rfl rfl ?_)
    refine lw_op rfl rfl rfl (ow_move rfl rfl ?_)
    replace h := cond_some h
    rcases h with ⟨hc2, h⟩ | ⟨hc2, h⟩
    · subst hc2
      refine lw_on rfl rfl rfl rfl rfl rfl (ow_fieldAddr rfl rfl Tryd.underlying39 rfl (Tryd.sizeOf3 _) ?_)
      refine lw_on rfl rfl rfl rfl rfl rfl (ow_load (R := RInt) rfl rfl (ARep.mono (hl2.trans hl3) (hp1.fld fld_Packet_Port)) (Tryd.sizeOf3 _) (Tryd.isAgg3 _) fun v5 hv5 => ?_)
      obtain rfl := vint_eq hv5
      replace h := bind_some h
      obtain ⟨x3, hx3, h⟩ := h
      refine lw_on rfl rfl rfl rfl rfl rfl (ow_call rfl rfl Tryd.call83 (w_spec_l1In (hG.mono ((hl1.trans hl2).trans hl3)) hC3.old hx3) fun v6 w4 hv6 => ?_)
      obtain ⟨hv6, hb4⟩ := hv6
      have hl4 := Le.no M hb4
      have hC4 := hC3.no hb4
      obtain rfl := vbool_eq hv6
      refine lw_op rfl rfl rfl (ow_pickT rfl rfl rfl ?_)
      refine lw_op rfl rfl rfl (ow_move rfl rfl ?_)
      replace h := cond_some h
      rcases h with ⟨hc3, h⟩ | ⟨hc3, h⟩
      · subst hc3
        refine lw_on rfl rfl rfl rfl rfl rfl (ow_fieldAddr rfl rfl Tryd.underlying39 rfl (Tryd.sizeOf3 _) ?_)
        refine lw_on rfl rfl rfl rfl rfl rfl (ow_load (R := RInt) rfl rfl (ARep.mono ((hl2.trans hl3).trans hl4) (hp1.fld fld_Packet_Proto)) (Tryd.sizeOf3 _) (Tryd.isAgg3 _) fun v7 hv7 => ?_)
        obtain rfl := vint_eq hv7
        replace h := bind_some h
        obtain ⟨x4, hx4, h⟩ := h
        refine lw_on rfl rfl rfl rfl rfl rfl (ow_call rfl rfl Tryd.call83 (w_spec_l1In (hG.mono (((hl1.trans hl2).trans hl3).trans hl4)) hC4.old hx4) fun v8 w5 hv8 => ?_)
        obtain ⟨hv8, hb5⟩ := hv8
        have hl5 := Le.no M hb5
        have hC5 := hC4.no hb5
        obtain rfl := vbool_eq hv8
        refine lw_op rfl rfl rfl (ow_pickT rfl rfl rfl ?_)
        refine lw_op rfl rfl rfl (ow_assign rfl rfl ?_)
        refine lw_nil ?_
        refine ew_then ?_
        refine cw_ret ?_
        obtain rfl := Option.some.inj h
        exact ew_ret (res1 rfl (.tmp rfl)) ⟨_, rfl, ((vbool _)), hC5.bx⟩
      · subst hc3
        refine lw_off rfl rfl rfl rfl rfl rfl ?_
        refine lw_off rfl rfl rfl rfl rfl rfl ?_
        refine lw_off rfl rfl rfl rfl rfl rfl ?_
        refine lw_op rfl rfl rfl (ow_pickF rfl rfl rfl ?_)
        refine lw_op rfl rfl rfl (ow_assign rfl rfl ?_)
        refine lw_nil ?_
        refine ew_then ?_
        refine cw_ret ?_
        obtain rfl := Option.some.inj h
        exact ew_ret (res1 rfl (.tmp rfl)) ⟨_, rfl, ((vbool _)), hC4.bx⟩
    · subst hc2
      refine lw_off rfl rfl rfl rfl rfl rfl ?_
      refine lw_off rfl rfl rfl rfl rfl rfl ?_
      refine lw_off rfl rfl rfl rfl rfl rfl ?_
      refine lw_op rfl rfl rfl (ow_pickF rfl rfl rfl ?_)
      refine lw_op rfl rfl rfl (ow_move rfl rfl ?_)
      refine lw_off rfl rfl rfl rfl rfl rfl ?_
      refine lw_off rfl rfl rfl rfl rfl rfl ?_
      refine lw_off rfl rfl rfl rfl rfl rfl ?_
      refine lw_op rfl rfl rfl (ow_pickF rfl rfl rfl ?_)
      refine lw_op rfl rfl rfl (ow_assign rfl rfl ?_)
      refine lw_nil ?_
      refine ew_then ?_
      refine cw_ret ?_
      obtain rfl := Option.some.inj h
      exact ew_ret (res1 rfl (.tmp rfl)) ⟨_, rfl, ((vbool _)), hC3.bx⟩
  · subst hc1
    refine lw_off rfl rfl rfl rfl rfl rfl ?_
    refine lw_off rfl rfl rfl rfl rfl rfl ?_
    refine lw_off rfl rfl rfl rfl rfl rfl ?_
    refine lw_op rfl rfl rfl (ow_pickF rfl rfl rfl ?_)
    refine lw_op rfl rfl rfl (ow_move rfl rfl ?_)
    refine lw_off rfl rfl rfl rfl rfl rfl ?_
    refine lw_off rfl rfl rfl rfl rfl rfl ?_
    refine lw_off rfl rfl rfl rfl rfl rfl ?_
    refine lw_op rfl rfl rfl (ow_pickF rfl rfl rfl ?_)
    refine lw_op rfl rfl rfl (ow_move rfl rfl ?_)
    refine lw_off rfl rfl rfl rfl rfl rfl ?_
    refine lw_off rfl rfl rfl rfl rfl rfl ?_
    refine lw_off rfl rfl rfl rfl rfl rfl ?_
    refine lw_op rfl rfl rfl (ow_pickF rfl rfl rfl ?_)
    refine lw_op rfl rfl rfl (ow_assign rfl rfl ?_)
    refine lw_nil ?_
    refine ew_then ?_
    refine cw_ret ?_
    obtain rfl := Option.some.inj h
    exact ew_ret (res1 rfl (.tmp rfl)) ⟨_, rfl, ((vbool _)), hC2.bx⟩

theorem w_spec_PacketField {w : World} {M : Nat → Prop} (hG : ARep (RArr 4 RShape) w M shapes ⟨0, 0, none⟩) (hO : ∀ b, M b → b < w.heap.size) {v0p : Value} {a_p : Packet} (h0 : VRep RPacket w M a_p v0p) {a_n : Int} {r : Int} (h : F.spec_PacketField a_p a_n = some r) :
    Calls Tryd.prog 118 [v0p, (.int .i64 a_n)].toArray w fun e w' => ∃ v, e = .returned v ∧ VRep RInt w' M r v ∧ BX No w w' := by
  have hC : Cx No w M w M := Cx.start hO (fun _ e => e.elim)
  refine walk (N := 25) Tryd.func118 rfl Tryd.ntmps118 rfl ?_
  refine cw_seq ?_
  refine cw_region ?_
  refine lw_op rfl rfl rfl (ow_box (R := RPacket) rfl rfl h0 hC fun p1 w1 hp1 hb1 hl1 hC1 => ?_)
  refine lw_op rfl rfl rfl (ow_assign rfl rfl ?_)
  refine lw_nil ?_
  refine ew_then ?_
  refine cw_seq ?_
  refine cw_seq ?_
  refine cw_region ?_
  refine lw_op rfl rfl rfl (ow_load (R := RPacket) rfl rfl hp1 (Tryd.sizeOf39 _) (Tryd.isAgg39 _) fun v1 hv1 => ?_)
  replace h := bind_some h
  obtain ⟨x1, hx1, h⟩ := h
  refine lw_op rfl rfl rfl (ow_call rfl rfl Tryd.call76 (w_spec_PacketValid (hG.mono hl1) hC1.old hv1 hx1) fun v2 w2 hv2 => ?_)
  obtain ⟨hv2, hb2⟩ := hv2
  have hl2 := Le.no M hb2
  have hC2 := hC1.no hb2
  obtain rfl := vbool_eq hv2
  refine lw_op rfl rfl rfl (ow_not rfl rfl ?_)
  refine lw_op rfl rfl rfl (ow_move rfl rfl ?_)
  replace h := cond_some h
  rcases h with ⟨hc1, h⟩ | ⟨hc1, h⟩
  · subst hc1
    refine lw_on rfl rfl rfl rfl rfl rfl (ow_move rfl rfl ?_)
    replace h := bind_some h
    obtain ⟨x2, hx2, h⟩ := h
    refine lw_on rfl rfl rfl rfl rfl rfl (ow_call rfl rfl Tryd.call83 (w_spec_l1In (hG.mono (hl1.trans hl2)) hC2.old hx2) fun v3 w3 hv3 => ?_)
    obtain ⟨hv3, hb3⟩ := hv3
    have hl3 := Le.no M hb3
    have hC3 := hC2.no hb3
    obtain rfl := vbool_eq hv3
    refine lw_on rfl rfl rfl rfl rfl rfl (ow_not rfl rfl ?_)
    refine lw_op rfl rfl rfl (ow_pickF rfl rfl rfl ?_)
    refine lw_nil ?_
    refine ew_then ?_
    replace h := cond_some h
    rcases h with ⟨hc2, h⟩ | ⟨hc2, h⟩
    · subst hc2
      refine cw_false rfl ?_
      refine cw_skip ?_
      refine ew_then ?_
      refine cw_seq ?_
      refine cw_region ?_
      refine lw_op rfl rfl rfl (ow_fieldAddr rfl rfl Tryd.underlying39 rfl (Tryd.sizeOf3 _) ?_)
      refine lw_op rfl rfl rfl (ow_load (R := RInt) rfl rfl (ARep.mono (hl2.trans hl3) (hp1.fld fld_Packet_From)) (Tryd.sizeOf3 _) (Tryd.isAgg3 _) fun v4 hv4 => ?_)
      obtain rfl := vint_eq hv4
      refine lw_op rfl rfl rfl (ow_fieldAddr rfl rfl Tryd.underlying39 rfl (Tryd.sizeOf3 _) ?_)
      refine lw_op rfl rfl rfl (ow_load (R := RInt) rfl rfl (ARep.mono (hl2.trans hl3) (hp1.fld fld_Packet_To)) (Tryd.sizeOf3 _) (Tryd.isAgg3 _) fun v5 hv5 => ?_)
      obtain rfl := vint_eq hv5
      refine lw_op rfl rfl rfl (ow_fieldAddr rfl rfl Tryd.underlying39 rfl (Tryd.sizeOf3 _) ?_)
      refine lw_op rfl rfl rfl (ow_load (R := RInt) rfl rfl (ARep.mono (hl2.trans hl3) (hp1.fld fld_Packet_Port)) (Tryd.sizeOf3 _) (Tryd.isAgg3 _) fun v6 hv6 => ?_)
      obtain rfl := vint_eq hv6
      refine lw_op rfl rfl rfl (ow_fieldAddr rfl rfl Tryd.underlying39 rfl (Tryd.sizeOf3 _) ?_)
      refine lw_op rfl rfl rfl (ow_load (R := RInt) rfl rfl (ARep.mono (hl2.trans hl3) (hp1.fld fld_Packet_Proto)) (Tryd.sizeOf3 _) (Tryd.isAgg3 _) fun v7 hv7 => ?_)
      obtain rfl := vint_eq hv7
      refine lw_op rfl rfl rfl (ow_buildSlice (R := RInt) (xs := [a_p.From, a_p.To, a_p.Port, a_p.Proto]) (cs := #[(.int .i64 a_p.From), (.int .i64 a_p.To), (.int .i64 a_p.Port), (.int .i64 a_p.Proto)]) (e := 3) rfl rfl (by kernel_rfl) rfl rfl ⟨_, _, rfl, (vint _).cells, _, _, rfl, (vint _).cells, _, _, rfl, (vint _).cells, _, _, rfl, (vint _).cells, rfl⟩ hC3 fun p2 w4 hw1 hb4 hl4 hC4 => ?_)
      refine lw_op rfl rfl rfl (ow_move rfl rfl ?_)
      replace h := bind_some h
      obtain ⟨x3, hx3, h⟩ := h
      refine lw_op rfl rfl rfl (ow_indexSlice (R := RInt) rfl rfl rfl hw1 Tryd.underlying116 (Tryd.sizeOf3 _) hx3 fun p3 hp3 => ?_)
      refine lw_op rfl rfl rfl (ow_load (R := RInt) rfl rfl hp3 (Tryd.sizeOf3 _) (Tryd.isAgg3 _) fun v8 hv8 => ?_)
      obtain rfl := vint_eq hv8
      refine lw_op rfl rfl rfl (ow_assign rfl rfl ?_)
      refine lw_nil ?_
      refine ew_then ?_
      refine cw_ret ?_
      obtain rfl := Option.some.inj h
      exact ew_ret (res1 rfl (.tmp rfl)) ⟨_, rfl, ((vint _)), hC4.bx⟩
    · subst hc2
      refine cw_true rfl ?_
      refine cw_seq ?_
      refine cw_region ?_
      refine lw_op rfl rfl rfl (ow_assign rfl rfl ?_)
      refine lw_nil ?_
      refine ew_then ?_
      refine cw_ret ?_
      refine ew_thenR ?_
      obtain rfl := Option.some.inj h
      exact ew_ret (res1 rfl (.tmp rfl)) ⟨_, rfl, ((vint _)), hC3.bx⟩
  · subst hc1
    refine lw_off rfl rfl rfl rfl rfl rfl ?_
    refine lw_off rfl rfl rfl rfl rfl rfl ?_
    refine lw_off rfl rfl rfl rfl rfl rfl ?_
    refine lw_op rfl rfl rfl (ow_pickT rfl rfl rfl ?_)
    refine lw_nil ?_
    refine ew_then ?_
    refine cw_true rfl ?_
    refine cw_seq ?_
    refine cw_region ?_
    refine lw_op rfl rfl rfl (ow_assign rfl rfl ?_)
    refine lw_nil ?_
    refine ew_then ?_
    refine cw_ret ?_
    refine ew_thenR ?_
    obtain rfl := Option.some.inj h
    exact ew_ret (res1 rfl (.tmp rfl)) ⟨_, rfl, ((vint _)), hC2.bx⟩


end Go.PF
