/- The walks; no condition. -/
import Derived.Test.YtfoodjhnagclfaaDoorProg
import Derived.Test.YtfoodjhnagclfaaDoorWk1
import Derived.Test.YtfoodjhnagclfaaDoorPFWalk
set_option maxRecDepth 100000
set_option maxHeartbeats 4000000
namespace Go.PF
open Go Go.RowKit Go.Proofs

theorem w_impl_RulesetValid {w : World} {M : Nat → Prop} (hG : ARep (RArr 4 RShape) w M shapes ⟨0, 0, none⟩) (hO : ∀ b, M b → b < w.heap.size) {v0p : Value} {a_s : Ruleset} (h0 : VRep RRuleset w M a_s v0p) {r : Bool} (h : F.impl_RulesetValid a_s = some r) :
    Calls Tryd.prog 36 [v0p].toArray w fun e w' => ∃ v, e = .returned v ∧ VRep RBool w' M r v ∧ BX No w w' := by
  have hC : Cx No w M w M := Cx.start hO (fun _ e => e.elim)
  refine walk (N := 54) Tryd.func36 rfl Tryd.ntmps36 rfl ?_
  refine cw_seq ?_
  refine cw_region ?_
  refine lw_op rfl rfl rfl (ow_box (R := RRuleset) rfl rfl h0 hC fun p1 w1 hp1 hb1 hl1 hC1 => ?_)
  refine lw_op rfl rfl rfl (ow_assign rfl rfl ?_)
  refine lw_nil ?_
  refine ew_then ?_
  refine cw_seq ?_
  refine cw_seq ?_
  refine cw_region ?_
  refine lw_op rfl rfl rfl (ow_fieldAddr rfl rfl Tryd.underlying57 rfl (Tryd.sizeOf55 _) ?_)
  refine lw_op rfl rfl rfl (ow_load (R := (RSlice (RSlice RRule))) rfl rfl (hp1.fld fld_Ruleset_Chains) (Tryd.sizeOf55 _) (Tryd.isAgg55 _) fun v1 hv1 => ?_)
  refine lw_op rfl rfl rfl (ow_len rfl rfl hv1 Tryd.underlying55 rfl ?_)
  refine lw_op rfl rfl rfl (ow_lss rfl rfl rfl fun bb1 hbb1 => ?_)
  refine lw_op rfl rfl rfl (ow_move rfl rfl ?_)
  replace h := cond_some h
  rcases h with ⟨hc1, h⟩ | ⟨hc1, h⟩
  · obtain rfl := hbb1.trans hc1
    refine lw_off rfl rfl rfl rfl rfl rfl ?_
    refine lw_off rfl rfl rfl rfl rfl rfl ?_
    refine lw_off rfl rfl rfl rfl rfl rfl ?_
    refine lw_off rfl rfl rfl rfl rfl rfl ?_
    refine lw_op rfl rfl rfl (ow_pickT rfl rfl rfl ?_)
    refine lw_nil ?_
    refine ew_then ?_
    refine cw_true rfl ?_
    refine cw_seq ?_
    refine cw_region ?_
    refine lw_op rfl rfl rfl (ow_assign rfl rfl ?_)
    refine lw_nil ?_
    refine ew_then ?_
    refine cw_ret ?_
    refine ew_thenR ?_
    obtain rfl := Option.some.inj h
    exact ew_ret (res1 rfl (.tmp rfl)) ⟨_, rfl, ((vbool _)), hC1.bx⟩
  · obtain rfl := hbb1.trans hc1
    refine lw_on rfl rfl rfl rfl rfl rfl (ow_fieldAddr rfl rfl Tryd.underlying57 rfl (Tryd.sizeOf55 _) ?_)
    refine lw_on rfl rfl rfl rfl rfl rfl (ow_load (R := (RSlice (RSlice RRule))) rfl rfl (hp1.fld fld_Ruleset_Chains) (Tryd.sizeOf55 _) (Tryd.isAgg55 _) fun v2 hv2 => ?_)
    refine lw_on rfl rfl rfl rfl rfl rfl (ow_len rfl rfl hv2 Tryd.underlying55 rfl ?_)
    refine lw_on rfl rfl rfl rfl rfl rfl (ow_gtr rfl rfl rfl fun bb2 hbb2 => ?_)
    refine lw_op rfl rfl rfl (ow_pickF rfl rfl rfl ?_)
    refine lw_nil ?_
    refine ew_then ?_
    replace h := cond_some h
    rcases h with ⟨hc2, h⟩ | ⟨hc2, h⟩
    · obtain rfl := hbb2.trans hc2
      refine cw_true rfl ?_
      refine cw_seq ?_
      refine cw_region ?_
      refine lw_op rfl rfl rfl (ow_assign rfl rfl ?_)
      refine lw_nil ?_
      refine ew_then ?_
      refine cw_ret ?_
      refine ew_thenR ?_
      obtain rfl := Option.some.inj h
      exact ew_ret (res1 rfl (.tmp rfl)) ⟨_, rfl, ((vbool _)), hC1.bx⟩
    · obtain rfl := hbb2.trans hc2
      refine cw_false rfl ?_
      refine cw_skip ?_
      refine ew_then ?_
      refine cw_seq ?_
      refine cw_seq ?_
      refine cw_region ?_
      refine lw_op rfl rfl rfl (ow_fieldAddr rfl rfl Tryd.underlying57 rfl (Tryd.sizeOf55 _) ?_)
      refine lw_op rfl rfl rfl (ow_load (R := (RSlice (RSlice RRule))) rfl rfl (hp1.fld fld_Ruleset_Chains) (Tryd.sizeOf55 _) (Tryd.isAgg55 _) fun v3 hv3 => ?_)
      refine lw_op rfl rfl rfl (ow_len rfl rfl hv3 Tryd.underlying55 rfl ?_)
      refine lw_op rfl rfl rfl (ow_move rfl rfl ?_)
      refine lw_nil ?_
      refine ew_then ?_
      replace h := bind_some h
      obtain ⟨lr1, hlr1, h⟩ := h
      refine cw_for hlr1 (fun s a w' => ∃ (M' : Nat → Prop), Fits 54 [(1, (.pointer (some p1))), (20, v3), (21, (.int .i64 (a_s.Chains.length : Int))), (22, (.int .i64 s))] a ∧ Le w1 M w' M' ∧ Cx No w M w' M') ?_ ?_ ?_
      · intro a ha
        exact ⟨M, ha.sub ⟨rfl, rfl, rfl, rfl, trivial⟩, Le.refl _ _, hC1⟩
      · rintro k1 a w2 sr1 ⟨M1, hF1, hl2, hC2⟩ hb2 hR1
        refine cw_at (E := [(1, (.pointer (some p1))), (20, v3), (21, (.int .i64 (a_s.Chains.length : Int))), (22, (.int .i64 k1))]) hF1 ?_
        refine cw_seq ?_
        refine cw_region ?_
        refine lw_op rfl rfl rfl (ow_lss rfl rfl rfl fun bb3 hbb3 => ?_)
        refine lw_nil ?_
        refine ew_then ?_
        refine cw_seq ?_
        replace hb2 := cond_some hb2
        rcases hb2 with ⟨hc3, hb2⟩ | ⟨hc3, hb2⟩
        · obtain rfl := hbb3.trans hc3
          refine cw_true rfl ?_
          refine cw_skip ?_
          refine ew_then ?_
          refine cw_seq ?_
          refine cw_block ?_
          refine cw_seq ?_
          refine cw_region ?_
          replace hb2 := bind_some hb2
          obtain ⟨x1, hx1, hb2⟩ := hb2
          refine lw_op rfl rfl rfl (ow_indexSlice (R := (RSlice RRule)) rfl rfl rfl (VRep.mono hl2 hv3) Tryd.underlying55 (Tryd.sizeOf86 _) hx1 fun p2 hp2 => ?_)
          refine lw_op rfl rfl rfl (ow_load (R := (RSlice RRule)) rfl rfl hp2 (Tryd.sizeOf86 _) (Tryd.isAgg86 _) fun v5 hv5 => ?_)
          refine lw_op rfl rfl rfl (ow_assign rfl rfl ?_)
          refine lw_nil ?_
          refine ew_then ?_
          refine cw_seq ?_
          refine cw_region ?_
          refine lw_op rfl rfl rfl (ow_move rfl rfl ?_)
          replace hb2 := bind_some hb2
          obtain ⟨x2, hx2, hb2⟩ := hb2
          refine lw_op rfl rfl rfl (ow_call rfl rfl Tryd.call86 (w_impl_RulesValid (hG.mono (hl1.trans hl2)) hC2.old hv5 hx2) fun v6 w3 hv6 => ?_)
          obtain ⟨hv6, hb3⟩ := hv6
          have hl3 := Le.no M1 hb3
          have hC3 := hC2.no hb3
          obtain rfl := vbool_eq hv6
          refine lw_op rfl rfl rfl (ow_not rfl rfl ?_)
          refine lw_nil ?_
          refine ew_then ?_
          replace hb2 := cond_some hb2
          rcases hb2 with ⟨hc4, hb2⟩ | ⟨hc4, hb2⟩
          · subst hc4
            refine cw_false rfl ?_
            refine cw_skip ?_
            refine ew_blockN ?_
            refine ew_then ?_
            refine cw_region ?_
            refine lw_op rfl rfl rfl (ow_add rfl rfl rfl ?_)
            refine lw_op rfl rfl rfl (ow_move rfl rfl ?_)
            refine lw_nil ?_
            refine ew_nxt (W (k1 + 1)) hb2 fun a ha => ⟨M1, ?_, (hl2.trans hl3), hC3⟩
            exact ha.sub ⟨rfl, rfl, rfl, rfl, trivial⟩
          · subst hc4
            refine cw_true rfl ?_
            refine cw_seq ?_
            refine cw_region ?_
            refine lw_op rfl rfl rfl (ow_assign rfl rfl ?_)
            refine lw_nil ?_
            refine ew_then ?_
            refine cw_ret ?_
            refine ew_blockR ?_
            refine ew_thenR ?_
            refine ew_thenR ?_
            refine ew_blockR ?_
            refine ew_brkR ?_
            refine ew_thenR ?_
            have e1 := hR1 _ (Option.some.inj hb2).symm
            subst e1
            obtain rfl := Option.some.inj h
            exact ew_ret (res1 rfl (.tmp rfl)) ⟨_, rfl, ((vbool _)), hC3.bx⟩
        · obtain rfl := hbb3.trans hc3
          refine cw_false rfl ?_
          refine cw_exit ?_
          refine ew_thenX ?_
          refine ew_thenX ?_
          refine ew_blockX ?_
          refine ew_brk k1 hb2 fun a ha => ⟨M1, ?_, hl2, hC2⟩
          exact ha.sub ⟨rfl, rfl, rfl, rfl, trivial⟩
      · rintro k2 a w4 hlr2 ⟨M2, hF2, hl4, hC4⟩
        subst hlr2
        refine ew_at (E := [(1, (.pointer (some p1))), (20, v3), (21, (.int .i64 (a_s.Chains.length : Int))), (22, (.int .i64 k2))]) hF2 ?_
        refine ew_then ?_
        refine cw_seq ?_
        refine cw_seq ?_
        refine cw_region ?_
        refine lw_op rfl rfl rfl (ow_fieldAddr rfl rfl Tryd.underlying57 rfl (Tryd.sizeOf55 _) ?_)
        refine lw_op rfl rfl rfl (ow_load (R := (RSlice (RSlice RRule))) rfl rfl (ARep.mono hl4 (hp1.fld fld_Ruleset_Chains)) (Tryd.sizeOf55 _) (Tryd.isAgg55 _) fun v8 hv8 => ?_)
        refine lw_op rfl rfl rfl (ow_len rfl rfl hv8 Tryd.underlying55 rfl ?_)
        refine lw_op rfl rfl rfl (ow_move rfl rfl ?_)
        refine lw_nil ?_
        refine ew_then ?_
        replace h := bind_some h
        obtain ⟨lr2, hlr3, h⟩ := h
        refine cw_for hlr3 (fun s a w' => ∃ (M' : Nat → Prop), Fits 54 [(1, (.pointer (some p1))), (31, v8), (32, (.int .i64 (a_s.Chains.length : Int))), (33, (.int .i64 s))] a ∧ Le w4 M2 w' M' ∧ Cx No w M w' M') ?_ ?_ ?_
        · intro a ha
          exact ⟨M2, ha.sub ⟨rfl, rfl, rfl, rfl, trivial⟩, Le.refl _ _, hC4⟩
        · rintro k3 a w5 sr2 ⟨M3, hF3, hl5, hC5⟩ hb4 hR2
          refine cw_at (E := [(1, (.pointer (some p1))), (31, v8), (32, (.int .i64 (a_s.Chains.length : Int))), (33, (.int .i64 k3))]) hF3 ?_
          refine cw_seq ?_
          refine cw_region ?_
          refine lw_op rfl rfl rfl (ow_lss rfl rfl rfl fun bb4 hbb4 => ?_)
          refine lw_nil ?_
          refine ew_then ?_
          refine cw_seq ?_
          replace hb4 := cond_some hb4
          rcases hb4 with ⟨hc5, hb4⟩ | ⟨hc5, hb4⟩
          · obtain rfl := hbb4.trans hc5
            refine cw_true rfl ?_
            refine cw_skip ?_
            refine ew_then ?_
            refine cw_seq ?_
            refine cw_block ?_
            refine cw_seq ?_
            refine cw_region ?_
            replace hb4 := bind_some hb4
            obtain ⟨x3, hx3, hb4⟩ := hb4
            refine lw_op rfl rfl rfl (ow_indexSlice (R := (RSlice RRule)) rfl rfl rfl (VRep.mono hl5 hv8) Tryd.underlying55 (Tryd.sizeOf86 _) hx3 fun p3 hp3 => ?_)
            refine lw_op rfl rfl rfl (ow_load (R := (RSlice RRule)) rfl rfl hp3 (Tryd.sizeOf86 _) (Tryd.isAgg86 _) fun v10 hv10 => ?_)
            refine lw_op rfl rfl rfl (ow_assign rfl rfl ?_)
            refine lw_nil ?_
            refine ew_then ?_
            refine cw_seq ?_
            refine cw_region ?_
            refine lw_op rfl rfl rfl (ow_move rfl rfl ?_)
            replace hb4 := bind_some hb4
            obtain ⟨x4, hx4, hb4⟩ := hb4
            refine lw_op rfl rfl rfl (ow_call rfl rfl Tryd.call87 (w_impl_callsIn (hG.mono ((hl1.trans hl4).trans hl5)) hC5.old hv10 hx4) fun v11 w6 hv11 => ?_)
            obtain ⟨hv11, hb5⟩ := hv11
            have hl6 := Le.no M3 hb5
            have hC6 := hC5.no hb5
            refine lw_op rfl rfl rfl (ow_len rfl rfl hv11 Tryd.underlying116 rfl ?_)
            refine lw_op rfl rfl rfl (ow_move rfl rfl ?_)
            refine lw_nil ?_
            refine ew_then ?_
            replace hb4 := bind_some hb4
            obtain ⟨lr3, hlr4, hb4⟩ := hb4
            refine cw_for hlr4 (fun s a w' => ∃ (M' : Nat → Prop), Fits 54 [(1, (.pointer (some p1))), (31, v8), (32, (.int .i64 (a_s.Chains.length : Int))), (33, (.int .i64 k3)), (38, v11), (39, (.int .i64 (x4.length : Int))), (40, (.int .i64 s))] a ∧ Le w6 M3 w' M' ∧ Cx No w M w' M') ?_ ?_ ?_
            · intro a ha
              exact ⟨M3, ha.sub ⟨rfl, rfl, rfl, rfl, rfl, rfl, rfl, trivial⟩, Le.refl _ _, hC6⟩
            · rintro k4 a w7 sr3 ⟨M4, hF4, hl7, hC7⟩ hb6 hR3
              refine cw_at (E := [(1, (.pointer (some p1))), (31, v8), (32, (.int .i64 (a_s.Chains.length : Int))), (33, (.int .i64 k3)), (38, v11), (39, (.int .i64 (x4.length : Int))), (40, (.int .i64 k4))]) hF4 ?_
              refine cw_seq ?_
              refine cw_region ?_
              refine lw_op rfl rfl rfl (ow_lss rfl rfl rfl fun bb5 hbb5 => ?_)
              refine lw_nil ?_
              refine ew_then ?_
              refine cw_seq ?_
              replace hb6 := cond_some hb6
              rcases hb6 with ⟨hc6, hb6⟩ | ⟨hc6, hb6⟩
              · obtain rfl := hbb5.trans hc6
                refine cw_true rfl ?_
                refine cw_skip ?_
                refine ew_then ?_
                refine cw_seq ?_
                refine cw_block ?_
                refine cw_seq ?_
                refine cw_region ?_
                replace hb6 := bind_some hb6
                obtain ⟨x5, hx5, hb6⟩ := hb6
                refine lw_op rfl rfl rfl (ow_indexSlice (R := RInt) rfl rfl rfl (VRep.mono hl7 hv11) Tryd.underlying116 (Tryd.sizeOf3 _) hx5 fun p4 hp4 => ?_)
                refine lw_op rfl rfl rfl (ow_load (R := RInt) rfl rfl hp4 (Tryd.sizeOf3 _) (Tryd.isAgg3 _) fun v13 hv13 => ?_)
                obtain rfl := vint_eq hv13
                refine lw_op rfl rfl rfl (ow_assign rfl rfl ?_)
                refine lw_nil ?_
                refine ew_then ?_
                refine cw_seq ?_
                refine cw_region ?_
                refine lw_op rfl rfl rfl (ow_move rfl rfl ?_)
                refine lw_op rfl rfl rfl (ow_fieldAddr rfl rfl Tryd.underlying57 rfl (Tryd.sizeOf55 _) ?_)
                refine lw_op rfl rfl rfl (ow_load (R := (RSlice (RSlice RRule))) rfl rfl (ARep.mono (((hl4.trans hl5).trans hl6).trans hl7) (hp1.fld fld_Ruleset_Chains)) (Tryd.sizeOf55 _) (Tryd.isAgg55 _) fun v14 hv14 => ?_)
                refine lw_op rfl rfl rfl (ow_len rfl rfl hv14 Tryd.underlying55 rfl ?_)
                refine lw_op rfl rfl rfl (ow_geq rfl rfl rfl fun bb6 hbb6 => ?_)
                refine lw_nil ?_
                refine ew_then ?_
                replace hb6 := cond_some hb6
                rcases hb6 with ⟨hc7, hb6⟩ | ⟨hc7, hb6⟩
                · obtain rfl := hbb6.trans hc7
                  refine cw_true rfl ?_
                  refine cw_seq ?_
                  refine cw_region ?_
                  refine lw_op rfl rfl rfl (ow_assign rfl rfl ?_)
                  refine lw_nil ?_
                  refine ew_then ?_
                  refine cw_ret ?_
                  refine ew_blockR ?_
                  refine ew_thenR ?_
                  refine ew_thenR ?_
                  refine ew_blockR ?_
                  refine ew_brkR ?_
                  refine ew_blockR ?_
                  refine ew_thenR ?_
                  refine ew_thenR ?_
                  refine ew_blockR ?_
                  refine ew_brkR ?_
                  refine ew_thenR ?_
                  have e2 := hR3 _ (Option.some.inj hb6).symm
                  subst e2
                  have e3 := hR2 _ (Option.some.inj hb4).symm
                  subst e3
                  obtain rfl := Option.some.inj h
                  exact ew_ret (res1 rfl (.tmp rfl)) ⟨_, rfl, ((vbool _)), hC7.bx⟩
                · obtain rfl := hbb6.trans hc7
                  refine cw_false rfl ?_
                  refine cw_skip ?_
                  refine ew_blockN ?_
                  refine ew_then ?_
                  refine cw_region ?_
                  refine lw_op rfl rfl rfl (ow_add rfl rfl rfl ?_)
                  refine lw_op rfl rfl rfl (ow_move rfl rfl ?_)
                  refine lw_nil ?_
                  refine ew_nxt (W (k4 + 1)) hb6 fun a ha => ⟨M4, ?_, hl7, hC7⟩
                  exact ha.sub ⟨rfl, rfl, rfl, rfl, rfl, rfl, rfl, trivial⟩
              · obtain rfl := hbb5.trans hc6
                refine cw_false rfl ?_
                refine cw_exit ?_
                refine ew_thenX ?_
                refine ew_thenX ?_
                refine ew_blockX ?_
                refine ew_brk k4 hb6 fun a ha => ⟨M4, ?_, hl7, hC7⟩
                exact ha.sub ⟨rfl, rfl, rfl, rfl, rfl, rfl, rfl, trivial⟩
            · rintro k5 a w8 hlr5 ⟨M5, hF5, hl8, hC8⟩
              subst hlr5
              refine ew_at (E := [(1, (.pointer (some p1))), (31, v8), (32, (.int .i64 (a_s.Chains.length : Int))), (33, (.int .i64 k3)), (38, v11), (39, (.int .i64 (x4.length : Int))), (40, (.int .i64 k5))]) hF5 ?_
              refine ew_blockN ?_
              refine ew_then ?_
              refine cw_region ?_
              refine lw_op rfl rfl rfl (ow_add rfl rfl rfl ?_)
              refine lw_op rfl rfl rfl (ow_move rfl rfl ?_)
              refine lw_nil ?_
              refine ew_nxt (W (k3 + 1)) hb4 fun a ha => ⟨M5, ?_, ((hl5.trans hl6).trans hl8), hC8⟩
              exact ha.sub ⟨rfl, rfl, rfl, rfl, trivial⟩
          · obtain rfl := hbb4.trans hc5
            refine cw_false rfl ?_
            refine cw_exit ?_
            refine ew_thenX ?_
            refine ew_thenX ?_
            refine ew_blockX ?_
            refine ew_brk k3 hb4 fun a ha => ⟨M3, ?_, hl5, hC5⟩
            exact ha.sub ⟨rfl, rfl, rfl, rfl, trivial⟩
        · rintro k6 a w9 hlr6 ⟨M6, hF6, hl9, hC9⟩
          subst hlr6
          refine ew_at (E := [(1, (.pointer (some p1))), (31, v8), (32, (.int .i64 (a_s.Chains.length : Int))), (33, (.int .i64 k6))]) hF6 ?_
          refine ew_then ?_
          refine cw_seq ?_
          refine cw_region ?_
          refine lw_op rfl rfl rfl (ow_fieldAddr rfl rfl Tryd.underlying57 rfl (Tryd.sizeOf55 _) ?_)
          refine lw_op rfl rfl rfl (ow_load (R := (RSlice (RSlice RRule))) rfl rfl (ARep.mono (hl4.trans hl9) (hp1.fld fld_Ruleset_Chains)) (Tryd.sizeOf55 _) (Tryd.isAgg55 _) fun v17 hv17 => ?_)
          replace h := bind_some h
          obtain ⟨x6, hx6, h⟩ := h
          refine lw_op rfl rfl rfl (ow_call rfl rfl Tryd.call88 (w_impl_acyclic (hG.mono ((hl1.trans hl4).trans hl9)) hC9.old hv17 hx6) fun v18 w10 hv18 => ?_)
          obtain ⟨hv18, hb7⟩ := hv18
          have hl10 := Le.no M6 hb7
          have hC10 := hC9.no hb7
          obtain rfl := vbool_eq hv18
          refine lw_op rfl rfl rfl (ow_assign rfl rfl ?_)
          refine lw_nil ?_
          refine ew_then ?_
          refine cw_ret ?_
          obtain rfl := Option.some.inj h
          exact ew_ret (res1 rfl (.tmp rfl)) ⟨_, rfl, ((vbool _)), hC10.bx⟩

theorem w_impl_Packet_fields {w : World} {M : Nat → Prop} (_hG : ARep (RArr 4 RShape) w M shapes ⟨0, 0, none⟩) (hO : ∀ b, M b → b < w.heap.size) {v0p : Value} {a_p : Packet} (h0 : VRep RPacket w M a_p v0p) {r : (List Int)} (h : F.impl_Packet_fields a_p = some r) :
    Calls Tryd.prog 119 [v0p].toArray w fun e w' => ∃ v, e = .returned v ∧ VRep (RArr 4 RInt) w' M r v ∧ BX No w w' := by
  have hC : Cx No w M w M := Cx.start hO (fun _ e => e.elim)
  clear _hG
  refine walk (N := 12) Tryd.func119 rfl Tryd.ntmps119 rfl ?_
  refine cw_seq ?_
  refine cw_region ?_
  refine lw_op rfl rfl rfl (ow_box (R := RPacket) rfl rfl h0 hC fun p1 w1 hp1 hb1 hl1 hC1 => ?_)
  refine lw_op rfl rfl rfl (ow_alloc rfl (Tryd.zeroValue149 _) hC1 fun g1 w2 hg1 hg2 ho1 hb2 hl2 hC2 => ?_)
  have hm1 : (Add g1 M) g1 := .inl rfl
  have ho2 : OwnA (RArr 4 RInt) w2 (Add g1 M) g1 149 [0, 0, 0, 0] := OwnA.of ho1 ⟨rfl, ⟨_, _, rfl, (vint _).cells, _, _, rfl, (vint _).cells, _, _, rfl, (vint _).cells, _, _, rfl, (vint _).cells, rfl⟩⟩
  refine lw_nil ?_
  refine ew_then ?_
  refine cw_seq ?_
  refine cw_region ?_
  refine lw_op rfl rfl rfl (ow_fieldAddr rfl rfl Tryd.underlying39 rfl (Tryd.sizeOf3 _) ?_)
  refine lw_op rfl rfl rfl (ow_load (R := RInt) rfl rfl (ARep.mono hl2 (hp1.fld fld_Packet_From)) (Tryd.sizeOf3 _) (Tryd.isAgg3 _) fun v1 hv1 => ?_)
  obtain rfl := vint_eq hv1
  refine lw_op rfl rfl rfl (ow_fieldAddr rfl rfl Tryd.underlying39 rfl (Tryd.sizeOf3 _) ?_)
  refine lw_op rfl rfl rfl (ow_load (R := RInt) rfl rfl (ARep.mono hl2 (hp1.fld fld_Packet_To)) (Tryd.sizeOf3 _) (Tryd.isAgg3 _) fun v2 hv2 => ?_)
  obtain rfl := vint_eq hv2
  refine lw_op rfl rfl rfl (ow_fieldAddr rfl rfl Tryd.underlying39 rfl (Tryd.sizeOf3 _) ?_)
  refine lw_op rfl rfl rfl (ow_load (R := RInt) rfl rfl (ARep.mono hl2 (hp1.fld fld_Packet_Port)) (Tryd.sizeOf3 _) (Tryd.isAgg3 _) fun v3 hv3 => ?_)
  obtain rfl := vint_eq hv3
  refine lw_op rfl rfl rfl (ow_fieldAddr rfl rfl Tryd.underlying39 rfl (Tryd.sizeOf3 _) ?_)
  refine lw_op rfl rfl rfl (ow_load (R := RInt) rfl rfl (ARep.mono hl2 (hp1.fld fld_Packet_Proto)) (Tryd.sizeOf3 _) (Tryd.isAgg3 _) fun v4 hv4 => ?_)
  obtain rfl := vint_eq hv4
  refine lw_op rfl rfl rfl (ow_build (v := .agg #[(.int .i64 a_p.From), (.int .i64 a_p.To), (.int .i64 a_p.Port), (.int .i64 a_p.Proto)]) rfl rfl (by kernel_rfl) ?_)
  have hw1 : VRep (RArr 4 RInt) w2 (Add g1 M) [a_p.From, a_p.To, a_p.Port, a_p.Proto] (.agg #[(.int .i64 a_p.From), (.int .i64 a_p.To), (.int .i64 a_p.Port), (.int .i64 a_p.Proto)]) := ⟨_, ⟨rfl, ⟨_, _, rfl, (vint _).cells, _, _, rfl, (vint _).cells, _, _, rfl, (vint _).cells, _, _, rfl, (vint _).cells, rfl⟩⟩, rfl⟩
  obtain ⟨cs1, h1, h2⟩ := ho2.own
  refine lw_op0 rfl rfl (ow_storeA (X := No) (R := (RArr 4 RInt)) rfl rfl rfl rfl h1 h2 (Tryd.sizeOf149 _) hw1 hm1 (.inl hg2) hC2 fun w3 ho3 hb3 hl3 hC3 => ?_)
  refine lw_nil ?_
  refine ew_then ?_
  refine cw_ret ?_
  obtain rfl := Option.some.inj h
  obtain ⟨v5, hq1, hw2⟩ := resA ho3 (Tryd.sizeOf149 _) (Tryd.isAgg149 _) rfl
  exact ew_ret (res1 rfl (.cell rfl hq1)) ⟨_, rfl, (hw2.mono hC3.back), hC3.bx⟩

theorem w_impl_Test_holds {w : World} {M : Nat → Prop} (hG : ARep (RArr 4 RShape) w M shapes ⟨0, 0, none⟩) (hO : ∀ b, M b → b < w.heap.size) {v0p : Value} {a_t : Test} (h0 : VRep RTest w M a_t v0p) {v1p : Value} {a_p : Packet} (h1 : VRep RPacket w M a_p v1p) {r : Bool} (h : F.impl_Test_holds a_t a_p = some r) :
    Calls Tryd.prog 139 [v0p, v1p].toArray w fun e w' => ∃ v, e = .returned v ∧ VRep RBool w' M r v ∧ BX No w w' := by
  have hC : Cx No w M w M := Cx.start hO (fun _ e => e.elim)
  refine walk (N := 26) Tryd.func139 rfl Tryd.ntmps139 rfl ?_
  refine cw_seq ?_
  refine cw_region ?_
  refine lw_op rfl rfl rfl (ow_box (R := RTest) rfl rfl h0 hC fun p1 w1 hp1 hb1 hl1 hC1 => ?_)
  refine lw_op rfl rfl rfl (ow_box (R := RPacket) rfl rfl (VRep.mono hl1 h1) hC1 fun p2 w2 hp2 hb2 hl2 hC2 => ?_)
  refine lw_op rfl rfl rfl (ow_assign rfl rfl ?_)
  refine lw_nil ?_
  refine ew_then ?_
  refine cw_seq ?_
  replace h := bind_some h
  obtain ⟨x1, hx1, h⟩ := h
  refine cw_sub (E' := [(2, (.pointer (some p1))), (3, (.pointer (some p2))), (4, (.bool false))]) ⟨rfl, rfl, rfl, trivial⟩ ?_
  refine cw_drawQ 4 [PV RPacket M a_p, PV (RArr 4 RInt) M x1, PA RInt M a_t.Field, PEq (.int .i64 a_t.Field)] (by kernel_rfl) rfl (by kernel_rfl) ⟨PV.mono _ _ _, PV.mono _ _ _, PA.mono _ _ _, PEq.mono _, trivial⟩ ⟨?_, ?_, ?_, ?_, trivial⟩ ?_
  · intro w4 D hS1 hd1
    have hl4 := Le.no M hS1
    have hC4 := hC2.no hS1
    refine dg_sub (E' := [(3, (.pointer (some p2)))]) ⟨rfl, trivial⟩ ?_
    refine dg_plain rfl (ow_load (R := RPacket) rfl rfl (ARep.mono hl4 hp2) (Tryd.sizeOf39 _) (Tryd.isAgg39 _) fun v4 hv4 => ?_)
    exact ⟨BX.refl _ _, hv4⟩
  · intro w5 D hS2 hd2
    have hl5 := Le.no M hS2
    have hC5 := hC2.no hS2
    have hd2 : PV RPacket M a_p (D 0) w5 ∧ True := hd2
    obtain ⟨d1, -⟩ := hd2
    obtain ⟨v5, hq1⟩ : ∃ v, (D 0) = v := ⟨_, rfl⟩
    rw [hq1] at d1
    refine dg_sub (E' := [(7, v5)]) ⟨(congrArg some hq1), trivial⟩ ?_
    refine dg_plain rfl (ow_call rfl rfl Tryd.call119 (w_impl_Packet_fields (hG.mono ((hl1.trans hl2).trans hl5)) hC5.old d1 hx1) fun v6 w6 hv6 => ?_)
    obtain ⟨hv6, hb4⟩ := hv6
    have hl6 := Le.no M hb4
    have hC6 := hC5.no hb4
    exact ⟨hb4, hv6⟩
  · intro w7 D hS3 hd3
    have hl7 := Le.no M hS3
    have hC7 := hC2.no hS3
    refine dg_sub (E' := [(2, (.pointer (some p1)))]) ⟨rfl, trivial⟩ ?_
    refine dg_plain rfl (ow_fieldAddr rfl rfl Tryd.underlying186 rfl (Tryd.sizeOf3 _) ?_)
    exact ⟨BX.refl _ _, ⟨_, rfl, (ARep.mono (hl2.trans hl7) (hp1.fld fld_Test_Field))⟩⟩
  · intro w8 D hS4 hd4
    have hl8 := Le.no M hS4
    have hC8 := hC2.no hS4
    have hd4 : PA RInt M a_t.Field (D 2) w8 ∧ True := hd4
    obtain ⟨d2, -⟩ := hd4
    obtain ⟨p3, e1, ha1⟩ := d2
    refine dg_sub (E' := [(9, (.pointer (some p3)))]) ⟨(congrArg some e1), trivial⟩ ?_
    refine dg_plain rfl (ow_load (R := RInt) rfl rfl ha1 (Tryd.sizeOf3 _) (Tryd.isAgg3 _) fun v7 hv7 => ?_)
    obtain rfl := vint_eq hv7
    exact ⟨BX.refl _ _, rfl⟩
  · intro w9 D hS5 hd5
    have hl9 := Le.no M hS5
    have hC9 := hC2.no hS5
    have hd5 : PV RPacket M a_p (D 0) w9 ∧ PV (RArr 4 RInt) M x1 (D 1) w9 ∧ PA RInt M a_t.Field (D 2) w9 ∧ PEq (.int .i64 a_t.Field) (D 3) w9 ∧ True := hd5
    obtain ⟨-, d4, -, d6, -⟩ := hd5
    obtain ⟨v8, hq2⟩ : ∃ v, (D 1) = v := ⟨_, rfl⟩
    rw [hq2] at d4
    refine lw_sub (E' := [(8, v8), (10, (.int .i64 a_t.Field)), (2, (.pointer (some p1))), (3, (.pointer (some p2))), (4, (.bool false))]) ⟨(congrArg some hq2), (congrArg some d6), rfl, rfl, rfl, trivial⟩ ?_
    replace h := bind_some h
    obtain ⟨x2, hx2, h⟩ := h
    refine lw_op rfl rfl rfl (ow_index (R := RInt) rfl rfl rfl d4 Tryd.underlying149 (Tryd.sizeOf3 _) (Tryd.isAgg3 _) hx2 fun v9 hv9 => ?_)
    obtain rfl := vint_eq hv9
    refine lw_op rfl rfl rfl (ow_assign rfl rfl ?_)
    refine lw_nil ?_
    refine ew_then ?_
    refine cw_seq ?_
    refine cw_region ?_
    refine lw_op rfl rfl rfl (ow_fieldAddr rfl rfl Tryd.underlying186 rfl (Tryd.sizeOf3 _) ?_)
    refine lw_op rfl rfl rfl (ow_load (R := RInt) rfl rfl (ARep.mono (hl2.trans hl9) (hp1.fld fld_Test_Lo)) (Tryd.sizeOf3 _) (Tryd.isAgg3 _) fun v10 hv10 => ?_)
    obtain rfl := vint_eq hv10
    refine lw_op rfl rfl rfl (ow_move rfl rfl ?_)
    refine lw_op rfl rfl rfl (ow_leq rfl rfl rfl fun bb1 hbb1 => ?_)
    refine lw_op rfl rfl rfl (ow_move rfl rfl ?_)
    replace h := cond_some h
    rcases h with ⟨hc1, h⟩ | ⟨hc1, h⟩
    · obtain rfl := hbb1.trans hc1
      refine lw_on rfl rfl rfl rfl rfl rfl (ow_move rfl rfl ?_)
      refine lw_on rfl rfl rfl rfl rfl rfl (ow_fieldAddr rfl rfl Tryd.underlying186 rfl (Tryd.sizeOf3 _) ?_)
      refine lw_on rfl rfl rfl rfl rfl rfl (ow_load (R := RInt) rfl rfl (ARep.mono (hl2.trans hl9) (hp1.fld fld_Test_Hi)) (Tryd.sizeOf3 _) (Tryd.isAgg3 _) fun v11 hv11 => ?_)
      obtain rfl := vint_eq hv11
      refine lw_on rfl rfl rfl rfl rfl rfl (ow_leq rfl rfl rfl fun bb2 hbb2 => ?_)
      refine lw_op rfl rfl rfl (ow_pickT rfl rfl rfl ?_)
      refine lw_op rfl rfl rfl (ow_assign rfl rfl ?_)
      refine lw_nil ?_
      refine ew_then ?_
      refine cw_seq ?_
      refine cw_region ?_
      refine lw_op rfl rfl rfl (ow_move rfl rfl ?_)
      refine lw_op rfl rfl rfl (ow_fieldAddr rfl rfl Tryd.underlying186 rfl (Tryd.sizeOf4 _) ?_)
      refine lw_op rfl rfl rfl (ow_load (R := RBool) rfl rfl (ARep.mono (hl2.trans hl9) (hp1.fld fld_Test_Not)) (Tryd.sizeOf4 _) (Tryd.isAgg4 _) fun v12 hv12 => ?_)
      obtain ⟨bb3, hbb3, rfl⟩ := vbool_ex hv12
      refine lw_op rfl rfl rfl (ow_neqB rfl rfl rfl Tryd.underlying4 fun bb4 hbb4 => ?_)
      have hbb4' : bb4 = ((decide (x2 ≤ a_t.Hi)) != a_t.Not) := hbb4.trans (by rw [hbb2, hbb3])
      refine lw_op rfl rfl rfl (ow_assign rfl rfl ?_)
      refine lw_nil ?_
      refine ew_then ?_
      refine cw_ret ?_
      obtain rfl := Option.some.inj h
      exact ew_ret (res1 rfl (.tmp rfl)) ⟨_, rfl, ((vbool_of hbb4')), hC9.bx⟩
    · obtain rfl := hbb1.trans hc1
      refine lw_off rfl rfl rfl rfl rfl rfl ?_
      refine lw_off rfl rfl rfl rfl rfl rfl ?_
      refine lw_off rfl rfl rfl rfl rfl rfl ?_
      refine lw_off rfl rfl rfl rfl rfl rfl ?_
      refine lw_op rfl rfl rfl (ow_pickF rfl rfl rfl ?_)
      refine lw_op rfl rfl rfl (ow_assign rfl rfl ?_)
      refine lw_nil ?_
      refine ew_then ?_
      refine cw_seq ?_
      refine cw_region ?_
      refine lw_op rfl rfl rfl (ow_move rfl rfl ?_)
      refine lw_op rfl rfl rfl (ow_fieldAddr rfl rfl Tryd.underlying186 rfl (Tryd.sizeOf4 _) ?_)
      refine lw_op rfl rfl rfl (ow_load (R := RBool) rfl rfl (ARep.mono (hl2.trans hl9) (hp1.fld fld_Test_Not)) (Tryd.sizeOf4 _) (Tryd.isAgg4 _) fun v13 hv13 => ?_)
      obtain ⟨bb5, hbb5, rfl⟩ := vbool_ex hv13
      refine lw_op rfl rfl rfl (ow_neqB rfl rfl rfl Tryd.underlying4 fun bb6 hbb6 => ?_)
      have hbb6' : bb6 = (false != a_t.Not) := hbb6.trans (by rw [hbb5])
      refine lw_op rfl rfl rfl (ow_assign rfl rfl ?_)
      refine lw_nil ?_
      refine ew_then ?_
      refine cw_ret ?_
      obtain rfl := Option.some.inj h
      exact ew_ret (res1 rfl (.tmp rfl)) ⟨_, rfl, ((vbool_of hbb6')), hC9.bx⟩

theorem w_impl_allHold {w : World} {M : Nat → Prop} (hG : ARep (RArr 4 RShape) w M shapes ⟨0, 0, none⟩) (hO : ∀ b, M b → b < w.heap.size) {v0p : Value} {a_list : List Test} (h0 : VRep (RSlice RTest) w M a_list v0p) {v1p : Value} {a_p : Packet} (h1 : VRep RPacket w M a_p v1p) {r : Bool} (h : F.impl_allHold a_list a_p = some r) :
    Calls Tryd.prog 100 [v0p, v1p].toArray w fun e w' => ∃ v, e = .returned v ∧ VRep RBool w' M r v ∧ BX No w w' := by
  have hC : Cx No w M w M := Cx.start hO (fun _ e => e.elim)
  refine walk (N := 18) Tryd.func100 rfl Tryd.ntmps100 rfl ?_
  refine cw_seq ?_
  refine cw_region ?_
  refine lw_op rfl rfl rfl (ow_box (R := RPacket) rfl rfl h1 hC fun p1 w1 hp1 hb1 hl1 hC1 => ?_)
  refine lw_op rfl rfl rfl (ow_assign rfl rfl ?_)
  refine lw_nil ?_
  refine ew_then ?_
  refine cw_seq ?_
  refine cw_seq ?_
  refine cw_region ?_
  refine lw_op rfl rfl rfl (ow_move rfl rfl ?_)
  refine lw_op rfl rfl rfl (ow_len rfl rfl (VRep.mono hl1 h0) Tryd.underlying74 rfl ?_)
  refine lw_op rfl rfl rfl (ow_move rfl rfl ?_)
  refine lw_nil ?_
  refine ew_then ?_
  replace h := bind_some h
  obtain ⟨lr1, hlr1, h⟩ := h
  refine cw_for hlr1 (fun s a w' => ∃ (M' : Nat → Prop), Fits 18 [(3, (.pointer (some p1))), (7, v0p), (8, (.int .i64 (a_list.length : Int))), (9, (.int .i64 s))] a ∧ Le w1 M w' M' ∧ Cx No w M w' M') ?_ ?_ ?_
  · intro a ha
    exact ⟨M, ha.sub ⟨rfl, rfl, rfl, rfl, trivial⟩, Le.refl _ _, hC1⟩
  · rintro k1 a w2 sr1 ⟨M1, hF1, hl2, hC2⟩ hb2 hR1
    refine cw_at (E := [(3, (.pointer (some p1))), (7, v0p), (8, (.int .i64 (a_list.length : Int))), (9, (.int .i64 k1))]) hF1 ?_
    refine cw_seq ?_
    refine cw_region ?_
    refine lw_op rfl rfl rfl (ow_lss rfl rfl rfl fun bb1 hbb1 => ?_)
    refine lw_nil ?_
    refine ew_then ?_
    refine cw_seq ?_
    replace hb2 := cond_some hb2
    rcases hb2 with ⟨hc1, hb2⟩ | ⟨hc1, hb2⟩
    · obtain rfl := hbb1.trans hc1
      refine cw_true rfl ?_
      refine cw_skip ?_
      refine ew_then ?_
      refine cw_seq ?_
      refine cw_block ?_
      refine cw_seq ?_
      refine cw_region ?_
      replace hb2 := bind_some hb2
      obtain ⟨x1, hx1, hb2⟩ := hb2
      refine lw_op rfl rfl rfl (ow_indexSlice (R := RTest) rfl rfl rfl (VRep.mono (hl1.trans hl2) h0) Tryd.underlying74 (Tryd.sizeOf186 _) hx1 fun p2 hp2 => ?_)
      refine lw_op rfl rfl rfl (ow_load (R := RTest) rfl rfl hp2 (Tryd.sizeOf186 _) (Tryd.isAgg186 _) fun v2 hv2 => ?_)
      refine lw_allocStore (R := RTest) rfl rfl rfl rfl rfl rfl rfl Tryd.zeroValue186 Tryd.sizeOf186 rfl rfl rfl (by simp) hv2 hC2 fun p3 w3 hp3 hb3 hl3 hC3 => ?_
      refine lw_nil ?_
      refine ew_then ?_
      refine cw_seq ?_
      refine cw_region ?_
      refine lw_op rfl rfl rfl (ow_load (R := RTest) rfl rfl hp3 (Tryd.sizeOf186 _) (Tryd.isAgg186 _) fun v3 hv3 => ?_)
      refine lw_op rfl rfl rfl (ow_load (R := RPacket) rfl rfl (ARep.mono (hl2.trans hl3) hp1) (Tryd.sizeOf39 _) (Tryd.isAgg39 _) fun v4 hv4 => ?_)
      replace hb2 := bind_some hb2
      obtain ⟨x2, hx2, hb2⟩ := hb2
      refine lw_op rfl rfl rfl (ow_call rfl rfl Tryd.call139 (w_impl_Test_holds (hG.mono ((hl1.trans hl2).trans hl3)) hC3.old hv3 hv4 hx2) fun v5 w4 hv5 => ?_)
      obtain ⟨hv5, hb4⟩ := hv5
      have hl4 := Le.no M1 hb4
      have hC4 := hC3.no hb4
      obtain rfl := vbool_eq hv5
      refine lw_op rfl rfl rfl (ow_not rfl rfl ?_)
      refine lw_nil ?_
      refine ew_then ?_
      replace hb2 := cond_some hb2
      rcases hb2 with ⟨hc2, hb2⟩ | ⟨hc2, hb2⟩
      · subst hc2
        refine cw_false rfl ?_
        refine cw_skip ?_
        refine ew_blockN ?_
        refine ew_then ?_
        refine cw_region ?_
        refine lw_op rfl rfl rfl (ow_add rfl rfl rfl ?_)
        refine lw_op rfl rfl rfl (ow_move rfl rfl ?_)
        refine lw_nil ?_
        refine ew_nxt (W (k1 + 1)) hb2 fun a ha => ⟨M1, ?_, ((hl2.trans hl3).trans hl4), hC4⟩
        exact ha.sub ⟨rfl, rfl, rfl, rfl, trivial⟩
      · subst hc2
        refine cw_true rfl ?_
        refine cw_seq ?_
        refine cw_region ?_
        refine lw_op rfl rfl rfl (ow_assign rfl rfl ?_)
        refine lw_nil ?_
        refine ew_then ?_
        refine cw_ret ?_
        refine ew_blockR ?_
        refine ew_thenR ?_
        refine ew_thenR ?_
        refine ew_blockR ?_
        refine ew_brkR ?_
        refine ew_thenR ?_
        have e1 := hR1 _ (Option.some.inj hb2).symm
        subst e1
        obtain rfl := Option.some.inj h
        exact ew_ret (res1 rfl (.tmp rfl)) ⟨_, rfl, ((vbool _)), hC4.bx⟩
    · obtain rfl := hbb1.trans hc1
      refine cw_false rfl ?_
      refine cw_exit ?_
      refine ew_thenX ?_
      refine ew_thenX ?_
      refine ew_blockX ?_
      refine ew_brk k1 hb2 fun a ha => ⟨M1, ?_, hl2, hC2⟩
      exact ha.sub ⟨rfl, rfl, rfl, rfl, trivial⟩
  · rintro k2 a w5 hlr2 ⟨M2, hF2, hl5, hC5⟩
    subst hlr2
    refine ew_at (E := [(3, (.pointer (some p1))), (7, v0p), (8, (.int .i64 (a_list.length : Int))), (9, (.int .i64 k2))]) hF2 ?_
    refine ew_then ?_
    refine cw_seq ?_
    refine cw_region ?_
    refine lw_op rfl rfl rfl (ow_assign rfl rfl ?_)
    refine lw_nil ?_
    refine ew_then ?_
    refine cw_ret ?_
    obtain rfl := Option.some.inj h
    exact ew_ret (res1 rfl (.tmp rfl)) ⟨_, rfl, ((vbool _)), hC5.bx⟩

theorem w_impl_walk_leave {w : World} {M : Nat → Prop} (_hG : ARep (RArr 4 RShape) w M shapes ⟨0, 0, none⟩) (hO : ∀ b, M b → b < w.heap.size) {vs0 : Value} {a_0c : List Place} (hr0p : OwnRow RPlace 0 173 w M a_0c vs0) {vs1 : Value} {a_1c : List Visit} (hr1p : OwnRow RVisit 0 171 w M a_1c vs1) {a_2c : Int} {g : Nat} (hown : Own w g 130 #[vs0, vs1, (.int .i64 a_2c)]) (hgM : M g) {r : (List Place) × (List Visit) × Int} (h : F.impl_walk_leave a_0c a_1c a_2c = some r) :
    Calls Tryd.prog 133 [(.pointer (some ⟨g, 0, none⟩))].toArray w fun e w' => ∃ v, e = .returned v ∧ v = .tuple #[] ∧ ∃ (M' : Nat → Prop) (u0 : Value) (u1 : Value), Own w' g 130 #[u0, u1, .int .i64 r.2.2] ∧ OwnRow RPlace 0 173 w' M' r.1 u0 ∧ OwnRow RVisit 0 171 w' M' r.2.1 u1 ∧ Cx (fun b => b = g ∨ vs0.ownBlock = some b ∨ vs1.ownBlock = some b) w M w' M' ∧ (∀ b, u0.ownBlock = some b → w.heap.size ≤ b ∨ (fun b => b = g ∨ vs0.ownBlock = some b ∨ vs1.ownBlock = some b) b) ∧ (∀ b, u1.ownBlock = some b → w.heap.size ≤ b ∨ (fun b => b = g ∨ vs0.ownBlock = some b ∨ vs1.ownBlock = some b) b) := by
  have hX : ∀ b, (fun b => b = g ∨ vs0.ownBlock = some b ∨ vs1.ownBlock = some b) b → M b := fun b e => (e.elim (fun e => by rw [show b = g from e]; exact hgM) (fun e => (e.elim (fun e => hr0p.mem b e) (fun e => (hr1p.mem b e)))))
  have hC : Cx (fun b => b = g ∨ vs0.ownBlock = some b ∨ vs1.ownBlock = some b) w M w M := Cx.start hO hX
  have hge0p : ∀ b, vs0.ownBlock = some b → w.heap.size ≤ b ∨ (fun b => b = g ∨ vs0.ownBlock = some b ∨ vs1.ownBlock = some b) b := fun b e => .inr (.inr (.inl e))
  have hge1p : ∀ b, vs1.ownBlock = some b → w.heap.size ≤ b ∨ (fun b => b = g ∨ vs0.ownBlock = some b ∨ vs1.ownBlock = some b) b := fun b e => .inr (.inr (.inr e))
  clear _hG
  refine walk (N := 16) Tryd.func133 rfl Tryd.ntmps133 rfl ?_
  replace h := bind_some h
  obtain ⟨y1, hy1, h⟩ := h
  refine cw_sub (E' := [(0, (.pointer (some ⟨g, 0, none⟩)))]) ⟨rfl, trivial⟩ ?_
  refine cw_drawQ 12 [PEq (.pointer (some ⟨g, 0, none⟩)), PEq (.pointer (some ⟨g, 0, none⟩)), PEq (.pointer (some ⟨g, 0, none⟩)), PEq (.pointer (some ⟨g, 0, none⟩)), PEq vs0, PEq (.pointer (some ⟨g, 0, none⟩)), PEq (.pointer (some ⟨g, 0, none⟩)), PEq (.pointer (some ⟨g, 0, none⟩)), PEq vs0, PEq (.int .i64 (a_0c.length : Int)), PEq (.int .i64 (W ((a_0c.length : Int) - 1))), PRow RPlace 0 173 M y1 vs0] (by kernel_rfl) rfl (by kernel_rfl) ⟨PEq.mono _, PEq.mono _, PEq.mono _, PEq.mono _, PEq.mono _, PEq.mono _, PEq.mono _, PEq.mono _, PEq.mono _, PEq.mono _, PEq.mono _, PRow.mono _ _ _ _ _ _, trivial⟩ ⟨?_, ?_, ?_, ?_, ?_, ?_, ?_, ?_, ?_, ?_, ?_, ?_, trivial⟩ ?_
  · intro w1 D hS1 hd1
    have hl1 := Le.no M hS1
    have hC1 := hC.no hS1
    have ho1 := hown.no hS1
    have hr1 := hr0p.no hS1
    have hr2 := hr1p.no hS1
    refine dg_sub (E' := [(0, (.pointer (some ⟨g, 0, none⟩)))]) ⟨rfl, trivial⟩ ?_
    refine dg_plain rfl (ow_move rfl rfl ?_)
    exact ⟨BX.refl _ _, rfl⟩
  · intro w2 D hS2 hd2
    have hl2 := Le.no M hS2
    have hC2 := hC.no hS2
    have ho2 := hown.no hS2
    have hr3 := hr0p.no hS2
    have hr4 := hr1p.no hS2
    refine dg_sub (E' := [(0, (.pointer (some ⟨g, 0, none⟩)))]) ⟨rfl, trivial⟩ ?_
    refine dg_plain rfl (ow_move rfl rfl ?_)
    exact ⟨BX.refl _ _, rfl⟩
  · intro w3 D hS3 hd3
    have hl3 := Le.no M hS3
    have hC3 := hC.no hS3
    have ho3 := hown.no hS3
    have hr5 := hr0p.no hS3
    have hr6 := hr1p.no hS3
    have hd3 : PEq (.pointer (some ⟨g, 0, none⟩)) (D 1) w3 ∧ True := hd3
    obtain ⟨d1, -⟩ := hd3
    refine dg_sub (E' := [(3, (.pointer (some ⟨g, 0, none⟩)))]) ⟨(congrArg some d1), trivial⟩ ?_
    refine dg_plain rfl (ow_nilCheck rfl rfl ?_)
    exact ⟨BX.refl _ _, rfl⟩
  · intro w4 D hS4 hd4
    have hl4 := Le.no M hS4
    have hC4 := hC.no hS4
    have ho4 := hown.no hS4
    have hr7 := hr0p.no hS4
    have hr8 := hr1p.no hS4
    have hd4 : PEq (.pointer (some ⟨g, 0, none⟩)) (D 2) w4 ∧ True := hd4
    obtain ⟨d2, -⟩ := hd4
    refine dg_sub (E' := [(4, (.pointer (some ⟨g, 0, none⟩)))]) ⟨(congrArg some d2), trivial⟩ ?_
    refine dg_plain rfl (ow_fieldAddr rfl rfl Tryd.underlying130 rfl (Tryd.sizeOf128 _) ?_)
    exact ⟨BX.refl _ _, rfl⟩
  · intro w5 D hS5 hd5
    have hl5 := Le.no M hS5
    have hC5 := hC.no hS5
    have ho5 := hown.no hS5
    have hr9 := hr0p.no hS5
    have hr10 := hr1p.no hS5
    have hd5 : PEq (.pointer (some ⟨g, 0, none⟩)) (D 3) w5 ∧ True := hd5
    obtain ⟨d3, -⟩ := hd5
    refine dg_sub (E' := [(5, (.pointer (some ⟨g, 0, none⟩)))]) ⟨(congrArg some d3), trivial⟩ ?_
    refine dg_plain rfl (ow_loadOwn1 rfl rfl rfl ho5 (Tryd.isAgg128 _) rfl ?_)
    exact ⟨BX.refl _ _, rfl⟩
  · intro w6 D hS6 hd6
    have hl6 := Le.no M hS6
    have hC6 := hC.no hS6
    have ho6 := hown.no hS6
    have hr11 := hr0p.no hS6
    have hr12 := hr1p.no hS6
    refine dg_sub (E' := [(0, (.pointer (some ⟨g, 0, none⟩)))]) ⟨rfl, trivial⟩ ?_
    refine dg_plain rfl (ow_move rfl rfl ?_)
    exact ⟨BX.refl _ _, rfl⟩
  · intro w7 D hS7 hd7
    have hl7 := Le.no M hS7
    have hC7 := hC.no hS7
    have ho7 := hown.no hS7
    have hr13 := hr0p.no hS7
    have hr14 := hr1p.no hS7
    have hd7 : PEq (.pointer (some ⟨g, 0, none⟩)) (D 5) w7 ∧ True := hd7
    obtain ⟨d4, -⟩ := hd7
    refine dg_sub (E' := [(7, (.pointer (some ⟨g, 0, none⟩)))]) ⟨(congrArg some d4), trivial⟩ ?_
    refine dg_plain rfl (ow_nilCheck rfl rfl ?_)
    exact ⟨BX.refl _ _, rfl⟩
  · intro w8 D hS8 hd8
    have hl8 := Le.no M hS8
    have hC8 := hC.no hS8
    have ho8 := hown.no hS8
    have hr15 := hr0p.no hS8
    have hr16 := hr1p.no hS8
    have hd8 : PEq (.pointer (some ⟨g, 0, none⟩)) (D 6) w8 ∧ True := hd8
    obtain ⟨d5, -⟩ := hd8
    refine dg_sub (E' := [(8, (.pointer (some ⟨g, 0, none⟩)))]) ⟨(congrArg some d5), trivial⟩ ?_
    refine dg_plain rfl (ow_fieldAddr rfl rfl Tryd.underlying130 rfl (Tryd.sizeOf128 _) ?_)
    exact ⟨BX.refl _ _, rfl⟩
  · intro w9 D hS9 hd9
    have hl9 := Le.no M hS9
    have hC9 := hC.no hS9
    have ho9 := hown.no hS9
    have hr17 := hr0p.no hS9
    have hr18 := hr1p.no hS9
    have hd9 : PEq (.pointer (some ⟨g, 0, none⟩)) (D 7) w9 ∧ True := hd9
    obtain ⟨d6, -⟩ := hd9
    refine dg_sub (E' := [(9, (.pointer (some ⟨g, 0, none⟩)))]) ⟨(congrArg some d6), trivial⟩ ?_
    refine dg_plain rfl (ow_loadOwn1 rfl rfl rfl ho9 (Tryd.isAgg128 _) rfl ?_)
    exact ⟨BX.refl _ _, rfl⟩
  · intro w10 D hS10 hd10
    have hl10 := Le.no M hS10
    have hC10 := hC.no hS10
    have ho10 := hown.no hS10
    have hr19 := hr0p.no hS10
    have hr20 := hr1p.no hS10
    have hd10 : PEq vs0 (D 8) w10 ∧ True := hd10
    obtain ⟨d7, -⟩ := hd10
    refine dg_sub (E' := [(10, vs0)]) ⟨(congrArg some d7), trivial⟩ ?_
    refine dg_plain rfl (ow_lenOwn rfl rfl hr19 Tryd.underlying128 ?_)
    exact ⟨BX.refl _ _, rfl⟩
  · intro w11 D hS11 hd11
    have hl11 := Le.no M hS11
    have hC11 := hC.no hS11
    have ho11 := hown.no hS11
    have hr21 := hr0p.no hS11
    have hr22 := hr1p.no hS11
    have hd11 : PEq (.int .i64 (a_0c.length : Int)) (D 9) w11 ∧ True := hd11
    obtain ⟨d8, -⟩ := hd11
    refine dg_sub (E' := [(11, (.int .i64 (a_0c.length : Int)))]) ⟨(congrArg some d8), trivial⟩ ?_
    refine dg_plain rfl (ow_sub rfl rfl rfl ?_)
    exact ⟨BX.refl _ _, rfl⟩
  · intro w12 D hS12 hd12
    have hl12 := Le.no M hS12
    have hC12 := hC.no hS12
    have ho12 := hown.no hS12
    have hr23 := hr0p.no hS12
    have hr24 := hr1p.no hS12
    have hd12 : PEq vs0 (D 4) w12 ∧ PEq (.int .i64 (W ((a_0c.length : Int) - 1))) (D 10) w12 ∧ True := hd12
    obtain ⟨d9, d10, -⟩ := hd12
    refine dg_sub (E' := [(6, vs0), (12, (.int .i64 (W ((a_0c.length : Int) - 1))))]) ⟨(congrArg some d9), (congrArg some d10), trivial⟩ ?_
    refine dg_plain rfl (ow_sliceToRow (R := RPlace) rfl rfl rfl hr23 Tryd.underlying128 (Tryd.sizeOf173 _) (takeF_some hy1).2 fun v2 hv2 hub2 => ?_)
    rw [← (takeF_some hy1).1] at hv2
    have hge2 : ∀ b, v2.ownBlock = some b → w.heap.size ≤ b ∨ (fun b => b = g ∨ vs0.ownBlock = some b ∨ vs1.ownBlock = some b) b := fun b e => hge0p b (by rw [← hub2]; exact e)
    exact ⟨BX.refl _ _, ⟨hv2, hub2⟩⟩
  · intro w13 D hS13 hd13
    have hl13 := Le.no M hS13
    have hC13 := hC.no hS13
    have ho13 := hown.no hS13
    have hr25 := hr0p.no hS13
    have hr26 := hr1p.no hS13
    have hd13 : PEq (.pointer (some ⟨g, 0, none⟩)) (D 0) w13 ∧ PEq (.pointer (some ⟨g, 0, none⟩)) (D 1) w13 ∧ PEq (.pointer (some ⟨g, 0, none⟩)) (D 2) w13 ∧ PEq (.pointer (some ⟨g, 0, none⟩)) (D 3) w13 ∧ PEq vs0 (D 4) w13 ∧ PEq (.pointer (some ⟨g, 0, none⟩)) (D 5) w13 ∧ PEq (.pointer (some ⟨g, 0, none⟩)) (D 6) w13 ∧ PEq (.pointer (some ⟨g, 0, none⟩)) (D 7) w13 ∧ PEq vs0 (D 8) w13 ∧ PEq (.int .i64 (a_0c.length : Int)) (D 9) w13 ∧ PEq (.int .i64 (W ((a_0c.length : Int) - 1))) (D 10) w13 ∧ PRow RPlace 0 173 M y1 vs0 (D 11) w13 ∧ True := hd13
    obtain ⟨d11, -, -, -, -, -, -, -, -, -, -, d22, -⟩ := hd13
    obtain ⟨v3, hq1⟩ : ∃ v, (D 11) = v := ⟨_, rfl⟩
    rw [hq1] at d22
    obtain ⟨hr27, hub3⟩ := d22
    have hge3 : ∀ b, v3.ownBlock = some b → w.heap.size ≤ b ∨ (fun b => b = g ∨ vs0.ownBlock = some b ∨ vs1.ownBlock = some b) b := fun b e => hge0p b (by rw [← hub3]; exact e)
    refine lw_sub (E' := [(2, (.pointer (some ⟨g, 0, none⟩))), (13, v3), (0, (.pointer (some ⟨g, 0, none⟩)))]) ⟨(congrArg some d11), (congrArg some hq1), rfl, trivial⟩ ?_
    refine lw_op rfl rfl rfl (ow_nilCheck rfl rfl ?_)
    refine lw_op rfl rfl rfl (ow_fieldAddr rfl rfl Tryd.underlying130 rfl (Tryd.sizeOf128 _) ?_)
    obtain ⟨A1, c1, rfl⟩ := hr27.len
    refine lw_op0 rfl rfl (ow_store (X := (fun b => b = g ∨ vs0.ownBlock = some b ∨ vs1.ownBlock = some b)) (us := [(.slice A1 y1.length c1)]) (cs' := #[(.slice A1 y1.length c1), vs1, (.int .i64 a_2c)]) rfl rfl rfl rfl ho13 (Tryd.sizeOf128 _) rfl rfl rfl rfl hgM (.inr (.inl rfl)) rfl hC13 fun w14 ho14 hb1 hl14 hC14 => ?_)
    have hr28 := hr26.go hb1 (fun k hk e => (orow_ne hr26 ho13 (by decide)) (hk.trans (congrArg some e))) hl14 (fun _ h => h)
    have hr29 := hr27.go hb1 (fun k hk e => (orow_ne hr27 ho13 (by decide)) (hk.trans (congrArg some e))) hl14 (fun _ h => h)
    refine lw_nil ?_
    obtain rfl := Option.some.inj h
    exact ew_end (res0 rfl) ⟨_, rfl, rfl, M, (.slice A1 y1.length c1), vs1, ho14, hr29, hr28, hC14, hge3, hge1p⟩

theorem w_impl_actionOf {w : World} {M : Nat → Prop} (_hG : ARep (RArr 4 RShape) w M shapes ⟨0, 0, none⟩) (hO : ∀ b, M b → b < w.heap.size) {v0p : Value} {a_r : Rule} (h0 : VRep RRule w M a_r v0p) {r : Act_} (h : F.impl_actionOf a_r = some r) :
    Calls Tryd.prog 134 [v0p].toArray w fun e w' => ∃ v, e = .returned v ∧ v = actV r ∧ BX No w w' := by
  have hC : Cx No w M w M := Cx.start hO (fun _ e => e.elim)
  clear _hG
  refine walk (N := 25) Tryd.func134 rfl Tryd.ntmps134 rfl ?_
  refine cw_seq ?_
  refine cw_region ?_
  refine lw_op rfl rfl rfl (ow_box (R := RRule) rfl rfl h0 hC fun p1 w1 hp1 hb1 hl1 hC1 => ?_)
  refine lw_op rfl rfl rfl (ow_assign rfl rfl ?_)
  refine lw_nil ?_
  refine ew_then ?_
  refine cw_seq ?_
  refine cw_seq ?_
  refine cw_region ?_
  refine lw_op rfl rfl rfl (ow_fieldAddr rfl rfl Tryd.underlying76 rfl (Tryd.sizeOf3 _) ?_)
  refine lw_op rfl rfl rfl (ow_load (R := RInt) rfl rfl (hp1.fld fld_Rule_Action) (Tryd.sizeOf3 _) (Tryd.isAgg3 _) fun v1 hv1 => ?_)
  obtain rfl := vint_eq hv1
  refine lw_nil ?_
  refine ew_then ?_
  refine cw_block ?_
  refine cw_seq ?_
  refine cw_region ?_
  refine lw_op rfl rfl rfl (ow_eqlI rfl rfl rfl fun bb1 hbb1 => ?_)
  refine lw_op rfl rfl rfl (ow_assign rfl rfl ?_)
  refine lw_nil ?_
  refine ew_then ?_
  replace h := cond_some h
  rcases h with ⟨hc1, h⟩ | ⟨hc1, h⟩
  · obtain rfl := hbb1.trans hc1
    refine cw_true rfl ?_
    refine cw_seq ?_
    refine cw_region ?_
    refine lw_op rfl rfl rfl (ow_build (v := .agg #[(.bool true)]) rfl rfl (by kernel_rfl) ?_)
    have hw1 : VRep Rdeciding w1 M ({ accept := true } : deciding) (.agg #[(.bool true)]) := shut_deciding
    refine lw_op rfl rfl rfl (ow_makeIface (u := .iface 205 (.agg #[(.bool true)])) rfl rfl (by kernel_rfl) ?_)
    refine lw_op rfl rfl rfl (ow_assign rfl rfl ?_)
    refine lw_nil ?_
    refine ew_then ?_
    refine cw_ret ?_
    refine ew_blockR ?_
    refine ew_thenR ?_
    obtain rfl := Option.some.inj h
    exact ew_ret (res1 rfl (.tmp rfl)) ⟨_, rfl, rfl, hC1.bx⟩
  · obtain rfl := hbb1.trans hc1
    refine cw_false rfl ?_
    refine cw_seq ?_
    refine cw_region ?_
    refine lw_op rfl rfl rfl (ow_eqlI rfl rfl rfl fun bb2 hbb2 => ?_)
    refine lw_op rfl rfl rfl (ow_assign rfl rfl ?_)
    refine lw_nil ?_
    refine ew_then ?_
    replace h := cond_some h
    rcases h with ⟨hc2, h⟩ | ⟨hc2, h⟩
    · obtain rfl := hbb2.trans hc2
      refine cw_true rfl ?_
      refine cw_seq ?_
      refine cw_region ?_
      refine lw_op rfl rfl rfl (ow_build (v := .agg #[(.bool false)]) rfl rfl (by kernel_rfl) ?_)
      have hw2 : VRep Rdeciding w1 M ({ accept := false } : deciding) (.agg #[(.bool false)]) := shut_deciding
      refine lw_op rfl rfl rfl (ow_makeIface (u := .iface 205 (.agg #[(.bool false)])) rfl rfl (by kernel_rfl) ?_)
      refine lw_op rfl rfl rfl (ow_assign rfl rfl ?_)
      refine lw_nil ?_
      refine ew_then ?_
      refine cw_ret ?_
      refine ew_blockR ?_
      refine ew_thenR ?_
      obtain rfl := Option.some.inj h
      exact ew_ret (res1 rfl (.tmp rfl)) ⟨_, rfl, rfl, hC1.bx⟩
    · obtain rfl := hbb2.trans hc2
      refine cw_false rfl ?_
      refine cw_seq ?_
      refine cw_region ?_
      refine lw_op rfl rfl rfl (ow_eqlI rfl rfl rfl fun bb3 hbb3 => ?_)
      refine lw_op rfl rfl rfl (ow_assign rfl rfl ?_)
      refine lw_nil ?_
      refine ew_then ?_
      replace h := cond_some h
      rcases h with ⟨hc3, h⟩ | ⟨hc3, h⟩
      · obtain rfl := hbb3.trans hc3
        refine cw_true rfl ?_
        refine cw_seq ?_
        refine cw_region ?_
        refine lw_op rfl rfl rfl (ow_fieldAddr rfl rfl Tryd.underlying76 rfl (Tryd.sizeOf3 _) ?_)
        refine lw_op rfl rfl rfl (ow_load (R := RInt) rfl rfl (hp1.fld fld_Rule_Chain) (Tryd.sizeOf3 _) (Tryd.isAgg3 _) fun v2 hv2 => ?_)
        obtain rfl := vint_eq hv2
        refine lw_op rfl rfl rfl (ow_build (v := .agg #[(.int .i64 a_r.Chain)]) rfl rfl (by kernel_rfl) ?_)
        have hw3 : VRep Rcalling w1 M ({ chain := a_r.Chain } : calling) (.agg #[(.int .i64 a_r.Chain)]) := shut_calling
        refine lw_op rfl rfl rfl (ow_makeIface (u := .iface 207 (.agg #[(.int .i64 a_r.Chain)])) rfl rfl (by kernel_rfl) ?_)
        refine lw_op rfl rfl rfl (ow_assign rfl rfl ?_)
        refine lw_nil ?_
        refine ew_then ?_
        refine cw_ret ?_
        refine ew_blockR ?_
        refine ew_thenR ?_
        obtain rfl := Option.some.inj h
        exact ew_ret (res1 rfl (.tmp rfl)) ⟨_, rfl, rfl, hC1.bx⟩
      · obtain rfl := hbb3.trans hc3
        refine cw_false rfl ?_
        refine cw_seq ?_
        refine cw_region ?_
        refine lw_op rfl rfl rfl (ow_eqlI rfl rfl rfl fun bb4 hbb4 => ?_)
        refine lw_op rfl rfl rfl (ow_assign rfl rfl ?_)
        refine lw_nil ?_
        refine ew_then ?_
        replace h := cond_some h
        rcases h with ⟨hc4, h⟩ | ⟨hc4, h⟩
        · obtain rfl := hbb4.trans hc4
          refine cw_true rfl ?_
          refine cw_seq ?_
          refine cw_region ?_
          refine lw_op rfl rfl rfl (ow_build (v := .agg #[]) rfl rfl (by kernel_rfl) ?_)
          refine lw_op rfl rfl rfl (ow_makeIface (u := .iface 209 (.agg #[])) rfl rfl (by kernel_rfl) ?_)
          refine lw_op rfl rfl rfl (ow_assign rfl rfl ?_)
          refine lw_nil ?_
          refine ew_then ?_
          refine cw_ret ?_
          refine ew_blockR ?_
          refine ew_thenR ?_
          obtain rfl := Option.some.inj h
          exact ew_ret (res1 rfl (.tmp rfl)) ⟨_, rfl, rfl, hC1.bx⟩
        · obtain rfl := hbb4.trans hc4
          refine cw_false rfl ?_
          refine cw_skip ?_
          refine ew_blockN ?_
          refine ew_then ?_
          refine cw_seq ?_
          refine cw_region ?_
          refine lw_op rfl rfl rfl (ow_build (v := .agg #[]) rfl rfl (by kernel_rfl) ?_)
          refine lw_op rfl rfl rfl (ow_makeIface (u := .iface 210 (.agg #[])) rfl rfl (by kernel_rfl) ?_)
          refine lw_op rfl rfl rfl (ow_assign rfl rfl ?_)
          refine lw_nil ?_
          refine ew_then ?_
          refine cw_ret ?_
          obtain rfl := Option.some.inj h
          exact ew_ret (res1 rfl (.tmp rfl)) ⟨_, rfl, rfl, hC1.bx⟩

theorem w_impl_deciding_walk {w : World} {M : Nat → Prop} (_hG : ARep (RArr 4 RShape) w M shapes ⟨0, 0, none⟩) (hO : ∀ b, M b → b < w.heap.size) {v0p : Value} {a_d : deciding} (h0 : VRep Rdeciding w M a_d v0p) {vs0 : Value} {a_0c : List Place} (hr0p : OwnRow RPlace 0 173 w M a_0c vs0) {vs1 : Value} {a_1c : List Visit} (hr1p : OwnRow RVisit 0 171 w M a_1c vs1) {a_2c : Int} {g : Nat} (hown : Own w g 130 #[vs0, vs1, (.int .i64 a_2c)]) (hgM : M g) {r : (List Place) × (List Visit) × Int} (h : F.impl_deciding_walk a_d a_0c a_1c a_2c = some r) :
    Calls Tryd.prog 181 [v0p, (.pointer (some ⟨g, 0, none⟩))].toArray w fun e w' => ∃ v, e = .returned v ∧ v = .tuple #[] ∧ ∃ (M' : Nat → Prop) (u0 : Value) (u1 : Value), Own w' g 130 #[u0, u1, .int .i64 r.2.2] ∧ OwnRow RPlace 0 173 w' M' r.1 u0 ∧ OwnRow RVisit 0 171 w' M' r.2.1 u1 ∧ Cx (fun b => b = g ∨ vs0.ownBlock = some b ∨ vs1.ownBlock = some b) w M w' M' ∧ (∀ b, u0.ownBlock = some b → w.heap.size ≤ b ∨ (fun b => b = g ∨ vs0.ownBlock = some b ∨ vs1.ownBlock = some b) b) ∧ (∀ b, u1.ownBlock = some b → w.heap.size ≤ b ∨ (fun b => b = g ∨ vs0.ownBlock = some b ∨ vs1.ownBlock = some b) b) := by
  have hX : ∀ b, (fun b => b = g ∨ vs0.ownBlock = some b ∨ vs1.ownBlock = some b) b → M b := fun b e => (e.elim (fun e => by rw [show b = g from e]; exact hgM) (fun e => (e.elim (fun e => hr0p.mem b e) (fun e => (hr1p.mem b e)))))
  have hC : Cx (fun b => b = g ∨ vs0.ownBlock = some b ∨ vs1.ownBlock = some b) w M w M := Cx.start hO hX
  have hge0p : ∀ b, vs0.ownBlock = some b → w.heap.size ≤ b ∨ (fun b => b = g ∨ vs0.ownBlock = some b ∨ vs1.ownBlock = some b) b := fun b e => .inr (.inr (.inl e))
  have hge1p : ∀ b, vs1.ownBlock = some b → w.heap.size ≤ b ∨ (fun b => b = g ∨ vs0.ownBlock = some b ∨ vs1.ownBlock = some b) b := fun b e => .inr (.inr (.inr e))
  clear _hG
  refine walk (N := 12) Tryd.func181 rfl Tryd.ntmps181 rfl ?_
  refine cw_seq ?_
  refine cw_region ?_
  refine lw_op rfl rfl rfl (ow_box (R := Rdeciding) rfl rfl h0 hC fun p1 w1 hp1 hb1 hl1 hC1 => ?_)
  have ho1 := hown.no hb1
  have hr1 := hr0p.no hb1
  have hr2 := hr1p.no hb1
  refine lw_nil ?_
  refine ew_then ?_
  refine cw_seq ?_
  refine cw_region ?_
  refine lw_op rfl rfl rfl (ow_fieldAddr rfl rfl Tryd.underlying205 rfl (Tryd.sizeOf4 _) ?_)
  refine lw_op rfl rfl rfl (ow_load (R := RBool) rfl rfl (hp1.fld fld_deciding_accept) (Tryd.sizeOf4 _) (Tryd.isAgg4 _) fun v1 hv1 => ?_)
  obtain ⟨bb1, hbb1, rfl⟩ := vbool_ex hv1
  refine lw_nil ?_
  refine ew_then ?_
  replace h := cond_some h
  rcases h with ⟨hc1, h⟩ | ⟨hc1, h⟩
  · obtain rfl := hbb1.trans hc1
    refine cw_true rfl ?_
    refine cw_region ?_
    refine lw_op rfl rfl rfl (ow_move rfl rfl ?_)
    refine lw_op rfl rfl rfl (ow_nilCheck rfl rfl ?_)
    refine lw_op rfl rfl rfl (ow_fieldAddr rfl rfl Tryd.underlying130 rfl (Tryd.sizeOf3 _) ?_)
    refine lw_op0 rfl rfl (ow_store (X := (fun b => b = g ∨ vs0.ownBlock = some b ∨ vs1.ownBlock = some b)) (us := [(.int .i64 1)]) (cs' := #[vs0, vs1, (.int .i64 1)]) rfl rfl rfl rfl ho1 (Tryd.sizeOf3 _) rfl rfl rfl rfl hgM (.inr (.inl rfl)) rfl hC1 fun w2 ho2 hb2 hl2 hC2 => ?_)
    have hr3 := hr1.go hb2 (fun k hk e => (orow_ne hr1 ho1 (by decide)) (hk.trans (congrArg some e))) hl2 (fun _ h => h)
    have hr4 := hr2.go hb2 (fun k hk e => (orow_ne hr2 ho1 (by decide)) (hk.trans (congrArg some e))) hl2 (fun _ h => h)
    refine lw_nil ?_
    obtain rfl := Option.some.inj h
    exact ew_end (res0 rfl) ⟨_, rfl, rfl, M, vs0, vs1, ho2, hr3, hr4, hC2, hge0p, hge1p⟩
  · obtain rfl := hbb1.trans hc1
    refine cw_false rfl ?_
    refine cw_region ?_
    refine lw_op rfl rfl rfl (ow_move rfl rfl ?_)
    refine lw_op rfl rfl rfl (ow_nilCheck rfl rfl ?_)
    refine lw_op rfl rfl rfl (ow_fieldAddr rfl rfl Tryd.underlying130 rfl (Tryd.sizeOf3 _) ?_)
    refine lw_op0 rfl rfl (ow_store (X := (fun b => b = g ∨ vs0.ownBlock = some b ∨ vs1.ownBlock = some b)) (us := [(.int .i64 2)]) (cs' := #[vs0, vs1, (.int .i64 2)]) rfl rfl rfl rfl ho1 (Tryd.sizeOf3 _) rfl rfl rfl rfl hgM (.inr (.inl rfl)) rfl hC1 fun w3 ho3 hb3 hl3 hC3 => ?_)
    have hr5 := hr1.go hb3 (fun k hk e => (orow_ne hr1 ho1 (by decide)) (hk.trans (congrArg some e))) hl3 (fun _ h => h)
    have hr6 := hr2.go hb3 (fun k hk e => (orow_ne hr2 ho1 (by decide)) (hk.trans (congrArg some e))) hl3 (fun _ h => h)
    refine lw_nil ?_
    obtain rfl := Option.some.inj h
    exact ew_end (res0 rfl) ⟨_, rfl, rfl, M, vs0, vs1, ho3, hr5, hr6, hC3, hge0p, hge1p⟩

theorem w_impl_calling_walk {w : World} {M : Nat → Prop} (_hG : ARep (RArr 4 RShape) w M shapes ⟨0, 0, none⟩) (hO : ∀ b, M b → b < w.heap.size) {v0p : Value} {a_c : calling} (h0 : VRep Rcalling w M a_c v0p) {vs0 : Value} {a_0c : List Place} (hr0p : OwnRow RPlace 0 173 w M a_0c vs0) {vs1 : Value} {a_1c : List Visit} (hr1p : OwnRow RVisit 0 171 w M a_1c vs1) {a_2c : Int} {g : Nat} (hown : Own w g 130 #[vs0, vs1, (.int .i64 a_2c)]) (hgM : M g) {r : (List Place) × (List Visit) × Int} (h : F.impl_calling_walk a_c a_0c a_1c a_2c = some r) :
    Calls Tryd.prog 184 [v0p, (.pointer (some ⟨g, 0, none⟩))].toArray w fun e w' => ∃ v, e = .returned v ∧ v = .tuple #[] ∧ ∃ (M' : Nat → Prop) (u0 : Value) (u1 : Value), Own w' g 130 #[u0, u1, .int .i64 r.2.2] ∧ OwnRow RPlace 0 173 w' M' r.1 u0 ∧ OwnRow RVisit 0 171 w' M' r.2.1 u1 ∧ Cx (fun b => b = g ∨ vs0.ownBlock = some b ∨ vs1.ownBlock = some b) w M w' M' ∧ (∀ b, u0.ownBlock = some b → w.heap.size ≤ b ∨ (fun b => b = g ∨ vs0.ownBlock = some b ∨ vs1.ownBlock = some b) b) ∧ (∀ b, u1.ownBlock = some b → w.heap.size ≤ b ∨ (fun b => b = g ∨ vs0.ownBlock = some b ∨ vs1.ownBlock = some b) b) := by
  obtain ⟨i173, hi173, hz173, hs173, hy173⟩ := info173
  have hX : ∀ b, (fun b => b = g ∨ vs0.ownBlock = some b ∨ vs1.ownBlock = some b) b → M b := fun b e => (e.elim (fun e => by rw [show b = g from e]; exact hgM) (fun e => (e.elim (fun e => hr0p.mem b e) (fun e => (hr1p.mem b e)))))
  have hC : Cx (fun b => b = g ∨ vs0.ownBlock = some b ∨ vs1.ownBlock = some b) w M w M := Cx.start hO hX
  have hge0p : ∀ b, vs0.ownBlock = some b → w.heap.size ≤ b ∨ (fun b => b = g ∨ vs0.ownBlock = some b ∨ vs1.ownBlock = some b) b := fun b e => .inr (.inr (.inl e))
  have hge1p : ∀ b, vs1.ownBlock = some b → w.heap.size ≤ b ∨ (fun b => b = g ∨ vs0.ownBlock = some b ∨ vs1.ownBlock = some b) b := fun b e => .inr (.inr (.inr e))
  clear _hG
  refine walk (N := 16) Tryd.func184 rfl Tryd.ntmps184 rfl ?_
  refine cw_seq ?_
  refine cw_region ?_
  refine lw_op rfl rfl rfl (ow_box (R := Rcalling) rfl rfl h0 hC fun p1 w1 hp1 hb1 hl1 hC1 => ?_)
  have ho1 := hown.no hb1
  have hr1 := hr0p.no hb1
  have hr2 := hr1p.no hb1
  refine lw_nil ?_
  refine ew_then ?_
  replace h := bind_some h
  obtain ⟨z1, hz1, h⟩ := h
  refine cw_sub (E' := [(1, (.pointer (some ⟨g, 0, none⟩))), (2, (.pointer (some p1)))]) ⟨rfl, rfl, trivial⟩ ?_
  refine cw_drawR 10 [none, none, none, none, none, none, none, none, none, some 0] [PEq (.pointer (some ⟨g, 0, none⟩)), PEq (.pointer (some ⟨g, 0, none⟩)), PEq (.pointer (some ⟨g, 0, none⟩)), PEq (.pointer (some ⟨g, 0, none⟩)), PEq vs0, PA RInt M a_c.chain, PEq (.int .i64 a_c.chain), PV RPlace M ({ chain := a_c.chain, next := 0 } : Place), PV (RSlice RPlace) M [({ chain := a_c.chain, next := 0 } : Place)], PApp RPlace 0 173 (fun b => b = g ∨ vs0.ownBlock = some b ∨ vs1.ownBlock = some b) w M w1 M vs0 z1] (by kernel_rfl) rfl (by kernel_rfl) (by kernel_rfl) hr1 ⟨(PEq.monoR _), (PEq.monoR _), (PEq.monoR _), (PEq.monoR _), (PEq.monoR _), (PA.monoR hr1.mem _ _), (PEq.monoR _), (PV.monoR hr1.mem _ _), (PV.monoR hr1.mem _ _), PApp.mono _ _ _ _ _ _ _ _ _ _, trivial⟩ ⟨?_, ?_, ?_, ?_, ?_, ?_, ?_, ?_, ?_, ?_, trivial⟩ ?_
  · intro w4 D hS1 hd1
    have hl4 := leR hr1 hS1
    have hC4 := hC1.go hS1 hge0p
    have ho4 := ho1.go hS1 (fun e => (orow_ne hr1 ho1 (by decide)) e)
    have hr7 := hr2.go hS1 (fun _ hk hu => orow_row_ne hr2 hr1 (by decide) hk hu) hl4 (fun _ h => h)
    refine dg_sub (E' := [(1, (.pointer (some ⟨g, 0, none⟩)))]) ⟨rfl, trivial⟩ ?_
    refine dg_plain rfl (ow_move rfl rfl ?_)
    exact ⟨BX.refl _ _, rfl⟩
  · intro w5 D hS2 hd2
    have hl5 := leR hr1 hS2
    have hC5 := hC1.go hS2 hge0p
    have ho5 := ho1.go hS2 (fun e => (orow_ne hr1 ho1 (by decide)) e)
    have hr8 := hr2.go hS2 (fun _ hk hu => orow_row_ne hr2 hr1 (by decide) hk hu) hl5 (fun _ h => h)
    refine dg_sub (E' := [(1, (.pointer (some ⟨g, 0, none⟩)))]) ⟨rfl, trivial⟩ ?_
    refine dg_plain rfl (ow_move rfl rfl ?_)
    exact ⟨BX.refl _ _, rfl⟩
  · intro w6 D hS3 hd3
    have hl6 := leR hr1 hS3
    have hC6 := hC1.go hS3 hge0p
    have ho6 := ho1.go hS3 (fun e => (orow_ne hr1 ho1 (by decide)) e)
    have hr9 := hr2.go hS3 (fun _ hk hu => orow_row_ne hr2 hr1 (by decide) hk hu) hl6 (fun _ h => h)
    have hd3 : PEq (.pointer (some ⟨g, 0, none⟩)) (D 1) w6 ∧ True := hd3
    obtain ⟨d1, -⟩ := hd3
    refine dg_sub (E' := [(5, (.pointer (some ⟨g, 0, none⟩)))]) ⟨(congrArg some d1), trivial⟩ ?_
    refine dg_plain rfl (ow_nilCheck rfl rfl ?_)
    exact ⟨BX.refl _ _, rfl⟩
  · intro w7 D hS4 hd4
    have hl7 := leR hr1 hS4
    have hC7 := hC1.go hS4 hge0p
    have ho7 := ho1.go hS4 (fun e => (orow_ne hr1 ho1 (by decide)) e)
    have hr10 := hr2.go hS4 (fun _ hk hu => orow_row_ne hr2 hr1 (by decide) hk hu) hl7 (fun _ h => h)
    have hd4 : PEq (.pointer (some ⟨g, 0, none⟩)) (D 2) w7 ∧ True := hd4
    obtain ⟨d2, -⟩ := hd4
    refine dg_sub (E' := [(6, (.pointer (some ⟨g, 0, none⟩)))]) ⟨(congrArg some d2), trivial⟩ ?_
    refine dg_plain rfl (ow_fieldAddr rfl rfl Tryd.underlying130 rfl (Tryd.sizeOf128 _) ?_)
    exact ⟨BX.refl _ _, rfl⟩
  · intro w8 D hS5 hd5
    have hl8 := leR hr1 hS5
    have hC8 := hC1.go hS5 hge0p
    have ho8 := ho1.go hS5 (fun e => (orow_ne hr1 ho1 (by decide)) e)
    have hr11 := hr2.go hS5 (fun _ hk hu => orow_row_ne hr2 hr1 (by decide) hk hu) hl8 (fun _ h => h)
    have hd5 : PEq (.pointer (some ⟨g, 0, none⟩)) (D 3) w8 ∧ True := hd5
    obtain ⟨d3, -⟩ := hd5
    refine dg_sub (E' := [(7, (.pointer (some ⟨g, 0, none⟩)))]) ⟨(congrArg some d3), trivial⟩ ?_
    refine dg_plain rfl (ow_loadOwn1 rfl rfl rfl ho8 (Tryd.isAgg128 _) rfl ?_)
    exact ⟨BX.refl _ _, rfl⟩
  · intro w9 D hS6 hd6
    have hl9 := leR hr1 hS6
    have hC9 := hC1.go hS6 hge0p
    have ho9 := ho1.go hS6 (fun e => (orow_ne hr1 ho1 (by decide)) e)
    have hr12 := hr2.go hS6 (fun _ hk hu => orow_row_ne hr2 hr1 (by decide) hk hu) hl9 (fun _ h => h)
    refine dg_sub (E' := [(2, (.pointer (some p1)))]) ⟨rfl, trivial⟩ ?_
    refine dg_plain rfl (ow_fieldAddr rfl rfl Tryd.underlying207 rfl (Tryd.sizeOf3 _) ?_)
    exact ⟨BX.refl _ _, ⟨_, rfl, (ARep.mono hl9 (hp1.fld fld_calling_chain))⟩⟩
  · intro w10 D hS7 hd7
    have hl10 := leR hr1 hS7
    have hC10 := hC1.go hS7 hge0p
    have ho10 := ho1.go hS7 (fun e => (orow_ne hr1 ho1 (by decide)) e)
    have hr13 := hr2.go hS7 (fun _ hk hu => orow_row_ne hr2 hr1 (by decide) hk hu) hl10 (fun _ h => h)
    have hd7 : PA RInt M a_c.chain (D 5) w10 ∧ True := hd7
    obtain ⟨d4, -⟩ := hd7
    obtain ⟨p3, e1, ha1⟩ := d4
    refine dg_sub (E' := [(9, (.pointer (some p3)))]) ⟨(congrArg some e1), trivial⟩ ?_
    refine dg_plain rfl (ow_load (R := RInt) rfl rfl ha1 (Tryd.sizeOf3 _) (Tryd.isAgg3 _) fun v3 hv3 => ?_)
    obtain rfl := vint_eq hv3
    exact ⟨BX.refl _ _, rfl⟩
  · intro w11 D hS8 hd8
    have hl11 := leR hr1 hS8
    have hC11 := hC1.go hS8 hge0p
    have ho11 := ho1.go hS8 (fun e => (orow_ne hr1 ho1 (by decide)) e)
    have hr14 := hr2.go hS8 (fun _ hk hu => orow_row_ne hr2 hr1 (by decide) hk hu) hl11 (fun _ h => h)
    have hd8 : PEq (.int .i64 a_c.chain) (D 6) w11 ∧ True := hd8
    obtain ⟨d5, -⟩ := hd8
    refine dg_sub (E' := [(10, (.int .i64 a_c.chain))]) ⟨(congrArg some d5), trivial⟩ ?_
    refine dg_plain rfl (ow_build (v := .agg #[(.int .i64 a_c.chain), (.int .i64 0)]) rfl rfl (by kernel_rfl) ?_)
    have hw3 : VRep RPlace w11 M ({ chain := a_c.chain, next := 0 } : Place) (.agg #[(.int .i64 a_c.chain), (.int .i64 0)]) := shut_Place
    exact ⟨BX.refl _ _, hw3⟩
  · intro w12 D hS9 hd9
    have hl12 := leR hr1 hS9
    have hC12 := hC1.go hS9 hge0p
    have ho12 := ho1.go hS9 (fun e => (orow_ne hr1 ho1 (by decide)) e)
    have hr15 := hr2.go hS9 (fun _ hk hu => orow_row_ne hr2 hr1 (by decide) hk hu) hl12 (fun _ h => h)
    have hd9 : PV RPlace M ({ chain := a_c.chain, next := 0 } : Place) (D 7) w12 ∧ True := hd9
    obtain ⟨d6, -⟩ := hd9
    obtain ⟨v4, hq1⟩ : ∃ v, (D 7) = v := ⟨_, rfl⟩
    rw [hq1] at d6
    refine dg_sub (E' := [(11, v4)]) ⟨(congrArg some hq1), trivial⟩ ?_
    obtain rfl := open_Place d6
    refine dg_plain rfl (ow_buildSlice (R := RPlace) (xs := [({ chain := a_c.chain, next := 0 } : Place)]) (cs := #[(.int .i64 ({ chain := a_c.chain, next := 0 } : Place).chain), (.int .i64 ({ chain := a_c.chain, next := 0 } : Place).next)]) (e := 173) rfl rfl (by kernel_rfl) rfl rfl ⟨_, _, rfl, d6.cells, rfl⟩ hC12 fun p4 w13 hw4 hb4 hl13 hC13 => ?_)
    have ho13 := ho12.no hb4
    have hr16 := hr15.no hb4
    exact ⟨hb4, hw4⟩
  · intro w14 D hS10 hd10
    obtain ⟨hS10, ho14⟩ := hS10
    have ho14 := ho14 rfl
    have hl14 := leR hr1 hS10
    have hC14 := hC1.go hS10 hge0p
    have ho15 := ho1.go hS10 (fun e => (orow_ne hr1 ho1 (by decide)) e)
    have hr17 := hr2.go hS10 (fun _ hk hu => orow_row_ne hr2 hr1 (by decide) hk hu) hl14 (fun _ h => h)
    have hd10 : PEq vs0 (D 4) w14 ∧ PV (RSlice RPlace) M [({ chain := a_c.chain, next := 0 } : Place)] (D 8) w14 ∧ True := hd10
    obtain ⟨d7, d8, -⟩ := hd10
    obtain ⟨v5, hq2⟩ : ∃ v, (D 8) = v := ⟨_, rfl⟩
    rw [hq2] at d8
    refine dg_sub (E' := [(8, vs0), (12, v5)]) ⟨(congrArg some d7), (congrArg some hq2), trivial⟩ ?_
    refine dg_plain rfl (ow_appendX (R := RPlace) (B := 0) rfl rfl rfl rfl Tryd.underlying128 hi173 hz173 hs173 hy173 rfl rfl rfl rfl ho14 d8 hz1 hC14 (Nat.zero_le _) hge0p fun v6 w15 M2 hr18 hb5 hl15 hC15 hM2 hat2 => ?_)
    have ho16 := ho15.go hb5 (fun e => (orow_ne ho14 ho15 (by decide)) e)
    have hm2 := hM2 _ hgM
    have hr19 := hr17.goRow ho14 hb5 hl15 hM2 (by decide)
    have hge2 := ge_app hge0p hat2 hC14
    exact ⟨⟨⟨hS10.trans hb5, fun h => absurd h (by decide)⟩, hb5⟩, M2, hr18, hS10.trans hb5, hl14.trans hl15, hC15, hM2, fun b e => hat2.elim (fun h => .inl (h ▸ e)) (fun h => .inr (by rw [h] at e; rw [← Option.some.inj e]; exact hS10.size))⟩
  · intro w16 D hS11 hd11
    have hd11 : PEq (.pointer (some ⟨g, 0, none⟩)) (D 0) w16 ∧ PEq (.pointer (some ⟨g, 0, none⟩)) (D 1) w16 ∧ PEq (.pointer (some ⟨g, 0, none⟩)) (D 2) w16 ∧ PEq (.pointer (some ⟨g, 0, none⟩)) (D 3) w16 ∧ PEq vs0 (D 4) w16 ∧ PA RInt M a_c.chain (D 5) w16 ∧ PEq (.int .i64 a_c.chain) (D 6) w16 ∧ PV RPlace M ({ chain := a_c.chain, next := 0 } : Place) (D 7) w16 ∧ PV (RSlice RPlace) M [({ chain := a_c.chain, next := 0 } : Place)] (D 8) w16 ∧ PApp RPlace 0 173 (fun b => b = g ∨ vs0.ownBlock = some b ∨ vs1.ownBlock = some b) w M w1 M vs0 z1 (D 9) w16 ∧ True := hd11
    obtain ⟨d9, -, -, -, -, -, -, -, -, d18, -⟩ := hd11
    obtain ⟨M3, hr20, hb6, hl16, hC16, hM3, hat3⟩ := d18
    obtain ⟨v7, hq3⟩ : ∃ v, (D 9) = v := ⟨_, rfl⟩
    rw [hq3] at hr20 hat3
    have ho17 := ho1.go hb6 (fun e => (orow_ne hr1 ho1 (by decide)) e)
    have hm3 := hM3 _ hgM
    have hr21 := hr2.go hb6 (fun _ hk hu => orow_row_ne hr2 hr1 (by decide) hk hu) hl16 hM3
    have hge3 : ∀ b, v7.ownBlock = some b → w.heap.size ≤ b ∨ (fun b => b = g ∨ vs0.ownBlock = some b ∨ vs1.ownBlock = some b) b := fun b e => (hat3 b e).elim (fun h => hge0p b h) (fun h => .inl (Nat.le_trans hC1.bx.size h))
    refine lw_sub (E' := [(13, v7), (4, (.pointer (some ⟨g, 0, none⟩))), (1, (.pointer (some ⟨g, 0, none⟩))), (2, (.pointer (some p1)))]) ⟨(congrArg some hq3), (congrArg some d9), rfl, rfl, trivial⟩ ?_
    refine lw_op rfl rfl rfl (ow_nilCheck rfl rfl ?_)
    refine lw_op rfl rfl rfl (ow_fieldAddr rfl rfl Tryd.underlying130 rfl (Tryd.sizeOf128 _) ?_)
    obtain ⟨A1, c1, rfl⟩ := hr20.len
    refine lw_op0 rfl rfl (ow_store (X := (fun b => b = g ∨ vs0.ownBlock = some b ∨ vs1.ownBlock = some b)) (us := [(.slice A1 z1.length c1)]) (cs' := #[(.slice A1 z1.length c1), vs1, (.int .i64 a_2c)]) rfl rfl rfl rfl ho17 (Tryd.sizeOf128 _) rfl rfl rfl rfl hm3 (.inr (.inl rfl)) rfl hC16 fun w17 ho18 hb7 hl17 hC17 => ?_)
    have hr22 := hr21.go hb7 (fun k hk e => (orow_ne hr21 ho17 (by decide)) (hk.trans (congrArg some e))) hl17 (fun _ h => h)
    have hr23 := hr20.go hb7 (fun k hk e => (orow_ne hr20 ho17 (by decide)) (hk.trans (congrArg some e))) hl17 (fun _ h => h)
    refine lw_nil ?_
    obtain rfl := Option.some.inj h
    exact ew_end (res0 rfl) ⟨_, rfl, rfl, M3, (.slice A1 z1.length c1), vs1, ho18, hr23, hr22, hC17, hge3, hge1p⟩

theorem w_impl_returning_walk {w : World} {M : Nat → Prop} (hG : ARep (RArr 4 RShape) w M shapes ⟨0, 0, none⟩) (hO : ∀ b, M b → b < w.heap.size) {vs0 : Value} {a_0c : List Place} (hr0p : OwnRow RPlace 0 173 w M a_0c vs0) {vs1 : Value} {a_1c : List Visit} (hr1p : OwnRow RVisit 0 171 w M a_1c vs1) {a_2c : Int} {g : Nat} (hown : Own w g 130 #[vs0, vs1, (.int .i64 a_2c)]) (hgM : M g) {r : (List Place) × (List Visit) × Int} (h : F.impl_returning_walk a_0c a_1c a_2c = some r) :
    Calls Tryd.prog 187 [(.agg #[]), (.pointer (some ⟨g, 0, none⟩))].toArray w fun e w' => ∃ v, e = .returned v ∧ v = .tuple #[] ∧ ∃ (M' : Nat → Prop) (u0 : Value) (u1 : Value), Own w' g 130 #[u0, u1, .int .i64 r.2.2] ∧ OwnRow RPlace 0 173 w' M' r.1 u0 ∧ OwnRow RVisit 0 171 w' M' r.2.1 u1 ∧ Cx (fun b => b = g ∨ vs0.ownBlock = some b ∨ vs1.ownBlock = some b) w M w' M' ∧ (∀ b, u0.ownBlock = some b → w.heap.size ≤ b ∨ (fun b => b = g ∨ vs0.ownBlock = some b ∨ vs1.ownBlock = some b) b) ∧ (∀ b, u1.ownBlock = some b → w.heap.size ≤ b ∨ (fun b => b = g ∨ vs0.ownBlock = some b ∨ vs1.ownBlock = some b) b) := by
  have hX : ∀ b, (fun b => b = g ∨ vs0.ownBlock = some b ∨ vs1.ownBlock = some b) b → M b := fun b e => (e.elim (fun e => by rw [show b = g from e]; exact hgM) (fun e => (e.elim (fun e => hr0p.mem b e) (fun e => (hr1p.mem b e)))))
  have hC : Cx (fun b => b = g ∨ vs0.ownBlock = some b ∨ vs1.ownBlock = some b) w M w M := Cx.start hO hX
  have hge0p : ∀ b, vs0.ownBlock = some b → w.heap.size ≤ b ∨ (fun b => b = g ∨ vs0.ownBlock = some b ∨ vs1.ownBlock = some b) b := fun b e => .inr (.inr (.inl e))
  have hge1p : ∀ b, vs1.ownBlock = some b → w.heap.size ≤ b ∨ (fun b => b = g ∨ vs0.ownBlock = some b ∨ vs1.ownBlock = some b) b := fun b e => .inr (.inr (.inr e))
  refine walk (N := 6) Tryd.func187 rfl Tryd.ntmps187 rfl ?_
  refine cw_seq ?_
  refine cw_region ?_
  refine lw_op rfl rfl rfl (ow_box (R := REmpty) (d := ()) rfl rfl vempty hC fun p1 w1 hp1 hb1 hl1 hC1 => ?_)
  have ho1 := hown.no hb1
  have hr1 := hr0p.no hb1
  have hr2 := hr1p.no hb1
  refine lw_nil ?_
  refine ew_then ?_
  refine cw_region ?_
  refine lw_op rfl rfl rfl (ow_move rfl rfl ?_)
  replace h := bind_some h
  obtain ⟨x1, hx1, h⟩ := h
  refine lw_op rfl rfl rfl (ow_call rfl rfl Tryd.call133 (w_impl_walk_leave (hG.mono hl1) hC1.old (hr1.base (Nat.zero_le _)) (hr2.base (Nat.zero_le _)) ho1 hgM hx1) fun v1 w2 hv1 => ?_)
  obtain ⟨hw1, M1, v2, v3, ho2, hr3, hr4, hk1, hge1, hge2⟩ := hv1
  have hY1 : ∀ b, (fun b => b = g ∨ (Value.ownBlock vs0) = some b ∨ (Value.ownBlock vs1) = some b) b → w.heap.size ≤ b ∨ (fun b => b = g ∨ vs0.ownBlock = some b ∨ vs1.ownBlock = some b) b := fun b e => (e.elim (fun e => by rw [show b = g from e]; exact (.inr (.inl rfl))) (fun e => (e.elim (fun e => hge0p b e) (fun e => (hge1p b e)))))
  have hl2 := hk1.leY (fun b e => (e.elim (fun e => by rw [show b = g from e]; exact hgM) (fun e => (e.elim (fun e => hr1.mem b e) (fun e => (hr2.mem b e))))))
  have hC2 := hC1.trans2 hk1 hY1
  have hb3 := hk1.bx
  have hge3 : ∀ b, (Value.ownBlock v2) = some b → w.heap.size ≤ b ∨ (fun b => b = g ∨ vs0.ownBlock = some b ∨ vs1.ownBlock = some b) b := fun b e => (hge1 b e).elim (fun h => .inl (Nat.le_trans hC1.bx.size h)) (hY1 b)
  have hge4 : ∀ b, (Value.ownBlock v3) = some b → w.heap.size ≤ b ∨ (fun b => b = g ∨ vs0.ownBlock = some b ∨ vs1.ownBlock = some b) b := fun b e => (hge2 b e).elim (fun h => .inl (Nat.le_trans hC1.bx.size h)) (hY1 b)
  have hm1 := hk1.sup _ hgM
  subst hw1
  refine lw_nil ?_
  obtain rfl := Option.some.inj h
  exact ew_end (res0 rfl) ⟨_, rfl, rfl, M1, v2, v3, ho2, hr3, hr4, hC2, hge3, hge4⟩

theorem w_impl_passing_walk {w : World} {M : Nat → Prop} (_hG : ARep (RArr 4 RShape) w M shapes ⟨0, 0, none⟩) (hO : ∀ b, M b → b < w.heap.size) {vs0 : Value} {a_0c : List Place} (hr0p : OwnRow RPlace 0 173 w M a_0c vs0) {vs1 : Value} {a_1c : List Visit} (hr1p : OwnRow RVisit 0 171 w M a_1c vs1) {a_2c : Int} {g : Nat} (hown : Own w g 130 #[vs0, vs1, (.int .i64 a_2c)]) (hgM : M g) {r : (List Place) × (List Visit) × Int} (h : F.impl_passing_walk a_0c a_1c a_2c = some r) :
    Calls Tryd.prog 190 [(.agg #[]), (.pointer (some ⟨g, 0, none⟩))].toArray w fun e w' => ∃ v, e = .returned v ∧ v = .tuple #[] ∧ ∃ (M' : Nat → Prop) (u0 : Value) (u1 : Value), Own w' g 130 #[u0, u1, .int .i64 r.2.2] ∧ OwnRow RPlace 0 173 w' M' r.1 u0 ∧ OwnRow RVisit 0 171 w' M' r.2.1 u1 ∧ Cx (fun b => b = g ∨ vs0.ownBlock = some b ∨ vs1.ownBlock = some b) w M w' M' ∧ (∀ b, u0.ownBlock = some b → w.heap.size ≤ b ∨ (fun b => b = g ∨ vs0.ownBlock = some b ∨ vs1.ownBlock = some b) b) ∧ (∀ b, u1.ownBlock = some b → w.heap.size ≤ b ∨ (fun b => b = g ∨ vs0.ownBlock = some b ∨ vs1.ownBlock = some b) b) := by
  have hX : ∀ b, (fun b => b = g ∨ vs0.ownBlock = some b ∨ vs1.ownBlock = some b) b → M b := fun b e => (e.elim (fun e => by rw [show b = g from e]; exact hgM) (fun e => (e.elim (fun e => hr0p.mem b e) (fun e => (hr1p.mem b e)))))
  have hC : Cx (fun b => b = g ∨ vs0.ownBlock = some b ∨ vs1.ownBlock = some b) w M w M := Cx.start hO hX
  have hge0p : ∀ b, vs0.ownBlock = some b → w.heap.size ≤ b ∨ (fun b => b = g ∨ vs0.ownBlock = some b ∨ vs1.ownBlock = some b) b := fun b e => .inr (.inr (.inl e))
  have hge1p : ∀ b, vs1.ownBlock = some b → w.heap.size ≤ b ∨ (fun b => b = g ∨ vs0.ownBlock = some b ∨ vs1.ownBlock = some b) b := fun b e => .inr (.inr (.inr e))
  clear _hG
  refine walk (N := 4) Tryd.func190 rfl Tryd.ntmps190 rfl ?_
  refine cw_region ?_
  refine lw_op rfl rfl rfl (ow_box (R := REmpty) (d := ()) rfl rfl vempty hC fun p1 w1 hp1 hb1 hl1 hC1 => ?_)
  have ho1 := hown.no hb1
  have hr1 := hr0p.no hb1
  have hr2 := hr1p.no hb1
  refine lw_nil ?_
  obtain rfl := Option.some.inj h
  exact ew_end (res0 rfl) ⟨_, rfl, rfl, M, vs0, vs1, ho1, hr1, hr2, hC1, hge0p, hge1p⟩

theorem inv_walk {w : World} {M : Nat → Prop} (hG : ARep (RArr 4 RShape) w M shapes ⟨0, 0, none⟩) (hO : ∀ b, M b → b < w.heap.size) {vs0 : Value} {a_0c : List Place} (hr0p : OwnRow RPlace 0 173 w M a_0c vs0) {vs1 : Value} {a_1c : List Visit} (hr1p : OwnRow RVisit 0 171 w M a_1c vs1) {a_2c : Int} {g : Nat} (hown : Own w g 130 #[vs0, vs1, .int .i64 a_2c]) (hgM : M g) {act : Act_} {r : (List Place) × (List Visit) × Int} (h : F.invoke_walk act a_0c a_1c a_2c = some r) :
    ∃ (f : FuncId) (us : List Value), (callMethod (actV act) "loop.example/packetfilter/impl.walk" [(.pointer (some ⟨g, 0, none⟩))].toArray).run Tryd.prog w = .ok (.enter f us.toArray) w ∧ Calls Tryd.prog f us.toArray w fun e w' => ∃ v, e = .returned v ∧ v = .tuple #[] ∧ ∃ (M' : Nat → Prop) (u0 : Value) (u1 : Value), Own w' g 130 #[u0, u1, .int .i64 r.2.2] ∧ OwnRow RPlace 0 173 w' M' r.1 u0 ∧ OwnRow RVisit 0 171 w' M' r.2.1 u1 ∧ Cx (fun b => b = g ∨ vs0.ownBlock = some b ∨ vs1.ownBlock = some b) w M w' M' ∧ (∀ b, u0.ownBlock = some b → w.heap.size ≤ b ∨ (fun b => b = g ∨ vs0.ownBlock = some b ∨ vs1.ownBlock = some b) b) ∧ (∀ b, u1.ownBlock = some b → w.heap.size ≤ b ∨ (fun b => b = g ∨ vs0.ownBlock = some b ∨ vs1.ownBlock = some b) b) := by
  cases act with
  | deciding b => exact ⟨181, [(.agg #[.bool b]), (.pointer (some ⟨g, 0, none⟩))], by kernel_rfl, w_impl_deciding_walk hG hO shut_deciding hr0p hr1p hown hgM h⟩
  | calling b => exact ⟨184, [(.agg #[.int .i64 b]), (.pointer (some ⟨g, 0, none⟩))], by kernel_rfl, w_impl_calling_walk hG hO shut_calling hr0p hr1p hown hgM h⟩
  | returning => exact ⟨187, [(.agg #[]), (.pointer (some ⟨g, 0, none⟩))], by kernel_rfl, w_impl_returning_walk hG hO hr0p hr1p hown hgM h⟩
  | passing => exact ⟨190, [(.agg #[]), (.pointer (some ⟨g, 0, none⟩))], by kernel_rfl, w_impl_passing_walk hG hO hr0p hr1p hown hgM h⟩

theorem w_impl_walkThrough {w : World} {M : Nat → Prop} (hG : ARep (RArr 4 RShape) w M shapes ⟨0, 0, none⟩) (hO : ∀ b, M b → b < w.heap.size) {v0p : Value} {a_s : Ruleset} (h0 : VRep RRuleset w M a_s v0p) {v1p : Value} {a_p : Packet} (h1 : VRep RPacket w M a_p v1p) {r : Walk} (h : F.impl_walkThrough a_s a_p = some r) :
    Calls Tryd.prog 92 [v0p, v1p].toArray w fun e w' => ∃ v, e = .returned v ∧ (∃ p, v = .pointer (some p) ∧ ARep RWalk w' M r p) ∧ BX No w w' := by
  obtain ⟨i171, hi171, hz171, hs171, hy171⟩ := info171
  have hC : Cx No w M w M := Cx.start hO (fun _ e => e.elim)
  refine walk (N := 102) Tryd.func92 rfl Tryd.ntmps92 rfl ?_
  refine cw_seq ?_
  refine cw_region ?_
  refine lw_op rfl rfl rfl (ow_box (R := RRuleset) rfl rfl h0 hC fun p1 w1 hp1 hb1 hl1 hC1 => ?_)
  refine lw_op rfl rfl rfl (ow_box (R := RPacket) rfl rfl (VRep.mono hl1 h1) hC1 fun p2 w2 hp2 hb2 hl2 hC2 => ?_)
  refine lw_op rfl rfl rfl (ow_assign rfl rfl ?_)
  refine lw_nil ?_
  refine ew_then ?_
  refine cw_seq ?_
  refine cw_region ?_
  refine lw_op rfl rfl rfl (ow_build (v := .agg #[(.int .i64 0), (.int .i64 0)]) rfl rfl (by kernel_rfl) ?_)
  have hw1 : VRep RPlace w2 M ({ chain := 0, next := 0 } : Place) (.agg #[(.int .i64 0), (.int .i64 0)]) := shut_Place
  refine lw_op rfl rfl rfl (ow_buildSliceOwn (R := RPlace) (xs := [({ chain := 0, next := 0 } : Place)]) (cs := #[(.int .i64 0), (.int .i64 0)]) (e := 173) rfl rfl (by kernel_rfl) rfl rfl ⟨_, _, rfl, hw1.cells, rfl⟩ hC2 fun p3 w3 M1 hr1 hb3 hl3 hC3 hM1 hat1 => ?_)
  refine lw_op rfl rfl rfl (ow_build (v := .agg #[(.slice (some p3) 1 1), (.slice none 0 0), (.int .i64 5)]) rfl rfl (by kernel_rfl) ?_)
  refine lw_op rfl rfl rfl (ow_boxOwn rfl rfl hC3 fun g1 w4 hg1 hg2 ho1 hb4 hl4 hC4 => ?_)
  have hr2 := hr1.add hb4 hg1
  have hm1 : (Add g1 M1) g1 := .inl rfl
  refine lw_op rfl rfl rfl (ow_assign rfl rfl ?_)
  refine lw_nil ?_
  refine ew_then ?_
  refine cw_seq ?_
  have hr3 : OwnRow RVisit w.heap.size 171 w4 (Add g1 M1) ([] : List Visit) (.slice none 0 0) := ownrow_nil
  replace h := bind_some h
  obtain ⟨lr1, hlr1, h⟩ := h
  refine cw_for hlr1 (fun s a w' => ∃ (M' : Nat → Prop) (v0c : Value) (v1c : Value), Fits 102 [(2, (.pointer (some p1))), (3, (.pointer (some p2))), (5, (.pointer (some ⟨g1, 0, none⟩)))] a ∧ Le w4 (Add g1 M1) w' M' ∧ Cx No w M w' M' ∧ OwnRow RPlace w.heap.size 173 w' M' s.1 v0c ∧ OwnRow RVisit w.heap.size 171 w' M' s.2.1 v1c ∧ Own w' g1 130 #[v0c, v1c, (.int .i64 s.2.2)] ∧ M' g1) ?_ ?_ ?_
  · intro a ha
    exact ⟨(Add g1 M1), (.slice (some p3) 1 1), (.slice none 0 0), ha.sub ⟨rfl, rfl, rfl, trivial⟩, Le.refl _ _, hC4, hr2, hr3, ho1, hm1⟩
  · rintro ⟨y1, y2, k1⟩ a w5 sr1 ⟨M2, v1, v2, hF1, hl5, hC5, hw2, hw3, ho2, hm2⟩ hb5 hR1
    refine cw_at (E := [(2, (.pointer (some p1))), (3, (.pointer (some p2))), (5, (.pointer (some ⟨g1, 0, none⟩)))]) hF1 ?_
    refine cw_seq ?_
    refine cw_seq ?_
    refine cw_region ?_
    refine lw_op rfl rfl rfl (ow_move rfl rfl ?_)
    refine lw_op rfl rfl rfl (ow_nilCheck rfl rfl ?_)
    refine lw_op rfl rfl rfl (ow_fieldAddr rfl rfl Tryd.underlying130 rfl (Tryd.sizeOf128 _) ?_)
    refine lw_op rfl rfl rfl (ow_loadOwn1 rfl rfl rfl ho2 (Tryd.isAgg128 _) rfl ?_)
    refine lw_op rfl rfl rfl (ow_lenOwn rfl rfl hw2 Tryd.underlying128 ?_)
    refine lw_op rfl rfl rfl (ow_gtr rfl rfl rfl fun bb1 hbb1 => ?_)
    refine lw_op rfl rfl rfl (ow_move rfl rfl ?_)
    replace hb5 := cond_some hb5
    rcases hb5 with ⟨hc1, hb5⟩ | ⟨hc1, hb5⟩
    · obtain rfl := hbb1.trans hc1
      refine lw_on rfl rfl rfl rfl rfl rfl (ow_move rfl rfl ?_)
      refine lw_on rfl rfl rfl rfl rfl rfl (ow_nilCheck rfl rfl ?_)
      refine lw_on rfl rfl rfl rfl rfl rfl (ow_fieldAddr rfl rfl Tryd.underlying130 rfl (Tryd.sizeOf3 _) ?_)
      refine lw_on rfl rfl rfl rfl rfl rfl (ow_loadOwn1 rfl rfl rfl ho2 (Tryd.isAgg3 _) rfl ?_)
      refine lw_on rfl rfl rfl rfl rfl rfl (ow_eqlI rfl rfl rfl fun bb2 hbb2 => ?_)
      refine lw_op rfl rfl rfl (ow_pickT rfl rfl rfl ?_)
      refine lw_nil ?_
      refine ew_then ?_
      replace hb5 := cond_some hb5
      rcases hb5 with ⟨hc2, hb5⟩ | ⟨hc2, hb5⟩
      · obtain rfl := hbb2.trans hc2
        refine cw_true rfl ?_
        refine cw_skip ?_
        refine ew_then ?_
        refine cw_block ?_
        refine cw_seq ?_
        refine cw_sub (E' := [(2, (.pointer (some p1))), (3, (.pointer (some p2))), (5, (.pointer (some ⟨g1, 0, none⟩)))]) ⟨rfl, rfl, rfl, trivial⟩ ?_
        refine cw_drawQ 10 [PEq (.pointer (some ⟨g1, 0, none⟩)), PEq (.pointer (some ⟨g1, 0, none⟩)), PEq (.pointer (some ⟨g1, 0, none⟩)), PEq v1, PEq (.pointer (some ⟨g1, 0, none⟩)), PEq (.pointer (some ⟨g1, 0, none⟩)), PEq (.pointer (some ⟨g1, 0, none⟩)), PEq v1, PEq (.int .i64 (y1.length : Int)), PEq (.int .i64 (W ((y1.length : Int) - 1)))] (by kernel_rfl) rfl (by kernel_rfl) ⟨PEq.mono _, PEq.mono _, PEq.mono _, PEq.mono _, PEq.mono _, PEq.mono _, PEq.mono _, PEq.mono _, PEq.mono _, PEq.mono _, trivial⟩ ⟨?_, ?_, ?_, ?_, ?_, ?_, ?_, ?_, ?_, ?_, trivial⟩ ?_
        · intro w6 D hS1 hd1
          have hl6 := Le.no M2 hS1
          have hC6 := hC5.no hS1
          have ho3 := ho2.no hS1
          have hr4 := hw2.no hS1
          have hr5 := hw3.no hS1
          refine dg_sub (E' := [(5, (.pointer (some ⟨g1, 0, none⟩)))]) ⟨rfl, trivial⟩ ?_
          refine dg_plain rfl (ow_move rfl rfl ?_)
          exact ⟨BX.refl _ _, rfl⟩
        · intro w7 D hS2 hd2
          have hl7 := Le.no M2 hS2
          have hC7 := hC5.no hS2
          have ho4 := ho2.no hS2
          have hr6 := hw2.no hS2
          have hr7 := hw3.no hS2
          have hd2 : PEq (.pointer (some ⟨g1, 0, none⟩)) (D 0) w7 ∧ True := hd2
          obtain ⟨d1, -⟩ := hd2
          refine dg_sub (E' := [(26, (.pointer (some ⟨g1, 0, none⟩)))]) ⟨(congrArg some d1), trivial⟩ ?_
          refine dg_plain rfl (ow_nilCheck rfl rfl ?_)
          exact ⟨BX.refl _ _, rfl⟩
        · intro w8 D hS3 hd3
          have hl8 := Le.no M2 hS3
          have hC8 := hC5.no hS3
          have ho5 := ho2.no hS3
          have hr8 := hw2.no hS3
          have hr9 := hw3.no hS3
          have hd3 : PEq (.pointer (some ⟨g1, 0, none⟩)) (D 1) w8 ∧ True := hd3
          obtain ⟨d2, -⟩ := hd3
          refine dg_sub (E' := [(27, (.pointer (some ⟨g1, 0, none⟩)))]) ⟨(congrArg some d2), trivial⟩ ?_
          refine dg_plain rfl (ow_fieldAddr rfl rfl Tryd.underlying130 rfl (Tryd.sizeOf128 _) ?_)
          exact ⟨BX.refl _ _, rfl⟩
        · intro w9 D hS4 hd4
          have hl9 := Le.no M2 hS4
          have hC9 := hC5.no hS4
          have ho6 := ho2.no hS4
          have hr10 := hw2.no hS4
          have hr11 := hw3.no hS4
          have hd4 : PEq (.pointer (some ⟨g1, 0, none⟩)) (D 2) w9 ∧ True := hd4
          obtain ⟨d3, -⟩ := hd4
          refine dg_sub (E' := [(28, (.pointer (some ⟨g1, 0, none⟩)))]) ⟨(congrArg some d3), trivial⟩ ?_
          refine dg_plain rfl (ow_loadOwn1 rfl rfl rfl ho6 (Tryd.isAgg128 _) rfl ?_)
          exact ⟨BX.refl _ _, rfl⟩
        · intro w10 D hS5 hd5
          have hl10 := Le.no M2 hS5
          have hC10 := hC5.no hS5
          have ho7 := ho2.no hS5
          have hr12 := hw2.no hS5
          have hr13 := hw3.no hS5
          refine dg_sub (E' := [(5, (.pointer (some ⟨g1, 0, none⟩)))]) ⟨rfl, trivial⟩ ?_
          refine dg_plain rfl (ow_move rfl rfl ?_)
          exact ⟨BX.refl _ _, rfl⟩
        · intro w11 D hS6 hd6
          have hl11 := Le.no M2 hS6
          have hC11 := hC5.no hS6
          have ho8 := ho2.no hS6
          have hr14 := hw2.no hS6
          have hr15 := hw3.no hS6
          have hd6 : PEq (.pointer (some ⟨g1, 0, none⟩)) (D 4) w11 ∧ True := hd6
          obtain ⟨d4, -⟩ := hd6
          refine dg_sub (E' := [(30, (.pointer (some ⟨g1, 0, none⟩)))]) ⟨(congrArg some d4), trivial⟩ ?_
          refine dg_plain rfl (ow_nilCheck rfl rfl ?_)
          exact ⟨BX.refl _ _, rfl⟩
        · intro w12 D hS7 hd7
          have hl12 := Le.no M2 hS7
          have hC12 := hC5.no hS7
          have ho9 := ho2.no hS7
          have hr16 := hw2.no hS7
          have hr17 := hw3.no hS7
          have hd7 : PEq (.pointer (some ⟨g1, 0, none⟩)) (D 5) w12 ∧ True := hd7
          obtain ⟨d5, -⟩ := hd7
          refine dg_sub (E' := [(31, (.pointer (some ⟨g1, 0, none⟩)))]) ⟨(congrArg some d5), trivial⟩ ?_
          refine dg_plain rfl (ow_fieldAddr rfl rfl Tryd.underlying130 rfl (Tryd.sizeOf128 _) ?_)
          exact ⟨BX.refl _ _, rfl⟩
        · intro w13 D hS8 hd8
          have hl13 := Le.no M2 hS8
          have hC13 := hC5.no hS8
          have ho10 := ho2.no hS8
          have hr18 := hw2.no hS8
          have hr19 := hw3.no hS8
          have hd8 : PEq (.pointer (some ⟨g1, 0, none⟩)) (D 6) w13 ∧ True := hd8
          obtain ⟨d6, -⟩ := hd8
          refine dg_sub (E' := [(32, (.pointer (some ⟨g1, 0, none⟩)))]) ⟨(congrArg some d6), trivial⟩ ?_
          refine dg_plain rfl (ow_loadOwn1 rfl rfl rfl ho10 (Tryd.isAgg128 _) rfl ?_)
          exact ⟨BX.refl _ _, rfl⟩
        · intro w14 D hS9 hd9
          have hl14 := Le.no M2 hS9
          have hC14 := hC5.no hS9
          have ho11 := ho2.no hS9
          have hr20 := hw2.no hS9
          have hr21 := hw3.no hS9
          have hd9 : PEq v1 (D 7) w14 ∧ True := hd9
          obtain ⟨d7, -⟩ := hd9
          refine dg_sub (E' := [(33, v1)]) ⟨(congrArg some d7), trivial⟩ ?_
          refine dg_plain rfl (ow_lenOwn rfl rfl hr20 Tryd.underlying128 ?_)
          exact ⟨BX.refl _ _, rfl⟩
        · intro w15 D hS10 hd10
          have hl15 := Le.no M2 hS10
          have hC15 := hC5.no hS10
          have ho12 := ho2.no hS10
          have hr22 := hw2.no hS10
          have hr23 := hw3.no hS10
          have hd10 : PEq (.int .i64 (y1.length : Int)) (D 8) w15 ∧ True := hd10
          obtain ⟨d8, -⟩ := hd10
          refine dg_sub (E' := [(34, (.int .i64 (y1.length : Int)))]) ⟨(congrArg some d8), trivial⟩ ?_
          refine dg_plain rfl (ow_sub rfl rfl rfl ?_)
          exact ⟨BX.refl _ _, rfl⟩
        · intro w16 D hS11 hd11
          have hl16 := Le.no M2 hS11
          have hC16 := hC5.no hS11
          have ho13 := ho2.no hS11
          have hr24 := hw2.no hS11
          have hr25 := hw3.no hS11
          have hd11 : PEq (.pointer (some ⟨g1, 0, none⟩)) (D 0) w16 ∧ PEq (.pointer (some ⟨g1, 0, none⟩)) (D 1) w16 ∧ PEq (.pointer (some ⟨g1, 0, none⟩)) (D 2) w16 ∧ PEq v1 (D 3) w16 ∧ PEq (.pointer (some ⟨g1, 0, none⟩)) (D 4) w16 ∧ PEq (.pointer (some ⟨g1, 0, none⟩)) (D 5) w16 ∧ PEq (.pointer (some ⟨g1, 0, none⟩)) (D 6) w16 ∧ PEq v1 (D 7) w16 ∧ PEq (.int .i64 (y1.length : Int)) (D 8) w16 ∧ PEq (.int .i64 (W ((y1.length : Int) - 1))) (D 9) w16 ∧ True := hd11
          obtain ⟨-, -, -, d12, -, -, -, -, -, d18, -⟩ := hd11
          refine lw_sub (E' := [(29, v1), (35, (.int .i64 (W ((y1.length : Int) - 1)))), (2, (.pointer (some p1))), (3, (.pointer (some p2))), (5, (.pointer (some ⟨g1, 0, none⟩)))]) ⟨(congrArg some d12), (congrArg some d18), rfl, rfl, rfl, trivial⟩ ?_
          replace hb5 := bind_some hb5
          obtain ⟨x1, hx1, hb5⟩ := hb5
          refine lw_op rfl rfl rfl (ow_indexRow (R := RPlace) rfl rfl rfl hr24 Tryd.underlying128 (Tryd.sizeOf173 _) hx1 ?_)
          refine lw_op rfl rfl rfl (ow_assign rfl rfl ?_)
          refine lw_nil ?_
          refine ew_then ?_
          refine cw_seq ?_
          refine cw_sub (E' := [(2, (.pointer (some p1))), (3, (.pointer (some p2))), (5, (.pointer (some ⟨g1, 0, none⟩))), (6, (.pointer (some ⟨blk v1, ((W ((y1.length : Int) - 1)) : Int).toNat * RPlace.size + 0, none⟩)))]) ⟨rfl, rfl, rfl, rfl, trivial⟩ ?_
          refine cw_drawQ 6 [PA (RSlice (RSlice RRule)) M2 a_s.Chains, PV (RSlice (RSlice RRule)) M2 a_s.Chains, PEq (.pointer (some ⟨blk v1, ((W ((y1.length : Int) - 1)) : Int).toNat * RPlace.size + 0, none⟩)), PEq (.pointer (some ⟨blk v1, ((W ((y1.length : Int) - 1)) : Int).toNat * RPlace.size + 0, none⟩)), PEq (.pointer (some ⟨blk v1, ((W ((y1.length : Int) - 1)) : Int).toNat * RPlace.size + 0, none⟩)), PEq (.int .i64 x1.chain)] (by kernel_rfl) rfl (by kernel_rfl) ⟨PA.mono _ _ _, PV.mono _ _ _, PEq.mono _, PEq.mono _, PEq.mono _, PEq.mono _, trivial⟩ ⟨?_, ?_, ?_, ?_, ?_, ?_, trivial⟩ ?_
          · intro w17 D hS12 hd12
            have hl17 := Le.no M2 hS12
            have hC17 := hC16.no hS12
            have ho14 := ho13.no hS12
            have hr26 := hr24.no hS12
            have hr27 := hr25.no hS12
            refine dg_sub (E' := [(2, (.pointer (some p1)))]) ⟨rfl, trivial⟩ ?_
            refine dg_plain rfl (ow_fieldAddr rfl rfl Tryd.underlying57 rfl (Tryd.sizeOf55 _) ?_)
            exact ⟨BX.refl _ _, ⟨_, rfl, (ARep.mono (((((hl2.trans hl3).trans hl4).trans hl5).trans hl16).trans hl17) (hp1.fld fld_Ruleset_Chains))⟩⟩
          · intro w18 D hS13 hd13
            have hl18 := Le.no M2 hS13
            have hC18 := hC16.no hS13
            have ho15 := ho13.no hS13
            have hr28 := hr24.no hS13
            have hr29 := hr25.no hS13
            have hd13 : PA (RSlice (RSlice RRule)) M2 a_s.Chains (D 0) w18 ∧ True := hd13
            obtain ⟨d19, -⟩ := hd13
            obtain ⟨p4, e1, ha1⟩ := d19
            refine dg_sub (E' := [(37, (.pointer (some p4)))]) ⟨(congrArg some e1), trivial⟩ ?_
            refine dg_plain rfl (ow_load (R := (RSlice (RSlice RRule))) rfl rfl ha1 (Tryd.sizeOf55 _) (Tryd.isAgg55 _) fun v6 hv6 => ?_)
            exact ⟨BX.refl _ _, hv6⟩
          · intro w19 D hS14 hd14
            have hl19 := Le.no M2 hS14
            have hC19 := hC16.no hS14
            have ho16 := ho13.no hS14
            have hr30 := hr24.no hS14
            have hr31 := hr25.no hS14
            refine dg_sub (E' := [(6, (.pointer (some ⟨blk v1, ((W ((y1.length : Int) - 1)) : Int).toNat * RPlace.size + 0, none⟩)))]) ⟨rfl, trivial⟩ ?_
            refine dg_plain rfl (ow_move rfl rfl ?_)
            exact ⟨BX.refl _ _, rfl⟩
          · intro w20 D hS15 hd15
            have hl20 := Le.no M2 hS15
            have hC20 := hC16.no hS15
            have ho17 := ho13.no hS15
            have hr32 := hr24.no hS15
            have hr33 := hr25.no hS15
            have hd15 : PEq (.pointer (some ⟨blk v1, ((W ((y1.length : Int) - 1)) : Int).toNat * RPlace.size + 0, none⟩)) (D 2) w20 ∧ True := hd15
            obtain ⟨d20, -⟩ := hd15
            refine dg_sub (E' := [(39, (.pointer (some ⟨blk v1, ((W ((y1.length : Int) - 1)) : Int).toNat * RPlace.size + 0, none⟩)))]) ⟨(congrArg some d20), trivial⟩ ?_
            refine dg_plain rfl (ow_nilCheck rfl rfl ?_)
            exact ⟨BX.refl _ _, rfl⟩
          · intro w21 D hS16 hd16
            have hl21 := Le.no M2 hS16
            have hC21 := hC16.no hS16
            have ho18 := ho13.no hS16
            have hr34 := hr24.no hS16
            have hr35 := hr25.no hS16
            have hd16 : PEq (.pointer (some ⟨blk v1, ((W ((y1.length : Int) - 1)) : Int).toNat * RPlace.size + 0, none⟩)) (D 3) w21 ∧ True := hd16
            obtain ⟨d21, -⟩ := hd16
            refine dg_sub (E' := [(40, (.pointer (some ⟨blk v1, ((W ((y1.length : Int) - 1)) : Int).toNat * RPlace.size + 0, none⟩)))]) ⟨(congrArg some d21), trivial⟩ ?_
            refine dg_plain rfl (ow_fieldAddr rfl rfl Tryd.underlying173 rfl (Tryd.sizeOf3 _) ?_)
            exact ⟨BX.refl _ _, rfl⟩
          · intro w22 D hS17 hd17
            have hl22 := Le.no M2 hS17
            have hC22 := hC16.no hS17
            have ho19 := ho13.no hS17
            have hr36 := hr24.no hS17
            have hr37 := hr25.no hS17
            have hd17 : PEq (.pointer (some ⟨blk v1, ((W ((y1.length : Int) - 1)) : Int).toNat * RPlace.size + 0, none⟩)) (D 4) w22 ∧ True := hd17
            obtain ⟨d22, -⟩ := hd17
            refine dg_sub (E' := [(41, (.pointer (some ⟨blk v1, ((W ((y1.length : Int) - 1)) : Int).toNat * RPlace.size + 0, none⟩)))]) ⟨(congrArg some d22), trivial⟩ ?_
            refine dg_plain rfl (ow_loadElRow (R := RPlace) (S := RInt) rfl rfl rfl hr36 (orow_blk hr36 hx1) hx1 fld_Place_chain (Tryd.sizeOf3 _) (Tryd.isAgg3 _) fun v7 hv7 => ?_)
            obtain rfl := vint_eq hv7
            exact ⟨BX.refl _ _, rfl⟩
          · intro w23 D hS18 hd18
            have hl23 := Le.no M2 hS18
            have hC23 := hC16.no hS18
            have ho20 := ho13.no hS18
            have hr38 := hr24.no hS18
            have hr39 := hr25.no hS18
            have hd18 : PA (RSlice (RSlice RRule)) M2 a_s.Chains (D 0) w23 ∧ PV (RSlice (RSlice RRule)) M2 a_s.Chains (D 1) w23 ∧ PEq (.pointer (some ⟨blk v1, ((W ((y1.length : Int) - 1)) : Int).toNat * RPlace.size + 0, none⟩)) (D 2) w23 ∧ PEq (.pointer (some ⟨blk v1, ((W ((y1.length : Int) - 1)) : Int).toNat * RPlace.size + 0, none⟩)) (D 3) w23 ∧ PEq (.pointer (some ⟨blk v1, ((W ((y1.length : Int) - 1)) : Int).toNat * RPlace.size + 0, none⟩)) (D 4) w23 ∧ PEq (.int .i64 x1.chain) (D 5) w23 ∧ True := hd18
            obtain ⟨-, d24, -, -, -, d28, -⟩ := hd18
            obtain ⟨v8, hq1⟩ : ∃ v, (D 1) = v := ⟨_, rfl⟩
            rw [hq1] at d24
            refine lw_sub (E' := [(38, v8), (42, (.int .i64 x1.chain)), (2, (.pointer (some p1))), (3, (.pointer (some p2))), (5, (.pointer (some ⟨g1, 0, none⟩))), (6, (.pointer (some ⟨blk v1, ((W ((y1.length : Int) - 1)) : Int).toNat * RPlace.size + 0, none⟩)))]) ⟨(congrArg some hq1), (congrArg some d28), rfl, rfl, rfl, rfl, trivial⟩ ?_
            replace hb5 := bind_some hb5
            obtain ⟨x2, hx2, hb5⟩ := hb5
            refine lw_op rfl rfl rfl (ow_indexSlice (R := (RSlice RRule)) rfl rfl rfl d24 Tryd.underlying55 (Tryd.sizeOf86 _) hx2 fun p5 hp5 => ?_)
            refine lw_op rfl rfl rfl (ow_load (R := (RSlice RRule)) rfl rfl hp5 (Tryd.sizeOf86 _) (Tryd.isAgg86 _) fun v9 hv9 => ?_)
            refine lw_op rfl rfl rfl (ow_assign rfl rfl ?_)
            refine lw_nil ?_
            refine ew_then ?_
            refine cw_seq ?_
            refine cw_seq ?_
            refine cw_region ?_
            refine lw_op rfl rfl rfl (ow_move rfl rfl ?_)
            refine lw_op rfl rfl rfl (ow_nilCheck rfl rfl ?_)
            refine lw_op rfl rfl rfl (ow_fieldAddr rfl rfl Tryd.underlying173 rfl (Tryd.sizeOf3 _) ?_)
            refine lw_op rfl rfl rfl (ow_loadElRow (R := RPlace) (S := RInt) rfl rfl rfl hr38 (orow_blk hr38 hx1) hx1 fld_Place_next (Tryd.sizeOf3 _) (Tryd.isAgg3 _) fun v10 hv10 => ?_)
            obtain rfl := vint_eq hv10
            refine lw_op rfl rfl rfl (ow_move rfl rfl ?_)
            refine lw_op rfl rfl rfl (ow_len rfl rfl hv9 Tryd.underlying86 rfl ?_)
            refine lw_op rfl rfl rfl (ow_eqlI rfl rfl rfl fun bb3 hbb3 => ?_)
            refine lw_nil ?_
            refine ew_then ?_
            replace hb5 := cond_some hb5
            rcases hb5 with ⟨hc3, hb5⟩ | ⟨hc3, hb5⟩
            · obtain rfl := hbb3.trans hc3
              refine cw_true rfl ?_
              refine cw_seq ?_
              refine cw_region ?_
              refine lw_op rfl rfl rfl (ow_move rfl rfl ?_)
              replace hb5 := bind_some hb5
              obtain ⟨x3, hx3, hb5⟩ := hb5
              refine lw_op rfl rfl rfl (ow_call rfl rfl Tryd.call133 (w_impl_walk_leave (hG.mono ((((((hl1.trans hl2).trans hl3).trans hl4).trans hl5).trans hl16).trans hl23)) hC23.old (hr38.base (Nat.zero_le _)) (hr39.base (Nat.zero_le _)) ho20 hm2 hx3) fun v11 w24 hv11 => ?_)
              obtain ⟨hw4, M3, v12, v13, ho21, hr40, hr41, hk1, hge1, hge2⟩ := hv11
              have hY1 : ∀ b, (fun b => b = g1 ∨ (Value.ownBlock v1) = some b ∨ (Value.ownBlock v2) = some b) b → w.heap.size ≤ b ∨ No b := fun b e => (e.elim (fun e => by rw [show b = g1 from e]; exact (.inl hg2)) (fun e => (e.elim (fun e => (fun b e => .inl (hr38.block e).1) b e) (fun e => ((fun b e => .inl (hr39.block e).1) b e)))))
              have hl24 := hk1.leY (fun b e => (e.elim (fun e => by rw [show b = g1 from e]; exact hm2) (fun e => (e.elim (fun e => hr38.mem b e) (fun e => (hr39.mem b e))))))
              have hC24 := hC23.trans2 hk1 hY1
              have hb7 := hk1.bx
              have hr42 := hr40.raise (B' := w.heap.size) (fun b e => (hge1 b e).elim (fun h => Nat.le_trans hC23.bx.size h) (fun e => (e.elim (fun e => by rw [show b = g1 from e]; exact hg2) (fun e => (e.elim (fun e => (hr38.block e).1) (fun e => ((hr39.block e).1)))))))
              have hr43 := hr41.raise (B' := w.heap.size) (fun b e => (hge2 b e).elim (fun h => Nat.le_trans hC23.bx.size h) (fun e => (e.elim (fun e => by rw [show b = g1 from e]; exact hg2) (fun e => (e.elim (fun e => (hr38.block e).1) (fun e => ((hr39.block e).1)))))))
              have hm3 := hk1.sup _ hm2
              subst hw4
              refine lw_nil ?_
              refine ew_then ?_
              refine cw_exit ?_
              refine ew_thenX ?_
              refine ew_blockX ?_
              refine ew_nxt (x3.1, x3.2.1, x3.2.2) hb5 fun a ha => ⟨M3, v12, v13, ?_, (((hl5.trans hl16).trans hl23).trans hl24), hC24, hr42, hr43, ho21, hm3⟩
              exact ha.sub ⟨rfl, rfl, rfl, trivial⟩
            · obtain rfl := hbb3.trans hc3
              refine cw_false rfl ?_
              refine cw_skip ?_
              refine ew_then ?_
              refine cw_seq ?_
              refine cw_region ?_
              refine lw_op rfl rfl rfl (ow_move rfl rfl ?_)
              refine lw_op rfl rfl rfl (ow_nilCheck rfl rfl ?_)
              refine lw_op rfl rfl rfl (ow_fieldAddr rfl rfl Tryd.underlying173 rfl (Tryd.sizeOf3 _) ?_)
              refine lw_op rfl rfl rfl (ow_loadElRow (R := RPlace) (S := RInt) rfl rfl rfl hr38 (orow_blk hr38 hx1) hx1 fld_Place_next (Tryd.sizeOf3 _) (Tryd.isAgg3 _) fun v14 hv14 => ?_)
              obtain rfl := vint_eq hv14
              refine lw_op rfl rfl rfl (ow_assign rfl rfl ?_)
              refine lw_nil ?_
              refine ew_then ?_
              refine cw_seq ?_
              refine cw_region ?_
              refine lw_op rfl rfl rfl (ow_move rfl rfl ?_)
              refine lw_op rfl rfl rfl (ow_nilCheck rfl rfl ?_)
              refine lw_op rfl rfl rfl (ow_fieldAddr rfl rfl Tryd.underlying173 rfl (Tryd.sizeOf3 _) ?_)
              refine lw_op rfl rfl rfl (ow_loadElRow (R := RPlace) (S := RInt) rfl rfl rfl hr38 (orow_blk hr38 hx1) hx1 fld_Place_next (Tryd.sizeOf3 _) (Tryd.isAgg3 _) fun v15 hv15 => ?_)
              obtain rfl := vint_eq hv15
              refine lw_op rfl rfl rfl (ow_add rfl rfl rfl ?_)
              refine lw_op rfl rfl rfl (ow_nilCheck rfl rfl ?_)
              refine lw_op rfl rfl rfl (ow_fieldAddr rfl rfl Tryd.underlying173 rfl (Tryd.sizeOf3 _) ?_)
              refine lw_op0 rfl rfl (ow_storeElRow (X := No) (R := RPlace) (S := RInt) rfl rfl rfl rfl hr38 (orow_blk hr38 hx1) hx1 set_Place_next (Tryd.sizeOf3 _) (vint _) (Nat.le_refl _) hC23 fun w25 ho22 hb8 hl25 hC25 => ?_)
              have ho23 := ho20.go hb8 (fun e => (orow_ne hr38 ho20 (by decide)) (by rw [orow_blk hr38 hx1]; exact congrArg some e.symm))
              have hr44 := hr39.go hb8 (fun k hk e => orow_row_ne hr39 hr38 (by decide) hk (by rw [orow_blk hr38 hx1]; exact congrArg some e.symm)) hl25 (fun _ h => h)
              refine lw_nil ?_
              refine ew_then ?_
              refine cw_seq ?_
              refine cw_seq ?_
              replace hb5 := bind_some hb5
              obtain ⟨x4, hx4, hb5⟩ := hb5
              refine cw_sub (E' := [(2, (.pointer (some p1))), (3, (.pointer (some p2))), (5, (.pointer (some ⟨g1, 0, none⟩))), (6, (.pointer (some ⟨blk v1, ((W ((y1.length : Int) - 1)) : Int).toNat * RPlace.size + 0, none⟩))), (7, v9), (8, (.int .i64 x1.next))]) ⟨rfl, rfl, rfl, rfl, rfl, rfl, trivial⟩ ?_
              refine cw_drawQ 6 [PV (RSlice RRule) M2 x2, PEq (.int .i64 x1.next), PA RRule M2 x4, PA (RSlice RTest) M2 x4.Tests, PV (RSlice RTest) M2 x4.Tests, PV RPacket M2 a_p] (by kernel_rfl) rfl (by kernel_rfl) ⟨PV.mono _ _ _, PEq.mono _, PA.mono _ _ _, PA.mono _ _ _, PV.mono _ _ _, PV.mono _ _ _, trivial⟩ ⟨?_, ?_, ?_, ?_, ?_, ?_, trivial⟩ ?_
              · intro w26 D hS19 hd19
                have hl26 := Le.no M2 hS19
                have hC26 := hC25.no hS19
                have ho24 := ho23.no hS19
                have hr45 := ho22.no hS19
                have hr46 := hr44.no hS19
                refine dg_sub (E' := [(7, v9)]) ⟨rfl, trivial⟩ ?_
                refine dg_plain rfl (ow_move rfl rfl ?_)
                exact ⟨BX.refl _ _, (VRep.mono (hl25.trans hl26) hv9)⟩
              · intro w27 D hS20 hd20
                have hl27 := Le.no M2 hS20
                have hC27 := hC25.no hS20
                have ho25 := ho23.no hS20
                have hr47 := ho22.no hS20
                have hr48 := hr44.no hS20
                refine dg_sub (E' := [(8, (.int .i64 x1.next))]) ⟨rfl, trivial⟩ ?_
                refine dg_plain rfl (ow_move rfl rfl ?_)
                exact ⟨BX.refl _ _, rfl⟩
              · intro w28 D hS21 hd21
                have hl28 := Le.no M2 hS21
                have hC28 := hC25.no hS21
                have ho26 := ho23.no hS21
                have hr49 := ho22.no hS21
                have hr50 := hr44.no hS21
                have hd21 : PV (RSlice RRule) M2 x2 (D 0) w28 ∧ PEq (.int .i64 x1.next) (D 1) w28 ∧ True := hd21
                obtain ⟨d29, d30, -⟩ := hd21
                obtain ⟨v18, hq2⟩ : ∃ v, (D 0) = v := ⟨_, rfl⟩
                rw [hq2] at d29
                refine dg_sub (E' := [(65, v18), (66, (.int .i64 x1.next))]) ⟨(congrArg some hq2), (congrArg some d30), trivial⟩ ?_
                refine dg_plain rfl (ow_indexSlice (R := RRule) rfl rfl rfl d29 Tryd.underlying86 (Tryd.sizeOf76 _) hx4 fun p7 hp7 => ?_)
                exact ⟨BX.refl _ _, ⟨_, rfl, hp7⟩⟩
              · intro w29 D hS22 hd22
                have hl29 := Le.no M2 hS22
                have hC29 := hC25.no hS22
                have ho27 := ho23.no hS22
                have hr51 := ho22.no hS22
                have hr52 := hr44.no hS22
                have hd22 : PA RRule M2 x4 (D 2) w29 ∧ True := hd22
                obtain ⟨d31, -⟩ := hd22
                obtain ⟨p8, e2, ha2⟩ := d31
                refine dg_sub (E' := [(67, (.pointer (some p8)))]) ⟨(congrArg some e2), trivial⟩ ?_
                refine dg_plain rfl (ow_fieldAddr rfl rfl Tryd.underlying76 rfl (Tryd.sizeOf74 _) ?_)
                exact ⟨BX.refl _ _, ⟨_, rfl, (ha2.fld fld_Rule_Tests)⟩⟩
              · intro w30 D hS23 hd23
                have hl30 := Le.no M2 hS23
                have hC30 := hC25.no hS23
                have ho28 := ho23.no hS23
                have hr53 := ho22.no hS23
                have hr54 := hr44.no hS23
                have hd23 : PA (RSlice RTest) M2 x4.Tests (D 3) w30 ∧ True := hd23
                obtain ⟨d32, -⟩ := hd23
                obtain ⟨p9, e3, ha3⟩ := d32
                refine dg_sub (E' := [(68, (.pointer (some p9)))]) ⟨(congrArg some e3), trivial⟩ ?_
                refine dg_plain rfl (ow_load (R := (RSlice RTest)) rfl rfl ha3 (Tryd.sizeOf74 _) (Tryd.isAgg74 _) fun v19 hv19 => ?_)
                exact ⟨BX.refl _ _, hv19⟩
              · intro w31 D hS24 hd24
                have hl31 := Le.no M2 hS24
                have hC31 := hC25.no hS24
                have ho29 := ho23.no hS24
                have hr55 := ho22.no hS24
                have hr56 := hr44.no hS24
                refine dg_sub (E' := [(3, (.pointer (some p2)))]) ⟨rfl, trivial⟩ ?_
                refine dg_plain rfl (ow_load (R := RPacket) rfl rfl (ARep.mono ((((((hl3.trans hl4).trans hl5).trans hl16).trans hl23).trans hl25).trans hl31) hp2) (Tryd.sizeOf39 _) (Tryd.isAgg39 _) fun v20 hv20 => ?_)
                exact ⟨BX.refl _ _, hv20⟩
              · intro w32 D hS25 hd25
                have hl32 := Le.no M2 hS25
                have hC32 := hC25.no hS25
                have ho30 := ho23.no hS25
                have hr57 := ho22.no hS25
                have hr58 := hr44.no hS25
                have hd25 : PV (RSlice RRule) M2 x2 (D 0) w32 ∧ PEq (.int .i64 x1.next) (D 1) w32 ∧ PA RRule M2 x4 (D 2) w32 ∧ PA (RSlice RTest) M2 x4.Tests (D 3) w32 ∧ PV (RSlice RTest) M2 x4.Tests (D 4) w32 ∧ PV RPacket M2 a_p (D 5) w32 ∧ True := hd25
                obtain ⟨-, -, -, -, d37, d38, -⟩ := hd25
                obtain ⟨v21, hq3⟩ : ∃ v, (D 4) = v := ⟨_, rfl⟩
                rw [hq3] at d37
                obtain ⟨v22, hq4⟩ : ∃ v, (D 5) = v := ⟨_, rfl⟩
                rw [hq4] at d38
                refine lw_sub (E' := [(69, v21), (70, v22), (2, (.pointer (some p1))), (3, (.pointer (some p2))), (5, (.pointer (some ⟨g1, 0, none⟩))), (6, (.pointer (some ⟨blk v1, ((W ((y1.length : Int) - 1)) : Int).toNat * RPlace.size + 0, none⟩))), (7, v9), (8, (.int .i64 x1.next))]) ⟨(congrArg some hq3), (congrArg some hq4), rfl, rfl, rfl, rfl, rfl, rfl, trivial⟩ ?_
                replace hb5 := bind_some hb5
                obtain ⟨x5, hx5, hb5⟩ := hb5
                refine lw_op rfl rfl rfl (ow_call rfl rfl Tryd.call100 (w_impl_allHold (hG.mono ((((((((hl1.trans hl2).trans hl3).trans hl4).trans hl5).trans hl16).trans hl23).trans hl25).trans hl32)) hC32.old d37 d38 hx5) fun v23 w33 hv23 => ?_)
                obtain ⟨hv23, hb9⟩ := hv23
                have hl33 := Le.no M2 hb9
                have hC33 := hC32.no hb9
                have ho31 := ho30.no hb9
                have hr59 := hr57.no hb9
                have hr60 := hr58.no hb9
                obtain rfl := vbool_eq hv23
                refine lw_op rfl rfl rfl (ow_not rfl rfl ?_)
                refine lw_nil ?_
                refine ew_then ?_
                replace hb5 := cond_some hb5
                rcases hb5 with ⟨hc4, hb5⟩ | ⟨hc4, hb5⟩
                · subst hc4
                  refine cw_false rfl ?_
                  refine cw_skip ?_
                  refine ew_then ?_
                  refine cw_seq ?_
                  refine cw_seq ?_
                  refine cw_region ?_
                  refine lw_op rfl rfl rfl (ow_move rfl rfl ?_)
                  refine lw_op rfl rfl rfl (ow_nilCheck rfl rfl ?_)
                  refine lw_op rfl rfl rfl (ow_fieldAddr rfl rfl Tryd.underlying130 rfl (Tryd.sizeOf123 _) ?_)
                  refine lw_op rfl rfl rfl (ow_loadOwn1 rfl rfl rfl ho31 (Tryd.isAgg123 _) rfl ?_)
                  refine lw_op rfl rfl rfl (ow_lenOwn rfl rfl hr60 Tryd.underlying123 ?_)
                  refine lw_op rfl rfl rfl (ow_lss rfl rfl rfl fun bb4 hbb4 => ?_)
                  refine lw_nil ?_
                  refine ew_then ?_
                  replace hb5 := cond_some hb5
                  rcases hb5 with ⟨hc5, hb5⟩ | ⟨hc5, hb5⟩
                  · obtain rfl := hbb4.trans hc5
                    refine cw_true rfl ?_
                    replace hb5 := bind_some hb5
                    obtain ⟨x6, hx6, hb5⟩ := hb5
                    replace hb5 := bind_some hb5
                    obtain ⟨z1, hz1, hb5⟩ := hb5
                    refine cw_sub (E' := [(2, (.pointer (some p1))), (3, (.pointer (some p2))), (5, (.pointer (some ⟨g1, 0, none⟩))), (6, (.pointer (some ⟨blk v1, ((W ((y1.length : Int) - 1)) : Int).toNat * RPlace.size + 0, none⟩))), (7, v9), (8, (.int .i64 x1.next))]) ⟨rfl, rfl, rfl, rfl, rfl, rfl, trivial⟩ ?_
                    refine cw_drawR 13 [none, none, none, none, none, none, none, none, none, none, none, none, some 0] [PEq (.pointer (some ⟨g1, 0, none⟩)), PEq (.pointer (some ⟨g1, 0, none⟩)), PEq (.pointer (some ⟨g1, 0, none⟩)), PEq (.pointer (some ⟨g1, 1, none⟩)), PEq v2, PEq (.pointer (some ⟨blk v1, ((W ((y1.length : Int) - 1)) : Int).toNat * RPlace.size + 0, none⟩)), PEq (.pointer (some ⟨blk v1, ((W ((y1.length : Int) - 1)) : Int).toNat * RPlace.size + 0, none⟩)), PEq (.pointer (some ⟨blk v1, ((W ((y1.length : Int) - 1)) : Int).toNat * RPlace.size + 0, none⟩)), PEq (.int .i64 x6.chain), PEq (.int .i64 x1.next), PV RVisit M2 ({ Chain := x6.chain, Place := x1.next } : Visit), PV (RSlice RVisit) M2 [({ Chain := x6.chain, Place := x1.next } : Visit)], PApp RVisit w.heap.size 171 No w M w33 M2 v2 z1] (by kernel_rfl) rfl (by kernel_rfl) (by kernel_rfl) hr60 ⟨(PEq.monoR _), (PEq.monoR _), (PEq.monoR _), (PEq.monoR _), (PEq.monoR _), (PEq.monoR _), (PEq.monoR _), (PEq.monoR _), (PEq.monoR _), (PEq.monoR _), (PV.monoR hr60.mem _ _), (PV.monoR hr60.mem _ _), PApp.mono _ _ _ _ _ _ _ _ _ _, trivial⟩ ⟨?_, ?_, ?_, ?_, ?_, ?_, ?_, ?_, ?_, ?_, ?_, ?_, ?_, trivial⟩ ?_
                    · intro w36 D hS26 hd26
                      have hl36 := leR hr60 hS26
                      have hC36 := hC33.go hS26 (fun b e => .inl (hr60.block e).1)
                      have ho34 := ho31.go hS26 (fun e => (orow_ne hr60 ho31 (by decide)) e)
                      have hr65 := hr59.go hS26 (fun _ hk hu => orow_row_ne hr59 hr60 (by decide) hk hu) hl36 (fun _ h => h)
                      refine dg_sub (E' := [(5, (.pointer (some ⟨g1, 0, none⟩)))]) ⟨rfl, trivial⟩ ?_
                      refine dg_plain rfl (ow_move rfl rfl ?_)
                      exact ⟨BX.refl _ _, rfl⟩
                    · intro w37 D hS27 hd27
                      have hl37 := leR hr60 hS27
                      have hC37 := hC33.go hS27 (fun b e => .inl (hr60.block e).1)
                      have ho35 := ho31.go hS27 (fun e => (orow_ne hr60 ho31 (by decide)) e)
                      have hr66 := hr59.go hS27 (fun _ hk hu => orow_row_ne hr59 hr60 (by decide) hk hu) hl37 (fun _ h => h)
                      refine dg_sub (E' := [(5, (.pointer (some ⟨g1, 0, none⟩)))]) ⟨rfl, trivial⟩ ?_
                      refine dg_plain rfl (ow_move rfl rfl ?_)
                      exact ⟨BX.refl _ _, rfl⟩
                    · intro w38 D hS28 hd28
                      have hl38 := leR hr60 hS28
                      have hC38 := hC33.go hS28 (fun b e => .inl (hr60.block e).1)
                      have ho36 := ho31.go hS28 (fun e => (orow_ne hr60 ho31 (by decide)) e)
                      have hr67 := hr59.go hS28 (fun _ hk hu => orow_row_ne hr59 hr60 (by decide) hk hu) hl38 (fun _ h => h)
                      have hd28 : PEq (.pointer (some ⟨g1, 0, none⟩)) (D 1) w38 ∧ True := hd28
                      obtain ⟨d39, -⟩ := hd28
                      refine dg_sub (E' := [(80, (.pointer (some ⟨g1, 0, none⟩)))]) ⟨(congrArg some d39), trivial⟩ ?_
                      refine dg_plain rfl (ow_nilCheck rfl rfl ?_)
                      exact ⟨BX.refl _ _, rfl⟩
                    · intro w39 D hS29 hd29
                      have hl39 := leR hr60 hS29
                      have hC39 := hC33.go hS29 (fun b e => .inl (hr60.block e).1)
                      have ho37 := ho31.go hS29 (fun e => (orow_ne hr60 ho31 (by decide)) e)
                      have hr68 := hr59.go hS29 (fun _ hk hu => orow_row_ne hr59 hr60 (by decide) hk hu) hl39 (fun _ h => h)
                      have hd29 : PEq (.pointer (some ⟨g1, 0, none⟩)) (D 2) w39 ∧ True := hd29
                      obtain ⟨d40, -⟩ := hd29
                      refine dg_sub (E' := [(81, (.pointer (some ⟨g1, 0, none⟩)))]) ⟨(congrArg some d40), trivial⟩ ?_
                      refine dg_plain rfl (ow_fieldAddr rfl rfl Tryd.underlying130 rfl (Tryd.sizeOf123 _) ?_)
                      exact ⟨BX.refl _ _, rfl⟩
                    · intro w40 D hS30 hd30
                      have hl40 := leR hr60 hS30
                      have hC40 := hC33.go hS30 (fun b e => .inl (hr60.block e).1)
                      have ho38 := ho31.go hS30 (fun e => (orow_ne hr60 ho31 (by decide)) e)
                      have hr69 := hr59.go hS30 (fun _ hk hu => orow_row_ne hr59 hr60 (by decide) hk hu) hl40 (fun _ h => h)
                      have hd30 : PEq (.pointer (some ⟨g1, 1, none⟩)) (D 3) w40 ∧ True := hd30
                      obtain ⟨d41, -⟩ := hd30
                      refine dg_sub (E' := [(82, (.pointer (some ⟨g1, 1, none⟩)))]) ⟨(congrArg some d41), trivial⟩ ?_
                      refine dg_plain rfl (ow_loadOwn1 rfl rfl rfl ho38 (Tryd.isAgg123 _) rfl ?_)
                      exact ⟨BX.refl _ _, rfl⟩
                    · intro w41 D hS31 hd31
                      have hl41 := leR hr60 hS31
                      have hC41 := hC33.go hS31 (fun b e => .inl (hr60.block e).1)
                      have ho39 := ho31.go hS31 (fun e => (orow_ne hr60 ho31 (by decide)) e)
                      have hr70 := hr59.go hS31 (fun _ hk hu => orow_row_ne hr59 hr60 (by decide) hk hu) hl41 (fun _ h => h)
                      refine dg_sub (E' := [(6, (.pointer (some ⟨blk v1, ((W ((y1.length : Int) - 1)) : Int).toNat * RPlace.size + 0, none⟩)))]) ⟨rfl, trivial⟩ ?_
                      refine dg_plain rfl (ow_move rfl rfl ?_)
                      exact ⟨BX.refl _ _, rfl⟩
                    · intro w42 D hS32 hd32
                      have hl42 := leR hr60 hS32
                      have hC42 := hC33.go hS32 (fun b e => .inl (hr60.block e).1)
                      have ho40 := ho31.go hS32 (fun e => (orow_ne hr60 ho31 (by decide)) e)
                      have hr71 := hr59.go hS32 (fun _ hk hu => orow_row_ne hr59 hr60 (by decide) hk hu) hl42 (fun _ h => h)
                      have hd32 : PEq (.pointer (some ⟨blk v1, ((W ((y1.length : Int) - 1)) : Int).toNat * RPlace.size + 0, none⟩)) (D 5) w42 ∧ True := hd32
                      obtain ⟨d42, -⟩ := hd32
                      refine dg_sub (E' := [(84, (.pointer (some ⟨blk v1, ((W ((y1.length : Int) - 1)) : Int).toNat * RPlace.size + 0, none⟩)))]) ⟨(congrArg some d42), trivial⟩ ?_
                      refine dg_plain rfl (ow_nilCheck rfl rfl ?_)
                      exact ⟨BX.refl _ _, rfl⟩
                    · intro w43 D hS33 hd33
                      have hl43 := leR hr60 hS33
                      have hC43 := hC33.go hS33 (fun b e => .inl (hr60.block e).1)
                      have ho41 := ho31.go hS33 (fun e => (orow_ne hr60 ho31 (by decide)) e)
                      have hr72 := hr59.go hS33 (fun _ hk hu => orow_row_ne hr59 hr60 (by decide) hk hu) hl43 (fun _ h => h)
                      have hd33 : PEq (.pointer (some ⟨blk v1, ((W ((y1.length : Int) - 1)) : Int).toNat * RPlace.size + 0, none⟩)) (D 6) w43 ∧ True := hd33
                      obtain ⟨d43, -⟩ := hd33
                      refine dg_sub (E' := [(85, (.pointer (some ⟨blk v1, ((W ((y1.length : Int) - 1)) : Int).toNat * RPlace.size + 0, none⟩)))]) ⟨(congrArg some d43), trivial⟩ ?_
                      refine dg_plain rfl (ow_fieldAddr rfl rfl Tryd.underlying173 rfl (Tryd.sizeOf3 _) ?_)
                      exact ⟨BX.refl _ _, rfl⟩
                    · intro w44 D hS34 hd34
                      have hl44 := leR hr60 hS34
                      have hC44 := hC33.go hS34 (fun b e => .inl (hr60.block e).1)
                      have ho42 := ho31.go hS34 (fun e => (orow_ne hr60 ho31 (by decide)) e)
                      have hr73 := hr59.go hS34 (fun _ hk hu => orow_row_ne hr59 hr60 (by decide) hk hu) hl44 (fun _ h => h)
                      have hd34 : PEq (.pointer (some ⟨blk v1, ((W ((y1.length : Int) - 1)) : Int).toNat * RPlace.size + 0, none⟩)) (D 7) w44 ∧ True := hd34
                      obtain ⟨d44, -⟩ := hd34
                      refine dg_sub (E' := [(86, (.pointer (some ⟨blk v1, ((W ((y1.length : Int) - 1)) : Int).toNat * RPlace.size + 0, none⟩)))]) ⟨(congrArg some d44), trivial⟩ ?_
                      refine dg_plain rfl (ow_loadElRow (R := RPlace) (S := RInt) rfl rfl rfl hr73 (orow_blk hr73 hx6) hx6 fld_Place_chain (Tryd.sizeOf3 _) (Tryd.isAgg3 _) fun v26 hv26 => ?_)
                      obtain rfl := vint_eq hv26
                      exact ⟨BX.refl _ _, rfl⟩
                    · intro w45 D hS35 hd35
                      have hl45 := leR hr60 hS35
                      have hC45 := hC33.go hS35 (fun b e => .inl (hr60.block e).1)
                      have ho43 := ho31.go hS35 (fun e => (orow_ne hr60 ho31 (by decide)) e)
                      have hr74 := hr59.go hS35 (fun _ hk hu => orow_row_ne hr59 hr60 (by decide) hk hu) hl45 (fun _ h => h)
                      refine dg_sub (E' := [(8, (.int .i64 x1.next))]) ⟨rfl, trivial⟩ ?_
                      refine dg_plain rfl (ow_move rfl rfl ?_)
                      exact ⟨BX.refl _ _, rfl⟩
                    · intro w46 D hS36 hd36
                      have hl46 := leR hr60 hS36
                      have hC46 := hC33.go hS36 (fun b e => .inl (hr60.block e).1)
                      have ho44 := ho31.go hS36 (fun e => (orow_ne hr60 ho31 (by decide)) e)
                      have hr75 := hr59.go hS36 (fun _ hk hu => orow_row_ne hr59 hr60 (by decide) hk hu) hl46 (fun _ h => h)
                      have hd36 : PEq (.int .i64 x6.chain) (D 8) w46 ∧ PEq (.int .i64 x1.next) (D 9) w46 ∧ True := hd36
                      obtain ⟨d45, d46, -⟩ := hd36
                      refine dg_sub (E' := [(87, (.int .i64 x6.chain)), (88, (.int .i64 x1.next))]) ⟨(congrArg some d45), (congrArg some d46), trivial⟩ ?_
                      refine dg_plain rfl (ow_build (v := .agg #[(.int .i64 x6.chain), (.int .i64 x1.next)]) rfl rfl (by kernel_rfl) ?_)
                      have hw7 : VRep RVisit w46 M2 ({ Chain := x6.chain, Place := x1.next } : Visit) (.agg #[(.int .i64 x6.chain), (.int .i64 x1.next)]) := shut_Visit
                      exact ⟨BX.refl _ _, hw7⟩
                    · intro w47 D hS37 hd37
                      have hl47 := leR hr60 hS37
                      have hC47 := hC33.go hS37 (fun b e => .inl (hr60.block e).1)
                      have ho45 := ho31.go hS37 (fun e => (orow_ne hr60 ho31 (by decide)) e)
                      have hr76 := hr59.go hS37 (fun _ hk hu => orow_row_ne hr59 hr60 (by decide) hk hu) hl47 (fun _ h => h)
                      have hd37 : PV RVisit M2 ({ Chain := x6.chain, Place := x1.next } : Visit) (D 10) w47 ∧ True := hd37
                      obtain ⟨d47, -⟩ := hd37
                      obtain ⟨v27, hq5⟩ : ∃ v, (D 10) = v := ⟨_, rfl⟩
                      rw [hq5] at d47
                      refine dg_sub (E' := [(89, v27)]) ⟨(congrArg some hq5), trivial⟩ ?_
                      obtain rfl := open_Visit d47
                      refine dg_plain rfl (ow_buildSlice (R := RVisit) (xs := [({ Chain := x6.chain, Place := x1.next } : Visit)]) (cs := #[(.int .i64 ({ Chain := x6.chain, Place := x1.next } : Visit).Chain), (.int .i64 ({ Chain := x6.chain, Place := x1.next } : Visit).Place)]) (e := 171) rfl rfl (by kernel_rfl) rfl rfl ⟨_, _, rfl, d47.cells, rfl⟩ hC47 fun p11 w48 hw8 hb12 hl48 hC48 => ?_)
                      have ho46 := ho45.no hb12
                      have hr77 := hr76.no hb12
                      exact ⟨hb12, hw8⟩
                    · intro w49 D hS38 hd38
                      obtain ⟨hS38, ho47⟩ := hS38
                      have ho47 := ho47 rfl
                      have hl49 := leR hr60 hS38
                      have hC49 := hC33.go hS38 (fun b e => .inl (hr60.block e).1)
                      have ho48 := ho31.go hS38 (fun e => (orow_ne hr60 ho31 (by decide)) e)
                      have hr78 := hr59.go hS38 (fun _ hk hu => orow_row_ne hr59 hr60 (by decide) hk hu) hl49 (fun _ h => h)
                      have hd38 : PEq v2 (D 4) w49 ∧ PV (RSlice RVisit) M2 [({ Chain := x6.chain, Place := x1.next } : Visit)] (D 11) w49 ∧ True := hd38
                      obtain ⟨d48, d49, -⟩ := hd38
                      obtain ⟨v28, hq6⟩ : ∃ v, (D 11) = v := ⟨_, rfl⟩
                      rw [hq6] at d49
                      refine dg_sub (E' := [(83, v2), (90, v28)]) ⟨(congrArg some d48), (congrArg some hq6), trivial⟩ ?_
                      refine dg_plain rfl (ow_append (R := RVisit) rfl rfl rfl rfl Tryd.underlying123 hi171 hz171 hs171 hy171 rfl rfl rfl rfl ho47 d49 hz1 hC49 fun v29 w50 M5 hr79 hb13 hl50 hC50 hM3 hat3 => ?_)
                      have ho49 := ho48.go hb13 (fun e => (orow_ne ho47 ho48 (by decide)) e)
                      have hm5 := hM3 _ hm2
                      have hr80 := hr78.goRow ho47 hb13 hl50 hM3 (by decide)
                      exact ⟨⟨⟨hS38.trans hb13, fun h => absurd h (by decide)⟩, hb13⟩, M5, hr79, hS38.trans hb13, hl49.trans hl50, hC50, hM3, fun b e => hat3.elim (fun h => .inl (h ▸ e)) (fun h => .inr (by rw [h] at e; rw [← Option.some.inj e]; exact hS38.size))⟩
                    · intro w51 D hS39 hd39
                      have hd39 : PEq (.pointer (some ⟨g1, 0, none⟩)) (D 0) w51 ∧ PEq (.pointer (some ⟨g1, 0, none⟩)) (D 1) w51 ∧ PEq (.pointer (some ⟨g1, 0, none⟩)) (D 2) w51 ∧ PEq (.pointer (some ⟨g1, 1, none⟩)) (D 3) w51 ∧ PEq v2 (D 4) w51 ∧ PEq (.pointer (some ⟨blk v1, ((W ((y1.length : Int) - 1)) : Int).toNat * RPlace.size + 0, none⟩)) (D 5) w51 ∧ PEq (.pointer (some ⟨blk v1, ((W ((y1.length : Int) - 1)) : Int).toNat * RPlace.size + 0, none⟩)) (D 6) w51 ∧ PEq (.pointer (some ⟨blk v1, ((W ((y1.length : Int) - 1)) : Int).toNat * RPlace.size + 0, none⟩)) (D 7) w51 ∧ PEq (.int .i64 x6.chain) (D 8) w51 ∧ PEq (.int .i64 x1.next) (D 9) w51 ∧ PV RVisit M2 ({ Chain := x6.chain, Place := x1.next } : Visit) (D 10) w51 ∧ PV (RSlice RVisit) M2 [({ Chain := x6.chain, Place := x1.next } : Visit)] (D 11) w51 ∧ PApp RVisit w.heap.size 171 No w M w33 M2 v2 z1 (D 12) w51 ∧ True := hd39
                      obtain ⟨d50, -, -, -, -, -, -, -, -, -, -, -, d62, -⟩ := hd39
                      obtain ⟨M6, hr81, hb14, hl51, hC51, hM4, hat4⟩ := d62
                      obtain ⟨v30, hq7⟩ : ∃ v, (D 12) = v := ⟨_, rfl⟩
                      rw [hq7] at hr81 hat4
                      have ho50 := ho31.go hb14 (fun e => (orow_ne hr60 ho31 (by decide)) e)
                      have hm6 := hM4 _ hm2
                      have hr82 := hr59.go hb14 (fun _ hk hu => orow_row_ne hr59 hr60 (by decide) hk hu) hl51 hM4
                      refine lw_sub (E' := [(91, v30), (79, (.pointer (some ⟨g1, 0, none⟩))), (2, (.pointer (some p1))), (3, (.pointer (some p2))), (5, (.pointer (some ⟨g1, 0, none⟩))), (6, (.pointer (some ⟨blk v1, ((W ((y1.length : Int) - 1)) : Int).toNat * RPlace.size + 0, none⟩))), (7, v9), (8, (.int .i64 x1.next))]) ⟨(congrArg some hq7), (congrArg some d50), rfl, rfl, rfl, rfl, rfl, rfl, trivial⟩ ?_
                      refine lw_op rfl rfl rfl (ow_nilCheck rfl rfl ?_)
                      refine lw_op rfl rfl rfl (ow_fieldAddr rfl rfl Tryd.underlying130 rfl (Tryd.sizeOf123 _) ?_)
                      obtain ⟨A1, c1, rfl⟩ := hr81.len
                      refine lw_op0 rfl rfl (ow_store (X := No) (us := [(.slice A1 z1.length c1)]) (cs' := #[v1, (.slice A1 z1.length c1), (.int .i64 k1)]) rfl rfl rfl rfl ho50 (Tryd.sizeOf123 _) rfl rfl rfl rfl hm6 (.inl hg2) rfl hC51 fun w52 ho51 hb15 hl52 hC52 => ?_)
                      have hr83 := hr82.go hb15 (fun k hk e => (orow_ne hr82 ho50 (by decide)) (hk.trans (congrArg some e))) hl52 (fun _ h => h)
                      have hr84 := hr81.go hb15 (fun k hk e => (orow_ne hr81 ho50 (by decide)) (hk.trans (congrArg some e))) hl52 (fun _ h => h)
                      refine lw_nil ?_
                      refine ew_then ?_
                      refine cw_region ?_
                      refine lw_op rfl rfl rfl (ow_move rfl rfl ?_)
                      refine lw_op rfl rfl rfl (ow_move rfl rfl ?_)
                      refine lw_op rfl rfl rfl (ow_indexSlice (R := RRule) rfl rfl rfl (VRep.mono ((((hl25.trans hl32).trans hl33).trans hl51).trans hl52) hv9) Tryd.underlying86 (Tryd.sizeOf76 _) hx4 fun p12 hp12 => ?_)
                      refine lw_op rfl rfl rfl (ow_load (R := RRule) rfl rfl hp12 (Tryd.sizeOf76 _) (Tryd.isAgg76 _) fun v31 hv31 => ?_)
                      replace hb5 := bind_some hb5
                      obtain ⟨x7, hx7, hb5⟩ := hb5
                      refine lw_op rfl rfl rfl (ow_call rfl rfl Tryd.call134 (w_impl_actionOf (hG.mono (((((((((((hl1.trans hl2).trans hl3).trans hl4).trans hl5).trans hl16).trans hl23).trans hl25).trans hl32).trans hl33).trans hl51).trans hl52)) hC52.old hv31 hx7) fun v32 w53 hv32 => ?_)
                      obtain ⟨rfl, hb16⟩ := hv32
                      have hl53 := Le.no M6 hb16
                      have hC53 := hC52.no hb16
                      have ho52 := ho51.no hb16
                      have hr85 := hr83.no hb16
                      have hr86 := hr84.no hb16
                      refine lw_op rfl rfl rfl (ow_move rfl rfl ?_)
                      replace hb5 := bind_some hb5
                      obtain ⟨x8, hx8, hb5⟩ := hb5
                      obtain ⟨mf1, mu1, hm7, hcl1⟩ := inv_walk (hG.mono ((((((((((((hl1.trans hl2).trans hl3).trans hl4).trans hl5).trans hl16).trans hl23).trans hl25).trans hl32).trans hl33).trans hl51).trans hl52).trans hl53)) hC53.old (hr85.base (Nat.zero_le _)) (hr86.base (Nat.zero_le _)) ho52 hm6 hx8
                      refine lw_op rfl rfl rfl (ow_invoke rfl rfl rfl hm7 hcl1 fun v33 w54 hv1 => ?_)
                      obtain ⟨hw9, M7, v34, v35, ho53, hr87, hr88, hk2, hge3, hge4⟩ := hv1
                      have hY2 : ∀ b, (fun b => b = g1 ∨ (Value.ownBlock v1) = some b ∨ (Value.ownBlock (.slice A1 z1.length c1)) = some b) b → w.heap.size ≤ b ∨ No b := fun b e => (e.elim (fun e => by rw [show b = g1 from e]; exact (.inl hg2)) (fun e => (e.elim (fun e => (fun b e => .inl (hr85.block e).1) b e) (fun e => ((fun b e => .inl (hr86.block e).1) b e)))))
                      have hl54 := hk2.leY (fun b e => (e.elim (fun e => by rw [show b = g1 from e]; exact hm6) (fun e => (e.elim (fun e => hr85.mem b e) (fun e => (hr86.mem b e))))))
                      have hC54 := hC53.trans2 hk2 hY2
                      have hb17 := hk2.bx
                      have hr89 := hr87.raise (B' := w.heap.size) (fun b e => (hge3 b e).elim (fun h => Nat.le_trans hC53.bx.size h) (fun e => (e.elim (fun e => by rw [show b = g1 from e]; exact hg2) (fun e => (e.elim (fun e => (hr85.block e).1) (fun e => ((hr86.block e).1)))))))
                      have hr90 := hr88.raise (B' := w.heap.size) (fun b e => (hge4 b e).elim (fun h => Nat.le_trans hC53.bx.size h) (fun e => (e.elim (fun e => by rw [show b = g1 from e]; exact hg2) (fun e => (e.elim (fun e => (hr85.block e).1) (fun e => ((hr86.block e).1)))))))
                      have hm8 := hk2.sup _ hm6
                      subst hw9
                      refine lw_nil ?_
                      refine ew_blockN ?_
                      refine ew_nxt (x8.1, x8.2.1, x8.2.2) hb5 fun a ha => ⟨M7, v34, v35, ?_, (((((((((hl5.trans hl16).trans hl23).trans hl25).trans hl32).trans hl33).trans hl51).trans hl52).trans hl53).trans hl54), hC54, hr89, hr90, ho53, hm8⟩
                      exact ha.sub ⟨rfl, rfl, rfl, trivial⟩
                  · obtain rfl := hbb4.trans hc5
                    refine cw_false rfl ?_
                    refine cw_skip ?_
                    refine ew_then ?_
                    refine cw_region ?_
                    refine lw_op rfl rfl rfl (ow_move rfl rfl ?_)
                    refine lw_op rfl rfl rfl (ow_move rfl rfl ?_)
                    refine lw_op rfl rfl rfl (ow_indexSlice (R := RRule) rfl rfl rfl (VRep.mono ((hl25.trans hl32).trans hl33) hv9) Tryd.underlying86 (Tryd.sizeOf76 _) hx4 fun p13 hp13 => ?_)
                    refine lw_op rfl rfl rfl (ow_load (R := RRule) rfl rfl hp13 (Tryd.sizeOf76 _) (Tryd.isAgg76 _) fun v36 hv36 => ?_)
                    replace hb5 := bind_some hb5
                    obtain ⟨x9, hx9, hb5⟩ := hb5
                    refine lw_op rfl rfl rfl (ow_call rfl rfl Tryd.call134 (w_impl_actionOf (hG.mono (((((((((hl1.trans hl2).trans hl3).trans hl4).trans hl5).trans hl16).trans hl23).trans hl25).trans hl32).trans hl33)) hC33.old hv36 hx9) fun v37 w55 hv37 => ?_)
                    obtain ⟨rfl, hb18⟩ := hv37
                    have hl55 := Le.no M2 hb18
                    have hC55 := hC33.no hb18
                    have ho54 := ho31.no hb18
                    have hr91 := hr59.no hb18
                    have hr92 := hr60.no hb18
                    refine lw_op rfl rfl rfl (ow_move rfl rfl ?_)
                    replace hb5 := bind_some hb5
                    obtain ⟨x10, hx10, hb5⟩ := hb5
                    obtain ⟨mf2, mu2, hm9, hcl2⟩ := inv_walk (hG.mono ((((((((((hl1.trans hl2).trans hl3).trans hl4).trans hl5).trans hl16).trans hl23).trans hl25).trans hl32).trans hl33).trans hl55)) hC55.old (hr91.base (Nat.zero_le _)) (hr92.base (Nat.zero_le _)) ho54 hm2 hx10
                    refine lw_op rfl rfl rfl (ow_invoke rfl rfl rfl hm9 hcl2 fun v38 w56 hv2 => ?_)
                    obtain ⟨hw10, M8, v39, v40, ho55, hr93, hr94, hk3, hge5, hge6⟩ := hv2
                    have hY3 : ∀ b, (fun b => b = g1 ∨ (Value.ownBlock v1) = some b ∨ (Value.ownBlock v2) = some b) b → w.heap.size ≤ b ∨ No b := fun b e => (e.elim (fun e => by rw [show b = g1 from e]; exact (.inl hg2)) (fun e => (e.elim (fun e => (fun b e => .inl (hr91.block e).1) b e) (fun e => ((fun b e => .inl (hr92.block e).1) b e)))))
                    have hl56 := hk3.leY (fun b e => (e.elim (fun e => by rw [show b = g1 from e]; exact hm2) (fun e => (e.elim (fun e => hr91.mem b e) (fun e => (hr92.mem b e))))))
                    have hC56 := hC55.trans2 hk3 hY3
                    have hb19 := hk3.bx
                    have hr95 := hr93.raise (B' := w.heap.size) (fun b e => (hge5 b e).elim (fun h => Nat.le_trans hC55.bx.size h) (fun e => (e.elim (fun e => by rw [show b = g1 from e]; exact hg2) (fun e => (e.elim (fun e => (hr91.block e).1) (fun e => ((hr92.block e).1)))))))
                    have hr96 := hr94.raise (B' := w.heap.size) (fun b e => (hge6 b e).elim (fun h => Nat.le_trans hC55.bx.size h) (fun e => (e.elim (fun e => by rw [show b = g1 from e]; exact hg2) (fun e => (e.elim (fun e => (hr91.block e).1) (fun e => ((hr92.block e).1)))))))
                    have hm10 := hk3.sup _ hm2
                    subst hw10
                    refine lw_nil ?_
                    refine ew_blockN ?_
                    refine ew_nxt (x10.1, x10.2.1, x10.2.2) hb5 fun a ha => ⟨M8, v39, v40, ?_, (((((((hl5.trans hl16).trans hl23).trans hl25).trans hl32).trans hl33).trans hl55).trans hl56), hC56, hr95, hr96, ho55, hm10⟩
                    exact ha.sub ⟨rfl, rfl, rfl, trivial⟩
                · subst hc4
                  refine cw_true rfl ?_
                  refine cw_exit ?_
                  refine ew_thenX ?_
                  refine ew_blockX ?_
                  refine ew_nxt ((List.set y1 ((W ((y1.length : Int) - 1)) : Int).toNat { x1 with next := (W (x1.next + 1)) }), y2, k1) hb5 fun a ha => ⟨M2, v1, v2, ?_, (((((hl5.trans hl16).trans hl23).trans hl25).trans hl32).trans hl33), hC33, hr59, hr60, ho31, hm2⟩
                  exact ha.sub ⟨rfl, rfl, rfl, trivial⟩
      · obtain rfl := hbb2.trans hc2
        refine cw_false rfl ?_
        refine cw_exit ?_
        refine ew_thenX ?_
        refine ew_thenX ?_
        refine ew_blockX ?_
        refine ew_brk (y1, y2, k1) hb5 fun a ha => ⟨M2, v1, v2, ?_, hl5, hC5, hw2, hw3, ho2, hm2⟩
        exact ha.sub ⟨rfl, rfl, rfl, trivial⟩
    · obtain rfl := hbb1.trans hc1
      refine lw_off rfl rfl rfl rfl rfl rfl ?_
      refine lw_off rfl rfl rfl rfl rfl rfl ?_
      refine lw_off rfl rfl rfl rfl rfl rfl ?_
      refine lw_off rfl rfl rfl rfl rfl rfl ?_
      refine lw_off rfl rfl rfl rfl rfl rfl ?_
      refine lw_op rfl rfl rfl (ow_pickF rfl rfl rfl ?_)
      refine lw_nil ?_
      refine ew_then ?_
      refine cw_false rfl ?_
      refine cw_exit ?_
      refine ew_thenX ?_
      refine ew_thenX ?_
      refine ew_blockX ?_
      refine ew_brk (y1, y2, k1) hb5 fun a ha => ⟨M2, v1, v2, ?_, hl5, hC5, hw2, hw3, ho2, hm2⟩
      exact ha.sub ⟨rfl, rfl, rfl, trivial⟩
  · rintro ⟨y3, y4, k2⟩ a w57 hlr2 ⟨M9, v41, v42, hF2, hl57, hC57, hw11, hw12, ho56, hm11⟩
    subst hlr2
    refine ew_at (E := [(2, (.pointer (some p1))), (3, (.pointer (some p2))), (5, (.pointer (some ⟨g1, 0, none⟩)))]) hF2 ?_
    refine ew_then ?_
    refine cw_seq ?_
    refine cw_region ?_
    refine lw_op rfl rfl rfl (ow_move rfl rfl ?_)
    refine lw_op rfl rfl rfl (ow_assign rfl rfl ?_)
    refine lw_nil ?_
    refine ew_then ?_
    refine cw_ret ?_
    have hw13 := hw11.freezeDel
    have hC58 := hw11.cxDel hC57 (fun _ e => e.elim) hO
    have hl58 := Le.del w57 M9 v41
    have hm12 : (Del v41 M9) g1 := ⟨hm11, fun e => (orow_ne hw11 ho56 (by decide)) e⟩
    have hr97 := hw12.goDel hw11 (by decide)
    have hw14 := hr97.freezeDel
    have hC59 := hr97.cxDel hC58 (fun _ e => e.elim) hO
    have hl59 := Le.del w57 (Del v41 M9) v42
    have hm13 : (Del v42 (Del v41 M9)) g1 := ⟨hm12, fun e => (orow_ne hr97 ho56 (by decide)) e⟩
    obtain ⟨A2, c2, rfl, -⟩ := vslice_shape hw13
    obtain ⟨A3, c3, rfl, -⟩ := vslice_shape hw14
    have hw15 : VRep RWalk w57 (Del (.slice A3 y4.length c3) (Del (.slice A2 y3.length c2) M9)) ({ stack := y3, visits := y4, decision := k2 } : Walk) (.agg #[(.slice A2 y3.length c2), (.slice A3 y4.length c3), (.int .i64 k2)]) := shut_Walk (VRep.mono hl59 hw13) hw14
    obtain rfl := Option.some.inj h
    exact ew_ret (res1 rfl (.tmp rfl)) ⟨_, rfl, ⟨_, rfl, Own.arep ho56 (hw15.mono hC59.back).cells (fun h => Nat.lt_irrefl _ (Nat.lt_of_lt_of_le (hO _ h) hg2))⟩, hC59.bx⟩

theorem w_impl_judgeValid {w : World} {M : Nat → Prop} (hG : ARep (RArr 4 RShape) w M shapes ⟨0, 0, none⟩) (hO : ∀ b, M b → b < w.heap.size) {v0p : Value} {a_s : Ruleset} (h0 : VRep RRuleset w M a_s v0p) {v1p : Value} {a_p : Packet} (h1 : VRep RPacket w M a_p v1p) {r : Bool} (h : F.impl_judgeValid a_s a_p = some r) :
    Calls Tryd.prog 93 [v0p, v1p].toArray w fun e w' => ∃ v, e = .returned v ∧ VRep RBool w' M r v ∧ BX No w w' := by
  have hC : Cx No w M w M := Cx.start hO (fun _ e => e.elim)
  refine walk (N := 17) Tryd.func93 rfl Tryd.ntmps93 rfl ?_
  refine cw_seq ?_
  refine cw_region ?_
  refine lw_op rfl rfl rfl (ow_box (R := RRuleset) rfl rfl h0 hC fun p1 w1 hp1 hb1 hl1 hC1 => ?_)
  refine lw_op rfl rfl rfl (ow_box (R := RPacket) rfl rfl (VRep.mono hl1 h1) hC1 fun p2 w2 hp2 hb2 hl2 hC2 => ?_)
  refine lw_op rfl rfl rfl (ow_assign rfl rfl ?_)
  refine lw_nil ?_
  refine ew_then ?_
  refine cw_seq ?_
  refine cw_seq ?_
  refine cw_region ?_
  refine lw_op rfl rfl rfl (ow_load (R := RRuleset) rfl rfl (ARep.mono hl2 hp1) (Tryd.sizeOf57 _) (Tryd.isAgg57 _) fun v1 hv1 => ?_)
  refine lw_op rfl rfl rfl (ow_load (R := RPacket) rfl rfl hp2 (Tryd.sizeOf39 _) (Tryd.isAgg39 _) fun v2 hv2 => ?_)
  replace h := bind_some h
  obtain ⟨x1, hx1, h⟩ := h
  refine lw_op rfl rfl rfl (ow_call rfl rfl Tryd.call92 (w_impl_walkThrough (hG.mono (hl1.trans hl2)) hC2.old hv1 hv2 hx1) fun v3 w3 hv3 => ?_)
  obtain ⟨⟨p3, rfl, hpw1⟩, hb3⟩ := hv3
  have hl3 := Le.no M hb3
  have hC3 := hC2.no hb3
  refine lw_op rfl rfl rfl (ow_nilCheck rfl rfl ?_)
  refine lw_op rfl rfl rfl (ow_fieldAddr rfl rfl Tryd.underlying130 rfl (Tryd.sizeOf3 _) ?_)
  refine lw_op rfl rfl rfl (ow_load (R := RInt) rfl rfl (hpw1.fld fld_Walk_decision) (Tryd.sizeOf3 _) (Tryd.isAgg3 _) fun v4 hv4 => ?_)
  obtain rfl := vint_eq hv4
  refine lw_nil ?_
  refine ew_then ?_
  refine cw_block ?_
  refine cw_seq ?_
  refine cw_region ?_
  refine lw_op rfl rfl rfl (ow_eqlI rfl rfl rfl fun bb1 hbb1 => ?_)
  refine lw_op rfl rfl rfl (ow_assign rfl rfl ?_)
  refine lw_nil ?_
  refine ew_then ?_
  replace h := cond_some h
  rcases h with ⟨hc1, h⟩ | ⟨hc1, h⟩
  · obtain rfl := hbb1.trans hc1
    refine cw_true rfl ?_
    refine cw_seq ?_
    refine cw_region ?_
    refine lw_op rfl rfl rfl (ow_assign rfl rfl ?_)
    refine lw_nil ?_
    refine ew_then ?_
    refine cw_ret ?_
    refine ew_blockR ?_
    refine ew_thenR ?_
    obtain rfl := Option.some.inj h
    exact ew_ret (res1 rfl (.tmp rfl)) ⟨_, rfl, ((vbool _)), hC3.bx⟩
  · obtain rfl := hbb1.trans hc1
    refine cw_false rfl ?_
    refine cw_seq ?_
    refine cw_region ?_
    refine lw_op rfl rfl rfl (ow_eqlI rfl rfl rfl fun bb2 hbb2 => ?_)
    refine lw_op rfl rfl rfl (ow_assign rfl rfl ?_)
    refine lw_nil ?_
    refine ew_then ?_
    replace h := cond_some h
    rcases h with ⟨hc2, h⟩ | ⟨hc2, h⟩
    · obtain rfl := hbb2.trans hc2
      refine cw_true rfl ?_
      refine cw_seq ?_
      refine cw_region ?_
      refine lw_op rfl rfl rfl (ow_assign rfl rfl ?_)
      refine lw_nil ?_
      refine ew_then ?_
      refine cw_ret ?_
      refine ew_blockR ?_
      refine ew_thenR ?_
      obtain rfl := Option.some.inj h
      exact ew_ret (res1 rfl (.tmp rfl)) ⟨_, rfl, ((vbool _)), hC3.bx⟩
    · obtain rfl := hbb2.trans hc2
      refine cw_false rfl ?_
      refine cw_skip ?_
      refine ew_blockN ?_
      refine ew_then ?_
      refine cw_seq ?_
      refine cw_region ?_
      refine lw_op rfl rfl rfl (ow_fieldAddr rfl rfl Tryd.underlying57 rfl (Tryd.sizeOf4 _) ?_)
      refine lw_op rfl rfl rfl (ow_load (R := RBool) rfl rfl (ARep.mono (hl2.trans hl3) (hp1.fld fld_Ruleset_Accept)) (Tryd.sizeOf4 _) (Tryd.isAgg4 _) fun v5 hv5 => ?_)
      obtain ⟨bb3, hbb3, rfl⟩ := vbool_ex hv5
      refine lw_op rfl rfl rfl (ow_assign rfl rfl ?_)
      refine lw_nil ?_
      refine ew_then ?_
      refine cw_ret ?_
      obtain rfl := Option.some.inj h
      exact ew_ret (res1 rfl (.tmp rfl)) ⟨_, rfl, ((vbool_of hbb3)), hC3.bx⟩

theorem w_impl_PacketValid {w : World} {M : Nat → Prop} (hG : ARep (RArr 4 RShape) w M shapes ⟨0, 0, none⟩) (hO : ∀ b, M b → b < w.heap.size) {v0p : Value} {a_p : Packet} (h0 : VRep RPacket w M a_p v0p) {r : Bool} (h : F.impl_PacketValid a_p = some r) :
    Calls Tryd.prog 70 [v0p].toArray w fun e w' => ∃ v, e = .returned v ∧ VRep RBool w' M r v ∧ BX No w w' := by
  have hC : Cx No w M w M := Cx.start hO (fun _ e => e.elim)
  refine walk (N := 20) Tryd.func70 rfl Tryd.ntmps70 rfl ?_
  refine cw_seq ?_
  refine cw_region ?_
  refine lw_op rfl rfl rfl (ow_box (R := RPacket) rfl rfl h0 hC fun p1 w1 hp1 hb1 hl1 hC1 => ?_)
  refine lw_op rfl rfl rfl (ow_assign rfl rfl ?_)
  refine lw_nil ?_
  refine ew_then ?_
  refine cw_seq ?_
  refine cw_seq ?_
  refine cw_region ?_
  refine lw_op rfl rfl rfl (ow_load (R := RPacket) rfl rfl hp1 (Tryd.sizeOf39 _) (Tryd.isAgg39 _) fun v1 hv1 => ?_)
  replace h := bind_some h
  obtain ⟨x1, hx1, h⟩ := h
  refine lw_op rfl rfl rfl (ow_call rfl rfl Tryd.call119 (w_impl_Packet_fields (hG.mono hl1) hC1.old hv1 hx1) fun v2 w2 hv2 => ?_)
  obtain ⟨hv2, hb2⟩ := hv2
  have hl2 := Le.no M hb2
  have hC2 := hC1.no hb2
  refine lw_op rfl rfl rfl (ow_move rfl rfl ?_)
  refine lw_nil ?_
  refine ew_then ?_
  replace h := bind_some h
  obtain ⟨lr1, hlr1, h⟩ := h
  refine cw_for hlr1 (fun s a w' => ∃ (M' : Nat → Prop), Fits 20 [(6, v2), (7, (.int .i64 s))] a ∧ Le w2 M w' M' ∧ Cx No w M w' M') ?_ ?_ ?_
  · intro a ha
    exact ⟨M, ha.sub ⟨rfl, rfl, trivial⟩, Le.refl _ _, hC2⟩
  · rintro k1 a w3 sr1 ⟨M1, hF1, hl3, hC3⟩ hb3 hR1
    refine cw_at (E := [(6, v2), (7, (.int .i64 k1))]) hF1 ?_
    refine cw_seq ?_
    refine cw_region ?_
    refine lw_op rfl rfl rfl (ow_lss rfl rfl rfl fun bb1 hbb1 => ?_)
    refine lw_nil ?_
    refine ew_then ?_
    refine cw_seq ?_
    replace hb3 := cond_some hb3
    rcases hb3 with ⟨hc1, hb3⟩ | ⟨hc1, hb3⟩
    · obtain rfl := hbb1.trans hc1
      refine cw_true rfl ?_
      refine cw_skip ?_
      refine ew_then ?_
      refine cw_seq ?_
      refine cw_block ?_
      refine cw_seq ?_
      refine cw_region ?_
      refine lw_op rfl rfl rfl (ow_move rfl rfl ?_)
      replace hb3 := bind_some hb3
      obtain ⟨x2, hx2, hb3⟩ := hb3
      refine lw_op rfl rfl rfl (ow_index (R := RInt) rfl rfl rfl (VRep.mono hl3 hv2) Tryd.underlying149 (Tryd.sizeOf3 _) (Tryd.isAgg3 _) hx2 fun v4 hv4 => ?_)
      obtain rfl := vint_eq hv4
      refine lw_op rfl rfl rfl (ow_assign rfl rfl ?_)
      refine lw_op rfl rfl rfl (ow_assign rfl rfl ?_)
      refine lw_nil ?_
      refine ew_then ?_
      refine cw_seq ?_
      refine cw_region ?_
      refine lw_op rfl rfl rfl (ow_move rfl rfl ?_)
      refine lw_op rfl rfl rfl (ow_lss rfl rfl rfl fun bb2 hbb2 => ?_)
      refine lw_op rfl rfl rfl (ow_move rfl rfl ?_)
      replace hb3 := cond_some hb3
      rcases hb3 with ⟨hc2, hb3⟩ | ⟨hc2, hb3⟩
      · obtain rfl := hbb2.trans hc2
        refine lw_off rfl rfl rfl rfl rfl rfl ?_
        refine lw_off rfl rfl rfl rfl rfl rfl ?_
        refine lw_off rfl rfl rfl rfl rfl rfl ?_
        refine lw_off rfl rfl rfl rfl rfl rfl ?_
        refine lw_op rfl rfl rfl (ow_pickT rfl rfl rfl ?_)
        refine lw_nil ?_
        refine ew_then ?_
        refine cw_true rfl ?_
        refine cw_seq ?_
        refine cw_region ?_
        refine lw_op rfl rfl rfl (ow_assign rfl rfl ?_)
        refine lw_nil ?_
        refine ew_then ?_
        refine cw_ret ?_
        refine ew_blockR ?_
        refine ew_thenR ?_
        refine ew_thenR ?_
        refine ew_blockR ?_
        refine ew_brkR ?_
        refine ew_thenR ?_
        have e1 := hR1 _ (Option.some.inj hb3).symm
        subst e1
        obtain rfl := Option.some.inj h
        exact ew_ret (res1 rfl (.tmp rfl)) ⟨_, rfl, ((vbool _)), hC3.bx⟩
      · obtain rfl := hbb2.trans hc2
        refine lw_on rfl rfl rfl rfl rfl rfl (ow_move rfl rfl ?_)
        refine lw_on rfl rfl rfl rfl rfl rfl (ow_move rfl rfl ?_)
        replace hb3 := bind_some hb3
        obtain ⟨x3, hx3, hb3⟩ := hb3
        refine lw_on rfl rfl rfl rfl rfl rfl (ow_call rfl rfl Tryd.call107 (w_impl_FieldTop (hG.mono ((hl1.trans hl2).trans hl3)) hC3.old hx3) fun v5 w4 hv5 => ?_)
        obtain ⟨hv5, hb4⟩ := hv5
        have hl4 := Le.no M1 hb4
        have hC4 := hC3.no hb4
        obtain rfl := vint_eq hv5
        refine lw_on rfl rfl rfl rfl rfl rfl (ow_gtr rfl rfl rfl fun bb3 hbb3 => ?_)
        refine lw_op rfl rfl rfl (ow_pickF rfl rfl rfl ?_)
        refine lw_nil ?_
        refine ew_then ?_
        replace hb3 := cond_some hb3
        rcases hb3 with ⟨hc3, hb3⟩ | ⟨hc3, hb3⟩
        · obtain rfl := hbb3.trans hc3
          refine cw_true rfl ?_
          refine cw_seq ?_
          refine cw_region ?_
          refine lw_op rfl rfl rfl (ow_assign rfl rfl ?_)
          refine lw_nil ?_
          refine ew_then ?_
          refine cw_ret ?_
          refine ew_blockR ?_
          refine ew_thenR ?_
          refine ew_thenR ?_
          refine ew_blockR ?_
          refine ew_brkR ?_
          refine ew_thenR ?_
          have e2 := hR1 _ (Option.some.inj hb3).symm
          subst e2
          obtain rfl := Option.some.inj h
          exact ew_ret (res1 rfl (.tmp rfl)) ⟨_, rfl, ((vbool _)), hC4.bx⟩
        · obtain rfl := hbb3.trans hc3
          refine cw_false rfl ?_
          refine cw_skip ?_
          refine ew_blockN ?_
          refine ew_then ?_
          refine cw_region ?_
          refine lw_op rfl rfl rfl (ow_add rfl rfl rfl ?_)
          refine lw_op rfl rfl rfl (ow_move rfl rfl ?_)
          refine lw_nil ?_
          refine ew_nxt (W (k1 + 1)) hb3 fun a ha => ⟨M1, ?_, (hl3.trans hl4), hC4⟩
          exact ha.sub ⟨rfl, rfl, trivial⟩
    · obtain rfl := hbb1.trans hc1
      refine cw_false rfl ?_
      refine cw_exit ?_
      refine ew_thenX ?_
      refine ew_thenX ?_
      refine ew_blockX ?_
      refine ew_brk k1 hb3 fun a ha => ⟨M1, ?_, hl3, hC3⟩
      exact ha.sub ⟨rfl, rfl, trivial⟩
  · rintro k2 a w5 hlr2 ⟨M2, hF2, hl5, hC5⟩
    subst hlr2
    refine ew_at (E := [(6, v2), (7, (.int .i64 k2))]) hF2 ?_
    refine ew_then ?_
    refine cw_seq ?_
    refine cw_region ?_
    refine lw_op rfl rfl rfl (ow_assign rfl rfl ?_)
    refine lw_nil ?_
    refine ew_then ?_
    refine cw_ret ?_
    obtain rfl := Option.some.inj h
    exact ew_ret (res1 rfl (.tmp rfl)) ⟨_, rfl, ((vbool _)), hC5.bx⟩

theorem w_impl_packetsValid {w : World} {M : Nat → Prop} (hG : ARep (RArr 4 RShape) w M shapes ⟨0, 0, none⟩) (hO : ∀ b, M b → b < w.heap.size) {v0p : Value} {a_list : List Packet} (h0 : VRep (RSlice RPacket) w M a_list v0p) {r : Bool} (h : F.impl_packetsValid a_list = some r) :
    Calls Tryd.prog 94 [v0p].toArray w fun e w' => ∃ v, e = .returned v ∧ VRep RBool w' M r v ∧ BX No w w' := by
  have hC : Cx No w M w M := Cx.start hO (fun _ e => e.elim)
  refine walk (N := 18) Tryd.func94 rfl Tryd.ntmps94 rfl ?_
  refine cw_seq ?_
  refine cw_region ?_
  refine lw_op rfl rfl rfl (ow_assign rfl rfl ?_)
  refine lw_nil ?_
  refine ew_then ?_
  refine cw_seq ?_
  refine cw_seq ?_
  refine cw_region ?_
  refine lw_op rfl rfl rfl (ow_move rfl rfl ?_)
  refine lw_op rfl rfl rfl (ow_len rfl rfl h0 Tryd.underlying69 rfl ?_)
  refine lw_op rfl rfl rfl (ow_gtr rfl rfl rfl fun bb1 hbb1 => ?_)
  refine lw_nil ?_
  refine ew_then ?_
  replace h := cond_some h
  rcases h with ⟨hc1, h⟩ | ⟨hc1, h⟩
  · obtain rfl := hbb1.trans hc1
    refine cw_true rfl ?_
    refine cw_seq ?_
    refine cw_region ?_
    refine lw_op rfl rfl rfl (ow_assign rfl rfl ?_)
    refine lw_nil ?_
    refine ew_then ?_
    refine cw_ret ?_
    refine ew_thenR ?_
    obtain rfl := Option.some.inj h
    exact ew_ret (res1 rfl (.tmp rfl)) ⟨_, rfl, ((vbool _)), hC.bx⟩
  · obtain rfl := hbb1.trans hc1
    refine cw_false rfl ?_
    refine cw_skip ?_
    refine ew_then ?_
    refine cw_seq ?_
    refine cw_seq ?_
    refine cw_region ?_
    refine lw_op rfl rfl rfl (ow_move rfl rfl ?_)
    refine lw_op rfl rfl rfl (ow_len rfl rfl h0 Tryd.underlying69 rfl ?_)
    refine lw_op rfl rfl rfl (ow_move rfl rfl ?_)
    refine lw_nil ?_
    refine ew_then ?_
    replace h := bind_some h
    obtain ⟨lr1, hlr1, h⟩ := h
    refine cw_for hlr1 (fun s a w' => ∃ (M' : Nat → Prop), Fits 18 [(8, v0p), (9, (.int .i64 (a_list.length : Int))), (10, (.int .i64 s))] a ∧ Le w M w' M' ∧ Cx No w M w' M') ?_ ?_ ?_
    · intro a ha
      exact ⟨M, ha.sub ⟨rfl, rfl, rfl, trivial⟩, Le.refl _ _, hC⟩
    · rintro k1 a w1 sr1 ⟨M1, hF1, hl1, hC1⟩ hb1 hR1
      refine cw_at (E := [(8, v0p), (9, (.int .i64 (a_list.length : Int))), (10, (.int .i64 k1))]) hF1 ?_
      refine cw_seq ?_
      refine cw_region ?_
      refine lw_op rfl rfl rfl (ow_lss rfl rfl rfl fun bb2 hbb2 => ?_)
      refine lw_nil ?_
      refine ew_then ?_
      refine cw_seq ?_
      replace hb1 := cond_some hb1
      rcases hb1 with ⟨hc2, hb1⟩ | ⟨hc2, hb1⟩
      · obtain rfl := hbb2.trans hc2
        refine cw_true rfl ?_
        refine cw_skip ?_
        refine ew_then ?_
        refine cw_seq ?_
        refine cw_block ?_
        refine cw_seq ?_
        refine cw_region ?_
        replace hb1 := bind_some hb1
        obtain ⟨x1, hx1, hb1⟩ := hb1
        refine lw_op rfl rfl rfl (ow_indexSlice (R := RPacket) rfl rfl rfl (VRep.mono hl1 h0) Tryd.underlying69 (Tryd.sizeOf39 _) hx1 fun p1 hp1 => ?_)
        refine lw_op rfl rfl rfl (ow_load (R := RPacket) rfl rfl hp1 (Tryd.sizeOf39 _) (Tryd.isAgg39 _) fun v2 hv2 => ?_)
        refine lw_allocStore (R := RPacket) rfl rfl rfl rfl rfl rfl rfl Tryd.zeroValue39 Tryd.sizeOf39 rfl rfl rfl (by simp) hv2 hC1 fun p2 w2 hp2 hb2 hl2 hC2 => ?_
        refine lw_nil ?_
        refine ew_then ?_
        refine cw_seq ?_
        refine cw_region ?_
        refine lw_op rfl rfl rfl (ow_load (R := RPacket) rfl rfl hp2 (Tryd.sizeOf39 _) (Tryd.isAgg39 _) fun v3 hv3 => ?_)
        replace hb1 := bind_some hb1
        obtain ⟨x2, hx2, hb1⟩ := hb1
        refine lw_op rfl rfl rfl (ow_call rfl rfl Tryd.call70 (w_impl_PacketValid (hG.mono (hl1.trans hl2)) hC2.old hv3 hx2) fun v4 w3 hv4 => ?_)
        obtain ⟨hv4, hb3⟩ := hv4
        have hl3 := Le.no M1 hb3
        have hC3 := hC2.no hb3
        obtain rfl := vbool_eq hv4
        refine lw_op rfl rfl rfl (ow_not rfl rfl ?_)
        refine lw_nil ?_
        refine ew_then ?_
        replace hb1 := cond_some hb1
        rcases hb1 with ⟨hc3, hb1⟩ | ⟨hc3, hb1⟩
        · subst hc3
          refine cw_false rfl ?_
          refine cw_skip ?_
          refine ew_blockN ?_
          refine ew_then ?_
          refine cw_region ?_
          refine lw_op rfl rfl rfl (ow_add rfl rfl rfl ?_)
          refine lw_op rfl rfl rfl (ow_move rfl rfl ?_)
          refine lw_nil ?_
          refine ew_nxt (W (k1 + 1)) hb1 fun a ha => ⟨M1, ?_, ((hl1.trans hl2).trans hl3), hC3⟩
          exact ha.sub ⟨rfl, rfl, rfl, trivial⟩
        · subst hc3
          refine cw_true rfl ?_
          refine cw_seq ?_
          refine cw_region ?_
          refine lw_op rfl rfl rfl (ow_assign rfl rfl ?_)
          refine lw_nil ?_
          refine ew_then ?_
          refine cw_ret ?_
          refine ew_blockR ?_
          refine ew_thenR ?_
          refine ew_thenR ?_
          refine ew_blockR ?_
          refine ew_brkR ?_
          refine ew_thenR ?_
          have e1 := hR1 _ (Option.some.inj hb1).symm
          subst e1
          obtain rfl := Option.some.inj h
          exact ew_ret (res1 rfl (.tmp rfl)) ⟨_, rfl, ((vbool _)), hC3.bx⟩
      · obtain rfl := hbb2.trans hc2
        refine cw_false rfl ?_
        refine cw_exit ?_
        refine ew_thenX ?_
        refine ew_thenX ?_
        refine ew_blockX ?_
        refine ew_brk k1 hb1 fun a ha => ⟨M1, ?_, hl1, hC1⟩
        exact ha.sub ⟨rfl, rfl, rfl, trivial⟩
    · rintro k2 a w4 hlr2 ⟨M2, hF2, hl4, hC4⟩
      subst hlr2
      refine ew_at (E := [(8, v0p), (9, (.int .i64 (a_list.length : Int))), (10, (.int .i64 k2))]) hF2 ?_
      refine ew_then ?_
      refine cw_seq ?_
      refine cw_region ?_
      refine lw_op rfl rfl rfl (ow_assign rfl rfl ?_)
      refine lw_nil ?_
      refine ew_then ?_
      refine cw_ret ?_
      obtain rfl := Option.some.inj h
      exact ew_ret (res1 rfl (.tmp rfl)) ⟨_, rfl, ((vbool _)), hC4.bx⟩

theorem w_impl_JudgeAll {w : World} {M : Nat → Prop} (hG : ARep (RArr 4 RShape) w M shapes ⟨0, 0, none⟩) (hO : ∀ b, M b → b < w.heap.size) {v0p : Value} {a_s : Ruleset} (h0 : VRep RRuleset w M a_s v0p) {v1p : Value} {a_list : List Packet} (h1 : VRep (RSlice RPacket) w M a_list v1p) {r : Int} (h : F.impl_JudgeAll a_s a_list = some r) :
    Calls Tryd.prog 47 [v0p, v1p].toArray w fun e w' => ∃ v, e = .returned v ∧ VRep RInt w' M r v ∧ BX No w w' := by
  have hC : Cx No w M w M := Cx.start hO (fun _ e => e.elim)
  refine walk (N := 29) Tryd.func47 rfl Tryd.ntmps47 rfl ?_
  refine cw_seq ?_
  refine cw_region ?_
  refine lw_op rfl rfl rfl (ow_box (R := RRuleset) rfl rfl h0 hC fun p1 w1 hp1 hb1 hl1 hC1 => ?_)
  refine lw_op rfl rfl rfl (ow_assign rfl rfl ?_)
  refine lw_nil ?_
  refine ew_then ?_
  refine cw_seq ?_
  refine cw_seq ?_
  refine cw_region ?_
  refine lw_op rfl rfl rfl (ow_load (R := RRuleset) rfl rfl hp1 (Tryd.sizeOf57 _) (Tryd.isAgg57 _) fun v1 hv1 => ?_)
  replace h := bind_some h
  obtain ⟨x1, hx1, h⟩ := h
  refine lw_op rfl rfl rfl (ow_call rfl rfl Tryd.call36 (w_impl_RulesetValid (hG.mono hl1) hC1.old hv1 hx1) fun v2 w2 hv2 => ?_)
  obtain ⟨hv2, hb2⟩ := hv2
  have hl2 := Le.no M hb2
  have hC2 := hC1.no hb2
  obtain rfl := vbool_eq hv2
  refine lw_op rfl rfl rfl (ow_not rfl rfl ?_)
  refine lw_op rfl rfl rfl (ow_move rfl rfl ?_)
  replace h := cond_some h
  rcases h with ⟨hc1, h⟩ | ⟨hc1, h⟩
  · subst hc1
    refine lw_on rfl rfl rfl rfl rfl rfl (ow_move rfl rfl ?_)
    replace h := bind_some h
    obtain ⟨x2, hx2, h⟩ := h
    refine lw_on rfl rfl rfl rfl rfl rfl (ow_call rfl rfl Tryd.call94 (w_impl_packetsValid (hG.mono (hl1.trans hl2)) hC2.old (VRep.mono (hl1.trans hl2) h1) hx2) fun v3 w3 hv3 => ?_)
    obtain ⟨hv3, hb3⟩ := hv3
    have hl3 := Le.no M hb3
    have hC3 := hC2.no hb3
    obtain rfl := vbool_eq hv3
    refine lw_on rfl rfl rfl rfl rfl rfl (ow_not rfl rfl ?_)
    refine lw_op rfl rfl rfl (ow_pickF rfl rfl rfl ?_)
    refine lw_nil ?_
    refine ew_then ?_
    replace h := cond_some h
    rcases h with ⟨hc2, h⟩ | ⟨hc2, h⟩
    · subst hc2
      refine cw_false rfl ?_
      refine cw_skip ?_
      refine ew_then ?_
      refine cw_seq ?_
      refine cw_region ?_
      refine lw_op rfl rfl rfl (ow_assign rfl rfl ?_)
      refine lw_nil ?_
      refine ew_then ?_
      refine cw_seq ?_
      refine cw_seq ?_
      refine cw_region ?_
      refine lw_op rfl rfl rfl (ow_move rfl rfl ?_)
      refine lw_op rfl rfl rfl (ow_len rfl rfl (VRep.mono ((hl1.trans hl2).trans hl3) h1) Tryd.underlying69 rfl ?_)
      refine lw_op rfl rfl rfl (ow_move rfl rfl ?_)
      refine lw_nil ?_
      refine ew_then ?_
      replace h := bind_some h
      obtain ⟨lr1, hlr1, h⟩ := h
      refine cw_for hlr1 (fun s a w' => ∃ (M' : Nat → Prop), Fits 29 [(2, (.pointer (some p1))), (5, (.int .i64 s.1)), (16, v1p), (17, (.int .i64 (a_list.length : Int))), (18, (.int .i64 s.2))] a ∧ Le w3 M w' M' ∧ Cx No w M w' M') ?_ ?_ ?_
      · intro a ha
        exact ⟨M, ha.sub ⟨rfl, rfl, rfl, rfl, rfl, trivial⟩, Le.refl _ _, hC3⟩
      · rintro ⟨k1, k2⟩ a w4 sr1 ⟨M1, hF1, hl4, hC4⟩ hb4 hR1
        refine cw_at (E := [(2, (.pointer (some p1))), (5, (.int .i64 k1)), (16, v1p), (17, (.int .i64 (a_list.length : Int))), (18, (.int .i64 k2))]) hF1 ?_
        refine cw_seq ?_
        refine cw_region ?_
        refine lw_op rfl rfl rfl (ow_lss rfl rfl rfl fun bb1 hbb1 => ?_)
        refine lw_nil ?_
        refine ew_then ?_
        refine cw_seq ?_
        replace hb4 := cond_some hb4
        rcases hb4 with ⟨hc3, hb4⟩ | ⟨hc3, hb4⟩
        · obtain rfl := hbb1.trans hc3
          refine cw_true rfl ?_
          refine cw_skip ?_
          refine ew_then ?_
          refine cw_seq ?_
          refine cw_block ?_
          refine cw_seq ?_
          refine cw_region ?_
          replace hb4 := bind_some hb4
          obtain ⟨x3, hx3, hb4⟩ := hb4
          refine lw_op rfl rfl rfl (ow_indexSlice (R := RPacket) rfl rfl rfl (VRep.mono (((hl1.trans hl2).trans hl3).trans hl4) h1) Tryd.underlying69 (Tryd.sizeOf39 _) hx3 fun p2 hp2 => ?_)
          refine lw_op rfl rfl rfl (ow_load (R := RPacket) rfl rfl hp2 (Tryd.sizeOf39 _) (Tryd.isAgg39 _) fun v6 hv6 => ?_)
          refine lw_allocStore (R := RPacket) rfl rfl rfl rfl rfl rfl rfl Tryd.zeroValue39 Tryd.sizeOf39 rfl rfl rfl (by simp) hv6 hC4 fun p3 w5 hp3 hb5 hl5 hC5 => ?_
          refine lw_nil ?_
          refine ew_then ?_
          refine cw_seq ?_
          refine cw_region ?_
          refine lw_op rfl rfl rfl (ow_load (R := RRuleset) rfl rfl (ARep.mono (((hl2.trans hl3).trans hl4).trans hl5) hp1) (Tryd.sizeOf57 _) (Tryd.isAgg57 _) fun v7 hv7 => ?_)
          refine lw_op rfl rfl rfl (ow_load (R := RPacket) rfl rfl hp3 (Tryd.sizeOf39 _) (Tryd.isAgg39 _) fun v8 hv8 => ?_)
          replace hb4 := bind_some hb4
          obtain ⟨x4, hx4, hb4⟩ := hb4
          refine lw_op rfl rfl rfl (ow_call rfl rfl Tryd.call93 (w_impl_judgeValid (hG.mono ((((hl1.trans hl2).trans hl3).trans hl4).trans hl5)) hC5.old hv7 hv8 hx4) fun v9 w6 hv9 => ?_)
          obtain ⟨hv9, hb6⟩ := hv9
          have hl6 := Le.no M1 hb6
          have hC6 := hC5.no hb6
          obtain rfl := vbool_eq hv9
          refine lw_nil ?_
          refine ew_then ?_
          replace hb4 := cond_some hb4
          rcases hb4 with ⟨hc4, hb4⟩ | ⟨hc4, hb4⟩
          · subst hc4
            refine cw_true rfl ?_
            refine cw_region ?_
            refine lw_op rfl rfl rfl (ow_move rfl rfl ?_)
            refine lw_op rfl rfl rfl (ow_add rfl rfl rfl ?_)
            refine lw_op rfl rfl rfl (ow_assign rfl rfl ?_)
            refine lw_nil ?_
            refine ew_blockN ?_
            refine ew_then ?_
            refine cw_region ?_
            refine lw_op rfl rfl rfl (ow_add rfl rfl rfl ?_)
            refine lw_op rfl rfl rfl (ow_move rfl rfl ?_)
            refine lw_nil ?_
            refine ew_nxt ((W (k1 + 1)), (W (k2 + 1))) hb4 fun a ha => ⟨M1, ?_, ((hl4.trans hl5).trans hl6), hC6⟩
            exact ha.sub ⟨rfl, rfl, rfl, rfl, rfl, trivial⟩
          · subst hc4
            refine cw_false rfl ?_
            refine cw_skip ?_
            refine ew_blockN ?_
            refine ew_then ?_
            refine cw_region ?_
            refine lw_op rfl rfl rfl (ow_add rfl rfl rfl ?_)
            refine lw_op rfl rfl rfl (ow_move rfl rfl ?_)
            refine lw_nil ?_
            refine ew_nxt (k1, (W (k2 + 1))) hb4 fun a ha => ⟨M1, ?_, ((hl4.trans hl5).trans hl6), hC6⟩
            exact ha.sub ⟨rfl, rfl, rfl, rfl, rfl, trivial⟩
        · obtain rfl := hbb1.trans hc3
          refine cw_false rfl ?_
          refine cw_exit ?_
          refine ew_thenX ?_
          refine ew_thenX ?_
          refine ew_blockX ?_
          refine ew_brk (k1, k2) hb4 fun a ha => ⟨M1, ?_, hl4, hC4⟩
          exact ha.sub ⟨rfl, rfl, rfl, rfl, rfl, trivial⟩
      · rintro ⟨k3, k4⟩ a w7 hlr2 ⟨M2, hF2, hl7, hC7⟩
        subst hlr2
        refine ew_at (E := [(2, (.pointer (some p1))), (5, (.int .i64 k3)), (16, v1p), (17, (.int .i64 (a_list.length : Int))), (18, (.int .i64 k4))]) hF2 ?_
        refine ew_then ?_
        refine cw_seq ?_
        refine cw_region ?_
        refine lw_op rfl rfl rfl (ow_move rfl rfl ?_)
        refine lw_op rfl rfl rfl (ow_assign rfl rfl ?_)
        refine lw_nil ?_
        refine ew_then ?_
        refine cw_ret ?_
        obtain rfl := Option.some.inj h
        exact ew_ret (res1 rfl (.tmp rfl)) ⟨_, rfl, ((vint _)), hC7.bx⟩
    · subst hc2
      refine cw_true rfl ?_
      refine cw_seq ?_
      refine cw_region ?_
      refine lw_op rfl rfl rfl (ow_assign rfl rfl ?_)
      refine lw_nil ?_
      refine ew_then ?_
      refine cw_ret ?_
      refine ew_thenR ?_
      obtain rfl := Option.some.inj h
      exact ew_ret (res1 rfl (.tmp rfl)) ⟨_, rfl, ((vint _)), hC3.bx⟩
  · subst hc1
    refine lw_off rfl rfl rfl rfl rfl rfl ?_
    refine lw_off rfl rfl rfl rfl rfl rfl ?_
    refine lw_off rfl rfl rfl rfl rfl rfl ?_
    refine lw_op rfl rfl rfl (ow_pickT rfl rfl rfl ?_)
    refine lw_nil ?_
    refine ew_then ?_
    refine cw_true rfl ?_
    refine cw_seq ?_
    refine cw_region ?_
    refine lw_op rfl rfl rfl (ow_assign rfl rfl ?_)
    refine lw_nil ?_
    refine ew_then ?_
    refine cw_ret ?_
    refine ew_thenR ?_
    obtain rfl := Option.some.inj h
    exact ew_ret (res1 rfl (.tmp rfl)) ⟨_, rfl, ((vint _)), hC2.bx⟩

theorem w_laws_eqPacket {w : World} {M : Nat → Prop} (_hG : ARep (RArr 4 RShape) w M shapes ⟨0, 0, none⟩) (hO : ∀ b, M b → b < w.heap.size) {v0p : Value} {a_a : Packet} (h0 : VRep RPacket w M a_a v0p) {v1p : Value} {a_b : Packet} (h1 : VRep RPacket w M a_b v1p) {r : Bool} (h : F.laws_eqPacket a_a a_b = some r) :
    Calls Tryd.prog 95 [v0p, v1p].toArray w fun e w' => ∃ v, e = .returned v ∧ VRep RBool w' M r v ∧ BX No w w' := by
  have hC : Cx No w M w M := Cx.start hO (fun _ e => e.elim)
  clear _hG
  refine walk (N := 25) Tryd.func95 rfl Tryd.ntmps95 rfl ?_
  refine cw_seq ?_
  refine cw_region ?_
  refine lw_op rfl rfl rfl (ow_box (R := RPacket) rfl rfl h0 hC fun p1 w1 hp1 hb1 hl1 hC1 => ?_)
  refine lw_op rfl rfl rfl (ow_box (R := RPacket) rfl rfl (VRep.mono hl1 h1) hC1 fun p2 w2 hp2 hb2 hl2 hC2 => ?_)
  refine lw_op rfl rfl rfl (ow_assign rfl rfl ?_)
  refine lw_nil ?_
  refine ew_then ?_
  refine cw_seq ?_
  refine cw_seq ?_
  refine cw_region ?_
  refine lw_op rfl rfl rfl (ow_fieldAddr rfl rfl Tryd.underlying39 rfl (Tryd.sizeOf3 _) ?_)
  refine lw_op rfl rfl rfl (ow_load (R := RInt) rfl rfl (ARep.mono hl2 (hp1.fld fld_Packet_From)) (Tryd.sizeOf3 _) (Tryd.isAgg3 _) fun v1 hv1 => ?_)
  obtain rfl := vint_eq hv1
  refine lw_op rfl rfl rfl (ow_fieldAddr rfl rfl Tryd.underlying39 rfl (Tryd.sizeOf3 _) ?_)
  refine lw_op rfl rfl rfl (ow_load (R := RInt) rfl rfl (hp2.fld fld_Packet_From) (Tryd.sizeOf3 _) (Tryd.isAgg3 _) fun v2 hv2 => ?_)
  obtain rfl := vint_eq hv2
  refine lw_op rfl rfl rfl (ow_neqI rfl rfl rfl fun bb1 hbb1 => ?_)
  refine lw_nil ?_
  refine ew_then ?_
  replace h := cond_some h
  rcases h with ⟨hc1, h⟩ | ⟨hc1, h⟩
  · obtain rfl := hbb1.trans hc1
    refine cw_true rfl ?_
    refine cw_seq ?_
    refine cw_region ?_
    refine lw_op rfl rfl rfl (ow_assign rfl rfl ?_)
    refine lw_nil ?_
    refine ew_then ?_
    refine cw_ret ?_
    refine ew_thenR ?_
    obtain rfl := Option.some.inj h
    exact ew_ret (res1 rfl (.tmp rfl)) ⟨_, rfl, ((vbool _)), hC2.bx⟩
  · obtain rfl := hbb1.trans hc1
    refine cw_false rfl ?_
    refine cw_skip ?_
    refine ew_then ?_
    refine cw_seq ?_
    refine cw_seq ?_
    refine cw_region ?_
    refine lw_op rfl rfl rfl (ow_fieldAddr rfl rfl Tryd.underlying39 rfl (Tryd.sizeOf3 _) ?_)
    refine lw_op rfl rfl rfl (ow_load (R := RInt) rfl rfl (ARep.mono hl2 (hp1.fld fld_Packet_To)) (Tryd.sizeOf3 _) (Tryd.isAgg3 _) fun v3 hv3 => ?_)
    obtain rfl := vint_eq hv3
    refine lw_op rfl rfl rfl (ow_fieldAddr rfl rfl Tryd.underlying39 rfl (Tryd.sizeOf3 _) ?_)
    refine lw_op rfl rfl rfl (ow_load (R := RInt) rfl rfl (hp2.fld fld_Packet_To) (Tryd.sizeOf3 _) (Tryd.isAgg3 _) fun v4 hv4 => ?_)
    obtain rfl := vint_eq hv4
    refine lw_op rfl rfl rfl (ow_neqI rfl rfl rfl fun bb2 hbb2 => ?_)
    refine lw_nil ?_
    refine ew_then ?_
    replace h := cond_some h
    rcases h with ⟨hc2, h⟩ | ⟨hc2, h⟩
    · obtain rfl := hbb2.trans hc2
      refine cw_true rfl ?_
      refine cw_seq ?_
      refine cw_region ?_
      refine lw_op rfl rfl rfl (ow_assign rfl rfl ?_)
      refine lw_nil ?_
      refine ew_then ?_
      refine cw_ret ?_
      refine ew_thenR ?_
      obtain rfl := Option.some.inj h
      exact ew_ret (res1 rfl (.tmp rfl)) ⟨_, rfl, ((vbool _)), hC2.bx⟩
    · obtain rfl := hbb2.trans hc2
      refine cw_false rfl ?_
      refine cw_skip ?_
      refine ew_then ?_
      refine cw_seq ?_
      refine cw_seq ?_
      refine cw_region ?_
      refine lw_op rfl rfl rfl (ow_fieldAddr rfl rfl Tryd.underlying39 rfl (Tryd.sizeOf3 _) ?_)
      refine lw_op rfl rfl rfl (ow_load (R := RInt) rfl rfl (ARep.mono hl2 (hp1.fld fld_Packet_Port)) (Tryd.sizeOf3 _) (Tryd.isAgg3 _) fun v5 hv5 => ?_)
      obtain rfl := vint_eq hv5
      refine lw_op rfl rfl rfl (ow_fieldAddr rfl rfl Tryd.underlying39 rfl (Tryd.sizeOf3 _) ?_)
      refine lw_op rfl rfl rfl (ow_load (R := RInt) rfl rfl (hp2.fld fld_Packet_Port) (Tryd.sizeOf3 _) (Tryd.isAgg3 _) fun v6 hv6 => ?_)
      obtain rfl := vint_eq hv6
      refine lw_op rfl rfl rfl (ow_neqI rfl rfl rfl fun bb3 hbb3 => ?_)
      refine lw_nil ?_
      refine ew_then ?_
      replace h := cond_some h
      rcases h with ⟨hc3, h⟩ | ⟨hc3, h⟩
      · obtain rfl := hbb3.trans hc3
        refine cw_true rfl ?_
        refine cw_seq ?_
        refine cw_region ?_
        refine lw_op rfl rfl rfl (ow_assign rfl rfl ?_)
        refine lw_nil ?_
        refine ew_then ?_
        refine cw_ret ?_
        refine ew_thenR ?_
        obtain rfl := Option.some.inj h
        exact ew_ret (res1 rfl (.tmp rfl)) ⟨_, rfl, ((vbool _)), hC2.bx⟩
      · obtain rfl := hbb3.trans hc3
        refine cw_false rfl ?_
        refine cw_skip ?_
        refine ew_then ?_
        refine cw_seq ?_
        refine cw_seq ?_
        refine cw_region ?_
        refine lw_op rfl rfl rfl (ow_fieldAddr rfl rfl Tryd.underlying39 rfl (Tryd.sizeOf3 _) ?_)
        refine lw_op rfl rfl rfl (ow_load (R := RInt) rfl rfl (ARep.mono hl2 (hp1.fld fld_Packet_Proto)) (Tryd.sizeOf3 _) (Tryd.isAgg3 _) fun v7 hv7 => ?_)
        obtain rfl := vint_eq hv7
        refine lw_op rfl rfl rfl (ow_fieldAddr rfl rfl Tryd.underlying39 rfl (Tryd.sizeOf3 _) ?_)
        refine lw_op rfl rfl rfl (ow_load (R := RInt) rfl rfl (hp2.fld fld_Packet_Proto) (Tryd.sizeOf3 _) (Tryd.isAgg3 _) fun v8 hv8 => ?_)
        obtain rfl := vint_eq hv8
        refine lw_op rfl rfl rfl (ow_neqI rfl rfl rfl fun bb4 hbb4 => ?_)
        refine lw_nil ?_
        refine ew_then ?_
        replace h := cond_some h
        rcases h with ⟨hc4, h⟩ | ⟨hc4, h⟩
        · obtain rfl := hbb4.trans hc4
          refine cw_true rfl ?_
          refine cw_seq ?_
          refine cw_region ?_
          refine lw_op rfl rfl rfl (ow_assign rfl rfl ?_)
          refine lw_nil ?_
          refine ew_then ?_
          refine cw_ret ?_
          refine ew_thenR ?_
          obtain rfl := Option.some.inj h
          exact ew_ret (res1 rfl (.tmp rfl)) ⟨_, rfl, ((vbool _)), hC2.bx⟩
        · obtain rfl := hbb4.trans hc4
          refine cw_false rfl ?_
          refine cw_skip ?_
          refine ew_then ?_
          refine cw_seq ?_
          refine cw_region ?_
          refine lw_op rfl rfl rfl (ow_assign rfl rfl ?_)
          refine lw_nil ?_
          refine ew_then ?_
          refine cw_ret ?_
          obtain rfl := Option.some.inj h
          exact ew_ret (res1 rfl (.tmp rfl)) ⟨_, rfl, ((vbool _)), hC2.bx⟩

theorem w_laws_eqPacketS {w : World} {M : Nat → Prop} (hG : ARep (RArr 4 RShape) w M shapes ⟨0, 0, none⟩) (hO : ∀ b, M b → b < w.heap.size) {v0p : Value} {a_a : List Packet} (h0 : VRep (RSlice RPacket) w M a_a v0p) {v1p : Value} {a_b : List Packet} (h1 : VRep (RSlice RPacket) w M a_b v1p) {r : Bool} (h : F.laws_eqPacketS a_a a_b = some r) :
    Calls Tryd.prog 48 [v0p, v1p].toArray w fun e w' => ∃ v, e = .returned v ∧ VRep RBool w' M r v ∧ BX No w w' := by
  have hC : Cx No w M w M := Cx.start hO (fun _ e => e.elim)
  refine walk (N := 27) Tryd.func48 rfl Tryd.ntmps48 rfl ?_
  refine cw_seq ?_
  refine cw_region ?_
  refine lw_op rfl rfl rfl (ow_assign rfl rfl ?_)
  refine lw_nil ?_
  refine ew_then ?_
  refine cw_seq ?_
  refine cw_seq ?_
  refine cw_region ?_
  refine lw_op rfl rfl rfl (ow_move rfl rfl ?_)
  refine lw_op rfl rfl rfl (ow_len rfl rfl h0 Tryd.underlying69 rfl ?_)
  refine lw_op rfl rfl rfl (ow_move rfl rfl ?_)
  refine lw_op rfl rfl rfl (ow_len rfl rfl h1 Tryd.underlying69 rfl ?_)
  refine lw_op rfl rfl rfl (ow_neqI rfl rfl rfl fun bb1 hbb1 => ?_)
  refine lw_nil ?_
  refine ew_then ?_
  replace h := cond_some h
  rcases h with ⟨hc1, h⟩ | ⟨hc1, h⟩
  · obtain rfl := hbb1.trans hc1
    refine cw_true rfl ?_
    refine cw_seq ?_
    refine cw_region ?_
    refine lw_op rfl rfl rfl (ow_assign rfl rfl ?_)
    refine lw_nil ?_
    refine ew_then ?_
    refine cw_ret ?_
    refine ew_thenR ?_
    obtain rfl := Option.some.inj h
    exact ew_ret (res1 rfl (.tmp rfl)) ⟨_, rfl, ((vbool _)), hC.bx⟩
  · obtain rfl := hbb1.trans hc1
    refine cw_false rfl ?_
    refine cw_skip ?_
    refine ew_then ?_
    refine cw_seq ?_
    refine cw_seq ?_
    refine cw_region ?_
    refine lw_op rfl rfl rfl (ow_assign rfl rfl ?_)
    refine lw_nil ?_
    refine ew_then ?_
    replace h := bind_some h
    obtain ⟨lr1, hlr1, h⟩ := h
    refine cw_for hlr1 (fun s a w' => ∃ (M' : Nat → Prop), Fits 27 [(0, v0p), (1, v1p), (5, (.int .i64 s))] a ∧ Le w M w' M' ∧ Cx No w M w' M') ?_ ?_ ?_
    · intro a ha
      exact ⟨M, ha.sub ⟨rfl, rfl, rfl, trivial⟩, Le.refl _ _, hC⟩
    · rintro k1 a w1 sr1 ⟨M1, hF1, hl1, hC1⟩ hb1 hR1
      refine cw_at (E := [(0, v0p), (1, v1p), (5, (.int .i64 k1))]) hF1 ?_
      refine cw_seq ?_
      refine cw_seq ?_
      refine cw_region ?_
      refine lw_op rfl rfl rfl (ow_move rfl rfl ?_)
      refine lw_op rfl rfl rfl (ow_move rfl rfl ?_)
      refine lw_op rfl rfl rfl (ow_len rfl rfl (VRep.mono hl1 h0) Tryd.underlying69 rfl ?_)
      refine lw_op rfl rfl rfl (ow_lss rfl rfl rfl fun bb2 hbb2 => ?_)
      refine lw_nil ?_
      refine ew_then ?_
      replace hb1 := cond_some hb1
      rcases hb1 with ⟨hc2, hb1⟩ | ⟨hc2, hb1⟩
      · obtain rfl := hbb2.trans hc2
        refine cw_true rfl ?_
        refine cw_skip ?_
        refine ew_then ?_
        refine cw_seq ?_
        refine cw_block ?_
        refine cw_seq ?_
        replace hb1 := bind_some hb1
        obtain ⟨x1, hx1, hb1⟩ := hb1
        replace hb1 := bind_some hb1
        obtain ⟨x2, hx2, hb1⟩ := hb1
        refine cw_sub (E' := [(0, v0p), (1, v1p), (5, (.int .i64 k1))]) ⟨rfl, rfl, rfl, trivial⟩ ?_
        refine cw_drawQ 8 [PV (RSlice RPacket) M1 a_a, PEq (.int .i64 k1), PA RPacket M1 x1, PV RPacket M1 x1, PV (RSlice RPacket) M1 a_b, PEq (.int .i64 k1), PA RPacket M1 x2, PV RPacket M1 x2] (by kernel_rfl) rfl (by kernel_rfl) ⟨PV.mono _ _ _, PEq.mono _, PA.mono _ _ _, PV.mono _ _ _, PV.mono _ _ _, PEq.mono _, PA.mono _ _ _, PV.mono _ _ _, trivial⟩ ⟨?_, ?_, ?_, ?_, ?_, ?_, ?_, ?_, trivial⟩ ?_
        · intro w2 D hS1 hd1
          have hl2 := Le.no M1 hS1
          have hC2 := hC1.no hS1
          refine dg_sub (E' := [(0, v0p)]) ⟨rfl, trivial⟩ ?_
          refine dg_plain rfl (ow_move rfl rfl ?_)
          exact ⟨BX.refl _ _, (VRep.mono (hl1.trans hl2) h0)⟩
        · intro w3 D hS2 hd2
          have hl3 := Le.no M1 hS2
          have hC3 := hC1.no hS2
          refine dg_sub (E' := [(5, (.int .i64 k1))]) ⟨rfl, trivial⟩ ?_
          refine dg_plain rfl (ow_move rfl rfl ?_)
          exact ⟨BX.refl _ _, rfl⟩
        · intro w4 D hS3 hd3
          have hl4 := Le.no M1 hS3
          have hC4 := hC1.no hS3
          have hd3 : PV (RSlice RPacket) M1 a_a (D 0) w4 ∧ PEq (.int .i64 k1) (D 1) w4 ∧ True := hd3
          obtain ⟨d1, d2, -⟩ := hd3
          obtain ⟨v4, hq1⟩ : ∃ v, (D 0) = v := ⟨_, rfl⟩
          rw [hq1] at d1
          refine dg_sub (E' := [(17, v4), (18, (.int .i64 k1))]) ⟨(congrArg some hq1), (congrArg some d2), trivial⟩ ?_
          refine dg_plain rfl (ow_indexSlice (R := RPacket) rfl rfl rfl d1 Tryd.underlying69 (Tryd.sizeOf39 _) hx1 fun p3 hp3 => ?_)
          exact ⟨BX.refl _ _, ⟨_, rfl, hp3⟩⟩
        · intro w5 D hS4 hd4
          have hl5 := Le.no M1 hS4
          have hC5 := hC1.no hS4
          have hd4 : PA RPacket M1 x1 (D 2) w5 ∧ True := hd4
          obtain ⟨d3, -⟩ := hd4
          obtain ⟨p4, e1, ha1⟩ := d3
          refine dg_sub (E' := [(19, (.pointer (some p4)))]) ⟨(congrArg some e1), trivial⟩ ?_
          refine dg_plain rfl (ow_load (R := RPacket) rfl rfl ha1 (Tryd.sizeOf39 _) (Tryd.isAgg39 _) fun v5 hv5 => ?_)
          exact ⟨BX.refl _ _, hv5⟩
        · intro w6 D hS5 hd5
          have hl6 := Le.no M1 hS5
          have hC6 := hC1.no hS5
          refine dg_sub (E' := [(1, v1p)]) ⟨rfl, trivial⟩ ?_
          refine dg_plain rfl (ow_move rfl rfl ?_)
          exact ⟨BX.refl _ _, (VRep.mono (hl1.trans hl6) h1)⟩
        · intro w7 D hS6 hd6
          have hl7 := Le.no M1 hS6
          have hC7 := hC1.no hS6
          refine dg_sub (E' := [(5, (.int .i64 k1))]) ⟨rfl, trivial⟩ ?_
          refine dg_plain rfl (ow_move rfl rfl ?_)
          exact ⟨BX.refl _ _, rfl⟩
        · intro w8 D hS7 hd7
          have hl8 := Le.no M1 hS7
          have hC8 := hC1.no hS7
          have hd7 : PV (RSlice RPacket) M1 a_b (D 4) w8 ∧ PEq (.int .i64 k1) (D 5) w8 ∧ True := hd7
          obtain ⟨d4, d5, -⟩ := hd7
          obtain ⟨v6, hq2⟩ : ∃ v, (D 4) = v := ⟨_, rfl⟩
          rw [hq2] at d4
          refine dg_sub (E' := [(21, v6), (22, (.int .i64 k1))]) ⟨(congrArg some hq2), (congrArg some d5), trivial⟩ ?_
          refine dg_plain rfl (ow_indexSlice (R := RPacket) rfl rfl rfl d4 Tryd.underlying69 (Tryd.sizeOf39 _) hx2 fun p5 hp5 => ?_)
          exact ⟨BX.refl _ _, ⟨_, rfl, hp5⟩⟩
        · intro w9 D hS8 hd8
          have hl9 := Le.no M1 hS8
          have hC9 := hC1.no hS8
          have hd8 : PA RPacket M1 x2 (D 6) w9 ∧ True := hd8
          obtain ⟨d6, -⟩ := hd8
          obtain ⟨p6, e2, ha2⟩ := d6
          refine dg_sub (E' := [(23, (.pointer (some p6)))]) ⟨(congrArg some e2), trivial⟩ ?_
          refine dg_plain rfl (ow_load (R := RPacket) rfl rfl ha2 (Tryd.sizeOf39 _) (Tryd.isAgg39 _) fun v7 hv7 => ?_)
          exact ⟨BX.refl _ _, hv7⟩
        · intro w10 D hS9 hd9
          have hl10 := Le.no M1 hS9
          have hC10 := hC1.no hS9
          have hd9 : PV (RSlice RPacket) M1 a_a (D 0) w10 ∧ PEq (.int .i64 k1) (D 1) w10 ∧ PA RPacket M1 x1 (D 2) w10 ∧ PV RPacket M1 x1 (D 3) w10 ∧ PV (RSlice RPacket) M1 a_b (D 4) w10 ∧ PEq (.int .i64 k1) (D 5) w10 ∧ PA RPacket M1 x2 (D 6) w10 ∧ PV RPacket M1 x2 (D 7) w10 ∧ True := hd9
          obtain ⟨-, -, -, d10, -, -, -, d14, -⟩ := hd9
          obtain ⟨v8, hq3⟩ : ∃ v, (D 3) = v := ⟨_, rfl⟩
          rw [hq3] at d10
          obtain ⟨v9, hq4⟩ : ∃ v, (D 7) = v := ⟨_, rfl⟩
          rw [hq4] at d14
          refine lw_sub (E' := [(20, v8), (24, v9), (0, v0p), (1, v1p), (5, (.int .i64 k1))]) ⟨(congrArg some hq3), (congrArg some hq4), rfl, rfl, rfl, trivial⟩ ?_
          replace hb1 := bind_some hb1
          obtain ⟨x3, hx3, hb1⟩ := hb1
          refine lw_op rfl rfl rfl (ow_call rfl rfl Tryd.call95 (w_laws_eqPacket (hG.mono (hl1.trans hl10)) hC10.old d10 d14 hx3) fun v10 w11 hv10 => ?_)
          obtain ⟨hv10, hb2⟩ := hv10
          have hl11 := Le.no M1 hb2
          have hC11 := hC10.no hb2
          obtain rfl := vbool_eq hv10
          refine lw_op rfl rfl rfl (ow_not rfl rfl ?_)
          refine lw_nil ?_
          refine ew_then ?_
          replace hb1 := cond_some hb1
          rcases hb1 with ⟨hc3, hb1⟩ | ⟨hc3, hb1⟩
          · subst hc3
            refine cw_false rfl ?_
            refine cw_skip ?_
            refine ew_blockN ?_
            refine ew_then ?_
            refine cw_region ?_
            refine lw_op rfl rfl rfl (ow_move rfl rfl ?_)
            refine lw_op rfl rfl rfl (ow_add rfl rfl rfl ?_)
            refine lw_op rfl rfl rfl (ow_assign rfl rfl ?_)
            refine lw_nil ?_
            refine ew_nxt (W (k1 + 1)) hb1 fun a ha => ⟨M1, ?_, ((hl1.trans hl10).trans hl11), hC11⟩
            exact ha.sub ⟨rfl, rfl, rfl, trivial⟩
          · subst hc3
            refine cw_true rfl ?_
            refine cw_seq ?_
            refine cw_region ?_
            refine lw_op rfl rfl rfl (ow_assign rfl rfl ?_)
            refine lw_nil ?_
            refine ew_then ?_
            refine cw_ret ?_
            refine ew_blockR ?_
            refine ew_thenR ?_
            refine ew_thenR ?_
            refine ew_blockR ?_
            refine ew_brkR ?_
            refine ew_thenR ?_
            have e3 := hR1 _ (Option.some.inj hb1).symm
            subst e3
            obtain rfl := Option.some.inj h
            exact ew_ret (res1 rfl (.tmp rfl)) ⟨_, rfl, ((vbool _)), hC11.bx⟩
      · obtain rfl := hbb2.trans hc2
        refine cw_false rfl ?_
        refine cw_exit ?_
        refine ew_thenX ?_
        refine ew_thenX ?_
        refine ew_blockX ?_
        refine ew_brk k1 hb1 fun a ha => ⟨M1, ?_, hl1, hC1⟩
        exact ha.sub ⟨rfl, rfl, rfl, trivial⟩
    · rintro k2 a w12 hlr2 ⟨M2, hF2, hl12, hC12⟩
      subst hlr2
      refine ew_at (E := [(0, v0p), (1, v1p), (5, (.int .i64 k2))]) hF2 ?_
      refine ew_then ?_
      refine cw_seq ?_
      refine cw_region ?_
      refine lw_op rfl rfl rfl (ow_assign rfl rfl ?_)
      refine lw_nil ?_
      refine ew_then ?_
      refine cw_ret ?_
      obtain rfl := Option.some.inj h
      exact ew_ret (res1 rfl (.tmp rfl)) ⟨_, rfl, ((vbool _)), hC12.bx⟩

theorem w_laws_FnExactJudgeAll {w : World} {M : Nat → Prop} (hG : ARep (RArr 4 RShape) w M shapes ⟨0, 0, none⟩) (hO : ∀ b, M b → b < w.heap.size) {v0p : Value} {a_aS : Ruleset} (h0 : VRep RRuleset w M a_aS v0p) {v1p : Value} {a_aList : List Packet} (h1 : VRep (RSlice RPacket) w M a_aList v1p) {r : Bool} (h : F.laws_FnExactJudgeAll a_aS a_aList = some r) :
    Calls Tryd.prog 11 [v0p, v1p].toArray w fun e w' => ∃ v, e = .returned v ∧ VRep RBool w' M r v ∧ BX No w w' := by
  have hC : Cx No w M w M := Cx.start hO (fun _ e => e.elim)
  refine walk (N := 45) Tryd.func11 rfl Tryd.ntmps11 rfl ?_
  refine cw_seq ?_
  refine cw_region ?_
  refine lw_op rfl rfl rfl (ow_box (R := RRuleset) rfl rfl h0 hC fun p1 w1 hp1 hb1 hl1 hC1 => ?_)
  refine lw_op rfl rfl rfl (ow_assign rfl rfl ?_)
  refine lw_nil ?_
  refine ew_then ?_
  refine cw_seq ?_
  refine cw_region ?_
  refine lw_op rfl rfl rfl (ow_assign rfl rfl ?_)
  refine lw_nil ?_
  refine ew_then ?_
  refine cw_seq ?_
  refine cw_region ?_
  refine lw_op rfl rfl rfl (ow_load (R := RRuleset) rfl rfl hp1 (Tryd.sizeOf52 _) (Tryd.isAgg52 _) fun v1 hv1 => ?_)
  refine lw_op rfl rfl rfl (ow_move rfl rfl ?_)
  replace h := bind_some h
  obtain ⟨x1, hx1, h⟩ := h
  refine lw_op rfl rfl rfl (ow_call rfl rfl Tryd.call33 (w_laws_szRuleset (hG.mono hl1) hC1.old hv1 hx1) fun v2 w2 hv2 => ?_)
  obtain ⟨hv2, hb2⟩ := hv2
  have hl2 := Le.no M hb2
  have hC2 := hC1.no hb2
  obtain rfl := vint_eq hv2
  refine lw_op rfl rfl rfl (ow_assign rfl rfl ?_)
  refine lw_nil ?_
  refine ew_then ?_
  refine cw_seq ?_
  refine cw_seq ?_
  refine cw_region ?_
  refine lw_op rfl rfl rfl (ow_move rfl rfl ?_)
  refine lw_op rfl rfl rfl (ow_lss rfl rfl rfl fun bb1 hbb1 => ?_)
  refine lw_nil ?_
  refine ew_then ?_
  replace h := cond_some h
  rcases h with ⟨hc1, h⟩ | ⟨hc1, h⟩
  · obtain rfl := hbb1.trans hc1
    refine cw_true rfl ?_
    refine cw_seq ?_
    refine cw_region ?_
    refine lw_op rfl rfl rfl (ow_assign rfl rfl ?_)
    refine lw_nil ?_
    refine ew_then ?_
    refine cw_ret ?_
    refine ew_thenR ?_
    obtain rfl := Option.some.inj h
    exact ew_ret (res1 rfl (.tmp rfl)) ⟨_, rfl, ((vbool _)), hC2.bx⟩
  · obtain rfl := hbb1.trans hc1
    refine cw_false rfl ?_
    refine cw_skip ?_
    refine ew_then ?_
    refine cw_seq ?_
    refine cw_region ?_
    refine lw_op rfl rfl rfl (ow_move rfl rfl ?_)
    refine lw_op rfl rfl rfl (ow_move rfl rfl ?_)
    replace h := bind_some h
    obtain ⟨x2, hx2, h⟩ := h
    refine lw_op rfl rfl rfl (ow_call rfl rfl Tryd.call44 (w_laws_szPacketS (hG.mono (hl1.trans hl2)) hC2.old (VRep.mono (hl1.trans hl2) h1) hx2) fun v3 w3 hv3 => ?_)
    obtain ⟨hv3, hb3⟩ := hv3
    have hl3 := Le.no M hb3
    have hC3 := hC2.no hb3
    obtain rfl := vint_eq hv3
    refine lw_op rfl rfl rfl (ow_assign rfl rfl ?_)
    refine lw_nil ?_
    refine ew_then ?_
    refine cw_seq ?_
    refine cw_seq ?_
    refine cw_region ?_
    refine lw_op rfl rfl rfl (ow_move rfl rfl ?_)
    refine lw_op rfl rfl rfl (ow_lss rfl rfl rfl fun bb2 hbb2 => ?_)
    refine lw_nil ?_
    refine ew_then ?_
    replace h := cond_some h
    rcases h with ⟨hc2, h⟩ | ⟨hc2, h⟩
    · obtain rfl := hbb2.trans hc2
      refine cw_true rfl ?_
      refine cw_seq ?_
      refine cw_region ?_
      refine lw_op rfl rfl rfl (ow_assign rfl rfl ?_)
      refine lw_nil ?_
      refine ew_then ?_
      refine cw_ret ?_
      refine ew_thenR ?_
      obtain rfl := Option.some.inj h
      exact ew_ret (res1 rfl (.tmp rfl)) ⟨_, rfl, ((vbool _)), hC3.bx⟩
    · obtain rfl := hbb2.trans hc2
      refine cw_false rfl ?_
      refine cw_skip ?_
      refine ew_then ?_
      refine cw_seq ?_
      refine cw_region ?_
      refine lw_op rfl rfl rfl (ow_load (R := RRuleset) rfl rfl (ARep.mono (hl2.trans hl3) hp1) (Tryd.sizeOf52 _) (Tryd.isAgg52 _) fun v4 hv4 => ?_)
      replace h := bind_some h
      obtain ⟨x3, hx3, h⟩ := h
      refine lw_op rfl rfl rfl (ow_call rfl rfl Tryd.call35 (w_laws_toRuleset (hG.mono ((hl1.trans hl2).trans hl3)) hC3.old hv4 hx3) fun v5 w4 hv5 => ?_)
      obtain ⟨hv5, hb4⟩ := hv5
      have hl4 := Le.no M hb4
      have hC4 := hC3.no hb4
      refine lw_op rfl rfl rfl (ow_move rfl rfl ?_)
      replace h := bind_some h
      obtain ⟨x4, hx4, h⟩ := h
      refine lw_op rfl rfl rfl (ow_call rfl rfl Tryd.call46 (w_laws_toPacketS (hG.mono (((hl1.trans hl2).trans hl3).trans hl4)) hC4.old (VRep.mono (((hl1.trans hl2).trans hl3).trans hl4) h1) hx4) fun v6 w5 hv6 => ?_)
      obtain ⟨hv6, hb5⟩ := hv6
      have hl5 := Le.no M hb5
      have hC5 := hC4.no hb5
      replace h := bind_some h
      obtain ⟨x5, hx5, h⟩ := h
      refine lw_op rfl rfl rfl (ow_call rfl rfl Tryd.call45 (w_spec_JudgeAll (hG.mono ((((hl1.trans hl2).trans hl3).trans hl4).trans hl5)) hC5.old (VRep.mono hl5 hv5) hv6 hx5) fun v7 w6 hv7 => ?_)
      obtain ⟨hv7, hb6⟩ := hv7
      have hl6 := Le.no M hb6
      have hC6 := hC5.no hb6
      obtain rfl := vint_eq hv7
      refine lw_op rfl rfl rfl (ow_assign rfl rfl ?_)
      refine lw_nil ?_
      refine ew_then ?_
      refine cw_seq ?_
      refine cw_region ?_
      refine lw_op rfl rfl rfl (ow_load (R := RRuleset) rfl rfl (ARep.mono ((((hl2.trans hl3).trans hl4).trans hl5).trans hl6) hp1) (Tryd.sizeOf52 _) (Tryd.isAgg52 _) fun v8 hv8 => ?_)
      refine lw_op rfl rfl rfl (ow_call rfl rfl Tryd.call35 (w_laws_toRuleset (hG.mono (((((hl1.trans hl2).trans hl3).trans hl4).trans hl5).trans hl6)) hC6.old hv8 hx3) fun v9 w7 hv9 => ?_)
      obtain ⟨hv9, hb7⟩ := hv9
      have hl7 := Le.no M hb7
      have hC7 := hC6.no hb7
      refine lw_allocStore (R := RRuleset) rfl rfl rfl rfl rfl rfl rfl Tryd.zeroValue57 Tryd.sizeOf57 rfl rfl rfl (by simp) hv9 hC7 fun p2 w8 hp2 hb8 hl8 hC8 => ?_
      refine lw_nil ?_
      refine ew_then ?_
      refine cw_seq ?_
      refine cw_region ?_
      refine lw_op rfl rfl rfl (ow_move rfl rfl ?_)
      refine lw_op rfl rfl rfl (ow_call rfl rfl Tryd.call46 (w_laws_toPacketS (hG.mono (((((((hl1.trans hl2).trans hl3).trans hl4).trans hl5).trans hl6).trans hl7).trans hl8)) hC8.old (VRep.mono (((((((hl1.trans hl2).trans hl3).trans hl4).trans hl5).trans hl6).trans hl7).trans hl8) h1) hx4) fun v10 w9 hv10 => ?_)
      obtain ⟨hv10, hb9⟩ := hv10
      have hl9 := Le.no M hb9
      have hC9 := hC8.no hb9
      refine lw_op rfl rfl rfl (ow_assign rfl rfl ?_)
      refine lw_nil ?_
      refine ew_then ?_
      refine cw_seq ?_
      refine cw_region ?_
      refine lw_op rfl rfl rfl (ow_load (R := RRuleset) rfl rfl (ARep.mono hl9 hp2) (Tryd.sizeOf57 _) (Tryd.isAgg57 _) fun v11 hv11 => ?_)
      refine lw_op rfl rfl rfl (ow_move rfl rfl ?_)
      replace h := bind_some h
      obtain ⟨x6, hx6, h⟩ := h
      refine lw_op rfl rfl rfl (ow_call rfl rfl Tryd.call47 (w_impl_JudgeAll (hG.mono ((((((((hl1.trans hl2).trans hl3).trans hl4).trans hl5).trans hl6).trans hl7).trans hl8).trans hl9)) hC9.old hv11 hv10 hx6) fun v12 w10 hv12 => ?_)
      obtain ⟨hv12, hb10⟩ := hv12
      have hl10 := Le.no M hb10
      have hC10 := hC9.no hb10
      obtain rfl := vint_eq hv12
      refine lw_op rfl rfl rfl (ow_assign rfl rfl ?_)
      refine lw_nil ?_
      refine ew_then ?_
      refine cw_seq ?_
      refine cw_seq ?_
      refine cw_region ?_
      refine lw_op rfl rfl rfl (ow_move rfl rfl ?_)
      refine lw_op rfl rfl rfl (ow_move rfl rfl ?_)
      refine lw_op rfl rfl rfl (ow_neqI rfl rfl rfl fun bb3 hbb3 => ?_)
      refine lw_nil ?_
      refine ew_then ?_
      replace h := cond_some h
      rcases h with ⟨hc3, h⟩ | ⟨hc3, h⟩
      · obtain rfl := hbb3.trans hc3
        refine cw_true rfl ?_
        refine cw_seq ?_
        refine cw_region ?_
        refine lw_op rfl rfl rfl (ow_assign rfl rfl ?_)
        refine lw_nil ?_
        refine ew_then ?_
        refine cw_ret ?_
        refine ew_thenR ?_
        obtain rfl := Option.some.inj h
        exact ew_ret (res1 rfl (.tmp rfl)) ⟨_, rfl, ((vbool _)), hC10.bx⟩
      · obtain rfl := hbb3.trans hc3
        refine cw_false rfl ?_
        refine cw_skip ?_
        refine ew_then ?_
        refine cw_seq ?_
        refine cw_seq ?_
        refine cw_sub (E' := [(1, v1p), (2, (.pointer (some p1))), (4, (.bool false)), (7, (.pointer (some p2))), (8, v10)]) ⟨rfl, rfl, rfl, rfl, rfl, trivial⟩ ?_
        refine cw_drawQ 3 [PV RRuleset M x3, PV RRuleset M a_aS, PV RRuleset M x3] (by kernel_rfl) rfl (by kernel_rfl) ⟨PV.mono _ _ _, PV.mono _ _ _, PV.mono _ _ _, trivial⟩ ⟨?_, ?_, ?_, trivial⟩ ?_
        · intro w12 D hS1 hd1
          have hl12 := Le.no M hS1
          have hC12 := hC10.no hS1
          refine dg_sub (E' := [(7, (.pointer (some p2)))]) ⟨rfl, trivial⟩ ?_
          refine dg_plain rfl (ow_load (R := RRuleset) rfl rfl (ARep.mono ((hl9.trans hl10).trans hl12) hp2) (Tryd.sizeOf57 _) (Tryd.isAgg57 _) fun v16 hv16 => ?_)
          exact ⟨BX.refl _ _, hv16⟩
        · intro w13 D hS2 hd2
          have hl13 := Le.no M hS2
          have hC13 := hC10.no hS2
          refine dg_sub (E' := [(2, (.pointer (some p1)))]) ⟨rfl, trivial⟩ ?_
          refine dg_plain rfl (ow_load (R := RRuleset) rfl rfl (ARep.mono (((((((((hl2.trans hl3).trans hl4).trans hl5).trans hl6).trans hl7).trans hl8).trans hl9).trans hl10).trans hl13) hp1) (Tryd.sizeOf52 _) (Tryd.isAgg52 _) fun v17 hv17 => ?_)
          exact ⟨BX.refl _ _, hv17⟩
        · intro w14 D hS3 hd3
          have hl14 := Le.no M hS3
          have hC14 := hC10.no hS3
          have hd3 : PV RRuleset M a_aS (D 1) w14 ∧ True := hd3
          obtain ⟨d1, -⟩ := hd3
          obtain ⟨v18, hq1⟩ : ∃ v, (D 1) = v := ⟨_, rfl⟩
          rw [hq1] at d1
          refine dg_sub (E' := [(36, v18)]) ⟨(congrArg some hq1), trivial⟩ ?_
          refine dg_plain rfl (ow_call rfl rfl Tryd.call35 (w_laws_toRuleset (hG.mono ((((((((((hl1.trans hl2).trans hl3).trans hl4).trans hl5).trans hl6).trans hl7).trans hl8).trans hl9).trans hl10).trans hl14)) hC14.old d1 hx3) fun v19 w15 hv19 => ?_)
          obtain ⟨hv19, hb12⟩ := hv19
          have hl15 := Le.no M hb12
          have hC15 := hC14.no hb12
          exact ⟨hb12, hv19⟩
        · intro w16 D hS4 hd4
          have hl16 := Le.no M hS4
          have hC16 := hC10.no hS4
          have hd4 : PV RRuleset M x3 (D 0) w16 ∧ PV RRuleset M a_aS (D 1) w16 ∧ PV RRuleset M x3 (D 2) w16 ∧ True := hd4
          obtain ⟨d2, -, d4, -⟩ := hd4
          obtain ⟨v20, hq2⟩ : ∃ v, (D 0) = v := ⟨_, rfl⟩
          rw [hq2] at d2
          obtain ⟨v21, hq3⟩ : ∃ v, (D 2) = v := ⟨_, rfl⟩
          rw [hq3] at d4
          refine lw_sub (E' := [(35, v20), (37, v21), (1, v1p), (2, (.pointer (some p1))), (4, (.bool false)), (7, (.pointer (some p2))), (8, v10)]) ⟨(congrArg some hq2), (congrArg some hq3), rfl, rfl, rfl, rfl, rfl, trivial⟩ ?_
          replace h := bind_some h
          obtain ⟨x7, hx7, h⟩ := h
          refine lw_op rfl rfl rfl (ow_call rfl rfl Tryd.call37 (w_laws_eqRuleset (hG.mono ((((((((((hl1.trans hl2).trans hl3).trans hl4).trans hl5).trans hl6).trans hl7).trans hl8).trans hl9).trans hl10).trans hl16)) hC16.old d2 d4 hx7) fun v22 w17 hv22 => ?_)
          obtain ⟨hv22, hb13⟩ := hv22
          have hl17 := Le.no M hb13
          have hC17 := hC16.no hb13
          obtain rfl := vbool_eq hv22
          refine lw_op rfl rfl rfl (ow_not rfl rfl ?_)
          refine lw_nil ?_
          refine ew_then ?_
          replace h := cond_some h
          rcases h with ⟨hc4, h⟩ | ⟨hc4, h⟩
          · subst hc4
            refine cw_false rfl ?_
            refine cw_skip ?_
            refine ew_then ?_
            refine cw_seq ?_
            refine cw_seq ?_
            refine cw_region ?_
            refine lw_op rfl rfl rfl (ow_move rfl rfl ?_)
            refine lw_op rfl rfl rfl (ow_move rfl rfl ?_)
            refine lw_op rfl rfl rfl (ow_call rfl rfl Tryd.call46 (w_laws_toPacketS (hG.mono (((((((((((hl1.trans hl2).trans hl3).trans hl4).trans hl5).trans hl6).trans hl7).trans hl8).trans hl9).trans hl10).trans hl16).trans hl17)) hC17.old (VRep.mono (((((((((((hl1.trans hl2).trans hl3).trans hl4).trans hl5).trans hl6).trans hl7).trans hl8).trans hl9).trans hl10).trans hl16).trans hl17) h1) hx4) fun v23 w18 hv23 => ?_)
            obtain ⟨hv23, hb14⟩ := hv23
            have hl18 := Le.no M hb14
            have hC18 := hC17.no hb14
            replace h := bind_some h
            obtain ⟨x8, hx8, h⟩ := h
            refine lw_op rfl rfl rfl (ow_call rfl rfl Tryd.call48 (w_laws_eqPacketS (hG.mono ((((((((((((hl1.trans hl2).trans hl3).trans hl4).trans hl5).trans hl6).trans hl7).trans hl8).trans hl9).trans hl10).trans hl16).trans hl17).trans hl18)) hC18.old (VRep.mono (((hl10.trans hl16).trans hl17).trans hl18) hv10) hv23 hx8) fun v24 w19 hv24 => ?_)
            obtain ⟨hv24, hb15⟩ := hv24
            have hl19 := Le.no M hb15
            have hC19 := hC18.no hb15
            obtain rfl := vbool_eq hv24
            refine lw_op rfl rfl rfl (ow_not rfl rfl ?_)
            refine lw_nil ?_
            refine ew_then ?_
            replace h := cond_some h
            rcases h with ⟨hc5, h⟩ | ⟨hc5, h⟩
            · subst hc5
              refine cw_false rfl ?_
              refine cw_skip ?_
              refine ew_then ?_
              refine cw_seq ?_
              refine cw_region ?_
              refine lw_op rfl rfl rfl (ow_assign rfl rfl ?_)
              refine lw_nil ?_
              refine ew_then ?_
              refine cw_ret ?_
              obtain rfl := Option.some.inj h
              exact ew_ret (res1 rfl (.tmp rfl)) ⟨_, rfl, ((vbool _)), hC19.bx⟩
            · subst hc5
              refine cw_true rfl ?_
              refine cw_seq ?_
              refine cw_region ?_
              refine lw_op rfl rfl rfl (ow_assign rfl rfl ?_)
              refine lw_nil ?_
              refine ew_then ?_
              refine cw_ret ?_
              refine ew_thenR ?_
              obtain rfl := Option.some.inj h
              exact ew_ret (res1 rfl (.tmp rfl)) ⟨_, rfl, ((vbool _)), hC19.bx⟩
          · subst hc4
            refine cw_true rfl ?_
            refine cw_seq ?_
            refine cw_region ?_
            refine lw_op rfl rfl rfl (ow_assign rfl rfl ?_)
            refine lw_nil ?_
            refine ew_then ?_
            refine cw_ret ?_
            refine ew_thenR ?_
            obtain rfl := Option.some.inj h
            exact ew_ret (res1 rfl (.tmp rfl)) ⟨_, rfl, ((vbool _)), hC17.bx⟩


end Go.PF
