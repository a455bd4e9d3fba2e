/- The walks; no condition. -/
import Derived.Test.YtfoodjhnagclfaaDoorProg
import Derived.Test.YtfoodjhnagclfaaDoorFun
import Derived.Test.YtfoodjhnagclfaaDoorPFChain
set_option maxRecDepth 100000
set_option maxHeartbeats 4000000
namespace Go.PF
open Go Go.RowKit Go.Proofs

theorem info76 : ∃ i, Tryd.prog.info? 76 = some i ∧ i.zero = some (.agg #[.slice none 0 0, .int .i64 0, .int .i64 0]) ∧ i.size = 3 ∧ i.bytes = 40 := info_parts (by kernel_rfl)
theorem info186 : ∃ i, Tryd.prog.info? 186 = some i ∧ i.zero = some (.agg #[.int .i64 0, .int .i64 0, .int .i64 0, .bool false]) ∧ i.size = 4 ∧ i.bytes = 32 := info_parts (by kernel_rfl)
theorem w_impl_FieldTop {w : World} {M : Nat → Prop} (hG : ARep (RArr 4 RShape) w M shapes ⟨0, 0, none⟩) (hO : ∀ b, M b → b < w.heap.size) {a_n : Int} {r : Int} (h : F.impl_FieldTop a_n = some r) :
    Calls Tryd.prog 107 [(.int .i64 a_n)].toArray w fun e w' => ∃ v, e = .returned v ∧ VRep RInt w' M r v ∧ BX No w w' := by
  have hC : Cx No w M w M := Cx.start hO (fun _ e => e.elim)
  refine walk (N := 13) Tryd.func107 rfl Tryd.ntmps107 rfl ?_
  refine cw_seq ?_
  refine cw_region ?_
  refine lw_op rfl rfl rfl (ow_assign rfl rfl ?_)
  refine lw_nil ?_
  refine ew_then ?_
  refine cw_seq ?_
  refine cw_seq ?_
  refine cw_region ?_
  refine lw_op rfl rfl rfl (ow_move rfl rfl ?_)
  refine lw_op rfl rfl rfl (ow_lss rfl rfl rfl fun bb1 hbb1 => ?_)
  refine lw_op rfl rfl rfl (ow_move rfl rfl ?_)
  replace h := cond_some h
  rcases h with ⟨hc1, h⟩ | ⟨hc1, h⟩
  · obtain rfl := hbb1.trans hc1
    refine lw_off rfl rfl rfl rfl rfl rfl ?_
    refine lw_off rfl rfl rfl rfl rfl rfl ?_
    refine lw_op rfl rfl rfl (ow_pickT rfl rfl rfl ?_)
    refine lw_nil ?_
    refine ew_then ?_
    refine cw_true rfl ?_
    refine cw_seq ?_
    refine cw_region ?_
    refine lw_op rfl rfl rfl (ow_assign rfl rfl ?_)
    refine lw_nil ?_
    refine ew_then ?_
    refine cw_ret ?_
    refine ew_thenR ?_
    obtain rfl := Option.some.inj h
    exact ew_ret (res1 rfl (.tmp rfl)) ⟨_, rfl, ((vint _)), hC.bx⟩
  · obtain rfl := hbb1.trans hc1
    refine lw_on rfl rfl rfl rfl rfl rfl (ow_move rfl rfl ?_)
    refine lw_on rfl rfl rfl rfl rfl rfl (ow_geq rfl rfl rfl fun bb2 hbb2 => ?_)
    refine lw_op rfl rfl rfl (ow_pickF rfl rfl rfl ?_)
    refine lw_nil ?_
    refine ew_then ?_
    replace h := cond_some h
    rcases h with ⟨hc2, h⟩ | ⟨hc2, h⟩
    · obtain rfl := hbb2.trans hc2
      refine cw_true rfl ?_
      refine cw_seq ?_
      refine cw_region ?_
      refine lw_op rfl rfl rfl (ow_assign rfl rfl ?_)
      refine lw_nil ?_
      refine ew_then ?_
      refine cw_ret ?_
      refine ew_thenR ?_
      obtain rfl := Option.some.inj h
      exact ew_ret (res1 rfl (.tmp rfl)) ⟨_, rfl, ((vint _)), hC.bx⟩
    · obtain rfl := hbb2.trans hc2
      refine cw_false rfl ?_
      refine cw_skip ?_
      refine ew_then ?_
      refine cw_seq ?_
      refine cw_region ?_
      refine lw_op rfl rfl rfl (ow_move rfl rfl ?_)
      replace h := bind_some h
      obtain ⟨x1, hx1, h⟩ := h
      refine lw_op rfl rfl rfl (ow_indexArr (R := RShape) rfl rfl rfl hG Tryd.underlying192 (Tryd.sizeOf191 _) hx1 fun p1 hp1 => ?_)
      refine lw_op rfl rfl rfl (ow_fieldAddr rfl rfl Tryd.underlying191 rfl (Tryd.sizeOf3 _) ?_)
      refine lw_op rfl rfl rfl (ow_load (R := RInt) rfl rfl (hp1.fld fld_Shape_top) (Tryd.sizeOf3 _) (Tryd.isAgg3 _) fun v1 hv1 => ?_)
      obtain rfl := vint_eq hv1
      refine lw_op rfl rfl rfl (ow_assign rfl rfl ?_)
      refine lw_nil ?_
      refine ew_then ?_
      refine cw_ret ?_
      obtain rfl := Option.some.inj h
      exact ew_ret (res1 rfl (.tmp rfl)) ⟨_, rfl, ((vint _)), hC.bx⟩

theorem w_impl_Packet_fields {w : World} {M : Nat → Prop} (_hG : ARep (RArr 4 RShape) w M shapes ⟨0, 0, none⟩) (hO : ∀ b, M b → b < w.heap.size) {v0p : Value} {a_p : Packet} (h0 : VRep RPacket w M a_p v0p) {r : (List Int)} (h : F.impl_Packet_fields a_p = some r) :
    Calls Tryd.prog 119 [v0p].toArray w fun e w' => ∃ v, e = .returned v ∧ VRep (RArr 4 RInt) w' M r v ∧ BX No w w' := by
  have hC : Cx No w M w M := Cx.start hO (fun _ e => e.elim)
  clear _hG
  refine walk (N := 12) Tryd.func119 rfl Tryd.ntmps119 rfl ?_
  refine cw_seq ?_
  refine cw_region ?_
  refine lw_op rfl rfl rfl (ow_box (R := RPacket) rfl rfl h0 hC fun p1 w1 hp1 hb1 hl1 hC1 => ?_)
  refine lw_op rfl rfl rfl (ow_alloc rfl (Tryd.zeroValue149 _) hC1 fun g1 w2 hg1 hg2 ho1 hb2 hl2 hC2 => ?_)
  have hm1 : (Add g1 M) g1 := .inl rfl
  have ho2 : OwnA (RArr 4 RInt) w2 (Add g1 M) g1 149 [0, 0, 0, 0] := OwnA.of ho1 ⟨rfl, ⟨_, _, rfl, (vint _).cells, _, _, rfl, (vint _).cells, _, _, rfl, (vint _).cells, _, _, rfl, (vint _).cells, rfl⟩⟩
  refine lw_nil ?_
  refine ew_then ?_
  refine cw_seq ?_
  refine cw_region ?_
  refine lw_op rfl rfl rfl (ow_fieldAddr rfl rfl Tryd.underlying39 rfl (Tryd.sizeOf3 _) ?_)
  refine lw_op rfl rfl rfl (ow_load (R := RInt) rfl rfl (ARep.mono hl2 (hp1.fld fld_Packet_From)) (Tryd.sizeOf3 _) (Tryd.isAgg3 _) fun v1 hv1 => ?_)
  obtain rfl := vint_eq hv1
  refine lw_op rfl rfl rfl (ow_fieldAddr rfl rfl Tryd.underlying39 rfl (Tryd.sizeOf3 _) ?_)
  refine lw_op rfl rfl rfl (ow_load (R := RInt) rfl rfl (ARep.mono hl2 (hp1.fld fld_Packet_To)) (Tryd.sizeOf3 _) (Tryd.isAgg3 _) fun v2 hv2 => ?_)
  obtain rfl := vint_eq hv2
  refine lw_op rfl rfl rfl (ow_fieldAddr rfl rfl Tryd.underlying39 rfl (Tryd.sizeOf3 _) ?_)
  refine lw_op rfl rfl rfl (ow_load (R := RInt) rfl rfl (ARep.mono hl2 (hp1.fld fld_Packet_Port)) (Tryd.sizeOf3 _) (Tryd.isAgg3 _) fun v3 hv3 => ?_)
  obtain rfl := vint_eq hv3
  refine lw_op rfl rfl rfl (ow_fieldAddr rfl rfl Tryd.underlying39 rfl (Tryd.sizeOf3 _) ?_)
  refine lw_op rfl rfl rfl (ow_load (R := RInt) rfl rfl (ARep.mono hl2 (hp1.fld fld_Packet_Proto)) (Tryd.sizeOf3 _) (Tryd.isAgg3 _) fun v4 hv4 => ?_)
  obtain rfl := vint_eq hv4
  refine lw_op rfl rfl rfl (ow_build (v := .agg #[(.int .i64 a_p.From), (.int .i64 a_p.To), (.int .i64 a_p.Port), (.int .i64 a_p.Proto)]) rfl rfl (by kernel_rfl) ?_)
  have hw1 : VRep (RArr 4 RInt) w2 (Add g1 M) [a_p.From, a_p.To, a_p.Port, a_p.Proto] (.agg #[(.int .i64 a_p.From), (.int .i64 a_p.To), (.int .i64 a_p.Port), (.int .i64 a_p.Proto)]) := ⟨_, ⟨rfl, ⟨_, _, rfl, (vint _).cells, _, _, rfl, (vint _).cells, _, _, rfl, (vint _).cells, _, _, rfl, (vint _).cells, rfl⟩⟩, rfl⟩
  obtain ⟨cs1, h1, h2⟩ := ho2.own
  refine lw_op0 rfl rfl (ow_storeA (X := No) (R := (RArr 4 RInt)) rfl rfl rfl rfl h1 h2 (Tryd.sizeOf149 _) hw1 hm1 (.inl hg2) hC2 fun w3 ho3 hb3 hl3 hC3 => ?_)
  refine lw_nil ?_
  refine ew_then ?_
  refine cw_ret ?_
  obtain rfl := Option.some.inj h
  obtain ⟨v5, hq1, hw2⟩ := resA ho3 (Tryd.sizeOf149 _) (Tryd.isAgg149 _) rfl
  exact ew_ret (res1 rfl (.cell rfl hq1)) ⟨_, rfl, (hw2.mono hC3.back), hC3.bx⟩

theorem w_impl_PacketValid {w : World} {M : Nat → Prop} (hG : ARep (RArr 4 RShape) w M shapes ⟨0, 0, none⟩) (hO : ∀ b, M b → b < w.heap.size) {v0p : Value} {a_p : Packet} (h0 : VRep RPacket w M a_p v0p) {r : Bool} (h : F.impl_PacketValid a_p = some r) :
    Calls Tryd.prog 70 [v0p].toArray w fun e w' => ∃ v, e = .returned v ∧ VRep RBool w' M r v ∧ BX No w w' := by
  have hC : Cx No w M w M := Cx.start hO (fun _ e => e.elim)
  refine walk (N := 20) Tryd.func70 rfl Tryd.ntmps70 rfl ?_
  refine cw_seq ?_
  refine cw_region ?_
  refine lw_op rfl rfl rfl (ow_box (R := RPacket) rfl rfl h0 hC fun p1 w1 hp1 hb1 hl1 hC1 => ?_)
  refine lw_op rfl rfl rfl (ow_assign rfl rfl ?_)
  refine lw_nil ?_
  refine ew_then ?_
  refine cw_seq ?_
  refine cw_seq ?_
  refine cw_region ?_
  refine lw_op rfl rfl rfl (ow_load (R := RPacket) rfl rfl hp1 (Tryd.sizeOf39 _) (Tryd.isAgg39 _) fun v1 hv1 => ?_)
  replace h := bind_some h
  obtain ⟨x1, hx1, h⟩ := h
  refine lw_op rfl rfl rfl (ow_call rfl rfl Tryd.call119 (w_impl_Packet_fields (hG.mono hl1) hC1.old hv1 hx1) fun v2 w2 hv2 => ?_)
  obtain ⟨hv2, hb2⟩ := hv2
  have hl2 := Le.no M hb2
  have hC2 := hC1.no hb2
  refine lw_op rfl rfl rfl (ow_move rfl rfl ?_)
  refine lw_nil ?_
  refine ew_then ?_
  replace h := bind_some h
  obtain ⟨lr1, hlr1, h⟩ := h
  refine cw_for hlr1 (fun s a w' => ∃ (M' : Nat → Prop), Fits 20 [(6, v2), (7, (.int .i64 s))] a ∧ Le w2 M w' M' ∧ Cx No w M w' M') ?_ ?_ ?_
  · intro a ha
    exact ⟨M, ha.sub ⟨rfl, rfl, trivial⟩, Le.refl _ _, hC2⟩
  · rintro k1 a w3 sr1 ⟨M1, hF1, hl3, hC3⟩ hb3 hR1
    refine cw_at (E := [(6, v2), (7, (.int .i64 k1))]) hF1 ?_
    refine cw_seq ?_
    refine cw_region ?_
    refine lw_op rfl rfl rfl (ow_lss rfl rfl rfl fun bb1 hbb1 => ?_)
    refine lw_nil ?_
    refine ew_then ?_
    refine cw_seq ?_
    replace hb3 := cond_some hb3
    rcases hb3 with ⟨hc1, hb3⟩ | ⟨hc1, hb3⟩
    · obtain rfl := hbb1.trans hc1
      refine cw_true rfl ?_
      refine cw_skip ?_
      refine ew_then ?_
      refine cw_seq ?_
      refine cw_block ?_
      refine cw_seq ?_
      refine cw_region ?_
      refine lw_op rfl rfl rfl (ow_move rfl rfl ?_)
      replace hb3 := bind_some hb3
      obtain ⟨x2, hx2, hb3⟩ := hb3
      refine lw_op rfl rfl rfl (ow_index (R := RInt) rfl rfl rfl (VRep.mono hl3 hv2) Tryd.underlying149 (Tryd.sizeOf3 _) (Tryd.isAgg3 _) hx2 fun v4 hv4 => ?_)
      obtain rfl := vint_eq hv4
      refine lw_op rfl rfl rfl (ow_assign rfl rfl ?_)
      refine lw_op rfl rfl rfl (ow_assign rfl rfl ?_)
      refine lw_nil ?_
      refine ew_then ?_
      refine cw_seq ?_
      refine cw_region ?_
      refine lw_op rfl rfl rfl (ow_move rfl rfl ?_)
      refine lw_op rfl rfl rfl (ow_lss rfl rfl rfl fun bb2 hbb2 => ?_)
      refine lw_op rfl rfl rfl (ow_move rfl rfl ?_)
      replace hb3 := cond_some hb3
      rcases hb3 with ⟨hc2, hb3⟩ | ⟨hc2, hb3⟩
      · obtain rfl := hbb2.trans hc2
        refine lw_off rfl rfl rfl rfl rfl rfl ?_
        refine lw_off rfl rfl rfl rfl rfl rfl ?_
        refine lw_off rfl rfl rfl rfl rfl rfl ?_
        refine lw_off rfl rfl rfl rfl rfl rfl ?_
        refine lw_op rfl rfl rfl (ow_pickT rfl rfl rfl ?_)
        refine lw_nil ?_
        refine ew_then ?_
        refine cw_true rfl ?_
        refine cw_seq ?_
        refine cw_region ?_
        refine lw_op rfl rfl rfl (ow_assign rfl rfl ?_)
        refine lw_nil ?_
        refine ew_then ?_
        refine cw_ret ?_
        refine ew_blockR ?_
        refine ew_thenR ?_
        refine ew_thenR ?_
        refine ew_blockR ?_
        refine ew_brkR ?_
        refine ew_thenR ?_
        have e1 := hR1 _ (Option.some.inj hb3).symm
        subst e1
        obtain rfl := Option.some.inj h
        exact ew_ret (res1 rfl (.tmp rfl)) ⟨_, rfl, ((vbool _)), hC3.bx⟩
      · obtain rfl := hbb2.trans hc2
        refine lw_on rfl rfl rfl rfl rfl rfl (ow_move rfl rfl ?_)
        refine lw_on rfl rfl rfl rfl rfl rfl (ow_move rfl rfl ?_)
        replace hb3 := bind_some hb3
        obtain ⟨x3, hx3, hb3⟩ := hb3
        refine lw_on rfl rfl rfl rfl rfl rfl (ow_call rfl rfl Tryd.call107 (w_impl_FieldTop (hG.mono ((hl1.trans hl2).trans hl3)) hC3.old hx3) fun v5 w4 hv5 => ?_)
        obtain ⟨hv5, hb4⟩ := hv5
        have hl4 := Le.no M1 hb4
        have hC4 := hC3.no hb4
        obtain rfl := vint_eq hv5
        refine lw_on rfl rfl rfl rfl rfl rfl (ow_gtr rfl rfl rfl fun bb3 hbb3 => ?_)
        refine lw_op rfl rfl rfl (ow_pickF rfl rfl rfl ?_)
        refine lw_nil ?_
        refine ew_then ?_
        replace hb3 := cond_some hb3
        rcases hb3 with ⟨hc3, hb3⟩ | ⟨hc3, hb3⟩
        · obtain rfl := hbb3.trans hc3
          refine cw_true rfl ?_
          refine cw_seq ?_
          refine cw_region ?_
          refine lw_op rfl rfl rfl (ow_assign rfl rfl ?_)
          refine lw_nil ?_
          refine ew_then ?_
          refine cw_ret ?_
          refine ew_blockR ?_
          refine ew_thenR ?_
          refine ew_thenR ?_
          refine ew_blockR ?_
          refine ew_brkR ?_
          refine ew_thenR ?_
          have e2 := hR1 _ (Option.some.inj hb3).symm
          subst e2
          obtain rfl := Option.some.inj h
          exact ew_ret (res1 rfl (.tmp rfl)) ⟨_, rfl, ((vbool _)), hC4.bx⟩
        · obtain rfl := hbb3.trans hc3
          refine cw_false rfl ?_
          refine cw_skip ?_
          refine ew_blockN ?_
          refine ew_then ?_
          refine cw_region ?_
          refine lw_op rfl rfl rfl (ow_add rfl rfl rfl ?_)
          refine lw_op rfl rfl rfl (ow_move rfl rfl ?_)
          refine lw_nil ?_
          refine ew_nxt (W (k1 + 1)) hb3 fun a ha => ⟨M1, ?_, (hl3.trans hl4), hC4⟩
          exact ha.sub ⟨rfl, rfl, trivial⟩
    · obtain rfl := hbb1.trans hc1
      refine cw_false rfl ?_
      refine cw_exit ?_
      refine ew_thenX ?_
      refine ew_thenX ?_
      refine ew_blockX ?_
      refine ew_brk k1 hb3 fun a ha => ⟨M1, ?_, hl3, hC3⟩
      exact ha.sub ⟨rfl, rfl, trivial⟩
  · rintro k2 a w5 hlr2 ⟨M2, hF2, hl5, hC5⟩
    subst hlr2
    refine ew_at (E := [(6, v2), (7, (.int .i64 k2))]) hF2 ?_
    refine ew_then ?_
    refine cw_seq ?_
    refine cw_region ?_
    refine lw_op rfl rfl rfl (ow_assign rfl rfl ?_)
    refine lw_nil ?_
    refine ew_then ?_
    refine cw_ret ?_
    obtain rfl := Option.some.inj h
    exact ew_ret (res1 rfl (.tmp rfl)) ⟨_, rfl, ((vbool _)), hC5.bx⟩

theorem w_impl_TestValid {w : World} {M : Nat → Prop} (hG : ARep (RArr 4 RShape) w M shapes ⟨0, 0, none⟩) (hO : ∀ b, M b → b < w.heap.size) {v0p : Value} {a_t : Test} (h0 : VRep RTest w M a_t v0p) {r : Bool} (h : F.impl_TestValid a_t = some r) :
    Calls Tryd.prog 141 [v0p].toArray w fun e w' => ∃ v, e = .returned v ∧ VRep RBool w' M r v ∧ BX No w w' := by
  have hC : Cx No w M w M := Cx.start hO (fun _ e => e.elim)
  refine walk (N := 31) Tryd.func141 rfl Tryd.ntmps141 rfl ?_
  refine cw_seq ?_
  refine cw_region ?_
  refine lw_op rfl rfl rfl (ow_box (R := RTest) rfl rfl h0 hC fun p1 w1 hp1 hb1 hl1 hC1 => ?_)
  refine lw_op rfl rfl rfl (ow_assign rfl rfl ?_)
  refine lw_nil ?_
  refine ew_then ?_
  refine cw_seq ?_
  replace h := cond_some h
  rcases h with ⟨hc1, h⟩ | ⟨hc1, h⟩
  · replace h := cond_some h
    rcases h with ⟨hc2, h⟩ | ⟨hc2, h⟩
    · replace h := cond_some h
      rcases h with ⟨hc3, h⟩ | ⟨hc3, h⟩
      · replace h := cond_some h
        rcases h with ⟨hc4, h⟩ | ⟨hc4, h⟩
        · replace h := bind_some h
          obtain ⟨x1, hx1, h⟩ := h
          refine cw_sub (E' := [(1, (.pointer (some p1))), (2, (.bool false))]) ⟨rfl, rfl, trivial⟩ ?_
          refine cw_drawQ 26 [PA RInt M a_t.Field, PEq (.int .i64 a_t.Field), PEq (.bool true), PEq (.bool true), PA RInt M a_t.Field, PEq (.int .i64 a_t.Field), PEq (.bool true), PEq (.bool true), PEq (.bool true), PA RInt M a_t.Lo, PEq (.int .i64 a_t.Lo), PEq (.bool true), PEq (.bool true), PEq (.bool true), PA RInt M a_t.Lo, PEq (.int .i64 a_t.Lo), PA RInt M a_t.Hi, PEq (.int .i64 a_t.Hi), PEq (.bool true), PEq (.bool true), PEq (.bool true), PA RInt M a_t.Hi, PEq (.int .i64 a_t.Hi), PA RInt M a_t.Field, PEq (.int .i64 a_t.Field), PEq (.int .i64 x1)] (by kernel_rfl) rfl (by kernel_rfl) ⟨PA.mono _ _ _, PEq.mono _, PEq.mono _, PEq.mono _, PA.mono _ _ _, PEq.mono _, PEq.mono _, PEq.mono _, PEq.mono _, PA.mono _ _ _, PEq.mono _, PEq.mono _, PEq.mono _, PEq.mono _, PA.mono _ _ _, PEq.mono _, PA.mono _ _ _, PEq.mono _, PEq.mono _, PEq.mono _, PEq.mono _, PA.mono _ _ _, PEq.mono _, PA.mono _ _ _, PEq.mono _, PEq.mono _, trivial⟩ ⟨?_, ?_, ?_, ?_, ?_, ?_, ?_, ?_, ?_, ?_, ?_, ?_, ?_, ?_, ?_, ?_, ?_, ?_, ?_, ?_, ?_, ?_, ?_, ?_, ?_, ?_, trivial⟩ ?_
          · intro w3 D hS1 hd1
            have hl3 := Le.no M hS1
            have hC3 := hC1.no hS1
            refine dg_sub (E' := [(1, (.pointer (some p1)))]) ⟨rfl, trivial⟩ ?_
            refine dg_plain rfl (ow_fieldAddr rfl rfl Tryd.underlying186 rfl (Tryd.sizeOf3 _) ?_)
            exact ⟨BX.refl _ _, ⟨_, rfl, (ARep.mono hl3 (hp1.fld fld_Test_Field))⟩⟩
          · intro w4 D hS2 hd2
            have hl4 := Le.no M hS2
            have hC4 := hC1.no hS2
            have hd2 : PA RInt M a_t.Field (D 0) w4 ∧ True := hd2
            obtain ⟨d1, -⟩ := hd2
            obtain ⟨p2, e1, ha1⟩ := d1
            refine dg_sub (E' := [(3, (.pointer (some p2)))]) ⟨(congrArg some e1), trivial⟩ ?_
            refine dg_plain rfl (ow_load (R := RInt) rfl rfl ha1 (Tryd.sizeOf3 _) (Tryd.isAgg3 _) fun v9 hv9 => ?_)
            obtain rfl := vint_eq hv9
            exact ⟨BX.refl _ _, rfl⟩
          · intro w5 D hS3 hd3
            have hl5 := Le.no M hS3
            have hC5 := hC1.no hS3
            have hd3 : PEq (.int .i64 a_t.Field) (D 1) w5 ∧ True := hd3
            obtain ⟨d2, -⟩ := hd3
            refine dg_sub (E' := [(4, (.int .i64 a_t.Field))]) ⟨(congrArg some d2), trivial⟩ ?_
            refine dg_plain rfl (ow_geq rfl rfl rfl fun bb5 hbb5 => ?_)
            obtain rfl := hbb5.trans hc1
            exact ⟨BX.refl _ _, rfl⟩
          · intro w6 D hS4 hd4
            have hl6 := Le.no M hS4
            have hC6 := hC1.no hS4
            have hd4 : PEq (.bool true) (D 2) w6 ∧ True := hd4
            obtain ⟨d3, -⟩ := hd4
            refine dg_sub (E' := [(5, (.bool true))]) ⟨(congrArg some d3), trivial⟩ ?_
            refine dg_plain rfl (ow_move rfl rfl ?_)
            exact ⟨BX.refl _ _, rfl⟩
          · intro w7 D hS5 hd5
            have hl7 := Le.no M hS5
            have hC7 := hC1.no hS5
            have hd5 : PEq (.bool true) (D 3) w7 ∧ True := hd5
            obtain ⟨d4, -⟩ := hd5
            refine dg_sub (E' := [(6, (.bool true)), (1, (.pointer (some p1)))]) ⟨(congrArg some d4), rfl, trivial⟩ ?_
            refine dg_on rfl rfl rfl rfl (ow_fieldAddr rfl rfl Tryd.underlying186 rfl (Tryd.sizeOf3 _) ?_)
            exact ⟨BX.refl _ _, ⟨_, rfl, (ARep.mono hl7 (hp1.fld fld_Test_Field))⟩⟩
          · intro w8 D hS6 hd6
            have hl8 := Le.no M hS6
            have hC8 := hC1.no hS6
            have hd6 : PA RInt M a_t.Field (D 4) w8 ∧ PEq (.bool true) (D 3) w8 ∧ True := hd6
            obtain ⟨d5, d6, -⟩ := hd6
            obtain ⟨p3, e2, ha2⟩ := d5
            refine dg_sub (E' := [(7, (.pointer (some p3))), (6, (.bool true))]) ⟨(congrArg some e2), (congrArg some d6), trivial⟩ ?_
            refine dg_on rfl rfl rfl rfl (ow_load (R := RInt) rfl rfl ha2 (Tryd.sizeOf3 _) (Tryd.isAgg3 _) fun v10 hv10 => ?_)
            obtain rfl := vint_eq hv10
            exact ⟨BX.refl _ _, rfl⟩
          · intro w9 D hS7 hd7
            have hl9 := Le.no M hS7
            have hC9 := hC1.no hS7
            have hd7 : PEq (.int .i64 a_t.Field) (D 5) w9 ∧ PEq (.bool true) (D 3) w9 ∧ True := hd7
            obtain ⟨d7, d8, -⟩ := hd7
            refine dg_sub (E' := [(8, (.int .i64 a_t.Field)), (6, (.bool true))]) ⟨(congrArg some d7), (congrArg some d8), trivial⟩ ?_
            refine dg_on rfl rfl rfl rfl (ow_lss rfl rfl rfl fun bb6 hbb6 => ?_)
            obtain rfl := hbb6.trans hc2
            exact ⟨BX.refl _ _, rfl⟩
          · intro w10 D hS8 hd8
            have hl10 := Le.no M hS8
            have hC10 := hC1.no hS8
            have hd8 : PEq (.bool true) (D 3) w10 ∧ PEq (.bool true) (D 6) w10 ∧ True := hd8
            obtain ⟨d9, d10, -⟩ := hd8
            refine dg_sub (E' := [(6, (.bool true)), (9, (.bool true))]) ⟨(congrArg some d9), (congrArg some d10), trivial⟩ ?_
            refine dg_plain rfl (ow_pickT rfl rfl rfl ?_)
            exact ⟨BX.refl _ _, rfl⟩
          · intro w11 D hS9 hd9
            have hl11 := Le.no M hS9
            have hC11 := hC1.no hS9
            have hd9 : PEq (.bool true) (D 7) w11 ∧ PEq (.bool true) (D 3) w11 ∧ True := hd9
            obtain ⟨d11, d12, -⟩ := hd9
            refine dg_sub (E' := [(10, (.bool true))]) ⟨(congrArg some d11), trivial⟩ ?_
            refine dg_plain rfl (ow_move rfl rfl ?_)
            exact ⟨BX.refl _ _, rfl⟩
          · intro w12 D hS10 hd10
            have hl12 := Le.no M hS10
            have hC12 := hC1.no hS10
            have hd10 : PEq (.bool true) (D 8) w12 ∧ True := hd10
            obtain ⟨d13, -⟩ := hd10
            refine dg_sub (E' := [(11, (.bool true)), (1, (.pointer (some p1)))]) ⟨(congrArg some d13), rfl, trivial⟩ ?_
            refine dg_on rfl rfl rfl rfl (ow_fieldAddr rfl rfl Tryd.underlying186 rfl (Tryd.sizeOf3 _) ?_)
            exact ⟨BX.refl _ _, ⟨_, rfl, (ARep.mono hl12 (hp1.fld fld_Test_Lo))⟩⟩
          · intro w13 D hS11 hd11
            have hl13 := Le.no M hS11
            have hC13 := hC1.no hS11
            have hd11 : PA RInt M a_t.Lo (D 9) w13 ∧ PEq (.bool true) (D 8) w13 ∧ True := hd11
            obtain ⟨d14, d15, -⟩ := hd11
            obtain ⟨p4, e3, ha3⟩ := d14
            refine dg_sub (E' := [(12, (.pointer (some p4))), (11, (.bool true))]) ⟨(congrArg some e3), (congrArg some d15), trivial⟩ ?_
            refine dg_on rfl rfl rfl rfl (ow_load (R := RInt) rfl rfl ha3 (Tryd.sizeOf3 _) (Tryd.isAgg3 _) fun v11 hv11 => ?_)
            obtain rfl := vint_eq hv11
            exact ⟨BX.refl _ _, rfl⟩
          · intro w14 D hS12 hd12
            have hl14 := Le.no M hS12
            have hC14 := hC1.no hS12
            have hd12 : PEq (.int .i64 a_t.Lo) (D 10) w14 ∧ PEq (.bool true) (D 8) w14 ∧ True := hd12
            obtain ⟨d16, d17, -⟩ := hd12
            refine dg_sub (E' := [(13, (.int .i64 a_t.Lo)), (11, (.bool true))]) ⟨(congrArg some d16), (congrArg some d17), trivial⟩ ?_
            refine dg_on rfl rfl rfl rfl (ow_geq rfl rfl rfl fun bb7 hbb7 => ?_)
            obtain rfl := hbb7.trans hc3
            exact ⟨BX.refl _ _, rfl⟩
          · intro w15 D hS13 hd13
            have hl15 := Le.no M hS13
            have hC15 := hC1.no hS13
            have hd13 : PEq (.bool true) (D 8) w15 ∧ PEq (.bool true) (D 11) w15 ∧ True := hd13
            obtain ⟨d18, d19, -⟩ := hd13
            refine dg_sub (E' := [(11, (.bool true)), (14, (.bool true))]) ⟨(congrArg some d18), (congrArg some d19), trivial⟩ ?_
            refine dg_plain rfl (ow_pickT rfl rfl rfl ?_)
            exact ⟨BX.refl _ _, rfl⟩
          · intro w16 D hS14 hd14
            have hl16 := Le.no M hS14
            have hC16 := hC1.no hS14
            have hd14 : PEq (.bool true) (D 12) w16 ∧ PEq (.bool true) (D 8) w16 ∧ True := hd14
            obtain ⟨d20, d21, -⟩ := hd14
            refine dg_sub (E' := [(15, (.bool true))]) ⟨(congrArg some d20), trivial⟩ ?_
            refine dg_plain rfl (ow_move rfl rfl ?_)
            exact ⟨BX.refl _ _, rfl⟩
          · intro w17 D hS15 hd15
            have hl17 := Le.no M hS15
            have hC17 := hC1.no hS15
            have hd15 : PEq (.bool true) (D 13) w17 ∧ True := hd15
            obtain ⟨d22, -⟩ := hd15
            refine dg_sub (E' := [(16, (.bool true)), (1, (.pointer (some p1)))]) ⟨(congrArg some d22), rfl, trivial⟩ ?_
            refine dg_on rfl rfl rfl rfl (ow_fieldAddr rfl rfl Tryd.underlying186 rfl (Tryd.sizeOf3 _) ?_)
            exact ⟨BX.refl _ _, ⟨_, rfl, (ARep.mono hl17 (hp1.fld fld_Test_Lo))⟩⟩
          · intro w18 D hS16 hd16
            have hl18 := Le.no M hS16
            have hC18 := hC1.no hS16
            have hd16 : PA RInt M a_t.Lo (D 14) w18 ∧ PEq (.bool true) (D 13) w18 ∧ True := hd16
            obtain ⟨d23, d24, -⟩ := hd16
            obtain ⟨p5, e4, ha4⟩ := d23
            refine dg_sub (E' := [(17, (.pointer (some p5))), (16, (.bool true))]) ⟨(congrArg some e4), (congrArg some d24), trivial⟩ ?_
            refine dg_on rfl rfl rfl rfl (ow_load (R := RInt) rfl rfl ha4 (Tryd.sizeOf3 _) (Tryd.isAgg3 _) fun v12 hv12 => ?_)
            obtain rfl := vint_eq hv12
            exact ⟨BX.refl _ _, rfl⟩
          · intro w19 D hS17 hd17
            have hl19 := Le.no M hS17
            have hC19 := hC1.no hS17
            have hd17 : PEq (.bool true) (D 13) w19 ∧ True := hd17
            obtain ⟨d25, -⟩ := hd17
            refine dg_sub (E' := [(16, (.bool true)), (1, (.pointer (some p1)))]) ⟨(congrArg some d25), rfl, trivial⟩ ?_
            refine dg_on rfl rfl rfl rfl (ow_fieldAddr rfl rfl Tryd.underlying186 rfl (Tryd.sizeOf3 _) ?_)
            exact ⟨BX.refl _ _, ⟨_, rfl, (ARep.mono hl19 (hp1.fld fld_Test_Hi))⟩⟩
          · intro w20 D hS18 hd18
            have hl20 := Le.no M hS18
            have hC20 := hC1.no hS18
            have hd18 : PA RInt M a_t.Hi (D 16) w20 ∧ PEq (.bool true) (D 13) w20 ∧ True := hd18
            obtain ⟨d26, d27, -⟩ := hd18
            obtain ⟨p6, e5, ha5⟩ := d26
            refine dg_sub (E' := [(19, (.pointer (some p6))), (16, (.bool true))]) ⟨(congrArg some e5), (congrArg some d27), trivial⟩ ?_
            refine dg_on rfl rfl rfl rfl (ow_load (R := RInt) rfl rfl ha5 (Tryd.sizeOf3 _) (Tryd.isAgg3 _) fun v13 hv13 => ?_)
            obtain rfl := vint_eq hv13
            exact ⟨BX.refl _ _, rfl⟩
          · intro w21 D hS19 hd19
            have hl21 := Le.no M hS19
            have hC21 := hC1.no hS19
            have hd19 : PEq (.int .i64 a_t.Lo) (D 15) w21 ∧ PEq (.int .i64 a_t.Hi) (D 17) w21 ∧ PEq (.bool true) (D 13) w21 ∧ True := hd19
            obtain ⟨d28, d29, d30, -⟩ := hd19
            refine dg_sub (E' := [(18, (.int .i64 a_t.Lo)), (20, (.int .i64 a_t.Hi)), (16, (.bool true))]) ⟨(congrArg some d28), (congrArg some d29), (congrArg some d30), trivial⟩ ?_
            refine dg_on rfl rfl rfl rfl (ow_leq rfl rfl rfl fun bb8 hbb8 => ?_)
            obtain rfl := hbb8.trans hc4
            exact ⟨BX.refl _ _, rfl⟩
          · intro w22 D hS20 hd20
            have hl22 := Le.no M hS20
            have hC22 := hC1.no hS20
            have hd20 : PEq (.bool true) (D 13) w22 ∧ PEq (.bool true) (D 18) w22 ∧ True := hd20
            obtain ⟨d31, d32, -⟩ := hd20
            refine dg_sub (E' := [(16, (.bool true)), (21, (.bool true))]) ⟨(congrArg some d31), (congrArg some d32), trivial⟩ ?_
            refine dg_plain rfl (ow_pickT rfl rfl rfl ?_)
            exact ⟨BX.refl _ _, rfl⟩
          · intro w23 D hS21 hd21
            have hl23 := Le.no M hS21
            have hC23 := hC1.no hS21
            have hd21 : PEq (.bool true) (D 19) w23 ∧ PEq (.bool true) (D 13) w23 ∧ True := hd21
            obtain ⟨d33, d34, -⟩ := hd21
            refine dg_sub (E' := [(22, (.bool true))]) ⟨(congrArg some d33), trivial⟩ ?_
            refine dg_plain rfl (ow_move rfl rfl ?_)
            exact ⟨BX.refl _ _, rfl⟩
          · intro w24 D hS22 hd22
            have hl24 := Le.no M hS22
            have hC24 := hC1.no hS22
            have hd22 : PEq (.bool true) (D 20) w24 ∧ True := hd22
            obtain ⟨d35, -⟩ := hd22
            refine dg_sub (E' := [(23, (.bool true)), (1, (.pointer (some p1)))]) ⟨(congrArg some d35), rfl, trivial⟩ ?_
            refine dg_on rfl rfl rfl rfl (ow_fieldAddr rfl rfl Tryd.underlying186 rfl (Tryd.sizeOf3 _) ?_)
            exact ⟨BX.refl _ _, ⟨_, rfl, (ARep.mono hl24 (hp1.fld fld_Test_Hi))⟩⟩
          · intro w25 D hS23 hd23
            have hl25 := Le.no M hS23
            have hC25 := hC1.no hS23
            have hd23 : PA RInt M a_t.Hi (D 21) w25 ∧ PEq (.bool true) (D 20) w25 ∧ True := hd23
            obtain ⟨d36, d37, -⟩ := hd23
            obtain ⟨p7, e6, ha6⟩ := d36
            refine dg_sub (E' := [(24, (.pointer (some p7))), (23, (.bool true))]) ⟨(congrArg some e6), (congrArg some d37), trivial⟩ ?_
            refine dg_on rfl rfl rfl rfl (ow_load (R := RInt) rfl rfl ha6 (Tryd.sizeOf3 _) (Tryd.isAgg3 _) fun v14 hv14 => ?_)
            obtain rfl := vint_eq hv14
            exact ⟨BX.refl _ _, rfl⟩
          · intro w26 D hS24 hd24
            have hl26 := Le.no M hS24
            have hC26 := hC1.no hS24
            have hd24 : PEq (.bool true) (D 20) w26 ∧ True := hd24
            obtain ⟨d38, -⟩ := hd24
            refine dg_sub (E' := [(23, (.bool true)), (1, (.pointer (some p1)))]) ⟨(congrArg some d38), rfl, trivial⟩ ?_
            refine dg_on rfl rfl rfl rfl (ow_fieldAddr rfl rfl Tryd.underlying186 rfl (Tryd.sizeOf3 _) ?_)
            exact ⟨BX.refl _ _, ⟨_, rfl, (ARep.mono hl26 (hp1.fld fld_Test_Field))⟩⟩
          · intro w27 D hS25 hd25
            have hl27 := Le.no M hS25
            have hC27 := hC1.no hS25
            have hd25 : PA RInt M a_t.Field (D 23) w27 ∧ PEq (.bool true) (D 20) w27 ∧ True := hd25
            obtain ⟨d39, d40, -⟩ := hd25
            obtain ⟨p8, e7, ha7⟩ := d39
            refine dg_sub (E' := [(26, (.pointer (some p8))), (23, (.bool true))]) ⟨(congrArg some e7), (congrArg some d40), trivial⟩ ?_
            refine dg_on rfl rfl rfl rfl (ow_load (R := RInt) rfl rfl ha7 (Tryd.sizeOf3 _) (Tryd.isAgg3 _) fun v15 hv15 => ?_)
            obtain rfl := vint_eq hv15
            exact ⟨BX.refl _ _, rfl⟩
          · intro w28 D hS26 hd26
            have hl28 := Le.no M hS26
            have hC28 := hC1.no hS26
            have hd26 : PEq (.int .i64 a_t.Field) (D 24) w28 ∧ PEq (.bool true) (D 20) w28 ∧ PEq (.bool true) (D 20) w28 ∧ True := hd26
            obtain ⟨d41, d42, d43, -⟩ := hd26
            refine dg_sub (E' := [(27, (.int .i64 a_t.Field)), (23, (.bool true))]) ⟨(congrArg some d41), (congrArg some d42), trivial⟩ ?_
            refine dg_on rfl rfl rfl rfl (ow_call rfl rfl Tryd.call107 (w_impl_FieldTop (hG.mono (hl1.trans hl28)) hC28.old hx1) fun v16 w29 hv16 => ?_)
            obtain ⟨hv16, hb3⟩ := hv16
            have hl29 := Le.no M hb3
            have hC29 := hC28.no hb3
            obtain rfl := vint_eq hv16
            exact ⟨hb3, rfl⟩
          · intro w30 D hS27 hd27
            have hl30 := Le.no M hS27
            have hC30 := hC1.no hS27
            have hd27 : PA RInt M a_t.Field (D 0) w30 ∧ PEq (.int .i64 a_t.Field) (D 1) w30 ∧ PEq (.bool true) (D 2) w30 ∧ PEq (.bool true) (D 3) w30 ∧ PA RInt M a_t.Field (D 4) w30 ∧ PEq (.int .i64 a_t.Field) (D 5) w30 ∧ PEq (.bool true) (D 6) w30 ∧ PEq (.bool true) (D 7) w30 ∧ PEq (.bool true) (D 8) w30 ∧ PA RInt M a_t.Lo (D 9) w30 ∧ PEq (.int .i64 a_t.Lo) (D 10) w30 ∧ PEq (.bool true) (D 11) w30 ∧ PEq (.bool true) (D 12) w30 ∧ PEq (.bool true) (D 13) w30 ∧ PA RInt M a_t.Lo (D 14) w30 ∧ PEq (.int .i64 a_t.Lo) (D 15) w30 ∧ PA RInt M a_t.Hi (D 16) w30 ∧ PEq (.int .i64 a_t.Hi) (D 17) w30 ∧ PEq (.bool true) (D 18) w30 ∧ PEq (.bool true) (D 19) w30 ∧ PEq (.bool true) (D 20) w30 ∧ PA RInt M a_t.Hi (D 21) w30 ∧ PEq (.int .i64 a_t.Hi) (D 22) w30 ∧ PA RInt M a_t.Field (D 23) w30 ∧ PEq (.int .i64 a_t.Field) (D 24) w30 ∧ PEq (.int .i64 x1) (D 25) w30 ∧ True := hd27
            obtain ⟨-, -, -, -, -, -, -, -, -, -, -, -, -, -, -, -, -, -, -, -, d64, -, d66, -, -, d69, -⟩ := hd27
            refine lw_sub (E' := [(23, (.bool true)), (25, (.int .i64 a_t.Hi)), (28, (.int .i64 x1)), (1, (.pointer (some p1))), (2, (.bool false))]) ⟨(congrArg some d64), (congrArg some d66), (congrArg some d69), rfl, rfl, trivial⟩ ?_
            refine lw_on rfl rfl rfl rfl rfl rfl (ow_leq rfl rfl rfl fun bb9 hbb9 => ?_)
            refine lw_op rfl rfl rfl (ow_pickT rfl rfl rfl ?_)
            refine lw_op rfl rfl rfl (ow_assign rfl rfl ?_)
            refine lw_nil ?_
            refine ew_then ?_
            refine cw_ret ?_
            obtain rfl := Option.some.inj h
            exact ew_ret (res1 rfl (.tmp rfl)) ⟨_, rfl, ((vbool_of hbb9)), hC30.bx⟩
        · refine cw_sub (E' := [(1, (.pointer (some p1))), (2, (.bool false))]) ⟨rfl, rfl, trivial⟩ ?_
          refine cw_drawQ 26 [PA RInt M a_t.Field, PEq (.int .i64 a_t.Field), PEq (.bool true), PEq (.bool true), PA RInt M a_t.Field, PEq (.int .i64 a_t.Field), PEq (.bool true), PEq (.bool true), PEq (.bool true), PA RInt M a_t.Lo, PEq (.int .i64 a_t.Lo), PEq (.bool true), PEq (.bool true), PEq (.bool true), PA RInt M a_t.Lo, PEq (.int .i64 a_t.Lo), PA RInt M a_t.Hi, PEq (.int .i64 a_t.Hi), PEq (.bool false), PEq (.bool false), PEq (.bool false), PEq undef, PEq undef, PEq undef, PEq undef, PEq undef] (by kernel_rfl) rfl (by kernel_rfl) ⟨PA.mono _ _ _, PEq.mono _, PEq.mono _, PEq.mono _, PA.mono _ _ _, PEq.mono _, PEq.mono _, PEq.mono _, PEq.mono _, PA.mono _ _ _, PEq.mono _, PEq.mono _, PEq.mono _, PEq.mono _, PA.mono _ _ _, PEq.mono _, PA.mono _ _ _, PEq.mono _, PEq.mono _, PEq.mono _, PEq.mono _, PEq.mono _, PEq.mono _, PEq.mono _, PEq.mono _, PEq.mono _, trivial⟩ ⟨?_, ?_, ?_, ?_, ?_, ?_, ?_, ?_, ?_, ?_, ?_, ?_, ?_, ?_, ?_, ?_, ?_, ?_, ?_, ?_, ?_, ?_, ?_, ?_, ?_, ?_, trivial⟩ ?_
          · intro w31 D hS28 hd28
            have hl31 := Le.no M hS28
            have hC31 := hC1.no hS28
            refine dg_sub (E' := [(1, (.pointer (some p1)))]) ⟨rfl, trivial⟩ ?_
            refine dg_plain rfl (ow_fieldAddr rfl rfl Tryd.underlying186 rfl (Tryd.sizeOf3 _) ?_)
            exact ⟨BX.refl _ _, ⟨_, rfl, (ARep.mono hl31 (hp1.fld fld_Test_Field))⟩⟩
          · intro w32 D hS29 hd29
            have hl32 := Le.no M hS29
            have hC32 := hC1.no hS29
            have hd29 : PA RInt M a_t.Field (D 0) w32 ∧ True := hd29
            obtain ⟨d70, -⟩ := hd29
            obtain ⟨p9, e8, ha8⟩ := d70
            refine dg_sub (E' := [(3, (.pointer (some p9)))]) ⟨(congrArg some e8), trivial⟩ ?_
            refine dg_plain rfl (ow_load (R := RInt) rfl rfl ha8 (Tryd.sizeOf3 _) (Tryd.isAgg3 _) fun v17 hv17 => ?_)
            obtain rfl := vint_eq hv17
            exact ⟨BX.refl _ _, rfl⟩
          · intro w33 D hS30 hd30
            have hl33 := Le.no M hS30
            have hC33 := hC1.no hS30
            have hd30 : PEq (.int .i64 a_t.Field) (D 1) w33 ∧ True := hd30
            obtain ⟨d71, -⟩ := hd30
            refine dg_sub (E' := [(4, (.int .i64 a_t.Field))]) ⟨(congrArg some d71), trivial⟩ ?_
            refine dg_plain rfl (ow_geq rfl rfl rfl fun bb10 hbb10 => ?_)
            obtain rfl := hbb10.trans hc1
            exact ⟨BX.refl _ _, rfl⟩
          · intro w34 D hS31 hd31
            have hl34 := Le.no M hS31
            have hC34 := hC1.no hS31
            have hd31 : PEq (.bool true) (D 2) w34 ∧ True := hd31
            obtain ⟨d72, -⟩ := hd31
            refine dg_sub (E' := [(5, (.bool true))]) ⟨(congrArg some d72), trivial⟩ ?_
            refine dg_plain rfl (ow_move rfl rfl ?_)
            exact ⟨BX.refl _ _, rfl⟩
          · intro w35 D hS32 hd32
            have hl35 := Le.no M hS32
            have hC35 := hC1.no hS32
            have hd32 : PEq (.bool true) (D 3) w35 ∧ True := hd32
            obtain ⟨d73, -⟩ := hd32
            refine dg_sub (E' := [(6, (.bool true)), (1, (.pointer (some p1)))]) ⟨(congrArg some d73), rfl, trivial⟩ ?_
            refine dg_on rfl rfl rfl rfl (ow_fieldAddr rfl rfl Tryd.underlying186 rfl (Tryd.sizeOf3 _) ?_)
            exact ⟨BX.refl _ _, ⟨_, rfl, (ARep.mono hl35 (hp1.fld fld_Test_Field))⟩⟩
          · intro w36 D hS33 hd33
            have hl36 := Le.no M hS33
            have hC36 := hC1.no hS33
            have hd33 : PA RInt M a_t.Field (D 4) w36 ∧ PEq (.bool true) (D 3) w36 ∧ True := hd33
            obtain ⟨d74, d75, -⟩ := hd33
            obtain ⟨p10, e9, ha9⟩ := d74
            refine dg_sub (E' := [(7, (.pointer (some p10))), (6, (.bool true))]) ⟨(congrArg some e9), (congrArg some d75), trivial⟩ ?_
            refine dg_on rfl rfl rfl rfl (ow_load (R := RInt) rfl rfl ha9 (Tryd.sizeOf3 _) (Tryd.isAgg3 _) fun v18 hv18 => ?_)
            obtain rfl := vint_eq hv18
            exact ⟨BX.refl _ _, rfl⟩
          · intro w37 D hS34 hd34
            have hl37 := Le.no M hS34
            have hC37 := hC1.no hS34
            have hd34 : PEq (.int .i64 a_t.Field) (D 5) w37 ∧ PEq (.bool true) (D 3) w37 ∧ True := hd34
            obtain ⟨d76, d77, -⟩ := hd34
            refine dg_sub (E' := [(8, (.int .i64 a_t.Field)), (6, (.bool true))]) ⟨(congrArg some d76), (congrArg some d77), trivial⟩ ?_
            refine dg_on rfl rfl rfl rfl (ow_lss rfl rfl rfl fun bb11 hbb11 => ?_)
            obtain rfl := hbb11.trans hc2
            exact ⟨BX.refl _ _, rfl⟩
          · intro w38 D hS35 hd35
            have hl38 := Le.no M hS35
            have hC38 := hC1.no hS35
            have hd35 : PEq (.bool true) (D 3) w38 ∧ PEq (.bool true) (D 6) w38 ∧ True := hd35
            obtain ⟨d78, d79, -⟩ := hd35
            refine dg_sub (E' := [(6, (.bool true)), (9, (.bool true))]) ⟨(congrArg some d78), (congrArg some d79), trivial⟩ ?_
            refine dg_plain rfl (ow_pickT rfl rfl rfl ?_)
            exact ⟨BX.refl _ _, rfl⟩
          · intro w39 D hS36 hd36
            have hl39 := Le.no M hS36
            have hC39 := hC1.no hS36
            have hd36 : PEq (.bool true) (D 7) w39 ∧ PEq (.bool true) (D 3) w39 ∧ True := hd36
            obtain ⟨d80, d81, -⟩ := hd36
            refine dg_sub (E' := [(10, (.bool true))]) ⟨(congrArg some d80), trivial⟩ ?_
            refine dg_plain rfl (ow_move rfl rfl ?_)
            exact ⟨BX.refl _ _, rfl⟩
          · intro w40 D hS37 hd37
            have hl40 := Le.no M hS37
            have hC40 := hC1.no hS37
            have hd37 : PEq (.bool true) (D 8) w40 ∧ True := hd37
            obtain ⟨d82, -⟩ := hd37
            refine dg_sub (E' := [(11, (.bool true)), (1, (.pointer (some p1)))]) ⟨(congrArg some d82), rfl, trivial⟩ ?_
            refine dg_on rfl rfl rfl rfl (ow_fieldAddr rfl rfl Tryd.underlying186 rfl (Tryd.sizeOf3 _) ?_)
            exact ⟨BX.refl _ _, ⟨_, rfl, (ARep.mono hl40 (hp1.fld fld_Test_Lo))⟩⟩
          · intro w41 D hS38 hd38
            have hl41 := Le.no M hS38
            have hC41 := hC1.no hS38
            have hd38 : PA RInt M a_t.Lo (D 9) w41 ∧ PEq (.bool true) (D 8) w41 ∧ True := hd38
            obtain ⟨d83, d84, -⟩ := hd38
            obtain ⟨p11, e10, ha10⟩ := d83
            refine dg_sub (E' := [(12, (.pointer (some p11))), (11, (.bool true))]) ⟨(congrArg some e10), (congrArg some d84), trivial⟩ ?_
            refine dg_on rfl rfl rfl rfl (ow_load (R := RInt) rfl rfl ha10 (Tryd.sizeOf3 _) (Tryd.isAgg3 _) fun v19 hv19 => ?_)
            obtain rfl := vint_eq hv19
            exact ⟨BX.refl _ _, rfl⟩
          · intro w42 D hS39 hd39
            have hl42 := Le.no M hS39
            have hC42 := hC1.no hS39
            have hd39 : PEq (.int .i64 a_t.Lo) (D 10) w42 ∧ PEq (.bool true) (D 8) w42 ∧ True := hd39
            obtain ⟨d85, d86, -⟩ := hd39
            refine dg_sub (E' := [(13, (.int .i64 a_t.Lo)), (11, (.bool true))]) ⟨(congrArg some d85), (congrArg some d86), trivial⟩ ?_
            refine dg_on rfl rfl rfl rfl (ow_geq rfl rfl rfl fun bb12 hbb12 => ?_)
            obtain rfl := hbb12.trans hc3
            exact ⟨BX.refl _ _, rfl⟩
          · intro w43 D hS40 hd40
            have hl43 := Le.no M hS40
            have hC43 := hC1.no hS40
            have hd40 : PEq (.bool true) (D 8) w43 ∧ PEq (.bool true) (D 11) w43 ∧ True := hd40
            obtain ⟨d87, d88, -⟩ := hd40
            refine dg_sub (E' := [(11, (.bool true)), (14, (.bool true))]) ⟨(congrArg some d87), (congrArg some d88), trivial⟩ ?_
            refine dg_plain rfl (ow_pickT rfl rfl rfl ?_)
            exact ⟨BX.refl _ _, rfl⟩
          · intro w44 D hS41 hd41
            have hl44 := Le.no M hS41
            have hC44 := hC1.no hS41
            have hd41 : PEq (.bool true) (D 12) w44 ∧ PEq (.bool true) (D 8) w44 ∧ True := hd41
            obtain ⟨d89, d90, -⟩ := hd41
            refine dg_sub (E' := [(15, (.bool true))]) ⟨(congrArg some d89), trivial⟩ ?_
            refine dg_plain rfl (ow_move rfl rfl ?_)
            exact ⟨BX.refl _ _, rfl⟩
          · intro w45 D hS42 hd42
            have hl45 := Le.no M hS42
            have hC45 := hC1.no hS42
            have hd42 : PEq (.bool true) (D 13) w45 ∧ True := hd42
            obtain ⟨d91, -⟩ := hd42
            refine dg_sub (E' := [(16, (.bool true)), (1, (.pointer (some p1)))]) ⟨(congrArg some d91), rfl, trivial⟩ ?_
            refine dg_on rfl rfl rfl rfl (ow_fieldAddr rfl rfl Tryd.underlying186 rfl (Tryd.sizeOf3 _) ?_)
            exact ⟨BX.refl _ _, ⟨_, rfl, (ARep.mono hl45 (hp1.fld fld_Test_Lo))⟩⟩
          · intro w46 D hS43 hd43
            have hl46 := Le.no M hS43
            have hC46 := hC1.no hS43
            have hd43 : PA RInt M a_t.Lo (D 14) w46 ∧ PEq (.bool true) (D 13) w46 ∧ True := hd43
            obtain ⟨d92, d93, -⟩ := hd43
            obtain ⟨p12, e11, ha11⟩ := d92
            refine dg_sub (E' := [(17, (.pointer (some p12))), (16, (.bool true))]) ⟨(congrArg some e11), (congrArg some d93), trivial⟩ ?_
            refine dg_on rfl rfl rfl rfl (ow_load (R := RInt) rfl rfl ha11 (Tryd.sizeOf3 _) (Tryd.isAgg3 _) fun v20 hv20 => ?_)
            obtain rfl := vint_eq hv20
            exact ⟨BX.refl _ _, rfl⟩
          · intro w47 D hS44 hd44
            have hl47 := Le.no M hS44
            have hC47 := hC1.no hS44
            have hd44 : PEq (.bool true) (D 13) w47 ∧ True := hd44
            obtain ⟨d94, -⟩ := hd44
            refine dg_sub (E' := [(16, (.bool true)), (1, (.pointer (some p1)))]) ⟨(congrArg some d94), rfl, trivial⟩ ?_
            refine dg_on rfl rfl rfl rfl (ow_fieldAddr rfl rfl Tryd.underlying186 rfl (Tryd.sizeOf3 _) ?_)
            exact ⟨BX.refl _ _, ⟨_, rfl, (ARep.mono hl47 (hp1.fld fld_Test_Hi))⟩⟩
          · intro w48 D hS45 hd45
            have hl48 := Le.no M hS45
            have hC48 := hC1.no hS45
            have hd45 : PA RInt M a_t.Hi (D 16) w48 ∧ PEq (.bool true) (D 13) w48 ∧ True := hd45
            obtain ⟨d95, d96, -⟩ := hd45
            obtain ⟨p13, e12, ha12⟩ := d95
            refine dg_sub (E' := [(19, (.pointer (some p13))), (16, (.bool true))]) ⟨(congrArg some e12), (congrArg some d96), trivial⟩ ?_
            refine dg_on rfl rfl rfl rfl (ow_load (R := RInt) rfl rfl ha12 (Tryd.sizeOf3 _) (Tryd.isAgg3 _) fun v21 hv21 => ?_)
            obtain rfl := vint_eq hv21
            exact ⟨BX.refl _ _, rfl⟩
          · intro w49 D hS46 hd46
            have hl49 := Le.no M hS46
            have hC49 := hC1.no hS46
            have hd46 : PEq (.int .i64 a_t.Lo) (D 15) w49 ∧ PEq (.int .i64 a_t.Hi) (D 17) w49 ∧ PEq (.bool true) (D 13) w49 ∧ True := hd46
            obtain ⟨d97, d98, d99, -⟩ := hd46
            refine dg_sub (E' := [(18, (.int .i64 a_t.Lo)), (20, (.int .i64 a_t.Hi)), (16, (.bool true))]) ⟨(congrArg some d97), (congrArg some d98), (congrArg some d99), trivial⟩ ?_
            refine dg_on rfl rfl rfl rfl (ow_leq rfl rfl rfl fun bb13 hbb13 => ?_)
            obtain rfl := hbb13.trans hc4
            exact ⟨BX.refl _ _, rfl⟩
          · intro w50 D hS47 hd47
            have hl50 := Le.no M hS47
            have hC50 := hC1.no hS47
            have hd47 : PEq (.bool true) (D 13) w50 ∧ PEq (.bool false) (D 18) w50 ∧ True := hd47
            obtain ⟨d100, d101, -⟩ := hd47
            refine dg_sub (E' := [(16, (.bool true)), (21, (.bool false))]) ⟨(congrArg some d100), (congrArg some d101), trivial⟩ ?_
            refine dg_plain rfl (ow_pickT rfl rfl rfl ?_)
            exact ⟨BX.refl _ _, rfl⟩
          · intro w51 D hS48 hd48
            have hl51 := Le.no M hS48
            have hC51 := hC1.no hS48
            have hd48 : PEq (.bool false) (D 19) w51 ∧ PEq (.bool true) (D 13) w51 ∧ True := hd48
            obtain ⟨d102, d103, -⟩ := hd48
            refine dg_sub (E' := [(22, (.bool false))]) ⟨(congrArg some d102), trivial⟩ ?_
            refine dg_plain rfl (ow_move rfl rfl ?_)
            exact ⟨BX.refl _ _, rfl⟩
          · intro w52 D hS49 hd49
            have hl52 := Le.no M hS49
            have hC52 := hC1.no hS49
            have hd49 : PEq (.bool false) (D 20) w52 ∧ True := hd49
            obtain ⟨d104, -⟩ := hd49
            refine dg_sub (E' := [(23, (.bool false)), (1, (.pointer (some p1)))]) ⟨(congrArg some d104), rfl, trivial⟩ ?_
            exact dg_off rfl rfl rfl rfl ⟨BX.refl _ _, rfl⟩
          · intro w53 D hS50 hd50
            have hl53 := Le.no M hS50
            have hC53 := hC1.no hS50
            have hd50 : PEq undef (D 21) w53 ∧ PEq (.bool false) (D 20) w53 ∧ True := hd50
            obtain ⟨d105, d106, -⟩ := hd50
            refine dg_sub (E' := [(24, undef), (23, (.bool false))]) ⟨(congrArg some d105), (congrArg some d106), trivial⟩ ?_
            exact dg_off rfl rfl rfl rfl ⟨BX.refl _ _, rfl⟩
          · intro w54 D hS51 hd51
            have hl54 := Le.no M hS51
            have hC54 := hC1.no hS51
            have hd51 : PEq (.bool false) (D 20) w54 ∧ True := hd51
            obtain ⟨d107, -⟩ := hd51
            refine dg_sub (E' := [(23, (.bool false)), (1, (.pointer (some p1)))]) ⟨(congrArg some d107), rfl, trivial⟩ ?_
            exact dg_off rfl rfl rfl rfl ⟨BX.refl _ _, rfl⟩
          · intro w55 D hS52 hd52
            have hl55 := Le.no M hS52
            have hC55 := hC1.no hS52
            have hd52 : PEq undef (D 23) w55 ∧ PEq (.bool false) (D 20) w55 ∧ True := hd52
            obtain ⟨d108, d109, -⟩ := hd52
            refine dg_sub (E' := [(26, undef), (23, (.bool false))]) ⟨(congrArg some d108), (congrArg some d109), trivial⟩ ?_
            exact dg_off rfl rfl rfl rfl ⟨BX.refl _ _, rfl⟩
          · intro w56 D hS53 hd53
            have hl56 := Le.no M hS53
            have hC56 := hC1.no hS53
            have hd53 : PEq undef (D 24) w56 ∧ PEq (.bool false) (D 20) w56 ∧ PEq (.bool false) (D 20) w56 ∧ True := hd53
            obtain ⟨d110, d111, d112, -⟩ := hd53
            refine dg_sub (E' := [(27, undef), (23, (.bool false))]) ⟨(congrArg some d110), (congrArg some d111), trivial⟩ ?_
            exact dg_off rfl rfl rfl rfl ⟨BX.refl _ _, rfl⟩
          · intro w57 D hS54 hd54
            have hl57 := Le.no M hS54
            have hC57 := hC1.no hS54
            have hd54 : PA RInt M a_t.Field (D 0) w57 ∧ PEq (.int .i64 a_t.Field) (D 1) w57 ∧ PEq (.bool true) (D 2) w57 ∧ PEq (.bool true) (D 3) w57 ∧ PA RInt M a_t.Field (D 4) w57 ∧ PEq (.int .i64 a_t.Field) (D 5) w57 ∧ PEq (.bool true) (D 6) w57 ∧ PEq (.bool true) (D 7) w57 ∧ PEq (.bool true) (D 8) w57 ∧ PA RInt M a_t.Lo (D 9) w57 ∧ PEq (.int .i64 a_t.Lo) (D 10) w57 ∧ PEq (.bool true) (D 11) w57 ∧ PEq (.bool true) (D 12) w57 ∧ PEq (.bool true) (D 13) w57 ∧ PA RInt M a_t.Lo (D 14) w57 ∧ PEq (.int .i64 a_t.Lo) (D 15) w57 ∧ PA RInt M a_t.Hi (D 16) w57 ∧ PEq (.int .i64 a_t.Hi) (D 17) w57 ∧ PEq (.bool false) (D 18) w57 ∧ PEq (.bool false) (D 19) w57 ∧ PEq (.bool false) (D 20) w57 ∧ PEq undef (D 21) w57 ∧ PEq undef (D 22) w57 ∧ PEq undef (D 23) w57 ∧ PEq undef (D 24) w57 ∧ PEq undef (D 25) w57 ∧ True := hd54
            obtain ⟨-, -, -, -, -, -, -, -, -, -, -, -, -, -, -, -, -, -, -, -, d133, -, d135, -, -, d138, -⟩ := hd54
            refine lw_sub (E' := [(23, (.bool false)), (25, undef), (28, undef), (1, (.pointer (some p1))), (2, (.bool false))]) ⟨(congrArg some d133), (congrArg some d135), (congrArg some d138), rfl, rfl, trivial⟩ ?_
            refine lw_off rfl rfl rfl rfl rfl rfl ?_
            refine lw_op rfl rfl rfl (ow_pickF rfl rfl rfl ?_)
            refine lw_op rfl rfl rfl (ow_assign rfl rfl ?_)
            refine lw_nil ?_
            refine ew_then ?_
            refine cw_ret ?_
            obtain rfl := Option.some.inj h
            exact ew_ret (res1 rfl (.tmp rfl)) ⟨_, rfl, ((vbool _)), hC57.bx⟩
      · refine cw_sub (E' := [(1, (.pointer (some p1))), (2, (.bool false))]) ⟨rfl, rfl, trivial⟩ ?_
        refine cw_drawQ 26 [PA RInt M a_t.Field, PEq (.int .i64 a_t.Field), PEq (.bool true), PEq (.bool true), PA RInt M a_t.Field, PEq (.int .i64 a_t.Field), PEq (.bool true), PEq (.bool true), PEq (.bool true), PA RInt M a_t.Lo, PEq (.int .i64 a_t.Lo), PEq (.bool false), PEq (.bool false), PEq (.bool false), PEq undef, PEq undef, PEq undef, PEq undef, PEq undef, PEq (.bool false), PEq (.bool false), PEq undef, PEq undef, PEq undef, PEq undef, PEq undef] (by kernel_rfl) rfl (by kernel_rfl) ⟨PA.mono _ _ _, PEq.mono _, PEq.mono _, PEq.mono _, PA.mono _ _ _, PEq.mono _, PEq.mono _, PEq.mono _, PEq.mono _, PA.mono _ _ _, PEq.mono _, PEq.mono _, PEq.mono _, PEq.mono _, PEq.mono _, PEq.mono _, PEq.mono _, PEq.mono _, PEq.mono _, PEq.mono _, PEq.mono _, PEq.mono _, PEq.mono _, PEq.mono _, PEq.mono _, PEq.mono _, trivial⟩ ⟨?_, ?_, ?_, ?_, ?_, ?_, ?_, ?_, ?_, ?_, ?_, ?_, ?_, ?_, ?_, ?_, ?_, ?_, ?_, ?_, ?_, ?_, ?_, ?_, ?_, ?_, trivial⟩ ?_
        · intro w58 D hS55 hd55
          have hl58 := Le.no M hS55
          have hC58 := hC1.no hS55
          refine dg_sub (E' := [(1, (.pointer (some p1)))]) ⟨rfl, trivial⟩ ?_
          refine dg_plain rfl (ow_fieldAddr rfl rfl Tryd.underlying186 rfl (Tryd.sizeOf3 _) ?_)
          exact ⟨BX.refl _ _, ⟨_, rfl, (ARep.mono hl58 (hp1.fld fld_Test_Field))⟩⟩
        · intro w59 D hS56 hd56
          have hl59 := Le.no M hS56
          have hC59 := hC1.no hS56
          have hd56 : PA RInt M a_t.Field (D 0) w59 ∧ True := hd56
          obtain ⟨d139, -⟩ := hd56
          obtain ⟨p14, e13, ha13⟩ := d139
          refine dg_sub (E' := [(3, (.pointer (some p14)))]) ⟨(congrArg some e13), trivial⟩ ?_
          refine dg_plain rfl (ow_load (R := RInt) rfl rfl ha13 (Tryd.sizeOf3 _) (Tryd.isAgg3 _) fun v22 hv22 => ?_)
          obtain rfl := vint_eq hv22
          exact ⟨BX.refl _ _, rfl⟩
        · intro w60 D hS57 hd57
          have hl60 := Le.no M hS57
          have hC60 := hC1.no hS57
          have hd57 : PEq (.int .i64 a_t.Field) (D 1) w60 ∧ True := hd57
          obtain ⟨d140, -⟩ := hd57
          refine dg_sub (E' := [(4, (.int .i64 a_t.Field))]) ⟨(congrArg some d140), trivial⟩ ?_
          refine dg_plain rfl (ow_geq rfl rfl rfl fun bb14 hbb14 => ?_)
          obtain rfl := hbb14.trans hc1
          exact ⟨BX.refl _ _, rfl⟩
        · intro w61 D hS58 hd58
          have hl61 := Le.no M hS58
          have hC61 := hC1.no hS58
          have hd58 : PEq (.bool true) (D 2) w61 ∧ True := hd58
          obtain ⟨d141, -⟩ := hd58
          refine dg_sub (E' := [(5, (.bool true))]) ⟨(congrArg some d141), trivial⟩ ?_
          refine dg_plain rfl (ow_move rfl rfl ?_)
          exact ⟨BX.refl _ _, rfl⟩
        · intro w62 D hS59 hd59
          have hl62 := Le.no M hS59
          have hC62 := hC1.no hS59
          have hd59 : PEq (.bool true) (D 3) w62 ∧ True := hd59
          obtain ⟨d142, -⟩ := hd59
          refine dg_sub (E' := [(6, (.bool true)), (1, (.pointer (some p1)))]) ⟨(congrArg some d142), rfl, trivial⟩ ?_
          refine dg_on rfl rfl rfl rfl (ow_fieldAddr rfl rfl Tryd.underlying186 rfl (Tryd.sizeOf3 _) ?_)
          exact ⟨BX.refl _ _, ⟨_, rfl, (ARep.mono hl62 (hp1.fld fld_Test_Field))⟩⟩
        · intro w63 D hS60 hd60
          have hl63 := Le.no M hS60
          have hC63 := hC1.no hS60
          have hd60 : PA RInt M a_t.Field (D 4) w63 ∧ PEq (.bool true) (D 3) w63 ∧ True := hd60
          obtain ⟨d143, d144, -⟩ := hd60
          obtain ⟨p15, e14, ha14⟩ := d143
          refine dg_sub (E' := [(7, (.pointer (some p15))), (6, (.bool true))]) ⟨(congrArg some e14), (congrArg some d144), trivial⟩ ?_
          refine dg_on rfl rfl rfl rfl (ow_load (R := RInt) rfl rfl ha14 (Tryd.sizeOf3 _) (Tryd.isAgg3 _) fun v23 hv23 => ?_)
          obtain rfl := vint_eq hv23
          exact ⟨BX.refl _ _, rfl⟩
        · intro w64 D hS61 hd61
          have hl64 := Le.no M hS61
          have hC64 := hC1.no hS61
          have hd61 : PEq (.int .i64 a_t.Field) (D 5) w64 ∧ PEq (.bool true) (D 3) w64 ∧ True := hd61
          obtain ⟨d145, d146, -⟩ := hd61
          refine dg_sub (E' := [(8, (.int .i64 a_t.Field)), (6, (.bool true))]) ⟨(congrArg some d145), (congrArg some d146), trivial⟩ ?_
          refine dg_on rfl rfl rfl rfl (ow_lss rfl rfl rfl fun bb15 hbb15 => ?_)
          obtain rfl := hbb15.trans hc2
          exact ⟨BX.refl _ _, rfl⟩
        · intro w65 D hS62 hd62
          have hl65 := Le.no M hS62
          have hC65 := hC1.no hS62
          have hd62 : PEq (.bool true) (D 3) w65 ∧ PEq (.bool true) (D 6) w65 ∧ True := hd62
          obtain ⟨d147, d148, -⟩ := hd62
          refine dg_sub (E' := [(6, (.bool true)), (9, (.bool true))]) ⟨(congrArg some d147), (congrArg some d148), trivial⟩ ?_
          refine dg_plain rfl (ow_pickT rfl rfl rfl ?_)
          exact ⟨BX.refl _ _, rfl⟩
        · intro w66 D hS63 hd63
          have hl66 := Le.no M hS63
          have hC66 := hC1.no hS63
          have hd63 : PEq (.bool true) (D 7) w66 ∧ PEq (.bool true) (D 3) w66 ∧ True := hd63
          obtain ⟨d149, d150, -⟩ := hd63
          refine dg_sub (E' := [(10, (.bool true))]) ⟨(congrArg some d149), trivial⟩ ?_
          refine dg_plain rfl (ow_move rfl rfl ?_)
          exact ⟨BX.refl _ _, rfl⟩
        · intro w67 D hS64 hd64
          have hl67 := Le.no M hS64
          have hC67 := hC1.no hS64
          have hd64 : PEq (.bool true) (D 8) w67 ∧ True := hd64
          obtain ⟨d151, -⟩ := hd64
          refine dg_sub (E' := [(11, (.bool true)), (1, (.pointer (some p1)))]) ⟨(congrArg some d151), rfl, trivial⟩ ?_
          refine dg_on rfl rfl rfl rfl (ow_fieldAddr rfl rfl Tryd.underlying186 rfl (Tryd.sizeOf3 _) ?_)
          exact ⟨BX.refl _ _, ⟨_, rfl, (ARep.mono hl67 (hp1.fld fld_Test_Lo))⟩⟩
        · intro w68 D hS65 hd65
          have hl68 := Le.no M hS65
          have hC68 := hC1.no hS65
          have hd65 : PA RInt M a_t.Lo (D 9) w68 ∧ PEq (.bool true) (D 8) w68 ∧ True := hd65
          obtain ⟨d152, d153, -⟩ := hd65
          obtain ⟨p16, e15, ha15⟩ := d152
          refine dg_sub (E' := [(12, (.pointer (some p16))), (11, (.bool true))]) ⟨(congrArg some e15), (congrArg some d153), trivial⟩ ?_
          refine dg_on rfl rfl rfl rfl (ow_load (R := RInt) rfl rfl ha15 (Tryd.sizeOf3 _) (Tryd.isAgg3 _) fun v24 hv24 => ?_)
          obtain rfl := vint_eq hv24
          exact ⟨BX.refl _ _, rfl⟩
        · intro w69 D hS66 hd66
          have hl69 := Le.no M hS66
          have hC69 := hC1.no hS66
          have hd66 : PEq (.int .i64 a_t.Lo) (D 10) w69 ∧ PEq (.bool true) (D 8) w69 ∧ True := hd66
          obtain ⟨d154, d155, -⟩ := hd66
          refine dg_sub (E' := [(13, (.int .i64 a_t.Lo)), (11, (.bool true))]) ⟨(congrArg some d154), (congrArg some d155), trivial⟩ ?_
          refine dg_on rfl rfl rfl rfl (ow_geq rfl rfl rfl fun bb16 hbb16 => ?_)
          obtain rfl := hbb16.trans hc3
          exact ⟨BX.refl _ _, rfl⟩
        · intro w70 D hS67 hd67
          have hl70 := Le.no M hS67
          have hC70 := hC1.no hS67
          have hd67 : PEq (.bool true) (D 8) w70 ∧ PEq (.bool false) (D 11) w70 ∧ True := hd67
          obtain ⟨d156, d157, -⟩ := hd67
          refine dg_sub (E' := [(11, (.bool true)), (14, (.bool false))]) ⟨(congrArg some d156), (congrArg some d157), trivial⟩ ?_
          refine dg_plain rfl (ow_pickT rfl rfl rfl ?_)
          exact ⟨BX.refl _ _, rfl⟩
        · intro w71 D hS68 hd68
          have hl71 := Le.no M hS68
          have hC71 := hC1.no hS68
          have hd68 : PEq (.bool false) (D 12) w71 ∧ PEq (.bool true) (D 8) w71 ∧ True := hd68
          obtain ⟨d158, d159, -⟩ := hd68
          refine dg_sub (E' := [(15, (.bool false))]) ⟨(congrArg some d158), trivial⟩ ?_
          refine dg_plain rfl (ow_move rfl rfl ?_)
          exact ⟨BX.refl _ _, rfl⟩
        · intro w72 D hS69 hd69
          have hl72 := Le.no M hS69
          have hC72 := hC1.no hS69
          have hd69 : PEq (.bool false) (D 13) w72 ∧ True := hd69
          obtain ⟨d160, -⟩ := hd69
          refine dg_sub (E' := [(16, (.bool false)), (1, (.pointer (some p1)))]) ⟨(congrArg some d160), rfl, trivial⟩ ?_
          exact dg_off rfl rfl rfl rfl ⟨BX.refl _ _, rfl⟩
        · intro w73 D hS70 hd70
          have hl73 := Le.no M hS70
          have hC73 := hC1.no hS70
          have hd70 : PEq undef (D 14) w73 ∧ PEq (.bool false) (D 13) w73 ∧ True := hd70
          obtain ⟨d161, d162, -⟩ := hd70
          refine dg_sub (E' := [(17, undef), (16, (.bool false))]) ⟨(congrArg some d161), (congrArg some d162), trivial⟩ ?_
          exact dg_off rfl rfl rfl rfl ⟨BX.refl _ _, rfl⟩
        · intro w74 D hS71 hd71
          have hl74 := Le.no M hS71
          have hC74 := hC1.no hS71
          have hd71 : PEq (.bool false) (D 13) w74 ∧ True := hd71
          obtain ⟨d163, -⟩ := hd71
          refine dg_sub (E' := [(16, (.bool false)), (1, (.pointer (some p1)))]) ⟨(congrArg some d163), rfl, trivial⟩ ?_
          exact dg_off rfl rfl rfl rfl ⟨BX.refl _ _, rfl⟩
        · intro w75 D hS72 hd72
          have hl75 := Le.no M hS72
          have hC75 := hC1.no hS72
          have hd72 : PEq undef (D 16) w75 ∧ PEq (.bool false) (D 13) w75 ∧ True := hd72
          obtain ⟨d164, d165, -⟩ := hd72
          refine dg_sub (E' := [(19, undef), (16, (.bool false))]) ⟨(congrArg some d164), (congrArg some d165), trivial⟩ ?_
          exact dg_off rfl rfl rfl rfl ⟨BX.refl _ _, rfl⟩
        · intro w76 D hS73 hd73
          have hl76 := Le.no M hS73
          have hC76 := hC1.no hS73
          have hd73 : PEq undef (D 15) w76 ∧ PEq undef (D 17) w76 ∧ PEq (.bool false) (D 13) w76 ∧ True := hd73
          obtain ⟨d166, d167, d168, -⟩ := hd73
          refine dg_sub (E' := [(18, undef), (20, undef), (16, (.bool false))]) ⟨(congrArg some d166), (congrArg some d167), (congrArg some d168), trivial⟩ ?_
          exact dg_off rfl rfl rfl rfl ⟨BX.refl _ _, rfl⟩
        · intro w77 D hS74 hd74
          have hl77 := Le.no M hS74
          have hC77 := hC1.no hS74
          have hd74 : PEq (.bool false) (D 13) w77 ∧ PEq undef (D 18) w77 ∧ True := hd74
          obtain ⟨d169, d170, -⟩ := hd74
          refine dg_sub (E' := [(16, (.bool false)), (21, undef)]) ⟨(congrArg some d169), (congrArg some d170), trivial⟩ ?_
          refine dg_plain rfl (ow_pickF rfl rfl rfl ?_)
          exact ⟨BX.refl _ _, rfl⟩
        · intro w78 D hS75 hd75
          have hl78 := Le.no M hS75
          have hC78 := hC1.no hS75
          have hd75 : PEq (.bool false) (D 19) w78 ∧ PEq (.bool false) (D 13) w78 ∧ True := hd75
          obtain ⟨d171, d172, -⟩ := hd75
          refine dg_sub (E' := [(22, (.bool false))]) ⟨(congrArg some d171), trivial⟩ ?_
          refine dg_plain rfl (ow_move rfl rfl ?_)
          exact ⟨BX.refl _ _, rfl⟩
        · intro w79 D hS76 hd76
          have hl79 := Le.no M hS76
          have hC79 := hC1.no hS76
          have hd76 : PEq (.bool false) (D 20) w79 ∧ True := hd76
          obtain ⟨d173, -⟩ := hd76
          refine dg_sub (E' := [(23, (.bool false)), (1, (.pointer (some p1)))]) ⟨(congrArg some d173), rfl, trivial⟩ ?_
          exact dg_off rfl rfl rfl rfl ⟨BX.refl _ _, rfl⟩
        · intro w80 D hS77 hd77
          have hl80 := Le.no M hS77
          have hC80 := hC1.no hS77
          have hd77 : PEq undef (D 21) w80 ∧ PEq (.bool false) (D 20) w80 ∧ True := hd77
          obtain ⟨d174, d175, -⟩ := hd77
          refine dg_sub (E' := [(24, undef), (23, (.bool false))]) ⟨(congrArg some d174), (congrArg some d175), trivial⟩ ?_
          exact dg_off rfl rfl rfl rfl ⟨BX.refl _ _, rfl⟩
        · intro w81 D hS78 hd78
          have hl81 := Le.no M hS78
          have hC81 := hC1.no hS78
          have hd78 : PEq (.bool false) (D 20) w81 ∧ True := hd78
          obtain ⟨d176, -⟩ := hd78
          refine dg_sub (E' := [(23, (.bool false)), (1, (.pointer (some p1)))]) ⟨(congrArg some d176), rfl, trivial⟩ ?_
          exact dg_off rfl rfl rfl rfl ⟨BX.refl _ _, rfl⟩
        · intro w82 D hS79 hd79
          have hl82 := Le.no M hS79
          have hC82 := hC1.no hS79
          have hd79 : PEq undef (D 23) w82 ∧ PEq (.bool false) (D 20) w82 ∧ True := hd79
          obtain ⟨d177, d178, -⟩ := hd79
          refine dg_sub (E' := [(26, undef), (23, (.bool false))]) ⟨(congrArg some d177), (congrArg some d178), trivial⟩ ?_
          exact dg_off rfl rfl rfl rfl ⟨BX.refl _ _, rfl⟩
        · intro w83 D hS80 hd80
          have hl83 := Le.no M hS80
          have hC83 := hC1.no hS80
          have hd80 : PEq undef (D 24) w83 ∧ PEq (.bool false) (D 20) w83 ∧ PEq (.bool false) (D 20) w83 ∧ True := hd80
          obtain ⟨d179, d180, d181, -⟩ := hd80
          refine dg_sub (E' := [(27, undef), (23, (.bool false))]) ⟨(congrArg some d179), (congrArg some d180), trivial⟩ ?_
          exact dg_off rfl rfl rfl rfl ⟨BX.refl _ _, rfl⟩
        · intro w84 D hS81 hd81
          have hl84 := Le.no M hS81
          have hC84 := hC1.no hS81
          have hd81 : PA RInt M a_t.Field (D 0) w84 ∧ PEq (.int .i64 a_t.Field) (D 1) w84 ∧ PEq (.bool true) (D 2) w84 ∧ PEq (.bool true) (D 3) w84 ∧ PA RInt M a_t.Field (D 4) w84 ∧ PEq (.int .i64 a_t.Field) (D 5) w84 ∧ PEq (.bool true) (D 6) w84 ∧ PEq (.bool true) (D 7) w84 ∧ PEq (.bool true) (D 8) w84 ∧ PA RInt M a_t.Lo (D 9) w84 ∧ PEq (.int .i64 a_t.Lo) (D 10) w84 ∧ PEq (.bool false) (D 11) w84 ∧ PEq (.bool false) (D 12) w84 ∧ PEq (.bool false) (D 13) w84 ∧ PEq undef (D 14) w84 ∧ PEq undef (D 15) w84 ∧ PEq undef (D 16) w84 ∧ PEq undef (D 17) w84 ∧ PEq undef (D 18) w84 ∧ PEq (.bool false) (D 19) w84 ∧ PEq (.bool false) (D 20) w84 ∧ PEq undef (D 21) w84 ∧ PEq undef (D 22) w84 ∧ PEq undef (D 23) w84 ∧ PEq undef (D 24) w84 ∧ PEq undef (D 25) w84 ∧ True := hd81
          obtain ⟨-, -, -, -, -, -, -, -, -, -, -, -, -, -, -, -, -, -, -, -, d202, -, d204, -, -, d207, -⟩ := hd81
          refine lw_sub (E' := [(23, (.bool false)), (25, undef), (28, undef), (1, (.pointer (some p1))), (2, (.bool false))]) ⟨(congrArg some d202), (congrArg some d204), (congrArg some d207), rfl, rfl, trivial⟩ ?_
          refine lw_off rfl rfl rfl rfl rfl rfl ?_
          refine lw_op rfl rfl rfl (ow_pickF rfl rfl rfl ?_)
          refine lw_op rfl rfl rfl (ow_assign rfl rfl ?_)
          refine lw_nil ?_
          refine ew_then ?_
          refine cw_ret ?_
          obtain rfl := Option.some.inj h
          exact ew_ret (res1 rfl (.tmp rfl)) ⟨_, rfl, ((vbool _)), hC84.bx⟩
    · refine cw_sub (E' := [(1, (.pointer (some p1))), (2, (.bool false))]) ⟨rfl, rfl, trivial⟩ ?_
      refine cw_drawQ 26 [PA RInt M a_t.Field, PEq (.int .i64 a_t.Field), PEq (.bool true), PEq (.bool true), PA RInt M a_t.Field, PEq (.int .i64 a_t.Field), PEq (.bool false), PEq (.bool false), PEq (.bool false), PEq undef, PEq undef, PEq undef, PEq (.bool false), PEq (.bool false), PEq undef, PEq undef, PEq undef, PEq undef, PEq undef, PEq (.bool false), PEq (.bool false), PEq undef, PEq undef, PEq undef, PEq undef, PEq undef] (by kernel_rfl) rfl (by kernel_rfl) ⟨PA.mono _ _ _, PEq.mono _, PEq.mono _, PEq.mono _, PA.mono _ _ _, PEq.mono _, PEq.mono _, PEq.mono _, PEq.mono _, PEq.mono _, PEq.mono _, PEq.mono _, PEq.mono _, PEq.mono _, PEq.mono _, PEq.mono _, PEq.mono _, PEq.mono _, PEq.mono _, PEq.mono _, PEq.mono _, PEq.mono _, PEq.mono _, PEq.mono _, PEq.mono _, PEq.mono _, trivial⟩ ⟨?_, ?_, ?_, ?_, ?_, ?_, ?_, ?_, ?_, ?_, ?_, ?_, ?_, ?_, ?_, ?_, ?_, ?_, ?_, ?_, ?_, ?_, ?_, ?_, ?_, ?_, trivial⟩ ?_
      · intro w85 D hS82 hd82
        have hl85 := Le.no M hS82
        have hC85 := hC1.no hS82
        refine dg_sub (E' := [(1, (.pointer (some p1)))]) ⟨rfl, trivial⟩ ?_
        refine dg_plain rfl (ow_fieldAddr rfl rfl Tryd.underlying186 rfl (Tryd.sizeOf3 _) ?_)
        exact ⟨BX.refl _ _, ⟨_, rfl, (ARep.mono hl85 (hp1.fld fld_Test_Field))⟩⟩
      · intro w86 D hS83 hd83
        have hl86 := Le.no M hS83
        have hC86 := hC1.no hS83
        have hd83 : PA RInt M a_t.Field (D 0) w86 ∧ True := hd83
        obtain ⟨d208, -⟩ := hd83
        obtain ⟨p17, e16, ha16⟩ := d208
        refine dg_sub (E' := [(3, (.pointer (some p17)))]) ⟨(congrArg some e16), trivial⟩ ?_
        refine dg_plain rfl (ow_load (R := RInt) rfl rfl ha16 (Tryd.sizeOf3 _) (Tryd.isAgg3 _) fun v25 hv25 => ?_)
        obtain rfl := vint_eq hv25
        exact ⟨BX.refl _ _, rfl⟩
      · intro w87 D hS84 hd84
        have hl87 := Le.no M hS84
        have hC87 := hC1.no hS84
        have hd84 : PEq (.int .i64 a_t.Field) (D 1) w87 ∧ True := hd84
        obtain ⟨d209, -⟩ := hd84
        refine dg_sub (E' := [(4, (.int .i64 a_t.Field))]) ⟨(congrArg some d209), trivial⟩ ?_
        refine dg_plain rfl (ow_geq rfl rfl rfl fun bb17 hbb17 => ?_)
        obtain rfl := hbb17.trans hc1
        exact ⟨BX.refl _ _, rfl⟩
      · intro w88 D hS85 hd85
        have hl88 := Le.no M hS85
        have hC88 := hC1.no hS85
        have hd85 : PEq (.bool true) (D 2) w88 ∧ True := hd85
        obtain ⟨d210, -⟩ := hd85
        refine dg_sub (E' := [(5, (.bool true))]) ⟨(congrArg some d210), trivial⟩ ?_
        refine dg_plain rfl (ow_move rfl rfl ?_)
        exact ⟨BX.refl _ _, rfl⟩
      · intro w89 D hS86 hd86
        have hl89 := Le.no M hS86
        have hC89 := hC1.no hS86
        have hd86 : PEq (.bool true) (D 3) w89 ∧ True := hd86
        obtain ⟨d211, -⟩ := hd86
        refine dg_sub (E' := [(6, (.bool true)), (1, (.pointer (some p1)))]) ⟨(congrArg some d211), rfl, trivial⟩ ?_
        refine dg_on rfl rfl rfl rfl (ow_fieldAddr rfl rfl Tryd.underlying186 rfl (Tryd.sizeOf3 _) ?_)
        exact ⟨BX.refl _ _, ⟨_, rfl, (ARep.mono hl89 (hp1.fld fld_Test_Field))⟩⟩
      · intro w90 D hS87 hd87
        have hl90 := Le.no M hS87
        have hC90 := hC1.no hS87
        have hd87 : PA RInt M a_t.Field (D 4) w90 ∧ PEq (.bool true) (D 3) w90 ∧ True := hd87
        obtain ⟨d212, d213, -⟩ := hd87
        obtain ⟨p18, e17, ha17⟩ := d212
        refine dg_sub (E' := [(7, (.pointer (some p18))), (6, (.bool true))]) ⟨(congrArg some e17), (congrArg some d213), trivial⟩ ?_
        refine dg_on rfl rfl rfl rfl (ow_load (R := RInt) rfl rfl ha17 (Tryd.sizeOf3 _) (Tryd.isAgg3 _) fun v26 hv26 => ?_)
        obtain rfl := vint_eq hv26
        exact ⟨BX.refl _ _, rfl⟩
      · intro w91 D hS88 hd88
        have hl91 := Le.no M hS88
        have hC91 := hC1.no hS88
        have hd88 : PEq (.int .i64 a_t.Field) (D 5) w91 ∧ PEq (.bool true) (D 3) w91 ∧ True := hd88
        obtain ⟨d214, d215, -⟩ := hd88
        refine dg_sub (E' := [(8, (.int .i64 a_t.Field)), (6, (.bool true))]) ⟨(congrArg some d214), (congrArg some d215), trivial⟩ ?_
        refine dg_on rfl rfl rfl rfl (ow_lss rfl rfl rfl fun bb18 hbb18 => ?_)
        obtain rfl := hbb18.trans hc2
        exact ⟨BX.refl _ _, rfl⟩
      · intro w92 D hS89 hd89
        have hl92 := Le.no M hS89
        have hC92 := hC1.no hS89
        have hd89 : PEq (.bool true) (D 3) w92 ∧ PEq (.bool false) (D 6) w92 ∧ True := hd89
        obtain ⟨d216, d217, -⟩ := hd89
        refine dg_sub (E' := [(6, (.bool true)), (9, (.bool false))]) ⟨(congrArg some d216), (congrArg some d217), trivial⟩ ?_
        refine dg_plain rfl (ow_pickT rfl rfl rfl ?_)
        exact ⟨BX.refl _ _, rfl⟩
      · intro w93 D hS90 hd90
        have hl93 := Le.no M hS90
        have hC93 := hC1.no hS90
        have hd90 : PEq (.bool false) (D 7) w93 ∧ PEq (.bool true) (D 3) w93 ∧ True := hd90
        obtain ⟨d218, d219, -⟩ := hd90
        refine dg_sub (E' := [(10, (.bool false))]) ⟨(congrArg some d218), trivial⟩ ?_
        refine dg_plain rfl (ow_move rfl rfl ?_)
        exact ⟨BX.refl _ _, rfl⟩
      · intro w94 D hS91 hd91
        have hl94 := Le.no M hS91
        have hC94 := hC1.no hS91
        have hd91 : PEq (.bool false) (D 8) w94 ∧ True := hd91
        obtain ⟨d220, -⟩ := hd91
        refine dg_sub (E' := [(11, (.bool false)), (1, (.pointer (some p1)))]) ⟨(congrArg some d220), rfl, trivial⟩ ?_
        exact dg_off rfl rfl rfl rfl ⟨BX.refl _ _, rfl⟩
      · intro w95 D hS92 hd92
        have hl95 := Le.no M hS92
        have hC95 := hC1.no hS92
        have hd92 : PEq undef (D 9) w95 ∧ PEq (.bool false) (D 8) w95 ∧ True := hd92
        obtain ⟨d221, d222, -⟩ := hd92
        refine dg_sub (E' := [(12, undef), (11, (.bool false))]) ⟨(congrArg some d221), (congrArg some d222), trivial⟩ ?_
        exact dg_off rfl rfl rfl rfl ⟨BX.refl _ _, rfl⟩
      · intro w96 D hS93 hd93
        have hl96 := Le.no M hS93
        have hC96 := hC1.no hS93
        have hd93 : PEq undef (D 10) w96 ∧ PEq (.bool false) (D 8) w96 ∧ True := hd93
        obtain ⟨d223, d224, -⟩ := hd93
        refine dg_sub (E' := [(13, undef), (11, (.bool false))]) ⟨(congrArg some d223), (congrArg some d224), trivial⟩ ?_
        exact dg_off rfl rfl rfl rfl ⟨BX.refl _ _, rfl⟩
      · intro w97 D hS94 hd94
        have hl97 := Le.no M hS94
        have hC97 := hC1.no hS94
        have hd94 : PEq (.bool false) (D 8) w97 ∧ PEq undef (D 11) w97 ∧ True := hd94
        obtain ⟨d225, d226, -⟩ := hd94
        refine dg_sub (E' := [(11, (.bool false)), (14, undef)]) ⟨(congrArg some d225), (congrArg some d226), trivial⟩ ?_
        refine dg_plain rfl (ow_pickF rfl rfl rfl ?_)
        exact ⟨BX.refl _ _, rfl⟩
      · intro w98 D hS95 hd95
        have hl98 := Le.no M hS95
        have hC98 := hC1.no hS95
        have hd95 : PEq (.bool false) (D 12) w98 ∧ PEq (.bool false) (D 8) w98 ∧ True := hd95
        obtain ⟨d227, d228, -⟩ := hd95
        refine dg_sub (E' := [(15, (.bool false))]) ⟨(congrArg some d227), trivial⟩ ?_
        refine dg_plain rfl (ow_move rfl rfl ?_)
        exact ⟨BX.refl _ _, rfl⟩
      · intro w99 D hS96 hd96
        have hl99 := Le.no M hS96
        have hC99 := hC1.no hS96
        have hd96 : PEq (.bool false) (D 13) w99 ∧ True := hd96
        obtain ⟨d229, -⟩ := hd96
        refine dg_sub (E' := [(16, (.bool false)), (1, (.pointer (some p1)))]) ⟨(congrArg some d229), rfl, trivial⟩ ?_
        exact dg_off rfl rfl rfl rfl ⟨BX.refl _ _, rfl⟩
      · intro w100 D hS97 hd97
        have hl100 := Le.no M hS97
        have hC100 := hC1.no hS97
        have hd97 : PEq undef (D 14) w100 ∧ PEq (.bool false) (D 13) w100 ∧ True := hd97
        obtain ⟨d230, d231, -⟩ := hd97
        refine dg_sub (E' := [(17, undef), (16, (.bool false))]) ⟨(congrArg some d230), (congrArg some d231), trivial⟩ ?_
        exact dg_off rfl rfl rfl rfl ⟨BX.refl _ _, rfl⟩
      · intro w101 D hS98 hd98
        have hl101 := Le.no M hS98
        have hC101 := hC1.no hS98
        have hd98 : PEq (.bool false) (D 13) w101 ∧ True := hd98
        obtain ⟨d232, -⟩ := hd98
        refine dg_sub (E' := [(16, (.bool false)), (1, (.pointer (some p1)))]) ⟨(congrArg some d232), rfl, trivial⟩ ?_
        exact dg_off rfl rfl rfl rfl ⟨BX.refl _ _, rfl⟩
      · intro w102 D hS99 hd99
        have hl102 := Le.no M hS99
        have hC102 := hC1.no hS99
        have hd99 : PEq undef (D 16) w102 ∧ PEq (.bool false) (D 13) w102 ∧ True := hd99
        obtain ⟨d233, d234, -⟩ := hd99
        refine dg_sub (E' := [(19, undef), (16, (.bool false))]) ⟨(congrArg some d233), (congrArg some d234), trivial⟩ ?_
        exact dg_off rfl rfl rfl rfl ⟨BX.refl _ _, rfl⟩
      · intro w103 D hS100 hd100
        have hl103 := Le.no M hS100
        have hC103 := hC1.no hS100
        have hd100 : PEq undef (D 15) w103 ∧ PEq undef (D 17) w103 ∧ PEq (.bool false) (D 13) w103 ∧ True := hd100
        obtain ⟨d235, d236, d237, -⟩ := hd100
        refine dg_sub (E' := [(18, undef), (20, undef), (16, (.bool false))]) ⟨(congrArg some d235), (congrArg some d236), (congrArg some d237), trivial⟩ ?_
        exact dg_off rfl rfl rfl rfl ⟨BX.refl _ _, rfl⟩
      · intro w104 D hS101 hd101
        have hl104 := Le.no M hS101
        have hC104 := hC1.no hS101
        have hd101 : PEq (.bool false) (D 13) w104 ∧ PEq undef (D 18) w104 ∧ True := hd101
        obtain ⟨d238, d239, -⟩ := hd101
        refine dg_sub (E' := [(16, (.bool false)), (21, undef)]) ⟨(congrArg some d238), (congrArg some d239), trivial⟩ ?_
        refine dg_plain rfl (ow_pickF rfl rfl rfl ?_)
        exact ⟨BX.refl _ _, rfl⟩
      · intro w105 D hS102 hd102
        have hl105 := Le.no M hS102
        have hC105 := hC1.no hS102
        have hd102 : PEq (.bool false) (D 19) w105 ∧ PEq (.bool false) (D 13) w105 ∧ True := hd102
        obtain ⟨d240, d241, -⟩ := hd102
        refine dg_sub (E' := [(22, (.bool false))]) ⟨(congrArg some d240), trivial⟩ ?_
        refine dg_plain rfl (ow_move rfl rfl ?_)
        exact ⟨BX.refl _ _, rfl⟩
      · intro w106 D hS103 hd103
        have hl106 := Le.no M hS103
        have hC106 := hC1.no hS103
        have hd103 : PEq (.bool false) (D 20) w106 ∧ True := hd103
        obtain ⟨d242, -⟩ := hd103
        refine dg_sub (E' := [(23, (.bool false)), (1, (.pointer (some p1)))]) ⟨(congrArg some d242), rfl, trivial⟩ ?_
        exact dg_off rfl rfl rfl rfl ⟨BX.refl _ _, rfl⟩
      · intro w107 D hS104 hd104
        have hl107 := Le.no M hS104
        have hC107 := hC1.no hS104
        have hd104 : PEq undef (D 21) w107 ∧ PEq (.bool false) (D 20) w107 ∧ True := hd104
        obtain ⟨d243, d244, -⟩ := hd104
        refine dg_sub (E' := [(24, undef), (23, (.bool false))]) ⟨(congrArg some d243), (congrArg some d244), trivial⟩ ?_
        exact dg_off rfl rfl rfl rfl ⟨BX.refl _ _, rfl⟩
      · intro w108 D hS105 hd105
        have hl108 := Le.no M hS105
        have hC108 := hC1.no hS105
        have hd105 : PEq (.bool false) (D 20) w108 ∧ True := hd105
        obtain ⟨d245, -⟩ := hd105
        refine dg_sub (E' := [(23, (.bool false)), (1, (.pointer (some p1)))]) ⟨(congrArg some d245), rfl, trivial⟩ ?_
        exact dg_off rfl rfl rfl rfl ⟨BX.refl _ _, rfl⟩
      · intro w109 D hS106 hd106
        have hl109 := Le.no M hS106
        have hC109 := hC1.no hS106
        have hd106 : PEq undef (D 23) w109 ∧ PEq (.bool false) (D 20) w109 ∧ True := hd106
        obtain ⟨d246, d247, -⟩ := hd106
        refine dg_sub (E' := [(26, undef), (23, (.bool false))]) ⟨(congrArg some d246), (congrArg some d247), trivial⟩ ?_
        exact dg_off rfl rfl rfl rfl ⟨BX.refl _ _, rfl⟩
      · intro w110 D hS107 hd107
        have hl110 := Le.no M hS107
        have hC110 := hC1.no hS107
        have hd107 : PEq undef (D 24) w110 ∧ PEq (.bool false) (D 20) w110 ∧ PEq (.bool false) (D 20) w110 ∧ True := hd107
        obtain ⟨d248, d249, d250, -⟩ := hd107
        refine dg_sub (E' := [(27, undef), (23, (.bool false))]) ⟨(congrArg some d248), (congrArg some d249), trivial⟩ ?_
        exact dg_off rfl rfl rfl rfl ⟨BX.refl _ _, rfl⟩
      · intro w111 D hS108 hd108
        have hl111 := Le.no M hS108
        have hC111 := hC1.no hS108
        have hd108 : PA RInt M a_t.Field (D 0) w111 ∧ PEq (.int .i64 a_t.Field) (D 1) w111 ∧ PEq (.bool true) (D 2) w111 ∧ PEq (.bool true) (D 3) w111 ∧ PA RInt M a_t.Field (D 4) w111 ∧ PEq (.int .i64 a_t.Field) (D 5) w111 ∧ PEq (.bool false) (D 6) w111 ∧ PEq (.bool false) (D 7) w111 ∧ PEq (.bool false) (D 8) w111 ∧ PEq undef (D 9) w111 ∧ PEq undef (D 10) w111 ∧ PEq undef (D 11) w111 ∧ PEq (.bool false) (D 12) w111 ∧ PEq (.bool false) (D 13) w111 ∧ PEq undef (D 14) w111 ∧ PEq undef (D 15) w111 ∧ PEq undef (D 16) w111 ∧ PEq undef (D 17) w111 ∧ PEq undef (D 18) w111 ∧ PEq (.bool false) (D 19) w111 ∧ PEq (.bool false) (D 20) w111 ∧ PEq undef (D 21) w111 ∧ PEq undef (D 22) w111 ∧ PEq undef (D 23) w111 ∧ PEq undef (D 24) w111 ∧ PEq undef (D 25) w111 ∧ True := hd108
        obtain ⟨-, -, -, -, -, -, -, -, -, -, -, -, -, -, -, -, -, -, -, -, d271, -, d273, -, -, d276, -⟩ := hd108
        refine lw_sub (E' := [(23, (.bool false)), (25, undef), (28, undef), (1, (.pointer (some p1))), (2, (.bool false))]) ⟨(congrArg some d271), (congrArg some d273), (congrArg some d276), rfl, rfl, trivial⟩ ?_
        refine lw_off rfl rfl rfl rfl rfl rfl ?_
        refine lw_op rfl rfl rfl (ow_pickF rfl rfl rfl ?_)
        refine lw_op rfl rfl rfl (ow_assign rfl rfl ?_)
        refine lw_nil ?_
        refine ew_then ?_
        refine cw_ret ?_
        obtain rfl := Option.some.inj h
        exact ew_ret (res1 rfl (.tmp rfl)) ⟨_, rfl, ((vbool _)), hC111.bx⟩
  · refine cw_sub (E' := [(1, (.pointer (some p1))), (2, (.bool false))]) ⟨rfl, rfl, trivial⟩ ?_
    refine cw_drawQ 26 [PA RInt M a_t.Field, PEq (.int .i64 a_t.Field), PEq (.bool false), PEq (.bool false), PEq undef, PEq undef, PEq undef, PEq (.bool false), PEq (.bool false), PEq undef, PEq undef, PEq undef, PEq (.bool false), PEq (.bool false), PEq undef, PEq undef, PEq undef, PEq undef, PEq undef, PEq (.bool false), PEq (.bool false), PEq undef, PEq undef, PEq undef, PEq undef, PEq undef] (by kernel_rfl) rfl (by kernel_rfl) ⟨PA.mono _ _ _, PEq.mono _, PEq.mono _, PEq.mono _, PEq.mono _, PEq.mono _, PEq.mono _, PEq.mono _, PEq.mono _, PEq.mono _, PEq.mono _, PEq.mono _, PEq.mono _, PEq.mono _, PEq.mono _, PEq.mono _, PEq.mono _, PEq.mono _, PEq.mono _, PEq.mono _, PEq.mono _, PEq.mono _, PEq.mono _, PEq.mono _, PEq.mono _, PEq.mono _, trivial⟩ ⟨?_, ?_, ?_, ?_, ?_, ?_, ?_, ?_, ?_, ?_, ?_, ?_, ?_, ?_, ?_, ?_, ?_, ?_, ?_, ?_, ?_, ?_, ?_, ?_, ?_, ?_, trivial⟩ ?_
    · intro w112 D hS109 hd109
      have hl112 := Le.no M hS109
      have hC112 := hC1.no hS109
      refine dg_sub (E' := [(1, (.pointer (some p1)))]) ⟨rfl, trivial⟩ ?_
      refine dg_plain rfl (ow_fieldAddr rfl rfl Tryd.underlying186 rfl (Tryd.sizeOf3 _) ?_)
      exact ⟨BX.refl _ _, ⟨_, rfl, (ARep.mono hl112 (hp1.fld fld_Test_Field))⟩⟩
    · intro w113 D hS110 hd110
      have hl113 := Le.no M hS110
      have hC113 := hC1.no hS110
      have hd110 : PA RInt M a_t.Field (D 0) w113 ∧ True := hd110
      obtain ⟨d277, -⟩ := hd110
      obtain ⟨p19, e18, ha18⟩ := d277
      refine dg_sub (E' := [(3, (.pointer (some p19)))]) ⟨(congrArg some e18), trivial⟩ ?_
      refine dg_plain rfl (ow_load (R := RInt) rfl rfl ha18 (Tryd.sizeOf3 _) (Tryd.isAgg3 _) fun v27 hv27 => ?_)
      obtain rfl := vint_eq hv27
      exact ⟨BX.refl _ _, rfl⟩
    · intro w114 D hS111 hd111
      have hl114 := Le.no M hS111
      have hC114 := hC1.no hS111
      have hd111 : PEq (.int .i64 a_t.Field) (D 1) w114 ∧ True := hd111
      obtain ⟨d278, -⟩ := hd111
      refine dg_sub (E' := [(4, (.int .i64 a_t.Field))]) ⟨(congrArg some d278), trivial⟩ ?_
      refine dg_plain rfl (ow_geq rfl rfl rfl fun bb19 hbb19 => ?_)
      obtain rfl := hbb19.trans hc1
      exact ⟨BX.refl _ _, rfl⟩
    · intro w115 D hS112 hd112
      have hl115 := Le.no M hS112
      have hC115 := hC1.no hS112
      have hd112 : PEq (.bool false) (D 2) w115 ∧ True := hd112
      obtain ⟨d279, -⟩ := hd112
      refine dg_sub (E' := [(5, (.bool false))]) ⟨(congrArg some d279), trivial⟩ ?_
      refine dg_plain rfl (ow_move rfl rfl ?_)
      exact ⟨BX.refl _ _, rfl⟩
    · intro w116 D hS113 hd113
      have hl116 := Le.no M hS113
      have hC116 := hC1.no hS113
      have hd113 : PEq (.bool false) (D 3) w116 ∧ True := hd113
      obtain ⟨d280, -⟩ := hd113
      refine dg_sub (E' := [(6, (.bool false)), (1, (.pointer (some p1)))]) ⟨(congrArg some d280), rfl, trivial⟩ ?_
      exact dg_off rfl rfl rfl rfl ⟨BX.refl _ _, rfl⟩
    · intro w117 D hS114 hd114
      have hl117 := Le.no M hS114
      have hC117 := hC1.no hS114
      have hd114 : PEq undef (D 4) w117 ∧ PEq (.bool false) (D 3) w117 ∧ True := hd114
      obtain ⟨d281, d282, -⟩ := hd114
      refine dg_sub (E' := [(7, undef), (6, (.bool false))]) ⟨(congrArg some d281), (congrArg some d282), trivial⟩ ?_
      exact dg_off rfl rfl rfl rfl ⟨BX.refl _ _, rfl⟩
    · intro w118 D hS115 hd115
      have hl118 := Le.no M hS115
      have hC118 := hC1.no hS115
      have hd115 : PEq undef (D 5) w118 ∧ PEq (.bool false) (D 3) w118 ∧ True := hd115
      obtain ⟨d283, d284, -⟩ := hd115
      refine dg_sub (E' := [(8, undef), (6, (.bool false))]) ⟨(congrArg some d283), (congrArg some d284), trivial⟩ ?_
      exact dg_off rfl rfl rfl rfl ⟨BX.refl _ _, rfl⟩
    · intro w119 D hS116 hd116
      have hl119 := Le.no M hS116
      have hC119 := hC1.no hS116
      have hd116 : PEq (.bool false) (D 3) w119 ∧ PEq undef (D 6) w119 ∧ True := hd116
      obtain ⟨d285, d286, -⟩ := hd116
      refine dg_sub (E' := [(6, (.bool false)), (9, undef)]) ⟨(congrArg some d285), (congrArg some d286), trivial⟩ ?_
      refine dg_plain rfl (ow_pickF rfl rfl rfl ?_)
      exact ⟨BX.refl _ _, rfl⟩
    · intro w120 D hS117 hd117
      have hl120 := Le.no M hS117
      have hC120 := hC1.no hS117
      have hd117 : PEq (.bool false) (D 7) w120 ∧ PEq (.bool false) (D 3) w120 ∧ True := hd117
      obtain ⟨d287, d288, -⟩ := hd117
      refine dg_sub (E' := [(10, (.bool false))]) ⟨(congrArg some d287), trivial⟩ ?_
      refine dg_plain rfl (ow_move rfl rfl ?_)
      exact ⟨BX.refl _ _, rfl⟩
    · intro w121 D hS118 hd118
      have hl121 := Le.no M hS118
      have hC121 := hC1.no hS118
      have hd118 : PEq (.bool false) (D 8) w121 ∧ True := hd118
      obtain ⟨d289, -⟩ := hd118
      refine dg_sub (E' := [(11, (.bool false)), (1, (.pointer (some p1)))]) ⟨(congrArg some d289), rfl, trivial⟩ ?_
      exact dg_off rfl rfl rfl rfl ⟨BX.refl _ _, rfl⟩
    · intro w122 D hS119 hd119
      have hl122 := Le.no M hS119
      have hC122 := hC1.no hS119
      have hd119 : PEq undef (D 9) w122 ∧ PEq (.bool false) (D 8) w122 ∧ True := hd119
      obtain ⟨d290, d291, -⟩ := hd119
      refine dg_sub (E' := [(12, undef), (11, (.bool false))]) ⟨(congrArg some d290), (congrArg some d291), trivial⟩ ?_
      exact dg_off rfl rfl rfl rfl ⟨BX.refl _ _, rfl⟩
    · intro w123 D hS120 hd120
      have hl123 := Le.no M hS120
      have hC123 := hC1.no hS120
      have hd120 : PEq undef (D 10) w123 ∧ PEq (.bool false) (D 8) w123 ∧ True := hd120
      obtain ⟨d292, d293, -⟩ := hd120
      refine dg_sub (E' := [(13, undef), (11, (.bool false))]) ⟨(congrArg some d292), (congrArg some d293), trivial⟩ ?_
      exact dg_off rfl rfl rfl rfl ⟨BX.refl _ _, rfl⟩
    · intro w124 D hS121 hd121
      have hl124 := Le.no M hS121
      have hC124 := hC1.no hS121
      have hd121 : PEq (.bool false) (D 8) w124 ∧ PEq undef (D 11) w124 ∧ True := hd121
      obtain ⟨d294, d295, -⟩ := hd121
      refine dg_sub (E' := [(11, (.bool false)), (14, undef)]) ⟨(congrArg some d294), (congrArg some d295), trivial⟩ ?_
      refine dg_plain rfl (ow_pickF rfl rfl rfl ?_)
      exact ⟨BX.refl _ _, rfl⟩
    · intro w125 D hS122 hd122
      have hl125 := Le.no M hS122
      have hC125 := hC1.no hS122
      have hd122 : PEq (.bool false) (D 12) w125 ∧ PEq (.bool false) (D 8) w125 ∧ True := hd122
      obtain ⟨d296, d297, -⟩ := hd122
      refine dg_sub (E' := [(15, (.bool false))]) ⟨(congrArg some d296), trivial⟩ ?_
      refine dg_plain rfl (ow_move rfl rfl ?_)
      exact ⟨BX.refl _ _, rfl⟩
    · intro w126 D hS123 hd123
      have hl126 := Le.no M hS123
      have hC126 := hC1.no hS123
      have hd123 : PEq (.bool false) (D 13) w126 ∧ True := hd123
      obtain ⟨d298, -⟩ := hd123
      refine dg_sub (E' := [(16, (.bool false)), (1, (.pointer (some p1)))]) ⟨(congrArg some d298), rfl, trivial⟩ ?_
      exact dg_off rfl rfl rfl rfl ⟨BX.refl _ _, rfl⟩
    · intro w127 D hS124 hd124
      have hl127 := Le.no M hS124
      have hC127 := hC1.no hS124
      have hd124 : PEq undef (D 14) w127 ∧ PEq (.bool false) (D 13) w127 ∧ True := hd124
      obtain ⟨d299, d300, -⟩ := hd124
      refine dg_sub (E' := [(17, undef), (16, (.bool false))]) ⟨(congrArg some d299), (congrArg some d300), trivial⟩ ?_
      exact dg_off rfl rfl rfl rfl ⟨BX.refl _ _, rfl⟩
    · intro w128 D hS125 hd125
      have hl128 := Le.no M hS125
      have hC128 := hC1.no hS125
      have hd125 : PEq (.bool false) (D 13) w128 ∧ True := hd125
      obtain ⟨d301, -⟩ := hd125
      refine dg_sub (E' := [(16, (.bool false)), (1, (.pointer (some p1)))]) ⟨(congrArg some d301), rfl, trivial⟩ ?_
      exact dg_off rfl rfl rfl rfl ⟨BX.refl _ _, rfl⟩
    · intro w129 D hS126 hd126
      have hl129 := Le.no M hS126
      have hC129 := hC1.no hS126
      have hd126 : PEq undef (D 16) w129 ∧ PEq (.bool false) (D 13) w129 ∧ True := hd126
      obtain ⟨d302, d303, -⟩ := hd126
      refine dg_sub (E' := [(19, undef), (16, (.bool false))]) ⟨(congrArg some d302), (congrArg some d303), trivial⟩ ?_
      exact dg_off rfl rfl rfl rfl ⟨BX.refl _ _, rfl⟩
    · intro w130 D hS127 hd127
      have hl130 := Le.no M hS127
      have hC130 := hC1.no hS127
      have hd127 : PEq undef (D 15) w130 ∧ PEq undef (D 17) w130 ∧ PEq (.bool false) (D 13) w130 ∧ True := hd127
      obtain ⟨d304, d305, d306, -⟩ := hd127
      refine dg_sub (E' := [(18, undef), (20, undef), (16, (.bool false))]) ⟨(congrArg some d304), (congrArg some d305), (congrArg some d306), trivial⟩ ?_
      exact dg_off rfl rfl rfl rfl ⟨BX.refl _ _, rfl⟩
    · intro w131 D hS128 hd128
      have hl131 := Le.no M hS128
      have hC131 := hC1.no hS128
      have hd128 : PEq (.bool false) (D 13) w131 ∧ PEq undef (D 18) w131 ∧ True := hd128
      obtain ⟨d307, d308, -⟩ := hd128
      refine dg_sub (E' := [(16, (.bool false)), (21, undef)]) ⟨(congrArg some d307), (congrArg some d308), trivial⟩ ?_
      refine dg_plain rfl (ow_pickF rfl rfl rfl ?_)
      exact ⟨BX.refl _ _, rfl⟩
    · intro w132 D hS129 hd129
      have hl132 := Le.no M hS129
      have hC132 := hC1.no hS129
      have hd129 : PEq (.bool false) (D 19) w132 ∧ PEq (.bool false) (D 13) w132 ∧ True := hd129
      obtain ⟨d309, d310, -⟩ := hd129
      refine dg_sub (E' := [(22, (.bool false))]) ⟨(congrArg some d309), trivial⟩ ?_
      refine dg_plain rfl (ow_move rfl rfl ?_)
      exact ⟨BX.refl _ _, rfl⟩
    · intro w133 D hS130 hd130
      have hl133 := Le.no M hS130
      have hC133 := hC1.no hS130
      have hd130 : PEq (.bool false) (D 20) w133 ∧ True := hd130
      obtain ⟨d311, -⟩ := hd130
      refine dg_sub (E' := [(23, (.bool false)), (1, (.pointer (some p1)))]) ⟨(congrArg some d311), rfl, trivial⟩ ?_
      exact dg_off rfl rfl rfl rfl ⟨BX.refl _ _, rfl⟩
    · intro w134 D hS131 hd131
      have hl134 := Le.no M hS131
      have hC134 := hC1.no hS131
      have hd131 : PEq undef (D 21) w134 ∧ PEq (.bool false) (D 20) w134 ∧ True := hd131
      obtain ⟨d312, d313, -⟩ := hd131
      refine dg_sub (E' := [(24, undef), (23, (.bool false))]) ⟨(congrArg some d312), (congrArg some d313), trivial⟩ ?_
      exact dg_off rfl rfl rfl rfl ⟨BX.refl _ _, rfl⟩
    · intro w135 D hS132 hd132
      have hl135 := Le.no M hS132
      have hC135 := hC1.no hS132
      have hd132 : PEq (.bool false) (D 20) w135 ∧ True := hd132
      obtain ⟨d314, -⟩ := hd132
      refine dg_sub (E' := [(23, (.bool false)), (1, (.pointer (some p1)))]) ⟨(congrArg some d314), rfl, trivial⟩ ?_
      exact dg_off rfl rfl rfl rfl ⟨BX.refl _ _, rfl⟩
    · intro w136 D hS133 hd133
      have hl136 := Le.no M hS133
      have hC136 := hC1.no hS133
      have hd133 : PEq undef (D 23) w136 ∧ PEq (.bool false) (D 20) w136 ∧ True := hd133
      obtain ⟨d315, d316, -⟩ := hd133
      refine dg_sub (E' := [(26, undef), (23, (.bool false))]) ⟨(congrArg some d315), (congrArg some d316), trivial⟩ ?_
      exact dg_off rfl rfl rfl rfl ⟨BX.refl _ _, rfl⟩
    · intro w137 D hS134 hd134
      have hl137 := Le.no M hS134
      have hC137 := hC1.no hS134
      have hd134 : PEq undef (D 24) w137 ∧ PEq (.bool false) (D 20) w137 ∧ PEq (.bool false) (D 20) w137 ∧ True := hd134
      obtain ⟨d317, d318, d319, -⟩ := hd134
      refine dg_sub (E' := [(27, undef), (23, (.bool false))]) ⟨(congrArg some d317), (congrArg some d318), trivial⟩ ?_
      exact dg_off rfl rfl rfl rfl ⟨BX.refl _ _, rfl⟩
    · intro w138 D hS135 hd135
      have hl138 := Le.no M hS135
      have hC138 := hC1.no hS135
      have hd135 : PA RInt M a_t.Field (D 0) w138 ∧ PEq (.int .i64 a_t.Field) (D 1) w138 ∧ PEq (.bool false) (D 2) w138 ∧ PEq (.bool false) (D 3) w138 ∧ PEq undef (D 4) w138 ∧ PEq undef (D 5) w138 ∧ PEq undef (D 6) w138 ∧ PEq (.bool false) (D 7) w138 ∧ PEq (.bool false) (D 8) w138 ∧ PEq undef (D 9) w138 ∧ PEq undef (D 10) w138 ∧ PEq undef (D 11) w138 ∧ PEq (.bool false) (D 12) w138 ∧ PEq (.bool false) (D 13) w138 ∧ PEq undef (D 14) w138 ∧ PEq undef (D 15) w138 ∧ PEq undef (D 16) w138 ∧ PEq undef (D 17) w138 ∧ PEq undef (D 18) w138 ∧ PEq (.bool false) (D 19) w138 ∧ PEq (.bool false) (D 20) w138 ∧ PEq undef (D 21) w138 ∧ PEq undef (D 22) w138 ∧ PEq undef (D 23) w138 ∧ PEq undef (D 24) w138 ∧ PEq undef (D 25) w138 ∧ True := hd135
      obtain ⟨-, -, -, -, -, -, -, -, -, -, -, -, -, -, -, -, -, -, -, -, d340, -, d342, -, -, d345, -⟩ := hd135
      refine lw_sub (E' := [(23, (.bool false)), (25, undef), (28, undef), (1, (.pointer (some p1))), (2, (.bool false))]) ⟨(congrArg some d340), (congrArg some d342), (congrArg some d345), rfl, rfl, trivial⟩ ?_
      refine lw_off rfl rfl rfl rfl rfl rfl ?_
      refine lw_op rfl rfl rfl (ow_pickF rfl rfl rfl ?_)
      refine lw_op rfl rfl rfl (ow_assign rfl rfl ?_)
      refine lw_nil ?_
      refine ew_then ?_
      refine cw_ret ?_
      obtain rfl := Option.some.inj h
      exact ew_ret (res1 rfl (.tmp rfl)) ⟨_, rfl, ((vbool _)), hC138.bx⟩

theorem w_impl_TestsValid {w : World} {M : Nat → Prop} (hG : ARep (RArr 4 RShape) w M shapes ⟨0, 0, none⟩) (hO : ∀ b, M b → b < w.heap.size) {v0p : Value} {a_list : List Test} (h0 : VRep (RSlice RTest) w M a_list v0p) {r : Bool} (h : F.impl_TestsValid a_list = some r) :
    Calls Tryd.prog 104 [v0p].toArray w fun e w' => ∃ v, e = .returned v ∧ VRep RBool w' M r v ∧ BX No w w' := by
  have hC : Cx No w M w M := Cx.start hO (fun _ e => e.elim)
  refine walk (N := 18) Tryd.func104 rfl Tryd.ntmps104 rfl ?_
  refine cw_seq ?_
  refine cw_region ?_
  refine lw_op rfl rfl rfl (ow_assign rfl rfl ?_)
  refine lw_nil ?_
  refine ew_then ?_
  refine cw_seq ?_
  refine cw_seq ?_
  refine cw_region ?_
  refine lw_op rfl rfl rfl (ow_move rfl rfl ?_)
  refine lw_op rfl rfl rfl (ow_len rfl rfl h0 Tryd.underlying74 rfl ?_)
  refine lw_op rfl rfl rfl (ow_gtr rfl rfl rfl fun bb1 hbb1 => ?_)
  refine lw_nil ?_
  refine ew_then ?_
  replace h := cond_some h
  rcases h with ⟨hc1, h⟩ | ⟨hc1, h⟩
  · obtain rfl := hbb1.trans hc1
    refine cw_true rfl ?_
    refine cw_seq ?_
    refine cw_region ?_
    refine lw_op rfl rfl rfl (ow_assign rfl rfl ?_)
    refine lw_nil ?_
    refine ew_then ?_
    refine cw_ret ?_
    refine ew_thenR ?_
    obtain rfl := Option.some.inj h
    exact ew_ret (res1 rfl (.tmp rfl)) ⟨_, rfl, ((vbool _)), hC.bx⟩
  · obtain rfl := hbb1.trans hc1
    refine cw_false rfl ?_
    refine cw_skip ?_
    refine ew_then ?_
    refine cw_seq ?_
    refine cw_seq ?_
    refine cw_region ?_
    refine lw_op rfl rfl rfl (ow_move rfl rfl ?_)
    refine lw_op rfl rfl rfl (ow_len rfl rfl h0 Tryd.underlying74 rfl ?_)
    refine lw_op rfl rfl rfl (ow_move rfl rfl ?_)
    refine lw_nil ?_
    refine ew_then ?_
    replace h := bind_some h
    obtain ⟨lr1, hlr1, h⟩ := h
    refine cw_for hlr1 (fun s a w' => ∃ (M' : Nat → Prop), Fits 18 [(8, v0p), (9, (.int .i64 (a_list.length : Int))), (10, (.int .i64 s))] a ∧ Le w M w' M' ∧ Cx No w M w' M') ?_ ?_ ?_
    · intro a ha
      exact ⟨M, ha.sub ⟨rfl, rfl, rfl, trivial⟩, Le.refl _ _, hC⟩
    · rintro k1 a w1 sr1 ⟨M1, hF1, hl1, hC1⟩ hb1 hR1
      refine cw_at (E := [(8, v0p), (9, (.int .i64 (a_list.length : Int))), (10, (.int .i64 k1))]) hF1 ?_
      refine cw_seq ?_
      refine cw_region ?_
      refine lw_op rfl rfl rfl (ow_lss rfl rfl rfl fun bb2 hbb2 => ?_)
      refine lw_nil ?_
      refine ew_then ?_
      refine cw_seq ?_
      replace hb1 := cond_some hb1
      rcases hb1 with ⟨hc2, hb1⟩ | ⟨hc2, hb1⟩
      · obtain rfl := hbb2.trans hc2
        refine cw_true rfl ?_
        refine cw_skip ?_
        refine ew_then ?_
        refine cw_seq ?_
        refine cw_block ?_
        refine cw_seq ?_
        refine cw_region ?_
        replace hb1 := bind_some hb1
        obtain ⟨x1, hx1, hb1⟩ := hb1
        refine lw_op rfl rfl rfl (ow_indexSlice (R := RTest) rfl rfl rfl (VRep.mono hl1 h0) Tryd.underlying74 (Tryd.sizeOf186 _) hx1 fun p1 hp1 => ?_)
        refine lw_op rfl rfl rfl (ow_load (R := RTest) rfl rfl hp1 (Tryd.sizeOf186 _) (Tryd.isAgg186 _) fun v2 hv2 => ?_)
        refine lw_allocStore (R := RTest) rfl rfl rfl rfl rfl rfl rfl Tryd.zeroValue186 Tryd.sizeOf186 rfl rfl rfl (by simp) hv2 hC1 fun p2 w2 hp2 hb2 hl2 hC2 => ?_
        refine lw_nil ?_
        refine ew_then ?_
        refine cw_seq ?_
        refine cw_region ?_
        refine lw_op rfl rfl rfl (ow_load (R := RTest) rfl rfl hp2 (Tryd.sizeOf186 _) (Tryd.isAgg186 _) fun v3 hv3 => ?_)
        replace hb1 := bind_some hb1
        obtain ⟨x2, hx2, hb1⟩ := hb1
        refine lw_op rfl rfl rfl (ow_call rfl rfl Tryd.call141 (w_impl_TestValid (hG.mono (hl1.trans hl2)) hC2.old hv3 hx2) fun v4 w3 hv4 => ?_)
        obtain ⟨hv4, hb3⟩ := hv4
        have hl3 := Le.no M1 hb3
        have hC3 := hC2.no hb3
        obtain rfl := vbool_eq hv4
        refine lw_op rfl rfl rfl (ow_not rfl rfl ?_)
        refine lw_nil ?_
        refine ew_then ?_
        replace hb1 := cond_some hb1
        rcases hb1 with ⟨hc3, hb1⟩ | ⟨hc3, hb1⟩
        · subst hc3
          refine cw_false rfl ?_
          refine cw_skip ?_
          refine ew_blockN ?_
          refine ew_then ?_
          refine cw_region ?_
          refine lw_op rfl rfl rfl (ow_add rfl rfl rfl ?_)
          refine lw_op rfl rfl rfl (ow_move rfl rfl ?_)
          refine lw_nil ?_
          refine ew_nxt (W (k1 + 1)) hb1 fun a ha => ⟨M1, ?_, ((hl1.trans hl2).trans hl3), hC3⟩
          exact ha.sub ⟨rfl, rfl, rfl, trivial⟩
        · subst hc3
          refine cw_true rfl ?_
          refine cw_seq ?_
          refine cw_region ?_
          refine lw_op rfl rfl rfl (ow_assign rfl rfl ?_)
          refine lw_nil ?_
          refine ew_then ?_
          refine cw_ret ?_
          refine ew_blockR ?_
          refine ew_thenR ?_
          refine ew_thenR ?_
          refine ew_blockR ?_
          refine ew_brkR ?_
          refine ew_thenR ?_
          have e1 := hR1 _ (Option.some.inj hb1).symm
          subst e1
          obtain rfl := Option.some.inj h
          exact ew_ret (res1 rfl (.tmp rfl)) ⟨_, rfl, ((vbool _)), hC3.bx⟩
      · obtain rfl := hbb2.trans hc2
        refine cw_false rfl ?_
        refine cw_exit ?_
        refine ew_thenX ?_
        refine ew_thenX ?_
        refine ew_blockX ?_
        refine ew_brk k1 hb1 fun a ha => ⟨M1, ?_, hl1, hC1⟩
        exact ha.sub ⟨rfl, rfl, rfl, trivial⟩
    · rintro k2 a w4 hlr2 ⟨M2, hF2, hl4, hC4⟩
      subst hlr2
      refine ew_at (E := [(8, v0p), (9, (.int .i64 (a_list.length : Int))), (10, (.int .i64 k2))]) hF2 ?_
      refine ew_then ?_
      refine cw_seq ?_
      refine cw_region ?_
      refine lw_op rfl rfl rfl (ow_assign rfl rfl ?_)
      refine lw_nil ?_
      refine ew_then ?_
      refine cw_ret ?_
      obtain rfl := Option.some.inj h
      exact ew_ret (res1 rfl (.tmp rfl)) ⟨_, rfl, ((vbool _)), hC4.bx⟩

theorem w_impl_RuleValid {w : World} {M : Nat → Prop} (hG : ARep (RArr 4 RShape) w M shapes ⟨0, 0, none⟩) (hO : ∀ b, M b → b < w.heap.size) {v0p : Value} {a_r : Rule} (h0 : VRep RRule w M a_r v0p) {r : Bool} (h : F.impl_RuleValid a_r = some r) :
    Calls Tryd.prog 99 [v0p].toArray w fun e w' => ∃ v, e = .returned v ∧ VRep RBool w' M r v ∧ BX No w w' := by
  have hC : Cx No w M w M := Cx.start hO (fun _ e => e.elim)
  refine walk (N := 27) Tryd.func99 rfl Tryd.ntmps99 rfl ?_
  refine cw_seq ?_
  refine cw_region ?_
  refine lw_op rfl rfl rfl (ow_box (R := RRule) rfl rfl h0 hC fun p1 w1 hp1 hb1 hl1 hC1 => ?_)
  refine lw_op rfl rfl rfl (ow_assign rfl rfl ?_)
  refine lw_nil ?_
  refine ew_then ?_
  refine cw_seq ?_
  refine cw_seq ?_
  refine cw_region ?_
  refine lw_op rfl rfl rfl (ow_fieldAddr rfl rfl Tryd.underlying76 rfl (Tryd.sizeOf74 _) ?_)
  refine lw_op rfl rfl rfl (ow_load (R := (RSlice RTest)) rfl rfl (hp1.fld fld_Rule_Tests) (Tryd.sizeOf74 _) (Tryd.isAgg74 _) fun v1 hv1 => ?_)
  replace h := bind_some h
  obtain ⟨x1, hx1, h⟩ := h
  refine lw_op rfl rfl rfl (ow_call rfl rfl Tryd.call104 (w_impl_TestsValid (hG.mono hl1) hC1.old hv1 hx1) fun v2 w2 hv2 => ?_)
  obtain ⟨hv2, hb2⟩ := hv2
  have hl2 := Le.no M hb2
  have hC2 := hC1.no hb2
  obtain rfl := vbool_eq hv2
  refine lw_op rfl rfl rfl (ow_not rfl rfl ?_)
  refine lw_nil ?_
  refine ew_then ?_
  replace h := cond_some h
  rcases h with ⟨hc1, h⟩ | ⟨hc1, h⟩
  · subst hc1
    refine cw_false rfl ?_
    refine cw_skip ?_
    refine ew_then ?_
    refine cw_seq ?_
    refine cw_seq ?_
    refine cw_region ?_
    refine lw_op rfl rfl rfl (ow_fieldAddr rfl rfl Tryd.underlying76 rfl (Tryd.sizeOf3 _) ?_)
    refine lw_op rfl rfl rfl (ow_load (R := RInt) rfl rfl (ARep.mono hl2 (hp1.fld fld_Rule_Action)) (Tryd.sizeOf3 _) (Tryd.isAgg3 _) fun v3 hv3 => ?_)
    obtain rfl := vint_eq hv3
    refine lw_nil ?_
    refine ew_then ?_
    refine cw_block ?_
    refine cw_seq ?_
    refine cw_region ?_
    refine lw_op rfl rfl rfl (ow_eqlI rfl rfl rfl fun bb1 hbb1 => ?_)
    refine lw_op rfl rfl rfl (ow_assign rfl rfl ?_)
    refine lw_nil ?_
    refine ew_then ?_
    replace h := cond_some h
    rcases h with ⟨hc2, h⟩ | ⟨hc2, h⟩
    · obtain rfl := hbb1.trans hc2
      refine cw_true rfl ?_
      refine cw_seq ?_
      refine cw_region ?_
      refine lw_op rfl rfl rfl (ow_fieldAddr rfl rfl Tryd.underlying76 rfl (Tryd.sizeOf3 _) ?_)
      refine lw_op rfl rfl rfl (ow_load (R := RInt) rfl rfl (ARep.mono hl2 (hp1.fld fld_Rule_Chain)) (Tryd.sizeOf3 _) (Tryd.isAgg3 _) fun v4 hv4 => ?_)
      obtain rfl := vint_eq hv4
      refine lw_op rfl rfl rfl (ow_geq rfl rfl rfl fun bb2 hbb2 => ?_)
      refine lw_op rfl rfl rfl (ow_move rfl rfl ?_)
      replace h := cond_some h
      rcases h with ⟨hc3, h⟩ | ⟨hc3, h⟩
      · obtain rfl := hbb2.trans hc3
        refine lw_on rfl rfl rfl rfl rfl rfl (ow_fieldAddr rfl rfl Tryd.underlying76 rfl (Tryd.sizeOf3 _) ?_)
        refine lw_on rfl rfl rfl rfl rfl rfl (ow_load (R := RInt) rfl rfl (ARep.mono hl2 (hp1.fld fld_Rule_Chain)) (Tryd.sizeOf3 _) (Tryd.isAgg3 _) fun v5 hv5 => ?_)
        obtain rfl := vint_eq hv5
        refine lw_on rfl rfl rfl rfl rfl rfl (ow_lss rfl rfl rfl fun bb3 hbb3 => ?_)
        refine lw_op rfl rfl rfl (ow_pickT rfl rfl rfl ?_)
        refine lw_op rfl rfl rfl (ow_assign rfl rfl ?_)
        refine lw_nil ?_
        refine ew_then ?_
        refine cw_ret ?_
        refine ew_blockR ?_
        refine ew_thenR ?_
        obtain rfl := Option.some.inj h
        exact ew_ret (res1 rfl (.tmp rfl)) ⟨_, rfl, ((vbool_of hbb3)), hC2.bx⟩
      · obtain rfl := hbb2.trans hc3
        refine lw_off rfl rfl rfl rfl rfl rfl ?_
        refine lw_off rfl rfl rfl rfl rfl rfl ?_
        refine lw_off rfl rfl rfl rfl rfl rfl ?_
        refine lw_op rfl rfl rfl (ow_pickF rfl rfl rfl ?_)
        refine lw_op rfl rfl rfl (ow_assign rfl rfl ?_)
        refine lw_nil ?_
        refine ew_then ?_
        refine cw_ret ?_
        refine ew_blockR ?_
        refine ew_thenR ?_
        obtain rfl := Option.some.inj h
        exact ew_ret (res1 rfl (.tmp rfl)) ⟨_, rfl, ((vbool _)), hC2.bx⟩
    · obtain rfl := hbb1.trans hc2
      refine cw_false rfl ?_
      refine cw_seq ?_
      refine cw_seq ?_
      refine cw_region ?_
      refine lw_op rfl rfl rfl (ow_eqlI rfl rfl rfl fun bb4 hbb4 => ?_)
      refine lw_op rfl rfl rfl (ow_assign rfl rfl ?_)
      refine lw_nil ?_
      refine ew_then ?_
      replace h := cond_some h
      rcases h with ⟨hc4, h⟩ | ⟨hc4, h⟩
      · obtain rfl := hbb4.trans hc4
        refine cw_true rfl ?_
        refine cw_skip ?_
        refine ew_then ?_
        refine cw_true rfl ?_
        refine cw_seq ?_
        refine cw_region ?_
        refine lw_op rfl rfl rfl (ow_fieldAddr rfl rfl Tryd.underlying76 rfl (Tryd.sizeOf3 _) ?_)
        refine lw_op rfl rfl rfl (ow_load (R := RInt) rfl rfl (ARep.mono hl2 (hp1.fld fld_Rule_Chain)) (Tryd.sizeOf3 _) (Tryd.isAgg3 _) fun v6 hv6 => ?_)
        obtain rfl := vint_eq hv6
        refine lw_op rfl rfl rfl (ow_eqlI rfl rfl rfl fun bb5 hbb5 => ?_)
        refine lw_op rfl rfl rfl (ow_assign rfl rfl ?_)
        refine lw_nil ?_
        refine ew_then ?_
        refine cw_ret ?_
        refine ew_blockR ?_
        refine ew_thenR ?_
        obtain rfl := Option.some.inj h
        exact ew_ret (res1 rfl (.tmp rfl)) ⟨_, rfl, ((vbool_of hbb5)), hC2.bx⟩
      · obtain rfl := hbb4.trans hc4
        refine cw_false rfl ?_
        refine cw_seq ?_
        refine cw_region ?_
        refine lw_op rfl rfl rfl (ow_eqlI rfl rfl rfl fun bb6 hbb6 => ?_)
        refine lw_op rfl rfl rfl (ow_assign rfl rfl ?_)
        refine lw_nil ?_
        refine ew_then ?_
        replace h := cond_some h
        rcases h with ⟨hc5, h⟩ | ⟨hc5, h⟩
        · obtain rfl := hbb6.trans hc5
          refine cw_true rfl ?_
          refine cw_skip ?_
          refine ew_then ?_
          refine cw_true rfl ?_
          refine cw_seq ?_
          refine cw_region ?_
          refine lw_op rfl rfl rfl (ow_fieldAddr rfl rfl Tryd.underlying76 rfl (Tryd.sizeOf3 _) ?_)
          refine lw_op rfl rfl rfl (ow_load (R := RInt) rfl rfl (ARep.mono hl2 (hp1.fld fld_Rule_Chain)) (Tryd.sizeOf3 _) (Tryd.isAgg3 _) fun v7 hv7 => ?_)
          obtain rfl := vint_eq hv7
          refine lw_op rfl rfl rfl (ow_eqlI rfl rfl rfl fun bb7 hbb7 => ?_)
          refine lw_op rfl rfl rfl (ow_assign rfl rfl ?_)
          refine lw_nil ?_
          refine ew_then ?_
          refine cw_ret ?_
          refine ew_blockR ?_
          refine ew_thenR ?_
          obtain rfl := Option.some.inj h
          exact ew_ret (res1 rfl (.tmp rfl)) ⟨_, rfl, ((vbool_of hbb7)), hC2.bx⟩
        · obtain rfl := hbb6.trans hc5
          refine cw_false rfl ?_
          refine cw_seq ?_
          refine cw_region ?_
          refine lw_op rfl rfl rfl (ow_eqlI rfl rfl rfl fun bb8 hbb8 => ?_)
          refine lw_op rfl rfl rfl (ow_assign rfl rfl ?_)
          refine lw_nil ?_
          refine ew_then ?_
          replace h := cond_some h
          rcases h with ⟨hc6, h⟩ | ⟨hc6, h⟩
          · obtain rfl := hbb8.trans hc6
            refine cw_true rfl ?_
            refine cw_skip ?_
            refine ew_then ?_
            refine cw_true rfl ?_
            refine cw_seq ?_
            refine cw_region ?_
            refine lw_op rfl rfl rfl (ow_fieldAddr rfl rfl Tryd.underlying76 rfl (Tryd.sizeOf3 _) ?_)
            refine lw_op rfl rfl rfl (ow_load (R := RInt) rfl rfl (ARep.mono hl2 (hp1.fld fld_Rule_Chain)) (Tryd.sizeOf3 _) (Tryd.isAgg3 _) fun v8 hv8 => ?_)
            obtain rfl := vint_eq hv8
            refine lw_op rfl rfl rfl (ow_eqlI rfl rfl rfl fun bb9 hbb9 => ?_)
            refine lw_op rfl rfl rfl (ow_assign rfl rfl ?_)
            refine lw_nil ?_
            refine ew_then ?_
            refine cw_ret ?_
            refine ew_blockR ?_
            refine ew_thenR ?_
            obtain rfl := Option.some.inj h
            exact ew_ret (res1 rfl (.tmp rfl)) ⟨_, rfl, ((vbool_of hbb9)), hC2.bx⟩
          · obtain rfl := hbb8.trans hc6
            refine cw_false rfl ?_
            refine cw_region ?_
            refine lw_op rfl rfl rfl (ow_eqlI rfl rfl rfl fun bb10 hbb10 => ?_)
            refine lw_op rfl rfl rfl (ow_assign rfl rfl ?_)
            refine lw_nil ?_
            refine ew_then ?_
            replace h := cond_some h
            rcases h with ⟨hc7, h⟩ | ⟨hc7, h⟩
            · obtain rfl := hbb10.trans hc7
              refine cw_true rfl ?_
              refine cw_seq ?_
              refine cw_region ?_
              refine lw_op rfl rfl rfl (ow_fieldAddr rfl rfl Tryd.underlying76 rfl (Tryd.sizeOf3 _) ?_)
              refine lw_op rfl rfl rfl (ow_load (R := RInt) rfl rfl (ARep.mono hl2 (hp1.fld fld_Rule_Chain)) (Tryd.sizeOf3 _) (Tryd.isAgg3 _) fun v9 hv9 => ?_)
              obtain rfl := vint_eq hv9
              refine lw_op rfl rfl rfl (ow_eqlI rfl rfl rfl fun bb11 hbb11 => ?_)
              refine lw_op rfl rfl rfl (ow_assign rfl rfl ?_)
              refine lw_nil ?_
              refine ew_then ?_
              refine cw_ret ?_
              refine ew_blockR ?_
              refine ew_thenR ?_
              obtain rfl := Option.some.inj h
              exact ew_ret (res1 rfl (.tmp rfl)) ⟨_, rfl, ((vbool_of hbb11)), hC2.bx⟩
            · obtain rfl := hbb10.trans hc7
              refine cw_false rfl ?_
              refine cw_skip ?_
              refine ew_blockN ?_
              refine ew_then ?_
              refine cw_seq ?_
              refine cw_region ?_
              refine lw_op rfl rfl rfl (ow_assign rfl rfl ?_)
              refine lw_nil ?_
              refine ew_then ?_
              refine cw_ret ?_
              obtain rfl := Option.some.inj h
              exact ew_ret (res1 rfl (.tmp rfl)) ⟨_, rfl, ((vbool _)), hC2.bx⟩
  · subst hc1
    refine cw_true rfl ?_
    refine cw_seq ?_
    refine cw_region ?_
    refine lw_op rfl rfl rfl (ow_assign rfl rfl ?_)
    refine lw_nil ?_
    refine ew_then ?_
    refine cw_ret ?_
    refine ew_thenR ?_
    obtain rfl := Option.some.inj h
    exact ew_ret (res1 rfl (.tmp rfl)) ⟨_, rfl, ((vbool _)), hC2.bx⟩

theorem w_impl_Test_holds {w : World} {M : Nat → Prop} (hG : ARep (RArr 4 RShape) w M shapes ⟨0, 0, none⟩) (hO : ∀ b, M b → b < w.heap.size) {v0p : Value} {a_t : Test} (h0 : VRep RTest w M a_t v0p) {v1p : Value} {a_p : Packet} (h1 : VRep RPacket w M a_p v1p) {r : Bool} (h : F.impl_Test_holds a_t a_p = some r) :
    Calls Tryd.prog 139 [v0p, v1p].toArray w fun e w' => ∃ v, e = .returned v ∧ VRep RBool w' M r v ∧ BX No w w' := by
  have hC : Cx No w M w M := Cx.start hO (fun _ e => e.elim)
  refine walk (N := 26) Tryd.func139 rfl Tryd.ntmps139 rfl ?_
  refine cw_seq ?_
  refine cw_region ?_
  refine lw_op rfl rfl rfl (ow_box (R := RTest) rfl rfl h0 hC fun p1 w1 hp1 hb1 hl1 hC1 => ?_)
  refine lw_op rfl rfl rfl (ow_box (R := RPacket) rfl rfl (VRep.mono hl1 h1) hC1 fun p2 w2 hp2 hb2 hl2 hC2 => ?_)
  refine lw_op rfl rfl rfl (ow_assign rfl rfl ?_)
  refine lw_nil ?_
  refine ew_then ?_
  refine cw_seq ?_
  replace h := bind_some h
  obtain ⟨x1, hx1, h⟩ := h
  refine cw_sub (E' := [(2, (.pointer (some p1))), (3, (.pointer (some p2))), (4, (.bool false))]) ⟨rfl, rfl, rfl, trivial⟩ ?_
  refine cw_drawQ 4 [PV RPacket M a_p, PV (RArr 4 RInt) M x1, PA RInt M a_t.Field, PEq (.int .i64 a_t.Field)] (by kernel_rfl) rfl (by kernel_rfl) ⟨PV.mono _ _ _, PV.mono _ _ _, PA.mono _ _ _, PEq.mono _, trivial⟩ ⟨?_, ?_, ?_, ?_, trivial⟩ ?_
  · intro w4 D hS1 hd1
    have hl4 := Le.no M hS1
    have hC4 := hC2.no hS1
    refine dg_sub (E' := [(3, (.pointer (some p2)))]) ⟨rfl, trivial⟩ ?_
    refine dg_plain rfl (ow_load (R := RPacket) rfl rfl (ARep.mono hl4 hp2) (Tryd.sizeOf39 _) (Tryd.isAgg39 _) fun v4 hv4 => ?_)
    exact ⟨BX.refl _ _, hv4⟩
  · intro w5 D hS2 hd2
    have hl5 := Le.no M hS2
    have hC5 := hC2.no hS2
    have hd2 : PV RPacket M a_p (D 0) w5 ∧ True := hd2
    obtain ⟨d1, -⟩ := hd2
    obtain ⟨v5, hq1⟩ : ∃ v, (D 0) = v := ⟨_, rfl⟩
    rw [hq1] at d1
    refine dg_sub (E' := [(7, v5)]) ⟨(congrArg some hq1), trivial⟩ ?_
    refine dg_plain rfl (ow_call rfl rfl Tryd.call119 (w_impl_Packet_fields (hG.mono ((hl1.trans hl2).trans hl5)) hC5.old d1 hx1) fun v6 w6 hv6 => ?_)
    obtain ⟨hv6, hb4⟩ := hv6
    have hl6 := Le.no M hb4
    have hC6 := hC5.no hb4
    exact ⟨hb4, hv6⟩
  · intro w7 D hS3 hd3
    have hl7 := Le.no M hS3
    have hC7 := hC2.no hS3
    refine dg_sub (E' := [(2, (.pointer (some p1)))]) ⟨rfl, trivial⟩ ?_
    refine dg_plain rfl (ow_fieldAddr rfl rfl Tryd.underlying186 rfl (Tryd.sizeOf3 _) ?_)
    exact ⟨BX.refl _ _, ⟨_, rfl, (ARep.mono (hl2.trans hl7) (hp1.fld fld_Test_Field))⟩⟩
  · intro w8 D hS4 hd4
    have hl8 := Le.no M hS4
    have hC8 := hC2.no hS4
    have hd4 : PA RInt M a_t.Field (D 2) w8 ∧ True := hd4
    obtain ⟨d2, -⟩ := hd4
    obtain ⟨p3, e1, ha1⟩ := d2
    refine dg_sub (E' := [(9, (.pointer (some p3)))]) ⟨(congrArg some e1), trivial⟩ ?_
    refine dg_plain rfl (ow_load (R := RInt) rfl rfl ha1 (Tryd.sizeOf3 _) (Tryd.isAgg3 _) fun v7 hv7 => ?_)
    obtain rfl := vint_eq hv7
    exact ⟨BX.refl _ _, rfl⟩
  · intro w9 D hS5 hd5
    have hl9 := Le.no M hS5
    have hC9 := hC2.no hS5
    have hd5 : PV RPacket M a_p (D 0) w9 ∧ PV (RArr 4 RInt) M x1 (D 1) w9 ∧ PA RInt M a_t.Field (D 2) w9 ∧ PEq (.int .i64 a_t.Field) (D 3) w9 ∧ True := hd5
    obtain ⟨-, d4, -, d6, -⟩ := hd5
    obtain ⟨v8, hq2⟩ : ∃ v, (D 1) = v := ⟨_, rfl⟩
    rw [hq2] at d4
    refine lw_sub (E' := [(8, v8), (10, (.int .i64 a_t.Field)), (2, (.pointer (some p1))), (3, (.pointer (some p2))), (4, (.bool false))]) ⟨(congrArg some hq2), (congrArg some d6), rfl, rfl, rfl, trivial⟩ ?_
    replace h := bind_some h
    obtain ⟨x2, hx2, h⟩ := h
    refine lw_op rfl rfl rfl (ow_index (R := RInt) rfl rfl rfl d4 Tryd.underlying149 (Tryd.sizeOf3 _) (Tryd.isAgg3 _) hx2 fun v9 hv9 => ?_)
    obtain rfl := vint_eq hv9
    refine lw_op rfl rfl rfl (ow_assign rfl rfl ?_)
    refine lw_nil ?_
    refine ew_then ?_
    refine cw_seq ?_
    refine cw_region ?_
    refine lw_op rfl rfl rfl (ow_fieldAddr rfl rfl Tryd.underlying186 rfl (Tryd.sizeOf3 _) ?_)
    refine lw_op rfl rfl rfl (ow_load (R := RInt) rfl rfl (ARep.mono (hl2.trans hl9) (hp1.fld fld_Test_Lo)) (Tryd.sizeOf3 _) (Tryd.isAgg3 _) fun v10 hv10 => ?_)
    obtain rfl := vint_eq hv10
    refine lw_op rfl rfl rfl (ow_move rfl rfl ?_)
    refine lw_op rfl rfl rfl (ow_leq rfl rfl rfl fun bb1 hbb1 => ?_)
    refine lw_op rfl rfl rfl (ow_move rfl rfl ?_)
    replace h := cond_some h
    rcases h with ⟨hc1, h⟩ | ⟨hc1, h⟩
    · obtain rfl := hbb1.trans hc1
      refine lw_on rfl rfl rfl rfl rfl rfl (ow_move rfl rfl ?_)
      refine lw_on rfl rfl rfl rfl rfl rfl (ow_fieldAddr rfl rfl Tryd.underlying186 rfl (Tryd.sizeOf3 _) ?_)
      refine lw_on rfl rfl rfl rfl rfl rfl (ow_load (R := RInt) rfl rfl (ARep.mono (hl2.trans hl9) (hp1.fld fld_Test_Hi)) (Tryd.sizeOf3 _) (Tryd.isAgg3 _) fun v11 hv11 => ?_)
      obtain rfl := vint_eq hv11
      refine lw_on rfl rfl rfl rfl rfl rfl (ow_leq rfl rfl rfl fun bb2 hbb2 => ?_)
      refine lw_op rfl rfl rfl (ow_pickT rfl rfl rfl ?_)
      refine lw_op rfl rfl rfl (ow_assign rfl rfl ?_)
      refine lw_nil ?_
      refine ew_then ?_
      refine cw_seq ?_
      refine cw_region ?_
      refine lw_op rfl rfl rfl (ow_move rfl rfl ?_)
      refine lw_op rfl rfl rfl (ow_fieldAddr rfl rfl Tryd.underlying186 rfl (Tryd.sizeOf4 _) ?_)
      refine lw_op rfl rfl rfl (ow_load (R := RBool) rfl rfl (ARep.mono (hl2.trans hl9) (hp1.fld fld_Test_Not)) (Tryd.sizeOf4 _) (Tryd.isAgg4 _) fun v12 hv12 => ?_)
      obtain ⟨bb3, hbb3, rfl⟩ := vbool_ex hv12
      refine lw_op rfl rfl rfl (ow_neqB rfl rfl rfl Tryd.underlying4 fun bb4 hbb4 => ?_)
      have hbb4' : bb4 = ((decide (x2 ≤ a_t.Hi)) != a_t.Not) := hbb4.trans (by rw [hbb2, hbb3])
      refine lw_op rfl rfl rfl (ow_assign rfl rfl ?_)
      refine lw_nil ?_
      refine ew_then ?_
      refine cw_ret ?_
      obtain rfl := Option.some.inj h
      exact ew_ret (res1 rfl (.tmp rfl)) ⟨_, rfl, ((vbool_of hbb4')), hC9.bx⟩
    · obtain rfl := hbb1.trans hc1
      refine lw_off rfl rfl rfl rfl rfl rfl ?_
      refine lw_off rfl rfl rfl rfl rfl rfl ?_
      refine lw_off rfl rfl rfl rfl rfl rfl ?_
      refine lw_off rfl rfl rfl rfl rfl rfl ?_
      refine lw_op rfl rfl rfl (ow_pickF rfl rfl rfl ?_)
      refine lw_op rfl rfl rfl (ow_assign rfl rfl ?_)
      refine lw_nil ?_
      refine ew_then ?_
      refine cw_seq ?_
      refine cw_region ?_
      refine lw_op rfl rfl rfl (ow_move rfl rfl ?_)
      refine lw_op rfl rfl rfl (ow_fieldAddr rfl rfl Tryd.underlying186 rfl (Tryd.sizeOf4 _) ?_)
      refine lw_op rfl rfl rfl (ow_load (R := RBool) rfl rfl (ARep.mono (hl2.trans hl9) (hp1.fld fld_Test_Not)) (Tryd.sizeOf4 _) (Tryd.isAgg4 _) fun v13 hv13 => ?_)
      obtain ⟨bb5, hbb5, rfl⟩ := vbool_ex hv13
      refine lw_op rfl rfl rfl (ow_neqB rfl rfl rfl Tryd.underlying4 fun bb6 hbb6 => ?_)
      have hbb6' : bb6 = (false != a_t.Not) := hbb6.trans (by rw [hbb5])
      refine lw_op rfl rfl rfl (ow_assign rfl rfl ?_)
      refine lw_nil ?_
      refine ew_then ?_
      refine cw_ret ?_
      obtain rfl := Option.some.inj h
      exact ew_ret (res1 rfl (.tmp rfl)) ⟨_, rfl, ((vbool_of hbb6')), hC9.bx⟩

theorem w_impl_allHold {w : World} {M : Nat → Prop} (hG : ARep (RArr 4 RShape) w M shapes ⟨0, 0, none⟩) (hO : ∀ b, M b → b < w.heap.size) {v0p : Value} {a_list : List Test} (h0 : VRep (RSlice RTest) w M a_list v0p) {v1p : Value} {a_p : Packet} (h1 : VRep RPacket w M a_p v1p) {r : Bool} (h : F.impl_allHold a_list a_p = some r) :
    Calls Tryd.prog 100 [v0p, v1p].toArray w fun e w' => ∃ v, e = .returned v ∧ VRep RBool w' M r v ∧ BX No w w' := by
  have hC : Cx No w M w M := Cx.start hO (fun _ e => e.elim)
  refine walk (N := 18) Tryd.func100 rfl Tryd.ntmps100 rfl ?_
  refine cw_seq ?_
  refine cw_region ?_
  refine lw_op rfl rfl rfl (ow_box (R := RPacket) rfl rfl h1 hC fun p1 w1 hp1 hb1 hl1 hC1 => ?_)
  refine lw_op rfl rfl rfl (ow_assign rfl rfl ?_)
  refine lw_nil ?_
  refine ew_then ?_
  refine cw_seq ?_
  refine cw_seq ?_
  refine cw_region ?_
  refine lw_op rfl rfl rfl (ow_move rfl rfl ?_)
  refine lw_op rfl rfl rfl (ow_len rfl rfl (VRep.mono hl1 h0) Tryd.underlying74 rfl ?_)
  refine lw_op rfl rfl rfl (ow_move rfl rfl ?_)
  refine lw_nil ?_
  refine ew_then ?_
  replace h := bind_some h
  obtain ⟨lr1, hlr1, h⟩ := h
  refine cw_for hlr1 (fun s a w' => ∃ (M' : Nat → Prop), Fits 18 [(3, (.pointer (some p1))), (7, v0p), (8, (.int .i64 (a_list.length : Int))), (9, (.int .i64 s))] a ∧ Le w1 M w' M' ∧ Cx No w M w' M') ?_ ?_ ?_
  · intro a ha
    exact ⟨M, ha.sub ⟨rfl, rfl, rfl, rfl, trivial⟩, Le.refl _ _, hC1⟩
  · rintro k1 a w2 sr1 ⟨M1, hF1, hl2, hC2⟩ hb2 hR1
    refine cw_at (E := [(3, (.pointer (some p1))), (7, v0p), (8, (.int .i64 (a_list.length : Int))), (9, (.int .i64 k1))]) hF1 ?_
    refine cw_seq ?_
    refine cw_region ?_
    refine lw_op rfl rfl rfl (ow_lss rfl rfl rfl fun bb1 hbb1 => ?_)
    refine lw_nil ?_
    refine ew_then ?_
    refine cw_seq ?_
    replace hb2 := cond_some hb2
    rcases hb2 with ⟨hc1, hb2⟩ | ⟨hc1, hb2⟩
    · obtain rfl := hbb1.trans hc1
      refine cw_true rfl ?_
      refine cw_skip ?_
      refine ew_then ?_
      refine cw_seq ?_
      refine cw_block ?_
      refine cw_seq ?_
      refine cw_region ?_
      replace hb2 := bind_some hb2
      obtain ⟨x1, hx1, hb2⟩ := hb2
      refine lw_op rfl rfl rfl (ow_indexSlice (R := RTest) rfl rfl rfl (VRep.mono (hl1.trans hl2) h0) Tryd.underlying74 (Tryd.sizeOf186 _) hx1 fun p2 hp2 => ?_)
      refine lw_op rfl rfl rfl (ow_load (R := RTest) rfl rfl hp2 (Tryd.sizeOf186 _) (Tryd.isAgg186 _) fun v2 hv2 => ?_)
      refine lw_allocStore (R := RTest) rfl rfl rfl rfl rfl rfl rfl Tryd.zeroValue186 Tryd.sizeOf186 rfl rfl rfl (by simp) hv2 hC2 fun p3 w3 hp3 hb3 hl3 hC3 => ?_
      refine lw_nil ?_
      refine ew_then ?_
      refine cw_seq ?_
      refine cw_region ?_
      refine lw_op rfl rfl rfl (ow_load (R := RTest) rfl rfl hp3 (Tryd.sizeOf186 _) (Tryd.isAgg186 _) fun v3 hv3 => ?_)
      refine lw_op rfl rfl rfl (ow_load (R := RPacket) rfl rfl (ARep.mono (hl2.trans hl3) hp1) (Tryd.sizeOf39 _) (Tryd.isAgg39 _) fun v4 hv4 => ?_)
      replace hb2 := bind_some hb2
      obtain ⟨x2, hx2, hb2⟩ := hb2
      refine lw_op rfl rfl rfl (ow_call rfl rfl Tryd.call139 (w_impl_Test_holds (hG.mono ((hl1.trans hl2).trans hl3)) hC3.old hv3 hv4 hx2) fun v5 w4 hv5 => ?_)
      obtain ⟨hv5, hb4⟩ := hv5
      have hl4 := Le.no M1 hb4
      have hC4 := hC3.no hb4
      obtain rfl := vbool_eq hv5
      refine lw_op rfl rfl rfl (ow_not rfl rfl ?_)
      refine lw_nil ?_
      refine ew_then ?_
      replace hb2 := cond_some hb2
      rcases hb2 with ⟨hc2, hb2⟩ | ⟨hc2, hb2⟩
      · subst hc2
        refine cw_false rfl ?_
        refine cw_skip ?_
        refine ew_blockN ?_
        refine ew_then ?_
        refine cw_region ?_
        refine lw_op rfl rfl rfl (ow_add rfl rfl rfl ?_)
        refine lw_op rfl rfl rfl (ow_move rfl rfl ?_)
        refine lw_nil ?_
        refine ew_nxt (W (k1 + 1)) hb2 fun a ha => ⟨M1, ?_, ((hl2.trans hl3).trans hl4), hC4⟩
        exact ha.sub ⟨rfl, rfl, rfl, rfl, trivial⟩
      · subst hc2
        refine cw_true rfl ?_
        refine cw_seq ?_
        refine cw_region ?_
        refine lw_op rfl rfl rfl (ow_assign rfl rfl ?_)
        refine lw_nil ?_
        refine ew_then ?_
        refine cw_ret ?_
        refine ew_blockR ?_
        refine ew_thenR ?_
        refine ew_thenR ?_
        refine ew_blockR ?_
        refine ew_brkR ?_
        refine ew_thenR ?_
        have e1 := hR1 _ (Option.some.inj hb2).symm
        subst e1
        obtain rfl := Option.some.inj h
        exact ew_ret (res1 rfl (.tmp rfl)) ⟨_, rfl, ((vbool _)), hC4.bx⟩
    · obtain rfl := hbb1.trans hc1
      refine cw_false rfl ?_
      refine cw_exit ?_
      refine ew_thenX ?_
      refine ew_thenX ?_
      refine ew_blockX ?_
      refine ew_brk k1 hb2 fun a ha => ⟨M1, ?_, hl2, hC2⟩
      exact ha.sub ⟨rfl, rfl, rfl, rfl, trivial⟩
  · rintro k2 a w5 hlr2 ⟨M2, hF2, hl5, hC5⟩
    subst hlr2
    refine ew_at (E := [(3, (.pointer (some p1))), (7, v0p), (8, (.int .i64 (a_list.length : Int))), (9, (.int .i64 k2))]) hF2 ?_
    refine ew_then ?_
    refine cw_seq ?_
    refine cw_region ?_
    refine lw_op rfl rfl rfl (ow_assign rfl rfl ?_)
    refine lw_nil ?_
    refine ew_then ?_
    refine cw_ret ?_
    obtain rfl := Option.some.inj h
    exact ew_ret (res1 rfl (.tmp rfl)) ⟨_, rfl, ((vbool _)), hC5.bx⟩

theorem w_impl_RuleFits {w : World} {M : Nat → Prop} (hG : ARep (RArr 4 RShape) w M shapes ⟨0, 0, none⟩) (hO : ∀ b, M b → b < w.heap.size) {v0p : Value} {a_r : Rule} (h0 : VRep RRule w M a_r v0p) {v1p : Value} {a_p : Packet} (h1 : VRep RPacket w M a_p v1p) {r : Bool} (h : F.impl_RuleFits a_r a_p = some r) :
    Calls Tryd.prog 50 [v0p, v1p].toArray w fun e w' => ∃ v, e = .returned v ∧ VRep RBool w' M r v ∧ BX No w w' := by
  have hC : Cx No w M w M := Cx.start hO (fun _ e => e.elim)
  refine walk (N := 17) Tryd.func50 rfl Tryd.ntmps50 rfl ?_
  refine cw_seq ?_
  refine cw_region ?_
  refine lw_op rfl rfl rfl (ow_box (R := RRule) rfl rfl h0 hC fun p1 w1 hp1 hb1 hl1 hC1 => ?_)
  refine lw_op rfl rfl rfl (ow_box (R := RPacket) rfl rfl (VRep.mono hl1 h1) hC1 fun p2 w2 hp2 hb2 hl2 hC2 => ?_)
  refine lw_op rfl rfl rfl (ow_assign rfl rfl ?_)
  refine lw_nil ?_
  refine ew_then ?_
  refine cw_seq ?_
  refine cw_region ?_
  refine lw_op rfl rfl rfl (ow_load (R := RRule) rfl rfl (ARep.mono hl2 hp1) (Tryd.sizeOf76 _) (Tryd.isAgg76 _) fun v1 hv1 => ?_)
  replace h := bind_some h
  obtain ⟨x1, hx1, h⟩ := h
  refine lw_op rfl rfl rfl (ow_call rfl rfl Tryd.call99 (w_impl_RuleValid (hG.mono (hl1.trans hl2)) hC2.old hv1 hx1) fun v2 w3 hv2 => ?_)
  obtain ⟨hv2, hb3⟩ := hv2
  have hl3 := Le.no M hb3
  have hC3 := hC2.no hb3
  obtain rfl := vbool_eq hv2
  refine lw_op rfl rfl rfl (ow_move rfl rfl ?_)
  replace h := cond_some h
  rcases h with ⟨hc1, h⟩ | ⟨hc1, h⟩
  · subst hc1
    refine lw_on rfl rfl rfl rfl rfl rfl (ow_load (R := RPacket) rfl rfl (ARep.mono hl3 hp2) (Tryd.sizeOf39 _) (Tryd.isAgg39 _) fun v3 hv3 => ?_)
    replace h := bind_some h
    obtain ⟨x2, hx2, h⟩ := h
    refine lw_on rfl rfl rfl rfl rfl rfl (ow_call rfl rfl Tryd.call70 (w_impl_PacketValid (hG.mono ((hl1.trans hl2).trans hl3)) hC3.old hv3 hx2) fun v4 w4 hv4 => ?_)
    obtain ⟨hv4, hb4⟩ := hv4
    have hl4 := Le.no M hb4
    have hC4 := hC3.no hb4
    obtain rfl := vbool_eq hv4
    refine lw_op rfl rfl rfl (ow_pickT rfl rfl rfl ?_)
    refine lw_op rfl rfl rfl (ow_move rfl rfl ?_)
    replace h := cond_some h
    rcases h with ⟨hc2, h⟩ | ⟨hc2, h⟩
    · subst hc2
      refine lw_on rfl rfl rfl rfl rfl rfl (ow_fieldAddr rfl rfl Tryd.underlying76 rfl (Tryd.sizeOf74 _) ?_)
      refine lw_on rfl rfl rfl rfl rfl rfl (ow_load (R := (RSlice RTest)) rfl rfl (ARep.mono ((hl2.trans hl3).trans hl4) (hp1.fld fld_Rule_Tests)) (Tryd.sizeOf74 _) (Tryd.isAgg74 _) fun v5 hv5 => ?_)
      refine lw_on rfl rfl rfl rfl rfl rfl (ow_load (R := RPacket) rfl rfl (ARep.mono (hl3.trans hl4) hp2) (Tryd.sizeOf39 _) (Tryd.isAgg39 _) fun v6 hv6 => ?_)
      replace h := bind_some h
      obtain ⟨x3, hx3, h⟩ := h
      refine lw_on rfl rfl rfl rfl rfl rfl (ow_call rfl rfl Tryd.call100 (w_impl_allHold (hG.mono (((hl1.trans hl2).trans hl3).trans hl4)) hC4.old hv5 hv6 hx3) fun v7 w5 hv7 => ?_)
      obtain ⟨hv7, hb5⟩ := hv7
      have hl5 := Le.no M hb5
      have hC5 := hC4.no hb5
      obtain rfl := vbool_eq hv7
      refine lw_op rfl rfl rfl (ow_pickT rfl rfl rfl ?_)
      refine lw_op rfl rfl rfl (ow_assign rfl rfl ?_)
      refine lw_nil ?_
      refine ew_then ?_
      refine cw_ret ?_
      obtain rfl := Option.some.inj h
      exact ew_ret (res1 rfl (.tmp rfl)) ⟨_, rfl, ((vbool _)), hC5.bx⟩
    · subst hc2
      refine lw_off rfl rfl rfl rfl rfl rfl ?_
      refine lw_off rfl rfl rfl rfl rfl rfl ?_
      refine lw_off rfl rfl rfl rfl rfl rfl ?_
      refine lw_off rfl rfl rfl rfl rfl rfl ?_
      refine lw_op rfl rfl rfl (ow_pickF rfl rfl rfl ?_)
      refine lw_op rfl rfl rfl (ow_assign rfl rfl ?_)
      refine lw_nil ?_
      refine ew_then ?_
      refine cw_ret ?_
      obtain rfl := Option.some.inj h
      exact ew_ret (res1 rfl (.tmp rfl)) ⟨_, rfl, ((vbool _)), hC4.bx⟩
  · subst hc1
    refine lw_off rfl rfl rfl rfl rfl rfl ?_
    refine lw_off rfl rfl rfl rfl rfl rfl ?_
    refine lw_op rfl rfl rfl (ow_pickF rfl rfl rfl ?_)
    refine lw_op rfl rfl rfl (ow_move rfl rfl ?_)
    refine lw_off rfl rfl rfl rfl rfl rfl ?_
    refine lw_off rfl rfl rfl rfl rfl rfl ?_
    refine lw_off rfl rfl rfl rfl rfl rfl ?_
    refine lw_off rfl rfl rfl rfl rfl rfl ?_
    refine lw_op rfl rfl rfl (ow_pickF rfl rfl rfl ?_)
    refine lw_op rfl rfl rfl (ow_assign rfl rfl ?_)
    refine lw_nil ?_
    refine ew_then ?_
    refine cw_ret ?_
    obtain rfl := Option.some.inj h
    exact ew_ret (res1 rfl (.tmp rfl)) ⟨_, rfl, ((vbool _)), hC3.bx⟩

theorem w_impl_SpansHave {w : World} {M : Nat → Prop} (_hG : ARep (RArr 4 RShape) w M shapes ⟨0, 0, none⟩) (hO : ∀ b, M b → b < w.heap.size) {v0p : Value} {a_list : List Span} (h0 : VRep (RSlice RSpan) w M a_list v0p) {a_n : Int} {r : Bool} (h : F.impl_SpansHave a_list a_n = some r) :
    Calls Tryd.prog 103 [v0p, (.int .i64 a_n)].toArray w fun e w' => ∃ v, e = .returned v ∧ VRep RBool w' M r v ∧ BX No w w' := by
  have hC : Cx No w M w M := Cx.start hO (fun _ e => e.elim)
  clear _hG
  refine walk (N := 24) Tryd.func103 rfl Tryd.ntmps103 rfl ?_
  refine cw_seq ?_
  refine cw_region ?_
  refine lw_op rfl rfl rfl (ow_assign rfl rfl ?_)
  refine lw_nil ?_
  refine ew_then ?_
  refine cw_seq ?_
  refine cw_seq ?_
  refine cw_region ?_
  refine lw_op rfl rfl rfl (ow_move rfl rfl ?_)
  refine lw_op rfl rfl rfl (ow_len rfl rfl h0 Tryd.underlying93 rfl ?_)
  refine lw_op rfl rfl rfl (ow_move rfl rfl ?_)
  refine lw_nil ?_
  refine ew_then ?_
  replace h := bind_some h
  obtain ⟨lr1, hlr1, h⟩ := h
  refine cw_for hlr1 (fun s a w' => ∃ (M' : Nat → Prop), Fits 24 [(1, (.int .i64 a_n)), (7, v0p), (8, (.int .i64 (a_list.length : Int))), (9, (.int .i64 s))] a ∧ Le w M w' M' ∧ Cx No w M w' M') ?_ ?_ ?_
  · intro a ha
    exact ⟨M, ha.sub ⟨rfl, rfl, rfl, rfl, trivial⟩, Le.refl _ _, hC⟩
  · rintro k1 a w1 sr1 ⟨M1, hF1, hl1, hC1⟩ hb1 hR1
    refine cw_at (E := [(1, (.int .i64 a_n)), (7, v0p), (8, (.int .i64 (a_list.length : Int))), (9, (.int .i64 k1))]) hF1 ?_
    refine cw_seq ?_
    refine cw_region ?_
    refine lw_op rfl rfl rfl (ow_lss rfl rfl rfl fun bb1 hbb1 => ?_)
    refine lw_nil ?_
    refine ew_then ?_
    refine cw_seq ?_
    replace hb1 := cond_some hb1
    rcases hb1 with ⟨hc1, hb1⟩ | ⟨hc1, hb1⟩
    · obtain rfl := hbb1.trans hc1
      refine cw_true rfl ?_
      refine cw_skip ?_
      refine ew_then ?_
      refine cw_seq ?_
      refine cw_block ?_
      refine cw_seq ?_
      refine cw_region ?_
      replace hb1 := bind_some hb1
      obtain ⟨x1, hx1, hb1⟩ := hb1
      refine lw_op rfl rfl rfl (ow_indexSlice (R := RSpan) rfl rfl rfl (VRep.mono hl1 h0) Tryd.underlying93 (Tryd.sizeOf140 _) hx1 fun p1 hp1 => ?_)
      refine lw_op rfl rfl rfl (ow_load (R := RSpan) rfl rfl hp1 (Tryd.sizeOf140 _) (Tryd.isAgg140 _) fun v2 hv2 => ?_)
      refine lw_allocStore (R := RSpan) rfl rfl rfl rfl rfl rfl rfl Tryd.zeroValue140 Tryd.sizeOf140 rfl rfl rfl (by simp) hv2 hC1 fun p2 w2 hp2 hb2 hl2 hC2 => ?_
      refine lw_nil ?_
      refine ew_then ?_
      refine cw_seq ?_
      refine cw_region ?_
      refine lw_op rfl rfl rfl (ow_fieldAddr rfl rfl Tryd.underlying140 rfl (Tryd.sizeOf3 _) ?_)
      refine lw_op rfl rfl rfl (ow_load (R := RInt) rfl rfl (hp2.fld fld_Span_Lo) (Tryd.sizeOf3 _) (Tryd.isAgg3 _) fun v3 hv3 => ?_)
      obtain rfl := vint_eq hv3
      refine lw_op rfl rfl rfl (ow_move rfl rfl ?_)
      refine lw_op rfl rfl rfl (ow_leq rfl rfl rfl fun bb2 hbb2 => ?_)
      refine lw_op rfl rfl rfl (ow_move rfl rfl ?_)
      replace hb1 := cond_some hb1
      rcases hb1 with ⟨hc2, hb1⟩ | ⟨hc2, hb1⟩
      · obtain rfl := hbb2.trans hc2
        refine lw_on rfl rfl rfl rfl rfl rfl (ow_move rfl rfl ?_)
        refine lw_on rfl rfl rfl rfl rfl rfl (ow_fieldAddr rfl rfl Tryd.underlying140 rfl (Tryd.sizeOf3 _) ?_)
        refine lw_on rfl rfl rfl rfl rfl rfl (ow_load (R := RInt) rfl rfl (hp2.fld fld_Span_Hi) (Tryd.sizeOf3 _) (Tryd.isAgg3 _) fun v4 hv4 => ?_)
        obtain rfl := vint_eq hv4
        refine lw_on rfl rfl rfl rfl rfl rfl (ow_leq rfl rfl rfl fun bb3 hbb3 => ?_)
        refine lw_op rfl rfl rfl (ow_pickT rfl rfl rfl ?_)
        refine lw_nil ?_
        refine ew_then ?_
        replace hb1 := cond_some hb1
        rcases hb1 with ⟨hc3, hb1⟩ | ⟨hc3, hb1⟩
        · obtain rfl := hbb3.trans hc3
          refine cw_true rfl ?_
          refine cw_seq ?_
          refine cw_region ?_
          refine lw_op rfl rfl rfl (ow_assign rfl rfl ?_)
          refine lw_nil ?_
          refine ew_then ?_
          refine cw_ret ?_
          refine ew_blockR ?_
          refine ew_thenR ?_
          refine ew_thenR ?_
          refine ew_blockR ?_
          refine ew_brkR ?_
          refine ew_thenR ?_
          have e1 := hR1 _ (Option.some.inj hb1).symm
          subst e1
          obtain rfl := Option.some.inj h
          exact ew_ret (res1 rfl (.tmp rfl)) ⟨_, rfl, ((vbool _)), hC2.bx⟩
        · obtain rfl := hbb3.trans hc3
          refine cw_false rfl ?_
          refine cw_skip ?_
          refine ew_blockN ?_
          refine ew_then ?_
          refine cw_region ?_
          refine lw_op rfl rfl rfl (ow_add rfl rfl rfl ?_)
          refine lw_op rfl rfl rfl (ow_move rfl rfl ?_)
          refine lw_nil ?_
          refine ew_nxt (W (k1 + 1)) hb1 fun a ha => ⟨M1, ?_, (hl1.trans hl2), hC2⟩
          exact ha.sub ⟨rfl, rfl, rfl, rfl, trivial⟩
      · obtain rfl := hbb2.trans hc2
        refine lw_off rfl rfl rfl rfl rfl rfl ?_
        refine lw_off rfl rfl rfl rfl rfl rfl ?_
        refine lw_off rfl rfl rfl rfl rfl rfl ?_
        refine lw_off rfl rfl rfl rfl rfl rfl ?_
        refine lw_op rfl rfl rfl (ow_pickF rfl rfl rfl ?_)
        refine lw_nil ?_
        refine ew_then ?_
        refine cw_false rfl ?_
        refine cw_skip ?_
        refine ew_blockN ?_
        refine ew_then ?_
        refine cw_region ?_
        refine lw_op rfl rfl rfl (ow_add rfl rfl rfl ?_)
        refine lw_op rfl rfl rfl (ow_move rfl rfl ?_)
        refine lw_nil ?_
        refine ew_nxt (W (k1 + 1)) hb1 fun a ha => ⟨M1, ?_, (hl1.trans hl2), hC2⟩
        exact ha.sub ⟨rfl, rfl, rfl, rfl, trivial⟩
    · obtain rfl := hbb1.trans hc1
      refine cw_false rfl ?_
      refine cw_exit ?_
      refine ew_thenX ?_
      refine ew_thenX ?_
      refine ew_blockX ?_
      refine ew_brk k1 hb1 fun a ha => ⟨M1, ?_, hl1, hC1⟩
      exact ha.sub ⟨rfl, rfl, rfl, rfl, trivial⟩
  · rintro k2 a w3 hlr2 ⟨M2, hF2, hl3, hC3⟩
    subst hlr2
    refine ew_at (E := [(1, (.int .i64 a_n)), (7, v0p), (8, (.int .i64 (a_list.length : Int))), (9, (.int .i64 k2))]) hF2 ?_
    refine ew_then ?_
    refine cw_seq ?_
    refine cw_region ?_
    refine lw_op rfl rfl rfl (ow_assign rfl rfl ?_)
    refine lw_nil ?_
    refine ew_then ?_
    refine cw_ret ?_
    obtain rfl := Option.some.inj h
    exact ew_ret (res1 rfl (.tmp rfl)) ⟨_, rfl, ((vbool _)), hC3.bx⟩

theorem w_laws_alive {w : World} {M : Nat → Prop} (hG : ARep (RArr 4 RShape) w M shapes ⟨0, 0, none⟩) (hO : ∀ b, M b → b < w.heap.size)  {r : Bool} (h : F.laws_alive = some r) :
    Calls Tryd.prog 53 [].toArray w fun e w' => ∃ v, e = .returned v ∧ VRep RBool w' M r v ∧ BX No w w' := by
  have hC : Cx No w M w M := Cx.start hO (fun _ e => e.elim)
  refine walk (N := 4) Tryd.func53 rfl Tryd.ntmps53 rfl ?_
  refine cw_seq ?_
  refine cw_region ?_
  refine lw_op rfl rfl rfl (ow_assign rfl rfl ?_)
  refine lw_nil ?_
  refine ew_then ?_
  refine cw_seq ?_
  refine cw_region ?_
  refine lw_op rfl rfl rfl (ow_build (v := .agg #[(.int .i64 2), (.int .i64 4)]) rfl rfl (by kernel_rfl) ?_)
  have hw1 : VRep RSpan w M ({ Lo := 2, Hi := 4 } : Span) (.agg #[(.int .i64 2), (.int .i64 4)]) := shut_Span
  refine lw_op rfl rfl rfl (ow_buildSlice (R := RSpan) (xs := [({ Lo := 2, Hi := 4 } : Span)]) (cs := #[(.int .i64 2), (.int .i64 4)]) (e := 140) rfl rfl (by kernel_rfl) rfl rfl ⟨_, _, rfl, hw1.cells, rfl⟩ hC fun p1 w1 hw2 hb1 hl1 hC1 => ?_)
  replace h := bind_some h
  obtain ⟨x1, hx1, h⟩ := h
  refine lw_op rfl rfl rfl (ow_call rfl rfl Tryd.call103 (w_impl_SpansHave (hG.mono hl1) hC1.old hw2 hx1) fun v1 w2 hv1 => ?_)
  obtain ⟨hv1, hb2⟩ := hv1
  have hl2 := Le.no M hb2
  have hC2 := hC1.no hb2
  obtain rfl := vbool_eq hv1
  refine lw_op rfl rfl rfl (ow_assign rfl rfl ?_)
  refine lw_nil ?_
  refine ew_then ?_
  refine cw_ret ?_
  obtain rfl := Option.some.inj h
  exact ew_ret (res1 rfl (.tmp rfl)) ⟨_, rfl, ((vbool _)), hC2.bx⟩

theorem w_spec_l20Open {w : World} {M : Nat → Prop} (_hG : ARep (RArr 4 RShape) w M shapes ⟨0, 0, none⟩) (hO : ∀ b, M b → b < w.heap.size) {v0p : Value} {a_code : List Int} (h0 : VRep (RSlice RU8) w M a_code v0p) {r : List Int × Int} (h : F.spec_l20Open a_code = some r) :
    Calls Tryd.prog 96 [v0p].toArray w fun e w' => ∃ v, e = .returned v ∧ (∃ g A c, v = .pointer (some ⟨g, 0, none⟩) ∧ w.heap.size ≤ g ∧ Own w' g 180 #[.slice A r.1.length c, .int .i64 r.2] ∧ VRep (RSlice RU8) w' (Add g M) r.1 (.slice A r.1.length c)) ∧ BX No w w' := by
  have hC : Cx No w M w M := Cx.start hO (fun _ e => e.elim)
  clear _hG
  refine walk (N := 11) Tryd.func96 rfl Tryd.ntmps96 rfl ?_
  refine cw_seq ?_
  refine cw_region ?_
  refine lw_op rfl rfl rfl (ow_assign rfl rfl ?_)
  refine lw_nil ?_
  refine ew_then ?_
  refine cw_seq ?_
  refine cw_seq ?_
  refine cw_region ?_
  refine lw_op rfl rfl rfl (ow_move rfl rfl ?_)
  refine lw_op rfl rfl rfl (ow_len rfl rfl h0 Tryd.underlying73 rfl ?_)
  refine lw_op rfl rfl rfl (ow_gtr rfl rfl rfl fun bb1 hbb1 => ?_)
  refine lw_nil ?_
  refine ew_then ?_
  replace h := cond_some h
  rcases h with ⟨hc1, h⟩ | ⟨hc1, h⟩
  · obtain rfl := hbb1.trans hc1
    refine cw_true rfl ?_
    refine cw_region ?_
    refine lw_op rfl rfl rfl (ow_move rfl rfl ?_)
    replace h := bind_some h
    obtain ⟨y1, hy1, h⟩ := h
    refine lw_op rfl rfl rfl (ow_sliceTo (R := RU8) rfl rfl rfl h0 Tryd.underlying73 (Tryd.sizeOf5 _) (takeF_some hy1).2 fun v1 hv1 => ?_)
    rw [← (takeF_some hy1).1] at hv1
    refine lw_op rfl rfl rfl (ow_assign rfl rfl ?_)
    refine lw_nil ?_
    refine ew_then ?_
    refine cw_seq ?_
    refine cw_region ?_
    refine lw_op rfl rfl rfl (ow_move rfl rfl ?_)
    obtain ⟨A1, c1, rfl, -⟩ := vslice_shape hv1
    refine lw_op rfl rfl rfl (ow_build (v := .agg #[(.slice A1 y1.length c1), (.int .i64 0)]) rfl rfl (by kernel_rfl) ?_)
    have hw1 : VRep Rl20Rd w M ({ b := y1, p := 0 } : l20Rd) (.agg #[(.slice A1 y1.length c1), (.int .i64 0)]) := shut_l20Rd hv1
    refine lw_op rfl rfl rfl (ow_boxOwn rfl rfl hC fun g1 w1 hg1 hg2 ho1 hb1 hl1 hC1 => ?_)
    have hm1 : (Add g1 M) g1 := .inl rfl
    refine lw_op rfl rfl rfl (ow_assign rfl rfl ?_)
    refine lw_nil ?_
    refine ew_then ?_
    refine cw_ret ?_
    obtain rfl := Option.some.inj h
    exact ew_ret (res1 rfl (.tmp rfl)) ⟨_, rfl, ⟨_, _, _, rfl, hg2, ho1, (VRep.mono hl1 hv1)⟩, hC1.bx⟩
  · obtain rfl := hbb1.trans hc1
    refine cw_false rfl ?_
    refine cw_skip ?_
    refine ew_then ?_
    refine cw_seq ?_
    refine cw_region ?_
    refine lw_op rfl rfl rfl (ow_move rfl rfl ?_)
    obtain ⟨A2, c2, rfl, -⟩ := vslice_shape h0
    refine lw_op rfl rfl rfl (ow_build (v := .agg #[(.slice A2 a_code.length c2), (.int .i64 0)]) rfl rfl (by kernel_rfl) ?_)
    have hw2 : VRep Rl20Rd w M ({ b := a_code, p := 0 } : l20Rd) (.agg #[(.slice A2 a_code.length c2), (.int .i64 0)]) := shut_l20Rd h0
    refine lw_op rfl rfl rfl (ow_boxOwn rfl rfl hC fun g2 w2 hg3 hg4 ho2 hb2 hl2 hC2 => ?_)
    have hm2 : (Add g2 M) g2 := .inl rfl
    refine lw_op rfl rfl rfl (ow_assign rfl rfl ?_)
    refine lw_nil ?_
    refine ew_then ?_
    refine cw_ret ?_
    obtain rfl := Option.some.inj h
    exact ew_ret (res1 rfl (.tmp rfl)) ⟨_, rfl, ⟨_, _, _, rfl, hg4, ho2, (VRep.mono hl2 h0)⟩, hC2.bx⟩

theorem w_spec_FieldTop {w : World} {M : Nat → Prop} (_hG : ARep (RArr 4 RShape) w M shapes ⟨0, 0, none⟩) (hO : ∀ b, M b → b < w.heap.size) {a_n : Int} {r : Int} (h : F.spec_FieldTop a_n = some r) :
    Calls Tryd.prog 109 [(.int .i64 a_n)].toArray w fun e w' => ∃ v, e = .returned v ∧ VRep RInt w' M r v ∧ BX No w w' := by
  have hC : Cx No w M w M := Cx.start hO (fun _ e => e.elim)
  clear _hG
  refine walk (N := 11) Tryd.func109 rfl Tryd.ntmps109 rfl ?_
  refine cw_seq ?_
  refine cw_region ?_
  refine lw_op rfl rfl rfl (ow_assign rfl rfl ?_)
  refine lw_nil ?_
  refine ew_then ?_
  refine cw_seq ?_
  refine cw_seq ?_
  refine cw_region ?_
  refine lw_op rfl rfl rfl (ow_move rfl rfl ?_)
  refine lw_nil ?_
  refine ew_then ?_
  refine cw_block ?_
  refine cw_seq ?_
  refine cw_seq ?_
  refine cw_region ?_
  refine lw_op rfl rfl rfl (ow_eqlI rfl rfl rfl fun bb1 hbb1 => ?_)
  refine lw_op rfl rfl rfl (ow_assign rfl rfl ?_)
  refine lw_nil ?_
  refine ew_then ?_
  replace h := cond_some h
  rcases h with ⟨hc1, h⟩ | ⟨hc1, h⟩
  · obtain rfl := hbb1.trans hc1
    refine cw_true rfl ?_
    refine cw_skip ?_
    refine ew_then ?_
    refine cw_true rfl ?_
    refine cw_seq ?_
    refine cw_region ?_
    refine lw_op rfl rfl rfl (ow_assign rfl rfl ?_)
    refine lw_nil ?_
    refine ew_then ?_
    refine cw_ret ?_
    refine ew_blockR ?_
    refine ew_thenR ?_
    obtain rfl := Option.some.inj h
    exact ew_ret (res1 rfl (.tmp rfl)) ⟨_, rfl, ((vint _)), hC.bx⟩
  · obtain rfl := hbb1.trans hc1
    refine cw_false rfl ?_
    refine cw_region ?_
    refine lw_op rfl rfl rfl (ow_eqlI rfl rfl rfl fun bb2 hbb2 => ?_)
    refine lw_op rfl rfl rfl (ow_assign rfl rfl ?_)
    refine lw_nil ?_
    refine ew_then ?_
    replace h := cond_some h
    rcases h with ⟨hc2, h⟩ | ⟨hc2, h⟩
    · obtain rfl := hbb2.trans hc2
      refine cw_true rfl ?_
      refine cw_seq ?_
      refine cw_region ?_
      refine lw_op rfl rfl rfl (ow_assign rfl rfl ?_)
      refine lw_nil ?_
      refine ew_then ?_
      refine cw_ret ?_
      refine ew_blockR ?_
      refine ew_thenR ?_
      obtain rfl := Option.some.inj h
      exact ew_ret (res1 rfl (.tmp rfl)) ⟨_, rfl, ((vint _)), hC.bx⟩
    · obtain rfl := hbb2.trans hc2
      refine cw_false rfl ?_
      refine cw_seq ?_
      refine cw_region ?_
      refine lw_op rfl rfl rfl (ow_eqlI rfl rfl rfl fun bb3 hbb3 => ?_)
      refine lw_op rfl rfl rfl (ow_assign rfl rfl ?_)
      refine lw_nil ?_
      refine ew_then ?_
      replace h := cond_some h
      rcases h with ⟨hc3, h⟩ | ⟨hc3, h⟩
      · obtain rfl := hbb3.trans hc3
        refine cw_true rfl ?_
        refine cw_seq ?_
        refine cw_region ?_
        refine lw_op rfl rfl rfl (ow_assign rfl rfl ?_)
        refine lw_nil ?_
        refine ew_then ?_
        refine cw_ret ?_
        refine ew_blockR ?_
        refine ew_thenR ?_
        obtain rfl := Option.some.inj h
        exact ew_ret (res1 rfl (.tmp rfl)) ⟨_, rfl, ((vint _)), hC.bx⟩
      · obtain rfl := hbb3.trans hc3
        refine cw_false rfl ?_
        refine cw_seq ?_
        refine cw_region ?_
        refine lw_op rfl rfl rfl (ow_eqlI rfl rfl rfl fun bb4 hbb4 => ?_)
        refine lw_op rfl rfl rfl (ow_assign rfl rfl ?_)
        refine lw_nil ?_
        refine ew_then ?_
        replace h := cond_some h
        rcases h with ⟨hc4, h⟩ | ⟨hc4, h⟩
        · obtain rfl := hbb4.trans hc4
          refine cw_true rfl ?_
          refine cw_seq ?_
          refine cw_region ?_
          refine lw_op rfl rfl rfl (ow_assign rfl rfl ?_)
          refine lw_nil ?_
          refine ew_then ?_
          refine cw_ret ?_
          refine ew_blockR ?_
          refine ew_thenR ?_
          obtain rfl := Option.some.inj h
          exact ew_ret (res1 rfl (.tmp rfl)) ⟨_, rfl, ((vint _)), hC.bx⟩
        · obtain rfl := hbb4.trans hc4
          refine cw_false rfl ?_
          refine cw_skip ?_
          refine ew_blockN ?_
          refine ew_then ?_
          refine cw_seq ?_
          refine cw_region ?_
          refine lw_op rfl rfl rfl (ow_assign rfl rfl ?_)
          refine lw_nil ?_
          refine ew_then ?_
          refine cw_ret ?_
          obtain rfl := Option.some.inj h
          exact ew_ret (res1 rfl (.tmp rfl)) ⟨_, rfl, ((vint _)), hC.bx⟩

theorem w_spec_l20Rd_pick {w : World} {M : Nat → Prop} (_hG : ARep (RArr 4 RShape) w M shapes ⟨0, 0, none⟩) (hO : ∀ b, M b → b < w.heap.size) {g : Nat} {Ax : Option Addr} {cx : Nat} {a_xs : List Int} {a_pos : Int} (hxs : VRep (RSlice RU8) w M a_xs (.slice Ax a_xs.length cx)) (hown : Own w g 180 #[.slice Ax a_xs.length cx, .int .i64 a_pos]) (hgM : M g) {a_n : Int} {r : Int × Int} (h : F.spec_l20Rd_pick a_xs a_pos a_n = some r) :
    Calls Tryd.prog 111 [(.pointer (some ⟨g, 0, none⟩)), (.int .i64 a_n)].toArray w fun e w' => ∃ v, e = .returned v ∧ (VRep RInt w' M r.1 v ∧ Own w' g 180 #[.slice Ax a_xs.length cx, .int .i64 r.2]) ∧ BX (One g) w w' := by
  have hX : ∀ b, (One g) b → M b := fun b e => e ▸ hgM
  have hC : Cx (One g) w M w M := Cx.start hO hX
  clear _hG
  refine walk (N := 99) Tryd.func111 rfl Tryd.ntmps111 rfl ?_
  refine cw_seq ?_
  refine cw_region ?_
  refine lw_op rfl rfl rfl (ow_assign rfl rfl ?_)
  refine lw_nil ?_
  refine ew_then ?_
  refine cw_seq ?_
  refine cw_region ?_
  refine lw_op rfl rfl rfl (ow_move rfl rfl ?_)
  refine lw_op rfl rfl rfl (ow_move rfl rfl ?_)
  refine lw_op rfl rfl rfl (ow_nilCheck rfl rfl ?_)
  refine lw_op rfl rfl rfl (ow_fieldAddr rfl rfl Tryd.underlying180 rfl (Tryd.sizeOf3 _) ?_)
  refine lw_op rfl rfl rfl (ow_loadOwn1 rfl rfl rfl hown (Tryd.isAgg3 _) rfl ?_)
  refine lw_op rfl rfl rfl (ow_add rfl rfl rfl ?_)
  refine lw_op rfl rfl rfl (ow_nilCheck rfl rfl ?_)
  refine lw_op rfl rfl rfl (ow_fieldAddr rfl rfl Tryd.underlying180 rfl (Tryd.sizeOf3 _) ?_)
  refine lw_op0 rfl rfl (ow_store (X := (One g)) (us := [(.int .i64 (W (a_pos + 1)))]) (cs' := #[(.slice Ax a_xs.length cx), (.int .i64 (W (a_pos + 1)))]) rfl rfl rfl rfl hown (Tryd.sizeOf3 _) rfl rfl rfl rfl hgM (.inr rfl) rfl hC fun w1 ho1 hb1 hl1 hC1 => ?_)
  refine lw_nil ?_
  refine ew_then ?_
  refine cw_seq ?_
  refine cw_seq ?_
  refine cw_region ?_
  refine lw_op rfl rfl rfl (ow_move rfl rfl ?_)
  refine lw_op rfl rfl rfl (ow_lss rfl rfl rfl fun bb1 hbb1 => ?_)
  refine lw_op rfl rfl rfl (ow_move rfl rfl ?_)
  replace h := cond_some h
  rcases h with ⟨hc1, h⟩ | ⟨hc1, h⟩
  · obtain rfl := hbb1.trans hc1
    refine lw_off rfl rfl rfl rfl rfl rfl ?_
    refine lw_off rfl rfl rfl rfl rfl rfl ?_
    refine lw_off rfl rfl rfl rfl rfl rfl ?_
    refine lw_off rfl rfl rfl rfl rfl rfl ?_
    refine lw_off rfl rfl rfl rfl rfl rfl ?_
    refine lw_off rfl rfl rfl rfl rfl rfl ?_
    refine lw_op rfl rfl rfl (ow_pickT rfl rfl rfl ?_)
    refine lw_nil ?_
    refine ew_then ?_
    refine cw_true rfl ?_
    refine cw_seq ?_
    refine cw_region ?_
    refine lw_op rfl rfl rfl (ow_assign rfl rfl ?_)
    refine lw_nil ?_
    refine ew_then ?_
    refine cw_ret ?_
    refine ew_thenR ?_
    obtain rfl := Option.some.inj h
    exact ew_ret (res1 rfl (.tmp rfl)) ⟨_, rfl, ⟨((vint _)), ho1⟩, hC1.bx⟩
  · obtain rfl := hbb1.trans hc1
    refine lw_on rfl rfl rfl rfl rfl rfl (ow_move rfl rfl ?_)
    refine lw_on rfl rfl rfl rfl rfl rfl (ow_nilCheck rfl rfl ?_)
    refine lw_on rfl rfl rfl rfl rfl rfl (ow_fieldAddr rfl rfl Tryd.underlying180 rfl (Tryd.sizeOf73 _) ?_)
    refine lw_on rfl rfl rfl rfl rfl rfl (ow_loadOwn1 rfl rfl rfl ho1 (Tryd.isAgg73 _) rfl ?_)
    refine lw_on rfl rfl rfl rfl rfl rfl (ow_len rfl rfl (VRep.mono hl1 hxs) Tryd.underlying73 rfl ?_)
    refine lw_on rfl rfl rfl rfl rfl rfl (ow_eqlI rfl rfl rfl fun bb2 hbb2 => ?_)
    refine lw_op rfl rfl rfl (ow_pickF rfl rfl rfl ?_)
    refine lw_nil ?_
    refine ew_then ?_
    replace h := cond_some h
    rcases h with ⟨hc2, h⟩ | ⟨hc2, h⟩
    · obtain rfl := hbb2.trans hc2
      refine cw_true rfl ?_
      refine cw_seq ?_
      refine cw_region ?_
      refine lw_op rfl rfl rfl (ow_assign rfl rfl ?_)
      refine lw_nil ?_
      refine ew_then ?_
      refine cw_ret ?_
      refine ew_thenR ?_
      obtain rfl := Option.some.inj h
      exact ew_ret (res1 rfl (.tmp rfl)) ⟨_, rfl, ⟨((vint _)), ho1⟩, hC1.bx⟩
    · obtain rfl := hbb2.trans hc2
      refine cw_false rfl ?_
      refine cw_skip ?_
      refine ew_then ?_
      refine cw_seq ?_
      refine cw_region ?_
      refine lw_op rfl rfl rfl (ow_move rfl rfl ?_)
      refine lw_op rfl rfl rfl (ow_nilCheck rfl rfl ?_)
      refine lw_op rfl rfl rfl (ow_fieldAddr rfl rfl Tryd.underlying180 rfl (Tryd.sizeOf3 _) ?_)
      refine lw_op rfl rfl rfl (ow_loadOwn1 rfl rfl rfl ho1 (Tryd.isAgg3 _) rfl ?_)
      refine lw_op rfl rfl rfl (ow_sub rfl rfl rfl ?_)
      refine lw_op rfl rfl rfl (ow_assign rfl rfl ?_)
      refine lw_nil ?_
      refine ew_then ?_
      refine cw_seq ?_
      refine cw_seq ?_
      refine cw_region ?_
      refine lw_op rfl rfl rfl (ow_move rfl rfl ?_)
      refine lw_op rfl rfl rfl (ow_move rfl rfl ?_)
      refine lw_op rfl rfl rfl (ow_nilCheck rfl rfl ?_)
      refine lw_op rfl rfl rfl (ow_fieldAddr rfl rfl Tryd.underlying180 rfl (Tryd.sizeOf73 _) ?_)
      refine lw_op rfl rfl rfl (ow_loadOwn1 rfl rfl rfl ho1 (Tryd.isAgg73 _) rfl ?_)
      refine lw_op rfl rfl rfl (ow_len rfl rfl (VRep.mono hl1 hxs) Tryd.underlying73 rfl ?_)
      refine lw_op rfl rfl rfl (ow_lss rfl rfl rfl fun bb3 hbb3 => ?_)
      refine lw_nil ?_
      refine ew_then ?_
      replace h := cond_some h
      rcases h with ⟨hc3, h⟩ | ⟨hc3, h⟩
      · obtain rfl := hbb3.trans hc3
        refine cw_true rfl ?_
        refine cw_seq ?_
        refine cw_region ?_
        refine lw_op rfl rfl rfl (ow_move rfl rfl ?_)
        refine lw_op rfl rfl rfl (ow_nilCheck rfl rfl ?_)
        refine lw_op rfl rfl rfl (ow_fieldAddr rfl rfl Tryd.underlying180 rfl (Tryd.sizeOf73 _) ?_)
        refine lw_op rfl rfl rfl (ow_loadOwn1 rfl rfl rfl ho1 (Tryd.isAgg73 _) rfl ?_)
        refine lw_op rfl rfl rfl (ow_move rfl rfl ?_)
        replace h := bind_some h
        obtain ⟨x1, hx1, h⟩ := h
        refine lw_op rfl rfl rfl (ow_indexSlice (R := RU8) rfl rfl rfl (VRep.mono hl1 hxs) Tryd.underlying73 (Tryd.sizeOf5 _) hx1 fun p1 hp1 => ?_)
        refine lw_op rfl rfl rfl (ow_load (R := RU8) rfl rfl hp1 (Tryd.sizeOf5 _) (Tryd.isAgg5 _) fun v1 hv1 => ?_)
        obtain rfl := vu8_eq hv1
        refine lw_op rfl rfl rfl (ow_u8int rfl rfl (by kernel_rfl) ?_)
        refine lw_op rfl rfl rfl (ow_move rfl rfl ?_)
        replace h := bind_some h
        obtain ⟨u1, hu1, h⟩ := h
        refine lw_op rfl rfl rfl (ow_rem rfl rfl rfl (nzF_some hu1) ?_)
        refine lw_op rfl rfl rfl (ow_assign rfl rfl ?_)
        refine lw_nil ?_
        refine ew_then ?_
        refine cw_ret ?_
        refine ew_thenR ?_
        obtain rfl := Option.some.inj h
        exact ew_ret (res1 rfl (.tmp rfl)) ⟨_, rfl, ⟨((vint _)), ho1⟩, hC1.bx⟩
      · obtain rfl := hbb3.trans hc3
        refine cw_false rfl ?_
        refine cw_skip ?_
        refine ew_then ?_
        refine cw_seq ?_
        replace h := bind_some h
        obtain ⟨u2, hu2, h⟩ := h
        replace h := bind_some h
        obtain ⟨x2, hx2, h⟩ := h
        replace h := bind_some h
        obtain ⟨x3, hx3, h⟩ := h
        refine cw_sub (E' := [(0, (.pointer (some ⟨g, 0, none⟩))), (1, (.int .i64 a_n)), (4, (.int .i64 0)), (5, (.int .i64 (W ((W (a_pos + 1)) - 1))))]) ⟨rfl, rfl, rfl, rfl, trivial⟩ ?_
        refine cw_drawQ 44 [PEq (.pointer (some ⟨g, 0, none⟩)), PEq (.pointer (some ⟨g, 0, none⟩)), PEq (.pointer (some ⟨g, 0, none⟩)), PV (RSlice RU8) M a_xs, PEq (.int .i64 (W ((W (a_pos + 1)) - 1))), PEq (.pointer (some ⟨g, 0, none⟩)), PEq (.pointer (some ⟨g, 0, none⟩)), PEq (.pointer (some ⟨g, 0, none⟩)), PV (RSlice RU8) M a_xs, PEq (.int .i64 (a_xs.length : Int)), PEq (.int .i64 (((W ((W (a_pos + 1)) - 1))).tmod (a_xs.length : Int))), PA RU8 M x2, PEq (.int .u8 x2), PEq (.int .i64 (W x2)), PEq (.int .i64 (W ((W x2) * 131))), PEq (.pointer (some ⟨g, 0, none⟩)), PEq (.pointer (some ⟨g, 0, none⟩)), PEq (.pointer (some ⟨g, 0, none⟩)), PV (RSlice RU8) M a_xs, PEq (.int .i64 (W ((W (a_pos + 1)) - 1))), PEq (.int .i64 (W ((W ((W (a_pos + 1)) - 1)) * 7))), PEq (.int .i64 (W ((W ((W ((W (a_pos + 1)) - 1)) * 7)) + 3))), PEq (.pointer (some ⟨g, 0, none⟩)), PEq (.pointer (some ⟨g, 0, none⟩)), PEq (.pointer (some ⟨g, 0, none⟩)), PV (RSlice RU8) M a_xs, PEq (.int .i64 (a_xs.length : Int)), PEq (.int .i64 (((W ((W ((W ((W (a_pos + 1)) - 1)) * 7)) + 3))).tmod (a_xs.length : Int))), PA RU8 M x3, PEq (.int .u8 x3), PEq (.int .i64 (W x3)), PEq (.int .i64 (W ((W x3) * 1117))), PEq (.int .i64 (W ((W ((W x2) * 131)) + (W ((W x3) * 1117))))), PEq (.int .i64 (W ((W (a_pos + 1)) - 1))), PEq (.int .i64 (W ((W ((W (a_pos + 1)) - 1)) * 29))), PEq (.int .i64 (W ((W ((W ((W x2) * 131)) + (W ((W x3) * 1117)))) + (W ((W ((W (a_pos + 1)) - 1)) * 29))))), PEq (.int .i64 (W ((W (a_pos + 1)) - 1))), PEq (.pointer (some ⟨g, 0, none⟩)), PEq (.pointer (some ⟨g, 0, none⟩)), PEq (.pointer (some ⟨g, 0, none⟩)), PV (RSlice RU8) M a_xs, PEq (.int .i64 (a_xs.length : Int)), PEq (.int .i64 (W (((W ((W (a_pos + 1)) - 1))).tdiv (a_xs.length : Int)))), PEq (.int .i64 (W ((W (((W ((W (a_pos + 1)) - 1))).tdiv (a_xs.length : Int))) * 53)))] (by kernel_rfl) rfl (by kernel_rfl) ⟨PEq.mono _, PEq.mono _, PEq.mono _, PV.mono _ _ _, PEq.mono _, PEq.mono _, PEq.mono _, PEq.mono _, PV.mono _ _ _, PEq.mono _, PEq.mono _, PA.mono _ _ _, PEq.mono _, PEq.mono _, PEq.mono _, PEq.mono _, PEq.mono _, PEq.mono _, PV.mono _ _ _, PEq.mono _, PEq.mono _, PEq.mono _, PEq.mono _, PEq.mono _, PEq.mono _, PV.mono _ _ _, PEq.mono _, PEq.mono _, PA.mono _ _ _, PEq.mono _, PEq.mono _, PEq.mono _, PEq.mono _, PEq.mono _, PEq.mono _, PEq.mono _, PEq.mono _, PEq.mono _, PEq.mono _, PEq.mono _, PV.mono _ _ _, PEq.mono _, PEq.mono _, PEq.mono _, trivial⟩ ⟨?_, ?_, ?_, ?_, ?_, ?_, ?_, ?_, ?_, ?_, ?_, ?_, ?_, ?_, ?_, ?_, ?_, ?_, ?_, ?_, ?_, ?_, ?_, ?_, ?_, ?_, ?_, ?_, ?_, ?_, ?_, ?_, ?_, ?_, ?_, ?_, ?_, ?_, ?_, ?_, ?_, ?_, ?_, ?_, trivial⟩ ?_
        · intro w2 D hS1 hd1
          have hl2 := Le.no M hS1
          have hC2 := hC1.no hS1
          have ho2 := ho1.no hS1
          refine dg_sub (E' := [(0, (.pointer (some ⟨g, 0, none⟩)))]) ⟨rfl, trivial⟩ ?_
          refine dg_plain rfl (ow_move rfl rfl ?_)
          exact ⟨BX.refl _ _, rfl⟩
        · intro w3 D hS2 hd2
          have hl3 := Le.no M hS2
          have hC3 := hC1.no hS2
          have ho3 := ho1.no hS2
          have hd2 : PEq (.pointer (some ⟨g, 0, none⟩)) (D 0) w3 ∧ True := hd2
          obtain ⟨d1, -⟩ := hd2
          refine dg_sub (E' := [(47, (.pointer (some ⟨g, 0, none⟩)))]) ⟨(congrArg some d1), trivial⟩ ?_
          refine dg_plain rfl (ow_nilCheck rfl rfl ?_)
          exact ⟨BX.refl _ _, rfl⟩
        · intro w4 D hS3 hd3
          have hl4 := Le.no M hS3
          have hC4 := hC1.no hS3
          have ho4 := ho1.no hS3
          have hd3 : PEq (.pointer (some ⟨g, 0, none⟩)) (D 1) w4 ∧ True := hd3
          obtain ⟨d2, -⟩ := hd3
          refine dg_sub (E' := [(48, (.pointer (some ⟨g, 0, none⟩)))]) ⟨(congrArg some d2), trivial⟩ ?_
          refine dg_plain rfl (ow_fieldAddr rfl rfl Tryd.underlying180 rfl (Tryd.sizeOf73 _) ?_)
          exact ⟨BX.refl _ _, rfl⟩
        · intro w5 D hS4 hd4
          have hl5 := Le.no M hS4
          have hC5 := hC1.no hS4
          have ho5 := ho1.no hS4
          have hd4 : PEq (.pointer (some ⟨g, 0, none⟩)) (D 2) w5 ∧ True := hd4
          obtain ⟨d3, -⟩ := hd4
          refine dg_sub (E' := [(49, (.pointer (some ⟨g, 0, none⟩)))]) ⟨(congrArg some d3), trivial⟩ ?_
          refine dg_plain rfl (ow_loadOwn1 rfl rfl rfl ho5 (Tryd.isAgg73 _) rfl ?_)
          exact ⟨BX.refl _ _, (VRep.mono (hl1.trans hl5) hxs)⟩
        · intro w6 D hS5 hd5
          have hl6 := Le.no M hS5
          have hC6 := hC1.no hS5
          have ho6 := ho1.no hS5
          refine dg_sub (E' := [(5, (.int .i64 (W ((W (a_pos + 1)) - 1))))]) ⟨rfl, trivial⟩ ?_
          refine dg_plain rfl (ow_move rfl rfl ?_)
          exact ⟨BX.refl _ _, rfl⟩
        · intro w7 D hS6 hd6
          have hl7 := Le.no M hS6
          have hC7 := hC1.no hS6
          have ho7 := ho1.no hS6
          refine dg_sub (E' := [(0, (.pointer (some ⟨g, 0, none⟩)))]) ⟨rfl, trivial⟩ ?_
          refine dg_plain rfl (ow_move rfl rfl ?_)
          exact ⟨BX.refl _ _, rfl⟩
        · intro w8 D hS7 hd7
          have hl8 := Le.no M hS7
          have hC8 := hC1.no hS7
          have ho8 := ho1.no hS7
          have hd7 : PEq (.pointer (some ⟨g, 0, none⟩)) (D 5) w8 ∧ True := hd7
          obtain ⟨d4, -⟩ := hd7
          refine dg_sub (E' := [(52, (.pointer (some ⟨g, 0, none⟩)))]) ⟨(congrArg some d4), trivial⟩ ?_
          refine dg_plain rfl (ow_nilCheck rfl rfl ?_)
          exact ⟨BX.refl _ _, rfl⟩
        · intro w9 D hS8 hd8
          have hl9 := Le.no M hS8
          have hC9 := hC1.no hS8
          have ho9 := ho1.no hS8
          have hd8 : PEq (.pointer (some ⟨g, 0, none⟩)) (D 6) w9 ∧ True := hd8
          obtain ⟨d5, -⟩ := hd8
          refine dg_sub (E' := [(53, (.pointer (some ⟨g, 0, none⟩)))]) ⟨(congrArg some d5), trivial⟩ ?_
          refine dg_plain rfl (ow_fieldAddr rfl rfl Tryd.underlying180 rfl (Tryd.sizeOf73 _) ?_)
          exact ⟨BX.refl _ _, rfl⟩
        · intro w10 D hS9 hd9
          have hl10 := Le.no M hS9
          have hC10 := hC1.no hS9
          have ho10 := ho1.no hS9
          have hd9 : PEq (.pointer (some ⟨g, 0, none⟩)) (D 7) w10 ∧ True := hd9
          obtain ⟨d6, -⟩ := hd9
          refine dg_sub (E' := [(54, (.pointer (some ⟨g, 0, none⟩)))]) ⟨(congrArg some d6), trivial⟩ ?_
          refine dg_plain rfl (ow_loadOwn1 rfl rfl rfl ho10 (Tryd.isAgg73 _) rfl ?_)
          exact ⟨BX.refl _ _, (VRep.mono (hl1.trans hl10) hxs)⟩
        · intro w11 D hS10 hd10
          have hl11 := Le.no M hS10
          have hC11 := hC1.no hS10
          have ho11 := ho1.no hS10
          have hd10 : PV (RSlice RU8) M a_xs (D 8) w11 ∧ True := hd10
          obtain ⟨d7, -⟩ := hd10
          obtain ⟨v4, hq1⟩ : ∃ v, (D 8) = v := ⟨_, rfl⟩
          rw [hq1] at d7
          refine dg_sub (E' := [(55, v4)]) ⟨(congrArg some hq1), trivial⟩ ?_
          refine dg_plain rfl (ow_len rfl rfl d7 Tryd.underlying73 rfl ?_)
          exact ⟨BX.refl _ _, rfl⟩
        · intro w12 D hS11 hd11
          have hl12 := Le.no M hS11
          have hC12 := hC1.no hS11
          have ho12 := ho1.no hS11
          have hd11 : PEq (.int .i64 (W ((W (a_pos + 1)) - 1))) (D 4) w12 ∧ PEq (.int .i64 (a_xs.length : Int)) (D 9) w12 ∧ True := hd11
          obtain ⟨d8, d9, -⟩ := hd11
          refine dg_sub (E' := [(51, (.int .i64 (W ((W (a_pos + 1)) - 1)))), (56, (.int .i64 (a_xs.length : Int)))]) ⟨(congrArg some d8), (congrArg some d9), trivial⟩ ?_
          refine dg_plain rfl (ow_rem rfl rfl rfl (nzF_some hu2) ?_)
          exact ⟨BX.refl _ _, rfl⟩
        · intro w13 D hS12 hd12
          have hl13 := Le.no M hS12
          have hC13 := hC1.no hS12
          have ho13 := ho1.no hS12
          have hd12 : PV (RSlice RU8) M a_xs (D 3) w13 ∧ PEq (.int .i64 (((W ((W (a_pos + 1)) - 1))).tmod (a_xs.length : Int))) (D 10) w13 ∧ True := hd12
          obtain ⟨d10, d11, -⟩ := hd12
          obtain ⟨v5, hq2⟩ : ∃ v, (D 3) = v := ⟨_, rfl⟩
          rw [hq2] at d10
          refine dg_sub (E' := [(50, v5), (57, (.int .i64 (((W ((W (a_pos + 1)) - 1))).tmod (a_xs.length : Int))))]) ⟨(congrArg some hq2), (congrArg some d11), trivial⟩ ?_
          refine dg_plain rfl (ow_indexSlice (R := RU8) rfl rfl rfl d10 Tryd.underlying73 (Tryd.sizeOf5 _) hx2 fun p4 hp4 => ?_)
          exact ⟨BX.refl _ _, ⟨_, rfl, hp4⟩⟩
        · intro w14 D hS13 hd13
          have hl14 := Le.no M hS13
          have hC14 := hC1.no hS13
          have ho14 := ho1.no hS13
          have hd13 : PA RU8 M x2 (D 11) w14 ∧ True := hd13
          obtain ⟨d12, -⟩ := hd13
          obtain ⟨p5, e1, ha1⟩ := d12
          refine dg_sub (E' := [(58, (.pointer (some p5)))]) ⟨(congrArg some e1), trivial⟩ ?_
          refine dg_plain rfl (ow_load (R := RU8) rfl rfl ha1 (Tryd.sizeOf5 _) (Tryd.isAgg5 _) fun v6 hv6 => ?_)
          obtain rfl := vu8_eq hv6
          exact ⟨BX.refl _ _, rfl⟩
        · intro w15 D hS14 hd14
          have hl15 := Le.no M hS14
          have hC15 := hC1.no hS14
          have ho15 := ho1.no hS14
          have hd14 : PEq (.int .u8 x2) (D 12) w15 ∧ True := hd14
          obtain ⟨d13, -⟩ := hd14
          refine dg_sub (E' := [(59, (.int .u8 x2))]) ⟨(congrArg some d13), trivial⟩ ?_
          refine dg_plain rfl (ow_u8int rfl rfl (by kernel_rfl) ?_)
          exact ⟨BX.refl _ _, rfl⟩
        · intro w16 D hS15 hd15
          have hl16 := Le.no M hS15
          have hC16 := hC1.no hS15
          have ho16 := ho1.no hS15
          have hd15 : PEq (.int .i64 (W x2)) (D 13) w16 ∧ True := hd15
          obtain ⟨d14, -⟩ := hd15
          refine dg_sub (E' := [(60, (.int .i64 (W x2)))]) ⟨(congrArg some d14), trivial⟩ ?_
          refine dg_plain rfl (ow_mul rfl rfl rfl ?_)
          exact ⟨BX.refl _ _, rfl⟩
        · intro w17 D hS16 hd16
          have hl17 := Le.no M hS16
          have hC17 := hC1.no hS16
          have ho17 := ho1.no hS16
          refine dg_sub (E' := [(0, (.pointer (some ⟨g, 0, none⟩)))]) ⟨rfl, trivial⟩ ?_
          refine dg_plain rfl (ow_move rfl rfl ?_)
          exact ⟨BX.refl _ _, rfl⟩
        · intro w18 D hS17 hd17
          have hl18 := Le.no M hS17
          have hC18 := hC1.no hS17
          have ho18 := ho1.no hS17
          have hd17 : PEq (.pointer (some ⟨g, 0, none⟩)) (D 15) w18 ∧ True := hd17
          obtain ⟨d15, -⟩ := hd17
          refine dg_sub (E' := [(62, (.pointer (some ⟨g, 0, none⟩)))]) ⟨(congrArg some d15), trivial⟩ ?_
          refine dg_plain rfl (ow_nilCheck rfl rfl ?_)
          exact ⟨BX.refl _ _, rfl⟩
        · intro w19 D hS18 hd18
          have hl19 := Le.no M hS18
          have hC19 := hC1.no hS18
          have ho19 := ho1.no hS18
          have hd18 : PEq (.pointer (some ⟨g, 0, none⟩)) (D 16) w19 ∧ True := hd18
          obtain ⟨d16, -⟩ := hd18
          refine dg_sub (E' := [(63, (.pointer (some ⟨g, 0, none⟩)))]) ⟨(congrArg some d16), trivial⟩ ?_
          refine dg_plain rfl (ow_fieldAddr rfl rfl Tryd.underlying180 rfl (Tryd.sizeOf73 _) ?_)
          exact ⟨BX.refl _ _, rfl⟩
        · intro w20 D hS19 hd19
          have hl20 := Le.no M hS19
          have hC20 := hC1.no hS19
          have ho20 := ho1.no hS19
          have hd19 : PEq (.pointer (some ⟨g, 0, none⟩)) (D 17) w20 ∧ True := hd19
          obtain ⟨d17, -⟩ := hd19
          refine dg_sub (E' := [(64, (.pointer (some ⟨g, 0, none⟩)))]) ⟨(congrArg some d17), trivial⟩ ?_
          refine dg_plain rfl (ow_loadOwn1 rfl rfl rfl ho20 (Tryd.isAgg73 _) rfl ?_)
          exact ⟨BX.refl _ _, (VRep.mono (hl1.trans hl20) hxs)⟩
        · intro w21 D hS20 hd20
          have hl21 := Le.no M hS20
          have hC21 := hC1.no hS20
          have ho21 := ho1.no hS20
          refine dg_sub (E' := [(5, (.int .i64 (W ((W (a_pos + 1)) - 1))))]) ⟨rfl, trivial⟩ ?_
          refine dg_plain rfl (ow_move rfl rfl ?_)
          exact ⟨BX.refl _ _, rfl⟩
        · intro w22 D hS21 hd21
          have hl22 := Le.no M hS21
          have hC22 := hC1.no hS21
          have ho22 := ho1.no hS21
          have hd21 : PEq (.int .i64 (W ((W (a_pos + 1)) - 1))) (D 19) w22 ∧ True := hd21
          obtain ⟨d18, -⟩ := hd21
          refine dg_sub (E' := [(66, (.int .i64 (W ((W (a_pos + 1)) - 1))))]) ⟨(congrArg some d18), trivial⟩ ?_
          refine dg_plain rfl (ow_mul rfl rfl rfl ?_)
          exact ⟨BX.refl _ _, rfl⟩
        · intro w23 D hS22 hd22
          have hl23 := Le.no M hS22
          have hC23 := hC1.no hS22
          have ho23 := ho1.no hS22
          have hd22 : PEq (.int .i64 (W ((W ((W (a_pos + 1)) - 1)) * 7))) (D 20) w23 ∧ True := hd22
          obtain ⟨d19, -⟩ := hd22
          refine dg_sub (E' := [(67, (.int .i64 (W ((W ((W (a_pos + 1)) - 1)) * 7))))]) ⟨(congrArg some d19), trivial⟩ ?_
          refine dg_plain rfl (ow_add rfl rfl rfl ?_)
          exact ⟨BX.refl _ _, rfl⟩
        · intro w24 D hS23 hd23
          have hl24 := Le.no M hS23
          have hC24 := hC1.no hS23
          have ho24 := ho1.no hS23
          refine dg_sub (E' := [(0, (.pointer (some ⟨g, 0, none⟩)))]) ⟨rfl, trivial⟩ ?_
          refine dg_plain rfl (ow_move rfl rfl ?_)
          exact ⟨BX.refl _ _, rfl⟩
        · intro w25 D hS24 hd24
          have hl25 := Le.no M hS24
          have hC25 := hC1.no hS24
          have ho25 := ho1.no hS24
          have hd24 : PEq (.pointer (some ⟨g, 0, none⟩)) (D 22) w25 ∧ True := hd24
          obtain ⟨d20, -⟩ := hd24
          refine dg_sub (E' := [(69, (.pointer (some ⟨g, 0, none⟩)))]) ⟨(congrArg some d20), trivial⟩ ?_
          refine dg_plain rfl (ow_nilCheck rfl rfl ?_)
          exact ⟨BX.refl _ _, rfl⟩
        · intro w26 D hS25 hd25
          have hl26 := Le.no M hS25
          have hC26 := hC1.no hS25
          have ho26 := ho1.no hS25
          have hd25 : PEq (.pointer (some ⟨g, 0, none⟩)) (D 23) w26 ∧ True := hd25
          obtain ⟨d21, -⟩ := hd25
          refine dg_sub (E' := [(70, (.pointer (some ⟨g, 0, none⟩)))]) ⟨(congrArg some d21), trivial⟩ ?_
          refine dg_plain rfl (ow_fieldAddr rfl rfl Tryd.underlying180 rfl (Tryd.sizeOf73 _) ?_)
          exact ⟨BX.refl _ _, rfl⟩
        · intro w27 D hS26 hd26
          have hl27 := Le.no M hS26
          have hC27 := hC1.no hS26
          have ho27 := ho1.no hS26
          have hd26 : PEq (.pointer (some ⟨g, 0, none⟩)) (D 24) w27 ∧ True := hd26
          obtain ⟨d22, -⟩ := hd26
          refine dg_sub (E' := [(71, (.pointer (some ⟨g, 0, none⟩)))]) ⟨(congrArg some d22), trivial⟩ ?_
          refine dg_plain rfl (ow_loadOwn1 rfl rfl rfl ho27 (Tryd.isAgg73 _) rfl ?_)
          exact ⟨BX.refl _ _, (VRep.mono (hl1.trans hl27) hxs)⟩
        · intro w28 D hS27 hd27
          have hl28 := Le.no M hS27
          have hC28 := hC1.no hS27
          have ho28 := ho1.no hS27
          have hd27 : PV (RSlice RU8) M a_xs (D 25) w28 ∧ True := hd27
          obtain ⟨d23, -⟩ := hd27
          obtain ⟨v7, hq3⟩ : ∃ v, (D 25) = v := ⟨_, rfl⟩
          rw [hq3] at d23
          refine dg_sub (E' := [(72, v7)]) ⟨(congrArg some hq3), trivial⟩ ?_
          refine dg_plain rfl (ow_len rfl rfl d23 Tryd.underlying73 rfl ?_)
          exact ⟨BX.refl _ _, rfl⟩
        · intro w29 D hS28 hd28
          have hl29 := Le.no M hS28
          have hC29 := hC1.no hS28
          have ho29 := ho1.no hS28
          have hd28 : PEq (.int .i64 (W ((W ((W ((W (a_pos + 1)) - 1)) * 7)) + 3))) (D 21) w29 ∧ PEq (.int .i64 (a_xs.length : Int)) (D 26) w29 ∧ True := hd28
          obtain ⟨d24, d25, -⟩ := hd28
          refine dg_sub (E' := [(68, (.int .i64 (W ((W ((W ((W (a_pos + 1)) - 1)) * 7)) + 3)))), (73, (.int .i64 (a_xs.length : Int)))]) ⟨(congrArg some d24), (congrArg some d25), trivial⟩ ?_
          refine dg_plain rfl (ow_rem rfl rfl rfl (nzF_some hu2) ?_)
          exact ⟨BX.refl _ _, rfl⟩
        · intro w30 D hS29 hd29
          have hl30 := Le.no M hS29
          have hC30 := hC1.no hS29
          have ho30 := ho1.no hS29
          have hd29 : PV (RSlice RU8) M a_xs (D 18) w30 ∧ PEq (.int .i64 (((W ((W ((W ((W (a_pos + 1)) - 1)) * 7)) + 3))).tmod (a_xs.length : Int))) (D 27) w30 ∧ True := hd29
          obtain ⟨d26, d27, -⟩ := hd29
          obtain ⟨v8, hq4⟩ : ∃ v, (D 18) = v := ⟨_, rfl⟩
          rw [hq4] at d26
          refine dg_sub (E' := [(65, v8), (74, (.int .i64 (((W ((W ((W ((W (a_pos + 1)) - 1)) * 7)) + 3))).tmod (a_xs.length : Int))))]) ⟨(congrArg some hq4), (congrArg some d27), trivial⟩ ?_
          refine dg_plain rfl (ow_indexSlice (R := RU8) rfl rfl rfl d26 Tryd.underlying73 (Tryd.sizeOf5 _) hx3 fun p6 hp6 => ?_)
          exact ⟨BX.refl _ _, ⟨_, rfl, hp6⟩⟩
        · intro w31 D hS30 hd30
          have hl31 := Le.no M hS30
          have hC31 := hC1.no hS30
          have ho31 := ho1.no hS30
          have hd30 : PA RU8 M x3 (D 28) w31 ∧ True := hd30
          obtain ⟨d28, -⟩ := hd30
          obtain ⟨p7, e2, ha2⟩ := d28
          refine dg_sub (E' := [(75, (.pointer (some p7)))]) ⟨(congrArg some e2), trivial⟩ ?_
          refine dg_plain rfl (ow_load (R := RU8) rfl rfl ha2 (Tryd.sizeOf5 _) (Tryd.isAgg5 _) fun v9 hv9 => ?_)
          obtain rfl := vu8_eq hv9
          exact ⟨BX.refl _ _, rfl⟩
        · intro w32 D hS31 hd31
          have hl32 := Le.no M hS31
          have hC32 := hC1.no hS31
          have ho32 := ho1.no hS31
          have hd31 : PEq (.int .u8 x3) (D 29) w32 ∧ True := hd31
          obtain ⟨d29, -⟩ := hd31
          refine dg_sub (E' := [(76, (.int .u8 x3))]) ⟨(congrArg some d29), trivial⟩ ?_
          refine dg_plain rfl (ow_u8int rfl rfl (by kernel_rfl) ?_)
          exact ⟨BX.refl _ _, rfl⟩
        · intro w33 D hS32 hd32
          have hl33 := Le.no M hS32
          have hC33 := hC1.no hS32
          have ho33 := ho1.no hS32
          have hd32 : PEq (.int .i64 (W x3)) (D 30) w33 ∧ True := hd32
          obtain ⟨d30, -⟩ := hd32
          refine dg_sub (E' := [(77, (.int .i64 (W x3)))]) ⟨(congrArg some d30), trivial⟩ ?_
          refine dg_plain rfl (ow_mul rfl rfl rfl ?_)
          exact ⟨BX.refl _ _, rfl⟩
        · intro w34 D hS33 hd33
          have hl34 := Le.no M hS33
          have hC34 := hC1.no hS33
          have ho34 := ho1.no hS33
          have hd33 : PEq (.int .i64 (W ((W x2) * 131))) (D 14) w34 ∧ PEq (.int .i64 (W ((W x3) * 1117))) (D 31) w34 ∧ True := hd33
          obtain ⟨d31, d32, -⟩ := hd33
          refine dg_sub (E' := [(61, (.int .i64 (W ((W x2) * 131)))), (78, (.int .i64 (W ((W x3) * 1117))))]) ⟨(congrArg some d31), (congrArg some d32), trivial⟩ ?_
          refine dg_plain rfl (ow_add rfl rfl rfl ?_)
          exact ⟨BX.refl _ _, rfl⟩
        · intro w35 D hS34 hd34
          have hl35 := Le.no M hS34
          have hC35 := hC1.no hS34
          have ho35 := ho1.no hS34
          refine dg_sub (E' := [(5, (.int .i64 (W ((W (a_pos + 1)) - 1))))]) ⟨rfl, trivial⟩ ?_
          refine dg_plain rfl (ow_move rfl rfl ?_)
          exact ⟨BX.refl _ _, rfl⟩
        · intro w36 D hS35 hd35
          have hl36 := Le.no M hS35
          have hC36 := hC1.no hS35
          have ho36 := ho1.no hS35
          have hd35 : PEq (.int .i64 (W ((W (a_pos + 1)) - 1))) (D 33) w36 ∧ True := hd35
          obtain ⟨d33, -⟩ := hd35
          refine dg_sub (E' := [(80, (.int .i64 (W ((W (a_pos + 1)) - 1))))]) ⟨(congrArg some d33), trivial⟩ ?_
          refine dg_plain rfl (ow_mul rfl rfl rfl ?_)
          exact ⟨BX.refl _ _, rfl⟩
        · intro w37 D hS36 hd36
          have hl37 := Le.no M hS36
          have hC37 := hC1.no hS36
          have ho37 := ho1.no hS36
          have hd36 : PEq (.int .i64 (W ((W ((W x2) * 131)) + (W ((W x3) * 1117))))) (D 32) w37 ∧ PEq (.int .i64 (W ((W ((W (a_pos + 1)) - 1)) * 29))) (D 34) w37 ∧ True := hd36
          obtain ⟨d34, d35, -⟩ := hd36
          refine dg_sub (E' := [(79, (.int .i64 (W ((W ((W x2) * 131)) + (W ((W x3) * 1117)))))), (81, (.int .i64 (W ((W ((W (a_pos + 1)) - 1)) * 29))))]) ⟨(congrArg some d34), (congrArg some d35), trivial⟩ ?_
          refine dg_plain rfl (ow_add rfl rfl rfl ?_)
          exact ⟨BX.refl _ _, rfl⟩
        · intro w38 D hS37 hd37
          have hl38 := Le.no M hS37
          have hC38 := hC1.no hS37
          have ho38 := ho1.no hS37
          refine dg_sub (E' := [(5, (.int .i64 (W ((W (a_pos + 1)) - 1))))]) ⟨rfl, trivial⟩ ?_
          refine dg_plain rfl (ow_move rfl rfl ?_)
          exact ⟨BX.refl _ _, rfl⟩
        · intro w39 D hS38 hd38
          have hl39 := Le.no M hS38
          have hC39 := hC1.no hS38
          have ho39 := ho1.no hS38
          refine dg_sub (E' := [(0, (.pointer (some ⟨g, 0, none⟩)))]) ⟨rfl, trivial⟩ ?_
          refine dg_plain rfl (ow_move rfl rfl ?_)
          exact ⟨BX.refl _ _, rfl⟩
        · intro w40 D hS39 hd39
          have hl40 := Le.no M hS39
          have hC40 := hC1.no hS39
          have ho40 := ho1.no hS39
          have hd39 : PEq (.pointer (some ⟨g, 0, none⟩)) (D 37) w40 ∧ True := hd39
          obtain ⟨d36, -⟩ := hd39
          refine dg_sub (E' := [(84, (.pointer (some ⟨g, 0, none⟩)))]) ⟨(congrArg some d36), trivial⟩ ?_
          refine dg_plain rfl (ow_nilCheck rfl rfl ?_)
          exact ⟨BX.refl _ _, rfl⟩
        · intro w41 D hS40 hd40
          have hl41 := Le.no M hS40
          have hC41 := hC1.no hS40
          have ho41 := ho1.no hS40
          have hd40 : PEq (.pointer (some ⟨g, 0, none⟩)) (D 38) w41 ∧ True := hd40
          obtain ⟨d37, -⟩ := hd40
          refine dg_sub (E' := [(85, (.pointer (some ⟨g, 0, none⟩)))]) ⟨(congrArg some d37), trivial⟩ ?_
          refine dg_plain rfl (ow_fieldAddr rfl rfl Tryd.underlying180 rfl (Tryd.sizeOf73 _) ?_)
          exact ⟨BX.refl _ _, rfl⟩
        · intro w42 D hS41 hd41
          have hl42 := Le.no M hS41
          have hC42 := hC1.no hS41
          have ho42 := ho1.no hS41
          have hd41 : PEq (.pointer (some ⟨g, 0, none⟩)) (D 39) w42 ∧ True := hd41
          obtain ⟨d38, -⟩ := hd41
          refine dg_sub (E' := [(86, (.pointer (some ⟨g, 0, none⟩)))]) ⟨(congrArg some d38), trivial⟩ ?_
          refine dg_plain rfl (ow_loadOwn1 rfl rfl rfl ho42 (Tryd.isAgg73 _) rfl ?_)
          exact ⟨BX.refl _ _, (VRep.mono (hl1.trans hl42) hxs)⟩
        · intro w43 D hS42 hd42
          have hl43 := Le.no M hS42
          have hC43 := hC1.no hS42
          have ho43 := ho1.no hS42
          have hd42 : PV (RSlice RU8) M a_xs (D 40) w43 ∧ True := hd42
          obtain ⟨d39, -⟩ := hd42
          obtain ⟨v10, hq5⟩ : ∃ v, (D 40) = v := ⟨_, rfl⟩
          rw [hq5] at d39
          refine dg_sub (E' := [(87, v10)]) ⟨(congrArg some hq5), trivial⟩ ?_
          refine dg_plain rfl (ow_len rfl rfl d39 Tryd.underlying73 rfl ?_)
          exact ⟨BX.refl _ _, rfl⟩
        · intro w44 D hS43 hd43
          have hl44 := Le.no M hS43
          have hC44 := hC1.no hS43
          have ho44 := ho1.no hS43
          have hd43 : PEq (.int .i64 (W ((W (a_pos + 1)) - 1))) (D 36) w44 ∧ PEq (.int .i64 (a_xs.length : Int)) (D 41) w44 ∧ True := hd43
          obtain ⟨d40, d41, -⟩ := hd43
          refine dg_sub (E' := [(83, (.int .i64 (W ((W (a_pos + 1)) - 1)))), (88, (.int .i64 (a_xs.length : Int)))]) ⟨(congrArg some d40), (congrArg some d41), trivial⟩ ?_
          refine dg_plain rfl (ow_quo rfl rfl rfl (nzF_some hu2) ?_)
          exact ⟨BX.refl _ _, rfl⟩
        · intro w45 D hS44 hd44
          have hl45 := Le.no M hS44
          have hC45 := hC1.no hS44
          have ho45 := ho1.no hS44
          have hd44 : PEq (.int .i64 (W (((W ((W (a_pos + 1)) - 1))).tdiv (a_xs.length : Int)))) (D 42) w45 ∧ True := hd44
          obtain ⟨d42, -⟩ := hd44
          refine dg_sub (E' := [(89, (.int .i64 (W (((W ((W (a_pos + 1)) - 1))).tdiv (a_xs.length : Int)))))]) ⟨(congrArg some d42), trivial⟩ ?_
          refine dg_plain rfl (ow_mul rfl rfl rfl ?_)
          exact ⟨BX.refl _ _, rfl⟩
        · intro w46 D hS45 hd45
          have hl46 := Le.no M hS45
          have hC46 := hC1.no hS45
          have ho46 := ho1.no hS45
          have hd45 : PEq (.pointer (some ⟨g, 0, none⟩)) (D 0) w46 ∧ PEq (.pointer (some ⟨g, 0, none⟩)) (D 1) w46 ∧ PEq (.pointer (some ⟨g, 0, none⟩)) (D 2) w46 ∧ PV (RSlice RU8) M a_xs (D 3) w46 ∧ PEq (.int .i64 (W ((W (a_pos + 1)) - 1))) (D 4) w46 ∧ PEq (.pointer (some ⟨g, 0, none⟩)) (D 5) w46 ∧ PEq (.pointer (some ⟨g, 0, none⟩)) (D 6) w46 ∧ PEq (.pointer (some ⟨g, 0, none⟩)) (D 7) w46 ∧ PV (RSlice RU8) M a_xs (D 8) w46 ∧ PEq (.int .i64 (a_xs.length : Int)) (D 9) w46 ∧ PEq (.int .i64 (((W ((W (a_pos + 1)) - 1))).tmod (a_xs.length : Int))) (D 10) w46 ∧ PA RU8 M x2 (D 11) w46 ∧ PEq (.int .u8 x2) (D 12) w46 ∧ PEq (.int .i64 (W x2)) (D 13) w46 ∧ PEq (.int .i64 (W ((W x2) * 131))) (D 14) w46 ∧ PEq (.pointer (some ⟨g, 0, none⟩)) (D 15) w46 ∧ PEq (.pointer (some ⟨g, 0, none⟩)) (D 16) w46 ∧ PEq (.pointer (some ⟨g, 0, none⟩)) (D 17) w46 ∧ PV (RSlice RU8) M a_xs (D 18) w46 ∧ PEq (.int .i64 (W ((W (a_pos + 1)) - 1))) (D 19) w46 ∧ PEq (.int .i64 (W ((W ((W (a_pos + 1)) - 1)) * 7))) (D 20) w46 ∧ PEq (.int .i64 (W ((W ((W ((W (a_pos + 1)) - 1)) * 7)) + 3))) (D 21) w46 ∧ PEq (.pointer (some ⟨g, 0, none⟩)) (D 22) w46 ∧ PEq (.pointer (some ⟨g, 0, none⟩)) (D 23) w46 ∧ PEq (.pointer (some ⟨g, 0, none⟩)) (D 24) w46 ∧ PV (RSlice RU8) M a_xs (D 25) w46 ∧ PEq (.int .i64 (a_xs.length : Int)) (D 26) w46 ∧ PEq (.int .i64 (((W ((W ((W ((W (a_pos + 1)) - 1)) * 7)) + 3))).tmod (a_xs.length : Int))) (D 27) w46 ∧ PA RU8 M x3 (D 28) w46 ∧ PEq (.int .u8 x3) (D 29) w46 ∧ PEq (.int .i64 (W x3)) (D 30) w46 ∧ PEq (.int .i64 (W ((W x3) * 1117))) (D 31) w46 ∧ PEq (.int .i64 (W ((W ((W x2) * 131)) + (W ((W x3) * 1117))))) (D 32) w46 ∧ PEq (.int .i64 (W ((W (a_pos + 1)) - 1))) (D 33) w46 ∧ PEq (.int .i64 (W ((W ((W (a_pos + 1)) - 1)) * 29))) (D 34) w46 ∧ PEq (.int .i64 (W ((W ((W ((W x2) * 131)) + (W ((W x3) * 1117)))) + (W ((W ((W (a_pos + 1)) - 1)) * 29))))) (D 35) w46 ∧ PEq (.int .i64 (W ((W (a_pos + 1)) - 1))) (D 36) w46 ∧ PEq (.pointer (some ⟨g, 0, none⟩)) (D 37) w46 ∧ PEq (.pointer (some ⟨g, 0, none⟩)) (D 38) w46 ∧ PEq (.pointer (some ⟨g, 0, none⟩)) (D 39) w46 ∧ PV (RSlice RU8) M a_xs (D 40) w46 ∧ PEq (.int .i64 (a_xs.length : Int)) (D 41) w46 ∧ PEq (.int .i64 (W (((W ((W (a_pos + 1)) - 1))).tdiv (a_xs.length : Int)))) (D 42) w46 ∧ PEq (.int .i64 (W ((W (((W ((W (a_pos + 1)) - 1))).tdiv (a_xs.length : Int))) * 53))) (D 43) w46 ∧ True := hd45
          obtain ⟨-, -, -, -, -, -, -, -, -, -, -, -, -, -, -, -, -, -, -, -, -, -, -, -, -, -, -, -, -, -, -, -, -, -, -, d78, -, -, -, -, -, -, -, d86, -⟩ := hd45
          refine lw_sub (E' := [(82, (.int .i64 (W ((W ((W ((W x2) * 131)) + (W ((W x3) * 1117)))) + (W ((W ((W (a_pos + 1)) - 1)) * 29)))))), (90, (.int .i64 (W ((W (((W ((W (a_pos + 1)) - 1))).tdiv (a_xs.length : Int))) * 53)))), (0, (.pointer (some ⟨g, 0, none⟩))), (1, (.int .i64 a_n)), (4, (.int .i64 0)), (5, (.int .i64 (W ((W (a_pos + 1)) - 1))))]) ⟨(congrArg some d78), (congrArg some d86), rfl, rfl, rfl, rfl, trivial⟩ ?_
          refine lw_op rfl rfl rfl (ow_add rfl rfl rfl ?_)
          refine lw_op rfl rfl rfl (ow_assign rfl rfl ?_)
          refine lw_nil ?_
          refine ew_then ?_
          refine cw_seq ?_
          refine cw_region ?_
          refine lw_op rfl rfl rfl (ow_move rfl rfl ?_)
          refine lw_op rfl rfl rfl (ow_move rfl rfl ?_)
          refine lw_op rfl rfl rfl (ow_quo rfl rfl rfl (by decide) ?_)
          refine lw_op rfl rfl rfl (ow_xor rfl rfl rfl ?_)
          refine lw_op rfl rfl rfl (ow_assign rfl rfl ?_)
          refine lw_nil ?_
          refine ew_then ?_
          refine cw_seq ?_
          refine cw_region ?_
          refine lw_op rfl rfl rfl (ow_move rfl rfl ?_)
          refine lw_op rfl rfl rfl (ow_move rfl rfl ?_)
          replace h := bind_some h
          obtain ⟨u3, hu3, h⟩ := h
          refine lw_op rfl rfl rfl (ow_rem rfl rfl rfl (nzF_some hu3) ?_)
          refine lw_op rfl rfl rfl (ow_assign rfl rfl ?_)
          refine lw_nil ?_
          refine ew_then ?_
          refine cw_ret ?_
          obtain rfl := Option.some.inj h
          exact ew_ret (res1 rfl (.tmp rfl)) ⟨_, rfl, ⟨((vint _)), ho46⟩, hC46.bx⟩

theorem w_spec_l20Rd_odd {w : World} {M : Nat → Prop} (hG : ARep (RArr 4 RShape) w M shapes ⟨0, 0, none⟩) (hO : ∀ b, M b → b < w.heap.size) {g : Nat} {Ax : Option Addr} {cx : Nat} {a_xs : List Int} {a_pos : Int} (hxs : VRep (RSlice RU8) w M a_xs (.slice Ax a_xs.length cx)) (hown : Own w g 180 #[.slice Ax a_xs.length cx, .int .i64 a_pos]) (hgM : M g) {a_n : Int} {r : Bool × Int} (h : F.spec_l20Rd_odd a_xs a_pos a_n = some r) :
    Calls Tryd.prog 136 [(.pointer (some ⟨g, 0, none⟩)), (.int .i64 a_n)].toArray w fun e w' => ∃ v, e = .returned v ∧ (VRep RBool w' M r.1 v ∧ Own w' g 180 #[.slice Ax a_xs.length cx, .int .i64 r.2]) ∧ BX (One g) w w' := by
  have hX : ∀ b, (One g) b → M b := fun b e => e ▸ hgM
  have hC : Cx (One g) w M w M := Cx.start hO hX
  refine walk (N := 15) Tryd.func136 rfl Tryd.ntmps136 rfl ?_
  refine cw_seq ?_
  refine cw_region ?_
  refine lw_op rfl rfl rfl (ow_assign rfl rfl ?_)
  refine lw_nil ?_
  refine ew_then ?_
  refine cw_seq ?_
  refine cw_region ?_
  refine lw_op rfl rfl rfl (ow_move rfl rfl ?_)
  refine lw_op rfl rfl rfl (ow_gtr rfl rfl rfl fun bb1 hbb1 => ?_)
  refine lw_op rfl rfl rfl (ow_move rfl rfl ?_)
  replace h := cond_some h
  rcases h with ⟨hc1, h⟩ | ⟨hc1, h⟩
  · obtain rfl := hbb1.trans hc1
    refine lw_on rfl rfl rfl rfl rfl rfl (ow_move rfl rfl ?_)
    refine lw_on rfl rfl rfl rfl rfl rfl (ow_move rfl rfl ?_)
    replace h := bind_some h
    obtain ⟨x1, hx1, h⟩ := h
    refine lw_on rfl rfl rfl rfl rfl rfl (ow_call rfl rfl Tryd.call111 (w_spec_l20Rd_pick hG hC.old hxs hown hgM hx1) fun v1 w1 hv1 => ?_)
    obtain ⟨⟨hv1, ho1⟩, hb1⟩ := hv1
    have hl1 := Le.of_bx M hb1 (fun b e => (by rw [show b = g from e]; exact hgM))
    have hC1 := hC.go hb1 (fun b e => Or.inr e)
    obtain rfl := vint_eq hv1
    refine lw_on rfl rfl rfl rfl rfl rfl (ow_move rfl rfl ?_)
    refine lw_on rfl rfl rfl rfl rfl rfl (ow_sub rfl rfl rfl ?_)
    refine lw_on rfl rfl rfl rfl rfl rfl (ow_eqlI rfl rfl rfl fun bb2 hbb2 => ?_)
    refine lw_op rfl rfl rfl (ow_pickT rfl rfl rfl ?_)
    refine lw_op rfl rfl rfl (ow_assign rfl rfl ?_)
    refine lw_nil ?_
    refine ew_then ?_
    refine cw_ret ?_
    obtain rfl := Option.some.inj h
    exact ew_ret (res1 rfl (.tmp rfl)) ⟨_, rfl, ⟨((vbool_of hbb2)), ho1⟩, hC1.bx⟩
  · obtain rfl := hbb1.trans hc1
    refine lw_off rfl rfl rfl rfl rfl rfl ?_
    refine lw_off rfl rfl rfl rfl rfl rfl ?_
    refine lw_off rfl rfl rfl rfl rfl rfl ?_
    refine lw_off rfl rfl rfl rfl rfl rfl ?_
    refine lw_off rfl rfl rfl rfl rfl rfl ?_
    refine lw_off rfl rfl rfl rfl rfl rfl ?_
    refine lw_op rfl rfl rfl (ow_pickF rfl rfl rfl ?_)
    refine lw_op rfl rfl rfl (ow_assign rfl rfl ?_)
    refine lw_nil ?_
    refine ew_then ?_
    refine cw_ret ?_
    obtain rfl := Option.some.inj h
    exact ew_ret (res1 rfl (.tmp rfl)) ⟨_, rfl, ⟨((vbool _)), hown⟩, hC.bx⟩

theorem w_spec_l20Packet {w : World} {M : Nat → Prop} (hG : ARep (RArr 4 RShape) w M shapes ⟨0, 0, none⟩) (hO : ∀ b, M b → b < w.heap.size) {g : Nat} {Ax : Option Addr} {cx : Nat} {a_xs : List Int} {a_pos : Int} (hxs : VRep (RSlice RU8) w M a_xs (.slice Ax a_xs.length cx)) (hown : Own w g 180 #[.slice Ax a_xs.length cx, .int .i64 a_pos]) (hgM : M g) {a_n : Int} {r : Packet × Int} (h : F.spec_l20Packet a_xs a_pos a_n = some r) :
    Calls Tryd.prog 137 [(.pointer (some ⟨g, 0, none⟩)), (.int .i64 a_n)].toArray w fun e w' => ∃ v, e = .returned v ∧ (VRep RPacket w' M r.1 v ∧ Own w' g 180 #[.slice Ax a_xs.length cx, .int .i64 r.2]) ∧ BX (One g) w w' := by
  have hX : ∀ b, (One g) b → M b := fun b e => e ▸ hgM
  have hC : Cx (One g) w M w M := Cx.start hO hX
  refine walk (N := 71) Tryd.func137 rfl Tryd.ntmps137 rfl ?_
  refine cw_seq ?_
  refine cw_region ?_
  refine lw_op rfl rfl rfl (ow_alloc rfl (Tryd.zeroValue39 _) hC fun g1 w1 hg1 hg2 ho1 hb1 hl1 hC1 => ?_)
  have hn1 := Nat.ne_of_lt (Nat.lt_of_lt_of_le hown.lt hg1)
  have ho2 := hown.no hb1
  have hm1 : (Add g1 M) g := .inr hgM
  have hm2 : (Add g1 M) g1 := .inl rfl
  refine lw_nil ?_
  refine ew_then ?_
  refine cw_seq ?_
  refine cw_region ?_
  refine lw_op rfl rfl rfl (ow_move rfl rfl ?_)
  replace h := bind_some h
  obtain ⟨x1, hx1, h⟩ := h
  refine lw_op rfl rfl rfl (ow_call rfl rfl Tryd.call111 (w_spec_l20Rd_pick (hG.mono hl1) hC1.old (VRep.mono hl1 hxs) ho2 hm1 hx1) fun v1 w2 hv1 => ?_)
  obtain ⟨⟨hv1, ho3⟩, hb2⟩ := hv1
  have hl2 := Le.of_bx (Add g1 M) hb2 (fun b e => (by rw [show b = g from e]; exact hm1))
  have hC2 := hC1.go hb2 (fun b e => Or.inr e)
  have ho4 := ho1.go hb2 (fun e => hn1 e.symm)
  obtain rfl := vint_eq hv1
  refine lw_op rfl rfl rfl (ow_move rfl rfl ?_)
  replace h := bind_some h
  obtain ⟨x2, hx2, h⟩ := h
  refine lw_op rfl rfl rfl (ow_call rfl rfl Tryd.call111 (w_spec_l20Rd_pick (hG.mono (hl1.trans hl2)) hC2.old (VRep.mono (hl1.trans hl2) hxs) ho3 hm1 hx2) fun v2 w3 hv2 => ?_)
  obtain ⟨⟨hv2, ho5⟩, hb3⟩ := hv2
  have hl3 := Le.of_bx (Add g1 M) hb3 (fun b e => (by rw [show b = g from e]; exact hm1))
  have hC3 := hC2.go hb3 (fun b e => Or.inr e)
  have ho6 := ho4.go hb3 (fun e => hn1 e.symm)
  obtain rfl := vint_eq hv2
  refine lw_op rfl rfl rfl (ow_move rfl rfl ?_)
  replace h := bind_some h
  obtain ⟨x3, hx3, h⟩ := h
  refine lw_op rfl rfl rfl (ow_call rfl rfl Tryd.call111 (w_spec_l20Rd_pick (hG.mono ((hl1.trans hl2).trans hl3)) hC3.old (VRep.mono ((hl1.trans hl2).trans hl3) hxs) ho5 hm1 hx3) fun v3 w4 hv3 => ?_)
  obtain ⟨⟨hv3, ho7⟩, hb4⟩ := hv3
  have hl4 := Le.of_bx (Add g1 M) hb4 (fun b e => (by rw [show b = g from e]; exact hm1))
  have hC4 := hC3.go hb4 (fun b e => Or.inr e)
  have ho8 := ho6.go hb4 (fun e => hn1 e.symm)
  obtain rfl := vint_eq hv3
  refine lw_op rfl rfl rfl (ow_move rfl rfl ?_)
  replace h := bind_some h
  obtain ⟨x4, hx4, h⟩ := h
  refine lw_op rfl rfl rfl (ow_call rfl rfl Tryd.call111 (w_spec_l20Rd_pick (hG.mono (((hl1.trans hl2).trans hl3).trans hl4)) hC4.old (VRep.mono (((hl1.trans hl2).trans hl3).trans hl4) hxs) ho7 hm1 hx4) fun v4 w5 hv4 => ?_)
  obtain ⟨⟨hv4, ho9⟩, hb5⟩ := hv4
  have hl5 := Le.of_bx (Add g1 M) hb5 (fun b e => (by rw [show b = g from e]; exact hm1))
  have hC5 := hC4.go hb5 (fun b e => Or.inr e)
  have ho10 := ho8.go hb5 (fun e => hn1 e.symm)
  obtain rfl := vint_eq hv4
  refine lw_op rfl rfl rfl (ow_build (v := .agg #[(.int .i64 x1.1), (.int .i64 x2.1), (.int .i64 x3.1), (.int .i64 x4.1)]) rfl rfl (by kernel_rfl) ?_)
  have hw1 : VRep RPacket w5 (Add g1 M) ({ From := x1.1, To := x2.1, Port := x3.1, Proto := x4.1 } : Packet) (.agg #[(.int .i64 x1.1), (.int .i64 x2.1), (.int .i64 x3.1), (.int .i64 x4.1)]) := shut_Packet
  refine lw_op rfl rfl rfl (ow_alloc rfl (Tryd.zeroValue39 _) hC5 fun g2 w6 hg3 hg4 ho11 hb6 hl6 hC6 => ?_)
  have hn2 := Nat.ne_of_lt (Nat.lt_of_lt_of_le ho9.lt hg3)
  have ho12 := ho9.no hb6
  have hm3 : (Add g2 (Add g1 M)) g := .inr hm1
  have hn3 := Nat.ne_of_lt (Nat.lt_of_lt_of_le ho10.lt hg3)
  have ho13 := ho10.no hb6
  have hm4 : (Add g2 (Add g1 M)) g1 := .inr hm2
  have hm5 : (Add g2 (Add g1 M)) g2 := .inl rfl
  refine lw_op0 rfl rfl (ow_store (X := (One g)) (us := [(.int .i64 x1.1), (.int .i64 x2.1), (.int .i64 x3.1), (.int .i64 x4.1)]) (cs' := #[(.int .i64 x1.1), (.int .i64 x2.1), (.int .i64 x3.1), (.int .i64 x4.1)]) rfl rfl rfl rfl ho11 (Tryd.sizeOf39 _) rfl rfl rfl rfl hm5 (.inl hg4) rfl hC6 fun w7 ho14 hb7 hl7 hC7 => ?_)
  have ho15 := ho12.go hb7 (fun e => hn2 e)
  have ho16 := ho13.go hb7 (fun e => hn3 e)
  refine lw_nil ?_
  refine ew_then ?_
  refine cw_seq ?_
  refine cw_seq ?_
  refine cw_region ?_
  refine lw_op rfl rfl rfl (ow_move rfl rfl ?_)
  replace h := bind_some h
  obtain ⟨x5, hx5, h⟩ := h
  refine lw_op rfl rfl rfl (ow_call rfl rfl Tryd.call111 (w_spec_l20Rd_pick (hG.mono ((((((hl1.trans hl2).trans hl3).trans hl4).trans hl5).trans hl6).trans hl7)) hC7.old (VRep.mono ((((((hl1.trans hl2).trans hl3).trans hl4).trans hl5).trans hl6).trans hl7) hxs) ho15 hm3 hx5) fun v5 w8 hv5 => ?_)
  obtain ⟨⟨hv5, ho17⟩, hb8⟩ := hv5
  have hl8 := Le.of_bx (Add g2 (Add g1 M)) hb8 (fun b e => (by rw [show b = g from e]; exact hm3))
  have hC8 := hC7.go hb8 (fun b e => Or.inr e)
  have ho18 := ho16.go hb8 (fun e => hn1 e.symm)
  have ho19 := ho14.go hb8 (fun e => hn2 e.symm)
  obtain rfl := vint_eq hv5
  refine lw_op rfl rfl rfl (ow_eqlI rfl rfl rfl fun bb1 hbb1 => ?_)
  refine lw_nil ?_
  refine ew_then ?_
  replace h := cond_some h
  rcases h with ⟨hc1, h⟩ | ⟨hc1, h⟩
  · obtain rfl := hbb1.trans hc1
    refine cw_true rfl ?_
    refine cw_seq ?_
    refine cw_region ?_
    refine lw_op rfl rfl rfl (ow_move rfl rfl ?_)
    replace h := bind_some h
    obtain ⟨x6, hx6, h⟩ := h
    refine lw_op rfl rfl rfl (ow_call rfl rfl Tryd.call111 (w_spec_l20Rd_pick (hG.mono (((((((hl1.trans hl2).trans hl3).trans hl4).trans hl5).trans hl6).trans hl7).trans hl8)) hC8.old (VRep.mono (((((((hl1.trans hl2).trans hl3).trans hl4).trans hl5).trans hl6).trans hl7).trans hl8) hxs) ho17 hm3 hx6) fun v6 w9 hv6 => ?_)
    obtain ⟨⟨hv6, ho20⟩, hb9⟩ := hv6
    have hl9 := Le.of_bx (Add g2 (Add g1 M)) hb9 (fun b e => (by rw [show b = g from e]; exact hm3))
    have hC9 := hC8.go hb9 (fun b e => Or.inr e)
    have ho21 := ho18.go hb9 (fun e => hn1 e.symm)
    have ho22 := ho19.go hb9 (fun e => hn2 e.symm)
    obtain rfl := vint_eq hv6
    refine lw_op rfl rfl rfl (ow_mul rfl rfl rfl ?_)
    refine lw_op rfl rfl rfl (ow_move rfl rfl ?_)
    replace h := bind_some h
    obtain ⟨x7, hx7, h⟩ := h
    refine lw_op rfl rfl rfl (ow_call rfl rfl Tryd.call111 (w_spec_l20Rd_pick (hG.mono ((((((((hl1.trans hl2).trans hl3).trans hl4).trans hl5).trans hl6).trans hl7).trans hl8).trans hl9)) hC9.old (VRep.mono ((((((((hl1.trans hl2).trans hl3).trans hl4).trans hl5).trans hl6).trans hl7).trans hl8).trans hl9) hxs) ho20 hm3 hx7) fun v7 w10 hv7 => ?_)
    obtain ⟨⟨hv7, ho23⟩, hb10⟩ := hv7
    have hl10 := Le.of_bx (Add g2 (Add g1 M)) hb10 (fun b e => (by rw [show b = g from e]; exact hm3))
    have hC10 := hC9.go hb10 (fun b e => Or.inr e)
    have ho24 := ho21.go hb10 (fun e => hn1 e.symm)
    have ho25 := ho22.go hb10 (fun e => hn2 e.symm)
    obtain rfl := vint_eq hv7
    refine lw_op rfl rfl rfl (ow_add rfl rfl rfl ?_)
    refine lw_op rfl rfl rfl (ow_fieldAddr rfl rfl Tryd.underlying39 rfl (Tryd.sizeOf3 _) ?_)
    refine lw_op0 rfl rfl (ow_store (X := (One g)) (us := [(.int .i64 (W ((W (x6.1 * 256)) + x7.1)))]) (cs' := #[(.int .i64 (W ((W (x6.1 * 256)) + x7.1))), (.int .i64 x2.1), (.int .i64 x3.1), (.int .i64 x4.1)]) rfl rfl rfl rfl ho25 (Tryd.sizeOf3 _) rfl rfl rfl rfl hm5 (.inl hg4) rfl hC10 fun w11 ho26 hb11 hl11 hC11 => ?_)
    have ho27 := ho23.go hb11 (fun e => hn2 e)
    have ho28 := ho24.go hb11 (fun e => hn3 e)
    refine lw_nil ?_
    refine ew_then ?_
    refine cw_seq ?_
    refine cw_region ?_
    refine lw_op rfl rfl rfl (ow_move rfl rfl ?_)
    replace h := bind_some h
    obtain ⟨x8, hx8, h⟩ := h
    refine lw_op rfl rfl rfl (ow_call rfl rfl Tryd.call111 (w_spec_l20Rd_pick (hG.mono ((((((((((hl1.trans hl2).trans hl3).trans hl4).trans hl5).trans hl6).trans hl7).trans hl8).trans hl9).trans hl10).trans hl11)) hC11.old (VRep.mono ((((((((((hl1.trans hl2).trans hl3).trans hl4).trans hl5).trans hl6).trans hl7).trans hl8).trans hl9).trans hl10).trans hl11) hxs) ho27 hm3 hx8) fun v8 w12 hv8 => ?_)
    obtain ⟨⟨hv8, ho29⟩, hb12⟩ := hv8
    have hl12 := Le.of_bx (Add g2 (Add g1 M)) hb12 (fun b e => (by rw [show b = g from e]; exact hm3))
    have hC12 := hC11.go hb12 (fun b e => Or.inr e)
    have ho30 := ho28.go hb12 (fun e => hn1 e.symm)
    have ho31 := ho26.go hb12 (fun e => hn2 e.symm)
    obtain rfl := vint_eq hv8
    refine lw_op rfl rfl rfl (ow_mul rfl rfl rfl ?_)
    refine lw_op rfl rfl rfl (ow_move rfl rfl ?_)
    replace h := bind_some h
    obtain ⟨x9, hx9, h⟩ := h
    refine lw_op rfl rfl rfl (ow_call rfl rfl Tryd.call111 (w_spec_l20Rd_pick (hG.mono (((((((((((hl1.trans hl2).trans hl3).trans hl4).trans hl5).trans hl6).trans hl7).trans hl8).trans hl9).trans hl10).trans hl11).trans hl12)) hC12.old (VRep.mono (((((((((((hl1.trans hl2).trans hl3).trans hl4).trans hl5).trans hl6).trans hl7).trans hl8).trans hl9).trans hl10).trans hl11).trans hl12) hxs) ho29 hm3 hx9) fun v9 w13 hv9 => ?_)
    obtain ⟨⟨hv9, ho32⟩, hb13⟩ := hv9
    have hl13 := Le.of_bx (Add g2 (Add g1 M)) hb13 (fun b e => (by rw [show b = g from e]; exact hm3))
    have hC13 := hC12.go hb13 (fun b e => Or.inr e)
    have ho33 := ho30.go hb13 (fun e => hn1 e.symm)
    have ho34 := ho31.go hb13 (fun e => hn2 e.symm)
    obtain rfl := vint_eq hv9
    refine lw_op rfl rfl rfl (ow_add rfl rfl rfl ?_)
    refine lw_op rfl rfl rfl (ow_fieldAddr rfl rfl Tryd.underlying39 rfl (Tryd.sizeOf3 _) ?_)
    refine lw_op0 rfl rfl (ow_store (X := (One g)) (us := [(.int .i64 (W ((W (x8.1 * 16384)) + x9.1)))]) (cs' := #[(.int .i64 (W ((W (x6.1 * 256)) + x7.1))), (.int .i64 (W ((W (x8.1 * 16384)) + x9.1))), (.int .i64 x3.1), (.int .i64 x4.1)]) rfl rfl rfl rfl ho34 (Tryd.sizeOf3 _) rfl rfl rfl rfl hm5 (.inl hg4) rfl hC13 fun w14 ho35 hb14 hl14 hC14 => ?_)
    have ho36 := ho32.go hb14 (fun e => hn2 e)
    have ho37 := ho33.go hb14 (fun e => hn3 e)
    refine lw_nil ?_
    refine ew_then ?_
    refine cw_region ?_
    refine lw_op rfl rfl rfl (ow_move rfl rfl ?_)
    replace h := bind_some h
    obtain ⟨x10, hx10, h⟩ := h
    refine lw_op rfl rfl rfl (ow_call rfl rfl Tryd.call111 (w_spec_l20Rd_pick (hG.mono (((((((((((((hl1.trans hl2).trans hl3).trans hl4).trans hl5).trans hl6).trans hl7).trans hl8).trans hl9).trans hl10).trans hl11).trans hl12).trans hl13).trans hl14)) hC14.old (VRep.mono (((((((((((((hl1.trans hl2).trans hl3).trans hl4).trans hl5).trans hl6).trans hl7).trans hl8).trans hl9).trans hl10).trans hl11).trans hl12).trans hl13).trans hl14) hxs) ho36 hm3 hx10) fun v10 w15 hv10 => ?_)
    obtain ⟨⟨hv10, ho38⟩, hb15⟩ := hv10
    have hl15 := Le.of_bx (Add g2 (Add g1 M)) hb15 (fun b e => (by rw [show b = g from e]; exact hm3))
    have hC15 := hC14.go hb15 (fun b e => Or.inr e)
    have ho39 := ho37.go hb15 (fun e => hn1 e.symm)
    have ho40 := ho35.go hb15 (fun e => hn2 e.symm)
    obtain rfl := vint_eq hv10
    refine lw_op rfl rfl rfl (ow_fieldAddr rfl rfl Tryd.underlying39 rfl (Tryd.sizeOf3 _) ?_)
    refine lw_op0 rfl rfl (ow_store (X := (One g)) (us := [(.int .i64 x10.1)]) (cs' := #[(.int .i64 (W ((W (x6.1 * 256)) + x7.1))), (.int .i64 (W ((W (x8.1 * 16384)) + x9.1))), (.int .i64 x10.1), (.int .i64 x4.1)]) rfl rfl rfl rfl ho40 (Tryd.sizeOf3 _) rfl rfl rfl rfl hm5 (.inl hg4) rfl hC15 fun w16 ho41 hb16 hl16 hC16 => ?_)
    have ho42 := ho38.go hb16 (fun e => hn2 e)
    have ho43 := ho39.go hb16 (fun e => hn3 e)
    refine lw_nil ?_
    refine ew_then ?_
    refine cw_seq ?_
    refine cw_seq ?_
    refine cw_region ?_
    refine lw_op rfl rfl rfl (ow_move rfl rfl ?_)
    refine lw_op rfl rfl rfl (ow_move rfl rfl ?_)
    replace h := bind_some h
    obtain ⟨x11, hx11, h⟩ := h
    refine lw_op rfl rfl rfl (ow_call rfl rfl Tryd.call136 (w_spec_l20Rd_odd (hG.mono (((((((((((((((hl1.trans hl2).trans hl3).trans hl4).trans hl5).trans hl6).trans hl7).trans hl8).trans hl9).trans hl10).trans hl11).trans hl12).trans hl13).trans hl14).trans hl15).trans hl16)) hC16.old (VRep.mono (((((((((((((((hl1.trans hl2).trans hl3).trans hl4).trans hl5).trans hl6).trans hl7).trans hl8).trans hl9).trans hl10).trans hl11).trans hl12).trans hl13).trans hl14).trans hl15).trans hl16) hxs) ho42 hm3 hx11) fun v11 w17 hv11 => ?_)
    obtain ⟨⟨hv11, ho44⟩, hb17⟩ := hv11
    have hl17 := Le.of_bx (Add g2 (Add g1 M)) hb17 (fun b e => (by rw [show b = g from e]; exact hm3))
    have hC17 := hC16.go hb17 (fun b e => Or.inr e)
    have ho45 := ho43.go hb17 (fun e => hn1 e.symm)
    have ho46 := ho41.go hb17 (fun e => hn2 e.symm)
    obtain ⟨bb2, hbb2, rfl⟩ := vbool_ex hv11
    refine lw_nil ?_
    refine ew_then ?_
    replace h := cond_some h
    rcases h with ⟨hc2, h⟩ | ⟨hc2, h⟩
    · obtain rfl := hbb2.trans hc2
      refine cw_true rfl ?_
      refine cw_seq ?_
      refine cw_region ?_
      refine lw_op rfl rfl rfl (ow_move rfl rfl ?_)
      replace h := bind_some h
      obtain ⟨x12, hx12, h⟩ := h
      refine lw_op rfl rfl rfl (ow_call rfl rfl Tryd.call111 (w_spec_l20Rd_pick (hG.mono ((((((((((((((((hl1.trans hl2).trans hl3).trans hl4).trans hl5).trans hl6).trans hl7).trans hl8).trans hl9).trans hl10).trans hl11).trans hl12).trans hl13).trans hl14).trans hl15).trans hl16).trans hl17)) hC17.old (VRep.mono ((((((((((((((((hl1.trans hl2).trans hl3).trans hl4).trans hl5).trans hl6).trans hl7).trans hl8).trans hl9).trans hl10).trans hl11).trans hl12).trans hl13).trans hl14).trans hl15).trans hl16).trans hl17) hxs) ho44 hm3 hx12) fun v12 w18 hv12 => ?_)
      obtain ⟨⟨hv12, ho47⟩, hb18⟩ := hv12
      have hl18 := Le.of_bx (Add g2 (Add g1 M)) hb18 (fun b e => (by rw [show b = g from e]; exact hm3))
      have hC18 := hC17.go hb18 (fun b e => Or.inr e)
      have ho48 := ho45.go hb18 (fun e => hn1 e.symm)
      have ho49 := ho46.go hb18 (fun e => hn2 e.symm)
      obtain rfl := vint_eq hv12
      refine lw_nil ?_
      refine ew_then ?_
      refine cw_block ?_
      refine cw_seq ?_
      refine cw_region ?_
      refine lw_op rfl rfl rfl (ow_eqlI rfl rfl rfl fun bb3 hbb3 => ?_)
      refine lw_op rfl rfl rfl (ow_assign rfl rfl ?_)
      refine lw_nil ?_
      refine ew_then ?_
      replace h := cond_some h
      rcases h with ⟨hc3, h⟩ | ⟨hc3, h⟩
      · obtain rfl := hbb3.trans hc3
        refine cw_true rfl ?_
        refine cw_region ?_
        refine lw_op rfl rfl rfl (ow_buildSlice (R := RInt) (xs := [(-1), 65536]) (cs := #[(.int .i64 (-1)), (.int .i64 65536)]) (e := 3) rfl rfl (by kernel_rfl) rfl rfl ⟨_, _, rfl, (vint _).cells, _, _, rfl, (vint _).cells, rfl⟩ hC18 fun p1 w19 hw2 hb19 hl19 hC19 => ?_)
        have ho50 := ho47.no hb19
        have ho51 := ho48.no hb19
        have ho52 := ho49.no hb19
        refine lw_op rfl rfl rfl (ow_move rfl rfl ?_)
        replace h := bind_some h
        obtain ⟨x13, hx13, h⟩ := h
        refine lw_op rfl rfl rfl (ow_call rfl rfl Tryd.call111 (w_spec_l20Rd_pick (hG.mono ((((((((((((((((((hl1.trans hl2).trans hl3).trans hl4).trans hl5).trans hl6).trans hl7).trans hl8).trans hl9).trans hl10).trans hl11).trans hl12).trans hl13).trans hl14).trans hl15).trans hl16).trans hl17).trans hl18).trans hl19)) hC19.old (VRep.mono ((((((((((((((((((hl1.trans hl2).trans hl3).trans hl4).trans hl5).trans hl6).trans hl7).trans hl8).trans hl9).trans hl10).trans hl11).trans hl12).trans hl13).trans hl14).trans hl15).trans hl16).trans hl17).trans hl18).trans hl19) hxs) ho50 hm3 hx13) fun v13 w20 hv13 => ?_)
        obtain ⟨⟨hv13, ho53⟩, hb20⟩ := hv13
        have hl20 := Le.of_bx (Add g2 (Add g1 M)) hb20 (fun b e => (by rw [show b = g from e]; exact hm3))
        have hC20 := hC19.go hb20 (fun b e => Or.inr e)
        have ho54 := ho51.go hb20 (fun e => hn1 e.symm)
        have ho55 := ho52.go hb20 (fun e => hn2 e.symm)
        obtain rfl := vint_eq hv13
        replace h := bind_some h
        obtain ⟨x14, hx14, h⟩ := h
        refine lw_op rfl rfl rfl (ow_indexSlice (R := RInt) rfl rfl rfl (VRep.mono hl20 hw2) Tryd.underlying116 (Tryd.sizeOf3 _) hx14 fun p2 hp2 => ?_)
        refine lw_op rfl rfl rfl (ow_load (R := RInt) rfl rfl hp2 (Tryd.sizeOf3 _) (Tryd.isAgg3 _) fun v14 hv14 => ?_)
        obtain rfl := vint_eq hv14
        refine lw_op rfl rfl rfl (ow_fieldAddr rfl rfl Tryd.underlying39 rfl (Tryd.sizeOf3 _) ?_)
        refine lw_op0 rfl rfl (ow_store (X := (One g)) (us := [(.int .i64 x14)]) (cs' := #[(.int .i64 x14), (.int .i64 (W ((W (x8.1 * 16384)) + x9.1))), (.int .i64 x10.1), (.int .i64 x4.1)]) rfl rfl rfl rfl ho55 (Tryd.sizeOf3 _) rfl rfl rfl rfl hm5 (.inl hg4) rfl hC20 fun w21 ho56 hb21 hl21 hC21 => ?_)
        have ho57 := ho53.go hb21 (fun e => hn2 e)
        have ho58 := ho54.go hb21 (fun e => hn3 e)
        refine lw_nil ?_
        refine ew_blockN ?_
        refine ew_then ?_
        refine cw_seq ?_
        refine cw_region ?_
        refine lw_op rfl rfl rfl (ow_loadOwnA rfl rfl rfl ho56 (Tryd.isAgg39 _) (Tryd.sizeOf39 _) rfl ?_)
        have hw3 : VRep RPacket w21 (Add g2 (Add g1 M)) ({ From := x14, To := (W ((W (x8.1 * 16384)) + x9.1)), Port := x10.1, Proto := x4.1 } : Packet) (.agg #[(.int .i64 x14), (.int .i64 (W ((W (x8.1 * 16384)) + x9.1))), (.int .i64 x10.1), (.int .i64 x4.1)]) := shut_Packet
        refine lw_op0 rfl rfl (ow_store (X := (One g)) (us := [(.int .i64 x14), (.int .i64 (W ((W (x8.1 * 16384)) + x9.1))), (.int .i64 x10.1), (.int .i64 x4.1)]) (cs' := #[(.int .i64 x14), (.int .i64 (W ((W (x8.1 * 16384)) + x9.1))), (.int .i64 x10.1), (.int .i64 x4.1)]) rfl rfl rfl rfl ho58 (Tryd.sizeOf39 _) rfl rfl rfl rfl hm4 (.inl hg2) rfl hC21 fun w22 ho59 hb22 hl22 hC22 => ?_)
        have ho60 := ho57.go hb22 (fun e => hn1 e)
        have ho61 := ho56.go hb22 (fun e => hn3 e.symm)
        refine lw_nil ?_
        refine ew_then ?_
        refine cw_ret ?_
        have hw4 : VRep RPacket w22 (Add g2 (Add g1 M)) ({ From := x14, To := (W ((W (x8.1 * 16384)) + x9.1)), Port := x10.1, Proto := x4.1 } : Packet) (.agg #[(.int .i64 x14), (.int .i64 (W ((W (x8.1 * 16384)) + x9.1))), (.int .i64 x10.1), (.int .i64 x4.1)]) := shut_Packet
        obtain rfl := Option.some.inj h
        exact ew_ret (res1 rfl (.cell rfl (own_loadVarA ho59 (Tryd.isAgg39 _) (Tryd.sizeOf39 _) rfl))) ⟨_, rfl, ⟨(hw4.mono hC22.back), ho60⟩, hC22.bx⟩
      · obtain rfl := hbb3.trans hc3
        refine cw_false rfl ?_
        refine cw_seq ?_
        refine cw_region ?_
        refine lw_op rfl rfl rfl (ow_eqlI rfl rfl rfl fun bb4 hbb4 => ?_)
        refine lw_op rfl rfl rfl (ow_assign rfl rfl ?_)
        refine lw_nil ?_
        refine ew_then ?_
        replace h := cond_some h
        rcases h with ⟨hc4, h⟩ | ⟨hc4, h⟩
        · obtain rfl := hbb4.trans hc4
          refine cw_true rfl ?_
          refine cw_region ?_
          refine lw_op rfl rfl rfl (ow_buildSlice (R := RInt) (xs := [(-1), 65536]) (cs := #[(.int .i64 (-1)), (.int .i64 65536)]) (e := 3) rfl rfl (by kernel_rfl) rfl rfl ⟨_, _, rfl, (vint _).cells, _, _, rfl, (vint _).cells, rfl⟩ hC18 fun p3 w23 hw5 hb23 hl23 hC23 => ?_)
          have ho62 := ho47.no hb23
          have ho63 := ho48.no hb23
          have ho64 := ho49.no hb23
          refine lw_op rfl rfl rfl (ow_move rfl rfl ?_)
          replace h := bind_some h
          obtain ⟨x15, hx15, h⟩ := h
          refine lw_op rfl rfl rfl (ow_call rfl rfl Tryd.call111 (w_spec_l20Rd_pick (hG.mono ((((((((((((((((((hl1.trans hl2).trans hl3).trans hl4).trans hl5).trans hl6).trans hl7).trans hl8).trans hl9).trans hl10).trans hl11).trans hl12).trans hl13).trans hl14).trans hl15).trans hl16).trans hl17).trans hl18).trans hl23)) hC23.old (VRep.mono ((((((((((((((((((hl1.trans hl2).trans hl3).trans hl4).trans hl5).trans hl6).trans hl7).trans hl8).trans hl9).trans hl10).trans hl11).trans hl12).trans hl13).trans hl14).trans hl15).trans hl16).trans hl17).trans hl18).trans hl23) hxs) ho62 hm3 hx15) fun v15 w24 hv15 => ?_)
          obtain ⟨⟨hv15, ho65⟩, hb24⟩ := hv15
          have hl24 := Le.of_bx (Add g2 (Add g1 M)) hb24 (fun b e => (by rw [show b = g from e]; exact hm3))
          have hC24 := hC23.go hb24 (fun b e => Or.inr e)
          have ho66 := ho63.go hb24 (fun e => hn1 e.symm)
          have ho67 := ho64.go hb24 (fun e => hn2 e.symm)
          obtain rfl := vint_eq hv15
          replace h := bind_some h
          obtain ⟨x16, hx16, h⟩ := h
          refine lw_op rfl rfl rfl (ow_indexSlice (R := RInt) rfl rfl rfl (VRep.mono hl24 hw5) Tryd.underlying116 (Tryd.sizeOf3 _) hx16 fun p4 hp4 => ?_)
          refine lw_op rfl rfl rfl (ow_load (R := RInt) rfl rfl hp4 (Tryd.sizeOf3 _) (Tryd.isAgg3 _) fun v16 hv16 => ?_)
          obtain rfl := vint_eq hv16
          refine lw_op rfl rfl rfl (ow_fieldAddr rfl rfl Tryd.underlying39 rfl (Tryd.sizeOf3 _) ?_)
          refine lw_op0 rfl rfl (ow_store (X := (One g)) (us := [(.int .i64 x16)]) (cs' := #[(.int .i64 (W ((W (x6.1 * 256)) + x7.1))), (.int .i64 x16), (.int .i64 x10.1), (.int .i64 x4.1)]) rfl rfl rfl rfl ho67 (Tryd.sizeOf3 _) rfl rfl rfl rfl hm5 (.inl hg4) rfl hC24 fun w25 ho68 hb25 hl25 hC25 => ?_)
          have ho69 := ho65.go hb25 (fun e => hn2 e)
          have ho70 := ho66.go hb25 (fun e => hn3 e)
          refine lw_nil ?_
          refine ew_blockN ?_
          refine ew_then ?_
          refine cw_seq ?_
          refine cw_region ?_
          refine lw_op rfl rfl rfl (ow_loadOwnA rfl rfl rfl ho68 (Tryd.isAgg39 _) (Tryd.sizeOf39 _) rfl ?_)
          have hw6 : VRep RPacket w25 (Add g2 (Add g1 M)) ({ From := (W ((W (x6.1 * 256)) + x7.1)), To := x16, Port := x10.1, Proto := x4.1 } : Packet) (.agg #[(.int .i64 (W ((W (x6.1 * 256)) + x7.1))), (.int .i64 x16), (.int .i64 x10.1), (.int .i64 x4.1)]) := shut_Packet
          refine lw_op0 rfl rfl (ow_store (X := (One g)) (us := [(.int .i64 (W ((W (x6.1 * 256)) + x7.1))), (.int .i64 x16), (.int .i64 x10.1), (.int .i64 x4.1)]) (cs' := #[(.int .i64 (W ((W (x6.1 * 256)) + x7.1))), (.int .i64 x16), (.int .i64 x10.1), (.int .i64 x4.1)]) rfl rfl rfl rfl ho70 (Tryd.sizeOf39 _) rfl rfl rfl rfl hm4 (.inl hg2) rfl hC25 fun w26 ho71 hb26 hl26 hC26 => ?_)
          have ho72 := ho69.go hb26 (fun e => hn1 e)
          have ho73 := ho68.go hb26 (fun e => hn3 e.symm)
          refine lw_nil ?_
          refine ew_then ?_
          refine cw_ret ?_
          have hw7 : VRep RPacket w26 (Add g2 (Add g1 M)) ({ From := (W ((W (x6.1 * 256)) + x7.1)), To := x16, Port := x10.1, Proto := x4.1 } : Packet) (.agg #[(.int .i64 (W ((W (x6.1 * 256)) + x7.1))), (.int .i64 x16), (.int .i64 x10.1), (.int .i64 x4.1)]) := shut_Packet
          obtain rfl := Option.some.inj h
          exact ew_ret (res1 rfl (.cell rfl (own_loadVarA ho71 (Tryd.isAgg39 _) (Tryd.sizeOf39 _) rfl))) ⟨_, rfl, ⟨(hw7.mono hC26.back), ho72⟩, hC26.bx⟩
        · obtain rfl := hbb4.trans hc4
          refine cw_false rfl ?_
          refine cw_seq ?_
          refine cw_region ?_
          refine lw_op rfl rfl rfl (ow_eqlI rfl rfl rfl fun bb5 hbb5 => ?_)
          refine lw_op rfl rfl rfl (ow_assign rfl rfl ?_)
          refine lw_nil ?_
          refine ew_then ?_
          replace h := cond_some h
          rcases h with ⟨hc5, h⟩ | ⟨hc5, h⟩
          · obtain rfl := hbb5.trans hc5
            refine cw_true rfl ?_
            refine cw_region ?_
            refine lw_op rfl rfl rfl (ow_buildSlice (R := RInt) (xs := [(-1), 256]) (cs := #[(.int .i64 (-1)), (.int .i64 256)]) (e := 3) rfl rfl (by kernel_rfl) rfl rfl ⟨_, _, rfl, (vint _).cells, _, _, rfl, (vint _).cells, rfl⟩ hC18 fun p5 w27 hw8 hb27 hl27 hC27 => ?_)
            have ho74 := ho47.no hb27
            have ho75 := ho48.no hb27
            have ho76 := ho49.no hb27
            refine lw_op rfl rfl rfl (ow_move rfl rfl ?_)
            replace h := bind_some h
            obtain ⟨x17, hx17, h⟩ := h
            refine lw_op rfl rfl rfl (ow_call rfl rfl Tryd.call111 (w_spec_l20Rd_pick (hG.mono ((((((((((((((((((hl1.trans hl2).trans hl3).trans hl4).trans hl5).trans hl6).trans hl7).trans hl8).trans hl9).trans hl10).trans hl11).trans hl12).trans hl13).trans hl14).trans hl15).trans hl16).trans hl17).trans hl18).trans hl27)) hC27.old (VRep.mono ((((((((((((((((((hl1.trans hl2).trans hl3).trans hl4).trans hl5).trans hl6).trans hl7).trans hl8).trans hl9).trans hl10).trans hl11).trans hl12).trans hl13).trans hl14).trans hl15).trans hl16).trans hl17).trans hl18).trans hl27) hxs) ho74 hm3 hx17) fun v17 w28 hv17 => ?_)
            obtain ⟨⟨hv17, ho77⟩, hb28⟩ := hv17
            have hl28 := Le.of_bx (Add g2 (Add g1 M)) hb28 (fun b e => (by rw [show b = g from e]; exact hm3))
            have hC28 := hC27.go hb28 (fun b e => Or.inr e)
            have ho78 := ho75.go hb28 (fun e => hn1 e.symm)
            have ho79 := ho76.go hb28 (fun e => hn2 e.symm)
            obtain rfl := vint_eq hv17
            replace h := bind_some h
            obtain ⟨x18, hx18, h⟩ := h
            refine lw_op rfl rfl rfl (ow_indexSlice (R := RInt) rfl rfl rfl (VRep.mono hl28 hw8) Tryd.underlying116 (Tryd.sizeOf3 _) hx18 fun p6 hp6 => ?_)
            refine lw_op rfl rfl rfl (ow_load (R := RInt) rfl rfl hp6 (Tryd.sizeOf3 _) (Tryd.isAgg3 _) fun v18 hv18 => ?_)
            obtain rfl := vint_eq hv18
            refine lw_op rfl rfl rfl (ow_fieldAddr rfl rfl Tryd.underlying39 rfl (Tryd.sizeOf3 _) ?_)
            refine lw_op0 rfl rfl (ow_store (X := (One g)) (us := [(.int .i64 x18)]) (cs' := #[(.int .i64 (W ((W (x6.1 * 256)) + x7.1))), (.int .i64 (W ((W (x8.1 * 16384)) + x9.1))), (.int .i64 x18), (.int .i64 x4.1)]) rfl rfl rfl rfl ho79 (Tryd.sizeOf3 _) rfl rfl rfl rfl hm5 (.inl hg4) rfl hC28 fun w29 ho80 hb29 hl29 hC29 => ?_)
            have ho81 := ho77.go hb29 (fun e => hn2 e)
            have ho82 := ho78.go hb29 (fun e => hn3 e)
            refine lw_nil ?_
            refine ew_blockN ?_
            refine ew_then ?_
            refine cw_seq ?_
            refine cw_region ?_
            refine lw_op rfl rfl rfl (ow_loadOwnA rfl rfl rfl ho80 (Tryd.isAgg39 _) (Tryd.sizeOf39 _) rfl ?_)
            have hw9 : VRep RPacket w29 (Add g2 (Add g1 M)) ({ From := (W ((W (x6.1 * 256)) + x7.1)), To := (W ((W (x8.1 * 16384)) + x9.1)), Port := x18, Proto := x4.1 } : Packet) (.agg #[(.int .i64 (W ((W (x6.1 * 256)) + x7.1))), (.int .i64 (W ((W (x8.1 * 16384)) + x9.1))), (.int .i64 x18), (.int .i64 x4.1)]) := shut_Packet
            refine lw_op0 rfl rfl (ow_store (X := (One g)) (us := [(.int .i64 (W ((W (x6.1 * 256)) + x7.1))), (.int .i64 (W ((W (x8.1 * 16384)) + x9.1))), (.int .i64 x18), (.int .i64 x4.1)]) (cs' := #[(.int .i64 (W ((W (x6.1 * 256)) + x7.1))), (.int .i64 (W ((W (x8.1 * 16384)) + x9.1))), (.int .i64 x18), (.int .i64 x4.1)]) rfl rfl rfl rfl ho82 (Tryd.sizeOf39 _) rfl rfl rfl rfl hm4 (.inl hg2) rfl hC29 fun w30 ho83 hb30 hl30 hC30 => ?_)
            have ho84 := ho81.go hb30 (fun e => hn1 e)
            have ho85 := ho80.go hb30 (fun e => hn3 e.symm)
            refine lw_nil ?_
            refine ew_then ?_
            refine cw_ret ?_
            have hw10 : VRep RPacket w30 (Add g2 (Add g1 M)) ({ From := (W ((W (x6.1 * 256)) + x7.1)), To := (W ((W (x8.1 * 16384)) + x9.1)), Port := x18, Proto := x4.1 } : Packet) (.agg #[(.int .i64 (W ((W (x6.1 * 256)) + x7.1))), (.int .i64 (W ((W (x8.1 * 16384)) + x9.1))), (.int .i64 x18), (.int .i64 x4.1)]) := shut_Packet
            obtain rfl := Option.some.inj h
            exact ew_ret (res1 rfl (.cell rfl (own_loadVarA ho83 (Tryd.isAgg39 _) (Tryd.sizeOf39 _) rfl))) ⟨_, rfl, ⟨(hw10.mono hC30.back), ho84⟩, hC30.bx⟩
          · obtain rfl := hbb5.trans hc5
            refine cw_false rfl ?_
            refine cw_region ?_
            refine lw_op rfl rfl rfl (ow_buildSlice (R := RInt) (xs := [(-1), 8]) (cs := #[(.int .i64 (-1)), (.int .i64 8)]) (e := 3) rfl rfl (by kernel_rfl) rfl rfl ⟨_, _, rfl, (vint _).cells, _, _, rfl, (vint _).cells, rfl⟩ hC18 fun p7 w31 hw11 hb31 hl31 hC31 => ?_)
            have ho86 := ho47.no hb31
            have ho87 := ho48.no hb31
            have ho88 := ho49.no hb31
            refine lw_op rfl rfl rfl (ow_move rfl rfl ?_)
            replace h := bind_some h
            obtain ⟨x19, hx19, h⟩ := h
            refine lw_op rfl rfl rfl (ow_call rfl rfl Tryd.call111 (w_spec_l20Rd_pick (hG.mono ((((((((((((((((((hl1.trans hl2).trans hl3).trans hl4).trans hl5).trans hl6).trans hl7).trans hl8).trans hl9).trans hl10).trans hl11).trans hl12).trans hl13).trans hl14).trans hl15).trans hl16).trans hl17).trans hl18).trans hl31)) hC31.old (VRep.mono ((((((((((((((((((hl1.trans hl2).trans hl3).trans hl4).trans hl5).trans hl6).trans hl7).trans hl8).trans hl9).trans hl10).trans hl11).trans hl12).trans hl13).trans hl14).trans hl15).trans hl16).trans hl17).trans hl18).trans hl31) hxs) ho86 hm3 hx19) fun v19 w32 hv19 => ?_)
            obtain ⟨⟨hv19, ho89⟩, hb32⟩ := hv19
            have hl32 := Le.of_bx (Add g2 (Add g1 M)) hb32 (fun b e => (by rw [show b = g from e]; exact hm3))
            have hC32 := hC31.go hb32 (fun b e => Or.inr e)
            have ho90 := ho87.go hb32 (fun e => hn1 e.symm)
            have ho91 := ho88.go hb32 (fun e => hn2 e.symm)
            obtain rfl := vint_eq hv19
            replace h := bind_some h
            obtain ⟨x20, hx20, h⟩ := h
            refine lw_op rfl rfl rfl (ow_indexSlice (R := RInt) rfl rfl rfl (VRep.mono hl32 hw11) Tryd.underlying116 (Tryd.sizeOf3 _) hx20 fun p8 hp8 => ?_)
            refine lw_op rfl rfl rfl (ow_load (R := RInt) rfl rfl hp8 (Tryd.sizeOf3 _) (Tryd.isAgg3 _) fun v20 hv20 => ?_)
            obtain rfl := vint_eq hv20
            refine lw_op rfl rfl rfl (ow_fieldAddr rfl rfl Tryd.underlying39 rfl (Tryd.sizeOf3 _) ?_)
            refine lw_op0 rfl rfl (ow_store (X := (One g)) (us := [(.int .i64 x20)]) (cs' := #[(.int .i64 (W ((W (x6.1 * 256)) + x7.1))), (.int .i64 (W ((W (x8.1 * 16384)) + x9.1))), (.int .i64 x10.1), (.int .i64 x20)]) rfl rfl rfl rfl ho91 (Tryd.sizeOf3 _) rfl rfl rfl rfl hm5 (.inl hg4) rfl hC32 fun w33 ho92 hb33 hl33 hC33 => ?_)
            have ho93 := ho89.go hb33 (fun e => hn2 e)
            have ho94 := ho90.go hb33 (fun e => hn3 e)
            refine lw_nil ?_
            refine ew_blockN ?_
            refine ew_then ?_
            refine cw_seq ?_
            refine cw_region ?_
            refine lw_op rfl rfl rfl (ow_loadOwnA rfl rfl rfl ho92 (Tryd.isAgg39 _) (Tryd.sizeOf39 _) rfl ?_)
            have hw12 : VRep RPacket w33 (Add g2 (Add g1 M)) ({ From := (W ((W (x6.1 * 256)) + x7.1)), To := (W ((W (x8.1 * 16384)) + x9.1)), Port := x10.1, Proto := x20 } : Packet) (.agg #[(.int .i64 (W ((W (x6.1 * 256)) + x7.1))), (.int .i64 (W ((W (x8.1 * 16384)) + x9.1))), (.int .i64 x10.1), (.int .i64 x20)]) := shut_Packet
            refine lw_op0 rfl rfl (ow_store (X := (One g)) (us := [(.int .i64 (W ((W (x6.1 * 256)) + x7.1))), (.int .i64 (W ((W (x8.1 * 16384)) + x9.1))), (.int .i64 x10.1), (.int .i64 x20)]) (cs' := #[(.int .i64 (W ((W (x6.1 * 256)) + x7.1))), (.int .i64 (W ((W (x8.1 * 16384)) + x9.1))), (.int .i64 x10.1), (.int .i64 x20)]) rfl rfl rfl rfl ho94 (Tryd.sizeOf39 _) rfl rfl rfl rfl hm4 (.inl hg2) rfl hC33 fun w34 ho95 hb34 hl34 hC34 => ?_)
            have ho96 := ho93.go hb34 (fun e => hn1 e)
            have ho97 := ho92.go hb34 (fun e => hn3 e.symm)
            refine lw_nil ?_
            refine ew_then ?_
            refine cw_ret ?_
            have hw13 : VRep RPacket w34 (Add g2 (Add g1 M)) ({ From := (W ((W (x6.1 * 256)) + x7.1)), To := (W ((W (x8.1 * 16384)) + x9.1)), Port := x10.1, Proto := x20 } : Packet) (.agg #[(.int .i64 (W ((W (x6.1 * 256)) + x7.1))), (.int .i64 (W ((W (x8.1 * 16384)) + x9.1))), (.int .i64 x10.1), (.int .i64 x20)]) := shut_Packet
            obtain rfl := Option.some.inj h
            exact ew_ret (res1 rfl (.cell rfl (own_loadVarA ho95 (Tryd.isAgg39 _) (Tryd.sizeOf39 _) rfl))) ⟨_, rfl, ⟨(hw13.mono hC34.back), ho96⟩, hC34.bx⟩
    · obtain rfl := hbb2.trans hc2
      refine cw_false rfl ?_
      refine cw_skip ?_
      refine ew_then ?_
      refine cw_seq ?_
      refine cw_region ?_
      refine lw_op rfl rfl rfl (ow_loadOwnA rfl rfl rfl ho46 (Tryd.isAgg39 _) (Tryd.sizeOf39 _) rfl ?_)
      have hw14 : VRep RPacket w17 (Add g2 (Add g1 M)) ({ From := (W ((W (x6.1 * 256)) + x7.1)), To := (W ((W (x8.1 * 16384)) + x9.1)), Port := x10.1, Proto := x4.1 } : Packet) (.agg #[(.int .i64 (W ((W (x6.1 * 256)) + x7.1))), (.int .i64 (W ((W (x8.1 * 16384)) + x9.1))), (.int .i64 x10.1), (.int .i64 x4.1)]) := shut_Packet
      refine lw_op0 rfl rfl (ow_store (X := (One g)) (us := [(.int .i64 (W ((W (x6.1 * 256)) + x7.1))), (.int .i64 (W ((W (x8.1 * 16384)) + x9.1))), (.int .i64 x10.1), (.int .i64 x4.1)]) (cs' := #[(.int .i64 (W ((W (x6.1 * 256)) + x7.1))), (.int .i64 (W ((W (x8.1 * 16384)) + x9.1))), (.int .i64 x10.1), (.int .i64 x4.1)]) rfl rfl rfl rfl ho45 (Tryd.sizeOf39 _) rfl rfl rfl rfl hm4 (.inl hg2) rfl hC17 fun w35 ho98 hb35 hl35 hC35 => ?_)
      have ho99 := ho44.go hb35 (fun e => hn1 e)
      have ho100 := ho46.go hb35 (fun e => hn3 e.symm)
      refine lw_nil ?_
      refine ew_then ?_
      refine cw_ret ?_
      have hw15 : VRep RPacket w35 (Add g2 (Add g1 M)) ({ From := (W ((W (x6.1 * 256)) + x7.1)), To := (W ((W (x8.1 * 16384)) + x9.1)), Port := x10.1, Proto := x4.1 } : Packet) (.agg #[(.int .i64 (W ((W (x6.1 * 256)) + x7.1))), (.int .i64 (W ((W (x8.1 * 16384)) + x9.1))), (.int .i64 x10.1), (.int .i64 x4.1)]) := shut_Packet
      obtain rfl := Option.some.inj h
      exact ew_ret (res1 rfl (.cell rfl (own_loadVarA ho98 (Tryd.isAgg39 _) (Tryd.sizeOf39 _) rfl))) ⟨_, rfl, ⟨(hw15.mono hC35.back), ho99⟩, hC35.bx⟩
  · obtain rfl := hbb1.trans hc1
    refine cw_false rfl ?_
    refine cw_skip ?_
    refine ew_then ?_
    refine cw_seq ?_
    refine cw_seq ?_
    refine cw_region ?_
    refine lw_op rfl rfl rfl (ow_move rfl rfl ?_)
    refine lw_op rfl rfl rfl (ow_move rfl rfl ?_)
    replace h := bind_some h
    obtain ⟨x21, hx21, h⟩ := h
    refine lw_op rfl rfl rfl (ow_call rfl rfl Tryd.call136 (w_spec_l20Rd_odd (hG.mono (((((((hl1.trans hl2).trans hl3).trans hl4).trans hl5).trans hl6).trans hl7).trans hl8)) hC8.old (VRep.mono (((((((hl1.trans hl2).trans hl3).trans hl4).trans hl5).trans hl6).trans hl7).trans hl8) hxs) ho17 hm3 hx21) fun v21 w36 hv21 => ?_)
    obtain ⟨⟨hv21, ho101⟩, hb36⟩ := hv21
    have hl36 := Le.of_bx (Add g2 (Add g1 M)) hb36 (fun b e => (by rw [show b = g from e]; exact hm3))
    have hC36 := hC8.go hb36 (fun b e => Or.inr e)
    have ho102 := ho18.go hb36 (fun e => hn1 e.symm)
    have ho103 := ho19.go hb36 (fun e => hn2 e.symm)
    obtain ⟨bb6, hbb6, rfl⟩ := vbool_ex hv21
    refine lw_nil ?_
    refine ew_then ?_
    replace h := cond_some h
    rcases h with ⟨hc6, h⟩ | ⟨hc6, h⟩
    · obtain rfl := hbb6.trans hc6
      refine cw_true rfl ?_
      refine cw_seq ?_
      refine cw_region ?_
      refine lw_op rfl rfl rfl (ow_move rfl rfl ?_)
      replace h := bind_some h
      obtain ⟨x22, hx22, h⟩ := h
      refine lw_op rfl rfl rfl (ow_call rfl rfl Tryd.call111 (w_spec_l20Rd_pick (hG.mono ((((((((hl1.trans hl2).trans hl3).trans hl4).trans hl5).trans hl6).trans hl7).trans hl8).trans hl36)) hC36.old (VRep.mono ((((((((hl1.trans hl2).trans hl3).trans hl4).trans hl5).trans hl6).trans hl7).trans hl8).trans hl36) hxs) ho101 hm3 hx22) fun v22 w37 hv22 => ?_)
      obtain ⟨⟨hv22, ho104⟩, hb37⟩ := hv22
      have hl37 := Le.of_bx (Add g2 (Add g1 M)) hb37 (fun b e => (by rw [show b = g from e]; exact hm3))
      have hC37 := hC36.go hb37 (fun b e => Or.inr e)
      have ho105 := ho102.go hb37 (fun e => hn1 e.symm)
      have ho106 := ho103.go hb37 (fun e => hn2 e.symm)
      obtain rfl := vint_eq hv22
      refine lw_nil ?_
      refine ew_then ?_
      refine cw_block ?_
      refine cw_seq ?_
      refine cw_region ?_
      refine lw_op rfl rfl rfl (ow_eqlI rfl rfl rfl fun bb7 hbb7 => ?_)
      refine lw_op rfl rfl rfl (ow_assign rfl rfl ?_)
      refine lw_nil ?_
      refine ew_then ?_
      replace h := cond_some h
      rcases h with ⟨hc7, h⟩ | ⟨hc7, h⟩
      · obtain rfl := hbb7.trans hc7
        refine cw_true rfl ?_
        refine cw_region ?_
        refine lw_op rfl rfl rfl (ow_buildSlice (R := RInt) (xs := [(-1), 65536]) (cs := #[(.int .i64 (-1)), (.int .i64 65536)]) (e := 3) rfl rfl (by kernel_rfl) rfl rfl ⟨_, _, rfl, (vint _).cells, _, _, rfl, (vint _).cells, rfl⟩ hC37 fun p9 w38 hw16 hb38 hl38 hC38 => ?_)
        have ho107 := ho104.no hb38
        have ho108 := ho105.no hb38
        have ho109 := ho106.no hb38
        refine lw_op rfl rfl rfl (ow_move rfl rfl ?_)
        replace h := bind_some h
        obtain ⟨x23, hx23, h⟩ := h
        refine lw_op rfl rfl rfl (ow_call rfl rfl Tryd.call111 (w_spec_l20Rd_pick (hG.mono ((((((((((hl1.trans hl2).trans hl3).trans hl4).trans hl5).trans hl6).trans hl7).trans hl8).trans hl36).trans hl37).trans hl38)) hC38.old (VRep.mono ((((((((((hl1.trans hl2).trans hl3).trans hl4).trans hl5).trans hl6).trans hl7).trans hl8).trans hl36).trans hl37).trans hl38) hxs) ho107 hm3 hx23) fun v23 w39 hv23 => ?_)
        obtain ⟨⟨hv23, ho110⟩, hb39⟩ := hv23
        have hl39 := Le.of_bx (Add g2 (Add g1 M)) hb39 (fun b e => (by rw [show b = g from e]; exact hm3))
        have hC39 := hC38.go hb39 (fun b e => Or.inr e)
        have ho111 := ho108.go hb39 (fun e => hn1 e.symm)
        have ho112 := ho109.go hb39 (fun e => hn2 e.symm)
        obtain rfl := vint_eq hv23
        replace h := bind_some h
        obtain ⟨x24, hx24, h⟩ := h
        refine lw_op rfl rfl rfl (ow_indexSlice (R := RInt) rfl rfl rfl (VRep.mono hl39 hw16) Tryd.underlying116 (Tryd.sizeOf3 _) hx24 fun p10 hp10 => ?_)
        refine lw_op rfl rfl rfl (ow_load (R := RInt) rfl rfl hp10 (Tryd.sizeOf3 _) (Tryd.isAgg3 _) fun v24 hv24 => ?_)
        obtain rfl := vint_eq hv24
        refine lw_op rfl rfl rfl (ow_fieldAddr rfl rfl Tryd.underlying39 rfl (Tryd.sizeOf3 _) ?_)
        refine lw_op0 rfl rfl (ow_store (X := (One g)) (us := [(.int .i64 x24)]) (cs' := #[(.int .i64 x24), (.int .i64 x2.1), (.int .i64 x3.1), (.int .i64 x4.1)]) rfl rfl rfl rfl ho112 (Tryd.sizeOf3 _) rfl rfl rfl rfl hm5 (.inl hg4) rfl hC39 fun w40 ho113 hb40 hl40 hC40 => ?_)
        have ho114 := ho110.go hb40 (fun e => hn2 e)
        have ho115 := ho111.go hb40 (fun e => hn3 e)
        refine lw_nil ?_
        refine ew_blockN ?_
        refine ew_then ?_
        refine cw_seq ?_
        refine cw_region ?_
        refine lw_op rfl rfl rfl (ow_loadOwnA rfl rfl rfl ho113 (Tryd.isAgg39 _) (Tryd.sizeOf39 _) rfl ?_)
        have hw17 : VRep RPacket w40 (Add g2 (Add g1 M)) ({ From := x24, To := x2.1, Port := x3.1, Proto := x4.1 } : Packet) (.agg #[(.int .i64 x24), (.int .i64 x2.1), (.int .i64 x3.1), (.int .i64 x4.1)]) := shut_Packet
        refine lw_op0 rfl rfl (ow_store (X := (One g)) (us := [(.int .i64 x24), (.int .i64 x2.1), (.int .i64 x3.1), (.int .i64 x4.1)]) (cs' := #[(.int .i64 x24), (.int .i64 x2.1), (.int .i64 x3.1), (.int .i64 x4.1)]) rfl rfl rfl rfl ho115 (Tryd.sizeOf39 _) rfl rfl rfl rfl hm4 (.inl hg2) rfl hC40 fun w41 ho116 hb41 hl41 hC41 => ?_)
        have ho117 := ho114.go hb41 (fun e => hn1 e)
        have ho118 := ho113.go hb41 (fun e => hn3 e.symm)
        refine lw_nil ?_
        refine ew_then ?_
        refine cw_ret ?_
        have hw18 : VRep RPacket w41 (Add g2 (Add g1 M)) ({ From := x24, To := x2.1, Port := x3.1, Proto := x4.1 } : Packet) (.agg #[(.int .i64 x24), (.int .i64 x2.1), (.int .i64 x3.1), (.int .i64 x4.1)]) := shut_Packet
        obtain rfl := Option.some.inj h
        exact ew_ret (res1 rfl (.cell rfl (own_loadVarA ho116 (Tryd.isAgg39 _) (Tryd.sizeOf39 _) rfl))) ⟨_, rfl, ⟨(hw18.mono hC41.back), ho117⟩, hC41.bx⟩
      · obtain rfl := hbb7.trans hc7
        refine cw_false rfl ?_
        refine cw_seq ?_
        refine cw_region ?_
        refine lw_op rfl rfl rfl (ow_eqlI rfl rfl rfl fun bb8 hbb8 => ?_)
        refine lw_op rfl rfl rfl (ow_assign rfl rfl ?_)
        refine lw_nil ?_
        refine ew_then ?_
        replace h := cond_some h
        rcases h with ⟨hc8, h⟩ | ⟨hc8, h⟩
        · obtain rfl := hbb8.trans hc8
          refine cw_true rfl ?_
          refine cw_region ?_
          refine lw_op rfl rfl rfl (ow_buildSlice (R := RInt) (xs := [(-1), 65536]) (cs := #[(.int .i64 (-1)), (.int .i64 65536)]) (e := 3) rfl rfl (by kernel_rfl) rfl rfl ⟨_, _, rfl, (vint _).cells, _, _, rfl, (vint _).cells, rfl⟩ hC37 fun p11 w42 hw19 hb42 hl42 hC42 => ?_)
          have ho119 := ho104.no hb42
          have ho120 := ho105.no hb42
          have ho121 := ho106.no hb42
          refine lw_op rfl rfl rfl (ow_move rfl rfl ?_)
          replace h := bind_some h
          obtain ⟨x25, hx25, h⟩ := h
          refine lw_op rfl rfl rfl (ow_call rfl rfl Tryd.call111 (w_spec_l20Rd_pick (hG.mono ((((((((((hl1.trans hl2).trans hl3).trans hl4).trans hl5).trans hl6).trans hl7).trans hl8).trans hl36).trans hl37).trans hl42)) hC42.old (VRep.mono ((((((((((hl1.trans hl2).trans hl3).trans hl4).trans hl5).trans hl6).trans hl7).trans hl8).trans hl36).trans hl37).trans hl42) hxs) ho119 hm3 hx25) fun v25 w43 hv25 => ?_)
          obtain ⟨⟨hv25, ho122⟩, hb43⟩ := hv25
          have hl43 := Le.of_bx (Add g2 (Add g1 M)) hb43 (fun b e => (by rw [show b = g from e]; exact hm3))
          have hC43 := hC42.go hb43 (fun b e => Or.inr e)
          have ho123 := ho120.go hb43 (fun e => hn1 e.symm)
          have ho124 := ho121.go hb43 (fun e => hn2 e.symm)
          obtain rfl := vint_eq hv25
          replace h := bind_some h
          obtain ⟨x26, hx26, h⟩ := h
          refine lw_op rfl rfl rfl (ow_indexSlice (R := RInt) rfl rfl rfl (VRep.mono hl43 hw19) Tryd.underlying116 (Tryd.sizeOf3 _) hx26 fun p12 hp12 => ?_)
          refine lw_op rfl rfl rfl (ow_load (R := RInt) rfl rfl hp12 (Tryd.sizeOf3 _) (Tryd.isAgg3 _) fun v26 hv26 => ?_)
          obtain rfl := vint_eq hv26
          refine lw_op rfl rfl rfl (ow_fieldAddr rfl rfl Tryd.underlying39 rfl (Tryd.sizeOf3 _) ?_)
          refine lw_op0 rfl rfl (ow_store (X := (One g)) (us := [(.int .i64 x26)]) (cs' := #[(.int .i64 x1.1), (.int .i64 x26), (.int .i64 x3.1), (.int .i64 x4.1)]) rfl rfl rfl rfl ho124 (Tryd.sizeOf3 _) rfl rfl rfl rfl hm5 (.inl hg4) rfl hC43 fun w44 ho125 hb44 hl44 hC44 => ?_)
          have ho126 := ho122.go hb44 (fun e => hn2 e)
          have ho127 := ho123.go hb44 (fun e => hn3 e)
          refine lw_nil ?_
          refine ew_blockN ?_
          refine ew_then ?_
          refine cw_seq ?_
          refine cw_region ?_
          refine lw_op rfl rfl rfl (ow_loadOwnA rfl rfl rfl ho125 (Tryd.isAgg39 _) (Tryd.sizeOf39 _) rfl ?_)
          have hw20 : VRep RPacket w44 (Add g2 (Add g1 M)) ({ From := x1.1, To := x26, Port := x3.1, Proto := x4.1 } : Packet) (.agg #[(.int .i64 x1.1), (.int .i64 x26), (.int .i64 x3.1), (.int .i64 x4.1)]) := shut_Packet
          refine lw_op0 rfl rfl (ow_store (X := (One g)) (us := [(.int .i64 x1.1), (.int .i64 x26), (.int .i64 x3.1), (.int .i64 x4.1)]) (cs' := #[(.int .i64 x1.1), (.int .i64 x26), (.int .i64 x3.1), (.int .i64 x4.1)]) rfl rfl rfl rfl ho127 (Tryd.sizeOf39 _) rfl rfl rfl rfl hm4 (.inl hg2) rfl hC44 fun w45 ho128 hb45 hl45 hC45 => ?_)
          have ho129 := ho126.go hb45 (fun e => hn1 e)
          have ho130 := ho125.go hb45 (fun e => hn3 e.symm)
          refine lw_nil ?_
          refine ew_then ?_
          refine cw_ret ?_
          have hw21 : VRep RPacket w45 (Add g2 (Add g1 M)) ({ From := x1.1, To := x26, Port := x3.1, Proto := x4.1 } : Packet) (.agg #[(.int .i64 x1.1), (.int .i64 x26), (.int .i64 x3.1), (.int .i64 x4.1)]) := shut_Packet
          obtain rfl := Option.some.inj h
          exact ew_ret (res1 rfl (.cell rfl (own_loadVarA ho128 (Tryd.isAgg39 _) (Tryd.sizeOf39 _) rfl))) ⟨_, rfl, ⟨(hw21.mono hC45.back), ho129⟩, hC45.bx⟩
        · obtain rfl := hbb8.trans hc8
          refine cw_false rfl ?_
          refine cw_seq ?_
          refine cw_region ?_
          refine lw_op rfl rfl rfl (ow_eqlI rfl rfl rfl fun bb9 hbb9 => ?_)
          refine lw_op rfl rfl rfl (ow_assign rfl rfl ?_)
          refine lw_nil ?_
          refine ew_then ?_
          replace h := cond_some h
          rcases h with ⟨hc9, h⟩ | ⟨hc9, h⟩
          · obtain rfl := hbb9.trans hc9
            refine cw_true rfl ?_
            refine cw_region ?_
            refine lw_op rfl rfl rfl (ow_buildSlice (R := RInt) (xs := [(-1), 256]) (cs := #[(.int .i64 (-1)), (.int .i64 256)]) (e := 3) rfl rfl (by kernel_rfl) rfl rfl ⟨_, _, rfl, (vint _).cells, _, _, rfl, (vint _).cells, rfl⟩ hC37 fun p13 w46 hw22 hb46 hl46 hC46 => ?_)
            have ho131 := ho104.no hb46
            have ho132 := ho105.no hb46
            have ho133 := ho106.no hb46
            refine lw_op rfl rfl rfl (ow_move rfl rfl ?_)
            replace h := bind_some h
            obtain ⟨x27, hx27, h⟩ := h
            refine lw_op rfl rfl rfl (ow_call rfl rfl Tryd.call111 (w_spec_l20Rd_pick (hG.mono ((((((((((hl1.trans hl2).trans hl3).trans hl4).trans hl5).trans hl6).trans hl7).trans hl8).trans hl36).trans hl37).trans hl46)) hC46.old (VRep.mono ((((((((((hl1.trans hl2).trans hl3).trans hl4).trans hl5).trans hl6).trans hl7).trans hl8).trans hl36).trans hl37).trans hl46) hxs) ho131 hm3 hx27) fun v27 w47 hv27 => ?_)
            obtain ⟨⟨hv27, ho134⟩, hb47⟩ := hv27
            have hl47 := Le.of_bx (Add g2 (Add g1 M)) hb47 (fun b e => (by rw [show b = g from e]; exact hm3))
            have hC47 := hC46.go hb47 (fun b e => Or.inr e)
            have ho135 := ho132.go hb47 (fun e => hn1 e.symm)
            have ho136 := ho133.go hb47 (fun e => hn2 e.symm)
            obtain rfl := vint_eq hv27
            replace h := bind_some h
            obtain ⟨x28, hx28, h⟩ := h
            refine lw_op rfl rfl rfl (ow_indexSlice (R := RInt) rfl rfl rfl (VRep.mono hl47 hw22) Tryd.underlying116 (Tryd.sizeOf3 _) hx28 fun p14 hp14 => ?_)
            refine lw_op rfl rfl rfl (ow_load (R := RInt) rfl rfl hp14 (Tryd.sizeOf3 _) (Tryd.isAgg3 _) fun v28 hv28 => ?_)
            obtain rfl := vint_eq hv28
            refine lw_op rfl rfl rfl (ow_fieldAddr rfl rfl Tryd.underlying39 rfl (Tryd.sizeOf3 _) ?_)
            refine lw_op0 rfl rfl (ow_store (X := (One g)) (us := [(.int .i64 x28)]) (cs' := #[(.int .i64 x1.1), (.int .i64 x2.1), (.int .i64 x28), (.int .i64 x4.1)]) rfl rfl rfl rfl ho136 (Tryd.sizeOf3 _) rfl rfl rfl rfl hm5 (.inl hg4) rfl hC47 fun w48 ho137 hb48 hl48 hC48 => ?_)
            have ho138 := ho134.go hb48 (fun e => hn2 e)
            have ho139 := ho135.go hb48 (fun e => hn3 e)
            refine lw_nil ?_
            refine ew_blockN ?_
            refine ew_then ?_
            refine cw_seq ?_
            refine cw_region ?_
            refine lw_op rfl rfl rfl (ow_loadOwnA rfl rfl rfl ho137 (Tryd.isAgg39 _) (Tryd.sizeOf39 _) rfl ?_)
            have hw23 : VRep RPacket w48 (Add g2 (Add g1 M)) ({ From := x1.1, To := x2.1, Port := x28, Proto := x4.1 } : Packet) (.agg #[(.int .i64 x1.1), (.int .i64 x2.1), (.int .i64 x28), (.int .i64 x4.1)]) := shut_Packet
            refine lw_op0 rfl rfl (ow_store (X := (One g)) (us := [(.int .i64 x1.1), (.int .i64 x2.1), (.int .i64 x28), (.int .i64 x4.1)]) (cs' := #[(.int .i64 x1.1), (.int .i64 x2.1), (.int .i64 x28), (.int .i64 x4.1)]) rfl rfl rfl rfl ho139 (Tryd.sizeOf39 _) rfl rfl rfl rfl hm4 (.inl hg2) rfl hC48 fun w49 ho140 hb49 hl49 hC49 => ?_)
            have ho141 := ho138.go hb49 (fun e => hn1 e)
            have ho142 := ho137.go hb49 (fun e => hn3 e.symm)
            refine lw_nil ?_
            refine ew_then ?_
            refine cw_ret ?_
            have hw24 : VRep RPacket w49 (Add g2 (Add g1 M)) ({ From := x1.1, To := x2.1, Port := x28, Proto := x4.1 } : Packet) (.agg #[(.int .i64 x1.1), (.int .i64 x2.1), (.int .i64 x28), (.int .i64 x4.1)]) := shut_Packet
            obtain rfl := Option.some.inj h
            exact ew_ret (res1 rfl (.cell rfl (own_loadVarA ho140 (Tryd.isAgg39 _) (Tryd.sizeOf39 _) rfl))) ⟨_, rfl, ⟨(hw24.mono hC49.back), ho141⟩, hC49.bx⟩
          · obtain rfl := hbb9.trans hc9
            refine cw_false rfl ?_
            refine cw_region ?_
            refine lw_op rfl rfl rfl (ow_buildSlice (R := RInt) (xs := [(-1), 8]) (cs := #[(.int .i64 (-1)), (.int .i64 8)]) (e := 3) rfl rfl (by kernel_rfl) rfl rfl ⟨_, _, rfl, (vint _).cells, _, _, rfl, (vint _).cells, rfl⟩ hC37 fun p15 w50 hw25 hb50 hl50 hC50 => ?_)
            have ho143 := ho104.no hb50
            have ho144 := ho105.no hb50
            have ho145 := ho106.no hb50
            refine lw_op rfl rfl rfl (ow_move rfl rfl ?_)
            replace h := bind_some h
            obtain ⟨x29, hx29, h⟩ := h
            refine lw_op rfl rfl rfl (ow_call rfl rfl Tryd.call111 (w_spec_l20Rd_pick (hG.mono ((((((((((hl1.trans hl2).trans hl3).trans hl4).trans hl5).trans hl6).trans hl7).trans hl8).trans hl36).trans hl37).trans hl50)) hC50.old (VRep.mono ((((((((((hl1.trans hl2).trans hl3).trans hl4).trans hl5).trans hl6).trans hl7).trans hl8).trans hl36).trans hl37).trans hl50) hxs) ho143 hm3 hx29) fun v29 w51 hv29 => ?_)
            obtain ⟨⟨hv29, ho146⟩, hb51⟩ := hv29
            have hl51 := Le.of_bx (Add g2 (Add g1 M)) hb51 (fun b e => (by rw [show b = g from e]; exact hm3))
            have hC51 := hC50.go hb51 (fun b e => Or.inr e)
            have ho147 := ho144.go hb51 (fun e => hn1 e.symm)
            have ho148 := ho145.go hb51 (fun e => hn2 e.symm)
            obtain rfl := vint_eq hv29
            replace h := bind_some h
            obtain ⟨x30, hx30, h⟩ := h
            refine lw_op rfl rfl rfl (ow_indexSlice (R := RInt) rfl rfl rfl (VRep.mono hl51 hw25) Tryd.underlying116 (Tryd.sizeOf3 _) hx30 fun p16 hp16 => ?_)
            refine lw_op rfl rfl rfl (ow_load (R := RInt) rfl rfl hp16 (Tryd.sizeOf3 _) (Tryd.isAgg3 _) fun v30 hv30 => ?_)
            obtain rfl := vint_eq hv30
            refine lw_op rfl rfl rfl (ow_fieldAddr rfl rfl Tryd.underlying39 rfl (Tryd.sizeOf3 _) ?_)
            refine lw_op0 rfl rfl (ow_store (X := (One g)) (us := [(.int .i64 x30)]) (cs' := #[(.int .i64 x1.1), (.int .i64 x2.1), (.int .i64 x3.1), (.int .i64 x30)]) rfl rfl rfl rfl ho148 (Tryd.sizeOf3 _) rfl rfl rfl rfl hm5 (.inl hg4) rfl hC51 fun w52 ho149 hb52 hl52 hC52 => ?_)
            have ho150 := ho146.go hb52 (fun e => hn2 e)
            have ho151 := ho147.go hb52 (fun e => hn3 e)
            refine lw_nil ?_
            refine ew_blockN ?_
            refine ew_then ?_
            refine cw_seq ?_
            refine cw_region ?_
            refine lw_op rfl rfl rfl (ow_loadOwnA rfl rfl rfl ho149 (Tryd.isAgg39 _) (Tryd.sizeOf39 _) rfl ?_)
            have hw26 : VRep RPacket w52 (Add g2 (Add g1 M)) ({ From := x1.1, To := x2.1, Port := x3.1, Proto := x30 } : Packet) (.agg #[(.int .i64 x1.1), (.int .i64 x2.1), (.int .i64 x3.1), (.int .i64 x30)]) := shut_Packet
            refine lw_op0 rfl rfl (ow_store (X := (One g)) (us := [(.int .i64 x1.1), (.int .i64 x2.1), (.int .i64 x3.1), (.int .i64 x30)]) (cs' := #[(.int .i64 x1.1), (.int .i64 x2.1), (.int .i64 x3.1), (.int .i64 x30)]) rfl rfl rfl rfl ho151 (Tryd.sizeOf39 _) rfl rfl rfl rfl hm4 (.inl hg2) rfl hC52 fun w53 ho152 hb53 hl53 hC53 => ?_)
            have ho153 := ho150.go hb53 (fun e => hn1 e)
            have ho154 := ho149.go hb53 (fun e => hn3 e.symm)
            refine lw_nil ?_
            refine ew_then ?_
            refine cw_ret ?_
            have hw27 : VRep RPacket w53 (Add g2 (Add g1 M)) ({ From := x1.1, To := x2.1, Port := x3.1, Proto := x30 } : Packet) (.agg #[(.int .i64 x1.1), (.int .i64 x2.1), (.int .i64 x3.1), (.int .i64 x30)]) := shut_Packet
            obtain rfl := Option.some.inj h
            exact ew_ret (res1 rfl (.cell rfl (own_loadVarA ho152 (Tryd.isAgg39 _) (Tryd.sizeOf39 _) rfl))) ⟨_, rfl, ⟨(hw27.mono hC53.back), ho153⟩, hC53.bx⟩
    · obtain rfl := hbb6.trans hc6
      refine cw_false rfl ?_
      refine cw_skip ?_
      refine ew_then ?_
      refine cw_seq ?_
      refine cw_region ?_
      refine lw_op rfl rfl rfl (ow_loadOwnA rfl rfl rfl ho103 (Tryd.isAgg39 _) (Tryd.sizeOf39 _) rfl ?_)
      have hw28 : VRep RPacket w36 (Add g2 (Add g1 M)) ({ From := x1.1, To := x2.1, Port := x3.1, Proto := x4.1 } : Packet) (.agg #[(.int .i64 x1.1), (.int .i64 x2.1), (.int .i64 x3.1), (.int .i64 x4.1)]) := shut_Packet
      refine lw_op0 rfl rfl (ow_store (X := (One g)) (us := [(.int .i64 x1.1), (.int .i64 x2.1), (.int .i64 x3.1), (.int .i64 x4.1)]) (cs' := #[(.int .i64 x1.1), (.int .i64 x2.1), (.int .i64 x3.1), (.int .i64 x4.1)]) rfl rfl rfl rfl ho102 (Tryd.sizeOf39 _) rfl rfl rfl rfl hm4 (.inl hg2) rfl hC36 fun w54 ho155 hb54 hl54 hC54 => ?_)
      have ho156 := ho101.go hb54 (fun e => hn1 e)
      have ho157 := ho103.go hb54 (fun e => hn3 e.symm)
      refine lw_nil ?_
      refine ew_then ?_
      refine cw_ret ?_
      have hw29 : VRep RPacket w54 (Add g2 (Add g1 M)) ({ From := x1.1, To := x2.1, Port := x3.1, Proto := x4.1 } : Packet) (.agg #[(.int .i64 x1.1), (.int .i64 x2.1), (.int .i64 x3.1), (.int .i64 x4.1)]) := shut_Packet
      obtain rfl := Option.some.inj h
      exact ew_ret (res1 rfl (.cell rfl (own_loadVarA ho155 (Tryd.isAgg39 _) (Tryd.sizeOf39 _) rfl))) ⟨_, rfl, ⟨(hw29.mono hC54.back), ho156⟩, hC54.bx⟩

theorem w_spec_l1In {w : World} {M : Nat → Prop} (_hG : ARep (RArr 4 RShape) w M shapes ⟨0, 0, none⟩) (hO : ∀ b, M b → b < w.heap.size) {a_n : Int} {a_lo : Int} {a_hi : Int} {r : Bool} (h : F.spec_l1In a_n a_lo a_hi = some r) :
    Calls Tryd.prog 83 [(.int .i64 a_n), (.int .i64 a_lo), (.int .i64 a_hi)].toArray w fun e w' => ∃ v, e = .returned v ∧ VRep RBool w' M r v ∧ BX No w w' := by
  have hC : Cx No w M w M := Cx.start hO (fun _ e => e.elim)
  clear _hG
  refine walk (N := 15) Tryd.func83 rfl Tryd.ntmps83 rfl ?_
  refine cw_seq ?_
  refine cw_region ?_
  refine lw_op rfl rfl rfl (ow_assign rfl rfl ?_)
  refine lw_nil ?_
  refine ew_then ?_
  refine cw_seq ?_
  refine cw_region ?_
  refine lw_op rfl rfl rfl (ow_move rfl rfl ?_)
  refine lw_op rfl rfl rfl (ow_move rfl rfl ?_)
  refine lw_op rfl rfl rfl (ow_geq rfl rfl rfl fun bb1 hbb1 => ?_)
  refine lw_op rfl rfl rfl (ow_move rfl rfl ?_)
  replace h := cond_some h
  rcases h with ⟨hc1, h⟩ | ⟨hc1, h⟩
  · obtain rfl := hbb1.trans hc1
    refine lw_on rfl rfl rfl rfl rfl rfl (ow_move rfl rfl ?_)
    refine lw_on rfl rfl rfl rfl rfl rfl (ow_move rfl rfl ?_)
    refine lw_on rfl rfl rfl rfl rfl rfl (ow_leq rfl rfl rfl fun bb2 hbb2 => ?_)
    refine lw_op rfl rfl rfl (ow_pickT rfl rfl rfl ?_)
    refine lw_op rfl rfl rfl (ow_assign rfl rfl ?_)
    refine lw_nil ?_
    refine ew_then ?_
    refine cw_ret ?_
    obtain rfl := Option.some.inj h
    exact ew_ret (res1 rfl (.tmp rfl)) ⟨_, rfl, ((vbool_of hbb2)), hC.bx⟩
  · obtain rfl := hbb1.trans hc1
    refine lw_off rfl rfl rfl rfl rfl rfl ?_
    refine lw_off rfl rfl rfl rfl rfl rfl ?_
    refine lw_off rfl rfl rfl rfl rfl rfl ?_
    refine lw_op rfl rfl rfl (ow_pickF rfl rfl rfl ?_)
    refine lw_op rfl rfl rfl (ow_assign rfl rfl ?_)
    refine lw_nil ?_
    refine ew_then ?_
    refine cw_ret ?_
    obtain rfl := Option.some.inj h
    exact ew_ret (res1 rfl (.tmp rfl)) ⟨_, rfl, ((vbool _)), hC.bx⟩


end Go.PF
