/- The walks; no condition. -/
import Derived.Test.YtfoodjhnagclfaaDoorProg
import Derived.Test.YtfoodjhnagclfaaDoorWk0
import Derived.Test.YtfoodjhnagclfaaDoorPFChain
set_option maxRecDepth 100000
set_option maxHeartbeats 4000000
namespace Go.PF
open Go Go.RowKit Go.Proofs

theorem w_impl_BoxValid {w : World} {M : Nat → Prop} (hG : ARep (RArr 4 RShape) w M shapes ⟨0, 0, none⟩) (hO : ∀ b, M b → b < w.heap.size) {v0p : Value} {a_b : Box} (h0 : VRep RBox w M a_b v0p) {r : Bool} (h : F.impl_BoxValid a_b = some r) :
    Calls Tryd.prog 56 [v0p].toArray w fun e w' => ∃ v, e = .returned v ∧ VRep RBool w' M r v ∧ BX No w w' := by
  have hC : Cx No w M w M := Cx.start hO (fun _ e => e.elim)
  refine walk (N := 23) Tryd.func56 rfl Tryd.ntmps56 rfl ?_
  refine cw_seq ?_
  refine cw_region ?_
  refine lw_op rfl rfl rfl (ow_box (R := RBox) rfl rfl h0 hC fun p1 w1 hp1 hb1 hl1 hC1 => ?_)
  refine lw_op rfl rfl rfl (ow_assign rfl rfl ?_)
  refine lw_nil ?_
  refine ew_then ?_
  refine cw_seq ?_
  refine cw_seq ?_
  refine cw_region ?_
  refine lw_op rfl rfl rfl (ow_fieldAddr rfl rfl Tryd.underlying29 rfl (Tryd.sizeOf27 _) ?_)
  refine lw_op rfl rfl rfl (ow_load (R := (RSlice (RSlice RSpan))) rfl rfl (hp1.fld fld_Box_Sides) (Tryd.sizeOf27 _) (Tryd.isAgg27 _) fun v1 hv1 => ?_)
  refine lw_op rfl rfl rfl (ow_len rfl rfl hv1 Tryd.underlying27 rfl ?_)
  refine lw_op rfl rfl rfl (ow_neqI rfl rfl rfl fun bb1 hbb1 => ?_)
  refine lw_nil ?_
  refine ew_then ?_
  replace h := cond_some h
  rcases h with ⟨hc1, h⟩ | ⟨hc1, h⟩
  · obtain rfl := hbb1.trans hc1
    refine cw_true rfl ?_
    refine cw_seq ?_
    refine cw_region ?_
    refine lw_op rfl rfl rfl (ow_assign rfl rfl ?_)
    refine lw_nil ?_
    refine ew_then ?_
    refine cw_ret ?_
    refine ew_thenR ?_
    obtain rfl := Option.some.inj h
    exact ew_ret (res1 rfl (.tmp rfl)) ⟨_, rfl, ((vbool _)), hC1.bx⟩
  · obtain rfl := hbb1.trans hc1
    refine cw_false rfl ?_
    refine cw_skip ?_
    refine ew_then ?_
    refine cw_seq ?_
    refine cw_seq ?_
    refine cw_region ?_
    refine lw_op rfl rfl rfl (ow_fieldAddr rfl rfl Tryd.underlying29 rfl (Tryd.sizeOf27 _) ?_)
    refine lw_op rfl rfl rfl (ow_load (R := (RSlice (RSlice RSpan))) rfl rfl (hp1.fld fld_Box_Sides) (Tryd.sizeOf27 _) (Tryd.isAgg27 _) fun v2 hv2 => ?_)
    refine lw_op rfl rfl rfl (ow_len rfl rfl hv2 Tryd.underlying27 rfl ?_)
    refine lw_op rfl rfl rfl (ow_move rfl rfl ?_)
    refine lw_nil ?_
    refine ew_then ?_
    replace h := bind_some h
    obtain ⟨lr1, hlr1, h⟩ := h
    refine cw_for hlr1 (fun s a w' => ∃ (M' : Nat → Prop), Fits 23 [(10, v2), (11, (.int .i64 (a_b.Sides.length : Int))), (12, (.int .i64 s))] a ∧ Le w1 M w' M' ∧ Cx No w M w' M') ?_ ?_ ?_
    · intro a ha
      exact ⟨M, ha.sub ⟨rfl, rfl, rfl, trivial⟩, Le.refl _ _, hC1⟩
    · rintro k1 a w2 sr1 ⟨M1, hF1, hl2, hC2⟩ hb2 hR1
      refine cw_at (E := [(10, v2), (11, (.int .i64 (a_b.Sides.length : Int))), (12, (.int .i64 k1))]) hF1 ?_
      refine cw_seq ?_
      refine cw_region ?_
      refine lw_op rfl rfl rfl (ow_lss rfl rfl rfl fun bb2 hbb2 => ?_)
      refine lw_nil ?_
      refine ew_then ?_
      refine cw_seq ?_
      replace hb2 := cond_some hb2
      rcases hb2 with ⟨hc2, hb2⟩ | ⟨hc2, hb2⟩
      · obtain rfl := hbb2.trans hc2
        refine cw_true rfl ?_
        refine cw_skip ?_
        refine ew_then ?_
        refine cw_seq ?_
        refine cw_block ?_
        refine cw_seq ?_
        refine cw_region ?_
        refine lw_op rfl rfl rfl (ow_move rfl rfl ?_)
        replace hb2 := bind_some hb2
        obtain ⟨x1, hx1, hb2⟩ := hb2
        refine lw_op rfl rfl rfl (ow_indexSlice (R := (RSlice RSpan)) rfl rfl rfl (VRep.mono hl2 hv2) Tryd.underlying27 (Tryd.sizeOf93 _) hx1 fun p2 hp2 => ?_)
        refine lw_op rfl rfl rfl (ow_load (R := (RSlice RSpan)) rfl rfl hp2 (Tryd.sizeOf93 _) (Tryd.isAgg93 _) fun v4 hv4 => ?_)
        refine lw_op rfl rfl rfl (ow_assign rfl rfl ?_)
        refine lw_op rfl rfl rfl (ow_assign rfl rfl ?_)
        refine lw_nil ?_
        refine ew_then ?_
        refine cw_seq ?_
        refine cw_region ?_
        refine lw_op rfl rfl rfl (ow_move rfl rfl ?_)
        refine lw_op rfl rfl rfl (ow_move rfl rfl ?_)
        replace hb2 := bind_some hb2
        obtain ⟨x2, hx2, hb2⟩ := hb2
        refine lw_op rfl rfl rfl (ow_call rfl rfl Tryd.call107 (w_impl_FieldTop (hG.mono (hl1.trans hl2)) hC2.old hx2) fun v5 w3 hv5 => ?_)
        obtain ⟨hv5, hb3⟩ := hv5
        have hl3 := Le.no M1 hb3
        have hC3 := hC2.no hb3
        obtain rfl := vint_eq hv5
        replace hb2 := bind_some hb2
        obtain ⟨x3, hx3, hb2⟩ := hb2
        refine lw_op rfl rfl rfl (ow_call rfl rfl Tryd.call106 (w_impl_SpansValid (hG.mono ((hl1.trans hl2).trans hl3)) hC3.old (VRep.mono hl3 hv4) hx3) fun v6 w4 hv6 => ?_)
        obtain ⟨hv6, hb4⟩ := hv6
        have hl4 := Le.no M1 hb4
        have hC4 := hC3.no hb4
        obtain rfl := vbool_eq hv6
        refine lw_op rfl rfl rfl (ow_not rfl rfl ?_)
        refine lw_nil ?_
        refine ew_then ?_
        replace hb2 := cond_some hb2
        rcases hb2 with ⟨hc3, hb2⟩ | ⟨hc3, hb2⟩
        · subst hc3
          refine cw_false rfl ?_
          refine cw_skip ?_
          refine ew_blockN ?_
          refine ew_then ?_
          refine cw_region ?_
          refine lw_op rfl rfl rfl (ow_add rfl rfl rfl ?_)
          refine lw_op rfl rfl rfl (ow_move rfl rfl ?_)
          refine lw_nil ?_
          refine ew_nxt (W (k1 + 1)) hb2 fun a ha => ⟨M1, ?_, ((hl2.trans hl3).trans hl4), hC4⟩
          exact ha.sub ⟨rfl, rfl, rfl, trivial⟩
        · subst hc3
          refine cw_true rfl ?_
          refine cw_seq ?_
          refine cw_region ?_
          refine lw_op rfl rfl rfl (ow_assign rfl rfl ?_)
          refine lw_nil ?_
          refine ew_then ?_
          refine cw_ret ?_
          refine ew_blockR ?_
          refine ew_thenR ?_
          refine ew_thenR ?_
          refine ew_blockR ?_
          refine ew_brkR ?_
          refine ew_thenR ?_
          have e1 := hR1 _ (Option.some.inj hb2).symm
          subst e1
          obtain rfl := Option.some.inj h
          exact ew_ret (res1 rfl (.tmp rfl)) ⟨_, rfl, ((vbool _)), hC4.bx⟩
      · obtain rfl := hbb2.trans hc2
        refine cw_false rfl ?_
        refine cw_exit ?_
        refine ew_thenX ?_
        refine ew_thenX ?_
        refine ew_blockX ?_
        refine ew_brk k1 hb2 fun a ha => ⟨M1, ?_, hl2, hC2⟩
        exact ha.sub ⟨rfl, rfl, rfl, trivial⟩
    · rintro k2 a w5 hlr2 ⟨M2, hF2, hl5, hC5⟩
      subst hlr2
      refine ew_at (E := [(10, v2), (11, (.int .i64 (a_b.Sides.length : Int))), (12, (.int .i64 k2))]) hF2 ?_
      refine ew_then ?_
      refine cw_seq ?_
      refine cw_region ?_
      refine lw_op rfl rfl rfl (ow_assign rfl rfl ?_)
      refine lw_nil ?_
      refine ew_then ?_
      refine cw_ret ?_
      obtain rfl := Option.some.inj h
      exact ew_ret (res1 rfl (.tmp rfl)) ⟨_, rfl, ((vbool _)), hC5.bx⟩

theorem w_impl_RegionValid {w : World} {M : Nat → Prop} (hG : ARep (RArr 4 RShape) w M shapes ⟨0, 0, none⟩) (hO : ∀ b, M b → b < w.heap.size) {v0p : Value} {a_list : List Box} (h0 : VRep (RSlice RBox) w M a_list v0p) {r : Bool} (h : F.impl_RegionValid a_list = some r) :
    Calls Tryd.prog 69 [v0p].toArray w fun e w' => ∃ v, e = .returned v ∧ VRep RBool w' M r v ∧ BX No w w' := by
  have hC : Cx No w M w M := Cx.start hO (fun _ e => e.elim)
  refine walk (N := 18) Tryd.func69 rfl Tryd.ntmps69 rfl ?_
  refine cw_seq ?_
  refine cw_region ?_
  refine lw_op rfl rfl rfl (ow_assign rfl rfl ?_)
  refine lw_nil ?_
  refine ew_then ?_
  refine cw_seq ?_
  refine cw_seq ?_
  refine cw_region ?_
  refine lw_op rfl rfl rfl (ow_move rfl rfl ?_)
  refine lw_op rfl rfl rfl (ow_len rfl rfl h0 Tryd.underlying37 rfl ?_)
  refine lw_op rfl rfl rfl (ow_gtr rfl rfl rfl fun bb1 hbb1 => ?_)
  refine lw_nil ?_
  refine ew_then ?_
  replace h := cond_some h
  rcases h with ⟨hc1, h⟩ | ⟨hc1, h⟩
  · obtain rfl := hbb1.trans hc1
    refine cw_true rfl ?_
    refine cw_seq ?_
    refine cw_region ?_
    refine lw_op rfl rfl rfl (ow_assign rfl rfl ?_)
    refine lw_nil ?_
    refine ew_then ?_
    refine cw_ret ?_
    refine ew_thenR ?_
    obtain rfl := Option.some.inj h
    exact ew_ret (res1 rfl (.tmp rfl)) ⟨_, rfl, ((vbool _)), hC.bx⟩
  · obtain rfl := hbb1.trans hc1
    refine cw_false rfl ?_
    refine cw_skip ?_
    refine ew_then ?_
    refine cw_seq ?_
    refine cw_seq ?_
    refine cw_region ?_
    refine lw_op rfl rfl rfl (ow_move rfl rfl ?_)
    refine lw_op rfl rfl rfl (ow_len rfl rfl h0 Tryd.underlying37 rfl ?_)
    refine lw_op rfl rfl rfl (ow_move rfl rfl ?_)
    refine lw_nil ?_
    refine ew_then ?_
    replace h := bind_some h
    obtain ⟨lr1, hlr1, h⟩ := h
    refine cw_for hlr1 (fun s a w' => ∃ (M' : Nat → Prop), Fits 18 [(8, v0p), (9, (.int .i64 (a_list.length : Int))), (10, (.int .i64 s))] a ∧ Le w M w' M' ∧ Cx No w M w' M') ?_ ?_ ?_
    · intro a ha
      exact ⟨M, ha.sub ⟨rfl, rfl, rfl, trivial⟩, Le.refl _ _, hC⟩
    · rintro k1 a w1 sr1 ⟨M1, hF1, hl1, hC1⟩ hb1 hR1
      refine cw_at (E := [(8, v0p), (9, (.int .i64 (a_list.length : Int))), (10, (.int .i64 k1))]) hF1 ?_
      refine cw_seq ?_
      refine cw_region ?_
      refine lw_op rfl rfl rfl (ow_lss rfl rfl rfl fun bb2 hbb2 => ?_)
      refine lw_nil ?_
      refine ew_then ?_
      refine cw_seq ?_
      replace hb1 := cond_some hb1
      rcases hb1 with ⟨hc2, hb1⟩ | ⟨hc2, hb1⟩
      · obtain rfl := hbb2.trans hc2
        refine cw_true rfl ?_
        refine cw_skip ?_
        refine ew_then ?_
        refine cw_seq ?_
        refine cw_block ?_
        refine cw_seq ?_
        refine cw_region ?_
        replace hb1 := bind_some hb1
        obtain ⟨x1, hx1, hb1⟩ := hb1
        refine lw_op rfl rfl rfl (ow_indexSlice (R := RBox) rfl rfl rfl (VRep.mono hl1 h0) Tryd.underlying37 (Tryd.sizeOf29 _) hx1 fun p1 hp1 => ?_)
        refine lw_op rfl rfl rfl (ow_load (R := RBox) rfl rfl hp1 (Tryd.sizeOf29 _) (Tryd.isAgg29 _) fun v2 hv2 => ?_)
        refine lw_allocStore (R := RBox) rfl rfl rfl rfl rfl rfl rfl Tryd.zeroValue29 Tryd.sizeOf29 rfl rfl rfl (by simp) hv2 hC1 fun p2 w2 hp2 hb2 hl2 hC2 => ?_
        refine lw_nil ?_
        refine ew_then ?_
        refine cw_seq ?_
        refine cw_region ?_
        refine lw_op rfl rfl rfl (ow_load (R := RBox) rfl rfl hp2 (Tryd.sizeOf29 _) (Tryd.isAgg29 _) fun v3 hv3 => ?_)
        replace hb1 := bind_some hb1
        obtain ⟨x2, hx2, hb1⟩ := hb1
        refine lw_op rfl rfl rfl (ow_call rfl rfl Tryd.call56 (w_impl_BoxValid (hG.mono (hl1.trans hl2)) hC2.old hv3 hx2) fun v4 w3 hv4 => ?_)
        obtain ⟨hv4, hb3⟩ := hv4
        have hl3 := Le.no M1 hb3
        have hC3 := hC2.no hb3
        obtain rfl := vbool_eq hv4
        refine lw_op rfl rfl rfl (ow_not rfl rfl ?_)
        refine lw_nil ?_
        refine ew_then ?_
        replace hb1 := cond_some hb1
        rcases hb1 with ⟨hc3, hb1⟩ | ⟨hc3, hb1⟩
        · subst hc3
          refine cw_false rfl ?_
          refine cw_skip ?_
          refine ew_blockN ?_
          refine ew_then ?_
          refine cw_region ?_
          refine lw_op rfl rfl rfl (ow_add rfl rfl rfl ?_)
          refine lw_op rfl rfl rfl (ow_move rfl rfl ?_)
          refine lw_nil ?_
          refine ew_nxt (W (k1 + 1)) hb1 fun a ha => ⟨M1, ?_, ((hl1.trans hl2).trans hl3), hC3⟩
          exact ha.sub ⟨rfl, rfl, rfl, trivial⟩
        · subst hc3
          refine cw_true rfl ?_
          refine cw_seq ?_
          refine cw_region ?_
          refine lw_op rfl rfl rfl (ow_assign rfl rfl ?_)
          refine lw_nil ?_
          refine ew_then ?_
          refine cw_ret ?_
          refine ew_blockR ?_
          refine ew_thenR ?_
          refine ew_thenR ?_
          refine ew_blockR ?_
          refine ew_brkR ?_
          refine ew_thenR ?_
          have e1 := hR1 _ (Option.some.inj hb1).symm
          subst e1
          obtain rfl := Option.some.inj h
          exact ew_ret (res1 rfl (.tmp rfl)) ⟨_, rfl, ((vbool _)), hC3.bx⟩
      · obtain rfl := hbb2.trans hc2
        refine cw_false rfl ?_
        refine cw_exit ?_
        refine ew_thenX ?_
        refine ew_thenX ?_
        refine ew_blockX ?_
        refine ew_brk k1 hb1 fun a ha => ⟨M1, ?_, hl1, hC1⟩
        exact ha.sub ⟨rfl, rfl, rfl, trivial⟩
    · rintro k2 a w4 hlr2 ⟨M2, hF2, hl4, hC4⟩
      subst hlr2
      refine ew_at (E := [(8, v0p), (9, (.int .i64 (a_list.length : Int))), (10, (.int .i64 k2))]) hF2 ?_
      refine ew_then ?_
      refine cw_seq ?_
      refine cw_region ?_
      refine lw_op rfl rfl rfl (ow_assign rfl rfl ?_)
      refine lw_nil ?_
      refine ew_then ?_
      refine cw_ret ?_
      obtain rfl := Option.some.inj h
      exact ew_ret (res1 rfl (.tmp rfl)) ⟨_, rfl, ((vbool _)), hC4.bx⟩

theorem w_impl_Packet_fields {w : World} {M : Nat → Prop} (_hG : ARep (RArr 4 RShape) w M shapes ⟨0, 0, none⟩) (hO : ∀ b, M b → b < w.heap.size) {v0p : Value} {a_p : Packet} (h0 : VRep RPacket w M a_p v0p) {r : (List Int)} (h : F.impl_Packet_fields a_p = some r) :
    Calls Tryd.prog 119 [v0p].toArray w fun e w' => ∃ v, e = .returned v ∧ VRep (RArr 4 RInt) w' M r v ∧ BX No w w' := by
  have hC : Cx No w M w M := Cx.start hO (fun _ e => e.elim)
  clear _hG
  refine walk (N := 12) Tryd.func119 rfl Tryd.ntmps119 rfl ?_
  refine cw_seq ?_
  refine cw_region ?_
  refine lw_op rfl rfl rfl (ow_box (R := RPacket) rfl rfl h0 hC fun p1 w1 hp1 hb1 hl1 hC1 => ?_)
  refine lw_op rfl rfl rfl (ow_alloc rfl (Tryd.zeroValue149 _) hC1 fun g1 w2 hg1 hg2 ho1 hb2 hl2 hC2 => ?_)
  have hm1 : (Add g1 M) g1 := .inl rfl
  have ho2 : OwnA (RArr 4 RInt) w2 (Add g1 M) g1 149 [0, 0, 0, 0] := OwnA.of ho1 ⟨rfl, ⟨_, _, rfl, (vint _).cells, _, _, rfl, (vint _).cells, _, _, rfl, (vint _).cells, _, _, rfl, (vint _).cells, rfl⟩⟩
  refine lw_nil ?_
  refine ew_then ?_
  refine cw_seq ?_
  refine cw_region ?_
  refine lw_op rfl rfl rfl (ow_fieldAddr rfl rfl Tryd.underlying39 rfl (Tryd.sizeOf3 _) ?_)
  refine lw_op rfl rfl rfl (ow_load (R := RInt) rfl rfl (ARep.mono hl2 (hp1.fld fld_Packet_From)) (Tryd.sizeOf3 _) (Tryd.isAgg3 _) fun v1 hv1 => ?_)
  obtain rfl := vint_eq hv1
  refine lw_op rfl rfl rfl (ow_fieldAddr rfl rfl Tryd.underlying39 rfl (Tryd.sizeOf3 _) ?_)
  refine lw_op rfl rfl rfl (ow_load (R := RInt) rfl rfl (ARep.mono hl2 (hp1.fld fld_Packet_To)) (Tryd.sizeOf3 _) (Tryd.isAgg3 _) fun v2 hv2 => ?_)
  obtain rfl := vint_eq hv2
  refine lw_op rfl rfl rfl (ow_fieldAddr rfl rfl Tryd.underlying39 rfl (Tryd.sizeOf3 _) ?_)
  refine lw_op rfl rfl rfl (ow_load (R := RInt) rfl rfl (ARep.mono hl2 (hp1.fld fld_Packet_Port)) (Tryd.sizeOf3 _) (Tryd.isAgg3 _) fun v3 hv3 => ?_)
  obtain rfl := vint_eq hv3
  refine lw_op rfl rfl rfl (ow_fieldAddr rfl rfl Tryd.underlying39 rfl (Tryd.sizeOf3 _) ?_)
  refine lw_op rfl rfl rfl (ow_load (R := RInt) rfl rfl (ARep.mono hl2 (hp1.fld fld_Packet_Proto)) (Tryd.sizeOf3 _) (Tryd.isAgg3 _) fun v4 hv4 => ?_)
  obtain rfl := vint_eq hv4
  refine lw_op rfl rfl rfl (ow_build (v := .agg #[(.int .i64 a_p.From), (.int .i64 a_p.To), (.int .i64 a_p.Port), (.int .i64 a_p.Proto)]) rfl rfl (by kernel_rfl) ?_)
  have hw1 : VRep (RArr 4 RInt) w2 (Add g1 M) [a_p.From, a_p.To, a_p.Port, a_p.Proto] (.agg #[(.int .i64 a_p.From), (.int .i64 a_p.To), (.int .i64 a_p.Port), (.int .i64 a_p.Proto)]) := ⟨_, ⟨rfl, ⟨_, _, rfl, (vint _).cells, _, _, rfl, (vint _).cells, _, _, rfl, (vint _).cells, _, _, rfl, (vint _).cells, rfl⟩⟩, rfl⟩
  obtain ⟨cs1, h1, h2⟩ := ho2.own
  refine lw_op0 rfl rfl (ow_storeA (X := No) (R := (RArr 4 RInt)) rfl rfl rfl rfl h1 h2 (Tryd.sizeOf149 _) hw1 hm1 (.inl hg2) hC2 fun w3 ho3 hb3 hl3 hC3 => ?_)
  refine lw_nil ?_
  refine ew_then ?_
  refine cw_ret ?_
  obtain rfl := Option.some.inj h
  obtain ⟨v5, hq1, hw2⟩ := resA ho3 (Tryd.sizeOf149 _) (Tryd.isAgg149 _) rfl
  exact ew_ret (res1 rfl (.cell rfl hq1)) ⟨_, rfl, (hw2.mono hC3.back), hC3.bx⟩

theorem w_impl_PacketValid {w : World} {M : Nat → Prop} (hG : ARep (RArr 4 RShape) w M shapes ⟨0, 0, none⟩) (hO : ∀ b, M b → b < w.heap.size) {v0p : Value} {a_p : Packet} (h0 : VRep RPacket w M a_p v0p) {r : Bool} (h : F.impl_PacketValid a_p = some r) :
    Calls Tryd.prog 70 [v0p].toArray w fun e w' => ∃ v, e = .returned v ∧ VRep RBool w' M r v ∧ BX No w w' := by
  have hC : Cx No w M w M := Cx.start hO (fun _ e => e.elim)
  refine walk (N := 20) Tryd.func70 rfl Tryd.ntmps70 rfl ?_
  refine cw_seq ?_
  refine cw_region ?_
  refine lw_op rfl rfl rfl (ow_box (R := RPacket) rfl rfl h0 hC fun p1 w1 hp1 hb1 hl1 hC1 => ?_)
  refine lw_op rfl rfl rfl (ow_assign rfl rfl ?_)
  refine lw_nil ?_
  refine ew_then ?_
  refine cw_seq ?_
  refine cw_seq ?_
  refine cw_region ?_
  refine lw_op rfl rfl rfl (ow_load (R := RPacket) rfl rfl hp1 (Tryd.sizeOf39 _) (Tryd.isAgg39 _) fun v1 hv1 => ?_)
  replace h := bind_some h
  obtain ⟨x1, hx1, h⟩ := h
  refine lw_op rfl rfl rfl (ow_call rfl rfl Tryd.call119 (w_impl_Packet_fields (hG.mono hl1) hC1.old hv1 hx1) fun v2 w2 hv2 => ?_)
  obtain ⟨hv2, hb2⟩ := hv2
  have hl2 := Le.no M hb2
  have hC2 := hC1.no hb2
  refine lw_op rfl rfl rfl (ow_move rfl rfl ?_)
  refine lw_nil ?_
  refine ew_then ?_
  replace h := bind_some h
  obtain ⟨lr1, hlr1, h⟩ := h
  refine cw_for hlr1 (fun s a w' => ∃ (M' : Nat → Prop), Fits 20 [(6, v2), (7, (.int .i64 s))] a ∧ Le w2 M w' M' ∧ Cx No w M w' M') ?_ ?_ ?_
  · intro a ha
    exact ⟨M, ha.sub ⟨rfl, rfl, trivial⟩, Le.refl _ _, hC2⟩
  · rintro k1 a w3 sr1 ⟨M1, hF1, hl3, hC3⟩ hb3 hR1
    refine cw_at (E := [(6, v2), (7, (.int .i64 k1))]) hF1 ?_
    refine cw_seq ?_
    refine cw_region ?_
    refine lw_op rfl rfl rfl (ow_lss rfl rfl rfl fun bb1 hbb1 => ?_)
    refine lw_nil ?_
    refine ew_then ?_
    refine cw_seq ?_
    replace hb3 := cond_some hb3
    rcases hb3 with ⟨hc1, hb3⟩ | ⟨hc1, hb3⟩
    · obtain rfl := hbb1.trans hc1
      refine cw_true rfl ?_
      refine cw_skip ?_
      refine ew_then ?_
      refine cw_seq ?_
      refine cw_block ?_
      refine cw_seq ?_
      refine cw_region ?_
      refine lw_op rfl rfl rfl (ow_move rfl rfl ?_)
      replace hb3 := bind_some hb3
      obtain ⟨x2, hx2, hb3⟩ := hb3
      refine lw_op rfl rfl rfl (ow_index (R := RInt) rfl rfl rfl (VRep.mono hl3 hv2) Tryd.underlying149 (Tryd.sizeOf3 _) (Tryd.isAgg3 _) hx2 fun v4 hv4 => ?_)
      obtain rfl := vint_eq hv4
      refine lw_op rfl rfl rfl (ow_assign rfl rfl ?_)
      refine lw_op rfl rfl rfl (ow_assign rfl rfl ?_)
      refine lw_nil ?_
      refine ew_then ?_
      refine cw_seq ?_
      refine cw_region ?_
      refine lw_op rfl rfl rfl (ow_move rfl rfl ?_)
      refine lw_op rfl rfl rfl (ow_lss rfl rfl rfl fun bb2 hbb2 => ?_)
      refine lw_op rfl rfl rfl (ow_move rfl rfl ?_)
      replace hb3 := cond_some hb3
      rcases hb3 with ⟨hc2, hb3⟩ | ⟨hc2, hb3⟩
      · obtain rfl := hbb2.trans hc2
        refine lw_off rfl rfl rfl rfl rfl rfl ?_
        refine lw_off rfl rfl rfl rfl rfl rfl ?_
        refine lw_off rfl rfl rfl rfl rfl rfl ?_
        refine lw_off rfl rfl rfl rfl rfl rfl ?_
        refine lw_op rfl rfl rfl (ow_pickT rfl rfl rfl ?_)
        refine lw_nil ?_
        refine ew_then ?_
        refine cw_true rfl ?_
        refine cw_seq ?_
        refine cw_region ?_
        refine lw_op rfl rfl rfl (ow_assign rfl rfl ?_)
        refine lw_nil ?_
        refine ew_then ?_
        refine cw_ret ?_
        refine ew_blockR ?_
        refine ew_thenR ?_
        refine ew_thenR ?_
        refine ew_blockR ?_
        refine ew_brkR ?_
        refine ew_thenR ?_
        have e1 := hR1 _ (Option.some.inj hb3).symm
        subst e1
        obtain rfl := Option.some.inj h
        exact ew_ret (res1 rfl (.tmp rfl)) ⟨_, rfl, ((vbool _)), hC3.bx⟩
      · obtain rfl := hbb2.trans hc2
        refine lw_on rfl rfl rfl rfl rfl rfl (ow_move rfl rfl ?_)
        refine lw_on rfl rfl rfl rfl rfl rfl (ow_move rfl rfl ?_)
        replace hb3 := bind_some hb3
        obtain ⟨x3, hx3, hb3⟩ := hb3
        refine lw_on rfl rfl rfl rfl rfl rfl (ow_call rfl rfl Tryd.call107 (w_impl_FieldTop (hG.mono ((hl1.trans hl2).trans hl3)) hC3.old hx3) fun v5 w4 hv5 => ?_)
        obtain ⟨hv5, hb4⟩ := hv5
        have hl4 := Le.no M1 hb4
        have hC4 := hC3.no hb4
        obtain rfl := vint_eq hv5
        refine lw_on rfl rfl rfl rfl rfl rfl (ow_gtr rfl rfl rfl fun bb3 hbb3 => ?_)
        refine lw_op rfl rfl rfl (ow_pickF rfl rfl rfl ?_)
        refine lw_nil ?_
        refine ew_then ?_
        replace hb3 := cond_some hb3
        rcases hb3 with ⟨hc3, hb3⟩ | ⟨hc3, hb3⟩
        · obtain rfl := hbb3.trans hc3
          refine cw_true rfl ?_
          refine cw_seq ?_
          refine cw_region ?_
          refine lw_op rfl rfl rfl (ow_assign rfl rfl ?_)
          refine lw_nil ?_
          refine ew_then ?_
          refine cw_ret ?_
          refine ew_blockR ?_
          refine ew_thenR ?_
          refine ew_thenR ?_
          refine ew_blockR ?_
          refine ew_brkR ?_
          refine ew_thenR ?_
          have e2 := hR1 _ (Option.some.inj hb3).symm
          subst e2
          obtain rfl := Option.some.inj h
          exact ew_ret (res1 rfl (.tmp rfl)) ⟨_, rfl, ((vbool _)), hC4.bx⟩
        · obtain rfl := hbb3.trans hc3
          refine cw_false rfl ?_
          refine cw_skip ?_
          refine ew_blockN ?_
          refine ew_then ?_
          refine cw_region ?_
          refine lw_op rfl rfl rfl (ow_add rfl rfl rfl ?_)
          refine lw_op rfl rfl rfl (ow_move rfl rfl ?_)
          refine lw_nil ?_
          refine ew_nxt (W (k1 + 1)) hb3 fun a ha => ⟨M1, ?_, (hl3.trans hl4), hC4⟩
          exact ha.sub ⟨rfl, rfl, trivial⟩
    · obtain rfl := hbb1.trans hc1
      refine cw_false rfl ?_
      refine cw_exit ?_
      refine ew_thenX ?_
      refine ew_thenX ?_
      refine ew_blockX ?_
      refine ew_brk k1 hb3 fun a ha => ⟨M1, ?_, hl3, hC3⟩
      exact ha.sub ⟨rfl, rfl, trivial⟩
  · rintro k2 a w5 hlr2 ⟨M2, hF2, hl5, hC5⟩
    subst hlr2
    refine ew_at (E := [(6, v2), (7, (.int .i64 k2))]) hF2 ?_
    refine ew_then ?_
    refine cw_seq ?_
    refine cw_region ?_
    refine lw_op rfl rfl rfl (ow_assign rfl rfl ?_)
    refine lw_nil ?_
    refine ew_then ?_
    refine cw_ret ?_
    obtain rfl := Option.some.inj h
    exact ew_ret (res1 rfl (.tmp rfl)) ⟨_, rfl, ((vbool _)), hC5.bx⟩

theorem w_impl_SpansHave {w : World} {M : Nat → Prop} (_hG : ARep (RArr 4 RShape) w M shapes ⟨0, 0, none⟩) (hO : ∀ b, M b → b < w.heap.size) {v0p : Value} {a_list : List Span} (h0 : VRep (RSlice RSpan) w M a_list v0p) {a_n : Int} {r : Bool} (h : F.impl_SpansHave a_list a_n = some r) :
    Calls Tryd.prog 103 [v0p, (.int .i64 a_n)].toArray w fun e w' => ∃ v, e = .returned v ∧ VRep RBool w' M r v ∧ BX No w w' := by
  have hC : Cx No w M w M := Cx.start hO (fun _ e => e.elim)
  clear _hG
  refine walk (N := 24) Tryd.func103 rfl Tryd.ntmps103 rfl ?_
  refine cw_seq ?_
  refine cw_region ?_
  refine lw_op rfl rfl rfl (ow_assign rfl rfl ?_)
  refine lw_nil ?_
  refine ew_then ?_
  refine cw_seq ?_
  refine cw_seq ?_
  refine cw_region ?_
  refine lw_op rfl rfl rfl (ow_move rfl rfl ?_)
  refine lw_op rfl rfl rfl (ow_len rfl rfl h0 Tryd.underlying93 rfl ?_)
  refine lw_op rfl rfl rfl (ow_move rfl rfl ?_)
  refine lw_nil ?_
  refine ew_then ?_
  replace h := bind_some h
  obtain ⟨lr1, hlr1, h⟩ := h
  refine cw_for hlr1 (fun s a w' => ∃ (M' : Nat → Prop), Fits 24 [(1, (.int .i64 a_n)), (7, v0p), (8, (.int .i64 (a_list.length : Int))), (9, (.int .i64 s))] a ∧ Le w M w' M' ∧ Cx No w M w' M') ?_ ?_ ?_
  · intro a ha
    exact ⟨M, ha.sub ⟨rfl, rfl, rfl, rfl, trivial⟩, Le.refl _ _, hC⟩
  · rintro k1 a w1 sr1 ⟨M1, hF1, hl1, hC1⟩ hb1 hR1
    refine cw_at (E := [(1, (.int .i64 a_n)), (7, v0p), (8, (.int .i64 (a_list.length : Int))), (9, (.int .i64 k1))]) hF1 ?_
    refine cw_seq ?_
    refine cw_region ?_
    refine lw_op rfl rfl rfl (ow_lss rfl rfl rfl fun bb1 hbb1 => ?_)
    refine lw_nil ?_
    refine ew_then ?_
    refine cw_seq ?_
    replace hb1 := cond_some hb1
    rcases hb1 with ⟨hc1, hb1⟩ | ⟨hc1, hb1⟩
    · obtain rfl := hbb1.trans hc1
      refine cw_true rfl ?_
      refine cw_skip ?_
      refine ew_then ?_
      refine cw_seq ?_
      refine cw_block ?_
      refine cw_seq ?_
      refine cw_region ?_
      replace hb1 := bind_some hb1
      obtain ⟨x1, hx1, hb1⟩ := hb1
      refine lw_op rfl rfl rfl (ow_indexSlice (R := RSpan) rfl rfl rfl (VRep.mono hl1 h0) Tryd.underlying93 (Tryd.sizeOf140 _) hx1 fun p1 hp1 => ?_)
      refine lw_op rfl rfl rfl (ow_load (R := RSpan) rfl rfl hp1 (Tryd.sizeOf140 _) (Tryd.isAgg140 _) fun v2 hv2 => ?_)
      refine lw_allocStore (R := RSpan) rfl rfl rfl rfl rfl rfl rfl Tryd.zeroValue140 Tryd.sizeOf140 rfl rfl rfl (by simp) hv2 hC1 fun p2 w2 hp2 hb2 hl2 hC2 => ?_
      refine lw_nil ?_
      refine ew_then ?_
      refine cw_seq ?_
      refine cw_region ?_
      refine lw_op rfl rfl rfl (ow_fieldAddr rfl rfl Tryd.underlying140 rfl (Tryd.sizeOf3 _) ?_)
      refine lw_op rfl rfl rfl (ow_load (R := RInt) rfl rfl (hp2.fld fld_Span_Lo) (Tryd.sizeOf3 _) (Tryd.isAgg3 _) fun v3 hv3 => ?_)
      obtain rfl := vint_eq hv3
      refine lw_op rfl rfl rfl (ow_move rfl rfl ?_)
      refine lw_op rfl rfl rfl (ow_leq rfl rfl rfl fun bb2 hbb2 => ?_)
      refine lw_op rfl rfl rfl (ow_move rfl rfl ?_)
      replace hb1 := cond_some hb1
      rcases hb1 with ⟨hc2, hb1⟩ | ⟨hc2, hb1⟩
      · obtain rfl := hbb2.trans hc2
        refine lw_on rfl rfl rfl rfl rfl rfl (ow_move rfl rfl ?_)
        refine lw_on rfl rfl rfl rfl rfl rfl (ow_fieldAddr rfl rfl Tryd.underlying140 rfl (Tryd.sizeOf3 _) ?_)
        refine lw_on rfl rfl rfl rfl rfl rfl (ow_load (R := RInt) rfl rfl (hp2.fld fld_Span_Hi) (Tryd.sizeOf3 _) (Tryd.isAgg3 _) fun v4 hv4 => ?_)
        obtain rfl := vint_eq hv4
        refine lw_on rfl rfl rfl rfl rfl rfl (ow_leq rfl rfl rfl fun bb3 hbb3 => ?_)
        refine lw_op rfl rfl rfl (ow_pickT rfl rfl rfl ?_)
        refine lw_nil ?_
        refine ew_then ?_
        replace hb1 := cond_some hb1
        rcases hb1 with ⟨hc3, hb1⟩ | ⟨hc3, hb1⟩
        · obtain rfl := hbb3.trans hc3
          refine cw_true rfl ?_
          refine cw_seq ?_
          refine cw_region ?_
          refine lw_op rfl rfl rfl (ow_assign rfl rfl ?_)
          refine lw_nil ?_
          refine ew_then ?_
          refine cw_ret ?_
          refine ew_blockR ?_
          refine ew_thenR ?_
          refine ew_thenR ?_
          refine ew_blockR ?_
          refine ew_brkR ?_
          refine ew_thenR ?_
          have e1 := hR1 _ (Option.some.inj hb1).symm
          subst e1
          obtain rfl := Option.some.inj h
          exact ew_ret (res1 rfl (.tmp rfl)) ⟨_, rfl, ((vbool _)), hC2.bx⟩
        · obtain rfl := hbb3.trans hc3
          refine cw_false rfl ?_
          refine cw_skip ?_
          refine ew_blockN ?_
          refine ew_then ?_
          refine cw_region ?_
          refine lw_op rfl rfl rfl (ow_add rfl rfl rfl ?_)
          refine lw_op rfl rfl rfl (ow_move rfl rfl ?_)
          refine lw_nil ?_
          refine ew_nxt (W (k1 + 1)) hb1 fun a ha => ⟨M1, ?_, (hl1.trans hl2), hC2⟩
          exact ha.sub ⟨rfl, rfl, rfl, rfl, trivial⟩
      · obtain rfl := hbb2.trans hc2
        refine lw_off rfl rfl rfl rfl rfl rfl ?_
        refine lw_off rfl rfl rfl rfl rfl rfl ?_
        refine lw_off rfl rfl rfl rfl rfl rfl ?_
        refine lw_off rfl rfl rfl rfl rfl rfl ?_
        refine lw_op rfl rfl rfl (ow_pickF rfl rfl rfl ?_)
        refine lw_nil ?_
        refine ew_then ?_
        refine cw_false rfl ?_
        refine cw_skip ?_
        refine ew_blockN ?_
        refine ew_then ?_
        refine cw_region ?_
        refine lw_op rfl rfl rfl (ow_add rfl rfl rfl ?_)
        refine lw_op rfl rfl rfl (ow_move rfl rfl ?_)
        refine lw_nil ?_
        refine ew_nxt (W (k1 + 1)) hb1 fun a ha => ⟨M1, ?_, (hl1.trans hl2), hC2⟩
        exact ha.sub ⟨rfl, rfl, rfl, rfl, trivial⟩
    · obtain rfl := hbb1.trans hc1
      refine cw_false rfl ?_
      refine cw_exit ?_
      refine ew_thenX ?_
      refine ew_thenX ?_
      refine ew_blockX ?_
      refine ew_brk k1 hb1 fun a ha => ⟨M1, ?_, hl1, hC1⟩
      exact ha.sub ⟨rfl, rfl, rfl, rfl, trivial⟩
  · rintro k2 a w3 hlr2 ⟨M2, hF2, hl3, hC3⟩
    subst hlr2
    refine ew_at (E := [(1, (.int .i64 a_n)), (7, v0p), (8, (.int .i64 (a_list.length : Int))), (9, (.int .i64 k2))]) hF2 ?_
    refine ew_then ?_
    refine cw_seq ?_
    refine cw_region ?_
    refine lw_op rfl rfl rfl (ow_assign rfl rfl ?_)
    refine lw_nil ?_
    refine ew_then ?_
    refine cw_ret ?_
    obtain rfl := Option.some.inj h
    exact ew_ret (res1 rfl (.tmp rfl)) ⟨_, rfl, ((vbool _)), hC3.bx⟩

theorem w_impl_sides_has {w : World} {M : Nat → Prop} (hG : ARep (RArr 4 RShape) w M shapes ⟨0, 0, none⟩) (hO : ∀ b, M b → b < w.heap.size) {v0p : Value} {a_s : List (List Span)} (h0 : VRep (RArr 4 (RSlice RSpan)) w M a_s v0p) {v1p : Value} {a_p : Packet} (h1 : VRep RPacket w M a_p v1p) {r : Bool} (h : F.impl_sides_has a_s a_p = some r) :
    Calls Tryd.prog 71 [v0p, v1p].toArray w fun e w' => ∃ v, e = .returned v ∧ VRep RBool w' M r v ∧ BX No w w' := by
  have hC : Cx No w M w M := Cx.start hO (fun _ e => e.elim)
  refine walk (N := 20) Tryd.func71 rfl Tryd.ntmps71 rfl ?_
  refine cw_seq ?_
  refine cw_region ?_
  refine lw_op rfl rfl rfl (ow_box (R := (RArr 4 (RSlice RSpan))) rfl rfl h0 hC fun p1 w1 hp1 hb1 hl1 hC1 => ?_)
  refine lw_op rfl rfl rfl (ow_box (R := RPacket) rfl rfl (VRep.mono hl1 h1) hC1 fun p2 w2 hp2 hb2 hl2 hC2 => ?_)
  refine lw_op rfl rfl rfl (ow_assign rfl rfl ?_)
  refine lw_nil ?_
  refine ew_then ?_
  refine cw_seq ?_
  refine cw_seq ?_
  refine cw_region ?_
  refine lw_op rfl rfl rfl (ow_load (R := RPacket) rfl rfl hp2 (Tryd.sizeOf39 _) (Tryd.isAgg39 _) fun v1 hv1 => ?_)
  replace h := bind_some h
  obtain ⟨x1, hx1, h⟩ := h
  refine lw_op rfl rfl rfl (ow_call rfl rfl Tryd.call119 (w_impl_Packet_fields (hG.mono (hl1.trans hl2)) hC2.old hv1 hx1) fun v2 w3 hv2 => ?_)
  obtain ⟨hv2, hb3⟩ := hv2
  have hl3 := Le.no M hb3
  have hC3 := hC2.no hb3
  refine lw_op rfl rfl rfl (ow_move rfl rfl ?_)
  refine lw_nil ?_
  refine ew_then ?_
  replace h := bind_some h
  obtain ⟨lr1, hlr1, h⟩ := h
  refine cw_for hlr1 (fun s a w' => ∃ (M' : Nat → Prop), Fits 20 [(2, (.pointer (some p1))), (8, v2), (9, (.int .i64 s))] a ∧ Le w3 M w' M' ∧ Cx No w M w' M') ?_ ?_ ?_
  · intro a ha
    exact ⟨M, ha.sub ⟨rfl, rfl, rfl, trivial⟩, Le.refl _ _, hC3⟩
  · rintro k1 a w4 sr1 ⟨M1, hF1, hl4, hC4⟩ hb4 hR1
    refine cw_at (E := [(2, (.pointer (some p1))), (8, v2), (9, (.int .i64 k1))]) hF1 ?_
    refine cw_seq ?_
    refine cw_region ?_
    refine lw_op rfl rfl rfl (ow_lss rfl rfl rfl fun bb1 hbb1 => ?_)
    refine lw_nil ?_
    refine ew_then ?_
    refine cw_seq ?_
    replace hb4 := cond_some hb4
    rcases hb4 with ⟨hc1, hb4⟩ | ⟨hc1, hb4⟩
    · obtain rfl := hbb1.trans hc1
      refine cw_true rfl ?_
      refine cw_skip ?_
      refine ew_then ?_
      refine cw_seq ?_
      refine cw_block ?_
      refine cw_seq ?_
      refine cw_region ?_
      refine lw_op rfl rfl rfl (ow_move rfl rfl ?_)
      replace hb4 := bind_some hb4
      obtain ⟨x2, hx2, hb4⟩ := hb4
      refine lw_op rfl rfl rfl (ow_index (R := RInt) rfl rfl rfl (VRep.mono hl4 hv2) Tryd.underlying149 (Tryd.sizeOf3 _) (Tryd.isAgg3 _) hx2 fun v4 hv4 => ?_)
      obtain rfl := vint_eq hv4
      refine lw_op rfl rfl rfl (ow_assign rfl rfl ?_)
      refine lw_op rfl rfl rfl (ow_assign rfl rfl ?_)
      refine lw_nil ?_
      refine ew_then ?_
      refine cw_seq ?_
      refine cw_region ?_
      refine lw_op rfl rfl rfl (ow_move rfl rfl ?_)
      replace hb4 := bind_some hb4
      obtain ⟨x3, hx3, hb4⟩ := hb4
      refine lw_op rfl rfl rfl (ow_indexArr (R := (RSlice RSpan)) rfl rfl rfl (ARep.mono ((hl2.trans hl3).trans hl4) hp1) Tryd.underlying95 (Tryd.sizeOf93 _) hx3 fun p3 hp3 => ?_)
      refine lw_op rfl rfl rfl (ow_load (R := (RSlice RSpan)) rfl rfl hp3 (Tryd.sizeOf93 _) (Tryd.isAgg93 _) fun v5 hv5 => ?_)
      refine lw_op rfl rfl rfl (ow_move rfl rfl ?_)
      replace hb4 := bind_some hb4
      obtain ⟨x4, hx4, hb4⟩ := hb4
      refine lw_op rfl rfl rfl (ow_call rfl rfl Tryd.call103 (w_impl_SpansHave (hG.mono (((hl1.trans hl2).trans hl3).trans hl4)) hC4.old hv5 hx4) fun v6 w5 hv6 => ?_)
      obtain ⟨hv6, hb5⟩ := hv6
      have hl5 := Le.no M1 hb5
      have hC5 := hC4.no hb5
      obtain rfl := vbool_eq hv6
      refine lw_op rfl rfl rfl (ow_not rfl rfl ?_)
      refine lw_nil ?_
      refine ew_then ?_
      replace hb4 := cond_some hb4
      rcases hb4 with ⟨hc2, hb4⟩ | ⟨hc2, hb4⟩
      · subst hc2
        refine cw_false rfl ?_
        refine cw_skip ?_
        refine ew_blockN ?_
        refine ew_then ?_
        refine cw_region ?_
        refine lw_op rfl rfl rfl (ow_add rfl rfl rfl ?_)
        refine lw_op rfl rfl rfl (ow_move rfl rfl ?_)
        refine lw_nil ?_
        refine ew_nxt (W (k1 + 1)) hb4 fun a ha => ⟨M1, ?_, (hl4.trans hl5), hC5⟩
        exact ha.sub ⟨rfl, rfl, rfl, trivial⟩
      · subst hc2
        refine cw_true rfl ?_
        refine cw_seq ?_
        refine cw_region ?_
        refine lw_op rfl rfl rfl (ow_assign rfl rfl ?_)
        refine lw_nil ?_
        refine ew_then ?_
        refine cw_ret ?_
        refine ew_blockR ?_
        refine ew_thenR ?_
        refine ew_thenR ?_
        refine ew_blockR ?_
        refine ew_brkR ?_
        refine ew_thenR ?_
        have e1 := hR1 _ (Option.some.inj hb4).symm
        subst e1
        obtain rfl := Option.some.inj h
        exact ew_ret (res1 rfl (.tmp rfl)) ⟨_, rfl, ((vbool _)), hC5.bx⟩
    · obtain rfl := hbb1.trans hc1
      refine cw_false rfl ?_
      refine cw_exit ?_
      refine ew_thenX ?_
      refine ew_thenX ?_
      refine ew_blockX ?_
      refine ew_brk k1 hb4 fun a ha => ⟨M1, ?_, hl4, hC4⟩
      exact ha.sub ⟨rfl, rfl, rfl, trivial⟩
  · rintro k2 a w6 hlr2 ⟨M2, hF2, hl6, hC6⟩
    subst hlr2
    refine ew_at (E := [(2, (.pointer (some p1))), (8, v2), (9, (.int .i64 k2))]) hF2 ?_
    refine ew_then ?_
    refine cw_seq ?_
    refine cw_region ?_
    refine lw_op rfl rfl rfl (ow_assign rfl rfl ?_)
    refine lw_nil ?_
    refine ew_then ?_
    refine cw_ret ?_
    obtain rfl := Option.some.inj h
    exact ew_ret (res1 rfl (.tmp rfl)) ⟨_, rfl, ((vbool _)), hC6.bx⟩

theorem w_impl_RegionHas {w : World} {M : Nat → Prop} (hG : ARep (RArr 4 RShape) w M shapes ⟨0, 0, none⟩) (hO : ∀ b, M b → b < w.heap.size) {v0p : Value} {a_list : List Box} (h0 : VRep (RSlice RBox) w M a_list v0p) {v1p : Value} {a_p : Packet} (h1 : VRep RPacket w M a_p v1p) {r : Bool} (h : F.impl_RegionHas a_list a_p = some r) :
    Calls Tryd.prog 24 [v0p, v1p].toArray w fun e w' => ∃ v, e = .returned v ∧ VRep RBool w' M r v ∧ BX No w w' := by
  have hC : Cx No w M w M := Cx.start hO (fun _ e => e.elim)
  refine walk (N := 26) Tryd.func24 rfl Tryd.ntmps24 rfl ?_
  refine cw_seq ?_
  refine cw_region ?_
  refine lw_op rfl rfl rfl (ow_box (R := RPacket) rfl rfl h1 hC fun p1 w1 hp1 hb1 hl1 hC1 => ?_)
  refine lw_op rfl rfl rfl (ow_assign rfl rfl ?_)
  refine lw_nil ?_
  refine ew_then ?_
  refine cw_seq ?_
  refine cw_seq ?_
  refine cw_region ?_
  refine lw_op rfl rfl rfl (ow_move rfl rfl ?_)
  replace h := bind_some h
  obtain ⟨x1, hx1, h⟩ := h
  refine lw_op rfl rfl rfl (ow_call rfl rfl Tryd.call69 (w_impl_RegionValid (hG.mono hl1) hC1.old (VRep.mono hl1 h0) hx1) fun v1 w2 hv1 => ?_)
  obtain ⟨hv1, hb2⟩ := hv1
  have hl2 := Le.no M hb2
  have hC2 := hC1.no hb2
  obtain rfl := vbool_eq hv1
  refine lw_op rfl rfl rfl (ow_not rfl rfl ?_)
  refine lw_op rfl rfl rfl (ow_move rfl rfl ?_)
  replace h := cond_some h
  rcases h with ⟨hc1, h⟩ | ⟨hc1, h⟩
  · subst hc1
    refine lw_on rfl rfl rfl rfl rfl rfl (ow_load (R := RPacket) rfl rfl (ARep.mono hl2 hp1) (Tryd.sizeOf39 _) (Tryd.isAgg39 _) fun v2 hv2 => ?_)
    replace h := bind_some h
    obtain ⟨x2, hx2, h⟩ := h
    refine lw_on rfl rfl rfl rfl rfl rfl (ow_call rfl rfl Tryd.call70 (w_impl_PacketValid (hG.mono (hl1.trans hl2)) hC2.old hv2 hx2) fun v3 w3 hv3 => ?_)
    obtain ⟨hv3, hb3⟩ := hv3
    have hl3 := Le.no M hb3
    have hC3 := hC2.no hb3
    obtain rfl := vbool_eq hv3
    refine lw_on rfl rfl rfl rfl rfl rfl (ow_not rfl rfl ?_)
    refine lw_op rfl rfl rfl (ow_pickF rfl rfl rfl ?_)
    refine lw_nil ?_
    refine ew_then ?_
    replace h := cond_some h
    rcases h with ⟨hc2, h⟩ | ⟨hc2, h⟩
    · subst hc2
      refine cw_false rfl ?_
      refine cw_skip ?_
      refine ew_then ?_
      refine cw_seq ?_
      refine cw_seq ?_
      refine cw_region ?_
      refine lw_op rfl rfl rfl (ow_move rfl rfl ?_)
      refine lw_op rfl rfl rfl (ow_len rfl rfl (VRep.mono ((hl1.trans hl2).trans hl3) h0) Tryd.underlying37 rfl ?_)
      refine lw_op rfl rfl rfl (ow_move rfl rfl ?_)
      refine lw_nil ?_
      refine ew_then ?_
      replace h := bind_some h
      obtain ⟨lr1, hlr1, h⟩ := h
      refine cw_for hlr1 (fun s a w' => ∃ (M' : Nat → Prop), Fits 26 [(3, (.pointer (some p1))), (15, v0p), (16, (.int .i64 (a_list.length : Int))), (17, (.int .i64 s))] a ∧ Le w3 M w' M' ∧ Cx No w M w' M') ?_ ?_ ?_
      · intro a ha
        exact ⟨M, ha.sub ⟨rfl, rfl, rfl, rfl, trivial⟩, Le.refl _ _, hC3⟩
      · rintro k1 a w4 sr1 ⟨M1, hF1, hl4, hC4⟩ hb4 hR1
        refine cw_at (E := [(3, (.pointer (some p1))), (15, v0p), (16, (.int .i64 (a_list.length : Int))), (17, (.int .i64 k1))]) hF1 ?_
        refine cw_seq ?_
        refine cw_region ?_
        refine lw_op rfl rfl rfl (ow_lss rfl rfl rfl fun bb1 hbb1 => ?_)
        refine lw_nil ?_
        refine ew_then ?_
        refine cw_seq ?_
        replace hb4 := cond_some hb4
        rcases hb4 with ⟨hc3, hb4⟩ | ⟨hc3, hb4⟩
        · obtain rfl := hbb1.trans hc3
          refine cw_true rfl ?_
          refine cw_skip ?_
          refine ew_then ?_
          refine cw_seq ?_
          refine cw_block ?_
          refine cw_seq ?_
          refine cw_region ?_
          replace hb4 := bind_some hb4
          obtain ⟨x3, hx3, hb4⟩ := hb4
          refine lw_op rfl rfl rfl (ow_indexSlice (R := RBox) rfl rfl rfl (VRep.mono (((hl1.trans hl2).trans hl3).trans hl4) h0) Tryd.underlying37 (Tryd.sizeOf29 _) hx3 fun p2 hp2 => ?_)
          refine lw_op rfl rfl rfl (ow_load (R := RBox) rfl rfl hp2 (Tryd.sizeOf29 _) (Tryd.isAgg29 _) fun v5 hv5 => ?_)
          refine lw_allocStore (R := RBox) rfl rfl rfl rfl rfl rfl rfl Tryd.zeroValue29 Tryd.sizeOf29 rfl rfl rfl (by simp) hv5 hC4 fun p3 w5 hp3 hb5 hl5 hC5 => ?_
          refine lw_nil ?_
          refine ew_then ?_
          refine cw_seq ?_
          replace hb4 := bind_some hb4
          obtain ⟨x4, hx4, hb4⟩ := hb4
          refine cw_sub (E' := [(3, (.pointer (some p1))), (6, (.pointer (some p3))), (15, v0p), (16, (.int .i64 (a_list.length : Int))), (17, (.int .i64 k1))]) ⟨rfl, rfl, rfl, rfl, rfl, trivial⟩ ?_
          refine cw_drawQ 3 [PV RBox M1 x3, PV (RArr 4 (RSlice RSpan)) M1 x4, PV RPacket M1 a_p] (by kernel_rfl) rfl (by kernel_rfl) ⟨PV.mono _ _ _, PV.mono _ _ _, PV.mono _ _ _, trivial⟩ ⟨?_, ?_, ?_, trivial⟩ ?_
          · intro w7 D hS1 hd1
            have hl7 := Le.no M1 hS1
            have hC7 := hC5.no hS1
            refine dg_sub (E' := [(6, (.pointer (some p3)))]) ⟨rfl, trivial⟩ ?_
            refine dg_plain rfl (ow_load (R := RBox) rfl rfl (ARep.mono hl7 hp3) (Tryd.sizeOf29 _) (Tryd.isAgg29 _) fun v9 hv9 => ?_)
            exact ⟨BX.refl _ _, hv9⟩
          · intro w8 D hS2 hd2
            have hl8 := Le.no M1 hS2
            have hC8 := hC5.no hS2
            have hd2 : PV RBox M1 x3 (D 0) w8 ∧ True := hd2
            obtain ⟨d1, -⟩ := hd2
            obtain ⟨v10, hq1⟩ : ∃ v, (D 0) = v := ⟨_, rfl⟩
            rw [hq1] at d1
            refine dg_sub (E' := [(21, v10)]) ⟨(congrArg some hq1), trivial⟩ ?_
            refine dg_plain rfl (ow_call rfl rfl Tryd.call64 (w_impl_sidesOf (hG.mono (((((hl1.trans hl2).trans hl3).trans hl4).trans hl5).trans hl8)) hC8.old d1 hx4) fun v11 w9 hv11 => ?_)
            obtain ⟨hv11, hb7⟩ := hv11
            have hl9 := Le.no M1 hb7
            have hC9 := hC8.no hb7
            exact ⟨hb7, hv11⟩
          · intro w10 D hS3 hd3
            have hl10 := Le.no M1 hS3
            have hC10 := hC5.no hS3
            refine dg_sub (E' := [(3, (.pointer (some p1)))]) ⟨rfl, trivial⟩ ?_
            refine dg_plain rfl (ow_load (R := RPacket) rfl rfl (ARep.mono ((((hl2.trans hl3).trans hl4).trans hl5).trans hl10) hp1) (Tryd.sizeOf39 _) (Tryd.isAgg39 _) fun v12 hv12 => ?_)
            exact ⟨BX.refl _ _, hv12⟩
          · intro w11 D hS4 hd4
            have hl11 := Le.no M1 hS4
            have hC11 := hC5.no hS4
            have hd4 : PV RBox M1 x3 (D 0) w11 ∧ PV (RArr 4 (RSlice RSpan)) M1 x4 (D 1) w11 ∧ PV RPacket M1 a_p (D 2) w11 ∧ True := hd4
            obtain ⟨-, d3, d4, -⟩ := hd4
            obtain ⟨v13, hq2⟩ : ∃ v, (D 1) = v := ⟨_, rfl⟩
            rw [hq2] at d3
            obtain ⟨v14, hq3⟩ : ∃ v, (D 2) = v := ⟨_, rfl⟩
            rw [hq3] at d4
            refine lw_sub (E' := [(22, v13), (23, v14), (3, (.pointer (some p1))), (6, (.pointer (some p3))), (15, v0p), (16, (.int .i64 (a_list.length : Int))), (17, (.int .i64 k1))]) ⟨(congrArg some hq2), (congrArg some hq3), rfl, rfl, rfl, rfl, rfl, trivial⟩ ?_
            replace hb4 := bind_some hb4
            obtain ⟨x5, hx5, hb4⟩ := hb4
            refine lw_op rfl rfl rfl (ow_call rfl rfl Tryd.call71 (w_impl_sides_has (hG.mono (((((hl1.trans hl2).trans hl3).trans hl4).trans hl5).trans hl11)) hC11.old d3 d4 hx5) fun v15 w12 hv15 => ?_)
            obtain ⟨hv15, hb8⟩ := hv15
            have hl12 := Le.no M1 hb8
            have hC12 := hC11.no hb8
            obtain rfl := vbool_eq hv15
            refine lw_nil ?_
            refine ew_then ?_
            replace hb4 := cond_some hb4
            rcases hb4 with ⟨hc4, hb4⟩ | ⟨hc4, hb4⟩
            · subst hc4
              refine cw_true rfl ?_
              refine cw_seq ?_
              refine cw_region ?_
              refine lw_op rfl rfl rfl (ow_assign rfl rfl ?_)
              refine lw_nil ?_
              refine ew_then ?_
              refine cw_ret ?_
              refine ew_blockR ?_
              refine ew_thenR ?_
              refine ew_thenR ?_
              refine ew_blockR ?_
              refine ew_brkR ?_
              refine ew_thenR ?_
              have e1 := hR1 _ (Option.some.inj hb4).symm
              subst e1
              obtain rfl := Option.some.inj h
              exact ew_ret (res1 rfl (.tmp rfl)) ⟨_, rfl, ((vbool _)), hC12.bx⟩
            · subst hc4
              refine cw_false rfl ?_
              refine cw_skip ?_
              refine ew_blockN ?_
              refine ew_then ?_
              refine cw_region ?_
              refine lw_op rfl rfl rfl (ow_add rfl rfl rfl ?_)
              refine lw_op rfl rfl rfl (ow_move rfl rfl ?_)
              refine lw_nil ?_
              refine ew_nxt (W (k1 + 1)) hb4 fun a ha => ⟨M1, ?_, (((hl4.trans hl5).trans hl11).trans hl12), hC12⟩
              exact ha.sub ⟨rfl, rfl, rfl, rfl, trivial⟩
        · obtain rfl := hbb1.trans hc3
          refine cw_false rfl ?_
          refine cw_exit ?_
          refine ew_thenX ?_
          refine ew_thenX ?_
          refine ew_blockX ?_
          refine ew_brk k1 hb4 fun a ha => ⟨M1, ?_, hl4, hC4⟩
          exact ha.sub ⟨rfl, rfl, rfl, rfl, trivial⟩
      · rintro k2 a w13 hlr2 ⟨M2, hF2, hl13, hC13⟩
        subst hlr2
        refine ew_at (E := [(3, (.pointer (some p1))), (15, v0p), (16, (.int .i64 (a_list.length : Int))), (17, (.int .i64 k2))]) hF2 ?_
        refine ew_then ?_
        refine cw_seq ?_
        refine cw_region ?_
        refine lw_op rfl rfl rfl (ow_assign rfl rfl ?_)
        refine lw_nil ?_
        refine ew_then ?_
        refine cw_ret ?_
        obtain rfl := Option.some.inj h
        exact ew_ret (res1 rfl (.tmp rfl)) ⟨_, rfl, ((vbool _)), hC13.bx⟩
    · subst hc2
      refine cw_true rfl ?_
      refine cw_seq ?_
      refine cw_region ?_
      refine lw_op rfl rfl rfl (ow_assign rfl rfl ?_)
      refine lw_nil ?_
      refine ew_then ?_
      refine cw_ret ?_
      refine ew_thenR ?_
      obtain rfl := Option.some.inj h
      exact ew_ret (res1 rfl (.tmp rfl)) ⟨_, rfl, ((vbool _)), hC3.bx⟩
  · subst hc1
    refine lw_off rfl rfl rfl rfl rfl rfl ?_
    refine lw_off rfl rfl rfl rfl rfl rfl ?_
    refine lw_off rfl rfl rfl rfl rfl rfl ?_
    refine lw_op rfl rfl rfl (ow_pickT rfl rfl rfl ?_)
    refine lw_nil ?_
    refine ew_then ?_
    refine cw_true rfl ?_
    refine cw_seq ?_
    refine cw_region ?_
    refine lw_op rfl rfl rfl (ow_assign rfl rfl ?_)
    refine lw_nil ?_
    refine ew_then ?_
    refine cw_ret ?_
    refine ew_thenR ?_
    obtain rfl := Option.some.inj h
    exact ew_ret (res1 rfl (.tmp rfl)) ⟨_, rfl, ((vbool _)), hC2.bx⟩

theorem w_laws_eqSpan {w : World} {M : Nat → Prop} (_hG : ARep (RArr 4 RShape) w M shapes ⟨0, 0, none⟩) (hO : ∀ b, M b → b < w.heap.size) {v0p : Value} {a_a : Span} (h0 : VRep RSpan w M a_a v0p) {v1p : Value} {a_b : Span} (h1 : VRep RSpan w M a_b v1p) {r : Bool} (h : F.laws_eqSpan a_a a_b = some r) :
    Calls Tryd.prog 146 [v0p, v1p].toArray w fun e w' => ∃ v, e = .returned v ∧ VRep RBool w' M r v ∧ BX No w w' := by
  have hC : Cx No w M w M := Cx.start hO (fun _ e => e.elim)
  clear _hG
  refine walk (N := 15) Tryd.func146 rfl Tryd.ntmps146 rfl ?_
  refine cw_seq ?_
  refine cw_region ?_
  refine lw_op rfl rfl rfl (ow_box (R := RSpan) rfl rfl h0 hC fun p1 w1 hp1 hb1 hl1 hC1 => ?_)
  refine lw_op rfl rfl rfl (ow_box (R := RSpan) rfl rfl (VRep.mono hl1 h1) hC1 fun p2 w2 hp2 hb2 hl2 hC2 => ?_)
  refine lw_op rfl rfl rfl (ow_assign rfl rfl ?_)
  refine lw_nil ?_
  refine ew_then ?_
  refine cw_seq ?_
  refine cw_seq ?_
  refine cw_region ?_
  refine lw_op rfl rfl rfl (ow_fieldAddr rfl rfl Tryd.underlying140 rfl (Tryd.sizeOf3 _) ?_)
  refine lw_op rfl rfl rfl (ow_load (R := RInt) rfl rfl (ARep.mono hl2 (hp1.fld fld_Span_Lo)) (Tryd.sizeOf3 _) (Tryd.isAgg3 _) fun v1 hv1 => ?_)
  obtain rfl := vint_eq hv1
  refine lw_op rfl rfl rfl (ow_fieldAddr rfl rfl Tryd.underlying140 rfl (Tryd.sizeOf3 _) ?_)
  refine lw_op rfl rfl rfl (ow_load (R := RInt) rfl rfl (hp2.fld fld_Span_Lo) (Tryd.sizeOf3 _) (Tryd.isAgg3 _) fun v2 hv2 => ?_)
  obtain rfl := vint_eq hv2
  refine lw_op rfl rfl rfl (ow_neqI rfl rfl rfl fun bb1 hbb1 => ?_)
  refine lw_nil ?_
  refine ew_then ?_
  replace h := cond_some h
  rcases h with ⟨hc1, h⟩ | ⟨hc1, h⟩
  · obtain rfl := hbb1.trans hc1
    refine cw_true rfl ?_
    refine cw_seq ?_
    refine cw_region ?_
    refine lw_op rfl rfl rfl (ow_assign rfl rfl ?_)
    refine lw_nil ?_
    refine ew_then ?_
    refine cw_ret ?_
    refine ew_thenR ?_
    obtain rfl := Option.some.inj h
    exact ew_ret (res1 rfl (.tmp rfl)) ⟨_, rfl, ((vbool _)), hC2.bx⟩
  · obtain rfl := hbb1.trans hc1
    refine cw_false rfl ?_
    refine cw_skip ?_
    refine ew_then ?_
    refine cw_seq ?_
    refine cw_seq ?_
    refine cw_region ?_
    refine lw_op rfl rfl rfl (ow_fieldAddr rfl rfl Tryd.underlying140 rfl (Tryd.sizeOf3 _) ?_)
    refine lw_op rfl rfl rfl (ow_load (R := RInt) rfl rfl (ARep.mono hl2 (hp1.fld fld_Span_Hi)) (Tryd.sizeOf3 _) (Tryd.isAgg3 _) fun v3 hv3 => ?_)
    obtain rfl := vint_eq hv3
    refine lw_op rfl rfl rfl (ow_fieldAddr rfl rfl Tryd.underlying140 rfl (Tryd.sizeOf3 _) ?_)
    refine lw_op rfl rfl rfl (ow_load (R := RInt) rfl rfl (hp2.fld fld_Span_Hi) (Tryd.sizeOf3 _) (Tryd.isAgg3 _) fun v4 hv4 => ?_)
    obtain rfl := vint_eq hv4
    refine lw_op rfl rfl rfl (ow_neqI rfl rfl rfl fun bb2 hbb2 => ?_)
    refine lw_nil ?_
    refine ew_then ?_
    replace h := cond_some h
    rcases h with ⟨hc2, h⟩ | ⟨hc2, h⟩
    · obtain rfl := hbb2.trans hc2
      refine cw_true rfl ?_
      refine cw_seq ?_
      refine cw_region ?_
      refine lw_op rfl rfl rfl (ow_assign rfl rfl ?_)
      refine lw_nil ?_
      refine ew_then ?_
      refine cw_ret ?_
      refine ew_thenR ?_
      obtain rfl := Option.some.inj h
      exact ew_ret (res1 rfl (.tmp rfl)) ⟨_, rfl, ((vbool _)), hC2.bx⟩
    · obtain rfl := hbb2.trans hc2
      refine cw_false rfl ?_
      refine cw_skip ?_
      refine ew_then ?_
      refine cw_seq ?_
      refine cw_region ?_
      refine lw_op rfl rfl rfl (ow_assign rfl rfl ?_)
      refine lw_nil ?_
      refine ew_then ?_
      refine cw_ret ?_
      obtain rfl := Option.some.inj h
      exact ew_ret (res1 rfl (.tmp rfl)) ⟨_, rfl, ((vbool _)), hC2.bx⟩

theorem w_laws_eqSpanS {w : World} {M : Nat → Prop} (hG : ARep (RArr 4 RShape) w M shapes ⟨0, 0, none⟩) (hO : ∀ b, M b → b < w.heap.size) {v0p : Value} {a_a : List Span} (h0 : VRep (RSlice RSpan) w M a_a v0p) {v1p : Value} {a_b : List Span} (h1 : VRep (RSlice RSpan) w M a_b v1p) {r : Bool} (h : F.laws_eqSpanS a_a a_b = some r) :
    Calls Tryd.prog 116 [v0p, v1p].toArray w fun e w' => ∃ v, e = .returned v ∧ VRep RBool w' M r v ∧ BX No w w' := by
  have hC : Cx No w M w M := Cx.start hO (fun _ e => e.elim)
  refine walk (N := 27) Tryd.func116 rfl Tryd.ntmps116 rfl ?_
  refine cw_seq ?_
  refine cw_region ?_
  refine lw_op rfl rfl rfl (ow_assign rfl rfl ?_)
  refine lw_nil ?_
  refine ew_then ?_
  refine cw_seq ?_
  refine cw_seq ?_
  refine cw_region ?_
  refine lw_op rfl rfl rfl (ow_move rfl rfl ?_)
  refine lw_op rfl rfl rfl (ow_len rfl rfl h0 Tryd.underlying93 rfl ?_)
  refine lw_op rfl rfl rfl (ow_move rfl rfl ?_)
  refine lw_op rfl rfl rfl (ow_len rfl rfl h1 Tryd.underlying93 rfl ?_)
  refine lw_op rfl rfl rfl (ow_neqI rfl rfl rfl fun bb1 hbb1 => ?_)
  refine lw_nil ?_
  refine ew_then ?_
  replace h := cond_some h
  rcases h with ⟨hc1, h⟩ | ⟨hc1, h⟩
  · obtain rfl := hbb1.trans hc1
    refine cw_true rfl ?_
    refine cw_seq ?_
    refine cw_region ?_
    refine lw_op rfl rfl rfl (ow_assign rfl rfl ?_)
    refine lw_nil ?_
    refine ew_then ?_
    refine cw_ret ?_
    refine ew_thenR ?_
    obtain rfl := Option.some.inj h
    exact ew_ret (res1 rfl (.tmp rfl)) ⟨_, rfl, ((vbool _)), hC.bx⟩
  · obtain rfl := hbb1.trans hc1
    refine cw_false rfl ?_
    refine cw_skip ?_
    refine ew_then ?_
    refine cw_seq ?_
    refine cw_seq ?_
    refine cw_region ?_
    refine lw_op rfl rfl rfl (ow_assign rfl rfl ?_)
    refine lw_nil ?_
    refine ew_then ?_
    replace h := bind_some h
    obtain ⟨lr1, hlr1, h⟩ := h
    refine cw_for hlr1 (fun s a w' => ∃ (M' : Nat → Prop), Fits 27 [(0, v0p), (1, v1p), (5, (.int .i64 s))] a ∧ Le w M w' M' ∧ Cx No w M w' M') ?_ ?_ ?_
    · intro a ha
      exact ⟨M, ha.sub ⟨rfl, rfl, rfl, trivial⟩, Le.refl _ _, hC⟩
    · rintro k1 a w1 sr1 ⟨M1, hF1, hl1, hC1⟩ hb1 hR1
      refine cw_at (E := [(0, v0p), (1, v1p), (5, (.int .i64 k1))]) hF1 ?_
      refine cw_seq ?_
      refine cw_seq ?_
      refine cw_region ?_
      refine lw_op rfl rfl rfl (ow_move rfl rfl ?_)
      refine lw_op rfl rfl rfl (ow_move rfl rfl ?_)
      refine lw_op rfl rfl rfl (ow_len rfl rfl (VRep.mono hl1 h0) Tryd.underlying93 rfl ?_)
      refine lw_op rfl rfl rfl (ow_lss rfl rfl rfl fun bb2 hbb2 => ?_)
      refine lw_nil ?_
      refine ew_then ?_
      replace hb1 := cond_some hb1
      rcases hb1 with ⟨hc2, hb1⟩ | ⟨hc2, hb1⟩
      · obtain rfl := hbb2.trans hc2
        refine cw_true rfl ?_
        refine cw_skip ?_
        refine ew_then ?_
        refine cw_seq ?_
        refine cw_block ?_
        refine cw_seq ?_
        replace hb1 := bind_some hb1
        obtain ⟨x1, hx1, hb1⟩ := hb1
        replace hb1 := bind_some hb1
        obtain ⟨x2, hx2, hb1⟩ := hb1
        refine cw_sub (E' := [(0, v0p), (1, v1p), (5, (.int .i64 k1))]) ⟨rfl, rfl, rfl, trivial⟩ ?_
        refine cw_drawQ 8 [PV (RSlice RSpan) M1 a_a, PEq (.int .i64 k1), PA RSpan M1 x1, PV RSpan M1 x1, PV (RSlice RSpan) M1 a_b, PEq (.int .i64 k1), PA RSpan M1 x2, PV RSpan M1 x2] (by kernel_rfl) rfl (by kernel_rfl) ⟨PV.mono _ _ _, PEq.mono _, PA.mono _ _ _, PV.mono _ _ _, PV.mono _ _ _, PEq.mono _, PA.mono _ _ _, PV.mono _ _ _, trivial⟩ ⟨?_, ?_, ?_, ?_, ?_, ?_, ?_, ?_, trivial⟩ ?_
        · intro w2 D hS1 hd1
          have hl2 := Le.no M1 hS1
          have hC2 := hC1.no hS1
          refine dg_sub (E' := [(0, v0p)]) ⟨rfl, trivial⟩ ?_
          refine dg_plain rfl (ow_move rfl rfl ?_)
          exact ⟨BX.refl _ _, (VRep.mono (hl1.trans hl2) h0)⟩
        · intro w3 D hS2 hd2
          have hl3 := Le.no M1 hS2
          have hC3 := hC1.no hS2
          refine dg_sub (E' := [(5, (.int .i64 k1))]) ⟨rfl, trivial⟩ ?_
          refine dg_plain rfl (ow_move rfl rfl ?_)
          exact ⟨BX.refl _ _, rfl⟩
        · intro w4 D hS3 hd3
          have hl4 := Le.no M1 hS3
          have hC4 := hC1.no hS3
          have hd3 : PV (RSlice RSpan) M1 a_a (D 0) w4 ∧ PEq (.int .i64 k1) (D 1) w4 ∧ True := hd3
          obtain ⟨d1, d2, -⟩ := hd3
          obtain ⟨v4, hq1⟩ : ∃ v, (D 0) = v := ⟨_, rfl⟩
          rw [hq1] at d1
          refine dg_sub (E' := [(17, v4), (18, (.int .i64 k1))]) ⟨(congrArg some hq1), (congrArg some d2), trivial⟩ ?_
          refine dg_plain rfl (ow_indexSlice (R := RSpan) rfl rfl rfl d1 Tryd.underlying93 (Tryd.sizeOf140 _) hx1 fun p3 hp3 => ?_)
          exact ⟨BX.refl _ _, ⟨_, rfl, hp3⟩⟩
        · intro w5 D hS4 hd4
          have hl5 := Le.no M1 hS4
          have hC5 := hC1.no hS4
          have hd4 : PA RSpan M1 x1 (D 2) w5 ∧ True := hd4
          obtain ⟨d3, -⟩ := hd4
          obtain ⟨p4, e1, ha1⟩ := d3
          refine dg_sub (E' := [(19, (.pointer (some p4)))]) ⟨(congrArg some e1), trivial⟩ ?_
          refine dg_plain rfl (ow_load (R := RSpan) rfl rfl ha1 (Tryd.sizeOf140 _) (Tryd.isAgg140 _) fun v5 hv5 => ?_)
          exact ⟨BX.refl _ _, hv5⟩
        · intro w6 D hS5 hd5
          have hl6 := Le.no M1 hS5
          have hC6 := hC1.no hS5
          refine dg_sub (E' := [(1, v1p)]) ⟨rfl, trivial⟩ ?_
          refine dg_plain rfl (ow_move rfl rfl ?_)
          exact ⟨BX.refl _ _, (VRep.mono (hl1.trans hl6) h1)⟩
        · intro w7 D hS6 hd6
          have hl7 := Le.no M1 hS6
          have hC7 := hC1.no hS6
          refine dg_sub (E' := [(5, (.int .i64 k1))]) ⟨rfl, trivial⟩ ?_
          refine dg_plain rfl (ow_move rfl rfl ?_)
          exact ⟨BX.refl _ _, rfl⟩
        · intro w8 D hS7 hd7
          have hl8 := Le.no M1 hS7
          have hC8 := hC1.no hS7
          have hd7 : PV (RSlice RSpan) M1 a_b (D 4) w8 ∧ PEq (.int .i64 k1) (D 5) w8 ∧ True := hd7
          obtain ⟨d4, d5, -⟩ := hd7
          obtain ⟨v6, hq2⟩ : ∃ v, (D 4) = v := ⟨_, rfl⟩
          rw [hq2] at d4
          refine dg_sub (E' := [(21, v6), (22, (.int .i64 k1))]) ⟨(congrArg some hq2), (congrArg some d5), trivial⟩ ?_
          refine dg_plain rfl (ow_indexSlice (R := RSpan) rfl rfl rfl d4 Tryd.underlying93 (Tryd.sizeOf140 _) hx2 fun p5 hp5 => ?_)
          exact ⟨BX.refl _ _, ⟨_, rfl, hp5⟩⟩
        · intro w9 D hS8 hd8
          have hl9 := Le.no M1 hS8
          have hC9 := hC1.no hS8
          have hd8 : PA RSpan M1 x2 (D 6) w9 ∧ True := hd8
          obtain ⟨d6, -⟩ := hd8
          obtain ⟨p6, e2, ha2⟩ := d6
          refine dg_sub (E' := [(23, (.pointer (some p6)))]) ⟨(congrArg some e2), trivial⟩ ?_
          refine dg_plain rfl (ow_load (R := RSpan) rfl rfl ha2 (Tryd.sizeOf140 _) (Tryd.isAgg140 _) fun v7 hv7 => ?_)
          exact ⟨BX.refl _ _, hv7⟩
        · intro w10 D hS9 hd9
          have hl10 := Le.no M1 hS9
          have hC10 := hC1.no hS9
          have hd9 : PV (RSlice RSpan) M1 a_a (D 0) w10 ∧ PEq (.int .i64 k1) (D 1) w10 ∧ PA RSpan M1 x1 (D 2) w10 ∧ PV RSpan M1 x1 (D 3) w10 ∧ PV (RSlice RSpan) M1 a_b (D 4) w10 ∧ PEq (.int .i64 k1) (D 5) w10 ∧ PA RSpan M1 x2 (D 6) w10 ∧ PV RSpan M1 x2 (D 7) w10 ∧ True := hd9
          obtain ⟨-, -, -, d10, -, -, -, d14, -⟩ := hd9
          obtain ⟨v8, hq3⟩ : ∃ v, (D 3) = v := ⟨_, rfl⟩
          rw [hq3] at d10
          obtain ⟨v9, hq4⟩ : ∃ v, (D 7) = v := ⟨_, rfl⟩
          rw [hq4] at d14
          refine lw_sub (E' := [(20, v8), (24, v9), (0, v0p), (1, v1p), (5, (.int .i64 k1))]) ⟨(congrArg some hq3), (congrArg some hq4), rfl, rfl, rfl, trivial⟩ ?_
          replace hb1 := bind_some hb1
          obtain ⟨x3, hx3, hb1⟩ := hb1
          refine lw_op rfl rfl rfl (ow_call rfl rfl Tryd.call146 (w_laws_eqSpan (hG.mono (hl1.trans hl10)) hC10.old d10 d14 hx3) fun v10 w11 hv10 => ?_)
          obtain ⟨hv10, hb2⟩ := hv10
          have hl11 := Le.no M1 hb2
          have hC11 := hC10.no hb2
          obtain rfl := vbool_eq hv10
          refine lw_op rfl rfl rfl (ow_not rfl rfl ?_)
          refine lw_nil ?_
          refine ew_then ?_
          replace hb1 := cond_some hb1
          rcases hb1 with ⟨hc3, hb1⟩ | ⟨hc3, hb1⟩
          · subst hc3
            refine cw_false rfl ?_
            refine cw_skip ?_
            refine ew_blockN ?_
            refine ew_then ?_
            refine cw_region ?_
            refine lw_op rfl rfl rfl (ow_move rfl rfl ?_)
            refine lw_op rfl rfl rfl (ow_add rfl rfl rfl ?_)
            refine lw_op rfl rfl rfl (ow_assign rfl rfl ?_)
            refine lw_nil ?_
            refine ew_nxt (W (k1 + 1)) hb1 fun a ha => ⟨M1, ?_, ((hl1.trans hl10).trans hl11), hC11⟩
            exact ha.sub ⟨rfl, rfl, rfl, trivial⟩
          · subst hc3
            refine cw_true rfl ?_
            refine cw_seq ?_
            refine cw_region ?_
            refine lw_op rfl rfl rfl (ow_assign rfl rfl ?_)
            refine lw_nil ?_
            refine ew_then ?_
            refine cw_ret ?_
            refine ew_blockR ?_
            refine ew_thenR ?_
            refine ew_thenR ?_
            refine ew_blockR ?_
            refine ew_brkR ?_
            refine ew_thenR ?_
            have e3 := hR1 _ (Option.some.inj hb1).symm
            subst e3
            obtain rfl := Option.some.inj h
            exact ew_ret (res1 rfl (.tmp rfl)) ⟨_, rfl, ((vbool _)), hC11.bx⟩
      · obtain rfl := hbb2.trans hc2
        refine cw_false rfl ?_
        refine cw_exit ?_
        refine ew_thenX ?_
        refine ew_thenX ?_
        refine ew_blockX ?_
        refine ew_brk k1 hb1 fun a ha => ⟨M1, ?_, hl1, hC1⟩
        exact ha.sub ⟨rfl, rfl, rfl, trivial⟩
    · rintro k2 a w12 hlr2 ⟨M2, hF2, hl12, hC12⟩
      subst hlr2
      refine ew_at (E := [(0, v0p), (1, v1p), (5, (.int .i64 k2))]) hF2 ?_
      refine ew_then ?_
      refine cw_seq ?_
      refine cw_region ?_
      refine lw_op rfl rfl rfl (ow_assign rfl rfl ?_)
      refine lw_nil ?_
      refine ew_then ?_
      refine cw_ret ?_
      obtain rfl := Option.some.inj h
      exact ew_ret (res1 rfl (.tmp rfl)) ⟨_, rfl, ((vbool _)), hC12.bx⟩

theorem w_laws_eqSpanSS {w : World} {M : Nat → Prop} (hG : ARep (RArr 4 RShape) w M shapes ⟨0, 0, none⟩) (hO : ∀ b, M b → b < w.heap.size) {v0p : Value} {a_a : List (List Span)} (h0 : VRep (RSlice (RSlice RSpan)) w M a_a v0p) {v1p : Value} {a_b : List (List Span)} (h1 : VRep (RSlice (RSlice RSpan)) w M a_b v1p) {r : Bool} (h : F.laws_eqSpanSS a_a a_b = some r) :
    Calls Tryd.prog 66 [v0p, v1p].toArray w fun e w' => ∃ v, e = .returned v ∧ VRep RBool w' M r v ∧ BX No w w' := by
  have hC : Cx No w M w M := Cx.start hO (fun _ e => e.elim)
  refine walk (N := 27) Tryd.func66 rfl Tryd.ntmps66 rfl ?_
  refine cw_seq ?_
  refine cw_region ?_
  refine lw_op rfl rfl rfl (ow_assign rfl rfl ?_)
  refine lw_nil ?_
  refine ew_then ?_
  refine cw_seq ?_
  refine cw_seq ?_
  refine cw_region ?_
  refine lw_op rfl rfl rfl (ow_move rfl rfl ?_)
  refine lw_op rfl rfl rfl (ow_len rfl rfl h0 Tryd.underlying27 rfl ?_)
  refine lw_op rfl rfl rfl (ow_move rfl rfl ?_)
  refine lw_op rfl rfl rfl (ow_len rfl rfl h1 Tryd.underlying27 rfl ?_)
  refine lw_op rfl rfl rfl (ow_neqI rfl rfl rfl fun bb1 hbb1 => ?_)
  refine lw_nil ?_
  refine ew_then ?_
  replace h := cond_some h
  rcases h with ⟨hc1, h⟩ | ⟨hc1, h⟩
  · obtain rfl := hbb1.trans hc1
    refine cw_true rfl ?_
    refine cw_seq ?_
    refine cw_region ?_
    refine lw_op rfl rfl rfl (ow_assign rfl rfl ?_)
    refine lw_nil ?_
    refine ew_then ?_
    refine cw_ret ?_
    refine ew_thenR ?_
    obtain rfl := Option.some.inj h
    exact ew_ret (res1 rfl (.tmp rfl)) ⟨_, rfl, ((vbool _)), hC.bx⟩
  · obtain rfl := hbb1.trans hc1
    refine cw_false rfl ?_
    refine cw_skip ?_
    refine ew_then ?_
    refine cw_seq ?_
    refine cw_seq ?_
    refine cw_region ?_
    refine lw_op rfl rfl rfl (ow_assign rfl rfl ?_)
    refine lw_nil ?_
    refine ew_then ?_
    replace h := bind_some h
    obtain ⟨lr1, hlr1, h⟩ := h
    refine cw_for hlr1 (fun s a w' => ∃ (M' : Nat → Prop), Fits 27 [(0, v0p), (1, v1p), (5, (.int .i64 s))] a ∧ Le w M w' M' ∧ Cx No w M w' M') ?_ ?_ ?_
    · intro a ha
      exact ⟨M, ha.sub ⟨rfl, rfl, rfl, trivial⟩, Le.refl _ _, hC⟩
    · rintro k1 a w1 sr1 ⟨M1, hF1, hl1, hC1⟩ hb1 hR1
      refine cw_at (E := [(0, v0p), (1, v1p), (5, (.int .i64 k1))]) hF1 ?_
      refine cw_seq ?_
      refine cw_seq ?_
      refine cw_region ?_
      refine lw_op rfl rfl rfl (ow_move rfl rfl ?_)
      refine lw_op rfl rfl rfl (ow_move rfl rfl ?_)
      refine lw_op rfl rfl rfl (ow_len rfl rfl (VRep.mono hl1 h0) Tryd.underlying27 rfl ?_)
      refine lw_op rfl rfl rfl (ow_lss rfl rfl rfl fun bb2 hbb2 => ?_)
      refine lw_nil ?_
      refine ew_then ?_
      replace hb1 := cond_some hb1
      rcases hb1 with ⟨hc2, hb1⟩ | ⟨hc2, hb1⟩
      · obtain rfl := hbb2.trans hc2
        refine cw_true rfl ?_
        refine cw_skip ?_
        refine ew_then ?_
        refine cw_seq ?_
        refine cw_block ?_
        refine cw_seq ?_
        replace hb1 := bind_some hb1
        obtain ⟨x1, hx1, hb1⟩ := hb1
        replace hb1 := bind_some hb1
        obtain ⟨x2, hx2, hb1⟩ := hb1
        refine cw_sub (E' := [(0, v0p), (1, v1p), (5, (.int .i64 k1))]) ⟨rfl, rfl, rfl, trivial⟩ ?_
        refine cw_drawQ 8 [PV (RSlice (RSlice RSpan)) M1 a_a, PEq (.int .i64 k1), PA (RSlice RSpan) M1 x1, PV (RSlice RSpan) M1 x1, PV (RSlice (RSlice RSpan)) M1 a_b, PEq (.int .i64 k1), PA (RSlice RSpan) M1 x2, PV (RSlice RSpan) M1 x2] (by kernel_rfl) rfl (by kernel_rfl) ⟨PV.mono _ _ _, PEq.mono _, PA.mono _ _ _, PV.mono _ _ _, PV.mono _ _ _, PEq.mono _, PA.mono _ _ _, PV.mono _ _ _, trivial⟩ ⟨?_, ?_, ?_, ?_, ?_, ?_, ?_, ?_, trivial⟩ ?_
        · intro w2 D hS1 hd1
          have hl2 := Le.no M1 hS1
          have hC2 := hC1.no hS1
          refine dg_sub (E' := [(0, v0p)]) ⟨rfl, trivial⟩ ?_
          refine dg_plain rfl (ow_move rfl rfl ?_)
          exact ⟨BX.refl _ _, (VRep.mono (hl1.trans hl2) h0)⟩
        · intro w3 D hS2 hd2
          have hl3 := Le.no M1 hS2
          have hC3 := hC1.no hS2
          refine dg_sub (E' := [(5, (.int .i64 k1))]) ⟨rfl, trivial⟩ ?_
          refine dg_plain rfl (ow_move rfl rfl ?_)
          exact ⟨BX.refl _ _, rfl⟩
        · intro w4 D hS3 hd3
          have hl4 := Le.no M1 hS3
          have hC4 := hC1.no hS3
          have hd3 : PV (RSlice (RSlice RSpan)) M1 a_a (D 0) w4 ∧ PEq (.int .i64 k1) (D 1) w4 ∧ True := hd3
          obtain ⟨d1, d2, -⟩ := hd3
          obtain ⟨v4, hq1⟩ : ∃ v, (D 0) = v := ⟨_, rfl⟩
          rw [hq1] at d1
          refine dg_sub (E' := [(17, v4), (18, (.int .i64 k1))]) ⟨(congrArg some hq1), (congrArg some d2), trivial⟩ ?_
          refine dg_plain rfl (ow_indexSlice (R := (RSlice RSpan)) rfl rfl rfl d1 Tryd.underlying27 (Tryd.sizeOf93 _) hx1 fun p3 hp3 => ?_)
          exact ⟨BX.refl _ _, ⟨_, rfl, hp3⟩⟩
        · intro w5 D hS4 hd4
          have hl5 := Le.no M1 hS4
          have hC5 := hC1.no hS4
          have hd4 : PA (RSlice RSpan) M1 x1 (D 2) w5 ∧ True := hd4
          obtain ⟨d3, -⟩ := hd4
          obtain ⟨p4, e1, ha1⟩ := d3
          refine dg_sub (E' := [(19, (.pointer (some p4)))]) ⟨(congrArg some e1), trivial⟩ ?_
          refine dg_plain rfl (ow_load (R := (RSlice RSpan)) rfl rfl ha1 (Tryd.sizeOf93 _) (Tryd.isAgg93 _) fun v5 hv5 => ?_)
          exact ⟨BX.refl _ _, hv5⟩
        · intro w6 D hS5 hd5
          have hl6 := Le.no M1 hS5
          have hC6 := hC1.no hS5
          refine dg_sub (E' := [(1, v1p)]) ⟨rfl, trivial⟩ ?_
          refine dg_plain rfl (ow_move rfl rfl ?_)
          exact ⟨BX.refl _ _, (VRep.mono (hl1.trans hl6) h1)⟩
        · intro w7 D hS6 hd6
          have hl7 := Le.no M1 hS6
          have hC7 := hC1.no hS6
          refine dg_sub (E' := [(5, (.int .i64 k1))]) ⟨rfl, trivial⟩ ?_
          refine dg_plain rfl (ow_move rfl rfl ?_)
          exact ⟨BX.refl _ _, rfl⟩
        · intro w8 D hS7 hd7
          have hl8 := Le.no M1 hS7
          have hC8 := hC1.no hS7
          have hd7 : PV (RSlice (RSlice RSpan)) M1 a_b (D 4) w8 ∧ PEq (.int .i64 k1) (D 5) w8 ∧ True := hd7
          obtain ⟨d4, d5, -⟩ := hd7
          obtain ⟨v6, hq2⟩ : ∃ v, (D 4) = v := ⟨_, rfl⟩
          rw [hq2] at d4
          refine dg_sub (E' := [(21, v6), (22, (.int .i64 k1))]) ⟨(congrArg some hq2), (congrArg some d5), trivial⟩ ?_
          refine dg_plain rfl (ow_indexSlice (R := (RSlice RSpan)) rfl rfl rfl d4 Tryd.underlying27 (Tryd.sizeOf93 _) hx2 fun p5 hp5 => ?_)
          exact ⟨BX.refl _ _, ⟨_, rfl, hp5⟩⟩
        · intro w9 D hS8 hd8
          have hl9 := Le.no M1 hS8
          have hC9 := hC1.no hS8
          have hd8 : PA (RSlice RSpan) M1 x2 (D 6) w9 ∧ True := hd8
          obtain ⟨d6, -⟩ := hd8
          obtain ⟨p6, e2, ha2⟩ := d6
          refine dg_sub (E' := [(23, (.pointer (some p6)))]) ⟨(congrArg some e2), trivial⟩ ?_
          refine dg_plain rfl (ow_load (R := (RSlice RSpan)) rfl rfl ha2 (Tryd.sizeOf93 _) (Tryd.isAgg93 _) fun v7 hv7 => ?_)
          exact ⟨BX.refl _ _, hv7⟩
        · intro w10 D hS9 hd9
          have hl10 := Le.no M1 hS9
          have hC10 := hC1.no hS9
          have hd9 : PV (RSlice (RSlice RSpan)) M1 a_a (D 0) w10 ∧ PEq (.int .i64 k1) (D 1) w10 ∧ PA (RSlice RSpan) M1 x1 (D 2) w10 ∧ PV (RSlice RSpan) M1 x1 (D 3) w10 ∧ PV (RSlice (RSlice RSpan)) M1 a_b (D 4) w10 ∧ PEq (.int .i64 k1) (D 5) w10 ∧ PA (RSlice RSpan) M1 x2 (D 6) w10 ∧ PV (RSlice RSpan) M1 x2 (D 7) w10 ∧ True := hd9
          obtain ⟨-, -, -, d10, -, -, -, d14, -⟩ := hd9
          obtain ⟨v8, hq3⟩ : ∃ v, (D 3) = v := ⟨_, rfl⟩
          rw [hq3] at d10
          obtain ⟨v9, hq4⟩ : ∃ v, (D 7) = v := ⟨_, rfl⟩
          rw [hq4] at d14
          refine lw_sub (E' := [(20, v8), (24, v9), (0, v0p), (1, v1p), (5, (.int .i64 k1))]) ⟨(congrArg some hq3), (congrArg some hq4), rfl, rfl, rfl, trivial⟩ ?_
          replace hb1 := bind_some hb1
          obtain ⟨x3, hx3, hb1⟩ := hb1
          refine lw_op rfl rfl rfl (ow_call rfl rfl Tryd.call116 (w_laws_eqSpanS (hG.mono (hl1.trans hl10)) hC10.old d10 d14 hx3) fun v10 w11 hv10 => ?_)
          obtain ⟨hv10, hb2⟩ := hv10
          have hl11 := Le.no M1 hb2
          have hC11 := hC10.no hb2
          obtain rfl := vbool_eq hv10
          refine lw_op rfl rfl rfl (ow_not rfl rfl ?_)
          refine lw_nil ?_
          refine ew_then ?_
          replace hb1 := cond_some hb1
          rcases hb1 with ⟨hc3, hb1⟩ | ⟨hc3, hb1⟩
          · subst hc3
            refine cw_false rfl ?_
            refine cw_skip ?_
            refine ew_blockN ?_
            refine ew_then ?_
            refine cw_region ?_
            refine lw_op rfl rfl rfl (ow_move rfl rfl ?_)
            refine lw_op rfl rfl rfl (ow_add rfl rfl rfl ?_)
            refine lw_op rfl rfl rfl (ow_assign rfl rfl ?_)
            refine lw_nil ?_
            refine ew_nxt (W (k1 + 1)) hb1 fun a ha => ⟨M1, ?_, ((hl1.trans hl10).trans hl11), hC11⟩
            exact ha.sub ⟨rfl, rfl, rfl, trivial⟩
          · subst hc3
            refine cw_true rfl ?_
            refine cw_seq ?_
            refine cw_region ?_
            refine lw_op rfl rfl rfl (ow_assign rfl rfl ?_)
            refine lw_nil ?_
            refine ew_then ?_
            refine cw_ret ?_
            refine ew_blockR ?_
            refine ew_thenR ?_
            refine ew_thenR ?_
            refine ew_blockR ?_
            refine ew_brkR ?_
            refine ew_thenR ?_
            have e3 := hR1 _ (Option.some.inj hb1).symm
            subst e3
            obtain rfl := Option.some.inj h
            exact ew_ret (res1 rfl (.tmp rfl)) ⟨_, rfl, ((vbool _)), hC11.bx⟩
      · obtain rfl := hbb2.trans hc2
        refine cw_false rfl ?_
        refine cw_exit ?_
        refine ew_thenX ?_
        refine ew_thenX ?_
        refine ew_blockX ?_
        refine ew_brk k1 hb1 fun a ha => ⟨M1, ?_, hl1, hC1⟩
        exact ha.sub ⟨rfl, rfl, rfl, trivial⟩
    · rintro k2 a w12 hlr2 ⟨M2, hF2, hl12, hC12⟩
      subst hlr2
      refine ew_at (E := [(0, v0p), (1, v1p), (5, (.int .i64 k2))]) hF2 ?_
      refine ew_then ?_
      refine cw_seq ?_
      refine cw_region ?_
      refine lw_op rfl rfl rfl (ow_assign rfl rfl ?_)
      refine lw_nil ?_
      refine ew_then ?_
      refine cw_ret ?_
      obtain rfl := Option.some.inj h
      exact ew_ret (res1 rfl (.tmp rfl)) ⟨_, rfl, ((vbool _)), hC12.bx⟩

theorem w_laws_eqBox {w : World} {M : Nat → Prop} (hG : ARep (RArr 4 RShape) w M shapes ⟨0, 0, none⟩) (hO : ∀ b, M b → b < w.heap.size) {v0p : Value} {a_a : Box} (h0 : VRep RBox w M a_a v0p) {v1p : Value} {a_b : Box} (h1 : VRep RBox w M a_b v1p) {r : Bool} (h : F.laws_eqBox a_a a_b = some r) :
    Calls Tryd.prog 19 [v0p, v1p].toArray w fun e w' => ∃ v, e = .returned v ∧ VRep RBool w' M r v ∧ BX No w w' := by
  have hC : Cx No w M w M := Cx.start hO (fun _ e => e.elim)
  refine walk (N := 11) Tryd.func19 rfl Tryd.ntmps19 rfl ?_
  refine cw_seq ?_
  refine cw_region ?_
  refine lw_op rfl rfl rfl (ow_box (R := RBox) rfl rfl h0 hC fun p1 w1 hp1 hb1 hl1 hC1 => ?_)
  refine lw_op rfl rfl rfl (ow_box (R := RBox) rfl rfl (VRep.mono hl1 h1) hC1 fun p2 w2 hp2 hb2 hl2 hC2 => ?_)
  refine lw_op rfl rfl rfl (ow_assign rfl rfl ?_)
  refine lw_nil ?_
  refine ew_then ?_
  refine cw_seq ?_
  refine cw_seq ?_
  refine cw_region ?_
  refine lw_op rfl rfl rfl (ow_fieldAddr rfl rfl Tryd.underlying29 rfl (Tryd.sizeOf27 _) ?_)
  refine lw_op rfl rfl rfl (ow_load (R := (RSlice (RSlice RSpan))) rfl rfl (ARep.mono hl2 (hp1.fld fld_Box_Sides)) (Tryd.sizeOf27 _) (Tryd.isAgg27 _) fun v1 hv1 => ?_)
  refine lw_op rfl rfl rfl (ow_fieldAddr rfl rfl Tryd.underlying29 rfl (Tryd.sizeOf27 _) ?_)
  refine lw_op rfl rfl rfl (ow_load (R := (RSlice (RSlice RSpan))) rfl rfl (hp2.fld fld_Box_Sides) (Tryd.sizeOf27 _) (Tryd.isAgg27 _) fun v2 hv2 => ?_)
  replace h := bind_some h
  obtain ⟨x1, hx1, h⟩ := h
  refine lw_op rfl rfl rfl (ow_call rfl rfl Tryd.call66 (w_laws_eqSpanSS (hG.mono (hl1.trans hl2)) hC2.old hv1 hv2 hx1) fun v3 w3 hv3 => ?_)
  obtain ⟨hv3, hb3⟩ := hv3
  have hl3 := Le.no M hb3
  have hC3 := hC2.no hb3
  obtain rfl := vbool_eq hv3
  refine lw_op rfl rfl rfl (ow_not rfl rfl ?_)
  refine lw_nil ?_
  refine ew_then ?_
  replace h := cond_some h
  rcases h with ⟨hc1, h⟩ | ⟨hc1, h⟩
  · subst hc1
    refine cw_false rfl ?_
    refine cw_skip ?_
    refine ew_then ?_
    refine cw_seq ?_
    refine cw_region ?_
    refine lw_op rfl rfl rfl (ow_assign rfl rfl ?_)
    refine lw_nil ?_
    refine ew_then ?_
    refine cw_ret ?_
    obtain rfl := Option.some.inj h
    exact ew_ret (res1 rfl (.tmp rfl)) ⟨_, rfl, ((vbool _)), hC3.bx⟩
  · subst hc1
    refine cw_true rfl ?_
    refine cw_seq ?_
    refine cw_region ?_
    refine lw_op rfl rfl rfl (ow_assign rfl rfl ?_)
    refine lw_nil ?_
    refine ew_then ?_
    refine cw_ret ?_
    refine ew_thenR ?_
    obtain rfl := Option.some.inj h
    exact ew_ret (res1 rfl (.tmp rfl)) ⟨_, rfl, ((vbool _)), hC3.bx⟩

theorem w_laws_eqBoxS {w : World} {M : Nat → Prop} (hG : ARep (RArr 4 RShape) w M shapes ⟨0, 0, none⟩) (hO : ∀ b, M b → b < w.heap.size) {v0p : Value} {a_a : List Box} (h0 : VRep (RSlice RBox) w M a_a v0p) {v1p : Value} {a_b : List Box} (h1 : VRep (RSlice RBox) w M a_b v1p) {r : Bool} (h : F.laws_eqBoxS a_a a_b = some r) :
    Calls Tryd.prog 25 [v0p, v1p].toArray w fun e w' => ∃ v, e = .returned v ∧ VRep RBool w' M r v ∧ BX No w w' := by
  have hC : Cx No w M w M := Cx.start hO (fun _ e => e.elim)
  refine walk (N := 27) Tryd.func25 rfl Tryd.ntmps25 rfl ?_
  refine cw_seq ?_
  refine cw_region ?_
  refine lw_op rfl rfl rfl (ow_assign rfl rfl ?_)
  refine lw_nil ?_
  refine ew_then ?_
  refine cw_seq ?_
  refine cw_seq ?_
  refine cw_region ?_
  refine lw_op rfl rfl rfl (ow_move rfl rfl ?_)
  refine lw_op rfl rfl rfl (ow_len rfl rfl h0 Tryd.underlying37 rfl ?_)
  refine lw_op rfl rfl rfl (ow_move rfl rfl ?_)
  refine lw_op rfl rfl rfl (ow_len rfl rfl h1 Tryd.underlying37 rfl ?_)
  refine lw_op rfl rfl rfl (ow_neqI rfl rfl rfl fun bb1 hbb1 => ?_)
  refine lw_nil ?_
  refine ew_then ?_
  replace h := cond_some h
  rcases h with ⟨hc1, h⟩ | ⟨hc1, h⟩
  · obtain rfl := hbb1.trans hc1
    refine cw_true rfl ?_
    refine cw_seq ?_
    refine cw_region ?_
    refine lw_op rfl rfl rfl (ow_assign rfl rfl ?_)
    refine lw_nil ?_
    refine ew_then ?_
    refine cw_ret ?_
    refine ew_thenR ?_
    obtain rfl := Option.some.inj h
    exact ew_ret (res1 rfl (.tmp rfl)) ⟨_, rfl, ((vbool _)), hC.bx⟩
  · obtain rfl := hbb1.trans hc1
    refine cw_false rfl ?_
    refine cw_skip ?_
    refine ew_then ?_
    refine cw_seq ?_
    refine cw_seq ?_
    refine cw_region ?_
    refine lw_op rfl rfl rfl (ow_assign rfl rfl ?_)
    refine lw_nil ?_
    refine ew_then ?_
    replace h := bind_some h
    obtain ⟨lr1, hlr1, h⟩ := h
    refine cw_for hlr1 (fun s a w' => ∃ (M' : Nat → Prop), Fits 27 [(0, v0p), (1, v1p), (5, (.int .i64 s))] a ∧ Le w M w' M' ∧ Cx No w M w' M') ?_ ?_ ?_
    · intro a ha
      exact ⟨M, ha.sub ⟨rfl, rfl, rfl, trivial⟩, Le.refl _ _, hC⟩
    · rintro k1 a w1 sr1 ⟨M1, hF1, hl1, hC1⟩ hb1 hR1
      refine cw_at (E := [(0, v0p), (1, v1p), (5, (.int .i64 k1))]) hF1 ?_
      refine cw_seq ?_
      refine cw_seq ?_
      refine cw_region ?_
      refine lw_op rfl rfl rfl (ow_move rfl rfl ?_)
      refine lw_op rfl rfl rfl (ow_move rfl rfl ?_)
      refine lw_op rfl rfl rfl (ow_len rfl rfl (VRep.mono hl1 h0) Tryd.underlying37 rfl ?_)
      refine lw_op rfl rfl rfl (ow_lss rfl rfl rfl fun bb2 hbb2 => ?_)
      refine lw_nil ?_
      refine ew_then ?_
      replace hb1 := cond_some hb1
      rcases hb1 with ⟨hc2, hb1⟩ | ⟨hc2, hb1⟩
      · obtain rfl := hbb2.trans hc2
        refine cw_true rfl ?_
        refine cw_skip ?_
        refine ew_then ?_
        refine cw_seq ?_
        refine cw_block ?_
        refine cw_seq ?_
        replace hb1 := bind_some hb1
        obtain ⟨x1, hx1, hb1⟩ := hb1
        replace hb1 := bind_some hb1
        obtain ⟨x2, hx2, hb1⟩ := hb1
        refine cw_sub (E' := [(0, v0p), (1, v1p), (5, (.int .i64 k1))]) ⟨rfl, rfl, rfl, trivial⟩ ?_
        refine cw_drawQ 8 [PV (RSlice RBox) M1 a_a, PEq (.int .i64 k1), PA RBox M1 x1, PV RBox M1 x1, PV (RSlice RBox) M1 a_b, PEq (.int .i64 k1), PA RBox M1 x2, PV RBox M1 x2] (by kernel_rfl) rfl (by kernel_rfl) ⟨PV.mono _ _ _, PEq.mono _, PA.mono _ _ _, PV.mono _ _ _, PV.mono _ _ _, PEq.mono _, PA.mono _ _ _, PV.mono _ _ _, trivial⟩ ⟨?_, ?_, ?_, ?_, ?_, ?_, ?_, ?_, trivial⟩ ?_
        · intro w2 D hS1 hd1
          have hl2 := Le.no M1 hS1
          have hC2 := hC1.no hS1
          refine dg_sub (E' := [(0, v0p)]) ⟨rfl, trivial⟩ ?_
          refine dg_plain rfl (ow_move rfl rfl ?_)
          exact ⟨BX.refl _ _, (VRep.mono (hl1.trans hl2) h0)⟩
        · intro w3 D hS2 hd2
          have hl3 := Le.no M1 hS2
          have hC3 := hC1.no hS2
          refine dg_sub (E' := [(5, (.int .i64 k1))]) ⟨rfl, trivial⟩ ?_
          refine dg_plain rfl (ow_move rfl rfl ?_)
          exact ⟨BX.refl _ _, rfl⟩
        · intro w4 D hS3 hd3
          have hl4 := Le.no M1 hS3
          have hC4 := hC1.no hS3
          have hd3 : PV (RSlice RBox) M1 a_a (D 0) w4 ∧ PEq (.int .i64 k1) (D 1) w4 ∧ True := hd3
          obtain ⟨d1, d2, -⟩ := hd3
          obtain ⟨v4, hq1⟩ : ∃ v, (D 0) = v := ⟨_, rfl⟩
          rw [hq1] at d1
          refine dg_sub (E' := [(17, v4), (18, (.int .i64 k1))]) ⟨(congrArg some hq1), (congrArg some d2), trivial⟩ ?_
          refine dg_plain rfl (ow_indexSlice (R := RBox) rfl rfl rfl d1 Tryd.underlying37 (Tryd.sizeOf29 _) hx1 fun p3 hp3 => ?_)
          exact ⟨BX.refl _ _, ⟨_, rfl, hp3⟩⟩
        · intro w5 D hS4 hd4
          have hl5 := Le.no M1 hS4
          have hC5 := hC1.no hS4
          have hd4 : PA RBox M1 x1 (D 2) w5 ∧ True := hd4
          obtain ⟨d3, -⟩ := hd4
          obtain ⟨p4, e1, ha1⟩ := d3
          refine dg_sub (E' := [(19, (.pointer (some p4)))]) ⟨(congrArg some e1), trivial⟩ ?_
          refine dg_plain rfl (ow_load (R := RBox) rfl rfl ha1 (Tryd.sizeOf29 _) (Tryd.isAgg29 _) fun v5 hv5 => ?_)
          exact ⟨BX.refl _ _, hv5⟩
        · intro w6 D hS5 hd5
          have hl6 := Le.no M1 hS5
          have hC6 := hC1.no hS5
          refine dg_sub (E' := [(1, v1p)]) ⟨rfl, trivial⟩ ?_
          refine dg_plain rfl (ow_move rfl rfl ?_)
          exact ⟨BX.refl _ _, (VRep.mono (hl1.trans hl6) h1)⟩
        · intro w7 D hS6 hd6
          have hl7 := Le.no M1 hS6
          have hC7 := hC1.no hS6
          refine dg_sub (E' := [(5, (.int .i64 k1))]) ⟨rfl, trivial⟩ ?_
          refine dg_plain rfl (ow_move rfl rfl ?_)
          exact ⟨BX.refl _ _, rfl⟩
        · intro w8 D hS7 hd7
          have hl8 := Le.no M1 hS7
          have hC8 := hC1.no hS7
          have hd7 : PV (RSlice RBox) M1 a_b (D 4) w8 ∧ PEq (.int .i64 k1) (D 5) w8 ∧ True := hd7
          obtain ⟨d4, d5, -⟩ := hd7
          obtain ⟨v6, hq2⟩ : ∃ v, (D 4) = v := ⟨_, rfl⟩
          rw [hq2] at d4
          refine dg_sub (E' := [(21, v6), (22, (.int .i64 k1))]) ⟨(congrArg some hq2), (congrArg some d5), trivial⟩ ?_
          refine dg_plain rfl (ow_indexSlice (R := RBox) rfl rfl rfl d4 Tryd.underlying37 (Tryd.sizeOf29 _) hx2 fun p5 hp5 => ?_)
          exact ⟨BX.refl _ _, ⟨_, rfl, hp5⟩⟩
        · intro w9 D hS8 hd8
          have hl9 := Le.no M1 hS8
          have hC9 := hC1.no hS8
          have hd8 : PA RBox M1 x2 (D 6) w9 ∧ True := hd8
          obtain ⟨d6, -⟩ := hd8
          obtain ⟨p6, e2, ha2⟩ := d6
          refine dg_sub (E' := [(23, (.pointer (some p6)))]) ⟨(congrArg some e2), trivial⟩ ?_
          refine dg_plain rfl (ow_load (R := RBox) rfl rfl ha2 (Tryd.sizeOf29 _) (Tryd.isAgg29 _) fun v7 hv7 => ?_)
          exact ⟨BX.refl _ _, hv7⟩
        · intro w10 D hS9 hd9
          have hl10 := Le.no M1 hS9
          have hC10 := hC1.no hS9
          have hd9 : PV (RSlice RBox) M1 a_a (D 0) w10 ∧ PEq (.int .i64 k1) (D 1) w10 ∧ PA RBox M1 x1 (D 2) w10 ∧ PV RBox M1 x1 (D 3) w10 ∧ PV (RSlice RBox) M1 a_b (D 4) w10 ∧ PEq (.int .i64 k1) (D 5) w10 ∧ PA RBox M1 x2 (D 6) w10 ∧ PV RBox M1 x2 (D 7) w10 ∧ True := hd9
          obtain ⟨-, -, -, d10, -, -, -, d14, -⟩ := hd9
          obtain ⟨v8, hq3⟩ : ∃ v, (D 3) = v := ⟨_, rfl⟩
          rw [hq3] at d10
          obtain ⟨v9, hq4⟩ : ∃ v, (D 7) = v := ⟨_, rfl⟩
          rw [hq4] at d14
          refine lw_sub (E' := [(20, v8), (24, v9), (0, v0p), (1, v1p), (5, (.int .i64 k1))]) ⟨(congrArg some hq3), (congrArg some hq4), rfl, rfl, rfl, trivial⟩ ?_
          replace hb1 := bind_some hb1
          obtain ⟨x3, hx3, hb1⟩ := hb1
          refine lw_op rfl rfl rfl (ow_call rfl rfl Tryd.call19 (w_laws_eqBox (hG.mono (hl1.trans hl10)) hC10.old d10 d14 hx3) fun v10 w11 hv10 => ?_)
          obtain ⟨hv10, hb2⟩ := hv10
          have hl11 := Le.no M1 hb2
          have hC11 := hC10.no hb2
          obtain rfl := vbool_eq hv10
          refine lw_op rfl rfl rfl (ow_not rfl rfl ?_)
          refine lw_nil ?_
          refine ew_then ?_
          replace hb1 := cond_some hb1
          rcases hb1 with ⟨hc3, hb1⟩ | ⟨hc3, hb1⟩
          · subst hc3
            refine cw_false rfl ?_
            refine cw_skip ?_
            refine ew_blockN ?_
            refine ew_then ?_
            refine cw_region ?_
            refine lw_op rfl rfl rfl (ow_move rfl rfl ?_)
            refine lw_op rfl rfl rfl (ow_add rfl rfl rfl ?_)
            refine lw_op rfl rfl rfl (ow_assign rfl rfl ?_)
            refine lw_nil ?_
            refine ew_nxt (W (k1 + 1)) hb1 fun a ha => ⟨M1, ?_, ((hl1.trans hl10).trans hl11), hC11⟩
            exact ha.sub ⟨rfl, rfl, rfl, trivial⟩
          · subst hc3
            refine cw_true rfl ?_
            refine cw_seq ?_
            refine cw_region ?_
            refine lw_op rfl rfl rfl (ow_assign rfl rfl ?_)
            refine lw_nil ?_
            refine ew_then ?_
            refine cw_ret ?_
            refine ew_blockR ?_
            refine ew_thenR ?_
            refine ew_thenR ?_
            refine ew_blockR ?_
            refine ew_brkR ?_
            refine ew_thenR ?_
            have e3 := hR1 _ (Option.some.inj hb1).symm
            subst e3
            obtain rfl := Option.some.inj h
            exact ew_ret (res1 rfl (.tmp rfl)) ⟨_, rfl, ((vbool _)), hC11.bx⟩
      · obtain rfl := hbb2.trans hc2
        refine cw_false rfl ?_
        refine cw_exit ?_
        refine ew_thenX ?_
        refine ew_thenX ?_
        refine ew_blockX ?_
        refine ew_brk k1 hb1 fun a ha => ⟨M1, ?_, hl1, hC1⟩
        exact ha.sub ⟨rfl, rfl, rfl, trivial⟩
    · rintro k2 a w12 hlr2 ⟨M2, hF2, hl12, hC12⟩
      subst hlr2
      refine ew_at (E := [(0, v0p), (1, v1p), (5, (.int .i64 k2))]) hF2 ?_
      refine ew_then ?_
      refine cw_seq ?_
      refine cw_region ?_
      refine lw_op rfl rfl rfl (ow_assign rfl rfl ?_)
      refine lw_nil ?_
      refine ew_then ?_
      refine cw_ret ?_
      obtain rfl := Option.some.inj h
      exact ew_ret (res1 rfl (.tmp rfl)) ⟨_, rfl, ((vbool _)), hC12.bx⟩

theorem w_laws_FnExactRegionHas {w : World} {M : Nat → Prop} (hG : ARep (RArr 4 RShape) w M shapes ⟨0, 0, none⟩) (hO : ∀ b, M b → b < w.heap.size) {v0p : Value} {a_aList : List Box} (h0 : VRep (RSlice RBox) w M a_aList v0p) {v1p : Value} {a_aP : Packet} (h1 : VRep RPacket w M a_aP v1p) {r : Bool} (h : F.laws_FnExactRegionHas a_aList a_aP = some r) :
    Calls Tryd.prog 4 [v0p, v1p].toArray w fun e w' => ∃ v, e = .returned v ∧ VRep RBool w' M r v ∧ BX No w w' := by
  have hC : Cx No w M w M := Cx.start hO (fun _ e => e.elim)
  refine walk (N := 33) Tryd.func4 rfl Tryd.ntmps4 rfl ?_
  refine cw_seq ?_
  refine cw_region ?_
  refine lw_op rfl rfl rfl (ow_box (R := RPacket) rfl rfl h1 hC fun p1 w1 hp1 hb1 hl1 hC1 => ?_)
  refine lw_op rfl rfl rfl (ow_assign rfl rfl ?_)
  refine lw_nil ?_
  refine ew_then ?_
  refine cw_seq ?_
  refine cw_region ?_
  refine lw_op rfl rfl rfl (ow_assign rfl rfl ?_)
  refine lw_nil ?_
  refine ew_then ?_
  refine cw_seq ?_
  refine cw_region ?_
  refine lw_op rfl rfl rfl (ow_move rfl rfl ?_)
  refine lw_op rfl rfl rfl (ow_move rfl rfl ?_)
  replace h := bind_some h
  obtain ⟨x1, hx1, h⟩ := h
  refine lw_op rfl rfl rfl (ow_call rfl rfl Tryd.call20 (w_laws_szBoxS (hG.mono hl1) hC1.old (VRep.mono hl1 h0) hx1) fun v1 w2 hv1 => ?_)
  obtain ⟨hv1, hb2⟩ := hv1
  have hl2 := Le.no M hb2
  have hC2 := hC1.no hb2
  obtain rfl := vint_eq hv1
  refine lw_op rfl rfl rfl (ow_assign rfl rfl ?_)
  refine lw_nil ?_
  refine ew_then ?_
  refine cw_seq ?_
  refine cw_seq ?_
  refine cw_region ?_
  refine lw_op rfl rfl rfl (ow_move rfl rfl ?_)
  refine lw_op rfl rfl rfl (ow_lss rfl rfl rfl fun bb1 hbb1 => ?_)
  refine lw_nil ?_
  refine ew_then ?_
  replace h := cond_some h
  rcases h with ⟨hc1, h⟩ | ⟨hc1, h⟩
  · obtain rfl := hbb1.trans hc1
    refine cw_true rfl ?_
    refine cw_seq ?_
    refine cw_region ?_
    refine lw_op rfl rfl rfl (ow_assign rfl rfl ?_)
    refine lw_nil ?_
    refine ew_then ?_
    refine cw_ret ?_
    refine ew_thenR ?_
    obtain rfl := Option.some.inj h
    exact ew_ret (res1 rfl (.tmp rfl)) ⟨_, rfl, ((vbool _)), hC2.bx⟩
  · obtain rfl := hbb1.trans hc1
    refine cw_false rfl ?_
    refine cw_skip ?_
    refine ew_then ?_
    refine cw_seq ?_
    replace h := bind_some h
    obtain ⟨x2, hx2, h⟩ := h
    refine cw_sub (E' := [(0, v0p), (3, (.pointer (some p1))), (4, (.bool false))]) ⟨rfl, rfl, rfl, trivial⟩ ?_
    refine cw_drawQ 3 [PV (RSlice RBox) M a_aList, PV (RSlice RBox) M x2, PV RPacket M a_aP] (by kernel_rfl) rfl (by kernel_rfl) ⟨PV.mono _ _ _, PV.mono _ _ _, PV.mono _ _ _, trivial⟩ ⟨?_, ?_, ?_, trivial⟩ ?_
    · intro w4 D hS1 hd1
      have hl4 := Le.no M hS1
      have hC4 := hC2.no hS1
      refine dg_sub (E' := [(0, v0p)]) ⟨rfl, trivial⟩ ?_
      refine dg_plain rfl (ow_move rfl rfl ?_)
      exact ⟨BX.refl _ _, (VRep.mono ((hl1.trans hl2).trans hl4) h0)⟩
    · intro w5 D hS2 hd2
      have hl5 := Le.no M hS2
      have hC5 := hC2.no hS2
      have hd2 : PV (RSlice RBox) M a_aList (D 0) w5 ∧ True := hd2
      obtain ⟨d1, -⟩ := hd2
      obtain ⟨v4, hq1⟩ : ∃ v, (D 0) = v := ⟨_, rfl⟩
      rw [hq1] at d1
      refine dg_sub (E' := [(14, v4)]) ⟨(congrArg some hq1), trivial⟩ ?_
      refine dg_plain rfl (ow_call rfl rfl Tryd.call22 (w_laws_toBoxS (hG.mono ((hl1.trans hl2).trans hl5)) hC5.old d1 hx2) fun v5 w6 hv5 => ?_)
      obtain ⟨hv5, hb4⟩ := hv5
      have hl6 := Le.no M hb4
      have hC6 := hC5.no hb4
      exact ⟨hb4, hv5⟩
    · intro w7 D hS3 hd3
      have hl7 := Le.no M hS3
      have hC7 := hC2.no hS3
      refine dg_sub (E' := [(3, (.pointer (some p1)))]) ⟨rfl, trivial⟩ ?_
      refine dg_plain rfl (ow_load (R := RPacket) rfl rfl (ARep.mono (hl2.trans hl7) hp1) (Tryd.sizeOf34 _) (Tryd.isAgg34 _) fun v6 hv6 => ?_)
      exact ⟨BX.refl _ _, hv6⟩
    · intro w8 D hS4 hd4
      have hl8 := Le.no M hS4
      have hC8 := hC2.no hS4
      have hd4 : PV (RSlice RBox) M a_aList (D 0) w8 ∧ PV (RSlice RBox) M x2 (D 1) w8 ∧ PV RPacket M a_aP (D 2) w8 ∧ True := hd4
      obtain ⟨-, d3, d4, -⟩ := hd4
      obtain ⟨v7, hq2⟩ : ∃ v, (D 1) = v := ⟨_, rfl⟩
      rw [hq2] at d3
      obtain ⟨v8, hq3⟩ : ∃ v, (D 2) = v := ⟨_, rfl⟩
      rw [hq3] at d4
      refine lw_sub (E' := [(15, v7), (16, v8), (0, v0p), (3, (.pointer (some p1))), (4, (.bool false))]) ⟨(congrArg some hq2), (congrArg some hq3), rfl, rfl, rfl, trivial⟩ ?_
      replace h := bind_some h
      obtain ⟨x3, hx3, h⟩ := h
      refine lw_op rfl rfl rfl (ow_call rfl rfl Tryd.call23 (w_laws_toPacket (hG.mono ((hl1.trans hl2).trans hl8)) hC8.old d4 hx3) fun v9 w9 hv9 => ?_)
      obtain ⟨hv9, hb5⟩ := hv9
      have hl9 := Le.no M hb5
      have hC9 := hC8.no hb5
      replace h := bind_some h
      obtain ⟨x4, hx4, h⟩ := h
      refine lw_op rfl rfl rfl (ow_call rfl rfl Tryd.call21 (w_spec_RegionHas (hG.mono (((hl1.trans hl2).trans hl8).trans hl9)) hC9.old (VRep.mono hl9 d3) hv9 hx4) fun v10 w10 hv10 => ?_)
      obtain ⟨hv10, hb6⟩ := hv10
      have hl10 := Le.no M hb6
      have hC10 := hC9.no hb6
      obtain rfl := vbool_eq hv10
      refine lw_op rfl rfl rfl (ow_assign rfl rfl ?_)
      refine lw_nil ?_
      refine ew_then ?_
      refine cw_seq ?_
      refine cw_region ?_
      refine lw_op rfl rfl rfl (ow_move rfl rfl ?_)
      refine lw_op rfl rfl rfl (ow_call rfl rfl Tryd.call22 (w_laws_toBoxS (hG.mono ((((hl1.trans hl2).trans hl8).trans hl9).trans hl10)) hC10.old (VRep.mono ((((hl1.trans hl2).trans hl8).trans hl9).trans hl10) h0) hx2) fun v11 w11 hv11 => ?_)
      obtain ⟨hv11, hb7⟩ := hv11
      have hl11 := Le.no M hb7
      have hC11 := hC10.no hb7
      refine lw_op rfl rfl rfl (ow_assign rfl rfl ?_)
      refine lw_nil ?_
      refine ew_then ?_
      refine cw_seq ?_
      refine cw_region ?_
      refine lw_op rfl rfl rfl (ow_move rfl rfl ?_)
      refine lw_op rfl rfl rfl (ow_load (R := RPacket) rfl rfl (ARep.mono ((((hl2.trans hl8).trans hl9).trans hl10).trans hl11) hp1) (Tryd.sizeOf34 _) (Tryd.isAgg34 _) fun v12 hv12 => ?_)
      refine lw_op rfl rfl rfl (ow_call rfl rfl Tryd.call23 (w_laws_toPacket (hG.mono (((((hl1.trans hl2).trans hl8).trans hl9).trans hl10).trans hl11)) hC11.old hv12 hx3) fun v13 w12 hv13 => ?_)
      obtain ⟨hv13, hb8⟩ := hv13
      have hl12 := Le.no M hb8
      have hC12 := hC11.no hb8
      replace h := bind_some h
      obtain ⟨x5, hx5, h⟩ := h
      refine lw_op rfl rfl rfl (ow_call rfl rfl Tryd.call24 (w_impl_RegionHas (hG.mono ((((((hl1.trans hl2).trans hl8).trans hl9).trans hl10).trans hl11).trans hl12)) hC12.old (VRep.mono hl12 hv11) hv13 hx5) fun v14 w13 hv14 => ?_)
      obtain ⟨hv14, hb9⟩ := hv14
      have hl13 := Le.no M hb9
      have hC13 := hC12.no hb9
      obtain rfl := vbool_eq hv14
      refine lw_op rfl rfl rfl (ow_assign rfl rfl ?_)
      refine lw_nil ?_
      refine ew_then ?_
      refine cw_seq ?_
      refine cw_seq ?_
      refine cw_region ?_
      refine lw_op rfl rfl rfl (ow_move rfl rfl ?_)
      refine lw_op rfl rfl rfl (ow_move rfl rfl ?_)
      refine lw_op rfl rfl rfl (ow_neqB rfl rfl rfl Tryd.underlying4 fun bb2 hbb2 => ?_)
      refine lw_nil ?_
      refine ew_then ?_
      replace h := cond_some h
      rcases h with ⟨hc2, h⟩ | ⟨hc2, h⟩
      · obtain rfl := hbb2.trans hc2
        refine cw_true rfl ?_
        refine cw_seq ?_
        refine cw_region ?_
        refine lw_op rfl rfl rfl (ow_assign rfl rfl ?_)
        refine lw_nil ?_
        refine ew_then ?_
        refine cw_ret ?_
        refine ew_thenR ?_
        obtain rfl := Option.some.inj h
        exact ew_ret (res1 rfl (.tmp rfl)) ⟨_, rfl, ((vbool _)), hC13.bx⟩
      · obtain rfl := hbb2.trans hc2
        refine cw_false rfl ?_
        refine cw_skip ?_
        refine ew_then ?_
        refine cw_seq ?_
        refine cw_seq ?_
        refine cw_region ?_
        refine lw_op rfl rfl rfl (ow_move rfl rfl ?_)
        refine lw_op rfl rfl rfl (ow_move rfl rfl ?_)
        refine lw_op rfl rfl rfl (ow_call rfl rfl Tryd.call22 (w_laws_toBoxS (hG.mono (((((((hl1.trans hl2).trans hl8).trans hl9).trans hl10).trans hl11).trans hl12).trans hl13)) hC13.old (VRep.mono (((((((hl1.trans hl2).trans hl8).trans hl9).trans hl10).trans hl11).trans hl12).trans hl13) h0) hx2) fun v15 w14 hv15 => ?_)
        obtain ⟨hv15, hb10⟩ := hv15
        have hl14 := Le.no M hb10
        have hC14 := hC13.no hb10
        replace h := bind_some h
        obtain ⟨x6, hx6, h⟩ := h
        refine lw_op rfl rfl rfl (ow_call rfl rfl Tryd.call25 (w_laws_eqBoxS (hG.mono ((((((((hl1.trans hl2).trans hl8).trans hl9).trans hl10).trans hl11).trans hl12).trans hl13).trans hl14)) hC14.old (VRep.mono ((hl12.trans hl13).trans hl14) hv11) hv15 hx6) fun v16 w15 hv16 => ?_)
        obtain ⟨hv16, hb11⟩ := hv16
        have hl15 := Le.no M hb11
        have hC15 := hC14.no hb11
        obtain rfl := vbool_eq hv16
        refine lw_op rfl rfl rfl (ow_not rfl rfl ?_)
        refine lw_nil ?_
        refine ew_then ?_
        replace h := cond_some h
        rcases h with ⟨hc3, h⟩ | ⟨hc3, h⟩
        · subst hc3
          refine cw_false rfl ?_
          refine cw_skip ?_
          refine ew_then ?_
          refine cw_seq ?_
          refine cw_region ?_
          refine lw_op rfl rfl rfl (ow_assign rfl rfl ?_)
          refine lw_nil ?_
          refine ew_then ?_
          refine cw_ret ?_
          obtain rfl := Option.some.inj h
          exact ew_ret (res1 rfl (.tmp rfl)) ⟨_, rfl, ((vbool _)), hC15.bx⟩
        · subst hc3
          refine cw_true rfl ?_
          refine cw_seq ?_
          refine cw_region ?_
          refine lw_op rfl rfl rfl (ow_assign rfl rfl ?_)
          refine lw_nil ?_
          refine ew_then ?_
          refine cw_ret ?_
          refine ew_thenR ?_
          obtain rfl := Option.some.inj h
          exact ew_ret (res1 rfl (.tmp rfl)) ⟨_, rfl, ((vbool _)), hC15.bx⟩


end Go.PF
