/- The walks; no condition. -/
import Derived.Test.YtggckckjmhhdhaaDoorProg
import Derived.Test.YtggckckjmhhdhaaDoorWk0
set_option maxRecDepth 100000
namespace Go.PF
open Go Go.RowKit Go.Proofs

theorem w_impl_RuleValid {w : World} {M : Nat → Prop} (hG : ARep (RArr 4 RShape) w M shapes ⟨0, 0, none⟩) (hO : ∀ b, M b → b < w.heap.size) {v0p : Value} {a_r : Rule} (h0 : VRep RRule w M a_r v0p) {r : Bool} (h : F.impl_RuleValid a_r = some r) :
    Calls Tryd.prog 90 [v0p].toArray w fun e w' => ∃ v, e = .returned v ∧ VRep RBool w' M r v ∧ BX No w w' := by
  have hC : Cx No w M w M := Cx.start hO (fun _ e => e.elim)
  refine walk (N := 27) Tryd.func90 rfl Tryd.ntmps90 rfl ?_
  refine cw_seq ?_
  refine cw_region ?_
  refine lw_op rfl rfl rfl (ow_box (R := RRule) rfl rfl h0 hC fun p1 w1 hp1 hb1 hl1 hC1 => ?_)
  refine lw_op rfl rfl rfl (ow_assign rfl rfl ?_)
  refine lw_nil ?_
  refine ew_then ?_
  refine cw_seq ?_
  refine cw_seq ?_
  refine cw_region ?_
  refine lw_op rfl rfl rfl (ow_fieldAddr rfl rfl Tryd.underlying51 rfl (Tryd.sizeOf49 _) ?_)
  refine lw_op rfl rfl rfl (ow_load (R := (RSlice RTest)) rfl rfl (hp1.fld fld_Rule_Tests) (Tryd.sizeOf49 _) (Tryd.isAgg49 _) fun v1 hv1 => ?_)
  replace h := bind_some h
  obtain ⟨x1, hx1, h⟩ := h
  refine lw_op rfl rfl rfl (ow_call rfl rfl Tryd.call120 (w_impl_TestsValid (hG.mono hl1) hC1.old hv1 hx1) fun v2 w2 hv2 => ?_)
  obtain ⟨hv2, hb2⟩ := hv2
  have hl2 := Le.no M hb2
  have hC2 := hC1.no hb2
  obtain rfl := vbool_eq hv2
  refine lw_op rfl rfl rfl (ow_not rfl rfl ?_)
  refine lw_nil ?_
  refine ew_then ?_
  replace h := cond_some h
  rcases h with ⟨hc1, h⟩ | ⟨hc1, h⟩
  · subst hc1
    refine cw_false rfl ?_
    refine cw_skip ?_
    refine ew_then ?_
    refine cw_seq ?_
    refine cw_seq ?_
    refine cw_region ?_
    refine lw_op rfl rfl rfl (ow_fieldAddr rfl rfl Tryd.underlying51 rfl (Tryd.sizeOf3 _) ?_)
    refine lw_op rfl rfl rfl (ow_load (R := RInt) rfl rfl (ARep.mono hl2 (hp1.fld fld_Rule_Action)) (Tryd.sizeOf3 _) (Tryd.isAgg3 _) fun v3 hv3 => ?_)
    obtain rfl := vint_eq hv3
    refine lw_nil ?_
    refine ew_then ?_
    refine cw_block ?_
    refine cw_seq ?_
    refine cw_region ?_
    refine lw_op rfl rfl rfl (ow_eqlI rfl rfl rfl fun bb1 hbb1 => ?_)
    refine lw_op rfl rfl rfl (ow_assign rfl rfl ?_)
    refine lw_nil ?_
    refine ew_then ?_
    replace h := cond_some h
    rcases h with ⟨hc2, h⟩ | ⟨hc2, h⟩
    · obtain rfl := hbb1.trans hc2
      refine cw_true rfl ?_
      refine cw_seq ?_
      refine cw_region ?_
      refine lw_op rfl rfl rfl (ow_fieldAddr rfl rfl Tryd.underlying51 rfl (Tryd.sizeOf3 _) ?_)
      refine lw_op rfl rfl rfl (ow_load (R := RInt) rfl rfl (ARep.mono hl2 (hp1.fld fld_Rule_Chain)) (Tryd.sizeOf3 _) (Tryd.isAgg3 _) fun v4 hv4 => ?_)
      obtain rfl := vint_eq hv4
      refine lw_op rfl rfl rfl (ow_geq rfl rfl rfl fun bb2 hbb2 => ?_)
      refine lw_op rfl rfl rfl (ow_move rfl rfl ?_)
      replace h := cond_some h
      rcases h with ⟨hc3, h⟩ | ⟨hc3, h⟩
      · obtain rfl := hbb2.trans hc3
        refine lw_on rfl rfl rfl rfl rfl rfl (ow_fieldAddr rfl rfl Tryd.underlying51 rfl (Tryd.sizeOf3 _) ?_)
        refine lw_on rfl rfl rfl rfl rfl rfl (ow_load (R := RInt) rfl rfl (ARep.mono hl2 (hp1.fld fld_Rule_Chain)) (Tryd.sizeOf3 _) (Tryd.isAgg3 _) fun v5 hv5 => ?_)
        obtain rfl := vint_eq hv5
        refine lw_on rfl rfl rfl rfl rfl rfl (ow_lss rfl rfl rfl fun bb3 hbb3 => ?_)
        refine lw_op rfl rfl rfl (ow_pickT rfl rfl rfl ?_)
        refine lw_op rfl rfl rfl (ow_assign rfl rfl ?_)
        refine lw_nil ?_
        refine ew_then ?_
        refine cw_ret ?_
        refine ew_blockR ?_
        refine ew_thenR ?_
        obtain rfl := Option.some.inj h
        exact ew_ret (res1 rfl (.tmp rfl)) ⟨_, rfl, ((vbool_of hbb3)), hC2.bx⟩
      · obtain rfl := hbb2.trans hc3
        refine lw_off rfl rfl rfl rfl rfl rfl ?_
        refine lw_off rfl rfl rfl rfl rfl rfl ?_
        refine lw_off rfl rfl rfl rfl rfl rfl ?_
        refine lw_op rfl rfl rfl (ow_pickF rfl rfl rfl ?_)
        refine lw_op rfl rfl rfl (ow_assign rfl rfl ?_)
        refine lw_nil ?_
        refine ew_then ?_
        refine cw_ret ?_
        refine ew_blockR ?_
        refine ew_thenR ?_
        obtain rfl := Option.some.inj h
        exact ew_ret (res1 rfl (.tmp rfl)) ⟨_, rfl, ((vbool _)), hC2.bx⟩
    · obtain rfl := hbb1.trans hc2
      refine cw_false rfl ?_
      refine cw_seq ?_
      refine cw_seq ?_
      refine cw_region ?_
      refine lw_op rfl rfl rfl (ow_eqlI rfl rfl rfl fun bb4 hbb4 => ?_)
      refine lw_op rfl rfl rfl (ow_assign rfl rfl ?_)
      refine lw_nil ?_
      refine ew_then ?_
      replace h := cond_some h
      rcases h with ⟨hc4, h⟩ | ⟨hc4, h⟩
      · obtain rfl := hbb4.trans hc4
        refine cw_true rfl ?_
        refine cw_skip ?_
        refine ew_then ?_
        refine cw_true rfl ?_
        refine cw_seq ?_
        refine cw_region ?_
        refine lw_op rfl rfl rfl (ow_fieldAddr rfl rfl Tryd.underlying51 rfl (Tryd.sizeOf3 _) ?_)
        refine lw_op rfl rfl rfl (ow_load (R := RInt) rfl rfl (ARep.mono hl2 (hp1.fld fld_Rule_Chain)) (Tryd.sizeOf3 _) (Tryd.isAgg3 _) fun v6 hv6 => ?_)
        obtain rfl := vint_eq hv6
        refine lw_op rfl rfl rfl (ow_eqlI rfl rfl rfl fun bb5 hbb5 => ?_)
        refine lw_op rfl rfl rfl (ow_assign rfl rfl ?_)
        refine lw_nil ?_
        refine ew_then ?_
        refine cw_ret ?_
        refine ew_blockR ?_
        refine ew_thenR ?_
        obtain rfl := Option.some.inj h
        exact ew_ret (res1 rfl (.tmp rfl)) ⟨_, rfl, ((vbool_of hbb5)), hC2.bx⟩
      · obtain rfl := hbb4.trans hc4
        refine cw_false rfl ?_
        refine cw_seq ?_
        refine cw_region ?_
        refine lw_op rfl rfl rfl (ow_eqlI rfl rfl rfl fun bb6 hbb6 => ?_)
        refine lw_op rfl rfl rfl (ow_assign rfl rfl ?_)
        refine lw_nil ?_
        refine ew_then ?_
        replace h := cond_some h
        rcases h with ⟨hc5, h⟩ | ⟨hc5, h⟩
        · obtain rfl := hbb6.trans hc5
          refine cw_true rfl ?_
          refine cw_skip ?_
          refine ew_then ?_
          refine cw_true rfl ?_
          refine cw_seq ?_
          refine cw_region ?_
          refine lw_op rfl rfl rfl (ow_fieldAddr rfl rfl Tryd.underlying51 rfl (Tryd.sizeOf3 _) ?_)
          refine lw_op rfl rfl rfl (ow_load (R := RInt) rfl rfl (ARep.mono hl2 (hp1.fld fld_Rule_Chain)) (Tryd.sizeOf3 _) (Tryd.isAgg3 _) fun v7 hv7 => ?_)
          obtain rfl := vint_eq hv7
          refine lw_op rfl rfl rfl (ow_eqlI rfl rfl rfl fun bb7 hbb7 => ?_)
          refine lw_op rfl rfl rfl (ow_assign rfl rfl ?_)
          refine lw_nil ?_
          refine ew_then ?_
          refine cw_ret ?_
          refine ew_blockR ?_
          refine ew_thenR ?_
          obtain rfl := Option.some.inj h
          exact ew_ret (res1 rfl (.tmp rfl)) ⟨_, rfl, ((vbool_of hbb7)), hC2.bx⟩
        · obtain rfl := hbb6.trans hc5
          refine cw_false rfl ?_
          refine cw_seq ?_
          refine cw_region ?_
          refine lw_op rfl rfl rfl (ow_eqlI rfl rfl rfl fun bb8 hbb8 => ?_)
          refine lw_op rfl rfl rfl (ow_assign rfl rfl ?_)
          refine lw_nil ?_
          refine ew_then ?_
          replace h := cond_some h
          rcases h with ⟨hc6, h⟩ | ⟨hc6, h⟩
          · obtain rfl := hbb8.trans hc6
            refine cw_true rfl ?_
            refine cw_skip ?_
            refine ew_then ?_
            refine cw_true rfl ?_
            refine cw_seq ?_
            refine cw_region ?_
            refine lw_op rfl rfl rfl (ow_fieldAddr rfl rfl Tryd.underlying51 rfl (Tryd.sizeOf3 _) ?_)
            refine lw_op rfl rfl rfl (ow_load (R := RInt) rfl rfl (ARep.mono hl2 (hp1.fld fld_Rule_Chain)) (Tryd.sizeOf3 _) (Tryd.isAgg3 _) fun v8 hv8 => ?_)
            obtain rfl := vint_eq hv8
            refine lw_op rfl rfl rfl (ow_eqlI rfl rfl rfl fun bb9 hbb9 => ?_)
            refine lw_op rfl rfl rfl (ow_assign rfl rfl ?_)
            refine lw_nil ?_
            refine ew_then ?_
            refine cw_ret ?_
            refine ew_blockR ?_
            refine ew_thenR ?_
            obtain rfl := Option.some.inj h
            exact ew_ret (res1 rfl (.tmp rfl)) ⟨_, rfl, ((vbool_of hbb9)), hC2.bx⟩
          · obtain rfl := hbb8.trans hc6
            refine cw_false rfl ?_
            refine cw_region ?_
            refine lw_op rfl rfl rfl (ow_eqlI rfl rfl rfl fun bb10 hbb10 => ?_)
            refine lw_op rfl rfl rfl (ow_assign rfl rfl ?_)
            refine lw_nil ?_
            refine ew_then ?_
            replace h := cond_some h
            rcases h with ⟨hc7, h⟩ | ⟨hc7, h⟩
            · obtain rfl := hbb10.trans hc7
              refine cw_true rfl ?_
              refine cw_seq ?_
              refine cw_region ?_
              refine lw_op rfl rfl rfl (ow_fieldAddr rfl rfl Tryd.underlying51 rfl (Tryd.sizeOf3 _) ?_)
              refine lw_op rfl rfl rfl (ow_load (R := RInt) rfl rfl (ARep.mono hl2 (hp1.fld fld_Rule_Chain)) (Tryd.sizeOf3 _) (Tryd.isAgg3 _) fun v9 hv9 => ?_)
              obtain rfl := vint_eq hv9
              refine lw_op rfl rfl rfl (ow_eqlI rfl rfl rfl fun bb11 hbb11 => ?_)
              refine lw_op rfl rfl rfl (ow_assign rfl rfl ?_)
              refine lw_nil ?_
              refine ew_then ?_
              refine cw_ret ?_
              refine ew_blockR ?_
              refine ew_thenR ?_
              obtain rfl := Option.some.inj h
              exact ew_ret (res1 rfl (.tmp rfl)) ⟨_, rfl, ((vbool_of hbb11)), hC2.bx⟩
            · obtain rfl := hbb10.trans hc7
              refine cw_false rfl ?_
              refine cw_skip ?_
              refine ew_blockN ?_
              refine ew_then ?_
              refine cw_seq ?_
              refine cw_region ?_
              refine lw_op rfl rfl rfl (ow_assign rfl rfl ?_)
              refine lw_nil ?_
              refine ew_then ?_
              refine cw_ret ?_
              obtain rfl := Option.some.inj h
              exact ew_ret (res1 rfl (.tmp rfl)) ⟨_, rfl, ((vbool _)), hC2.bx⟩
  · subst hc1
    refine cw_true rfl ?_
    refine cw_seq ?_
    refine cw_region ?_
    refine lw_op rfl rfl rfl (ow_assign rfl rfl ?_)
    refine lw_nil ?_
    refine ew_then ?_
    refine cw_ret ?_
    refine ew_thenR ?_
    obtain rfl := Option.some.inj h
    exact ew_ret (res1 rfl (.tmp rfl)) ⟨_, rfl, ((vbool _)), hC2.bx⟩

theorem w_impl_Test_holds {w : World} {M : Nat → Prop} (hG : ARep (RArr 4 RShape) w M shapes ⟨0, 0, none⟩) (hO : ∀ b, M b → b < w.heap.size) {v0p : Value} {a_t : Test} (h0 : VRep RTest w M a_t v0p) {v1p : Value} {a_p : Packet} (h1 : VRep RPacket w M a_p v1p) {r : Bool} (h : F.impl_Test_holds a_t a_p = some r) :
    Calls Tryd.prog 121 [v0p, v1p].toArray w fun e w' => ∃ v, e = .returned v ∧ VRep RBool w' M r v ∧ BX No w w' := by
  have hC : Cx No w M w M := Cx.start hO (fun _ e => e.elim)
  refine walk (N := 26) Tryd.func121 rfl Tryd.ntmps121 rfl ?_
  refine cw_seq ?_
  refine cw_region ?_
  refine lw_op rfl rfl rfl (ow_box (R := RTest) rfl rfl h0 hC fun p1 w1 hp1 hb1 hl1 hC1 => ?_)
  refine lw_op rfl rfl rfl (ow_box (R := RPacket) rfl rfl (VRep.mono hl1 h1) hC1 fun p2 w2 hp2 hb2 hl2 hC2 => ?_)
  refine lw_op rfl rfl rfl (ow_assign rfl rfl ?_)
  refine lw_nil ?_
  refine ew_then ?_
  refine cw_seq ?_
  replace h := bind_some h
  obtain ⟨x1, hx1, h⟩ := h
  refine cw_sub (E' := [(2, (.pointer (some p1))), (3, (.pointer (some p2))), (4, (.bool false))]) ⟨rfl, rfl, rfl, trivial⟩ ?_
  refine cw_drawQ 4 [PV RPacket M a_p, PV (RArr 4 RInt) M x1, PA RInt M a_t.Field, PEq (.int .i64 a_t.Field)] (by kernel_rfl) rfl (by kernel_rfl) ⟨PV.mono _ _ _, PV.mono _ _ _, PA.mono _ _ _, PEq.mono _, trivial⟩ ⟨?_, ?_, ?_, ?_, trivial⟩ ?_
  · intro w4 D hS1 hd1
    have hl4 := Le.no M hS1
    have hC4 := hC2.no hS1
    refine dg_sub (E' := [(3, (.pointer (some p2)))]) ⟨rfl, trivial⟩ ?_
    refine dg_plain rfl (ow_load (R := RPacket) rfl rfl (ARep.mono hl4 hp2) (Tryd.sizeOf38 _) (Tryd.isAgg38 _) fun v4 hv4 => ?_)
    exact ⟨BX.refl _ _, hv4⟩
  · intro w5 D hS2 hd2
    have hl5 := Le.no M hS2
    have hC5 := hC2.no hS2
    have hd2 : PV RPacket M a_p (D 0) w5 ∧ True := hd2
    obtain ⟨d1, -⟩ := hd2
    obtain ⟨v5, hq1⟩ : ∃ v, (D 0) = v := ⟨_, rfl⟩
    rw [hq1] at d1
    refine dg_sub (E' := [(7, v5)]) ⟨(congrArg some hq1), trivial⟩ ?_
    refine dg_plain rfl (ow_call rfl rfl Tryd.call116 (w_impl_Packet_fields (hG.mono ((hl1.trans hl2).trans hl5)) hC5.old d1 hx1) fun v6 w6 hv6 => ?_)
    obtain ⟨hv6, hb4⟩ := hv6
    have hl6 := Le.no M hb4
    have hC6 := hC5.no hb4
    exact ⟨hb4, hv6⟩
  · intro w7 D hS3 hd3
    have hl7 := Le.no M hS3
    have hC7 := hC2.no hS3
    refine dg_sub (E' := [(2, (.pointer (some p1)))]) ⟨rfl, trivial⟩ ?_
    refine dg_plain rfl (ow_fieldAddr rfl rfl Tryd.underlying148 rfl (Tryd.sizeOf3 _) ?_)
    exact ⟨BX.refl _ _, ⟨_, rfl, (ARep.mono (hl2.trans hl7) (hp1.fld fld_Test_Field))⟩⟩
  · intro w8 D hS4 hd4
    have hl8 := Le.no M hS4
    have hC8 := hC2.no hS4
    have hd4 : PA RInt M a_t.Field (D 2) w8 ∧ True := hd4
    obtain ⟨d2, -⟩ := hd4
    obtain ⟨p3, e1, ha1⟩ := d2
    refine dg_sub (E' := [(9, (.pointer (some p3)))]) ⟨(congrArg some e1), trivial⟩ ?_
    refine dg_plain rfl (ow_load (R := RInt) rfl rfl ha1 (Tryd.sizeOf3 _) (Tryd.isAgg3 _) fun v7 hv7 => ?_)
    obtain rfl := vint_eq hv7
    exact ⟨BX.refl _ _, rfl⟩
  · intro w9 D hS5 hd5
    have hl9 := Le.no M hS5
    have hC9 := hC2.no hS5
    have hd5 : PV RPacket M a_p (D 0) w9 ∧ PV (RArr 4 RInt) M x1 (D 1) w9 ∧ PA RInt M a_t.Field (D 2) w9 ∧ PEq (.int .i64 a_t.Field) (D 3) w9 ∧ True := hd5
    obtain ⟨-, d4, -, d6, -⟩ := hd5
    obtain ⟨v8, hq2⟩ : ∃ v, (D 1) = v := ⟨_, rfl⟩
    rw [hq2] at d4
    refine lw_sub (E' := [(8, v8), (10, (.int .i64 a_t.Field)), (2, (.pointer (some p1))), (3, (.pointer (some p2))), (4, (.bool false))]) ⟨(congrArg some hq2), (congrArg some d6), rfl, rfl, rfl, trivial⟩ ?_
    replace h := bind_some h
    obtain ⟨x2, hx2, h⟩ := h
    refine lw_op rfl rfl rfl (ow_index (R := RInt) rfl rfl rfl d4 Tryd.underlying143 (Tryd.sizeOf3 _) (Tryd.isAgg3 _) hx2 fun v9 hv9 => ?_)
    obtain rfl := vint_eq hv9
    refine lw_op rfl rfl rfl (ow_assign rfl rfl ?_)
    refine lw_nil ?_
    refine ew_then ?_
    refine cw_seq ?_
    refine cw_region ?_
    refine lw_op rfl rfl rfl (ow_fieldAddr rfl rfl Tryd.underlying148 rfl (Tryd.sizeOf3 _) ?_)
    refine lw_op rfl rfl rfl (ow_load (R := RInt) rfl rfl (ARep.mono (hl2.trans hl9) (hp1.fld fld_Test_Lo)) (Tryd.sizeOf3 _) (Tryd.isAgg3 _) fun v10 hv10 => ?_)
    obtain rfl := vint_eq hv10
    refine lw_op rfl rfl rfl (ow_move rfl rfl ?_)
    refine lw_op rfl rfl rfl (ow_leq rfl rfl rfl fun bb1 hbb1 => ?_)
    refine lw_op rfl rfl rfl (ow_move rfl rfl ?_)
    replace h := cond_some h
    rcases h with ⟨hc1, h⟩ | ⟨hc1, h⟩
    · obtain rfl := hbb1.trans hc1
      refine lw_on rfl rfl rfl rfl rfl rfl (ow_move rfl rfl ?_)
      refine lw_on rfl rfl rfl rfl rfl rfl (ow_fieldAddr rfl rfl Tryd.underlying148 rfl (Tryd.sizeOf3 _) ?_)
      refine lw_on rfl rfl rfl rfl rfl rfl (ow_load (R := RInt) rfl rfl (ARep.mono (hl2.trans hl9) (hp1.fld fld_Test_Hi)) (Tryd.sizeOf3 _) (Tryd.isAgg3 _) fun v11 hv11 => ?_)
      obtain rfl := vint_eq hv11
      refine lw_on rfl rfl rfl rfl rfl rfl (ow_leq rfl rfl rfl fun bb2 hbb2 => ?_)
      refine lw_op rfl rfl rfl (ow_pickT rfl rfl rfl ?_)
      refine lw_op rfl rfl rfl (ow_assign rfl rfl ?_)
      refine lw_nil ?_
      refine ew_then ?_
      refine cw_seq ?_
      refine cw_region ?_
      refine lw_op rfl rfl rfl (ow_move rfl rfl ?_)
      refine lw_op rfl rfl rfl (ow_fieldAddr rfl rfl Tryd.underlying148 rfl (Tryd.sizeOf4 _) ?_)
      refine lw_op rfl rfl rfl (ow_load (R := RBool) rfl rfl (ARep.mono (hl2.trans hl9) (hp1.fld fld_Test_Not)) (Tryd.sizeOf4 _) (Tryd.isAgg4 _) fun v12 hv12 => ?_)
      obtain ⟨bb3, hbb3, rfl⟩ := vbool_ex hv12
      refine lw_op rfl rfl rfl (ow_neqB rfl rfl rfl Tryd.underlying4 fun bb4 hbb4 => ?_)
      have hbb4' : bb4 = ((decide (x2 ≤ a_t.Hi)) != a_t.Not) := hbb4.trans (by rw [hbb2, hbb3])
      refine lw_op rfl rfl rfl (ow_assign rfl rfl ?_)
      refine lw_nil ?_
      refine ew_then ?_
      refine cw_ret ?_
      obtain rfl := Option.some.inj h
      exact ew_ret (res1 rfl (.tmp rfl)) ⟨_, rfl, ((vbool_of hbb4')), hC9.bx⟩
    · obtain rfl := hbb1.trans hc1
      refine lw_off rfl rfl rfl rfl rfl rfl ?_
      refine lw_off rfl rfl rfl rfl rfl rfl ?_
      refine lw_off rfl rfl rfl rfl rfl rfl ?_
      refine lw_off rfl rfl rfl rfl rfl rfl ?_
      refine lw_op rfl rfl rfl (ow_pickF rfl rfl rfl ?_)
      refine lw_op rfl rfl rfl (ow_assign rfl rfl ?_)
      refine lw_nil ?_
      refine ew_then ?_
      refine cw_seq ?_
      refine cw_region ?_
      refine lw_op rfl rfl rfl (ow_move rfl rfl ?_)
      refine lw_op rfl rfl rfl (ow_fieldAddr rfl rfl Tryd.underlying148 rfl (Tryd.sizeOf4 _) ?_)
      refine lw_op rfl rfl rfl (ow_load (R := RBool) rfl rfl (ARep.mono (hl2.trans hl9) (hp1.fld fld_Test_Not)) (Tryd.sizeOf4 _) (Tryd.isAgg4 _) fun v13 hv13 => ?_)
      obtain ⟨bb5, hbb5, rfl⟩ := vbool_ex hv13
      refine lw_op rfl rfl rfl (ow_neqB rfl rfl rfl Tryd.underlying4 fun bb6 hbb6 => ?_)
      have hbb6' : bb6 = (false != a_t.Not) := hbb6.trans (by rw [hbb5])
      refine lw_op rfl rfl rfl (ow_assign rfl rfl ?_)
      refine lw_nil ?_
      refine ew_then ?_
      refine cw_ret ?_
      obtain rfl := Option.some.inj h
      exact ew_ret (res1 rfl (.tmp rfl)) ⟨_, rfl, ((vbool_of hbb6')), hC9.bx⟩

theorem w_impl_allHold {w : World} {M : Nat → Prop} (hG : ARep (RArr 4 RShape) w M shapes ⟨0, 0, none⟩) (hO : ∀ b, M b → b < w.heap.size) {v0p : Value} {a_list : List Test} (h0 : VRep (RSlice RTest) w M a_list v0p) {v1p : Value} {a_p : Packet} (h1 : VRep RPacket w M a_p v1p) {r : Bool} (h : F.impl_allHold a_list a_p = some r) :
    Calls Tryd.prog 91 [v0p, v1p].toArray w fun e w' => ∃ v, e = .returned v ∧ VRep RBool w' M r v ∧ BX No w w' := by
  have hC : Cx No w M w M := Cx.start hO (fun _ e => e.elim)
  refine walk (N := 18) Tryd.func91 rfl Tryd.ntmps91 rfl ?_
  refine cw_seq ?_
  refine cw_region ?_
  refine lw_op rfl rfl rfl (ow_box (R := RPacket) rfl rfl h1 hC fun p1 w1 hp1 hb1 hl1 hC1 => ?_)
  refine lw_op rfl rfl rfl (ow_assign rfl rfl ?_)
  refine lw_nil ?_
  refine ew_then ?_
  refine cw_seq ?_
  refine cw_seq ?_
  refine cw_region ?_
  refine lw_op rfl rfl rfl (ow_move rfl rfl ?_)
  refine lw_op rfl rfl rfl (ow_len rfl rfl (VRep.mono hl1 h0) Tryd.underlying49 rfl ?_)
  refine lw_op rfl rfl rfl (ow_move rfl rfl ?_)
  refine lw_nil ?_
  refine ew_then ?_
  replace h := bind_some h
  obtain ⟨lr1, hlr1, h⟩ := h
  refine cw_for hlr1 (fun s a w' => ∃ (M' : Nat → Prop), Fits 18 [(3, (.pointer (some p1))), (7, v0p), (8, (.int .i64 (a_list.length : Int))), (9, (.int .i64 s))] a ∧ Le w1 M w' M' ∧ Cx No w M w' M') ?_ ?_ ?_
  · intro a ha
    exact ⟨M, ha.sub ⟨rfl, rfl, rfl, rfl, trivial⟩, Le.refl _ _, hC1⟩
  · rintro k1 a w2 sr1 ⟨M1, hF1, hl2, hC2⟩ hb2 hR1
    refine cw_at (E := [(3, (.pointer (some p1))), (7, v0p), (8, (.int .i64 (a_list.length : Int))), (9, (.int .i64 k1))]) hF1 ?_
    refine cw_seq ?_
    refine cw_region ?_
    refine lw_op rfl rfl rfl (ow_lss rfl rfl rfl fun bb1 hbb1 => ?_)
    refine lw_nil ?_
    refine ew_then ?_
    refine cw_seq ?_
    replace hb2 := cond_some hb2
    rcases hb2 with ⟨hc1, hb2⟩ | ⟨hc1, hb2⟩
    · obtain rfl := hbb1.trans hc1
      refine cw_true rfl ?_
      refine cw_skip ?_
      refine ew_then ?_
      refine cw_seq ?_
      refine cw_block ?_
      refine cw_seq ?_
      refine cw_region ?_
      replace hb2 := bind_some hb2
      obtain ⟨x1, hx1, hb2⟩ := hb2
      refine lw_op rfl rfl rfl (ow_indexSlice (R := RTest) rfl rfl rfl (VRep.mono (hl1.trans hl2) h0) Tryd.underlying49 (Tryd.sizeOf148 _) hx1 fun p2 hp2 => ?_)
      refine lw_op rfl rfl rfl (ow_load (R := RTest) rfl rfl hp2 (Tryd.sizeOf148 _) (Tryd.isAgg148 _) fun v2 hv2 => ?_)
      refine lw_allocStore (R := RTest) rfl rfl rfl rfl rfl rfl rfl Tryd.zeroValue148 Tryd.sizeOf148 rfl rfl rfl (by simp) hv2 hC2 fun p3 w3 hp3 hb3 hl3 hC3 => ?_
      refine lw_nil ?_
      refine ew_then ?_
      refine cw_seq ?_
      refine cw_region ?_
      refine lw_op rfl rfl rfl (ow_load (R := RTest) rfl rfl hp3 (Tryd.sizeOf148 _) (Tryd.isAgg148 _) fun v3 hv3 => ?_)
      refine lw_op rfl rfl rfl (ow_load (R := RPacket) rfl rfl (ARep.mono (hl2.trans hl3) hp1) (Tryd.sizeOf38 _) (Tryd.isAgg38 _) fun v4 hv4 => ?_)
      replace hb2 := bind_some hb2
      obtain ⟨x2, hx2, hb2⟩ := hb2
      refine lw_op rfl rfl rfl (ow_call rfl rfl Tryd.call121 (w_impl_Test_holds (hG.mono ((hl1.trans hl2).trans hl3)) hC3.old hv3 hv4 hx2) fun v5 w4 hv5 => ?_)
      obtain ⟨hv5, hb4⟩ := hv5
      have hl4 := Le.no M1 hb4
      have hC4 := hC3.no hb4
      obtain rfl := vbool_eq hv5
      refine lw_op rfl rfl rfl (ow_not rfl rfl ?_)
      refine lw_nil ?_
      refine ew_then ?_
      replace hb2 := cond_some hb2
      rcases hb2 with ⟨hc2, hb2⟩ | ⟨hc2, hb2⟩
      · subst hc2
        refine cw_false rfl ?_
        refine cw_skip ?_
        refine ew_blockN ?_
        refine ew_then ?_
        refine cw_region ?_
        refine lw_op rfl rfl rfl (ow_add rfl rfl rfl ?_)
        refine lw_op rfl rfl rfl (ow_move rfl rfl ?_)
        refine lw_nil ?_
        refine ew_nxt (W (k1 + 1)) hb2 fun a ha => ⟨M1, ?_, ((hl2.trans hl3).trans hl4), hC4⟩
        exact ha.sub ⟨rfl, rfl, rfl, rfl, trivial⟩
      · subst hc2
        refine cw_true rfl ?_
        refine cw_seq ?_
        refine cw_region ?_
        refine lw_op rfl rfl rfl (ow_assign rfl rfl ?_)
        refine lw_nil ?_
        refine ew_then ?_
        refine cw_ret ?_
        refine ew_blockR ?_
        refine ew_thenR ?_
        refine ew_thenR ?_
        refine ew_blockR ?_
        refine ew_brkR ?_
        refine ew_thenR ?_
        have e1 := hR1 _ (Option.some.inj hb2).symm
        subst e1
        obtain rfl := Option.some.inj h
        exact ew_ret (res1 rfl (.tmp rfl)) ⟨_, rfl, ((vbool _)), hC4.bx⟩
    · obtain rfl := hbb1.trans hc1
      refine cw_false rfl ?_
      refine cw_exit ?_
      refine ew_thenX ?_
      refine ew_thenX ?_
      refine ew_blockX ?_
      refine ew_brk k1 hb2 fun a ha => ⟨M1, ?_, hl2, hC2⟩
      exact ha.sub ⟨rfl, rfl, rfl, rfl, trivial⟩
  · rintro k2 a w5 hlr2 ⟨M2, hF2, hl5, hC5⟩
    subst hlr2
    refine ew_at (E := [(3, (.pointer (some p1))), (7, v0p), (8, (.int .i64 (a_list.length : Int))), (9, (.int .i64 k2))]) hF2 ?_
    refine ew_then ?_
    refine cw_seq ?_
    refine cw_region ?_
    refine lw_op rfl rfl rfl (ow_assign rfl rfl ?_)
    refine lw_nil ?_
    refine ew_then ?_
    refine cw_ret ?_
    obtain rfl := Option.some.inj h
    exact ew_ret (res1 rfl (.tmp rfl)) ⟨_, rfl, ((vbool _)), hC5.bx⟩

theorem w_impl_RuleFits {w : World} {M : Nat → Prop} (hG : ARep (RArr 4 RShape) w M shapes ⟨0, 0, none⟩) (hO : ∀ b, M b → b < w.heap.size) {v0p : Value} {a_r : Rule} (h0 : VRep RRule w M a_r v0p) {v1p : Value} {a_p : Packet} (h1 : VRep RPacket w M a_p v1p) {r : Bool} (h : F.impl_RuleFits a_r a_p = some r) :
    Calls Tryd.prog 35 [v0p, v1p].toArray w fun e w' => ∃ v, e = .returned v ∧ VRep RBool w' M r v ∧ BX No w w' := by
  have hC : Cx No w M w M := Cx.start hO (fun _ e => e.elim)
  refine walk (N := 17) Tryd.func35 rfl Tryd.ntmps35 rfl ?_
  refine cw_seq ?_
  refine cw_region ?_
  refine lw_op rfl rfl rfl (ow_box (R := RRule) rfl rfl h0 hC fun p1 w1 hp1 hb1 hl1 hC1 => ?_)
  refine lw_op rfl rfl rfl (ow_box (R := RPacket) rfl rfl (VRep.mono hl1 h1) hC1 fun p2 w2 hp2 hb2 hl2 hC2 => ?_)
  refine lw_op rfl rfl rfl (ow_assign rfl rfl ?_)
  refine lw_nil ?_
  refine ew_then ?_
  refine cw_seq ?_
  refine cw_region ?_
  refine lw_op rfl rfl rfl (ow_load (R := RRule) rfl rfl (ARep.mono hl2 hp1) (Tryd.sizeOf51 _) (Tryd.isAgg51 _) fun v1 hv1 => ?_)
  replace h := bind_some h
  obtain ⟨x1, hx1, h⟩ := h
  refine lw_op rfl rfl rfl (ow_call rfl rfl Tryd.call90 (w_impl_RuleValid (hG.mono (hl1.trans hl2)) hC2.old hv1 hx1) fun v2 w3 hv2 => ?_)
  obtain ⟨hv2, hb3⟩ := hv2
  have hl3 := Le.no M hb3
  have hC3 := hC2.no hb3
  obtain rfl := vbool_eq hv2
  refine lw_op rfl rfl rfl (ow_move rfl rfl ?_)
  replace h := cond_some h
  rcases h with ⟨hc1, h⟩ | ⟨hc1, h⟩
  · subst hc1
    refine lw_on rfl rfl rfl rfl rfl rfl (ow_load (R := RPacket) rfl rfl (ARep.mono hl3 hp2) (Tryd.sizeOf38 _) (Tryd.isAgg38 _) fun v3 hv3 => ?_)
    replace h := bind_some h
    obtain ⟨x2, hx2, h⟩ := h
    refine lw_on rfl rfl rfl rfl rfl rfl (ow_call rfl rfl Tryd.call82 (w_impl_PacketValid (hG.mono ((hl1.trans hl2).trans hl3)) hC3.old hv3 hx2) fun v4 w4 hv4 => ?_)
    obtain ⟨hv4, hb4⟩ := hv4
    have hl4 := Le.no M hb4
    have hC4 := hC3.no hb4
    obtain rfl := vbool_eq hv4
    refine lw_op rfl rfl rfl (ow_pickT rfl rfl rfl ?_)
    refine lw_op rfl rfl rfl (ow_move rfl rfl ?_)
    replace h := cond_some h
    rcases h with ⟨hc2, h⟩ | ⟨hc2, h⟩
    · subst hc2
      refine lw_on rfl rfl rfl rfl rfl rfl (ow_fieldAddr rfl rfl Tryd.underlying51 rfl (Tryd.sizeOf49 _) ?_)
      refine lw_on rfl rfl rfl rfl rfl rfl (ow_load (R := (RSlice RTest)) rfl rfl (ARep.mono ((hl2.trans hl3).trans hl4) (hp1.fld fld_Rule_Tests)) (Tryd.sizeOf49 _) (Tryd.isAgg49 _) fun v5 hv5 => ?_)
      refine lw_on rfl rfl rfl rfl rfl rfl (ow_load (R := RPacket) rfl rfl (ARep.mono (hl3.trans hl4) hp2) (Tryd.sizeOf38 _) (Tryd.isAgg38 _) fun v6 hv6 => ?_)
      replace h := bind_some h
      obtain ⟨x3, hx3, h⟩ := h
      refine lw_on rfl rfl rfl rfl rfl rfl (ow_call rfl rfl Tryd.call91 (w_impl_allHold (hG.mono (((hl1.trans hl2).trans hl3).trans hl4)) hC4.old hv5 hv6 hx3) fun v7 w5 hv7 => ?_)
      obtain ⟨hv7, hb5⟩ := hv7
      have hl5 := Le.no M hb5
      have hC5 := hC4.no hb5
      obtain rfl := vbool_eq hv7
      refine lw_op rfl rfl rfl (ow_pickT rfl rfl rfl ?_)
      refine lw_op rfl rfl rfl (ow_assign rfl rfl ?_)
      refine lw_nil ?_
      refine ew_then ?_
      refine cw_ret ?_
      obtain rfl := Option.some.inj h
      exact ew_ret (res1 rfl (.tmp rfl)) ⟨_, rfl, ((vbool _)), hC5.bx⟩
    · subst hc2
      refine lw_off rfl rfl rfl rfl rfl rfl ?_
      refine lw_off rfl rfl rfl rfl rfl rfl ?_
      refine lw_off rfl rfl rfl rfl rfl rfl ?_
      refine lw_off rfl rfl rfl rfl rfl rfl ?_
      refine lw_op rfl rfl rfl (ow_pickF rfl rfl rfl ?_)
      refine lw_op rfl rfl rfl (ow_assign rfl rfl ?_)
      refine lw_nil ?_
      refine ew_then ?_
      refine cw_ret ?_
      obtain rfl := Option.some.inj h
      exact ew_ret (res1 rfl (.tmp rfl)) ⟨_, rfl, ((vbool _)), hC4.bx⟩
  · subst hc1
    refine lw_off rfl rfl rfl rfl rfl rfl ?_
    refine lw_off rfl rfl rfl rfl rfl rfl ?_
    refine lw_op rfl rfl rfl (ow_pickF rfl rfl rfl ?_)
    refine lw_op rfl rfl rfl (ow_move rfl rfl ?_)
    refine lw_off rfl rfl rfl rfl rfl rfl ?_
    refine lw_off rfl rfl rfl rfl rfl rfl ?_
    refine lw_off rfl rfl rfl rfl rfl rfl ?_
    refine lw_off rfl rfl rfl rfl rfl rfl ?_
    refine lw_op rfl rfl rfl (ow_pickF rfl rfl rfl ?_)
    refine lw_op rfl rfl rfl (ow_assign rfl rfl ?_)
    refine lw_nil ?_
    refine ew_then ?_
    refine cw_ret ?_
    obtain rfl := Option.some.inj h
    exact ew_ret (res1 rfl (.tmp rfl)) ⟨_, rfl, ((vbool _)), hC3.bx⟩

theorem w_laws_eqTest {w : World} {M : Nat → Prop} (hG : ARep (RArr 4 RShape) w M shapes ⟨0, 0, none⟩) (hO : ∀ b, M b → b < w.heap.size) {v0p : Value} {a_a : Test} (h0 : VRep RTest w M a_a v0p) {v1p : Value} {a_b : Test} (h1 : VRep RTest w M a_b v1p) {r : Bool} (h : F.laws_eqTest a_a a_b = some r) :
    Calls Tryd.prog 122 [v0p, v1p].toArray w fun e w' => ∃ v, e = .returned v ∧ VRep RBool w' M r v ∧ BX No w w' := by
  have hC : Cx No w M w M := Cx.start hO (fun _ e => e.elim)
  clear hG
  refine walk (N := 25) Tryd.func122 rfl Tryd.ntmps122 rfl ?_
  refine cw_seq ?_
  refine cw_region ?_
  refine lw_op rfl rfl rfl (ow_box (R := RTest) rfl rfl h0 hC fun p1 w1 hp1 hb1 hl1 hC1 => ?_)
  refine lw_op rfl rfl rfl (ow_box (R := RTest) rfl rfl (VRep.mono hl1 h1) hC1 fun p2 w2 hp2 hb2 hl2 hC2 => ?_)
  refine lw_op rfl rfl rfl (ow_assign rfl rfl ?_)
  refine lw_nil ?_
  refine ew_then ?_
  refine cw_seq ?_
  refine cw_seq ?_
  refine cw_region ?_
  refine lw_op rfl rfl rfl (ow_fieldAddr rfl rfl Tryd.underlying148 rfl (Tryd.sizeOf3 _) ?_)
  refine lw_op rfl rfl rfl (ow_load (R := RInt) rfl rfl (ARep.mono hl2 (hp1.fld fld_Test_Field)) (Tryd.sizeOf3 _) (Tryd.isAgg3 _) fun v1 hv1 => ?_)
  obtain rfl := vint_eq hv1
  refine lw_op rfl rfl rfl (ow_fieldAddr rfl rfl Tryd.underlying148 rfl (Tryd.sizeOf3 _) ?_)
  refine lw_op rfl rfl rfl (ow_load (R := RInt) rfl rfl (hp2.fld fld_Test_Field) (Tryd.sizeOf3 _) (Tryd.isAgg3 _) fun v2 hv2 => ?_)
  obtain rfl := vint_eq hv2
  refine lw_op rfl rfl rfl (ow_neqI rfl rfl rfl fun bb1 hbb1 => ?_)
  refine lw_nil ?_
  refine ew_then ?_
  replace h := cond_some h
  rcases h with ⟨hc1, h⟩ | ⟨hc1, h⟩
  · obtain rfl := hbb1.trans hc1
    refine cw_true rfl ?_
    refine cw_seq ?_
    refine cw_region ?_
    refine lw_op rfl rfl rfl (ow_assign rfl rfl ?_)
    refine lw_nil ?_
    refine ew_then ?_
    refine cw_ret ?_
    refine ew_thenR ?_
    obtain rfl := Option.some.inj h
    exact ew_ret (res1 rfl (.tmp rfl)) ⟨_, rfl, ((vbool _)), hC2.bx⟩
  · obtain rfl := hbb1.trans hc1
    refine cw_false rfl ?_
    refine cw_skip ?_
    refine ew_then ?_
    refine cw_seq ?_
    refine cw_seq ?_
    refine cw_region ?_
    refine lw_op rfl rfl rfl (ow_fieldAddr rfl rfl Tryd.underlying148 rfl (Tryd.sizeOf3 _) ?_)
    refine lw_op rfl rfl rfl (ow_load (R := RInt) rfl rfl (ARep.mono hl2 (hp1.fld fld_Test_Lo)) (Tryd.sizeOf3 _) (Tryd.isAgg3 _) fun v3 hv3 => ?_)
    obtain rfl := vint_eq hv3
    refine lw_op rfl rfl rfl (ow_fieldAddr rfl rfl Tryd.underlying148 rfl (Tryd.sizeOf3 _) ?_)
    refine lw_op rfl rfl rfl (ow_load (R := RInt) rfl rfl (hp2.fld fld_Test_Lo) (Tryd.sizeOf3 _) (Tryd.isAgg3 _) fun v4 hv4 => ?_)
    obtain rfl := vint_eq hv4
    refine lw_op rfl rfl rfl (ow_neqI rfl rfl rfl fun bb2 hbb2 => ?_)
    refine lw_nil ?_
    refine ew_then ?_
    replace h := cond_some h
    rcases h with ⟨hc2, h⟩ | ⟨hc2, h⟩
    · obtain rfl := hbb2.trans hc2
      refine cw_true rfl ?_
      refine cw_seq ?_
      refine cw_region ?_
      refine lw_op rfl rfl rfl (ow_assign rfl rfl ?_)
      refine lw_nil ?_
      refine ew_then ?_
      refine cw_ret ?_
      refine ew_thenR ?_
      obtain rfl := Option.some.inj h
      exact ew_ret (res1 rfl (.tmp rfl)) ⟨_, rfl, ((vbool _)), hC2.bx⟩
    · obtain rfl := hbb2.trans hc2
      refine cw_false rfl ?_
      refine cw_skip ?_
      refine ew_then ?_
      refine cw_seq ?_
      refine cw_seq ?_
      refine cw_region ?_
      refine lw_op rfl rfl rfl (ow_fieldAddr rfl rfl Tryd.underlying148 rfl (Tryd.sizeOf3 _) ?_)
      refine lw_op rfl rfl rfl (ow_load (R := RInt) rfl rfl (ARep.mono hl2 (hp1.fld fld_Test_Hi)) (Tryd.sizeOf3 _) (Tryd.isAgg3 _) fun v5 hv5 => ?_)
      obtain rfl := vint_eq hv5
      refine lw_op rfl rfl rfl (ow_fieldAddr rfl rfl Tryd.underlying148 rfl (Tryd.sizeOf3 _) ?_)
      refine lw_op rfl rfl rfl (ow_load (R := RInt) rfl rfl (hp2.fld fld_Test_Hi) (Tryd.sizeOf3 _) (Tryd.isAgg3 _) fun v6 hv6 => ?_)
      obtain rfl := vint_eq hv6
      refine lw_op rfl rfl rfl (ow_neqI rfl rfl rfl fun bb3 hbb3 => ?_)
      refine lw_nil ?_
      refine ew_then ?_
      replace h := cond_some h
      rcases h with ⟨hc3, h⟩ | ⟨hc3, h⟩
      · obtain rfl := hbb3.trans hc3
        refine cw_true rfl ?_
        refine cw_seq ?_
        refine cw_region ?_
        refine lw_op rfl rfl rfl (ow_assign rfl rfl ?_)
        refine lw_nil ?_
        refine ew_then ?_
        refine cw_ret ?_
        refine ew_thenR ?_
        obtain rfl := Option.some.inj h
        exact ew_ret (res1 rfl (.tmp rfl)) ⟨_, rfl, ((vbool _)), hC2.bx⟩
      · obtain rfl := hbb3.trans hc3
        refine cw_false rfl ?_
        refine cw_skip ?_
        refine ew_then ?_
        refine cw_seq ?_
        refine cw_seq ?_
        refine cw_region ?_
        refine lw_op rfl rfl rfl (ow_fieldAddr rfl rfl Tryd.underlying148 rfl (Tryd.sizeOf4 _) ?_)
        refine lw_op rfl rfl rfl (ow_load (R := RBool) rfl rfl (ARep.mono hl2 (hp1.fld fld_Test_Not)) (Tryd.sizeOf4 _) (Tryd.isAgg4 _) fun v7 hv7 => ?_)
        obtain ⟨bb4, hbb4, rfl⟩ := vbool_ex hv7
        refine lw_op rfl rfl rfl (ow_fieldAddr rfl rfl Tryd.underlying148 rfl (Tryd.sizeOf4 _) ?_)
        refine lw_op rfl rfl rfl (ow_load (R := RBool) rfl rfl (hp2.fld fld_Test_Not) (Tryd.sizeOf4 _) (Tryd.isAgg4 _) fun v8 hv8 => ?_)
        obtain ⟨bb5, hbb5, rfl⟩ := vbool_ex hv8
        refine lw_op rfl rfl rfl (ow_neqB rfl rfl rfl Tryd.underlying4 fun bb6 hbb6 => ?_)
        have hbb6' : bb6 = (a_a.Not != a_b.Not) := hbb6.trans (by rw [hbb4, hbb5])
        refine lw_nil ?_
        refine ew_then ?_
        replace h := cond_some h
        rcases h with ⟨hc4, h⟩ | ⟨hc4, h⟩
        · obtain rfl := hbb6'.trans hc4
          refine cw_true rfl ?_
          refine cw_seq ?_
          refine cw_region ?_
          refine lw_op rfl rfl rfl (ow_assign rfl rfl ?_)
          refine lw_nil ?_
          refine ew_then ?_
          refine cw_ret ?_
          refine ew_thenR ?_
          obtain rfl := Option.some.inj h
          exact ew_ret (res1 rfl (.tmp rfl)) ⟨_, rfl, ((vbool _)), hC2.bx⟩
        · obtain rfl := hbb6'.trans hc4
          refine cw_false rfl ?_
          refine cw_skip ?_
          refine ew_then ?_
          refine cw_seq ?_
          refine cw_region ?_
          refine lw_op rfl rfl rfl (ow_assign rfl rfl ?_)
          refine lw_nil ?_
          refine ew_then ?_
          refine cw_ret ?_
          obtain rfl := Option.some.inj h
          exact ew_ret (res1 rfl (.tmp rfl)) ⟨_, rfl, ((vbool _)), hC2.bx⟩

theorem w_laws_eqTestS {w : World} {M : Nat → Prop} (hG : ARep (RArr 4 RShape) w M shapes ⟨0, 0, none⟩) (hO : ∀ b, M b → b < w.heap.size) {v0p : Value} {a_a : List Test} (h0 : VRep (RSlice RTest) w M a_a v0p) {v1p : Value} {a_b : List Test} (h1 : VRep (RSlice RTest) w M a_b v1p) {r : Bool} (h : F.laws_eqTestS a_a a_b = some r) :
    Calls Tryd.prog 92 [v0p, v1p].toArray w fun e w' => ∃ v, e = .returned v ∧ VRep RBool w' M r v ∧ BX No w w' := by
  have hC : Cx No w M w M := Cx.start hO (fun _ e => e.elim)
  refine walk (N := 27) Tryd.func92 rfl Tryd.ntmps92 rfl ?_
  refine cw_seq ?_
  refine cw_region ?_
  refine lw_op rfl rfl rfl (ow_assign rfl rfl ?_)
  refine lw_nil ?_
  refine ew_then ?_
  refine cw_seq ?_
  refine cw_seq ?_
  refine cw_region ?_
  refine lw_op rfl rfl rfl (ow_move rfl rfl ?_)
  refine lw_op rfl rfl rfl (ow_len rfl rfl h0 Tryd.underlying49 rfl ?_)
  refine lw_op rfl rfl rfl (ow_move rfl rfl ?_)
  refine lw_op rfl rfl rfl (ow_len rfl rfl h1 Tryd.underlying49 rfl ?_)
  refine lw_op rfl rfl rfl (ow_neqI rfl rfl rfl fun bb1 hbb1 => ?_)
  refine lw_nil ?_
  refine ew_then ?_
  replace h := cond_some h
  rcases h with ⟨hc1, h⟩ | ⟨hc1, h⟩
  · obtain rfl := hbb1.trans hc1
    refine cw_true rfl ?_
    refine cw_seq ?_
    refine cw_region ?_
    refine lw_op rfl rfl rfl (ow_assign rfl rfl ?_)
    refine lw_nil ?_
    refine ew_then ?_
    refine cw_ret ?_
    refine ew_thenR ?_
    obtain rfl := Option.some.inj h
    exact ew_ret (res1 rfl (.tmp rfl)) ⟨_, rfl, ((vbool _)), hC.bx⟩
  · obtain rfl := hbb1.trans hc1
    refine cw_false rfl ?_
    refine cw_skip ?_
    refine ew_then ?_
    refine cw_seq ?_
    refine cw_seq ?_
    refine cw_region ?_
    refine lw_op rfl rfl rfl (ow_assign rfl rfl ?_)
    refine lw_nil ?_
    refine ew_then ?_
    replace h := bind_some h
    obtain ⟨lr1, hlr1, h⟩ := h
    refine cw_for hlr1 (fun s a w' => ∃ (M' : Nat → Prop), Fits 27 [(0, v0p), (1, v1p), (5, (.int .i64 s))] a ∧ Le w M w' M' ∧ Cx No w M w' M') ?_ ?_ ?_
    · intro a ha
      exact ⟨M, ha.sub ⟨rfl, rfl, rfl, trivial⟩, Le.refl _ _, hC⟩
    · rintro k1 a w1 sr1 ⟨M1, hF1, hl1, hC1⟩ hb1 hR1
      refine cw_at (E := [(0, v0p), (1, v1p), (5, (.int .i64 k1))]) hF1 ?_
      refine cw_seq ?_
      refine cw_seq ?_
      refine cw_region ?_
      refine lw_op rfl rfl rfl (ow_move rfl rfl ?_)
      refine lw_op rfl rfl rfl (ow_move rfl rfl ?_)
      refine lw_op rfl rfl rfl (ow_len rfl rfl (VRep.mono hl1 h0) Tryd.underlying49 rfl ?_)
      refine lw_op rfl rfl rfl (ow_lss rfl rfl rfl fun bb2 hbb2 => ?_)
      refine lw_nil ?_
      refine ew_then ?_
      replace hb1 := cond_some hb1
      rcases hb1 with ⟨hc2, hb1⟩ | ⟨hc2, hb1⟩
      · obtain rfl := hbb2.trans hc2
        refine cw_true rfl ?_
        refine cw_skip ?_
        refine ew_then ?_
        refine cw_seq ?_
        refine cw_block ?_
        refine cw_seq ?_
        replace hb1 := bind_some hb1
        obtain ⟨x1, hx1, hb1⟩ := hb1
        replace hb1 := bind_some hb1
        obtain ⟨x2, hx2, hb1⟩ := hb1
        refine cw_sub (E' := [(0, v0p), (1, v1p), (5, (.int .i64 k1))]) ⟨rfl, rfl, rfl, trivial⟩ ?_
        refine cw_drawQ 8 [PV (RSlice RTest) M1 a_a, PEq (.int .i64 k1), PA RTest M1 x1, PV RTest M1 x1, PV (RSlice RTest) M1 a_b, PEq (.int .i64 k1), PA RTest M1 x2, PV RTest M1 x2] (by kernel_rfl) rfl (by kernel_rfl) ⟨PV.mono _ _ _, PEq.mono _, PA.mono _ _ _, PV.mono _ _ _, PV.mono _ _ _, PEq.mono _, PA.mono _ _ _, PV.mono _ _ _, trivial⟩ ⟨?_, ?_, ?_, ?_, ?_, ?_, ?_, ?_, trivial⟩ ?_
        · intro w2 D hS1 hd1
          have hl2 := Le.no M1 hS1
          have hC2 := hC1.no hS1
          refine dg_sub (E' := [(0, v0p)]) ⟨rfl, trivial⟩ ?_
          refine dg_plain rfl (ow_move rfl rfl ?_)
          exact ⟨BX.refl _ _, (VRep.mono (hl1.trans hl2) h0)⟩
        · intro w3 D hS2 hd2
          have hl3 := Le.no M1 hS2
          have hC3 := hC1.no hS2
          refine dg_sub (E' := [(5, (.int .i64 k1))]) ⟨rfl, trivial⟩ ?_
          refine dg_plain rfl (ow_move rfl rfl ?_)
          exact ⟨BX.refl _ _, rfl⟩
        · intro w4 D hS3 hd3
          have hl4 := Le.no M1 hS3
          have hC4 := hC1.no hS3
          have hd3 : PV (RSlice RTest) M1 a_a (D 0) w4 ∧ PEq (.int .i64 k1) (D 1) w4 ∧ True := hd3
          obtain ⟨d1, d2, -⟩ := hd3
          obtain ⟨v4, hq1⟩ : ∃ v, (D 0) = v := ⟨_, rfl⟩
          rw [hq1] at d1
          refine dg_sub (E' := [(17, v4), (18, (.int .i64 k1))]) ⟨(congrArg some hq1), (congrArg some d2), trivial⟩ ?_
          refine dg_plain rfl (ow_indexSlice (R := RTest) rfl rfl rfl d1 Tryd.underlying49 (Tryd.sizeOf148 _) hx1 fun p3 hp3 => ?_)
          exact ⟨BX.refl _ _, ⟨_, rfl, hp3⟩⟩
        · intro w5 D hS4 hd4
          have hl5 := Le.no M1 hS4
          have hC5 := hC1.no hS4
          have hd4 : PA RTest M1 x1 (D 2) w5 ∧ True := hd4
          obtain ⟨d3, -⟩ := hd4
          obtain ⟨p4, e1, ha1⟩ := d3
          refine dg_sub (E' := [(19, (.pointer (some p4)))]) ⟨(congrArg some e1), trivial⟩ ?_
          refine dg_plain rfl (ow_load (R := RTest) rfl rfl ha1 (Tryd.sizeOf148 _) (Tryd.isAgg148 _) fun v5 hv5 => ?_)
          exact ⟨BX.refl _ _, hv5⟩
        · intro w6 D hS5 hd5
          have hl6 := Le.no M1 hS5
          have hC6 := hC1.no hS5
          refine dg_sub (E' := [(1, v1p)]) ⟨rfl, trivial⟩ ?_
          refine dg_plain rfl (ow_move rfl rfl ?_)
          exact ⟨BX.refl _ _, (VRep.mono (hl1.trans hl6) h1)⟩
        · intro w7 D hS6 hd6
          have hl7 := Le.no M1 hS6
          have hC7 := hC1.no hS6
          refine dg_sub (E' := [(5, (.int .i64 k1))]) ⟨rfl, trivial⟩ ?_
          refine dg_plain rfl (ow_move rfl rfl ?_)
          exact ⟨BX.refl _ _, rfl⟩
        · intro w8 D hS7 hd7
          have hl8 := Le.no M1 hS7
          have hC8 := hC1.no hS7
          have hd7 : PV (RSlice RTest) M1 a_b (D 4) w8 ∧ PEq (.int .i64 k1) (D 5) w8 ∧ True := hd7
          obtain ⟨d4, d5, -⟩ := hd7
          obtain ⟨v6, hq2⟩ : ∃ v, (D 4) = v := ⟨_, rfl⟩
          rw [hq2] at d4
          refine dg_sub (E' := [(21, v6), (22, (.int .i64 k1))]) ⟨(congrArg some hq2), (congrArg some d5), trivial⟩ ?_
          refine dg_plain rfl (ow_indexSlice (R := RTest) rfl rfl rfl d4 Tryd.underlying49 (Tryd.sizeOf148 _) hx2 fun p5 hp5 => ?_)
          exact ⟨BX.refl _ _, ⟨_, rfl, hp5⟩⟩
        · intro w9 D hS8 hd8
          have hl9 := Le.no M1 hS8
          have hC9 := hC1.no hS8
          have hd8 : PA RTest M1 x2 (D 6) w9 ∧ True := hd8
          obtain ⟨d6, -⟩ := hd8
          obtain ⟨p6, e2, ha2⟩ := d6
          refine dg_sub (E' := [(23, (.pointer (some p6)))]) ⟨(congrArg some e2), trivial⟩ ?_
          refine dg_plain rfl (ow_load (R := RTest) rfl rfl ha2 (Tryd.sizeOf148 _) (Tryd.isAgg148 _) fun v7 hv7 => ?_)
          exact ⟨BX.refl _ _, hv7⟩
        · intro w10 D hS9 hd9
          have hl10 := Le.no M1 hS9
          have hC10 := hC1.no hS9
          have hd9 : PV (RSlice RTest) M1 a_a (D 0) w10 ∧ PEq (.int .i64 k1) (D 1) w10 ∧ PA RTest M1 x1 (D 2) w10 ∧ PV RTest M1 x1 (D 3) w10 ∧ PV (RSlice RTest) M1 a_b (D 4) w10 ∧ PEq (.int .i64 k1) (D 5) w10 ∧ PA RTest M1 x2 (D 6) w10 ∧ PV RTest M1 x2 (D 7) w10 ∧ True := hd9
          obtain ⟨-, -, -, d10, -, -, -, d14, -⟩ := hd9
          obtain ⟨v8, hq3⟩ : ∃ v, (D 3) = v := ⟨_, rfl⟩
          rw [hq3] at d10
          obtain ⟨v9, hq4⟩ : ∃ v, (D 7) = v := ⟨_, rfl⟩
          rw [hq4] at d14
          refine lw_sub (E' := [(20, v8), (24, v9), (0, v0p), (1, v1p), (5, (.int .i64 k1))]) ⟨(congrArg some hq3), (congrArg some hq4), rfl, rfl, rfl, trivial⟩ ?_
          replace hb1 := bind_some hb1
          obtain ⟨x3, hx3, hb1⟩ := hb1
          refine lw_op rfl rfl rfl (ow_call rfl rfl Tryd.call122 (w_laws_eqTest (hG.mono (hl1.trans hl10)) hC10.old d10 d14 hx3) fun v10 w11 hv10 => ?_)
          obtain ⟨hv10, hb2⟩ := hv10
          have hl11 := Le.no M1 hb2
          have hC11 := hC10.no hb2
          obtain rfl := vbool_eq hv10
          refine lw_op rfl rfl rfl (ow_not rfl rfl ?_)
          refine lw_nil ?_
          refine ew_then ?_
          replace hb1 := cond_some hb1
          rcases hb1 with ⟨hc3, hb1⟩ | ⟨hc3, hb1⟩
          · subst hc3
            refine cw_false rfl ?_
            refine cw_skip ?_
            refine ew_blockN ?_
            refine ew_then ?_
            refine cw_region ?_
            refine lw_op rfl rfl rfl (ow_move rfl rfl ?_)
            refine lw_op rfl rfl rfl (ow_add rfl rfl rfl ?_)
            refine lw_op rfl rfl rfl (ow_assign rfl rfl ?_)
            refine lw_nil ?_
            refine ew_nxt (W (k1 + 1)) hb1 fun a ha => ⟨M1, ?_, ((hl1.trans hl10).trans hl11), hC11⟩
            exact ha.sub ⟨rfl, rfl, rfl, trivial⟩
          · subst hc3
            refine cw_true rfl ?_
            refine cw_seq ?_
            refine cw_region ?_
            refine lw_op rfl rfl rfl (ow_assign rfl rfl ?_)
            refine lw_nil ?_
            refine ew_then ?_
            refine cw_ret ?_
            refine ew_blockR ?_
            refine ew_thenR ?_
            refine ew_thenR ?_
            refine ew_blockR ?_
            refine ew_brkR ?_
            refine ew_thenR ?_
            have e3 := hR1 _ (Option.some.inj hb1).symm
            subst e3
            obtain rfl := Option.some.inj h
            exact ew_ret (res1 rfl (.tmp rfl)) ⟨_, rfl, ((vbool _)), hC11.bx⟩
      · obtain rfl := hbb2.trans hc2
        refine cw_false rfl ?_
        refine cw_exit ?_
        refine ew_thenX ?_
        refine ew_thenX ?_
        refine ew_blockX ?_
        refine ew_brk k1 hb1 fun a ha => ⟨M1, ?_, hl1, hC1⟩
        exact ha.sub ⟨rfl, rfl, rfl, trivial⟩
    · rintro k2 a w12 hlr2 ⟨M2, hF2, hl12, hC12⟩
      subst hlr2
      refine ew_at (E := [(0, v0p), (1, v1p), (5, (.int .i64 k2))]) hF2 ?_
      refine ew_then ?_
      refine cw_seq ?_
      refine cw_region ?_
      refine lw_op rfl rfl rfl (ow_assign rfl rfl ?_)
      refine lw_nil ?_
      refine ew_then ?_
      refine cw_ret ?_
      obtain rfl := Option.some.inj h
      exact ew_ret (res1 rfl (.tmp rfl)) ⟨_, rfl, ((vbool _)), hC12.bx⟩

theorem w_laws_eqRule {w : World} {M : Nat → Prop} (hG : ARep (RArr 4 RShape) w M shapes ⟨0, 0, none⟩) (hO : ∀ b, M b → b < w.heap.size) {v0p : Value} {a_a : Rule} (h0 : VRep RRule w M a_a v0p) {v1p : Value} {a_b : Rule} (h1 : VRep RRule w M a_b v1p) {r : Bool} (h : F.laws_eqRule a_a a_b = some r) :
    Calls Tryd.prog 36 [v0p, v1p].toArray w fun e w' => ∃ v, e = .returned v ∧ VRep RBool w' M r v ∧ BX No w w' := by
  have hC : Cx No w M w M := Cx.start hO (fun _ e => e.elim)
  refine walk (N := 21) Tryd.func36 rfl Tryd.ntmps36 rfl ?_
  refine cw_seq ?_
  refine cw_region ?_
  refine lw_op rfl rfl rfl (ow_box (R := RRule) rfl rfl h0 hC fun p1 w1 hp1 hb1 hl1 hC1 => ?_)
  refine lw_op rfl rfl rfl (ow_box (R := RRule) rfl rfl (VRep.mono hl1 h1) hC1 fun p2 w2 hp2 hb2 hl2 hC2 => ?_)
  refine lw_op rfl rfl rfl (ow_assign rfl rfl ?_)
  refine lw_nil ?_
  refine ew_then ?_
  refine cw_seq ?_
  refine cw_seq ?_
  refine cw_region ?_
  refine lw_op rfl rfl rfl (ow_fieldAddr rfl rfl Tryd.underlying51 rfl (Tryd.sizeOf49 _) ?_)
  refine lw_op rfl rfl rfl (ow_load (R := (RSlice RTest)) rfl rfl (ARep.mono hl2 (hp1.fld fld_Rule_Tests)) (Tryd.sizeOf49 _) (Tryd.isAgg49 _) fun v1 hv1 => ?_)
  refine lw_op rfl rfl rfl (ow_fieldAddr rfl rfl Tryd.underlying51 rfl (Tryd.sizeOf49 _) ?_)
  refine lw_op rfl rfl rfl (ow_load (R := (RSlice RTest)) rfl rfl (hp2.fld fld_Rule_Tests) (Tryd.sizeOf49 _) (Tryd.isAgg49 _) fun v2 hv2 => ?_)
  replace h := bind_some h
  obtain ⟨x1, hx1, h⟩ := h
  refine lw_op rfl rfl rfl (ow_call rfl rfl Tryd.call92 (w_laws_eqTestS (hG.mono (hl1.trans hl2)) hC2.old hv1 hv2 hx1) fun v3 w3 hv3 => ?_)
  obtain ⟨hv3, hb3⟩ := hv3
  have hl3 := Le.no M hb3
  have hC3 := hC2.no hb3
  obtain rfl := vbool_eq hv3
  refine lw_op rfl rfl rfl (ow_not rfl rfl ?_)
  refine lw_nil ?_
  refine ew_then ?_
  replace h := cond_some h
  rcases h with ⟨hc1, h⟩ | ⟨hc1, h⟩
  · subst hc1
    refine cw_false rfl ?_
    refine cw_skip ?_
    refine ew_then ?_
    refine cw_seq ?_
    refine cw_seq ?_
    refine cw_region ?_
    refine lw_op rfl rfl rfl (ow_fieldAddr rfl rfl Tryd.underlying51 rfl (Tryd.sizeOf3 _) ?_)
    refine lw_op rfl rfl rfl (ow_load (R := RInt) rfl rfl (ARep.mono (hl2.trans hl3) (hp1.fld fld_Rule_Action)) (Tryd.sizeOf3 _) (Tryd.isAgg3 _) fun v4 hv4 => ?_)
    obtain rfl := vint_eq hv4
    refine lw_op rfl rfl rfl (ow_fieldAddr rfl rfl Tryd.underlying51 rfl (Tryd.sizeOf3 _) ?_)
    refine lw_op rfl rfl rfl (ow_load (R := RInt) rfl rfl (ARep.mono hl3 (hp2.fld fld_Rule_Action)) (Tryd.sizeOf3 _) (Tryd.isAgg3 _) fun v5 hv5 => ?_)
    obtain rfl := vint_eq hv5
    refine lw_op rfl rfl rfl (ow_neqI rfl rfl rfl fun bb1 hbb1 => ?_)
    refine lw_nil ?_
    refine ew_then ?_
    replace h := cond_some h
    rcases h with ⟨hc2, h⟩ | ⟨hc2, h⟩
    · obtain rfl := hbb1.trans hc2
      refine cw_true rfl ?_
      refine cw_seq ?_
      refine cw_region ?_
      refine lw_op rfl rfl rfl (ow_assign rfl rfl ?_)
      refine lw_nil ?_
      refine ew_then ?_
      refine cw_ret ?_
      refine ew_thenR ?_
      obtain rfl := Option.some.inj h
      exact ew_ret (res1 rfl (.tmp rfl)) ⟨_, rfl, ((vbool _)), hC3.bx⟩
    · obtain rfl := hbb1.trans hc2
      refine cw_false rfl ?_
      refine cw_skip ?_
      refine ew_then ?_
      refine cw_seq ?_
      refine cw_seq ?_
      refine cw_region ?_
      refine lw_op rfl rfl rfl (ow_fieldAddr rfl rfl Tryd.underlying51 rfl (Tryd.sizeOf3 _) ?_)
      refine lw_op rfl rfl rfl (ow_load (R := RInt) rfl rfl (ARep.mono (hl2.trans hl3) (hp1.fld fld_Rule_Chain)) (Tryd.sizeOf3 _) (Tryd.isAgg3 _) fun v6 hv6 => ?_)
      obtain rfl := vint_eq hv6
      refine lw_op rfl rfl rfl (ow_fieldAddr rfl rfl Tryd.underlying51 rfl (Tryd.sizeOf3 _) ?_)
      refine lw_op rfl rfl rfl (ow_load (R := RInt) rfl rfl (ARep.mono hl3 (hp2.fld fld_Rule_Chain)) (Tryd.sizeOf3 _) (Tryd.isAgg3 _) fun v7 hv7 => ?_)
      obtain rfl := vint_eq hv7
      refine lw_op rfl rfl rfl (ow_neqI rfl rfl rfl fun bb2 hbb2 => ?_)
      refine lw_nil ?_
      refine ew_then ?_
      replace h := cond_some h
      rcases h with ⟨hc3, h⟩ | ⟨hc3, h⟩
      · obtain rfl := hbb2.trans hc3
        refine cw_true rfl ?_
        refine cw_seq ?_
        refine cw_region ?_
        refine lw_op rfl rfl rfl (ow_assign rfl rfl ?_)
        refine lw_nil ?_
        refine ew_then ?_
        refine cw_ret ?_
        refine ew_thenR ?_
        obtain rfl := Option.some.inj h
        exact ew_ret (res1 rfl (.tmp rfl)) ⟨_, rfl, ((vbool _)), hC3.bx⟩
      · obtain rfl := hbb2.trans hc3
        refine cw_false rfl ?_
        refine cw_skip ?_
        refine ew_then ?_
        refine cw_seq ?_
        refine cw_region ?_
        refine lw_op rfl rfl rfl (ow_assign rfl rfl ?_)
        refine lw_nil ?_
        refine ew_then ?_
        refine cw_ret ?_
        obtain rfl := Option.some.inj h
        exact ew_ret (res1 rfl (.tmp rfl)) ⟨_, rfl, ((vbool _)), hC3.bx⟩
  · subst hc1
    refine cw_true rfl ?_
    refine cw_seq ?_
    refine cw_region ?_
    refine lw_op rfl rfl rfl (ow_assign rfl rfl ?_)
    refine lw_nil ?_
    refine ew_then ?_
    refine cw_ret ?_
    refine ew_thenR ?_
    obtain rfl := Option.some.inj h
    exact ew_ret (res1 rfl (.tmp rfl)) ⟨_, rfl, ((vbool _)), hC3.bx⟩

theorem w_laws_FnExactRuleFits {w : World} {M : Nat → Prop} (hG : ARep (RArr 4 RShape) w M shapes ⟨0, 0, none⟩) (hO : ∀ b, M b → b < w.heap.size) {v0p : Value} {a_aR : Rule} (h0 : VRep RRule w M a_aR v0p) {v1p : Value} {a_aP : Packet} (h1 : VRep RPacket w M a_aP v1p) {r : Bool} (h : F.laws_FnExactRuleFits a_aR a_aP = some r) :
    Calls Tryd.prog 7 [v0p, v1p].toArray w fun e w' => ∃ v, e = .returned v ∧ VRep RBool w' M r v ∧ BX No w w' := by
  have hC : Cx No w M w M := Cx.start hO (fun _ e => e.elim)
  refine walk (N := 33) Tryd.func7 rfl Tryd.ntmps7 rfl ?_
  refine cw_seq ?_
  refine cw_region ?_
  refine lw_op rfl rfl rfl (ow_box (R := RRule) rfl rfl h0 hC fun p1 w1 hp1 hb1 hl1 hC1 => ?_)
  refine lw_op rfl rfl rfl (ow_box (R := RPacket) rfl rfl (VRep.mono hl1 h1) hC1 fun p2 w2 hp2 hb2 hl2 hC2 => ?_)
  refine lw_op rfl rfl rfl (ow_assign rfl rfl ?_)
  refine lw_nil ?_
  refine ew_then ?_
  refine cw_seq ?_
  refine cw_region ?_
  refine lw_op rfl rfl rfl (ow_assign rfl rfl ?_)
  refine lw_nil ?_
  refine ew_then ?_
  refine cw_seq ?_
  refine cw_region ?_
  refine lw_op rfl rfl rfl (ow_load (R := RRule) rfl rfl (ARep.mono hl2 hp1) (Tryd.sizeOf45 _) (Tryd.isAgg45 _) fun v1 hv1 => ?_)
  refine lw_op rfl rfl rfl (ow_move rfl rfl ?_)
  replace h := bind_some h
  obtain ⟨x1, hx1, h⟩ := h
  refine lw_op rfl rfl rfl (ow_call rfl rfl Tryd.call31 (w_laws_szRule (hG.mono (hl1.trans hl2)) hC2.old hv1 hx1) fun v2 w3 hv2 => ?_)
  obtain ⟨hv2, hb3⟩ := hv2
  have hl3 := Le.no M hb3
  have hC3 := hC2.no hb3
  obtain rfl := vint_eq hv2
  refine lw_op rfl rfl rfl (ow_assign rfl rfl ?_)
  refine lw_nil ?_
  refine ew_then ?_
  refine cw_seq ?_
  refine cw_seq ?_
  refine cw_region ?_
  refine lw_op rfl rfl rfl (ow_move rfl rfl ?_)
  refine lw_op rfl rfl rfl (ow_lss rfl rfl rfl fun bb1 hbb1 => ?_)
  refine lw_nil ?_
  refine ew_then ?_
  replace h := cond_some h
  rcases h with ⟨hc1, h⟩ | ⟨hc1, h⟩
  · obtain rfl := hbb1.trans hc1
    refine cw_true rfl ?_
    refine cw_seq ?_
    refine cw_region ?_
    refine lw_op rfl rfl rfl (ow_assign rfl rfl ?_)
    refine lw_nil ?_
    refine ew_then ?_
    refine cw_ret ?_
    refine ew_thenR ?_
    obtain rfl := Option.some.inj h
    exact ew_ret (res1 rfl (.tmp rfl)) ⟨_, rfl, ((vbool _)), hC3.bx⟩
  · obtain rfl := hbb1.trans hc1
    refine cw_false rfl ?_
    refine cw_skip ?_
    refine ew_then ?_
    refine cw_seq ?_
    replace h := bind_some h
    obtain ⟨x2, hx2, h⟩ := h
    refine cw_sub (E' := [(2, (.pointer (some p1))), (3, (.pointer (some p2))), (4, (.bool false))]) ⟨rfl, rfl, rfl, trivial⟩ ?_
    refine cw_drawQ 3 [PV RRule M a_aR, PV RRule M x2, PV RPacket M a_aP] (by kernel_rfl) rfl (by kernel_rfl) ⟨PV.mono _ _ _, PV.mono _ _ _, PV.mono _ _ _, trivial⟩ ⟨?_, ?_, ?_, trivial⟩ ?_
    · intro w5 D hS1 hd1
      have hl5 := Le.no M hS1
      have hC5 := hC3.no hS1
      refine dg_sub (E' := [(2, (.pointer (some p1)))]) ⟨rfl, trivial⟩ ?_
      refine dg_plain rfl (ow_load (R := RRule) rfl rfl (ARep.mono ((hl2.trans hl3).trans hl5) hp1) (Tryd.sizeOf45 _) (Tryd.isAgg45 _) fun v6 hv6 => ?_)
      exact ⟨BX.refl _ _, hv6⟩
    · intro w6 D hS2 hd2
      have hl6 := Le.no M hS2
      have hC6 := hC3.no hS2
      have hd2 : PV RRule M a_aR (D 0) w6 ∧ True := hd2
      obtain ⟨d1, -⟩ := hd2
      obtain ⟨v7, hq1⟩ : ∃ v, (D 0) = v := ⟨_, rfl⟩
      rw [hq1] at d1
      refine dg_sub (E' := [(14, v7)]) ⟨(congrArg some hq1), trivial⟩ ?_
      refine dg_plain rfl (ow_call rfl rfl Tryd.call33 (w_laws_toRule (hG.mono (((hl1.trans hl2).trans hl3).trans hl6)) hC6.old d1 hx2) fun v8 w7 hv8 => ?_)
      obtain ⟨hv8, hb5⟩ := hv8
      have hl7 := Le.no M hb5
      have hC7 := hC6.no hb5
      exact ⟨hb5, hv8⟩
    · intro w8 D hS3 hd3
      have hl8 := Le.no M hS3
      have hC8 := hC3.no hS3
      refine dg_sub (E' := [(3, (.pointer (some p2)))]) ⟨rfl, trivial⟩ ?_
      refine dg_plain rfl (ow_load (R := RPacket) rfl rfl (ARep.mono (hl3.trans hl8) hp2) (Tryd.sizeOf46 _) (Tryd.isAgg46 _) fun v9 hv9 => ?_)
      exact ⟨BX.refl _ _, hv9⟩
    · intro w9 D hS4 hd4
      have hl9 := Le.no M hS4
      have hC9 := hC3.no hS4
      have hd4 : PV RRule M a_aR (D 0) w9 ∧ PV RRule M x2 (D 1) w9 ∧ PV RPacket M a_aP (D 2) w9 ∧ True := hd4
      obtain ⟨-, d3, d4, -⟩ := hd4
      obtain ⟨v10, hq2⟩ : ∃ v, (D 1) = v := ⟨_, rfl⟩
      rw [hq2] at d3
      obtain ⟨v11, hq3⟩ : ∃ v, (D 2) = v := ⟨_, rfl⟩
      rw [hq3] at d4
      refine lw_sub (E' := [(15, v10), (16, v11), (2, (.pointer (some p1))), (3, (.pointer (some p2))), (4, (.bool false))]) ⟨(congrArg some hq2), (congrArg some hq3), rfl, rfl, rfl, trivial⟩ ?_
      replace h := bind_some h
      obtain ⟨x3, hx3, h⟩ := h
      refine lw_op rfl rfl rfl (ow_call rfl rfl Tryd.call34 (w_laws_toPacket (hG.mono (((hl1.trans hl2).trans hl3).trans hl9)) hC9.old d4 hx3) fun v12 w10 hv12 => ?_)
      obtain ⟨hv12, hb6⟩ := hv12
      have hl10 := Le.no M hb6
      have hC10 := hC9.no hb6
      replace h := bind_some h
      obtain ⟨x4, hx4, h⟩ := h
      refine lw_op rfl rfl rfl (ow_call rfl rfl Tryd.call32 (w_spec_RuleFits (hG.mono ((((hl1.trans hl2).trans hl3).trans hl9).trans hl10)) hC10.old (VRep.mono hl10 d3) hv12 hx4) fun v13 w11 hv13 => ?_)
      obtain ⟨hv13, hb7⟩ := hv13
      have hl11 := Le.no M hb7
      have hC11 := hC10.no hb7
      obtain rfl := vbool_eq hv13
      refine lw_op rfl rfl rfl (ow_assign rfl rfl ?_)
      refine lw_nil ?_
      refine ew_then ?_
      refine cw_seq ?_
      refine cw_region ?_
      refine lw_op rfl rfl rfl (ow_load (R := RRule) rfl rfl (ARep.mono ((((hl2.trans hl3).trans hl9).trans hl10).trans hl11) hp1) (Tryd.sizeOf45 _) (Tryd.isAgg45 _) fun v14 hv14 => ?_)
      refine lw_op rfl rfl rfl (ow_call rfl rfl Tryd.call33 (w_laws_toRule (hG.mono (((((hl1.trans hl2).trans hl3).trans hl9).trans hl10).trans hl11)) hC11.old hv14 hx2) fun v15 w12 hv15 => ?_)
      obtain ⟨hv15, hb8⟩ := hv15
      have hl12 := Le.no M hb8
      have hC12 := hC11.no hb8
      refine lw_allocStore (R := RRule) rfl rfl rfl rfl rfl rfl rfl Tryd.zeroValue51 Tryd.sizeOf51 rfl rfl rfl (by simp) hv15 hC12 fun p3 w13 hp3 hb9 hl13 hC13 => ?_
      refine lw_nil ?_
      refine ew_then ?_
      refine cw_seq ?_
      refine cw_sub (E' := [(2, (.pointer (some p1))), (3, (.pointer (some p2))), (4, (.bool false)), (6, (.bool x4)), (7, (.pointer (some p3)))]) ⟨rfl, rfl, rfl, rfl, rfl, trivial⟩ ?_
      refine cw_drawQ 3 [PV RRule M x2, PV RPacket M a_aP, PV RPacket M x3] (by kernel_rfl) rfl (by kernel_rfl) ⟨PV.mono _ _ _, PV.mono _ _ _, PV.mono _ _ _, trivial⟩ ⟨?_, ?_, ?_, trivial⟩ ?_
      · intro w15 D hS5 hd5
        have hl15 := Le.no M hS5
        have hC15 := hC13.no hS5
        refine dg_sub (E' := [(7, (.pointer (some p3)))]) ⟨rfl, trivial⟩ ?_
        refine dg_plain rfl (ow_load (R := RRule) rfl rfl (ARep.mono hl15 hp3) (Tryd.sizeOf51 _) (Tryd.isAgg51 _) fun v19 hv19 => ?_)
        exact ⟨BX.refl _ _, hv19⟩
      · intro w16 D hS6 hd6
        have hl16 := Le.no M hS6
        have hC16 := hC13.no hS6
        refine dg_sub (E' := [(3, (.pointer (some p2)))]) ⟨rfl, trivial⟩ ?_
        refine dg_plain rfl (ow_load (R := RPacket) rfl rfl (ARep.mono ((((((hl3.trans hl9).trans hl10).trans hl11).trans hl12).trans hl13).trans hl16) hp2) (Tryd.sizeOf46 _) (Tryd.isAgg46 _) fun v20 hv20 => ?_)
        exact ⟨BX.refl _ _, hv20⟩
      · intro w17 D hS7 hd7
        have hl17 := Le.no M hS7
        have hC17 := hC13.no hS7
        have hd7 : PV RPacket M a_aP (D 1) w17 ∧ True := hd7
        obtain ⟨d5, -⟩ := hd7
        obtain ⟨v21, hq4⟩ : ∃ v, (D 1) = v := ⟨_, rfl⟩
        rw [hq4] at d5
        refine dg_sub (E' := [(22, v21)]) ⟨(congrArg some hq4), trivial⟩ ?_
        refine dg_plain rfl (ow_call rfl rfl Tryd.call34 (w_laws_toPacket (hG.mono ((((((((hl1.trans hl2).trans hl3).trans hl9).trans hl10).trans hl11).trans hl12).trans hl13).trans hl17)) hC17.old d5 hx3) fun v22 w18 hv22 => ?_)
        obtain ⟨hv22, hb11⟩ := hv22
        have hl18 := Le.no M hb11
        have hC18 := hC17.no hb11
        exact ⟨hb11, hv22⟩
      · intro w19 D hS8 hd8
        have hl19 := Le.no M hS8
        have hC19 := hC13.no hS8
        have hd8 : PV RRule M x2 (D 0) w19 ∧ PV RPacket M a_aP (D 1) w19 ∧ PV RPacket M x3 (D 2) w19 ∧ True := hd8
        obtain ⟨d6, -, d8, -⟩ := hd8
        obtain ⟨v23, hq5⟩ : ∃ v, (D 0) = v := ⟨_, rfl⟩
        rw [hq5] at d6
        obtain ⟨v24, hq6⟩ : ∃ v, (D 2) = v := ⟨_, rfl⟩
        rw [hq6] at d8
        refine lw_sub (E' := [(21, v23), (23, v24), (2, (.pointer (some p1))), (3, (.pointer (some p2))), (4, (.bool false)), (6, (.bool x4)), (7, (.pointer (some p3)))]) ⟨(congrArg some hq5), (congrArg some hq6), rfl, rfl, rfl, rfl, rfl, trivial⟩ ?_
        replace h := bind_some h
        obtain ⟨x5, hx5, h⟩ := h
        refine lw_op rfl rfl rfl (ow_call rfl rfl Tryd.call35 (w_impl_RuleFits (hG.mono ((((((((hl1.trans hl2).trans hl3).trans hl9).trans hl10).trans hl11).trans hl12).trans hl13).trans hl19)) hC19.old d6 d8 hx5) fun v25 w20 hv25 => ?_)
        obtain ⟨hv25, hb12⟩ := hv25
        have hl20 := Le.no M hb12
        have hC20 := hC19.no hb12
        obtain rfl := vbool_eq hv25
        refine lw_op rfl rfl rfl (ow_assign rfl rfl ?_)
        refine lw_nil ?_
        refine ew_then ?_
        refine cw_seq ?_
        refine cw_seq ?_
        refine cw_region ?_
        refine lw_op rfl rfl rfl (ow_move rfl rfl ?_)
        refine lw_op rfl rfl rfl (ow_move rfl rfl ?_)
        refine lw_op rfl rfl rfl (ow_neqB rfl rfl rfl Tryd.underlying4 fun bb2 hbb2 => ?_)
        refine lw_nil ?_
        refine ew_then ?_
        replace h := cond_some h
        rcases h with ⟨hc2, h⟩ | ⟨hc2, h⟩
        · obtain rfl := hbb2.trans hc2
          refine cw_true rfl ?_
          refine cw_seq ?_
          refine cw_region ?_
          refine lw_op rfl rfl rfl (ow_assign rfl rfl ?_)
          refine lw_nil ?_
          refine ew_then ?_
          refine cw_ret ?_
          refine ew_thenR ?_
          obtain rfl := Option.some.inj h
          exact ew_ret (res1 rfl (.tmp rfl)) ⟨_, rfl, ((vbool _)), hC20.bx⟩
        · obtain rfl := hbb2.trans hc2
          refine cw_false rfl ?_
          refine cw_skip ?_
          refine ew_then ?_
          refine cw_seq ?_
          refine cw_seq ?_
          refine cw_sub (E' := [(2, (.pointer (some p1))), (4, (.bool false)), (7, (.pointer (some p3)))]) ⟨rfl, rfl, rfl, trivial⟩ ?_
          refine cw_drawQ 3 [PV RRule M x2, PV RRule M a_aR, PV RRule M x2] (by kernel_rfl) rfl (by kernel_rfl) ⟨PV.mono _ _ _, PV.mono _ _ _, PV.mono _ _ _, trivial⟩ ⟨?_, ?_, ?_, trivial⟩ ?_
          · intro w22 D hS9 hd9
            have hl22 := Le.no M hS9
            have hC22 := hC20.no hS9
            refine dg_sub (E' := [(7, (.pointer (some p3)))]) ⟨rfl, trivial⟩ ?_
            refine dg_plain rfl (ow_load (R := RRule) rfl rfl (ARep.mono ((hl19.trans hl20).trans hl22) hp3) (Tryd.sizeOf51 _) (Tryd.isAgg51 _) fun v29 hv29 => ?_)
            exact ⟨BX.refl _ _, hv29⟩
          · intro w23 D hS10 hd10
            have hl23 := Le.no M hS10
            have hC23 := hC20.no hS10
            refine dg_sub (E' := [(2, (.pointer (some p1)))]) ⟨rfl, trivial⟩ ?_
            refine dg_plain rfl (ow_load (R := RRule) rfl rfl (ARep.mono (((((((((hl2.trans hl3).trans hl9).trans hl10).trans hl11).trans hl12).trans hl13).trans hl19).trans hl20).trans hl23) hp1) (Tryd.sizeOf45 _) (Tryd.isAgg45 _) fun v30 hv30 => ?_)
            exact ⟨BX.refl _ _, hv30⟩
          · intro w24 D hS11 hd11
            have hl24 := Le.no M hS11
            have hC24 := hC20.no hS11
            have hd11 : PV RRule M a_aR (D 1) w24 ∧ True := hd11
            obtain ⟨d9, -⟩ := hd11
            obtain ⟨v31, hq7⟩ : ∃ v, (D 1) = v := ⟨_, rfl⟩
            rw [hq7] at d9
            refine dg_sub (E' := [(29, v31)]) ⟨(congrArg some hq7), trivial⟩ ?_
            refine dg_plain rfl (ow_call rfl rfl Tryd.call33 (w_laws_toRule (hG.mono ((((((((((hl1.trans hl2).trans hl3).trans hl9).trans hl10).trans hl11).trans hl12).trans hl13).trans hl19).trans hl20).trans hl24)) hC24.old d9 hx2) fun v32 w25 hv32 => ?_)
            obtain ⟨hv32, hb14⟩ := hv32
            have hl25 := Le.no M hb14
            have hC25 := hC24.no hb14
            exact ⟨hb14, hv32⟩
          · intro w26 D hS12 hd12
            have hl26 := Le.no M hS12
            have hC26 := hC20.no hS12
            have hd12 : PV RRule M x2 (D 0) w26 ∧ PV RRule M a_aR (D 1) w26 ∧ PV RRule M x2 (D 2) w26 ∧ True := hd12
            obtain ⟨d10, -, d12, -⟩ := hd12
            obtain ⟨v33, hq8⟩ : ∃ v, (D 0) = v := ⟨_, rfl⟩
            rw [hq8] at d10
            obtain ⟨v34, hq9⟩ : ∃ v, (D 2) = v := ⟨_, rfl⟩
            rw [hq9] at d12
            refine lw_sub (E' := [(28, v33), (30, v34), (2, (.pointer (some p1))), (4, (.bool false)), (7, (.pointer (some p3)))]) ⟨(congrArg some hq8), (congrArg some hq9), rfl, rfl, rfl, trivial⟩ ?_
            replace h := bind_some h
            obtain ⟨x6, hx6, h⟩ := h
            refine lw_op rfl rfl rfl (ow_call rfl rfl Tryd.call36 (w_laws_eqRule (hG.mono ((((((((((hl1.trans hl2).trans hl3).trans hl9).trans hl10).trans hl11).trans hl12).trans hl13).trans hl19).trans hl20).trans hl26)) hC26.old d10 d12 hx6) fun v35 w27 hv35 => ?_)
            obtain ⟨hv35, hb15⟩ := hv35
            have hl27 := Le.no M hb15
            have hC27 := hC26.no hb15
            obtain rfl := vbool_eq hv35
            refine lw_op rfl rfl rfl (ow_not rfl rfl ?_)
            refine lw_nil ?_
            refine ew_then ?_
            replace h := cond_some h
            rcases h with ⟨hc3, h⟩ | ⟨hc3, h⟩
            · subst hc3
              refine cw_false rfl ?_
              refine cw_skip ?_
              refine ew_then ?_
              refine cw_seq ?_
              refine cw_region ?_
              refine lw_op rfl rfl rfl (ow_assign rfl rfl ?_)
              refine lw_nil ?_
              refine ew_then ?_
              refine cw_ret ?_
              obtain rfl := Option.some.inj h
              exact ew_ret (res1 rfl (.tmp rfl)) ⟨_, rfl, ((vbool _)), hC27.bx⟩
            · subst hc3
              refine cw_true rfl ?_
              refine cw_seq ?_
              refine cw_region ?_
              refine lw_op rfl rfl rfl (ow_assign rfl rfl ?_)
              refine lw_nil ?_
              refine ew_then ?_
              refine cw_ret ?_
              refine ew_thenR ?_
              obtain rfl := Option.some.inj h
              exact ew_ret (res1 rfl (.tmp rfl)) ⟨_, rfl, ((vbool _)), hC27.bx⟩


end Go.PF
