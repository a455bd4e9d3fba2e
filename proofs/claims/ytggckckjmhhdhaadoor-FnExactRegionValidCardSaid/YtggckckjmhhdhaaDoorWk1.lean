/- The walks; no condition. -/
import Derived.Test.YtggckckjmhhdhaaDoorProg
import Derived.Test.YtggckckjmhhdhaaDoorWk0
set_option maxRecDepth 100000
namespace Go.PF
open Go Go.RowKit Go.Proofs

theorem w_laws_FnExactRegionValid {w : World} {M : Nat → Prop} (hG : ARep (RArr 4 RShape) w M shapes ⟨0, 0, none⟩) (hO : ∀ b, M b → b < w.heap.size) {v0p : Value} {a_aList : List Box} (h0 : VRep (RSlice RBox) w M a_aList v0p) {r : Bool} (h : F.laws_FnExactRegionValid a_aList = some r) :
    Calls Tryd.prog 9 [v0p].toArray w fun e w' => ∃ v, e = .returned v ∧ VRep RBool w' M r v ∧ BX No w w' := by
  have hC : Cx No w M w M := Cx.start hO (fun _ e => e.elim)
  refine walk (N := 27) Tryd.func9 rfl Tryd.ntmps9 rfl ?_
  refine cw_seq ?_
  refine cw_region ?_
  refine lw_op rfl rfl rfl (ow_assign rfl rfl ?_)
  refine lw_nil ?_
  refine ew_then ?_
  refine cw_seq ?_
  refine cw_region ?_
  refine lw_op rfl rfl rfl (ow_assign rfl rfl ?_)
  refine lw_nil ?_
  refine ew_then ?_
  refine cw_seq ?_
  refine cw_region ?_
  refine lw_op rfl rfl rfl (ow_move rfl rfl ?_)
  refine lw_op rfl rfl rfl (ow_move rfl rfl ?_)
  replace h := bind_some h
  obtain ⟨x1, hx1, h⟩ := h
  refine lw_op rfl rfl rfl (ow_call rfl rfl Tryd.call40 (w_laws_szBoxS hG hC.old h0 hx1) fun v1 w1 hv1 => ?_)
  obtain ⟨hv1, hb1⟩ := hv1
  have hl1 := Le.no M hb1
  have hC1 := hC.no hb1
  obtain rfl := vint_eq hv1
  refine lw_op rfl rfl rfl (ow_assign rfl rfl ?_)
  refine lw_nil ?_
  refine ew_then ?_
  refine cw_seq ?_
  refine cw_seq ?_
  refine cw_region ?_
  refine lw_op rfl rfl rfl (ow_move rfl rfl ?_)
  refine lw_op rfl rfl rfl (ow_lss rfl rfl rfl fun bb1 hbb1 => ?_)
  refine lw_nil ?_
  refine ew_then ?_
  replace h := cond_some h
  rcases h with ⟨hc1, h⟩ | ⟨hc1, h⟩
  · obtain rfl := hbb1.trans hc1
    refine cw_true rfl ?_
    refine cw_seq ?_
    refine cw_region ?_
    refine lw_op rfl rfl rfl (ow_assign rfl rfl ?_)
    refine lw_nil ?_
    refine ew_then ?_
    refine cw_ret ?_
    refine ew_thenR ?_
    obtain rfl := Option.some.inj h
    exact ew_ret (res1 rfl (.tmp rfl)) ⟨_, rfl, ((vbool _)), hC1.bx⟩
  · obtain rfl := hbb1.trans hc1
    refine cw_false rfl ?_
    refine cw_skip ?_
    refine ew_then ?_
    refine cw_seq ?_
    refine cw_region ?_
    refine lw_op rfl rfl rfl (ow_move rfl rfl ?_)
    replace h := bind_some h
    obtain ⟨x2, hx2, h⟩ := h
    refine lw_op rfl rfl rfl (ow_call rfl rfl Tryd.call42 (w_laws_toBoxS (hG.mono hl1) hC1.old (VRep.mono hl1 h0) hx2) fun v2 w2 hv2 => ?_)
    obtain ⟨hv2, hb2⟩ := hv2
    have hl2 := Le.no M hb2
    have hC2 := hC1.no hb2
    replace h := bind_some h
    obtain ⟨x3, hx3, h⟩ := h
    refine lw_op rfl rfl rfl (ow_call rfl rfl Tryd.call41 (w_spec_RegionValid (hG.mono (hl1.trans hl2)) hC2.old hv2 hx3) fun v3 w3 hv3 => ?_)
    obtain ⟨hv3, hb3⟩ := hv3
    have hl3 := Le.no M hb3
    have hC3 := hC2.no hb3
    obtain rfl := vbool_eq hv3
    refine lw_op rfl rfl rfl (ow_assign rfl rfl ?_)
    refine lw_nil ?_
    refine ew_then ?_
    refine cw_seq ?_
    refine cw_region ?_
    refine lw_op rfl rfl rfl (ow_move rfl rfl ?_)
    refine lw_op rfl rfl rfl (ow_call rfl rfl Tryd.call42 (w_laws_toBoxS (hG.mono ((hl1.trans hl2).trans hl3)) hC3.old (VRep.mono ((hl1.trans hl2).trans hl3) h0) hx2) fun v4 w4 hv4 => ?_)
    obtain ⟨hv4, hb4⟩ := hv4
    have hl4 := Le.no M hb4
    have hC4 := hC3.no hb4
    refine lw_op rfl rfl rfl (ow_assign rfl rfl ?_)
    refine lw_nil ?_
    refine ew_then ?_
    refine cw_seq ?_
    refine cw_region ?_
    refine lw_op rfl rfl rfl (ow_move rfl rfl ?_)
    replace h := bind_some h
    obtain ⟨x4, hx4, h⟩ := h
    refine lw_op rfl rfl rfl (ow_call rfl rfl Tryd.call43 (w_impl_RegionValid (hG.mono (((hl1.trans hl2).trans hl3).trans hl4)) hC4.old hv4 hx4) fun v5 w5 hv5 => ?_)
    obtain ⟨hv5, hb5⟩ := hv5
    have hl5 := Le.no M hb5
    have hC5 := hC4.no hb5
    obtain rfl := vbool_eq hv5
    refine lw_op rfl rfl rfl (ow_assign rfl rfl ?_)
    refine lw_nil ?_
    refine ew_then ?_
    refine cw_seq ?_
    refine cw_seq ?_
    refine cw_region ?_
    refine lw_op rfl rfl rfl (ow_move rfl rfl ?_)
    refine lw_op rfl rfl rfl (ow_move rfl rfl ?_)
    refine lw_op rfl rfl rfl (ow_neqB rfl rfl rfl Tryd.underlying4 fun bb2 hbb2 => ?_)
    refine lw_nil ?_
    refine ew_then ?_
    replace h := cond_some h
    rcases h with ⟨hc2, h⟩ | ⟨hc2, h⟩
    · obtain rfl := hbb2.trans hc2
      refine cw_true rfl ?_
      refine cw_seq ?_
      refine cw_region ?_
      refine lw_op rfl rfl rfl (ow_assign rfl rfl ?_)
      refine lw_nil ?_
      refine ew_then ?_
      refine cw_ret ?_
      refine ew_thenR ?_
      obtain rfl := Option.some.inj h
      exact ew_ret (res1 rfl (.tmp rfl)) ⟨_, rfl, ((vbool _)), hC5.bx⟩
    · obtain rfl := hbb2.trans hc2
      refine cw_false rfl ?_
      refine cw_skip ?_
      refine ew_then ?_
      refine cw_seq ?_
      refine cw_seq ?_
      refine cw_region ?_
      refine lw_op rfl rfl rfl (ow_move rfl rfl ?_)
      refine lw_op rfl rfl rfl (ow_move rfl rfl ?_)
      refine lw_op rfl rfl rfl (ow_call rfl rfl Tryd.call42 (w_laws_toBoxS (hG.mono ((((hl1.trans hl2).trans hl3).trans hl4).trans hl5)) hC5.old (VRep.mono ((((hl1.trans hl2).trans hl3).trans hl4).trans hl5) h0) hx2) fun v6 w6 hv6 => ?_)
      obtain ⟨hv6, hb6⟩ := hv6
      have hl6 := Le.no M hb6
      have hC6 := hC5.no hb6
      replace h := bind_some h
      obtain ⟨x5, hx5, h⟩ := h
      refine lw_op rfl rfl rfl (ow_call rfl rfl Tryd.call44 (w_laws_eqBoxS (hG.mono (((((hl1.trans hl2).trans hl3).trans hl4).trans hl5).trans hl6)) hC6.old (VRep.mono (hl5.trans hl6) hv4) hv6 hx5) fun v7 w7 hv7 => ?_)
      obtain ⟨hv7, hb7⟩ := hv7
      have hl7 := Le.no M hb7
      have hC7 := hC6.no hb7
      obtain rfl := vbool_eq hv7
      refine lw_op rfl rfl rfl (ow_not rfl rfl ?_)
      refine lw_nil ?_
      refine ew_then ?_
      replace h := cond_some h
      rcases h with ⟨hc3, h⟩ | ⟨hc3, h⟩
      · subst hc3
        refine cw_false rfl ?_
        refine cw_skip ?_
        refine ew_then ?_
        refine cw_seq ?_
        refine cw_region ?_
        refine lw_op rfl rfl rfl (ow_assign rfl rfl ?_)
        refine lw_nil ?_
        refine ew_then ?_
        refine cw_ret ?_
        obtain rfl := Option.some.inj h
        exact ew_ret (res1 rfl (.tmp rfl)) ⟨_, rfl, ((vbool _)), hC7.bx⟩
      · subst hc3
        refine cw_true rfl ?_
        refine cw_seq ?_
        refine cw_region ?_
        refine lw_op rfl rfl rfl (ow_assign rfl rfl ?_)
        refine lw_nil ?_
        refine ew_then ?_
        refine cw_ret ?_
        refine ew_thenR ?_
        obtain rfl := Option.some.inj h
        exact ew_ret (res1 rfl (.tmp rfl)) ⟨_, rfl, ((vbool _)), hC7.bx⟩


end Go.PF
