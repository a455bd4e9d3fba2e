/- The walks; no condition. -/
import Derived.Test.YtbnndochnkkllaaDoorProg
import Derived.Test.YtbnndochnkkllaaDoorWk0
import Derived.Test.YtbnndochnkkllaaDoorPFMark
import Derived.Test.YtbnndochnkkllaaDoorPFWild
import Derived.Test.YtbnndochnkkllaaDoorPFTree
set_option maxRecDepth 100000
set_option maxHeartbeats 4000000
namespace Go.PF
open Go Go.RowKit Go.Proofs

theorem w_laws_heldSpanS {w : World} {M : Nat → Prop} (_hG : ARep (RArr 4 RShape) w M shapes ⟨0, 0, none⟩) (hO : ∀ b, M b → b < w.heap.size) {v0p : Value} {a_a : List Span} (h0 : VRep (RSlice RSpan) w M a_a v0p) {a_k : Int} {r : Int} (h : F.laws_heldSpanS a_a a_k = some r) :
  Calls Tryd.prog 156 [v0p, (.int .i64 a_k)].toArray w fun e w' => ∃ v, e = .returned v ∧ VRep RInt w' M r v ∧ BX No w w' := by
 have hC : Cx No w M w M := Cx.start hO (fun _ e => e.elim)
 clear _hG
 refine walk (N := 31) Tryd.func156 Z Tryd.ntmps156 Z (cw_seq (cw_region (lw_op Z Z Z (ow_assign Z Z (lw_nil (ew_then (cw_seq (cw_seq (cw_region (lw_op Z Z Z (ow_assign Z Z (lw_nil (ew_then ?_)))))))))))))
 replace h := bind_some h
 obtain ⟨lr1, hlr1, h⟩ := h
 refine cw_for hlr1 (fun s a w' => ∃ (M' : Nat → Prop), Fits 31 [(0, v0p), (1, (Zv s.1)), (5, (Zv s.2))] a ∧ Le w M w' M' ∧ Cx No w M w' M') ?_ ?_ ?_
 · exact fun a ha => ⟨M, ha.sub ⟨Z, Z, Z, Zt⟩, Le.refl _ _, hC⟩
 ·
  rintro ⟨k1, k2⟩ a w1 sr1 ⟨M1, hF1, hl1, hC1⟩ hb1 hR1
  refine cw_at (E := [(0, v0p), (1, (Zv k1)), (5, (Zv k2))]) hF1 (cw_seq (cw_seq (cw_region (lw_op Z Z Z (ow_move Z Z (lw_op Z Z Z (ow_move Z Z (lw_op Z Z Z (ow_len Z Z (VRep.mono hl1 h0) Tryd.underlying121 Z (lw_op Z Z Z (ow_lss Z Z Z fun bb1 hbb1 => lw_nil (ew_then ?_))))))))))))
  replace hb1 := cond_some hb1
  rcases hb1 with ⟨hc1, hb1⟩ | ⟨hc1, hb1⟩
  ·
   obtain rfl := hbb1.trans hc1
   refine cw_true Z (cw_skip (ew_then (cw_seq (cw_block (cw_seq (cw_seq (cw_region (lw_op Z Z Z (ow_move Z Z (lw_op Z Z Z (ow_move Z Z ?_)))))))))))
   replace hb1 := bind_some hb1
   obtain ⟨x1, hx1, hb1⟩ := hb1
   refine lw_op Z Z Z (ow_indexSlice (R := RSpan) Z Z Z (VRep.mono hl1 h0) Tryd.underlying121 (Tryd.sizeOf120 _) hx1 fun p1 hp1 => lw_op Z Z Z (ow_fieldAddr Z Z Tryd.underlying120 Z (Tryd.sizeOf3 _) (lw_op Z Z Z (ow_load (R := RInt) Z Z (hp1.fld fld_Span_Lo) (Tryd.sizeOf3 _) (Tryd.isAgg3 _) fun v3 hv3 => ?_))))
   obtain rfl := vint_eq hv3
   refine lw_op Z Z Z (ow_move Z Z (lw_op Z Z Z (ow_neqI Z Z Z fun bb2 hbb2 => lw_nil (ew_then ?_))))
   replace hb1 := cond_some hb1
   rcases hb1 with ⟨hc2, hb1⟩ | ⟨hc2, hb1⟩
   ·
    obtain rfl := hbb2.trans hc2
    refine cw_true Z (cw_seq (cw_region (lw_op Z Z Z (ow_assign Z Z (lw_nil (ew_then (cw_ret (ew_thenR (ew_blockR (ew_thenR (ew_thenR (ew_blockR (ew_brkR (ew_thenR ?_))))))))))))))
    have e1 := hR1 _ (sj hb1).symm
    subst e1
    obtain rfl := sj h
    exact ew_ret (res1 Z (.tmp Z)) ⟨_, Z, ((vint _)), hC1.bx⟩
   ·
    obtain rfl := hbb2.trans hc2
    refine cw_false Z (cw_skip (ew_then (cw_seq (cw_region (lw_op Z Z Z (ow_move Z Z (lw_op Z Z Z (ow_add Z Z Z (lw_op Z Z Z (ow_assign Z Z (lw_nil (ew_then (cw_seq (cw_seq (cw_region (lw_op Z Z Z (ow_move Z Z (lw_op Z Z Z (ow_move Z Z (lw_op Z Z Z (ow_indexSlice (R := RSpan) Z Z Z (VRep.mono hl1 h0) Tryd.underlying121 (Tryd.sizeOf120 _) hx1 fun p2 hp2 => lw_op Z Z Z (ow_fieldAddr Z Z Tryd.underlying120 Z (Tryd.sizeOf3 _) (lw_op Z Z Z (ow_load (R := RInt) Z Z (hp2.fld fld_Span_Hi) (Tryd.sizeOf3 _) (Tryd.isAgg3 _) fun v4 hv4 => ?_))))))))))))))))))))))))
    obtain rfl := vint_eq hv4
    refine lw_op Z Z Z (ow_move Z Z (lw_op Z Z Z (ow_neqI Z Z Z fun bb3 hbb3 => lw_nil (ew_then ?_))))
    replace hb1 := cond_some hb1
    rcases hb1 with ⟨hc3, hb1⟩ | ⟨hc3, hb1⟩
    ·
     obtain rfl := hbb3.trans hc3
     refine cw_true Z (cw_seq (cw_region (lw_op Z Z Z (ow_assign Z Z (lw_nil (ew_then (cw_ret (ew_thenR (ew_blockR (ew_thenR (ew_thenR (ew_blockR (ew_brkR (ew_thenR ?_))))))))))))))
     have e2 := hR1 _ (sj hb1).symm
     subst e2
     obtain rfl := sj h
     exact ew_ret (res1 Z (.tmp Z)) ⟨_, Z, ((vint _)), hC1.bx⟩
    ·
     obtain rfl := hbb3.trans hc3
     exact cw_false Z (cw_skip (ew_then (cw_region (lw_op Z Z Z (ow_move Z Z (lw_op Z Z Z (ow_add Z Z Z (lw_op Z Z Z (ow_assign Z Z (lw_nil (ew_blockN (ew_then (cw_region (lw_op Z Z Z (ow_move Z Z (lw_op Z Z Z (ow_add Z Z Z (lw_op Z Z Z (ow_assign Z Z (lw_nil (ew_nxt ((W ((W (k1 + 1)) + 1)), (W (k2 + 1))) hb1 fun a ha => ⟨M1, (ha.sub ⟨Z, Z, Z, Zt⟩), hl1, hC1⟩)))))))))))))))))))))
  ·
   obtain rfl := hbb1.trans hc1
   exact cw_false Z (cw_exit (ew_thenX (ew_thenX (ew_blockX (ew_brk (k1, k2) hb1 fun a ha => ⟨M1, (ha.sub ⟨Z, Z, Z, Zt⟩), hl1, hC1⟩)))))
 ·
  rintro ⟨k3, k4⟩ a w2 hlr2 ⟨M2, hF2, hl2, hC2⟩
  subst hlr2
  refine ew_at (E := [(0, v0p), (1, (Zv k3)), (5, (Zv k4))]) hF2 (ew_then (cw_seq (cw_region (lw_op Z Z Z (ow_move Z Z (lw_op Z Z Z (ow_assign Z Z (lw_nil (ew_then (cw_ret ?_))))))))))
  obtain rfl := sj h
  exact ew_ret (res1 Z (.tmp Z)) ⟨_, Z, ((vint _)), hC2.bx⟩

theorem w_laws_heldSpanSS {w : World} {M : Nat → Prop} (hG : ARep (RArr 4 RShape) w M shapes ⟨0, 0, none⟩) (hO : ∀ b, M b → b < w.heap.size) {v0p : Value} {a_a : List (List Span)} (h0 : VRep (RSlice (RSlice RSpan)) w M a_a v0p) {a_k : Int} {r : Int} (h : F.laws_heldSpanSS a_a a_k = some r) :
  Calls Tryd.prog 100 [v0p, (.int .i64 a_k)].toArray w fun e w' => ∃ v, e = .returned v ∧ VRep RInt w' M r v ∧ BX No w w' := by
 have hC : Cx No w M w M := Cx.start hO (fun _ e => e.elim)
 refine walk (N := 21) Tryd.func100 Z Tryd.ntmps100 Z (cw_seq (cw_region (lw_op Z Z Z (ow_assign Z Z (lw_nil (ew_then (cw_seq (cw_seq (cw_region (lw_op Z Z Z (ow_assign Z Z (lw_nil (ew_then ?_)))))))))))))
 replace h := bind_some h
 obtain ⟨lr1, hlr1, h⟩ := h
 refine cw_for hlr1 (fun s a w' => ∃ (M' : Nat → Prop), Fits 21 [(0, v0p), (1, (Zv s.1)), (5, (Zv s.2))] a ∧ Le w M w' M' ∧ Cx No w M w' M') ?_ ?_ ?_
 · exact fun a ha => ⟨M, ha.sub ⟨Z, Z, Z, Zt⟩, Le.refl _ _, hC⟩
 ·
  rintro ⟨k1, k2⟩ a w1 sr1 ⟨M1, hF1, hl1, hC1⟩ hb1 hR1
  refine cw_at (E := [(0, v0p), (1, (Zv k1)), (5, (Zv k2))]) hF1 (cw_seq (cw_seq (cw_region (lw_op Z Z Z (ow_move Z Z (lw_op Z Z Z (ow_move Z Z (lw_op Z Z Z (ow_len Z Z (VRep.mono hl1 h0) Tryd.underlying46 Z (lw_op Z Z Z (ow_lss Z Z Z fun bb1 hbb1 => lw_nil (ew_then ?_))))))))))))
  replace hb1 := cond_some hb1
  rcases hb1 with ⟨hc1, hb1⟩ | ⟨hc1, hb1⟩
  ·
   obtain rfl := hbb1.trans hc1
   refine cw_true Z (cw_skip (ew_then (cw_seq (cw_block (cw_seq (cw_region (lw_op Z Z Z (ow_move Z Z (lw_op Z Z Z (ow_move Z Z ?_))))))))))
   replace hb1 := bind_some hb1
   obtain ⟨x1, hx1, hb1⟩ := hb1
   refine lw_op Z Z Z (ow_indexSlice (R := (RSlice RSpan)) Z Z Z (VRep.mono hl1 h0) Tryd.underlying46 (Tryd.sizeOf121 _) hx1 fun p1 hp1 => lw_op Z Z Z (ow_load (R := (RSlice RSpan)) Z Z hp1 (Tryd.sizeOf121 _) (Tryd.isAgg121 _) fun v3 hv3 => lw_op Z Z Z (ow_move Z Z ?_)))
   replace hb1 := bind_some hb1
   obtain ⟨x2, hx2, hb1⟩ := hb1
   refine lw_op Z Z Z (ow_call Z Z Tryd.call156 (w_laws_heldSpanS (hG.mono hl1) hC1.old hv3 hx2) fun v4 w2 hv4 => ?_)
   obtain ⟨hv4, hb2⟩ := hv4
   have hl2 := Le.no M1 hb2
   have hC2 := hC1.no hb2
   obtain rfl := vint_eq hv4
   refine lw_op Z Z Z (ow_assign Z Z (lw_nil (ew_then (cw_seq (cw_region (lw_op Z Z Z (ow_move Z Z (lw_op Z Z Z (ow_lss Z Z Z fun bb2 hbb2 => lw_nil (ew_then ?_))))))))))
   replace hb1 := cond_some hb1
   rcases hb1 with ⟨hc2, hb1⟩ | ⟨hc2, hb1⟩
   ·
    obtain rfl := hbb2.trans hc2
    refine cw_true Z (cw_seq (cw_region (lw_op Z Z Z (ow_assign Z Z (lw_nil (ew_then (cw_ret (ew_blockR (ew_thenR (ew_thenR (ew_blockR (ew_brkR (ew_thenR ?_)))))))))))))
    have e1 := hR1 _ (sj hb1).symm
    subst e1
    obtain rfl := sj h
    exact ew_ret (res1 Z (.tmp Z)) ⟨_, Z, ((vint _)), hC2.bx⟩
   ·
    obtain rfl := hbb2.trans hc2
    exact cw_false Z (cw_skip (ew_blockN (ew_then (cw_region (lw_op Z Z Z (ow_move Z Z (lw_op Z Z Z (ow_add Z Z Z (lw_op Z Z Z (ow_assign Z Z (lw_nil (ew_nxt (x2, (W (k2 + 1))) hb1 fun a ha => ⟨M1, (ha.sub ⟨Z, Z, Z, Zt⟩), (hl1.trans hl2), hC2⟩))))))))))))
  ·
   obtain rfl := hbb1.trans hc1
   exact cw_false Z (cw_exit (ew_thenX (ew_thenX (ew_blockX (ew_brk (k1, k2) hb1 fun a ha => ⟨M1, (ha.sub ⟨Z, Z, Z, Zt⟩), hl1, hC1⟩)))))
 ·
  rintro ⟨k3, k4⟩ a w3 hlr2 ⟨M2, hF2, hl3, hC3⟩
  subst hlr2
  refine ew_at (E := [(0, v0p), (1, (Zv k3)), (5, (Zv k4))]) hF2 (ew_then (cw_seq (cw_region (lw_op Z Z Z (ow_move Z Z (lw_op Z Z Z (ow_assign Z Z (lw_nil (ew_then (cw_ret ?_))))))))))
  obtain rfl := sj h
  exact ew_ret (res1 Z (.tmp Z)) ⟨_, Z, ((vint _)), hC3.bx⟩

theorem w_laws_heldBoxS {w : World} {M : Nat → Prop} (hG : ARep (RArr 4 RShape) w M shapes ⟨0, 0, none⟩) (hO : ∀ b, M b → b < w.heap.size) {v0p : Value} {a_a : List Box} (h0 : VRep (RSlice RBox) w M a_a v0p) {a_k : Int} {r : Int} (h : F.laws_heldBoxS a_a a_k = some r) :
  Calls Tryd.prog 45 [v0p, (.int .i64 a_k)].toArray w fun e w' => ∃ v, e = .returned v ∧ VRep RInt w' M r v ∧ BX No w w' := by
 have hC : Cx No w M w M := Cx.start hO (fun _ e => e.elim)
 refine walk (N := 22) Tryd.func45 Z Tryd.ntmps45 Z (cw_seq (cw_region (lw_op Z Z Z (ow_assign Z Z (lw_nil (ew_then (cw_seq (cw_seq (cw_region (lw_op Z Z Z (ow_assign Z Z (lw_nil (ew_then ?_)))))))))))))
 replace h := bind_some h
 obtain ⟨lr1, hlr1, h⟩ := h
 refine cw_for hlr1 (fun s a w' => ∃ (M' : Nat → Prop), Fits 22 [(0, v0p), (1, (Zv s.1)), (5, (Zv s.2))] a ∧ Le w M w' M' ∧ Cx No w M w' M') ?_ ?_ ?_
 · exact fun a ha => ⟨M, ha.sub ⟨Z, Z, Z, Zt⟩, Le.refl _ _, hC⟩
 ·
  rintro ⟨k1, k2⟩ a w1 sr1 ⟨M1, hF1, hl1, hC1⟩ hb1 hR1
  refine cw_at (E := [(0, v0p), (1, (Zv k1)), (5, (Zv k2))]) hF1 (cw_seq (cw_seq (cw_region (lw_op Z Z Z (ow_move Z Z (lw_op Z Z Z (ow_move Z Z (lw_op Z Z Z (ow_len Z Z (VRep.mono hl1 h0) Tryd.underlying64 Z (lw_op Z Z Z (ow_lss Z Z Z fun bb1 hbb1 => lw_nil (ew_then ?_))))))))))))
  replace hb1 := cond_some hb1
  rcases hb1 with ⟨hc1, hb1⟩ | ⟨hc1, hb1⟩
  ·
   obtain rfl := hbb1.trans hc1
   refine cw_true Z (cw_skip (ew_then (cw_seq (cw_block (cw_seq (cw_region (lw_op Z Z Z (ow_move Z Z (lw_op Z Z Z (ow_move Z Z ?_))))))))))
   replace hb1 := bind_some hb1
   obtain ⟨x1, hx1, hb1⟩ := hb1
   refine lw_op Z Z Z (ow_indexSlice (R := RBox) Z Z Z (VRep.mono hl1 h0) Tryd.underlying64 (Tryd.sizeOf48 _) hx1 fun p1 hp1 => lw_op Z Z Z (ow_fieldAddr Z Z Tryd.underlying48 Z (Tryd.sizeOf46 _) (lw_op Z Z Z (ow_load (R := (RSlice (RSlice RSpan))) Z Z (hp1.fld fld_Box_Sides) (Tryd.sizeOf46 _) (Tryd.isAgg46 _) fun v3 hv3 => lw_op Z Z Z (ow_move Z Z ?_)))))
   replace hb1 := bind_some hb1
   obtain ⟨x2, hx2, hb1⟩ := hb1
   refine lw_op Z Z Z (ow_call Z Z Tryd.call100 (w_laws_heldSpanSS (hG.mono hl1) hC1.old hv3 hx2) fun v4 w2 hv4 => ?_)
   obtain ⟨hv4, hb2⟩ := hv4
   have hl2 := Le.no M1 hb2
   have hC2 := hC1.no hb2
   obtain rfl := vint_eq hv4
   refine lw_op Z Z Z (ow_assign Z Z (lw_nil (ew_then (cw_seq (cw_region (lw_op Z Z Z (ow_move Z Z (lw_op Z Z Z (ow_lss Z Z Z fun bb2 hbb2 => lw_nil (ew_then ?_))))))))))
   replace hb1 := cond_some hb1
   rcases hb1 with ⟨hc2, hb1⟩ | ⟨hc2, hb1⟩
   ·
    obtain rfl := hbb2.trans hc2
    refine cw_true Z (cw_seq (cw_region (lw_op Z Z Z (ow_assign Z Z (lw_nil (ew_then (cw_ret (ew_blockR (ew_thenR (ew_thenR (ew_blockR (ew_brkR (ew_thenR ?_)))))))))))))
    have e1 := hR1 _ (sj hb1).symm
    subst e1
    obtain rfl := sj h
    exact ew_ret (res1 Z (.tmp Z)) ⟨_, Z, ((vint _)), hC2.bx⟩
   ·
    obtain rfl := hbb2.trans hc2
    exact cw_false Z (cw_skip (ew_blockN (ew_then (cw_region (lw_op Z Z Z (ow_move Z Z (lw_op Z Z Z (ow_add Z Z Z (lw_op Z Z Z (ow_assign Z Z (lw_nil (ew_nxt (x2, (W (k2 + 1))) hb1 fun a ha => ⟨M1, (ha.sub ⟨Z, Z, Z, Zt⟩), (hl1.trans hl2), hC2⟩))))))))))))
  ·
   obtain rfl := hbb1.trans hc1
   exact cw_false Z (cw_exit (ew_thenX (ew_thenX (ew_blockX (ew_brk (k1, k2) hb1 fun a ha => ⟨M1, (ha.sub ⟨Z, Z, Z, Zt⟩), hl1, hC1⟩)))))
 ·
  rintro ⟨k3, k4⟩ a w3 hlr2 ⟨M2, hF2, hl3, hC3⟩
  subst hlr2
  refine ew_at (E := [(0, v0p), (1, (Zv k3)), (5, (Zv k4))]) hF2 (ew_then (cw_seq (cw_region (lw_op Z Z Z (ow_move Z Z (lw_op Z Z Z (ow_assign Z Z (lw_nil (ew_then (cw_ret ?_))))))))))
  obtain rfl := sj h
  exact ew_ret (res1 Z (.tmp Z)) ⟨_, Z, ((vint _)), hC3.bx⟩

theorem w_laws_FnExactFlatBoxes {w : World} {M : Nat → Prop} (hG : ARep (RArr 4 RShape) w M shapes ⟨0, 0, none⟩) (hO : ∀ b, M b → b < w.heap.size) {v0p : Value} {a_aList : List Flat} (h0 : VRep (RSlice RFlat) w M a_aList v0p) {r : Bool} (h : F.laws_FnExactFlatBoxes a_aList = some r) :
  Calls Tryd.prog 8 [v0p].toArray w fun e w' => ∃ v, e = .returned v ∧ VRep RBool w' M r v ∧ BX No w w' := by
 have hC : Cx No w M w M := Cx.start hO (fun _ e => e.elim)
 refine walk (N := 69) Tryd.func8 Z Tryd.ntmps8 Z (cw_seq (cw_region (lw_op Z Z Z (ow_assign Z Z (lw_nil (ew_then (cw_seq (cw_region (lw_op Z Z Z (ow_assign Z Z (lw_nil (ew_then (cw_seq (cw_region (lw_op Z Z Z (ow_move Z Z (lw_op Z Z Z (ow_move Z Z ?_))))))))))))))))))
 replace h := bind_some h
 obtain ⟨x1, hx1, h⟩ := h
 refine lw_op Z Z Z (ow_call Z Z Tryd.call37 (w_laws_szFlatS hG hC.old h0 hx1) fun v1 w1 hv1 => ?_)
 obtain ⟨hv1, hb1⟩ := hv1
 have hl1 := Le.no M hb1
 have hC1 := hC.no hb1
 obtain rfl := vint_eq hv1
 refine lw_op Z Z Z (ow_assign Z Z (lw_nil (ew_then (cw_seq (cw_seq (cw_region (lw_op Z Z Z (ow_move Z Z (lw_op Z Z Z (ow_lss Z Z Z fun bb1 hbb1 => lw_nil (ew_then ?_)))))))))))
 replace h := cond_some h
 rcases h with ⟨hc1, h⟩ | ⟨hc1, h⟩
 ·
  obtain rfl := hbb1.trans hc1
  refine cw_true Z (cw_seq (cw_region (lw_op Z Z Z (ow_assign Z Z (lw_nil (ew_then (cw_ret (ew_thenR ?_))))))))
  obtain rfl := sj h
  exact ew_ret (res1 Z (.tmp Z)) ⟨_, Z, ((vbool _)), hC1.bx⟩
 ·
  obtain rfl := hbb1.trans hc1
  refine cw_false Z (cw_skip (ew_then (cw_seq (cw_region (lw_op Z Z Z (ow_move Z Z ?_))))))
  replace h := bind_some h
  obtain ⟨x2, hx2, h⟩ := h
  refine lw_op Z Z Z (ow_call Z Z Tryd.call39 (wu_laws_toFlatS (hG.mono hl1) hC1.old (Y := (fun b => w1.heap.size ≤ b)) (fun _ hb => hb) (VRep.mono hl1 h0) hx2) fun v2 w2 hv2 => ?_)
  obtain ⟨hv2, hb2⟩ := hv2
  have hl2 := Le.no M hb2
  have hC2 := hC1.no hb2
  have hw1 := Fg.vrep (Fg.slice fg_Flat) hv2
  replace h := bind_some h
  obtain ⟨x3, hx3, h⟩ := h
  refine lw_op Z Z Z (ow_call Z Z Tryd.call38 (w_spec_FlatBoxes (hG.mono (hl1.trans hl2)) hC2.old hw1 hx3) fun v3 w3 hv3 => ?_)
  obtain ⟨hv3, hb3⟩ := hv3
  have hl3 := Le.no M hb3
  have hC3 := hC2.no hb3
  refine lw_op Z Z Z (ow_assign Z Z (lw_nil (ew_then (cw_seq (cw_region (lw_op Z Z Z (ow_move Z Z ?_)))))))
  have lz1 := ((hl1.trans hl2).trans hl3)
  refine lw_op Z Z Z (ow_call Z Z Tryd.call39 (wu_laws_toFlatS (hG.mono lz1) hC3.old (Y := (fun b => w3.heap.size ≤ b)) (fun _ hb => hb) (VRep.mono lz1 h0) hx2) fun v4 w4 hv4 => ?_)
  obtain ⟨hv4, hb4⟩ := hv4
  have hl4 := Le.no M hb4
  have hC4 := hC3.no hb4
  have hw2 := Fg.vrep (Fg.slice fg_Flat) hv4
  have hw3 := Wd.vrep (Wd.slice wd_Flat) hv4
  have hu1 := UFz.yf (fun b => w3.heap.size ≤ b) w4
  have hs1 : w3.heap.size ≤ w3.heap.size := Nat.le_refl _
  refine lw_op Z Z Z (ow_assign Z Z (lw_nil (ew_then (cw_seq (cw_region (lw_op Z Z Z (ow_move Z Z ?_)))))))
  replace h := bind_some h
  obtain ⟨x4, hx4, h⟩ := h
  refine lw_op Z Z Z (ow_call Z Z Tryd.call40 (wt_impl_FlatBoxes (hG.mono (lz1.trans hl4)) hC4.old (Y := (fun b => w4.heap.size ≤ b)) (fun _ hb => hb) hw2 hx4) fun v5 w5 hv5 => ?_)
  obtain ⟨hv5, hb5⟩ := hv5
  have hl5 := Le.no M hb5
  have hC5 := hC4.no hb5
  have hw4 := VRep.mono (Le.no _ hb5) hw3
  have hu2 := UFz.no hu1 hb5
  have hw5 := Fg.vrep (Fg.in_ fgBoxSS) hv5
  have hw6 := RIn.yb bdBoxSS hv5
  have hs2 : w4.heap.size ≤ w4.heap.size := Nat.le_refl _
  have hs3 : w3.heap.size ≤ w4.heap.size := hl4.size
  refine lw_op Z Z Z (ow_assign Z Z (lw_nil (ew_then (cw_seq (cw_seq (cw_region (lw_op Z Z Z (ow_move Z Z (lw_op Z Z Z (ow_move Z Z ?_))))))))))
  replace h := bind_some h
  obtain ⟨x5, hx5, h⟩ := h
  have lz2 := ((lz1.trans hl4).trans hl5)
  refine lw_op Z Z Z (ow_call Z Z Tryd.call41 (w_laws_eqBoxS (hG.mono lz2) hC5.old hw5 (VRep.mono (hl4.trans hl5) hv3) hx5) fun v6 w6 hv6 => ?_)
  obtain ⟨hv6, hb6⟩ := hv6
  have hl6 := Le.no M hb6
  have hC6 := hC5.no hb6
  have hw7 := VRep.mono (Le.no _ hb6) hw4
  have hu3 := UFz.no hu2 hb6
  have hw8 := VRep.mono (Le.no _ hb6) hw6
  have hs4 := Nat.le_trans (Nat.le_refl _) hb6.size
  obtain rfl := vbool_eq hv6
  refine lw_op Z Z Z (ow_not Z Z (lw_nil (ew_then ?_)))
  replace h := cond_some h
  rcases h with ⟨hc2, h⟩ | ⟨hc2, h⟩
  ·
   subst hc2
   refine cw_false Z (cw_skip (ew_then (cw_seq (cw_seq (cw_region (lw_op Z Z Z (ow_move Z Z (lw_op Z Z Z (ow_move Z Z (lw_op Z Z Z (ow_call Z Z Tryd.call39 (wu_laws_toFlatS (hG.mono (lz2.trans hl6)) hC6.old (Y := (fun b => w6.heap.size ≤ b)) (fun _ hb => hb) (VRep.mono (lz2.trans hl6) h0) hx2) fun v7 w7 hv7 => ?_)))))))))))
   obtain ⟨hv7, hb7⟩ := hv7
   have hl7 := Le.no M hb7
   have hC7 := hC6.no hb7
   have hw9 := VRep.mono (Le.no _ hb7) hw7
   have hu4 := UFz.no hu3 hb7
   have hw10 := VRep.mono (Le.no _ hb7) hw8
   have hs5 := Nat.le_trans hs4 hb7.size
   have hw11 := Fg.vrep (Fg.slice fg_Flat) hv7
   have lz3 := ((hl5.trans hl6).trans hl7)
   replace h := bind_some h
   obtain ⟨x6, hx6, h⟩ := h
   have lz4 := ((lz2.trans hl6).trans hl7)
   refine lw_op Z Z Z (ow_call Z Z Tryd.call42 (w_laws_eqFlatS (hG.mono lz4) hC7.old (VRep.mono lz3 hw2) hw11 hx6) fun v8 w8 hv8 => ?_)
   obtain ⟨hv8, hb8⟩ := hv8
   have hl8 := Le.no M hb8
   have hC8 := hC7.no hb8
   have hw12 := VRep.mono (Le.no _ hb8) hw9
   have hu5 := UFz.no hu4 hb8
   have hw13 := VRep.mono (Le.no _ hb8) hw10
   have hs6 := Nat.le_trans hs5 hb8.size
   obtain rfl := vbool_eq hv8
   refine lw_op Z Z Z (ow_not Z Z (lw_nil (ew_then ?_)))
   replace h := cond_some h
   rcases h with ⟨hc3, h⟩ | ⟨hc3, h⟩
   ·
    subst hc3
    refine cw_false Z (cw_skip (ew_then (cw_seq (cw_region (lw_op Z Z Z (ow_assign Z Z (lw_nil (ew_then (cw_seq (cw_region (lw_op Z Z Z (ow_move Z Z (lw_op Z Z Z (ow_move Z Z ?_))))))))))))))
    replace h := bind_some h
    obtain ⟨x7, hx7, h⟩ := h
    refine lw_op Z Z Z (ow_call Z Z Tryd.call43 (wm_laws_markFlatS hu5 hw12 hx7) fun v9 w9 hv9 => ?_)
    obtain ⟨rfl, hmk1⟩ := hv9
    have hl9 := Le.reset ((((hl4.trans hl5).trans hl6).trans hl7).trans hl8) hmk1.bx (fun b h => Nat.le_trans hs1 h.1)
    have hC9 := Cx.reset hC3 hC8 hmk1.bx (fun b h => Nat.le_trans hC3.bx.size h.1) (Nat.le_trans ((((hl4.trans hl5).trans hl6).trans hl7).trans hl8).size hmk1.bx.size)
    have hw14 := VRep.other hw13 hmk1.bx (fun b h1 h2 => Nat.lt_irrefl _ (Nat.lt_of_lt_of_le h1.2.1 (Nat.le_trans hs2 h2.1)))
    have hs7 := Nat.le_trans hs6 hmk1.bx.size
    have hw15 := VRep.mono (Le.sub _ (show ∀ b, M b → NotY (YB (fun b => w4.heap.size ≤ b) w5) b from fun b h1 h2 => Nat.lt_irrefl _ (Nat.lt_of_lt_of_le (hC3.old b h1) (Nat.le_trans hs3 h2.1)))) (Fg.vrep fgBoxSS hw14)
    refine lw_op Z Z Z (ow_assign Z Z (lw_nil (ew_then (cw_seq (cw_seq (cw_region (lw_op Z Z Z (ow_move Z Z (lw_op Z Z Z (ow_lss Z Z Z fun bb2 hbb2 => lw_op Z Z Z (ow_move Z Z ?_)))))))))))
    replace h := cond_some h
    rcases h with ⟨hc4, h⟩ | ⟨hc4, h⟩
    ·
     obtain rfl := hbb2.trans hc4
     refine lw_off Z Z Z Z Z Z (lw_off Z Z Z Z Z Z (lw_off Z Z Z Z Z Z (lw_off Z Z Z Z Z Z (lw_op Z Z Z (ow_pickT Z Z Z (lw_nil (ew_then (cw_true Z (cw_seq (cw_region (lw_op Z Z Z (ow_assign Z Z (lw_nil (ew_then (cw_ret (ew_thenR ?_))))))))))))))))
     obtain rfl := sj h
     exact ew_ret (res1 Z (.tmp Z)) ⟨_, Z, ((vbool _)), hC9.bx⟩
    ·
     obtain rfl := hbb2.trans hc4
     refine lw_on Z Z Z Z Z Z (ow_move Z Z (lw_on Z Z Z Z Z Z (ow_move Z Z ?_)))
     have lz5 := (((hl1.trans hl2).trans hl3).trans hl9)
     refine lw_on Z Z Z Z Z Z (ow_call Z Z Tryd.call41 (w_laws_eqBoxS (hG.mono lz5) hC9.old hw15 (VRep.mono hl9 hv3) hx5) fun v10 w10 hv10 => ?_)
     obtain ⟨hv10, hb9⟩ := hv10
     have hl10 := Le.no M hb9
     have hC10 := hC9.no hb9
     have hw16 := VRep.mono (Le.no _ hb9) hw14
     have hs8 := Nat.le_trans hs7 hb9.size
     obtain rfl := vbool_eq hv10
     refine lw_on Z Z Z Z Z Z (ow_not Z Z (lw_op Z Z Z (ow_pickF Z Z Z (lw_nil (ew_then (cw_false Z (cw_skip (ew_then (cw_seq (cw_region (lw_op Z Z Z (ow_assign Z Z (lw_nil (ew_then (cw_seq (cw_region (lw_op Z Z Z (ow_move Z Z (lw_op Z Z Z (ow_move Z Z ?_))))))))))))))))))))
     replace h := bind_some h
     obtain ⟨x8, hx8, h⟩ := h
     refine lw_op Z Z Z (ow_call Z Z Tryd.call44 (we_laws_markBoxS (fun b e => Nat.lt_of_lt_of_le e.2 hs8) hw16 hx8) fun v11 w11 hv11 => ?_)
     obtain ⟨rfl, hw17, hb10⟩ := hv11
     have hl11 := Le.reset (hl9.trans hl10) hb10 (fun b h => Nat.le_trans hs3 h.1)
     have hC11 := Cx.reset hC3 hC10 hb10 (fun b h => Nat.le_trans hC4.bx.size h.1) (Nat.le_trans (hl9.trans hl10).size hb10.size)
     have hw18 := VRep.mono (Le.sub _ (show ∀ b, M b → NotY (YB (fun b => w4.heap.size ≤ b) w5) b from fun b h1 h2 => Nat.lt_irrefl _ (Nat.lt_of_lt_of_le (hC3.old b h1) (Nat.le_trans hs3 h2.1)))) (Fg.vrep fgBoxSS hw17)
     refine lw_op Z Z Z (ow_assign Z Z (lw_nil (ew_then (cw_seq (cw_region (lw_op Z Z Z (ow_assign Z Z (lw_nil (ew_then (cw_seq (cw_region (lw_op Z Z Z (ow_move Z Z (lw_op Z Z Z (ow_move Z Z ?_)))))))))))))))
     replace h := bind_some h
     obtain ⟨x9, hx9, h⟩ := h
     have lz6 := (((hl1.trans hl2).trans hl3).trans hl11)
     refine lw_op Z Z Z (ow_call Z Z Tryd.call45 (w_laws_heldBoxS (hG.mono lz6) hC11.old hw18 hx9) fun v12 w12 hv12 => ?_)
     obtain ⟨hv12, hb11⟩ := hv12
     have hl12 := Le.no M hb11
     have hC12 := hC11.no hb11
     obtain rfl := vint_eq hv12
     refine lw_op Z Z Z (ow_assign Z Z (lw_nil (ew_then (cw_seq (cw_seq (cw_region (lw_op Z Z Z (ow_move Z Z (lw_op Z Z Z (ow_lss Z Z Z fun bb3 hbb3 => lw_nil (ew_then ?_)))))))))))
     replace h := cond_some h
     rcases h with ⟨hc5, h⟩ | ⟨hc5, h⟩
     ·
      obtain rfl := hbb3.trans hc5
      refine cw_true Z (cw_seq (cw_region (lw_op Z Z Z (ow_assign Z Z (lw_nil (ew_then (cw_ret (ew_thenR ?_))))))))
      obtain rfl := sj h
      exact ew_ret (res1 Z (.tmp Z)) ⟨_, Z, ((vbool _)), hC12.bx⟩
     ·
      obtain rfl := hbb3.trans hc5
      refine cw_false Z (cw_skip (ew_then (cw_seq (cw_seq (cw_region (lw_op Z Z Z (ow_move Z Z (lw_op Z Z Z (ow_move Z Z (lw_op Z Z Z (ow_neqI Z Z Z fun bb4 hbb4 => lw_nil (ew_then ?_))))))))))))
      replace h := cond_some h
      rcases h with ⟨hc6, h⟩ | ⟨hc6, h⟩
      ·
       obtain rfl := hbb4.trans hc6
       refine cw_true Z (cw_seq (cw_region (lw_op Z Z Z (ow_assign Z Z (lw_nil (ew_then (cw_ret (ew_thenR ?_))))))))
       obtain rfl := sj h
       exact ew_ret (res1 Z (.tmp Z)) ⟨_, Z, ((vbool _)), hC12.bx⟩
      ·
       obtain rfl := hbb4.trans hc6
       refine cw_false Z (cw_skip (ew_then (cw_seq (cw_region (lw_op Z Z Z (ow_move Z Z (lw_op Z Z Z (ow_call Z Z Tryd.call39 (wu_laws_toFlatS (hG.mono (lz6.trans hl12)) hC12.old (Y := (fun b => w12.heap.size ≤ b)) (fun _ hb => hb) (VRep.mono (lz6.trans hl12) h0) hx2) fun v13 w13 hv13 => ?_))))))))
       obtain ⟨hv13, hb12⟩ := hv13
       have hl13 := Le.no M hb12
       have hC13 := hC12.no hb12
       have hw19 := Fg.vrep (Fg.slice fg_Flat) hv13
       have lz7 := ((lz6.trans hl12).trans hl13)
       refine lw_op Z Z Z (ow_call Z Z Tryd.call40 (wt_impl_FlatBoxes (hG.mono lz7) hC13.old (Y := (fun b => w13.heap.size ≤ b)) (fun _ hb => hb) hw19 hx4) fun v14 w14 hv14 => ?_)
       obtain ⟨hv14, hb13⟩ := hv14
       have hl14 := Le.no M hb13
       have hC14 := hC13.no hb13
       have hw20 := Fg.vrep (Fg.in_ fgBoxSS) hv14
       refine lw_op Z Z Z (ow_assign Z Z (lw_nil (ew_then (cw_seq (cw_seq (cw_region (lw_op Z Z Z (ow_move Z Z (lw_op Z Z Z (ow_move Z Z ?_))))))))))
       have lz8 := (((hl11.trans hl12).trans hl13).trans hl14)
       refine lw_op Z Z Z (ow_call Z Z Tryd.call41 (w_laws_eqBoxS (hG.mono (lz7.trans hl14)) hC14.old hw20 (VRep.mono lz8 hv3) hx5) fun v15 w15 hv15 => ?_)
       obtain ⟨hv15, hb14⟩ := hv15
       have hl15 := Le.no M hb14
       have hC15 := hC14.no hb14
       obtain rfl := vbool_eq hv15
       refine lw_op Z Z Z (ow_not Z Z (lw_nil (ew_then (cw_false Z (cw_skip (ew_then (cw_seq (cw_region (lw_op Z Z Z (ow_assign Z Z (lw_nil (ew_then (cw_seq (cw_region (lw_op Z Z Z (ow_move Z Z (lw_op Z Z Z (ow_move Z Z ?_))))))))))))))))))
       have lz9 := (((hl12.trans hl13).trans hl14).trans hl15)
       have lz10 := ((lz7.trans hl14).trans hl15)
       refine lw_op Z Z Z (ow_call Z Z Tryd.call45 (w_laws_heldBoxS (hG.mono lz10) hC15.old (VRep.mono lz9 hw18) hx9) fun v16 w16 hv16 => ?_)
       obtain ⟨hv16, hb15⟩ := hv16
       have hC16 := hC15.no hb15
       obtain rfl := vint_eq hv16
       refine lw_op Z Z Z (ow_assign Z Z (lw_nil (ew_then (cw_seq (cw_seq (cw_region (lw_op Z Z Z (ow_move Z Z (lw_op Z Z Z (ow_lss Z Z Z fun bb5 hbb5 => ?_))))))))))
       obtain rfl := hbb5.trans hc5
       refine lw_nil (ew_then (cw_false Z (cw_skip (ew_then (cw_seq (cw_seq (cw_region (lw_op Z Z Z (ow_move Z Z (lw_op Z Z Z (ow_move Z Z (lw_op Z Z Z (ow_neqI Z Z Z fun bb6 hbb6 => ?_)))))))))))))
       obtain rfl := hbb6.trans hc6
       refine lw_nil (ew_then (cw_false Z (cw_skip (ew_then (cw_seq (cw_region (lw_op Z Z Z (ow_assign Z Z (lw_nil (ew_then (cw_ret ?_)))))))))))
       obtain rfl := sj h
       exact ew_ret (res1 Z (.tmp Z)) ⟨_, Z, ((vbool _)), hC16.bx⟩
   ·
    subst hc3
    refine cw_true Z (cw_seq (cw_region (lw_op Z Z Z (ow_assign Z Z (lw_nil (ew_then (cw_ret (ew_thenR ?_))))))))
    obtain rfl := sj h
    exact ew_ret (res1 Z (.tmp Z)) ⟨_, Z, ((vbool _)), hC8.bx⟩
  ·
   subst hc2
   refine cw_true Z (cw_seq (cw_region (lw_op Z Z Z (ow_assign Z Z (lw_nil (ew_then (cw_ret (ew_thenR ?_))))))))
   obtain rfl := sj h
   exact ew_ret (res1 Z (.tmp Z)) ⟨_, Z, ((vbool _)), hC6.bx⟩


end Go.PF
