/- The walks; no condition. -/
import Derived.Test.YtbnndochnkkllaaDoorProg
import Derived.Test.YtbnndochnkkllaaDoorFun
import Derived.Test.YtbnndochnkkllaaDoorPFSeq
import Derived.Test.YtbnndochnkkllaaDoorPFMark
import Derived.Test.YtbnndochnkkllaaDoorPFWild
import Derived.Test.YtbnndochnkkllaaDoorPFTree
set_option maxRecDepth 100000
set_option maxHeartbeats 4000000
namespace Go.PF
open Go Go.RowKit Go.Proofs

theorem info48 : ∃ i, Tryd.prog.info? 48 = some i ∧ i.zero = some (.agg #[.slice none 0 0]) ∧ i.size = 1 ∧ i.bytes = 24 := info_parts (by kernel_rfl)
theorem info120 : ∃ i, Tryd.prog.info? 120 = some i ∧ i.zero = some (.agg #[.int .i64 0, .int .i64 0]) ∧ i.size = 2 ∧ i.bytes = 16 := info_parts (by kernel_rfl)
theorem info121 : ∃ i, Tryd.prog.info? 121 = some i ∧ i.zero = some (.slice none 0 0) ∧ i.size = 1 ∧ i.bytes = 24 := info_parts (by kernel_rfl)
theorem info131 : ∃ i, Tryd.prog.info? 131 = some i ∧ i.zero = some (.agg #[.slice none 0 0, .slice none 0 0, .slice none 0 0, .slice none 0 0]) ∧ i.size = 4 ∧ i.bytes = 96 := info_parts (by kernel_rfl)
def actV : Act_ → Value
  | .deciding b => .iface 229 (.agg #[.bool b])
  | .calling c => .iface 231 (.agg #[.int .i64 c])
  | .returning => .iface 233 (.agg #[])
  | .passing => .iface 234 (.agg #[])
theorem w_laws_szSpanS {w : World} {M : Nat → Prop} (_hG : ARep (RArr 4 RShape) w M shapes ⟨0, 0, none⟩) (hO : ∀ b, M b → b < w.heap.size) {v0p : Value} {a_a : List Span} (h0 : VRep (RSlice RSpan) w M a_a v0p) {a_left : Int} {r : Int} (h : F.laws_szSpanS a_a a_left = some r) :
  Calls Tryd.prog 149 [v0p, (.int .i64 a_left)].toArray w fun e w' => ∃ v, e = .returned v ∧ VRep RInt w' M r v ∧ BX No w w' := by
 have hC : Cx No w M w M := Cx.start hO (fun _ e => e.elim)
 clear _hG
 refine walk (N := 12) Tryd.func149 Z Tryd.ntmps149 Z (cw_seq (cw_region (lw_op Z Z Z (ow_assign Z Z (lw_nil (ew_then (cw_seq (cw_region (lw_op Z Z Z (ow_move Z Z (lw_op Z Z Z (ow_move Z Z (lw_op Z Z Z (ow_len Z Z h0 Tryd.underlying197 Z (lw_op Z Z Z (ow_sub Z Z Z (lw_op Z Z Z (ow_assign Z Z (lw_nil (ew_then (cw_seq (cw_seq (cw_region (lw_op Z Z Z (ow_move Z Z (lw_op Z Z Z (ow_lss Z Z Z fun bb1 hbb1 => lw_nil (ew_then ?_))))))))))))))))))))))))))))
 replace h := cond_some h
 rcases h with ⟨hc1, h⟩ | ⟨hc1, h⟩
 ·
  obtain rfl := hbb1.trans hc1
  refine cw_true Z (cw_seq (cw_region (lw_op Z Z Z (ow_assign Z Z (lw_nil (ew_then (cw_ret (ew_thenR ?_))))))))
  obtain rfl := sj h
  exact ew_ret (res1 Z (.tmp Z)) ⟨_, Z, ((vint _)), hC.bx⟩
 ·
  obtain rfl := hbb1.trans hc1
  refine cw_false Z (cw_skip (ew_then (cw_seq (cw_region (lw_op Z Z Z (ow_move Z Z (lw_op Z Z Z (ow_assign Z Z (lw_nil (ew_then (cw_ret ?_)))))))))))
  obtain rfl := sj h
  exact ew_ret (res1 Z (.tmp Z)) ⟨_, Z, ((vint _)), hC.bx⟩

theorem w_laws_szSpanSS {w : World} {M : Nat → Prop} (hG : ARep (RArr 4 RShape) w M shapes ⟨0, 0, none⟩) (hO : ∀ b, M b → b < w.heap.size) {v0p : Value} {a_a : List (List Span)} (h0 : VRep (RSlice (RSlice RSpan)) w M a_a v0p) {a_left : Int} {r : Int} (h : F.laws_szSpanSS a_a a_left = some r) :
  Calls Tryd.prog 86 [v0p, (.int .i64 a_left)].toArray w fun e w' => ∃ v, e = .returned v ∧ VRep RInt w' M r v ∧ BX No w w' := by
 have hC : Cx No w M w M := Cx.start hO (fun _ e => e.elim)
 refine walk (N := 27) Tryd.func86 Z Tryd.ntmps86 Z (cw_seq (cw_region (lw_op Z Z Z (ow_assign Z Z (lw_nil (ew_then (cw_seq (cw_region (lw_op Z Z Z (ow_move Z Z (lw_op Z Z Z (ow_move Z Z (lw_op Z Z Z (ow_len Z Z h0 Tryd.underlying40 Z (lw_op Z Z Z (ow_sub Z Z Z (lw_op Z Z Z (ow_assign Z Z (lw_nil (ew_then (cw_seq (cw_seq (cw_region (lw_op Z Z Z (ow_move Z Z (lw_op Z Z Z (ow_lss Z Z Z fun bb1 hbb1 => lw_nil (ew_then ?_))))))))))))))))))))))))))))
 replace h := cond_some h
 rcases h with ⟨hc1, h⟩ | ⟨hc1, h⟩
 ·
  obtain rfl := hbb1.trans hc1
  refine cw_true Z (cw_seq (cw_region (lw_op Z Z Z (ow_assign Z Z (lw_nil (ew_then (cw_ret (ew_thenR ?_))))))))
  obtain rfl := sj h
  exact ew_ret (res1 Z (.tmp Z)) ⟨_, Z, ((vint _)), hC.bx⟩
 ·
  obtain rfl := hbb1.trans hc1
  refine cw_false Z (cw_skip (ew_then (cw_seq (cw_seq (cw_region (lw_op Z Z Z (ow_assign Z Z (lw_nil (ew_then ?_)))))))))
  replace h := bind_some h
  obtain ⟨lr1, hlr1, h⟩ := h
  refine cw_for hlr1 (fun s a w' => ∃ (M' : Nat → Prop), Fits 27 [(0, v0p), (1, (Zv s.1)), (5, (Zv s.2))] a ∧ Le w M w' M' ∧ Cx No w M w' M') ?_ ?_ ?_
  · exact fun a ha => ⟨M, ha.sub ⟨Z, Z, Z, Zt⟩, Le.refl _ _, hC⟩
  ·
   rintro ⟨k1, k2⟩ a w1 sr1 ⟨M1, hF1, hl1, hC1⟩ hb1 hR1
   refine cw_at (E := [(0, v0p), (1, (Zv k1)), (5, (Zv k2))]) hF1 (cw_seq (cw_seq (cw_region (lw_op Z Z Z (ow_move Z Z (lw_op Z Z Z (ow_move Z Z (lw_op Z Z Z (ow_len Z Z (VRep.mono hl1 h0) Tryd.underlying40 Z (lw_op Z Z Z (ow_lss Z Z Z fun bb2 hbb2 => lw_nil (ew_then ?_))))))))))))
   replace hb1 := cond_some hb1
   rcases hb1 with ⟨hc2, hb1⟩ | ⟨hc2, hb1⟩
   ·
    obtain rfl := hbb2.trans hc2
    refine cw_true Z (cw_skip (ew_then (cw_seq (cw_block (cw_seq (cw_region (lw_op Z Z Z (ow_move Z Z (lw_op Z Z Z (ow_move Z Z ?_))))))))))
    replace hb1 := bind_some hb1
    obtain ⟨x1, hx1, hb1⟩ := hb1
    refine lw_op Z Z Z (ow_indexSlice (R := (RSlice RSpan)) Z Z Z (VRep.mono hl1 h0) Tryd.underlying40 (Tryd.sizeOf197 _) hx1 fun p1 hp1 => lw_op Z Z Z (ow_load (R := (RSlice RSpan)) Z Z hp1 (Tryd.sizeOf197 _) (Tryd.isAgg197 _) fun v3 hv3 => lw_op Z Z Z (ow_move Z Z ?_)))
    replace hb1 := bind_some hb1
    obtain ⟨x2, hx2, hb1⟩ := hb1
    refine lw_op Z Z Z (ow_call Z Z Tryd.call149 (w_laws_szSpanS (hG.mono hl1) hC1.old hv3 hx2) fun v4 w2 hv4 => ?_)
    obtain ⟨hv4, hb2⟩ := hv4
    have hl2 := Le.no M1 hb2
    have hC2 := hC1.no hb2
    obtain rfl := vint_eq hv4
    refine lw_op Z Z Z (ow_assign Z Z (lw_nil (ew_then (cw_seq (cw_region (lw_op Z Z Z (ow_move Z Z (lw_op Z Z Z (ow_lss Z Z Z fun bb3 hbb3 => lw_nil (ew_then ?_))))))))))
    replace hb1 := cond_some hb1
    rcases hb1 with ⟨hc3, hb1⟩ | ⟨hc3, hb1⟩
    ·
     obtain rfl := hbb3.trans hc3
     refine cw_true Z (cw_seq (cw_region (lw_op Z Z Z (ow_assign Z Z (lw_nil (ew_then (cw_ret (ew_blockR (ew_thenR (ew_thenR (ew_blockR (ew_brkR (ew_thenR ?_)))))))))))))
     have e1 := hR1 _ (sj hb1).symm
     subst e1
     obtain rfl := sj h
     exact ew_ret (res1 Z (.tmp Z)) ⟨_, Z, ((vint _)), hC2.bx⟩
    ·
     obtain rfl := hbb3.trans hc3
     exact cw_false Z (cw_skip (ew_blockN (ew_then (cw_region (lw_op Z Z Z (ow_move Z Z (lw_op Z Z Z (ow_add Z Z Z (lw_op Z Z Z (ow_assign Z Z (lw_nil (ew_nxt (x2, (W (k2 + 1))) hb1 fun a ha => ⟨M1, (ha.sub ⟨Z, Z, Z, Zt⟩), (hl1.trans hl2), hC2⟩))))))))))))
   ·
    obtain rfl := hbb2.trans hc2
    exact cw_false Z (cw_exit (ew_thenX (ew_thenX (ew_blockX (ew_brk (k1, k2) hb1 fun a ha => ⟨M1, (ha.sub ⟨Z, Z, Z, Zt⟩), hl1, hC1⟩)))))
  ·
   rintro ⟨k3, k4⟩ a w3 hlr2 ⟨M2, hF2, hl3, hC3⟩
   subst hlr2
   refine ew_at (E := [(0, v0p), (1, (Zv k3)), (5, (Zv k4))]) hF2 (ew_then (cw_seq (cw_region (lw_op Z Z Z (ow_move Z Z (lw_op Z Z Z (ow_assign Z Z (lw_nil (ew_then (cw_ret ?_))))))))))
   obtain rfl := sj h
   exact ew_ret (res1 Z (.tmp Z)) ⟨_, Z, ((vint _)), hC3.bx⟩

theorem w_laws_szBox {w : World} {M : Nat → Prop} (hG : ARep (RArr 4 RShape) w M shapes ⟨0, 0, none⟩) (hO : ∀ b, M b → b < w.heap.size) {v0p : Value} {a_a : Box} (h0 : VRep RBox w M a_a v0p) {a_left : Int} {r : Int} (h : F.laws_szBox a_a a_left = some r) :
  Calls Tryd.prog 21 [v0p, (.int .i64 a_left)].toArray w fun e w' => ∃ v, e = .returned v ∧ VRep RInt w' M r v ∧ BX No w w' := by
 have hC : Cx No w M w M := Cx.start hO (fun _ e => e.elim)
 refine walk (N := 12) Tryd.func21 Z Tryd.ntmps21 Z (cw_seq (cw_region (lw_op Z Z Z (ow_box (R := RBox) Z Z h0 hC fun p1 w1 hp1 hb1 hl1 hC1 => lw_op Z Z Z (ow_assign Z Z (lw_nil (ew_then (cw_seq (cw_region (lw_op Z Z Z (ow_fieldAddr Z Z Tryd.underlying42 Z (Tryd.sizeOf40 _) (lw_op Z Z Z (ow_load (R := (RSlice (RSlice RSpan))) Z Z (hp1.fld fld_Box_Sides) (Tryd.sizeOf40 _) (Tryd.isAgg40 _) fun v1 hv1 => lw_op Z Z Z (ow_move Z Z ?_))))))))))))))
 replace h := bind_some h
 obtain ⟨x1, hx1, h⟩ := h
 refine lw_op Z Z Z (ow_call Z Z Tryd.call86 (w_laws_szSpanSS (hG.mono hl1) hC1.old hv1 hx1) fun v2 w2 hv2 => ?_)
 obtain ⟨hv2, hb2⟩ := hv2
 have hC2 := hC1.no hb2
 obtain rfl := vint_eq hv2
 refine lw_op Z Z Z (ow_assign Z Z (lw_nil (ew_then (cw_seq (cw_seq (cw_region (lw_op Z Z Z (ow_move Z Z (lw_op Z Z Z (ow_lss Z Z Z fun bb1 hbb1 => lw_nil (ew_then ?_)))))))))))
 replace h := cond_some h
 rcases h with ⟨hc1, h⟩ | ⟨hc1, h⟩
 ·
  obtain rfl := hbb1.trans hc1
  refine cw_true Z (cw_seq (cw_region (lw_op Z Z Z (ow_assign Z Z (lw_nil (ew_then (cw_ret (ew_thenR ?_))))))))
  obtain rfl := sj h
  exact ew_ret (res1 Z (.tmp Z)) ⟨_, Z, ((vint _)), hC2.bx⟩
 ·
  obtain rfl := hbb1.trans hc1
  refine cw_false Z (cw_skip (ew_then (cw_seq (cw_region (lw_op Z Z Z (ow_move Z Z (lw_op Z Z Z (ow_assign Z Z (lw_nil (ew_then (cw_ret ?_)))))))))))
  obtain rfl := sj h
  exact ew_ret (res1 Z (.tmp Z)) ⟨_, Z, ((vint _)), hC2.bx⟩

theorem w_laws_toSpan {w : World} {M : Nat → Prop} (_hG : ARep (RArr 4 RShape) w M shapes ⟨0, 0, none⟩) (hO : ∀ b, M b → b < w.heap.size) {v0p : Value} {a_a : Span} (h0 : VRep RSpan w M a_a v0p) {r : Span} (h : F.laws_toSpan a_a = some r) :
  Calls Tryd.prog 178 [v0p].toArray w fun e w' => ∃ v, e = .returned v ∧ VRep RSpan w' M r v ∧ BX No w w' := by
 have hC : Cx No w M w M := Cx.start hO (fun _ e => e.elim)
 clear _hG
 refine walk (N := 11) Tryd.func178 Z Tryd.ntmps178 Z (cw_seq (cw_region (lw_op Z Z Z (ow_box (R := RSpan) Z Z h0 hC fun p1 w1 hp1 hb1 hl1 hC1 => lw_op Z Z Z (ow_alloc Z (Tryd.zeroValue120 _) hC1 fun g1 w2 hg1 hg2 ho1 hb2 hl2 hC2 => ?_)))))
 have hm1 : (Add g1 M) g1 := .inl Z
 refine lw_nil (ew_then (cw_seq (cw_region (lw_op Z Z Z (ow_alloc Z (Tryd.zeroValue120 _) hC2 fun g2 w3 hg3 hg4 ho2 hb3 hl3 hC3 => ?_)))))
 have hn1 := Nat.ne_of_lt (Nat.lt_of_lt_of_le ho1.lt hg3)
 have ho3 := ho1.no hb3
 have hm2 : (Add g2 (Add g1 M)) g1 := .inr hm1
 have hm3 : (Add g2 (Add g1 M)) g2 := .inl Z
 refine lw_nil (ew_then (cw_seq (cw_region (lw_op Z Z Z (ow_fieldAddr Z Z Tryd.underlying236 Z (Tryd.sizeOf3 _) (lw_op Z Z Z (ow_load (R := RInt) Z Z (ARep.mono (hl2.trans hl3) (hp1.fld fld_Span_Lo)) (Tryd.sizeOf3 _) (Tryd.isAgg3 _) fun v1 hv1 => ?_)))))))
 obtain rfl := vint_eq hv1
 refine lw_op Z Z Z (ow_fieldAddr Z Z Tryd.underlying120 Z (Tryd.sizeOf3 _) (lw_op0 Z Z (ow_store (X := No) (us := [(Zv a_a.Lo)]) (cs' := #[(Zv a_a.Lo), (Zv 0)]) Z Z Z Z ho2 (Tryd.sizeOf3 _) Z Z Z Z hm3 (.inl hg4) Z hC3 fun w4 ho4 hb4 hl4 hC4 => ?_)))
 have ho5 := ho3.go hb4 (fun e => hn1 e)
 refine lw_nil (ew_then (cw_seq (cw_region (lw_op Z Z Z (ow_fieldAddr Z Z Tryd.underlying236 Z (Tryd.sizeOf3 _) ?_)))))
 have lz1 := ((hl2.trans hl3).trans hl4)
 refine lw_op Z Z Z (ow_load (R := RInt) Z Z (ARep.mono lz1 (hp1.fld fld_Span_Hi)) (Tryd.sizeOf3 _) (Tryd.isAgg3 _) fun v2 hv2 => ?_)
 obtain rfl := vint_eq hv2
 refine lw_op Z Z Z (ow_fieldAddr Z Z Tryd.underlying120 Z (Tryd.sizeOf3 _) (lw_op0 Z Z (ow_store (X := No) (us := [(Zv a_a.Hi)]) (cs' := #[(Zv a_a.Lo), (Zv a_a.Hi)]) Z Z Z Z ho4 (Tryd.sizeOf3 _) Z Z Z Z hm3 (.inl hg4) Z hC4 fun w5 ho6 hb5 hl5 hC5 => ?_)))
 have ho7 := ho5.go hb5 (fun e => hn1 e)
 refine lw_nil (ew_then (cw_seq (cw_region (lw_op Z Z Z (ow_loadOwnA Z Z Z ho6 (Tryd.isAgg120 _) (Tryd.sizeOf120 _) Z (lw_op0 Z Z (ow_store (X := No) (us := [(Zv a_a.Lo), (Zv a_a.Hi)]) (cs' := #[(Zv a_a.Lo), (Zv a_a.Hi)]) Z Z Z Z ho7 (Tryd.sizeOf120 _) Z Z Z Z hm2 (.inl hg2) Z hC5 fun w6 ho8 hb6 hl6 hC6 => lw_nil (ew_then (cw_ret ?_)))))))))
 have hw2 : VRep RSpan w6 (Add g2 (Add g1 M)) ({ Lo := a_a.Lo, Hi := a_a.Hi } : Span) (.agg #[(Zv a_a.Lo), (Zv a_a.Hi)]) := shut_Span
 obtain rfl := sj h
 exact ew_ret (res1 Z (.cell Z (own_loadVarA ho8 (Tryd.isAgg120 _) (Tryd.sizeOf120 _) Z))) ⟨_, Z, (hw2.mono hC6.back), hC6.bx⟩

theorem wu_laws_toSpanS {w : World} {M : Nat → Prop} (hG : ARep (RArr 4 RShape) w M shapes ⟨0, 0, none⟩) (hO : ∀ b, M b → b < w.heap.size) {Y : Nat → Prop} (hY : ∀ b, w.heap.size ≤ b → Y b) {v0p : Value} {a_a : List Span} (h0 : VRep (RSlice RSpan) w M a_a v0p) {r : (List Span)} (h : F.laws_toSpanS a_a = some r) :
  Calls Tryd.prog 150 [v0p].toArray w fun e w' => ∃ v, e = .returned v ∧ VRep (RSliceU Y RSpan) w' M r v ∧ BX No w w' := by
 obtain ⟨i120, hi120, hz120, hs120, hy120⟩ := info120
 have hC : Cx No w M w M := Cx.start hO (fun _ e => e.elim)
 refine walk (N := 23) Tryd.func150 Z Tryd.ntmps150 Z (cw_seq (cw_region (lw_op Z Z Z (ow_assign Z Z (lw_nil (ew_then (cw_seq (cw_region (lw_op Z Z Z (ow_move Z Z (lw_op Z Z Z (ow_len Z Z h0 Tryd.underlying197 Z ?_))))))))))))
 replace h := bind_some h
 obtain ⟨mk1, hmk1, h⟩ := h
 refine lw_op Z Z Z (ow_make (R := RSpan) Z Z Z Tryd.underlying121 hi120 hz120 hs120 hy120 Z Z (shut_Span) hmk1 hC fun v1 w1 M1 hr1 hb1 hl1 hC1 hM1 hat1 => lw_op Z Z Z (ow_assign Z Z (lw_nil (ew_then (cw_seq (cw_seq (cw_region (lw_op Z Z Z (ow_assign Z Z (lw_nil (ew_then ?_)))))))))))
 replace h := bind_some h
 obtain ⟨lr1, hlr1, h⟩ := h
 refine cw_for hlr1 (fun s a w' => ∃ (M' : Nat → Prop), Fits 23 [(0, v0p), (3, v1), (4, (Zv s.1))] a ∧ Le w1 M1 w' M' ∧ Cx No w M w' M' ∧ OwnRow RSpan w.heap.size 120 w' M' s.2 v1) ?_ ?_ ?_
 · exact fun a ha => ⟨M1, ha.sub ⟨Z, Z, Z, Zt⟩, Le.refl _ _, hC1, hr1⟩
 ·
  rintro ⟨k1, y1⟩ a w2 sr1 ⟨M2, hF1, hl2, hC2, hw1⟩ hb2 hR1
  refine cw_at (E := [(0, v0p), (3, v1), (4, (Zv k1))]) hF1 (cw_seq (cw_seq (cw_region (lw_op Z Z Z (ow_move Z Z (lw_op Z Z Z (ow_move Z Z (lw_op Z Z Z (ow_len Z Z (VRep.mono (hl1.trans hl2) h0) Tryd.underlying197 Z (lw_op Z Z Z (ow_lss Z Z Z fun bb1 hbb1 => lw_nil (ew_then ?_))))))))))))
  replace hb2 := cond_some hb2
  rcases hb2 with ⟨hc1, hb2⟩ | ⟨hc1, hb2⟩
  ·
   obtain rfl := hbb1.trans hc1
   refine cw_true Z (cw_skip (ew_then (cw_seq (cw_block (cw_region (lw_op Z Z Z (ow_move Z Z (lw_op Z Z Z (ow_move Z Z (lw_op Z Z Z (ow_move Z Z (lw_op Z Z Z (ow_move Z Z ?_)))))))))))))
   replace hb2 := bind_some hb2
   obtain ⟨x1, hx1, hb2⟩ := hb2
   refine lw_op Z Z Z (ow_indexSlice (R := RSpan) Z Z Z (VRep.mono (hl1.trans hl2) h0) Tryd.underlying197 (Tryd.sizeOf236 _) hx1 fun p1 hp1 => lw_op Z Z Z (ow_load (R := RSpan) Z Z hp1 (Tryd.sizeOf236 _) (Tryd.isAgg236 _) fun v4 hv4 => ?_))
   replace hb2 := bind_some hb2
   obtain ⟨x2, hx2, hb2⟩ := hb2
   refine lw_op Z Z Z (ow_call Z Z Tryd.call178 (w_laws_toSpan (hG.mono (hl1.trans hl2)) hC2.old hv4 hx2) fun v5 w3 hv5 => ?_)
   obtain ⟨hv5, hb3⟩ := hv5
   have hl3 := Le.no M2 hb3
   have hC3 := hC2.no hb3
   have hr2 := hw1.no hb3
   replace hb2 := bind_some hb2
   obtain ⟨x3, hx3, hb2⟩ := hb2
   refine lw_op Z Z Z (ow_indexRow (R := RSpan) Z Z Z hr2 Tryd.underlying121 (Tryd.sizeOf120 _) hx3 (lw_op0 Z Z (ow_storeElRow (X := No) (R := RSpan) (S := RSpan) Z Z Z Z hr2 (orow_blk hr2 hx3) hx3 (FldSet.whole RSpan) (Tryd.sizeOf120 _) hv5 (Nat.le_refl _) hC3 fun w4 ho1 hb4 hl4 hC4 => lw_nil (ew_blockN (ew_then (cw_region (lw_op Z Z Z (ow_move Z Z (lw_op Z Z Z (ow_add Z Z Z (lw_op Z Z Z (ow_assign Z Z (lw_nil ?_)))))))))))))
   have lz1 := ((hl2.trans hl3).trans hl4)
   exact ew_nxt ((W (k1 + 1)), (List.set y1 (k1 : Int).toNat x2)) hb2 fun a ha => ⟨M2, (ha.sub ⟨Z, Z, Z, Zt⟩), lz1, hC4, ho1⟩
  ·
   obtain rfl := hbb1.trans hc1
   exact cw_false Z (cw_exit (ew_thenX (ew_thenX (ew_blockX (ew_brk (k1, y1) hb2 fun a ha => ⟨M2, (ha.sub ⟨Z, Z, Z, Zt⟩), hl2, hC2, hw1⟩)))))
 ·
  rintro ⟨k2, y2⟩ a w5 hlr2 ⟨M3, hF2, hl5, hC5, hw2⟩
  subst hlr2
  refine ew_at (E := [(0, v0p), (3, v1), (4, (Zv k2))]) hF2 (ew_then (cw_seq (cw_region (lw_op Z Z Z (ow_move Z Z (lw_op Z Z Z (ow_assign Z Z (lw_nil (ew_then (cw_ret ?_))))))))))
  obtain rfl := sj h
  exact ew_ret (res1 Z (.tmp Z)) ⟨_, Z, (hw2.freezeBackU hC5 hO hY), hC5.bx⟩

theorem wu_laws_toSpanSS {w : World} {M : Nat → Prop} (hG : ARep (RArr 4 RShape) w M shapes ⟨0, 0, none⟩) (hO : ∀ b, M b → b < w.heap.size) {Y : Nat → Prop} (hY : ∀ b, w.heap.size ≤ b → Y b) {v0p : Value} {a_a : List (List Span)} (h0 : VRep (RSlice (RSlice RSpan)) w M a_a v0p) {r : (List (List Span))} (h : F.laws_toSpanSS a_a = some r) :
  Calls Tryd.prog 89 [v0p].toArray w fun e w' => ∃ v, e = .returned v ∧ VRep (RSliceU Y (RSliceU Y RSpan)) w' M r v ∧ BX No w w' := by
 obtain ⟨i121, hi121, hz121, hs121, hy121⟩ := info121
 have hC : Cx No w M w M := Cx.start hO (fun _ e => e.elim)
 refine walk (N := 23) Tryd.func89 Z Tryd.ntmps89 Z (cw_seq (cw_region (lw_op Z Z Z (ow_assign Z Z (lw_nil (ew_then (cw_seq (cw_region (lw_op Z Z Z (ow_move Z Z (lw_op Z Z Z (ow_len Z Z h0 Tryd.underlying40 Z ?_))))))))))))
 replace h := bind_some h
 obtain ⟨mk1, hmk1, h⟩ := h
 refine lw_op Z Z Z (ow_make (R := (RSliceU Y RSpan)) Z Z Z Tryd.underlying46 hi121 hz121 hs121 hy121 Z Z vsliceU_nil hmk1 hC fun v1 w1 M1 hr1 hb1 hl1 hC1 hM1 hat1 => lw_op Z Z Z (ow_assign Z Z (lw_nil (ew_then (cw_seq (cw_seq (cw_region (lw_op Z Z Z (ow_assign Z Z (lw_nil (ew_then ?_)))))))))))
 replace h := bind_some h
 obtain ⟨lr1, hlr1, h⟩ := h
 refine cw_for hlr1 (fun s a w' => ∃ (M' : Nat → Prop), Fits 23 [(0, v0p), (3, v1), (4, (Zv s.1))] a ∧ Le w1 M1 w' M' ∧ Cx No w M w' M' ∧ OwnRow (RSliceU Y RSpan) w.heap.size 121 w' M' s.2 v1) ?_ ?_ ?_
 · exact fun a ha => ⟨M1, ha.sub ⟨Z, Z, Z, Zt⟩, Le.refl _ _, hC1, hr1⟩
 ·
  rintro ⟨k1, y1⟩ a w2 sr1 ⟨M2, hF1, hl2, hC2, hw1⟩ hb2 hR1
  refine cw_at (E := [(0, v0p), (3, v1), (4, (Zv k1))]) hF1 (cw_seq (cw_seq (cw_region (lw_op Z Z Z (ow_move Z Z (lw_op Z Z Z (ow_move Z Z (lw_op Z Z Z (ow_len Z Z (VRep.mono (hl1.trans hl2) h0) Tryd.underlying40 Z (lw_op Z Z Z (ow_lss Z Z Z fun bb1 hbb1 => lw_nil (ew_then ?_))))))))))))
  replace hb2 := cond_some hb2
  rcases hb2 with ⟨hc1, hb2⟩ | ⟨hc1, hb2⟩
  ·
   obtain rfl := hbb1.trans hc1
   refine cw_true Z (cw_skip (ew_then (cw_seq (cw_block (cw_region (lw_op Z Z Z (ow_move Z Z (lw_op Z Z Z (ow_move Z Z (lw_op Z Z Z (ow_move Z Z (lw_op Z Z Z (ow_move Z Z ?_)))))))))))))
   replace hb2 := bind_some hb2
   obtain ⟨x1, hx1, hb2⟩ := hb2
   refine lw_op Z Z Z (ow_indexSlice (R := (RSlice RSpan)) Z Z Z (VRep.mono (hl1.trans hl2) h0) Tryd.underlying40 (Tryd.sizeOf197 _) hx1 fun p1 hp1 => lw_op Z Z Z (ow_load (R := (RSlice RSpan)) Z Z hp1 (Tryd.sizeOf197 _) (Tryd.isAgg197 _) fun v4 hv4 => ?_))
   replace hb2 := bind_some hb2
   obtain ⟨x2, hx2, hb2⟩ := hb2
   refine lw_op Z Z Z (ow_call Z Z Tryd.call150 (wu_laws_toSpanS (hG.mono (hl1.trans hl2)) hC2.old (fun b hb => hY b (Nat.le_trans hC2.bx.size hb)) hv4 hx2) fun v5 w3 hv5 => ?_)
   obtain ⟨hv5, hb3⟩ := hv5
   have hl3 := Le.no M2 hb3
   have hC3 := hC2.no hb3
   have hr2 := hw1.no hb3
   replace hb2 := bind_some hb2
   obtain ⟨x3, hx3, hb2⟩ := hb2
   refine lw_op Z Z Z (ow_indexRow (R := (RSliceU Y RSpan)) Z Z Z hr2 Tryd.underlying46 (Tryd.sizeOf121 _) hx3 (lw_op0 Z Z (ow_storeElRow (X := No) (R := (RSliceU Y RSpan)) (S := (RSliceU Y RSpan)) Z Z Z Z hr2 (orow_blk hr2 hx3) hx3 (FldSet.whole (RSliceU Y RSpan)) (Tryd.sizeOf121 _) hv5 (Nat.le_refl _) hC3 fun w4 ho1 hb4 hl4 hC4 => lw_nil (ew_blockN (ew_then (cw_region (lw_op Z Z Z (ow_move Z Z (lw_op Z Z Z (ow_add Z Z Z (lw_op Z Z Z (ow_assign Z Z (lw_nil ?_)))))))))))))
   have lz1 := ((hl2.trans hl3).trans hl4)
   exact ew_nxt ((W (k1 + 1)), (List.set y1 (k1 : Int).toNat x2)) hb2 fun a ha => ⟨M2, (ha.sub ⟨Z, Z, Z, Zt⟩), lz1, hC4, ho1⟩
  ·
   obtain rfl := hbb1.trans hc1
   exact cw_false Z (cw_exit (ew_thenX (ew_thenX (ew_blockX (ew_brk (k1, y1) hb2 fun a ha => ⟨M2, (ha.sub ⟨Z, Z, Z, Zt⟩), hl2, hC2, hw1⟩)))))
 ·
  rintro ⟨k2, y2⟩ a w5 hlr2 ⟨M3, hF2, hl5, hC5, hw2⟩
  subst hlr2
  refine ew_at (E := [(0, v0p), (3, v1), (4, (Zv k2))]) hF2 (ew_then (cw_seq (cw_region (lw_op Z Z Z (ow_move Z Z (lw_op Z Z Z (ow_assign Z Z (lw_nil (ew_then (cw_ret ?_))))))))))
  obtain rfl := sj h
  exact ew_ret (res1 Z (.tmp Z)) ⟨_, Z, (hw2.freezeBackU hC5 hO hY), hC5.bx⟩

theorem wu_laws_toBox {w : World} {M : Nat → Prop} (hG : ARep (RArr 4 RShape) w M shapes ⟨0, 0, none⟩) (hO : ∀ b, M b → b < w.heap.size) {Y : Nat → Prop} (hY : ∀ b, w.heap.size ≤ b → Y b) {v0p : Value} {a_a : Box} (h0 : VRep RBox w M a_a v0p) {r : Box} (h : F.laws_toBox a_a = some r) :
  Calls Tryd.prog 23 [v0p].toArray w fun e w' => ∃ v, e = .returned v ∧ VRep (RBoxU Y) w' M r v ∧ BX No w w' := by
 have hC : Cx No w M w M := Cx.start hO (fun _ e => e.elim)
 refine walk (N := 9) Tryd.func23 Z Tryd.ntmps23 Z (cw_seq (cw_region (lw_op Z Z Z (ow_box (R := RBox) Z Z h0 hC fun p1 w1 hp1 hb1 hl1 hC1 => lw_op Z Z Z (ow_alloc Z (Tryd.zeroValue48 _) hC1 fun g1 w2 hg1 hg2 ho1 hb2 hl2 hC2 => ?_)))))
 have hm1 : (Add g1 M) g1 := .inl Z
 refine lw_nil (ew_then (cw_seq (cw_region (lw_op Z Z Z (ow_alloc Z (Tryd.zeroValue48 _) hC2 fun g2 w3 hg3 hg4 ho2 hb3 hl3 hC3 => ?_)))))
 have hn1 := Nat.ne_of_lt (Nat.lt_of_lt_of_le ho1.lt hg3)
 have ho3 := ho1.no hb3
 have hm2 : (Add g2 (Add g1 M)) g1 := .inr hm1
 have hm3 : (Add g2 (Add g1 M)) g2 := .inl Z
 refine lw_nil (ew_then (cw_seq (cw_region (lw_op Z Z Z (ow_fieldAddr Z Z Tryd.underlying42 Z (Tryd.sizeOf40 _) (lw_op Z Z Z (ow_load (R := (RSlice (RSlice RSpan))) Z Z (ARep.mono (hl2.trans hl3) (hp1.fld fld_Box_Sides)) (Tryd.sizeOf40 _) (Tryd.isAgg40 _) fun v1 hv1 => ?_)))))))
 replace h := bind_some h
 obtain ⟨x1, hx1, h⟩ := h
 have lz1 := ((hl1.trans hl2).trans hl3)
 refine lw_op Z Z Z (ow_call Z Z Tryd.call89 (wu_laws_toSpanSS (hG.mono lz1) hC3.old (fun b hb => hY b (Nat.le_trans hC3.bx.size hb)) hv1 hx1) fun v2 w4 hv2 => ?_)
 obtain ⟨hv2, hb4⟩ := hv2
 have hC4 := hC3.no hb4
 have ho4 := ho3.no hb4
 have ho5 := ho2.no hb4
 refine lw_op Z Z Z (ow_fieldAddr Z Z Tryd.underlying48 Z (Tryd.sizeOf46 _) ?_)
 obtain ⟨A1, c1, rfl, -⟩ := vsliceU_shape hv2
 refine lw_op0 Z Z (ow_store (X := No) (us := [(.slice A1 x1.length c1)]) (cs' := #[(.slice A1 x1.length c1)]) Z Z Z Z ho5 (Tryd.sizeOf46 _) Z Z Z Z hm3 (.inl hg4) Z hC4 fun w5 ho6 hb5 hl5 hC5 => ?_)
 have ho7 := ho4.go hb5 (fun e => hn1 e)
 refine lw_nil (ew_then (cw_seq (cw_region (lw_op Z Z Z (ow_loadOwnA Z Z Z ho6 (Tryd.isAgg48 _) (Tryd.sizeOf48 _) Z (lw_op0 Z Z (ow_store (X := No) (us := [(.slice A1 x1.length c1)]) (cs' := #[(.slice A1 x1.length c1)]) Z Z Z Z ho7 (Tryd.sizeOf48 _) Z Z Z Z hm2 (.inl hg2) Z hC5 fun w6 ho8 hb6 hl6 hC6 => lw_nil (ew_then (cw_ret ?_)))))))))
 have hw2 : VRep (RBoxU Y) w6 (Add g2 (Add g1 M)) ({ Sides := x1 } : Box) (.agg #[(.slice A1 x1.length c1)]) := shutU_Box (VRep.mono (hl5.trans hl6) hv2)
 obtain rfl := sj h
 exact ew_ret (res1 Z (.cell Z (own_loadVarA ho8 (Tryd.isAgg48 _) (Tryd.sizeOf48 _) Z))) ⟨_, Z, (hw2.mono hC6.back), hC6.bx⟩

theorem w_laws_eqSpan {w : World} {M : Nat → Prop} (_hG : ARep (RArr 4 RShape) w M shapes ⟨0, 0, none⟩) (hO : ∀ b, M b → b < w.heap.size) {v0p : Value} {a_a : Span} (h0 : VRep RSpan w M a_a v0p) {v1p : Value} {a_b : Span} (h1 : VRep RSpan w M a_b v1p) {r : Bool} (h : F.laws_eqSpan a_a a_b = some r) :
  Calls Tryd.prog 180 [v0p, v1p].toArray w fun e w' => ∃ v, e = .returned v ∧ VRep RBool w' M r v ∧ BX No w w' := by
 have hC : Cx No w M w M := Cx.start hO (fun _ e => e.elim)
 clear _hG
 refine walk (N := 15) Tryd.func180 Z Tryd.ntmps180 Z (cw_seq (cw_region (lw_op Z Z Z (ow_box (R := RSpan) Z Z h0 hC fun p1 w1 hp1 hb1 hl1 hC1 => lw_op Z Z Z (ow_box (R := RSpan) Z Z (VRep.mono hl1 h1) hC1 fun p2 w2 hp2 hb2 hl2 hC2 => lw_op Z Z Z (ow_assign Z Z (lw_nil (ew_then (cw_seq (cw_seq (cw_region (lw_op Z Z Z (ow_fieldAddr Z Z Tryd.underlying120 Z (Tryd.sizeOf3 _) (lw_op Z Z Z (ow_load (R := RInt) Z Z (ARep.mono hl2 (hp1.fld fld_Span_Lo)) (Tryd.sizeOf3 _) (Tryd.isAgg3 _) fun v1 hv1 => ?_)))))))))))))))
 obtain rfl := vint_eq hv1
 refine lw_op Z Z Z (ow_fieldAddr Z Z Tryd.underlying120 Z (Tryd.sizeOf3 _) (lw_op Z Z Z (ow_load (R := RInt) Z Z (hp2.fld fld_Span_Lo) (Tryd.sizeOf3 _) (Tryd.isAgg3 _) fun v2 hv2 => ?_)))
 obtain rfl := vint_eq hv2
 refine lw_op Z Z Z (ow_neqI Z Z Z fun bb1 hbb1 => lw_nil (ew_then ?_))
 replace h := cond_some h
 rcases h with ⟨hc1, h⟩ | ⟨hc1, h⟩
 ·
  obtain rfl := hbb1.trans hc1
  refine cw_true Z (cw_seq (cw_region (lw_op Z Z Z (ow_assign Z Z (lw_nil (ew_then (cw_ret (ew_thenR ?_))))))))
  obtain rfl := sj h
  exact ew_ret (res1 Z (.tmp Z)) ⟨_, Z, ((vbool _)), hC2.bx⟩
 ·
  obtain rfl := hbb1.trans hc1
  refine cw_false Z (cw_skip (ew_then (cw_seq (cw_seq (cw_region (lw_op Z Z Z (ow_fieldAddr Z Z Tryd.underlying120 Z (Tryd.sizeOf3 _) (lw_op Z Z Z (ow_load (R := RInt) Z Z (ARep.mono hl2 (hp1.fld fld_Span_Hi)) (Tryd.sizeOf3 _) (Tryd.isAgg3 _) fun v3 hv3 => ?_)))))))))
  obtain rfl := vint_eq hv3
  refine lw_op Z Z Z (ow_fieldAddr Z Z Tryd.underlying120 Z (Tryd.sizeOf3 _) (lw_op Z Z Z (ow_load (R := RInt) Z Z (hp2.fld fld_Span_Hi) (Tryd.sizeOf3 _) (Tryd.isAgg3 _) fun v4 hv4 => ?_)))
  obtain rfl := vint_eq hv4
  refine lw_op Z Z Z (ow_neqI Z Z Z fun bb2 hbb2 => lw_nil (ew_then ?_))
  replace h := cond_some h
  rcases h with ⟨hc2, h⟩ | ⟨hc2, h⟩
  ·
   obtain rfl := hbb2.trans hc2
   refine cw_true Z (cw_seq (cw_region (lw_op Z Z Z (ow_assign Z Z (lw_nil (ew_then (cw_ret (ew_thenR ?_))))))))
   obtain rfl := sj h
   exact ew_ret (res1 Z (.tmp Z)) ⟨_, Z, ((vbool _)), hC2.bx⟩
  ·
   obtain rfl := hbb2.trans hc2
   refine cw_false Z (cw_skip (ew_then (cw_seq (cw_region (lw_op Z Z Z (ow_assign Z Z (lw_nil (ew_then (cw_ret ?_)))))))))
   obtain rfl := sj h
   exact ew_ret (res1 Z (.tmp Z)) ⟨_, Z, ((vbool _)), hC2.bx⟩

theorem w_laws_eqSpanS {w : World} {M : Nat → Prop} (hG : ARep (RArr 4 RShape) w M shapes ⟨0, 0, none⟩) (hO : ∀ b, M b → b < w.heap.size) {v0p : Value} {a_a : List Span} (h0 : VRep (RSlice RSpan) w M a_a v0p) {v1p : Value} {a_b : List Span} (h1 : VRep (RSlice RSpan) w M a_b v1p) {r : Bool} (h : F.laws_eqSpanS a_a a_b = some r) :
  Calls Tryd.prog 152 [v0p, v1p].toArray w fun e w' => ∃ v, e = .returned v ∧ VRep RBool w' M r v ∧ BX No w w' := by
 have hC : Cx No w M w M := Cx.start hO (fun _ e => e.elim)
 refine walk (N := 27) Tryd.func152 Z Tryd.ntmps152 Z (cw_seq (cw_region (lw_op Z Z Z (ow_assign Z Z (lw_nil (ew_then (cw_seq (cw_seq (cw_region (lw_op Z Z Z (ow_move Z Z (lw_op Z Z Z (ow_len Z Z h0 Tryd.underlying121 Z (lw_op Z Z Z (ow_move Z Z (lw_op Z Z Z (ow_len Z Z h1 Tryd.underlying121 Z (lw_op Z Z Z (ow_neqI Z Z Z fun bb1 hbb1 => lw_nil (ew_then ?_))))))))))))))))))))
 replace h := cond_some h
 rcases h with ⟨hc1, h⟩ | ⟨hc1, h⟩
 ·
  obtain rfl := hbb1.trans hc1
  refine cw_true Z (cw_seq (cw_region (lw_op Z Z Z (ow_assign Z Z (lw_nil (ew_then (cw_ret (ew_thenR ?_))))))))
  obtain rfl := sj h
  exact ew_ret (res1 Z (.tmp Z)) ⟨_, Z, ((vbool _)), hC.bx⟩
 ·
  obtain rfl := hbb1.trans hc1
  refine cw_false Z (cw_skip (ew_then (cw_seq (cw_seq (cw_region (lw_op Z Z Z (ow_assign Z Z (lw_nil (ew_then ?_)))))))))
  replace h := bind_some h
  obtain ⟨lr1, hlr1, h⟩ := h
  refine cw_for hlr1 (fun s a w' => ∃ (M' : Nat → Prop), Fits 27 [(0, v0p), (1, v1p), (5, (Zv s))] a ∧ Le w M w' M' ∧ Cx No w M w' M') ?_ ?_ ?_
  · exact fun a ha => ⟨M, ha.sub ⟨Z, Z, Z, Zt⟩, Le.refl _ _, hC⟩
  ·
   rintro k1 a w1 sr1 ⟨M1, hF1, hl1, hC1⟩ hb1 hR1
   refine cw_at (E := [(0, v0p), (1, v1p), (5, (Zv k1))]) hF1 (cw_seq (cw_seq (cw_region (lw_op Z Z Z (ow_move Z Z (lw_op Z Z Z (ow_move Z Z (lw_op Z Z Z (ow_len Z Z (VRep.mono hl1 h0) Tryd.underlying121 Z (lw_op Z Z Z (ow_lss Z Z Z fun bb2 hbb2 => lw_nil (ew_then ?_))))))))))))
   replace hb1 := cond_some hb1
   rcases hb1 with ⟨hc2, hb1⟩ | ⟨hc2, hb1⟩
   ·
    obtain rfl := hbb2.trans hc2
    refine cw_true Z (cw_skip (ew_then (cw_seq (cw_block (cw_seq ?_)))))
    replace hb1 := bind_some hb1
    obtain ⟨x1, hx1, hb1⟩ := hb1
    replace hb1 := bind_some hb1
    obtain ⟨x2, hx2, hb1⟩ := hb1
    refine cw_sub (E' := [(0, v0p), (1, v1p), (5, (Zv k1))]) ⟨Z, Z, Z, Zt⟩ (cw_drawQ 8 [PV (RSlice RSpan) M1 a_a, PEq (Zv k1), PA RSpan M1 x1, PV RSpan M1 x1, PV (RSlice RSpan) M1 a_b, PEq (Zv k1), PA RSpan M1 x2, PV RSpan M1 x2] (by kernel_rfl) Z (by kernel_rfl) ⟨PV.mono _ _ _, Zq, PA.mono _ _ _, PV.mono _ _ _, PV.mono _ _ _, Zq, PA.mono _ _ _, PV.mono _ _ _, Zt⟩ ⟨?_, ?_, ?_, ?_, ?_, ?_, ?_, ?_, Zt⟩ ?_)
    ·
     intro w2 D hS1 hd1
     have hl2 := Le.no M1 hS1
     exact dg_sub (E' := [(0, v0p)]) ⟨Z, Zt⟩ (dg_plain Z (ow_move Z Z ⟨BX.refl _ _, (VRep.mono (hl1.trans hl2) h0)⟩))
    · exact fun w3 D hS2 hd2 => dg_sub (E' := [(5, (Zv k1))]) ⟨Z, Zt⟩ (dg_plain Z (ow_move Z Z Zb))
    ·
     intro w4 D hS3 hd3
     have d1 : PV (RSlice RSpan) M1 a_a (D 0) w4 := dpA hd3 0 Z
     generalize hq1 : (D 0) = v4 at d1
     exact dg_sub (E' := [(17, v4), (18, (Zv k1))]) ⟨congrArg some hq1, dpE hd3 1 Z Z, Zt⟩ (dg_plain Z (ow_indexSlice (R := RSpan) Z Z Z d1 Tryd.underlying121 (Tryd.sizeOf120 _) hx1 fun p3 hp3 => ⟨BX.refl _ _, ⟨_, Z, hp3⟩⟩))
    ·
     intro w5 D hS4 hd4
     have d3 : PA RSpan M1 x1 (D 2) w5 := dpA hd4 2 Z
     obtain ⟨p4, e1, ha1⟩ := d3
     exact dg_sub (E' := [(19, (.pointer (some p4)))]) ⟨congrArg some e1, Zt⟩ (dg_plain Z (ow_load (R := RSpan) Z Z ha1 (Tryd.sizeOf120 _) (Tryd.isAgg120 _) fun v5 hv5 => ⟨BX.refl _ _, hv5⟩))
    ·
     intro w6 D hS5 hd5
     have hl6 := Le.no M1 hS5
     exact dg_sub (E' := [(1, v1p)]) ⟨Z, Zt⟩ (dg_plain Z (ow_move Z Z ⟨BX.refl _ _, (VRep.mono (hl1.trans hl6) h1)⟩))
    · exact fun w7 D hS6 hd6 => dg_sub (E' := [(5, (Zv k1))]) ⟨Z, Zt⟩ (dg_plain Z (ow_move Z Z Zb))
    ·
     intro w8 D hS7 hd7
     have d4 : PV (RSlice RSpan) M1 a_b (D 4) w8 := dpA hd7 4 Z
     generalize hq2 : (D 4) = v6 at d4
     exact dg_sub (E' := [(21, v6), (22, (Zv k1))]) ⟨congrArg some hq2, dpE hd7 5 Z Z, Zt⟩ (dg_plain Z (ow_indexSlice (R := RSpan) Z Z Z d4 Tryd.underlying121 (Tryd.sizeOf120 _) hx2 fun p5 hp5 => ⟨BX.refl _ _, ⟨_, Z, hp5⟩⟩))
    ·
     intro w9 D hS8 hd8
     have d6 : PA RSpan M1 x2 (D 6) w9 := dpA hd8 6 Z
     obtain ⟨p6, e2, ha2⟩ := d6
     exact dg_sub (E' := [(23, (.pointer (some p6)))]) ⟨congrArg some e2, Zt⟩ (dg_plain Z (ow_load (R := RSpan) Z Z ha2 (Tryd.sizeOf120 _) (Tryd.isAgg120 _) fun v7 hv7 => ⟨BX.refl _ _, hv7⟩))
    ·
     intro w10 D hS9 hd9
     have d10 : PV RSpan M1 x1 (D 3) w10 := dpA hd9 3 Z
     have d14 : PV RSpan M1 x2 (D 7) w10 := dpA hd9 7 Z
     have hl10 := Le.no M1 hS9
     have hC10 := hC1.no hS9
     generalize hq3 : (D 3) = v8 at d10
     generalize hq4 : (D 7) = v9 at d14
     refine lw_sub (E' := [(20, v8), (24, v9), (0, v0p), (1, v1p), (5, (Zv k1))]) ⟨congrArg some hq3, congrArg some hq4, Z, Z, Z, Zt⟩ ?_
     replace hb1 := bind_some hb1
     obtain ⟨x3, hx3, hb1⟩ := hb1
     refine lw_op Z Z Z (ow_call Z Z Tryd.call180 (w_laws_eqSpan (hG.mono (hl1.trans hl10)) hC10.old d10 d14 hx3) fun v10 w11 hv10 => ?_)
     obtain ⟨hv10, hb2⟩ := hv10
     have hl11 := Le.no M1 hb2
     have hC11 := hC10.no hb2
     obtain rfl := vbool_eq hv10
     refine lw_op Z Z Z (ow_not Z Z (lw_nil (ew_then ?_)))
     replace hb1 := cond_some hb1
     rcases hb1 with ⟨hc3, hb1⟩ | ⟨hc3, hb1⟩
     ·
      subst hc3
      refine cw_false Z (cw_skip (ew_blockN (ew_then (cw_region (lw_op Z Z Z (ow_move Z Z (lw_op Z Z Z (ow_add Z Z Z (lw_op Z Z Z (ow_assign Z Z (lw_nil ?_)))))))))))
      have lz1 := ((hl1.trans hl10).trans hl11)
      exact ew_nxt (W (k1 + 1)) hb1 fun a ha => ⟨M1, (ha.sub ⟨Z, Z, Z, Zt⟩), lz1, hC11⟩
     ·
      subst hc3
      refine cw_true Z (cw_seq (cw_region (lw_op Z Z Z (ow_assign Z Z (lw_nil (ew_then (cw_ret (ew_blockR (ew_thenR (ew_thenR (ew_blockR (ew_brkR (ew_thenR ?_)))))))))))))
      have e3 := hR1 _ (sj hb1).symm
      subst e3
      obtain rfl := sj h
      exact ew_ret (res1 Z (.tmp Z)) ⟨_, Z, ((vbool _)), hC11.bx⟩
   ·
    obtain rfl := hbb2.trans hc2
    exact cw_false Z (cw_exit (ew_thenX (ew_thenX (ew_blockX (ew_brk k1 hb1 fun a ha => ⟨M1, (ha.sub ⟨Z, Z, Z, Zt⟩), hl1, hC1⟩)))))
  ·
   rintro k2 a w12 hlr2 ⟨M2, hF2, hl12, hC12⟩
   subst hlr2
   refine ew_at (E := [(0, v0p), (1, v1p), (5, (Zv k2))]) hF2 (ew_then (cw_seq (cw_region (lw_op Z Z Z (ow_assign Z Z (lw_nil (ew_then (cw_ret ?_))))))))
   obtain rfl := sj h
   exact ew_ret (res1 Z (.tmp Z)) ⟨_, Z, ((vbool _)), hC12.bx⟩

theorem w_laws_eqSpanSS {w : World} {M : Nat → Prop} (hG : ARep (RArr 4 RShape) w M shapes ⟨0, 0, none⟩) (hO : ∀ b, M b → b < w.heap.size) {v0p : Value} {a_a : List (List Span)} (h0 : VRep (RSlice (RSlice RSpan)) w M a_a v0p) {v1p : Value} {a_b : List (List Span)} (h1 : VRep (RSlice (RSlice RSpan)) w M a_b v1p) {r : Bool} (h : F.laws_eqSpanSS a_a a_b = some r) :
  Calls Tryd.prog 94 [v0p, v1p].toArray w fun e w' => ∃ v, e = .returned v ∧ VRep RBool w' M r v ∧ BX No w w' := by
 have hC : Cx No w M w M := Cx.start hO (fun _ e => e.elim)
 refine walk (N := 27) Tryd.func94 Z Tryd.ntmps94 Z (cw_seq (cw_region (lw_op Z Z Z (ow_assign Z Z (lw_nil (ew_then (cw_seq (cw_seq (cw_region (lw_op Z Z Z (ow_move Z Z (lw_op Z Z Z (ow_len Z Z h0 Tryd.underlying46 Z (lw_op Z Z Z (ow_move Z Z (lw_op Z Z Z (ow_len Z Z h1 Tryd.underlying46 Z (lw_op Z Z Z (ow_neqI Z Z Z fun bb1 hbb1 => lw_nil (ew_then ?_))))))))))))))))))))
 replace h := cond_some h
 rcases h with ⟨hc1, h⟩ | ⟨hc1, h⟩
 ·
  obtain rfl := hbb1.trans hc1
  refine cw_true Z (cw_seq (cw_region (lw_op Z Z Z (ow_assign Z Z (lw_nil (ew_then (cw_ret (ew_thenR ?_))))))))
  obtain rfl := sj h
  exact ew_ret (res1 Z (.tmp Z)) ⟨_, Z, ((vbool _)), hC.bx⟩
 ·
  obtain rfl := hbb1.trans hc1
  refine cw_false Z (cw_skip (ew_then (cw_seq (cw_seq (cw_region (lw_op Z Z Z (ow_assign Z Z (lw_nil (ew_then ?_)))))))))
  replace h := bind_some h
  obtain ⟨lr1, hlr1, h⟩ := h
  refine cw_for hlr1 (fun s a w' => ∃ (M' : Nat → Prop), Fits 27 [(0, v0p), (1, v1p), (5, (Zv s))] a ∧ Le w M w' M' ∧ Cx No w M w' M') ?_ ?_ ?_
  · exact fun a ha => ⟨M, ha.sub ⟨Z, Z, Z, Zt⟩, Le.refl _ _, hC⟩
  ·
   rintro k1 a w1 sr1 ⟨M1, hF1, hl1, hC1⟩ hb1 hR1
   refine cw_at (E := [(0, v0p), (1, v1p), (5, (Zv k1))]) hF1 (cw_seq (cw_seq (cw_region (lw_op Z Z Z (ow_move Z Z (lw_op Z Z Z (ow_move Z Z (lw_op Z Z Z (ow_len Z Z (VRep.mono hl1 h0) Tryd.underlying46 Z (lw_op Z Z Z (ow_lss Z Z Z fun bb2 hbb2 => lw_nil (ew_then ?_))))))))))))
   replace hb1 := cond_some hb1
   rcases hb1 with ⟨hc2, hb1⟩ | ⟨hc2, hb1⟩
   ·
    obtain rfl := hbb2.trans hc2
    refine cw_true Z (cw_skip (ew_then (cw_seq (cw_block (cw_seq ?_)))))
    replace hb1 := bind_some hb1
    obtain ⟨x1, hx1, hb1⟩ := hb1
    replace hb1 := bind_some hb1
    obtain ⟨x2, hx2, hb1⟩ := hb1
    refine cw_sub (E' := [(0, v0p), (1, v1p), (5, (Zv k1))]) ⟨Z, Z, Z, Zt⟩ (cw_drawQ 8 [PV (RSlice (RSlice RSpan)) M1 a_a, PEq (Zv k1), PA (RSlice RSpan) M1 x1, PV (RSlice RSpan) M1 x1, PV (RSlice (RSlice RSpan)) M1 a_b, PEq (Zv k1), PA (RSlice RSpan) M1 x2, PV (RSlice RSpan) M1 x2] (by kernel_rfl) Z (by kernel_rfl) ⟨PV.mono _ _ _, Zq, PA.mono _ _ _, PV.mono _ _ _, PV.mono _ _ _, Zq, PA.mono _ _ _, PV.mono _ _ _, Zt⟩ ⟨?_, ?_, ?_, ?_, ?_, ?_, ?_, ?_, Zt⟩ ?_)
    ·
     intro w2 D hS1 hd1
     have hl2 := Le.no M1 hS1
     exact dg_sub (E' := [(0, v0p)]) ⟨Z, Zt⟩ (dg_plain Z (ow_move Z Z ⟨BX.refl _ _, (VRep.mono (hl1.trans hl2) h0)⟩))
    · exact fun w3 D hS2 hd2 => dg_sub (E' := [(5, (Zv k1))]) ⟨Z, Zt⟩ (dg_plain Z (ow_move Z Z Zb))
    ·
     intro w4 D hS3 hd3
     have d1 : PV (RSlice (RSlice RSpan)) M1 a_a (D 0) w4 := dpA hd3 0 Z
     generalize hq1 : (D 0) = v4 at d1
     exact dg_sub (E' := [(17, v4), (18, (Zv k1))]) ⟨congrArg some hq1, dpE hd3 1 Z Z, Zt⟩ (dg_plain Z (ow_indexSlice (R := (RSlice RSpan)) Z Z Z d1 Tryd.underlying46 (Tryd.sizeOf121 _) hx1 fun p3 hp3 => ⟨BX.refl _ _, ⟨_, Z, hp3⟩⟩))
    ·
     intro w5 D hS4 hd4
     have d3 : PA (RSlice RSpan) M1 x1 (D 2) w5 := dpA hd4 2 Z
     obtain ⟨p4, e1, ha1⟩ := d3
     exact dg_sub (E' := [(19, (.pointer (some p4)))]) ⟨congrArg some e1, Zt⟩ (dg_plain Z (ow_load (R := (RSlice RSpan)) Z Z ha1 (Tryd.sizeOf121 _) (Tryd.isAgg121 _) fun v5 hv5 => ⟨BX.refl _ _, hv5⟩))
    ·
     intro w6 D hS5 hd5
     have hl6 := Le.no M1 hS5
     exact dg_sub (E' := [(1, v1p)]) ⟨Z, Zt⟩ (dg_plain Z (ow_move Z Z ⟨BX.refl _ _, (VRep.mono (hl1.trans hl6) h1)⟩))
    · exact fun w7 D hS6 hd6 => dg_sub (E' := [(5, (Zv k1))]) ⟨Z, Zt⟩ (dg_plain Z (ow_move Z Z Zb))
    ·
     intro w8 D hS7 hd7
     have d4 : PV (RSlice (RSlice RSpan)) M1 a_b (D 4) w8 := dpA hd7 4 Z
     generalize hq2 : (D 4) = v6 at d4
     exact dg_sub (E' := [(21, v6), (22, (Zv k1))]) ⟨congrArg some hq2, dpE hd7 5 Z Z, Zt⟩ (dg_plain Z (ow_indexSlice (R := (RSlice RSpan)) Z Z Z d4 Tryd.underlying46 (Tryd.sizeOf121 _) hx2 fun p5 hp5 => ⟨BX.refl _ _, ⟨_, Z, hp5⟩⟩))
    ·
     intro w9 D hS8 hd8
     have d6 : PA (RSlice RSpan) M1 x2 (D 6) w9 := dpA hd8 6 Z
     obtain ⟨p6, e2, ha2⟩ := d6
     exact dg_sub (E' := [(23, (.pointer (some p6)))]) ⟨congrArg some e2, Zt⟩ (dg_plain Z (ow_load (R := (RSlice RSpan)) Z Z ha2 (Tryd.sizeOf121 _) (Tryd.isAgg121 _) fun v7 hv7 => ⟨BX.refl _ _, hv7⟩))
    ·
     intro w10 D hS9 hd9
     have d10 : PV (RSlice RSpan) M1 x1 (D 3) w10 := dpA hd9 3 Z
     have d14 : PV (RSlice RSpan) M1 x2 (D 7) w10 := dpA hd9 7 Z
     have hl10 := Le.no M1 hS9
     have hC10 := hC1.no hS9
     generalize hq3 : (D 3) = v8 at d10
     generalize hq4 : (D 7) = v9 at d14
     refine lw_sub (E' := [(20, v8), (24, v9), (0, v0p), (1, v1p), (5, (Zv k1))]) ⟨congrArg some hq3, congrArg some hq4, Z, Z, Z, Zt⟩ ?_
     replace hb1 := bind_some hb1
     obtain ⟨x3, hx3, hb1⟩ := hb1
     refine lw_op Z Z Z (ow_call Z Z Tryd.call152 (w_laws_eqSpanS (hG.mono (hl1.trans hl10)) hC10.old d10 d14 hx3) fun v10 w11 hv10 => ?_)
     obtain ⟨hv10, hb2⟩ := hv10
     have hl11 := Le.no M1 hb2
     have hC11 := hC10.no hb2
     obtain rfl := vbool_eq hv10
     refine lw_op Z Z Z (ow_not Z Z (lw_nil (ew_then ?_)))
     replace hb1 := cond_some hb1
     rcases hb1 with ⟨hc3, hb1⟩ | ⟨hc3, hb1⟩
     ·
      subst hc3
      refine cw_false Z (cw_skip (ew_blockN (ew_then (cw_region (lw_op Z Z Z (ow_move Z Z (lw_op Z Z Z (ow_add Z Z Z (lw_op Z Z Z (ow_assign Z Z (lw_nil ?_)))))))))))
      have lz1 := ((hl1.trans hl10).trans hl11)
      exact ew_nxt (W (k1 + 1)) hb1 fun a ha => ⟨M1, (ha.sub ⟨Z, Z, Z, Zt⟩), lz1, hC11⟩
     ·
      subst hc3
      refine cw_true Z (cw_seq (cw_region (lw_op Z Z Z (ow_assign Z Z (lw_nil (ew_then (cw_ret (ew_blockR (ew_thenR (ew_thenR (ew_blockR (ew_brkR (ew_thenR ?_)))))))))))))
      have e3 := hR1 _ (sj hb1).symm
      subst e3
      obtain rfl := sj h
      exact ew_ret (res1 Z (.tmp Z)) ⟨_, Z, ((vbool _)), hC11.bx⟩
   ·
    obtain rfl := hbb2.trans hc2
    exact cw_false Z (cw_exit (ew_thenX (ew_thenX (ew_blockX (ew_brk k1 hb1 fun a ha => ⟨M1, (ha.sub ⟨Z, Z, Z, Zt⟩), hl1, hC1⟩)))))
  ·
   rintro k2 a w12 hlr2 ⟨M2, hF2, hl12, hC12⟩
   subst hlr2
   refine ew_at (E := [(0, v0p), (1, v1p), (5, (Zv k2))]) hF2 (ew_then (cw_seq (cw_region (lw_op Z Z Z (ow_assign Z Z (lw_nil (ew_then (cw_ret ?_))))))))
   obtain rfl := sj h
   exact ew_ret (res1 Z (.tmp Z)) ⟨_, Z, ((vbool _)), hC12.bx⟩

theorem w_laws_eqBox {w : World} {M : Nat → Prop} (hG : ARep (RArr 4 RShape) w M shapes ⟨0, 0, none⟩) (hO : ∀ b, M b → b < w.heap.size) {v0p : Value} {a_a : Box} (h0 : VRep RBox w M a_a v0p) {v1p : Value} {a_b : Box} (h1 : VRep RBox w M a_b v1p) {r : Bool} (h : F.laws_eqBox a_a a_b = some r) :
  Calls Tryd.prog 26 [v0p, v1p].toArray w fun e w' => ∃ v, e = .returned v ∧ VRep RBool w' M r v ∧ BX No w w' := by
 have hC : Cx No w M w M := Cx.start hO (fun _ e => e.elim)
 refine walk (N := 11) Tryd.func26 Z Tryd.ntmps26 Z (cw_seq (cw_region (lw_op Z Z Z (ow_box (R := RBox) Z Z h0 hC fun p1 w1 hp1 hb1 hl1 hC1 => lw_op Z Z Z (ow_box (R := RBox) Z Z (VRep.mono hl1 h1) hC1 fun p2 w2 hp2 hb2 hl2 hC2 => lw_op Z Z Z (ow_assign Z Z (lw_nil (ew_then (cw_seq (cw_seq (cw_region (lw_op Z Z Z (ow_fieldAddr Z Z Tryd.underlying48 Z (Tryd.sizeOf46 _) (lw_op Z Z Z (ow_load (R := (RSlice (RSlice RSpan))) Z Z (ARep.mono hl2 (hp1.fld fld_Box_Sides)) (Tryd.sizeOf46 _) (Tryd.isAgg46 _) fun v1 hv1 => lw_op Z Z Z (ow_fieldAddr Z Z Tryd.underlying48 Z (Tryd.sizeOf46 _) (lw_op Z Z Z (ow_load (R := (RSlice (RSlice RSpan))) Z Z (hp2.fld fld_Box_Sides) (Tryd.sizeOf46 _) (Tryd.isAgg46 _) fun v2 hv2 => ?_))))))))))))))))))
 replace h := bind_some h
 obtain ⟨x1, hx1, h⟩ := h
 refine lw_op Z Z Z (ow_call Z Z Tryd.call94 (w_laws_eqSpanSS (hG.mono (hl1.trans hl2)) hC2.old hv1 hv2 hx1) fun v3 w3 hv3 => ?_)
 obtain ⟨hv3, hb3⟩ := hv3
 have hC3 := hC2.no hb3
 obtain rfl := vbool_eq hv3
 refine lw_op Z Z Z (ow_not Z Z (lw_nil (ew_then ?_)))
 replace h := cond_some h
 rcases h with ⟨hc1, h⟩ | ⟨hc1, h⟩
 ·
  subst hc1
  refine cw_false Z (cw_skip (ew_then (cw_seq (cw_region (lw_op Z Z Z (ow_assign Z Z (lw_nil (ew_then (cw_ret ?_)))))))))
  obtain rfl := sj h
  exact ew_ret (res1 Z (.tmp Z)) ⟨_, Z, ((vbool _)), hC3.bx⟩
 ·
  subst hc1
  refine cw_true Z (cw_seq (cw_region (lw_op Z Z Z (ow_assign Z Z (lw_nil (ew_then (cw_ret (ew_thenR ?_))))))))
  obtain rfl := sj h
  exact ew_ret (res1 Z (.tmp Z)) ⟨_, Z, ((vbool _)), hC3.bx⟩

theorem wm_laws_markSpanS {Y : Nat → Prop} {w : World} (hU : UFz Y w) {v0p : Value} {a_a : List Span} (h0 : VRep (RSlice RSpanA) w (NotY Y) a_a v0p) {a_k : Int} {r : Int} (h : F.laws_markSpanS a_a a_k = some r) :
  Calls Tryd.prog 153 [v0p, (.int .i64 a_k)].toArray w fun e w' => ∃ v, e = .returned v ∧ v = .int .i64 r ∧ MK Y w w' := by
 have hO : ∀ b, Y b → b < w.heap.size := fun b h => (hU b h).1
 have hC : Cx Y w Y w Y := Cx.start hO (fun _ h => h)
 refine walk (N := 27) Tryd.func153 Z Tryd.ntmps153 Z (cw_seq (cw_region (lw_op Z Z Z (ow_assign Z Z (lw_nil (ew_then (cw_seq (cw_seq (cw_region (lw_op Z Z Z (ow_assign Z Z (lw_nil (ew_then ?_)))))))))))))
 replace h := bind_some h
 obtain ⟨lr1, hlr1, h⟩ := h
 refine cw_for hlr1 (fun s a w' => ∃ (M' : Nat → Prop), Fits 27 [(0, v0p), (1, (Zv s.1)), (5, (Zv s.2))] a ∧ Le w Y w' M' ∧ Cx Y w Y w' M' ∧ MK Y w w') ?_ ?_ ?_
 · exact fun a ha => ⟨Y, ha.sub ⟨Z, Z, Z, Zt⟩, Le.refl _ _, hC, (MK.refl _ _)⟩
 ·
  rintro ⟨k1, k2⟩ a w1 sr1 ⟨M1, hF1, hl1, hC1, hmk1⟩ hb1 hR1
  refine cw_at (E := [(0, v0p), (1, (Zv k1)), (5, (Zv k2))]) hF1 (cw_seq (cw_seq (cw_region (lw_op Z Z Z (ow_move Z Z (lw_op Z Z Z (ow_move Z Z (lw_op Z Z Z (ow_len Z Z (KnA.vrep (KnA.slice knA_Span) hmk1.kin h0) Tryd.underlying121 Z (lw_op Z Z Z (ow_lss Z Z Z fun bb1 hbb1 => lw_nil (ew_then ?_))))))))))))
  replace hb1 := cond_some hb1
  rcases hb1 with ⟨hc1, hb1⟩ | ⟨hc1, hb1⟩
  ·
   obtain rfl := hbb1.trans hc1
   refine cw_true Z (cw_skip (ew_then (cw_seq (cw_block (cw_seq (cw_region (lw_op Z Z Z (ow_move Z Z (lw_op Z Z Z (ow_move Z Z (lw_op Z Z Z (ow_move Z Z ?_))))))))))))
   replace hb1 := bind_some hb1
   obtain ⟨x1, hx1, hb1⟩ := hb1
   refine lw_op Z Z Z (ow_indexSlice (R := RSpanA) Z Z Z (KnA.vrep (KnA.slice knA_Span) hmk1.kin h0) Tryd.underlying121 (Tryd.sizeOf120 _) hx1 fun p1 hp1 => lw_op Z Z Z (ow_fieldAddr Z Z Tryd.underlying120 Z (Tryd.sizeOf3 _) (lw_op0 Z Z (ow_storeK (R := RIntA) Z Z Z (hp1.fld fldA_Span_Lo) Z kd_int Z Z (Tryd.sizeOf3 _) (hU.mk hmk1) fun w2 hmk2 => ?_))))
   have hl2 := Le.of_bx M1 hmk2.bx hC1.xm
   have hC2 := hC1.go hmk2.bx (fun b e => .inr e)
   refine lw_nil (ew_then (cw_seq (cw_region (lw_op Z Z Z (ow_move Z Z (lw_op Z Z Z (ow_add Z Z Z (lw_op Z Z Z (ow_assign Z Z (lw_nil (ew_then (cw_seq (cw_region (lw_op Z Z Z (ow_move Z Z (lw_op Z Z Z (ow_move Z Z (lw_op Z Z Z (ow_move Z Z (lw_op Z Z Z (ow_indexSlice (R := RSpanA) Z Z Z (KnA.vrep (KnA.slice knA_Span) (hmk1.trans hmk2).kin h0) Tryd.underlying121 (Tryd.sizeOf120 _) hx1 fun p2 hp2 => lw_op Z Z Z (ow_fieldAddr Z Z Tryd.underlying120 Z (Tryd.sizeOf3 _) (lw_op0 Z Z (ow_storeK (R := RIntA) Z Z Z (hp2.fld fldA_Span_Hi) Z kd_int Z Z (Tryd.sizeOf3 _) (hU.mk (hmk1.trans hmk2)) fun w3 hmk3 => ?_))))))))))))))))))))))))
   have hl3 := Le.of_bx M1 hmk3.bx hC2.xm
   have hC3 := hC2.go hmk3.bx (fun b e => .inr e)
   refine lw_nil (ew_then (cw_region (lw_op Z Z Z (ow_move Z Z (lw_op Z Z Z (ow_add Z Z Z (lw_op Z Z Z (ow_assign Z Z (lw_nil (ew_blockN (ew_then (cw_region (lw_op Z Z Z (ow_move Z Z (lw_op Z Z Z (ow_add Z Z Z (lw_op Z Z Z (ow_assign Z Z (lw_nil ?_)))))))))))))))))))
   have lz1 := ((hl1.trans hl2).trans hl3)
   exact ew_nxt ((W ((W (k1 + 1)) + 1)), (W (k2 + 1))) hb1 fun a ha => ⟨M1, (ha.sub ⟨Z, Z, Z, Zt⟩), lz1, hC3, ((hmk1.trans hmk2).trans hmk3)⟩
  ·
   obtain rfl := hbb1.trans hc1
   exact cw_false Z (cw_exit (ew_thenX (ew_thenX (ew_blockX (ew_brk (k1, k2) hb1 fun a ha => ⟨M1, (ha.sub ⟨Z, Z, Z, Zt⟩), hl1, hC1, hmk1⟩)))))
 ·
  rintro ⟨k3, k4⟩ a w4 hlr2 ⟨M2, hF2, hl4, hC4, hmk4⟩
  subst hlr2
  refine ew_at (E := [(0, v0p), (1, (Zv k3)), (5, (Zv k4))]) hF2 (ew_then (cw_seq (cw_region (lw_op Z Z Z (ow_move Z Z (lw_op Z Z Z (ow_assign Z Z (lw_nil (ew_then (cw_ret ?_))))))))))
  obtain rfl := sj h
  exact ew_ret (res1 Z (.tmp Z)) ⟨_, Z, Z, hmk4⟩

theorem wr_laws_markSpanS {w : World} {M : Nat → Prop} (hO : ∀ b, M b → b < w.heap.size) {B : Nat} {v0p : Value} {a_a : List Span} (h0 : OwnRow RSpan B 120 w M a_a v0p) {a_k : Int} {r : Int × (List Span)} (h : F.laws_markSpanS_r a_a a_k = some r) :
  Calls Tryd.prog 153 [v0p, (.int .i64 a_k)].toArray w fun e w' => ∃ v, e = .returned v ∧ VRep RInt w' M r.1 v ∧ ∃ M', OwnRow RSpan B 120 w' M' r.2 v0p ∧ Cx (fun b => v0p.ownBlock = some b) w M w' M' := by
 have hC : Cx (fun b => v0p.ownBlock = some b) w M w M := Cx.start hO (fun b e => h0.mem b e)
 refine walk (N := 27) Tryd.func153 Z Tryd.ntmps153 Z (cw_seq (cw_region (lw_op Z Z Z (ow_assign Z Z (lw_nil (ew_then (cw_seq (cw_seq (cw_region (lw_op Z Z Z (ow_assign Z Z (lw_nil (ew_then ?_)))))))))))))
 replace h := bind_some h
 obtain ⟨lr1, hlr1, h⟩ := h
 refine cw_for hlr1 (fun s a w' => ∃ (M' : Nat → Prop), Fits 27 [(0, v0p), (1, (Zv s.1)), (5, (Zv s.2.1))] a ∧ Le w M w' M' ∧ Cx (fun b => v0p.ownBlock = some b) w M w' M' ∧ OwnRow RSpan B 120 w' M' s.2.2 v0p ∧ (∀ b, (Value.ownBlock v0p) = some b → w.heap.size ≤ b ∨ (fun b => v0p.ownBlock = some b) b)) ?_ ?_ ?_
 · exact fun a ha => ⟨M, ha.sub ⟨Z, Z, Z, Zt⟩, Le.refl _ _, hC, h0, (fun b e => .inr e)⟩
 ·
  rintro ⟨k1, k2, y1⟩ a w1 sr1 ⟨M1, hF1, hl1, hC1, hw1, hge1⟩ hb1 hR1
  refine cw_at (E := [(0, v0p), (1, (Zv k1)), (5, (Zv k2))]) hF1 (cw_seq (cw_seq (cw_region (lw_op Z Z Z (ow_move Z Z (lw_op Z Z Z (ow_move Z Z (lw_op Z Z Z (ow_lenOwn Z Z hw1 Tryd.underlying121 (lw_op Z Z Z (ow_lss Z Z Z fun bb1 hbb1 => lw_nil (ew_then ?_))))))))))))
  replace hb1 := cond_some hb1
  rcases hb1 with ⟨hc1, hb1⟩ | ⟨hc1, hb1⟩
  ·
   obtain rfl := hbb1.trans hc1
   refine cw_true Z (cw_skip (ew_then (cw_seq (cw_block (cw_seq (cw_region (lw_op Z Z Z (ow_move Z Z (lw_op Z Z Z (ow_move Z Z (lw_op Z Z Z (ow_move Z Z ?_))))))))))))
   replace hb1 := bind_some hb1
   obtain ⟨x1, hx1, hb1⟩ := hb1
   refine lw_op Z Z Z (ow_indexRow (R := RSpan) Z Z Z hw1 Tryd.underlying121 (Tryd.sizeOf120 _) hx1 (lw_op Z Z Z (ow_fieldAddr Z Z Tryd.underlying120 Z (Tryd.sizeOf3 _) (lw_op0 Z Z (ow_storeElX (X := (fun b => v0p.ownBlock = some b)) (R := RSpan) (S := RInt) Z Z Z Z hw1 (orow_blk hw1 hx1) hx1 set_Span_Lo (Tryd.sizeOf3 _) (vint _) hge1 hC1 fun w2 ho1 hb2 hl2 hC2 => lw_nil (ew_then (cw_seq (cw_region (lw_op Z Z Z (ow_move Z Z (lw_op Z Z Z (ow_add Z Z Z (lw_op Z Z Z (ow_assign Z Z (lw_nil (ew_then (cw_seq (cw_region (lw_op Z Z Z (ow_move Z Z (lw_op Z Z Z (ow_move Z Z (lw_op Z Z Z (ow_move Z Z ?_))))))))))))))))))))))))
   replace hb1 := bind_some hb1
   obtain ⟨x2, hx2, hb1⟩ := hb1
   refine lw_op Z Z Z (ow_indexRow (R := RSpan) Z Z Z ho1 Tryd.underlying121 (Tryd.sizeOf120 _) hx2 (lw_op Z Z Z (ow_fieldAddr Z Z Tryd.underlying120 Z (Tryd.sizeOf3 _) (lw_op0 Z Z (ow_storeElX (X := (fun b => v0p.ownBlock = some b)) (R := RSpan) (S := RInt) Z Z Z Z ho1 (orow_blk ho1 hx2) hx2 set_Span_Hi (Tryd.sizeOf3 _) (vint _) hge1 hC2 fun w3 ho2 hb3 hl3 hC3 => lw_nil (ew_then (cw_region (lw_op Z Z Z (ow_move Z Z (lw_op Z Z Z (ow_add Z Z Z (lw_op Z Z Z (ow_assign Z Z (lw_nil (ew_blockN (ew_then (cw_region (lw_op Z Z Z (ow_move Z Z (lw_op Z Z Z (ow_add Z Z Z (lw_op Z Z Z (ow_assign Z Z (lw_nil ?_))))))))))))))))))))))))
   have lz1 := ((hl1.trans hl2).trans hl3)
   exact ew_nxt ((W ((W (k1 + 1)) + 1)), (W (k2 + 1)), (List.set (List.set y1 (k2 : Int).toNat { x1 with Lo := k1 }) (k2 : Int).toNat { x2 with Hi := (W (k1 + 1)) })) hb1 fun a ha => ⟨M1, (ha.sub ⟨Z, Z, Z, Zt⟩), lz1, hC3, ho2, hge1⟩
  ·
   obtain rfl := hbb1.trans hc1
   exact cw_false Z (cw_exit (ew_thenX (ew_thenX (ew_blockX (ew_brk (k1, k2, y1) hb1 fun a ha => ⟨M1, (ha.sub ⟨Z, Z, Z, Zt⟩), hl1, hC1, hw1, hge1⟩)))))
 ·
  rintro ⟨k3, k4, y2⟩ a w4 hlr2 ⟨M2, hF2, hl4, hC4, hw2, hge2⟩
  subst hlr2
  refine ew_at (E := [(0, v0p), (1, (Zv k3)), (5, (Zv k4))]) hF2 (ew_then (cw_seq (cw_region (lw_op Z Z Z (ow_move Z Z (lw_op Z Z Z (ow_assign Z Z (lw_nil (ew_then (cw_ret ?_))))))))))
  obtain rfl := sj h
  exact ew_ret (res1 Z (.tmp Z)) ⟨_, Z, (vint _), M2, hw2, hC4⟩

theorem wm_laws_markSpanSS {Y : Nat → Prop} {w : World} (hU : UFz Y w) {v0p : Value} {a_a : List (List Span)} (h0 : VRep (RSlice (RSlice RSpanA)) w (NotY Y) a_a v0p) {a_k : Int} {r : Int} (h : F.laws_markSpanSS a_a a_k = some r) :
  Calls Tryd.prog 95 [v0p, (.int .i64 a_k)].toArray w fun e w' => ∃ v, e = .returned v ∧ v = .int .i64 r ∧ MK Y w w' := by
 have hO : ∀ b, Y b → b < w.heap.size := fun b h => (hU b h).1
 have hC : Cx Y w Y w Y := Cx.start hO (fun _ h => h)
 refine walk (N := 19) Tryd.func95 Z Tryd.ntmps95 Z (cw_seq (cw_region (lw_op Z Z Z (ow_assign Z Z (lw_nil (ew_then (cw_seq (cw_seq (cw_region (lw_op Z Z Z (ow_assign Z Z (lw_nil (ew_then ?_)))))))))))))
 replace h := bind_some h
 obtain ⟨lr1, hlr1, h⟩ := h
 refine cw_for hlr1 (fun s a w' => ∃ (M' : Nat → Prop), Fits 19 [(0, v0p), (1, (Zv s.1)), (5, (Zv s.2))] a ∧ Le w Y w' M' ∧ Cx Y w Y w' M' ∧ MK Y w w') ?_ ?_ ?_
 · exact fun a ha => ⟨Y, ha.sub ⟨Z, Z, Z, Zt⟩, Le.refl _ _, hC, (MK.refl _ _)⟩
 ·
  rintro ⟨k1, k2⟩ a w1 sr1 ⟨M1, hF1, hl1, hC1, hmk1⟩ hb1 hR1
  refine cw_at (E := [(0, v0p), (1, (Zv k1)), (5, (Zv k2))]) hF1 (cw_seq (cw_seq (cw_region (lw_op Z Z Z (ow_move Z Z (lw_op Z Z Z (ow_move Z Z (lw_op Z Z Z (ow_len Z Z (KnA.vrep (KnA.slice (KnA.slice knA_Span)) hmk1.kin h0) Tryd.underlying46 Z (lw_op Z Z Z (ow_lss Z Z Z fun bb1 hbb1 => lw_nil (ew_then ?_))))))))))))
  replace hb1 := cond_some hb1
  rcases hb1 with ⟨hc1, hb1⟩ | ⟨hc1, hb1⟩
  ·
   obtain rfl := hbb1.trans hc1
   refine cw_true Z (cw_skip (ew_then (cw_seq (cw_block (cw_region (lw_op Z Z Z (ow_move Z Z (lw_op Z Z Z (ow_move Z Z ?_)))))))))
   replace hb1 := bind_some hb1
   obtain ⟨x1, hx1, hb1⟩ := hb1
   refine lw_op Z Z Z (ow_indexSlice (R := (RSlice RSpanA)) Z Z Z (KnA.vrep (KnA.slice (KnA.slice knA_Span)) hmk1.kin h0) Tryd.underlying46 (Tryd.sizeOf121 _) hx1 fun p1 hp1 => lw_op Z Z Z (ow_load (R := (RSlice RSpanA)) Z Z hp1 (Tryd.sizeOf121 _) (Tryd.isAgg121 _) fun v3 hv3 => lw_op Z Z Z (ow_move Z Z ?_)))
   replace hb1 := bind_some hb1
   obtain ⟨x2, hx2, hb1⟩ := hb1
   refine lw_op Z Z Z (ow_call Z Z Tryd.call153 (wm_laws_markSpanS (hU.mk hmk1) hv3 hx2) fun v4 w2 hv4 => ?_)
   obtain ⟨rfl, hmk2⟩ := hv4
   have hl2 := Le.of_bx M1 hmk2.bx hC1.xm
   have hC2 := hC1.go hmk2.bx (fun b e => .inr e)
   exact lw_op Z Z Z (ow_assign Z Z (lw_nil (ew_blockN (ew_then (cw_region (lw_op Z Z Z (ow_move Z Z (lw_op Z Z Z (ow_add Z Z Z (lw_op Z Z Z (ow_assign Z Z (lw_nil (ew_nxt (x2, (W (k2 + 1))) hb1 fun a ha => ⟨M1, (ha.sub ⟨Z, Z, Z, Zt⟩), (hl1.trans hl2), hC2, (hmk1.trans hmk2)⟩)))))))))))))
  ·
   obtain rfl := hbb1.trans hc1
   exact cw_false Z (cw_exit (ew_thenX (ew_thenX (ew_blockX (ew_brk (k1, k2) hb1 fun a ha => ⟨M1, (ha.sub ⟨Z, Z, Z, Zt⟩), hl1, hC1, hmk1⟩)))))
 ·
  rintro ⟨k3, k4⟩ a w3 hlr2 ⟨M2, hF2, hl3, hC3, hmk3⟩
  subst hlr2
  refine ew_at (E := [(0, v0p), (1, (Zv k3)), (5, (Zv k4))]) hF2 (ew_then (cw_seq (cw_region (lw_op Z Z Z (ow_move Z Z (lw_op Z Z Z (ow_assign Z Z (lw_nil (ew_then (cw_ret ?_))))))))))
  obtain rfl := sj h
  exact ew_ret (res1 Z (.tmp Z)) ⟨_, Z, Z, hmk3⟩

theorem we_laws_markSpanSS {Y : Nat → Prop} {w : World} (hU : ∀ b, Y b → b < w.heap.size) {v0p : Value} {a_a : List (List Span)} (h0 : VRep (RSSS 120) w (NotY Y) a_a v0p) {a_k : Int} {r : Int × (List (List Span))} (h : F.laws_markSpanSS_r a_a a_k = some r) :
    Calls Tryd.prog 95 [v0p, (.int .i64 a_k)].toArray w fun e w' => ∃ v, e = .returned v ∧ v = .int .i64 r.1 ∧ VRep (RSSS 120) w' (NotY Y) r.2 v0p ∧ BX Y w w' := by
  refine walk (N := 19) Tryd.func95 rfl Tryd.ntmps95 rfl ?_
  refine cw_seq ?_
  refine cw_region ?_
  refine lw_op rfl rfl rfl (ow_assign rfl rfl ?_)
  refine lw_nil ?_
  refine ew_then ?_
  refine cw_seq ?_
  refine cw_seq ?_
  refine cw_region ?_
  refine lw_op rfl rfl rfl (ow_assign rfl rfl ?_)
  refine lw_nil ?_
  refine ew_then ?_
  replace h := bind_some h
  obtain ⟨lr1, hlr1, h⟩ := h
  refine cw_for hlr1 (fun s a w' => Fits 19 [(0, v0p), (1, (.int .i64 s.1)), (5, (.int .i64 s.2.1))] a ∧ BX Y w w' ∧ VRep (RSSS 120) w' (NotY Y) s.2.2 v0p) ?_ ?_ ?_
  · intro a ha
    exact ⟨ha.sub ⟨rfl, rfl, rfl, trivial⟩, BX.refl _ _, h0⟩
  · rintro ⟨k1, k2, y1⟩ a w1 sr1 ⟨hF1, hbx1, hv1⟩ hb1 hR1
    refine cw_at (E := [(0, v0p), (1, (.int .i64 k1)), (5, (.int .i64 k2))]) hF1 ?_
    refine cw_seq ?_
    refine cw_seq ?_
    refine cw_region ?_
    refine lw_op rfl rfl rfl (ow_move rfl rfl ?_)
    refine lw_op rfl rfl rfl (ow_move rfl rfl ?_)
    refine lw_op rfl rfl rfl (ow_len rfl rfl (Fg.vrep fgSSS hv1) Tryd.underlying46 rfl ?_)
    refine lw_op rfl rfl rfl (ow_lss rfl rfl rfl fun bb1 hbb1 => ?_)
    refine lw_nil ?_
    refine ew_then ?_
    replace hb1 := cond_some hb1
    rcases hb1 with ⟨hc1, hb1⟩ | ⟨hc1, hb1⟩
    · obtain rfl := hbb1.trans hc1
      refine cw_true rfl ?_
      refine cw_skip ?_
      refine ew_then ?_
      refine cw_seq ?_
      refine cw_block ?_
      refine cw_region ?_
      refine lw_op rfl rfl rfl (ow_move rfl rfl ?_)
      refine lw_op rfl rfl rfl (ow_move rfl rfl ?_)
      replace hb1 := bind_some hb1
      obtain ⟨x1, hx1, hb1⟩ := hb1
      obtain ⟨m, rfl, hml, hym⟩ := idx_some hx1
      obtain ⟨p, c, u, F1, rfl, hcell, hFY, hru, hwd⟩ := slice_focus rfl hv1 hym
      refine lw_op rfl rfl rfl (ow_indexP rfl rfl rfl Tryd.underlying46 (Tryd.sizeOf121 _) hml ?_)
      refine lw_op rfl rfl rfl (ow_loadC rfl rfl hcell (Tryd.isAgg121 _) ?_)
      refine lw_op rfl rfl rfl (ow_move rfl rfl ?_)
      replace hb1 := bind_some hb1
      obtain ⟨x2, hx2, hb1⟩ := hb1
      obtain ⟨ho1, ho2, ho3⟩ := spr_in hru
      refine lw_op rfl rfl rfl (ow_call rfl rfl Tryd.call153 (wr_laws_markSpanS ho2 ho1 hx2) fun v4 w2 hv4 => ?_)
      obtain ⟨hv4, M2, hr2, hk2⟩ := hv4
      obtain rfl := vint_eq hv4
      have hbf : BX F1 w1 w2 := hk2.bx.mono fun b _ e => ho3 b e
      have hv2 := hwd w2 x2.2 hbf (spr_out hr2 ho3)
      have hbx2 : BX Y w w2 := hbx1.trans (hbf.mono fun b _ e => hFY b e)
      refine lw_op rfl rfl rfl (ow_assign rfl rfl ?_)
      refine lw_nil ?_
      refine ew_blockN ?_
      refine ew_then ?_
      refine cw_region ?_
      refine lw_op rfl rfl rfl (ow_move rfl rfl ?_)
      refine lw_op rfl rfl rfl (ow_add rfl rfl rfl ?_)
      refine lw_op rfl rfl rfl (ow_assign rfl rfl ?_)
      refine lw_nil ?_
      refine ew_nxt (x2.1, (W ((m : Int) + 1)), (List.set y1 m x2.2)) hb1 fun a ha => ⟨?_, hbx2, hv2⟩
      exact ha.sub ⟨rfl, rfl, rfl, trivial⟩
    · obtain rfl := hbb1.trans hc1
      refine cw_false rfl ?_
      refine cw_exit ?_
      refine ew_thenX ?_
      refine ew_thenX ?_
      refine ew_blockX ?_
      refine ew_brk (k1, k2, y1) hb1 fun a ha => ⟨?_, hbx1, hv1⟩
      exact ha.sub ⟨rfl, rfl, rfl, trivial⟩
  · rintro ⟨k3, k4, y2⟩ a w3 hlr2 ⟨hF2, hbx3, hv3⟩
    subst hlr2
    refine ew_at (E := [(0, v0p), (1, (.int .i64 k3)), (5, (.int .i64 k4))]) hF2 ?_
    refine ew_then ?_
    refine cw_seq ?_
    refine cw_region ?_
    refine lw_op rfl rfl rfl (ow_move rfl rfl ?_)
    refine lw_op rfl rfl rfl (ow_assign rfl rfl ?_)
    refine lw_nil ?_
    refine ew_then ?_
    refine cw_ret ?_
    obtain rfl := Option.some.inj h
    exact ew_ret (res1 rfl (.tmp rfl)) ⟨_, rfl, rfl, hv3, hbx3⟩

theorem wm_laws_markBox {Y : Nat → Prop} {w : World} (hU : UFz Y w) {v0p : Value} {a_a : Box} (h0 : VRep RBoxA w (NotY Y) a_a v0p) {a_k : Int} {r : Int} (h : F.laws_markBox a_a a_k = some r) :
  Calls Tryd.prog 27 [v0p, (.int .i64 a_k)].toArray w fun e w' => ∃ v, e = .returned v ∧ v = .int .i64 r ∧ MK Y w w' := by
 have hO : ∀ b, Y b → b < w.heap.size := fun b h => (hU b h).1
 have hC : Cx Y w Y w Y := Cx.start hO (fun _ h => h)
 refine walk (N := 10) Tryd.func27 Z Tryd.ntmps27 Z (cw_seq (cw_region ?_))
 obtain ⟨A1, c1, rfl, hw1⟩ := openA_Box h0
 refine lw_op Z Z Z (ow_boxOwn Z Z hC fun g1 w1 hg1 hg2 ho1 hb1 hl1 hC1 => lw_op Z Z Z (ow_assign Z Z (lw_nil (ew_then (cw_seq (cw_region (lw_op Z Z Z (ow_fieldAddr Z Z Tryd.underlying48 Z (Tryd.sizeOf46 _) (lw_op Z Z Z (ow_loadOwn1 Z Z Z ho1 (Tryd.isAgg46 _) Z (lw_op Z Z Z (ow_move Z Z ?_))))))))))))
 replace h := bind_some h
 obtain ⟨x1, hx1, h⟩ := h
 refine lw_op Z Z Z (ow_call Z Z Tryd.call95 (wm_laws_markSpanSS (hU.mk (MK.no (Y := Y) hb1)) (KnA.vrep (KnA.slice (KnA.slice knA_Span)) (MK.no (Y := Y) hb1).kin hw1) hx1) fun v1 w2 hv1 => ?_)
 obtain ⟨rfl, hmk1⟩ := hv1
 refine lw_op Z Z Z (ow_assign Z Z (lw_nil (ew_then (cw_seq (cw_region (lw_op Z Z Z (ow_move Z Z (lw_op Z Z Z (ow_assign Z Z (lw_nil (ew_then (cw_ret ?_))))))))))))
 obtain rfl := sj h
 exact ew_ret (res1 Z (.tmp Z)) ⟨_, Z, Z, ((MK.no (Y := Y) hb1).trans hmk1)⟩

theorem w_laws_eqBoxS {w : World} {M : Nat → Prop} (hG : ARep (RArr 4 RShape) w M shapes ⟨0, 0, none⟩) (hO : ∀ b, M b → b < w.heap.size) {v0p : Value} {a_a : List Box} (h0 : VRep (RSlice RBox) w M a_a v0p) {v1p : Value} {a_b : List Box} (h1 : VRep (RSlice RBox) w M a_b v1p) {r : Bool} (h : F.laws_eqBoxS a_a a_b = some r) :
  Calls Tryd.prog 41 [v0p, v1p].toArray w fun e w' => ∃ v, e = .returned v ∧ VRep RBool w' M r v ∧ BX No w w' := by
 have hC : Cx No w M w M := Cx.start hO (fun _ e => e.elim)
 refine walk (N := 27) Tryd.func41 Z Tryd.ntmps41 Z (cw_seq (cw_region (lw_op Z Z Z (ow_assign Z Z (lw_nil (ew_then (cw_seq (cw_seq (cw_region (lw_op Z Z Z (ow_move Z Z (lw_op Z Z Z (ow_len Z Z h0 Tryd.underlying64 Z (lw_op Z Z Z (ow_move Z Z (lw_op Z Z Z (ow_len Z Z h1 Tryd.underlying64 Z (lw_op Z Z Z (ow_neqI Z Z Z fun bb1 hbb1 => lw_nil (ew_then ?_))))))))))))))))))))
 replace h := cond_some h
 rcases h with ⟨hc1, h⟩ | ⟨hc1, h⟩
 ·
  obtain rfl := hbb1.trans hc1
  refine cw_true Z (cw_seq (cw_region (lw_op Z Z Z (ow_assign Z Z (lw_nil (ew_then (cw_ret (ew_thenR ?_))))))))
  obtain rfl := sj h
  exact ew_ret (res1 Z (.tmp Z)) ⟨_, Z, ((vbool _)), hC.bx⟩
 ·
  obtain rfl := hbb1.trans hc1
  refine cw_false Z (cw_skip (ew_then (cw_seq (cw_seq (cw_region (lw_op Z Z Z (ow_assign Z Z (lw_nil (ew_then ?_)))))))))
  replace h := bind_some h
  obtain ⟨lr1, hlr1, h⟩ := h
  refine cw_for hlr1 (fun s a w' => ∃ (M' : Nat → Prop), Fits 27 [(0, v0p), (1, v1p), (5, (Zv s))] a ∧ Le w M w' M' ∧ Cx No w M w' M') ?_ ?_ ?_
  · exact fun a ha => ⟨M, ha.sub ⟨Z, Z, Z, Zt⟩, Le.refl _ _, hC⟩
  ·
   rintro k1 a w1 sr1 ⟨M1, hF1, hl1, hC1⟩ hb1 hR1
   refine cw_at (E := [(0, v0p), (1, v1p), (5, (Zv k1))]) hF1 (cw_seq (cw_seq (cw_region (lw_op Z Z Z (ow_move Z Z (lw_op Z Z Z (ow_move Z Z (lw_op Z Z Z (ow_len Z Z (VRep.mono hl1 h0) Tryd.underlying64 Z (lw_op Z Z Z (ow_lss Z Z Z fun bb2 hbb2 => lw_nil (ew_then ?_))))))))))))
   replace hb1 := cond_some hb1
   rcases hb1 with ⟨hc2, hb1⟩ | ⟨hc2, hb1⟩
   ·
    obtain rfl := hbb2.trans hc2
    refine cw_true Z (cw_skip (ew_then (cw_seq (cw_block (cw_seq ?_)))))
    replace hb1 := bind_some hb1
    obtain ⟨x1, hx1, hb1⟩ := hb1
    replace hb1 := bind_some hb1
    obtain ⟨x2, hx2, hb1⟩ := hb1
    refine cw_sub (E' := [(0, v0p), (1, v1p), (5, (Zv k1))]) ⟨Z, Z, Z, Zt⟩ (cw_drawQ 8 [PV (RSlice RBox) M1 a_a, PEq (Zv k1), PA RBox M1 x1, PV RBox M1 x1, PV (RSlice RBox) M1 a_b, PEq (Zv k1), PA RBox M1 x2, PV RBox M1 x2] (by kernel_rfl) Z (by kernel_rfl) ⟨PV.mono _ _ _, Zq, PA.mono _ _ _, PV.mono _ _ _, PV.mono _ _ _, Zq, PA.mono _ _ _, PV.mono _ _ _, Zt⟩ ⟨?_, ?_, ?_, ?_, ?_, ?_, ?_, ?_, Zt⟩ ?_)
    ·
     intro w2 D hS1 hd1
     have hl2 := Le.no M1 hS1
     exact dg_sub (E' := [(0, v0p)]) ⟨Z, Zt⟩ (dg_plain Z (ow_move Z Z ⟨BX.refl _ _, (VRep.mono (hl1.trans hl2) h0)⟩))
    · exact fun w3 D hS2 hd2 => dg_sub (E' := [(5, (Zv k1))]) ⟨Z, Zt⟩ (dg_plain Z (ow_move Z Z Zb))
    ·
     intro w4 D hS3 hd3
     have d1 : PV (RSlice RBox) M1 a_a (D 0) w4 := dpA hd3 0 Z
     generalize hq1 : (D 0) = v4 at d1
     exact dg_sub (E' := [(17, v4), (18, (Zv k1))]) ⟨congrArg some hq1, dpE hd3 1 Z Z, Zt⟩ (dg_plain Z (ow_indexSlice (R := RBox) Z Z Z d1 Tryd.underlying64 (Tryd.sizeOf48 _) hx1 fun p3 hp3 => ⟨BX.refl _ _, ⟨_, Z, hp3⟩⟩))
    ·
     intro w5 D hS4 hd4
     have d3 : PA RBox M1 x1 (D 2) w5 := dpA hd4 2 Z
     obtain ⟨p4, e1, ha1⟩ := d3
     exact dg_sub (E' := [(19, (.pointer (some p4)))]) ⟨congrArg some e1, Zt⟩ (dg_plain Z (ow_load (R := RBox) Z Z ha1 (Tryd.sizeOf48 _) (Tryd.isAgg48 _) fun v5 hv5 => ⟨BX.refl _ _, hv5⟩))
    ·
     intro w6 D hS5 hd5
     have hl6 := Le.no M1 hS5
     exact dg_sub (E' := [(1, v1p)]) ⟨Z, Zt⟩ (dg_plain Z (ow_move Z Z ⟨BX.refl _ _, (VRep.mono (hl1.trans hl6) h1)⟩))
    · exact fun w7 D hS6 hd6 => dg_sub (E' := [(5, (Zv k1))]) ⟨Z, Zt⟩ (dg_plain Z (ow_move Z Z Zb))
    ·
     intro w8 D hS7 hd7
     have d4 : PV (RSlice RBox) M1 a_b (D 4) w8 := dpA hd7 4 Z
     generalize hq2 : (D 4) = v6 at d4
     exact dg_sub (E' := [(21, v6), (22, (Zv k1))]) ⟨congrArg some hq2, dpE hd7 5 Z Z, Zt⟩ (dg_plain Z (ow_indexSlice (R := RBox) Z Z Z d4 Tryd.underlying64 (Tryd.sizeOf48 _) hx2 fun p5 hp5 => ⟨BX.refl _ _, ⟨_, Z, hp5⟩⟩))
    ·
     intro w9 D hS8 hd8
     have d6 : PA RBox M1 x2 (D 6) w9 := dpA hd8 6 Z
     obtain ⟨p6, e2, ha2⟩ := d6
     exact dg_sub (E' := [(23, (.pointer (some p6)))]) ⟨congrArg some e2, Zt⟩ (dg_plain Z (ow_load (R := RBox) Z Z ha2 (Tryd.sizeOf48 _) (Tryd.isAgg48 _) fun v7 hv7 => ⟨BX.refl _ _, hv7⟩))
    ·
     intro w10 D hS9 hd9
     have d10 : PV RBox M1 x1 (D 3) w10 := dpA hd9 3 Z
     have d14 : PV RBox M1 x2 (D 7) w10 := dpA hd9 7 Z
     have hl10 := Le.no M1 hS9
     have hC10 := hC1.no hS9
     generalize hq3 : (D 3) = v8 at d10
     generalize hq4 : (D 7) = v9 at d14
     refine lw_sub (E' := [(20, v8), (24, v9), (0, v0p), (1, v1p), (5, (Zv k1))]) ⟨congrArg some hq3, congrArg some hq4, Z, Z, Z, Zt⟩ ?_
     replace hb1 := bind_some hb1
     obtain ⟨x3, hx3, hb1⟩ := hb1
     refine lw_op Z Z Z (ow_call Z Z Tryd.call26 (w_laws_eqBox (hG.mono (hl1.trans hl10)) hC10.old d10 d14 hx3) fun v10 w11 hv10 => ?_)
     obtain ⟨hv10, hb2⟩ := hv10
     have hl11 := Le.no M1 hb2
     have hC11 := hC10.no hb2
     obtain rfl := vbool_eq hv10
     refine lw_op Z Z Z (ow_not Z Z (lw_nil (ew_then ?_)))
     replace hb1 := cond_some hb1
     rcases hb1 with ⟨hc3, hb1⟩ | ⟨hc3, hb1⟩
     ·
      subst hc3
      refine cw_false Z (cw_skip (ew_blockN (ew_then (cw_region (lw_op Z Z Z (ow_move Z Z (lw_op Z Z Z (ow_add Z Z Z (lw_op Z Z Z (ow_assign Z Z (lw_nil ?_)))))))))))
      have lz1 := ((hl1.trans hl10).trans hl11)
      exact ew_nxt (W (k1 + 1)) hb1 fun a ha => ⟨M1, (ha.sub ⟨Z, Z, Z, Zt⟩), lz1, hC11⟩
     ·
      subst hc3
      refine cw_true Z (cw_seq (cw_region (lw_op Z Z Z (ow_assign Z Z (lw_nil (ew_then (cw_ret (ew_blockR (ew_thenR (ew_thenR (ew_blockR (ew_brkR (ew_thenR ?_)))))))))))))
      have e3 := hR1 _ (sj hb1).symm
      subst e3
      obtain rfl := sj h
      exact ew_ret (res1 Z (.tmp Z)) ⟨_, Z, ((vbool _)), hC11.bx⟩
   ·
    obtain rfl := hbb2.trans hc2
    exact cw_false Z (cw_exit (ew_thenX (ew_thenX (ew_blockX (ew_brk k1 hb1 fun a ha => ⟨M1, (ha.sub ⟨Z, Z, Z, Zt⟩), hl1, hC1⟩)))))
  ·
   rintro k2 a w12 hlr2 ⟨M2, hF2, hl12, hC12⟩
   subst hlr2
   refine ew_at (E := [(0, v0p), (1, v1p), (5, (Zv k2))]) hF2 (ew_then (cw_seq (cw_region (lw_op Z Z Z (ow_assign Z Z (lw_nil (ew_then (cw_ret ?_))))))))
   obtain rfl := sj h
   exact ew_ret (res1 Z (.tmp Z)) ⟨_, Z, ((vbool _)), hC12.bx⟩

theorem wm_laws_markBoxS {Y : Nat → Prop} {w : World} (hU : UFz Y w) {v0p : Value} {a_a : List Box} (h0 : VRep (RSlice RBoxA) w (NotY Y) a_a v0p) {a_k : Int} {r : Int} (h : F.laws_markBoxS a_a a_k = some r) :
  Calls Tryd.prog 44 [v0p, (.int .i64 a_k)].toArray w fun e w' => ∃ v, e = .returned v ∧ v = .int .i64 r ∧ MK Y w w' := by
 have hO : ∀ b, Y b → b < w.heap.size := fun b h => (hU b h).1
 have hC : Cx Y w Y w Y := Cx.start hO (fun _ h => h)
 refine walk (N := 20) Tryd.func44 Z Tryd.ntmps44 Z (cw_seq (cw_region (lw_op Z Z Z (ow_assign Z Z (lw_nil (ew_then (cw_seq (cw_seq (cw_region (lw_op Z Z Z (ow_assign Z Z (lw_nil (ew_then ?_)))))))))))))
 replace h := bind_some h
 obtain ⟨lr1, hlr1, h⟩ := h
 refine cw_for hlr1 (fun s a w' => ∃ (M' : Nat → Prop), Fits 20 [(0, v0p), (1, (Zv s.1)), (5, (Zv s.2))] a ∧ Le w Y w' M' ∧ Cx Y w Y w' M' ∧ MK Y w w') ?_ ?_ ?_
 · exact fun a ha => ⟨Y, ha.sub ⟨Z, Z, Z, Zt⟩, Le.refl _ _, hC, (MK.refl _ _)⟩
 ·
  rintro ⟨k1, k2⟩ a w1 sr1 ⟨M1, hF1, hl1, hC1, hmk1⟩ hb1 hR1
  refine cw_at (E := [(0, v0p), (1, (Zv k1)), (5, (Zv k2))]) hF1 (cw_seq (cw_seq (cw_region (lw_op Z Z Z (ow_move Z Z (lw_op Z Z Z (ow_move Z Z (lw_op Z Z Z (ow_len Z Z (KnA.vrep (KnA.slice knA_Box) hmk1.kin h0) Tryd.underlying64 Z (lw_op Z Z Z (ow_lss Z Z Z fun bb1 hbb1 => lw_nil (ew_then ?_))))))))))))
  replace hb1 := cond_some hb1
  rcases hb1 with ⟨hc1, hb1⟩ | ⟨hc1, hb1⟩
  ·
   obtain rfl := hbb1.trans hc1
   refine cw_true Z (cw_skip (ew_then (cw_seq (cw_block (cw_region (lw_op Z Z Z (ow_move Z Z (lw_op Z Z Z (ow_move Z Z ?_)))))))))
   replace hb1 := bind_some hb1
   obtain ⟨x1, hx1, hb1⟩ := hb1
   refine lw_op Z Z Z (ow_indexSlice (R := RBoxA) Z Z Z (KnA.vrep (KnA.slice knA_Box) hmk1.kin h0) Tryd.underlying64 (Tryd.sizeOf48 _) hx1 fun p1 hp1 => lw_op Z Z Z (ow_fieldAddr Z Z Tryd.underlying48 Z (Tryd.sizeOf46 _) (lw_op Z Z Z (ow_load (R := (RSlice (RSlice RSpanA))) Z Z (hp1.fld fldA_Box_Sides) (Tryd.sizeOf46 _) (Tryd.isAgg46 _) fun v3 hv3 => lw_op Z Z Z (ow_move Z Z ?_)))))
   replace hb1 := bind_some hb1
   obtain ⟨x2, hx2, hb1⟩ := hb1
   refine lw_op Z Z Z (ow_call Z Z Tryd.call95 (wm_laws_markSpanSS (hU.mk hmk1) hv3 hx2) fun v4 w2 hv4 => ?_)
   obtain ⟨rfl, hmk2⟩ := hv4
   have hl2 := Le.of_bx M1 hmk2.bx hC1.xm
   have hC2 := hC1.go hmk2.bx (fun b e => .inr e)
   exact lw_op Z Z Z (ow_assign Z Z (lw_nil (ew_blockN (ew_then (cw_region (lw_op Z Z Z (ow_move Z Z (lw_op Z Z Z (ow_add Z Z Z (lw_op Z Z Z (ow_assign Z Z (lw_nil (ew_nxt (x2, (W (k2 + 1))) hb1 fun a ha => ⟨M1, (ha.sub ⟨Z, Z, Z, Zt⟩), (hl1.trans hl2), hC2, (hmk1.trans hmk2)⟩)))))))))))))
  ·
   obtain rfl := hbb1.trans hc1
   exact cw_false Z (cw_exit (ew_thenX (ew_thenX (ew_blockX (ew_brk (k1, k2) hb1 fun a ha => ⟨M1, (ha.sub ⟨Z, Z, Z, Zt⟩), hl1, hC1, hmk1⟩)))))
 ·
  rintro ⟨k3, k4⟩ a w3 hlr2 ⟨M2, hF2, hl3, hC3, hmk3⟩
  subst hlr2
  refine ew_at (E := [(0, v0p), (1, (Zv k3)), (5, (Zv k4))]) hF2 (ew_then (cw_seq (cw_region (lw_op Z Z Z (ow_move Z Z (lw_op Z Z Z (ow_assign Z Z (lw_nil (ew_then (cw_ret ?_))))))))))
  obtain rfl := sj h
  exact ew_ret (res1 Z (.tmp Z)) ⟨_, Z, Z, hmk3⟩

theorem we_laws_markBoxS {Y : Nat → Prop} {w : World} (hU : ∀ b, Y b → b < w.heap.size) {v0p : Value} {a_a : List Box} (h0 : VRep (RBoxSS 120) w (NotY Y) a_a v0p) {a_k : Int} {r : Int × (List Box)} (h : F.laws_markBoxS_r a_a a_k = some r) :
    Calls Tryd.prog 44 [v0p, (.int .i64 a_k)].toArray w fun e w' => ∃ v, e = .returned v ∧ v = .int .i64 r.1 ∧ VRep (RBoxSS 120) w' (NotY Y) r.2 v0p ∧ BX Y w w' := by
  refine walk (N := 20) Tryd.func44 rfl Tryd.ntmps44 rfl ?_
  refine cw_seq ?_
  refine cw_region ?_
  refine lw_op rfl rfl rfl (ow_assign rfl rfl ?_)
  refine lw_nil ?_
  refine ew_then ?_
  refine cw_seq ?_
  refine cw_seq ?_
  refine cw_region ?_
  refine lw_op rfl rfl rfl (ow_assign rfl rfl ?_)
  refine lw_nil ?_
  refine ew_then ?_
  replace h := bind_some h
  obtain ⟨lr1, hlr1, h⟩ := h
  refine cw_for hlr1 (fun s a w' => Fits 20 [(0, v0p), (1, (.int .i64 s.1)), (5, (.int .i64 s.2.1))] a ∧ BX Y w w' ∧ VRep (RBoxSS 120) w' (NotY Y) s.2.2 v0p) ?_ ?_ ?_
  · intro a ha
    exact ⟨ha.sub ⟨rfl, rfl, rfl, trivial⟩, BX.refl _ _, h0⟩
  · rintro ⟨k1, k2, y1⟩ a w1 sr1 ⟨hF1, hbx1, hv1⟩ hb1 hR1
    refine cw_at (E := [(0, v0p), (1, (.int .i64 k1)), (5, (.int .i64 k2))]) hF1 ?_
    refine cw_seq ?_
    refine cw_seq ?_
    refine cw_region ?_
    refine lw_op rfl rfl rfl (ow_move rfl rfl ?_)
    refine lw_op rfl rfl rfl (ow_move rfl rfl ?_)
    refine lw_op rfl rfl rfl (ow_len rfl rfl (Fg.vrep fgBoxSS hv1) Tryd.underlying64 rfl ?_)
    refine lw_op rfl rfl rfl (ow_lss rfl rfl rfl fun bb1 hbb1 => ?_)
    refine lw_nil ?_
    refine ew_then ?_
    replace hb1 := cond_some hb1
    rcases hb1 with ⟨hc1, hb1⟩ | ⟨hc1, hb1⟩
    · obtain rfl := hbb1.trans hc1
      refine cw_true rfl ?_
      refine cw_skip ?_
      refine ew_then ?_
      refine cw_seq ?_
      refine cw_block ?_
      refine cw_region ?_
      refine lw_op rfl rfl rfl (ow_move rfl rfl ?_)
      refine lw_op rfl rfl rfl (ow_move rfl rfl ?_)
      replace hb1 := bind_some hb1
      obtain ⟨x1, hx1, hb1⟩ := hb1
      obtain ⟨m, rfl, hml, hym⟩ := idx_some hx1
      obtain ⟨p, c, u, F1, rfl, hcell, hFY, hru, hwd⟩ := slice_focus rfl hv1 hym
      refine lw_op rfl rfl rfl (ow_indexP rfl rfl rfl Tryd.underlying64 (Tryd.sizeOf48 _) hml ?_)
      refine lw_op rfl rfl rfl (ow_fieldAddr rfl rfl Tryd.underlying48 rfl (Tryd.sizeOf46 _) ?_)
      refine lw_op rfl rfl rfl (ow_loadC rfl rfl hcell (Tryd.isAgg46 _) ?_)
      refine lw_op rfl rfl rfl (ow_move rfl rfl ?_)
      replace hb1 := bind_some hb1
      obtain ⟨x2, hx2, hb1⟩ := hb1
      refine lw_op rfl rfl rfl (ow_call rfl rfl Tryd.call95 (we_laws_markSpanSS (fun b e => Nat.lt_of_lt_of_le (hU b (hFY b e)) hbx1.size) (box_in hru) hx2) fun v4 w2 hv4 => ?_)
      obtain ⟨rfl, hr2, hbf⟩ := hv4
      have hv2 := hwd w2 ⟨x2.2⟩ hbf (box_out hr2)
      have hbx2 : BX Y w w2 := hbx1.trans (hbf.mono fun b _ e => hFY b e)
      refine lw_op rfl rfl rfl (ow_assign rfl rfl ?_)
      refine lw_nil ?_
      refine ew_blockN ?_
      refine ew_then ?_
      refine cw_region ?_
      refine lw_op rfl rfl rfl (ow_move rfl rfl ?_)
      refine lw_op rfl rfl rfl (ow_add rfl rfl rfl ?_)
      refine lw_op rfl rfl rfl (ow_assign rfl rfl ?_)
      refine lw_nil ?_
      refine ew_nxt (x2.1, (W ((m : Int) + 1)), (List.set y1 m ({ Sides := x2.2 } : Box))) hb1 fun a ha => ⟨?_, hbx2, hv2⟩
      exact ha.sub ⟨rfl, rfl, rfl, trivial⟩
    · obtain rfl := hbb1.trans hc1
      refine cw_false rfl ?_
      refine cw_exit ?_
      refine ew_thenX ?_
      refine ew_thenX ?_
      refine ew_blockX ?_
      refine ew_brk (k1, k2, y1) hb1 fun a ha => ⟨?_, hbx1, hv1⟩
      exact ha.sub ⟨rfl, rfl, rfl, trivial⟩
  · rintro ⟨k3, k4, y2⟩ a w3 hlr2 ⟨hF2, hbx3, hv3⟩
    subst hlr2
    refine ew_at (E := [(0, v0p), (1, (.int .i64 k3)), (5, (.int .i64 k4))]) hF2 ?_
    refine ew_then ?_
    refine cw_seq ?_
    refine cw_region ?_
    refine lw_op rfl rfl rfl (ow_move rfl rfl ?_)
    refine lw_op rfl rfl rfl (ow_assign rfl rfl ?_)
    refine lw_nil ?_
    refine ew_then ?_
    refine cw_ret ?_
    obtain rfl := Option.some.inj h
    exact ew_ret (res1 rfl (.tmp rfl)) ⟨_, rfl, rfl, hv3, hbx3⟩

theorem w_laws_heldSpanS {w : World} {M : Nat → Prop} (_hG : ARep (RArr 4 RShape) w M shapes ⟨0, 0, none⟩) (hO : ∀ b, M b → b < w.heap.size) {v0p : Value} {a_a : List Span} (h0 : VRep (RSlice RSpan) w M a_a v0p) {a_k : Int} {r : Int} (h : F.laws_heldSpanS a_a a_k = some r) :
  Calls Tryd.prog 156 [v0p, (.int .i64 a_k)].toArray w fun e w' => ∃ v, e = .returned v ∧ VRep RInt w' M r v ∧ BX No w w' := by
 have hC : Cx No w M w M := Cx.start hO (fun _ e => e.elim)
 clear _hG
 refine walk (N := 31) Tryd.func156 Z Tryd.ntmps156 Z (cw_seq (cw_region (lw_op Z Z Z (ow_assign Z Z (lw_nil (ew_then (cw_seq (cw_seq (cw_region (lw_op Z Z Z (ow_assign Z Z (lw_nil (ew_then ?_)))))))))))))
 replace h := bind_some h
 obtain ⟨lr1, hlr1, h⟩ := h
 refine cw_for hlr1 (fun s a w' => ∃ (M' : Nat → Prop), Fits 31 [(0, v0p), (1, (Zv s.1)), (5, (Zv s.2))] a ∧ Le w M w' M' ∧ Cx No w M w' M') ?_ ?_ ?_
 · exact fun a ha => ⟨M, ha.sub ⟨Z, Z, Z, Zt⟩, Le.refl _ _, hC⟩
 ·
  rintro ⟨k1, k2⟩ a w1 sr1 ⟨M1, hF1, hl1, hC1⟩ hb1 hR1
  refine cw_at (E := [(0, v0p), (1, (Zv k1)), (5, (Zv k2))]) hF1 (cw_seq (cw_seq (cw_region (lw_op Z Z Z (ow_move Z Z (lw_op Z Z Z (ow_move Z Z (lw_op Z Z Z (ow_len Z Z (VRep.mono hl1 h0) Tryd.underlying121 Z (lw_op Z Z Z (ow_lss Z Z Z fun bb1 hbb1 => lw_nil (ew_then ?_))))))))))))
  replace hb1 := cond_some hb1
  rcases hb1 with ⟨hc1, hb1⟩ | ⟨hc1, hb1⟩
  ·
   obtain rfl := hbb1.trans hc1
   refine cw_true Z (cw_skip (ew_then (cw_seq (cw_block (cw_seq (cw_seq (cw_region (lw_op Z Z Z (ow_move Z Z (lw_op Z Z Z (ow_move Z Z ?_)))))))))))
   replace hb1 := bind_some hb1
   obtain ⟨x1, hx1, hb1⟩ := hb1
   refine lw_op Z Z Z (ow_indexSlice (R := RSpan) Z Z Z (VRep.mono hl1 h0) Tryd.underlying121 (Tryd.sizeOf120 _) hx1 fun p1 hp1 => lw_op Z Z Z (ow_fieldAddr Z Z Tryd.underlying120 Z (Tryd.sizeOf3 _) (lw_op Z Z Z (ow_load (R := RInt) Z Z (hp1.fld fld_Span_Lo) (Tryd.sizeOf3 _) (Tryd.isAgg3 _) fun v3 hv3 => ?_))))
   obtain rfl := vint_eq hv3
   refine lw_op Z Z Z (ow_move Z Z (lw_op Z Z Z (ow_neqI Z Z Z fun bb2 hbb2 => lw_nil (ew_then ?_))))
   replace hb1 := cond_some hb1
   rcases hb1 with ⟨hc2, hb1⟩ | ⟨hc2, hb1⟩
   ·
    obtain rfl := hbb2.trans hc2
    refine cw_true Z (cw_seq (cw_region (lw_op Z Z Z (ow_assign Z Z (lw_nil (ew_then (cw_ret (ew_thenR (ew_blockR (ew_thenR (ew_thenR (ew_blockR (ew_brkR (ew_thenR ?_))))))))))))))
    have e1 := hR1 _ (sj hb1).symm
    subst e1
    obtain rfl := sj h
    exact ew_ret (res1 Z (.tmp Z)) ⟨_, Z, ((vint _)), hC1.bx⟩
   ·
    obtain rfl := hbb2.trans hc2
    refine cw_false Z (cw_skip (ew_then (cw_seq (cw_region (lw_op Z Z Z (ow_move Z Z (lw_op Z Z Z (ow_add Z Z Z (lw_op Z Z Z (ow_assign Z Z (lw_nil (ew_then (cw_seq (cw_seq (cw_region (lw_op Z Z Z (ow_move Z Z (lw_op Z Z Z (ow_move Z Z (lw_op Z Z Z (ow_indexSlice (R := RSpan) Z Z Z (VRep.mono hl1 h0) Tryd.underlying121 (Tryd.sizeOf120 _) hx1 fun p2 hp2 => lw_op Z Z Z (ow_fieldAddr Z Z Tryd.underlying120 Z (Tryd.sizeOf3 _) (lw_op Z Z Z (ow_load (R := RInt) Z Z (hp2.fld fld_Span_Hi) (Tryd.sizeOf3 _) (Tryd.isAgg3 _) fun v4 hv4 => ?_))))))))))))))))))))))))
    obtain rfl := vint_eq hv4
    refine lw_op Z Z Z (ow_move Z Z (lw_op Z Z Z (ow_neqI Z Z Z fun bb3 hbb3 => lw_nil (ew_then ?_))))
    replace hb1 := cond_some hb1
    rcases hb1 with ⟨hc3, hb1⟩ | ⟨hc3, hb1⟩
    ·
     obtain rfl := hbb3.trans hc3
     refine cw_true Z (cw_seq (cw_region (lw_op Z Z Z (ow_assign Z Z (lw_nil (ew_then (cw_ret (ew_thenR (ew_blockR (ew_thenR (ew_thenR (ew_blockR (ew_brkR (ew_thenR ?_))))))))))))))
     have e2 := hR1 _ (sj hb1).symm
     subst e2
     obtain rfl := sj h
     exact ew_ret (res1 Z (.tmp Z)) ⟨_, Z, ((vint _)), hC1.bx⟩
    ·
     obtain rfl := hbb3.trans hc3
     exact cw_false Z (cw_skip (ew_then (cw_region (lw_op Z Z Z (ow_move Z Z (lw_op Z Z Z (ow_add Z Z Z (lw_op Z Z Z (ow_assign Z Z (lw_nil (ew_blockN (ew_then (cw_region (lw_op Z Z Z (ow_move Z Z (lw_op Z Z Z (ow_add Z Z Z (lw_op Z Z Z (ow_assign Z Z (lw_nil (ew_nxt ((W ((W (k1 + 1)) + 1)), (W (k2 + 1))) hb1 fun a ha => ⟨M1, (ha.sub ⟨Z, Z, Z, Zt⟩), hl1, hC1⟩)))))))))))))))))))))
  ·
   obtain rfl := hbb1.trans hc1
   exact cw_false Z (cw_exit (ew_thenX (ew_thenX (ew_blockX (ew_brk (k1, k2) hb1 fun a ha => ⟨M1, (ha.sub ⟨Z, Z, Z, Zt⟩), hl1, hC1⟩)))))
 ·
  rintro ⟨k3, k4⟩ a w2 hlr2 ⟨M2, hF2, hl2, hC2⟩
  subst hlr2
  refine ew_at (E := [(0, v0p), (1, (Zv k3)), (5, (Zv k4))]) hF2 (ew_then (cw_seq (cw_region (lw_op Z Z Z (ow_move Z Z (lw_op Z Z Z (ow_assign Z Z (lw_nil (ew_then (cw_ret ?_))))))))))
  obtain rfl := sj h
  exact ew_ret (res1 Z (.tmp Z)) ⟨_, Z, ((vint _)), hC2.bx⟩

theorem w_laws_heldSpanSS {w : World} {M : Nat → Prop} (hG : ARep (RArr 4 RShape) w M shapes ⟨0, 0, none⟩) (hO : ∀ b, M b → b < w.heap.size) {v0p : Value} {a_a : List (List Span)} (h0 : VRep (RSlice (RSlice RSpan)) w M a_a v0p) {a_k : Int} {r : Int} (h : F.laws_heldSpanSS a_a a_k = some r) :
  Calls Tryd.prog 100 [v0p, (.int .i64 a_k)].toArray w fun e w' => ∃ v, e = .returned v ∧ VRep RInt w' M r v ∧ BX No w w' := by
 have hC : Cx No w M w M := Cx.start hO (fun _ e => e.elim)
 refine walk (N := 21) Tryd.func100 Z Tryd.ntmps100 Z (cw_seq (cw_region (lw_op Z Z Z (ow_assign Z Z (lw_nil (ew_then (cw_seq (cw_seq (cw_region (lw_op Z Z Z (ow_assign Z Z (lw_nil (ew_then ?_)))))))))))))
 replace h := bind_some h
 obtain ⟨lr1, hlr1, h⟩ := h
 refine cw_for hlr1 (fun s a w' => ∃ (M' : Nat → Prop), Fits 21 [(0, v0p), (1, (Zv s.1)), (5, (Zv s.2))] a ∧ Le w M w' M' ∧ Cx No w M w' M') ?_ ?_ ?_
 · exact fun a ha => ⟨M, ha.sub ⟨Z, Z, Z, Zt⟩, Le.refl _ _, hC⟩
 ·
  rintro ⟨k1, k2⟩ a w1 sr1 ⟨M1, hF1, hl1, hC1⟩ hb1 hR1
  refine cw_at (E := [(0, v0p), (1, (Zv k1)), (5, (Zv k2))]) hF1 (cw_seq (cw_seq (cw_region (lw_op Z Z Z (ow_move Z Z (lw_op Z Z Z (ow_move Z Z (lw_op Z Z Z (ow_len Z Z (VRep.mono hl1 h0) Tryd.underlying46 Z (lw_op Z Z Z (ow_lss Z Z Z fun bb1 hbb1 => lw_nil (ew_then ?_))))))))))))
  replace hb1 := cond_some hb1
  rcases hb1 with ⟨hc1, hb1⟩ | ⟨hc1, hb1⟩
  ·
   obtain rfl := hbb1.trans hc1
   refine cw_true Z (cw_skip (ew_then (cw_seq (cw_block (cw_seq (cw_region (lw_op Z Z Z (ow_move Z Z (lw_op Z Z Z (ow_move Z Z ?_))))))))))
   replace hb1 := bind_some hb1
   obtain ⟨x1, hx1, hb1⟩ := hb1
   refine lw_op Z Z Z (ow_indexSlice (R := (RSlice RSpan)) Z Z Z (VRep.mono hl1 h0) Tryd.underlying46 (Tryd.sizeOf121 _) hx1 fun p1 hp1 => lw_op Z Z Z (ow_load (R := (RSlice RSpan)) Z Z hp1 (Tryd.sizeOf121 _) (Tryd.isAgg121 _) fun v3 hv3 => lw_op Z Z Z (ow_move Z Z ?_)))
   replace hb1 := bind_some hb1
   obtain ⟨x2, hx2, hb1⟩ := hb1
   refine lw_op Z Z Z (ow_call Z Z Tryd.call156 (w_laws_heldSpanS (hG.mono hl1) hC1.old hv3 hx2) fun v4 w2 hv4 => ?_)
   obtain ⟨hv4, hb2⟩ := hv4
   have hl2 := Le.no M1 hb2
   have hC2 := hC1.no hb2
   obtain rfl := vint_eq hv4
   refine lw_op Z Z Z (ow_assign Z Z (lw_nil (ew_then (cw_seq (cw_region (lw_op Z Z Z (ow_move Z Z (lw_op Z Z Z (ow_lss Z Z Z fun bb2 hbb2 => lw_nil (ew_then ?_))))))))))
   replace hb1 := cond_some hb1
   rcases hb1 with ⟨hc2, hb1⟩ | ⟨hc2, hb1⟩
   ·
    obtain rfl := hbb2.trans hc2
    refine cw_true Z (cw_seq (cw_region (lw_op Z Z Z (ow_assign Z Z (lw_nil (ew_then (cw_ret (ew_blockR (ew_thenR (ew_thenR (ew_blockR (ew_brkR (ew_thenR ?_)))))))))))))
    have e1 := hR1 _ (sj hb1).symm
    subst e1
    obtain rfl := sj h
    exact ew_ret (res1 Z (.tmp Z)) ⟨_, Z, ((vint _)), hC2.bx⟩
   ·
    obtain rfl := hbb2.trans hc2
    exact cw_false Z (cw_skip (ew_blockN (ew_then (cw_region (lw_op Z Z Z (ow_move Z Z (lw_op Z Z Z (ow_add Z Z Z (lw_op Z Z Z (ow_assign Z Z (lw_nil (ew_nxt (x2, (W (k2 + 1))) hb1 fun a ha => ⟨M1, (ha.sub ⟨Z, Z, Z, Zt⟩), (hl1.trans hl2), hC2⟩))))))))))))
  ·
   obtain rfl := hbb1.trans hc1
   exact cw_false Z (cw_exit (ew_thenX (ew_thenX (ew_blockX (ew_brk (k1, k2) hb1 fun a ha => ⟨M1, (ha.sub ⟨Z, Z, Z, Zt⟩), hl1, hC1⟩)))))
 ·
  rintro ⟨k3, k4⟩ a w3 hlr2 ⟨M2, hF2, hl3, hC3⟩
  subst hlr2
  refine ew_at (E := [(0, v0p), (1, (Zv k3)), (5, (Zv k4))]) hF2 (ew_then (cw_seq (cw_region (lw_op Z Z Z (ow_move Z Z (lw_op Z Z Z (ow_assign Z Z (lw_nil (ew_then (cw_ret ?_))))))))))
  obtain rfl := sj h
  exact ew_ret (res1 Z (.tmp Z)) ⟨_, Z, ((vint _)), hC3.bx⟩

theorem w_laws_heldBoxS {w : World} {M : Nat → Prop} (hG : ARep (RArr 4 RShape) w M shapes ⟨0, 0, none⟩) (hO : ∀ b, M b → b < w.heap.size) {v0p : Value} {a_a : List Box} (h0 : VRep (RSlice RBox) w M a_a v0p) {a_k : Int} {r : Int} (h : F.laws_heldBoxS a_a a_k = some r) :
  Calls Tryd.prog 45 [v0p, (.int .i64 a_k)].toArray w fun e w' => ∃ v, e = .returned v ∧ VRep RInt w' M r v ∧ BX No w w' := by
 have hC : Cx No w M w M := Cx.start hO (fun _ e => e.elim)
 refine walk (N := 22) Tryd.func45 Z Tryd.ntmps45 Z (cw_seq (cw_region (lw_op Z Z Z (ow_assign Z Z (lw_nil (ew_then (cw_seq (cw_seq (cw_region (lw_op Z Z Z (ow_assign Z Z (lw_nil (ew_then ?_)))))))))))))
 replace h := bind_some h
 obtain ⟨lr1, hlr1, h⟩ := h
 refine cw_for hlr1 (fun s a w' => ∃ (M' : Nat → Prop), Fits 22 [(0, v0p), (1, (Zv s.1)), (5, (Zv s.2))] a ∧ Le w M w' M' ∧ Cx No w M w' M') ?_ ?_ ?_
 · exact fun a ha => ⟨M, ha.sub ⟨Z, Z, Z, Zt⟩, Le.refl _ _, hC⟩
 ·
  rintro ⟨k1, k2⟩ a w1 sr1 ⟨M1, hF1, hl1, hC1⟩ hb1 hR1
  refine cw_at (E := [(0, v0p), (1, (Zv k1)), (5, (Zv k2))]) hF1 (cw_seq (cw_seq (cw_region (lw_op Z Z Z (ow_move Z Z (lw_op Z Z Z (ow_move Z Z (lw_op Z Z Z (ow_len Z Z (VRep.mono hl1 h0) Tryd.underlying64 Z (lw_op Z Z Z (ow_lss Z Z Z fun bb1 hbb1 => lw_nil (ew_then ?_))))))))))))
  replace hb1 := cond_some hb1
  rcases hb1 with ⟨hc1, hb1⟩ | ⟨hc1, hb1⟩
  ·
   obtain rfl := hbb1.trans hc1
   refine cw_true Z (cw_skip (ew_then (cw_seq (cw_block (cw_seq (cw_region (lw_op Z Z Z (ow_move Z Z (lw_op Z Z Z (ow_move Z Z ?_))))))))))
   replace hb1 := bind_some hb1
   obtain ⟨x1, hx1, hb1⟩ := hb1
   refine lw_op Z Z Z (ow_indexSlice (R := RBox) Z Z Z (VRep.mono hl1 h0) Tryd.underlying64 (Tryd.sizeOf48 _) hx1 fun p1 hp1 => lw_op Z Z Z (ow_fieldAddr Z Z Tryd.underlying48 Z (Tryd.sizeOf46 _) (lw_op Z Z Z (ow_load (R := (RSlice (RSlice RSpan))) Z Z (hp1.fld fld_Box_Sides) (Tryd.sizeOf46 _) (Tryd.isAgg46 _) fun v3 hv3 => lw_op Z Z Z (ow_move Z Z ?_)))))
   replace hb1 := bind_some hb1
   obtain ⟨x2, hx2, hb1⟩ := hb1
   refine lw_op Z Z Z (ow_call Z Z Tryd.call100 (w_laws_heldSpanSS (hG.mono hl1) hC1.old hv3 hx2) fun v4 w2 hv4 => ?_)
   obtain ⟨hv4, hb2⟩ := hv4
   have hl2 := Le.no M1 hb2
   have hC2 := hC1.no hb2
   obtain rfl := vint_eq hv4
   refine lw_op Z Z Z (ow_assign Z Z (lw_nil (ew_then (cw_seq (cw_region (lw_op Z Z Z (ow_move Z Z (lw_op Z Z Z (ow_lss Z Z Z fun bb2 hbb2 => lw_nil (ew_then ?_))))))))))
   replace hb1 := cond_some hb1
   rcases hb1 with ⟨hc2, hb1⟩ | ⟨hc2, hb1⟩
   ·
    obtain rfl := hbb2.trans hc2
    refine cw_true Z (cw_seq (cw_region (lw_op Z Z Z (ow_assign Z Z (lw_nil (ew_then (cw_ret (ew_blockR (ew_thenR (ew_thenR (ew_blockR (ew_brkR (ew_thenR ?_)))))))))))))
    have e1 := hR1 _ (sj hb1).symm
    subst e1
    obtain rfl := sj h
    exact ew_ret (res1 Z (.tmp Z)) ⟨_, Z, ((vint _)), hC2.bx⟩
   ·
    obtain rfl := hbb2.trans hc2
    exact cw_false Z (cw_skip (ew_blockN (ew_then (cw_region (lw_op Z Z Z (ow_move Z Z (lw_op Z Z Z (ow_add Z Z Z (lw_op Z Z Z (ow_assign Z Z (lw_nil (ew_nxt (x2, (W (k2 + 1))) hb1 fun a ha => ⟨M1, (ha.sub ⟨Z, Z, Z, Zt⟩), (hl1.trans hl2), hC2⟩))))))))))))
  ·
   obtain rfl := hbb1.trans hc1
   exact cw_false Z (cw_exit (ew_thenX (ew_thenX (ew_blockX (ew_brk (k1, k2) hb1 fun a ha => ⟨M1, (ha.sub ⟨Z, Z, Z, Zt⟩), hl1, hC1⟩)))))
 ·
  rintro ⟨k3, k4⟩ a w3 hlr2 ⟨M2, hF2, hl3, hC3⟩
  subst hlr2
  refine ew_at (E := [(0, v0p), (1, (Zv k3)), (5, (Zv k4))]) hF2 (ew_then (cw_seq (cw_region (lw_op Z Z Z (ow_move Z Z (lw_op Z Z Z (ow_assign Z Z (lw_nil (ew_then (cw_ret ?_))))))))))
  obtain rfl := sj h
  exact ew_ret (res1 Z (.tmp Z)) ⟨_, Z, ((vint _)), hC3.bx⟩

theorem w_laws_szBoxS {w : World} {M : Nat → Prop} (hG : ARep (RArr 4 RShape) w M shapes ⟨0, 0, none⟩) (hO : ∀ b, M b → b < w.heap.size) {v0p : Value} {a_a : List Box} (h0 : VRep (RSlice RBox) w M a_a v0p) {a_left : Int} {r : Int} (h : F.laws_szBoxS a_a a_left = some r) :
  Calls Tryd.prog 64 [v0p, (.int .i64 a_left)].toArray w fun e w' => ∃ v, e = .returned v ∧ VRep RInt w' M r v ∧ BX No w w' := by
 have hC : Cx No w M w M := Cx.start hO (fun _ e => e.elim)
 refine walk (N := 27) Tryd.func64 Z Tryd.ntmps64 Z (cw_seq (cw_region (lw_op Z Z Z (ow_assign Z Z (lw_nil (ew_then (cw_seq (cw_region (lw_op Z Z Z (ow_move Z Z (lw_op Z Z Z (ow_move Z Z (lw_op Z Z Z (ow_len Z Z h0 Tryd.underlying93 Z (lw_op Z Z Z (ow_sub Z Z Z (lw_op Z Z Z (ow_assign Z Z (lw_nil (ew_then (cw_seq (cw_seq (cw_region (lw_op Z Z Z (ow_move Z Z (lw_op Z Z Z (ow_lss Z Z Z fun bb1 hbb1 => lw_nil (ew_then ?_))))))))))))))))))))))))))))
 replace h := cond_some h
 rcases h with ⟨hc1, h⟩ | ⟨hc1, h⟩
 ·
  obtain rfl := hbb1.trans hc1
  refine cw_true Z (cw_seq (cw_region (lw_op Z Z Z (ow_assign Z Z (lw_nil (ew_then (cw_ret (ew_thenR ?_))))))))
  obtain rfl := sj h
  exact ew_ret (res1 Z (.tmp Z)) ⟨_, Z, ((vint _)), hC.bx⟩
 ·
  obtain rfl := hbb1.trans hc1
  refine cw_false Z (cw_skip (ew_then (cw_seq (cw_seq (cw_region (lw_op Z Z Z (ow_assign Z Z (lw_nil (ew_then ?_)))))))))
  replace h := bind_some h
  obtain ⟨lr1, hlr1, h⟩ := h
  refine cw_for hlr1 (fun s a w' => ∃ (M' : Nat → Prop), Fits 27 [(0, v0p), (1, (Zv s.1)), (5, (Zv s.2))] a ∧ Le w M w' M' ∧ Cx No w M w' M') ?_ ?_ ?_
  · exact fun a ha => ⟨M, ha.sub ⟨Z, Z, Z, Zt⟩, Le.refl _ _, hC⟩
  ·
   rintro ⟨k1, k2⟩ a w1 sr1 ⟨M1, hF1, hl1, hC1⟩ hb1 hR1
   refine cw_at (E := [(0, v0p), (1, (Zv k1)), (5, (Zv k2))]) hF1 (cw_seq (cw_seq (cw_region (lw_op Z Z Z (ow_move Z Z (lw_op Z Z Z (ow_move Z Z (lw_op Z Z Z (ow_len Z Z (VRep.mono hl1 h0) Tryd.underlying93 Z (lw_op Z Z Z (ow_lss Z Z Z fun bb2 hbb2 => lw_nil (ew_then ?_))))))))))))
   replace hb1 := cond_some hb1
   rcases hb1 with ⟨hc2, hb1⟩ | ⟨hc2, hb1⟩
   ·
    obtain rfl := hbb2.trans hc2
    refine cw_true Z (cw_skip (ew_then (cw_seq (cw_block (cw_seq (cw_region (lw_op Z Z Z (ow_move Z Z (lw_op Z Z Z (ow_move Z Z ?_))))))))))
    replace hb1 := bind_some hb1
    obtain ⟨x1, hx1, hb1⟩ := hb1
    refine lw_op Z Z Z (ow_indexSlice (R := RBox) Z Z Z (VRep.mono hl1 h0) Tryd.underlying93 (Tryd.sizeOf42 _) hx1 fun p1 hp1 => lw_op Z Z Z (ow_load (R := RBox) Z Z hp1 (Tryd.sizeOf42 _) (Tryd.isAgg42 _) fun v3 hv3 => lw_op Z Z Z (ow_move Z Z ?_)))
    replace hb1 := bind_some hb1
    obtain ⟨x2, hx2, hb1⟩ := hb1
    refine lw_op Z Z Z (ow_call Z Z Tryd.call21 (w_laws_szBox (hG.mono hl1) hC1.old hv3 hx2) fun v4 w2 hv4 => ?_)
    obtain ⟨hv4, hb2⟩ := hv4
    have hl2 := Le.no M1 hb2
    have hC2 := hC1.no hb2
    obtain rfl := vint_eq hv4
    refine lw_op Z Z Z (ow_assign Z Z (lw_nil (ew_then (cw_seq (cw_region (lw_op Z Z Z (ow_move Z Z (lw_op Z Z Z (ow_lss Z Z Z fun bb3 hbb3 => lw_nil (ew_then ?_))))))))))
    replace hb1 := cond_some hb1
    rcases hb1 with ⟨hc3, hb1⟩ | ⟨hc3, hb1⟩
    ·
     obtain rfl := hbb3.trans hc3
     refine cw_true Z (cw_seq (cw_region (lw_op Z Z Z (ow_assign Z Z (lw_nil (ew_then (cw_ret (ew_blockR (ew_thenR (ew_thenR (ew_blockR (ew_brkR (ew_thenR ?_)))))))))))))
     have e1 := hR1 _ (sj hb1).symm
     subst e1
     obtain rfl := sj h
     exact ew_ret (res1 Z (.tmp Z)) ⟨_, Z, ((vint _)), hC2.bx⟩
    ·
     obtain rfl := hbb3.trans hc3
     exact cw_false Z (cw_skip (ew_blockN (ew_then (cw_region (lw_op Z Z Z (ow_move Z Z (lw_op Z Z Z (ow_add Z Z Z (lw_op Z Z Z (ow_assign Z Z (lw_nil (ew_nxt (x2, (W (k2 + 1))) hb1 fun a ha => ⟨M1, (ha.sub ⟨Z, Z, Z, Zt⟩), (hl1.trans hl2), hC2⟩))))))))))))
   ·
    obtain rfl := hbb2.trans hc2
    exact cw_false Z (cw_exit (ew_thenX (ew_thenX (ew_blockX (ew_brk (k1, k2) hb1 fun a ha => ⟨M1, (ha.sub ⟨Z, Z, Z, Zt⟩), hl1, hC1⟩)))))
  ·
   rintro ⟨k3, k4⟩ a w3 hlr2 ⟨M2, hF2, hl3, hC3⟩
   subst hlr2
   refine ew_at (E := [(0, v0p), (1, (Zv k3)), (5, (Zv k4))]) hF2 (ew_then (cw_seq (cw_region (lw_op Z Z Z (ow_move Z Z (lw_op Z Z Z (ow_assign Z Z (lw_nil (ew_then (cw_ret ?_))))))))))
   obtain rfl := sj h
   exact ew_ret (res1 Z (.tmp Z)) ⟨_, Z, ((vint _)), hC3.bx⟩

theorem wo_spec_l1OwnRowsSpan {w : World} {M : Nat → Prop} (_hG : ARep (RArr 4 RShape) w M shapes ⟨0, 0, none⟩) (hO : ∀ b, M b → b < w.heap.size) {v0p : Value} {a_list : List (List Span)} (h0 : VRep (RSlice (RSlice RSpan)) w M a_list v0p) {r : (List (List Span))} (h : F.spec_l1OwnRowsSpan a_list = some r) :
  Calls Tryd.prog 154 [v0p].toArray w fun e w' => ∃ v, e = .returned v ∧ (∃ M', OwnRow (RSlice RSpan) w.heap.size 121 w' M' r v ∧ Cx No w M w' M') ∧ BX No w w' := by
 obtain ⟨i120, hi120, hz120, hs120, hy120⟩ := info120
 obtain ⟨i121, hi121, hz121, hs121, hy121⟩ := info121
 have hC : Cx No w M w M := Cx.start hO (fun _ e => e.elim)
 clear _hG
 refine walk (N := 22) Tryd.func154 Z Tryd.ntmps154 Z (cw_seq (cw_region (lw_op Z Z Z (ow_assign Z Z (lw_nil (ew_then (cw_seq (cw_region (lw_op Z Z Z (ow_buildSlice0 (R := (RSlice RSpan)) (e := 121) Z (by kernel_rfl) hC fun p1 w1 M1 hr1 hb1 hl1 hC1 hM1 hat1 => lw_op Z Z Z (ow_assign Z Z (lw_nil (ew_then (cw_seq (cw_seq (cw_region (lw_op Z Z Z (ow_assign Z Z (lw_nil (ew_then ?_))))))))))))))))))))
 replace h := bind_some h
 obtain ⟨lr1, hlr1, h⟩ := h
 refine cw_for hlr1 (fun s a w' => ∃ (M' : Nat → Prop) (v0c : Value), Fits 22 [(0, v0p), (3, v0c), (4, (Zv s.2))] a ∧ Le w1 M1 w' M' ∧ Cx No w M w' M' ∧ OwnRow (RSlice RSpan) w.heap.size 121 w' M' s.1 v0c) ?_ ?_ ?_
 · exact fun a ha => ⟨M1, (.slice (some p1) 0 0), ha.sub ⟨Z, Z, Z, Zt⟩, Le.refl _ _, hC1, hr1⟩
 ·
  rintro ⟨y1, k1⟩ a w2 sr1 ⟨M2, v1, hF1, hl2, hC2, hw1⟩ hb2 hR1
  refine cw_at (E := [(0, v0p), (3, v1), (4, (Zv k1))]) hF1 (cw_seq (cw_seq (cw_region (lw_op Z Z Z (ow_move Z Z (lw_op Z Z Z (ow_move Z Z (lw_op Z Z Z (ow_len Z Z (VRep.mono (hl1.trans hl2) h0) Tryd.underlying46 Z (lw_op Z Z Z (ow_lss Z Z Z fun bb1 hbb1 => lw_nil (ew_then ?_))))))))))))
  replace hb2 := cond_some hb2
  rcases hb2 with ⟨hc1, hb2⟩ | ⟨hc1, hb2⟩
  ·
   obtain rfl := hbb1.trans hc1
   refine cw_true Z (cw_skip (ew_then (cw_seq (cw_block (cw_region (lw_op Z Z Z (ow_move Z Z (lw_op Z Z Z (ow_buildSlice0 (R := RSpan) (e := 120) Z (by kernel_rfl) hC2 fun p2 w3 M3 hr2 hb3 hl3 hC3 hM2 hat2 => ?_)))))))))
   have hr3 := hw1.go hb3 (fun _ _ e => e) hl3 hM2
   refine lw_op Z Z Z (ow_move Z Z (lw_op Z Z Z (ow_move Z Z ?_)))
   replace hb2 := bind_some hb2
   obtain ⟨x1, hx1, hb2⟩ := hb2
   have lz1 := ((hl1.trans hl2).trans hl3)
   refine lw_op Z Z Z (ow_indexSlice (R := (RSlice RSpan)) Z Z Z (VRep.mono lz1 h0) Tryd.underlying46 (Tryd.sizeOf121 _) hx1 fun p3 hp3 => lw_op Z Z Z (ow_load (R := (RSlice RSpan)) Z Z hp3 (Tryd.sizeOf121 _) (Tryd.isAgg121 _) fun v3 hv3 => ?_))
   replace hb2 := bind_some hb2
   obtain ⟨z1, hz1, hb2⟩ := hb2
   refine lw_op Z Z Z (ow_appendCopy (R := RSpan) Z Z Z Z Tryd.underlying121 hi120 hz120 hs120 hy120 Z Z Z Z hv3 hz1 hC3 fun v4 w4 hw2 hb4 hl4 hC4 => ?_)
   have hr4 := hr3.no hb4
   obtain ⟨A1, c1, rfl, -⟩ := vslice_shape hw2
   refine lw_op Z Z Z (ow_buildSlice (R := (RSlice RSpan)) (xs := [z1]) (cs := #[(.slice A1 z1.length c1)]) (e := 121) Z Z (by kernel_rfl) Z Z ⟨_, _, Z, hw2.cells, Z⟩ hC4 fun p4 w5 hw3 hb5 hl5 hC5 => ?_)
   have hr6 := hr4.no hb5
   replace hb2 := bind_some hb2
   obtain ⟨z2, hz2, hb2⟩ := hb2
   refine lw_op Z Z Z (ow_append (R := (RSlice RSpan)) Z Z Z Z Tryd.underlying46 hi121 hz121 hs121 hy121 Z Z Z Z hr6 hw3 hz2 hC5 fun v5 w6 M4 hr8 hb6 hl6 hC6 hM3 hat3 => lw_op Z Z Z (ow_assign Z Z (lw_nil (ew_blockN (ew_then (cw_region (lw_op Z Z Z (ow_move Z Z (lw_op Z Z Z (ow_add Z Z Z (lw_op Z Z Z (ow_assign Z Z (lw_nil ?_)))))))))))))
   have lz2 := ((((hl2.trans hl3).trans hl4).trans hl5).trans hl6)
   exact ew_nxt (z2, (W (k1 + 1))) hb2 fun a ha => ⟨M4, v5, (ha.sub ⟨Z, Z, Z, Zt⟩), lz2, hC6, hr8⟩
  ·
   obtain rfl := hbb1.trans hc1
   exact cw_false Z (cw_exit (ew_thenX (ew_thenX (ew_blockX (ew_brk (y1, k1) hb2 fun a ha => ⟨M2, v1, (ha.sub ⟨Z, Z, Z, Zt⟩), hl2, hC2, hw1⟩)))))
 ·
  rintro ⟨y2, k2⟩ a w7 hlr2 ⟨M5, v6, hF2, hl7, hC7, hw4⟩
  subst hlr2
  refine ew_at (E := [(0, v0p), (3, v6), (4, (Zv k2))]) hF2 (ew_then (cw_seq (cw_region (lw_op Z Z Z (ow_move Z Z (lw_op Z Z Z (ow_assign Z Z (lw_nil (ew_then (cw_ret ?_))))))))))
  obtain rfl := sj h
  exact ew_ret (res1 Z (.tmp Z)) ⟨_, Z, ⟨M5, hw4, hC7⟩, hC7.bx⟩

theorem w_spec_l1OwnRowsSpan {w : World} {M : Nat → Prop} (hG : ARep (RArr 4 RShape) w M shapes ⟨0, 0, none⟩) (hO : ∀ b, M b → b < w.heap.size) {v0p : Value} {a_list : List (List Span)} (h0 : VRep (RSlice (RSlice RSpan)) w M a_list v0p) {r : (List (List Span))} (h : F.spec_l1OwnRowsSpan a_list = some r) :
  Calls Tryd.prog 154 [v0p].toArray w fun e w' => ∃ v, e = .returned v ∧ VRep (RSlice (RSlice RSpan)) w' M r v ∧ BX No w w' := by
 refine Calls.mono (wo_spec_l1OwnRowsSpan hG hO h0 h) fun e w1 hz => ?_
 obtain ⟨v, e1, ⟨M1, hr, hc⟩, hb⟩ := hz
 exact ⟨v, e1, hr.freezeBack hc hO, hb⟩

theorem w_spec_l1OwnBox {w : World} {M : Nat → Prop} (hG : ARep (RArr 4 RShape) w M shapes ⟨0, 0, none⟩) (hO : ∀ b, M b → b < w.heap.size) {v0p : Value} {a_x : Box} (h0 : VRep RBox w M a_x v0p) {r : Box} (h : F.spec_l1OwnBox a_x = some r) :
  Calls Tryd.prog 96 [v0p].toArray w fun e w' => ∃ v, e = .returned v ∧ VRep RBox w' M r v ∧ BX No w w' := by
 have hC : Cx No w M w M := Cx.start hO (fun _ e => e.elim)
 refine walk (N := 10) Tryd.func96 Z Tryd.ntmps96 Z (cw_seq (cw_region (lw_op Z Z Z (ow_box (R := RBox) Z Z h0 hC fun p1 w1 hp1 hb1 hl1 hC1 => lw_op Z Z Z (ow_alloc Z (Tryd.zeroValue48 _) hC1 fun g1 w2 hg1 hg2 ho1 hb2 hl2 hC2 => ?_)))))
 have hm1 : (Add g1 M) g1 := .inl Z
 refine lw_nil (ew_then (cw_seq (cw_region (lw_op Z Z Z (ow_load (R := RBox) Z Z (ARep.mono hl2 hp1) (Tryd.sizeOf48 _) (Tryd.isAgg48 _) fun v1 hv1 => lw_op Z Z Z (ow_alloc Z (Tryd.zeroValue48 _) hC2 fun g2 w3 hg3 hg4 ho2 hb3 hl3 hC3 => ?_))))))
 have hn1 := Nat.ne_of_lt (Nat.lt_of_lt_of_le ho1.lt hg3)
 have ho3 := ho1.no hb3
 have hm2 : (Add g2 (Add g1 M)) g1 := .inr hm1
 have hm3 : (Add g2 (Add g1 M)) g2 := .inl Z
 obtain ⟨A1, c1, rfl, hw1⟩ := open_Box hv1
 refine lw_op0 Z Z (ow_store (X := No) (us := [(.slice A1 a_x.Sides.length c1)]) (cs' := #[(.slice A1 a_x.Sides.length c1)]) Z Z Z Z ho2 (Tryd.sizeOf48 _) Z Z Z Z hm3 (.inl hg4) Z hC3 fun w4 ho4 hb4 hl4 hC4 => ?_)
 have ho5 := ho3.go hb4 (fun e => hn1 e)
 refine lw_nil (ew_then (cw_seq (cw_region (lw_op Z Z Z (ow_fieldAddr Z Z Tryd.underlying48 Z (Tryd.sizeOf46 _) ?_)))))
 have lz1 := ((hl2.trans hl3).trans hl4)
 refine lw_op Z Z Z (ow_load (R := (RSlice (RSlice RSpan))) Z Z (ARep.mono lz1 (hp1.fld fld_Box_Sides)) (Tryd.sizeOf46 _) (Tryd.isAgg46 _) fun v2 hv2 => ?_)
 replace h := bind_some h
 obtain ⟨x1, hx1, h⟩ := h
 have lz2 := (((hl1.trans hl2).trans hl3).trans hl4)
 refine lw_op Z Z Z (ow_call Z Z Tryd.call154 (w_spec_l1OwnRowsSpan (hG.mono lz2) hC4.old hv2 hx1) fun v3 w5 hv3 => ?_)
 obtain ⟨hv3, hb5⟩ := hv3
 have hC5 := hC4.no hb5
 have ho6 := ho5.no hb5
 have ho7 := ho4.no hb5
 refine lw_op Z Z Z (ow_fieldAddr Z Z Tryd.underlying48 Z (Tryd.sizeOf46 _) ?_)
 obtain ⟨A2, c2, rfl, -⟩ := vslice_shape hv3
 refine lw_op0 Z Z (ow_store (X := No) (us := [(.slice A2 x1.length c2)]) (cs' := #[(.slice A2 x1.length c2)]) Z Z Z Z ho7 (Tryd.sizeOf46 _) Z Z Z Z hm3 (.inl hg4) Z hC5 fun w6 ho8 hb6 hl6 hC6 => ?_)
 have ho9 := ho6.go hb6 (fun e => hn1 e)
 refine lw_nil (ew_then (cw_seq (cw_region (lw_op Z Z Z (ow_loadOwnA Z Z Z ho8 (Tryd.isAgg48 _) (Tryd.sizeOf48 _) Z (lw_op0 Z Z (ow_store (X := No) (us := [(.slice A2 x1.length c2)]) (cs' := #[(.slice A2 x1.length c2)]) Z Z Z Z ho9 (Tryd.sizeOf48 _) Z Z Z Z hm2 (.inl hg2) Z hC6 fun w7 ho10 hb7 hl7 hC7 => lw_nil (ew_then (cw_ret ?_)))))))))
 have hw3 : VRep RBox w7 (Add g2 (Add g1 M)) ({ Sides := x1 } : Box) (.agg #[(.slice A2 x1.length c2)]) := shut_Box (VRep.mono (hl6.trans hl7) hv3)
 obtain rfl := sj h
 exact ew_ret (res1 Z (.cell Z (own_loadVarA ho10 (Tryd.isAgg48 _) (Tryd.sizeOf48 _) Z))) ⟨_, Z, (hw3.mono hC7.back), hC7.bx⟩

theorem w_spec_l1OwnBoxList {w : World} {M : Nat → Prop} (hG : ARep (RArr 4 RShape) w M shapes ⟨0, 0, none⟩) (hO : ∀ b, M b → b < w.heap.size) {v0p : Value} {a_list : List Box} (h0 : VRep (RSlice RBox) w M a_list v0p) {r : (List Box)} (h : F.spec_l1OwnBoxList a_list = some r) :
  Calls Tryd.prog 126 [v0p].toArray w fun e w' => ∃ v, e = .returned v ∧ VRep (RSlice RBox) w' M r v ∧ BX No w w' := by
 obtain ⟨i48, hi48, hz48, hs48, hy48⟩ := info48
 have hC : Cx No w M w M := Cx.start hO (fun _ e => e.elim)
 refine walk (N := 21) Tryd.func126 Z Tryd.ntmps126 Z (cw_seq (cw_region (lw_op Z Z Z (ow_assign Z Z (lw_nil (ew_then (cw_seq (cw_region (lw_op Z Z Z (ow_buildSlice0 (R := RBox) (e := 48) Z (by kernel_rfl) hC fun p1 w1 M1 hr1 hb1 hl1 hC1 hM1 hat1 => lw_op Z Z Z (ow_assign Z Z (lw_nil (ew_then (cw_seq (cw_seq (cw_region (lw_op Z Z Z (ow_assign Z Z (lw_nil (ew_then ?_))))))))))))))))))))
 replace h := bind_some h
 obtain ⟨lr1, hlr1, h⟩ := h
 refine cw_for hlr1 (fun s a w' => ∃ (M' : Nat → Prop) (v0c : Value), Fits 21 [(0, v0p), (3, v0c), (4, (Zv s.2))] a ∧ Le w1 M1 w' M' ∧ Cx No w M w' M' ∧ OwnRow RBox w.heap.size 48 w' M' s.1 v0c) ?_ ?_ ?_
 · exact fun a ha => ⟨M1, (.slice (some p1) 0 0), ha.sub ⟨Z, Z, Z, Zt⟩, Le.refl _ _, hC1, hr1⟩
 ·
  rintro ⟨y1, k1⟩ a w2 sr1 ⟨M2, v1, hF1, hl2, hC2, hw1⟩ hb2 hR1
  refine cw_at (E := [(0, v0p), (3, v1), (4, (Zv k1))]) hF1 (cw_seq (cw_seq (cw_region (lw_op Z Z Z (ow_move Z Z (lw_op Z Z Z (ow_move Z Z (lw_op Z Z Z (ow_len Z Z (VRep.mono (hl1.trans hl2) h0) Tryd.underlying64 Z (lw_op Z Z Z (ow_lss Z Z Z fun bb1 hbb1 => lw_nil (ew_then ?_))))))))))))
  replace hb2 := cond_some hb2
  rcases hb2 with ⟨hc1, hb2⟩ | ⟨hc1, hb2⟩
  ·
   obtain rfl := hbb1.trans hc1
   refine cw_true Z (cw_skip (ew_then (cw_seq (cw_block (cw_region (lw_op Z Z Z (ow_move Z Z (lw_op Z Z Z (ow_move Z Z (lw_op Z Z Z (ow_move Z Z ?_)))))))))))
   replace hb2 := bind_some hb2
   obtain ⟨x1, hx1, hb2⟩ := hb2
   refine lw_op Z Z Z (ow_indexSlice (R := RBox) Z Z Z (VRep.mono (hl1.trans hl2) h0) Tryd.underlying64 (Tryd.sizeOf48 _) hx1 fun p2 hp2 => lw_op Z Z Z (ow_load (R := RBox) Z Z hp2 (Tryd.sizeOf48 _) (Tryd.isAgg48 _) fun v3 hv3 => ?_))
   replace hb2 := bind_some hb2
   obtain ⟨x2, hx2, hb2⟩ := hb2
   refine lw_op Z Z Z (ow_call Z Z Tryd.call96 (w_spec_l1OwnBox (hG.mono (hl1.trans hl2)) hC2.old hv3 hx2) fun v4 w3 hv4 => ?_)
   obtain ⟨hv4, hb3⟩ := hv4
   have hl3 := Le.no M2 hb3
   have hC3 := hC2.no hb3
   have hr2 := hw1.no hb3
   obtain ⟨A1, c1, rfl, hw2⟩ := open_Box hv4
   refine lw_op Z Z Z (ow_buildSlice (R := RBox) (xs := [x2]) (cs := #[(.slice A1 x2.Sides.length c1)]) (e := 48) Z Z (by kernel_rfl) Z Z ⟨_, _, Z, hv4.cells, Z⟩ hC3 fun p3 w4 hw3 hb4 hl4 hC4 => ?_)
   have hr3 := hr2.no hb4
   replace hb2 := bind_some hb2
   obtain ⟨z1, hz1, hb2⟩ := hb2
   refine lw_op Z Z Z (ow_append (R := RBox) Z Z Z Z Tryd.underlying64 hi48 hz48 hs48 hy48 Z Z Z Z hr3 hw3 hz1 hC4 fun v5 w5 M3 hr4 hb5 hl5 hC5 hM2 hat2 => lw_op Z Z Z (ow_assign Z Z (lw_nil (ew_blockN (ew_then (cw_region (lw_op Z Z Z (ow_move Z Z (lw_op Z Z Z (ow_add Z Z Z (lw_op Z Z Z (ow_assign Z Z (lw_nil ?_)))))))))))))
   have lz1 := (((hl2.trans hl3).trans hl4).trans hl5)
   exact ew_nxt (z1, (W (k1 + 1))) hb2 fun a ha => ⟨M3, v5, (ha.sub ⟨Z, Z, Z, Zt⟩), lz1, hC5, hr4⟩
  ·
   obtain rfl := hbb1.trans hc1
   exact cw_false Z (cw_exit (ew_thenX (ew_thenX (ew_blockX (ew_brk (y1, k1) hb2 fun a ha => ⟨M2, v1, (ha.sub ⟨Z, Z, Z, Zt⟩), hl2, hC2, hw1⟩)))))
 ·
  rintro ⟨y2, k2⟩ a w6 hlr2 ⟨M4, v6, hF2, hl6, hC6, hw4⟩
  subst hlr2
  refine ew_at (E := [(0, v0p), (3, v6), (4, (Zv k2))]) hF2 (ew_then (cw_seq (cw_region (lw_op Z Z Z (ow_move Z Z (lw_op Z Z Z (ow_assign Z Z (lw_nil (ew_then (cw_ret ?_))))))))))
  obtain rfl := sj h
  exact ew_ret (res1 Z (.tmp Z)) ⟨_, Z, (hw4.freezeBack hC6 hO), hC6.bx⟩

theorem w_spec_l1In {w : World} {M : Nat → Prop} (_hG : ARep (RArr 4 RShape) w M shapes ⟨0, 0, none⟩) (hO : ∀ b, M b → b < w.heap.size) {a_n : Int} {a_lo : Int} {a_hi : Int} {r : Bool} (h : F.spec_l1In a_n a_lo a_hi = some r) :
  Calls Tryd.prog 118 [(.int .i64 a_n), (.int .i64 a_lo), (.int .i64 a_hi)].toArray w fun e w' => ∃ v, e = .returned v ∧ VRep RBool w' M r v ∧ BX No w w' := by
 have hC : Cx No w M w M := Cx.start hO (fun _ e => e.elim)
 clear _hG
 refine walk (N := 15) Tryd.func118 Z Tryd.ntmps118 Z (cw_seq (cw_region (lw_op Z Z Z (ow_assign Z Z (lw_nil (ew_then (cw_seq (cw_region (lw_op Z Z Z (ow_move Z Z (lw_op Z Z Z (ow_move Z Z (lw_op Z Z Z (ow_geq Z Z Z fun bb1 hbb1 => lw_op Z Z Z (ow_move Z Z ?_)))))))))))))))
 replace h := cond_some h
 rcases h with ⟨hc1, h⟩ | ⟨hc1, h⟩
 ·
  obtain rfl := hbb1.trans hc1
  refine lw_on Z Z Z Z Z Z (ow_move Z Z (lw_on Z Z Z Z Z Z (ow_move Z Z (lw_on Z Z Z Z Z Z (ow_leq Z Z Z fun bb2 hbb2 => lw_op Z Z Z (ow_pickT Z Z Z (lw_op Z Z Z (ow_assign Z Z (lw_nil (ew_then (cw_ret ?_)))))))))))
  obtain rfl := sj h
  exact ew_ret (res1 Z (.tmp Z)) ⟨_, Z, ((vbool_of hbb2)), hC.bx⟩
 ·
  obtain rfl := hbb1.trans hc1
  refine lw_off Z Z Z Z Z Z (lw_off Z Z Z Z Z Z (lw_off Z Z Z Z Z Z (lw_op Z Z Z (ow_pickF Z Z Z (lw_op Z Z Z (ow_assign Z Z (lw_nil (ew_then (cw_ret ?_)))))))))
  obtain rfl := sj h
  exact ew_ret (res1 Z (.tmp Z)) ⟨_, Z, ((vbool _)), hC.bx⟩

theorem w_spec_SpansValid {w : World} {M : Nat → Prop} (hG : ARep (RArr 4 RShape) w M shapes ⟨0, 0, none⟩) (hO : ∀ b, M b → b < w.heap.size) {v0p : Value} {a_list : List Span} (h0 : VRep (RSlice RSpan) w M a_list v0p) {a_top : Int} {r : Bool} (h : F.spec_SpansValid a_list a_top = some r) :
  Calls Tryd.prog 133 [v0p, (.int .i64 a_top)].toArray w fun e w' => ∃ v, e = .returned v ∧ VRep RBool w' M r v ∧ BX No w w' := by
 have hC : Cx No w M w M := Cx.start hO (fun _ e => e.elim)
 refine walk (N := 60) Tryd.func133 Z Tryd.ntmps133 Z (cw_seq (cw_region (lw_op Z Z Z (ow_assign Z Z (lw_nil (ew_then (cw_seq (cw_seq (cw_region (lw_op Z Z Z (ow_assign Z Z (lw_nil (ew_then ?_)))))))))))))
 replace h := bind_some h
 obtain ⟨lr1, hlr1, h⟩ := h
 refine cw_for hlr1 (fun s a w' => ∃ (M' : Nat → Prop), Fits 60 [(0, v0p), (1, (Zv a_top)), (5, (Zv s))] a ∧ Le w M w' M' ∧ Cx No w M w' M') ?_ ?_ ?_
 · exact fun a ha => ⟨M, ha.sub ⟨Z, Z, Z, Zt⟩, Le.refl _ _, hC⟩
 ·
  rintro k1 a w1 sr1 ⟨M1, hF1, hl1, hC1⟩ hb1 hR1
  refine cw_at (E := [(0, v0p), (1, (Zv a_top)), (5, (Zv k1))]) hF1 (cw_seq (cw_seq (cw_region (lw_op Z Z Z (ow_move Z Z (lw_op Z Z Z (ow_move Z Z (lw_op Z Z Z (ow_len Z Z (VRep.mono hl1 h0) Tryd.underlying121 Z (lw_op Z Z Z (ow_lss Z Z Z fun bb1 hbb1 => lw_nil (ew_then ?_))))))))))))
  replace hb1 := cond_some hb1
  rcases hb1 with ⟨hc1, hb1⟩ | ⟨hc1, hb1⟩
  ·
   obtain rfl := hbb1.trans hc1
   refine cw_true Z (cw_skip (ew_then (cw_seq (cw_block (cw_seq ?_)))))
   replace hb1 := bind_some hb1
   obtain ⟨x1, hx1, hb1⟩ := hb1
   replace hb1 := bind_some hb1
   obtain ⟨x2, hx2, hb1⟩ := hb1
   replace hb1 := cond_some hb1
   rcases hb1 with ⟨hc2, hb1⟩ | ⟨hc2, hb1⟩
   ·
    subst hc2
    replace hb1 := bind_some hb1
    obtain ⟨x3, hx3, hb1⟩ := hb1
    replace hb1 := cond_some hb1
    rcases hb1 with ⟨hc3, hb1⟩ | ⟨hc3, hb1⟩
    ·
     subst hc3
     replace hb1 := cond_some hb1
     rcases hb1 with ⟨hc4, hb1⟩ | ⟨hc4, hb1⟩
     ·
      replace hb1 := bind_some hb1
      obtain ⟨x4, hx4, hb1⟩ := hb1
      refine cw_sub (E' := [(0, v0p), (1, (Zv a_top)), (5, (Zv k1))]) ⟨Z, Z, Z, Zt⟩ (cw_drawQ 38 [PV (RSlice RSpan) M1 a_list, PEq (Zv k1), PA RSpan M1 x1, PA RInt M1 x1.Lo, PEq (Zv x1.Lo), PV (RSlice RSpan) M1 a_list, PEq (Zv k1), PA RSpan M1 x1, PA RInt M1 x1.Hi, PEq (Zv x1.Hi), PEq (.bool true), PEq (.bool false), PEq (.bool false), PV (RSlice RSpan) M1 a_list, PEq (Zv k1), PA RSpan M1 x1, PA RInt M1 x1.Hi, PEq (Zv x1.Hi), PEq (Zv a_top), PEq (.bool true), PEq (.bool false), PEq (.bool false), PEq (.bool false), PEq (Zv k1), PEq (.bool true), PEq (.bool true), PV (RSlice RSpan) M1 a_list, PEq (Zv k1), PA RSpan M1 x1, PA RInt M1 x1.Lo, PEq (Zv x1.Lo), PV (RSlice RSpan) M1 a_list, PEq (Zv k1), PEq (Zv (W (k1 - 1))), PA RSpan M1 x4, PA RInt M1 x4.Hi, PEq (Zv x4.Hi), PEq (Zv (W (x4.Hi + 2)))] (by kernel_rfl) Z (by kernel_rfl) ⟨PV.mono _ _ _, Zq, PA.mono _ _ _, PA.mono _ _ _, Zq, PV.mono _ _ _, Zq, PA.mono _ _ _, PA.mono _ _ _, Zq, Zq, Zq, Zq, PV.mono _ _ _, Zq, PA.mono _ _ _, PA.mono _ _ _, Zq, Zq, Zq, Zq, Zq, Zq, Zq, Zq, Zq, PV.mono _ _ _, Zq, PA.mono _ _ _, PA.mono _ _ _, Zq, PV.mono _ _ _, Zq, Zq, PA.mono _ _ _, PA.mono _ _ _, Zq, Zq, Zt⟩ ⟨?_, ?_, ?_, ?_, ?_, ?_, ?_, ?_, ?_, ?_, ?_, ?_, ?_, ?_, ?_, ?_, ?_, ?_, ?_, ?_, ?_, ?_, ?_, ?_, ?_, ?_, ?_, ?_, ?_, ?_, ?_, ?_, ?_, ?_, ?_, ?_, ?_, ?_, Zt⟩ ?_)
      ·
       intro w4 D hS1 hd1
       have hl4 := Le.no M1 hS1
       exact dg_sub (E' := [(0, v0p)]) ⟨Z, Zt⟩ (dg_plain Z (ow_move Z Z ⟨BX.refl _ _, (VRep.mono (hl1.trans hl4) h0)⟩))
      · exact fun w5 D hS2 hd2 => dg_sub (E' := [(5, (Zv k1))]) ⟨Z, Zt⟩ (dg_plain Z (ow_move Z Z Zb))
      ·
       intro w6 D hS3 hd3
       have d1 : PV (RSlice RSpan) M1 a_list (D 0) w6 := dpA hd3 0 Z
       generalize hq1 : (D 0) = v9 at d1
       exact dg_sub (E' := [(12, v9), (13, (Zv k1))]) ⟨congrArg some hq1, dpE hd3 1 Z Z, Zt⟩ (dg_plain Z (ow_indexSlice (R := RSpan) Z Z Z d1 Tryd.underlying121 (Tryd.sizeOf120 _) hx1 fun p6 hp6 => ⟨BX.refl _ _, ⟨_, Z, hp6⟩⟩))
      ·
       intro w7 D hS4 hd4
       have d3 : PA RSpan M1 x1 (D 2) w7 := dpA hd4 2 Z
       obtain ⟨p7, e1, ha1⟩ := d3
       exact dg_sub (E' := [(14, (.pointer (some p7)))]) ⟨congrArg some e1, Zt⟩ (dg_plain Z (ow_fieldAddr Z Z Tryd.underlying120 Z (Tryd.sizeOf3 _) ⟨BX.refl _ _, ⟨_, Z, (ha1.fld fld_Span_Lo)⟩⟩))
      ·
       intro w8 D hS5 hd5
       have d4 : PA RInt M1 x1.Lo (D 3) w8 := dpA hd5 3 Z
       obtain ⟨p8, e2, ha2⟩ := d4
       refine dg_sub (E' := [(15, (.pointer (some p8)))]) ⟨congrArg some e2, Zt⟩ (dg_plain Z (ow_load (R := RInt) Z Z ha2 (Tryd.sizeOf3 _) (Tryd.isAgg3 _) fun v10 hv10 => ?_))
       obtain rfl := vint_eq hv10
       exact Zb
      ·
       intro w9 D hS6 hd6
       have hl9 := Le.no M1 hS6
       exact dg_sub (E' := [(0, v0p)]) ⟨Z, Zt⟩ (dg_plain Z (ow_move Z Z ⟨BX.refl _ _, (VRep.mono (hl1.trans hl9) h0)⟩))
      · exact fun w10 D hS7 hd7 => dg_sub (E' := [(5, (Zv k1))]) ⟨Z, Zt⟩ (dg_plain Z (ow_move Z Z Zb))
      ·
       intro w11 D hS8 hd8
       have d5 : PV (RSlice RSpan) M1 a_list (D 5) w11 := dpA hd8 5 Z
       generalize hq2 : (D 5) = v11 at d5
       exact dg_sub (E' := [(17, v11), (18, (Zv k1))]) ⟨congrArg some hq2, dpE hd8 6 Z Z, Zt⟩ (dg_plain Z (ow_indexSlice (R := RSpan) Z Z Z d5 Tryd.underlying121 (Tryd.sizeOf120 _) hx1 fun p9 hp9 => ⟨BX.refl _ _, ⟨_, Z, hp9⟩⟩))
      ·
       intro w12 D hS9 hd9
       have d7 : PA RSpan M1 x1 (D 7) w12 := dpA hd9 7 Z
       obtain ⟨p10, e3, ha3⟩ := d7
       exact dg_sub (E' := [(19, (.pointer (some p10)))]) ⟨congrArg some e3, Zt⟩ (dg_plain Z (ow_fieldAddr Z Z Tryd.underlying120 Z (Tryd.sizeOf3 _) ⟨BX.refl _ _, ⟨_, Z, (ha3.fld fld_Span_Hi)⟩⟩))
      ·
       intro w13 D hS10 hd10
       have d8 : PA RInt M1 x1.Hi (D 8) w13 := dpA hd10 8 Z
       obtain ⟨p11, e4, ha4⟩ := d8
       refine dg_sub (E' := [(20, (.pointer (some p11)))]) ⟨congrArg some e4, Zt⟩ (dg_plain Z (ow_load (R := RInt) Z Z ha4 (Tryd.sizeOf3 _) (Tryd.isAgg3 _) fun v12 hv12 => ?_))
       obtain rfl := vint_eq hv12
       exact Zb
      ·
       intro w14 D hS11 hd11
       have hl14 := Le.no M1 hS11
       have hC14 := hC1.no hS11
       refine dg_sub (E' := [(16, (Zv x1.Lo)), (21, (Zv x1.Hi))]) ⟨dpE hd11 4 Z Z, dpE hd11 9 Z Z, Zt⟩ (dg_plain Z (ow_call Z Z Tryd.call118 (w_spec_l1In (hG.mono (hl1.trans hl14)) hC14.old hx2) fun v13 w15 hv13 => ?_))
       obtain ⟨hv13, hb4⟩ := hv13
       obtain rfl := vbool_eq hv13
       exact ⟨hb4, Z⟩
      · exact fun w16 D hS12 hd12 => dg_sub (E' := [(22, (.bool true))]) ⟨dpE hd12 10 Z Z, Zt⟩ (dg_plain Z (ow_not Z Z Zb))
      · exact fun w17 D hS13 hd13 => dg_sub (E' := [(23, (.bool false))]) ⟨dpE hd13 11 Z Z, Zt⟩ (dg_plain Z (ow_move Z Z Zb))
      ·
       intro w18 D hS14 hd14
       have hl18 := Le.no M1 hS14
       exact dg_sub (E' := [(24, (.bool false)), (0, v0p)]) ⟨dpE hd14 12 Z Z, Z, Zt⟩ (dg_on Z Z Z Z (ow_move Z Z ⟨BX.refl _ _, (VRep.mono (hl1.trans hl18) h0)⟩))
      · exact fun w19 D hS15 hd15 => dg_sub (E' := [(24, (.bool false)), (5, (Zv k1))]) ⟨dpE hd15 12 Z Z, Z, Zt⟩ (dg_on Z Z Z Z (ow_move Z Z Zb))
      ·
       intro w20 D hS16 hd16
       have d16 : PV (RSlice RSpan) M1 a_list (D 13) w20 := dpA hd16 13 Z
       generalize hq3 : (D 13) = v14 at d16
       exact dg_sub (E' := [(25, v14), (26, (Zv k1)), (24, (.bool false))]) ⟨congrArg some hq3, dpE hd16 14 Z Z, dpE hd16 12 Z Z, Zt⟩ (dg_on Z Z Z Z (ow_indexSlice (R := RSpan) Z Z Z d16 Tryd.underlying121 (Tryd.sizeOf120 _) hx1 fun p12 hp12 => ⟨BX.refl _ _, ⟨_, Z, hp12⟩⟩))
      ·
       intro w21 D hS17 hd17
       have d19 : PA RSpan M1 x1 (D 15) w21 := dpA hd17 15 Z
       obtain ⟨p13, e5, ha5⟩ := d19
       exact dg_sub (E' := [(27, (.pointer (some p13))), (24, (.bool false))]) ⟨congrArg some e5, dpE hd17 12 Z Z, Zt⟩ (dg_on Z Z Z Z (ow_fieldAddr Z Z Tryd.underlying120 Z (Tryd.sizeOf3 _) ⟨BX.refl _ _, ⟨_, Z, (ha5.fld fld_Span_Hi)⟩⟩))
      ·
       intro w22 D hS18 hd18
       have d21 : PA RInt M1 x1.Hi (D 16) w22 := dpA hd18 16 Z
       obtain ⟨p14, e6, ha6⟩ := d21
       refine dg_sub (E' := [(28, (.pointer (some p14))), (24, (.bool false))]) ⟨congrArg some e6, dpE hd18 12 Z Z, Zt⟩ (dg_on Z Z Z Z (ow_load (R := RInt) Z Z ha6 (Tryd.sizeOf3 _) (Tryd.isAgg3 _) fun v15 hv15 => ?_))
       obtain rfl := vint_eq hv15
       exact Zb
      · exact fun w23 D hS19 hd19 => dg_sub (E' := [(24, (.bool false)), (1, (Zv a_top))]) ⟨dpE hd19 12 Z Z, Z, Zt⟩ (dg_on Z Z Z Z (ow_move Z Z Zb))
      ·
       intro w24 D hS20 hd20
       have hl24 := Le.no M1 hS20
       have hC24 := hC1.no hS20
       refine dg_sub (E' := [(29, (Zv x1.Hi)), (30, (Zv a_top)), (24, (.bool false))]) ⟨dpE hd20 17 Z Z, dpE hd20 18 Z Z, dpE hd20 12 Z Z, Zt⟩ (dg_on Z Z Z Z (ow_call Z Z Tryd.call118 (w_spec_l1In (hG.mono (hl1.trans hl24)) hC24.old hx3) fun v16 w25 hv16 => ?_))
       obtain ⟨hv16, hb5⟩ := hv16
       obtain rfl := vbool_eq hv16
       exact ⟨hb5, Z⟩
      · exact fun w26 D hS21 hd21 => dg_sub (E' := [(31, (.bool true)), (24, (.bool false))]) ⟨dpE hd21 19 Z Z, dpE hd21 12 Z Z, Zt⟩ (dg_on Z Z Z Z (ow_not Z Z Zb))
      · exact fun w27 D hS22 hd22 => dg_sub (E' := [(24, (.bool false)), (32, (.bool false))]) ⟨dpE hd22 12 Z Z, dpE hd22 20 Z Z, Zt⟩ (dg_plain Z (ow_pickF Z Z Z Zb))
      · exact fun w28 D hS23 hd23 => dg_sub (E' := [(33, (.bool false))]) ⟨dpE hd23 21 Z Z, Zt⟩ (dg_plain Z (ow_move Z Z Zb))
      · exact fun w29 D hS24 hd24 => dg_sub (E' := [(34, (.bool false)), (5, (Zv k1))]) ⟨dpE hd24 22 Z Z, Z, Zt⟩ (dg_on Z Z Z Z (ow_move Z Z Zb))
      ·
       intro w30 D hS25 hd25
       refine dg_sub (E' := [(35, (Zv k1)), (34, (.bool false))]) ⟨dpE hd25 23 Z Z, dpE hd25 22 Z Z, Zt⟩ (dg_on Z Z Z Z (ow_gtr Z Z Z fun bb3 hbb3 => ?_))
       obtain rfl := hbb3.trans hc4
       exact Zb
      · exact fun w31 D hS26 hd26 => dg_sub (E' := [(36, (.bool true)), (34, (.bool false))]) ⟨dpE hd26 24 Z Z, dpE hd26 22 Z Z, Zt⟩ (dg_on Z Z Z Z (ow_move Z Z Zb))
      ·
       intro w32 D hS27 hd27
       have hl32 := Le.no M1 hS27
       exact dg_sub (E' := [(37, (.bool true)), (0, v0p)]) ⟨dpE hd27 25 Z Z, Z, Zt⟩ (dg_on Z Z Z Z (ow_move Z Z ⟨BX.refl _ _, (VRep.mono (hl1.trans hl32) h0)⟩))
      · exact fun w33 D hS28 hd28 => dg_sub (E' := [(37, (.bool true)), (5, (Zv k1))]) ⟨dpE hd28 25 Z Z, Z, Zt⟩ (dg_on Z Z Z Z (ow_move Z Z Zb))
      ·
       intro w34 D hS29 hd29
       have d42 : PV (RSlice RSpan) M1 a_list (D 26) w34 := dpA hd29 26 Z
       generalize hq4 : (D 26) = v17 at d42
       exact dg_sub (E' := [(38, v17), (39, (Zv k1)), (37, (.bool true))]) ⟨congrArg some hq4, dpE hd29 27 Z Z, dpE hd29 25 Z Z, Zt⟩ (dg_on Z Z Z Z (ow_indexSlice (R := RSpan) Z Z Z d42 Tryd.underlying121 (Tryd.sizeOf120 _) hx1 fun p15 hp15 => ⟨BX.refl _ _, ⟨_, Z, hp15⟩⟩))
      ·
       intro w35 D hS30 hd30
       have d45 : PA RSpan M1 x1 (D 28) w35 := dpA hd30 28 Z
       obtain ⟨p16, e7, ha7⟩ := d45
       exact dg_sub (E' := [(40, (.pointer (some p16))), (37, (.bool true))]) ⟨congrArg some e7, dpE hd30 25 Z Z, Zt⟩ (dg_on Z Z Z Z (ow_fieldAddr Z Z Tryd.underlying120 Z (Tryd.sizeOf3 _) ⟨BX.refl _ _, ⟨_, Z, (ha7.fld fld_Span_Lo)⟩⟩))
      ·
       intro w36 D hS31 hd31
       have d47 : PA RInt M1 x1.Lo (D 29) w36 := dpA hd31 29 Z
       obtain ⟨p17, e8, ha8⟩ := d47
       refine dg_sub (E' := [(41, (.pointer (some p17))), (37, (.bool true))]) ⟨congrArg some e8, dpE hd31 25 Z Z, Zt⟩ (dg_on Z Z Z Z (ow_load (R := RInt) Z Z ha8 (Tryd.sizeOf3 _) (Tryd.isAgg3 _) fun v18 hv18 => ?_))
       obtain rfl := vint_eq hv18
       exact Zb
      ·
       intro w37 D hS32 hd32
       have hl37 := Le.no M1 hS32
       exact dg_sub (E' := [(37, (.bool true)), (0, v0p)]) ⟨dpE hd32 25 Z Z, Z, Zt⟩ (dg_on Z Z Z Z (ow_move Z Z ⟨BX.refl _ _, (VRep.mono (hl1.trans hl37) h0)⟩))
      · exact fun w38 D hS33 hd33 => dg_sub (E' := [(37, (.bool true)), (5, (Zv k1))]) ⟨dpE hd33 25 Z Z, Z, Zt⟩ (dg_on Z Z Z Z (ow_move Z Z Zb))
      · exact fun w39 D hS34 hd34 => dg_sub (E' := [(44, (Zv k1)), (37, (.bool true))]) ⟨dpE hd34 32 Z Z, dpE hd34 25 Z Z, Zt⟩ (dg_on Z Z Z Z (ow_sub Z Z Z Zb))
      ·
       intro w40 D hS35 hd35
       have d53 : PV (RSlice RSpan) M1 a_list (D 31) w40 := dpA hd35 31 Z
       generalize hq5 : (D 31) = v19 at d53
       exact dg_sub (E' := [(43, v19), (45, (Zv (W (k1 - 1)))), (37, (.bool true))]) ⟨congrArg some hq5, dpE hd35 33 Z Z, dpE hd35 25 Z Z, Zt⟩ (dg_on Z Z Z Z (ow_indexSlice (R := RSpan) Z Z Z d53 Tryd.underlying121 (Tryd.sizeOf120 _) hx4 fun p18 hp18 => ⟨BX.refl _ _, ⟨_, Z, hp18⟩⟩))
      ·
       intro w41 D hS36 hd36
       have d56 : PA RSpan M1 x4 (D 34) w41 := dpA hd36 34 Z
       obtain ⟨p19, e9, ha9⟩ := d56
       exact dg_sub (E' := [(46, (.pointer (some p19))), (37, (.bool true))]) ⟨congrArg some e9, dpE hd36 25 Z Z, Zt⟩ (dg_on Z Z Z Z (ow_fieldAddr Z Z Tryd.underlying120 Z (Tryd.sizeOf3 _) ⟨BX.refl _ _, ⟨_, Z, (ha9.fld fld_Span_Hi)⟩⟩))
      ·
       intro w42 D hS37 hd37
       have d58 : PA RInt M1 x4.Hi (D 35) w42 := dpA hd37 35 Z
       obtain ⟨p20, e10, ha10⟩ := d58
       refine dg_sub (E' := [(47, (.pointer (some p20))), (37, (.bool true))]) ⟨congrArg some e10, dpE hd37 25 Z Z, Zt⟩ (dg_on Z Z Z Z (ow_load (R := RInt) Z Z ha10 (Tryd.sizeOf3 _) (Tryd.isAgg3 _) fun v20 hv20 => ?_))
       obtain rfl := vint_eq hv20
       exact Zb
      · exact fun w43 D hS38 hd38 => dg_sub (E' := [(48, (Zv x4.Hi)), (37, (.bool true))]) ⟨dpE hd38 36 Z Z, dpE hd38 25 Z Z, Zt⟩ (dg_on Z Z Z Z (ow_add Z Z Z Zb))
      ·
       intro w44 D hS39 hd39
       have hl44 := Le.no M1 hS39
       have hC44 := hC1.no hS39
       refine lw_sub (E' := [(34, (.bool false)), (37, (.bool true)), (42, (Zv x1.Lo)), (49, (Zv (W (x4.Hi + 2)))), (0, v0p), (1, (Zv a_top)), (5, (Zv k1))]) ⟨dpE hd39 22 Z Z, dpE hd39 25 Z Z, dpE hd39 30 Z Z, dpE hd39 37 Z Z, Z, Z, Z, Zt⟩ (lw_on Z Z Z Z Z Z (ow_lss Z Z Z fun bb4 hbb4 => lw_on Z Z Z Z Z Z (ow_pickT Z Z Z (lw_op Z Z Z (ow_pickF Z Z Z (lw_nil (ew_then ?_)))))))
       replace hb1 := cond_some hb1
       rcases hb1 with ⟨hc5, hb1⟩ | ⟨hc5, hb1⟩
       ·
        obtain rfl := hbb4.trans hc5
        refine cw_true Z (cw_seq (cw_region (lw_op Z Z Z (ow_assign Z Z (lw_nil (ew_then (cw_ret (ew_blockR (ew_thenR (ew_thenR (ew_blockR (ew_brkR (ew_thenR ?_)))))))))))))
        have e11 := hR1 _ (sj hb1).symm
        subst e11
        obtain rfl := sj h
        exact ew_ret (res1 Z (.tmp Z)) ⟨_, Z, ((vbool _)), hC44.bx⟩
       ·
        obtain rfl := hbb4.trans hc5
        exact cw_false Z (cw_skip (ew_blockN (ew_then (cw_region (lw_op Z Z Z (ow_move Z Z (lw_op Z Z Z (ow_add Z Z Z (lw_op Z Z Z (ow_assign Z Z (lw_nil (ew_nxt (W (k1 + 1)) hb1 fun a ha => ⟨M1, (ha.sub ⟨Z, Z, Z, Zt⟩), (hl1.trans hl44), hC44⟩))))))))))))
     ·
      refine cw_sub (E' := [(0, v0p), (1, (Zv a_top)), (5, (Zv k1))]) ⟨Z, Z, Z, Zt⟩ (cw_drawQ 38 [PV (RSlice RSpan) M1 a_list, PEq (Zv k1), PA RSpan M1 x1, PA RInt M1 x1.Lo, PEq (Zv x1.Lo), PV (RSlice RSpan) M1 a_list, PEq (Zv k1), PA RSpan M1 x1, PA RInt M1 x1.Hi, PEq (Zv x1.Hi), PEq (.bool true), PEq (.bool false), PEq (.bool false), PV (RSlice RSpan) M1 a_list, PEq (Zv k1), PA RSpan M1 x1, PA RInt M1 x1.Hi, PEq (Zv x1.Hi), PEq (Zv a_top), PEq (.bool true), PEq (.bool false), PEq (.bool false), PEq (.bool false), PEq (Zv k1), PEq (.bool false), PEq (.bool false), PEq undef, PEq undef, PEq undef, PEq undef, PEq undef, PEq undef, PEq undef, PEq undef, PEq undef, PEq undef, PEq undef, PEq undef] (by kernel_rfl) Z (by kernel_rfl) ⟨PV.mono _ _ _, Zq, PA.mono _ _ _, PA.mono _ _ _, Zq, PV.mono _ _ _, Zq, PA.mono _ _ _, PA.mono _ _ _, Zq, Zq, Zq, Zq, PV.mono _ _ _, Zq, PA.mono _ _ _, PA.mono _ _ _, Zq, Zq, Zq, Zq, Zq, Zq, Zq, Zq, Zq, Zq, Zq, Zq, Zq, Zq, Zq, Zq, Zq, Zq, Zq, Zq, Zq, Zt⟩ ⟨?_, ?_, ?_, ?_, ?_, ?_, ?_, ?_, ?_, ?_, ?_, ?_, ?_, ?_, ?_, ?_, ?_, ?_, ?_, ?_, ?_, ?_, ?_, ?_, ?_, ?_, ?_, ?_, ?_, ?_, ?_, ?_, ?_, ?_, ?_, ?_, ?_, ?_, Zt⟩ ?_)
      ·
       intro w45 D hS40 hd40
       have hl45 := Le.no M1 hS40
       exact dg_sub (E' := [(0, v0p)]) ⟨Z, Zt⟩ (dg_plain Z (ow_move Z Z ⟨BX.refl _ _, (VRep.mono (hl1.trans hl45) h0)⟩))
      · exact fun w46 D hS41 hd41 => dg_sub (E' := [(5, (Zv k1))]) ⟨Z, Zt⟩ (dg_plain Z (ow_move Z Z Zb))
      ·
       intro w47 D hS42 hd42
       have d100 : PV (RSlice RSpan) M1 a_list (D 0) w47 := dpA hd42 0 Z
       generalize hq6 : (D 0) = v21 at d100
       exact dg_sub (E' := [(12, v21), (13, (Zv k1))]) ⟨congrArg some hq6, dpE hd42 1 Z Z, Zt⟩ (dg_plain Z (ow_indexSlice (R := RSpan) Z Z Z d100 Tryd.underlying121 (Tryd.sizeOf120 _) hx1 fun p21 hp21 => ⟨BX.refl _ _, ⟨_, Z, hp21⟩⟩))
      ·
       intro w48 D hS43 hd43
       have d102 : PA RSpan M1 x1 (D 2) w48 := dpA hd43 2 Z
       obtain ⟨p22, e12, ha11⟩ := d102
       exact dg_sub (E' := [(14, (.pointer (some p22)))]) ⟨congrArg some e12, Zt⟩ (dg_plain Z (ow_fieldAddr Z Z Tryd.underlying120 Z (Tryd.sizeOf3 _) ⟨BX.refl _ _, ⟨_, Z, (ha11.fld fld_Span_Lo)⟩⟩))
      ·
       intro w49 D hS44 hd44
       have d103 : PA RInt M1 x1.Lo (D 3) w49 := dpA hd44 3 Z
       obtain ⟨p23, e13, ha12⟩ := d103
       refine dg_sub (E' := [(15, (.pointer (some p23)))]) ⟨congrArg some e13, Zt⟩ (dg_plain Z (ow_load (R := RInt) Z Z ha12 (Tryd.sizeOf3 _) (Tryd.isAgg3 _) fun v22 hv22 => ?_))
       obtain rfl := vint_eq hv22
       exact Zb
      ·
       intro w50 D hS45 hd45
       have hl50 := Le.no M1 hS45
       exact dg_sub (E' := [(0, v0p)]) ⟨Z, Zt⟩ (dg_plain Z (ow_move Z Z ⟨BX.refl _ _, (VRep.mono (hl1.trans hl50) h0)⟩))
      · exact fun w51 D hS46 hd46 => dg_sub (E' := [(5, (Zv k1))]) ⟨Z, Zt⟩ (dg_plain Z (ow_move Z Z Zb))
      ·
       intro w52 D hS47 hd47
       have d104 : PV (RSlice RSpan) M1 a_list (D 5) w52 := dpA hd47 5 Z
       generalize hq7 : (D 5) = v23 at d104
       exact dg_sub (E' := [(17, v23), (18, (Zv k1))]) ⟨congrArg some hq7, dpE hd47 6 Z Z, Zt⟩ (dg_plain Z (ow_indexSlice (R := RSpan) Z Z Z d104 Tryd.underlying121 (Tryd.sizeOf120 _) hx1 fun p24 hp24 => ⟨BX.refl _ _, ⟨_, Z, hp24⟩⟩))
      ·
       intro w53 D hS48 hd48
       have d106 : PA RSpan M1 x1 (D 7) w53 := dpA hd48 7 Z
       obtain ⟨p25, e14, ha13⟩ := d106
       exact dg_sub (E' := [(19, (.pointer (some p25)))]) ⟨congrArg some e14, Zt⟩ (dg_plain Z (ow_fieldAddr Z Z Tryd.underlying120 Z (Tryd.sizeOf3 _) ⟨BX.refl _ _, ⟨_, Z, (ha13.fld fld_Span_Hi)⟩⟩))
      ·
       intro w54 D hS49 hd49
       have d107 : PA RInt M1 x1.Hi (D 8) w54 := dpA hd49 8 Z
       obtain ⟨p26, e15, ha14⟩ := d107
       refine dg_sub (E' := [(20, (.pointer (some p26)))]) ⟨congrArg some e15, Zt⟩ (dg_plain Z (ow_load (R := RInt) Z Z ha14 (Tryd.sizeOf3 _) (Tryd.isAgg3 _) fun v24 hv24 => ?_))
       obtain rfl := vint_eq hv24
       exact Zb
      ·
       intro w55 D hS50 hd50
       have hl55 := Le.no M1 hS50
       have hC55 := hC1.no hS50
       refine dg_sub (E' := [(16, (Zv x1.Lo)), (21, (Zv x1.Hi))]) ⟨dpE hd50 4 Z Z, dpE hd50 9 Z Z, Zt⟩ (dg_plain Z (ow_call Z Z Tryd.call118 (w_spec_l1In (hG.mono (hl1.trans hl55)) hC55.old hx2) fun v25 w56 hv25 => ?_))
       obtain ⟨hv25, hb6⟩ := hv25
       obtain rfl := vbool_eq hv25
       exact ⟨hb6, Z⟩
      · exact fun w57 D hS51 hd51 => dg_sub (E' := [(22, (.bool true))]) ⟨dpE hd51 10 Z Z, Zt⟩ (dg_plain Z (ow_not Z Z Zb))
      · exact fun w58 D hS52 hd52 => dg_sub (E' := [(23, (.bool false))]) ⟨dpE hd52 11 Z Z, Zt⟩ (dg_plain Z (ow_move Z Z Zb))
      ·
       intro w59 D hS53 hd53
       have hl59 := Le.no M1 hS53
       exact dg_sub (E' := [(24, (.bool false)), (0, v0p)]) ⟨dpE hd53 12 Z Z, Z, Zt⟩ (dg_on Z Z Z Z (ow_move Z Z ⟨BX.refl _ _, (VRep.mono (hl1.trans hl59) h0)⟩))
      · exact fun w60 D hS54 hd54 => dg_sub (E' := [(24, (.bool false)), (5, (Zv k1))]) ⟨dpE hd54 12 Z Z, Z, Zt⟩ (dg_on Z Z Z Z (ow_move Z Z Zb))
      ·
       intro w61 D hS55 hd55
       have d115 : PV (RSlice RSpan) M1 a_list (D 13) w61 := dpA hd55 13 Z
       generalize hq8 : (D 13) = v26 at d115
       exact dg_sub (E' := [(25, v26), (26, (Zv k1)), (24, (.bool false))]) ⟨congrArg some hq8, dpE hd55 14 Z Z, dpE hd55 12 Z Z, Zt⟩ (dg_on Z Z Z Z (ow_indexSlice (R := RSpan) Z Z Z d115 Tryd.underlying121 (Tryd.sizeOf120 _) hx1 fun p27 hp27 => ⟨BX.refl _ _, ⟨_, Z, hp27⟩⟩))
      ·
       intro w62 D hS56 hd56
       have d118 : PA RSpan M1 x1 (D 15) w62 := dpA hd56 15 Z
       obtain ⟨p28, e16, ha15⟩ := d118
       exact dg_sub (E' := [(27, (.pointer (some p28))), (24, (.bool false))]) ⟨congrArg some e16, dpE hd56 12 Z Z, Zt⟩ (dg_on Z Z Z Z (ow_fieldAddr Z Z Tryd.underlying120 Z (Tryd.sizeOf3 _) ⟨BX.refl _ _, ⟨_, Z, (ha15.fld fld_Span_Hi)⟩⟩))
      ·
       intro w63 D hS57 hd57
       have d120 : PA RInt M1 x1.Hi (D 16) w63 := dpA hd57 16 Z
       obtain ⟨p29, e17, ha16⟩ := d120
       refine dg_sub (E' := [(28, (.pointer (some p29))), (24, (.bool false))]) ⟨congrArg some e17, dpE hd57 12 Z Z, Zt⟩ (dg_on Z Z Z Z (ow_load (R := RInt) Z Z ha16 (Tryd.sizeOf3 _) (Tryd.isAgg3 _) fun v27 hv27 => ?_))
       obtain rfl := vint_eq hv27
       exact Zb
      · exact fun w64 D hS58 hd58 => dg_sub (E' := [(24, (.bool false)), (1, (Zv a_top))]) ⟨dpE hd58 12 Z Z, Z, Zt⟩ (dg_on Z Z Z Z (ow_move Z Z Zb))
      ·
       intro w65 D hS59 hd59
       have hl65 := Le.no M1 hS59
       have hC65 := hC1.no hS59
       refine dg_sub (E' := [(29, (Zv x1.Hi)), (30, (Zv a_top)), (24, (.bool false))]) ⟨dpE hd59 17 Z Z, dpE hd59 18 Z Z, dpE hd59 12 Z Z, Zt⟩ (dg_on Z Z Z Z (ow_call Z Z Tryd.call118 (w_spec_l1In (hG.mono (hl1.trans hl65)) hC65.old hx3) fun v28 w66 hv28 => ?_))
       obtain ⟨hv28, hb7⟩ := hv28
       obtain rfl := vbool_eq hv28
       exact ⟨hb7, Z⟩
      · exact fun w67 D hS60 hd60 => dg_sub (E' := [(31, (.bool true)), (24, (.bool false))]) ⟨dpE hd60 19 Z Z, dpE hd60 12 Z Z, Zt⟩ (dg_on Z Z Z Z (ow_not Z Z Zb))
      · exact fun w68 D hS61 hd61 => dg_sub (E' := [(24, (.bool false)), (32, (.bool false))]) ⟨dpE hd61 12 Z Z, dpE hd61 20 Z Z, Zt⟩ (dg_plain Z (ow_pickF Z Z Z Zb))
      · exact fun w69 D hS62 hd62 => dg_sub (E' := [(33, (.bool false))]) ⟨dpE hd62 21 Z Z, Zt⟩ (dg_plain Z (ow_move Z Z Zb))
      · exact fun w70 D hS63 hd63 => dg_sub (E' := [(34, (.bool false)), (5, (Zv k1))]) ⟨dpE hd63 22 Z Z, Z, Zt⟩ (dg_on Z Z Z Z (ow_move Z Z Zb))
      ·
       intro w71 D hS64 hd64
       refine dg_sub (E' := [(35, (Zv k1)), (34, (.bool false))]) ⟨dpE hd64 23 Z Z, dpE hd64 22 Z Z, Zt⟩ (dg_on Z Z Z Z (ow_gtr Z Z Z fun bb5 hbb5 => ?_))
       obtain rfl := hbb5.trans hc4
       exact Zb
      · exact fun w72 D hS65 hd65 => dg_sub (E' := [(36, (.bool false)), (34, (.bool false))]) ⟨dpE hd65 24 Z Z, dpE hd65 22 Z Z, Zt⟩ (dg_on Z Z Z Z (ow_move Z Z Zb))
      · exact fun w73 D hS66 hd66 => dg_sub (E' := [(37, (.bool false)), (0, v0p)]) ⟨dpE hd66 25 Z Z, Z, Zt⟩ (dg_off Z Z Z Z Zb)
      · exact fun w74 D hS67 hd67 => dg_sub (E' := [(37, (.bool false)), (5, (Zv k1))]) ⟨dpE hd67 25 Z Z, Z, Zt⟩ (dg_off Z Z Z Z Zb)
      · exact fun w75 D hS68 hd68 => dg_sub (E' := [(38, undef), (39, undef), (37, (.bool false))]) ⟨dpE hd68 26 Z Z, dpE hd68 27 Z Z, dpE hd68 25 Z Z, Zt⟩ (dg_off Z Z Z Z Zb)
      · exact fun w76 D hS69 hd69 => dg_sub (E' := [(40, undef), (37, (.bool false))]) ⟨dpE hd69 28 Z Z, dpE hd69 25 Z Z, Zt⟩ (dg_off Z Z Z Z Zb)
      · exact fun w77 D hS70 hd70 => dg_sub (E' := [(41, undef), (37, (.bool false))]) ⟨dpE hd70 29 Z Z, dpE hd70 25 Z Z, Zt⟩ (dg_off Z Z Z Z Zb)
      · exact fun w78 D hS71 hd71 => dg_sub (E' := [(37, (.bool false)), (0, v0p)]) ⟨dpE hd71 25 Z Z, Z, Zt⟩ (dg_off Z Z Z Z Zb)
      · exact fun w79 D hS72 hd72 => dg_sub (E' := [(37, (.bool false)), (5, (Zv k1))]) ⟨dpE hd72 25 Z Z, Z, Zt⟩ (dg_off Z Z Z Z Zb)
      · exact fun w80 D hS73 hd73 => dg_sub (E' := [(44, undef), (37, (.bool false))]) ⟨dpE hd73 32 Z Z, dpE hd73 25 Z Z, Zt⟩ (dg_off Z Z Z Z Zb)
      · exact fun w81 D hS74 hd74 => dg_sub (E' := [(43, undef), (45, undef), (37, (.bool false))]) ⟨dpE hd74 31 Z Z, dpE hd74 33 Z Z, dpE hd74 25 Z Z, Zt⟩ (dg_off Z Z Z Z Zb)
      · exact fun w82 D hS75 hd75 => dg_sub (E' := [(46, undef), (37, (.bool false))]) ⟨dpE hd75 34 Z Z, dpE hd75 25 Z Z, Zt⟩ (dg_off Z Z Z Z Zb)
      · exact fun w83 D hS76 hd76 => dg_sub (E' := [(47, undef), (37, (.bool false))]) ⟨dpE hd76 35 Z Z, dpE hd76 25 Z Z, Zt⟩ (dg_off Z Z Z Z Zb)
      · exact fun w84 D hS77 hd77 => dg_sub (E' := [(48, undef), (37, (.bool false))]) ⟨dpE hd77 36 Z Z, dpE hd77 25 Z Z, Zt⟩ (dg_off Z Z Z Z Zb)
      ·
       intro w85 D hS78 hd78
       have hl85 := Le.no M1 hS78
       have hC85 := hC1.no hS78
       exact lw_sub (E' := [(34, (.bool false)), (37, (.bool false)), (42, undef), (49, undef), (0, v0p), (1, (Zv a_top)), (5, (Zv k1))]) ⟨dpE hd78 22 Z Z, dpE hd78 25 Z Z, dpE hd78 30 Z Z, dpE hd78 37 Z Z, Z, Z, Z, Zt⟩ (lw_off Z Z Z Z Z Z (lw_on Z Z Z Z Z Z (ow_pickF Z Z Z (lw_op Z Z Z (ow_pickF Z Z Z (lw_nil (ew_then (cw_false Z (cw_skip (ew_blockN (ew_then (cw_region (lw_op Z Z Z (ow_move Z Z (lw_op Z Z Z (ow_add Z Z Z (lw_op Z Z Z (ow_assign Z Z (lw_nil (ew_nxt (W (k1 + 1)) hb1 fun a ha => ⟨M1, (ha.sub ⟨Z, Z, Z, Zt⟩), (hl1.trans hl85), hC85⟩))))))))))))))))))))
    ·
     subst hc3
     refine cw_sub (E' := [(0, v0p), (1, (Zv a_top)), (5, (Zv k1))]) ⟨Z, Z, Z, Zt⟩ (cw_drawQ 38 [PV (RSlice RSpan) M1 a_list, PEq (Zv k1), PA RSpan M1 x1, PA RInt M1 x1.Lo, PEq (Zv x1.Lo), PV (RSlice RSpan) M1 a_list, PEq (Zv k1), PA RSpan M1 x1, PA RInt M1 x1.Hi, PEq (Zv x1.Hi), PEq (.bool true), PEq (.bool false), PEq (.bool false), PV (RSlice RSpan) M1 a_list, PEq (Zv k1), PA RSpan M1 x1, PA RInt M1 x1.Hi, PEq (Zv x1.Hi), PEq (Zv a_top), PEq (.bool false), PEq (.bool true), PEq (.bool true), PEq (.bool true), PEq undef, PEq undef, PEq undef, PEq undef, PEq undef, PEq undef, PEq undef, PEq undef, PEq undef, PEq undef, PEq undef, PEq undef, PEq undef, PEq undef, PEq undef] (by kernel_rfl) Z (by kernel_rfl) ⟨PV.mono _ _ _, Zq, PA.mono _ _ _, PA.mono _ _ _, Zq, PV.mono _ _ _, Zq, PA.mono _ _ _, PA.mono _ _ _, Zq, Zq, Zq, Zq, PV.mono _ _ _, Zq, PA.mono _ _ _, PA.mono _ _ _, Zq, Zq, Zq, Zq, Zq, Zq, Zq, Zq, Zq, Zq, Zq, Zq, Zq, Zq, Zq, Zq, Zq, Zq, Zq, Zq, Zq, Zt⟩ ⟨?_, ?_, ?_, ?_, ?_, ?_, ?_, ?_, ?_, ?_, ?_, ?_, ?_, ?_, ?_, ?_, ?_, ?_, ?_, ?_, ?_, ?_, ?_, ?_, ?_, ?_, ?_, ?_, ?_, ?_, ?_, ?_, ?_, ?_, ?_, ?_, ?_, ?_, Zt⟩ ?_)
     ·
      intro w86 D hS79 hd79
      have hl86 := Le.no M1 hS79
      exact dg_sub (E' := [(0, v0p)]) ⟨Z, Zt⟩ (dg_plain Z (ow_move Z Z ⟨BX.refl _ _, (VRep.mono (hl1.trans hl86) h0)⟩))
     · exact fun w87 D hS80 hd80 => dg_sub (E' := [(5, (Zv k1))]) ⟨Z, Zt⟩ (dg_plain Z (ow_move Z Z Zb))
     ·
      intro w88 D hS81 hd81
      have d199 : PV (RSlice RSpan) M1 a_list (D 0) w88 := dpA hd81 0 Z
      generalize hq9 : (D 0) = v29 at d199
      exact dg_sub (E' := [(12, v29), (13, (Zv k1))]) ⟨congrArg some hq9, dpE hd81 1 Z Z, Zt⟩ (dg_plain Z (ow_indexSlice (R := RSpan) Z Z Z d199 Tryd.underlying121 (Tryd.sizeOf120 _) hx1 fun p30 hp30 => ⟨BX.refl _ _, ⟨_, Z, hp30⟩⟩))
     ·
      intro w89 D hS82 hd82
      have d201 : PA RSpan M1 x1 (D 2) w89 := dpA hd82 2 Z
      obtain ⟨p31, e18, ha17⟩ := d201
      exact dg_sub (E' := [(14, (.pointer (some p31)))]) ⟨congrArg some e18, Zt⟩ (dg_plain Z (ow_fieldAddr Z Z Tryd.underlying120 Z (Tryd.sizeOf3 _) ⟨BX.refl _ _, ⟨_, Z, (ha17.fld fld_Span_Lo)⟩⟩))
     ·
      intro w90 D hS83 hd83
      have d202 : PA RInt M1 x1.Lo (D 3) w90 := dpA hd83 3 Z
      obtain ⟨p32, e19, ha18⟩ := d202
      refine dg_sub (E' := [(15, (.pointer (some p32)))]) ⟨congrArg some e19, Zt⟩ (dg_plain Z (ow_load (R := RInt) Z Z ha18 (Tryd.sizeOf3 _) (Tryd.isAgg3 _) fun v30 hv30 => ?_))
      obtain rfl := vint_eq hv30
      exact Zb
     ·
      intro w91 D hS84 hd84
      have hl91 := Le.no M1 hS84
      exact dg_sub (E' := [(0, v0p)]) ⟨Z, Zt⟩ (dg_plain Z (ow_move Z Z ⟨BX.refl _ _, (VRep.mono (hl1.trans hl91) h0)⟩))
     · exact fun w92 D hS85 hd85 => dg_sub (E' := [(5, (Zv k1))]) ⟨Z, Zt⟩ (dg_plain Z (ow_move Z Z Zb))
     ·
      intro w93 D hS86 hd86
      have d203 : PV (RSlice RSpan) M1 a_list (D 5) w93 := dpA hd86 5 Z
      generalize hq10 : (D 5) = v31 at d203
      exact dg_sub (E' := [(17, v31), (18, (Zv k1))]) ⟨congrArg some hq10, dpE hd86 6 Z Z, Zt⟩ (dg_plain Z (ow_indexSlice (R := RSpan) Z Z Z d203 Tryd.underlying121 (Tryd.sizeOf120 _) hx1 fun p33 hp33 => ⟨BX.refl _ _, ⟨_, Z, hp33⟩⟩))
     ·
      intro w94 D hS87 hd87
      have d205 : PA RSpan M1 x1 (D 7) w94 := dpA hd87 7 Z
      obtain ⟨p34, e20, ha19⟩ := d205
      exact dg_sub (E' := [(19, (.pointer (some p34)))]) ⟨congrArg some e20, Zt⟩ (dg_plain Z (ow_fieldAddr Z Z Tryd.underlying120 Z (Tryd.sizeOf3 _) ⟨BX.refl _ _, ⟨_, Z, (ha19.fld fld_Span_Hi)⟩⟩))
     ·
      intro w95 D hS88 hd88
      have d206 : PA RInt M1 x1.Hi (D 8) w95 := dpA hd88 8 Z
      obtain ⟨p35, e21, ha20⟩ := d206
      refine dg_sub (E' := [(20, (.pointer (some p35)))]) ⟨congrArg some e21, Zt⟩ (dg_plain Z (ow_load (R := RInt) Z Z ha20 (Tryd.sizeOf3 _) (Tryd.isAgg3 _) fun v32 hv32 => ?_))
      obtain rfl := vint_eq hv32
      exact Zb
     ·
      intro w96 D hS89 hd89
      have hl96 := Le.no M1 hS89
      have hC96 := hC1.no hS89
      refine dg_sub (E' := [(16, (Zv x1.Lo)), (21, (Zv x1.Hi))]) ⟨dpE hd89 4 Z Z, dpE hd89 9 Z Z, Zt⟩ (dg_plain Z (ow_call Z Z Tryd.call118 (w_spec_l1In (hG.mono (hl1.trans hl96)) hC96.old hx2) fun v33 w97 hv33 => ?_))
      obtain ⟨hv33, hb8⟩ := hv33
      obtain rfl := vbool_eq hv33
      exact ⟨hb8, Z⟩
     · exact fun w98 D hS90 hd90 => dg_sub (E' := [(22, (.bool true))]) ⟨dpE hd90 10 Z Z, Zt⟩ (dg_plain Z (ow_not Z Z Zb))
     · exact fun w99 D hS91 hd91 => dg_sub (E' := [(23, (.bool false))]) ⟨dpE hd91 11 Z Z, Zt⟩ (dg_plain Z (ow_move Z Z Zb))
     ·
      intro w100 D hS92 hd92
      have hl100 := Le.no M1 hS92
      exact dg_sub (E' := [(24, (.bool false)), (0, v0p)]) ⟨dpE hd92 12 Z Z, Z, Zt⟩ (dg_on Z Z Z Z (ow_move Z Z ⟨BX.refl _ _, (VRep.mono (hl1.trans hl100) h0)⟩))
     · exact fun w101 D hS93 hd93 => dg_sub (E' := [(24, (.bool false)), (5, (Zv k1))]) ⟨dpE hd93 12 Z Z, Z, Zt⟩ (dg_on Z Z Z Z (ow_move Z Z Zb))
     ·
      intro w102 D hS94 hd94
      have d214 : PV (RSlice RSpan) M1 a_list (D 13) w102 := dpA hd94 13 Z
      generalize hq11 : (D 13) = v34 at d214
      exact dg_sub (E' := [(25, v34), (26, (Zv k1)), (24, (.bool false))]) ⟨congrArg some hq11, dpE hd94 14 Z Z, dpE hd94 12 Z Z, Zt⟩ (dg_on Z Z Z Z (ow_indexSlice (R := RSpan) Z Z Z d214 Tryd.underlying121 (Tryd.sizeOf120 _) hx1 fun p36 hp36 => ⟨BX.refl _ _, ⟨_, Z, hp36⟩⟩))
     ·
      intro w103 D hS95 hd95
      have d217 : PA RSpan M1 x1 (D 15) w103 := dpA hd95 15 Z
      obtain ⟨p37, e22, ha21⟩ := d217
      exact dg_sub (E' := [(27, (.pointer (some p37))), (24, (.bool false))]) ⟨congrArg some e22, dpE hd95 12 Z Z, Zt⟩ (dg_on Z Z Z Z (ow_fieldAddr Z Z Tryd.underlying120 Z (Tryd.sizeOf3 _) ⟨BX.refl _ _, ⟨_, Z, (ha21.fld fld_Span_Hi)⟩⟩))
     ·
      intro w104 D hS96 hd96
      have d219 : PA RInt M1 x1.Hi (D 16) w104 := dpA hd96 16 Z
      obtain ⟨p38, e23, ha22⟩ := d219
      refine dg_sub (E' := [(28, (.pointer (some p38))), (24, (.bool false))]) ⟨congrArg some e23, dpE hd96 12 Z Z, Zt⟩ (dg_on Z Z Z Z (ow_load (R := RInt) Z Z ha22 (Tryd.sizeOf3 _) (Tryd.isAgg3 _) fun v35 hv35 => ?_))
      obtain rfl := vint_eq hv35
      exact Zb
     · exact fun w105 D hS97 hd97 => dg_sub (E' := [(24, (.bool false)), (1, (Zv a_top))]) ⟨dpE hd97 12 Z Z, Z, Zt⟩ (dg_on Z Z Z Z (ow_move Z Z Zb))
     ·
      intro w106 D hS98 hd98
      have hl106 := Le.no M1 hS98
      have hC106 := hC1.no hS98
      refine dg_sub (E' := [(29, (Zv x1.Hi)), (30, (Zv a_top)), (24, (.bool false))]) ⟨dpE hd98 17 Z Z, dpE hd98 18 Z Z, dpE hd98 12 Z Z, Zt⟩ (dg_on Z Z Z Z (ow_call Z Z Tryd.call118 (w_spec_l1In (hG.mono (hl1.trans hl106)) hC106.old hx3) fun v36 w107 hv36 => ?_))
      obtain ⟨hv36, hb9⟩ := hv36
      obtain rfl := vbool_eq hv36
      exact ⟨hb9, Z⟩
     · exact fun w108 D hS99 hd99 => dg_sub (E' := [(31, (.bool false)), (24, (.bool false))]) ⟨dpE hd99 19 Z Z, dpE hd99 12 Z Z, Zt⟩ (dg_on Z Z Z Z (ow_not Z Z Zb))
     · exact fun w109 D hS100 hd100 => dg_sub (E' := [(24, (.bool false)), (32, (.bool true))]) ⟨dpE hd100 12 Z Z, dpE hd100 20 Z Z, Zt⟩ (dg_plain Z (ow_pickF Z Z Z Zb))
     · exact fun w110 D hS101 hd101 => dg_sub (E' := [(33, (.bool true))]) ⟨dpE hd101 21 Z Z, Zt⟩ (dg_plain Z (ow_move Z Z Zb))
     · exact fun w111 D hS102 hd102 => dg_sub (E' := [(34, (.bool true)), (5, (Zv k1))]) ⟨dpE hd102 22 Z Z, Z, Zt⟩ (dg_off Z Z Z Z Zb)
     · exact fun w112 D hS103 hd103 => dg_sub (E' := [(35, undef), (34, (.bool true))]) ⟨dpE hd103 23 Z Z, dpE hd103 22 Z Z, Zt⟩ (dg_off Z Z Z Z Zb)
     · exact fun w113 D hS104 hd104 => dg_sub (E' := [(36, undef), (34, (.bool true))]) ⟨dpE hd104 24 Z Z, dpE hd104 22 Z Z, Zt⟩ (dg_off Z Z Z Z Zb)
     · exact fun w114 D hS105 hd105 => dg_sub (E' := [(37, undef), (0, v0p)]) ⟨dpE hd105 25 Z Z, Z, Zt⟩ (dg_off' Z Z Z Z Zb)
     · exact fun w115 D hS106 hd106 => dg_sub (E' := [(37, undef), (5, (Zv k1))]) ⟨dpE hd106 25 Z Z, Z, Zt⟩ (dg_off' Z Z Z Z Zb)
     · exact fun w116 D hS107 hd107 => dg_sub (E' := [(38, undef), (39, undef), (37, undef)]) ⟨dpE hd107 26 Z Z, dpE hd107 27 Z Z, dpE hd107 25 Z Z, Zt⟩ (dg_off' Z Z Z Z Zb)
     · exact fun w117 D hS108 hd108 => dg_sub (E' := [(40, undef), (37, undef)]) ⟨dpE hd108 28 Z Z, dpE hd108 25 Z Z, Zt⟩ (dg_off' Z Z Z Z Zb)
     · exact fun w118 D hS109 hd109 => dg_sub (E' := [(41, undef), (37, undef)]) ⟨dpE hd109 29 Z Z, dpE hd109 25 Z Z, Zt⟩ (dg_off' Z Z Z Z Zb)
     · exact fun w119 D hS110 hd110 => dg_sub (E' := [(37, undef), (0, v0p)]) ⟨dpE hd110 25 Z Z, Z, Zt⟩ (dg_off' Z Z Z Z Zb)
     · exact fun w120 D hS111 hd111 => dg_sub (E' := [(37, undef), (5, (Zv k1))]) ⟨dpE hd111 25 Z Z, Z, Zt⟩ (dg_off' Z Z Z Z Zb)
     · exact fun w121 D hS112 hd112 => dg_sub (E' := [(44, undef), (37, undef)]) ⟨dpE hd112 32 Z Z, dpE hd112 25 Z Z, Zt⟩ (dg_off' Z Z Z Z Zb)
     · exact fun w122 D hS113 hd113 => dg_sub (E' := [(43, undef), (45, undef), (37, undef)]) ⟨dpE hd113 31 Z Z, dpE hd113 33 Z Z, dpE hd113 25 Z Z, Zt⟩ (dg_off' Z Z Z Z Zb)
     · exact fun w123 D hS114 hd114 => dg_sub (E' := [(46, undef), (37, undef)]) ⟨dpE hd114 34 Z Z, dpE hd114 25 Z Z, Zt⟩ (dg_off' Z Z Z Z Zb)
     · exact fun w124 D hS115 hd115 => dg_sub (E' := [(47, undef), (37, undef)]) ⟨dpE hd115 35 Z Z, dpE hd115 25 Z Z, Zt⟩ (dg_off' Z Z Z Z Zb)
     · exact fun w125 D hS116 hd116 => dg_sub (E' := [(48, undef), (37, undef)]) ⟨dpE hd116 36 Z Z, dpE hd116 25 Z Z, Zt⟩ (dg_off' Z Z Z Z Zb)
     ·
      intro w126 D hS117 hd117
      have hC126 := hC1.no hS117
      refine lw_sub (E' := [(34, (.bool true)), (37, undef), (42, undef), (49, undef), (0, v0p), (1, (Zv a_top)), (5, (Zv k1))]) ⟨dpE hd117 22 Z Z, dpE hd117 25 Z Z, dpE hd117 30 Z Z, dpE hd117 37 Z Z, Z, Z, Z, Zt⟩ (lw_off' Z Z Z Z Z Z (lw_off Z Z Z Z Z Z (lw_op Z Z Z (ow_pickT Z Z Z (lw_nil (ew_then (cw_true Z (cw_seq (cw_region (lw_op Z Z Z (ow_assign Z Z (lw_nil (ew_then (cw_ret (ew_blockR (ew_thenR (ew_thenR (ew_blockR (ew_brkR (ew_thenR ?_))))))))))))))))))))
      have e24 := hR1 _ (sj hb1).symm
      subst e24
      obtain rfl := sj h
      exact ew_ret (res1 Z (.tmp Z)) ⟨_, Z, ((vbool _)), hC126.bx⟩
   ·
    subst hc2
    refine cw_sub (E' := [(0, v0p), (1, (Zv a_top)), (5, (Zv k1))]) ⟨Z, Z, Z, Zt⟩ (cw_drawQ 38 [PV (RSlice RSpan) M1 a_list, PEq (Zv k1), PA RSpan M1 x1, PA RInt M1 x1.Lo, PEq (Zv x1.Lo), PV (RSlice RSpan) M1 a_list, PEq (Zv k1), PA RSpan M1 x1, PA RInt M1 x1.Hi, PEq (Zv x1.Hi), PEq (.bool false), PEq (.bool true), PEq (.bool true), PEq undef, PEq undef, PEq undef, PEq undef, PEq undef, PEq undef, PEq undef, PEq undef, PEq (.bool true), PEq (.bool true), PEq undef, PEq undef, PEq undef, PEq undef, PEq undef, PEq undef, PEq undef, PEq undef, PEq undef, PEq undef, PEq undef, PEq undef, PEq undef, PEq undef, PEq undef] (by kernel_rfl) Z (by kernel_rfl) ⟨PV.mono _ _ _, Zq, PA.mono _ _ _, PA.mono _ _ _, Zq, PV.mono _ _ _, Zq, PA.mono _ _ _, PA.mono _ _ _, Zq, Zq, Zq, Zq, Zq, Zq, Zq, Zq, Zq, Zq, Zq, Zq, Zq, Zq, Zq, Zq, Zq, Zq, Zq, Zq, Zq, Zq, Zq, Zq, Zq, Zq, Zq, Zq, Zq, Zt⟩ ⟨?_, ?_, ?_, ?_, ?_, ?_, ?_, ?_, ?_, ?_, ?_, ?_, ?_, ?_, ?_, ?_, ?_, ?_, ?_, ?_, ?_, ?_, ?_, ?_, ?_, ?_, ?_, ?_, ?_, ?_, ?_, ?_, ?_, ?_, ?_, ?_, ?_, ?_, Zt⟩ ?_)
    ·
     intro w127 D hS118 hd118
     have hl127 := Le.no M1 hS118
     exact dg_sub (E' := [(0, v0p)]) ⟨Z, Zt⟩ (dg_plain Z (ow_move Z Z ⟨BX.refl _ _, (VRep.mono (hl1.trans hl127) h0)⟩))
    · exact fun w128 D hS119 hd119 => dg_sub (E' := [(5, (Zv k1))]) ⟨Z, Zt⟩ (dg_plain Z (ow_move Z Z Zb))
    ·
     intro w129 D hS120 hd120
     have d298 : PV (RSlice RSpan) M1 a_list (D 0) w129 := dpA hd120 0 Z
     generalize hq12 : (D 0) = v37 at d298
     exact dg_sub (E' := [(12, v37), (13, (Zv k1))]) ⟨congrArg some hq12, dpE hd120 1 Z Z, Zt⟩ (dg_plain Z (ow_indexSlice (R := RSpan) Z Z Z d298 Tryd.underlying121 (Tryd.sizeOf120 _) hx1 fun p39 hp39 => ⟨BX.refl _ _, ⟨_, Z, hp39⟩⟩))
    ·
     intro w130 D hS121 hd121
     have d300 : PA RSpan M1 x1 (D 2) w130 := dpA hd121 2 Z
     obtain ⟨p40, e25, ha23⟩ := d300
     exact dg_sub (E' := [(14, (.pointer (some p40)))]) ⟨congrArg some e25, Zt⟩ (dg_plain Z (ow_fieldAddr Z Z Tryd.underlying120 Z (Tryd.sizeOf3 _) ⟨BX.refl _ _, ⟨_, Z, (ha23.fld fld_Span_Lo)⟩⟩))
    ·
     intro w131 D hS122 hd122
     have d301 : PA RInt M1 x1.Lo (D 3) w131 := dpA hd122 3 Z
     obtain ⟨p41, e26, ha24⟩ := d301
     refine dg_sub (E' := [(15, (.pointer (some p41)))]) ⟨congrArg some e26, Zt⟩ (dg_plain Z (ow_load (R := RInt) Z Z ha24 (Tryd.sizeOf3 _) (Tryd.isAgg3 _) fun v38 hv38 => ?_))
     obtain rfl := vint_eq hv38
     exact Zb
    ·
     intro w132 D hS123 hd123
     have hl132 := Le.no M1 hS123
     exact dg_sub (E' := [(0, v0p)]) ⟨Z, Zt⟩ (dg_plain Z (ow_move Z Z ⟨BX.refl _ _, (VRep.mono (hl1.trans hl132) h0)⟩))
    · exact fun w133 D hS124 hd124 => dg_sub (E' := [(5, (Zv k1))]) ⟨Z, Zt⟩ (dg_plain Z (ow_move Z Z Zb))
    ·
     intro w134 D hS125 hd125
     have d302 : PV (RSlice RSpan) M1 a_list (D 5) w134 := dpA hd125 5 Z
     generalize hq13 : (D 5) = v39 at d302
     exact dg_sub (E' := [(17, v39), (18, (Zv k1))]) ⟨congrArg some hq13, dpE hd125 6 Z Z, Zt⟩ (dg_plain Z (ow_indexSlice (R := RSpan) Z Z Z d302 Tryd.underlying121 (Tryd.sizeOf120 _) hx1 fun p42 hp42 => ⟨BX.refl _ _, ⟨_, Z, hp42⟩⟩))
    ·
     intro w135 D hS126 hd126
     have d304 : PA RSpan M1 x1 (D 7) w135 := dpA hd126 7 Z
     obtain ⟨p43, e27, ha25⟩ := d304
     exact dg_sub (E' := [(19, (.pointer (some p43)))]) ⟨congrArg some e27, Zt⟩ (dg_plain Z (ow_fieldAddr Z Z Tryd.underlying120 Z (Tryd.sizeOf3 _) ⟨BX.refl _ _, ⟨_, Z, (ha25.fld fld_Span_Hi)⟩⟩))
    ·
     intro w136 D hS127 hd127
     have d305 : PA RInt M1 x1.Hi (D 8) w136 := dpA hd127 8 Z
     obtain ⟨p44, e28, ha26⟩ := d305
     refine dg_sub (E' := [(20, (.pointer (some p44)))]) ⟨congrArg some e28, Zt⟩ (dg_plain Z (ow_load (R := RInt) Z Z ha26 (Tryd.sizeOf3 _) (Tryd.isAgg3 _) fun v40 hv40 => ?_))
     obtain rfl := vint_eq hv40
     exact Zb
    ·
     intro w137 D hS128 hd128
     have hl137 := Le.no M1 hS128
     have hC137 := hC1.no hS128
     refine dg_sub (E' := [(16, (Zv x1.Lo)), (21, (Zv x1.Hi))]) ⟨dpE hd128 4 Z Z, dpE hd128 9 Z Z, Zt⟩ (dg_plain Z (ow_call Z Z Tryd.call118 (w_spec_l1In (hG.mono (hl1.trans hl137)) hC137.old hx2) fun v41 w138 hv41 => ?_))
     obtain ⟨hv41, hb10⟩ := hv41
     obtain rfl := vbool_eq hv41
     exact ⟨hb10, Z⟩
    · exact fun w139 D hS129 hd129 => dg_sub (E' := [(22, (.bool false))]) ⟨dpE hd129 10 Z Z, Zt⟩ (dg_plain Z (ow_not Z Z Zb))
    · exact fun w140 D hS130 hd130 => dg_sub (E' := [(23, (.bool true))]) ⟨dpE hd130 11 Z Z, Zt⟩ (dg_plain Z (ow_move Z Z Zb))
    · exact fun w141 D hS131 hd131 => dg_sub (E' := [(24, (.bool true)), (0, v0p)]) ⟨dpE hd131 12 Z Z, Z, Zt⟩ (dg_off Z Z Z Z Zb)
    · exact fun w142 D hS132 hd132 => dg_sub (E' := [(24, (.bool true)), (5, (Zv k1))]) ⟨dpE hd132 12 Z Z, Z, Zt⟩ (dg_off Z Z Z Z Zb)
    · exact fun w143 D hS133 hd133 => dg_sub (E' := [(25, undef), (26, undef), (24, (.bool true))]) ⟨dpE hd133 13 Z Z, dpE hd133 14 Z Z, dpE hd133 12 Z Z, Zt⟩ (dg_off Z Z Z Z Zb)
    · exact fun w144 D hS134 hd134 => dg_sub (E' := [(27, undef), (24, (.bool true))]) ⟨dpE hd134 15 Z Z, dpE hd134 12 Z Z, Zt⟩ (dg_off Z Z Z Z Zb)
    · exact fun w145 D hS135 hd135 => dg_sub (E' := [(28, undef), (24, (.bool true))]) ⟨dpE hd135 16 Z Z, dpE hd135 12 Z Z, Zt⟩ (dg_off Z Z Z Z Zb)
    · exact fun w146 D hS136 hd136 => dg_sub (E' := [(24, (.bool true)), (1, (Zv a_top))]) ⟨dpE hd136 12 Z Z, Z, Zt⟩ (dg_off Z Z Z Z Zb)
    · exact fun w147 D hS137 hd137 => dg_sub (E' := [(29, undef), (30, undef), (24, (.bool true))]) ⟨dpE hd137 17 Z Z, dpE hd137 18 Z Z, dpE hd137 12 Z Z, Zt⟩ (dg_off Z Z Z Z Zb)
    · exact fun w148 D hS138 hd138 => dg_sub (E' := [(31, undef), (24, (.bool true))]) ⟨dpE hd138 19 Z Z, dpE hd138 12 Z Z, Zt⟩ (dg_off Z Z Z Z Zb)
    · exact fun w149 D hS139 hd139 => dg_sub (E' := [(24, (.bool true)), (32, undef)]) ⟨dpE hd139 12 Z Z, dpE hd139 20 Z Z, Zt⟩ (dg_plain Z (ow_pickT Z Z Z Zb))
    · exact fun w150 D hS140 hd140 => dg_sub (E' := [(33, (.bool true))]) ⟨dpE hd140 21 Z Z, Zt⟩ (dg_plain Z (ow_move Z Z Zb))
    · exact fun w151 D hS141 hd141 => dg_sub (E' := [(34, (.bool true)), (5, (Zv k1))]) ⟨dpE hd141 22 Z Z, Z, Zt⟩ (dg_off Z Z Z Z Zb)
    · exact fun w152 D hS142 hd142 => dg_sub (E' := [(35, undef), (34, (.bool true))]) ⟨dpE hd142 23 Z Z, dpE hd142 22 Z Z, Zt⟩ (dg_off Z Z Z Z Zb)
    · exact fun w153 D hS143 hd143 => dg_sub (E' := [(36, undef), (34, (.bool true))]) ⟨dpE hd143 24 Z Z, dpE hd143 22 Z Z, Zt⟩ (dg_off Z Z Z Z Zb)
    · exact fun w154 D hS144 hd144 => dg_sub (E' := [(37, undef), (0, v0p)]) ⟨dpE hd144 25 Z Z, Z, Zt⟩ (dg_off' Z Z Z Z Zb)
    · exact fun w155 D hS145 hd145 => dg_sub (E' := [(37, undef), (5, (Zv k1))]) ⟨dpE hd145 25 Z Z, Z, Zt⟩ (dg_off' Z Z Z Z Zb)
    · exact fun w156 D hS146 hd146 => dg_sub (E' := [(38, undef), (39, undef), (37, undef)]) ⟨dpE hd146 26 Z Z, dpE hd146 27 Z Z, dpE hd146 25 Z Z, Zt⟩ (dg_off' Z Z Z Z Zb)
    · exact fun w157 D hS147 hd147 => dg_sub (E' := [(40, undef), (37, undef)]) ⟨dpE hd147 28 Z Z, dpE hd147 25 Z Z, Zt⟩ (dg_off' Z Z Z Z Zb)
    · exact fun w158 D hS148 hd148 => dg_sub (E' := [(41, undef), (37, undef)]) ⟨dpE hd148 29 Z Z, dpE hd148 25 Z Z, Zt⟩ (dg_off' Z Z Z Z Zb)
    · exact fun w159 D hS149 hd149 => dg_sub (E' := [(37, undef), (0, v0p)]) ⟨dpE hd149 25 Z Z, Z, Zt⟩ (dg_off' Z Z Z Z Zb)
    · exact fun w160 D hS150 hd150 => dg_sub (E' := [(37, undef), (5, (Zv k1))]) ⟨dpE hd150 25 Z Z, Z, Zt⟩ (dg_off' Z Z Z Z Zb)
    · exact fun w161 D hS151 hd151 => dg_sub (E' := [(44, undef), (37, undef)]) ⟨dpE hd151 32 Z Z, dpE hd151 25 Z Z, Zt⟩ (dg_off' Z Z Z Z Zb)
    · exact fun w162 D hS152 hd152 => dg_sub (E' := [(43, undef), (45, undef), (37, undef)]) ⟨dpE hd152 31 Z Z, dpE hd152 33 Z Z, dpE hd152 25 Z Z, Zt⟩ (dg_off' Z Z Z Z Zb)
    · exact fun w163 D hS153 hd153 => dg_sub (E' := [(46, undef), (37, undef)]) ⟨dpE hd153 34 Z Z, dpE hd153 25 Z Z, Zt⟩ (dg_off' Z Z Z Z Zb)
    · exact fun w164 D hS154 hd154 => dg_sub (E' := [(47, undef), (37, undef)]) ⟨dpE hd154 35 Z Z, dpE hd154 25 Z Z, Zt⟩ (dg_off' Z Z Z Z Zb)
    · exact fun w165 D hS155 hd155 => dg_sub (E' := [(48, undef), (37, undef)]) ⟨dpE hd155 36 Z Z, dpE hd155 25 Z Z, Zt⟩ (dg_off' Z Z Z Z Zb)
    ·
     intro w166 D hS156 hd156
     have hC166 := hC1.no hS156
     refine lw_sub (E' := [(34, (.bool true)), (37, undef), (42, undef), (49, undef), (0, v0p), (1, (Zv a_top)), (5, (Zv k1))]) ⟨dpE hd156 22 Z Z, dpE hd156 25 Z Z, dpE hd156 30 Z Z, dpE hd156 37 Z Z, Z, Z, Z, Zt⟩ (lw_off' Z Z Z Z Z Z (lw_off Z Z Z Z Z Z (lw_op Z Z Z (ow_pickT Z Z Z (lw_nil (ew_then (cw_true Z (cw_seq (cw_region (lw_op Z Z Z (ow_assign Z Z (lw_nil (ew_then (cw_ret (ew_blockR (ew_thenR (ew_thenR (ew_blockR (ew_brkR (ew_thenR ?_))))))))))))))))))))
     have e29 := hR1 _ (sj hb1).symm
     subst e29
     obtain rfl := sj h
     exact ew_ret (res1 Z (.tmp Z)) ⟨_, Z, ((vbool _)), hC166.bx⟩
  ·
   obtain rfl := hbb1.trans hc1
   exact cw_false Z (cw_exit (ew_thenX (ew_thenX (ew_blockX (ew_brk k1 hb1 fun a ha => ⟨M1, (ha.sub ⟨Z, Z, Z, Zt⟩), hl1, hC1⟩)))))
 ·
  rintro k2 a w167 hlr2 ⟨M2, hF2, hl167, hC167⟩
  subst hlr2
  refine ew_at (E := [(0, v0p), (1, (Zv a_top)), (5, (Zv k2))]) hF2 (ew_then (cw_seq (cw_region (lw_op Z Z Z (ow_move Z Z ?_)))))
  replace h := bind_some h
  obtain ⟨x5, hx5, h⟩ := h
  refine lw_op Z Z Z (ow_call Z Z Tryd.call118 (w_spec_l1In (hG.mono hl167) hC167.old hx5) fun v43 w168 hv43 => ?_)
  obtain ⟨hv43, hb11⟩ := hv43
  have hl168 := Le.no M2 hb11
  have hC168 := hC167.no hb11
  obtain rfl := vbool_eq hv43
  refine lw_op Z Z Z (ow_move Z Z ?_)
  replace h := cond_some h
  rcases h with ⟨hc6, h⟩ | ⟨hc6, h⟩
  ·
   subst hc6
   refine lw_on Z Z Z Z Z Z (ow_move Z Z (lw_on Z Z Z Z Z Z (ow_len Z Z (VRep.mono (hl167.trans hl168) h0) Tryd.underlying121 Z (lw_on Z Z Z Z Z Z (ow_leq Z Z Z fun bb6 hbb6 => lw_op Z Z Z (ow_pickT Z Z Z (lw_op Z Z Z (ow_assign Z Z (lw_nil (ew_then (cw_ret ?_)))))))))))
   obtain rfl := sj h
   exact ew_ret (res1 Z (.tmp Z)) ⟨_, Z, ((vbool_of hbb6)), hC168.bx⟩
  ·
   subst hc6
   refine lw_off Z Z Z Z Z Z (lw_off Z Z Z Z Z Z (lw_off Z Z Z Z Z Z (lw_op Z Z Z (ow_pickF Z Z Z (lw_op Z Z Z (ow_assign Z Z (lw_nil (ew_then (cw_ret ?_)))))))))
   obtain rfl := sj h
   exact ew_ret (res1 Z (.tmp Z)) ⟨_, Z, ((vbool _)), hC168.bx⟩

theorem w_spec_FieldTop {w : World} {M : Nat → Prop} (_hG : ARep (RArr 4 RShape) w M shapes ⟨0, 0, none⟩) (hO : ∀ b, M b → b < w.heap.size) {a_n : Int} {r : Int} (h : F.spec_FieldTop a_n = some r) :
  Calls Tryd.prog 88 [(.int .i64 a_n)].toArray w fun e w' => ∃ v, e = .returned v ∧ VRep RInt w' M r v ∧ BX No w w' := by
 have hC : Cx No w M w M := Cx.start hO (fun _ e => e.elim)
 clear _hG
 refine walk (N := 11) Tryd.func88 Z Tryd.ntmps88 Z (cw_seq (cw_region (lw_op Z Z Z (ow_assign Z Z (lw_nil (ew_then (cw_seq (cw_seq (cw_region (lw_op Z Z Z (ow_move Z Z (lw_nil (ew_then (cw_block (cw_seq (cw_seq (cw_region (lw_op Z Z Z (ow_eqlI Z Z Z fun bb1 hbb1 => lw_op Z Z Z (ow_assign Z Z (lw_nil (ew_then ?_))))))))))))))))))))))
 replace h := cond_some h
 rcases h with ⟨hc1, h⟩ | ⟨hc1, h⟩
 ·
  obtain rfl := hbb1.trans hc1
  refine cw_true Z (cw_skip (ew_then (cw_true Z (cw_seq (cw_region (lw_op Z Z Z (ow_assign Z Z (lw_nil (ew_then (cw_ret (ew_blockR (ew_thenR ?_))))))))))))
  obtain rfl := sj h
  exact ew_ret (res1 Z (.tmp Z)) ⟨_, Z, ((vint _)), hC.bx⟩
 ·
  obtain rfl := hbb1.trans hc1
  refine cw_false Z (cw_region (lw_op Z Z Z (ow_eqlI Z Z Z fun bb2 hbb2 => lw_op Z Z Z (ow_assign Z Z (lw_nil (ew_then ?_))))))
  replace h := cond_some h
  rcases h with ⟨hc2, h⟩ | ⟨hc2, h⟩
  ·
   obtain rfl := hbb2.trans hc2
   refine cw_true Z (cw_seq (cw_region (lw_op Z Z Z (ow_assign Z Z (lw_nil (ew_then (cw_ret (ew_blockR (ew_thenR ?_)))))))))
   obtain rfl := sj h
   exact ew_ret (res1 Z (.tmp Z)) ⟨_, Z, ((vint _)), hC.bx⟩
  ·
   obtain rfl := hbb2.trans hc2
   refine cw_false Z (cw_seq (cw_region (lw_op Z Z Z (ow_eqlI Z Z Z fun bb3 hbb3 => lw_op Z Z Z (ow_assign Z Z (lw_nil (ew_then ?_)))))))
   replace h := cond_some h
   rcases h with ⟨hc3, h⟩ | ⟨hc3, h⟩
   ·
    obtain rfl := hbb3.trans hc3
    refine cw_true Z (cw_seq (cw_region (lw_op Z Z Z (ow_assign Z Z (lw_nil (ew_then (cw_ret (ew_blockR (ew_thenR ?_)))))))))
    obtain rfl := sj h
    exact ew_ret (res1 Z (.tmp Z)) ⟨_, Z, ((vint _)), hC.bx⟩
   ·
    obtain rfl := hbb3.trans hc3
    refine cw_false Z (cw_seq (cw_region (lw_op Z Z Z (ow_eqlI Z Z Z fun bb4 hbb4 => lw_op Z Z Z (ow_assign Z Z (lw_nil (ew_then ?_)))))))
    replace h := cond_some h
    rcases h with ⟨hc4, h⟩ | ⟨hc4, h⟩
    ·
     obtain rfl := hbb4.trans hc4
     refine cw_true Z (cw_seq (cw_region (lw_op Z Z Z (ow_assign Z Z (lw_nil (ew_then (cw_ret (ew_blockR (ew_thenR ?_)))))))))
     obtain rfl := sj h
     exact ew_ret (res1 Z (.tmp Z)) ⟨_, Z, ((vint _)), hC.bx⟩
    ·
     obtain rfl := hbb4.trans hc4
     refine cw_false Z (cw_skip (ew_blockN (ew_then (cw_seq (cw_region (lw_op Z Z Z (ow_assign Z Z (lw_nil (ew_then (cw_ret ?_))))))))))
     obtain rfl := sj h
     exact ew_ret (res1 Z (.tmp Z)) ⟨_, Z, ((vint _)), hC.bx⟩

theorem w_spec_BoxValid {w : World} {M : Nat → Prop} (hG : ARep (RArr 4 RShape) w M shapes ⟨0, 0, none⟩) (hO : ∀ b, M b → b < w.heap.size) {v0p : Value} {a_b : Box} (h0 : VRep RBox w M a_b v0p) {r : Bool} (h : F.spec_BoxValid a_b = some r) :
  Calls Tryd.prog 71 [v0p].toArray w fun e w' => ∃ v, e = .returned v ∧ VRep RBool w' M r v ∧ BX No w w' := by
 have hC : Cx No w M w M := Cx.start hO (fun _ e => e.elim)
 refine walk (N := 28) Tryd.func71 Z Tryd.ntmps71 Z (cw_seq (cw_region (lw_op Z Z Z (ow_box (R := RBox) Z Z h0 hC fun p1 w1 hp1 hb1 hl1 hC1 => lw_op Z Z Z (ow_assign Z Z (lw_nil (ew_then (cw_seq (cw_seq (cw_region (lw_op Z Z Z (ow_assign Z Z (lw_nil (ew_then ?_))))))))))))))
 replace h := bind_some h
 obtain ⟨lr1, hlr1, h⟩ := h
 refine cw_for hlr1 (fun s a w' => ∃ (M' : Nat → Prop), Fits 28 [(1, (.pointer (some p1))), (3, (Zv s))] a ∧ Le w1 M w' M' ∧ Cx No w M w' M') ?_ ?_ ?_
 · exact fun a ha => ⟨M, ha.sub ⟨Z, Z, Zt⟩, Le.refl _ _, hC1⟩
 ·
  rintro k1 a w2 sr1 ⟨M1, hF1, hl2, hC2⟩ hb2 hR1
  refine cw_at (E := [(1, (.pointer (some p1))), (3, (Zv k1))]) hF1 (cw_seq (cw_seq (cw_region (lw_op Z Z Z (ow_move Z Z (lw_op Z Z Z (ow_fieldAddr Z Z Tryd.underlying48 Z (Tryd.sizeOf46 _) (lw_op Z Z Z (ow_load (R := (RSlice (RSlice RSpan))) Z Z (ARep.mono hl2 (hp1.fld fld_Box_Sides)) (Tryd.sizeOf46 _) (Tryd.isAgg46 _) fun v2 hv2 => lw_op Z Z Z (ow_len Z Z hv2 Tryd.underlying46 Z (lw_op Z Z Z (ow_lss Z Z Z fun bb1 hbb1 => lw_nil (ew_then ?_)))))))))))))
  replace hb2 := cond_some hb2
  rcases hb2 with ⟨hc1, hb2⟩ | ⟨hc1, hb2⟩
  ·
   obtain rfl := hbb1.trans hc1
   refine cw_true Z (cw_skip (ew_then (cw_seq (cw_block (cw_seq ?_)))))
   replace hb2 := cond_some hb2
   rcases hb2 with ⟨hc2, hb2⟩ | ⟨hc2, hb2⟩
   ·
    refine cw_sub (E' := [(1, (.pointer (some p1))), (3, (Zv k1))]) ⟨Z, Z, Zt⟩ (cw_drawQ 10 [PEq (Zv k1), PEq (.bool true), PEq (.bool true), PEq undef, PEq undef, PEq undef, PEq undef, PEq undef, PEq undef, PEq undef] (by kernel_rfl) Z (by kernel_rfl) ⟨Zq, Zq, Zq, Zq, Zq, Zq, Zq, Zq, Zq, Zq, Zt⟩ ⟨?_, ?_, ?_, ?_, ?_, ?_, ?_, ?_, ?_, ?_, Zt⟩ ?_)
    · exact fun w3 D hS1 hd1 => dg_sub (E' := [(3, (Zv k1))]) ⟨Z, Zt⟩ (dg_plain Z (ow_move Z Z Zb))
    ·
     intro w4 D hS2 hd2
     refine dg_sub (E' := [(11, (Zv k1))]) ⟨dpE hd2 0 Z Z, Zt⟩ (dg_plain Z (ow_geq Z Z Z fun bb3 hbb3 => ?_))
     obtain rfl := hbb3.trans hc2
     exact Zb
    · exact fun w5 D hS3 hd3 => dg_sub (E' := [(12, (.bool true))]) ⟨dpE hd3 1 Z Z, Zt⟩ (dg_plain Z (ow_move Z Z Zb))
    · exact fun w6 D hS4 hd4 => dg_sub (E' := [(13, (.bool true)), (1, (.pointer (some p1)))]) ⟨dpE hd4 2 Z Z, Z, Zt⟩ (dg_off Z Z Z Z Zb)
    · exact fun w7 D hS5 hd5 => dg_sub (E' := [(14, undef), (13, (.bool true))]) ⟨dpE hd5 3 Z Z, dpE hd5 2 Z Z, Zt⟩ (dg_off Z Z Z Z Zb)
    · exact fun w8 D hS6 hd6 => dg_sub (E' := [(13, (.bool true)), (3, (Zv k1))]) ⟨dpE hd6 2 Z Z, Z, Zt⟩ (dg_off Z Z Z Z Zb)
    · exact fun w9 D hS7 hd7 => dg_sub (E' := [(15, undef), (16, undef), (13, (.bool true))]) ⟨dpE hd7 4 Z Z, dpE hd7 5 Z Z, dpE hd7 2 Z Z, Zt⟩ (dg_off Z Z Z Z Zb)
    · exact fun w10 D hS8 hd8 => dg_sub (E' := [(17, undef), (13, (.bool true))]) ⟨dpE hd8 6 Z Z, dpE hd8 2 Z Z, Zt⟩ (dg_off Z Z Z Z Zb)
    · exact fun w11 D hS9 hd9 => dg_sub (E' := [(13, (.bool true)), (3, (Zv k1))]) ⟨dpE hd9 2 Z Z, Z, Zt⟩ (dg_off Z Z Z Z Zb)
    · exact fun w12 D hS10 hd10 => dg_sub (E' := [(19, undef), (13, (.bool true))]) ⟨dpE hd10 8 Z Z, dpE hd10 2 Z Z, Zt⟩ (dg_off Z Z Z Z Zb)
    ·
     intro w13 D hS11 hd11
     have hC13 := hC2.no hS11
     refine lw_sub (E' := [(13, (.bool true)), (18, undef), (20, undef), (1, (.pointer (some p1))), (3, (Zv k1))]) ⟨dpE hd11 2 Z Z, dpE hd11 7 Z Z, dpE hd11 9 Z Z, Z, Z, Zt⟩ (lw_off Z Z Z Z Z Z (lw_off Z Z Z Z Z Z (lw_op Z Z Z (ow_pickT Z Z Z (lw_nil (ew_then (cw_true Z (cw_seq (cw_region (lw_op Z Z Z (ow_assign Z Z (lw_nil (ew_then (cw_ret (ew_blockR (ew_thenR (ew_thenR (ew_blockR (ew_brkR (ew_thenR ?_))))))))))))))))))))
     have e1 := hR1 _ (sj hb2).symm
     subst e1
     obtain rfl := sj h
     exact ew_ret (res1 Z (.tmp Z)) ⟨_, Z, ((vbool _)), hC13.bx⟩
   ·
    replace hb2 := bind_some hb2
    obtain ⟨x1, hx1, hb2⟩ := hb2
    replace hb2 := bind_some hb2
    obtain ⟨x2, hx2, hb2⟩ := hb2
    have lz2 := (hl1.trans hl2)
    refine cw_sub (E' := [(1, (.pointer (some p1))), (3, (Zv k1))]) ⟨Z, Z, Zt⟩ (cw_drawQ 10 [PEq (Zv k1), PEq (.bool false), PEq (.bool false), PA (RSlice (RSlice RSpan)) M1 a_b.Sides, PV (RSlice (RSlice RSpan)) M1 a_b.Sides, PEq (Zv k1), PA (RSlice RSpan) M1 x1, PV (RSlice RSpan) M1 x1, PEq (Zv k1), PEq (Zv x2)] (by kernel_rfl) Z (by kernel_rfl) ⟨Zq, Zq, Zq, PA.mono _ _ _, PV.mono _ _ _, Zq, PA.mono _ _ _, PV.mono _ _ _, Zq, Zq, Zt⟩ ⟨?_, ?_, ?_, ?_, ?_, ?_, ?_, ?_, ?_, ?_, Zt⟩ ?_)
    · exact fun w15 D hS12 hd12 => dg_sub (E' := [(3, (Zv k1))]) ⟨Z, Zt⟩ (dg_plain Z (ow_move Z Z Zb))
    ·
     intro w16 D hS13 hd13
     refine dg_sub (E' := [(11, (Zv k1))]) ⟨dpE hd13 0 Z Z, Zt⟩ (dg_plain Z (ow_geq Z Z Z fun bb4 hbb4 => ?_))
     obtain rfl := hbb4.trans hc2
     exact Zb
    · exact fun w17 D hS14 hd14 => dg_sub (E' := [(12, (.bool false))]) ⟨dpE hd14 1 Z Z, Zt⟩ (dg_plain Z (ow_move Z Z Zb))
    ·
     intro w18 D hS15 hd15
     have hl18 := Le.no M1 hS15
     exact dg_sub (E' := [(13, (.bool false)), (1, (.pointer (some p1)))]) ⟨dpE hd15 2 Z Z, Z, Zt⟩ (dg_on Z Z Z Z (ow_fieldAddr Z Z Tryd.underlying48 Z (Tryd.sizeOf46 _) ⟨BX.refl _ _, ⟨_, Z, (ARep.mono (hl2.trans hl18) (hp1.fld fld_Box_Sides))⟩⟩))
    ·
     intro w19 D hS16 hd16
     have d29 : PA (RSlice (RSlice RSpan)) M1 a_b.Sides (D 3) w19 := dpA hd16 3 Z
     obtain ⟨p3, e2, ha1⟩ := d29
     exact dg_sub (E' := [(14, (.pointer (some p3))), (13, (.bool false))]) ⟨congrArg some e2, dpE hd16 2 Z Z, Zt⟩ (dg_on Z Z Z Z (ow_load (R := (RSlice (RSlice RSpan))) Z Z ha1 (Tryd.sizeOf46 _) (Tryd.isAgg46 _) fun v6 hv6 => ⟨BX.refl _ _, hv6⟩))
    · exact fun w20 D hS17 hd17 => dg_sub (E' := [(13, (.bool false)), (3, (Zv k1))]) ⟨dpE hd17 2 Z Z, Z, Zt⟩ (dg_on Z Z Z Z (ow_move Z Z Zb))
    ·
     intro w21 D hS18 hd18
     have d32 : PV (RSlice (RSlice RSpan)) M1 a_b.Sides (D 4) w21 := dpA hd18 4 Z
     generalize hq1 : (D 4) = v7 at d32
     exact dg_sub (E' := [(15, v7), (16, (Zv k1)), (13, (.bool false))]) ⟨congrArg some hq1, dpE hd18 5 Z Z, dpE hd18 2 Z Z, Zt⟩ (dg_on Z Z Z Z (ow_indexSlice (R := (RSlice RSpan)) Z Z Z d32 Tryd.underlying46 (Tryd.sizeOf121 _) hx1 fun p4 hp4 => ⟨BX.refl _ _, ⟨_, Z, hp4⟩⟩))
    ·
     intro w22 D hS19 hd19
     have d35 : PA (RSlice RSpan) M1 x1 (D 6) w22 := dpA hd19 6 Z
     obtain ⟨p5, e3, ha2⟩ := d35
     exact dg_sub (E' := [(17, (.pointer (some p5))), (13, (.bool false))]) ⟨congrArg some e3, dpE hd19 2 Z Z, Zt⟩ (dg_on Z Z Z Z (ow_load (R := (RSlice RSpan)) Z Z ha2 (Tryd.sizeOf121 _) (Tryd.isAgg121 _) fun v8 hv8 => ⟨BX.refl _ _, hv8⟩))
    · exact fun w23 D hS20 hd20 => dg_sub (E' := [(13, (.bool false)), (3, (Zv k1))]) ⟨dpE hd20 2 Z Z, Z, Zt⟩ (dg_on Z Z Z Z (ow_move Z Z Zb))
    ·
     intro w24 D hS21 hd21
     have hl24 := Le.no M1 hS21
     have hC24 := hC2.no hS21
     refine dg_sub (E' := [(19, (Zv k1)), (13, (.bool false))]) ⟨dpE hd21 8 Z Z, dpE hd21 2 Z Z, Zt⟩ (dg_on Z Z Z Z (ow_call Z Z Tryd.call88 (w_spec_FieldTop (hG.mono (lz2.trans hl24)) hC24.old hx2) fun v9 w25 hv9 => ?_))
     obtain ⟨hv9, hb4⟩ := hv9
     obtain rfl := vint_eq hv9
     exact ⟨hb4, Z⟩
    ·
     intro w26 D hS22 hd22
     have d48 : PV (RSlice RSpan) M1 x1 (D 7) w26 := dpA hd22 7 Z
     have hl26 := Le.no M1 hS22
     have hC26 := hC2.no hS22
     generalize hq2 : (D 7) = v10 at d48
     refine lw_sub (E' := [(13, (.bool false)), (18, v10), (20, (Zv x2)), (1, (.pointer (some p1))), (3, (Zv k1))]) ⟨dpE hd22 2 Z Z, congrArg some hq2, dpE hd22 9 Z Z, Z, Z, Zt⟩ ?_
     replace hb2 := bind_some hb2
     obtain ⟨x3, hx3, hb2⟩ := hb2
     refine lw_on Z Z Z Z Z Z (ow_call Z Z Tryd.call133 (w_spec_SpansValid (hG.mono (lz2.trans hl26)) hC26.old d48 hx3) fun v11 w27 hv11 => ?_)
     obtain ⟨hv11, hb5⟩ := hv11
     have hl27 := Le.no M1 hb5
     have hC27 := hC26.no hb5
     obtain rfl := vbool_eq hv11
     refine lw_on Z Z Z Z Z Z (ow_not Z Z (lw_op Z Z Z (ow_pickF Z Z Z (lw_nil (ew_then ?_)))))
     replace hb2 := cond_some hb2
     rcases hb2 with ⟨hc3, hb2⟩ | ⟨hc3, hb2⟩
     ·
      subst hc3
      refine cw_false Z (cw_skip (ew_blockN (ew_then (cw_region (lw_op Z Z Z (ow_move Z Z (lw_op Z Z Z (ow_add Z Z Z (lw_op Z Z Z (ow_assign Z Z (lw_nil ?_)))))))))))
      have lz3 := ((hl2.trans hl26).trans hl27)
      exact ew_nxt (W (k1 + 1)) hb2 fun a ha => ⟨M1, (ha.sub ⟨Z, Z, Zt⟩), lz3, hC27⟩
     ·
      subst hc3
      refine cw_true Z (cw_seq (cw_region (lw_op Z Z Z (ow_assign Z Z (lw_nil (ew_then (cw_ret (ew_blockR (ew_thenR (ew_thenR (ew_blockR (ew_brkR (ew_thenR ?_)))))))))))))
      have e4 := hR1 _ (sj hb2).symm
      subst e4
      obtain rfl := sj h
      exact ew_ret (res1 Z (.tmp Z)) ⟨_, Z, ((vbool _)), hC27.bx⟩
  ·
   obtain rfl := hbb1.trans hc1
   exact cw_false Z (cw_exit (ew_thenX (ew_thenX (ew_blockX (ew_brk k1 hb2 fun a ha => ⟨M1, (ha.sub ⟨Z, Z, Zt⟩), hl2, hC2⟩)))))
 ·
  rintro k2 a w28 hlr2 ⟨M2, hF2, hl28, hC28⟩
  subst hlr2
  refine ew_at (E := [(1, (.pointer (some p1))), (3, (Zv k2))]) hF2 (ew_then (cw_seq (cw_region (lw_op Z Z Z (ow_fieldAddr Z Z Tryd.underlying48 Z (Tryd.sizeOf46 _) (lw_op Z Z Z (ow_load (R := (RSlice (RSlice RSpan))) Z Z (ARep.mono hl28 (hp1.fld fld_Box_Sides)) (Tryd.sizeOf46 _) (Tryd.isAgg46 _) fun v13 hv13 => lw_op Z Z Z (ow_len Z Z hv13 Tryd.underlying46 Z (lw_op Z Z Z (ow_eqlI Z Z Z fun bb5 hbb5 => lw_op Z Z Z (ow_assign Z Z (lw_nil (ew_then (cw_ret ?_))))))))))))))
  obtain rfl := sj h
  exact ew_ret (res1 Z (.tmp Z)) ⟨_, Z, ((vbool_of hbb5)), hC28.bx⟩

theorem w_spec_RegionValid {w : World} {M : Nat → Prop} (hG : ARep (RArr 4 RShape) w M shapes ⟨0, 0, none⟩) (hO : ∀ b, M b → b < w.heap.size) {v0p : Value} {a_list : List Box} (h0 : VRep (RSlice RBox) w M a_list v0p) {r : Bool} (h : F.spec_RegionValid a_list = some r) :
  Calls Tryd.prog 127 [v0p].toArray w fun e w' => ∃ v, e = .returned v ∧ VRep RBool w' M r v ∧ BX No w w' := by
 have hC : Cx No w M w M := Cx.start hO (fun _ e => e.elim)
 refine walk (N := 19) Tryd.func127 Z Tryd.ntmps127 Z (cw_seq (cw_region (lw_op Z Z Z (ow_assign Z Z (lw_nil (ew_then (cw_seq (cw_seq (cw_region (lw_op Z Z Z (ow_assign Z Z (lw_nil (ew_then ?_)))))))))))))
 replace h := bind_some h
 obtain ⟨lr1, hlr1, h⟩ := h
 refine cw_for hlr1 (fun s a w' => ∃ (M' : Nat → Prop), Fits 19 [(0, v0p), (3, (Zv s))] a ∧ Le w M w' M' ∧ Cx No w M w' M') ?_ ?_ ?_
 · exact fun a ha => ⟨M, ha.sub ⟨Z, Z, Zt⟩, Le.refl _ _, hC⟩
 ·
  rintro k1 a w1 sr1 ⟨M1, hF1, hl1, hC1⟩ hb1 hR1
  refine cw_at (E := [(0, v0p), (3, (Zv k1))]) hF1 (cw_seq (cw_seq (cw_region (lw_op Z Z Z (ow_move Z Z (lw_op Z Z Z (ow_move Z Z (lw_op Z Z Z (ow_len Z Z (VRep.mono hl1 h0) Tryd.underlying64 Z (lw_op Z Z Z (ow_lss Z Z Z fun bb1 hbb1 => lw_nil (ew_then ?_))))))))))))
  replace hb1 := cond_some hb1
  rcases hb1 with ⟨hc1, hb1⟩ | ⟨hc1, hb1⟩
  ·
   obtain rfl := hbb1.trans hc1
   refine cw_true Z (cw_skip (ew_then (cw_seq (cw_block (cw_seq (cw_region (lw_op Z Z Z (ow_move Z Z (lw_op Z Z Z (ow_move Z Z ?_))))))))))
   replace hb1 := bind_some hb1
   obtain ⟨x1, hx1, hb1⟩ := hb1
   refine lw_op Z Z Z (ow_indexSlice (R := RBox) Z Z Z (VRep.mono hl1 h0) Tryd.underlying64 (Tryd.sizeOf48 _) hx1 fun p1 hp1 => lw_op Z Z Z (ow_load (R := RBox) Z Z hp1 (Tryd.sizeOf48 _) (Tryd.isAgg48 _) fun v2 hv2 => ?_))
   replace hb1 := bind_some hb1
   obtain ⟨x2, hx2, hb1⟩ := hb1
   refine lw_op Z Z Z (ow_call Z Z Tryd.call71 (w_spec_BoxValid (hG.mono hl1) hC1.old hv2 hx2) fun v3 w2 hv3 => ?_)
   obtain ⟨hv3, hb2⟩ := hv3
   have hl2 := Le.no M1 hb2
   have hC2 := hC1.no hb2
   obtain rfl := vbool_eq hv3
   refine lw_op Z Z Z (ow_not Z Z (lw_nil (ew_then ?_)))
   replace hb1 := cond_some hb1
   rcases hb1 with ⟨hc2, hb1⟩ | ⟨hc2, hb1⟩
   ·
    subst hc2
    exact cw_false Z (cw_skip (ew_blockN (ew_then (cw_region (lw_op Z Z Z (ow_move Z Z (lw_op Z Z Z (ow_add Z Z Z (lw_op Z Z Z (ow_assign Z Z (lw_nil (ew_nxt (W (k1 + 1)) hb1 fun a ha => ⟨M1, (ha.sub ⟨Z, Z, Zt⟩), (hl1.trans hl2), hC2⟩))))))))))))
   ·
    subst hc2
    refine cw_true Z (cw_seq (cw_region (lw_op Z Z Z (ow_assign Z Z (lw_nil (ew_then (cw_ret (ew_blockR (ew_thenR (ew_thenR (ew_blockR (ew_brkR (ew_thenR ?_)))))))))))))
    have e1 := hR1 _ (sj hb1).symm
    subst e1
    obtain rfl := sj h
    exact ew_ret (res1 Z (.tmp Z)) ⟨_, Z, ((vbool _)), hC2.bx⟩
  ·
   obtain rfl := hbb1.trans hc1
   exact cw_false Z (cw_exit (ew_thenX (ew_thenX (ew_blockX (ew_brk k1 hb1 fun a ha => ⟨M1, (ha.sub ⟨Z, Z, Zt⟩), hl1, hC1⟩)))))
 ·
  rintro k2 a w3 hlr2 ⟨M2, hF2, hl3, hC3⟩
  subst hlr2
  refine ew_at (E := [(0, v0p), (3, (Zv k2))]) hF2 (ew_then (cw_seq (cw_region (lw_op Z Z Z (ow_move Z Z (lw_op Z Z Z (ow_len Z Z (VRep.mono hl3 h0) Tryd.underlying64 Z (lw_op Z Z Z (ow_leq Z Z Z fun bb2 hbb2 => lw_op Z Z Z (ow_assign Z Z (lw_nil (ew_then (cw_ret ?_)))))))))))))
  obtain rfl := sj h
  exact ew_ret (res1 Z (.tmp Z)) ⟨_, Z, ((vbool_of hbb2)), hC3.bx⟩

theorem w_spec_l2Meet {w : World} {M : Nat → Prop} (_hG : ARep (RArr 4 RShape) w M shapes ⟨0, 0, none⟩) (hO : ∀ b, M b → b < w.heap.size) {v0p : Value} {a_a : List Span} (h0 : VRep (RSlice RSpan) w M a_a v0p) {v1p : Value} {a_b : List Span} (h1 : VRep (RSlice RSpan) w M a_b v1p) {r : (List Span)} (h : F.spec_l2Meet a_a a_b = some r) :
  Calls Tryd.prog 103 [v0p, v1p].toArray w fun e w' => ∃ v, e = .returned v ∧ VRep (RSlice RSpan) w' M r v ∧ BX No w w' := by
 obtain ⟨i120, hi120, hz120, hs120, hy120⟩ := info120
 have hC : Cx No w M w M := Cx.start hO (fun _ e => e.elim)
 clear _hG
 refine walk (N := 55) Tryd.func103 Z Tryd.ntmps103 Z (cw_seq (cw_region (lw_op Z Z Z (ow_assign Z Z (lw_nil (ew_then (cw_seq (cw_region (lw_op Z Z Z (ow_buildSlice0 (R := RSpan) (e := 120) Z (by kernel_rfl) hC fun p1 w1 M1 hr1 hb1 hl1 hC1 hM1 hat1 => lw_op Z Z Z (ow_assign Z Z (lw_nil (ew_then (cw_seq (cw_seq (cw_region (lw_op Z Z Z (ow_assign Z Z (lw_nil (ew_then ?_))))))))))))))))))))
 replace h := bind_some h
 obtain ⟨lr1, hlr1, h⟩ := h
 refine cw_for hlr1 (fun s a w' => ∃ (M' : Nat → Prop) (v0c : Value), Fits 55 [(0, v0p), (1, v1p), (5, v0c), (6, (Zv s.2))] a ∧ Le w1 M1 w' M' ∧ Cx No w M w' M' ∧ OwnRow RSpan w.heap.size 120 w' M' s.1 v0c) ?_ ?_ ?_
 · exact fun a ha => ⟨M1, (.slice (some p1) 0 0), ha.sub ⟨Z, Z, Z, Z, Zt⟩, Le.refl _ _, hC1, hr1⟩
 ·
  rintro ⟨y1, k1⟩ a w2 sr1 ⟨M2, v1, hF1, hl2, hC2, hw1⟩ hb2 hR1
  refine cw_at (E := [(0, v0p), (1, v1p), (5, v1), (6, (Zv k1))]) hF1 (cw_seq (cw_seq (cw_region (lw_op Z Z Z (ow_move Z Z (lw_op Z Z Z (ow_move Z Z (lw_op Z Z Z (ow_len Z Z (VRep.mono (hl1.trans hl2) h0) Tryd.underlying121 Z (lw_op Z Z Z (ow_lss Z Z Z fun bb1 hbb1 => lw_nil (ew_then ?_))))))))))))
  replace hb2 := cond_some hb2
  rcases hb2 with ⟨hc1, hb2⟩ | ⟨hc1, hb2⟩
  ·
   obtain rfl := hbb1.trans hc1
   refine cw_true Z (cw_skip (ew_then (cw_seq (cw_block (cw_seq (cw_region (lw_op Z Z Z (ow_assign Z Z (lw_nil (ew_then ?_))))))))))
   replace hb2 := bind_some hb2
   obtain ⟨lr2, hlr2, hb2⟩ := hb2
   refine cw_for hlr2 (fun s a w' => ∃ (M' : Nat → Prop) (v0c : Value), Fits 55 [(0, v0p), (1, v1p), (5, v0c), (6, (Zv k1)), (7, (Zv s.2))] a ∧ Le w2 M2 w' M' ∧ Cx No w M w' M' ∧ OwnRow RSpan w.heap.size 120 w' M' s.1 v0c) ?_ ?_ ?_
   · exact fun a ha => ⟨M2, v1, ha.sub ⟨Z, Z, Z, Z, Z, Zt⟩, Le.refl _ _, hC2, hw1⟩
   ·
    rintro ⟨y2, k2⟩ a w3 sr2 ⟨M3, v3, hF2, hl3, hC3, hw2⟩ hb3 hR2
    refine cw_at (E := [(0, v0p), (1, v1p), (5, v3), (6, (Zv k1)), (7, (Zv k2))]) hF2 (cw_seq (cw_seq (cw_region (lw_op Z Z Z (ow_move Z Z (lw_op Z Z Z (ow_move Z Z ?_)))))))
    have lz1 := ((hl1.trans hl2).trans hl3)
    refine lw_op Z Z Z (ow_len Z Z (VRep.mono lz1 h1) Tryd.underlying121 Z (lw_op Z Z Z (ow_lss Z Z Z fun bb2 hbb2 => lw_nil (ew_then ?_))))
    replace hb3 := cond_some hb3
    rcases hb3 with ⟨hc2, hb3⟩ | ⟨hc2, hb3⟩
    ·
     obtain rfl := hbb2.trans hc2
     refine cw_true Z (cw_skip (ew_then (cw_seq (cw_block (cw_seq ?_)))))
     replace hb3 := bind_some hb3
     obtain ⟨x1, hx1, hb3⟩ := hb3
     replace hb3 := bind_some hb3
     obtain ⟨x2, hx2, hb3⟩ := hb3
     refine cw_sub (E' := [(0, v0p), (1, v1p), (5, v3), (6, (Zv k1)), (7, (Zv k2))]) ⟨Z, Z, Z, Z, Z, Zt⟩ (cw_drawQ 10 [PV (RSlice RSpan) M3 a_a, PEq (Zv k1), PA RSpan M3 x1, PA RInt M3 x1.Lo, PEq (Zv x1.Lo), PV (RSlice RSpan) M3 a_b, PEq (Zv k2), PA RSpan M3 x2, PA RInt M3 x2.Lo, PEq (Zv x2.Lo)] (by kernel_rfl) Z (by kernel_rfl) ⟨PV.mono _ _ _, Zq, PA.mono _ _ _, PA.mono _ _ _, Zq, PV.mono _ _ _, Zq, PA.mono _ _ _, PA.mono _ _ _, Zq, Zt⟩ ⟨?_, ?_, ?_, ?_, ?_, ?_, ?_, ?_, ?_, ?_, Zt⟩ ?_)
     ·
      intro w4 D hS1 hd1
      have hl4 := Le.no M3 hS1
      exact dg_sub (E' := [(0, v0p)]) ⟨Z, Zt⟩ (dg_plain Z (ow_move Z Z ⟨BX.refl _ _, (VRep.mono (lz1.trans hl4) h0)⟩))
     · exact fun w5 D hS2 hd2 => dg_sub (E' := [(6, (Zv k1))]) ⟨Z, Zt⟩ (dg_plain Z (ow_move Z Z Zb))
     ·
      intro w6 D hS3 hd3
      have d1 : PV (RSlice RSpan) M3 a_a (D 0) w6 := dpA hd3 0 Z
      generalize hq1 : (D 0) = v7 at d1
      exact dg_sub (E' := [(23, v7), (24, (Zv k1))]) ⟨congrArg some hq1, dpE hd3 1 Z Z, Zt⟩ (dg_plain Z (ow_indexSlice (R := RSpan) Z Z Z d1 Tryd.underlying121 (Tryd.sizeOf120 _) hx1 fun p4 hp4 => ⟨BX.refl _ _, ⟨_, Z, hp4⟩⟩))
     ·
      intro w7 D hS4 hd4
      have d3 : PA RSpan M3 x1 (D 2) w7 := dpA hd4 2 Z
      obtain ⟨p5, e1, ha1⟩ := d3
      exact dg_sub (E' := [(25, (.pointer (some p5)))]) ⟨congrArg some e1, Zt⟩ (dg_plain Z (ow_fieldAddr Z Z Tryd.underlying120 Z (Tryd.sizeOf3 _) ⟨BX.refl _ _, ⟨_, Z, (ha1.fld fld_Span_Lo)⟩⟩))
     ·
      intro w8 D hS5 hd5
      have d4 : PA RInt M3 x1.Lo (D 3) w8 := dpA hd5 3 Z
      obtain ⟨p6, e2, ha2⟩ := d4
      refine dg_sub (E' := [(26, (.pointer (some p6)))]) ⟨congrArg some e2, Zt⟩ (dg_plain Z (ow_load (R := RInt) Z Z ha2 (Tryd.sizeOf3 _) (Tryd.isAgg3 _) fun v8 hv8 => ?_))
      obtain rfl := vint_eq hv8
      exact Zb
     ·
      intro w9 D hS6 hd6
      have hl9 := Le.no M3 hS6
      exact dg_sub (E' := [(1, v1p)]) ⟨Z, Zt⟩ (dg_plain Z (ow_move Z Z ⟨BX.refl _ _, (VRep.mono (lz1.trans hl9) h1)⟩))
     · exact fun w10 D hS7 hd7 => dg_sub (E' := [(7, (Zv k2))]) ⟨Z, Zt⟩ (dg_plain Z (ow_move Z Z Zb))
     ·
      intro w11 D hS8 hd8
      have d5 : PV (RSlice RSpan) M3 a_b (D 5) w11 := dpA hd8 5 Z
      generalize hq2 : (D 5) = v9 at d5
      exact dg_sub (E' := [(28, v9), (29, (Zv k2))]) ⟨congrArg some hq2, dpE hd8 6 Z Z, Zt⟩ (dg_plain Z (ow_indexSlice (R := RSpan) Z Z Z d5 Tryd.underlying121 (Tryd.sizeOf120 _) hx2 fun p7 hp7 => ⟨BX.refl _ _, ⟨_, Z, hp7⟩⟩))
     ·
      intro w12 D hS9 hd9
      have d7 : PA RSpan M3 x2 (D 7) w12 := dpA hd9 7 Z
      obtain ⟨p8, e3, ha3⟩ := d7
      exact dg_sub (E' := [(30, (.pointer (some p8)))]) ⟨congrArg some e3, Zt⟩ (dg_plain Z (ow_fieldAddr Z Z Tryd.underlying120 Z (Tryd.sizeOf3 _) ⟨BX.refl _ _, ⟨_, Z, (ha3.fld fld_Span_Lo)⟩⟩))
     ·
      intro w13 D hS10 hd10
      have d8 : PA RInt M3 x2.Lo (D 8) w13 := dpA hd10 8 Z
      obtain ⟨p9, e4, ha4⟩ := d8
      refine dg_sub (E' := [(31, (.pointer (some p9)))]) ⟨congrArg some e4, Zt⟩ (dg_plain Z (ow_load (R := RInt) Z Z ha4 (Tryd.sizeOf3 _) (Tryd.isAgg3 _) fun v10 hv10 => ?_))
      obtain rfl := vint_eq hv10
      exact Zb
     ·
      intro w14 D hS11 hd11
      have hl14 := Le.no M3 hS11
      have hC14 := hC3.no hS11
      have hr12 := hw2.no hS11
      refine lw_sub (E' := [(27, (Zv x1.Lo)), (32, (Zv x2.Lo)), (0, v0p), (1, v1p), (5, v3), (6, (Zv k1)), (7, (Zv k2))]) ⟨dpE hd11 4 Z Z, dpE hd11 9 Z Z, Z, Z, Z, Z, Z, Zt⟩ (lw_op Z Z Z (ow_max Z Z Z (lw_op Z Z Z (ow_assign Z Z (lw_nil (ew_then (cw_seq ?_)))))))
      have lz2 := (lz1.trans hl14)
      refine cw_sub (E' := [(0, v0p), (1, v1p), (5, v3), (6, (Zv k1)), (7, (Zv k2)), (8, (Zv (imax x1.Lo x2.Lo)))]) ⟨Z, Z, Z, Z, Z, Z, Zt⟩ (cw_drawQ 10 [PV (RSlice RSpan) M3 a_a, PEq (Zv k1), PA RSpan M3 x1, PA RInt M3 x1.Hi, PEq (Zv x1.Hi), PV (RSlice RSpan) M3 a_b, PEq (Zv k2), PA RSpan M3 x2, PA RInt M3 x2.Hi, PEq (Zv x2.Hi)] (by kernel_rfl) Z (by kernel_rfl) ⟨PV.mono _ _ _, Zq, PA.mono _ _ _, PA.mono _ _ _, Zq, PV.mono _ _ _, Zq, PA.mono _ _ _, PA.mono _ _ _, Zq, Zt⟩ ⟨?_, ?_, ?_, ?_, ?_, ?_, ?_, ?_, ?_, ?_, Zt⟩ ?_)
      ·
       intro w15 D hS12 hd12
       have hl15 := Le.no M3 hS12
       exact dg_sub (E' := [(0, v0p)]) ⟨Z, Zt⟩ (dg_plain Z (ow_move Z Z ⟨BX.refl _ _, (VRep.mono (lz2.trans hl15) h0)⟩))
      · exact fun w16 D hS13 hd13 => dg_sub (E' := [(6, (Zv k1))]) ⟨Z, Zt⟩ (dg_plain Z (ow_move Z Z Zb))
      ·
       intro w17 D hS14 hd14
       have d19 : PV (RSlice RSpan) M3 a_a (D 0) w17 := dpA hd14 0 Z
       generalize hq3 : (D 0) = v13 at d19
       exact dg_sub (E' := [(34, v13), (35, (Zv k1))]) ⟨congrArg some hq3, dpE hd14 1 Z Z, Zt⟩ (dg_plain Z (ow_indexSlice (R := RSpan) Z Z Z d19 Tryd.underlying121 (Tryd.sizeOf120 _) hx1 fun p12 hp12 => ⟨BX.refl _ _, ⟨_, Z, hp12⟩⟩))
      ·
       intro w18 D hS15 hd15
       have d21 : PA RSpan M3 x1 (D 2) w18 := dpA hd15 2 Z
       obtain ⟨p13, e5, ha5⟩ := d21
       exact dg_sub (E' := [(36, (.pointer (some p13)))]) ⟨congrArg some e5, Zt⟩ (dg_plain Z (ow_fieldAddr Z Z Tryd.underlying120 Z (Tryd.sizeOf3 _) ⟨BX.refl _ _, ⟨_, Z, (ha5.fld fld_Span_Hi)⟩⟩))
      ·
       intro w19 D hS16 hd16
       have d22 : PA RInt M3 x1.Hi (D 3) w19 := dpA hd16 3 Z
       obtain ⟨p14, e6, ha6⟩ := d22
       refine dg_sub (E' := [(37, (.pointer (some p14)))]) ⟨congrArg some e6, Zt⟩ (dg_plain Z (ow_load (R := RInt) Z Z ha6 (Tryd.sizeOf3 _) (Tryd.isAgg3 _) fun v14 hv14 => ?_))
       obtain rfl := vint_eq hv14
       exact Zb
      ·
       intro w20 D hS17 hd17
       have hl20 := Le.no M3 hS17
       exact dg_sub (E' := [(1, v1p)]) ⟨Z, Zt⟩ (dg_plain Z (ow_move Z Z ⟨BX.refl _ _, (VRep.mono (lz2.trans hl20) h1)⟩))
      · exact fun w21 D hS18 hd18 => dg_sub (E' := [(7, (Zv k2))]) ⟨Z, Zt⟩ (dg_plain Z (ow_move Z Z Zb))
      ·
       intro w22 D hS19 hd19
       have d23 : PV (RSlice RSpan) M3 a_b (D 5) w22 := dpA hd19 5 Z
       generalize hq4 : (D 5) = v15 at d23
       exact dg_sub (E' := [(39, v15), (40, (Zv k2))]) ⟨congrArg some hq4, dpE hd19 6 Z Z, Zt⟩ (dg_plain Z (ow_indexSlice (R := RSpan) Z Z Z d23 Tryd.underlying121 (Tryd.sizeOf120 _) hx2 fun p15 hp15 => ⟨BX.refl _ _, ⟨_, Z, hp15⟩⟩))
      ·
       intro w23 D hS20 hd20
       have d25 : PA RSpan M3 x2 (D 7) w23 := dpA hd20 7 Z
       obtain ⟨p16, e7, ha7⟩ := d25
       exact dg_sub (E' := [(41, (.pointer (some p16)))]) ⟨congrArg some e7, Zt⟩ (dg_plain Z (ow_fieldAddr Z Z Tryd.underlying120 Z (Tryd.sizeOf3 _) ⟨BX.refl _ _, ⟨_, Z, (ha7.fld fld_Span_Hi)⟩⟩))
      ·
       intro w24 D hS21 hd21
       have d26 : PA RInt M3 x2.Hi (D 8) w24 := dpA hd21 8 Z
       obtain ⟨p17, e8, ha8⟩ := d26
       refine dg_sub (E' := [(42, (.pointer (some p17)))]) ⟨congrArg some e8, Zt⟩ (dg_plain Z (ow_load (R := RInt) Z Z ha8 (Tryd.sizeOf3 _) (Tryd.isAgg3 _) fun v16 hv16 => ?_))
       obtain rfl := vint_eq hv16
       exact Zb
      ·
       intro w25 D hS22 hd22
       have hl25 := Le.no M3 hS22
       have hC25 := hC14.no hS22
       have hr23 := hr12.no hS22
       refine lw_sub (E' := [(38, (Zv x1.Hi)), (43, (Zv x2.Hi)), (0, v0p), (1, v1p), (5, v3), (6, (Zv k1)), (7, (Zv k2)), (8, (Zv (imax x1.Lo x2.Lo)))]) ⟨dpE hd22 4 Z Z, dpE hd22 9 Z Z, Z, Z, Z, Z, Z, Z, Zt⟩ (lw_op Z Z Z (ow_min Z Z Z (lw_op Z Z Z (ow_assign Z Z (lw_nil (ew_then (cw_seq (cw_region (lw_op Z Z Z (ow_move Z Z (lw_op Z Z Z (ow_move Z Z (lw_op Z Z Z (ow_leq Z Z Z fun bb3 hbb3 => lw_nil (ew_then ?_)))))))))))))))
       replace hb3 := cond_some hb3
       rcases hb3 with ⟨hc3, hb3⟩ | ⟨hc3, hb3⟩
       ·
        obtain rfl := hbb3.trans hc3
        refine cw_true Z (cw_region (lw_op Z Z Z (ow_move Z Z (lw_op Z Z Z (ow_move Z Z (lw_op Z Z Z (ow_move Z Z (lw_op Z Z Z (ow_build (v := .agg #[(Zv (imax x1.Lo x2.Lo)), (Zv (imin x1.Hi x2.Hi))]) Z Z (by kernel_rfl) ?_)))))))))
        have hw3 : VRep RSpan w25 M3 ({ Lo := (imax x1.Lo x2.Lo), Hi := (imin x1.Hi x2.Hi) } : Span) (.agg #[(Zv (imax x1.Lo x2.Lo)), (Zv (imin x1.Hi x2.Hi))]) := shut_Span
        refine lw_op Z Z Z (ow_buildSlice (R := RSpan) (xs := [({ Lo := (imax x1.Lo x2.Lo), Hi := (imin x1.Hi x2.Hi) } : Span)]) (cs := #[(Zv (imax x1.Lo x2.Lo)), (Zv (imin x1.Hi x2.Hi))]) (e := 120) Z Z (by kernel_rfl) Z Z ⟨_, _, Z, hw3.cells, Z⟩ hC25 fun p18 w26 hw4 hb4 hl26 hC26 => ?_)
        have hr24 := hr23.no hb4
        replace hb3 := bind_some hb3
        obtain ⟨z1, hz1, hb3⟩ := hb3
        refine lw_op Z Z Z (ow_append (R := RSpan) Z Z Z Z Tryd.underlying121 hi120 hz120 hs120 hy120 Z Z Z Z hr24 hw4 hz1 hC26 fun v17 w27 M4 hr25 hb5 hl27 hC27 hM2 hat2 => lw_op Z Z Z (ow_assign Z Z (lw_nil (ew_blockN (ew_then (cw_region (lw_op Z Z Z (ow_move Z Z (lw_op Z Z Z (ow_add Z Z Z (lw_op Z Z Z (ow_assign Z Z (lw_nil ?_)))))))))))))
        have lz3 := ((((hl3.trans hl14).trans hl25).trans hl26).trans hl27)
        exact ew_nxt (z1, (W (k2 + 1))) hb3 fun a ha => ⟨M4, v17, (ha.sub ⟨Z, Z, Z, Z, Z, Zt⟩), lz3, hC27, hr25⟩
       ·
        obtain rfl := hbb3.trans hc3
        refine cw_false Z (cw_skip (ew_blockN (ew_then (cw_region (lw_op Z Z Z (ow_move Z Z (lw_op Z Z Z (ow_add Z Z Z (lw_op Z Z Z (ow_assign Z Z (lw_nil ?_)))))))))))
        have lz4 := ((hl3.trans hl14).trans hl25)
        exact ew_nxt (y2, (W (k2 + 1))) hb3 fun a ha => ⟨M3, v3, (ha.sub ⟨Z, Z, Z, Z, Z, Zt⟩), lz4, hC25, hr23⟩
    ·
     obtain rfl := hbb2.trans hc2
     exact cw_false Z (cw_exit (ew_thenX (ew_thenX (ew_blockX (ew_brk (y2, k2) hb3 fun a ha => ⟨M3, v3, (ha.sub ⟨Z, Z, Z, Z, Z, Zt⟩), hl3, hC3, hw2⟩)))))
   ·
    rintro ⟨y3, k3⟩ a w28 hlr3 ⟨M5, v18, hF3, hl28, hC28, hw5⟩
    subst hlr3
    exact ew_at (E := [(0, v0p), (1, v1p), (5, v18), (6, (Zv k1)), (7, (Zv k3))]) hF3 (ew_blockN (ew_then (cw_region (lw_op Z Z Z (ow_move Z Z (lw_op Z Z Z (ow_add Z Z Z (lw_op Z Z Z (ow_assign Z Z (lw_nil (ew_nxt (y3, (W (k1 + 1))) hb2 fun a ha => ⟨M5, v18, (ha.sub ⟨Z, Z, Z, Z, Zt⟩), (hl2.trans hl28), hC28, hw5⟩)))))))))))
  ·
   obtain rfl := hbb1.trans hc1
   exact cw_false Z (cw_exit (ew_thenX (ew_thenX (ew_blockX (ew_brk (y1, k1) hb2 fun a ha => ⟨M2, v1, (ha.sub ⟨Z, Z, Z, Z, Zt⟩), hl2, hC2, hw1⟩)))))
 ·
  rintro ⟨y4, k4⟩ a w29 hlr4 ⟨M6, v20, hF4, hl29, hC29, hw6⟩
  subst hlr4
  refine ew_at (E := [(0, v0p), (1, v1p), (5, v20), (6, (Zv k4))]) hF4 (ew_then (cw_seq (cw_region (lw_op Z Z Z (ow_move Z Z (lw_op Z Z Z (ow_assign Z Z (lw_nil (ew_then (cw_ret ?_))))))))))
  obtain rfl := sj h
  exact ew_ret (res1 Z (.tmp Z)) ⟨_, Z, (hw6.freezeBack hC29 hO), hC29.bx⟩

theorem w_spec_l2Other {w : World} {M : Nat → Prop} (_hG : ARep (RArr 4 RShape) w M shapes ⟨0, 0, none⟩) (hO : ∀ b, M b → b < w.heap.size) {v0p : Value} {a_a : List Span} (h0 : VRep (RSlice RSpan) w M a_a v0p) {a_top : Int} {r : (List Span)} (h : F.spec_l2Other a_a a_top = some r) :
  Calls Tryd.prog 158 [v0p, (.int .i64 a_top)].toArray w fun e w' => ∃ v, e = .returned v ∧ VRep (RSlice RSpan) w' M r v ∧ BX No w w' := by
 obtain ⟨i120, hi120, hz120, hs120, hy120⟩ := info120
 have hC : Cx No w M w M := Cx.start hO (fun _ e => e.elim)
 clear _hG
 refine walk (N := 49) Tryd.func158 Z Tryd.ntmps158 Z (cw_seq (cw_region (lw_op Z Z Z (ow_assign Z Z (lw_nil (ew_then (cw_seq (cw_region (lw_op Z Z Z (ow_buildSlice0 (R := RSpan) (e := 120) Z (by kernel_rfl) hC fun p1 w1 M1 hr1 hb1 hl1 hC1 hM1 hat1 => lw_op Z Z Z (ow_assign Z Z (lw_nil (ew_then (cw_seq (cw_region (lw_op Z Z Z (ow_assign Z Z (lw_nil (ew_then (cw_seq (cw_seq (cw_region (lw_op Z Z Z (ow_assign Z Z (lw_nil (ew_then ?_))))))))))))))))))))))))))
 replace h := bind_some h
 obtain ⟨lr1, hlr1, h⟩ := h
 refine cw_for hlr1 (fun s a w' => ∃ (M' : Nat → Prop) (v0c : Value), Fits 49 [(0, v0p), (1, (Zv a_top)), (5, v0c), (6, (Zv s.2.1)), (7, (Zv s.2.2))] a ∧ Le w1 M1 w' M' ∧ Cx No w M w' M' ∧ OwnRow RSpan w.heap.size 120 w' M' s.1 v0c) ?_ ?_ ?_
 · exact fun a ha => ⟨M1, (.slice (some p1) 0 0), ha.sub ⟨Z, Z, Z, Z, Z, Zt⟩, Le.refl _ _, hC1, hr1⟩
 ·
  rintro ⟨y1, k1, k2⟩ a w2 sr1 ⟨M2, v1, hF1, hl2, hC2, hw1⟩ hb2 hR1
  refine cw_at (E := [(0, v0p), (1, (Zv a_top)), (5, v1), (6, (Zv k1)), (7, (Zv k2))]) hF1 (cw_seq (cw_seq (cw_region (lw_op Z Z Z (ow_move Z Z (lw_op Z Z Z (ow_move Z Z (lw_op Z Z Z (ow_len Z Z (VRep.mono (hl1.trans hl2) h0) Tryd.underlying121 Z (lw_op Z Z Z (ow_lss Z Z Z fun bb1 hbb1 => lw_nil (ew_then ?_))))))))))))
  replace hb2 := cond_some hb2
  rcases hb2 with ⟨hc1, hb2⟩ | ⟨hc1, hb2⟩
  ·
   obtain rfl := hbb1.trans hc1
   refine cw_true Z (cw_skip (ew_then (cw_seq (cw_block (cw_seq (cw_seq (cw_region (lw_op Z Z Z (ow_move Z Z (lw_op Z Z Z (ow_move Z Z (lw_op Z Z Z (ow_move Z Z ?_)))))))))))))
   replace hb2 := bind_some hb2
   obtain ⟨x1, hx1, hb2⟩ := hb2
   refine lw_op Z Z Z (ow_indexSlice (R := RSpan) Z Z Z (VRep.mono (hl1.trans hl2) h0) Tryd.underlying121 (Tryd.sizeOf120 _) hx1 fun p2 hp2 => lw_op Z Z Z (ow_fieldAddr Z Z Tryd.underlying120 Z (Tryd.sizeOf3 _) (lw_op Z Z Z (ow_load (R := RInt) Z Z (hp2.fld fld_Span_Lo) (Tryd.sizeOf3 _) (Tryd.isAgg3 _) fun v4 hv4 => ?_))))
   obtain rfl := vint_eq hv4
   refine lw_op Z Z Z (ow_lss Z Z Z fun bb2 hbb2 => lw_nil (ew_then ?_))
   replace hb2 := cond_some hb2
   rcases hb2 with ⟨hc2, hb2⟩ | ⟨hc2, hb2⟩
   ·
    obtain rfl := hbb2.trans hc2
    refine cw_true Z (cw_region (lw_op Z Z Z (ow_move Z Z (lw_op Z Z Z (ow_move Z Z (lw_op Z Z Z (ow_move Z Z (lw_op Z Z Z (ow_move Z Z (lw_op Z Z Z (ow_indexSlice (R := RSpan) Z Z Z (VRep.mono (hl1.trans hl2) h0) Tryd.underlying121 (Tryd.sizeOf120 _) hx1 fun p3 hp3 => lw_op Z Z Z (ow_fieldAddr Z Z Tryd.underlying120 Z (Tryd.sizeOf3 _) (lw_op Z Z Z (ow_load (R := RInt) Z Z (hp3.fld fld_Span_Lo) (Tryd.sizeOf3 _) (Tryd.isAgg3 _) fun v5 hv5 => ?_))))))))))))))
    obtain rfl := vint_eq hv5
    refine lw_op Z Z Z (ow_sub Z Z Z (lw_op Z Z Z (ow_build (v := .agg #[(Zv k1), (Zv (W (x1.Lo - 1)))]) Z Z (by kernel_rfl) ?_)))
    have hw2 : VRep RSpan w2 M2 ({ Lo := k1, Hi := (W (x1.Lo - 1)) } : Span) (.agg #[(Zv k1), (Zv (W (x1.Lo - 1)))]) := shut_Span
    refine lw_op Z Z Z (ow_buildSlice (R := RSpan) (xs := [({ Lo := k1, Hi := (W (x1.Lo - 1)) } : Span)]) (cs := #[(Zv k1), (Zv (W (x1.Lo - 1)))]) (e := 120) Z Z (by kernel_rfl) Z Z ⟨_, _, Z, hw2.cells, Z⟩ hC2 fun p4 w3 hw3 hb3 hl3 hC3 => ?_)
    have hr2 := hw1.no hb3
    replace hb2 := bind_some hb2
    obtain ⟨z1, hz1, hb2⟩ := hb2
    refine lw_op Z Z Z (ow_append (R := RSpan) Z Z Z Z Tryd.underlying121 hi120 hz120 hs120 hy120 Z Z Z Z hr2 hw3 hz1 hC3 fun v6 w4 M3 hr3 hb4 hl4 hC4 hM2 hat2 => lw_op Z Z Z (ow_assign Z Z (lw_nil (ew_then (cw_region (lw_op Z Z Z (ow_move Z Z (lw_op Z Z Z (ow_move Z Z ?_)))))))))
    have lz1 := (((hl1.trans hl2).trans hl3).trans hl4)
    refine lw_op Z Z Z (ow_indexSlice (R := RSpan) Z Z Z (VRep.mono lz1 h0) Tryd.underlying121 (Tryd.sizeOf120 _) hx1 fun p5 hp5 => lw_op Z Z Z (ow_fieldAddr Z Z Tryd.underlying120 Z (Tryd.sizeOf3 _) (lw_op Z Z Z (ow_load (R := RInt) Z Z (hp5.fld fld_Span_Hi) (Tryd.sizeOf3 _) (Tryd.isAgg3 _) fun v7 hv7 => ?_))))
    obtain rfl := vint_eq hv7
    refine lw_op Z Z Z (ow_add Z Z Z (lw_op Z Z Z (ow_assign Z Z (lw_nil (ew_blockN (ew_then (cw_region (lw_op Z Z Z (ow_move Z Z (lw_op Z Z Z (ow_add Z Z Z (lw_op Z Z Z (ow_assign Z Z (lw_nil ?_))))))))))))))
    have lz2 := ((hl2.trans hl3).trans hl4)
    exact ew_nxt (z1, (W (x1.Hi + 1)), (W (k2 + 1))) hb2 fun a ha => ⟨M3, v6, (ha.sub ⟨Z, Z, Z, Z, Z, Zt⟩), lz2, hC4, hr3⟩
   ·
    obtain rfl := hbb2.trans hc2
    refine cw_false Z (cw_skip (ew_then (cw_region (lw_op Z Z Z (ow_move Z Z (lw_op Z Z Z (ow_move Z Z (lw_op Z Z Z (ow_indexSlice (R := RSpan) Z Z Z (VRep.mono (hl1.trans hl2) h0) Tryd.underlying121 (Tryd.sizeOf120 _) hx1 fun p6 hp6 => lw_op Z Z Z (ow_fieldAddr Z Z Tryd.underlying120 Z (Tryd.sizeOf3 _) (lw_op Z Z Z (ow_load (R := RInt) Z Z (hp6.fld fld_Span_Hi) (Tryd.sizeOf3 _) (Tryd.isAgg3 _) fun v8 hv8 => ?_))))))))))))
    obtain rfl := vint_eq hv8
    exact lw_op Z Z Z (ow_add Z Z Z (lw_op Z Z Z (ow_assign Z Z (lw_nil (ew_blockN (ew_then (cw_region (lw_op Z Z Z (ow_move Z Z (lw_op Z Z Z (ow_add Z Z Z (lw_op Z Z Z (ow_assign Z Z (lw_nil (ew_nxt (y1, (W (x1.Hi + 1)), (W (k2 + 1))) hb2 fun a ha => ⟨M2, v1, (ha.sub ⟨Z, Z, Z, Z, Z, Zt⟩), hl2, hC2, hw1⟩)))))))))))))))
  ·
   obtain rfl := hbb1.trans hc1
   exact cw_false Z (cw_exit (ew_thenX (ew_thenX (ew_blockX (ew_brk (y1, k1, k2) hb2 fun a ha => ⟨M2, v1, (ha.sub ⟨Z, Z, Z, Z, Z, Zt⟩), hl2, hC2, hw1⟩)))))
 ·
  rintro ⟨y2, k3, k4⟩ a w5 hlr2 ⟨M4, v9, hF2, hl5, hC5, hw4⟩
  subst hlr2
  refine ew_at (E := [(0, v0p), (1, (Zv a_top)), (5, v9), (6, (Zv k3)), (7, (Zv k4))]) hF2 (ew_then (cw_seq (cw_seq (cw_region (lw_op Z Z Z (ow_move Z Z (lw_op Z Z Z (ow_move Z Z (lw_op Z Z Z (ow_leq Z Z Z fun bb3 hbb3 => lw_nil (ew_then ?_)))))))))))
  replace h := cond_some h
  rcases h with ⟨hc3, h⟩ | ⟨hc3, h⟩
  ·
   obtain rfl := hbb3.trans hc3
   refine cw_true Z (cw_region (lw_op Z Z Z (ow_move Z Z (lw_op Z Z Z (ow_move Z Z (lw_op Z Z Z (ow_move Z Z (lw_op Z Z Z (ow_build (v := .agg #[(Zv k3), (Zv a_top)]) Z Z (by kernel_rfl) ?_)))))))))
   have hw5 : VRep RSpan w5 M4 ({ Lo := k3, Hi := a_top } : Span) (.agg #[(Zv k3), (Zv a_top)]) := shut_Span
   refine lw_op Z Z Z (ow_buildSlice (R := RSpan) (xs := [({ Lo := k3, Hi := a_top } : Span)]) (cs := #[(Zv k3), (Zv a_top)]) (e := 120) Z Z (by kernel_rfl) Z Z ⟨_, _, Z, hw5.cells, Z⟩ hC5 fun p7 w6 hw6 hb5 hl6 hC6 => ?_)
   have hr4 := hw4.no hb5
   replace h := bind_some h
   obtain ⟨z2, hz2, h⟩ := h
   refine lw_op Z Z Z (ow_append (R := RSpan) Z Z Z Z Tryd.underlying121 hi120 hz120 hs120 hy120 Z Z Z Z hr4 hw6 hz2 hC6 fun v12 w7 M5 hr5 hb6 hl7 hC7 hM3 hat3 => lw_op Z Z Z (ow_assign Z Z (lw_nil (ew_then (cw_seq (cw_region (lw_op Z Z Z (ow_move Z Z (lw_op Z Z Z (ow_assign Z Z (lw_nil (ew_then (cw_ret ?_)))))))))))))
   obtain rfl := sj h
   exact ew_ret (res1 Z (.tmp Z)) ⟨_, Z, (hr5.freezeBack hC7 hO), hC7.bx⟩
  ·
   obtain rfl := hbb3.trans hc3
   refine cw_false Z (cw_skip (ew_then (cw_seq (cw_region (lw_op Z Z Z (ow_move Z Z (lw_op Z Z Z (ow_assign Z Z (lw_nil (ew_then (cw_ret ?_)))))))))))
   obtain rfl := sj h
   exact ew_ret (res1 Z (.tmp Z)) ⟨_, Z, (hw4.freezeBack hC5 hO), hC5.bx⟩

theorem w_spec_l10Empty {w : World} {M : Nat → Prop} (_hG : ARep (RArr 4 RShape) w M shapes ⟨0, 0, none⟩) (hO : ∀ b, M b → b < w.heap.size) {v0p : Value} {a_b : Box} (h0 : VRep RBox w M a_b v0p) {r : Bool} (h : F.spec_l10Empty a_b = some r) :
  Calls Tryd.prog 87 [v0p].toArray w fun e w' => ∃ v, e = .returned v ∧ VRep RBool w' M r v ∧ BX No w w' := by
 have hC : Cx No w M w M := Cx.start hO (fun _ e => e.elim)
 clear _hG
 refine walk (N := 18) Tryd.func87 Z Tryd.ntmps87 Z (cw_seq (cw_region (lw_op Z Z Z (ow_box (R := RBox) Z Z h0 hC fun p1 w1 hp1 hb1 hl1 hC1 => lw_op Z Z Z (ow_assign Z Z (lw_nil (ew_then (cw_seq (cw_seq (cw_region (lw_op Z Z Z (ow_assign Z Z (lw_nil (ew_then ?_))))))))))))))
 replace h := bind_some h
 obtain ⟨lr1, hlr1, h⟩ := h
 refine cw_for hlr1 (fun s a w' => ∃ (M' : Nat → Prop), Fits 18 [(1, (.pointer (some p1))), (3, (Zv s))] a ∧ Le w1 M w' M' ∧ Cx No w M w' M') ?_ ?_ ?_
 · exact fun a ha => ⟨M, ha.sub ⟨Z, Z, Zt⟩, Le.refl _ _, hC1⟩
 ·
  rintro k1 a w2 sr1 ⟨M1, hF1, hl2, hC2⟩ hb2 hR1
  refine cw_at (E := [(1, (.pointer (some p1))), (3, (Zv k1))]) hF1 (cw_seq (cw_seq (cw_region (lw_op Z Z Z (ow_move Z Z (lw_op Z Z Z (ow_fieldAddr Z Z Tryd.underlying48 Z (Tryd.sizeOf46 _) (lw_op Z Z Z (ow_load (R := (RSlice (RSlice RSpan))) Z Z (ARep.mono hl2 (hp1.fld fld_Box_Sides)) (Tryd.sizeOf46 _) (Tryd.isAgg46 _) fun v2 hv2 => lw_op Z Z Z (ow_len Z Z hv2 Tryd.underlying46 Z (lw_op Z Z Z (ow_lss Z Z Z fun bb1 hbb1 => lw_nil (ew_then ?_)))))))))))))
  replace hb2 := cond_some hb2
  rcases hb2 with ⟨hc1, hb2⟩ | ⟨hc1, hb2⟩
  ·
   obtain rfl := hbb1.trans hc1
   refine cw_true Z (cw_skip (ew_then (cw_seq (cw_block (cw_seq (cw_region (lw_op Z Z Z (ow_fieldAddr Z Z Tryd.underlying48 Z (Tryd.sizeOf46 _) (lw_op Z Z Z (ow_load (R := (RSlice (RSlice RSpan))) Z Z (ARep.mono hl2 (hp1.fld fld_Box_Sides)) (Tryd.sizeOf46 _) (Tryd.isAgg46 _) fun v3 hv3 => lw_op Z Z Z (ow_move Z Z ?_)))))))))))
   replace hb2 := bind_some hb2
   obtain ⟨x1, hx1, hb2⟩ := hb2
   refine lw_op Z Z Z (ow_indexSlice (R := (RSlice RSpan)) Z Z Z hv3 Tryd.underlying46 (Tryd.sizeOf121 _) hx1 fun p2 hp2 => lw_op Z Z Z (ow_load (R := (RSlice RSpan)) Z Z hp2 (Tryd.sizeOf121 _) (Tryd.isAgg121 _) fun v4 hv4 => lw_op Z Z Z (ow_len Z Z hv4 Tryd.underlying121 Z (lw_op Z Z Z (ow_eqlI Z Z Z fun bb2 hbb2 => lw_nil (ew_then ?_))))))
   replace hb2 := cond_some hb2
   rcases hb2 with ⟨hc2, hb2⟩ | ⟨hc2, hb2⟩
   ·
    obtain rfl := hbb2.trans hc2
    refine cw_true Z (cw_seq (cw_region (lw_op Z Z Z (ow_assign Z Z (lw_nil (ew_then (cw_ret (ew_blockR (ew_thenR (ew_thenR (ew_blockR (ew_brkR (ew_thenR ?_)))))))))))))
    have e1 := hR1 _ (sj hb2).symm
    subst e1
    obtain rfl := sj h
    exact ew_ret (res1 Z (.tmp Z)) ⟨_, Z, ((vbool _)), hC2.bx⟩
   ·
    obtain rfl := hbb2.trans hc2
    exact cw_false Z (cw_skip (ew_blockN (ew_then (cw_region (lw_op Z Z Z (ow_move Z Z (lw_op Z Z Z (ow_add Z Z Z (lw_op Z Z Z (ow_assign Z Z (lw_nil (ew_nxt (W (k1 + 1)) hb2 fun a ha => ⟨M1, (ha.sub ⟨Z, Z, Zt⟩), hl2, hC2⟩))))))))))))
  ·
   obtain rfl := hbb1.trans hc1
   exact cw_false Z (cw_exit (ew_thenX (ew_thenX (ew_blockX (ew_brk k1 hb2 fun a ha => ⟨M1, (ha.sub ⟨Z, Z, Zt⟩), hl2, hC2⟩)))))
 ·
  rintro k2 a w3 hlr2 ⟨M2, hF2, hl3, hC3⟩
  subst hlr2
  refine ew_at (E := [(1, (.pointer (some p1))), (3, (Zv k2))]) hF2 (ew_then (cw_seq (cw_region (lw_op Z Z Z (ow_assign Z Z (lw_nil (ew_then (cw_ret ?_))))))))
  obtain rfl := sj h
  exact ew_ret (res1 Z (.tmp Z)) ⟨_, Z, ((vbool _)), hC3.bx⟩

theorem w_spec_l10Meet {w : World} {M : Nat → Prop} (hG : ARep (RArr 4 RShape) w M shapes ⟨0, 0, none⟩) (hO : ∀ b, M b → b < w.heap.size) {v0p : Value} {a_a : Box} (h0 : VRep RBox w M a_a v0p) {v1p : Value} {a_b : Box} (h1 : VRep RBox w M a_b v1p) {r : Box} (h : F.spec_l10Meet a_a a_b = some r) :
  Calls Tryd.prog 97 [v0p, v1p].toArray w fun e w' => ∃ v, e = .returned v ∧ VRep RBox w' M r v ∧ BX No w w' := by
 obtain ⟨i121, hi121, hz121, hs121, hy121⟩ := info121
 have hC : Cx No w M w M := Cx.start hO (fun _ e => e.elim)
 refine walk (N := 29) Tryd.func97 Z Tryd.ntmps97 Z (cw_seq (cw_region (lw_op Z Z Z (ow_box (R := RBox) Z Z h0 hC fun p1 w1 hp1 hb1 hl1 hC1 => lw_op Z Z Z (ow_box (R := RBox) Z Z (VRep.mono hl1 h1) hC1 fun p2 w2 hp2 hb2 hl2 hC2 => lw_op Z Z Z (ow_alloc Z (Tryd.zeroValue48 _) hC2 fun g1 w3 hg1 hg2 ho1 hb3 hl3 hC3 => ?_))))))
 have hm1 : (Add g1 M) g1 := .inl Z
 refine lw_nil (ew_then (cw_seq (cw_region (lw_op Z Z Z (ow_build (v := .agg #[(.slice none 0 0)]) Z Z (by kernel_rfl) (lw_op Z Z Z (ow_alloc Z (Tryd.zeroValue48 _) hC3 fun g2 w4 hg3 hg4 ho2 hb4 hl4 hC4 => ?_)))))))
 have hn1 := Nat.ne_of_lt (Nat.lt_of_lt_of_le ho1.lt hg3)
 have ho3 := ho1.no hb4
 have hm2 : (Add g2 (Add g1 M)) g1 := .inr hm1
 have hm3 : (Add g2 (Add g1 M)) g2 := .inl Z
 refine lw_op0 Z Z (ow_store (X := No) (us := [(.slice none 0 0)]) (cs' := #[(.slice none 0 0)]) Z Z Z Z ho2 (Tryd.sizeOf48 _) Z Z Z Z hm3 (.inl hg4) Z hC4 fun w5 ho4 hb5 hl5 hC5 => ?_)
 have ho5 := ho3.go hb5 (fun e => hn1 e)
 refine lw_nil (ew_then (cw_seq (cw_seq (cw_region (lw_op Z Z Z (ow_assign Z Z (lw_nil (ew_then ?_))))))))
 have hr1 : OwnRow (RSlice RSpan) w.heap.size 121 w5 (Add g2 (Add g1 M)) ([] : List (List Span)) (.slice none 0 0) := ownrow_nil
 replace h := bind_some h
 obtain ⟨lr1, hlr1, h⟩ := h
 refine cw_for hlr1 (fun s a w' => ∃ (M' : Nat → Prop) (v1c : Value), Fits 29 [(2, (.pointer (some p1))), (3, (.pointer (some p2))), (4, (Zw g1 0)), (5, (Zw g2 0)), (6, (Zv s.1))] a ∧ Le w5 (Add g2 (Add g1 M)) w' M' ∧ Cx No w M w' M' ∧ OwnRow (RSlice RSpan) w.heap.size 121 w' M' s.2 v1c ∧ Own w' g1 48 #[(.slice none 0 0)] ∧ M' g1 ∧ Own w' g2 48 #[v1c] ∧ M' g2) ?_ ?_ ?_
 · exact fun a ha => ⟨(Add g2 (Add g1 M)), (.slice none 0 0), ha.sub ⟨Z, Z, Z, Z, Z, Zt⟩, Le.refl _ _, hC5, hr1, ho5, hm2, ho4, hm3⟩
 ·
  rintro ⟨k1, y1⟩ a w6 sr1 ⟨M1, v2, hF1, hl6, hC6, hw2, ho6, hm4, ho7, hm5⟩ hb6 hR1
  refine cw_at (E := [(2, (.pointer (some p1))), (3, (.pointer (some p2))), (4, (Zw g1 0)), (5, (Zw g2 0)), (6, (Zv k1))]) hF1 (cw_seq (cw_seq (cw_region (lw_op Z Z Z (ow_move Z Z (lw_op Z Z Z (ow_lss Z Z Z fun bb1 hbb1 => lw_nil (ew_then ?_))))))))
  replace hb6 := cond_some hb6
  rcases hb6 with ⟨hc1, hb6⟩ | ⟨hc1, hb6⟩
  ·
   obtain rfl := hbb1.trans hc1
   refine cw_true Z (cw_skip (ew_then (cw_seq (cw_block ?_))))
   replace hb6 := bind_some hb6
   obtain ⟨x1, hx1, hb6⟩ := hb6
   replace hb6 := bind_some hb6
   obtain ⟨x2, hx2, hb6⟩ := hb6
   replace hb6 := bind_some hb6
   obtain ⟨x3, hx3, hb6⟩ := hb6
   have lz1 := (((((hl1.trans hl2).trans hl3).trans hl4).trans hl5).trans hl6)
   have lz2 := ((((hl2.trans hl3).trans hl4).trans hl5).trans hl6)
   have lz3 := (((hl3.trans hl4).trans hl5).trans hl6)
   refine cw_sub (E' := [(2, (.pointer (some p1))), (3, (.pointer (some p2))), (4, (Zw g1 0)), (5, (Zw g2 0)), (6, (Zv k1))]) ⟨Z, Z, Z, Z, Z, Zt⟩ (cw_drawQ 14 [PEq (Zw g2 0), PEq v2, PA (RSlice (RSlice RSpan)) M1 a_a.Sides, PV (RSlice (RSlice RSpan)) M1 a_a.Sides, PEq (Zv k1), PA (RSlice RSpan) M1 x1, PV (RSlice RSpan) M1 x1, PA (RSlice (RSlice RSpan)) M1 a_b.Sides, PV (RSlice (RSlice RSpan)) M1 a_b.Sides, PEq (Zv k1), PA (RSlice RSpan) M1 x2, PV (RSlice RSpan) M1 x2, PV (RSlice RSpan) M1 x3, PV (RSlice (RSlice RSpan)) M1 [x3]] (by kernel_rfl) Z (by kernel_rfl) ⟨Zq, Zq, PA.mono _ _ _, PV.mono _ _ _, Zq, PA.mono _ _ _, PV.mono _ _ _, PA.mono _ _ _, PV.mono _ _ _, Zq, PA.mono _ _ _, PV.mono _ _ _, PV.mono _ _ _, PV.mono _ _ _, Zt⟩ ⟨?_, ?_, ?_, ?_, ?_, ?_, ?_, ?_, ?_, ?_, ?_, ?_, ?_, ?_, Zt⟩ ?_)
   · exact fun w9 D hS1 hd1 => dg_sub (E' := [(5, (Zw g2 0))]) ⟨Z, Zt⟩ (dg_plain Z (ow_fieldAddr Z Z Tryd.underlying48 Z (Tryd.sizeOf46 _) Zb))
   ·
    intro w10 D hS2 hd2
    have ho15 := ho7.no hS2
    exact dg_sub (E' := [(12, (Zw g2 0))]) ⟨dpE hd2 0 Z Z, Zt⟩ (dg_plain Z (ow_loadOwn1 Z Z Z ho15 (Tryd.isAgg46 _) Z Zb))
   ·
    intro w11 D hS3 hd3
    have hl11 := Le.no M1 hS3
    exact dg_sub (E' := [(2, (.pointer (some p1)))]) ⟨Z, Zt⟩ (dg_plain Z (ow_fieldAddr Z Z Tryd.underlying48 Z (Tryd.sizeOf46 _) ⟨BX.refl _ _, ⟨_, Z, (ARep.mono (lz2.trans hl11) (hp1.fld fld_Box_Sides))⟩⟩))
   ·
    intro w12 D hS4 hd4
    have d2 : PA (RSlice (RSlice RSpan)) M1 a_a.Sides (D 2) w12 := dpA hd4 2 Z
    obtain ⟨p6, e1, ha1⟩ := d2
    exact dg_sub (E' := [(14, (.pointer (some p6)))]) ⟨congrArg some e1, Zt⟩ (dg_plain Z (ow_load (R := (RSlice (RSlice RSpan))) Z Z ha1 (Tryd.sizeOf46 _) (Tryd.isAgg46 _) fun v8 hv8 => ⟨BX.refl _ _, hv8⟩))
   · exact fun w13 D hS5 hd5 => dg_sub (E' := [(6, (Zv k1))]) ⟨Z, Zt⟩ (dg_plain Z (ow_move Z Z Zb))
   ·
    intro w14 D hS6 hd6
    have d3 : PV (RSlice (RSlice RSpan)) M1 a_a.Sides (D 3) w14 := dpA hd6 3 Z
    generalize hq1 : (D 3) = v9 at d3
    exact dg_sub (E' := [(15, v9), (16, (Zv k1))]) ⟨congrArg some hq1, dpE hd6 4 Z Z, Zt⟩ (dg_plain Z (ow_indexSlice (R := (RSlice RSpan)) Z Z Z d3 Tryd.underlying46 (Tryd.sizeOf121 _) hx1 fun p7 hp7 => ⟨BX.refl _ _, ⟨_, Z, hp7⟩⟩))
   ·
    intro w15 D hS7 hd7
    have d5 : PA (RSlice RSpan) M1 x1 (D 5) w15 := dpA hd7 5 Z
    obtain ⟨p8, e2, ha2⟩ := d5
    exact dg_sub (E' := [(17, (.pointer (some p8)))]) ⟨congrArg some e2, Zt⟩ (dg_plain Z (ow_load (R := (RSlice RSpan)) Z Z ha2 (Tryd.sizeOf121 _) (Tryd.isAgg121 _) fun v10 hv10 => ⟨BX.refl _ _, hv10⟩))
   ·
    intro w16 D hS8 hd8
    have hl16 := Le.no M1 hS8
    exact dg_sub (E' := [(3, (.pointer (some p2)))]) ⟨Z, Zt⟩ (dg_plain Z (ow_fieldAddr Z Z Tryd.underlying48 Z (Tryd.sizeOf46 _) ⟨BX.refl _ _, ⟨_, Z, (ARep.mono (lz3.trans hl16) (hp2.fld fld_Box_Sides))⟩⟩))
   ·
    intro w17 D hS9 hd9
    have d6 : PA (RSlice (RSlice RSpan)) M1 a_b.Sides (D 7) w17 := dpA hd9 7 Z
    obtain ⟨p9, e3, ha3⟩ := d6
    exact dg_sub (E' := [(19, (.pointer (some p9)))]) ⟨congrArg some e3, Zt⟩ (dg_plain Z (ow_load (R := (RSlice (RSlice RSpan))) Z Z ha3 (Tryd.sizeOf46 _) (Tryd.isAgg46 _) fun v11 hv11 => ⟨BX.refl _ _, hv11⟩))
   · exact fun w18 D hS10 hd10 => dg_sub (E' := [(6, (Zv k1))]) ⟨Z, Zt⟩ (dg_plain Z (ow_move Z Z Zb))
   ·
    intro w19 D hS11 hd11
    have d7 : PV (RSlice (RSlice RSpan)) M1 a_b.Sides (D 8) w19 := dpA hd11 8 Z
    generalize hq2 : (D 8) = v12 at d7
    exact dg_sub (E' := [(20, v12), (21, (Zv k1))]) ⟨congrArg some hq2, dpE hd11 9 Z Z, Zt⟩ (dg_plain Z (ow_indexSlice (R := (RSlice RSpan)) Z Z Z d7 Tryd.underlying46 (Tryd.sizeOf121 _) hx2 fun p10 hp10 => ⟨BX.refl _ _, ⟨_, Z, hp10⟩⟩))
   ·
    intro w20 D hS12 hd12
    have d9 : PA (RSlice RSpan) M1 x2 (D 10) w20 := dpA hd12 10 Z
    obtain ⟨p11, e4, ha4⟩ := d9
    exact dg_sub (E' := [(22, (.pointer (some p11)))]) ⟨congrArg some e4, Zt⟩ (dg_plain Z (ow_load (R := (RSlice RSpan)) Z Z ha4 (Tryd.sizeOf121 _) (Tryd.isAgg121 _) fun v13 hv13 => ⟨BX.refl _ _, hv13⟩))
   ·
    intro w21 D hS13 hd13
    have hl21 := Le.no M1 hS13
    have hC21 := hC6.no hS13
    have d10 : PV (RSlice RSpan) M1 x1 (D 6) w21 := dpA hd13 6 Z
    have d11 : PV (RSlice RSpan) M1 x2 (D 11) w21 := dpA hd13 11 Z
    generalize hq3 : (D 6) = v14 at d10
    generalize hq4 : (D 11) = v15 at d11
    refine dg_sub (E' := [(18, v14), (23, v15)]) ⟨congrArg some hq3, congrArg some hq4, Zt⟩ (dg_plain Z (ow_call Z Z Tryd.call103 (w_spec_l2Meet (hG.mono (lz1.trans hl21)) hC21.old d10 d11 hx3) fun v16 w22 hv16 => ?_))
    obtain ⟨hv16, hb9⟩ := hv16
    exact ⟨hb9, hv16⟩
   ·
    intro w23 D hS14 hd14
    have hC23 := hC6.no hS14
    have d12 : PV (RSlice RSpan) M1 x3 (D 12) w23 := dpA hd14 12 Z
    generalize hq5 : (D 12) = v17 at d12
    refine dg_sub (E' := [(24, v17)]) ⟨congrArg some hq5, Zt⟩ ?_
    obtain ⟨A2, c2, rfl, -⟩ := vslice_shape d12
    exact dg_plain Z (ow_buildSlice (R := (RSlice RSpan)) (xs := [x3]) (cs := #[(.slice A2 x3.length c2)]) (e := 121) Z Z (by kernel_rfl) Z Z ⟨_, _, Z, d12.cells, Z⟩ hC23 fun p12 w24 hw4 hb10 hl24 hC24 => ⟨hb10, hw4⟩)
   ·
    intro w25 D hS15 hd15
    have d26 : PV (RSlice (RSlice RSpan)) M1 [x3] (D 13) w25 := dpA hd15 13 Z
    have hl25 := Le.no M1 hS15
    have hC25 := hC6.no hS15
    have ho44 := ho6.no hS15
    have ho45 := ho7.no hS15
    have hr20 := hw2.no hS15
    generalize hq6 : (D 13) = v18 at d26
    refine lw_sub (E' := [(13, v2), (25, v18), (2, (.pointer (some p1))), (3, (.pointer (some p2))), (4, (Zw g1 0)), (5, (Zw g2 0)), (6, (Zv k1))]) ⟨dpE hd15 1 Z Z, congrArg some hq6, Z, Z, Z, Z, Z, Zt⟩ ?_
    replace hb6 := bind_some hb6
    obtain ⟨z1, hz1, hb6⟩ := hb6
    refine lw_op Z Z Z (ow_append (R := (RSlice RSpan)) Z Z Z Z Tryd.underlying46 hi121 hz121 hs121 hy121 Z Z Z Z hr20 d26 hz1 hC25 fun v19 w26 M2 hr21 hb11 hl26 hC26 hM1 hat1 => ?_)
    have ho46 := ho44.go hb11 (fun e => (orow_ne hr20 ho44 (by decide)) e)
    have hm6 := hM1 _ hm4
    have ho47 := ho45.go hb11 (fun e => (orow_ne hr20 ho45 (by decide)) e)
    have hm7 := hM1 _ hm5
    refine lw_op Z Z Z (ow_fieldAddr Z Z Tryd.underlying48 Z (Tryd.sizeOf46 _) ?_)
    obtain ⟨A3, c3, rfl⟩ := hr21.len
    refine lw_op0 Z Z (ow_store (X := No) (us := [(.slice A3 z1.length c3)]) (cs' := #[(.slice A3 z1.length c3)]) Z Z Z Z ho47 (Tryd.sizeOf46 _) Z Z Z Z hm7 (.inl hg4) Z hC26 fun w27 ho48 hb12 hl27 hC27 => ?_)
    have ho49 := ho46.go hb12 (fun e => hn1 e)
    have hr22 := hr21.go hb12 (fun k hk e => (orow_ne hr21 ho47 (by decide)) (hk.trans (congrArg some e))) hl27 (fun _ h => h)
    refine lw_nil (ew_blockN (ew_then (cw_region (lw_op Z Z Z (ow_move Z Z (lw_op Z Z Z (ow_add Z Z Z (lw_op Z Z Z (ow_assign Z Z (lw_nil ?_))))))))))
    have lz4 := (((hl6.trans hl25).trans hl26).trans hl27)
    exact ew_nxt ((W (k1 + 1)), z1) hb6 fun a ha => ⟨M2, (.slice A3 z1.length c3), (ha.sub ⟨Z, Z, Z, Z, Z, Zt⟩), lz4, hC27, hr22, ho49, hm6, ho48, hm7⟩
  ·
   obtain rfl := hbb1.trans hc1
   exact cw_false Z (cw_exit (ew_thenX (ew_thenX (ew_blockX (ew_brk (k1, y1) hb6 fun a ha => ⟨M1, v2, (ha.sub ⟨Z, Z, Z, Z, Z, Zt⟩), hl6, hC6, hw2, ho6, hm4, ho7, hm5⟩)))))
 ·
  rintro ⟨k2, y2⟩ a w28 hlr2 ⟨M3, v21, hF2, hl28, hC28, hw5, ho50, hm8, ho51, hm9⟩
  subst hlr2
  refine ew_at (E := [(2, (.pointer (some p1))), (3, (.pointer (some p2))), (4, (Zw g1 0)), (5, (Zw g2 0)), (6, (Zv k2))]) hF2 (ew_then (cw_seq (cw_region (lw_op Z Z Z (ow_loadOwnA Z Z Z ho51 (Tryd.isAgg48 _) (Tryd.sizeOf48 _) Z ?_)))))
  have hw6 := hw5.freezeDel
  have hC29 := hw5.cxDel hC28 (fun _ e => e.elim) hO
  have hm10 : (Del v21 M3) g1 := ⟨hm8, fun e => (orow_ne hw5 ho50 (by decide)) e⟩
  obtain ⟨A4, c4, rfl, -⟩ := vslice_shape hw6
  refine lw_op0 Z Z (ow_store (X := No) (us := [(.slice A4 y2.length c4)]) (cs' := #[(.slice A4 y2.length c4)]) Z Z Z Z ho50 (Tryd.sizeOf48 _) Z Z Z Z hm10 (.inl hg2) Z hC29 fun w29 ho52 hb13 hl30 hC30 => lw_nil (ew_then (cw_ret ?_)))
  have hw8 : VRep RBox w29 (Del (.slice A4 y2.length c4) M3) ({ Sides := y2 } : Box) (.agg #[(.slice A4 y2.length c4)]) := shut_Box (VRep.mono hl30 hw6)
  obtain rfl := sj h
  exact ew_ret (res1 Z (.cell Z (own_loadVarA ho52 (Tryd.isAgg48 _) (Tryd.sizeOf48 _) Z))) ⟨_, Z, (hw8.mono hC30.back), hC30.bx⟩

theorem w_spec_l11Cut {w : World} {M : Nat → Prop} (hG : ARep (RArr 4 RShape) w M shapes ⟨0, 0, none⟩) (hO : ∀ b, M b → b < w.heap.size) {v0p : Value} {a_a : Box} (h0 : VRep RBox w M a_a v0p) {v1p : Value} {a_b : Box} (h1 : VRep RBox w M a_b v1p) {r : (List Box)} (h : F.spec_l11Cut a_a a_b = some r) :
  Calls Tryd.prog 124 [v0p, v1p].toArray w fun e w' => ∃ v, e = .returned v ∧ VRep (RSlice RBox) w' M r v ∧ BX No w w' := by
 obtain ⟨i48, hi48, hz48, hs48, hy48⟩ := info48
 have hC : Cx No w M w M := Cx.start hO (fun _ e => e.elim)
 refine walk (N := 82) Tryd.func124 Z Tryd.ntmps124 Z (cw_seq (cw_region (lw_op Z Z Z (ow_box (R := RBox) Z Z h0 hC fun p1 w1 hp1 hb1 hl1 hC1 => lw_op Z Z Z (ow_box (R := RBox) Z Z (VRep.mono hl1 h1) hC1 fun p2 w2 hp2 hb2 hl2 hC2 => lw_op Z Z Z (ow_assign Z Z (lw_nil (ew_then (cw_seq (cw_region (lw_op Z Z Z (ow_buildSlice0 (R := RBox) (e := 48) Z (by kernel_rfl) hC2 fun p3 w3 M1 hr1 hb3 hl3 hC3 hM1 hat1 => lw_op Z Z Z (ow_assign Z Z (lw_nil (ew_then (cw_seq (cw_seq (cw_region (lw_op Z Z Z (ow_load (R := RBox) Z Z (ARep.mono (hl2.trans hl3) hp1) (Tryd.sizeOf48 _) (Tryd.isAgg48 _) fun v1 hv1 => lw_op Z Z Z (ow_load (R := RBox) Z Z (ARep.mono hl3 hp2) (Tryd.sizeOf48 _) (Tryd.isAgg48 _) fun v2 hv2 => ?_)))))))))))))))))))))
 replace h := bind_some h
 obtain ⟨x1, hx1, h⟩ := h
 have lz1 := ((hl1.trans hl2).trans hl3)
 refine lw_op Z Z Z (ow_call Z Z Tryd.call97 (w_spec_l10Meet (hG.mono lz1) hC3.old hv1 hv2 hx1) fun v3 w4 hv3 => ?_)
 obtain ⟨hv3, hb4⟩ := hv3
 have hl4 := Le.no M1 hb4
 have hC4 := hC3.no hb4
 have hr2 := hr1.no hb4
 replace h := bind_some h
 obtain ⟨x2, hx2, h⟩ := h
 refine lw_op Z Z Z (ow_call Z Z Tryd.call87 (w_spec_l10Empty (hG.mono (lz1.trans hl4)) hC4.old hv3 hx2) fun v4 w5 hv4 => ?_)
 obtain ⟨hv4, hb5⟩ := hv4
 have hl5 := Le.no M1 hb5
 have hC5 := hC4.no hb5
 have hr3 := hr2.no hb5
 obtain rfl := vbool_eq hv4
 refine lw_nil (ew_then ?_)
 replace h := cond_some h
 rcases h with ⟨hc1, h⟩ | ⟨hc1, h⟩
 ·
  subst hc1
  refine cw_true Z (cw_seq (cw_seq (cw_region ?_)))
  have lz2 := (((hl2.trans hl3).trans hl4).trans hl5)
  refine lw_op Z Z Z (ow_load (R := RBox) Z Z (ARep.mono lz2 hp1) (Tryd.sizeOf48 _) (Tryd.isAgg48 _) fun v5 hv5 => ?_)
  replace h := bind_some h
  obtain ⟨x3, hx3, h⟩ := h
  have lz3 := ((lz1.trans hl4).trans hl5)
  refine lw_op Z Z Z (ow_call Z Z Tryd.call87 (w_spec_l10Empty (hG.mono lz3) hC5.old hv5 hx3) fun v6 w6 hv6 => ?_)
  obtain ⟨hv6, hb6⟩ := hv6
  have hl6 := Le.no M1 hb6
  have hC6 := hC5.no hb6
  have hr4 := hr3.no hb6
  obtain rfl := vbool_eq hv6
  refine lw_op Z Z Z (ow_not Z Z (lw_nil (ew_then ?_)))
  replace h := cond_some h
  rcases h with ⟨hc2, h⟩ | ⟨hc2, h⟩
  ·
   subst hc2
   refine cw_false Z (cw_skip (ew_then (cw_seq (cw_region (lw_op Z Z Z (ow_move Z Z (lw_op Z Z Z (ow_assign Z Z (lw_nil (ew_then (cw_ret (ew_thenR ?_))))))))))))
   obtain rfl := sj h
   exact ew_ret (res1 Z (.tmp Z)) ⟨_, Z, (hr4.freezeBack hC6 hO), hC6.bx⟩
  ·
   subst hc2
   refine cw_true Z (cw_region (lw_op Z Z Z (ow_move Z Z (lw_op Z Z Z (ow_load (R := RBox) Z Z (ARep.mono (lz2.trans hl6) hp1) (Tryd.sizeOf48 _) (Tryd.isAgg48 _) fun v7 hv7 => ?_)))))
   obtain ⟨A1, c1, rfl, hw1⟩ := open_Box hv7
   refine lw_op Z Z Z (ow_buildSlice (R := RBox) (xs := [a_a]) (cs := #[(.slice A1 a_a.Sides.length c1)]) (e := 48) Z Z (by kernel_rfl) Z Z ⟨_, _, Z, hv7.cells, Z⟩ hC6 fun p4 w7 hw2 hb7 hl7 hC7 => ?_)
   have hr5 := hr4.no hb7
   replace h := bind_some h
   obtain ⟨z1, hz1, h⟩ := h
   refine lw_op Z Z Z (ow_append (R := RBox) Z Z Z Z Tryd.underlying64 hi48 hz48 hs48 hy48 Z Z Z Z hr5 hw2 hz1 hC7 fun v8 w8 M2 hr6 hb8 hl8 hC8 hM2 hat2 => lw_op Z Z Z (ow_assign Z Z (lw_nil (ew_then (cw_seq (cw_region (lw_op Z Z Z (ow_move Z Z (lw_op Z Z Z (ow_assign Z Z (lw_nil (ew_then (cw_ret (ew_thenR ?_))))))))))))))
   obtain rfl := sj h
   exact ew_ret (res1 Z (.tmp Z)) ⟨_, Z, (hr6.freezeBack hC8 hO), hC8.bx⟩
 ·
  subst hc1
  refine cw_false Z (cw_skip (ew_then (cw_seq (cw_region ?_))))
  have lz4 := (((hl2.trans hl3).trans hl4).trans hl5)
  refine lw_op Z Z Z (ow_load (R := RBox) Z Z (ARep.mono lz4 hp1) (Tryd.sizeOf48 _) (Tryd.isAgg48 _) fun v9 hv9 => lw_op Z Z Z (ow_alloc Z (Tryd.zeroValue48 _) hC5 fun g1 w9 hg1 hg2 ho1 hb9 hl9 hC9 => ?_))
  have hn1 := nb_fresh hr3 hg1
  have hr7 := hr3.add hb9 hg1
  have hm1 : (Add g1 M1) g1 := .inl Z
  obtain ⟨A2, c2, rfl, hw3⟩ := open_Box hv9
  refine lw_op0 Z Z (ow_store (X := No) (us := [(.slice A2 a_a.Sides.length c2)]) (cs' := #[(.slice A2 a_a.Sides.length c2)]) Z Z Z Z ho1 (Tryd.sizeOf48 _) Z Z Z Z hm1 (.inl hg2) Z hC9 fun w10 ho2 hb10 hl10 hC10 => ?_)
  have hr8 := hr7.go hb10 (fun k hk e => hn1 (hk.trans (congrArg some e))) hl10 (fun _ h => h)
  refine lw_nil (ew_then (cw_seq (cw_seq (cw_region (lw_op Z Z Z (ow_assign Z Z (lw_nil (ew_then ?_))))))))
  replace h := bind_some h
  obtain ⟨lr1, hlr1, h⟩ := h
  refine cw_for hlr1 (fun s a w' => ∃ (M' : Nat → Prop) (v0c : Value) (v2c : Value), Fits 82 [(3, (.pointer (some p2))), (5, v0c), (6, (Zw g1 0)), (7, (Zv s.2.1))] a ∧ Le w10 (Add g1 M1) w' M' ∧ Cx No w M w' M' ∧ OwnRow RBox w.heap.size 48 w' M' s.1 v0c ∧ VRep (RSlice (RSlice RSpan)) w' M' s.2.2 v2c ∧ Own w' g1 48 #[v2c] ∧ M' g1 ∧ (Value.ownBlock v0c) ≠ some g1) ?_ ?_ ?_
  · exact fun a ha => ⟨(Add g1 M1), (.slice (some p3) 0 0), (.slice A2 a_a.Sides.length c2), ha.sub ⟨Z, Z, Z, Z, Zt⟩, Le.refl _ _, hC10, hr8, (VRep.mono (hl9.trans hl10) hw3), ho2, hm1, hn1⟩
  ·
   rintro ⟨y1, k1, y2⟩ a w11 sr1 ⟨M3, v10, v12, hF1, hl11, hC11, hw4, hw5, ho3, hm2, hn2⟩ hb11 hR1
   refine cw_at (E := [(3, (.pointer (some p2))), (5, v10), (6, (Zw g1 0)), (7, (Zv k1))]) hF1 (cw_seq (cw_seq (cw_region (lw_op Z Z Z (ow_move Z Z (lw_op Z Z Z (ow_lss Z Z Z fun bb1 hbb1 => lw_nil (ew_then ?_))))))))
   replace hb11 := cond_some hb11
   rcases hb11 with ⟨hc3, hb11⟩ | ⟨hc3, hb11⟩
   ·
    obtain rfl := hbb1.trans hc3
    refine cw_true Z (cw_skip (ew_then (cw_seq (cw_block (cw_seq ?_)))))
    replace hb11 := bind_some hb11
    obtain ⟨x4, hx4, hb11⟩ := hb11
    replace hb11 := bind_some hb11
    obtain ⟨x5, hx5, hb11⟩ := hb11
    replace hb11 := bind_some hb11
    obtain ⟨x6, hx6, hb11⟩ := hb11
    replace hb11 := bind_some hb11
    obtain ⟨x7, hx7, hb11⟩ := hb11
    have lz5 := (((((lz1.trans hl4).trans hl5).trans hl9).trans hl10).trans hl11)
    have lz6 := (((((hl3.trans hl4).trans hl5).trans hl9).trans hl10).trans hl11)
    refine cw_sub (E' := [(3, (.pointer (some p2))), (5, v10), (6, (Zw g1 0)), (7, (Zv k1))]) ⟨Z, Z, Z, Z, Zt⟩ (cw_drawQ 13 [PEq (Zw g1 0), PV (RSlice (RSlice RSpan)) M3 y2, PEq (Zv k1), PA (RSlice RSpan) M3 x4, PV (RSlice RSpan) M3 x4, PA (RSlice (RSlice RSpan)) M3 a_b.Sides, PV (RSlice (RSlice RSpan)) M3 a_b.Sides, PEq (Zv k1), PA (RSlice RSpan) M3 x5, PV (RSlice RSpan) M3 x5, PEq (Zv k1), PEq (Zv x6), PV (RSlice RSpan) M3 x7] (by kernel_rfl) Z (by kernel_rfl) ⟨Zq, PV.mono _ _ _, Zq, PA.mono _ _ _, PV.mono _ _ _, PA.mono _ _ _, PV.mono _ _ _, Zq, PA.mono _ _ _, PV.mono _ _ _, Zq, Zq, PV.mono _ _ _, Zt⟩ ⟨?_, ?_, ?_, ?_, ?_, ?_, ?_, ?_, ?_, ?_, ?_, ?_, ?_, Zt⟩ ?_)
    · exact fun w14 D hS1 hd1 => dg_sub (E' := [(6, (Zw g1 0))]) ⟨Z, Zt⟩ (dg_plain Z (ow_fieldAddr Z Z Tryd.underlying48 Z (Tryd.sizeOf46 _) Zb))
    ·
     intro w15 D hS2 hd2
     have hl15 := Le.no M3 hS2
     have ho7 := ho3.no hS2
     exact dg_sub (E' := [(30, (Zw g1 0))]) ⟨dpE hd2 0 Z Z, Zt⟩ (dg_plain Z (ow_loadOwn1 Z Z Z ho7 (Tryd.isAgg46 _) Z ⟨BX.refl _ _, (VRep.mono hl15 hw5)⟩))
    · exact fun w16 D hS3 hd3 => dg_sub (E' := [(7, (Zv k1))]) ⟨Z, Zt⟩ (dg_plain Z (ow_move Z Z Zb))
    ·
     intro w17 D hS4 hd4
     have d2 : PV (RSlice (RSlice RSpan)) M3 y2 (D 1) w17 := dpA hd4 1 Z
     generalize hq1 : (D 1) = v18 at d2
     exact dg_sub (E' := [(31, v18), (32, (Zv k1))]) ⟨congrArg some hq1, dpE hd4 2 Z Z, Zt⟩ (dg_plain Z (ow_indexSlice (R := (RSlice RSpan)) Z Z Z d2 Tryd.underlying46 (Tryd.sizeOf121 _) hx4 fun p7 hp7 => ⟨BX.refl _ _, ⟨_, Z, hp7⟩⟩))
    ·
     intro w18 D hS5 hd5
     have d4 : PA (RSlice RSpan) M3 x4 (D 3) w18 := dpA hd5 3 Z
     obtain ⟨p8, e1, ha1⟩ := d4
     exact dg_sub (E' := [(33, (.pointer (some p8)))]) ⟨congrArg some e1, Zt⟩ (dg_plain Z (ow_load (R := (RSlice RSpan)) Z Z ha1 (Tryd.sizeOf121 _) (Tryd.isAgg121 _) fun v19 hv19 => ⟨BX.refl _ _, hv19⟩))
    ·
     intro w19 D hS6 hd6
     have hl19 := Le.no M3 hS6
     exact dg_sub (E' := [(3, (.pointer (some p2)))]) ⟨Z, Zt⟩ (dg_plain Z (ow_fieldAddr Z Z Tryd.underlying48 Z (Tryd.sizeOf46 _) ⟨BX.refl _ _, ⟨_, Z, (ARep.mono (lz6.trans hl19) (hp2.fld fld_Box_Sides))⟩⟩))
    ·
     intro w20 D hS7 hd7
     have d5 : PA (RSlice (RSlice RSpan)) M3 a_b.Sides (D 5) w20 := dpA hd7 5 Z
     obtain ⟨p9, e2, ha2⟩ := d5
     exact dg_sub (E' := [(35, (.pointer (some p9)))]) ⟨congrArg some e2, Zt⟩ (dg_plain Z (ow_load (R := (RSlice (RSlice RSpan))) Z Z ha2 (Tryd.sizeOf46 _) (Tryd.isAgg46 _) fun v20 hv20 => ⟨BX.refl _ _, hv20⟩))
    · exact fun w21 D hS8 hd8 => dg_sub (E' := [(7, (Zv k1))]) ⟨Z, Zt⟩ (dg_plain Z (ow_move Z Z Zb))
    ·
     intro w22 D hS9 hd9
     have d6 : PV (RSlice (RSlice RSpan)) M3 a_b.Sides (D 6) w22 := dpA hd9 6 Z
     generalize hq2 : (D 6) = v21 at d6
     exact dg_sub (E' := [(36, v21), (37, (Zv k1))]) ⟨congrArg some hq2, dpE hd9 7 Z Z, Zt⟩ (dg_plain Z (ow_indexSlice (R := (RSlice RSpan)) Z Z Z d6 Tryd.underlying46 (Tryd.sizeOf121 _) hx5 fun p10 hp10 => ⟨BX.refl _ _, ⟨_, Z, hp10⟩⟩))
    ·
     intro w23 D hS10 hd10
     have d8 : PA (RSlice RSpan) M3 x5 (D 8) w23 := dpA hd10 8 Z
     obtain ⟨p11, e3, ha3⟩ := d8
     exact dg_sub (E' := [(38, (.pointer (some p11)))]) ⟨congrArg some e3, Zt⟩ (dg_plain Z (ow_load (R := (RSlice RSpan)) Z Z ha3 (Tryd.sizeOf121 _) (Tryd.isAgg121 _) fun v22 hv22 => ⟨BX.refl _ _, hv22⟩))
    · exact fun w24 D hS11 hd11 => dg_sub (E' := [(7, (Zv k1))]) ⟨Z, Zt⟩ (dg_plain Z (ow_move Z Z Zb))
    ·
     intro w25 D hS12 hd12
     have hl25 := Le.no M3 hS12
     have hC25 := hC11.no hS12
     refine dg_sub (E' := [(40, (Zv k1))]) ⟨dpE hd12 10 Z Z, Zt⟩ (dg_plain Z (ow_call Z Z Tryd.call88 (w_spec_FieldTop (hG.mono (lz5.trans hl25)) hC25.old hx6) fun v23 w26 hv23 => ?_))
     obtain ⟨hv23, hb14⟩ := hv23
     obtain rfl := vint_eq hv23
     exact ⟨hb14, Z⟩
    ·
     intro w27 D hS13 hd13
     have hl27 := Le.no M3 hS13
     have hC27 := hC11.no hS13
     have d10 : PV (RSlice RSpan) M3 x5 (D 9) w27 := dpA hd13 9 Z
     generalize hq3 : (D 9) = v24 at d10
     refine dg_sub (E' := [(39, v24), (41, (Zv x6))]) ⟨congrArg some hq3, dpE hd13 11 Z Z, Zt⟩ (dg_plain Z (ow_call Z Z Tryd.call158 (w_spec_l2Other (hG.mono (lz5.trans hl27)) hC27.old d10 hx7) fun v25 w28 hv25 => ?_))
     obtain ⟨hv25, hb15⟩ := hv25
     exact ⟨hb15, hv25⟩
    ·
     intro w29 D hS14 hd14
     have d17 : PV (RSlice RSpan) M3 x4 (D 4) w29 := dpA hd14 4 Z
     have d25 : PV (RSlice RSpan) M3 x7 (D 12) w29 := dpA hd14 12 Z
     have hl29 := Le.no M3 hS14
     have hC29 := hC11.no hS14
     have ho21 := ho3.no hS14
     have hr26 := hw4.no hS14
     generalize hq4 : (D 4) = v26 at d17
     generalize hq5 : (D 12) = v27 at d25
     refine lw_sub (E' := [(34, v26), (42, v27), (3, (.pointer (some p2))), (5, v10), (6, (Zw g1 0)), (7, (Zv k1))]) ⟨congrArg some hq4, congrArg some hq5, Z, Z, Z, Z, Zt⟩ ?_
     replace hb11 := bind_some hb11
     obtain ⟨x8, hx8, hb11⟩ := hb11
     refine lw_op Z Z Z (ow_call Z Z Tryd.call103 (w_spec_l2Meet (hG.mono (lz5.trans hl29)) hC29.old d17 d25 hx8) fun v28 w30 hv28 => ?_)
     obtain ⟨hv28, hb16⟩ := hv28
     have hl30 := Le.no M3 hb16
     have hC30 := hC29.no hb16
     have ho22 := ho21.no hb16
     have hr27 := hr26.no hb16
     refine lw_op Z Z Z (ow_assign Z Z (lw_nil (ew_then (cw_seq ?_))))
     have lz7 := ((lz5.trans hl29).trans hl30)
     have lz8 := ((lz6.trans hl29).trans hl30)
     have lz9 := (hl29.trans hl30)
     refine cw_sub (E' := [(3, (.pointer (some p2))), (5, v10), (6, (Zw g1 0)), (7, (Zv k1)), (8, v28)]) ⟨Z, Z, Z, Z, Z, Zt⟩ (cw_drawQ 10 [PEq (Zw g1 0), PV (RSlice (RSlice RSpan)) M3 y2, PEq (Zv k1), PA (RSlice RSpan) M3 x4, PV (RSlice RSpan) M3 x4, PA (RSlice (RSlice RSpan)) M3 a_b.Sides, PV (RSlice (RSlice RSpan)) M3 a_b.Sides, PEq (Zv k1), PA (RSlice RSpan) M3 x5, PV (RSlice RSpan) M3 x5] (by kernel_rfl) Z (by kernel_rfl) ⟨Zq, PV.mono _ _ _, Zq, PA.mono _ _ _, PV.mono _ _ _, PA.mono _ _ _, PV.mono _ _ _, Zq, PA.mono _ _ _, PV.mono _ _ _, Zt⟩ ⟨?_, ?_, ?_, ?_, ?_, ?_, ?_, ?_, ?_, ?_, Zt⟩ ?_)
     · exact fun w31 D hS15 hd15 => dg_sub (E' := [(6, (Zw g1 0))]) ⟨Z, Zt⟩ (dg_plain Z (ow_fieldAddr Z Z Tryd.underlying48 Z (Tryd.sizeOf46 _) Zb))
     ·
      intro w32 D hS16 hd16
      have hl32 := Le.no M3 hS16
      have ho24 := ho22.no hS16
      exact dg_sub (E' := [(44, (Zw g1 0))]) ⟨dpE hd16 0 Z Z, Zt⟩ (dg_plain Z (ow_loadOwn1 Z Z Z ho24 (Tryd.isAgg46 _) Z ⟨BX.refl _ _, (VRep.mono (lz9.trans hl32) hw5)⟩))
     · exact fun w33 D hS17 hd17 => dg_sub (E' := [(7, (Zv k1))]) ⟨Z, Zt⟩ (dg_plain Z (ow_move Z Z Zb))
     ·
      intro w34 D hS18 hd18
      have d27 : PV (RSlice (RSlice RSpan)) M3 y2 (D 1) w34 := dpA hd18 1 Z
      generalize hq6 : (D 1) = v32 at d27
      exact dg_sub (E' := [(45, v32), (46, (Zv k1))]) ⟨congrArg some hq6, dpE hd18 2 Z Z, Zt⟩ (dg_plain Z (ow_indexSlice (R := (RSlice RSpan)) Z Z Z d27 Tryd.underlying46 (Tryd.sizeOf121 _) hx4 fun p14 hp14 => ⟨BX.refl _ _, ⟨_, Z, hp14⟩⟩))
     ·
      intro w35 D hS19 hd19
      have d29 : PA (RSlice RSpan) M3 x4 (D 3) w35 := dpA hd19 3 Z
      obtain ⟨p15, e4, ha4⟩ := d29
      exact dg_sub (E' := [(47, (.pointer (some p15)))]) ⟨congrArg some e4, Zt⟩ (dg_plain Z (ow_load (R := (RSlice RSpan)) Z Z ha4 (Tryd.sizeOf121 _) (Tryd.isAgg121 _) fun v33 hv33 => ⟨BX.refl _ _, hv33⟩))
     ·
      intro w36 D hS20 hd20
      have hl36 := Le.no M3 hS20
      exact dg_sub (E' := [(3, (.pointer (some p2)))]) ⟨Z, Zt⟩ (dg_plain Z (ow_fieldAddr Z Z Tryd.underlying48 Z (Tryd.sizeOf46 _) ⟨BX.refl _ _, ⟨_, Z, (ARep.mono (lz8.trans hl36) (hp2.fld fld_Box_Sides))⟩⟩))
     ·
      intro w37 D hS21 hd21
      have d30 : PA (RSlice (RSlice RSpan)) M3 a_b.Sides (D 5) w37 := dpA hd21 5 Z
      obtain ⟨p16, e5, ha5⟩ := d30
      exact dg_sub (E' := [(49, (.pointer (some p16)))]) ⟨congrArg some e5, Zt⟩ (dg_plain Z (ow_load (R := (RSlice (RSlice RSpan))) Z Z ha5 (Tryd.sizeOf46 _) (Tryd.isAgg46 _) fun v34 hv34 => ⟨BX.refl _ _, hv34⟩))
     · exact fun w38 D hS22 hd22 => dg_sub (E' := [(7, (Zv k1))]) ⟨Z, Zt⟩ (dg_plain Z (ow_move Z Z Zb))
     ·
      intro w39 D hS23 hd23
      have d31 : PV (RSlice (RSlice RSpan)) M3 a_b.Sides (D 6) w39 := dpA hd23 6 Z
      generalize hq7 : (D 6) = v35 at d31
      exact dg_sub (E' := [(50, v35), (51, (Zv k1))]) ⟨congrArg some hq7, dpE hd23 7 Z Z, Zt⟩ (dg_plain Z (ow_indexSlice (R := (RSlice RSpan)) Z Z Z d31 Tryd.underlying46 (Tryd.sizeOf121 _) hx5 fun p17 hp17 => ⟨BX.refl _ _, ⟨_, Z, hp17⟩⟩))
     ·
      intro w40 D hS24 hd24
      have d33 : PA (RSlice RSpan) M3 x5 (D 8) w40 := dpA hd24 8 Z
      obtain ⟨p18, e6, ha6⟩ := d33
      exact dg_sub (E' := [(52, (.pointer (some p18)))]) ⟨congrArg some e6, Zt⟩ (dg_plain Z (ow_load (R := (RSlice RSpan)) Z Z ha6 (Tryd.sizeOf121 _) (Tryd.isAgg121 _) fun v36 hv36 => ⟨BX.refl _ _, hv36⟩))
     ·
      intro w41 D hS25 hd25
      have d38 : PV (RSlice RSpan) M3 x4 (D 4) w41 := dpA hd25 4 Z
      have d43 : PV (RSlice RSpan) M3 x5 (D 9) w41 := dpA hd25 9 Z
      have hl41 := Le.no M3 hS25
      have hC41 := hC30.no hS25
      have ho33 := ho22.no hS25
      have hr38 := hr27.no hS25
      generalize hq8 : (D 4) = v37 at d38
      generalize hq9 : (D 9) = v38 at d43
      refine lw_sub (E' := [(48, v37), (53, v38), (3, (.pointer (some p2))), (5, v10), (6, (Zw g1 0)), (7, (Zv k1)), (8, v28)]) ⟨congrArg some hq8, congrArg some hq9, Z, Z, Z, Z, Z, Zt⟩ ?_
      replace hb11 := bind_some hb11
      obtain ⟨x9, hx9, hb11⟩ := hb11
      refine lw_op Z Z Z (ow_call Z Z Tryd.call103 (w_spec_l2Meet (hG.mono (lz7.trans hl41)) hC41.old d38 d43 hx9) fun v39 w42 hv39 => ?_)
      obtain ⟨hv39, hb17⟩ := hv39
      have hl42 := Le.no M3 hb17
      have hC42 := hC41.no hb17
      have ho34 := ho33.no hb17
      have hr39 := hr38.no hb17
      refine lw_op Z Z Z (ow_assign Z Z (lw_nil (ew_then (cw_seq (cw_seq (cw_region (lw_op Z Z Z (ow_move Z Z (lw_op Z Z Z (ow_len Z Z (VRep.mono (hl41.trans hl42) hv28) Tryd.underlying121 Z (lw_op Z Z Z (ow_gtr Z Z Z fun bb2 hbb2 => lw_nil (ew_then ?_)))))))))))))
      replace hb11 := cond_some hb11
      rcases hb11 with ⟨hc4, hb11⟩ | ⟨hc4, hb11⟩
      ·
       obtain rfl := hbb2.trans hc4
       refine cw_true Z (cw_seq (cw_region (lw_op Z Z Z (ow_fieldAddr Z Z Tryd.underlying48 Z (Tryd.sizeOf46 _) (lw_op Z Z Z (ow_loadOwn1 Z Z Z ho34 (Tryd.isAgg46 _) Z ?_))))))
       have lz10 := ((lz9.trans hl41).trans hl42)
       replace hb11 := bind_some hb11
       obtain ⟨x10, hx10, hb11⟩ := hb11
       have lz11 := ((lz7.trans hl41).trans hl42)
       refine lw_op Z Z Z (ow_call Z Z Tryd.call154 (wo_spec_l1OwnRowsSpan (hG.mono lz11) hC42.old (VRep.mono lz10 hw5) hx10) fun v40 w43 hv40 => ?_)
       obtain ⟨⟨M4, hr40, hk1⟩, hb18⟩ := hv40
       replace hr40 := hr40.base hC42.bx.size
       have hl43 := hk1.le
       have hC43 := hC42.trans hk1
       have ho35 := ho34.no hb18
       have hm3 := hk1.sup _ hm2
       have hr41 := hr39.go hb18 (fun _ _ e => e) hl43 hk1.sup
       obtain ⟨A3, c3, rfl⟩ := hr40.len
       refine lw_op Z Z Z (ow_build (v := .agg #[(.slice A3 x10.length c3)]) Z Z (by kernel_rfl) (lw_op Z Z Z (ow_alloc Z (Tryd.zeroValue48 _) hC43 fun g2 w44 hg3 hg4 ho36 hb19 hl44 hC44 => ?_)))
       have hn3 := Nat.ne_of_lt (Nat.lt_of_lt_of_le ho35.lt hg3)
       have ho37 := ho35.no hb19
       have hm4 : (Add g2 M4) g1 := .inr hm3
       have hn4 := nb_fresh hr41 hg3
       have hr42 := hr41.add hb19 hg3
       have hr43 := hr40.add hb19 hg3
       have hm5 : (Add g2 M4) g2 := .inl Z
       refine lw_op0 Z Z (ow_store (X := No) (us := [(.slice A3 x10.length c3)]) (cs' := #[(.slice A3 x10.length c3)]) Z Z Z Z ho36 (Tryd.sizeOf48 _) Z Z Z Z hm5 (.inl hg4) Z hC44 fun w45 ho38 hb20 hl45 hC45 => ?_)
       have ho39 := ho37.go hb20 (fun e => hn3 e)
       have hr44 := hr42.go hb20 (fun k hk e => hn4 (hk.trans (congrArg some e))) hl45 (fun _ h => h)
       have hr45 := hr43.go hb20 (fun k hk e => (orow_ne hr43 ho36 (by decide)) (hk.trans (congrArg some e))) hl45 (fun _ h => h)
       refine lw_nil (ew_then (cw_seq (cw_region (lw_op Z Z Z (ow_fieldAddr Z Z Tryd.underlying48 Z (Tryd.sizeOf46 _) (lw_op Z Z Z (ow_loadOwn1 Z Z Z ho38 (Tryd.isAgg46 _) Z (lw_op Z Z Z (ow_move Z Z (lw_op Z Z Z (ow_move Z Z ?_)))))))))))
       replace hb11 := bind_some hb11
       obtain ⟨x11, hx11, hb11⟩ := hb11
       refine lw_op Z Z Z (ow_indexRow (R := (RSlice RSpan)) Z Z Z hr45 Tryd.underlying46 (Tryd.sizeOf121 _) hx11 ?_)
       have lz12 := ((((hl41.trans hl42).trans hl43).trans hl44).trans hl45)
       refine lw_op0 Z Z (ow_storeElRow (X := No) (R := (RSlice RSpan)) (S := (RSlice RSpan)) Z Z Z Z hr45 (orow_blk hr45 hx11) hx11 (FldSet.whole (RSlice RSpan)) (Tryd.sizeOf121 _) (VRep.mono lz12 hv28) (Nat.le_refl _) hC45 fun w46 ho40 hb21 hl46 hC46 => ?_)
       have ho41 := ho39.go hb21 (fun e => (orow_ne hr45 ho39 (by decide)) (by rw [orow_blk hr45 hx11]; exact congrArg some e.symm))
       have ho42 := ho38.go hb21 (fun e => (orow_ne hr45 ho38 (by decide)) (by rw [orow_blk hr45 hx11]; exact congrArg some e.symm))
       have hr46 := hr44.go hb21 (fun k hk e => orow_row_ne hr44 hr45 (by decide) hk (by rw [orow_blk hr45 hx11]; exact congrArg some e.symm)) hl46 (fun _ h => h)
       refine lw_nil (ew_then (cw_region (lw_op Z Z Z (ow_move Z Z (lw_op Z Z Z (ow_loadOwnA Z Z Z ho42 (Tryd.isAgg48 _) (Tryd.sizeOf48 _) Z ?_))))))
       have hw6 := ho40.freezeDel
       have hC47 := ho40.cxDel hC46 (fun _ e => e.elim) hO
       have hl47 := Le.del w46 (Add g2 M4) (.slice A3 x10.length c3)
       have hm6 : (Del (.slice A3 x10.length c3) (Add g2 M4)) g1 := ⟨hm4, fun e => (orow_ne ho40 ho41 (by decide)) e⟩
       have hr47 := hr46.goDel ho40 (by decide)
       have hw7 : VRep RBox w46 (Del (.slice A3 x10.length c3) (Add g2 M4)) ({ Sides := (List.set x10 (k1 : Int).toNat x8) } : Box) (.agg #[(.slice A3 x10.length c3)]) := shut_Box hw6
       refine lw_op Z Z Z (ow_buildSlice (R := RBox) (xs := [({ Sides := (List.set x10 (k1 : Int).toNat x8) } : Box)]) (cs := #[(.slice A3 x10.length c3)]) (e := 48) Z Z (by kernel_rfl) Z Z ⟨_, _, Z, hw7.cells, Z⟩ hC47 fun p19 w47 hw8 hb22 hl48 hC48 => ?_)
       have ho43 := ho41.no hb22
       have hr48 := hr47.no hb22
       replace hb11 := bind_some hb11
       obtain ⟨z2, hz2, hb11⟩ := hb11
       refine lw_op Z Z Z (ow_append (R := RBox) Z Z Z Z Tryd.underlying64 hi48 hz48 hs48 hy48 Z Z Z Z hr48 hw8 hz2 hC48 fun v41 w48 M5 hr49 hb23 hl49 hC49 hM3 hat3 => ?_)
       have hn5 : v41.ownBlock ≠ some g1 := nb_app hn2 hat3 ho43
       have ho45 := ho43.go hb23 (fun e => hn2 e)
       have hm8 := hM3 _ hm6
       refine lw_op Z Z Z (ow_assign Z Z (lw_nil (ew_then (cw_seq (cw_region (lw_op Z Z Z (ow_fieldAddr Z Z Tryd.underlying48 Z (Tryd.sizeOf46 _) (lw_op Z Z Z (ow_loadOwn1 Z Z Z ho45 (Tryd.isAgg46 _) Z ?_)))))))))
       have lz13 := (((((((lz10.trans hl43).trans hl44).trans hl45).trans hl46).trans hl47).trans hl48).trans hl49)
       have lz14 := (((((((lz11.trans hl43).trans hl44).trans hl45).trans hl46).trans hl47).trans hl48).trans hl49)
       refine lw_op Z Z Z (ow_call Z Z Tryd.call154 (wo_spec_l1OwnRowsSpan (hG.mono lz14) hC49.old (VRep.mono lz13 hw5) hx10) fun v42 w49 hv42 => ?_)
       obtain ⟨⟨M6, hr50, hk2⟩, hb24⟩ := hv42
       replace hr50 := hr50.base hC49.bx.size
       have hl50 := hk2.le
       have hC50 := hC49.trans hk2
       have ho47 := ho45.no hb24
       have hm10 := hk2.sup _ hm8
       have hr51 := hr49.go hb24 (fun _ _ e => e) hl50 hk2.sup
       obtain ⟨A4, c4, rfl⟩ := hr50.len
       refine lw_op Z Z Z (ow_build (v := .agg #[(.slice A4 x10.length c4)]) Z Z (by kernel_rfl) (lw_op Z Z Z (ow_alloc Z (Tryd.zeroValue48 _) hC50 fun g3 w50 hg5 hg6 ho49 hb25 hl51 hC51 => ?_)))
       have hn7 := Nat.ne_of_lt (Nat.lt_of_lt_of_le ho47.lt hg5)
       have ho50 := ho47.no hb25
       have hm12 : (Add g3 M6) g1 := .inr hm10
       have hn9 := nb_fresh hr51 hg5
       have hr52 := hr51.add hb25 hg5
       have hr53 := hr50.add hb25 hg5
       have hm14 : (Add g3 M6) g3 := .inl Z
       refine lw_op0 Z Z (ow_store (X := No) (us := [(.slice A4 x10.length c4)]) (cs' := #[(.slice A4 x10.length c4)]) Z Z Z Z ho49 (Tryd.sizeOf48 _) Z Z Z Z hm14 (.inl hg6) Z hC51 fun w51 ho52 hb26 hl52 hC52 => ?_)
       have ho53 := ho50.go hb26 (fun e => hn7 e)
       have hr54 := hr52.go hb26 (fun k hk e => hn9 (hk.trans (congrArg some e))) hl52 (fun _ h => h)
       have hr55 := hr53.go hb26 (fun k hk e => (orow_ne hr53 ho49 (by decide)) (hk.trans (congrArg some e))) hl52 (fun _ h => h)
       refine lw_nil (ew_then (cw_seq (cw_region (lw_op Z Z Z (ow_fieldAddr Z Z Tryd.underlying48 Z (Tryd.sizeOf46 _) (lw_op Z Z Z (ow_loadOwn1 Z Z Z ho52 (Tryd.isAgg46 _) Z (lw_op Z Z Z (ow_move Z Z (lw_op Z Z Z (ow_move Z Z (lw_op Z Z Z (ow_indexRow (R := (RSlice RSpan)) Z Z Z hr55 Tryd.underlying46 (Tryd.sizeOf121 _) hx11 ?_)))))))))))))
       have lz15 := (((((((((hl43.trans hl44).trans hl45).trans hl46).trans hl47).trans hl48).trans hl49).trans hl50).trans hl51).trans hl52)
       refine lw_op0 Z Z (ow_storeElRow (X := No) (R := (RSlice RSpan)) (S := (RSlice RSpan)) Z Z Z Z hr55 (orow_blk hr55 hx11) hx11 (FldSet.whole (RSlice RSpan)) (Tryd.sizeOf121 _) (VRep.mono lz15 hv39) (Nat.le_refl _) hC52 fun w52 ho55 hb27 hl53 hC53 => ?_)
       have ho56 := ho53.go hb27 (fun e => (orow_ne hr55 ho53 (by decide)) (by rw [orow_blk hr55 hx11]; exact congrArg some e.symm))
       have ho58 := ho52.go hb27 (fun e => (orow_ne hr55 ho52 (by decide)) (by rw [orow_blk hr55 hx11]; exact congrArg some e.symm))
       have hr56 := hr54.go hb27 (fun k hk e => orow_row_ne hr54 hr55 (by decide) hk (by rw [orow_blk hr55 hx11]; exact congrArg some e.symm)) hl53 (fun _ h => h)
       refine lw_nil (ew_then (cw_region (lw_op Z Z Z (ow_loadOwnA Z Z Z ho58 (Tryd.isAgg48 _) (Tryd.sizeOf48 _) Z ?_))))
       have hw9 := ho55.freezeDel
       have hC54 := ho55.cxDel hC53 (fun _ e => e.elim) hO
       have hl54 := Le.del w52 (Add g3 M6) (.slice A4 x10.length c4)
       have hm15 : (Del (.slice A4 x10.length c4) (Add g3 M6)) g1 := ⟨hm12, fun e => (orow_ne ho55 ho56 (by decide)) e⟩
       have hr57 := hr56.goDel ho55 (by decide)
       refine lw_op0 Z Z (ow_store (X := No) (us := [(.slice A4 x10.length c4)]) (cs' := #[(.slice A4 x10.length c4)]) Z Z Z Z ho56 (Tryd.sizeOf48 _) Z Z Z Z hm15 (.inl hg2) Z hC54 fun w53 ho59 hb28 hl55 hC55 => ?_)
       have hr58 := hr57.go hb28 (fun k hk e => hn5 (hk.trans (congrArg some e))) hl55 (fun _ h => h)
       refine lw_nil (ew_blockN (ew_then (cw_region (lw_op Z Z Z (ow_move Z Z (lw_op Z Z Z (ow_add Z Z Z (lw_op Z Z Z (ow_assign Z Z (lw_nil ?_))))))))))
       have lz16 := (((((((((((((((((hl11.trans hl29).trans hl30).trans hl41).trans hl42).trans hl43).trans hl44).trans hl45).trans hl46).trans hl47).trans hl48).trans hl49).trans hl50).trans hl51).trans hl52).trans hl53).trans hl54).trans hl55)
       exact ew_nxt (z2, (W (k1 + 1)), (List.set x10 (k1 : Int).toNat x9)) hb11 fun a ha => ⟨(Del (.slice A4 x10.length c4) (Add g3 M6)), v41, (.slice A4 x10.length c4), (ha.sub ⟨Z, Z, Z, Z, Zt⟩), lz16, hC55, hr58, (VRep.mono hl55 hw9), ho59, hm15, hn5⟩
      ·
       obtain rfl := hbb2.trans hc4
       refine cw_false Z (cw_skip (ew_then (cw_seq (cw_region (lw_op Z Z Z (ow_fieldAddr Z Z Tryd.underlying48 Z (Tryd.sizeOf46 _) (lw_op Z Z Z (ow_loadOwn1 Z Z Z ho34 (Tryd.isAgg46 _) Z ?_))))))))
       have lz17 := ((lz9.trans hl41).trans hl42)
       replace hb11 := bind_some hb11
       obtain ⟨x12, hx12, hb11⟩ := hb11
       have lz18 := ((lz7.trans hl41).trans hl42)
       refine lw_op Z Z Z (ow_call Z Z Tryd.call154 (wo_spec_l1OwnRowsSpan (hG.mono lz18) hC42.old (VRep.mono lz17 hw5) hx12) fun v43 w54 hv43 => ?_)
       obtain ⟨⟨M7, hr59, hk3⟩, hb29⟩ := hv43
       replace hr59 := hr59.base hC42.bx.size
       have hl56 := hk3.le
       have hC56 := hC42.trans hk3
       have ho62 := ho34.no hb29
       have hm18 := hk3.sup _ hm2
       have hr60 := hr39.go hb29 (fun _ _ e => e) hl56 hk3.sup
       obtain ⟨A5, c5, rfl⟩ := hr59.len
       refine lw_op Z Z Z (ow_build (v := .agg #[(.slice A5 x12.length c5)]) Z Z (by kernel_rfl) (lw_op Z Z Z (ow_alloc Z (Tryd.zeroValue48 _) hC56 fun g4 w55 hg7 hg8 ho63 hb30 hl57 hC57 => ?_)))
       have hn10 := Nat.ne_of_lt (Nat.lt_of_lt_of_le ho62.lt hg7)
       have ho64 := ho62.no hb30
       have hm19 : (Add g4 M7) g1 := .inr hm18
       have hn11 := nb_fresh hr60 hg7
       have hr61 := hr60.add hb30 hg7
       have hr62 := hr59.add hb30 hg7
       have hm20 : (Add g4 M7) g4 := .inl Z
       refine lw_op0 Z Z (ow_store (X := No) (us := [(.slice A5 x12.length c5)]) (cs' := #[(.slice A5 x12.length c5)]) Z Z Z Z ho63 (Tryd.sizeOf48 _) Z Z Z Z hm20 (.inl hg8) Z hC57 fun w56 ho65 hb31 hl58 hC58 => ?_)
       have ho66 := ho64.go hb31 (fun e => hn10 e)
       have hr63 := hr61.go hb31 (fun k hk e => hn11 (hk.trans (congrArg some e))) hl58 (fun _ h => h)
       have hr64 := hr62.go hb31 (fun k hk e => (orow_ne hr62 ho63 (by decide)) (hk.trans (congrArg some e))) hl58 (fun _ h => h)
       refine lw_nil (ew_then (cw_seq (cw_region (lw_op Z Z Z (ow_fieldAddr Z Z Tryd.underlying48 Z (Tryd.sizeOf46 _) (lw_op Z Z Z (ow_loadOwn1 Z Z Z ho65 (Tryd.isAgg46 _) Z (lw_op Z Z Z (ow_move Z Z (lw_op Z Z Z (ow_move Z Z ?_)))))))))))
       replace hb11 := bind_some hb11
       obtain ⟨x13, hx13, hb11⟩ := hb11
       refine lw_op Z Z Z (ow_indexRow (R := (RSlice RSpan)) Z Z Z hr64 Tryd.underlying46 (Tryd.sizeOf121 _) hx13 ?_)
       have lz19 := ((hl56.trans hl57).trans hl58)
       refine lw_op0 Z Z (ow_storeElRow (X := No) (R := (RSlice RSpan)) (S := (RSlice RSpan)) Z Z Z Z hr64 (orow_blk hr64 hx13) hx13 (FldSet.whole (RSlice RSpan)) (Tryd.sizeOf121 _) (VRep.mono lz19 hv39) (Nat.le_refl _) hC58 fun w57 ho67 hb32 hl59 hC59 => ?_)
       have ho68 := ho66.go hb32 (fun e => (orow_ne hr64 ho66 (by decide)) (by rw [orow_blk hr64 hx13]; exact congrArg some e.symm))
       have ho69 := ho65.go hb32 (fun e => (orow_ne hr64 ho65 (by decide)) (by rw [orow_blk hr64 hx13]; exact congrArg some e.symm))
       have hr65 := hr63.go hb32 (fun k hk e => orow_row_ne hr63 hr64 (by decide) hk (by rw [orow_blk hr64 hx13]; exact congrArg some e.symm)) hl59 (fun _ h => h)
       refine lw_nil (ew_then (cw_region (lw_op Z Z Z (ow_loadOwnA Z Z Z ho69 (Tryd.isAgg48 _) (Tryd.sizeOf48 _) Z ?_))))
       have hw11 := ho67.freezeDel
       have hC60 := ho67.cxDel hC59 (fun _ e => e.elim) hO
       have hl60 := Le.del w57 (Add g4 M7) (.slice A5 x12.length c5)
       have hm21 : (Del (.slice A5 x12.length c5) (Add g4 M7)) g1 := ⟨hm19, fun e => (orow_ne ho67 ho68 (by decide)) e⟩
       have hr66 := hr65.goDel ho67 (by decide)
       refine lw_op0 Z Z (ow_store (X := No) (us := [(.slice A5 x12.length c5)]) (cs' := #[(.slice A5 x12.length c5)]) Z Z Z Z ho68 (Tryd.sizeOf48 _) Z Z Z Z hm21 (.inl hg2) Z hC60 fun w58 ho70 hb33 hl61 hC61 => ?_)
       have hr67 := hr66.go hb33 (fun k hk e => hn2 (hk.trans (congrArg some e))) hl61 (fun _ h => h)
       refine lw_nil (ew_blockN (ew_then (cw_region (lw_op Z Z Z (ow_move Z Z (lw_op Z Z Z (ow_add Z Z Z (lw_op Z Z Z (ow_assign Z Z (lw_nil ?_))))))))))
       have lz20 := ((((((((((hl11.trans hl29).trans hl30).trans hl41).trans hl42).trans hl56).trans hl57).trans hl58).trans hl59).trans hl60).trans hl61)
       exact ew_nxt (y1, (W (k1 + 1)), (List.set x12 (k1 : Int).toNat x9)) hb11 fun a ha => ⟨(Del (.slice A5 x12.length c5) (Add g4 M7)), v10, (.slice A5 x12.length c5), (ha.sub ⟨Z, Z, Z, Z, Zt⟩), lz20, hC61, hr67, (VRep.mono hl61 hw11), ho70, hm21, hn2⟩
   ·
    obtain rfl := hbb1.trans hc3
    exact cw_false Z (cw_exit (ew_thenX (ew_thenX (ew_blockX (ew_brk (y1, k1, y2) hb11 fun a ha => ⟨M3, v10, v12, (ha.sub ⟨Z, Z, Z, Z, Zt⟩), hl11, hC11, hw4, hw5, ho3, hm2, hn2⟩)))))
  ·
   rintro ⟨y3, k2, y4⟩ a w59 hlr2 ⟨M8, v44, v46, hF2, hl62, hC62, hw13, hw14, ho72, hm23, hn12⟩
   subst hlr2
   refine ew_at (E := [(3, (.pointer (some p2))), (5, v44), (6, (Zw g1 0)), (7, (Zv k2))]) hF2 (ew_then (cw_seq (cw_region (lw_op Z Z Z (ow_move Z Z (lw_op Z Z Z (ow_assign Z Z (lw_nil (ew_then (cw_ret ?_))))))))))
   obtain rfl := sj h
   exact ew_ret (res1 Z (.tmp Z)) ⟨_, Z, (hw13.freezeBack hC62 hO), hC62.bx⟩


end Go.PF
