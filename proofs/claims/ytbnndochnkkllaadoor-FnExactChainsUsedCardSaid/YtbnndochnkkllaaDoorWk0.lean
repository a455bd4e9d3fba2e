/- The walks; no condition. -/
import Derived.Test.YtbnndochnkkllaaDoorProg
import Derived.Test.YtbnndochnkkllaaDoorFun
import Derived.Test.YtbnndochnkkllaaDoorPFMark
import Derived.Test.YtbnndochnkkllaaDoorPFWild
set_option maxRecDepth 100000
set_option maxHeartbeats 4000000
namespace Go.PF
open Go Go.RowKit Go.Proofs

theorem info3 : ∃ i, Tryd.prog.info? 3 = some i ∧ i.zero = some (.int .i64 0) ∧ i.size = 1 ∧ i.bytes = 8 := info_parts (by kernel_rfl)
theorem info4 : ∃ i, Tryd.prog.info? 4 = some i ∧ i.zero = some (.bool false) ∧ i.size = 1 ∧ i.bytes = 1 := info_parts (by kernel_rfl)
theorem info38 : ∃ i, Tryd.prog.info? 38 = some i ∧ i.zero = some (.agg #[.slice none 0 0, .int .i64 0, .int .i64 0]) ∧ i.size = 3 ∧ i.bytes = 40 := info_parts (by kernel_rfl)
theorem info39 : ∃ i, Tryd.prog.info? 39 = some i ∧ i.zero = some (.slice none 0 0) ∧ i.size = 1 ∧ i.bytes = 24 := info_parts (by kernel_rfl)
theorem info128 : ∃ i, Tryd.prog.info? 128 = some i ∧ i.zero = some (.agg #[.int .i64 0, .int .i64 0, .int .i64 0, .bool false]) ∧ i.size = 4 ∧ i.bytes = 32 := info_parts (by kernel_rfl)
def actV : Act_ → Value
  | .deciding b => .iface 229 (.agg #[.bool b])
  | .calling c => .iface 231 (.agg #[.int .i64 c])
  | .returning => .iface 233 (.agg #[])
  | .passing => .iface 234 (.agg #[])
theorem wo_impl_callsIn {w : World} {M : Nat → Prop} (_hG : ARep (RArr 4 RShape) w M shapes ⟨0, 0, none⟩) (hO : ∀ b, M b → b < w.heap.size) {v0p : Value} {a_rules : List Rule} (h0 : VRep (RSlice RRule) w M a_rules v0p) {r : (List Int)} (h : F.impl_callsIn a_rules = some r) :
  Calls Tryd.prog 120 [v0p].toArray w fun e w' => ∃ v, e = .returned v ∧ (∃ M', OwnRow RInt w.heap.size 3 w' M' r v ∧ Cx No w M w' M') ∧ BX No w w' := by
 obtain ⟨i3, hi3, hz3, hs3, hy3⟩ := info3
 have hC : Cx No w M w M := Cx.start hO (fun _ e => e.elim)
 clear _hG
 refine walk (N := 34) Tryd.func120 Z Tryd.ntmps120 Z (cw_seq (cw_region (lw_op Z Z Z (ow_assign Z Z (lw_nil (ew_then (cw_seq (cw_region (lw_op Z Z Z (ow_alloc Z (Tryd.zeroValue213 _) hC fun g1 w1 hg1 hg2 ho1 hb1 hl1 hC1 => ?_))))))))))
 have hm1 : (Add g1 M) g1 := .inl Z
 have ho2 : OwnA (RArr 5 RBool) w1 (Add g1 M) g1 213 [false, false, false, false, false] := OwnA.of ho1 ⟨Z, ⟨_, _, Z, (vbool _).cells, _, _, Z, (vbool _).cells, _, _, Z, (vbool _).cells, _, _, Z, (vbool _).cells, _, _, Z, (vbool _).cells, Z⟩⟩
 refine lw_nil (ew_then (cw_seq (cw_seq (cw_region (lw_op Z Z Z (ow_move Z Z (lw_op Z Z Z (ow_len Z Z (VRep.mono hl1 h0) Tryd.underlying39 Z (lw_op Z Z Z (ow_move Z Z (lw_nil (ew_then ?_))))))))))))
 replace h := bind_some h
 obtain ⟨lr1, hlr1, h⟩ := h
 refine cw_for hlr1 (fun s a w' => ∃ (M' : Nat → Prop), Fits 34 [(3, (Zw g1 0)), (9, v0p), (10, (Zv (a_rules.length : Int))), (11, (Zv s.1))] a ∧ Le w1 (Add g1 M) w' M' ∧ Cx No w M w' M' ∧ OwnA (RArr 5 RBool) w' M' g1 213 s.2 ∧ M' g1) ?_ ?_ ?_
 · exact fun a ha => ⟨(Add g1 M), ha.sub ⟨Z, Z, Z, Z, Zt⟩, Le.refl _ _, hC1, ho2, hm1⟩
 ·
  rintro ⟨k1, y1⟩ a w2 sr1 ⟨M1, hF1, hl2, hC2, ho3, hm2⟩ hb2 hR1
  refine cw_at (E := [(3, (Zw g1 0)), (9, v0p), (10, (Zv (a_rules.length : Int))), (11, (Zv k1))]) hF1 (cw_seq (cw_region (lw_op Z Z Z (ow_lss Z Z Z fun bb1 hbb1 => lw_nil (ew_then (cw_seq ?_))))))
  replace hb2 := cond_some hb2
  rcases hb2 with ⟨hc1, hb2⟩ | ⟨hc1, hb2⟩
  ·
   obtain rfl := hbb1.trans hc1
   refine cw_true Z (cw_skip (ew_then (cw_seq (cw_block (cw_seq (cw_region ?_))))))
   replace hb2 := bind_some hb2
   obtain ⟨x1, hx1, hb2⟩ := hb2
   refine lw_op Z Z Z (ow_indexSlice (R := RRule) Z Z Z (VRep.mono (hl1.trans hl2) h0) Tryd.underlying39 (Tryd.sizeOf38 _) hx1 fun p1 hp1 => lw_op Z Z Z (ow_load (R := RRule) Z Z hp1 (Tryd.sizeOf38 _) (Tryd.isAgg38 _) fun v3 hv3 => lw_allocStore (R := RRule) Z Z Z Z Z Z Z Tryd.zeroValue38 Tryd.sizeOf38 Z Z Z (by simp) hv3 hC2 fun p2 w3 hp2 hb3 hl3 hC3 => ?_))
   have ho4 := ho3.no hb3 hl3
   refine lw_nil (ew_then (cw_seq (cw_region (lw_op Z Z Z (ow_fieldAddr Z Z Tryd.underlying38 Z (Tryd.sizeOf3 _) (lw_op Z Z Z (ow_load (R := RInt) Z Z (hp2.fld fld_Rule_Action) (Tryd.sizeOf3 _) (Tryd.isAgg3 _) fun v4 hv4 => ?_)))))))
   obtain rfl := vint_eq hv4
   refine lw_op Z Z Z (ow_eqlI Z Z Z fun bb2 hbb2 => lw_nil (ew_then ?_))
   replace hb2 := cond_some hb2
   rcases hb2 with ⟨hc2, hb2⟩ | ⟨hc2, hb2⟩
   ·
    obtain rfl := hbb2.trans hc2
    refine cw_true Z (cw_region (lw_op Z Z Z (ow_fieldAddr Z Z Tryd.underlying38 Z (Tryd.sizeOf3 _) (lw_op Z Z Z (ow_load (R := RInt) Z Z (hp2.fld fld_Rule_Chain) (Tryd.sizeOf3 _) (Tryd.isAgg3 _) fun v5 hv5 => ?_)))))
    obtain rfl := vint_eq hv5
    replace hb2 := bind_some hb2
    obtain ⟨x2, hx2, hb2⟩ := hb2
    refine lw_op Z Z Z (ow_indexA (R := RBool) Z Z Z Z ho4 Tryd.underlying213 (Tryd.sizeOf4 _) hx2 (lw_op0 Z Z (ow_storeElA (X := No) (R := RBool) Z Z Z Z ho4 hx2 (Tryd.sizeOf4 _) (vbool _) hm2 (.inl hg2) hC3 fun w4 ho5 hb4 hl4 hC4 => lw_nil (ew_blockN (ew_then (cw_region (lw_op Z Z Z (ow_add Z Z Z (lw_op Z Z Z (ow_move Z Z (lw_nil ?_)))))))))))
    have lz1 := ((hl2.trans hl3).trans hl4)
    exact ew_nxt ((W (k1 + 1)), (List.set y1 (x1.Chain : Int).toNat true)) hb2 fun a ha => ⟨M1, (ha.sub ⟨Z, Z, Z, Z, Zt⟩), lz1, hC4, ho5, hm2⟩
   ·
    obtain rfl := hbb2.trans hc2
    exact cw_false Z (cw_skip (ew_blockN (ew_then (cw_region (lw_op Z Z Z (ow_add Z Z Z (lw_op Z Z Z (ow_move Z Z (lw_nil (ew_nxt ((W (k1 + 1)), y1) hb2 fun a ha => ⟨M1, (ha.sub ⟨Z, Z, Z, Z, Zt⟩), (hl2.trans hl3), hC3, ho4, hm2⟩))))))))))
  ·
   obtain rfl := hbb1.trans hc1
   exact cw_false Z (cw_exit (ew_thenX (ew_thenX (ew_blockX (ew_brk (k1, y1) hb2 fun a ha => ⟨M1, (ha.sub ⟨Z, Z, Z, Z, Zt⟩), hl2, hC2, ho3, hm2⟩)))))
 ·
  rintro ⟨k2, y2⟩ a w5 hlr2 ⟨M2, hF2, hl5, hC5, ho6, hm3⟩
  subst hlr2
  refine ew_at (E := [(3, (Zw g1 0)), (9, v0p), (10, (Zv (a_rules.length : Int))), (11, (Zv k2))]) hF2 (ew_then (cw_seq (cw_region (lw_op Z Z Z (ow_assign Z Z (lw_nil (ew_then (cw_seq (cw_seq (cw_region (lw_op Z Z Z (ow_loadA (R := (RArr 5 RBool)) Z Z Z ho6 (Tryd.sizeOf213 _) (Tryd.isAgg213 _) fun v8 hv8 => lw_op Z Z Z (ow_move Z Z (lw_nil (ew_then ?_)))))))))))))))
  have hr1 : OwnRow RInt w.heap.size 3 w5 M2 ([] : List Int) (.slice none 0 0) := ownrow_nil
  replace h := bind_some h
  obtain ⟨lr2, hlr3, h⟩ := h
  refine cw_for hlr3 (fun s a w' => ∃ (M' : Nat → Prop) (v0c : Value), Fits 34 [(6, v0c), (22, v8), (23, (Zv s.2))] a ∧ Le w5 M2 w' M' ∧ Cx No w M w' M' ∧ OwnRow RInt w.heap.size 3 w' M' s.1 v0c) ?_ ?_ ?_
  · exact fun a ha => ⟨M2, (.slice none 0 0), ha.sub ⟨Z, Z, Z, Zt⟩, Le.refl _ _, hC5, hr1⟩
  ·
   rintro ⟨y3, k3⟩ a w6 sr2 ⟨M3, v9, hF3, hl6, hC6, hw1⟩ hb5 hR2
   refine cw_at (E := [(6, v9), (22, v8), (23, (Zv k3))]) hF3 (cw_seq (cw_region (lw_op Z Z Z (ow_lss Z Z Z fun bb3 hbb3 => lw_nil (ew_then (cw_seq ?_))))))
   replace hb5 := cond_some hb5
   rcases hb5 with ⟨hc3, hb5⟩ | ⟨hc3, hb5⟩
   ·
    obtain rfl := hbb3.trans hc3
    refine cw_true Z (cw_skip (ew_then (cw_seq (cw_block (cw_seq (cw_region (lw_op Z Z Z (ow_move Z Z ?_))))))))
    replace hb5 := bind_some hb5
    obtain ⟨x3, hx3, hb5⟩ := hb5
    refine lw_op Z Z Z (ow_index (R := RBool) Z Z Z (VRep.mono hl6 hv8) Tryd.underlying213 (Tryd.sizeOf4 _) (Tryd.isAgg4 _) hx3 fun v11 hv11 => ?_)
    obtain rfl := vbool_eq hv11
    refine lw_op Z Z Z (ow_assign Z Z (lw_op Z Z Z (ow_assign Z Z (lw_nil (ew_then (cw_seq (cw_region (lw_op Z Z Z (ow_move Z Z (lw_nil (ew_then ?_)))))))))))
    replace hb5 := cond_some hb5
    rcases hb5 with ⟨hc4, hb5⟩ | ⟨hc4, hb5⟩
    ·
     subst hc4
     refine cw_true Z (cw_region (lw_op Z Z Z (ow_move Z Z (lw_op Z Z Z (ow_move Z Z (lw_op Z Z Z (ow_buildSlice (R := RInt) (xs := [k3]) (cs := #[(Zv k3)]) (e := 3) Z Z (by kernel_rfl) Z Z ⟨_, _, Z, (vint _).cells, Z⟩ hC6 fun p3 w7 hw2 hb6 hl7 hC7 => ?_)))))))
     have hr2 := hw1.no hb6
     replace hb5 := bind_some hb5
     obtain ⟨z1, hz1, hb5⟩ := hb5
     refine lw_op Z Z Z (ow_append (R := RInt) Z Z Z Z Tryd.underlying34 hi3 hz3 hs3 hy3 Z Z Z Z hr2 hw2 hz1 hC7 fun v12 w8 M4 hr3 hb7 hl8 hC8 hM1 hat1 => lw_op Z Z Z (ow_assign Z Z (lw_nil (ew_blockN (ew_then (cw_region (lw_op Z Z Z (ow_add Z Z Z (lw_op Z Z Z (ow_move Z Z (lw_nil ?_)))))))))))
     have lz2 := ((hl6.trans hl7).trans hl8)
     exact ew_nxt (z1, (W (k3 + 1))) hb5 fun a ha => ⟨M4, v12, (ha.sub ⟨Z, Z, Z, Zt⟩), lz2, hC8, hr3⟩
    ·
     subst hc4
     exact cw_false Z (cw_skip (ew_blockN (ew_then (cw_region (lw_op Z Z Z (ow_add Z Z Z (lw_op Z Z Z (ow_move Z Z (lw_nil (ew_nxt (y3, (W (k3 + 1))) hb5 fun a ha => ⟨M3, v9, (ha.sub ⟨Z, Z, Z, Zt⟩), hl6, hC6, hw1⟩))))))))))
   ·
    obtain rfl := hbb3.trans hc3
    exact cw_false Z (cw_exit (ew_thenX (ew_thenX (ew_blockX (ew_brk (y3, k3) hb5 fun a ha => ⟨M3, v9, (ha.sub ⟨Z, Z, Z, Zt⟩), hl6, hC6, hw1⟩)))))
  ·
   rintro ⟨y4, k4⟩ a w9 hlr4 ⟨M5, v13, hF4, hl9, hC9, hw3⟩
   subst hlr4
   refine ew_at (E := [(6, v13), (22, v8), (23, (Zv k4))]) hF4 (ew_then (cw_seq (cw_region (lw_op Z Z Z (ow_move Z Z (lw_op Z Z Z (ow_assign Z Z (lw_nil (ew_then (cw_ret ?_))))))))))
   obtain rfl := sj h
   exact ew_ret (res1 Z (.tmp Z)) ⟨_, Z, ⟨M5, hw3, hC9⟩, hC9.bx⟩

theorem w_impl_callsIn {w : World} {M : Nat → Prop} (hG : ARep (RArr 4 RShape) w M shapes ⟨0, 0, none⟩) (hO : ∀ b, M b → b < w.heap.size) {v0p : Value} {a_rules : List Rule} (h0 : VRep (RSlice RRule) w M a_rules v0p) {r : (List Int)} (h : F.impl_callsIn a_rules = some r) :
  Calls Tryd.prog 120 [v0p].toArray w fun e w' => ∃ v, e = .returned v ∧ VRep (RSlice RInt) w' M r v ∧ BX No w w' := by
 refine Calls.mono (wo_impl_callsIn hG hO h0 h) fun e w1 hz => ?_
 obtain ⟨v, e1, ⟨M1, hr, hc⟩, hb⟩ := hz
 exact ⟨v, e1, hr.freezeBack hc hO, hb⟩

theorem w_impl_FieldTop {w : World} {M : Nat → Prop} (hG : ARep (RArr 4 RShape) w M shapes ⟨0, 0, none⟩) (hO : ∀ b, M b → b < w.heap.size) {a_n : Int} {r : Int} (h : F.impl_FieldTop a_n = some r) :
  Calls Tryd.prog 142 [(.int .i64 a_n)].toArray w fun e w' => ∃ v, e = .returned v ∧ VRep RInt w' M r v ∧ BX No w w' := by
 have hC : Cx No w M w M := Cx.start hO (fun _ e => e.elim)
 refine walk (N := 13) Tryd.func142 Z Tryd.ntmps142 Z (cw_seq (cw_region (lw_op Z Z Z (ow_assign Z Z (lw_nil (ew_then (cw_seq (cw_seq (cw_region (lw_op Z Z Z (ow_move Z Z (lw_op Z Z Z (ow_lss Z Z Z fun bb1 hbb1 => lw_op Z Z Z (ow_move Z Z ?_))))))))))))))
 replace h := cond_some h
 rcases h with ⟨hc1, h⟩ | ⟨hc1, h⟩
 ·
  obtain rfl := hbb1.trans hc1
  refine lw_off Z Z Z Z Z Z (lw_off Z Z Z Z Z Z (lw_op Z Z Z (ow_pickT Z Z Z (lw_nil (ew_then (cw_true Z (cw_seq (cw_region (lw_op Z Z Z (ow_assign Z Z (lw_nil (ew_then (cw_ret (ew_thenR ?_))))))))))))))
  obtain rfl := sj h
  exact ew_ret (res1 Z (.tmp Z)) ⟨_, Z, ((vint _)), hC.bx⟩
 ·
  obtain rfl := hbb1.trans hc1
  refine lw_on Z Z Z Z Z Z (ow_move Z Z (lw_on Z Z Z Z Z Z (ow_geq Z Z Z fun bb2 hbb2 => lw_op Z Z Z (ow_pickF Z Z Z (lw_nil (ew_then ?_))))))
  replace h := cond_some h
  rcases h with ⟨hc2, h⟩ | ⟨hc2, h⟩
  ·
   obtain rfl := hbb2.trans hc2
   refine cw_true Z (cw_seq (cw_region (lw_op Z Z Z (ow_assign Z Z (lw_nil (ew_then (cw_ret (ew_thenR ?_))))))))
   obtain rfl := sj h
   exact ew_ret (res1 Z (.tmp Z)) ⟨_, Z, ((vint _)), hC.bx⟩
  ·
   obtain rfl := hbb2.trans hc2
   refine cw_false Z (cw_skip (ew_then (cw_seq (cw_region (lw_op Z Z Z (ow_move Z Z ?_))))))
   replace h := bind_some h
   obtain ⟨x1, hx1, h⟩ := h
   refine lw_op Z Z Z (ow_indexArr (R := RShape) Z Z Z hG Tryd.underlying135 (Tryd.sizeOf134 _) hx1 fun p1 hp1 => lw_op Z Z Z (ow_fieldAddr Z Z Tryd.underlying134 Z (Tryd.sizeOf3 _) (lw_op Z Z Z (ow_load (R := RInt) Z Z (hp1.fld fld_Shape_top) (Tryd.sizeOf3 _) (Tryd.isAgg3 _) fun v1 hv1 => ?_))))
   obtain rfl := vint_eq hv1
   refine lw_op Z Z Z (ow_assign Z Z (lw_nil (ew_then (cw_ret ?_))))
   obtain rfl := sj h
   exact ew_ret (res1 Z (.tmp Z)) ⟨_, Z, ((vint _)), hC.bx⟩

theorem w_impl_TestValid {w : World} {M : Nat → Prop} (hG : ARep (RArr 4 RShape) w M shapes ⟨0, 0, none⟩) (hO : ∀ b, M b → b < w.heap.size) {v0p : Value} {a_t : Test} (h0 : VRep RTest w M a_t v0p) {r : Bool} (h : F.impl_TestValid a_t = some r) :
  Calls Tryd.prog 159 [v0p].toArray w fun e w' => ∃ v, e = .returned v ∧ VRep RBool w' M r v ∧ BX No w w' := by
 have hC : Cx No w M w M := Cx.start hO (fun _ e => e.elim)
 refine walk (N := 31) Tryd.func159 Z Tryd.ntmps159 Z (cw_seq (cw_region (lw_op Z Z Z (ow_box (R := RTest) Z Z h0 hC fun p1 w1 hp1 hb1 hl1 hC1 => lw_op Z Z Z (ow_assign Z Z (lw_nil (ew_then (cw_seq ?_))))))))
 replace h := cond_some h
 rcases h with ⟨hc1, h⟩ | ⟨hc1, h⟩
 ·
  replace h := cond_some h
  rcases h with ⟨hc2, h⟩ | ⟨hc2, h⟩
  ·
   replace h := cond_some h
   rcases h with ⟨hc3, h⟩ | ⟨hc3, h⟩
   ·
    replace h := cond_some h
    rcases h with ⟨hc4, h⟩ | ⟨hc4, h⟩
    ·
     replace h := bind_some h
     obtain ⟨x1, hx1, h⟩ := h
     refine cw_sub (E' := [(1, (.pointer (some p1))), (2, (.bool false))]) ⟨Z, Z, Zt⟩ (cw_drawQ 26 [PA RInt M a_t.Field, PEq (Zv a_t.Field), PEq (.bool true), PEq (.bool true), PA RInt M a_t.Field, PEq (Zv a_t.Field), PEq (.bool true), PEq (.bool true), PEq (.bool true), PA RInt M a_t.Lo, PEq (Zv a_t.Lo), PEq (.bool true), PEq (.bool true), PEq (.bool true), PA RInt M a_t.Lo, PEq (Zv a_t.Lo), PA RInt M a_t.Hi, PEq (Zv a_t.Hi), PEq (.bool true), PEq (.bool true), PEq (.bool true), PA RInt M a_t.Hi, PEq (Zv a_t.Hi), PA RInt M a_t.Field, PEq (Zv a_t.Field), PEq (Zv x1)] (by kernel_rfl) Z (by kernel_rfl) ⟨PA.mono _ _ _, Zq, Zq, Zq, PA.mono _ _ _, Zq, Zq, Zq, Zq, PA.mono _ _ _, Zq, Zq, Zq, Zq, PA.mono _ _ _, Zq, PA.mono _ _ _, Zq, Zq, Zq, Zq, PA.mono _ _ _, Zq, PA.mono _ _ _, Zq, Zq, Zt⟩ ⟨?_, ?_, ?_, ?_, ?_, ?_, ?_, ?_, ?_, ?_, ?_, ?_, ?_, ?_, ?_, ?_, ?_, ?_, ?_, ?_, ?_, ?_, ?_, ?_, ?_, ?_, Zt⟩ ?_)
     ·
      intro w3 D hS1 hd1
      have hl3 := Le.no M hS1
      exact dg_sub (E' := [(1, (.pointer (some p1)))]) ⟨Z, Zt⟩ (dg_plain Z (ow_fieldAddr Z Z Tryd.underlying128 Z (Tryd.sizeOf3 _) ⟨BX.refl _ _, ⟨_, Z, (ARep.mono hl3 (hp1.fld fld_Test_Field))⟩⟩))
     ·
      intro w4 D hS2 hd2
      have d1 : PA RInt M a_t.Field (D 0) w4 := dpA hd2 0 Z
      obtain ⟨p2, e1, ha1⟩ := d1
      refine dg_sub (E' := [(3, (.pointer (some p2)))]) ⟨congrArg some e1, Zt⟩ (dg_plain Z (ow_load (R := RInt) Z Z ha1 (Tryd.sizeOf3 _) (Tryd.isAgg3 _) fun v9 hv9 => ?_))
      obtain rfl := vint_eq hv9
      exact Zb
     ·
      intro w5 D hS3 hd3
      refine dg_sub (E' := [(4, (Zv a_t.Field))]) ⟨dpE hd3 1 Z Z, Zt⟩ (dg_plain Z (ow_geq Z Z Z fun bb5 hbb5 => ?_))
      obtain rfl := hbb5.trans hc1
      exact Zb
     · exact fun w6 D hS4 hd4 => dg_sub (E' := [(5, (.bool true))]) ⟨dpE hd4 2 Z Z, Zt⟩ (dg_plain Z (ow_move Z Z Zb))
     ·
      intro w7 D hS5 hd5
      have hl7 := Le.no M hS5
      exact dg_sub (E' := [(6, (.bool true)), (1, (.pointer (some p1)))]) ⟨dpE hd5 3 Z Z, Z, Zt⟩ (dg_on Z Z Z Z (ow_fieldAddr Z Z Tryd.underlying128 Z (Tryd.sizeOf3 _) ⟨BX.refl _ _, ⟨_, Z, (ARep.mono hl7 (hp1.fld fld_Test_Field))⟩⟩))
     ·
      intro w8 D hS6 hd6
      have d5 : PA RInt M a_t.Field (D 4) w8 := dpA hd6 4 Z
      obtain ⟨p3, e2, ha2⟩ := d5
      refine dg_sub (E' := [(7, (.pointer (some p3))), (6, (.bool true))]) ⟨congrArg some e2, dpE hd6 3 Z Z, Zt⟩ (dg_on Z Z Z Z (ow_load (R := RInt) Z Z ha2 (Tryd.sizeOf3 _) (Tryd.isAgg3 _) fun v10 hv10 => ?_))
      obtain rfl := vint_eq hv10
      exact Zb
     ·
      intro w9 D hS7 hd7
      refine dg_sub (E' := [(8, (Zv a_t.Field)), (6, (.bool true))]) ⟨dpE hd7 5 Z Z, dpE hd7 3 Z Z, Zt⟩ (dg_on Z Z Z Z (ow_lss Z Z Z fun bb6 hbb6 => ?_))
      obtain rfl := hbb6.trans hc2
      exact Zb
     · exact fun w10 D hS8 hd8 => dg_sub (E' := [(6, (.bool true)), (9, (.bool true))]) ⟨dpE hd8 3 Z Z, dpE hd8 6 Z Z, Zt⟩ (dg_plain Z (ow_pickT Z Z Z Zb))
     · exact fun w11 D hS9 hd9 => dg_sub (E' := [(10, (.bool true))]) ⟨dpE hd9 7 Z Z, Zt⟩ (dg_plain Z (ow_move Z Z Zb))
     ·
      intro w12 D hS10 hd10
      have hl12 := Le.no M hS10
      exact dg_sub (E' := [(11, (.bool true)), (1, (.pointer (some p1)))]) ⟨dpE hd10 8 Z Z, Z, Zt⟩ (dg_on Z Z Z Z (ow_fieldAddr Z Z Tryd.underlying128 Z (Tryd.sizeOf3 _) ⟨BX.refl _ _, ⟨_, Z, (ARep.mono hl12 (hp1.fld fld_Test_Lo))⟩⟩))
     ·
      intro w13 D hS11 hd11
      have d14 : PA RInt M a_t.Lo (D 9) w13 := dpA hd11 9 Z
      obtain ⟨p4, e3, ha3⟩ := d14
      refine dg_sub (E' := [(12, (.pointer (some p4))), (11, (.bool true))]) ⟨congrArg some e3, dpE hd11 8 Z Z, Zt⟩ (dg_on Z Z Z Z (ow_load (R := RInt) Z Z ha3 (Tryd.sizeOf3 _) (Tryd.isAgg3 _) fun v11 hv11 => ?_))
      obtain rfl := vint_eq hv11
      exact Zb
     ·
      intro w14 D hS12 hd12
      refine dg_sub (E' := [(13, (Zv a_t.Lo)), (11, (.bool true))]) ⟨dpE hd12 10 Z Z, dpE hd12 8 Z Z, Zt⟩ (dg_on Z Z Z Z (ow_geq Z Z Z fun bb7 hbb7 => ?_))
      obtain rfl := hbb7.trans hc3
      exact Zb
     · exact fun w15 D hS13 hd13 => dg_sub (E' := [(11, (.bool true)), (14, (.bool true))]) ⟨dpE hd13 8 Z Z, dpE hd13 11 Z Z, Zt⟩ (dg_plain Z (ow_pickT Z Z Z Zb))
     · exact fun w16 D hS14 hd14 => dg_sub (E' := [(15, (.bool true))]) ⟨dpE hd14 12 Z Z, Zt⟩ (dg_plain Z (ow_move Z Z Zb))
     ·
      intro w17 D hS15 hd15
      have hl17 := Le.no M hS15
      exact dg_sub (E' := [(16, (.bool true)), (1, (.pointer (some p1)))]) ⟨dpE hd15 13 Z Z, Z, Zt⟩ (dg_on Z Z Z Z (ow_fieldAddr Z Z Tryd.underlying128 Z (Tryd.sizeOf3 _) ⟨BX.refl _ _, ⟨_, Z, (ARep.mono hl17 (hp1.fld fld_Test_Lo))⟩⟩))
     ·
      intro w18 D hS16 hd16
      have d23 : PA RInt M a_t.Lo (D 14) w18 := dpA hd16 14 Z
      obtain ⟨p5, e4, ha4⟩ := d23
      refine dg_sub (E' := [(17, (.pointer (some p5))), (16, (.bool true))]) ⟨congrArg some e4, dpE hd16 13 Z Z, Zt⟩ (dg_on Z Z Z Z (ow_load (R := RInt) Z Z ha4 (Tryd.sizeOf3 _) (Tryd.isAgg3 _) fun v12 hv12 => ?_))
      obtain rfl := vint_eq hv12
      exact Zb
     ·
      intro w19 D hS17 hd17
      have hl19 := Le.no M hS17
      exact dg_sub (E' := [(16, (.bool true)), (1, (.pointer (some p1)))]) ⟨dpE hd17 13 Z Z, Z, Zt⟩ (dg_on Z Z Z Z (ow_fieldAddr Z Z Tryd.underlying128 Z (Tryd.sizeOf3 _) ⟨BX.refl _ _, ⟨_, Z, (ARep.mono hl19 (hp1.fld fld_Test_Hi))⟩⟩))
     ·
      intro w20 D hS18 hd18
      have d26 : PA RInt M a_t.Hi (D 16) w20 := dpA hd18 16 Z
      obtain ⟨p6, e5, ha5⟩ := d26
      refine dg_sub (E' := [(19, (.pointer (some p6))), (16, (.bool true))]) ⟨congrArg some e5, dpE hd18 13 Z Z, Zt⟩ (dg_on Z Z Z Z (ow_load (R := RInt) Z Z ha5 (Tryd.sizeOf3 _) (Tryd.isAgg3 _) fun v13 hv13 => ?_))
      obtain rfl := vint_eq hv13
      exact Zb
     ·
      intro w21 D hS19 hd19
      refine dg_sub (E' := [(18, (Zv a_t.Lo)), (20, (Zv a_t.Hi)), (16, (.bool true))]) ⟨dpE hd19 15 Z Z, dpE hd19 17 Z Z, dpE hd19 13 Z Z, Zt⟩ (dg_on Z Z Z Z (ow_leq Z Z Z fun bb8 hbb8 => ?_))
      obtain rfl := hbb8.trans hc4
      exact Zb
     · exact fun w22 D hS20 hd20 => dg_sub (E' := [(16, (.bool true)), (21, (.bool true))]) ⟨dpE hd20 13 Z Z, dpE hd20 18 Z Z, Zt⟩ (dg_plain Z (ow_pickT Z Z Z Zb))
     · exact fun w23 D hS21 hd21 => dg_sub (E' := [(22, (.bool true))]) ⟨dpE hd21 19 Z Z, Zt⟩ (dg_plain Z (ow_move Z Z Zb))
     ·
      intro w24 D hS22 hd22
      have hl24 := Le.no M hS22
      exact dg_sub (E' := [(23, (.bool true)), (1, (.pointer (some p1)))]) ⟨dpE hd22 20 Z Z, Z, Zt⟩ (dg_on Z Z Z Z (ow_fieldAddr Z Z Tryd.underlying128 Z (Tryd.sizeOf3 _) ⟨BX.refl _ _, ⟨_, Z, (ARep.mono hl24 (hp1.fld fld_Test_Hi))⟩⟩))
     ·
      intro w25 D hS23 hd23
      have d36 : PA RInt M a_t.Hi (D 21) w25 := dpA hd23 21 Z
      obtain ⟨p7, e6, ha6⟩ := d36
      refine dg_sub (E' := [(24, (.pointer (some p7))), (23, (.bool true))]) ⟨congrArg some e6, dpE hd23 20 Z Z, Zt⟩ (dg_on Z Z Z Z (ow_load (R := RInt) Z Z ha6 (Tryd.sizeOf3 _) (Tryd.isAgg3 _) fun v14 hv14 => ?_))
      obtain rfl := vint_eq hv14
      exact Zb
     ·
      intro w26 D hS24 hd24
      have hl26 := Le.no M hS24
      exact dg_sub (E' := [(23, (.bool true)), (1, (.pointer (some p1)))]) ⟨dpE hd24 20 Z Z, Z, Zt⟩ (dg_on Z Z Z Z (ow_fieldAddr Z Z Tryd.underlying128 Z (Tryd.sizeOf3 _) ⟨BX.refl _ _, ⟨_, Z, (ARep.mono hl26 (hp1.fld fld_Test_Field))⟩⟩))
     ·
      intro w27 D hS25 hd25
      have d39 : PA RInt M a_t.Field (D 23) w27 := dpA hd25 23 Z
      obtain ⟨p8, e7, ha7⟩ := d39
      refine dg_sub (E' := [(26, (.pointer (some p8))), (23, (.bool true))]) ⟨congrArg some e7, dpE hd25 20 Z Z, Zt⟩ (dg_on Z Z Z Z (ow_load (R := RInt) Z Z ha7 (Tryd.sizeOf3 _) (Tryd.isAgg3 _) fun v15 hv15 => ?_))
      obtain rfl := vint_eq hv15
      exact Zb
     ·
      intro w28 D hS26 hd26
      have hl28 := Le.no M hS26
      have hC28 := hC1.no hS26
      refine dg_sub (E' := [(27, (Zv a_t.Field)), (23, (.bool true))]) ⟨dpE hd26 24 Z Z, dpE hd26 20 Z Z, Zt⟩ (dg_on Z Z Z Z (ow_call Z Z Tryd.call142 (w_impl_FieldTop (hG.mono (hl1.trans hl28)) hC28.old hx1) fun v16 w29 hv16 => ?_))
      obtain ⟨hv16, hb3⟩ := hv16
      obtain rfl := vint_eq hv16
      exact ⟨hb3, Z⟩
     ·
      intro w30 D hS27 hd27
      have hC30 := hC1.no hS27
      refine lw_sub (E' := [(23, (.bool true)), (25, (Zv a_t.Hi)), (28, (Zv x1)), (1, (.pointer (some p1))), (2, (.bool false))]) ⟨dpE hd27 20 Z Z, dpE hd27 22 Z Z, dpE hd27 25 Z Z, Z, Z, Zt⟩ (lw_on Z Z Z Z Z Z (ow_leq Z Z Z fun bb9 hbb9 => lw_op Z Z Z (ow_pickT Z Z Z (lw_op Z Z Z (ow_assign Z Z (lw_nil (ew_then (cw_ret ?_))))))))
      obtain rfl := sj h
      exact ew_ret (res1 Z (.tmp Z)) ⟨_, Z, ((vbool_of hbb9)), hC30.bx⟩
    ·
     refine cw_sub (E' := [(1, (.pointer (some p1))), (2, (.bool false))]) ⟨Z, Z, Zt⟩ (cw_drawQ 26 [PA RInt M a_t.Field, PEq (Zv a_t.Field), PEq (.bool true), PEq (.bool true), PA RInt M a_t.Field, PEq (Zv a_t.Field), PEq (.bool true), PEq (.bool true), PEq (.bool true), PA RInt M a_t.Lo, PEq (Zv a_t.Lo), PEq (.bool true), PEq (.bool true), PEq (.bool true), PA RInt M a_t.Lo, PEq (Zv a_t.Lo), PA RInt M a_t.Hi, PEq (Zv a_t.Hi), PEq (.bool false), PEq (.bool false), PEq (.bool false), PEq undef, PEq undef, PEq undef, PEq undef, PEq undef] (by kernel_rfl) Z (by kernel_rfl) ⟨PA.mono _ _ _, Zq, Zq, Zq, PA.mono _ _ _, Zq, Zq, Zq, Zq, PA.mono _ _ _, Zq, Zq, Zq, Zq, PA.mono _ _ _, Zq, PA.mono _ _ _, Zq, Zq, Zq, Zq, Zq, Zq, Zq, Zq, Zq, Zt⟩ ⟨?_, ?_, ?_, ?_, ?_, ?_, ?_, ?_, ?_, ?_, ?_, ?_, ?_, ?_, ?_, ?_, ?_, ?_, ?_, ?_, ?_, ?_, ?_, ?_, ?_, ?_, Zt⟩ ?_)
     ·
      intro w31 D hS28 hd28
      have hl31 := Le.no M hS28
      exact dg_sub (E' := [(1, (.pointer (some p1)))]) ⟨Z, Zt⟩ (dg_plain Z (ow_fieldAddr Z Z Tryd.underlying128 Z (Tryd.sizeOf3 _) ⟨BX.refl _ _, ⟨_, Z, (ARep.mono hl31 (hp1.fld fld_Test_Field))⟩⟩))
     ·
      intro w32 D hS29 hd29
      have d70 : PA RInt M a_t.Field (D 0) w32 := dpA hd29 0 Z
      obtain ⟨p9, e8, ha8⟩ := d70
      refine dg_sub (E' := [(3, (.pointer (some p9)))]) ⟨congrArg some e8, Zt⟩ (dg_plain Z (ow_load (R := RInt) Z Z ha8 (Tryd.sizeOf3 _) (Tryd.isAgg3 _) fun v17 hv17 => ?_))
      obtain rfl := vint_eq hv17
      exact Zb
     ·
      intro w33 D hS30 hd30
      refine dg_sub (E' := [(4, (Zv a_t.Field))]) ⟨dpE hd30 1 Z Z, Zt⟩ (dg_plain Z (ow_geq Z Z Z fun bb10 hbb10 => ?_))
      obtain rfl := hbb10.trans hc1
      exact Zb
     · exact fun w34 D hS31 hd31 => dg_sub (E' := [(5, (.bool true))]) ⟨dpE hd31 2 Z Z, Zt⟩ (dg_plain Z (ow_move Z Z Zb))
     ·
      intro w35 D hS32 hd32
      have hl35 := Le.no M hS32
      exact dg_sub (E' := [(6, (.bool true)), (1, (.pointer (some p1)))]) ⟨dpE hd32 3 Z Z, Z, Zt⟩ (dg_on Z Z Z Z (ow_fieldAddr Z Z Tryd.underlying128 Z (Tryd.sizeOf3 _) ⟨BX.refl _ _, ⟨_, Z, (ARep.mono hl35 (hp1.fld fld_Test_Field))⟩⟩))
     ·
      intro w36 D hS33 hd33
      have d74 : PA RInt M a_t.Field (D 4) w36 := dpA hd33 4 Z
      obtain ⟨p10, e9, ha9⟩ := d74
      refine dg_sub (E' := [(7, (.pointer (some p10))), (6, (.bool true))]) ⟨congrArg some e9, dpE hd33 3 Z Z, Zt⟩ (dg_on Z Z Z Z (ow_load (R := RInt) Z Z ha9 (Tryd.sizeOf3 _) (Tryd.isAgg3 _) fun v18 hv18 => ?_))
      obtain rfl := vint_eq hv18
      exact Zb
     ·
      intro w37 D hS34 hd34
      refine dg_sub (E' := [(8, (Zv a_t.Field)), (6, (.bool true))]) ⟨dpE hd34 5 Z Z, dpE hd34 3 Z Z, Zt⟩ (dg_on Z Z Z Z (ow_lss Z Z Z fun bb11 hbb11 => ?_))
      obtain rfl := hbb11.trans hc2
      exact Zb
     · exact fun w38 D hS35 hd35 => dg_sub (E' := [(6, (.bool true)), (9, (.bool true))]) ⟨dpE hd35 3 Z Z, dpE hd35 6 Z Z, Zt⟩ (dg_plain Z (ow_pickT Z Z Z Zb))
     · exact fun w39 D hS36 hd36 => dg_sub (E' := [(10, (.bool true))]) ⟨dpE hd36 7 Z Z, Zt⟩ (dg_plain Z (ow_move Z Z Zb))
     ·
      intro w40 D hS37 hd37
      have hl40 := Le.no M hS37
      exact dg_sub (E' := [(11, (.bool true)), (1, (.pointer (some p1)))]) ⟨dpE hd37 8 Z Z, Z, Zt⟩ (dg_on Z Z Z Z (ow_fieldAddr Z Z Tryd.underlying128 Z (Tryd.sizeOf3 _) ⟨BX.refl _ _, ⟨_, Z, (ARep.mono hl40 (hp1.fld fld_Test_Lo))⟩⟩))
     ·
      intro w41 D hS38 hd38
      have d83 : PA RInt M a_t.Lo (D 9) w41 := dpA hd38 9 Z
      obtain ⟨p11, e10, ha10⟩ := d83
      refine dg_sub (E' := [(12, (.pointer (some p11))), (11, (.bool true))]) ⟨congrArg some e10, dpE hd38 8 Z Z, Zt⟩ (dg_on Z Z Z Z (ow_load (R := RInt) Z Z ha10 (Tryd.sizeOf3 _) (Tryd.isAgg3 _) fun v19 hv19 => ?_))
      obtain rfl := vint_eq hv19
      exact Zb
     ·
      intro w42 D hS39 hd39
      refine dg_sub (E' := [(13, (Zv a_t.Lo)), (11, (.bool true))]) ⟨dpE hd39 10 Z Z, dpE hd39 8 Z Z, Zt⟩ (dg_on Z Z Z Z (ow_geq Z Z Z fun bb12 hbb12 => ?_))
      obtain rfl := hbb12.trans hc3
      exact Zb
     · exact fun w43 D hS40 hd40 => dg_sub (E' := [(11, (.bool true)), (14, (.bool true))]) ⟨dpE hd40 8 Z Z, dpE hd40 11 Z Z, Zt⟩ (dg_plain Z (ow_pickT Z Z Z Zb))
     · exact fun w44 D hS41 hd41 => dg_sub (E' := [(15, (.bool true))]) ⟨dpE hd41 12 Z Z, Zt⟩ (dg_plain Z (ow_move Z Z Zb))
     ·
      intro w45 D hS42 hd42
      have hl45 := Le.no M hS42
      exact dg_sub (E' := [(16, (.bool true)), (1, (.pointer (some p1)))]) ⟨dpE hd42 13 Z Z, Z, Zt⟩ (dg_on Z Z Z Z (ow_fieldAddr Z Z Tryd.underlying128 Z (Tryd.sizeOf3 _) ⟨BX.refl _ _, ⟨_, Z, (ARep.mono hl45 (hp1.fld fld_Test_Lo))⟩⟩))
     ·
      intro w46 D hS43 hd43
      have d92 : PA RInt M a_t.Lo (D 14) w46 := dpA hd43 14 Z
      obtain ⟨p12, e11, ha11⟩ := d92
      refine dg_sub (E' := [(17, (.pointer (some p12))), (16, (.bool true))]) ⟨congrArg some e11, dpE hd43 13 Z Z, Zt⟩ (dg_on Z Z Z Z (ow_load (R := RInt) Z Z ha11 (Tryd.sizeOf3 _) (Tryd.isAgg3 _) fun v20 hv20 => ?_))
      obtain rfl := vint_eq hv20
      exact Zb
     ·
      intro w47 D hS44 hd44
      have hl47 := Le.no M hS44
      exact dg_sub (E' := [(16, (.bool true)), (1, (.pointer (some p1)))]) ⟨dpE hd44 13 Z Z, Z, Zt⟩ (dg_on Z Z Z Z (ow_fieldAddr Z Z Tryd.underlying128 Z (Tryd.sizeOf3 _) ⟨BX.refl _ _, ⟨_, Z, (ARep.mono hl47 (hp1.fld fld_Test_Hi))⟩⟩))
     ·
      intro w48 D hS45 hd45
      have d95 : PA RInt M a_t.Hi (D 16) w48 := dpA hd45 16 Z
      obtain ⟨p13, e12, ha12⟩ := d95
      refine dg_sub (E' := [(19, (.pointer (some p13))), (16, (.bool true))]) ⟨congrArg some e12, dpE hd45 13 Z Z, Zt⟩ (dg_on Z Z Z Z (ow_load (R := RInt) Z Z ha12 (Tryd.sizeOf3 _) (Tryd.isAgg3 _) fun v21 hv21 => ?_))
      obtain rfl := vint_eq hv21
      exact Zb
     ·
      intro w49 D hS46 hd46
      refine dg_sub (E' := [(18, (Zv a_t.Lo)), (20, (Zv a_t.Hi)), (16, (.bool true))]) ⟨dpE hd46 15 Z Z, dpE hd46 17 Z Z, dpE hd46 13 Z Z, Zt⟩ (dg_on Z Z Z Z (ow_leq Z Z Z fun bb13 hbb13 => ?_))
      obtain rfl := hbb13.trans hc4
      exact Zb
     · exact fun w50 D hS47 hd47 => dg_sub (E' := [(16, (.bool true)), (21, (.bool false))]) ⟨dpE hd47 13 Z Z, dpE hd47 18 Z Z, Zt⟩ (dg_plain Z (ow_pickT Z Z Z Zb))
     · exact fun w51 D hS48 hd48 => dg_sub (E' := [(22, (.bool false))]) ⟨dpE hd48 19 Z Z, Zt⟩ (dg_plain Z (ow_move Z Z Zb))
     · exact fun w52 D hS49 hd49 => dg_sub (E' := [(23, (.bool false)), (1, (.pointer (some p1)))]) ⟨dpE hd49 20 Z Z, Z, Zt⟩ (dg_off Z Z Z Z Zb)
     · exact fun w53 D hS50 hd50 => dg_sub (E' := [(24, undef), (23, (.bool false))]) ⟨dpE hd50 21 Z Z, dpE hd50 20 Z Z, Zt⟩ (dg_off Z Z Z Z Zb)
     · exact fun w54 D hS51 hd51 => dg_sub (E' := [(23, (.bool false)), (1, (.pointer (some p1)))]) ⟨dpE hd51 20 Z Z, Z, Zt⟩ (dg_off Z Z Z Z Zb)
     · exact fun w55 D hS52 hd52 => dg_sub (E' := [(26, undef), (23, (.bool false))]) ⟨dpE hd52 23 Z Z, dpE hd52 20 Z Z, Zt⟩ (dg_off Z Z Z Z Zb)
     · exact fun w56 D hS53 hd53 => dg_sub (E' := [(27, undef), (23, (.bool false))]) ⟨dpE hd53 24 Z Z, dpE hd53 20 Z Z, Zt⟩ (dg_off Z Z Z Z Zb)
     ·
      intro w57 D hS54 hd54
      have hC57 := hC1.no hS54
      refine lw_sub (E' := [(23, (.bool false)), (25, undef), (28, undef), (1, (.pointer (some p1))), (2, (.bool false))]) ⟨dpE hd54 20 Z Z, dpE hd54 22 Z Z, dpE hd54 25 Z Z, Z, Z, Zt⟩ (lw_off Z Z Z Z Z Z (lw_op Z Z Z (ow_pickF Z Z Z (lw_op Z Z Z (ow_assign Z Z (lw_nil (ew_then (cw_ret ?_))))))))
      obtain rfl := sj h
      exact ew_ret (res1 Z (.tmp Z)) ⟨_, Z, ((vbool _)), hC57.bx⟩
   ·
    refine cw_sub (E' := [(1, (.pointer (some p1))), (2, (.bool false))]) ⟨Z, Z, Zt⟩ (cw_drawQ 26 [PA RInt M a_t.Field, PEq (Zv a_t.Field), PEq (.bool true), PEq (.bool true), PA RInt M a_t.Field, PEq (Zv a_t.Field), PEq (.bool true), PEq (.bool true), PEq (.bool true), PA RInt M a_t.Lo, PEq (Zv a_t.Lo), PEq (.bool false), PEq (.bool false), PEq (.bool false), PEq undef, PEq undef, PEq undef, PEq undef, PEq undef, PEq (.bool false), PEq (.bool false), PEq undef, PEq undef, PEq undef, PEq undef, PEq undef] (by kernel_rfl) Z (by kernel_rfl) ⟨PA.mono _ _ _, Zq, Zq, Zq, PA.mono _ _ _, Zq, Zq, Zq, Zq, PA.mono _ _ _, Zq, Zq, Zq, Zq, Zq, Zq, Zq, Zq, Zq, Zq, Zq, Zq, Zq, Zq, Zq, Zq, Zt⟩ ⟨?_, ?_, ?_, ?_, ?_, ?_, ?_, ?_, ?_, ?_, ?_, ?_, ?_, ?_, ?_, ?_, ?_, ?_, ?_, ?_, ?_, ?_, ?_, ?_, ?_, ?_, Zt⟩ ?_)
    ·
     intro w58 D hS55 hd55
     have hl58 := Le.no M hS55
     exact dg_sub (E' := [(1, (.pointer (some p1)))]) ⟨Z, Zt⟩ (dg_plain Z (ow_fieldAddr Z Z Tryd.underlying128 Z (Tryd.sizeOf3 _) ⟨BX.refl _ _, ⟨_, Z, (ARep.mono hl58 (hp1.fld fld_Test_Field))⟩⟩))
    ·
     intro w59 D hS56 hd56
     have d139 : PA RInt M a_t.Field (D 0) w59 := dpA hd56 0 Z
     obtain ⟨p14, e13, ha13⟩ := d139
     refine dg_sub (E' := [(3, (.pointer (some p14)))]) ⟨congrArg some e13, Zt⟩ (dg_plain Z (ow_load (R := RInt) Z Z ha13 (Tryd.sizeOf3 _) (Tryd.isAgg3 _) fun v22 hv22 => ?_))
     obtain rfl := vint_eq hv22
     exact Zb
    ·
     intro w60 D hS57 hd57
     refine dg_sub (E' := [(4, (Zv a_t.Field))]) ⟨dpE hd57 1 Z Z, Zt⟩ (dg_plain Z (ow_geq Z Z Z fun bb14 hbb14 => ?_))
     obtain rfl := hbb14.trans hc1
     exact Zb
    · exact fun w61 D hS58 hd58 => dg_sub (E' := [(5, (.bool true))]) ⟨dpE hd58 2 Z Z, Zt⟩ (dg_plain Z (ow_move Z Z Zb))
    ·
     intro w62 D hS59 hd59
     have hl62 := Le.no M hS59
     exact dg_sub (E' := [(6, (.bool true)), (1, (.pointer (some p1)))]) ⟨dpE hd59 3 Z Z, Z, Zt⟩ (dg_on Z Z Z Z (ow_fieldAddr Z Z Tryd.underlying128 Z (Tryd.sizeOf3 _) ⟨BX.refl _ _, ⟨_, Z, (ARep.mono hl62 (hp1.fld fld_Test_Field))⟩⟩))
    ·
     intro w63 D hS60 hd60
     have d143 : PA RInt M a_t.Field (D 4) w63 := dpA hd60 4 Z
     obtain ⟨p15, e14, ha14⟩ := d143
     refine dg_sub (E' := [(7, (.pointer (some p15))), (6, (.bool true))]) ⟨congrArg some e14, dpE hd60 3 Z Z, Zt⟩ (dg_on Z Z Z Z (ow_load (R := RInt) Z Z ha14 (Tryd.sizeOf3 _) (Tryd.isAgg3 _) fun v23 hv23 => ?_))
     obtain rfl := vint_eq hv23
     exact Zb
    ·
     intro w64 D hS61 hd61
     refine dg_sub (E' := [(8, (Zv a_t.Field)), (6, (.bool true))]) ⟨dpE hd61 5 Z Z, dpE hd61 3 Z Z, Zt⟩ (dg_on Z Z Z Z (ow_lss Z Z Z fun bb15 hbb15 => ?_))
     obtain rfl := hbb15.trans hc2
     exact Zb
    · exact fun w65 D hS62 hd62 => dg_sub (E' := [(6, (.bool true)), (9, (.bool true))]) ⟨dpE hd62 3 Z Z, dpE hd62 6 Z Z, Zt⟩ (dg_plain Z (ow_pickT Z Z Z Zb))
    · exact fun w66 D hS63 hd63 => dg_sub (E' := [(10, (.bool true))]) ⟨dpE hd63 7 Z Z, Zt⟩ (dg_plain Z (ow_move Z Z Zb))
    ·
     intro w67 D hS64 hd64
     have hl67 := Le.no M hS64
     exact dg_sub (E' := [(11, (.bool true)), (1, (.pointer (some p1)))]) ⟨dpE hd64 8 Z Z, Z, Zt⟩ (dg_on Z Z Z Z (ow_fieldAddr Z Z Tryd.underlying128 Z (Tryd.sizeOf3 _) ⟨BX.refl _ _, ⟨_, Z, (ARep.mono hl67 (hp1.fld fld_Test_Lo))⟩⟩))
    ·
     intro w68 D hS65 hd65
     have d152 : PA RInt M a_t.Lo (D 9) w68 := dpA hd65 9 Z
     obtain ⟨p16, e15, ha15⟩ := d152
     refine dg_sub (E' := [(12, (.pointer (some p16))), (11, (.bool true))]) ⟨congrArg some e15, dpE hd65 8 Z Z, Zt⟩ (dg_on Z Z Z Z (ow_load (R := RInt) Z Z ha15 (Tryd.sizeOf3 _) (Tryd.isAgg3 _) fun v24 hv24 => ?_))
     obtain rfl := vint_eq hv24
     exact Zb
    ·
     intro w69 D hS66 hd66
     refine dg_sub (E' := [(13, (Zv a_t.Lo)), (11, (.bool true))]) ⟨dpE hd66 10 Z Z, dpE hd66 8 Z Z, Zt⟩ (dg_on Z Z Z Z (ow_geq Z Z Z fun bb16 hbb16 => ?_))
     obtain rfl := hbb16.trans hc3
     exact Zb
    · exact fun w70 D hS67 hd67 => dg_sub (E' := [(11, (.bool true)), (14, (.bool false))]) ⟨dpE hd67 8 Z Z, dpE hd67 11 Z Z, Zt⟩ (dg_plain Z (ow_pickT Z Z Z Zb))
    · exact fun w71 D hS68 hd68 => dg_sub (E' := [(15, (.bool false))]) ⟨dpE hd68 12 Z Z, Zt⟩ (dg_plain Z (ow_move Z Z Zb))
    · exact fun w72 D hS69 hd69 => dg_sub (E' := [(16, (.bool false)), (1, (.pointer (some p1)))]) ⟨dpE hd69 13 Z Z, Z, Zt⟩ (dg_off Z Z Z Z Zb)
    · exact fun w73 D hS70 hd70 => dg_sub (E' := [(17, undef), (16, (.bool false))]) ⟨dpE hd70 14 Z Z, dpE hd70 13 Z Z, Zt⟩ (dg_off Z Z Z Z Zb)
    · exact fun w74 D hS71 hd71 => dg_sub (E' := [(16, (.bool false)), (1, (.pointer (some p1)))]) ⟨dpE hd71 13 Z Z, Z, Zt⟩ (dg_off Z Z Z Z Zb)
    · exact fun w75 D hS72 hd72 => dg_sub (E' := [(19, undef), (16, (.bool false))]) ⟨dpE hd72 16 Z Z, dpE hd72 13 Z Z, Zt⟩ (dg_off Z Z Z Z Zb)
    · exact fun w76 D hS73 hd73 => dg_sub (E' := [(18, undef), (20, undef), (16, (.bool false))]) ⟨dpE hd73 15 Z Z, dpE hd73 17 Z Z, dpE hd73 13 Z Z, Zt⟩ (dg_off Z Z Z Z Zb)
    · exact fun w77 D hS74 hd74 => dg_sub (E' := [(16, (.bool false)), (21, undef)]) ⟨dpE hd74 13 Z Z, dpE hd74 18 Z Z, Zt⟩ (dg_plain Z (ow_pickF Z Z Z Zb))
    · exact fun w78 D hS75 hd75 => dg_sub (E' := [(22, (.bool false))]) ⟨dpE hd75 19 Z Z, Zt⟩ (dg_plain Z (ow_move Z Z Zb))
    · exact fun w79 D hS76 hd76 => dg_sub (E' := [(23, (.bool false)), (1, (.pointer (some p1)))]) ⟨dpE hd76 20 Z Z, Z, Zt⟩ (dg_off Z Z Z Z Zb)
    · exact fun w80 D hS77 hd77 => dg_sub (E' := [(24, undef), (23, (.bool false))]) ⟨dpE hd77 21 Z Z, dpE hd77 20 Z Z, Zt⟩ (dg_off Z Z Z Z Zb)
    · exact fun w81 D hS78 hd78 => dg_sub (E' := [(23, (.bool false)), (1, (.pointer (some p1)))]) ⟨dpE hd78 20 Z Z, Z, Zt⟩ (dg_off Z Z Z Z Zb)
    · exact fun w82 D hS79 hd79 => dg_sub (E' := [(26, undef), (23, (.bool false))]) ⟨dpE hd79 23 Z Z, dpE hd79 20 Z Z, Zt⟩ (dg_off Z Z Z Z Zb)
    · exact fun w83 D hS80 hd80 => dg_sub (E' := [(27, undef), (23, (.bool false))]) ⟨dpE hd80 24 Z Z, dpE hd80 20 Z Z, Zt⟩ (dg_off Z Z Z Z Zb)
    ·
     intro w84 D hS81 hd81
     have hC84 := hC1.no hS81
     refine lw_sub (E' := [(23, (.bool false)), (25, undef), (28, undef), (1, (.pointer (some p1))), (2, (.bool false))]) ⟨dpE hd81 20 Z Z, dpE hd81 22 Z Z, dpE hd81 25 Z Z, Z, Z, Zt⟩ (lw_off Z Z Z Z Z Z (lw_op Z Z Z (ow_pickF Z Z Z (lw_op Z Z Z (ow_assign Z Z (lw_nil (ew_then (cw_ret ?_))))))))
     obtain rfl := sj h
     exact ew_ret (res1 Z (.tmp Z)) ⟨_, Z, ((vbool _)), hC84.bx⟩
  ·
   refine cw_sub (E' := [(1, (.pointer (some p1))), (2, (.bool false))]) ⟨Z, Z, Zt⟩ (cw_drawQ 26 [PA RInt M a_t.Field, PEq (Zv a_t.Field), PEq (.bool true), PEq (.bool true), PA RInt M a_t.Field, PEq (Zv a_t.Field), PEq (.bool false), PEq (.bool false), PEq (.bool false), PEq undef, PEq undef, PEq undef, PEq (.bool false), PEq (.bool false), PEq undef, PEq undef, PEq undef, PEq undef, PEq undef, PEq (.bool false), PEq (.bool false), PEq undef, PEq undef, PEq undef, PEq undef, PEq undef] (by kernel_rfl) Z (by kernel_rfl) ⟨PA.mono _ _ _, Zq, Zq, Zq, PA.mono _ _ _, Zq, Zq, Zq, Zq, Zq, Zq, Zq, Zq, Zq, Zq, Zq, Zq, Zq, Zq, Zq, Zq, Zq, Zq, Zq, Zq, Zq, Zt⟩ ⟨?_, ?_, ?_, ?_, ?_, ?_, ?_, ?_, ?_, ?_, ?_, ?_, ?_, ?_, ?_, ?_, ?_, ?_, ?_, ?_, ?_, ?_, ?_, ?_, ?_, ?_, Zt⟩ ?_)
   ·
    intro w85 D hS82 hd82
    have hl85 := Le.no M hS82
    exact dg_sub (E' := [(1, (.pointer (some p1)))]) ⟨Z, Zt⟩ (dg_plain Z (ow_fieldAddr Z Z Tryd.underlying128 Z (Tryd.sizeOf3 _) ⟨BX.refl _ _, ⟨_, Z, (ARep.mono hl85 (hp1.fld fld_Test_Field))⟩⟩))
   ·
    intro w86 D hS83 hd83
    have d208 : PA RInt M a_t.Field (D 0) w86 := dpA hd83 0 Z
    obtain ⟨p17, e16, ha16⟩ := d208
    refine dg_sub (E' := [(3, (.pointer (some p17)))]) ⟨congrArg some e16, Zt⟩ (dg_plain Z (ow_load (R := RInt) Z Z ha16 (Tryd.sizeOf3 _) (Tryd.isAgg3 _) fun v25 hv25 => ?_))
    obtain rfl := vint_eq hv25
    exact Zb
   ·
    intro w87 D hS84 hd84
    refine dg_sub (E' := [(4, (Zv a_t.Field))]) ⟨dpE hd84 1 Z Z, Zt⟩ (dg_plain Z (ow_geq Z Z Z fun bb17 hbb17 => ?_))
    obtain rfl := hbb17.trans hc1
    exact Zb
   · exact fun w88 D hS85 hd85 => dg_sub (E' := [(5, (.bool true))]) ⟨dpE hd85 2 Z Z, Zt⟩ (dg_plain Z (ow_move Z Z Zb))
   ·
    intro w89 D hS86 hd86
    have hl89 := Le.no M hS86
    exact dg_sub (E' := [(6, (.bool true)), (1, (.pointer (some p1)))]) ⟨dpE hd86 3 Z Z, Z, Zt⟩ (dg_on Z Z Z Z (ow_fieldAddr Z Z Tryd.underlying128 Z (Tryd.sizeOf3 _) ⟨BX.refl _ _, ⟨_, Z, (ARep.mono hl89 (hp1.fld fld_Test_Field))⟩⟩))
   ·
    intro w90 D hS87 hd87
    have d212 : PA RInt M a_t.Field (D 4) w90 := dpA hd87 4 Z
    obtain ⟨p18, e17, ha17⟩ := d212
    refine dg_sub (E' := [(7, (.pointer (some p18))), (6, (.bool true))]) ⟨congrArg some e17, dpE hd87 3 Z Z, Zt⟩ (dg_on Z Z Z Z (ow_load (R := RInt) Z Z ha17 (Tryd.sizeOf3 _) (Tryd.isAgg3 _) fun v26 hv26 => ?_))
    obtain rfl := vint_eq hv26
    exact Zb
   ·
    intro w91 D hS88 hd88
    refine dg_sub (E' := [(8, (Zv a_t.Field)), (6, (.bool true))]) ⟨dpE hd88 5 Z Z, dpE hd88 3 Z Z, Zt⟩ (dg_on Z Z Z Z (ow_lss Z Z Z fun bb18 hbb18 => ?_))
    obtain rfl := hbb18.trans hc2
    exact Zb
   · exact fun w92 D hS89 hd89 => dg_sub (E' := [(6, (.bool true)), (9, (.bool false))]) ⟨dpE hd89 3 Z Z, dpE hd89 6 Z Z, Zt⟩ (dg_plain Z (ow_pickT Z Z Z Zb))
   · exact fun w93 D hS90 hd90 => dg_sub (E' := [(10, (.bool false))]) ⟨dpE hd90 7 Z Z, Zt⟩ (dg_plain Z (ow_move Z Z Zb))
   · exact fun w94 D hS91 hd91 => dg_sub (E' := [(11, (.bool false)), (1, (.pointer (some p1)))]) ⟨dpE hd91 8 Z Z, Z, Zt⟩ (dg_off Z Z Z Z Zb)
   · exact fun w95 D hS92 hd92 => dg_sub (E' := [(12, undef), (11, (.bool false))]) ⟨dpE hd92 9 Z Z, dpE hd92 8 Z Z, Zt⟩ (dg_off Z Z Z Z Zb)
   · exact fun w96 D hS93 hd93 => dg_sub (E' := [(13, undef), (11, (.bool false))]) ⟨dpE hd93 10 Z Z, dpE hd93 8 Z Z, Zt⟩ (dg_off Z Z Z Z Zb)
   · exact fun w97 D hS94 hd94 => dg_sub (E' := [(11, (.bool false)), (14, undef)]) ⟨dpE hd94 8 Z Z, dpE hd94 11 Z Z, Zt⟩ (dg_plain Z (ow_pickF Z Z Z Zb))
   · exact fun w98 D hS95 hd95 => dg_sub (E' := [(15, (.bool false))]) ⟨dpE hd95 12 Z Z, Zt⟩ (dg_plain Z (ow_move Z Z Zb))
   · exact fun w99 D hS96 hd96 => dg_sub (E' := [(16, (.bool false)), (1, (.pointer (some p1)))]) ⟨dpE hd96 13 Z Z, Z, Zt⟩ (dg_off Z Z Z Z Zb)
   · exact fun w100 D hS97 hd97 => dg_sub (E' := [(17, undef), (16, (.bool false))]) ⟨dpE hd97 14 Z Z, dpE hd97 13 Z Z, Zt⟩ (dg_off Z Z Z Z Zb)
   · exact fun w101 D hS98 hd98 => dg_sub (E' := [(16, (.bool false)), (1, (.pointer (some p1)))]) ⟨dpE hd98 13 Z Z, Z, Zt⟩ (dg_off Z Z Z Z Zb)
   · exact fun w102 D hS99 hd99 => dg_sub (E' := [(19, undef), (16, (.bool false))]) ⟨dpE hd99 16 Z Z, dpE hd99 13 Z Z, Zt⟩ (dg_off Z Z Z Z Zb)
   · exact fun w103 D hS100 hd100 => dg_sub (E' := [(18, undef), (20, undef), (16, (.bool false))]) ⟨dpE hd100 15 Z Z, dpE hd100 17 Z Z, dpE hd100 13 Z Z, Zt⟩ (dg_off Z Z Z Z Zb)
   · exact fun w104 D hS101 hd101 => dg_sub (E' := [(16, (.bool false)), (21, undef)]) ⟨dpE hd101 13 Z Z, dpE hd101 18 Z Z, Zt⟩ (dg_plain Z (ow_pickF Z Z Z Zb))
   · exact fun w105 D hS102 hd102 => dg_sub (E' := [(22, (.bool false))]) ⟨dpE hd102 19 Z Z, Zt⟩ (dg_plain Z (ow_move Z Z Zb))
   · exact fun w106 D hS103 hd103 => dg_sub (E' := [(23, (.bool false)), (1, (.pointer (some p1)))]) ⟨dpE hd103 20 Z Z, Z, Zt⟩ (dg_off Z Z Z Z Zb)
   · exact fun w107 D hS104 hd104 => dg_sub (E' := [(24, undef), (23, (.bool false))]) ⟨dpE hd104 21 Z Z, dpE hd104 20 Z Z, Zt⟩ (dg_off Z Z Z Z Zb)
   · exact fun w108 D hS105 hd105 => dg_sub (E' := [(23, (.bool false)), (1, (.pointer (some p1)))]) ⟨dpE hd105 20 Z Z, Z, Zt⟩ (dg_off Z Z Z Z Zb)
   · exact fun w109 D hS106 hd106 => dg_sub (E' := [(26, undef), (23, (.bool false))]) ⟨dpE hd106 23 Z Z, dpE hd106 20 Z Z, Zt⟩ (dg_off Z Z Z Z Zb)
   · exact fun w110 D hS107 hd107 => dg_sub (E' := [(27, undef), (23, (.bool false))]) ⟨dpE hd107 24 Z Z, dpE hd107 20 Z Z, Zt⟩ (dg_off Z Z Z Z Zb)
   ·
    intro w111 D hS108 hd108
    have hC111 := hC1.no hS108
    refine lw_sub (E' := [(23, (.bool false)), (25, undef), (28, undef), (1, (.pointer (some p1))), (2, (.bool false))]) ⟨dpE hd108 20 Z Z, dpE hd108 22 Z Z, dpE hd108 25 Z Z, Z, Z, Zt⟩ (lw_off Z Z Z Z Z Z (lw_op Z Z Z (ow_pickF Z Z Z (lw_op Z Z Z (ow_assign Z Z (lw_nil (ew_then (cw_ret ?_))))))))
    obtain rfl := sj h
    exact ew_ret (res1 Z (.tmp Z)) ⟨_, Z, ((vbool _)), hC111.bx⟩
 ·
  refine cw_sub (E' := [(1, (.pointer (some p1))), (2, (.bool false))]) ⟨Z, Z, Zt⟩ (cw_drawQ 26 [PA RInt M a_t.Field, PEq (Zv a_t.Field), PEq (.bool false), PEq (.bool false), PEq undef, PEq undef, PEq undef, PEq (.bool false), PEq (.bool false), PEq undef, PEq undef, PEq undef, PEq (.bool false), PEq (.bool false), PEq undef, PEq undef, PEq undef, PEq undef, PEq undef, PEq (.bool false), PEq (.bool false), PEq undef, PEq undef, PEq undef, PEq undef, PEq undef] (by kernel_rfl) Z (by kernel_rfl) ⟨PA.mono _ _ _, Zq, Zq, Zq, Zq, Zq, Zq, Zq, Zq, Zq, Zq, Zq, Zq, Zq, Zq, Zq, Zq, Zq, Zq, Zq, Zq, Zq, Zq, Zq, Zq, Zq, Zt⟩ ⟨?_, ?_, ?_, ?_, ?_, ?_, ?_, ?_, ?_, ?_, ?_, ?_, ?_, ?_, ?_, ?_, ?_, ?_, ?_, ?_, ?_, ?_, ?_, ?_, ?_, ?_, Zt⟩ ?_)
  ·
   intro w112 D hS109 hd109
   have hl112 := Le.no M hS109
   exact dg_sub (E' := [(1, (.pointer (some p1)))]) ⟨Z, Zt⟩ (dg_plain Z (ow_fieldAddr Z Z Tryd.underlying128 Z (Tryd.sizeOf3 _) ⟨BX.refl _ _, ⟨_, Z, (ARep.mono hl112 (hp1.fld fld_Test_Field))⟩⟩))
  ·
   intro w113 D hS110 hd110
   have d277 : PA RInt M a_t.Field (D 0) w113 := dpA hd110 0 Z
   obtain ⟨p19, e18, ha18⟩ := d277
   refine dg_sub (E' := [(3, (.pointer (some p19)))]) ⟨congrArg some e18, Zt⟩ (dg_plain Z (ow_load (R := RInt) Z Z ha18 (Tryd.sizeOf3 _) (Tryd.isAgg3 _) fun v27 hv27 => ?_))
   obtain rfl := vint_eq hv27
   exact Zb
  ·
   intro w114 D hS111 hd111
   refine dg_sub (E' := [(4, (Zv a_t.Field))]) ⟨dpE hd111 1 Z Z, Zt⟩ (dg_plain Z (ow_geq Z Z Z fun bb19 hbb19 => ?_))
   obtain rfl := hbb19.trans hc1
   exact Zb
  · exact fun w115 D hS112 hd112 => dg_sub (E' := [(5, (.bool false))]) ⟨dpE hd112 2 Z Z, Zt⟩ (dg_plain Z (ow_move Z Z Zb))
  · exact fun w116 D hS113 hd113 => dg_sub (E' := [(6, (.bool false)), (1, (.pointer (some p1)))]) ⟨dpE hd113 3 Z Z, Z, Zt⟩ (dg_off Z Z Z Z Zb)
  · exact fun w117 D hS114 hd114 => dg_sub (E' := [(7, undef), (6, (.bool false))]) ⟨dpE hd114 4 Z Z, dpE hd114 3 Z Z, Zt⟩ (dg_off Z Z Z Z Zb)
  · exact fun w118 D hS115 hd115 => dg_sub (E' := [(8, undef), (6, (.bool false))]) ⟨dpE hd115 5 Z Z, dpE hd115 3 Z Z, Zt⟩ (dg_off Z Z Z Z Zb)
  · exact fun w119 D hS116 hd116 => dg_sub (E' := [(6, (.bool false)), (9, undef)]) ⟨dpE hd116 3 Z Z, dpE hd116 6 Z Z, Zt⟩ (dg_plain Z (ow_pickF Z Z Z Zb))
  · exact fun w120 D hS117 hd117 => dg_sub (E' := [(10, (.bool false))]) ⟨dpE hd117 7 Z Z, Zt⟩ (dg_plain Z (ow_move Z Z Zb))
  · exact fun w121 D hS118 hd118 => dg_sub (E' := [(11, (.bool false)), (1, (.pointer (some p1)))]) ⟨dpE hd118 8 Z Z, Z, Zt⟩ (dg_off Z Z Z Z Zb)
  · exact fun w122 D hS119 hd119 => dg_sub (E' := [(12, undef), (11, (.bool false))]) ⟨dpE hd119 9 Z Z, dpE hd119 8 Z Z, Zt⟩ (dg_off Z Z Z Z Zb)
  · exact fun w123 D hS120 hd120 => dg_sub (E' := [(13, undef), (11, (.bool false))]) ⟨dpE hd120 10 Z Z, dpE hd120 8 Z Z, Zt⟩ (dg_off Z Z Z Z Zb)
  · exact fun w124 D hS121 hd121 => dg_sub (E' := [(11, (.bool false)), (14, undef)]) ⟨dpE hd121 8 Z Z, dpE hd121 11 Z Z, Zt⟩ (dg_plain Z (ow_pickF Z Z Z Zb))
  · exact fun w125 D hS122 hd122 => dg_sub (E' := [(15, (.bool false))]) ⟨dpE hd122 12 Z Z, Zt⟩ (dg_plain Z (ow_move Z Z Zb))
  · exact fun w126 D hS123 hd123 => dg_sub (E' := [(16, (.bool false)), (1, (.pointer (some p1)))]) ⟨dpE hd123 13 Z Z, Z, Zt⟩ (dg_off Z Z Z Z Zb)
  · exact fun w127 D hS124 hd124 => dg_sub (E' := [(17, undef), (16, (.bool false))]) ⟨dpE hd124 14 Z Z, dpE hd124 13 Z Z, Zt⟩ (dg_off Z Z Z Z Zb)
  · exact fun w128 D hS125 hd125 => dg_sub (E' := [(16, (.bool false)), (1, (.pointer (some p1)))]) ⟨dpE hd125 13 Z Z, Z, Zt⟩ (dg_off Z Z Z Z Zb)
  · exact fun w129 D hS126 hd126 => dg_sub (E' := [(19, undef), (16, (.bool false))]) ⟨dpE hd126 16 Z Z, dpE hd126 13 Z Z, Zt⟩ (dg_off Z Z Z Z Zb)
  · exact fun w130 D hS127 hd127 => dg_sub (E' := [(18, undef), (20, undef), (16, (.bool false))]) ⟨dpE hd127 15 Z Z, dpE hd127 17 Z Z, dpE hd127 13 Z Z, Zt⟩ (dg_off Z Z Z Z Zb)
  · exact fun w131 D hS128 hd128 => dg_sub (E' := [(16, (.bool false)), (21, undef)]) ⟨dpE hd128 13 Z Z, dpE hd128 18 Z Z, Zt⟩ (dg_plain Z (ow_pickF Z Z Z Zb))
  · exact fun w132 D hS129 hd129 => dg_sub (E' := [(22, (.bool false))]) ⟨dpE hd129 19 Z Z, Zt⟩ (dg_plain Z (ow_move Z Z Zb))
  · exact fun w133 D hS130 hd130 => dg_sub (E' := [(23, (.bool false)), (1, (.pointer (some p1)))]) ⟨dpE hd130 20 Z Z, Z, Zt⟩ (dg_off Z Z Z Z Zb)
  · exact fun w134 D hS131 hd131 => dg_sub (E' := [(24, undef), (23, (.bool false))]) ⟨dpE hd131 21 Z Z, dpE hd131 20 Z Z, Zt⟩ (dg_off Z Z Z Z Zb)
  · exact fun w135 D hS132 hd132 => dg_sub (E' := [(23, (.bool false)), (1, (.pointer (some p1)))]) ⟨dpE hd132 20 Z Z, Z, Zt⟩ (dg_off Z Z Z Z Zb)
  · exact fun w136 D hS133 hd133 => dg_sub (E' := [(26, undef), (23, (.bool false))]) ⟨dpE hd133 23 Z Z, dpE hd133 20 Z Z, Zt⟩ (dg_off Z Z Z Z Zb)
  · exact fun w137 D hS134 hd134 => dg_sub (E' := [(27, undef), (23, (.bool false))]) ⟨dpE hd134 24 Z Z, dpE hd134 20 Z Z, Zt⟩ (dg_off Z Z Z Z Zb)
  ·
   intro w138 D hS135 hd135
   have hC138 := hC1.no hS135
   refine lw_sub (E' := [(23, (.bool false)), (25, undef), (28, undef), (1, (.pointer (some p1))), (2, (.bool false))]) ⟨dpE hd135 20 Z Z, dpE hd135 22 Z Z, dpE hd135 25 Z Z, Z, Z, Zt⟩ (lw_off Z Z Z Z Z Z (lw_op Z Z Z (ow_pickF Z Z Z (lw_op Z Z Z (ow_assign Z Z (lw_nil (ew_then (cw_ret ?_))))))))
   obtain rfl := sj h
   exact ew_ret (res1 Z (.tmp Z)) ⟨_, Z, ((vbool _)), hC138.bx⟩

theorem w_impl_TestsValid {w : World} {M : Nat → Prop} (hG : ARep (RArr 4 RShape) w M shapes ⟨0, 0, none⟩) (hO : ∀ b, M b → b < w.heap.size) {v0p : Value} {a_list : List Test} (h0 : VRep (RSlice RTest) w M a_list v0p) {r : Bool} (h : F.impl_TestsValid a_list = some r) :
  Calls Tryd.prog 106 [v0p].toArray w fun e w' => ∃ v, e = .returned v ∧ VRep RBool w' M r v ∧ BX No w w' := by
 have hC : Cx No w M w M := Cx.start hO (fun _ e => e.elim)
 refine walk (N := 18) Tryd.func106 Z Tryd.ntmps106 Z (cw_seq (cw_region (lw_op Z Z Z (ow_assign Z Z (lw_nil (ew_then (cw_seq (cw_seq (cw_region (lw_op Z Z Z (ow_move Z Z (lw_op Z Z Z (ow_len Z Z h0 Tryd.underlying36 Z (lw_op Z Z Z (ow_gtr Z Z Z fun bb1 hbb1 => lw_nil (ew_then ?_))))))))))))))))
 replace h := cond_some h
 rcases h with ⟨hc1, h⟩ | ⟨hc1, h⟩
 ·
  obtain rfl := hbb1.trans hc1
  refine cw_true Z (cw_seq (cw_region (lw_op Z Z Z (ow_assign Z Z (lw_nil (ew_then (cw_ret (ew_thenR ?_))))))))
  obtain rfl := sj h
  exact ew_ret (res1 Z (.tmp Z)) ⟨_, Z, ((vbool _)), hC.bx⟩
 ·
  obtain rfl := hbb1.trans hc1
  refine cw_false Z (cw_skip (ew_then (cw_seq (cw_seq (cw_region (lw_op Z Z Z (ow_move Z Z (lw_op Z Z Z (ow_len Z Z h0 Tryd.underlying36 Z (lw_op Z Z Z (ow_move Z Z (lw_nil (ew_then ?_)))))))))))))
  replace h := bind_some h
  obtain ⟨lr1, hlr1, h⟩ := h
  refine cw_for hlr1 (fun s a w' => ∃ (M' : Nat → Prop), Fits 18 [(8, v0p), (9, (Zv (a_list.length : Int))), (10, (Zv s))] a ∧ Le w M w' M' ∧ Cx No w M w' M') ?_ ?_ ?_
  · exact fun a ha => ⟨M, ha.sub ⟨Z, Z, Z, Zt⟩, Le.refl _ _, hC⟩
  ·
   rintro k1 a w1 sr1 ⟨M1, hF1, hl1, hC1⟩ hb1 hR1
   refine cw_at (E := [(8, v0p), (9, (Zv (a_list.length : Int))), (10, (Zv k1))]) hF1 (cw_seq (cw_region (lw_op Z Z Z (ow_lss Z Z Z fun bb2 hbb2 => lw_nil (ew_then (cw_seq ?_))))))
   replace hb1 := cond_some hb1
   rcases hb1 with ⟨hc2, hb1⟩ | ⟨hc2, hb1⟩
   ·
    obtain rfl := hbb2.trans hc2
    refine cw_true Z (cw_skip (ew_then (cw_seq (cw_block (cw_seq (cw_region ?_))))))
    replace hb1 := bind_some hb1
    obtain ⟨x1, hx1, hb1⟩ := hb1
    refine lw_op Z Z Z (ow_indexSlice (R := RTest) Z Z Z (VRep.mono hl1 h0) Tryd.underlying36 (Tryd.sizeOf128 _) hx1 fun p1 hp1 => lw_op Z Z Z (ow_load (R := RTest) Z Z hp1 (Tryd.sizeOf128 _) (Tryd.isAgg128 _) fun v2 hv2 => lw_allocStore (R := RTest) Z Z Z Z Z Z Z Tryd.zeroValue128 Tryd.sizeOf128 Z Z Z (by simp) hv2 hC1 fun p2 w2 hp2 hb2 hl2 hC2 => lw_nil (ew_then (cw_seq (cw_region (lw_op Z Z Z (ow_load (R := RTest) Z Z hp2 (Tryd.sizeOf128 _) (Tryd.isAgg128 _) fun v3 hv3 => ?_)))))))
    replace hb1 := bind_some hb1
    obtain ⟨x2, hx2, hb1⟩ := hb1
    refine lw_op Z Z Z (ow_call Z Z Tryd.call159 (w_impl_TestValid (hG.mono (hl1.trans hl2)) hC2.old hv3 hx2) fun v4 w3 hv4 => ?_)
    obtain ⟨hv4, hb3⟩ := hv4
    have hl3 := Le.no M1 hb3
    have hC3 := hC2.no hb3
    obtain rfl := vbool_eq hv4
    refine lw_op Z Z Z (ow_not Z Z (lw_nil (ew_then ?_)))
    replace hb1 := cond_some hb1
    rcases hb1 with ⟨hc3, hb1⟩ | ⟨hc3, hb1⟩
    ·
     subst hc3
     refine cw_false Z (cw_skip (ew_blockN (ew_then (cw_region (lw_op Z Z Z (ow_add Z Z Z (lw_op Z Z Z (ow_move Z Z (lw_nil ?_)))))))))
     have lz1 := ((hl1.trans hl2).trans hl3)
     exact ew_nxt (W (k1 + 1)) hb1 fun a ha => ⟨M1, (ha.sub ⟨Z, Z, Z, Zt⟩), lz1, hC3⟩
    ·
     subst hc3
     refine cw_true Z (cw_seq (cw_region (lw_op Z Z Z (ow_assign Z Z (lw_nil (ew_then (cw_ret (ew_blockR (ew_thenR (ew_thenR (ew_blockR (ew_brkR (ew_thenR ?_)))))))))))))
     have e1 := hR1 _ (sj hb1).symm
     subst e1
     obtain rfl := sj h
     exact ew_ret (res1 Z (.tmp Z)) ⟨_, Z, ((vbool _)), hC3.bx⟩
   ·
    obtain rfl := hbb2.trans hc2
    exact cw_false Z (cw_exit (ew_thenX (ew_thenX (ew_blockX (ew_brk k1 hb1 fun a ha => ⟨M1, (ha.sub ⟨Z, Z, Z, Zt⟩), hl1, hC1⟩)))))
  ·
   rintro k2 a w4 hlr2 ⟨M2, hF2, hl4, hC4⟩
   subst hlr2
   refine ew_at (E := [(8, v0p), (9, (Zv (a_list.length : Int))), (10, (Zv k2))]) hF2 (ew_then (cw_seq (cw_region (lw_op Z Z Z (ow_assign Z Z (lw_nil (ew_then (cw_ret ?_))))))))
   obtain rfl := sj h
   exact ew_ret (res1 Z (.tmp Z)) ⟨_, Z, ((vbool _)), hC4.bx⟩

theorem w_impl_RuleValid {w : World} {M : Nat → Prop} (hG : ARep (RArr 4 RShape) w M shapes ⟨0, 0, none⟩) (hO : ∀ b, M b → b < w.heap.size) {v0p : Value} {a_r : Rule} (h0 : VRep RRule w M a_r v0p) {r : Bool} (h : F.impl_RuleValid a_r = some r) :
  Calls Tryd.prog 174 [v0p].toArray w fun e w' => ∃ v, e = .returned v ∧ VRep RBool w' M r v ∧ BX No w w' := by
 have hC : Cx No w M w M := Cx.start hO (fun _ e => e.elim)
 refine walk (N := 27) Tryd.func174 Z Tryd.ntmps174 Z (cw_seq (cw_region (lw_op Z Z Z (ow_box (R := RRule) Z Z h0 hC fun p1 w1 hp1 hb1 hl1 hC1 => lw_op Z Z Z (ow_assign Z Z (lw_nil (ew_then (cw_seq (cw_seq (cw_region (lw_op Z Z Z (ow_fieldAddr Z Z Tryd.underlying38 Z (Tryd.sizeOf36 _) (lw_op Z Z Z (ow_load (R := (RSlice RTest)) Z Z (hp1.fld fld_Rule_Tests) (Tryd.sizeOf36 _) (Tryd.isAgg36 _) fun v1 hv1 => ?_))))))))))))))
 replace h := bind_some h
 obtain ⟨x1, hx1, h⟩ := h
 refine lw_op Z Z Z (ow_call Z Z Tryd.call106 (w_impl_TestsValid (hG.mono hl1) hC1.old hv1 hx1) fun v2 w2 hv2 => ?_)
 obtain ⟨hv2, hb2⟩ := hv2
 have hl2 := Le.no M hb2
 have hC2 := hC1.no hb2
 obtain rfl := vbool_eq hv2
 refine lw_op Z Z Z (ow_not Z Z (lw_nil (ew_then ?_)))
 replace h := cond_some h
 rcases h with ⟨hc1, h⟩ | ⟨hc1, h⟩
 ·
  subst hc1
  refine cw_false Z (cw_skip (ew_then (cw_seq (cw_seq (cw_region (lw_op Z Z Z (ow_fieldAddr Z Z Tryd.underlying38 Z (Tryd.sizeOf3 _) (lw_op Z Z Z (ow_load (R := RInt) Z Z (ARep.mono hl2 (hp1.fld fld_Rule_Action)) (Tryd.sizeOf3 _) (Tryd.isAgg3 _) fun v3 hv3 => ?_)))))))))
  obtain rfl := vint_eq hv3
  refine lw_nil (ew_then (cw_block (cw_seq (cw_region (lw_op Z Z Z (ow_eqlI Z Z Z fun bb1 hbb1 => lw_op Z Z Z (ow_assign Z Z (lw_nil (ew_then ?_)))))))))
  replace h := cond_some h
  rcases h with ⟨hc2, h⟩ | ⟨hc2, h⟩
  ·
   obtain rfl := hbb1.trans hc2
   refine cw_true Z (cw_seq (cw_region (lw_op Z Z Z (ow_fieldAddr Z Z Tryd.underlying38 Z (Tryd.sizeOf3 _) (lw_op Z Z Z (ow_load (R := RInt) Z Z (ARep.mono hl2 (hp1.fld fld_Rule_Chain)) (Tryd.sizeOf3 _) (Tryd.isAgg3 _) fun v4 hv4 => ?_))))))
   obtain rfl := vint_eq hv4
   refine lw_op Z Z Z (ow_geq Z Z Z fun bb2 hbb2 => lw_op Z Z Z (ow_move Z Z ?_))
   replace h := cond_some h
   rcases h with ⟨hc3, h⟩ | ⟨hc3, h⟩
   ·
    obtain rfl := hbb2.trans hc3
    refine lw_on Z Z Z Z Z Z (ow_fieldAddr Z Z Tryd.underlying38 Z (Tryd.sizeOf3 _) (lw_on Z Z Z Z Z Z (ow_load (R := RInt) Z Z (ARep.mono hl2 (hp1.fld fld_Rule_Chain)) (Tryd.sizeOf3 _) (Tryd.isAgg3 _) fun v5 hv5 => ?_)))
    obtain rfl := vint_eq hv5
    refine lw_on Z Z Z Z Z Z (ow_lss Z Z Z fun bb3 hbb3 => lw_op Z Z Z (ow_pickT Z Z Z (lw_op Z Z Z (ow_assign Z Z (lw_nil (ew_then (cw_ret (ew_blockR (ew_thenR ?_)))))))))
    obtain rfl := sj h
    exact ew_ret (res1 Z (.tmp Z)) ⟨_, Z, ((vbool_of hbb3)), hC2.bx⟩
   ·
    obtain rfl := hbb2.trans hc3
    refine lw_off Z Z Z Z Z Z (lw_off Z Z Z Z Z Z (lw_off Z Z Z Z Z Z (lw_op Z Z Z (ow_pickF Z Z Z (lw_op Z Z Z (ow_assign Z Z (lw_nil (ew_then (cw_ret (ew_blockR (ew_thenR ?_)))))))))))
    obtain rfl := sj h
    exact ew_ret (res1 Z (.tmp Z)) ⟨_, Z, ((vbool _)), hC2.bx⟩
  ·
   obtain rfl := hbb1.trans hc2
   refine cw_false Z (cw_seq (cw_seq (cw_region (lw_op Z Z Z (ow_eqlI Z Z Z fun bb4 hbb4 => lw_op Z Z Z (ow_assign Z Z (lw_nil (ew_then ?_))))))))
   replace h := cond_some h
   rcases h with ⟨hc4, h⟩ | ⟨hc4, h⟩
   ·
    obtain rfl := hbb4.trans hc4
    refine cw_true Z (cw_skip (ew_then (cw_true Z (cw_seq (cw_region (lw_op Z Z Z (ow_fieldAddr Z Z Tryd.underlying38 Z (Tryd.sizeOf3 _) (lw_op Z Z Z (ow_load (R := RInt) Z Z (ARep.mono hl2 (hp1.fld fld_Rule_Chain)) (Tryd.sizeOf3 _) (Tryd.isAgg3 _) fun v6 hv6 => ?_)))))))))
    obtain rfl := vint_eq hv6
    refine lw_op Z Z Z (ow_eqlI Z Z Z fun bb5 hbb5 => lw_op Z Z Z (ow_assign Z Z (lw_nil (ew_then (cw_ret (ew_blockR (ew_thenR ?_)))))))
    obtain rfl := sj h
    exact ew_ret (res1 Z (.tmp Z)) ⟨_, Z, ((vbool_of hbb5)), hC2.bx⟩
   ·
    obtain rfl := hbb4.trans hc4
    refine cw_false Z (cw_seq (cw_region (lw_op Z Z Z (ow_eqlI Z Z Z fun bb6 hbb6 => lw_op Z Z Z (ow_assign Z Z (lw_nil (ew_then ?_)))))))
    replace h := cond_some h
    rcases h with ⟨hc5, h⟩ | ⟨hc5, h⟩
    ·
     obtain rfl := hbb6.trans hc5
     refine cw_true Z (cw_skip (ew_then (cw_true Z (cw_seq (cw_region (lw_op Z Z Z (ow_fieldAddr Z Z Tryd.underlying38 Z (Tryd.sizeOf3 _) (lw_op Z Z Z (ow_load (R := RInt) Z Z (ARep.mono hl2 (hp1.fld fld_Rule_Chain)) (Tryd.sizeOf3 _) (Tryd.isAgg3 _) fun v7 hv7 => ?_)))))))))
     obtain rfl := vint_eq hv7
     refine lw_op Z Z Z (ow_eqlI Z Z Z fun bb7 hbb7 => lw_op Z Z Z (ow_assign Z Z (lw_nil (ew_then (cw_ret (ew_blockR (ew_thenR ?_)))))))
     obtain rfl := sj h
     exact ew_ret (res1 Z (.tmp Z)) ⟨_, Z, ((vbool_of hbb7)), hC2.bx⟩
    ·
     obtain rfl := hbb6.trans hc5
     refine cw_false Z (cw_seq (cw_region (lw_op Z Z Z (ow_eqlI Z Z Z fun bb8 hbb8 => lw_op Z Z Z (ow_assign Z Z (lw_nil (ew_then ?_)))))))
     replace h := cond_some h
     rcases h with ⟨hc6, h⟩ | ⟨hc6, h⟩
     ·
      obtain rfl := hbb8.trans hc6
      refine cw_true Z (cw_skip (ew_then (cw_true Z (cw_seq (cw_region (lw_op Z Z Z (ow_fieldAddr Z Z Tryd.underlying38 Z (Tryd.sizeOf3 _) (lw_op Z Z Z (ow_load (R := RInt) Z Z (ARep.mono hl2 (hp1.fld fld_Rule_Chain)) (Tryd.sizeOf3 _) (Tryd.isAgg3 _) fun v8 hv8 => ?_)))))))))
      obtain rfl := vint_eq hv8
      refine lw_op Z Z Z (ow_eqlI Z Z Z fun bb9 hbb9 => lw_op Z Z Z (ow_assign Z Z (lw_nil (ew_then (cw_ret (ew_blockR (ew_thenR ?_)))))))
      obtain rfl := sj h
      exact ew_ret (res1 Z (.tmp Z)) ⟨_, Z, ((vbool_of hbb9)), hC2.bx⟩
     ·
      obtain rfl := hbb8.trans hc6
      refine cw_false Z (cw_region (lw_op Z Z Z (ow_eqlI Z Z Z fun bb10 hbb10 => lw_op Z Z Z (ow_assign Z Z (lw_nil (ew_then ?_))))))
      replace h := cond_some h
      rcases h with ⟨hc7, h⟩ | ⟨hc7, h⟩
      ·
       obtain rfl := hbb10.trans hc7
       refine cw_true Z (cw_seq (cw_region (lw_op Z Z Z (ow_fieldAddr Z Z Tryd.underlying38 Z (Tryd.sizeOf3 _) (lw_op Z Z Z (ow_load (R := RInt) Z Z (ARep.mono hl2 (hp1.fld fld_Rule_Chain)) (Tryd.sizeOf3 _) (Tryd.isAgg3 _) fun v9 hv9 => ?_))))))
       obtain rfl := vint_eq hv9
       refine lw_op Z Z Z (ow_eqlI Z Z Z fun bb11 hbb11 => lw_op Z Z Z (ow_assign Z Z (lw_nil (ew_then (cw_ret (ew_blockR (ew_thenR ?_)))))))
       obtain rfl := sj h
       exact ew_ret (res1 Z (.tmp Z)) ⟨_, Z, ((vbool_of hbb11)), hC2.bx⟩
      ·
       obtain rfl := hbb10.trans hc7
       refine cw_false Z (cw_skip (ew_blockN (ew_then (cw_seq (cw_region (lw_op Z Z Z (ow_assign Z Z (lw_nil (ew_then (cw_ret ?_))))))))))
       obtain rfl := sj h
       exact ew_ret (res1 Z (.tmp Z)) ⟨_, Z, ((vbool _)), hC2.bx⟩
 ·
  subst hc1
  refine cw_true Z (cw_seq (cw_region (lw_op Z Z Z (ow_assign Z Z (lw_nil (ew_then (cw_ret (ew_thenR ?_))))))))
  obtain rfl := sj h
  exact ew_ret (res1 Z (.tmp Z)) ⟨_, Z, ((vbool _)), hC2.bx⟩

theorem w_impl_RulesValid {w : World} {M : Nat → Prop} (hG : ARep (RArr 4 RShape) w M shapes ⟨0, 0, none⟩) (hO : ∀ b, M b → b < w.heap.size) {v0p : Value} {a_list : List Rule} (h0 : VRep (RSlice RRule) w M a_list v0p) {r : Bool} (h : F.impl_RulesValid a_list = some r) :
  Calls Tryd.prog 139 [v0p].toArray w fun e w' => ∃ v, e = .returned v ∧ VRep RBool w' M r v ∧ BX No w w' := by
 have hC : Cx No w M w M := Cx.start hO (fun _ e => e.elim)
 refine walk (N := 18) Tryd.func139 Z Tryd.ntmps139 Z (cw_seq (cw_region (lw_op Z Z Z (ow_assign Z Z (lw_nil (ew_then (cw_seq (cw_seq (cw_region (lw_op Z Z Z (ow_move Z Z (lw_op Z Z Z (ow_len Z Z h0 Tryd.underlying39 Z (lw_op Z Z Z (ow_gtr Z Z Z fun bb1 hbb1 => lw_nil (ew_then ?_))))))))))))))))
 replace h := cond_some h
 rcases h with ⟨hc1, h⟩ | ⟨hc1, h⟩
 ·
  obtain rfl := hbb1.trans hc1
  refine cw_true Z (cw_seq (cw_region (lw_op Z Z Z (ow_assign Z Z (lw_nil (ew_then (cw_ret (ew_thenR ?_))))))))
  obtain rfl := sj h
  exact ew_ret (res1 Z (.tmp Z)) ⟨_, Z, ((vbool _)), hC.bx⟩
 ·
  obtain rfl := hbb1.trans hc1
  refine cw_false Z (cw_skip (ew_then (cw_seq (cw_seq (cw_region (lw_op Z Z Z (ow_move Z Z (lw_op Z Z Z (ow_len Z Z h0 Tryd.underlying39 Z (lw_op Z Z Z (ow_move Z Z (lw_nil (ew_then ?_)))))))))))))
  replace h := bind_some h
  obtain ⟨lr1, hlr1, h⟩ := h
  refine cw_for hlr1 (fun s a w' => ∃ (M' : Nat → Prop), Fits 18 [(8, v0p), (9, (Zv (a_list.length : Int))), (10, (Zv s))] a ∧ Le w M w' M' ∧ Cx No w M w' M') ?_ ?_ ?_
  · exact fun a ha => ⟨M, ha.sub ⟨Z, Z, Z, Zt⟩, Le.refl _ _, hC⟩
  ·
   rintro k1 a w1 sr1 ⟨M1, hF1, hl1, hC1⟩ hb1 hR1
   refine cw_at (E := [(8, v0p), (9, (Zv (a_list.length : Int))), (10, (Zv k1))]) hF1 (cw_seq (cw_region (lw_op Z Z Z (ow_lss Z Z Z fun bb2 hbb2 => lw_nil (ew_then (cw_seq ?_))))))
   replace hb1 := cond_some hb1
   rcases hb1 with ⟨hc2, hb1⟩ | ⟨hc2, hb1⟩
   ·
    obtain rfl := hbb2.trans hc2
    refine cw_true Z (cw_skip (ew_then (cw_seq (cw_block (cw_seq (cw_region ?_))))))
    replace hb1 := bind_some hb1
    obtain ⟨x1, hx1, hb1⟩ := hb1
    refine lw_op Z Z Z (ow_indexSlice (R := RRule) Z Z Z (VRep.mono hl1 h0) Tryd.underlying39 (Tryd.sizeOf38 _) hx1 fun p1 hp1 => lw_op Z Z Z (ow_load (R := RRule) Z Z hp1 (Tryd.sizeOf38 _) (Tryd.isAgg38 _) fun v2 hv2 => lw_allocStore (R := RRule) Z Z Z Z Z Z Z Tryd.zeroValue38 Tryd.sizeOf38 Z Z Z (by simp) hv2 hC1 fun p2 w2 hp2 hb2 hl2 hC2 => lw_nil (ew_then (cw_seq (cw_region (lw_op Z Z Z (ow_load (R := RRule) Z Z hp2 (Tryd.sizeOf38 _) (Tryd.isAgg38 _) fun v3 hv3 => ?_)))))))
    replace hb1 := bind_some hb1
    obtain ⟨x2, hx2, hb1⟩ := hb1
    refine lw_op Z Z Z (ow_call Z Z Tryd.call174 (w_impl_RuleValid (hG.mono (hl1.trans hl2)) hC2.old hv3 hx2) fun v4 w3 hv4 => ?_)
    obtain ⟨hv4, hb3⟩ := hv4
    have hl3 := Le.no M1 hb3
    have hC3 := hC2.no hb3
    obtain rfl := vbool_eq hv4
    refine lw_op Z Z Z (ow_not Z Z (lw_nil (ew_then ?_)))
    replace hb1 := cond_some hb1
    rcases hb1 with ⟨hc3, hb1⟩ | ⟨hc3, hb1⟩
    ·
     subst hc3
     refine cw_false Z (cw_skip (ew_blockN (ew_then (cw_region (lw_op Z Z Z (ow_add Z Z Z (lw_op Z Z Z (ow_move Z Z (lw_nil ?_)))))))))
     have lz1 := ((hl1.trans hl2).trans hl3)
     exact ew_nxt (W (k1 + 1)) hb1 fun a ha => ⟨M1, (ha.sub ⟨Z, Z, Z, Zt⟩), lz1, hC3⟩
    ·
     subst hc3
     refine cw_true Z (cw_seq (cw_region (lw_op Z Z Z (ow_assign Z Z (lw_nil (ew_then (cw_ret (ew_blockR (ew_thenR (ew_thenR (ew_blockR (ew_brkR (ew_thenR ?_)))))))))))))
     have e1 := hR1 _ (sj hb1).symm
     subst e1
     obtain rfl := sj h
     exact ew_ret (res1 Z (.tmp Z)) ⟨_, Z, ((vbool _)), hC3.bx⟩
   ·
    obtain rfl := hbb2.trans hc2
    exact cw_false Z (cw_exit (ew_thenX (ew_thenX (ew_blockX (ew_brk k1 hb1 fun a ha => ⟨M1, (ha.sub ⟨Z, Z, Z, Zt⟩), hl1, hC1⟩)))))
  ·
   rintro k2 a w4 hlr2 ⟨M2, hF2, hl4, hC4⟩
   subst hlr2
   refine ew_at (E := [(8, v0p), (9, (Zv (a_list.length : Int))), (10, (Zv k2))]) hF2 (ew_then (cw_seq (cw_region (lw_op Z Z Z (ow_assign Z Z (lw_nil (ew_then (cw_ret ?_))))))))
   obtain rfl := sj h
   exact ew_ret (res1 Z (.tmp Z)) ⟨_, Z, ((vbool _)), hC4.bx⟩

theorem w_impl_visitCalls (n_ : Nat) : ∀ {w : World} {M : Nat → Prop} (hG : ARep (RArr 4 RShape) w M shapes ⟨0, 0, none⟩) (hO : ∀ b, M b → b < w.heap.size) {v0p : Value} {a_chains : List (List Rule)} (h0 : VRep (RSlice (RSlice RRule)) w M a_chains v0p) {a_chain : Int} {g : Nat} {a_colours : List Int} (hown : OwnA (RArr 5 RInt) w M g 122 a_colours) (hgM : M g) {r : Bool × (List Int)} (h : F.impl_visitCalls n_ a_chains a_chain a_colours = some r),
  Calls Tryd.prog 85 [v0p, (.int .i64 a_chain), (.pointer (some ⟨g, 0, none⟩))].toArray w fun e w' => ∃ v, e = .returned v ∧ (VRep RBool w' M r.1 v ∧ OwnA (RArr 5 RInt) w' M g 122 r.2) ∧ BX (One g) w w' := by
 induction n_ with
 | zero =>
  intro w M hG hO v0p a_chains h0 a_chain g a_colours hown hgM r h
  exact (Option.some_ne_none _ (show (none : Option (Bool × (List Int))) = some r from h).symm).elim
 | succ n_ ih =>
 intro w M hG hO v0p a_chains h0 a_chain g a_colours hown hgM r h
 have hX : ∀ b, (One g) b → M b := fun b e => e ▸ hgM
 have hC : Cx (One g) w M w M := Cx.start hO hX
 refine walk (N := 48) Tryd.func85 Z Tryd.ntmps85 Z (cw_seq (cw_region (lw_op Z Z Z (ow_assign Z Z (lw_nil (ew_then (cw_seq (cw_seq (cw_region (lw_op Z Z Z (ow_move Z Z (lw_op Z Z Z (ow_move Z Z (lw_op Z Z Z (ow_len Z Z h0 Tryd.underlying23 Z (lw_op Z Z Z (ow_geq Z Z Z fun bb1 hbb1 => lw_nil (ew_then ?_))))))))))))))))))
 replace h := cond_some h
 rcases h with ⟨hc1, h⟩ | ⟨hc1, h⟩
 ·
  obtain rfl := hbb1.trans hc1
  refine cw_true Z (cw_seq (cw_region (lw_op Z Z Z (ow_assign Z Z (lw_nil (ew_then (cw_ret (ew_thenR ?_))))))))
  obtain rfl := sj h
  exact ew_ret (res1 Z (.tmp Z)) ⟨_, Z, ⟨((vbool _)), (hown.mono hC.back)⟩, hC.bx⟩
 ·
  obtain rfl := hbb1.trans hc1
  refine cw_false Z (cw_skip (ew_then (cw_seq (cw_seq (cw_region (lw_op Z Z Z (ow_move Z Z (lw_op Z Z Z (ow_move Z Z (lw_op Z Z Z (ow_nilCheck Z Z ?_)))))))))))
  replace h := bind_some h
  obtain ⟨x1, hx1, h⟩ := h
  refine lw_op Z Z Z (ow_indexA (R := RInt) Z Z Z Z hown Tryd.underlying122 (Tryd.sizeOf3 _) hx1 (lw_op Z Z Z (ow_loadElA (R := RInt) Z Z Z hown hx1 (Tryd.sizeOf3 _) (Tryd.isAgg3 _) fun v1 hv1 => ?_)))
  obtain rfl := vint_eq hv1
  refine lw_nil (ew_then (cw_block (cw_seq (cw_region (lw_op Z Z Z (ow_eqlI Z Z Z fun bb2 hbb2 => lw_op Z Z Z (ow_assign Z Z (lw_nil (ew_then ?_)))))))))
  replace h := cond_some h
  rcases h with ⟨hc2, h⟩ | ⟨hc2, h⟩
  ·
   obtain rfl := hbb2.trans hc2
   refine cw_true Z (cw_seq (cw_region (lw_op Z Z Z (ow_assign Z Z (lw_nil (ew_then (cw_ret (ew_blockR (ew_thenR ?_)))))))))
   obtain rfl := sj h
   exact ew_ret (res1 Z (.tmp Z)) ⟨_, Z, ⟨((vbool _)), (hown.mono hC.back)⟩, hC.bx⟩
  ·
   obtain rfl := hbb2.trans hc2
   refine cw_false Z (cw_seq (cw_region (lw_op Z Z Z (ow_eqlI Z Z Z fun bb3 hbb3 => lw_op Z Z Z (ow_assign Z Z (lw_nil (ew_then ?_)))))))
   replace h := cond_some h
   rcases h with ⟨hc3, h⟩ | ⟨hc3, h⟩
   ·
    obtain rfl := hbb3.trans hc3
    refine cw_true Z (cw_seq (cw_region (lw_op Z Z Z (ow_assign Z Z (lw_nil (ew_then (cw_ret (ew_blockR (ew_thenR ?_)))))))))
    obtain rfl := sj h
    exact ew_ret (res1 Z (.tmp Z)) ⟨_, Z, ⟨((vbool _)), (hown.mono hC.back)⟩, hC.bx⟩
   ·
    obtain rfl := hbb3.trans hc3
    refine cw_false Z (cw_skip (ew_blockN (ew_then (cw_seq (cw_region (lw_op Z Z Z (ow_move Z Z (lw_op Z Z Z (ow_move Z Z (lw_op Z Z Z (ow_nilCheck Z Z (lw_op Z Z Z (ow_indexA (R := RInt) Z Z Z Z hown Tryd.underlying122 (Tryd.sizeOf3 _) hx1 (lw_op0 Z Z (ow_storeElA (X := (One g)) (R := RInt) Z Z Z Z hown hx1 (Tryd.sizeOf3 _) (vint _) hgM (.inr Z) hC fun w1 ho1 hb1 hl1 hC1 => lw_nil (ew_then (cw_seq (cw_region (lw_op Z Z Z (ow_assign Z Z (lw_nil (ew_then (cw_seq (cw_seq (cw_region (lw_op Z Z Z (ow_move Z Z (lw_op Z Z Z (ow_move Z Z ?_)))))))))))))))))))))))))))))
    replace h := bind_some h
    obtain ⟨x2, hx2, h⟩ := h
    refine lw_op Z Z Z (ow_indexSlice (R := (RSlice RRule)) Z Z Z (VRep.mono hl1 h0) Tryd.underlying23 (Tryd.sizeOf39 _) hx2 fun p1 hp1 => lw_op Z Z Z (ow_load (R := (RSlice RRule)) Z Z hp1 (Tryd.sizeOf39 _) (Tryd.isAgg39 _) fun v2 hv2 => ?_))
    replace h := bind_some h
    obtain ⟨x3, hx3, h⟩ := h
    refine lw_op Z Z Z (ow_call Z Z Tryd.call120 (w_impl_callsIn (hG.mono hl1) hC1.old hv2 hx3) fun v3 w2 hv3 => ?_)
    obtain ⟨hv3, hb2⟩ := hv3
    have hl2 := Le.no M hb2
    have hC2 := hC1.no hb2
    have ho2 := ho1.no hb2 hl2
    refine lw_op Z Z Z (ow_len Z Z hv3 Tryd.underlying34 Z (lw_op Z Z Z (ow_move Z Z (lw_nil (ew_then ?_)))))
    replace h := bind_some h
    obtain ⟨lr1, hlr1, h⟩ := h
    refine cw_for hlr1 (fun s a w' => ∃ (M' : Nat → Prop), Fits 48 [(0, v0p), (1, (Zv a_chain)), (2, (Zw g 0)), (7, (.bool s.1)), (31, v3), (32, (Zv (x3.length : Int))), (33, (Zv s.2.1))] a ∧ Le w2 M w' M' ∧ Cx (One g) w M w' M' ∧ OwnA (RArr 5 RInt) w' M' g 122 s.2.2 ∧ M' g) ?_ ?_ ?_
    · exact fun a ha => ⟨M, ha.sub ⟨Z, Z, Z, Z, Z, Z, Z, Zt⟩, Le.refl _ _, hC2, ho2, hgM⟩
    ·
     rintro ⟨y1, k1, y2⟩ a w3 sr1 ⟨M1, hF1, hl3, hC3, ho3, hm1⟩ hb3 hR1
     refine cw_at (E := [(0, v0p), (1, (Zv a_chain)), (2, (Zw g 0)), (7, (.bool y1)), (31, v3), (32, (Zv (x3.length : Int))), (33, (Zv k1))]) hF1 (cw_seq (cw_region (lw_op Z Z Z (ow_lss Z Z Z fun bb4 hbb4 => lw_nil (ew_then (cw_seq ?_))))))
     replace hb3 := cond_some hb3
     rcases hb3 with ⟨hc4, hb3⟩ | ⟨hc4, hb3⟩
     ·
      obtain rfl := hbb4.trans hc4
      refine cw_true Z (cw_skip (ew_then (cw_seq (cw_block (cw_seq (cw_region ?_))))))
      replace hb3 := bind_some hb3
      obtain ⟨x4, hx4, hb3⟩ := hb3
      refine lw_op Z Z Z (ow_indexSlice (R := RInt) Z Z Z (VRep.mono hl3 hv3) Tryd.underlying34 (Tryd.sizeOf3 _) hx4 fun p2 hp2 => lw_op Z Z Z (ow_load (R := RInt) Z Z hp2 (Tryd.sizeOf3 _) (Tryd.isAgg3 _) fun v7 hv7 => ?_))
      obtain rfl := vint_eq hv7
      refine lw_op Z Z Z (ow_assign Z Z (lw_nil (ew_then (cw_seq (cw_region (lw_op Z Z Z (ow_move Z Z (lw_op Z Z Z (ow_move Z Z (lw_op Z Z Z (ow_move Z Z ?_)))))))))))
      have lz1 := ((hl1.trans hl2).trans hl3)
      replace hb3 := bind_some hb3
      obtain ⟨x5, hx5, hb3⟩ := hb3
      refine lw_op Z Z Z (ow_call Z Z Tryd.call85 (ih (hG.mono lz1) hC3.old (VRep.mono lz1 h0) ho3 hm1 hx5) fun v8 w4 hv8 => ?_)
      obtain ⟨⟨hv8, ho4⟩, hb4⟩ := hv8
      have hl4 := Le.of_bx M1 hb4 (fun b e => (by rw [show b = g from e]; exact hm1))
      have hC4 := hC3.go hb4 (fun b e => Or.inr e)
      obtain ⟨bb5, hbb5, rfl⟩ := vbool_ex hv8
      refine lw_op Z Z Z (ow_not Z Z (lw_nil (ew_then ?_)))
      replace hb3 := cond_some hb3
      rcases hb3 with ⟨hc5, hb3⟩ | ⟨hc5, hb3⟩
      ·
       obtain rfl := hbb5.trans hc5
       exact cw_false Z (cw_skip (ew_blockN (ew_then (cw_region (lw_op Z Z Z (ow_add Z Z Z (lw_op Z Z Z (ow_move Z Z (lw_nil (ew_nxt (y1, (W (k1 + 1)), x5.2) hb3 fun a ha => ⟨M1, (ha.sub ⟨Z, Z, Z, Z, Z, Z, Z, Zt⟩), (hl3.trans hl4), hC4, ho4, hm1⟩))))))))))
      ·
       obtain rfl := hbb5.trans hc5
       exact cw_true Z (cw_region (lw_op Z Z Z (ow_assign Z Z (lw_nil (ew_blockN (ew_then (cw_region (lw_op Z Z Z (ow_add Z Z Z (lw_op Z Z Z (ow_move Z Z (lw_nil (ew_nxt (false, (W (k1 + 1)), x5.2) hb3 fun a ha => ⟨M1, (ha.sub ⟨Z, Z, Z, Z, Z, Z, Z, Zt⟩), (hl3.trans hl4), hC4, ho4, hm1⟩)))))))))))))
     ·
      obtain rfl := hbb4.trans hc4
      exact cw_false Z (cw_exit (ew_thenX (ew_thenX (ew_blockX (ew_brk (y1, k1, y2) hb3 fun a ha => ⟨M1, (ha.sub ⟨Z, Z, Z, Z, Z, Z, Z, Zt⟩), hl3, hC3, ho3, hm1⟩)))))
    ·
     rintro ⟨y3, k2, y4⟩ a w5 hlr2 ⟨M2, hF2, hl5, hC5, ho5, hm2⟩
     subst hlr2
     refine ew_at (E := [(0, v0p), (1, (Zv a_chain)), (2, (Zw g 0)), (7, (.bool y3)), (31, v3), (32, (Zv (x3.length : Int))), (33, (Zv k2))]) hF2 (ew_then (cw_seq (cw_region (lw_op Z Z Z (ow_move Z Z (lw_op Z Z Z (ow_move Z Z (lw_op Z Z Z (ow_nilCheck Z Z ?_)))))))))
     replace h := bind_some h
     obtain ⟨x6, hx6, h⟩ := h
     refine lw_op Z Z Z (ow_indexA (R := RInt) Z Z Z Z ho5 Tryd.underlying122 (Tryd.sizeOf3 _) hx6 (lw_op0 Z Z (ow_storeElA (X := (One g)) (R := RInt) Z Z Z Z ho5 hx6 (Tryd.sizeOf3 _) (vint _) hm2 (.inr Z) hC5 fun w6 ho6 hb5 hl6 hC6 => lw_nil (ew_then (cw_seq (cw_region (lw_op Z Z Z (ow_move Z Z (lw_op Z Z Z (ow_assign Z Z (lw_nil (ew_then (cw_ret ?_)))))))))))))
     obtain rfl := sj h
     exact ew_ret (res1 Z (.tmp Z)) ⟨_, Z, ⟨((vbool _)), (ho6.mono hC6.back)⟩, hC6.bx⟩

theorem w_impl_acyclic {w : World} {M : Nat → Prop} (hG : ARep (RArr 4 RShape) w M shapes ⟨0, 0, none⟩) (hO : ∀ b, M b → b < w.heap.size) {v0p : Value} {a_chains : List (List Rule)} (h0 : VRep (RSlice (RSlice RRule)) w M a_chains v0p) {r : Bool} (h : F.impl_acyclic a_chains = some r) :
  Calls Tryd.prog 140 [v0p].toArray w fun e w' => ∃ v, e = .returned v ∧ VRep RBool w' M r v ∧ BX No w w' := by
 have hC : Cx No w M w M := Cx.start hO (fun _ e => e.elim)
 refine walk (N := 15) Tryd.func140 Z Tryd.ntmps140 Z (cw_seq (cw_region (lw_op Z Z Z (ow_assign Z Z (lw_nil (ew_then (cw_seq (cw_region (lw_op Z Z Z (ow_alloc Z (Tryd.zeroValue122 _) hC fun g1 w1 hg1 hg2 ho1 hb1 hl1 hC1 => ?_))))))))))
 have hm1 : (Add g1 M) g1 := .inl Z
 have ho2 : OwnA (RArr 5 RInt) w1 (Add g1 M) g1 122 [0, 0, 0, 0, 0] := OwnA.of ho1 ⟨Z, ⟨_, _, Z, (vint _).cells, _, _, Z, (vint _).cells, _, _, Z, (vint _).cells, _, _, Z, (vint _).cells, _, _, Z, (vint _).cells, Z⟩⟩
 refine lw_nil (ew_then (cw_seq (cw_seq (cw_region (lw_op Z Z Z (ow_move Z Z (lw_op Z Z Z (ow_len Z Z (VRep.mono hl1 h0) Tryd.underlying23 Z (lw_op Z Z Z (ow_move Z Z (lw_nil (ew_then ?_))))))))))))
 replace h := bind_some h
 obtain ⟨lr1, hlr1, h⟩ := h
 refine cw_for hlr1 (fun s a w' => ∃ (M' : Nat → Prop), Fits 15 [(0, v0p), (3, (Zw g1 0)), (6, (Zv (a_chains.length : Int))), (7, (Zv s.1))] a ∧ Le w1 (Add g1 M) w' M' ∧ Cx No w M w' M' ∧ OwnA (RArr 5 RInt) w' M' g1 122 s.2 ∧ M' g1) ?_ ?_ ?_
 · exact fun a ha => ⟨(Add g1 M), ha.sub ⟨Z, Z, Z, Z, Zt⟩, Le.refl _ _, hC1, ho2, hm1⟩
 ·
  rintro ⟨k1, y1⟩ a w2 sr1 ⟨M1, hF1, hl2, hC2, ho3, hm2⟩ hb2 hR1
  refine cw_at (E := [(0, v0p), (3, (Zw g1 0)), (6, (Zv (a_chains.length : Int))), (7, (Zv k1))]) hF1 (cw_seq (cw_region (lw_op Z Z Z (ow_lss Z Z Z fun bb1 hbb1 => lw_nil (ew_then (cw_seq ?_))))))
  replace hb2 := cond_some hb2
  rcases hb2 with ⟨hc1, hb2⟩ | ⟨hc1, hb2⟩
  ·
   obtain rfl := hbb1.trans hc1
   refine cw_true Z (cw_skip (ew_then (cw_seq (cw_block (cw_seq (cw_region (lw_op Z Z Z (ow_move Z Z (lw_op Z Z Z (ow_assign Z Z (lw_nil (ew_then (cw_seq (cw_region (lw_op Z Z Z (ow_move Z Z (lw_op Z Z Z (ow_move Z Z ?_))))))))))))))))))
   replace hb2 := bind_some hb2
   obtain ⟨x1, hx1, hb2⟩ := hb2
   refine lw_op Z Z Z (ow_call Z Z Tryd.call85 (w_impl_visitCalls 10 (hG.mono (hl1.trans hl2)) hC2.old (VRep.mono (hl1.trans hl2) h0) ho3 hm2 hx1) fun v3 w3 hv3 => ?_)
   obtain ⟨⟨hv3, ho4⟩, hb3⟩ := hv3
   have hl3 := Le.of_bx M1 hb3 (fun b e => (by rw [show b = g1 from e]; exact hm2))
   have hC3 := hC2.go hb3 (fun b e => (by rw [show b = g1 from e]; exact (.inl hg2)))
   obtain ⟨bb2, hbb2, rfl⟩ := vbool_ex hv3
   refine lw_op Z Z Z (ow_not Z Z (lw_nil (ew_then ?_)))
   replace hb2 := cond_some hb2
   rcases hb2 with ⟨hc2, hb2⟩ | ⟨hc2, hb2⟩
   ·
    obtain rfl := hbb2.trans hc2
    exact cw_false Z (cw_skip (ew_blockN (ew_then (cw_region (lw_op Z Z Z (ow_add Z Z Z (lw_op Z Z Z (ow_move Z Z (lw_nil (ew_nxt ((W (k1 + 1)), x1.2) hb2 fun a ha => ⟨M1, (ha.sub ⟨Z, Z, Z, Z, Zt⟩), (hl2.trans hl3), hC3, ho4, hm2⟩))))))))))
   ·
    obtain rfl := hbb2.trans hc2
    refine cw_true Z (cw_seq (cw_region (lw_op Z Z Z (ow_assign Z Z (lw_nil (ew_then (cw_ret (ew_blockR (ew_thenR (ew_thenR (ew_blockR (ew_brkR (ew_thenR ?_)))))))))))))
    have e1 := hR1 _ (sj hb2).symm
    subst e1
    obtain rfl := sj h
    exact ew_ret (res1 Z (.tmp Z)) ⟨_, Z, ((vbool _)), hC3.bx⟩
  ·
   obtain rfl := hbb1.trans hc1
   exact cw_false Z (cw_exit (ew_thenX (ew_thenX (ew_blockX (ew_brk (k1, y1) hb2 fun a ha => ⟨M1, (ha.sub ⟨Z, Z, Z, Z, Zt⟩), hl2, hC2, ho3, hm2⟩)))))
 ·
  rintro ⟨k2, y2⟩ a w4 hlr2 ⟨M2, hF2, hl4, hC4, ho5, hm3⟩
  subst hlr2
  refine ew_at (E := [(0, v0p), (3, (Zw g1 0)), (6, (Zv (a_chains.length : Int))), (7, (Zv k2))]) hF2 (ew_then (cw_seq (cw_region (lw_op Z Z Z (ow_assign Z Z (lw_nil (ew_then (cw_ret ?_))))))))
  obtain rfl := sj h
  exact ew_ret (res1 Z (.tmp Z)) ⟨_, Z, ((vbool _)), hC4.bx⟩

theorem w_impl_RulesetValid {w : World} {M : Nat → Prop} (hG : ARep (RArr 4 RShape) w M shapes ⟨0, 0, none⟩) (hO : ∀ b, M b → b < w.heap.size) {v0p : Value} {a_s : Ruleset} (h0 : VRep RRuleset w M a_s v0p) {r : Bool} (h : F.impl_RulesetValid a_s = some r) :
  Calls Tryd.prog 77 [v0p].toArray w fun e w' => ∃ v, e = .returned v ∧ VRep RBool w' M r v ∧ BX No w w' := by
 have hC : Cx No w M w M := Cx.start hO (fun _ e => e.elim)
 refine walk (N := 54) Tryd.func77 Z Tryd.ntmps77 Z (cw_seq (cw_region (lw_op Z Z Z (ow_box (R := RRuleset) Z Z h0 hC fun p1 w1 hp1 hb1 hl1 hC1 => lw_op Z Z Z (ow_assign Z Z (lw_nil (ew_then (cw_seq (cw_seq (cw_region (lw_op Z Z Z (ow_fieldAddr Z Z Tryd.underlying25 Z (Tryd.sizeOf23 _) (lw_op Z Z Z (ow_load (R := (RSlice (RSlice RRule))) Z Z (hp1.fld fld_Ruleset_Chains) (Tryd.sizeOf23 _) (Tryd.isAgg23 _) fun v1 hv1 => lw_op Z Z Z (ow_len Z Z hv1 Tryd.underlying23 Z (lw_op Z Z Z (ow_lss Z Z Z fun bb1 hbb1 => lw_op Z Z Z (ow_move Z Z ?_))))))))))))))))))
 replace h := cond_some h
 rcases h with ⟨hc1, h⟩ | ⟨hc1, h⟩
 ·
  obtain rfl := hbb1.trans hc1
  refine lw_off Z Z Z Z Z Z (lw_off Z Z Z Z Z Z (lw_off Z Z Z Z Z Z (lw_off Z Z Z Z Z Z (lw_op Z Z Z (ow_pickT Z Z Z (lw_nil (ew_then (cw_true Z (cw_seq (cw_region (lw_op Z Z Z (ow_assign Z Z (lw_nil (ew_then (cw_ret (ew_thenR ?_))))))))))))))))
  obtain rfl := sj h
  exact ew_ret (res1 Z (.tmp Z)) ⟨_, Z, ((vbool _)), hC1.bx⟩
 ·
  obtain rfl := hbb1.trans hc1
  refine lw_on Z Z Z Z Z Z (ow_fieldAddr Z Z Tryd.underlying25 Z (Tryd.sizeOf23 _) (lw_on Z Z Z Z Z Z (ow_load (R := (RSlice (RSlice RRule))) Z Z (hp1.fld fld_Ruleset_Chains) (Tryd.sizeOf23 _) (Tryd.isAgg23 _) fun v2 hv2 => lw_on Z Z Z Z Z Z (ow_len Z Z hv2 Tryd.underlying23 Z (lw_on Z Z Z Z Z Z (ow_gtr Z Z Z fun bb2 hbb2 => lw_op Z Z Z (ow_pickF Z Z Z (lw_nil (ew_then ?_)))))))))
  replace h := cond_some h
  rcases h with ⟨hc2, h⟩ | ⟨hc2, h⟩
  ·
   obtain rfl := hbb2.trans hc2
   refine cw_true Z (cw_seq (cw_region (lw_op Z Z Z (ow_assign Z Z (lw_nil (ew_then (cw_ret (ew_thenR ?_))))))))
   obtain rfl := sj h
   exact ew_ret (res1 Z (.tmp Z)) ⟨_, Z, ((vbool _)), hC1.bx⟩
  ·
   obtain rfl := hbb2.trans hc2
   refine cw_false Z (cw_skip (ew_then (cw_seq (cw_seq (cw_region (lw_op Z Z Z (ow_fieldAddr Z Z Tryd.underlying25 Z (Tryd.sizeOf23 _) (lw_op Z Z Z (ow_load (R := (RSlice (RSlice RRule))) Z Z (hp1.fld fld_Ruleset_Chains) (Tryd.sizeOf23 _) (Tryd.isAgg23 _) fun v3 hv3 => lw_op Z Z Z (ow_len Z Z hv3 Tryd.underlying23 Z (lw_op Z Z Z (ow_move Z Z (lw_nil (ew_then ?_))))))))))))))
   replace h := bind_some h
   obtain ⟨lr1, hlr1, h⟩ := h
   refine cw_for hlr1 (fun s a w' => ∃ (M' : Nat → Prop), Fits 54 [(1, (.pointer (some p1))), (20, v3), (21, (Zv (a_s.Chains.length : Int))), (22, (Zv s))] a ∧ Le w1 M w' M' ∧ Cx No w M w' M') ?_ ?_ ?_
   · exact fun a ha => ⟨M, ha.sub ⟨Z, Z, Z, Z, Zt⟩, Le.refl _ _, hC1⟩
   ·
    rintro k1 a w2 sr1 ⟨M1, hF1, hl2, hC2⟩ hb2 hR1
    refine cw_at (E := [(1, (.pointer (some p1))), (20, v3), (21, (Zv (a_s.Chains.length : Int))), (22, (Zv k1))]) hF1 (cw_seq (cw_region (lw_op Z Z Z (ow_lss Z Z Z fun bb3 hbb3 => lw_nil (ew_then (cw_seq ?_))))))
    replace hb2 := cond_some hb2
    rcases hb2 with ⟨hc3, hb2⟩ | ⟨hc3, hb2⟩
    ·
     obtain rfl := hbb3.trans hc3
     refine cw_true Z (cw_skip (ew_then (cw_seq (cw_block (cw_seq (cw_region ?_))))))
     replace hb2 := bind_some hb2
     obtain ⟨x1, hx1, hb2⟩ := hb2
     refine lw_op Z Z Z (ow_indexSlice (R := (RSlice RRule)) Z Z Z (VRep.mono hl2 hv3) Tryd.underlying23 (Tryd.sizeOf39 _) hx1 fun p2 hp2 => lw_op Z Z Z (ow_load (R := (RSlice RRule)) Z Z hp2 (Tryd.sizeOf39 _) (Tryd.isAgg39 _) fun v5 hv5 => lw_op Z Z Z (ow_assign Z Z (lw_nil (ew_then (cw_seq (cw_region (lw_op Z Z Z (ow_move Z Z ?_)))))))))
     replace hb2 := bind_some hb2
     obtain ⟨x2, hx2, hb2⟩ := hb2
     refine lw_op Z Z Z (ow_call Z Z Tryd.call139 (w_impl_RulesValid (hG.mono (hl1.trans hl2)) hC2.old hv5 hx2) fun v6 w3 hv6 => ?_)
     obtain ⟨hv6, hb3⟩ := hv6
     have hl3 := Le.no M1 hb3
     have hC3 := hC2.no hb3
     obtain rfl := vbool_eq hv6
     refine lw_op Z Z Z (ow_not Z Z (lw_nil (ew_then ?_)))
     replace hb2 := cond_some hb2
     rcases hb2 with ⟨hc4, hb2⟩ | ⟨hc4, hb2⟩
     ·
      subst hc4
      exact cw_false Z (cw_skip (ew_blockN (ew_then (cw_region (lw_op Z Z Z (ow_add Z Z Z (lw_op Z Z Z (ow_move Z Z (lw_nil (ew_nxt (W (k1 + 1)) hb2 fun a ha => ⟨M1, (ha.sub ⟨Z, Z, Z, Z, Zt⟩), (hl2.trans hl3), hC3⟩))))))))))
     ·
      subst hc4
      refine cw_true Z (cw_seq (cw_region (lw_op Z Z Z (ow_assign Z Z (lw_nil (ew_then (cw_ret (ew_blockR (ew_thenR (ew_thenR (ew_blockR (ew_brkR (ew_thenR ?_)))))))))))))
      have e1 := hR1 _ (sj hb2).symm
      subst e1
      obtain rfl := sj h
      exact ew_ret (res1 Z (.tmp Z)) ⟨_, Z, ((vbool _)), hC3.bx⟩
    ·
     obtain rfl := hbb3.trans hc3
     exact cw_false Z (cw_exit (ew_thenX (ew_thenX (ew_blockX (ew_brk k1 hb2 fun a ha => ⟨M1, (ha.sub ⟨Z, Z, Z, Z, Zt⟩), hl2, hC2⟩)))))
   ·
    rintro k2 a w4 hlr2 ⟨M2, hF2, hl4, hC4⟩
    subst hlr2
    refine ew_at (E := [(1, (.pointer (some p1))), (20, v3), (21, (Zv (a_s.Chains.length : Int))), (22, (Zv k2))]) hF2 (ew_then (cw_seq (cw_seq (cw_region (lw_op Z Z Z (ow_fieldAddr Z Z Tryd.underlying25 Z (Tryd.sizeOf23 _) (lw_op Z Z Z (ow_load (R := (RSlice (RSlice RRule))) Z Z (ARep.mono hl4 (hp1.fld fld_Ruleset_Chains)) (Tryd.sizeOf23 _) (Tryd.isAgg23 _) fun v8 hv8 => lw_op Z Z Z (ow_len Z Z hv8 Tryd.underlying23 Z (lw_op Z Z Z (ow_move Z Z (lw_nil (ew_then ?_)))))))))))))
    replace h := bind_some h
    obtain ⟨lr2, hlr3, h⟩ := h
    refine cw_for hlr3 (fun s a w' => ∃ (M' : Nat → Prop), Fits 54 [(1, (.pointer (some p1))), (31, v8), (32, (Zv (a_s.Chains.length : Int))), (33, (Zv s))] a ∧ Le w4 M2 w' M' ∧ Cx No w M w' M') ?_ ?_ ?_
    · exact fun a ha => ⟨M2, ha.sub ⟨Z, Z, Z, Z, Zt⟩, Le.refl _ _, hC4⟩
    ·
     rintro k3 a w5 sr2 ⟨M3, hF3, hl5, hC5⟩ hb4 hR2
     refine cw_at (E := [(1, (.pointer (some p1))), (31, v8), (32, (Zv (a_s.Chains.length : Int))), (33, (Zv k3))]) hF3 (cw_seq (cw_region (lw_op Z Z Z (ow_lss Z Z Z fun bb4 hbb4 => lw_nil (ew_then (cw_seq ?_))))))
     replace hb4 := cond_some hb4
     rcases hb4 with ⟨hc5, hb4⟩ | ⟨hc5, hb4⟩
     ·
      obtain rfl := hbb4.trans hc5
      refine cw_true Z (cw_skip (ew_then (cw_seq (cw_block (cw_seq (cw_region ?_))))))
      replace hb4 := bind_some hb4
      obtain ⟨x3, hx3, hb4⟩ := hb4
      refine lw_op Z Z Z (ow_indexSlice (R := (RSlice RRule)) Z Z Z (VRep.mono hl5 hv8) Tryd.underlying23 (Tryd.sizeOf39 _) hx3 fun p3 hp3 => lw_op Z Z Z (ow_load (R := (RSlice RRule)) Z Z hp3 (Tryd.sizeOf39 _) (Tryd.isAgg39 _) fun v10 hv10 => lw_op Z Z Z (ow_assign Z Z (lw_nil (ew_then (cw_seq (cw_region (lw_op Z Z Z (ow_move Z Z ?_)))))))))
      replace hb4 := bind_some hb4
      obtain ⟨x4, hx4, hb4⟩ := hb4
      have lz1 := ((hl1.trans hl4).trans hl5)
      refine lw_op Z Z Z (ow_call Z Z Tryd.call120 (w_impl_callsIn (hG.mono lz1) hC5.old hv10 hx4) fun v11 w6 hv11 => ?_)
      obtain ⟨hv11, hb5⟩ := hv11
      have hl6 := Le.no M3 hb5
      have hC6 := hC5.no hb5
      refine lw_op Z Z Z (ow_len Z Z hv11 Tryd.underlying34 Z (lw_op Z Z Z (ow_move Z Z (lw_nil (ew_then ?_)))))
      replace hb4 := bind_some hb4
      obtain ⟨lr3, hlr4, hb4⟩ := hb4
      refine cw_for hlr4 (fun s a w' => ∃ (M' : Nat → Prop), Fits 54 [(1, (.pointer (some p1))), (31, v8), (32, (Zv (a_s.Chains.length : Int))), (33, (Zv k3)), (38, v11), (39, (Zv (x4.length : Int))), (40, (Zv s))] a ∧ Le w6 M3 w' M' ∧ Cx No w M w' M') ?_ ?_ ?_
      · exact fun a ha => ⟨M3, ha.sub ⟨Z, Z, Z, Z, Z, Z, Z, Zt⟩, Le.refl _ _, hC6⟩
      ·
       rintro k4 a w7 sr3 ⟨M4, hF4, hl7, hC7⟩ hb6 hR3
       refine cw_at (E := [(1, (.pointer (some p1))), (31, v8), (32, (Zv (a_s.Chains.length : Int))), (33, (Zv k3)), (38, v11), (39, (Zv (x4.length : Int))), (40, (Zv k4))]) hF4 (cw_seq (cw_region (lw_op Z Z Z (ow_lss Z Z Z fun bb5 hbb5 => lw_nil (ew_then (cw_seq ?_))))))
       replace hb6 := cond_some hb6
       rcases hb6 with ⟨hc6, hb6⟩ | ⟨hc6, hb6⟩
       ·
        obtain rfl := hbb5.trans hc6
        refine cw_true Z (cw_skip (ew_then (cw_seq (cw_block (cw_seq (cw_region ?_))))))
        replace hb6 := bind_some hb6
        obtain ⟨x5, hx5, hb6⟩ := hb6
        refine lw_op Z Z Z (ow_indexSlice (R := RInt) Z Z Z (VRep.mono hl7 hv11) Tryd.underlying34 (Tryd.sizeOf3 _) hx5 fun p4 hp4 => lw_op Z Z Z (ow_load (R := RInt) Z Z hp4 (Tryd.sizeOf3 _) (Tryd.isAgg3 _) fun v13 hv13 => ?_))
        obtain rfl := vint_eq hv13
        refine lw_op Z Z Z (ow_assign Z Z (lw_nil (ew_then (cw_seq (cw_region (lw_op Z Z Z (ow_move Z Z (lw_op Z Z Z (ow_fieldAddr Z Z Tryd.underlying25 Z (Tryd.sizeOf23 _) ?_)))))))))
        have lz2 := (((hl4.trans hl5).trans hl6).trans hl7)
        refine lw_op Z Z Z (ow_load (R := (RSlice (RSlice RRule))) Z Z (ARep.mono lz2 (hp1.fld fld_Ruleset_Chains)) (Tryd.sizeOf23 _) (Tryd.isAgg23 _) fun v14 hv14 => lw_op Z Z Z (ow_len Z Z hv14 Tryd.underlying23 Z (lw_op Z Z Z (ow_geq Z Z Z fun bb6 hbb6 => lw_nil (ew_then ?_)))))
        replace hb6 := cond_some hb6
        rcases hb6 with ⟨hc7, hb6⟩ | ⟨hc7, hb6⟩
        ·
         obtain rfl := hbb6.trans hc7
         refine cw_true Z (cw_seq (cw_region (lw_op Z Z Z (ow_assign Z Z (lw_nil (ew_then (cw_ret (ew_blockR (ew_thenR (ew_thenR (ew_blockR (ew_brkR (ew_blockR (ew_thenR (ew_thenR (ew_blockR (ew_brkR (ew_thenR ?_))))))))))))))))))
         have e2 := hR3 _ (sj hb6).symm
         subst e2
         have e3 := hR2 _ (sj hb4).symm
         subst e3
         obtain rfl := sj h
         exact ew_ret (res1 Z (.tmp Z)) ⟨_, Z, ((vbool _)), hC7.bx⟩
        ·
         obtain rfl := hbb6.trans hc7
         exact cw_false Z (cw_skip (ew_blockN (ew_then (cw_region (lw_op Z Z Z (ow_add Z Z Z (lw_op Z Z Z (ow_move Z Z (lw_nil (ew_nxt (W (k4 + 1)) hb6 fun a ha => ⟨M4, (ha.sub ⟨Z, Z, Z, Z, Z, Z, Z, Zt⟩), hl7, hC7⟩))))))))))
       ·
        obtain rfl := hbb5.trans hc6
        exact cw_false Z (cw_exit (ew_thenX (ew_thenX (ew_blockX (ew_brk k4 hb6 fun a ha => ⟨M4, (ha.sub ⟨Z, Z, Z, Z, Z, Z, Z, Zt⟩), hl7, hC7⟩)))))
      ·
       rintro k5 a w8 hlr5 ⟨M5, hF5, hl8, hC8⟩
       subst hlr5
       refine ew_at (E := [(1, (.pointer (some p1))), (31, v8), (32, (Zv (a_s.Chains.length : Int))), (33, (Zv k3)), (38, v11), (39, (Zv (x4.length : Int))), (40, (Zv k5))]) hF5 (ew_blockN (ew_then (cw_region (lw_op Z Z Z (ow_add Z Z Z (lw_op Z Z Z (ow_move Z Z (lw_nil ?_))))))))
       have lz3 := ((hl5.trans hl6).trans hl8)
       exact ew_nxt (W (k3 + 1)) hb4 fun a ha => ⟨M5, (ha.sub ⟨Z, Z, Z, Z, Zt⟩), lz3, hC8⟩
     ·
      obtain rfl := hbb4.trans hc5
      exact cw_false Z (cw_exit (ew_thenX (ew_thenX (ew_blockX (ew_brk k3 hb4 fun a ha => ⟨M3, (ha.sub ⟨Z, Z, Z, Z, Zt⟩), hl5, hC5⟩)))))
    ·
     rintro k6 a w9 hlr6 ⟨M6, hF6, hl9, hC9⟩
     subst hlr6
     refine ew_at (E := [(1, (.pointer (some p1))), (31, v8), (32, (Zv (a_s.Chains.length : Int))), (33, (Zv k6))]) hF6 (ew_then (cw_seq (cw_region (lw_op Z Z Z (ow_fieldAddr Z Z Tryd.underlying25 Z (Tryd.sizeOf23 _) (lw_op Z Z Z (ow_load (R := (RSlice (RSlice RRule))) Z Z (ARep.mono (hl4.trans hl9) (hp1.fld fld_Ruleset_Chains)) (Tryd.sizeOf23 _) (Tryd.isAgg23 _) fun v17 hv17 => ?_)))))))
     replace h := bind_some h
     obtain ⟨x6, hx6, h⟩ := h
     have lz4 := ((hl1.trans hl4).trans hl9)
     refine lw_op Z Z Z (ow_call Z Z Tryd.call140 (w_impl_acyclic (hG.mono lz4) hC9.old hv17 hx6) fun v18 w10 hv18 => ?_)
     obtain ⟨hv18, hb7⟩ := hv18
     have hC10 := hC9.no hb7
     obtain rfl := vbool_eq hv18
     refine lw_op Z Z Z (ow_assign Z Z (lw_nil (ew_then (cw_ret ?_))))
     obtain rfl := sj h
     exact ew_ret (res1 Z (.tmp Z)) ⟨_, Z, ((vbool _)), hC10.bx⟩

theorem wo_impl_ChainsUsed {w : World} {M : Nat → Prop} (hG : ARep (RArr 4 RShape) w M shapes ⟨0, 0, none⟩) (hO : ∀ b, M b → b < w.heap.size) {v0p : Value} {a_s : Ruleset} (h0 : VRep RRuleset w M a_s v0p) {r : (List Int)} (h : F.impl_ChainsUsed a_s = some r) :
  Calls Tryd.prog 20 [v0p].toArray w fun e w' => ∃ v, e = .returned v ∧ (∃ M', OwnRow RInt w.heap.size 3 w' M' r v ∧ Cx No w M w' M') ∧ BX No w w' := by
 obtain ⟨i3, hi3, hz3, hs3, hy3⟩ := info3
 have hC : Cx No w M w M := Cx.start hO (fun _ e => e.elim)
 refine walk (N := 26) Tryd.func20 Z Tryd.ntmps20 Z (cw_seq (cw_region (lw_op Z Z Z (ow_box (R := RRuleset) Z Z h0 hC fun p1 w1 hp1 hb1 hl1 hC1 => lw_op Z Z Z (ow_assign Z Z (lw_nil (ew_then (cw_seq (cw_seq (cw_region (lw_op Z Z Z (ow_load (R := RRuleset) Z Z hp1 (Tryd.sizeOf25 _) (Tryd.isAgg25 _) fun v1 hv1 => ?_))))))))))))
 replace h := bind_some h
 obtain ⟨x1, hx1, h⟩ := h
 refine lw_op Z Z Z (ow_call Z Z Tryd.call77 (w_impl_RulesetValid (hG.mono hl1) hC1.old hv1 hx1) fun v2 w2 hv2 => ?_)
 obtain ⟨hv2, hb2⟩ := hv2
 have hl2 := Le.no M hb2
 have hC2 := hC1.no hb2
 obtain rfl := vbool_eq hv2
 refine lw_op Z Z Z (ow_not Z Z (lw_nil (ew_then ?_)))
 replace h := cond_some h
 rcases h with ⟨hc1, h⟩ | ⟨hc1, h⟩
 ·
  subst hc1
  refine cw_false Z (cw_skip (ew_then (cw_seq (cw_region (lw_op Z Z Z (ow_alloc Z (Tryd.zeroValue122 _) hC2 fun g1 w3 hg1 hg2 ho1 hb3 hl3 hC3 => ?_))))))
  have hm1 : (Add g1 M) g1 := .inl Z
  have ho2 : OwnA (RArr 5 RInt) w3 (Add g1 M) g1 122 [0, 0, 0, 0, 0] := OwnA.of ho1 ⟨Z, ⟨_, _, Z, (vint _).cells, _, _, Z, (vint _).cells, _, _, Z, (vint _).cells, _, _, Z, (vint _).cells, _, _, Z, (vint _).cells, Z⟩⟩
  refine lw_nil (ew_then (cw_seq (cw_region (lw_op Z Z Z (ow_fieldAddr Z Z Tryd.underlying25 Z (Tryd.sizeOf23 _) (lw_op Z Z Z (ow_load (R := (RSlice (RSlice RRule))) Z Z (ARep.mono (hl2.trans hl3) (hp1.fld fld_Ruleset_Chains)) (Tryd.sizeOf23 _) (Tryd.isAgg23 _) fun v3 hv3 => ?_)))))))
  replace h := bind_some h
  obtain ⟨x2, hx2, h⟩ := h
  have lz1 := ((hl1.trans hl2).trans hl3)
  refine lw_op Z Z Z (ow_call Z Z Tryd.call85 (w_impl_visitCalls 10 (hG.mono lz1) hC3.old hv3 ho2 hm1 hx2) fun v4 w4 hv4 => ?_)
  obtain ⟨⟨hv4, ho3⟩, hb4⟩ := hv4
  have hC4 := hC3.go hb4 (fun b e => (by rw [show b = g1 from e]; exact (.inl hg2)))
  obtain ⟨bb1, hbb1, rfl⟩ := vbool_ex hv4
  refine lw_nil (ew_then (cw_seq (cw_region (lw_op Z Z Z (ow_assign Z Z (lw_nil (ew_then (cw_seq (cw_seq (cw_region (lw_op Z Z Z (ow_loadA (R := (RArr 5 RInt)) Z Z Z ho3 (Tryd.sizeOf122 _) (Tryd.isAgg122 _) fun v5 hv5 => lw_op Z Z Z (ow_move Z Z (lw_nil (ew_then ?_)))))))))))))))
  have hr1 : OwnRow RInt w.heap.size 3 w4 (Add g1 M) ([] : List Int) (.slice none 0 0) := ownrow_nil
  replace h := bind_some h
  obtain ⟨lr1, hlr1, h⟩ := h
  refine cw_for hlr1 (fun s a w' => ∃ (M' : Nat → Prop) (v0c : Value), Fits 26 [(4, v0c), (13, v5), (14, (Zv s.2))] a ∧ Le w4 (Add g1 M) w' M' ∧ Cx No w M w' M' ∧ OwnRow RInt w.heap.size 3 w' M' s.1 v0c) ?_ ?_ ?_
  · exact fun a ha => ⟨(Add g1 M), (.slice none 0 0), ha.sub ⟨Z, Z, Z, Zt⟩, Le.refl _ _, hC4, hr1⟩
  ·
   rintro ⟨y1, k1⟩ a w5 sr1 ⟨M1, v6, hF1, hl5, hC5, hw1⟩ hb5 hR1
   refine cw_at (E := [(4, v6), (13, v5), (14, (Zv k1))]) hF1 (cw_seq (cw_region (lw_op Z Z Z (ow_lss Z Z Z fun bb2 hbb2 => lw_nil (ew_then (cw_seq ?_))))))
   replace hb5 := cond_some hb5
   rcases hb5 with ⟨hc2, hb5⟩ | ⟨hc2, hb5⟩
   ·
    obtain rfl := hbb2.trans hc2
    refine cw_true Z (cw_skip (ew_then (cw_seq (cw_block (cw_seq (cw_region (lw_op Z Z Z (ow_move Z Z ?_))))))))
    replace hb5 := bind_some hb5
    obtain ⟨x3, hx3, hb5⟩ := hb5
    refine lw_op Z Z Z (ow_index (R := RInt) Z Z Z (VRep.mono hl5 hv5) Tryd.underlying122 (Tryd.sizeOf3 _) (Tryd.isAgg3 _) hx3 fun v8 hv8 => ?_)
    obtain rfl := vint_eq hv8
    refine lw_op Z Z Z (ow_assign Z Z (lw_op Z Z Z (ow_assign Z Z (lw_nil (ew_then (cw_seq (cw_region (lw_op Z Z Z (ow_move Z Z (lw_op Z Z Z (ow_neqI Z Z Z fun bb3 hbb3 => lw_nil (ew_then ?_))))))))))))
    replace hb5 := cond_some hb5
    rcases hb5 with ⟨hc3, hb5⟩ | ⟨hc3, hb5⟩
    ·
     obtain rfl := hbb3.trans hc3
     refine cw_true Z (cw_region (lw_op Z Z Z (ow_move Z Z (lw_op Z Z Z (ow_move Z Z (lw_op Z Z Z (ow_buildSlice (R := RInt) (xs := [k1]) (cs := #[(Zv k1)]) (e := 3) Z Z (by kernel_rfl) Z Z ⟨_, _, Z, (vint _).cells, Z⟩ hC5 fun p2 w6 hw2 hb6 hl6 hC6 => ?_)))))))
     have hr2 := hw1.no hb6
     replace hb5 := bind_some hb5
     obtain ⟨z1, hz1, hb5⟩ := hb5
     refine lw_op Z Z Z (ow_append (R := RInt) Z Z Z Z Tryd.underlying34 hi3 hz3 hs3 hy3 Z Z Z Z hr2 hw2 hz1 hC6 fun v9 w7 M2 hr3 hb7 hl7 hC7 hM1 hat1 => lw_op Z Z Z (ow_assign Z Z (lw_nil (ew_blockN (ew_then (cw_region (lw_op Z Z Z (ow_add Z Z Z (lw_op Z Z Z (ow_move Z Z (lw_nil ?_)))))))))))
     have lz2 := ((hl5.trans hl6).trans hl7)
     exact ew_nxt (z1, (W (k1 + 1))) hb5 fun a ha => ⟨M2, v9, (ha.sub ⟨Z, Z, Z, Zt⟩), lz2, hC7, hr3⟩
    ·
     obtain rfl := hbb3.trans hc3
     exact cw_false Z (cw_skip (ew_blockN (ew_then (cw_region (lw_op Z Z Z (ow_add Z Z Z (lw_op Z Z Z (ow_move Z Z (lw_nil (ew_nxt (y1, (W (k1 + 1))) hb5 fun a ha => ⟨M1, v6, (ha.sub ⟨Z, Z, Z, Zt⟩), hl5, hC5, hw1⟩))))))))))
   ·
    obtain rfl := hbb2.trans hc2
    exact cw_false Z (cw_exit (ew_thenX (ew_thenX (ew_blockX (ew_brk (y1, k1) hb5 fun a ha => ⟨M1, v6, (ha.sub ⟨Z, Z, Z, Zt⟩), hl5, hC5, hw1⟩)))))
  ·
   rintro ⟨y2, k2⟩ a w8 hlr2 ⟨M3, v10, hF2, hl8, hC8, hw3⟩
   subst hlr2
   refine ew_at (E := [(4, v10), (13, v5), (14, (Zv k2))]) hF2 (ew_then (cw_seq (cw_region (lw_op Z Z Z (ow_move Z Z (lw_op Z Z Z (ow_assign Z Z (lw_nil (ew_then (cw_ret ?_))))))))))
   obtain rfl := sj h
   exact ew_ret (res1 Z (.tmp Z)) ⟨_, Z, ⟨M3, hw3, hC8⟩, hC8.bx⟩
 ·
  subst hc1
  refine cw_true Z (cw_seq (cw_region (lw_op Z Z Z (ow_assign Z Z (lw_nil (ew_then (cw_ret (ew_thenR ?_))))))))
  obtain rfl := sj h
  exact ew_ret (res1 Z (.tmp Z)) ⟨_, Z, ⟨M, ownrow_nil, hC2⟩, hC2.bx⟩

theorem w_impl_ChainsUsed {w : World} {M : Nat → Prop} (hG : ARep (RArr 4 RShape) w M shapes ⟨0, 0, none⟩) (hO : ∀ b, M b → b < w.heap.size) {v0p : Value} {a_s : Ruleset} (h0 : VRep RRuleset w M a_s v0p) {r : (List Int)} (h : F.impl_ChainsUsed a_s = some r) :
  Calls Tryd.prog 20 [v0p].toArray w fun e w' => ∃ v, e = .returned v ∧ VRep (RSlice RInt) w' M r v ∧ BX No w w' := by
 refine Calls.mono (wo_impl_ChainsUsed hG hO h0 h) fun e w1 hz => ?_
 obtain ⟨v, e1, ⟨M1, hr, hc⟩, hb⟩ := hz
 exact ⟨v, e1, hr.freezeBack hc hO, hb⟩

theorem w_laws_szTestS {w : World} {M : Nat → Prop} (_hG : ARep (RArr 4 RShape) w M shapes ⟨0, 0, none⟩) (hO : ∀ b, M b → b < w.heap.size) {v0p : Value} {a_a : List Test} (h0 : VRep (RSlice RTest) w M a_a v0p) {a_left : Int} {r : Int} (h : F.laws_szTestS a_a a_left = some r) :
  Calls Tryd.prog 33 [v0p, (.int .i64 a_left)].toArray w fun e w' => ∃ v, e = .returned v ∧ VRep RInt w' M r v ∧ BX No w w' := by
 have hC : Cx No w M w M := Cx.start hO (fun _ e => e.elim)
 clear _hG
 refine walk (N := 12) Tryd.func33 Z Tryd.ntmps33 Z (cw_seq (cw_region (lw_op Z Z Z (ow_assign Z Z (lw_nil (ew_then (cw_seq (cw_region (lw_op Z Z Z (ow_move Z Z (lw_op Z Z Z (ow_move Z Z (lw_op Z Z Z (ow_len Z Z h0 Tryd.underlying57 Z (lw_op Z Z Z (ow_sub Z Z Z (lw_op Z Z Z (ow_assign Z Z (lw_nil (ew_then (cw_seq (cw_seq (cw_region (lw_op Z Z Z (ow_move Z Z (lw_op Z Z Z (ow_lss Z Z Z fun bb1 hbb1 => lw_nil (ew_then ?_))))))))))))))))))))))))))))
 replace h := cond_some h
 rcases h with ⟨hc1, h⟩ | ⟨hc1, h⟩
 ·
  obtain rfl := hbb1.trans hc1
  refine cw_true Z (cw_seq (cw_region (lw_op Z Z Z (ow_assign Z Z (lw_nil (ew_then (cw_ret (ew_thenR ?_))))))))
  obtain rfl := sj h
  exact ew_ret (res1 Z (.tmp Z)) ⟨_, Z, ((vint _)), hC.bx⟩
 ·
  obtain rfl := hbb1.trans hc1
  refine cw_false Z (cw_skip (ew_then (cw_seq (cw_region (lw_op Z Z Z (ow_move Z Z (lw_op Z Z Z (ow_assign Z Z (lw_nil (ew_then (cw_ret ?_)))))))))))
  obtain rfl := sj h
  exact ew_ret (res1 Z (.tmp Z)) ⟨_, Z, ((vint _)), hC.bx⟩

theorem w_laws_szRule {w : World} {M : Nat → Prop} (hG : ARep (RArr 4 RShape) w M shapes ⟨0, 0, none⟩) (hO : ∀ b, M b → b < w.heap.size) {v0p : Value} {a_a : Rule} (h0 : VRep RRule w M a_a v0p) {a_left : Int} {r : Int} (h : F.laws_szRule a_a a_left = some r) :
  Calls Tryd.prog 183 [v0p, (.int .i64 a_left)].toArray w fun e w' => ∃ v, e = .returned v ∧ VRep RInt w' M r v ∧ BX No w w' := by
 have hC : Cx No w M w M := Cx.start hO (fun _ e => e.elim)
 refine walk (N := 12) Tryd.func183 Z Tryd.ntmps183 Z (cw_seq (cw_region (lw_op Z Z Z (ow_box (R := RRule) Z Z h0 hC fun p1 w1 hp1 hb1 hl1 hC1 => lw_op Z Z Z (ow_assign Z Z (lw_nil (ew_then (cw_seq (cw_region (lw_op Z Z Z (ow_fieldAddr Z Z Tryd.underlying241 Z (Tryd.sizeOf57 _) (lw_op Z Z Z (ow_load (R := (RSlice RTest)) Z Z (hp1.fld fld_Rule_Tests) (Tryd.sizeOf57 _) (Tryd.isAgg57 _) fun v1 hv1 => lw_op Z Z Z (ow_move Z Z ?_))))))))))))))
 replace h := bind_some h
 obtain ⟨x1, hx1, h⟩ := h
 refine lw_op Z Z Z (ow_call Z Z Tryd.call33 (w_laws_szTestS (hG.mono hl1) hC1.old hv1 hx1) fun v2 w2 hv2 => ?_)
 obtain ⟨hv2, hb2⟩ := hv2
 have hC2 := hC1.no hb2
 obtain rfl := vint_eq hv2
 refine lw_op Z Z Z (ow_assign Z Z (lw_nil (ew_then (cw_seq (cw_seq (cw_region (lw_op Z Z Z (ow_move Z Z (lw_op Z Z Z (ow_lss Z Z Z fun bb1 hbb1 => lw_nil (ew_then ?_)))))))))))
 replace h := cond_some h
 rcases h with ⟨hc1, h⟩ | ⟨hc1, h⟩
 ·
  obtain rfl := hbb1.trans hc1
  refine cw_true Z (cw_seq (cw_region (lw_op Z Z Z (ow_assign Z Z (lw_nil (ew_then (cw_ret (ew_thenR ?_))))))))
  obtain rfl := sj h
  exact ew_ret (res1 Z (.tmp Z)) ⟨_, Z, ((vint _)), hC2.bx⟩
 ·
  obtain rfl := hbb1.trans hc1
  refine cw_false Z (cw_skip (ew_then (cw_seq (cw_region (lw_op Z Z Z (ow_move Z Z (lw_op Z Z Z (ow_assign Z Z (lw_nil (ew_then (cw_ret ?_)))))))))))
  obtain rfl := sj h
  exact ew_ret (res1 Z (.tmp Z)) ⟨_, Z, ((vint _)), hC2.bx⟩

theorem w_laws_szRuleS {w : World} {M : Nat → Prop} (hG : ARep (RArr 4 RShape) w M shapes ⟨0, 0, none⟩) (hO : ∀ b, M b → b < w.heap.size) {v0p : Value} {a_a : List Rule} (h0 : VRep (RSlice RRule) w M a_a v0p) {a_left : Int} {r : Int} (h : F.laws_szRuleS a_a a_left = some r) :
  Calls Tryd.prog 162 [v0p, (.int .i64 a_left)].toArray w fun e w' => ∃ v, e = .returned v ∧ VRep RInt w' M r v ∧ BX No w w' := by
 have hC : Cx No w M w M := Cx.start hO (fun _ e => e.elim)
 refine walk (N := 27) Tryd.func162 Z Tryd.ntmps162 Z (cw_seq (cw_region (lw_op Z Z Z (ow_assign Z Z (lw_nil (ew_then (cw_seq (cw_region (lw_op Z Z Z (ow_move Z Z (lw_op Z Z Z (ow_move Z Z (lw_op Z Z Z (ow_len Z Z h0 Tryd.underlying211 Z (lw_op Z Z Z (ow_sub Z Z Z (lw_op Z Z Z (ow_assign Z Z (lw_nil (ew_then (cw_seq (cw_seq (cw_region (lw_op Z Z Z (ow_move Z Z (lw_op Z Z Z (ow_lss Z Z Z fun bb1 hbb1 => lw_nil (ew_then ?_))))))))))))))))))))))))))))
 replace h := cond_some h
 rcases h with ⟨hc1, h⟩ | ⟨hc1, h⟩
 ·
  obtain rfl := hbb1.trans hc1
  refine cw_true Z (cw_seq (cw_region (lw_op Z Z Z (ow_assign Z Z (lw_nil (ew_then (cw_ret (ew_thenR ?_))))))))
  obtain rfl := sj h
  exact ew_ret (res1 Z (.tmp Z)) ⟨_, Z, ((vint _)), hC.bx⟩
 ·
  obtain rfl := hbb1.trans hc1
  refine cw_false Z (cw_skip (ew_then (cw_seq (cw_seq (cw_region (lw_op Z Z Z (ow_assign Z Z (lw_nil (ew_then ?_)))))))))
  replace h := bind_some h
  obtain ⟨lr1, hlr1, h⟩ := h
  refine cw_for hlr1 (fun s a w' => ∃ (M' : Nat → Prop), Fits 27 [(0, v0p), (1, (Zv s.1)), (5, (Zv s.2))] a ∧ Le w M w' M' ∧ Cx No w M w' M') ?_ ?_ ?_
  · exact fun a ha => ⟨M, ha.sub ⟨Z, Z, Z, Zt⟩, Le.refl _ _, hC⟩
  ·
   rintro ⟨k1, k2⟩ a w1 sr1 ⟨M1, hF1, hl1, hC1⟩ hb1 hR1
   refine cw_at (E := [(0, v0p), (1, (Zv k1)), (5, (Zv k2))]) hF1 (cw_seq (cw_seq (cw_region (lw_op Z Z Z (ow_move Z Z (lw_op Z Z Z (ow_move Z Z (lw_op Z Z Z (ow_len Z Z (VRep.mono hl1 h0) Tryd.underlying211 Z (lw_op Z Z Z (ow_lss Z Z Z fun bb2 hbb2 => lw_nil (ew_then ?_))))))))))))
   replace hb1 := cond_some hb1
   rcases hb1 with ⟨hc2, hb1⟩ | ⟨hc2, hb1⟩
   ·
    obtain rfl := hbb2.trans hc2
    refine cw_true Z (cw_skip (ew_then (cw_seq (cw_block (cw_seq (cw_region (lw_op Z Z Z (ow_move Z Z (lw_op Z Z Z (ow_move Z Z ?_))))))))))
    replace hb1 := bind_some hb1
    obtain ⟨x1, hx1, hb1⟩ := hb1
    refine lw_op Z Z Z (ow_indexSlice (R := RRule) Z Z Z (VRep.mono hl1 h0) Tryd.underlying211 (Tryd.sizeOf241 _) hx1 fun p1 hp1 => lw_op Z Z Z (ow_load (R := RRule) Z Z hp1 (Tryd.sizeOf241 _) (Tryd.isAgg241 _) fun v3 hv3 => lw_op Z Z Z (ow_move Z Z ?_)))
    replace hb1 := bind_some hb1
    obtain ⟨x2, hx2, hb1⟩ := hb1
    refine lw_op Z Z Z (ow_call Z Z Tryd.call183 (w_laws_szRule (hG.mono hl1) hC1.old hv3 hx2) fun v4 w2 hv4 => ?_)
    obtain ⟨hv4, hb2⟩ := hv4
    have hl2 := Le.no M1 hb2
    have hC2 := hC1.no hb2
    obtain rfl := vint_eq hv4
    refine lw_op Z Z Z (ow_assign Z Z (lw_nil (ew_then (cw_seq (cw_region (lw_op Z Z Z (ow_move Z Z (lw_op Z Z Z (ow_lss Z Z Z fun bb3 hbb3 => lw_nil (ew_then ?_))))))))))
    replace hb1 := cond_some hb1
    rcases hb1 with ⟨hc3, hb1⟩ | ⟨hc3, hb1⟩
    ·
     obtain rfl := hbb3.trans hc3
     refine cw_true Z (cw_seq (cw_region (lw_op Z Z Z (ow_assign Z Z (lw_nil (ew_then (cw_ret (ew_blockR (ew_thenR (ew_thenR (ew_blockR (ew_brkR (ew_thenR ?_)))))))))))))
     have e1 := hR1 _ (sj hb1).symm
     subst e1
     obtain rfl := sj h
     exact ew_ret (res1 Z (.tmp Z)) ⟨_, Z, ((vint _)), hC2.bx⟩
    ·
     obtain rfl := hbb3.trans hc3
     exact cw_false Z (cw_skip (ew_blockN (ew_then (cw_region (lw_op Z Z Z (ow_move Z Z (lw_op Z Z Z (ow_add Z Z Z (lw_op Z Z Z (ow_assign Z Z (lw_nil (ew_nxt (x2, (W (k2 + 1))) hb1 fun a ha => ⟨M1, (ha.sub ⟨Z, Z, Z, Zt⟩), (hl1.trans hl2), hC2⟩))))))))))))
   ·
    obtain rfl := hbb2.trans hc2
    exact cw_false Z (cw_exit (ew_thenX (ew_thenX (ew_blockX (ew_brk (k1, k2) hb1 fun a ha => ⟨M1, (ha.sub ⟨Z, Z, Z, Zt⟩), hl1, hC1⟩)))))
  ·
   rintro ⟨k3, k4⟩ a w3 hlr2 ⟨M2, hF2, hl3, hC3⟩
   subst hlr2
   refine ew_at (E := [(0, v0p), (1, (Zv k3)), (5, (Zv k4))]) hF2 (ew_then (cw_seq (cw_region (lw_op Z Z Z (ow_move Z Z (lw_op Z Z Z (ow_assign Z Z (lw_nil (ew_then (cw_ret ?_))))))))))
   obtain rfl := sj h
   exact ew_ret (res1 Z (.tmp Z)) ⟨_, Z, ((vint _)), hC3.bx⟩

theorem w_laws_szRuleSS {w : World} {M : Nat → Prop} (hG : ARep (RArr 4 RShape) w M shapes ⟨0, 0, none⟩) (hO : ∀ b, M b → b < w.heap.size) {v0p : Value} {a_a : List (List Rule)} (h0 : VRep (RSlice (RSlice RRule)) w M a_a v0p) {a_left : Int} {r : Int} (h : F.laws_szRuleSS a_a a_left = some r) :
  Calls Tryd.prog 117 [v0p, (.int .i64 a_left)].toArray w fun e w' => ∃ v, e = .returned v ∧ VRep RInt w' M r v ∧ BX No w w' := by
 have hC : Cx No w M w M := Cx.start hO (fun _ e => e.elim)
 refine walk (N := 27) Tryd.func117 Z Tryd.ntmps117 Z (cw_seq (cw_region (lw_op Z Z Z (ow_assign Z Z (lw_nil (ew_then (cw_seq (cw_region (lw_op Z Z Z (ow_move Z Z (lw_op Z Z Z (ow_move Z Z (lw_op Z Z Z (ow_len Z Z h0 Tryd.underlying73 Z (lw_op Z Z Z (ow_sub Z Z Z (lw_op Z Z Z (ow_assign Z Z (lw_nil (ew_then (cw_seq (cw_seq (cw_region (lw_op Z Z Z (ow_move Z Z (lw_op Z Z Z (ow_lss Z Z Z fun bb1 hbb1 => lw_nil (ew_then ?_))))))))))))))))))))))))))))
 replace h := cond_some h
 rcases h with ⟨hc1, h⟩ | ⟨hc1, h⟩
 ·
  obtain rfl := hbb1.trans hc1
  refine cw_true Z (cw_seq (cw_region (lw_op Z Z Z (ow_assign Z Z (lw_nil (ew_then (cw_ret (ew_thenR ?_))))))))
  obtain rfl := sj h
  exact ew_ret (res1 Z (.tmp Z)) ⟨_, Z, ((vint _)), hC.bx⟩
 ·
  obtain rfl := hbb1.trans hc1
  refine cw_false Z (cw_skip (ew_then (cw_seq (cw_seq (cw_region (lw_op Z Z Z (ow_assign Z Z (lw_nil (ew_then ?_)))))))))
  replace h := bind_some h
  obtain ⟨lr1, hlr1, h⟩ := h
  refine cw_for hlr1 (fun s a w' => ∃ (M' : Nat → Prop), Fits 27 [(0, v0p), (1, (Zv s.1)), (5, (Zv s.2))] a ∧ Le w M w' M' ∧ Cx No w M w' M') ?_ ?_ ?_
  · exact fun a ha => ⟨M, ha.sub ⟨Z, Z, Z, Zt⟩, Le.refl _ _, hC⟩
  ·
   rintro ⟨k1, k2⟩ a w1 sr1 ⟨M1, hF1, hl1, hC1⟩ hb1 hR1
   refine cw_at (E := [(0, v0p), (1, (Zv k1)), (5, (Zv k2))]) hF1 (cw_seq (cw_seq (cw_region (lw_op Z Z Z (ow_move Z Z (lw_op Z Z Z (ow_move Z Z (lw_op Z Z Z (ow_len Z Z (VRep.mono hl1 h0) Tryd.underlying73 Z (lw_op Z Z Z (ow_lss Z Z Z fun bb2 hbb2 => lw_nil (ew_then ?_))))))))))))
   replace hb1 := cond_some hb1
   rcases hb1 with ⟨hc2, hb1⟩ | ⟨hc2, hb1⟩
   ·
    obtain rfl := hbb2.trans hc2
    refine cw_true Z (cw_skip (ew_then (cw_seq (cw_block (cw_seq (cw_region (lw_op Z Z Z (ow_move Z Z (lw_op Z Z Z (ow_move Z Z ?_))))))))))
    replace hb1 := bind_some hb1
    obtain ⟨x1, hx1, hb1⟩ := hb1
    refine lw_op Z Z Z (ow_indexSlice (R := (RSlice RRule)) Z Z Z (VRep.mono hl1 h0) Tryd.underlying73 (Tryd.sizeOf211 _) hx1 fun p1 hp1 => lw_op Z Z Z (ow_load (R := (RSlice RRule)) Z Z hp1 (Tryd.sizeOf211 _) (Tryd.isAgg211 _) fun v3 hv3 => lw_op Z Z Z (ow_move Z Z ?_)))
    replace hb1 := bind_some hb1
    obtain ⟨x2, hx2, hb1⟩ := hb1
    refine lw_op Z Z Z (ow_call Z Z Tryd.call162 (w_laws_szRuleS (hG.mono hl1) hC1.old hv3 hx2) fun v4 w2 hv4 => ?_)
    obtain ⟨hv4, hb2⟩ := hv4
    have hl2 := Le.no M1 hb2
    have hC2 := hC1.no hb2
    obtain rfl := vint_eq hv4
    refine lw_op Z Z Z (ow_assign Z Z (lw_nil (ew_then (cw_seq (cw_region (lw_op Z Z Z (ow_move Z Z (lw_op Z Z Z (ow_lss Z Z Z fun bb3 hbb3 => lw_nil (ew_then ?_))))))))))
    replace hb1 := cond_some hb1
    rcases hb1 with ⟨hc3, hb1⟩ | ⟨hc3, hb1⟩
    ·
     obtain rfl := hbb3.trans hc3
     refine cw_true Z (cw_seq (cw_region (lw_op Z Z Z (ow_assign Z Z (lw_nil (ew_then (cw_ret (ew_blockR (ew_thenR (ew_thenR (ew_blockR (ew_brkR (ew_thenR ?_)))))))))))))
     have e1 := hR1 _ (sj hb1).symm
     subst e1
     obtain rfl := sj h
     exact ew_ret (res1 Z (.tmp Z)) ⟨_, Z, ((vint _)), hC2.bx⟩
    ·
     obtain rfl := hbb3.trans hc3
     exact cw_false Z (cw_skip (ew_blockN (ew_then (cw_region (lw_op Z Z Z (ow_move Z Z (lw_op Z Z Z (ow_add Z Z Z (lw_op Z Z Z (ow_assign Z Z (lw_nil (ew_nxt (x2, (W (k2 + 1))) hb1 fun a ha => ⟨M1, (ha.sub ⟨Z, Z, Z, Zt⟩), (hl1.trans hl2), hC2⟩))))))))))))
   ·
    obtain rfl := hbb2.trans hc2
    exact cw_false Z (cw_exit (ew_thenX (ew_thenX (ew_blockX (ew_brk (k1, k2) hb1 fun a ha => ⟨M1, (ha.sub ⟨Z, Z, Z, Zt⟩), hl1, hC1⟩)))))
  ·
   rintro ⟨k3, k4⟩ a w3 hlr2 ⟨M2, hF2, hl3, hC3⟩
   subst hlr2
   refine ew_at (E := [(0, v0p), (1, (Zv k3)), (5, (Zv k4))]) hF2 (ew_then (cw_seq (cw_region (lw_op Z Z Z (ow_move Z Z (lw_op Z Z Z (ow_assign Z Z (lw_nil (ew_then (cw_ret ?_))))))))))
   obtain rfl := sj h
   exact ew_ret (res1 Z (.tmp Z)) ⟨_, Z, ((vint _)), hC3.bx⟩

theorem w_laws_szRuleset {w : World} {M : Nat → Prop} (hG : ARep (RArr 4 RShape) w M shapes ⟨0, 0, none⟩) (hO : ∀ b, M b → b < w.heap.size) {v0p : Value} {a_a : Ruleset} (h0 : VRep RRuleset w M a_a v0p) {a_left : Int} {r : Int} (h : F.laws_szRuleset a_a a_left = some r) :
  Calls Tryd.prog 46 [v0p, (.int .i64 a_left)].toArray w fun e w' => ∃ v, e = .returned v ∧ VRep RInt w' M r v ∧ BX No w w' := by
 have hC : Cx No w M w M := Cx.start hO (fun _ e => e.elim)
 refine walk (N := 12) Tryd.func46 Z Tryd.ntmps46 Z (cw_seq (cw_region (lw_op Z Z Z (ow_box (R := RRuleset) Z Z h0 hC fun p1 w1 hp1 hb1 hl1 hC1 => lw_op Z Z Z (ow_assign Z Z (lw_nil (ew_then (cw_seq (cw_region (lw_op Z Z Z (ow_fieldAddr Z Z Tryd.underlying75 Z (Tryd.sizeOf73 _) (lw_op Z Z Z (ow_load (R := (RSlice (RSlice RRule))) Z Z (hp1.fld fld_Ruleset_Chains) (Tryd.sizeOf73 _) (Tryd.isAgg73 _) fun v1 hv1 => lw_op Z Z Z (ow_move Z Z ?_))))))))))))))
 replace h := bind_some h
 obtain ⟨x1, hx1, h⟩ := h
 refine lw_op Z Z Z (ow_call Z Z Tryd.call117 (w_laws_szRuleSS (hG.mono hl1) hC1.old hv1 hx1) fun v2 w2 hv2 => ?_)
 obtain ⟨hv2, hb2⟩ := hv2
 have hC2 := hC1.no hb2
 obtain rfl := vint_eq hv2
 refine lw_op Z Z Z (ow_assign Z Z (lw_nil (ew_then (cw_seq (cw_seq (cw_region (lw_op Z Z Z (ow_move Z Z (lw_op Z Z Z (ow_lss Z Z Z fun bb1 hbb1 => lw_nil (ew_then ?_)))))))))))
 replace h := cond_some h
 rcases h with ⟨hc1, h⟩ | ⟨hc1, h⟩
 ·
  obtain rfl := hbb1.trans hc1
  refine cw_true Z (cw_seq (cw_region (lw_op Z Z Z (ow_assign Z Z (lw_nil (ew_then (cw_ret (ew_thenR ?_))))))))
  obtain rfl := sj h
  exact ew_ret (res1 Z (.tmp Z)) ⟨_, Z, ((vint _)), hC2.bx⟩
 ·
  obtain rfl := hbb1.trans hc1
  refine cw_false Z (cw_skip (ew_then (cw_seq (cw_region (lw_op Z Z Z (ow_move Z Z (lw_op Z Z Z (ow_assign Z Z (lw_nil (ew_then (cw_ret ?_)))))))))))
  obtain rfl := sj h
  exact ew_ret (res1 Z (.tmp Z)) ⟨_, Z, ((vint _)), hC2.bx⟩

theorem w_laws_toTest {w : World} {M : Nat → Prop} (_hG : ARep (RArr 4 RShape) w M shapes ⟨0, 0, none⟩) (hO : ∀ b, M b → b < w.heap.size) {v0p : Value} {a_a : Test} (h0 : VRep RTest w M a_a v0p) {r : Test} (h : F.laws_toTest a_a = some r) :
  Calls Tryd.prog 105 [v0p].toArray w fun e w' => ∃ v, e = .returned v ∧ VRep RTest w' M r v ∧ BX No w w' := by
 have hC : Cx No w M w M := Cx.start hO (fun _ e => e.elim)
 clear _hG
 refine walk (N := 17) Tryd.func105 Z Tryd.ntmps105 Z (cw_seq (cw_region (lw_op Z Z Z (ow_box (R := RTest) Z Z h0 hC fun p1 w1 hp1 hb1 hl1 hC1 => lw_op Z Z Z (ow_alloc Z (Tryd.zeroValue128 _) hC1 fun g1 w2 hg1 hg2 ho1 hb2 hl2 hC2 => ?_)))))
 have hm1 : (Add g1 M) g1 := .inl Z
 refine lw_nil (ew_then (cw_seq (cw_region (lw_op Z Z Z (ow_alloc Z (Tryd.zeroValue128 _) hC2 fun g2 w3 hg3 hg4 ho2 hb3 hl3 hC3 => ?_)))))
 have hn1 := Nat.ne_of_lt (Nat.lt_of_lt_of_le ho1.lt hg3)
 have ho3 := ho1.no hb3
 have hm2 : (Add g2 (Add g1 M)) g1 := .inr hm1
 have hm3 : (Add g2 (Add g1 M)) g2 := .inl Z
 refine lw_nil (ew_then (cw_seq (cw_region (lw_op Z Z Z (ow_fieldAddr Z Z Tryd.underlying146 Z (Tryd.sizeOf3 _) (lw_op Z Z Z (ow_load (R := RInt) Z Z (ARep.mono (hl2.trans hl3) (hp1.fld fld_Test_Field)) (Tryd.sizeOf3 _) (Tryd.isAgg3 _) fun v1 hv1 => ?_)))))))
 obtain rfl := vint_eq hv1
 refine lw_op Z Z Z (ow_fieldAddr Z Z Tryd.underlying128 Z (Tryd.sizeOf3 _) (lw_op0 Z Z (ow_store (X := No) (us := [(Zv a_a.Field)]) (cs' := #[(Zv a_a.Field), (Zv 0), (Zv 0), (.bool false)]) Z Z Z Z ho2 (Tryd.sizeOf3 _) Z Z Z Z hm3 (.inl hg4) Z hC3 fun w4 ho4 hb4 hl4 hC4 => ?_)))
 have ho5 := ho3.go hb4 (fun e => hn1 e)
 refine lw_nil (ew_then (cw_seq (cw_region (lw_op Z Z Z (ow_fieldAddr Z Z Tryd.underlying146 Z (Tryd.sizeOf3 _) ?_)))))
 have lz1 := ((hl2.trans hl3).trans hl4)
 refine lw_op Z Z Z (ow_load (R := RInt) Z Z (ARep.mono lz1 (hp1.fld fld_Test_Lo)) (Tryd.sizeOf3 _) (Tryd.isAgg3 _) fun v2 hv2 => ?_)
 obtain rfl := vint_eq hv2
 refine lw_op Z Z Z (ow_fieldAddr Z Z Tryd.underlying128 Z (Tryd.sizeOf3 _) (lw_op0 Z Z (ow_store (X := No) (us := [(Zv a_a.Lo)]) (cs' := #[(Zv a_a.Field), (Zv a_a.Lo), (Zv 0), (.bool false)]) Z Z Z Z ho4 (Tryd.sizeOf3 _) Z Z Z Z hm3 (.inl hg4) Z hC4 fun w5 ho6 hb5 hl5 hC5 => ?_)))
 have ho7 := ho5.go hb5 (fun e => hn1 e)
 refine lw_nil (ew_then (cw_seq (cw_region (lw_op Z Z Z (ow_fieldAddr Z Z Tryd.underlying146 Z (Tryd.sizeOf3 _) (lw_op Z Z Z (ow_load (R := RInt) Z Z (ARep.mono (lz1.trans hl5) (hp1.fld fld_Test_Hi)) (Tryd.sizeOf3 _) (Tryd.isAgg3 _) fun v3 hv3 => ?_)))))))
 obtain rfl := vint_eq hv3
 refine lw_op Z Z Z (ow_fieldAddr Z Z Tryd.underlying128 Z (Tryd.sizeOf3 _) (lw_op0 Z Z (ow_store (X := No) (us := [(Zv a_a.Hi)]) (cs' := #[(Zv a_a.Field), (Zv a_a.Lo), (Zv a_a.Hi), (.bool false)]) Z Z Z Z ho6 (Tryd.sizeOf3 _) Z Z Z Z hm3 (.inl hg4) Z hC5 fun w6 ho8 hb6 hl6 hC6 => ?_)))
 have ho9 := ho7.go hb6 (fun e => hn1 e)
 refine lw_nil (ew_then (cw_seq (cw_region (lw_op Z Z Z (ow_fieldAddr Z Z Tryd.underlying146 Z (Tryd.sizeOf4 _) ?_)))))
 have lz2 := ((lz1.trans hl5).trans hl6)
 refine lw_op Z Z Z (ow_load (R := RBool) Z Z (ARep.mono lz2 (hp1.fld fld_Test_Not)) (Tryd.sizeOf4 _) (Tryd.isAgg4 _) fun v4 hv4 => ?_)
 obtain ⟨bb1, hbb1, rfl⟩ := vbool_ex hv4
 refine lw_op Z Z Z (ow_fieldAddr Z Z Tryd.underlying128 Z (Tryd.sizeOf4 _) (lw_op0 Z Z (ow_store (X := No) (us := [(.bool bb1)]) (cs' := #[(Zv a_a.Field), (Zv a_a.Lo), (Zv a_a.Hi), (.bool bb1)]) Z Z Z Z ho8 (Tryd.sizeOf4 _) Z Z Z Z hm3 (.inl hg4) Z hC6 fun w7 ho10 hb7 hl7 hC7 => ?_)))
 have ho11 := ho9.go hb7 (fun e => hn1 e)
 refine lw_nil (ew_then (cw_seq (cw_region (lw_op Z Z Z (ow_loadOwnA Z Z Z ho10 (Tryd.isAgg128 _) (Tryd.sizeOf128 _) Z (lw_op0 Z Z (ow_store (X := No) (us := [(Zv a_a.Field), (Zv a_a.Lo), (Zv a_a.Hi), (.bool bb1)]) (cs' := #[(Zv a_a.Field), (Zv a_a.Lo), (Zv a_a.Hi), (.bool bb1)]) Z Z Z Z ho11 (Tryd.sizeOf128 _) Z Z Z Z hm2 (.inl hg2) Z hC7 fun w8 ho12 hb8 hl8 hC8 => lw_nil (ew_then (cw_ret ?_)))))))))
 have hw2 : VRep RTest w8 (Add g2 (Add g1 M)) ({ Field := a_a.Field, Lo := a_a.Lo, Hi := a_a.Hi, Not := a_a.Not } : Test) (.agg #[(Zv a_a.Field), (Zv a_a.Lo), (Zv a_a.Hi), (.bool bb1)]) := by subst hbb1; exact shut_Test
 obtain rfl := sj h
 exact ew_ret (res1 Z (.cell Z (own_loadVarA ho12 (Tryd.isAgg128 _) (Tryd.sizeOf128 _) Z))) ⟨_, Z, (hw2.mono hC8.back), hC8.bx⟩

theorem wu_laws_toTestS {w : World} {M : Nat → Prop} (hG : ARep (RArr 4 RShape) w M shapes ⟨0, 0, none⟩) (hO : ∀ b, M b → b < w.heap.size) {Y : Nat → Prop} (hY : ∀ b, w.heap.size ≤ b → Y b) {v0p : Value} {a_a : List Test} (h0 : VRep (RSlice RTest) w M a_a v0p) {r : (List Test)} (h : F.laws_toTestS a_a = some r) :
  Calls Tryd.prog 35 [v0p].toArray w fun e w' => ∃ v, e = .returned v ∧ VRep (RSliceU Y RTest) w' M r v ∧ BX No w w' := by
 obtain ⟨i128, hi128, hz128, hs128, hy128⟩ := info128
 have hC : Cx No w M w M := Cx.start hO (fun _ e => e.elim)
 refine walk (N := 23) Tryd.func35 Z Tryd.ntmps35 Z (cw_seq (cw_region (lw_op Z Z Z (ow_assign Z Z (lw_nil (ew_then (cw_seq (cw_region (lw_op Z Z Z (ow_move Z Z (lw_op Z Z Z (ow_len Z Z h0 Tryd.underlying57 Z ?_))))))))))))
 replace h := bind_some h
 obtain ⟨mk1, hmk1, h⟩ := h
 refine lw_op Z Z Z (ow_make (R := RTest) Z Z Z Tryd.underlying36 hi128 hz128 hs128 hy128 Z Z (shut_Test) hmk1 hC fun v1 w1 M1 hr1 hb1 hl1 hC1 hM1 hat1 => lw_op Z Z Z (ow_assign Z Z (lw_nil (ew_then (cw_seq (cw_seq (cw_region (lw_op Z Z Z (ow_assign Z Z (lw_nil (ew_then ?_)))))))))))
 replace h := bind_some h
 obtain ⟨lr1, hlr1, h⟩ := h
 refine cw_for hlr1 (fun s a w' => ∃ (M' : Nat → Prop), Fits 23 [(0, v0p), (3, v1), (4, (Zv s.1))] a ∧ Le w1 M1 w' M' ∧ Cx No w M w' M' ∧ OwnRow RTest w.heap.size 128 w' M' s.2 v1) ?_ ?_ ?_
 · exact fun a ha => ⟨M1, ha.sub ⟨Z, Z, Z, Zt⟩, Le.refl _ _, hC1, hr1⟩
 ·
  rintro ⟨k1, y1⟩ a w2 sr1 ⟨M2, hF1, hl2, hC2, hw1⟩ hb2 hR1
  refine cw_at (E := [(0, v0p), (3, v1), (4, (Zv k1))]) hF1 (cw_seq (cw_seq (cw_region (lw_op Z Z Z (ow_move Z Z (lw_op Z Z Z (ow_move Z Z (lw_op Z Z Z (ow_len Z Z (VRep.mono (hl1.trans hl2) h0) Tryd.underlying57 Z (lw_op Z Z Z (ow_lss Z Z Z fun bb1 hbb1 => lw_nil (ew_then ?_))))))))))))
  replace hb2 := cond_some hb2
  rcases hb2 with ⟨hc1, hb2⟩ | ⟨hc1, hb2⟩
  ·
   obtain rfl := hbb1.trans hc1
   refine cw_true Z (cw_skip (ew_then (cw_seq (cw_block (cw_region (lw_op Z Z Z (ow_move Z Z (lw_op Z Z Z (ow_move Z Z (lw_op Z Z Z (ow_move Z Z (lw_op Z Z Z (ow_move Z Z ?_)))))))))))))
   replace hb2 := bind_some hb2
   obtain ⟨x1, hx1, hb2⟩ := hb2
   refine lw_op Z Z Z (ow_indexSlice (R := RTest) Z Z Z (VRep.mono (hl1.trans hl2) h0) Tryd.underlying57 (Tryd.sizeOf146 _) hx1 fun p1 hp1 => lw_op Z Z Z (ow_load (R := RTest) Z Z hp1 (Tryd.sizeOf146 _) (Tryd.isAgg146 _) fun v4 hv4 => ?_))
   replace hb2 := bind_some hb2
   obtain ⟨x2, hx2, hb2⟩ := hb2
   refine lw_op Z Z Z (ow_call Z Z Tryd.call105 (w_laws_toTest (hG.mono (hl1.trans hl2)) hC2.old hv4 hx2) fun v5 w3 hv5 => ?_)
   obtain ⟨hv5, hb3⟩ := hv5
   have hl3 := Le.no M2 hb3
   have hC3 := hC2.no hb3
   have hr2 := hw1.no hb3
   replace hb2 := bind_some hb2
   obtain ⟨x3, hx3, hb2⟩ := hb2
   refine lw_op Z Z Z (ow_indexRow (R := RTest) Z Z Z hr2 Tryd.underlying36 (Tryd.sizeOf128 _) hx3 (lw_op0 Z Z (ow_storeElRow (X := No) (R := RTest) (S := RTest) Z Z Z Z hr2 (orow_blk hr2 hx3) hx3 (FldSet.whole RTest) (Tryd.sizeOf128 _) hv5 (Nat.le_refl _) hC3 fun w4 ho1 hb4 hl4 hC4 => lw_nil (ew_blockN (ew_then (cw_region (lw_op Z Z Z (ow_move Z Z (lw_op Z Z Z (ow_add Z Z Z (lw_op Z Z Z (ow_assign Z Z (lw_nil ?_)))))))))))))
   have lz1 := ((hl2.trans hl3).trans hl4)
   exact ew_nxt ((W (k1 + 1)), (List.set y1 (k1 : Int).toNat x2)) hb2 fun a ha => ⟨M2, (ha.sub ⟨Z, Z, Z, Zt⟩), lz1, hC4, ho1⟩
  ·
   obtain rfl := hbb1.trans hc1
   exact cw_false Z (cw_exit (ew_thenX (ew_thenX (ew_blockX (ew_brk (k1, y1) hb2 fun a ha => ⟨M2, (ha.sub ⟨Z, Z, Z, Zt⟩), hl2, hC2, hw1⟩)))))
 ·
  rintro ⟨k2, y2⟩ a w5 hlr2 ⟨M3, hF2, hl5, hC5, hw2⟩
  subst hlr2
  refine ew_at (E := [(0, v0p), (3, v1), (4, (Zv k2))]) hF2 (ew_then (cw_seq (cw_region (lw_op Z Z Z (ow_move Z Z (lw_op Z Z Z (ow_assign Z Z (lw_nil (ew_then (cw_ret ?_))))))))))
  obtain rfl := sj h
  exact ew_ret (res1 Z (.tmp Z)) ⟨_, Z, (hw2.freezeBackU hC5 hO hY), hC5.bx⟩

theorem wu_laws_toRule {w : World} {M : Nat → Prop} (hG : ARep (RArr 4 RShape) w M shapes ⟨0, 0, none⟩) (hO : ∀ b, M b → b < w.heap.size) {Y : Nat → Prop} (hY : ∀ b, w.heap.size ≤ b → Y b) {v0p : Value} {a_a : Rule} (h0 : VRep RRule w M a_a v0p) {r : Rule} (h : F.laws_toRule a_a = some r) :
  Calls Tryd.prog 184 [v0p].toArray w fun e w' => ∃ v, e = .returned v ∧ VRep (RRuleU Y) w' M r v ∧ BX No w w' := by
 have hC : Cx No w M w M := Cx.start hO (fun _ e => e.elim)
 refine walk (N := 15) Tryd.func184 Z Tryd.ntmps184 Z (cw_seq (cw_region (lw_op Z Z Z (ow_box (R := RRule) Z Z h0 hC fun p1 w1 hp1 hb1 hl1 hC1 => lw_op Z Z Z (ow_alloc Z (Tryd.zeroValue38 _) hC1 fun g1 w2 hg1 hg2 ho1 hb2 hl2 hC2 => ?_)))))
 have hm1 : (Add g1 M) g1 := .inl Z
 refine lw_nil (ew_then (cw_seq (cw_region (lw_op Z Z Z (ow_alloc Z (Tryd.zeroValue38 _) hC2 fun g2 w3 hg3 hg4 ho2 hb3 hl3 hC3 => ?_)))))
 have hn1 := Nat.ne_of_lt (Nat.lt_of_lt_of_le ho1.lt hg3)
 have ho3 := ho1.no hb3
 have hm2 : (Add g2 (Add g1 M)) g1 := .inr hm1
 have hm3 : (Add g2 (Add g1 M)) g2 := .inl Z
 refine lw_nil (ew_then (cw_seq (cw_region (lw_op Z Z Z (ow_fieldAddr Z Z Tryd.underlying241 Z (Tryd.sizeOf57 _) (lw_op Z Z Z (ow_load (R := (RSlice RTest)) Z Z (ARep.mono (hl2.trans hl3) (hp1.fld fld_Rule_Tests)) (Tryd.sizeOf57 _) (Tryd.isAgg57 _) fun v1 hv1 => ?_)))))))
 replace h := bind_some h
 obtain ⟨x1, hx1, h⟩ := h
 have lz1 := ((hl1.trans hl2).trans hl3)
 refine lw_op Z Z Z (ow_call Z Z Tryd.call35 (wu_laws_toTestS (hG.mono lz1) hC3.old (fun b hb => hY b (Nat.le_trans hC3.bx.size hb)) hv1 hx1) fun v2 w4 hv2 => ?_)
 obtain ⟨hv2, hb4⟩ := hv2
 have hl4 := Le.no (Add g2 (Add g1 M)) hb4
 have hC4 := hC3.no hb4
 have ho4 := ho3.no hb4
 have ho5 := ho2.no hb4
 refine lw_op Z Z Z (ow_fieldAddr Z Z Tryd.underlying38 Z (Tryd.sizeOf36 _) ?_)
 obtain ⟨A1, c1, rfl, -⟩ := vsliceU_shape hv2
 refine lw_op0 Z Z (ow_store (X := No) (us := [(.slice A1 x1.length c1)]) (cs' := #[(.slice A1 x1.length c1), (Zv 0), (Zv 0)]) Z Z Z Z ho5 (Tryd.sizeOf36 _) Z Z Z Z hm3 (.inl hg4) Z hC4 fun w5 ho6 hb5 hl5 hC5 => ?_)
 have ho7 := ho4.go hb5 (fun e => hn1 e)
 refine lw_nil (ew_then (cw_seq (cw_region (lw_op Z Z Z (ow_fieldAddr Z Z Tryd.underlying241 Z (Tryd.sizeOf3 _) ?_)))))
 have lz2 := (((hl2.trans hl3).trans hl4).trans hl5)
 refine lw_op Z Z Z (ow_load (R := RInt) Z Z (ARep.mono lz2 (hp1.fld fld_Rule_Action)) (Tryd.sizeOf3 _) (Tryd.isAgg3 _) fun v3 hv3 => ?_)
 obtain rfl := vint_eq hv3
 refine lw_op Z Z Z (ow_fieldAddr Z Z Tryd.underlying38 Z (Tryd.sizeOf3 _) (lw_op0 Z Z (ow_store (X := No) (us := [(Zv a_a.Action)]) (cs' := #[(.slice A1 x1.length c1), (Zv a_a.Action), (Zv 0)]) Z Z Z Z ho6 (Tryd.sizeOf3 _) Z Z Z Z hm3 (.inl hg4) Z hC5 fun w6 ho8 hb6 hl6 hC6 => ?_)))
 have ho9 := ho7.go hb6 (fun e => hn1 e)
 refine lw_nil (ew_then (cw_seq (cw_region (lw_op Z Z Z (ow_fieldAddr Z Z Tryd.underlying241 Z (Tryd.sizeOf3 _) (lw_op Z Z Z (ow_load (R := RInt) Z Z (ARep.mono (lz2.trans hl6) (hp1.fld fld_Rule_Chain)) (Tryd.sizeOf3 _) (Tryd.isAgg3 _) fun v4 hv4 => ?_)))))))
 obtain rfl := vint_eq hv4
 refine lw_op Z Z Z (ow_fieldAddr Z Z Tryd.underlying38 Z (Tryd.sizeOf3 _) (lw_op0 Z Z (ow_store (X := No) (us := [(Zv a_a.Chain)]) (cs' := #[(.slice A1 x1.length c1), (Zv a_a.Action), (Zv a_a.Chain)]) Z Z Z Z ho8 (Tryd.sizeOf3 _) Z Z Z Z hm3 (.inl hg4) Z hC6 fun w7 ho10 hb7 hl7 hC7 => ?_)))
 have ho11 := ho9.go hb7 (fun e => hn1 e)
 refine lw_nil (ew_then (cw_seq (cw_region (lw_op Z Z Z (ow_loadOwnA Z Z Z ho10 (Tryd.isAgg38 _) (Tryd.sizeOf38 _) Z ?_)))))
 have lz3 := ((hl5.trans hl6).trans hl7)
 refine lw_op0 Z Z (ow_store (X := No) (us := [(.slice A1 x1.length c1), (Zv a_a.Action), (Zv a_a.Chain)]) (cs' := #[(.slice A1 x1.length c1), (Zv a_a.Action), (Zv a_a.Chain)]) Z Z Z Z ho11 (Tryd.sizeOf38 _) Z Z Z Z hm2 (.inl hg2) Z hC7 fun w8 ho12 hb8 hl8 hC8 => lw_nil (ew_then (cw_ret ?_)))
 have hw2 : VRep (RRuleU Y) w8 (Add g2 (Add g1 M)) ({ Tests := x1, Action := a_a.Action, Chain := a_a.Chain } : Rule) (.agg #[(.slice A1 x1.length c1), (Zv a_a.Action), (Zv a_a.Chain)]) := shutU_Rule (VRep.mono (lz3.trans hl8) hv2)
 obtain rfl := sj h
 exact ew_ret (res1 Z (.cell Z (own_loadVarA ho12 (Tryd.isAgg38 _) (Tryd.sizeOf38 _) Z))) ⟨_, Z, (hw2.mono hC8.back), hC8.bx⟩

theorem wu_laws_toRuleS {w : World} {M : Nat → Prop} (hG : ARep (RArr 4 RShape) w M shapes ⟨0, 0, none⟩) (hO : ∀ b, M b → b < w.heap.size) {Y : Nat → Prop} (hY : ∀ b, w.heap.size ≤ b → Y b) {v0p : Value} {a_a : List Rule} (h0 : VRep (RSlice RRule) w M a_a v0p) {r : (List Rule)} (h : F.laws_toRuleS a_a = some r) :
  Calls Tryd.prog 163 [v0p].toArray w fun e w' => ∃ v, e = .returned v ∧ VRep (RSliceU Y (RRuleU Y)) w' M r v ∧ BX No w w' := by
 obtain ⟨i38, hi38, hz38, hs38, hy38⟩ := info38
 have hC : Cx No w M w M := Cx.start hO (fun _ e => e.elim)
 refine walk (N := 23) Tryd.func163 Z Tryd.ntmps163 Z (cw_seq (cw_region (lw_op Z Z Z (ow_assign Z Z (lw_nil (ew_then (cw_seq (cw_region (lw_op Z Z Z (ow_move Z Z (lw_op Z Z Z (ow_len Z Z h0 Tryd.underlying211 Z ?_))))))))))))
 replace h := bind_some h
 obtain ⟨mk1, hmk1, h⟩ := h
 refine lw_op Z Z Z (ow_make (R := (RRuleU Y)) Z Z Z Tryd.underlying39 hi38 hz38 hs38 hy38 Z Z (shutU_Rule vsliceU_nil) hmk1 hC fun v1 w1 M1 hr1 hb1 hl1 hC1 hM1 hat1 => lw_op Z Z Z (ow_assign Z Z (lw_nil (ew_then (cw_seq (cw_seq (cw_region (lw_op Z Z Z (ow_assign Z Z (lw_nil (ew_then ?_)))))))))))
 replace h := bind_some h
 obtain ⟨lr1, hlr1, h⟩ := h
 refine cw_for hlr1 (fun s a w' => ∃ (M' : Nat → Prop), Fits 23 [(0, v0p), (3, v1), (4, (Zv s.1))] a ∧ Le w1 M1 w' M' ∧ Cx No w M w' M' ∧ OwnRow (RRuleU Y) w.heap.size 38 w' M' s.2 v1) ?_ ?_ ?_
 · exact fun a ha => ⟨M1, ha.sub ⟨Z, Z, Z, Zt⟩, Le.refl _ _, hC1, hr1⟩
 ·
  rintro ⟨k1, y1⟩ a w2 sr1 ⟨M2, hF1, hl2, hC2, hw1⟩ hb2 hR1
  refine cw_at (E := [(0, v0p), (3, v1), (4, (Zv k1))]) hF1 (cw_seq (cw_seq (cw_region (lw_op Z Z Z (ow_move Z Z (lw_op Z Z Z (ow_move Z Z (lw_op Z Z Z (ow_len Z Z (VRep.mono (hl1.trans hl2) h0) Tryd.underlying211 Z (lw_op Z Z Z (ow_lss Z Z Z fun bb1 hbb1 => lw_nil (ew_then ?_))))))))))))
  replace hb2 := cond_some hb2
  rcases hb2 with ⟨hc1, hb2⟩ | ⟨hc1, hb2⟩
  ·
   obtain rfl := hbb1.trans hc1
   refine cw_true Z (cw_skip (ew_then (cw_seq (cw_block (cw_region (lw_op Z Z Z (ow_move Z Z (lw_op Z Z Z (ow_move Z Z (lw_op Z Z Z (ow_move Z Z (lw_op Z Z Z (ow_move Z Z ?_)))))))))))))
   replace hb2 := bind_some hb2
   obtain ⟨x1, hx1, hb2⟩ := hb2
   refine lw_op Z Z Z (ow_indexSlice (R := RRule) Z Z Z (VRep.mono (hl1.trans hl2) h0) Tryd.underlying211 (Tryd.sizeOf241 _) hx1 fun p1 hp1 => lw_op Z Z Z (ow_load (R := RRule) Z Z hp1 (Tryd.sizeOf241 _) (Tryd.isAgg241 _) fun v4 hv4 => ?_))
   replace hb2 := bind_some hb2
   obtain ⟨x2, hx2, hb2⟩ := hb2
   refine lw_op Z Z Z (ow_call Z Z Tryd.call184 (wu_laws_toRule (hG.mono (hl1.trans hl2)) hC2.old (fun b hb => hY b (Nat.le_trans hC2.bx.size hb)) hv4 hx2) fun v5 w3 hv5 => ?_)
   obtain ⟨hv5, hb3⟩ := hv5
   have hl3 := Le.no M2 hb3
   have hC3 := hC2.no hb3
   have hr2 := hw1.no hb3
   replace hb2 := bind_some hb2
   obtain ⟨x3, hx3, hb2⟩ := hb2
   refine lw_op Z Z Z (ow_indexRow (R := (RRuleU Y)) Z Z Z hr2 Tryd.underlying39 (Tryd.sizeOf38 _) hx3 (lw_op0 Z Z (ow_storeElRow (X := No) (R := (RRuleU Y)) (S := (RRuleU Y)) Z Z Z Z hr2 (orow_blk hr2 hx3) hx3 (FldSet.whole (RRuleU Y)) (Tryd.sizeOf38 _) hv5 (Nat.le_refl _) hC3 fun w4 ho1 hb4 hl4 hC4 => lw_nil (ew_blockN (ew_then (cw_region (lw_op Z Z Z (ow_move Z Z (lw_op Z Z Z (ow_add Z Z Z (lw_op Z Z Z (ow_assign Z Z (lw_nil ?_)))))))))))))
   have lz1 := ((hl2.trans hl3).trans hl4)
   exact ew_nxt ((W (k1 + 1)), (List.set y1 (k1 : Int).toNat x2)) hb2 fun a ha => ⟨M2, (ha.sub ⟨Z, Z, Z, Zt⟩), lz1, hC4, ho1⟩
  ·
   obtain rfl := hbb1.trans hc1
   exact cw_false Z (cw_exit (ew_thenX (ew_thenX (ew_blockX (ew_brk (k1, y1) hb2 fun a ha => ⟨M2, (ha.sub ⟨Z, Z, Z, Zt⟩), hl2, hC2, hw1⟩)))))
 ·
  rintro ⟨k2, y2⟩ a w5 hlr2 ⟨M3, hF2, hl5, hC5, hw2⟩
  subst hlr2
  refine ew_at (E := [(0, v0p), (3, v1), (4, (Zv k2))]) hF2 (ew_then (cw_seq (cw_region (lw_op Z Z Z (ow_move Z Z (lw_op Z Z Z (ow_assign Z Z (lw_nil (ew_then (cw_ret ?_))))))))))
  obtain rfl := sj h
  exact ew_ret (res1 Z (.tmp Z)) ⟨_, Z, (hw2.freezeBackU hC5 hO hY), hC5.bx⟩

theorem wu_laws_toRuleSS {w : World} {M : Nat → Prop} (hG : ARep (RArr 4 RShape) w M shapes ⟨0, 0, none⟩) (hO : ∀ b, M b → b < w.heap.size) {Y : Nat → Prop} (hY : ∀ b, w.heap.size ≤ b → Y b) {v0p : Value} {a_a : List (List Rule)} (h0 : VRep (RSlice (RSlice RRule)) w M a_a v0p) {r : (List (List Rule))} (h : F.laws_toRuleSS a_a = some r) :
  Calls Tryd.prog 119 [v0p].toArray w fun e w' => ∃ v, e = .returned v ∧ VRep (RSliceU Y (RSliceU Y (RRuleU Y))) w' M r v ∧ BX No w w' := by
 obtain ⟨i39, hi39, hz39, hs39, hy39⟩ := info39
 have hC : Cx No w M w M := Cx.start hO (fun _ e => e.elim)
 refine walk (N := 23) Tryd.func119 Z Tryd.ntmps119 Z (cw_seq (cw_region (lw_op Z Z Z (ow_assign Z Z (lw_nil (ew_then (cw_seq (cw_region (lw_op Z Z Z (ow_move Z Z (lw_op Z Z Z (ow_len Z Z h0 Tryd.underlying73 Z ?_))))))))))))
 replace h := bind_some h
 obtain ⟨mk1, hmk1, h⟩ := h
 refine lw_op Z Z Z (ow_make (R := (RSliceU Y (RRuleU Y))) Z Z Z Tryd.underlying23 hi39 hz39 hs39 hy39 Z Z vsliceU_nil hmk1 hC fun v1 w1 M1 hr1 hb1 hl1 hC1 hM1 hat1 => lw_op Z Z Z (ow_assign Z Z (lw_nil (ew_then (cw_seq (cw_seq (cw_region (lw_op Z Z Z (ow_assign Z Z (lw_nil (ew_then ?_)))))))))))
 replace h := bind_some h
 obtain ⟨lr1, hlr1, h⟩ := h
 refine cw_for hlr1 (fun s a w' => ∃ (M' : Nat → Prop), Fits 23 [(0, v0p), (3, v1), (4, (Zv s.1))] a ∧ Le w1 M1 w' M' ∧ Cx No w M w' M' ∧ OwnRow (RSliceU Y (RRuleU Y)) w.heap.size 39 w' M' s.2 v1) ?_ ?_ ?_
 · exact fun a ha => ⟨M1, ha.sub ⟨Z, Z, Z, Zt⟩, Le.refl _ _, hC1, hr1⟩
 ·
  rintro ⟨k1, y1⟩ a w2 sr1 ⟨M2, hF1, hl2, hC2, hw1⟩ hb2 hR1
  refine cw_at (E := [(0, v0p), (3, v1), (4, (Zv k1))]) hF1 (cw_seq (cw_seq (cw_region (lw_op Z Z Z (ow_move Z Z (lw_op Z Z Z (ow_move Z Z (lw_op Z Z Z (ow_len Z Z (VRep.mono (hl1.trans hl2) h0) Tryd.underlying73 Z (lw_op Z Z Z (ow_lss Z Z Z fun bb1 hbb1 => lw_nil (ew_then ?_))))))))))))
  replace hb2 := cond_some hb2
  rcases hb2 with ⟨hc1, hb2⟩ | ⟨hc1, hb2⟩
  ·
   obtain rfl := hbb1.trans hc1
   refine cw_true Z (cw_skip (ew_then (cw_seq (cw_block (cw_region (lw_op Z Z Z (ow_move Z Z (lw_op Z Z Z (ow_move Z Z (lw_op Z Z Z (ow_move Z Z (lw_op Z Z Z (ow_move Z Z ?_)))))))))))))
   replace hb2 := bind_some hb2
   obtain ⟨x1, hx1, hb2⟩ := hb2
   refine lw_op Z Z Z (ow_indexSlice (R := (RSlice RRule)) Z Z Z (VRep.mono (hl1.trans hl2) h0) Tryd.underlying73 (Tryd.sizeOf211 _) hx1 fun p1 hp1 => lw_op Z Z Z (ow_load (R := (RSlice RRule)) Z Z hp1 (Tryd.sizeOf211 _) (Tryd.isAgg211 _) fun v4 hv4 => ?_))
   replace hb2 := bind_some hb2
   obtain ⟨x2, hx2, hb2⟩ := hb2
   refine lw_op Z Z Z (ow_call Z Z Tryd.call163 (wu_laws_toRuleS (hG.mono (hl1.trans hl2)) hC2.old (fun b hb => hY b (Nat.le_trans hC2.bx.size hb)) hv4 hx2) fun v5 w3 hv5 => ?_)
   obtain ⟨hv5, hb3⟩ := hv5
   have hl3 := Le.no M2 hb3
   have hC3 := hC2.no hb3
   have hr2 := hw1.no hb3
   replace hb2 := bind_some hb2
   obtain ⟨x3, hx3, hb2⟩ := hb2
   refine lw_op Z Z Z (ow_indexRow (R := (RSliceU Y (RRuleU Y))) Z Z Z hr2 Tryd.underlying23 (Tryd.sizeOf39 _) hx3 (lw_op0 Z Z (ow_storeElRow (X := No) (R := (RSliceU Y (RRuleU Y))) (S := (RSliceU Y (RRuleU Y))) Z Z Z Z hr2 (orow_blk hr2 hx3) hx3 (FldSet.whole (RSliceU Y (RRuleU Y))) (Tryd.sizeOf39 _) hv5 (Nat.le_refl _) hC3 fun w4 ho1 hb4 hl4 hC4 => lw_nil (ew_blockN (ew_then (cw_region (lw_op Z Z Z (ow_move Z Z (lw_op Z Z Z (ow_add Z Z Z (lw_op Z Z Z (ow_assign Z Z (lw_nil ?_)))))))))))))
   have lz1 := ((hl2.trans hl3).trans hl4)
   exact ew_nxt ((W (k1 + 1)), (List.set y1 (k1 : Int).toNat x2)) hb2 fun a ha => ⟨M2, (ha.sub ⟨Z, Z, Z, Zt⟩), lz1, hC4, ho1⟩
  ·
   obtain rfl := hbb1.trans hc1
   exact cw_false Z (cw_exit (ew_thenX (ew_thenX (ew_blockX (ew_brk (k1, y1) hb2 fun a ha => ⟨M2, (ha.sub ⟨Z, Z, Z, Zt⟩), hl2, hC2, hw1⟩)))))
 ·
  rintro ⟨k2, y2⟩ a w5 hlr2 ⟨M3, hF2, hl5, hC5, hw2⟩
  subst hlr2
  refine ew_at (E := [(0, v0p), (3, v1), (4, (Zv k2))]) hF2 (ew_then (cw_seq (cw_region (lw_op Z Z Z (ow_move Z Z (lw_op Z Z Z (ow_assign Z Z (lw_nil (ew_then (cw_ret ?_))))))))))
  obtain rfl := sj h
  exact ew_ret (res1 Z (.tmp Z)) ⟨_, Z, (hw2.freezeBackU hC5 hO hY), hC5.bx⟩

theorem wu_laws_toRuleset {w : World} {M : Nat → Prop} (hG : ARep (RArr 4 RShape) w M shapes ⟨0, 0, none⟩) (hO : ∀ b, M b → b < w.heap.size) {Y : Nat → Prop} (hY : ∀ b, w.heap.size ≤ b → Y b) {v0p : Value} {a_a : Ruleset} (h0 : VRep RRuleset w M a_a v0p) {r : Ruleset} (h : F.laws_toRuleset a_a = some r) :
  Calls Tryd.prog 48 [v0p].toArray w fun e w' => ∃ v, e = .returned v ∧ VRep (RRulesetU Y) w' M r v ∧ BX No w w' := by
 have hC : Cx No w M w M := Cx.start hO (fun _ e => e.elim)
 refine walk (N := 12) Tryd.func48 Z Tryd.ntmps48 Z (cw_seq (cw_region (lw_op Z Z Z (ow_box (R := RRuleset) Z Z h0 hC fun p1 w1 hp1 hb1 hl1 hC1 => lw_op Z Z Z (ow_alloc Z (Tryd.zeroValue25 _) hC1 fun g1 w2 hg1 hg2 ho1 hb2 hl2 hC2 => ?_)))))
 have hm1 : (Add g1 M) g1 := .inl Z
 refine lw_nil (ew_then (cw_seq (cw_region (lw_op Z Z Z (ow_alloc Z (Tryd.zeroValue25 _) hC2 fun g2 w3 hg3 hg4 ho2 hb3 hl3 hC3 => ?_)))))
 have hn1 := Nat.ne_of_lt (Nat.lt_of_lt_of_le ho1.lt hg3)
 have ho3 := ho1.no hb3
 have hm2 : (Add g2 (Add g1 M)) g1 := .inr hm1
 have hm3 : (Add g2 (Add g1 M)) g2 := .inl Z
 refine lw_nil (ew_then (cw_seq (cw_region (lw_op Z Z Z (ow_fieldAddr Z Z Tryd.underlying75 Z (Tryd.sizeOf73 _) (lw_op Z Z Z (ow_load (R := (RSlice (RSlice RRule))) Z Z (ARep.mono (hl2.trans hl3) (hp1.fld fld_Ruleset_Chains)) (Tryd.sizeOf73 _) (Tryd.isAgg73 _) fun v1 hv1 => ?_)))))))
 replace h := bind_some h
 obtain ⟨x1, hx1, h⟩ := h
 have lz1 := ((hl1.trans hl2).trans hl3)
 refine lw_op Z Z Z (ow_call Z Z Tryd.call119 (wu_laws_toRuleSS (hG.mono lz1) hC3.old (fun b hb => hY b (Nat.le_trans hC3.bx.size hb)) hv1 hx1) fun v2 w4 hv2 => ?_)
 obtain ⟨hv2, hb4⟩ := hv2
 have hl4 := Le.no (Add g2 (Add g1 M)) hb4
 have hC4 := hC3.no hb4
 have ho4 := ho3.no hb4
 have ho5 := ho2.no hb4
 refine lw_op Z Z Z (ow_fieldAddr Z Z Tryd.underlying25 Z (Tryd.sizeOf23 _) ?_)
 obtain ⟨A1, c1, rfl, -⟩ := vsliceU_shape hv2
 refine lw_op0 Z Z (ow_store (X := No) (us := [(.slice A1 x1.length c1)]) (cs' := #[(.slice A1 x1.length c1), (.bool false)]) Z Z Z Z ho5 (Tryd.sizeOf23 _) Z Z Z Z hm3 (.inl hg4) Z hC4 fun w5 ho6 hb5 hl5 hC5 => ?_)
 have ho7 := ho4.go hb5 (fun e => hn1 e)
 refine lw_nil (ew_then (cw_seq (cw_region (lw_op Z Z Z (ow_fieldAddr Z Z Tryd.underlying75 Z (Tryd.sizeOf4 _) ?_)))))
 have lz2 := (((hl2.trans hl3).trans hl4).trans hl5)
 refine lw_op Z Z Z (ow_load (R := RBool) Z Z (ARep.mono lz2 (hp1.fld fld_Ruleset_Accept)) (Tryd.sizeOf4 _) (Tryd.isAgg4 _) fun v3 hv3 => ?_)
 obtain ⟨bb1, hbb1, rfl⟩ := vbool_ex hv3
 refine lw_op Z Z Z (ow_fieldAddr Z Z Tryd.underlying25 Z (Tryd.sizeOf4 _) (lw_op0 Z Z (ow_store (X := No) (us := [(.bool bb1)]) (cs' := #[(.slice A1 x1.length c1), (.bool bb1)]) Z Z Z Z ho6 (Tryd.sizeOf4 _) Z Z Z Z hm3 (.inl hg4) Z hC5 fun w6 ho8 hb6 hl6 hC6 => ?_)))
 have ho9 := ho7.go hb6 (fun e => hn1 e)
 refine lw_nil (ew_then (cw_seq (cw_region (lw_op Z Z Z (ow_loadOwnA Z Z Z ho8 (Tryd.isAgg25 _) (Tryd.sizeOf25 _) Z (lw_op0 Z Z (ow_store (X := No) (us := [(.slice A1 x1.length c1), (.bool bb1)]) (cs' := #[(.slice A1 x1.length c1), (.bool bb1)]) Z Z Z Z ho9 (Tryd.sizeOf25 _) Z Z Z Z hm2 (.inl hg2) Z hC6 fun w7 ho10 hb7 hl7 hC7 => lw_nil (ew_then (cw_ret ?_)))))))))
 have lz3 := ((hl5.trans hl6).trans hl7)
 have hw2 : VRep (RRulesetU Y) w7 (Add g2 (Add g1 M)) ({ Chains := x1, Accept := a_a.Accept } : Ruleset) (.agg #[(.slice A1 x1.length c1), (.bool bb1)]) := by subst hbb1; exact shutU_Ruleset (VRep.mono lz3 hv2)
 obtain rfl := sj h
 exact ew_ret (res1 Z (.cell Z (own_loadVarA ho10 (Tryd.isAgg25 _) (Tryd.sizeOf25 _) Z))) ⟨_, Z, (hw2.mono hC7.back), hC7.bx⟩

theorem w_laws_eqIntS {w : World} {M : Nat → Prop} (_hG : ARep (RArr 4 RShape) w M shapes ⟨0, 0, none⟩) (hO : ∀ b, M b → b < w.heap.size) {v0p : Value} {a_a : List Int} (h0 : VRep (RSlice RInt) w M a_a v0p) {v1p : Value} {a_b : List Int} (h1 : VRep (RSlice RInt) w M a_b v1p) {r : Bool} (h : F.laws_eqIntS a_a a_b = some r) :
  Calls Tryd.prog 50 [v0p, v1p].toArray w fun e w' => ∃ v, e = .returned v ∧ VRep RBool w' M r v ∧ BX No w w' := by
 have hC : Cx No w M w M := Cx.start hO (fun _ e => e.elim)
 clear _hG
 refine walk (N := 26) Tryd.func50 Z Tryd.ntmps50 Z (cw_seq (cw_region (lw_op Z Z Z (ow_assign Z Z (lw_nil (ew_then (cw_seq (cw_seq (cw_region (lw_op Z Z Z (ow_move Z Z (lw_op Z Z Z (ow_len Z Z h0 Tryd.underlying34 Z (lw_op Z Z Z (ow_move Z Z (lw_op Z Z Z (ow_len Z Z h1 Tryd.underlying34 Z (lw_op Z Z Z (ow_neqI Z Z Z fun bb1 hbb1 => lw_nil (ew_then ?_))))))))))))))))))))
 replace h := cond_some h
 rcases h with ⟨hc1, h⟩ | ⟨hc1, h⟩
 ·
  obtain rfl := hbb1.trans hc1
  refine cw_true Z (cw_seq (cw_region (lw_op Z Z Z (ow_assign Z Z (lw_nil (ew_then (cw_ret (ew_thenR ?_))))))))
  obtain rfl := sj h
  exact ew_ret (res1 Z (.tmp Z)) ⟨_, Z, ((vbool _)), hC.bx⟩
 ·
  obtain rfl := hbb1.trans hc1
  refine cw_false Z (cw_skip (ew_then (cw_seq (cw_seq (cw_region (lw_op Z Z Z (ow_assign Z Z (lw_nil (ew_then ?_)))))))))
  replace h := bind_some h
  obtain ⟨lr1, hlr1, h⟩ := h
  refine cw_for hlr1 (fun s a w' => ∃ (M' : Nat → Prop), Fits 26 [(0, v0p), (1, v1p), (5, (Zv s))] a ∧ Le w M w' M' ∧ Cx No w M w' M') ?_ ?_ ?_
  · exact fun a ha => ⟨M, ha.sub ⟨Z, Z, Z, Zt⟩, Le.refl _ _, hC⟩
  ·
   rintro k1 a w1 sr1 ⟨M1, hF1, hl1, hC1⟩ hb1 hR1
   refine cw_at (E := [(0, v0p), (1, v1p), (5, (Zv k1))]) hF1 (cw_seq (cw_seq (cw_region (lw_op Z Z Z (ow_move Z Z (lw_op Z Z Z (ow_move Z Z (lw_op Z Z Z (ow_len Z Z (VRep.mono hl1 h0) Tryd.underlying34 Z (lw_op Z Z Z (ow_lss Z Z Z fun bb2 hbb2 => lw_nil (ew_then ?_))))))))))))
   replace hb1 := cond_some hb1
   rcases hb1 with ⟨hc2, hb1⟩ | ⟨hc2, hb1⟩
   ·
    obtain rfl := hbb2.trans hc2
    refine cw_true Z (cw_skip (ew_then (cw_seq (cw_block (cw_seq ?_)))))
    replace hb1 := bind_some hb1
    obtain ⟨x1, hx1, hb1⟩ := hb1
    replace hb1 := bind_some hb1
    obtain ⟨x2, hx2, hb1⟩ := hb1
    refine cw_sub (E' := [(0, v0p), (1, v1p), (5, (Zv k1))]) ⟨Z, Z, Z, Zt⟩ (cw_drawQ 8 [PV (RSlice RInt) M1 a_a, PEq (Zv k1), PA RInt M1 x1, PEq (Zv x1), PV (RSlice RInt) M1 a_b, PEq (Zv k1), PA RInt M1 x2, PEq (Zv x2)] (by kernel_rfl) Z (by kernel_rfl) ⟨PV.mono _ _ _, Zq, PA.mono _ _ _, Zq, PV.mono _ _ _, Zq, PA.mono _ _ _, Zq, Zt⟩ ⟨?_, ?_, ?_, ?_, ?_, ?_, ?_, ?_, Zt⟩ ?_)
    ·
     intro w2 D hS1 hd1
     have hl2 := Le.no M1 hS1
     exact dg_sub (E' := [(0, v0p)]) ⟨Z, Zt⟩ (dg_plain Z (ow_move Z Z ⟨BX.refl _ _, (VRep.mono (hl1.trans hl2) h0)⟩))
    · exact fun w3 D hS2 hd2 => dg_sub (E' := [(5, (Zv k1))]) ⟨Z, Zt⟩ (dg_plain Z (ow_move Z Z Zb))
    ·
     intro w4 D hS3 hd3
     have d1 : PV (RSlice RInt) M1 a_a (D 0) w4 := dpA hd3 0 Z
     generalize hq1 : (D 0) = v4 at d1
     exact dg_sub (E' := [(17, v4), (18, (Zv k1))]) ⟨congrArg some hq1, dpE hd3 1 Z Z, Zt⟩ (dg_plain Z (ow_indexSlice (R := RInt) Z Z Z d1 Tryd.underlying34 (Tryd.sizeOf3 _) hx1 fun p3 hp3 => ⟨BX.refl _ _, ⟨_, Z, hp3⟩⟩))
    ·
     intro w5 D hS4 hd4
     have d3 : PA RInt M1 x1 (D 2) w5 := dpA hd4 2 Z
     obtain ⟨p4, e1, ha1⟩ := d3
     refine dg_sub (E' := [(19, (.pointer (some p4)))]) ⟨congrArg some e1, Zt⟩ (dg_plain Z (ow_load (R := RInt) Z Z ha1 (Tryd.sizeOf3 _) (Tryd.isAgg3 _) fun v5 hv5 => ?_))
     obtain rfl := vint_eq hv5
     exact Zb
    ·
     intro w6 D hS5 hd5
     have hl6 := Le.no M1 hS5
     exact dg_sub (E' := [(1, v1p)]) ⟨Z, Zt⟩ (dg_plain Z (ow_move Z Z ⟨BX.refl _ _, (VRep.mono (hl1.trans hl6) h1)⟩))
    · exact fun w7 D hS6 hd6 => dg_sub (E' := [(5, (Zv k1))]) ⟨Z, Zt⟩ (dg_plain Z (ow_move Z Z Zb))
    ·
     intro w8 D hS7 hd7
     have d4 : PV (RSlice RInt) M1 a_b (D 4) w8 := dpA hd7 4 Z
     generalize hq2 : (D 4) = v6 at d4
     exact dg_sub (E' := [(21, v6), (22, (Zv k1))]) ⟨congrArg some hq2, dpE hd7 5 Z Z, Zt⟩ (dg_plain Z (ow_indexSlice (R := RInt) Z Z Z d4 Tryd.underlying34 (Tryd.sizeOf3 _) hx2 fun p5 hp5 => ⟨BX.refl _ _, ⟨_, Z, hp5⟩⟩))
    ·
     intro w9 D hS8 hd8
     have d6 : PA RInt M1 x2 (D 6) w9 := dpA hd8 6 Z
     obtain ⟨p6, e2, ha2⟩ := d6
     refine dg_sub (E' := [(23, (.pointer (some p6)))]) ⟨congrArg some e2, Zt⟩ (dg_plain Z (ow_load (R := RInt) Z Z ha2 (Tryd.sizeOf3 _) (Tryd.isAgg3 _) fun v7 hv7 => ?_))
     obtain rfl := vint_eq hv7
     exact Zb
    ·
     intro w10 D hS9 hd9
     have hl10 := Le.no M1 hS9
     have hC10 := hC1.no hS9
     refine lw_sub (E' := [(20, (Zv x1)), (24, (Zv x2)), (0, v0p), (1, v1p), (5, (Zv k1))]) ⟨dpE hd9 3 Z Z, dpE hd9 7 Z Z, Z, Z, Z, Zt⟩ (lw_op Z Z Z (ow_neqI Z Z Z fun bb3 hbb3 => lw_nil (ew_then ?_)))
     replace hb1 := cond_some hb1
     rcases hb1 with ⟨hc3, hb1⟩ | ⟨hc3, hb1⟩
     ·
      obtain rfl := hbb3.trans hc3
      refine cw_true Z (cw_seq (cw_region (lw_op Z Z Z (ow_assign Z Z (lw_nil (ew_then (cw_ret (ew_blockR (ew_thenR (ew_thenR (ew_blockR (ew_brkR (ew_thenR ?_)))))))))))))
      have e3 := hR1 _ (sj hb1).symm
      subst e3
      obtain rfl := sj h
      exact ew_ret (res1 Z (.tmp Z)) ⟨_, Z, ((vbool _)), hC10.bx⟩
     ·
      obtain rfl := hbb3.trans hc3
      exact cw_false Z (cw_skip (ew_blockN (ew_then (cw_region (lw_op Z Z Z (ow_move Z Z (lw_op Z Z Z (ow_add Z Z Z (lw_op Z Z Z (ow_assign Z Z (lw_nil (ew_nxt (W (k1 + 1)) hb1 fun a ha => ⟨M1, (ha.sub ⟨Z, Z, Z, Zt⟩), (hl1.trans hl10), hC10⟩))))))))))))
   ·
    obtain rfl := hbb2.trans hc2
    exact cw_false Z (cw_exit (ew_thenX (ew_thenX (ew_blockX (ew_brk k1 hb1 fun a ha => ⟨M1, (ha.sub ⟨Z, Z, Z, Zt⟩), hl1, hC1⟩)))))
  ·
   rintro k2 a w11 hlr2 ⟨M2, hF2, hl11, hC11⟩
   subst hlr2
   refine ew_at (E := [(0, v0p), (1, v1p), (5, (Zv k2))]) hF2 (ew_then (cw_seq (cw_region (lw_op Z Z Z (ow_assign Z Z (lw_nil (ew_then (cw_ret ?_))))))))
   obtain rfl := sj h
   exact ew_ret (res1 Z (.tmp Z)) ⟨_, Z, ((vbool _)), hC11.bx⟩

theorem w_laws_eqTest {w : World} {M : Nat → Prop} (_hG : ARep (RArr 4 RShape) w M shapes ⟨0, 0, none⟩) (hO : ∀ b, M b → b < w.heap.size) {v0p : Value} {a_a : Test} (h0 : VRep RTest w M a_a v0p) {v1p : Value} {a_b : Test} (h1 : VRep RTest w M a_b v1p) {r : Bool} (h : F.laws_eqTest a_a a_b = some r) :
  Calls Tryd.prog 93 [v0p, v1p].toArray w fun e w' => ∃ v, e = .returned v ∧ VRep RBool w' M r v ∧ BX No w w' := by
 have hC : Cx No w M w M := Cx.start hO (fun _ e => e.elim)
 clear _hG
 refine walk (N := 25) Tryd.func93 Z Tryd.ntmps93 Z (cw_seq (cw_region (lw_op Z Z Z (ow_box (R := RTest) Z Z h0 hC fun p1 w1 hp1 hb1 hl1 hC1 => lw_op Z Z Z (ow_box (R := RTest) Z Z (VRep.mono hl1 h1) hC1 fun p2 w2 hp2 hb2 hl2 hC2 => lw_op Z Z Z (ow_assign Z Z (lw_nil (ew_then (cw_seq (cw_seq (cw_region (lw_op Z Z Z (ow_fieldAddr Z Z Tryd.underlying128 Z (Tryd.sizeOf3 _) (lw_op Z Z Z (ow_load (R := RInt) Z Z (ARep.mono hl2 (hp1.fld fld_Test_Field)) (Tryd.sizeOf3 _) (Tryd.isAgg3 _) fun v1 hv1 => ?_)))))))))))))))
 obtain rfl := vint_eq hv1
 refine lw_op Z Z Z (ow_fieldAddr Z Z Tryd.underlying128 Z (Tryd.sizeOf3 _) (lw_op Z Z Z (ow_load (R := RInt) Z Z (hp2.fld fld_Test_Field) (Tryd.sizeOf3 _) (Tryd.isAgg3 _) fun v2 hv2 => ?_)))
 obtain rfl := vint_eq hv2
 refine lw_op Z Z Z (ow_neqI Z Z Z fun bb1 hbb1 => lw_nil (ew_then ?_))
 replace h := cond_some h
 rcases h with ⟨hc1, h⟩ | ⟨hc1, h⟩
 ·
  obtain rfl := hbb1.trans hc1
  refine cw_true Z (cw_seq (cw_region (lw_op Z Z Z (ow_assign Z Z (lw_nil (ew_then (cw_ret (ew_thenR ?_))))))))
  obtain rfl := sj h
  exact ew_ret (res1 Z (.tmp Z)) ⟨_, Z, ((vbool _)), hC2.bx⟩
 ·
  obtain rfl := hbb1.trans hc1
  refine cw_false Z (cw_skip (ew_then (cw_seq (cw_seq (cw_region (lw_op Z Z Z (ow_fieldAddr Z Z Tryd.underlying128 Z (Tryd.sizeOf3 _) (lw_op Z Z Z (ow_load (R := RInt) Z Z (ARep.mono hl2 (hp1.fld fld_Test_Lo)) (Tryd.sizeOf3 _) (Tryd.isAgg3 _) fun v3 hv3 => ?_)))))))))
  obtain rfl := vint_eq hv3
  refine lw_op Z Z Z (ow_fieldAddr Z Z Tryd.underlying128 Z (Tryd.sizeOf3 _) (lw_op Z Z Z (ow_load (R := RInt) Z Z (hp2.fld fld_Test_Lo) (Tryd.sizeOf3 _) (Tryd.isAgg3 _) fun v4 hv4 => ?_)))
  obtain rfl := vint_eq hv4
  refine lw_op Z Z Z (ow_neqI Z Z Z fun bb2 hbb2 => lw_nil (ew_then ?_))
  replace h := cond_some h
  rcases h with ⟨hc2, h⟩ | ⟨hc2, h⟩
  ·
   obtain rfl := hbb2.trans hc2
   refine cw_true Z (cw_seq (cw_region (lw_op Z Z Z (ow_assign Z Z (lw_nil (ew_then (cw_ret (ew_thenR ?_))))))))
   obtain rfl := sj h
   exact ew_ret (res1 Z (.tmp Z)) ⟨_, Z, ((vbool _)), hC2.bx⟩
  ·
   obtain rfl := hbb2.trans hc2
   refine cw_false Z (cw_skip (ew_then (cw_seq (cw_seq (cw_region (lw_op Z Z Z (ow_fieldAddr Z Z Tryd.underlying128 Z (Tryd.sizeOf3 _) (lw_op Z Z Z (ow_load (R := RInt) Z Z (ARep.mono hl2 (hp1.fld fld_Test_Hi)) (Tryd.sizeOf3 _) (Tryd.isAgg3 _) fun v5 hv5 => ?_)))))))))
   obtain rfl := vint_eq hv5
   refine lw_op Z Z Z (ow_fieldAddr Z Z Tryd.underlying128 Z (Tryd.sizeOf3 _) (lw_op Z Z Z (ow_load (R := RInt) Z Z (hp2.fld fld_Test_Hi) (Tryd.sizeOf3 _) (Tryd.isAgg3 _) fun v6 hv6 => ?_)))
   obtain rfl := vint_eq hv6
   refine lw_op Z Z Z (ow_neqI Z Z Z fun bb3 hbb3 => lw_nil (ew_then ?_))
   replace h := cond_some h
   rcases h with ⟨hc3, h⟩ | ⟨hc3, h⟩
   ·
    obtain rfl := hbb3.trans hc3
    refine cw_true Z (cw_seq (cw_region (lw_op Z Z Z (ow_assign Z Z (lw_nil (ew_then (cw_ret (ew_thenR ?_))))))))
    obtain rfl := sj h
    exact ew_ret (res1 Z (.tmp Z)) ⟨_, Z, ((vbool _)), hC2.bx⟩
   ·
    obtain rfl := hbb3.trans hc3
    refine cw_false Z (cw_skip (ew_then (cw_seq (cw_seq (cw_region (lw_op Z Z Z (ow_fieldAddr Z Z Tryd.underlying128 Z (Tryd.sizeOf4 _) (lw_op Z Z Z (ow_load (R := RBool) Z Z (ARep.mono hl2 (hp1.fld fld_Test_Not)) (Tryd.sizeOf4 _) (Tryd.isAgg4 _) fun v7 hv7 => ?_)))))))))
    obtain ⟨bb4, hbb4, rfl⟩ := vbool_ex hv7
    refine lw_op Z Z Z (ow_fieldAddr Z Z Tryd.underlying128 Z (Tryd.sizeOf4 _) (lw_op Z Z Z (ow_load (R := RBool) Z Z (hp2.fld fld_Test_Not) (Tryd.sizeOf4 _) (Tryd.isAgg4 _) fun v8 hv8 => ?_)))
    obtain ⟨bb5, hbb5, rfl⟩ := vbool_ex hv8
    refine lw_op Z Z Z (ow_neqB Z Z Z Tryd.underlying4 fun bb6 hbb6 => ?_)
    have hbb6' : bb6 = (a_a.Not != a_b.Not) := hbb6.trans (by rw [hbb4, hbb5])
    refine lw_nil (ew_then ?_)
    replace h := cond_some h
    rcases h with ⟨hc4, h⟩ | ⟨hc4, h⟩
    ·
     obtain rfl := hbb6'.trans hc4
     refine cw_true Z (cw_seq (cw_region (lw_op Z Z Z (ow_assign Z Z (lw_nil (ew_then (cw_ret (ew_thenR ?_))))))))
     obtain rfl := sj h
     exact ew_ret (res1 Z (.tmp Z)) ⟨_, Z, ((vbool _)), hC2.bx⟩
    ·
     obtain rfl := hbb6'.trans hc4
     refine cw_false Z (cw_skip (ew_then (cw_seq (cw_region (lw_op Z Z Z (ow_assign Z Z (lw_nil (ew_then (cw_ret ?_)))))))))
     obtain rfl := sj h
     exact ew_ret (res1 Z (.tmp Z)) ⟨_, Z, ((vbool _)), hC2.bx⟩

theorem w_laws_eqTestS {w : World} {M : Nat → Prop} (hG : ARep (RArr 4 RShape) w M shapes ⟨0, 0, none⟩) (hO : ∀ b, M b → b < w.heap.size) {v0p : Value} {a_a : List Test} (h0 : VRep (RSlice RTest) w M a_a v0p) {v1p : Value} {a_b : List Test} (h1 : VRep (RSlice RTest) w M a_b v1p) {r : Bool} (h : F.laws_eqTestS a_a a_b = some r) :
  Calls Tryd.prog 25 [v0p, v1p].toArray w fun e w' => ∃ v, e = .returned v ∧ VRep RBool w' M r v ∧ BX No w w' := by
 have hC : Cx No w M w M := Cx.start hO (fun _ e => e.elim)
 refine walk (N := 27) Tryd.func25 Z Tryd.ntmps25 Z (cw_seq (cw_region (lw_op Z Z Z (ow_assign Z Z (lw_nil (ew_then (cw_seq (cw_seq (cw_region (lw_op Z Z Z (ow_move Z Z (lw_op Z Z Z (ow_len Z Z h0 Tryd.underlying36 Z (lw_op Z Z Z (ow_move Z Z (lw_op Z Z Z (ow_len Z Z h1 Tryd.underlying36 Z (lw_op Z Z Z (ow_neqI Z Z Z fun bb1 hbb1 => lw_nil (ew_then ?_))))))))))))))))))))
 replace h := cond_some h
 rcases h with ⟨hc1, h⟩ | ⟨hc1, h⟩
 ·
  obtain rfl := hbb1.trans hc1
  refine cw_true Z (cw_seq (cw_region (lw_op Z Z Z (ow_assign Z Z (lw_nil (ew_then (cw_ret (ew_thenR ?_))))))))
  obtain rfl := sj h
  exact ew_ret (res1 Z (.tmp Z)) ⟨_, Z, ((vbool _)), hC.bx⟩
 ·
  obtain rfl := hbb1.trans hc1
  refine cw_false Z (cw_skip (ew_then (cw_seq (cw_seq (cw_region (lw_op Z Z Z (ow_assign Z Z (lw_nil (ew_then ?_)))))))))
  replace h := bind_some h
  obtain ⟨lr1, hlr1, h⟩ := h
  refine cw_for hlr1 (fun s a w' => ∃ (M' : Nat → Prop), Fits 27 [(0, v0p), (1, v1p), (5, (Zv s))] a ∧ Le w M w' M' ∧ Cx No w M w' M') ?_ ?_ ?_
  · exact fun a ha => ⟨M, ha.sub ⟨Z, Z, Z, Zt⟩, Le.refl _ _, hC⟩
  ·
   rintro k1 a w1 sr1 ⟨M1, hF1, hl1, hC1⟩ hb1 hR1
   refine cw_at (E := [(0, v0p), (1, v1p), (5, (Zv k1))]) hF1 (cw_seq (cw_seq (cw_region (lw_op Z Z Z (ow_move Z Z (lw_op Z Z Z (ow_move Z Z (lw_op Z Z Z (ow_len Z Z (VRep.mono hl1 h0) Tryd.underlying36 Z (lw_op Z Z Z (ow_lss Z Z Z fun bb2 hbb2 => lw_nil (ew_then ?_))))))))))))
   replace hb1 := cond_some hb1
   rcases hb1 with ⟨hc2, hb1⟩ | ⟨hc2, hb1⟩
   ·
    obtain rfl := hbb2.trans hc2
    refine cw_true Z (cw_skip (ew_then (cw_seq (cw_block (cw_seq ?_)))))
    replace hb1 := bind_some hb1
    obtain ⟨x1, hx1, hb1⟩ := hb1
    replace hb1 := bind_some hb1
    obtain ⟨x2, hx2, hb1⟩ := hb1
    refine cw_sub (E' := [(0, v0p), (1, v1p), (5, (Zv k1))]) ⟨Z, Z, Z, Zt⟩ (cw_drawQ 8 [PV (RSlice RTest) M1 a_a, PEq (Zv k1), PA RTest M1 x1, PV RTest M1 x1, PV (RSlice RTest) M1 a_b, PEq (Zv k1), PA RTest M1 x2, PV RTest M1 x2] (by kernel_rfl) Z (by kernel_rfl) ⟨PV.mono _ _ _, Zq, PA.mono _ _ _, PV.mono _ _ _, PV.mono _ _ _, Zq, PA.mono _ _ _, PV.mono _ _ _, Zt⟩ ⟨?_, ?_, ?_, ?_, ?_, ?_, ?_, ?_, Zt⟩ ?_)
    ·
     intro w2 D hS1 hd1
     have hl2 := Le.no M1 hS1
     exact dg_sub (E' := [(0, v0p)]) ⟨Z, Zt⟩ (dg_plain Z (ow_move Z Z ⟨BX.refl _ _, (VRep.mono (hl1.trans hl2) h0)⟩))
    · exact fun w3 D hS2 hd2 => dg_sub (E' := [(5, (Zv k1))]) ⟨Z, Zt⟩ (dg_plain Z (ow_move Z Z Zb))
    ·
     intro w4 D hS3 hd3
     have d1 : PV (RSlice RTest) M1 a_a (D 0) w4 := dpA hd3 0 Z
     generalize hq1 : (D 0) = v4 at d1
     exact dg_sub (E' := [(17, v4), (18, (Zv k1))]) ⟨congrArg some hq1, dpE hd3 1 Z Z, Zt⟩ (dg_plain Z (ow_indexSlice (R := RTest) Z Z Z d1 Tryd.underlying36 (Tryd.sizeOf128 _) hx1 fun p3 hp3 => ⟨BX.refl _ _, ⟨_, Z, hp3⟩⟩))
    ·
     intro w5 D hS4 hd4
     have d3 : PA RTest M1 x1 (D 2) w5 := dpA hd4 2 Z
     obtain ⟨p4, e1, ha1⟩ := d3
     exact dg_sub (E' := [(19, (.pointer (some p4)))]) ⟨congrArg some e1, Zt⟩ (dg_plain Z (ow_load (R := RTest) Z Z ha1 (Tryd.sizeOf128 _) (Tryd.isAgg128 _) fun v5 hv5 => ⟨BX.refl _ _, hv5⟩))
    ·
     intro w6 D hS5 hd5
     have hl6 := Le.no M1 hS5
     exact dg_sub (E' := [(1, v1p)]) ⟨Z, Zt⟩ (dg_plain Z (ow_move Z Z ⟨BX.refl _ _, (VRep.mono (hl1.trans hl6) h1)⟩))
    · exact fun w7 D hS6 hd6 => dg_sub (E' := [(5, (Zv k1))]) ⟨Z, Zt⟩ (dg_plain Z (ow_move Z Z Zb))
    ·
     intro w8 D hS7 hd7
     have d4 : PV (RSlice RTest) M1 a_b (D 4) w8 := dpA hd7 4 Z
     generalize hq2 : (D 4) = v6 at d4
     exact dg_sub (E' := [(21, v6), (22, (Zv k1))]) ⟨congrArg some hq2, dpE hd7 5 Z Z, Zt⟩ (dg_plain Z (ow_indexSlice (R := RTest) Z Z Z d4 Tryd.underlying36 (Tryd.sizeOf128 _) hx2 fun p5 hp5 => ⟨BX.refl _ _, ⟨_, Z, hp5⟩⟩))
    ·
     intro w9 D hS8 hd8
     have d6 : PA RTest M1 x2 (D 6) w9 := dpA hd8 6 Z
     obtain ⟨p6, e2, ha2⟩ := d6
     exact dg_sub (E' := [(23, (.pointer (some p6)))]) ⟨congrArg some e2, Zt⟩ (dg_plain Z (ow_load (R := RTest) Z Z ha2 (Tryd.sizeOf128 _) (Tryd.isAgg128 _) fun v7 hv7 => ⟨BX.refl _ _, hv7⟩))
    ·
     intro w10 D hS9 hd9
     have d10 : PV RTest M1 x1 (D 3) w10 := dpA hd9 3 Z
     have d14 : PV RTest M1 x2 (D 7) w10 := dpA hd9 7 Z
     have hl10 := Le.no M1 hS9
     have hC10 := hC1.no hS9
     generalize hq3 : (D 3) = v8 at d10
     generalize hq4 : (D 7) = v9 at d14
     refine lw_sub (E' := [(20, v8), (24, v9), (0, v0p), (1, v1p), (5, (Zv k1))]) ⟨congrArg some hq3, congrArg some hq4, Z, Z, Z, Zt⟩ ?_
     replace hb1 := bind_some hb1
     obtain ⟨x3, hx3, hb1⟩ := hb1
     refine lw_op Z Z Z (ow_call Z Z Tryd.call93 (w_laws_eqTest (hG.mono (hl1.trans hl10)) hC10.old d10 d14 hx3) fun v10 w11 hv10 => ?_)
     obtain ⟨hv10, hb2⟩ := hv10
     have hl11 := Le.no M1 hb2
     have hC11 := hC10.no hb2
     obtain rfl := vbool_eq hv10
     refine lw_op Z Z Z (ow_not Z Z (lw_nil (ew_then ?_)))
     replace hb1 := cond_some hb1
     rcases hb1 with ⟨hc3, hb1⟩ | ⟨hc3, hb1⟩
     ·
      subst hc3
      refine cw_false Z (cw_skip (ew_blockN (ew_then (cw_region (lw_op Z Z Z (ow_move Z Z (lw_op Z Z Z (ow_add Z Z Z (lw_op Z Z Z (ow_assign Z Z (lw_nil ?_)))))))))))
      have lz1 := ((hl1.trans hl10).trans hl11)
      exact ew_nxt (W (k1 + 1)) hb1 fun a ha => ⟨M1, (ha.sub ⟨Z, Z, Z, Zt⟩), lz1, hC11⟩
     ·
      subst hc3
      refine cw_true Z (cw_seq (cw_region (lw_op Z Z Z (ow_assign Z Z (lw_nil (ew_then (cw_ret (ew_blockR (ew_thenR (ew_thenR (ew_blockR (ew_brkR (ew_thenR ?_)))))))))))))
      have e3 := hR1 _ (sj hb1).symm
      subst e3
      obtain rfl := sj h
      exact ew_ret (res1 Z (.tmp Z)) ⟨_, Z, ((vbool _)), hC11.bx⟩
   ·
    obtain rfl := hbb2.trans hc2
    exact cw_false Z (cw_exit (ew_thenX (ew_thenX (ew_blockX (ew_brk k1 hb1 fun a ha => ⟨M1, (ha.sub ⟨Z, Z, Z, Zt⟩), hl1, hC1⟩)))))
  ·
   rintro k2 a w12 hlr2 ⟨M2, hF2, hl12, hC12⟩
   subst hlr2
   refine ew_at (E := [(0, v0p), (1, v1p), (5, (Zv k2))]) hF2 (ew_then (cw_seq (cw_region (lw_op Z Z Z (ow_assign Z Z (lw_nil (ew_then (cw_ret ?_))))))))
   obtain rfl := sj h
   exact ew_ret (res1 Z (.tmp Z)) ⟨_, Z, ((vbool _)), hC12.bx⟩

theorem w_laws_eqRule {w : World} {M : Nat → Prop} (hG : ARep (RArr 4 RShape) w M shapes ⟨0, 0, none⟩) (hO : ∀ b, M b → b < w.heap.size) {v0p : Value} {a_a : Rule} (h0 : VRep RRule w M a_a v0p) {v1p : Value} {a_b : Rule} (h1 : VRep RRule w M a_b v1p) {r : Bool} (h : F.laws_eqRule a_a a_b = some r) :
  Calls Tryd.prog 185 [v0p, v1p].toArray w fun e w' => ∃ v, e = .returned v ∧ VRep RBool w' M r v ∧ BX No w w' := by
 have hC : Cx No w M w M := Cx.start hO (fun _ e => e.elim)
 refine walk (N := 21) Tryd.func185 Z Tryd.ntmps185 Z (cw_seq (cw_region (lw_op Z Z Z (ow_box (R := RRule) Z Z h0 hC fun p1 w1 hp1 hb1 hl1 hC1 => lw_op Z Z Z (ow_box (R := RRule) Z Z (VRep.mono hl1 h1) hC1 fun p2 w2 hp2 hb2 hl2 hC2 => lw_op Z Z Z (ow_assign Z Z (lw_nil (ew_then (cw_seq (cw_seq (cw_region (lw_op Z Z Z (ow_fieldAddr Z Z Tryd.underlying38 Z (Tryd.sizeOf36 _) (lw_op Z Z Z (ow_load (R := (RSlice RTest)) Z Z (ARep.mono hl2 (hp1.fld fld_Rule_Tests)) (Tryd.sizeOf36 _) (Tryd.isAgg36 _) fun v1 hv1 => lw_op Z Z Z (ow_fieldAddr Z Z Tryd.underlying38 Z (Tryd.sizeOf36 _) (lw_op Z Z Z (ow_load (R := (RSlice RTest)) Z Z (hp2.fld fld_Rule_Tests) (Tryd.sizeOf36 _) (Tryd.isAgg36 _) fun v2 hv2 => ?_))))))))))))))))))
 replace h := bind_some h
 obtain ⟨x1, hx1, h⟩ := h
 refine lw_op Z Z Z (ow_call Z Z Tryd.call25 (w_laws_eqTestS (hG.mono (hl1.trans hl2)) hC2.old hv1 hv2 hx1) fun v3 w3 hv3 => ?_)
 obtain ⟨hv3, hb3⟩ := hv3
 have hl3 := Le.no M hb3
 have hC3 := hC2.no hb3
 obtain rfl := vbool_eq hv3
 refine lw_op Z Z Z (ow_not Z Z (lw_nil (ew_then ?_)))
 replace h := cond_some h
 rcases h with ⟨hc1, h⟩ | ⟨hc1, h⟩
 ·
  subst hc1
  refine cw_false Z (cw_skip (ew_then (cw_seq (cw_seq (cw_region (lw_op Z Z Z (ow_fieldAddr Z Z Tryd.underlying38 Z (Tryd.sizeOf3 _) (lw_op Z Z Z (ow_load (R := RInt) Z Z (ARep.mono (hl2.trans hl3) (hp1.fld fld_Rule_Action)) (Tryd.sizeOf3 _) (Tryd.isAgg3 _) fun v4 hv4 => ?_)))))))))
  obtain rfl := vint_eq hv4
  refine lw_op Z Z Z (ow_fieldAddr Z Z Tryd.underlying38 Z (Tryd.sizeOf3 _) (lw_op Z Z Z (ow_load (R := RInt) Z Z (ARep.mono hl3 (hp2.fld fld_Rule_Action)) (Tryd.sizeOf3 _) (Tryd.isAgg3 _) fun v5 hv5 => ?_)))
  obtain rfl := vint_eq hv5
  refine lw_op Z Z Z (ow_neqI Z Z Z fun bb1 hbb1 => lw_nil (ew_then ?_))
  replace h := cond_some h
  rcases h with ⟨hc2, h⟩ | ⟨hc2, h⟩
  ·
   obtain rfl := hbb1.trans hc2
   refine cw_true Z (cw_seq (cw_region (lw_op Z Z Z (ow_assign Z Z (lw_nil (ew_then (cw_ret (ew_thenR ?_))))))))
   obtain rfl := sj h
   exact ew_ret (res1 Z (.tmp Z)) ⟨_, Z, ((vbool _)), hC3.bx⟩
  ·
   obtain rfl := hbb1.trans hc2
   refine cw_false Z (cw_skip (ew_then (cw_seq (cw_seq (cw_region (lw_op Z Z Z (ow_fieldAddr Z Z Tryd.underlying38 Z (Tryd.sizeOf3 _) (lw_op Z Z Z (ow_load (R := RInt) Z Z (ARep.mono (hl2.trans hl3) (hp1.fld fld_Rule_Chain)) (Tryd.sizeOf3 _) (Tryd.isAgg3 _) fun v6 hv6 => ?_)))))))))
   obtain rfl := vint_eq hv6
   refine lw_op Z Z Z (ow_fieldAddr Z Z Tryd.underlying38 Z (Tryd.sizeOf3 _) (lw_op Z Z Z (ow_load (R := RInt) Z Z (ARep.mono hl3 (hp2.fld fld_Rule_Chain)) (Tryd.sizeOf3 _) (Tryd.isAgg3 _) fun v7 hv7 => ?_)))
   obtain rfl := vint_eq hv7
   refine lw_op Z Z Z (ow_neqI Z Z Z fun bb2 hbb2 => lw_nil (ew_then ?_))
   replace h := cond_some h
   rcases h with ⟨hc3, h⟩ | ⟨hc3, h⟩
   ·
    obtain rfl := hbb2.trans hc3
    refine cw_true Z (cw_seq (cw_region (lw_op Z Z Z (ow_assign Z Z (lw_nil (ew_then (cw_ret (ew_thenR ?_))))))))
    obtain rfl := sj h
    exact ew_ret (res1 Z (.tmp Z)) ⟨_, Z, ((vbool _)), hC3.bx⟩
   ·
    obtain rfl := hbb2.trans hc3
    refine cw_false Z (cw_skip (ew_then (cw_seq (cw_region (lw_op Z Z Z (ow_assign Z Z (lw_nil (ew_then (cw_ret ?_)))))))))
    obtain rfl := sj h
    exact ew_ret (res1 Z (.tmp Z)) ⟨_, Z, ((vbool _)), hC3.bx⟩
 ·
  subst hc1
  refine cw_true Z (cw_seq (cw_region (lw_op Z Z Z (ow_assign Z Z (lw_nil (ew_then (cw_ret (ew_thenR ?_))))))))
  obtain rfl := sj h
  exact ew_ret (res1 Z (.tmp Z)) ⟨_, Z, ((vbool _)), hC3.bx⟩

theorem w_laws_eqRuleS {w : World} {M : Nat → Prop} (hG : ARep (RArr 4 RShape) w M shapes ⟨0, 0, none⟩) (hO : ∀ b, M b → b < w.heap.size) {v0p : Value} {a_a : List Rule} (h0 : VRep (RSlice RRule) w M a_a v0p) {v1p : Value} {a_b : List Rule} (h1 : VRep (RSlice RRule) w M a_b v1p) {r : Bool} (h : F.laws_eqRuleS a_a a_b = some r) :
  Calls Tryd.prog 164 [v0p, v1p].toArray w fun e w' => ∃ v, e = .returned v ∧ VRep RBool w' M r v ∧ BX No w w' := by
 have hC : Cx No w M w M := Cx.start hO (fun _ e => e.elim)
 refine walk (N := 27) Tryd.func164 Z Tryd.ntmps164 Z (cw_seq (cw_region (lw_op Z Z Z (ow_assign Z Z (lw_nil (ew_then (cw_seq (cw_seq (cw_region (lw_op Z Z Z (ow_move Z Z (lw_op Z Z Z (ow_len Z Z h0 Tryd.underlying39 Z (lw_op Z Z Z (ow_move Z Z (lw_op Z Z Z (ow_len Z Z h1 Tryd.underlying39 Z (lw_op Z Z Z (ow_neqI Z Z Z fun bb1 hbb1 => lw_nil (ew_then ?_))))))))))))))))))))
 replace h := cond_some h
 rcases h with ⟨hc1, h⟩ | ⟨hc1, h⟩
 ·
  obtain rfl := hbb1.trans hc1
  refine cw_true Z (cw_seq (cw_region (lw_op Z Z Z (ow_assign Z Z (lw_nil (ew_then (cw_ret (ew_thenR ?_))))))))
  obtain rfl := sj h
  exact ew_ret (res1 Z (.tmp Z)) ⟨_, Z, ((vbool _)), hC.bx⟩
 ·
  obtain rfl := hbb1.trans hc1
  refine cw_false Z (cw_skip (ew_then (cw_seq (cw_seq (cw_region (lw_op Z Z Z (ow_assign Z Z (lw_nil (ew_then ?_)))))))))
  replace h := bind_some h
  obtain ⟨lr1, hlr1, h⟩ := h
  refine cw_for hlr1 (fun s a w' => ∃ (M' : Nat → Prop), Fits 27 [(0, v0p), (1, v1p), (5, (Zv s))] a ∧ Le w M w' M' ∧ Cx No w M w' M') ?_ ?_ ?_
  · exact fun a ha => ⟨M, ha.sub ⟨Z, Z, Z, Zt⟩, Le.refl _ _, hC⟩
  ·
   rintro k1 a w1 sr1 ⟨M1, hF1, hl1, hC1⟩ hb1 hR1
   refine cw_at (E := [(0, v0p), (1, v1p), (5, (Zv k1))]) hF1 (cw_seq (cw_seq (cw_region (lw_op Z Z Z (ow_move Z Z (lw_op Z Z Z (ow_move Z Z (lw_op Z Z Z (ow_len Z Z (VRep.mono hl1 h0) Tryd.underlying39 Z (lw_op Z Z Z (ow_lss Z Z Z fun bb2 hbb2 => lw_nil (ew_then ?_))))))))))))
   replace hb1 := cond_some hb1
   rcases hb1 with ⟨hc2, hb1⟩ | ⟨hc2, hb1⟩
   ·
    obtain rfl := hbb2.trans hc2
    refine cw_true Z (cw_skip (ew_then (cw_seq (cw_block (cw_seq ?_)))))
    replace hb1 := bind_some hb1
    obtain ⟨x1, hx1, hb1⟩ := hb1
    replace hb1 := bind_some hb1
    obtain ⟨x2, hx2, hb1⟩ := hb1
    refine cw_sub (E' := [(0, v0p), (1, v1p), (5, (Zv k1))]) ⟨Z, Z, Z, Zt⟩ (cw_drawQ 8 [PV (RSlice RRule) M1 a_a, PEq (Zv k1), PA RRule M1 x1, PV RRule M1 x1, PV (RSlice RRule) M1 a_b, PEq (Zv k1), PA RRule M1 x2, PV RRule M1 x2] (by kernel_rfl) Z (by kernel_rfl) ⟨PV.mono _ _ _, Zq, PA.mono _ _ _, PV.mono _ _ _, PV.mono _ _ _, Zq, PA.mono _ _ _, PV.mono _ _ _, Zt⟩ ⟨?_, ?_, ?_, ?_, ?_, ?_, ?_, ?_, Zt⟩ ?_)
    ·
     intro w2 D hS1 hd1
     have hl2 := Le.no M1 hS1
     exact dg_sub (E' := [(0, v0p)]) ⟨Z, Zt⟩ (dg_plain Z (ow_move Z Z ⟨BX.refl _ _, (VRep.mono (hl1.trans hl2) h0)⟩))
    · exact fun w3 D hS2 hd2 => dg_sub (E' := [(5, (Zv k1))]) ⟨Z, Zt⟩ (dg_plain Z (ow_move Z Z Zb))
    ·
     intro w4 D hS3 hd3
     have d1 : PV (RSlice RRule) M1 a_a (D 0) w4 := dpA hd3 0 Z
     generalize hq1 : (D 0) = v4 at d1
     exact dg_sub (E' := [(17, v4), (18, (Zv k1))]) ⟨congrArg some hq1, dpE hd3 1 Z Z, Zt⟩ (dg_plain Z (ow_indexSlice (R := RRule) Z Z Z d1 Tryd.underlying39 (Tryd.sizeOf38 _) hx1 fun p3 hp3 => ⟨BX.refl _ _, ⟨_, Z, hp3⟩⟩))
    ·
     intro w5 D hS4 hd4
     have d3 : PA RRule M1 x1 (D 2) w5 := dpA hd4 2 Z
     obtain ⟨p4, e1, ha1⟩ := d3
     exact dg_sub (E' := [(19, (.pointer (some p4)))]) ⟨congrArg some e1, Zt⟩ (dg_plain Z (ow_load (R := RRule) Z Z ha1 (Tryd.sizeOf38 _) (Tryd.isAgg38 _) fun v5 hv5 => ⟨BX.refl _ _, hv5⟩))
    ·
     intro w6 D hS5 hd5
     have hl6 := Le.no M1 hS5
     exact dg_sub (E' := [(1, v1p)]) ⟨Z, Zt⟩ (dg_plain Z (ow_move Z Z ⟨BX.refl _ _, (VRep.mono (hl1.trans hl6) h1)⟩))
    · exact fun w7 D hS6 hd6 => dg_sub (E' := [(5, (Zv k1))]) ⟨Z, Zt⟩ (dg_plain Z (ow_move Z Z Zb))
    ·
     intro w8 D hS7 hd7
     have d4 : PV (RSlice RRule) M1 a_b (D 4) w8 := dpA hd7 4 Z
     generalize hq2 : (D 4) = v6 at d4
     exact dg_sub (E' := [(21, v6), (22, (Zv k1))]) ⟨congrArg some hq2, dpE hd7 5 Z Z, Zt⟩ (dg_plain Z (ow_indexSlice (R := RRule) Z Z Z d4 Tryd.underlying39 (Tryd.sizeOf38 _) hx2 fun p5 hp5 => ⟨BX.refl _ _, ⟨_, Z, hp5⟩⟩))
    ·
     intro w9 D hS8 hd8
     have d6 : PA RRule M1 x2 (D 6) w9 := dpA hd8 6 Z
     obtain ⟨p6, e2, ha2⟩ := d6
     exact dg_sub (E' := [(23, (.pointer (some p6)))]) ⟨congrArg some e2, Zt⟩ (dg_plain Z (ow_load (R := RRule) Z Z ha2 (Tryd.sizeOf38 _) (Tryd.isAgg38 _) fun v7 hv7 => ⟨BX.refl _ _, hv7⟩))
    ·
     intro w10 D hS9 hd9
     have d10 : PV RRule M1 x1 (D 3) w10 := dpA hd9 3 Z
     have d14 : PV RRule M1 x2 (D 7) w10 := dpA hd9 7 Z
     have hl10 := Le.no M1 hS9
     have hC10 := hC1.no hS9
     generalize hq3 : (D 3) = v8 at d10
     generalize hq4 : (D 7) = v9 at d14
     refine lw_sub (E' := [(20, v8), (24, v9), (0, v0p), (1, v1p), (5, (Zv k1))]) ⟨congrArg some hq3, congrArg some hq4, Z, Z, Z, Zt⟩ ?_
     replace hb1 := bind_some hb1
     obtain ⟨x3, hx3, hb1⟩ := hb1
     refine lw_op Z Z Z (ow_call Z Z Tryd.call185 (w_laws_eqRule (hG.mono (hl1.trans hl10)) hC10.old d10 d14 hx3) fun v10 w11 hv10 => ?_)
     obtain ⟨hv10, hb2⟩ := hv10
     have hl11 := Le.no M1 hb2
     have hC11 := hC10.no hb2
     obtain rfl := vbool_eq hv10
     refine lw_op Z Z Z (ow_not Z Z (lw_nil (ew_then ?_)))
     replace hb1 := cond_some hb1
     rcases hb1 with ⟨hc3, hb1⟩ | ⟨hc3, hb1⟩
     ·
      subst hc3
      refine cw_false Z (cw_skip (ew_blockN (ew_then (cw_region (lw_op Z Z Z (ow_move Z Z (lw_op Z Z Z (ow_add Z Z Z (lw_op Z Z Z (ow_assign Z Z (lw_nil ?_)))))))))))
      have lz1 := ((hl1.trans hl10).trans hl11)
      exact ew_nxt (W (k1 + 1)) hb1 fun a ha => ⟨M1, (ha.sub ⟨Z, Z, Z, Zt⟩), lz1, hC11⟩
     ·
      subst hc3
      refine cw_true Z (cw_seq (cw_region (lw_op Z Z Z (ow_assign Z Z (lw_nil (ew_then (cw_ret (ew_blockR (ew_thenR (ew_thenR (ew_blockR (ew_brkR (ew_thenR ?_)))))))))))))
      have e3 := hR1 _ (sj hb1).symm
      subst e3
      obtain rfl := sj h
      exact ew_ret (res1 Z (.tmp Z)) ⟨_, Z, ((vbool _)), hC11.bx⟩
   ·
    obtain rfl := hbb2.trans hc2
    exact cw_false Z (cw_exit (ew_thenX (ew_thenX (ew_blockX (ew_brk k1 hb1 fun a ha => ⟨M1, (ha.sub ⟨Z, Z, Z, Zt⟩), hl1, hC1⟩)))))
  ·
   rintro k2 a w12 hlr2 ⟨M2, hF2, hl12, hC12⟩
   subst hlr2
   refine ew_at (E := [(0, v0p), (1, v1p), (5, (Zv k2))]) hF2 (ew_then (cw_seq (cw_region (lw_op Z Z Z (ow_assign Z Z (lw_nil (ew_then (cw_ret ?_))))))))
   obtain rfl := sj h
   exact ew_ret (res1 Z (.tmp Z)) ⟨_, Z, ((vbool _)), hC12.bx⟩

theorem w_laws_eqRuleSS {w : World} {M : Nat → Prop} (hG : ARep (RArr 4 RShape) w M shapes ⟨0, 0, none⟩) (hO : ∀ b, M b → b < w.heap.size) {v0p : Value} {a_a : List (List Rule)} (h0 : VRep (RSlice (RSlice RRule)) w M a_a v0p) {v1p : Value} {a_b : List (List Rule)} (h1 : VRep (RSlice (RSlice RRule)) w M a_b v1p) {r : Bool} (h : F.laws_eqRuleSS a_a a_b = some r) :
  Calls Tryd.prog 121 [v0p, v1p].toArray w fun e w' => ∃ v, e = .returned v ∧ VRep RBool w' M r v ∧ BX No w w' := by
 have hC : Cx No w M w M := Cx.start hO (fun _ e => e.elim)
 refine walk (N := 27) Tryd.func121 Z Tryd.ntmps121 Z (cw_seq (cw_region (lw_op Z Z Z (ow_assign Z Z (lw_nil (ew_then (cw_seq (cw_seq (cw_region (lw_op Z Z Z (ow_move Z Z (lw_op Z Z Z (ow_len Z Z h0 Tryd.underlying23 Z (lw_op Z Z Z (ow_move Z Z (lw_op Z Z Z (ow_len Z Z h1 Tryd.underlying23 Z (lw_op Z Z Z (ow_neqI Z Z Z fun bb1 hbb1 => lw_nil (ew_then ?_))))))))))))))))))))
 replace h := cond_some h
 rcases h with ⟨hc1, h⟩ | ⟨hc1, h⟩
 ·
  obtain rfl := hbb1.trans hc1
  refine cw_true Z (cw_seq (cw_region (lw_op Z Z Z (ow_assign Z Z (lw_nil (ew_then (cw_ret (ew_thenR ?_))))))))
  obtain rfl := sj h
  exact ew_ret (res1 Z (.tmp Z)) ⟨_, Z, ((vbool _)), hC.bx⟩
 ·
  obtain rfl := hbb1.trans hc1
  refine cw_false Z (cw_skip (ew_then (cw_seq (cw_seq (cw_region (lw_op Z Z Z (ow_assign Z Z (lw_nil (ew_then ?_)))))))))
  replace h := bind_some h
  obtain ⟨lr1, hlr1, h⟩ := h
  refine cw_for hlr1 (fun s a w' => ∃ (M' : Nat → Prop), Fits 27 [(0, v0p), (1, v1p), (5, (Zv s))] a ∧ Le w M w' M' ∧ Cx No w M w' M') ?_ ?_ ?_
  · exact fun a ha => ⟨M, ha.sub ⟨Z, Z, Z, Zt⟩, Le.refl _ _, hC⟩
  ·
   rintro k1 a w1 sr1 ⟨M1, hF1, hl1, hC1⟩ hb1 hR1
   refine cw_at (E := [(0, v0p), (1, v1p), (5, (Zv k1))]) hF1 (cw_seq (cw_seq (cw_region (lw_op Z Z Z (ow_move Z Z (lw_op Z Z Z (ow_move Z Z (lw_op Z Z Z (ow_len Z Z (VRep.mono hl1 h0) Tryd.underlying23 Z (lw_op Z Z Z (ow_lss Z Z Z fun bb2 hbb2 => lw_nil (ew_then ?_))))))))))))
   replace hb1 := cond_some hb1
   rcases hb1 with ⟨hc2, hb1⟩ | ⟨hc2, hb1⟩
   ·
    obtain rfl := hbb2.trans hc2
    refine cw_true Z (cw_skip (ew_then (cw_seq (cw_block (cw_seq ?_)))))
    replace hb1 := bind_some hb1
    obtain ⟨x1, hx1, hb1⟩ := hb1
    replace hb1 := bind_some hb1
    obtain ⟨x2, hx2, hb1⟩ := hb1
    refine cw_sub (E' := [(0, v0p), (1, v1p), (5, (Zv k1))]) ⟨Z, Z, Z, Zt⟩ (cw_drawQ 8 [PV (RSlice (RSlice RRule)) M1 a_a, PEq (Zv k1), PA (RSlice RRule) M1 x1, PV (RSlice RRule) M1 x1, PV (RSlice (RSlice RRule)) M1 a_b, PEq (Zv k1), PA (RSlice RRule) M1 x2, PV (RSlice RRule) M1 x2] (by kernel_rfl) Z (by kernel_rfl) ⟨PV.mono _ _ _, Zq, PA.mono _ _ _, PV.mono _ _ _, PV.mono _ _ _, Zq, PA.mono _ _ _, PV.mono _ _ _, Zt⟩ ⟨?_, ?_, ?_, ?_, ?_, ?_, ?_, ?_, Zt⟩ ?_)
    ·
     intro w2 D hS1 hd1
     have hl2 := Le.no M1 hS1
     exact dg_sub (E' := [(0, v0p)]) ⟨Z, Zt⟩ (dg_plain Z (ow_move Z Z ⟨BX.refl _ _, (VRep.mono (hl1.trans hl2) h0)⟩))
    · exact fun w3 D hS2 hd2 => dg_sub (E' := [(5, (Zv k1))]) ⟨Z, Zt⟩ (dg_plain Z (ow_move Z Z Zb))
    ·
     intro w4 D hS3 hd3
     have d1 : PV (RSlice (RSlice RRule)) M1 a_a (D 0) w4 := dpA hd3 0 Z
     generalize hq1 : (D 0) = v4 at d1
     exact dg_sub (E' := [(17, v4), (18, (Zv k1))]) ⟨congrArg some hq1, dpE hd3 1 Z Z, Zt⟩ (dg_plain Z (ow_indexSlice (R := (RSlice RRule)) Z Z Z d1 Tryd.underlying23 (Tryd.sizeOf39 _) hx1 fun p3 hp3 => ⟨BX.refl _ _, ⟨_, Z, hp3⟩⟩))
    ·
     intro w5 D hS4 hd4
     have d3 : PA (RSlice RRule) M1 x1 (D 2) w5 := dpA hd4 2 Z
     obtain ⟨p4, e1, ha1⟩ := d3
     exact dg_sub (E' := [(19, (.pointer (some p4)))]) ⟨congrArg some e1, Zt⟩ (dg_plain Z (ow_load (R := (RSlice RRule)) Z Z ha1 (Tryd.sizeOf39 _) (Tryd.isAgg39 _) fun v5 hv5 => ⟨BX.refl _ _, hv5⟩))
    ·
     intro w6 D hS5 hd5
     have hl6 := Le.no M1 hS5
     exact dg_sub (E' := [(1, v1p)]) ⟨Z, Zt⟩ (dg_plain Z (ow_move Z Z ⟨BX.refl _ _, (VRep.mono (hl1.trans hl6) h1)⟩))
    · exact fun w7 D hS6 hd6 => dg_sub (E' := [(5, (Zv k1))]) ⟨Z, Zt⟩ (dg_plain Z (ow_move Z Z Zb))
    ·
     intro w8 D hS7 hd7
     have d4 : PV (RSlice (RSlice RRule)) M1 a_b (D 4) w8 := dpA hd7 4 Z
     generalize hq2 : (D 4) = v6 at d4
     exact dg_sub (E' := [(21, v6), (22, (Zv k1))]) ⟨congrArg some hq2, dpE hd7 5 Z Z, Zt⟩ (dg_plain Z (ow_indexSlice (R := (RSlice RRule)) Z Z Z d4 Tryd.underlying23 (Tryd.sizeOf39 _) hx2 fun p5 hp5 => ⟨BX.refl _ _, ⟨_, Z, hp5⟩⟩))
    ·
     intro w9 D hS8 hd8
     have d6 : PA (RSlice RRule) M1 x2 (D 6) w9 := dpA hd8 6 Z
     obtain ⟨p6, e2, ha2⟩ := d6
     exact dg_sub (E' := [(23, (.pointer (some p6)))]) ⟨congrArg some e2, Zt⟩ (dg_plain Z (ow_load (R := (RSlice RRule)) Z Z ha2 (Tryd.sizeOf39 _) (Tryd.isAgg39 _) fun v7 hv7 => ⟨BX.refl _ _, hv7⟩))
    ·
     intro w10 D hS9 hd9
     have d10 : PV (RSlice RRule) M1 x1 (D 3) w10 := dpA hd9 3 Z
     have d14 : PV (RSlice RRule) M1 x2 (D 7) w10 := dpA hd9 7 Z
     have hl10 := Le.no M1 hS9
     have hC10 := hC1.no hS9
     generalize hq3 : (D 3) = v8 at d10
     generalize hq4 : (D 7) = v9 at d14
     refine lw_sub (E' := [(20, v8), (24, v9), (0, v0p), (1, v1p), (5, (Zv k1))]) ⟨congrArg some hq3, congrArg some hq4, Z, Z, Z, Zt⟩ ?_
     replace hb1 := bind_some hb1
     obtain ⟨x3, hx3, hb1⟩ := hb1
     refine lw_op Z Z Z (ow_call Z Z Tryd.call164 (w_laws_eqRuleS (hG.mono (hl1.trans hl10)) hC10.old d10 d14 hx3) fun v10 w11 hv10 => ?_)
     obtain ⟨hv10, hb2⟩ := hv10
     have hl11 := Le.no M1 hb2
     have hC11 := hC10.no hb2
     obtain rfl := vbool_eq hv10
     refine lw_op Z Z Z (ow_not Z Z (lw_nil (ew_then ?_)))
     replace hb1 := cond_some hb1
     rcases hb1 with ⟨hc3, hb1⟩ | ⟨hc3, hb1⟩
     ·
      subst hc3
      refine cw_false Z (cw_skip (ew_blockN (ew_then (cw_region (lw_op Z Z Z (ow_move Z Z (lw_op Z Z Z (ow_add Z Z Z (lw_op Z Z Z (ow_assign Z Z (lw_nil ?_)))))))))))
      have lz1 := ((hl1.trans hl10).trans hl11)
      exact ew_nxt (W (k1 + 1)) hb1 fun a ha => ⟨M1, (ha.sub ⟨Z, Z, Z, Zt⟩), lz1, hC11⟩
     ·
      subst hc3
      refine cw_true Z (cw_seq (cw_region (lw_op Z Z Z (ow_assign Z Z (lw_nil (ew_then (cw_ret (ew_blockR (ew_thenR (ew_thenR (ew_blockR (ew_brkR (ew_thenR ?_)))))))))))))
      have e3 := hR1 _ (sj hb1).symm
      subst e3
      obtain rfl := sj h
      exact ew_ret (res1 Z (.tmp Z)) ⟨_, Z, ((vbool _)), hC11.bx⟩
   ·
    obtain rfl := hbb2.trans hc2
    exact cw_false Z (cw_exit (ew_thenX (ew_thenX (ew_blockX (ew_brk k1 hb1 fun a ha => ⟨M1, (ha.sub ⟨Z, Z, Z, Zt⟩), hl1, hC1⟩)))))
  ·
   rintro k2 a w12 hlr2 ⟨M2, hF2, hl12, hC12⟩
   subst hlr2
   refine ew_at (E := [(0, v0p), (1, v1p), (5, (Zv k2))]) hF2 (ew_then (cw_seq (cw_region (lw_op Z Z Z (ow_assign Z Z (lw_nil (ew_then (cw_ret ?_))))))))
   obtain rfl := sj h
   exact ew_ret (res1 Z (.tmp Z)) ⟨_, Z, ((vbool _)), hC12.bx⟩

theorem w_laws_eqRuleset {w : World} {M : Nat → Prop} (hG : ARep (RArr 4 RShape) w M shapes ⟨0, 0, none⟩) (hO : ∀ b, M b → b < w.heap.size) {v0p : Value} {a_a : Ruleset} (h0 : VRep RRuleset w M a_a v0p) {v1p : Value} {a_b : Ruleset} (h1 : VRep RRuleset w M a_b v1p) {r : Bool} (h : F.laws_eqRuleset a_a a_b = some r) :
  Calls Tryd.prog 51 [v0p, v1p].toArray w fun e w' => ∃ v, e = .returned v ∧ VRep RBool w' M r v ∧ BX No w w' := by
 have hC : Cx No w M w M := Cx.start hO (fun _ e => e.elim)
 refine walk (N := 16) Tryd.func51 Z Tryd.ntmps51 Z (cw_seq (cw_region (lw_op Z Z Z (ow_box (R := RRuleset) Z Z h0 hC fun p1 w1 hp1 hb1 hl1 hC1 => lw_op Z Z Z (ow_box (R := RRuleset) Z Z (VRep.mono hl1 h1) hC1 fun p2 w2 hp2 hb2 hl2 hC2 => lw_op Z Z Z (ow_assign Z Z (lw_nil (ew_then (cw_seq (cw_seq (cw_region (lw_op Z Z Z (ow_fieldAddr Z Z Tryd.underlying25 Z (Tryd.sizeOf23 _) (lw_op Z Z Z (ow_load (R := (RSlice (RSlice RRule))) Z Z (ARep.mono hl2 (hp1.fld fld_Ruleset_Chains)) (Tryd.sizeOf23 _) (Tryd.isAgg23 _) fun v1 hv1 => lw_op Z Z Z (ow_fieldAddr Z Z Tryd.underlying25 Z (Tryd.sizeOf23 _) (lw_op Z Z Z (ow_load (R := (RSlice (RSlice RRule))) Z Z (hp2.fld fld_Ruleset_Chains) (Tryd.sizeOf23 _) (Tryd.isAgg23 _) fun v2 hv2 => ?_))))))))))))))))))
 replace h := bind_some h
 obtain ⟨x1, hx1, h⟩ := h
 refine lw_op Z Z Z (ow_call Z Z Tryd.call121 (w_laws_eqRuleSS (hG.mono (hl1.trans hl2)) hC2.old hv1 hv2 hx1) fun v3 w3 hv3 => ?_)
 obtain ⟨hv3, hb3⟩ := hv3
 have hl3 := Le.no M hb3
 have hC3 := hC2.no hb3
 obtain rfl := vbool_eq hv3
 refine lw_op Z Z Z (ow_not Z Z (lw_nil (ew_then ?_)))
 replace h := cond_some h
 rcases h with ⟨hc1, h⟩ | ⟨hc1, h⟩
 ·
  subst hc1
  refine cw_false Z (cw_skip (ew_then (cw_seq (cw_seq (cw_region (lw_op Z Z Z (ow_fieldAddr Z Z Tryd.underlying25 Z (Tryd.sizeOf4 _) (lw_op Z Z Z (ow_load (R := RBool) Z Z (ARep.mono (hl2.trans hl3) (hp1.fld fld_Ruleset_Accept)) (Tryd.sizeOf4 _) (Tryd.isAgg4 _) fun v4 hv4 => ?_)))))))))
  obtain ⟨bb1, hbb1, rfl⟩ := vbool_ex hv4
  refine lw_op Z Z Z (ow_fieldAddr Z Z Tryd.underlying25 Z (Tryd.sizeOf4 _) (lw_op Z Z Z (ow_load (R := RBool) Z Z (ARep.mono hl3 (hp2.fld fld_Ruleset_Accept)) (Tryd.sizeOf4 _) (Tryd.isAgg4 _) fun v5 hv5 => ?_)))
  obtain ⟨bb2, hbb2, rfl⟩ := vbool_ex hv5
  refine lw_op Z Z Z (ow_neqB Z Z Z Tryd.underlying4 fun bb3 hbb3 => ?_)
  have hbb3' : bb3 = (a_a.Accept != a_b.Accept) := hbb3.trans (by rw [hbb1, hbb2])
  refine lw_nil (ew_then ?_)
  replace h := cond_some h
  rcases h with ⟨hc2, h⟩ | ⟨hc2, h⟩
  ·
   obtain rfl := hbb3'.trans hc2
   refine cw_true Z (cw_seq (cw_region (lw_op Z Z Z (ow_assign Z Z (lw_nil (ew_then (cw_ret (ew_thenR ?_))))))))
   obtain rfl := sj h
   exact ew_ret (res1 Z (.tmp Z)) ⟨_, Z, ((vbool _)), hC3.bx⟩
  ·
   obtain rfl := hbb3'.trans hc2
   refine cw_false Z (cw_skip (ew_then (cw_seq (cw_region (lw_op Z Z Z (ow_assign Z Z (lw_nil (ew_then (cw_ret ?_)))))))))
   obtain rfl := sj h
   exact ew_ret (res1 Z (.tmp Z)) ⟨_, Z, ((vbool _)), hC3.bx⟩
 ·
  subst hc1
  refine cw_true Z (cw_seq (cw_region (lw_op Z Z Z (ow_assign Z Z (lw_nil (ew_then (cw_ret (ew_thenR ?_))))))))
  obtain rfl := sj h
  exact ew_ret (res1 Z (.tmp Z)) ⟨_, Z, ((vbool _)), hC3.bx⟩

theorem wm_laws_markTestS {Y : Nat → Prop} {w : World} (hU : UFz Y w) {v0p : Value} {a_a : List Test} (h0 : VRep (RSlice RTestA) w (NotY Y) a_a v0p) {a_k : Int} {r : Int} (h : F.laws_markTestS a_a a_k = some r) :
  Calls Tryd.prog 28 [v0p, (.int .i64 a_k)].toArray w fun e w' => ∃ v, e = .returned v ∧ v = .int .i64 r ∧ MK Y w w' := by
 have hO : ∀ b, Y b → b < w.heap.size := fun b h => (hU b h).1
 have hC : Cx Y w Y w Y := Cx.start hO (fun _ h => h)
 refine walk (N := 43) Tryd.func28 Z Tryd.ntmps28 Z (cw_seq (cw_region (lw_op Z Z Z (ow_assign Z Z (lw_nil (ew_then (cw_seq (cw_seq (cw_region (lw_op Z Z Z (ow_assign Z Z (lw_nil (ew_then ?_)))))))))))))
 replace h := bind_some h
 obtain ⟨lr1, hlr1, h⟩ := h
 refine cw_for hlr1 (fun s a w' => ∃ (M' : Nat → Prop), Fits 43 [(0, v0p), (1, (Zv s.1)), (5, (Zv s.2))] a ∧ Le w Y w' M' ∧ Cx Y w Y w' M' ∧ MK Y w w') ?_ ?_ ?_
 · exact fun a ha => ⟨Y, ha.sub ⟨Z, Z, Z, Zt⟩, Le.refl _ _, hC, (MK.refl _ _)⟩
 ·
  rintro ⟨k1, k2⟩ a w1 sr1 ⟨M1, hF1, hl1, hC1, hmk1⟩ hb1 hR1
  refine cw_at (E := [(0, v0p), (1, (Zv k1)), (5, (Zv k2))]) hF1 (cw_seq (cw_seq (cw_region (lw_op Z Z Z (ow_move Z Z (lw_op Z Z Z (ow_move Z Z (lw_op Z Z Z (ow_len Z Z (KnA.vrep (KnA.slice knA_Test) hmk1.kin h0) Tryd.underlying36 Z (lw_op Z Z Z (ow_lss Z Z Z fun bb1 hbb1 => lw_nil (ew_then ?_))))))))))))
  replace hb1 := cond_some hb1
  rcases hb1 with ⟨hc1, hb1⟩ | ⟨hc1, hb1⟩
  ·
   obtain rfl := hbb1.trans hc1
   refine cw_true Z (cw_skip (ew_then (cw_seq (cw_block (cw_seq (cw_region (lw_op Z Z Z (ow_move Z Z (lw_op Z Z Z (ow_move Z Z (lw_op Z Z Z (ow_move Z Z ?_))))))))))))
   replace hb1 := bind_some hb1
   obtain ⟨x1, hx1, hb1⟩ := hb1
   refine lw_op Z Z Z (ow_indexSlice (R := RTestA) Z Z Z (KnA.vrep (KnA.slice knA_Test) hmk1.kin h0) Tryd.underlying36 (Tryd.sizeOf128 _) hx1 fun p1 hp1 => lw_op Z Z Z (ow_fieldAddr Z Z Tryd.underlying128 Z (Tryd.sizeOf3 _) (lw_op0 Z Z (ow_storeK (R := RIntA) Z Z Z (hp1.fld fldA_Test_Field) Z kd_int Z Z (Tryd.sizeOf3 _) (hU.mk hmk1) fun w2 hmk2 => ?_))))
   have hl2 := Le.of_bx M1 hmk2.bx hC1.xm
   have hC2 := hC1.go hmk2.bx (fun b e => .inr e)
   refine lw_nil (ew_then (cw_seq (cw_region (lw_op Z Z Z (ow_move Z Z (lw_op Z Z Z (ow_add Z Z Z (lw_op Z Z Z (ow_assign Z Z (lw_nil (ew_then (cw_seq (cw_region (lw_op Z Z Z (ow_move Z Z (lw_op Z Z Z (ow_move Z Z (lw_op Z Z Z (ow_move Z Z (lw_op Z Z Z (ow_indexSlice (R := RTestA) Z Z Z (KnA.vrep (KnA.slice knA_Test) (hmk1.trans hmk2).kin h0) Tryd.underlying36 (Tryd.sizeOf128 _) hx1 fun p2 hp2 => lw_op Z Z Z (ow_fieldAddr Z Z Tryd.underlying128 Z (Tryd.sizeOf3 _) (lw_op0 Z Z (ow_storeK (R := RIntA) Z Z Z (hp2.fld fldA_Test_Lo) Z kd_int Z Z (Tryd.sizeOf3 _) (hU.mk (hmk1.trans hmk2)) fun w3 hmk3 => ?_))))))))))))))))))))))))
   have hl3 := Le.of_bx M1 hmk3.bx hC2.xm
   have hC3 := hC2.go hmk3.bx (fun b e => .inr e)
   refine lw_nil (ew_then (cw_seq (cw_region (lw_op Z Z Z (ow_move Z Z (lw_op Z Z Z (ow_add Z Z Z (lw_op Z Z Z (ow_assign Z Z (lw_nil (ew_then (cw_seq (cw_region (lw_op Z Z Z (ow_move Z Z (lw_op Z Z Z (ow_move Z Z (lw_op Z Z Z (ow_move Z Z (lw_op Z Z Z (ow_indexSlice (R := RTestA) Z Z Z (KnA.vrep (KnA.slice knA_Test) ((hmk1.trans hmk2).trans hmk3).kin h0) Tryd.underlying36 (Tryd.sizeOf128 _) hx1 fun p3 hp3 => lw_op Z Z Z (ow_fieldAddr Z Z Tryd.underlying128 Z (Tryd.sizeOf3 _) (lw_op0 Z Z (ow_storeK (R := RIntA) Z Z Z (hp3.fld fldA_Test_Hi) Z kd_int Z Z (Tryd.sizeOf3 _) (hU.mk ((hmk1.trans hmk2).trans hmk3)) fun w4 hmk4 => ?_))))))))))))))))))))))))
   have hl4 := Le.of_bx M1 hmk4.bx hC3.xm
   have hC4 := hC3.go hmk4.bx (fun b e => .inr e)
   refine lw_nil (ew_then (cw_seq (cw_region (lw_op Z Z Z (ow_move Z Z (lw_op Z Z Z (ow_add Z Z Z (lw_op Z Z Z (ow_assign Z Z (lw_nil (ew_then (cw_seq (cw_region (lw_op Z Z Z (ow_move Z Z (lw_op Z Z Z (ow_move Z Z (lw_op Z Z Z (ow_move Z Z (lw_op Z Z Z (ow_rem Z Z Z (by decide) (lw_op Z Z Z (ow_eqlI Z Z Z fun bb2 hbb2 => lw_op Z Z Z (ow_indexSlice (R := RTestA) Z Z Z (KnA.vrep (KnA.slice knA_Test) (((hmk1.trans hmk2).trans hmk3).trans hmk4).kin h0) Tryd.underlying36 (Tryd.sizeOf128 _) hx1 fun p4 hp4 => lw_op Z Z Z (ow_fieldAddr Z Z Tryd.underlying128 Z (Tryd.sizeOf4 _) (lw_op0 Z Z (ow_storeK (R := RBoolA) Z Z Z (hp4.fld fldA_Test_Not) Z kd_bool Z Z (Tryd.sizeOf4 _) (hU.mk (((hmk1.trans hmk2).trans hmk3).trans hmk4)) fun w5 hmk5 => ?_)))))))))))))))))))))))))))
   have hl5 := Le.of_bx M1 hmk5.bx hC4.xm
   have hC5 := hC4.go hmk5.bx (fun b e => .inr e)
   refine lw_nil (ew_then (cw_region (lw_op Z Z Z (ow_move Z Z (lw_op Z Z Z (ow_add Z Z Z (lw_op Z Z Z (ow_assign Z Z (lw_nil (ew_blockN (ew_then (cw_region (lw_op Z Z Z (ow_move Z Z (lw_op Z Z Z (ow_add Z Z Z (lw_op Z Z Z (ow_assign Z Z (lw_nil ?_)))))))))))))))))))
   have lz1 := ((((hl1.trans hl2).trans hl3).trans hl4).trans hl5)
   exact ew_nxt ((W ((W ((W ((W (k1 + 1)) + 1)) + 1)) + 1)), (W (k2 + 1))) hb1 fun a ha => ⟨M1, (ha.sub ⟨Z, Z, Z, Zt⟩), lz1, hC5, ((((hmk1.trans hmk2).trans hmk3).trans hmk4).trans hmk5)⟩
  ·
   obtain rfl := hbb1.trans hc1
   exact cw_false Z (cw_exit (ew_thenX (ew_thenX (ew_blockX (ew_brk (k1, k2) hb1 fun a ha => ⟨M1, (ha.sub ⟨Z, Z, Z, Zt⟩), hl1, hC1, hmk1⟩)))))
 ·
  rintro ⟨k3, k4⟩ a w6 hlr2 ⟨M2, hF2, hl6, hC6, hmk6⟩
  subst hlr2
  refine ew_at (E := [(0, v0p), (1, (Zv k3)), (5, (Zv k4))]) hF2 (ew_then (cw_seq (cw_region (lw_op Z Z Z (ow_move Z Z (lw_op Z Z Z (ow_assign Z Z (lw_nil (ew_then (cw_ret ?_))))))))))
  obtain rfl := sj h
  exact ew_ret (res1 Z (.tmp Z)) ⟨_, Z, Z, hmk6⟩

theorem wm_laws_markRuleS {Y : Nat → Prop} {w : World} (hU : UFz Y w) {v0p : Value} {a_a : List Rule} (h0 : VRep (RSlice RRuleA) w (NotY Y) a_a v0p) {a_k : Int} {r : Int} (h : F.laws_markRuleS a_a a_k = some r) :
  Calls Tryd.prog 165 [v0p, (.int .i64 a_k)].toArray w fun e w' => ∃ v, e = .returned v ∧ v = .int .i64 r ∧ MK Y w w' := by
 have hO : ∀ b, Y b → b < w.heap.size := fun b h => (hU b h).1
 have hC : Cx Y w Y w Y := Cx.start hO (fun _ h => h)
 refine walk (N := 34) Tryd.func165 Z Tryd.ntmps165 Z (cw_seq (cw_region (lw_op Z Z Z (ow_assign Z Z (lw_nil (ew_then (cw_seq (cw_seq (cw_region (lw_op Z Z Z (ow_assign Z Z (lw_nil (ew_then ?_)))))))))))))
 replace h := bind_some h
 obtain ⟨lr1, hlr1, h⟩ := h
 refine cw_for hlr1 (fun s a w' => ∃ (M' : Nat → Prop), Fits 34 [(0, v0p), (1, (Zv s.1)), (5, (Zv s.2))] a ∧ Le w Y w' M' ∧ Cx Y w Y w' M' ∧ MK Y w w') ?_ ?_ ?_
 · exact fun a ha => ⟨Y, ha.sub ⟨Z, Z, Z, Zt⟩, Le.refl _ _, hC, (MK.refl _ _)⟩
 ·
  rintro ⟨k1, k2⟩ a w1 sr1 ⟨M1, hF1, hl1, hC1, hmk1⟩ hb1 hR1
  refine cw_at (E := [(0, v0p), (1, (Zv k1)), (5, (Zv k2))]) hF1 (cw_seq (cw_seq (cw_region (lw_op Z Z Z (ow_move Z Z (lw_op Z Z Z (ow_move Z Z (lw_op Z Z Z (ow_len Z Z (KnA.vrep (KnA.slice knA_Rule) hmk1.kin h0) Tryd.underlying39 Z (lw_op Z Z Z (ow_lss Z Z Z fun bb1 hbb1 => lw_nil (ew_then ?_))))))))))))
  replace hb1 := cond_some hb1
  rcases hb1 with ⟨hc1, hb1⟩ | ⟨hc1, hb1⟩
  ·
   obtain rfl := hbb1.trans hc1
   refine cw_true Z (cw_skip (ew_then (cw_seq (cw_block (cw_seq (cw_region (lw_op Z Z Z (ow_move Z Z (lw_op Z Z Z (ow_move Z Z ?_))))))))))
   replace hb1 := bind_some hb1
   obtain ⟨x1, hx1, hb1⟩ := hb1
   refine lw_op Z Z Z (ow_indexSlice (R := RRuleA) Z Z Z (KnA.vrep (KnA.slice knA_Rule) hmk1.kin h0) Tryd.underlying39 (Tryd.sizeOf38 _) hx1 fun p1 hp1 => lw_op Z Z Z (ow_fieldAddr Z Z Tryd.underlying38 Z (Tryd.sizeOf36 _) (lw_op Z Z Z (ow_load (R := (RSlice RTestA)) Z Z (hp1.fld fldA_Rule_Tests) (Tryd.sizeOf36 _) (Tryd.isAgg36 _) fun v3 hv3 => lw_op Z Z Z (ow_move Z Z ?_)))))
   replace hb1 := bind_some hb1
   obtain ⟨x2, hx2, hb1⟩ := hb1
   refine lw_op Z Z Z (ow_call Z Z Tryd.call28 (wm_laws_markTestS (hU.mk hmk1) hv3 hx2) fun v4 w2 hv4 => ?_)
   obtain ⟨rfl, hmk2⟩ := hv4
   have hl2 := Le.of_bx M1 hmk2.bx hC1.xm
   have hC2 := hC1.go hmk2.bx (fun b e => .inr e)
   refine lw_op Z Z Z (ow_assign Z Z (lw_nil (ew_then (cw_seq (cw_region (lw_op Z Z Z (ow_move Z Z (lw_op Z Z Z (ow_move Z Z (lw_op Z Z Z (ow_move Z Z (lw_op Z Z Z (ow_indexSlice (R := RRuleA) Z Z Z (KnA.vrep (KnA.slice knA_Rule) (hmk1.trans hmk2).kin h0) Tryd.underlying39 (Tryd.sizeOf38 _) hx1 fun p2 hp2 => lw_op Z Z Z (ow_fieldAddr Z Z Tryd.underlying38 Z (Tryd.sizeOf3 _) (lw_op0 Z Z (ow_storeK (R := RIntA) Z Z Z (hp2.fld fldA_Rule_Action) Z kd_int Z Z (Tryd.sizeOf3 _) (hU.mk (hmk1.trans hmk2)) fun w3 hmk3 => ?_))))))))))))))))
   have hl3 := Le.of_bx M1 hmk3.bx hC2.xm
   have hC3 := hC2.go hmk3.bx (fun b e => .inr e)
   refine lw_nil (ew_then (cw_seq (cw_region (lw_op Z Z Z (ow_move Z Z (lw_op Z Z Z (ow_add Z Z Z (lw_op Z Z Z (ow_assign Z Z (lw_nil (ew_then (cw_seq (cw_region (lw_op Z Z Z (ow_move Z Z (lw_op Z Z Z (ow_move Z Z (lw_op Z Z Z (ow_move Z Z (lw_op Z Z Z (ow_indexSlice (R := RRuleA) Z Z Z (KnA.vrep (KnA.slice knA_Rule) ((hmk1.trans hmk2).trans hmk3).kin h0) Tryd.underlying39 (Tryd.sizeOf38 _) hx1 fun p3 hp3 => lw_op Z Z Z (ow_fieldAddr Z Z Tryd.underlying38 Z (Tryd.sizeOf3 _) (lw_op0 Z Z (ow_storeK (R := RIntA) Z Z Z (hp3.fld fldA_Rule_Chain) Z kd_int Z Z (Tryd.sizeOf3 _) (hU.mk ((hmk1.trans hmk2).trans hmk3)) fun w4 hmk4 => ?_))))))))))))))))))))))))
   have hl4 := Le.of_bx M1 hmk4.bx hC3.xm
   have hC4 := hC3.go hmk4.bx (fun b e => .inr e)
   refine lw_nil (ew_then (cw_region (lw_op Z Z Z (ow_move Z Z (lw_op Z Z Z (ow_add Z Z Z (lw_op Z Z Z (ow_assign Z Z (lw_nil (ew_blockN (ew_then (cw_region (lw_op Z Z Z (ow_move Z Z (lw_op Z Z Z (ow_add Z Z Z (lw_op Z Z Z (ow_assign Z Z (lw_nil ?_)))))))))))))))))))
   have lz1 := (((hl1.trans hl2).trans hl3).trans hl4)
   exact ew_nxt ((W ((W (x2 + 1)) + 1)), (W (k2 + 1))) hb1 fun a ha => ⟨M1, (ha.sub ⟨Z, Z, Z, Zt⟩), lz1, hC4, (((hmk1.trans hmk2).trans hmk3).trans hmk4)⟩
  ·
   obtain rfl := hbb1.trans hc1
   exact cw_false Z (cw_exit (ew_thenX (ew_thenX (ew_blockX (ew_brk (k1, k2) hb1 fun a ha => ⟨M1, (ha.sub ⟨Z, Z, Z, Zt⟩), hl1, hC1, hmk1⟩)))))
 ·
  rintro ⟨k3, k4⟩ a w5 hlr2 ⟨M2, hF2, hl5, hC5, hmk5⟩
  subst hlr2
  refine ew_at (E := [(0, v0p), (1, (Zv k3)), (5, (Zv k4))]) hF2 (ew_then (cw_seq (cw_region (lw_op Z Z Z (ow_move Z Z (lw_op Z Z Z (ow_assign Z Z (lw_nil (ew_then (cw_ret ?_))))))))))
  obtain rfl := sj h
  exact ew_ret (res1 Z (.tmp Z)) ⟨_, Z, Z, hmk5⟩

theorem wm_laws_markRuleSS {Y : Nat → Prop} {w : World} (hU : UFz Y w) {v0p : Value} {a_a : List (List Rule)} (h0 : VRep (RSlice (RSlice RRuleA)) w (NotY Y) a_a v0p) {a_k : Int} {r : Int} (h : F.laws_markRuleSS a_a a_k = some r) :
  Calls Tryd.prog 122 [v0p, (.int .i64 a_k)].toArray w fun e w' => ∃ v, e = .returned v ∧ v = .int .i64 r ∧ MK Y w w' := by
 have hO : ∀ b, Y b → b < w.heap.size := fun b h => (hU b h).1
 have hC : Cx Y w Y w Y := Cx.start hO (fun _ h => h)
 refine walk (N := 19) Tryd.func122 Z Tryd.ntmps122 Z (cw_seq (cw_region (lw_op Z Z Z (ow_assign Z Z (lw_nil (ew_then (cw_seq (cw_seq (cw_region (lw_op Z Z Z (ow_assign Z Z (lw_nil (ew_then ?_)))))))))))))
 replace h := bind_some h
 obtain ⟨lr1, hlr1, h⟩ := h
 refine cw_for hlr1 (fun s a w' => ∃ (M' : Nat → Prop), Fits 19 [(0, v0p), (1, (Zv s.1)), (5, (Zv s.2))] a ∧ Le w Y w' M' ∧ Cx Y w Y w' M' ∧ MK Y w w') ?_ ?_ ?_
 · exact fun a ha => ⟨Y, ha.sub ⟨Z, Z, Z, Zt⟩, Le.refl _ _, hC, (MK.refl _ _)⟩
 ·
  rintro ⟨k1, k2⟩ a w1 sr1 ⟨M1, hF1, hl1, hC1, hmk1⟩ hb1 hR1
  refine cw_at (E := [(0, v0p), (1, (Zv k1)), (5, (Zv k2))]) hF1 (cw_seq (cw_seq (cw_region (lw_op Z Z Z (ow_move Z Z (lw_op Z Z Z (ow_move Z Z (lw_op Z Z Z (ow_len Z Z (KnA.vrep (KnA.slice (KnA.slice knA_Rule)) hmk1.kin h0) Tryd.underlying23 Z (lw_op Z Z Z (ow_lss Z Z Z fun bb1 hbb1 => lw_nil (ew_then ?_))))))))))))
  replace hb1 := cond_some hb1
  rcases hb1 with ⟨hc1, hb1⟩ | ⟨hc1, hb1⟩
  ·
   obtain rfl := hbb1.trans hc1
   refine cw_true Z (cw_skip (ew_then (cw_seq (cw_block (cw_region (lw_op Z Z Z (ow_move Z Z (lw_op Z Z Z (ow_move Z Z ?_)))))))))
   replace hb1 := bind_some hb1
   obtain ⟨x1, hx1, hb1⟩ := hb1
   refine lw_op Z Z Z (ow_indexSlice (R := (RSlice RRuleA)) Z Z Z (KnA.vrep (KnA.slice (KnA.slice knA_Rule)) hmk1.kin h0) Tryd.underlying23 (Tryd.sizeOf39 _) hx1 fun p1 hp1 => lw_op Z Z Z (ow_load (R := (RSlice RRuleA)) Z Z hp1 (Tryd.sizeOf39 _) (Tryd.isAgg39 _) fun v3 hv3 => lw_op Z Z Z (ow_move Z Z ?_)))
   replace hb1 := bind_some hb1
   obtain ⟨x2, hx2, hb1⟩ := hb1
   refine lw_op Z Z Z (ow_call Z Z Tryd.call165 (wm_laws_markRuleS (hU.mk hmk1) hv3 hx2) fun v4 w2 hv4 => ?_)
   obtain ⟨rfl, hmk2⟩ := hv4
   have hl2 := Le.of_bx M1 hmk2.bx hC1.xm
   have hC2 := hC1.go hmk2.bx (fun b e => .inr e)
   exact lw_op Z Z Z (ow_assign Z Z (lw_nil (ew_blockN (ew_then (cw_region (lw_op Z Z Z (ow_move Z Z (lw_op Z Z Z (ow_add Z Z Z (lw_op Z Z Z (ow_assign Z Z (lw_nil (ew_nxt (x2, (W (k2 + 1))) hb1 fun a ha => ⟨M1, (ha.sub ⟨Z, Z, Z, Zt⟩), (hl1.trans hl2), hC2, (hmk1.trans hmk2)⟩)))))))))))))
  ·
   obtain rfl := hbb1.trans hc1
   exact cw_false Z (cw_exit (ew_thenX (ew_thenX (ew_blockX (ew_brk (k1, k2) hb1 fun a ha => ⟨M1, (ha.sub ⟨Z, Z, Z, Zt⟩), hl1, hC1, hmk1⟩)))))
 ·
  rintro ⟨k3, k4⟩ a w3 hlr2 ⟨M2, hF2, hl3, hC3, hmk3⟩
  subst hlr2
  refine ew_at (E := [(0, v0p), (1, (Zv k3)), (5, (Zv k4))]) hF2 (ew_then (cw_seq (cw_region (lw_op Z Z Z (ow_move Z Z (lw_op Z Z Z (ow_assign Z Z (lw_nil (ew_then (cw_ret ?_))))))))))
  obtain rfl := sj h
  exact ew_ret (res1 Z (.tmp Z)) ⟨_, Z, Z, hmk3⟩

theorem wm_laws_markRuleset {Y : Nat → Prop} {w : World} (hU : UFz Y w) {v0p : Value} {a_a : Ruleset} (h0 : VRep RRulesetA w (NotY Y) a_a v0p) {a_k : Int} {r : Int} (h : F.laws_markRuleset a_a a_k = some r) :
  Calls Tryd.prog 52 [v0p, (.int .i64 a_k)].toArray w fun e w' => ∃ v, e = .returned v ∧ v = .int .i64 r ∧ MK Y w w' := by
 have hO : ∀ b, Y b → b < w.heap.size := fun b h => (hU b h).1
 have hC : Cx Y w Y w Y := Cx.start hO (fun _ h => h)
 refine walk (N := 10) Tryd.func52 Z Tryd.ntmps52 Z (cw_seq (cw_region ?_))
 obtain ⟨A1, c1, bb1, rfl, hw1⟩ := openA_Ruleset h0
 refine lw_op Z Z Z (ow_boxOwn Z Z hC fun g1 w1 hg1 hg2 ho1 hb1 hl1 hC1 => lw_op Z Z Z (ow_assign Z Z (lw_nil (ew_then (cw_seq (cw_region (lw_op Z Z Z (ow_fieldAddr Z Z Tryd.underlying25 Z (Tryd.sizeOf23 _) (lw_op Z Z Z (ow_loadOwn1 Z Z Z ho1 (Tryd.isAgg23 _) Z (lw_op Z Z Z (ow_move Z Z ?_))))))))))))
 replace h := bind_some h
 obtain ⟨x1, hx1, h⟩ := h
 refine lw_op Z Z Z (ow_call Z Z Tryd.call122 (wm_laws_markRuleSS (hU.mk (MK.no (Y := Y) hb1)) (KnA.vrep (KnA.slice (KnA.slice knA_Rule)) (MK.no (Y := Y) hb1).kin hw1) hx1) fun v1 w2 hv1 => ?_)
 obtain ⟨rfl, hmk1⟩ := hv1
 refine lw_op Z Z Z (ow_assign Z Z (lw_nil (ew_then (cw_seq (cw_region (lw_op Z Z Z (ow_move Z Z (lw_op Z Z Z (ow_assign Z Z (lw_nil (ew_then (cw_ret ?_))))))))))))
 obtain rfl := sj h
 exact ew_ret (res1 Z (.tmp Z)) ⟨_, Z, Z, ((MK.no (Y := Y) hb1).trans hmk1)⟩

theorem wr_laws_markIntS {w : World} {M : Nat → Prop} (_hG : ARep (RArr 4 RShape) w M shapes ⟨0, 0, none⟩) (hO : ∀ b, M b → b < w.heap.size) {B : Nat} {v0p : Value} {a_a : List Int} (h0 : OwnRow RInt B 3 w M a_a v0p) {a_k : Int} {r : Int × (List Int)} (h : F.laws_markIntS_r a_a a_k = some r) :
  Calls Tryd.prog 53 [v0p, (.int .i64 a_k)].toArray w fun e w' => ∃ v, e = .returned v ∧ VRep RInt w' M r.1 v ∧ ∃ M', OwnRow RInt B 3 w' M' r.2 v0p ∧ Cx (fun b => v0p.ownBlock = some b) w M w' M' := by
 have hC : Cx (fun b => v0p.ownBlock = some b) w M w M := Cx.start hO (fun b e => h0.mem b e)
 clear _hG
 refine walk (N := 19) Tryd.func53 Z Tryd.ntmps53 Z (cw_seq (cw_region (lw_op Z Z Z (ow_assign Z Z (lw_nil (ew_then (cw_seq (cw_seq (cw_region (lw_op Z Z Z (ow_assign Z Z (lw_nil (ew_then ?_)))))))))))))
 replace h := bind_some h
 obtain ⟨lr1, hlr1, h⟩ := h
 refine cw_for hlr1 (fun s a w' => ∃ (M' : Nat → Prop), Fits 19 [(0, v0p), (1, (Zv s.1)), (5, (Zv s.2.1))] a ∧ Le w M w' M' ∧ Cx (fun b => v0p.ownBlock = some b) w M w' M' ∧ OwnRow RInt B 3 w' M' s.2.2 v0p ∧ (∀ b, (Value.ownBlock v0p) = some b → w.heap.size ≤ b ∨ (fun b => v0p.ownBlock = some b) b)) ?_ ?_ ?_
 · exact fun a ha => ⟨M, ha.sub ⟨Z, Z, Z, Zt⟩, Le.refl _ _, hC, h0, (fun b e => .inr e)⟩
 ·
  rintro ⟨k1, k2, y1⟩ a w1 sr1 ⟨M1, hF1, hl1, hC1, hw1, hge1⟩ hb1 hR1
  refine cw_at (E := [(0, v0p), (1, (Zv k1)), (5, (Zv k2))]) hF1 (cw_seq (cw_seq (cw_region (lw_op Z Z Z (ow_move Z Z (lw_op Z Z Z (ow_move Z Z (lw_op Z Z Z (ow_lenOwn Z Z hw1 Tryd.underlying34 (lw_op Z Z Z (ow_lss Z Z Z fun bb1 hbb1 => lw_nil (ew_then ?_))))))))))))
  replace hb1 := cond_some hb1
  rcases hb1 with ⟨hc1, hb1⟩ | ⟨hc1, hb1⟩
  ·
   obtain rfl := hbb1.trans hc1
   refine cw_true Z (cw_skip (ew_then (cw_seq (cw_block (cw_seq (cw_region (lw_op Z Z Z (ow_move Z Z (lw_op Z Z Z (ow_move Z Z (lw_op Z Z Z (ow_move Z Z ?_))))))))))))
   replace hb1 := bind_some hb1
   obtain ⟨x1, hx1, hb1⟩ := hb1
   exact lw_op Z Z Z (ow_indexRow (R := RInt) Z Z Z hw1 Tryd.underlying34 (Tryd.sizeOf3 _) hx1 (lw_op0 Z Z (ow_storeElX (X := (fun b => v0p.ownBlock = some b)) (R := RInt) (S := RInt) Z Z Z Z hw1 (orow_blk hw1 hx1) hx1 (FldSet.whole RInt) (Tryd.sizeOf3 _) (vint _) hge1 hC1 fun w2 ho1 hb2 hl2 hC2 => lw_nil (ew_then (cw_region (lw_op Z Z Z (ow_move Z Z (lw_op Z Z Z (ow_add Z Z Z (lw_op Z Z Z (ow_assign Z Z (lw_nil (ew_blockN (ew_then (cw_region (lw_op Z Z Z (ow_move Z Z (lw_op Z Z Z (ow_add Z Z Z (lw_op Z Z Z (ow_assign Z Z (lw_nil (ew_nxt ((W (k1 + 1)), (W (k2 + 1)), (List.set y1 (k2 : Int).toNat k1)) hb1 fun a ha => ⟨M1, (ha.sub ⟨Z, Z, Z, Zt⟩), (hl1.trans hl2), hC2, ho1, hge1⟩)))))))))))))))))))))))
  ·
   obtain rfl := hbb1.trans hc1
   exact cw_false Z (cw_exit (ew_thenX (ew_thenX (ew_blockX (ew_brk (k1, k2, y1) hb1 fun a ha => ⟨M1, (ha.sub ⟨Z, Z, Z, Zt⟩), hl1, hC1, hw1, hge1⟩)))))
 ·
  rintro ⟨k3, k4, y2⟩ a w3 hlr2 ⟨M2, hF2, hl3, hC3, hw2, hge2⟩
  subst hlr2
  refine ew_at (E := [(0, v0p), (1, (Zv k3)), (5, (Zv k4))]) hF2 (ew_then (cw_seq (cw_region (lw_op Z Z Z (ow_move Z Z (lw_op Z Z Z (ow_assign Z Z (lw_nil (ew_then (cw_ret ?_))))))))))
  obtain rfl := sj h
  exact ew_ret (res1 Z (.tmp Z)) ⟨_, Z, (vint _), M2, hw2, hC3⟩

theorem w_laws_heldIntS {w : World} {M : Nat → Prop} (_hG : ARep (RArr 4 RShape) w M shapes ⟨0, 0, none⟩) (hO : ∀ b, M b → b < w.heap.size) {v0p : Value} {a_a : List Int} (h0 : VRep (RSlice RInt) w M a_a v0p) {a_k : Int} {r : Int} (h : F.laws_heldIntS a_a a_k = some r) :
  Calls Tryd.prog 54 [v0p, (.int .i64 a_k)].toArray w fun e w' => ∃ v, e = .returned v ∧ VRep RInt w' M r v ∧ BX No w w' := by
 have hC : Cx No w M w M := Cx.start hO (fun _ e => e.elim)
 clear _hG
 refine walk (N := 21) Tryd.func54 Z Tryd.ntmps54 Z (cw_seq (cw_region (lw_op Z Z Z (ow_assign Z Z (lw_nil (ew_then (cw_seq (cw_seq (cw_region (lw_op Z Z Z (ow_assign Z Z (lw_nil (ew_then ?_)))))))))))))
 replace h := bind_some h
 obtain ⟨lr1, hlr1, h⟩ := h
 refine cw_for hlr1 (fun s a w' => ∃ (M' : Nat → Prop), Fits 21 [(0, v0p), (1, (Zv s.1)), (5, (Zv s.2))] a ∧ Le w M w' M' ∧ Cx No w M w' M') ?_ ?_ ?_
 · exact fun a ha => ⟨M, ha.sub ⟨Z, Z, Z, Zt⟩, Le.refl _ _, hC⟩
 ·
  rintro ⟨k1, k2⟩ a w1 sr1 ⟨M1, hF1, hl1, hC1⟩ hb1 hR1
  refine cw_at (E := [(0, v0p), (1, (Zv k1)), (5, (Zv k2))]) hF1 (cw_seq (cw_seq (cw_region (lw_op Z Z Z (ow_move Z Z (lw_op Z Z Z (ow_move Z Z (lw_op Z Z Z (ow_len Z Z (VRep.mono hl1 h0) Tryd.underlying34 Z (lw_op Z Z Z (ow_lss Z Z Z fun bb1 hbb1 => lw_nil (ew_then ?_))))))))))))
  replace hb1 := cond_some hb1
  rcases hb1 with ⟨hc1, hb1⟩ | ⟨hc1, hb1⟩
  ·
   obtain rfl := hbb1.trans hc1
   refine cw_true Z (cw_skip (ew_then (cw_seq (cw_block (cw_seq (cw_seq (cw_region (lw_op Z Z Z (ow_move Z Z (lw_op Z Z Z (ow_move Z Z ?_)))))))))))
   replace hb1 := bind_some hb1
   obtain ⟨x1, hx1, hb1⟩ := hb1
   refine lw_op Z Z Z (ow_indexSlice (R := RInt) Z Z Z (VRep.mono hl1 h0) Tryd.underlying34 (Tryd.sizeOf3 _) hx1 fun p1 hp1 => lw_op Z Z Z (ow_load (R := RInt) Z Z hp1 (Tryd.sizeOf3 _) (Tryd.isAgg3 _) fun v3 hv3 => ?_))
   obtain rfl := vint_eq hv3
   refine lw_op Z Z Z (ow_move Z Z (lw_op Z Z Z (ow_neqI Z Z Z fun bb2 hbb2 => lw_nil (ew_then ?_))))
   replace hb1 := cond_some hb1
   rcases hb1 with ⟨hc2, hb1⟩ | ⟨hc2, hb1⟩
   ·
    obtain rfl := hbb2.trans hc2
    refine cw_true Z (cw_seq (cw_region (lw_op Z Z Z (ow_assign Z Z (lw_nil (ew_then (cw_ret (ew_thenR (ew_blockR (ew_thenR (ew_thenR (ew_blockR (ew_brkR (ew_thenR ?_))))))))))))))
    have e1 := hR1 _ (sj hb1).symm
    subst e1
    obtain rfl := sj h
    exact ew_ret (res1 Z (.tmp Z)) ⟨_, Z, ((vint _)), hC1.bx⟩
   ·
    obtain rfl := hbb2.trans hc2
    exact cw_false Z (cw_skip (ew_then (cw_region (lw_op Z Z Z (ow_move Z Z (lw_op Z Z Z (ow_add Z Z Z (lw_op Z Z Z (ow_assign Z Z (lw_nil (ew_blockN (ew_then (cw_region (lw_op Z Z Z (ow_move Z Z (lw_op Z Z Z (ow_add Z Z Z (lw_op Z Z Z (ow_assign Z Z (lw_nil (ew_nxt ((W (k1 + 1)), (W (k2 + 1))) hb1 fun a ha => ⟨M1, (ha.sub ⟨Z, Z, Z, Zt⟩), hl1, hC1⟩)))))))))))))))))))))
  ·
   obtain rfl := hbb1.trans hc1
   exact cw_false Z (cw_exit (ew_thenX (ew_thenX (ew_blockX (ew_brk (k1, k2) hb1 fun a ha => ⟨M1, (ha.sub ⟨Z, Z, Z, Zt⟩), hl1, hC1⟩)))))
 ·
  rintro ⟨k3, k4⟩ a w2 hlr2 ⟨M2, hF2, hl2, hC2⟩
  subst hlr2
  refine ew_at (E := [(0, v0p), (1, (Zv k3)), (5, (Zv k4))]) hF2 (ew_then (cw_seq (cw_region (lw_op Z Z Z (ow_move Z Z (lw_op Z Z Z (ow_assign Z Z (lw_nil (ew_then (cw_ret ?_))))))))))
  obtain rfl := sj h
  exact ew_ret (res1 Z (.tmp Z)) ⟨_, Z, ((vint _)), hC2.bx⟩

theorem w_spec_l1In {w : World} {M : Nat → Prop} (_hG : ARep (RArr 4 RShape) w M shapes ⟨0, 0, none⟩) (hO : ∀ b, M b → b < w.heap.size) {a_n : Int} {a_lo : Int} {a_hi : Int} {r : Bool} (h : F.spec_l1In a_n a_lo a_hi = some r) :
  Calls Tryd.prog 118 [(.int .i64 a_n), (.int .i64 a_lo), (.int .i64 a_hi)].toArray w fun e w' => ∃ v, e = .returned v ∧ VRep RBool w' M r v ∧ BX No w w' := by
 have hC : Cx No w M w M := Cx.start hO (fun _ e => e.elim)
 clear _hG
 refine walk (N := 15) Tryd.func118 Z Tryd.ntmps118 Z (cw_seq (cw_region (lw_op Z Z Z (ow_assign Z Z (lw_nil (ew_then (cw_seq (cw_region (lw_op Z Z Z (ow_move Z Z (lw_op Z Z Z (ow_move Z Z (lw_op Z Z Z (ow_geq Z Z Z fun bb1 hbb1 => lw_op Z Z Z (ow_move Z Z ?_)))))))))))))))
 replace h := cond_some h
 rcases h with ⟨hc1, h⟩ | ⟨hc1, h⟩
 ·
  obtain rfl := hbb1.trans hc1
  refine lw_on Z Z Z Z Z Z (ow_move Z Z (lw_on Z Z Z Z Z Z (ow_move Z Z (lw_on Z Z Z Z Z Z (ow_leq Z Z Z fun bb2 hbb2 => lw_op Z Z Z (ow_pickT Z Z Z (lw_op Z Z Z (ow_assign Z Z (lw_nil (ew_then (cw_ret ?_)))))))))))
  obtain rfl := sj h
  exact ew_ret (res1 Z (.tmp Z)) ⟨_, Z, ((vbool_of hbb2)), hC.bx⟩
 ·
  obtain rfl := hbb1.trans hc1
  refine lw_off Z Z Z Z Z Z (lw_off Z Z Z Z Z Z (lw_off Z Z Z Z Z Z (lw_op Z Z Z (ow_pickF Z Z Z (lw_op Z Z Z (ow_assign Z Z (lw_nil (ew_then (cw_ret ?_)))))))))
  obtain rfl := sj h
  exact ew_ret (res1 Z (.tmp Z)) ⟨_, Z, ((vbool _)), hC.bx⟩

theorem w_spec_FieldTop {w : World} {M : Nat → Prop} (_hG : ARep (RArr 4 RShape) w M shapes ⟨0, 0, none⟩) (hO : ∀ b, M b → b < w.heap.size) {a_n : Int} {r : Int} (h : F.spec_FieldTop a_n = some r) :
  Calls Tryd.prog 88 [(.int .i64 a_n)].toArray w fun e w' => ∃ v, e = .returned v ∧ VRep RInt w' M r v ∧ BX No w w' := by
 have hC : Cx No w M w M := Cx.start hO (fun _ e => e.elim)
 clear _hG
 refine walk (N := 11) Tryd.func88 Z Tryd.ntmps88 Z (cw_seq (cw_region (lw_op Z Z Z (ow_assign Z Z (lw_nil (ew_then (cw_seq (cw_seq (cw_region (lw_op Z Z Z (ow_move Z Z (lw_nil (ew_then (cw_block (cw_seq (cw_seq (cw_region (lw_op Z Z Z (ow_eqlI Z Z Z fun bb1 hbb1 => lw_op Z Z Z (ow_assign Z Z (lw_nil (ew_then ?_))))))))))))))))))))))
 replace h := cond_some h
 rcases h with ⟨hc1, h⟩ | ⟨hc1, h⟩
 ·
  obtain rfl := hbb1.trans hc1
  refine cw_true Z (cw_skip (ew_then (cw_true Z (cw_seq (cw_region (lw_op Z Z Z (ow_assign Z Z (lw_nil (ew_then (cw_ret (ew_blockR (ew_thenR ?_))))))))))))
  obtain rfl := sj h
  exact ew_ret (res1 Z (.tmp Z)) ⟨_, Z, ((vint _)), hC.bx⟩
 ·
  obtain rfl := hbb1.trans hc1
  refine cw_false Z (cw_region (lw_op Z Z Z (ow_eqlI Z Z Z fun bb2 hbb2 => lw_op Z Z Z (ow_assign Z Z (lw_nil (ew_then ?_))))))
  replace h := cond_some h
  rcases h with ⟨hc2, h⟩ | ⟨hc2, h⟩
  ·
   obtain rfl := hbb2.trans hc2
   refine cw_true Z (cw_seq (cw_region (lw_op Z Z Z (ow_assign Z Z (lw_nil (ew_then (cw_ret (ew_blockR (ew_thenR ?_)))))))))
   obtain rfl := sj h
   exact ew_ret (res1 Z (.tmp Z)) ⟨_, Z, ((vint _)), hC.bx⟩
  ·
   obtain rfl := hbb2.trans hc2
   refine cw_false Z (cw_seq (cw_region (lw_op Z Z Z (ow_eqlI Z Z Z fun bb3 hbb3 => lw_op Z Z Z (ow_assign Z Z (lw_nil (ew_then ?_)))))))
   replace h := cond_some h
   rcases h with ⟨hc3, h⟩ | ⟨hc3, h⟩
   ·
    obtain rfl := hbb3.trans hc3
    refine cw_true Z (cw_seq (cw_region (lw_op Z Z Z (ow_assign Z Z (lw_nil (ew_then (cw_ret (ew_blockR (ew_thenR ?_)))))))))
    obtain rfl := sj h
    exact ew_ret (res1 Z (.tmp Z)) ⟨_, Z, ((vint _)), hC.bx⟩
   ·
    obtain rfl := hbb3.trans hc3
    refine cw_false Z (cw_seq (cw_region (lw_op Z Z Z (ow_eqlI Z Z Z fun bb4 hbb4 => lw_op Z Z Z (ow_assign Z Z (lw_nil (ew_then ?_)))))))
    replace h := cond_some h
    rcases h with ⟨hc4, h⟩ | ⟨hc4, h⟩
    ·
     obtain rfl := hbb4.trans hc4
     refine cw_true Z (cw_seq (cw_region (lw_op Z Z Z (ow_assign Z Z (lw_nil (ew_then (cw_ret (ew_blockR (ew_thenR ?_)))))))))
     obtain rfl := sj h
     exact ew_ret (res1 Z (.tmp Z)) ⟨_, Z, ((vint _)), hC.bx⟩
    ·
     obtain rfl := hbb4.trans hc4
     refine cw_false Z (cw_skip (ew_blockN (ew_then (cw_seq (cw_region (lw_op Z Z Z (ow_assign Z Z (lw_nil (ew_then (cw_ret ?_))))))))))
     obtain rfl := sj h
     exact ew_ret (res1 Z (.tmp Z)) ⟨_, Z, ((vint _)), hC.bx⟩

theorem w_spec_TestValid {w : World} {M : Nat → Prop} (hG : ARep (RArr 4 RShape) w M shapes ⟨0, 0, none⟩) (hO : ∀ b, M b → b < w.heap.size) {v0p : Value} {a_t : Test} (h0 : VRep RTest w M a_t v0p) {r : Bool} (h : F.spec_TestValid a_t = some r) :
  Calls Tryd.prog 157 [v0p].toArray w fun e w' => ∃ v, e = .returned v ∧ VRep RBool w' M r v ∧ BX No w w' := by
 have hC : Cx No w M w M := Cx.start hO (fun _ e => e.elim)
 refine walk (N := 21) Tryd.func157 Z Tryd.ntmps157 Z (cw_seq (cw_region (lw_op Z Z Z (ow_box (R := RTest) Z Z h0 hC fun p1 w1 hp1 hb1 hl1 hC1 => lw_op Z Z Z (ow_assign Z Z (lw_nil (ew_then (cw_seq ?_))))))))
 replace h := bind_some h
 obtain ⟨x1, hx1, h⟩ := h
 replace h := cond_some h
 rcases h with ⟨hc1, h⟩ | ⟨hc1, h⟩
 ·
  subst hc1
  replace h := bind_some h
  obtain ⟨x2, hx2, h⟩ := h
  replace h := cond_some h
  rcases h with ⟨hc2, h⟩ | ⟨hc2, h⟩
  ·
   subst hc2
   replace h := bind_some h
   obtain ⟨x3, hx3, h⟩ := h
   refine cw_sub (E' := [(1, (.pointer (some p1))), (2, (.bool false))]) ⟨Z, Z, Zt⟩ (cw_drawQ 16 [PA RInt M a_t.Field, PEq (Zv a_t.Field), PEq (.bool true), PEq (.bool true), PA RInt M a_t.Lo, PEq (Zv a_t.Lo), PA RInt M a_t.Hi, PEq (Zv a_t.Hi), PEq (.bool true), PEq (.bool true), PEq (.bool true), PA RInt M a_t.Hi, PEq (Zv a_t.Hi), PA RInt M a_t.Field, PEq (Zv a_t.Field), PEq (Zv x3)] (by kernel_rfl) Z (by kernel_rfl) ⟨PA.mono _ _ _, Zq, Zq, Zq, PA.mono _ _ _, Zq, PA.mono _ _ _, Zq, Zq, Zq, Zq, PA.mono _ _ _, Zq, PA.mono _ _ _, Zq, Zq, Zt⟩ ⟨?_, ?_, ?_, ?_, ?_, ?_, ?_, ?_, ?_, ?_, ?_, ?_, ?_, ?_, ?_, ?_, Zt⟩ ?_)
   ·
    intro w5 D hS1 hd1
    have hl5 := Le.no M hS1
    exact dg_sub (E' := [(1, (.pointer (some p1)))]) ⟨Z, Zt⟩ (dg_plain Z (ow_fieldAddr Z Z Tryd.underlying128 Z (Tryd.sizeOf3 _) ⟨BX.refl _ _, ⟨_, Z, (ARep.mono hl5 (hp1.fld fld_Test_Field))⟩⟩))
   ·
    intro w6 D hS2 hd2
    have d1 : PA RInt M a_t.Field (D 0) w6 := dpA hd2 0 Z
    obtain ⟨p2, e1, ha1⟩ := d1
    refine dg_sub (E' := [(3, (.pointer (some p2)))]) ⟨congrArg some e1, Zt⟩ (dg_plain Z (ow_load (R := RInt) Z Z ha1 (Tryd.sizeOf3 _) (Tryd.isAgg3 _) fun v9 hv9 => ?_))
    obtain rfl := vint_eq hv9
    exact Zb
   ·
    intro w7 D hS3 hd3
    have hl7 := Le.no M hS3
    have hC7 := hC1.no hS3
    refine dg_sub (E' := [(4, (Zv a_t.Field))]) ⟨dpE hd3 1 Z Z, Zt⟩ (dg_plain Z (ow_call Z Z Tryd.call118 (w_spec_l1In (hG.mono (hl1.trans hl7)) hC7.old hx1) fun v10 w8 hv10 => ?_))
    obtain ⟨hv10, hb5⟩ := hv10
    obtain rfl := vbool_eq hv10
    exact ⟨hb5, Z⟩
   · exact fun w9 D hS4 hd4 => dg_sub (E' := [(5, (.bool true))]) ⟨dpE hd4 2 Z Z, Zt⟩ (dg_plain Z (ow_move Z Z Zb))
   ·
    intro w10 D hS5 hd5
    have hl10 := Le.no M hS5
    exact dg_sub (E' := [(6, (.bool true)), (1, (.pointer (some p1)))]) ⟨dpE hd5 3 Z Z, Z, Zt⟩ (dg_on Z Z Z Z (ow_fieldAddr Z Z Tryd.underlying128 Z (Tryd.sizeOf3 _) ⟨BX.refl _ _, ⟨_, Z, (ARep.mono hl10 (hp1.fld fld_Test_Lo))⟩⟩))
   ·
    intro w11 D hS6 hd6
    have d6 : PA RInt M a_t.Lo (D 4) w11 := dpA hd6 4 Z
    obtain ⟨p3, e2, ha2⟩ := d6
    refine dg_sub (E' := [(7, (.pointer (some p3))), (6, (.bool true))]) ⟨congrArg some e2, dpE hd6 3 Z Z, Zt⟩ (dg_on Z Z Z Z (ow_load (R := RInt) Z Z ha2 (Tryd.sizeOf3 _) (Tryd.isAgg3 _) fun v11 hv11 => ?_))
    obtain rfl := vint_eq hv11
    exact Zb
   ·
    intro w12 D hS7 hd7
    have hl12 := Le.no M hS7
    exact dg_sub (E' := [(6, (.bool true)), (1, (.pointer (some p1)))]) ⟨dpE hd7 3 Z Z, Z, Zt⟩ (dg_on Z Z Z Z (ow_fieldAddr Z Z Tryd.underlying128 Z (Tryd.sizeOf3 _) ⟨BX.refl _ _, ⟨_, Z, (ARep.mono hl12 (hp1.fld fld_Test_Hi))⟩⟩))
   ·
    intro w13 D hS8 hd8
    have d9 : PA RInt M a_t.Hi (D 6) w13 := dpA hd8 6 Z
    obtain ⟨p4, e3, ha3⟩ := d9
    refine dg_sub (E' := [(9, (.pointer (some p4))), (6, (.bool true))]) ⟨congrArg some e3, dpE hd8 3 Z Z, Zt⟩ (dg_on Z Z Z Z (ow_load (R := RInt) Z Z ha3 (Tryd.sizeOf3 _) (Tryd.isAgg3 _) fun v12 hv12 => ?_))
    obtain rfl := vint_eq hv12
    exact Zb
   ·
    intro w14 D hS9 hd9
    have hl14 := Le.no M hS9
    have hC14 := hC1.no hS9
    refine dg_sub (E' := [(8, (Zv a_t.Lo)), (10, (Zv a_t.Hi)), (6, (.bool true))]) ⟨dpE hd9 5 Z Z, dpE hd9 7 Z Z, dpE hd9 3 Z Z, Zt⟩ (dg_on Z Z Z Z (ow_call Z Z Tryd.call118 (w_spec_l1In (hG.mono (hl1.trans hl14)) hC14.old hx2) fun v13 w15 hv13 => ?_))
    obtain ⟨hv13, hb6⟩ := hv13
    obtain rfl := vbool_eq hv13
    exact ⟨hb6, Z⟩
   · exact fun w16 D hS10 hd10 => dg_sub (E' := [(6, (.bool true)), (11, (.bool true))]) ⟨dpE hd10 3 Z Z, dpE hd10 8 Z Z, Zt⟩ (dg_plain Z (ow_pickT Z Z Z Zb))
   · exact fun w17 D hS11 hd11 => dg_sub (E' := [(12, (.bool true))]) ⟨dpE hd11 9 Z Z, Zt⟩ (dg_plain Z (ow_move Z Z Zb))
   ·
    intro w18 D hS12 hd12
    have hl18 := Le.no M hS12
    exact dg_sub (E' := [(13, (.bool true)), (1, (.pointer (some p1)))]) ⟨dpE hd12 10 Z Z, Z, Zt⟩ (dg_on Z Z Z Z (ow_fieldAddr Z Z Tryd.underlying128 Z (Tryd.sizeOf3 _) ⟨BX.refl _ _, ⟨_, Z, (ARep.mono hl18 (hp1.fld fld_Test_Hi))⟩⟩))
   ·
    intro w19 D hS13 hd13
    have d20 : PA RInt M a_t.Hi (D 11) w19 := dpA hd13 11 Z
    obtain ⟨p5, e4, ha4⟩ := d20
    refine dg_sub (E' := [(14, (.pointer (some p5))), (13, (.bool true))]) ⟨congrArg some e4, dpE hd13 10 Z Z, Zt⟩ (dg_on Z Z Z Z (ow_load (R := RInt) Z Z ha4 (Tryd.sizeOf3 _) (Tryd.isAgg3 _) fun v14 hv14 => ?_))
    obtain rfl := vint_eq hv14
    exact Zb
   ·
    intro w20 D hS14 hd14
    have hl20 := Le.no M hS14
    exact dg_sub (E' := [(13, (.bool true)), (1, (.pointer (some p1)))]) ⟨dpE hd14 10 Z Z, Z, Zt⟩ (dg_on Z Z Z Z (ow_fieldAddr Z Z Tryd.underlying128 Z (Tryd.sizeOf3 _) ⟨BX.refl _ _, ⟨_, Z, (ARep.mono hl20 (hp1.fld fld_Test_Field))⟩⟩))
   ·
    intro w21 D hS15 hd15
    have d23 : PA RInt M a_t.Field (D 13) w21 := dpA hd15 13 Z
    obtain ⟨p6, e5, ha5⟩ := d23
    refine dg_sub (E' := [(16, (.pointer (some p6))), (13, (.bool true))]) ⟨congrArg some e5, dpE hd15 10 Z Z, Zt⟩ (dg_on Z Z Z Z (ow_load (R := RInt) Z Z ha5 (Tryd.sizeOf3 _) (Tryd.isAgg3 _) fun v15 hv15 => ?_))
    obtain rfl := vint_eq hv15
    exact Zb
   ·
    intro w22 D hS16 hd16
    have hl22 := Le.no M hS16
    have hC22 := hC1.no hS16
    refine dg_sub (E' := [(17, (Zv a_t.Field)), (13, (.bool true))]) ⟨dpE hd16 14 Z Z, dpE hd16 10 Z Z, Zt⟩ (dg_on Z Z Z Z (ow_call Z Z Tryd.call88 (w_spec_FieldTop (hG.mono (hl1.trans hl22)) hC22.old hx3) fun v16 w23 hv16 => ?_))
    obtain ⟨hv16, hb7⟩ := hv16
    obtain rfl := vint_eq hv16
    exact ⟨hb7, Z⟩
   ·
    intro w24 D hS17 hd17
    have hC24 := hC1.no hS17
    refine lw_sub (E' := [(13, (.bool true)), (15, (Zv a_t.Hi)), (18, (Zv x3)), (1, (.pointer (some p1))), (2, (.bool false))]) ⟨dpE hd17 10 Z Z, dpE hd17 12 Z Z, dpE hd17 15 Z Z, Z, Z, Zt⟩ (lw_on Z Z Z Z Z Z (ow_leq Z Z Z fun bb1 hbb1 => lw_op Z Z Z (ow_pickT Z Z Z (lw_op Z Z Z (ow_assign Z Z (lw_nil (ew_then (cw_ret ?_))))))))
    obtain rfl := sj h
    exact ew_ret (res1 Z (.tmp Z)) ⟨_, Z, ((vbool_of hbb1)), hC24.bx⟩
  ·
   subst hc2
   refine cw_sub (E' := [(1, (.pointer (some p1))), (2, (.bool false))]) ⟨Z, Z, Zt⟩ (cw_drawQ 16 [PA RInt M a_t.Field, PEq (Zv a_t.Field), PEq (.bool true), PEq (.bool true), PA RInt M a_t.Lo, PEq (Zv a_t.Lo), PA RInt M a_t.Hi, PEq (Zv a_t.Hi), PEq (.bool false), PEq (.bool false), PEq (.bool false), PEq undef, PEq undef, PEq undef, PEq undef, PEq undef] (by kernel_rfl) Z (by kernel_rfl) ⟨PA.mono _ _ _, Zq, Zq, Zq, PA.mono _ _ _, Zq, PA.mono _ _ _, Zq, Zq, Zq, Zq, Zq, Zq, Zq, Zq, Zq, Zt⟩ ⟨?_, ?_, ?_, ?_, ?_, ?_, ?_, ?_, ?_, ?_, ?_, ?_, ?_, ?_, ?_, ?_, Zt⟩ ?_)
   ·
    intro w25 D hS18 hd18
    have hl25 := Le.no M hS18
    exact dg_sub (E' := [(1, (.pointer (some p1)))]) ⟨Z, Zt⟩ (dg_plain Z (ow_fieldAddr Z Z Tryd.underlying128 Z (Tryd.sizeOf3 _) ⟨BX.refl _ _, ⟨_, Z, (ARep.mono hl25 (hp1.fld fld_Test_Field))⟩⟩))
   ·
    intro w26 D hS19 hd19
    have d44 : PA RInt M a_t.Field (D 0) w26 := dpA hd19 0 Z
    obtain ⟨p7, e6, ha6⟩ := d44
    refine dg_sub (E' := [(3, (.pointer (some p7)))]) ⟨congrArg some e6, Zt⟩ (dg_plain Z (ow_load (R := RInt) Z Z ha6 (Tryd.sizeOf3 _) (Tryd.isAgg3 _) fun v17 hv17 => ?_))
    obtain rfl := vint_eq hv17
    exact Zb
   ·
    intro w27 D hS20 hd20
    have hl27 := Le.no M hS20
    have hC27 := hC1.no hS20
    refine dg_sub (E' := [(4, (Zv a_t.Field))]) ⟨dpE hd20 1 Z Z, Zt⟩ (dg_plain Z (ow_call Z Z Tryd.call118 (w_spec_l1In (hG.mono (hl1.trans hl27)) hC27.old hx1) fun v18 w28 hv18 => ?_))
    obtain ⟨hv18, hb8⟩ := hv18
    obtain rfl := vbool_eq hv18
    exact ⟨hb8, Z⟩
   · exact fun w29 D hS21 hd21 => dg_sub (E' := [(5, (.bool true))]) ⟨dpE hd21 2 Z Z, Zt⟩ (dg_plain Z (ow_move Z Z Zb))
   ·
    intro w30 D hS22 hd22
    have hl30 := Le.no M hS22
    exact dg_sub (E' := [(6, (.bool true)), (1, (.pointer (some p1)))]) ⟨dpE hd22 3 Z Z, Z, Zt⟩ (dg_on Z Z Z Z (ow_fieldAddr Z Z Tryd.underlying128 Z (Tryd.sizeOf3 _) ⟨BX.refl _ _, ⟨_, Z, (ARep.mono hl30 (hp1.fld fld_Test_Lo))⟩⟩))
   ·
    intro w31 D hS23 hd23
    have d49 : PA RInt M a_t.Lo (D 4) w31 := dpA hd23 4 Z
    obtain ⟨p8, e7, ha7⟩ := d49
    refine dg_sub (E' := [(7, (.pointer (some p8))), (6, (.bool true))]) ⟨congrArg some e7, dpE hd23 3 Z Z, Zt⟩ (dg_on Z Z Z Z (ow_load (R := RInt) Z Z ha7 (Tryd.sizeOf3 _) (Tryd.isAgg3 _) fun v19 hv19 => ?_))
    obtain rfl := vint_eq hv19
    exact Zb
   ·
    intro w32 D hS24 hd24
    have hl32 := Le.no M hS24
    exact dg_sub (E' := [(6, (.bool true)), (1, (.pointer (some p1)))]) ⟨dpE hd24 3 Z Z, Z, Zt⟩ (dg_on Z Z Z Z (ow_fieldAddr Z Z Tryd.underlying128 Z (Tryd.sizeOf3 _) ⟨BX.refl _ _, ⟨_, Z, (ARep.mono hl32 (hp1.fld fld_Test_Hi))⟩⟩))
   ·
    intro w33 D hS25 hd25
    have d52 : PA RInt M a_t.Hi (D 6) w33 := dpA hd25 6 Z
    obtain ⟨p9, e8, ha8⟩ := d52
    refine dg_sub (E' := [(9, (.pointer (some p9))), (6, (.bool true))]) ⟨congrArg some e8, dpE hd25 3 Z Z, Zt⟩ (dg_on Z Z Z Z (ow_load (R := RInt) Z Z ha8 (Tryd.sizeOf3 _) (Tryd.isAgg3 _) fun v20 hv20 => ?_))
    obtain rfl := vint_eq hv20
    exact Zb
   ·
    intro w34 D hS26 hd26
    have hl34 := Le.no M hS26
    have hC34 := hC1.no hS26
    refine dg_sub (E' := [(8, (Zv a_t.Lo)), (10, (Zv a_t.Hi)), (6, (.bool true))]) ⟨dpE hd26 5 Z Z, dpE hd26 7 Z Z, dpE hd26 3 Z Z, Zt⟩ (dg_on Z Z Z Z (ow_call Z Z Tryd.call118 (w_spec_l1In (hG.mono (hl1.trans hl34)) hC34.old hx2) fun v21 w35 hv21 => ?_))
    obtain ⟨hv21, hb9⟩ := hv21
    obtain rfl := vbool_eq hv21
    exact ⟨hb9, Z⟩
   · exact fun w36 D hS27 hd27 => dg_sub (E' := [(6, (.bool true)), (11, (.bool false))]) ⟨dpE hd27 3 Z Z, dpE hd27 8 Z Z, Zt⟩ (dg_plain Z (ow_pickT Z Z Z Zb))
   · exact fun w37 D hS28 hd28 => dg_sub (E' := [(12, (.bool false))]) ⟨dpE hd28 9 Z Z, Zt⟩ (dg_plain Z (ow_move Z Z Zb))
   · exact fun w38 D hS29 hd29 => dg_sub (E' := [(13, (.bool false)), (1, (.pointer (some p1)))]) ⟨dpE hd29 10 Z Z, Z, Zt⟩ (dg_off Z Z Z Z Zb)
   · exact fun w39 D hS30 hd30 => dg_sub (E' := [(14, undef), (13, (.bool false))]) ⟨dpE hd30 11 Z Z, dpE hd30 10 Z Z, Zt⟩ (dg_off Z Z Z Z Zb)
   · exact fun w40 D hS31 hd31 => dg_sub (E' := [(13, (.bool false)), (1, (.pointer (some p1)))]) ⟨dpE hd31 10 Z Z, Z, Zt⟩ (dg_off Z Z Z Z Zb)
   · exact fun w41 D hS32 hd32 => dg_sub (E' := [(16, undef), (13, (.bool false))]) ⟨dpE hd32 13 Z Z, dpE hd32 10 Z Z, Zt⟩ (dg_off Z Z Z Z Zb)
   · exact fun w42 D hS33 hd33 => dg_sub (E' := [(17, undef), (13, (.bool false))]) ⟨dpE hd33 14 Z Z, dpE hd33 10 Z Z, Zt⟩ (dg_off Z Z Z Z Zb)
   ·
    intro w43 D hS34 hd34
    have hC43 := hC1.no hS34
    refine lw_sub (E' := [(13, (.bool false)), (15, undef), (18, undef), (1, (.pointer (some p1))), (2, (.bool false))]) ⟨dpE hd34 10 Z Z, dpE hd34 12 Z Z, dpE hd34 15 Z Z, Z, Z, Zt⟩ (lw_off Z Z Z Z Z Z (lw_op Z Z Z (ow_pickF Z Z Z (lw_op Z Z Z (ow_assign Z Z (lw_nil (ew_then (cw_ret ?_))))))))
    obtain rfl := sj h
    exact ew_ret (res1 Z (.tmp Z)) ⟨_, Z, ((vbool _)), hC43.bx⟩
 ·
  subst hc1
  refine cw_sub (E' := [(1, (.pointer (some p1))), (2, (.bool false))]) ⟨Z, Z, Zt⟩ (cw_drawQ 16 [PA RInt M a_t.Field, PEq (Zv a_t.Field), PEq (.bool false), PEq (.bool false), PEq undef, PEq undef, PEq undef, PEq undef, PEq undef, PEq (.bool false), PEq (.bool false), PEq undef, PEq undef, PEq undef, PEq undef, PEq undef] (by kernel_rfl) Z (by kernel_rfl) ⟨PA.mono _ _ _, Zq, Zq, Zq, Zq, Zq, Zq, Zq, Zq, Zq, Zq, Zq, Zq, Zq, Zq, Zq, Zt⟩ ⟨?_, ?_, ?_, ?_, ?_, ?_, ?_, ?_, ?_, ?_, ?_, ?_, ?_, ?_, ?_, ?_, Zt⟩ ?_)
  ·
   intro w44 D hS35 hd35
   have hl44 := Le.no M hS35
   exact dg_sub (E' := [(1, (.pointer (some p1)))]) ⟨Z, Zt⟩ (dg_plain Z (ow_fieldAddr Z Z Tryd.underlying128 Z (Tryd.sizeOf3 _) ⟨BX.refl _ _, ⟨_, Z, (ARep.mono hl44 (hp1.fld fld_Test_Field))⟩⟩))
  ·
   intro w45 D hS36 hd36
   have d87 : PA RInt M a_t.Field (D 0) w45 := dpA hd36 0 Z
   obtain ⟨p10, e9, ha9⟩ := d87
   refine dg_sub (E' := [(3, (.pointer (some p10)))]) ⟨congrArg some e9, Zt⟩ (dg_plain Z (ow_load (R := RInt) Z Z ha9 (Tryd.sizeOf3 _) (Tryd.isAgg3 _) fun v22 hv22 => ?_))
   obtain rfl := vint_eq hv22
   exact Zb
  ·
   intro w46 D hS37 hd37
   have hl46 := Le.no M hS37
   have hC46 := hC1.no hS37
   refine dg_sub (E' := [(4, (Zv a_t.Field))]) ⟨dpE hd37 1 Z Z, Zt⟩ (dg_plain Z (ow_call Z Z Tryd.call118 (w_spec_l1In (hG.mono (hl1.trans hl46)) hC46.old hx1) fun v23 w47 hv23 => ?_))
   obtain ⟨hv23, hb10⟩ := hv23
   obtain rfl := vbool_eq hv23
   exact ⟨hb10, Z⟩
  · exact fun w48 D hS38 hd38 => dg_sub (E' := [(5, (.bool false))]) ⟨dpE hd38 2 Z Z, Zt⟩ (dg_plain Z (ow_move Z Z Zb))
  · exact fun w49 D hS39 hd39 => dg_sub (E' := [(6, (.bool false)), (1, (.pointer (some p1)))]) ⟨dpE hd39 3 Z Z, Z, Zt⟩ (dg_off Z Z Z Z Zb)
  · exact fun w50 D hS40 hd40 => dg_sub (E' := [(7, undef), (6, (.bool false))]) ⟨dpE hd40 4 Z Z, dpE hd40 3 Z Z, Zt⟩ (dg_off Z Z Z Z Zb)
  · exact fun w51 D hS41 hd41 => dg_sub (E' := [(6, (.bool false)), (1, (.pointer (some p1)))]) ⟨dpE hd41 3 Z Z, Z, Zt⟩ (dg_off Z Z Z Z Zb)
  · exact fun w52 D hS42 hd42 => dg_sub (E' := [(9, undef), (6, (.bool false))]) ⟨dpE hd42 6 Z Z, dpE hd42 3 Z Z, Zt⟩ (dg_off Z Z Z Z Zb)
  · exact fun w53 D hS43 hd43 => dg_sub (E' := [(8, undef), (10, undef), (6, (.bool false))]) ⟨dpE hd43 5 Z Z, dpE hd43 7 Z Z, dpE hd43 3 Z Z, Zt⟩ (dg_off Z Z Z Z Zb)
  · exact fun w54 D hS44 hd44 => dg_sub (E' := [(6, (.bool false)), (11, undef)]) ⟨dpE hd44 3 Z Z, dpE hd44 8 Z Z, Zt⟩ (dg_plain Z (ow_pickF Z Z Z Zb))
  · exact fun w55 D hS45 hd45 => dg_sub (E' := [(12, (.bool false))]) ⟨dpE hd45 9 Z Z, Zt⟩ (dg_plain Z (ow_move Z Z Zb))
  · exact fun w56 D hS46 hd46 => dg_sub (E' := [(13, (.bool false)), (1, (.pointer (some p1)))]) ⟨dpE hd46 10 Z Z, Z, Zt⟩ (dg_off Z Z Z Z Zb)
  · exact fun w57 D hS47 hd47 => dg_sub (E' := [(14, undef), (13, (.bool false))]) ⟨dpE hd47 11 Z Z, dpE hd47 10 Z Z, Zt⟩ (dg_off Z Z Z Z Zb)
  · exact fun w58 D hS48 hd48 => dg_sub (E' := [(13, (.bool false)), (1, (.pointer (some p1)))]) ⟨dpE hd48 10 Z Z, Z, Zt⟩ (dg_off Z Z Z Z Zb)
  · exact fun w59 D hS49 hd49 => dg_sub (E' := [(16, undef), (13, (.bool false))]) ⟨dpE hd49 13 Z Z, dpE hd49 10 Z Z, Zt⟩ (dg_off Z Z Z Z Zb)
  · exact fun w60 D hS50 hd50 => dg_sub (E' := [(17, undef), (13, (.bool false))]) ⟨dpE hd50 14 Z Z, dpE hd50 10 Z Z, Zt⟩ (dg_off Z Z Z Z Zb)
  ·
   intro w61 D hS51 hd51
   have hC61 := hC1.no hS51
   refine lw_sub (E' := [(13, (.bool false)), (15, undef), (18, undef), (1, (.pointer (some p1))), (2, (.bool false))]) ⟨dpE hd51 10 Z Z, dpE hd51 12 Z Z, dpE hd51 15 Z Z, Z, Z, Zt⟩ (lw_off Z Z Z Z Z Z (lw_op Z Z Z (ow_pickF Z Z Z (lw_op Z Z Z (ow_assign Z Z (lw_nil (ew_then (cw_ret ?_))))))))
   obtain rfl := sj h
   exact ew_ret (res1 Z (.tmp Z)) ⟨_, Z, ((vbool _)), hC61.bx⟩

theorem w_spec_TestsValid {w : World} {M : Nat → Prop} (hG : ARep (RArr 4 RShape) w M shapes ⟨0, 0, none⟩) (hO : ∀ b, M b → b < w.heap.size) {v0p : Value} {a_list : List Test} (h0 : VRep (RSlice RTest) w M a_list v0p) {r : Bool} (h : F.spec_TestsValid a_list = some r) :
  Calls Tryd.prog 101 [v0p].toArray w fun e w' => ∃ v, e = .returned v ∧ VRep RBool w' M r v ∧ BX No w w' := by
 have hC : Cx No w M w M := Cx.start hO (fun _ e => e.elim)
 refine walk (N := 19) Tryd.func101 Z Tryd.ntmps101 Z (cw_seq (cw_region (lw_op Z Z Z (ow_assign Z Z (lw_nil (ew_then (cw_seq (cw_seq (cw_region (lw_op Z Z Z (ow_assign Z Z (lw_nil (ew_then ?_)))))))))))))
 replace h := bind_some h
 obtain ⟨lr1, hlr1, h⟩ := h
 refine cw_for hlr1 (fun s a w' => ∃ (M' : Nat → Prop), Fits 19 [(0, v0p), (3, (Zv s))] a ∧ Le w M w' M' ∧ Cx No w M w' M') ?_ ?_ ?_
 · exact fun a ha => ⟨M, ha.sub ⟨Z, Z, Zt⟩, Le.refl _ _, hC⟩
 ·
  rintro k1 a w1 sr1 ⟨M1, hF1, hl1, hC1⟩ hb1 hR1
  refine cw_at (E := [(0, v0p), (3, (Zv k1))]) hF1 (cw_seq (cw_seq (cw_region (lw_op Z Z Z (ow_move Z Z (lw_op Z Z Z (ow_move Z Z (lw_op Z Z Z (ow_len Z Z (VRep.mono hl1 h0) Tryd.underlying36 Z (lw_op Z Z Z (ow_lss Z Z Z fun bb1 hbb1 => lw_nil (ew_then ?_))))))))))))
  replace hb1 := cond_some hb1
  rcases hb1 with ⟨hc1, hb1⟩ | ⟨hc1, hb1⟩
  ·
   obtain rfl := hbb1.trans hc1
   refine cw_true Z (cw_skip (ew_then (cw_seq (cw_block (cw_seq (cw_region (lw_op Z Z Z (ow_move Z Z (lw_op Z Z Z (ow_move Z Z ?_))))))))))
   replace hb1 := bind_some hb1
   obtain ⟨x1, hx1, hb1⟩ := hb1
   refine lw_op Z Z Z (ow_indexSlice (R := RTest) Z Z Z (VRep.mono hl1 h0) Tryd.underlying36 (Tryd.sizeOf128 _) hx1 fun p1 hp1 => lw_op Z Z Z (ow_load (R := RTest) Z Z hp1 (Tryd.sizeOf128 _) (Tryd.isAgg128 _) fun v2 hv2 => ?_))
   replace hb1 := bind_some hb1
   obtain ⟨x2, hx2, hb1⟩ := hb1
   refine lw_op Z Z Z (ow_call Z Z Tryd.call157 (w_spec_TestValid (hG.mono hl1) hC1.old hv2 hx2) fun v3 w2 hv3 => ?_)
   obtain ⟨hv3, hb2⟩ := hv3
   have hl2 := Le.no M1 hb2
   have hC2 := hC1.no hb2
   obtain rfl := vbool_eq hv3
   refine lw_op Z Z Z (ow_not Z Z (lw_nil (ew_then ?_)))
   replace hb1 := cond_some hb1
   rcases hb1 with ⟨hc2, hb1⟩ | ⟨hc2, hb1⟩
   ·
    subst hc2
    exact cw_false Z (cw_skip (ew_blockN (ew_then (cw_region (lw_op Z Z Z (ow_move Z Z (lw_op Z Z Z (ow_add Z Z Z (lw_op Z Z Z (ow_assign Z Z (lw_nil (ew_nxt (W (k1 + 1)) hb1 fun a ha => ⟨M1, (ha.sub ⟨Z, Z, Zt⟩), (hl1.trans hl2), hC2⟩))))))))))))
   ·
    subst hc2
    refine cw_true Z (cw_seq (cw_region (lw_op Z Z Z (ow_assign Z Z (lw_nil (ew_then (cw_ret (ew_blockR (ew_thenR (ew_thenR (ew_blockR (ew_brkR (ew_thenR ?_)))))))))))))
    have e1 := hR1 _ (sj hb1).symm
    subst e1
    obtain rfl := sj h
    exact ew_ret (res1 Z (.tmp Z)) ⟨_, Z, ((vbool _)), hC2.bx⟩
  ·
   obtain rfl := hbb1.trans hc1
   exact cw_false Z (cw_exit (ew_thenX (ew_thenX (ew_blockX (ew_brk k1 hb1 fun a ha => ⟨M1, (ha.sub ⟨Z, Z, Zt⟩), hl1, hC1⟩)))))
 ·
  rintro k2 a w3 hlr2 ⟨M2, hF2, hl3, hC3⟩
  subst hlr2
  refine ew_at (E := [(0, v0p), (3, (Zv k2))]) hF2 (ew_then (cw_seq (cw_region (lw_op Z Z Z (ow_move Z Z (lw_op Z Z Z (ow_len Z Z (VRep.mono hl3 h0) Tryd.underlying36 Z (lw_op Z Z Z (ow_leq Z Z Z fun bb2 hbb2 => lw_op Z Z Z (ow_assign Z Z (lw_nil (ew_then (cw_ret ?_)))))))))))))
  obtain rfl := sj h
  exact ew_ret (res1 Z (.tmp Z)) ⟨_, Z, ((vbool_of hbb2)), hC3.bx⟩

theorem w_spec_RuleValid {w : World} {M : Nat → Prop} (hG : ARep (RArr 4 RShape) w M shapes ⟨0, 0, none⟩) (hO : ∀ b, M b → b < w.heap.size) {v0p : Value} {a_r : Rule} (h0 : VRep RRule w M a_r v0p) {r : Bool} (h : F.spec_RuleValid a_r = some r) :
  Calls Tryd.prog 175 [v0p].toArray w fun e w' => ∃ v, e = .returned v ∧ VRep RBool w' M r v ∧ BX No w w' := by
 have hC : Cx No w M w M := Cx.start hO (fun _ e => e.elim)
 refine walk (N := 31) Tryd.func175 Z Tryd.ntmps175 Z (cw_seq (cw_region (lw_op Z Z Z (ow_box (R := RRule) Z Z h0 hC fun p1 w1 hp1 hb1 hl1 hC1 => lw_op Z Z Z (ow_assign Z Z (lw_nil (ew_then (cw_seq (cw_region (lw_op Z Z Z (ow_fieldAddr Z Z Tryd.underlying38 Z (Tryd.sizeOf36 _) (lw_op Z Z Z (ow_load (R := (RSlice RTest)) Z Z (hp1.fld fld_Rule_Tests) (Tryd.sizeOf36 _) (Tryd.isAgg36 _) fun v1 hv1 => ?_)))))))))))))
 replace h := bind_some h
 obtain ⟨x1, hx1, h⟩ := h
 refine lw_op Z Z Z (ow_call Z Z Tryd.call101 (w_spec_TestsValid (hG.mono hl1) hC1.old hv1 hx1) fun v2 w2 hv2 => ?_)
 obtain ⟨hv2, hb2⟩ := hv2
 have hl2 := Le.no M hb2
 have hC2 := hC1.no hb2
 obtain rfl := vbool_eq hv2
 refine lw_op Z Z Z (ow_move Z Z ?_)
 replace h := cond_some h
 rcases h with ⟨hc1, h⟩ | ⟨hc1, h⟩
 ·
  subst hc1
  refine lw_on Z Z Z Z Z Z (ow_fieldAddr Z Z Tryd.underlying38 Z (Tryd.sizeOf3 _) (lw_on Z Z Z Z Z Z (ow_load (R := RInt) Z Z (ARep.mono hl2 (hp1.fld fld_Rule_Action)) (Tryd.sizeOf3 _) (Tryd.isAgg3 _) fun v3 hv3 => ?_)))
  obtain rfl := vint_eq hv3
  replace h := bind_some h
  obtain ⟨x2, hx2, h⟩ := h
  refine lw_on Z Z Z Z Z Z (ow_call Z Z Tryd.call118 (w_spec_l1In (hG.mono (hl1.trans hl2)) hC2.old hx2) fun v4 w3 hv4 => ?_)
  obtain ⟨hv4, hb3⟩ := hv4
  have hl3 := Le.no M hb3
  have hC3 := hC2.no hb3
  obtain rfl := vbool_eq hv4
  refine lw_op Z Z Z (ow_pickT Z Z Z (lw_op Z Z Z (ow_move Z Z ?_)))
  replace h := cond_some h
  rcases h with ⟨hc2, h⟩ | ⟨hc2, h⟩
  ·
   subst hc2
   refine lw_on Z Z Z Z Z Z (ow_fieldAddr Z Z Tryd.underlying38 Z (Tryd.sizeOf3 _) (lw_on Z Z Z Z Z Z (ow_load (R := RInt) Z Z (ARep.mono (hl2.trans hl3) (hp1.fld fld_Rule_Action)) (Tryd.sizeOf3 _) (Tryd.isAgg3 _) fun v5 hv5 => ?_)))
   obtain rfl := vint_eq hv5
   refine lw_on Z Z Z Z Z Z (ow_eqlI Z Z Z fun bb1 hbb1 => lw_on Z Z Z Z Z Z (ow_move Z Z ?_))
   replace h := cond_some h
   rcases h with ⟨hc3, h⟩ | ⟨hc3, h⟩
   ·
    obtain rfl := hbb1.trans hc3
    refine lw_on Z Z Z Z Z Z (ow_fieldAddr Z Z Tryd.underlying38 Z (Tryd.sizeOf3 _) (lw_on Z Z Z Z Z Z (ow_load (R := RInt) Z Z (ARep.mono (hl2.trans hl3) (hp1.fld fld_Rule_Chain)) (Tryd.sizeOf3 _) (Tryd.isAgg3 _) fun v6 hv6 => ?_)))
    obtain rfl := vint_eq hv6
    replace h := bind_some h
    obtain ⟨x3, hx3, h⟩ := h
    have lz1 := ((hl1.trans hl2).trans hl3)
    refine lw_on Z Z Z Z Z Z (ow_call Z Z Tryd.call118 (w_spec_l1In (hG.mono lz1) hC3.old hx3) fun v7 w4 hv7 => ?_)
    obtain ⟨hv7, hb4⟩ := hv7
    have hl4 := Le.no M hb4
    have hC4 := hC3.no hb4
    obtain rfl := vbool_eq hv7
    refine lw_on Z Z Z Z Z Z (ow_pickT Z Z Z (lw_on Z Z Z Z Z Z (ow_move Z Z ?_)))
    replace h := cond_some h
    rcases h with ⟨hc4, h⟩ | ⟨hc4, h⟩
    ·
     subst hc4
     refine lw_off Z Z Z Z Z Z (lw_off Z Z Z Z Z Z (lw_off Z Z Z Z Z Z (lw_off Z Z Z Z Z Z (lw_off' Z Z Z Z Z Z (lw_off' Z Z Z Z Z Z (lw_off' Z Z Z Z Z Z (lw_off Z Z Z Z Z Z (lw_on Z Z Z Z Z Z (ow_pickT Z Z Z (lw_op Z Z Z (ow_pickT Z Z Z (lw_op Z Z Z (ow_assign Z Z (lw_nil (ew_then (cw_ret ?_))))))))))))))))
     obtain rfl := sj h
     exact ew_ret (res1 Z (.tmp Z)) ⟨_, Z, ((vbool _)), hC4.bx⟩
    ·
     subst hc4
     refine lw_on Z Z Z Z Z Z (ow_fieldAddr Z Z Tryd.underlying38 Z (Tryd.sizeOf3 _) ?_)
     have lz2 := ((hl2.trans hl3).trans hl4)
     refine lw_on Z Z Z Z Z Z (ow_load (R := RInt) Z Z (ARep.mono lz2 (hp1.fld fld_Rule_Action)) (Tryd.sizeOf3 _) (Tryd.isAgg3 _) fun v8 hv8 => ?_)
     obtain rfl := vint_eq hv8
     refine lw_on Z Z Z Z Z Z (ow_neqI Z Z Z fun bb2 hbb2 => lw_on Z Z Z Z Z Z (ow_move Z Z ?_))
     replace h := cond_some h
     rcases h with ⟨hc5, h⟩ | ⟨hc5, h⟩
     ·
      obtain rfl := hbb2.trans hc5
      refine lw_on Z Z Z Z Z Z (ow_fieldAddr Z Z Tryd.underlying38 Z (Tryd.sizeOf3 _) (lw_on Z Z Z Z Z Z (ow_load (R := RInt) Z Z (ARep.mono lz2 (hp1.fld fld_Rule_Chain)) (Tryd.sizeOf3 _) (Tryd.isAgg3 _) fun v9 hv9 => ?_)))
      obtain rfl := vint_eq hv9
      refine lw_on Z Z Z Z Z Z (ow_eqlI Z Z Z fun bb3 hbb3 => lw_on Z Z Z Z Z Z (ow_pickT Z Z Z (lw_on Z Z Z Z Z Z (ow_pickF Z Z Z (lw_op Z Z Z (ow_pickT Z Z Z (lw_op Z Z Z (ow_assign Z Z (lw_nil (ew_then (cw_ret ?_)))))))))))
      obtain rfl := sj h
      exact ew_ret (res1 Z (.tmp Z)) ⟨_, Z, ((vbool_of hbb3)), hC4.bx⟩
     ·
      obtain rfl := hbb2.trans hc5
      refine lw_off Z Z Z Z Z Z (lw_off Z Z Z Z Z Z (lw_off Z Z Z Z Z Z (lw_on Z Z Z Z Z Z (ow_pickF Z Z Z (lw_on Z Z Z Z Z Z (ow_pickF Z Z Z (lw_op Z Z Z (ow_pickT Z Z Z (lw_op Z Z Z (ow_assign Z Z (lw_nil (ew_then (cw_ret ?_)))))))))))))
      obtain rfl := sj h
      exact ew_ret (res1 Z (.tmp Z)) ⟨_, Z, ((vbool _)), hC4.bx⟩
   ·
    obtain rfl := hbb1.trans hc3
    refine lw_off Z Z Z Z Z Z (lw_off Z Z Z Z Z Z (lw_off Z Z Z Z Z Z (lw_on Z Z Z Z Z Z (ow_pickF Z Z Z (lw_on Z Z Z Z Z Z (ow_move Z Z (lw_on Z Z Z Z Z Z (ow_fieldAddr Z Z Tryd.underlying38 Z (Tryd.sizeOf3 _) (lw_on Z Z Z Z Z Z (ow_load (R := RInt) Z Z (ARep.mono (hl2.trans hl3) (hp1.fld fld_Rule_Action)) (Tryd.sizeOf3 _) (Tryd.isAgg3 _) fun v10 hv10 => ?_))))))))))
    obtain rfl := vint_eq hv10
    refine lw_on Z Z Z Z Z Z (ow_neqI Z Z Z fun bb4 hbb4 => lw_on Z Z Z Z Z Z (ow_move Z Z ?_))
    replace h := cond_some h
    rcases h with ⟨hc6, h⟩ | ⟨hc6, h⟩
    ·
     obtain rfl := hbb4.trans hc6
     refine lw_on Z Z Z Z Z Z (ow_fieldAddr Z Z Tryd.underlying38 Z (Tryd.sizeOf3 _) (lw_on Z Z Z Z Z Z (ow_load (R := RInt) Z Z (ARep.mono (hl2.trans hl3) (hp1.fld fld_Rule_Chain)) (Tryd.sizeOf3 _) (Tryd.isAgg3 _) fun v11 hv11 => ?_)))
     obtain rfl := vint_eq hv11
     refine lw_on Z Z Z Z Z Z (ow_eqlI Z Z Z fun bb5 hbb5 => lw_on Z Z Z Z Z Z (ow_pickT Z Z Z (lw_on Z Z Z Z Z Z (ow_pickF Z Z Z (lw_op Z Z Z (ow_pickT Z Z Z (lw_op Z Z Z (ow_assign Z Z (lw_nil (ew_then (cw_ret ?_)))))))))))
     obtain rfl := sj h
     exact ew_ret (res1 Z (.tmp Z)) ⟨_, Z, ((vbool_of hbb5)), hC3.bx⟩
    ·
     obtain rfl := hbb4.trans hc6
     refine lw_off Z Z Z Z Z Z (lw_off Z Z Z Z Z Z (lw_off Z Z Z Z Z Z (lw_on Z Z Z Z Z Z (ow_pickF Z Z Z (lw_on Z Z Z Z Z Z (ow_pickF Z Z Z (lw_op Z Z Z (ow_pickT Z Z Z (lw_op Z Z Z (ow_assign Z Z (lw_nil (ew_then (cw_ret ?_)))))))))))))
     obtain rfl := sj h
     exact ew_ret (res1 Z (.tmp Z)) ⟨_, Z, ((vbool _)), hC3.bx⟩
  ·
   subst hc2
   refine lw_off Z Z Z Z Z Z (lw_off Z Z Z Z Z Z (lw_off Z Z Z Z Z Z (lw_off Z Z Z Z Z Z (lw_off' Z Z Z Z Z Z (lw_off' Z Z Z Z Z Z (lw_off' Z Z Z Z Z Z (lw_off Z Z Z Z Z Z (lw_off Z Z Z Z Z Z (lw_off' Z Z Z Z Z Z (lw_off' Z Z Z Z Z Z (lw_off' Z Z Z Z Z Z (lw_off' Z Z Z Z Z Z (lw_off' Z Z Z Z Z Z (lw_off' Z Z Z Z Z Z (lw_off' Z Z Z Z Z Z (lw_off' Z Z Z Z Z Z (lw_off Z Z Z Z Z Z (lw_op Z Z Z (ow_pickF Z Z Z (lw_op Z Z Z (ow_assign Z Z (lw_nil (ew_then (cw_ret ?_))))))))))))))))))))))))
   obtain rfl := sj h
   exact ew_ret (res1 Z (.tmp Z)) ⟨_, Z, ((vbool _)), hC3.bx⟩
 ·
  subst hc1
  refine lw_off Z Z Z Z Z Z (lw_off Z Z Z Z Z Z (lw_off Z Z Z Z Z Z (lw_op Z Z Z (ow_pickF Z Z Z (lw_op Z Z Z (ow_move Z Z (lw_off Z Z Z Z Z Z (lw_off Z Z Z Z Z Z (lw_off Z Z Z Z Z Z (lw_off Z Z Z Z Z Z (lw_off' Z Z Z Z Z Z (lw_off' Z Z Z Z Z Z (lw_off' Z Z Z Z Z Z (lw_off Z Z Z Z Z Z (lw_off Z Z Z Z Z Z (lw_off' Z Z Z Z Z Z (lw_off' Z Z Z Z Z Z (lw_off' Z Z Z Z Z Z (lw_off' Z Z Z Z Z Z (lw_off' Z Z Z Z Z Z (lw_off' Z Z Z Z Z Z (lw_off' Z Z Z Z Z Z (lw_off' Z Z Z Z Z Z (lw_off Z Z Z Z Z Z (lw_op Z Z Z (ow_pickF Z Z Z (lw_op Z Z Z (ow_assign Z Z ?_))))))))))))))))))))))))))))
  refine lw_nil (ew_then (cw_ret ?_))
  obtain rfl := sj h
  exact ew_ret (res1 Z (.tmp Z)) ⟨_, Z, ((vbool _)), hC2.bx⟩

theorem w_spec_RulesValid {w : World} {M : Nat → Prop} (hG : ARep (RArr 4 RShape) w M shapes ⟨0, 0, none⟩) (hO : ∀ b, M b → b < w.heap.size) {v0p : Value} {a_list : List Rule} (h0 : VRep (RSlice RRule) w M a_list v0p) {r : Bool} (h : F.spec_RulesValid a_list = some r) :
  Calls Tryd.prog 143 [v0p].toArray w fun e w' => ∃ v, e = .returned v ∧ VRep RBool w' M r v ∧ BX No w w' := by
 have hC : Cx No w M w M := Cx.start hO (fun _ e => e.elim)
 refine walk (N := 19) Tryd.func143 Z Tryd.ntmps143 Z (cw_seq (cw_region (lw_op Z Z Z (ow_assign Z Z (lw_nil (ew_then (cw_seq (cw_seq (cw_region (lw_op Z Z Z (ow_assign Z Z (lw_nil (ew_then ?_)))))))))))))
 replace h := bind_some h
 obtain ⟨lr1, hlr1, h⟩ := h
 refine cw_for hlr1 (fun s a w' => ∃ (M' : Nat → Prop), Fits 19 [(0, v0p), (3, (Zv s))] a ∧ Le w M w' M' ∧ Cx No w M w' M') ?_ ?_ ?_
 · exact fun a ha => ⟨M, ha.sub ⟨Z, Z, Zt⟩, Le.refl _ _, hC⟩
 ·
  rintro k1 a w1 sr1 ⟨M1, hF1, hl1, hC1⟩ hb1 hR1
  refine cw_at (E := [(0, v0p), (3, (Zv k1))]) hF1 (cw_seq (cw_seq (cw_region (lw_op Z Z Z (ow_move Z Z (lw_op Z Z Z (ow_move Z Z (lw_op Z Z Z (ow_len Z Z (VRep.mono hl1 h0) Tryd.underlying39 Z (lw_op Z Z Z (ow_lss Z Z Z fun bb1 hbb1 => lw_nil (ew_then ?_))))))))))))
  replace hb1 := cond_some hb1
  rcases hb1 with ⟨hc1, hb1⟩ | ⟨hc1, hb1⟩
  ·
   obtain rfl := hbb1.trans hc1
   refine cw_true Z (cw_skip (ew_then (cw_seq (cw_block (cw_seq (cw_region (lw_op Z Z Z (ow_move Z Z (lw_op Z Z Z (ow_move Z Z ?_))))))))))
   replace hb1 := bind_some hb1
   obtain ⟨x1, hx1, hb1⟩ := hb1
   refine lw_op Z Z Z (ow_indexSlice (R := RRule) Z Z Z (VRep.mono hl1 h0) Tryd.underlying39 (Tryd.sizeOf38 _) hx1 fun p1 hp1 => lw_op Z Z Z (ow_load (R := RRule) Z Z hp1 (Tryd.sizeOf38 _) (Tryd.isAgg38 _) fun v2 hv2 => ?_))
   replace hb1 := bind_some hb1
   obtain ⟨x2, hx2, hb1⟩ := hb1
   refine lw_op Z Z Z (ow_call Z Z Tryd.call175 (w_spec_RuleValid (hG.mono hl1) hC1.old hv2 hx2) fun v3 w2 hv3 => ?_)
   obtain ⟨hv3, hb2⟩ := hv3
   have hl2 := Le.no M1 hb2
   have hC2 := hC1.no hb2
   obtain rfl := vbool_eq hv3
   refine lw_op Z Z Z (ow_not Z Z (lw_nil (ew_then ?_)))
   replace hb1 := cond_some hb1
   rcases hb1 with ⟨hc2, hb1⟩ | ⟨hc2, hb1⟩
   ·
    subst hc2
    exact cw_false Z (cw_skip (ew_blockN (ew_then (cw_region (lw_op Z Z Z (ow_move Z Z (lw_op Z Z Z (ow_add Z Z Z (lw_op Z Z Z (ow_assign Z Z (lw_nil (ew_nxt (W (k1 + 1)) hb1 fun a ha => ⟨M1, (ha.sub ⟨Z, Z, Zt⟩), (hl1.trans hl2), hC2⟩))))))))))))
   ·
    subst hc2
    refine cw_true Z (cw_seq (cw_region (lw_op Z Z Z (ow_assign Z Z (lw_nil (ew_then (cw_ret (ew_blockR (ew_thenR (ew_thenR (ew_blockR (ew_brkR (ew_thenR ?_)))))))))))))
    have e1 := hR1 _ (sj hb1).symm
    subst e1
    obtain rfl := sj h
    exact ew_ret (res1 Z (.tmp Z)) ⟨_, Z, ((vbool _)), hC2.bx⟩
  ·
   obtain rfl := hbb1.trans hc1
   exact cw_false Z (cw_exit (ew_thenX (ew_thenX (ew_blockX (ew_brk k1 hb1 fun a ha => ⟨M1, (ha.sub ⟨Z, Z, Zt⟩), hl1, hC1⟩)))))
 ·
  rintro k2 a w3 hlr2 ⟨M2, hF2, hl3, hC3⟩
  subst hlr2
  refine ew_at (E := [(0, v0p), (3, (Zv k2))]) hF2 (ew_then (cw_seq (cw_region (lw_op Z Z Z (ow_move Z Z (lw_op Z Z Z (ow_len Z Z (VRep.mono hl3 h0) Tryd.underlying39 Z (lw_op Z Z Z (ow_leq Z Z Z fun bb2 hbb2 => lw_op Z Z Z (ow_assign Z Z (lw_nil (ew_then (cw_ret ?_)))))))))))))
  obtain rfl := sj h
  exact ew_ret (res1 Z (.tmp Z)) ⟨_, Z, ((vbool_of hbb2)), hC3.bx⟩


end Go.PF
