/- The walks; no condition. -/
import Derived.Test.YtgglogmjjaahhaaDoorProg
import Derived.Test.YtgglogmjjaahhaaDoorFun
import Derived.Test.YtgglogmjjaahhaaDoorPFFresh
set_option maxRecDepth 100000
set_option maxHeartbeats 4000000
namespace Go.PF
open Go Go.RowKit Go.Proofs

theorem info3 : ∃ i, Tryd.prog.info? 3 = some i ∧ i.zero = some (.int .i64 0) ∧ i.size = 1 ∧ i.bytes = 8 := info_parts (by kernel_rfl)
theorem info4 : ∃ i, Tryd.prog.info? 4 = some i ∧ i.zero = some (.bool false) ∧ i.size = 1 ∧ i.bytes = 1 := info_parts (by kernel_rfl)
theorem info31 : ∃ i, Tryd.prog.info? 31 = some i ∧ i.zero = some (.agg #[.int .i64 0, .int .i64 0, .int .i64 0, .bool false]) ∧ i.size = 4 ∧ i.bytes = 32 := info_parts (by kernel_rfl)
theorem info36 : ∃ i, Tryd.prog.info? 36 = some i ∧ i.zero = some (.slice none 0 0) ∧ i.size = 1 ∧ i.bytes = 24 := info_parts (by kernel_rfl)
theorem info42 : ∃ i, Tryd.prog.info? 42 = some i ∧ i.zero = some (.agg #[.slice none 0 0, .int .i64 0, .int .i64 0]) ∧ i.size = 3 ∧ i.bytes = 40 := info_parts (by kernel_rfl)
def actV : Act_ → Value
  | .deciding b => .iface 139 (.agg #[.bool b])
  | .calling c => .iface 141 (.agg #[.int .i64 c])
  | .returning => .iface 143 (.agg #[])
  | .passing => .iface 144 (.agg #[])
theorem w_impl_SpansHave {w : World} {M : Nat → Prop} (_hG : ARep (RArr 4 RShape) w M shapes ⟨0, 0, none⟩) (hO : ∀ b, M b → b < w.heap.size) {v0p : Value} {a_list : List Span} (h0 : VRep (RSlice RSpan) w M a_list v0p) {a_n : Int} {r : Bool} (h : F.impl_SpansHave a_list a_n = some r) :
  Calls Tryd.prog 54 [v0p, (.int .i64 a_n)].toArray w fun e w' => ∃ v, e = .returned v ∧ VRep RBool w' M r v ∧ BX No w w' := by
 have hC : Cx No w M w M := Cx.start hO (fun _ e => e.elim)
 clear _hG
 refine walk (N := 24) Tryd.func54 Z Tryd.ntmps54 Z (cw_seq (cw_region (lw_op Z Z Z (ow_assign Z Z (lw_nil (ew_then (cw_seq (cw_seq (cw_region (lw_op Z Z Z (ow_move Z Z (lw_op Z Z Z (ow_len Z Z h0 Tryd.underlying71 Z (lw_op Z Z Z (ow_move Z Z (lw_nil (ew_then ?_)))))))))))))))))
 replace h := bind_some h
 obtain ⟨lr1, hlr1, h⟩ := h
 refine cw_for hlr1 (fun s a w' => ∃ (M' : Nat → Prop), Fits 24 [(1, (.int .i64 a_n)), (7, v0p), (8, (.int .i64 (a_list.length : Int))), (9, (.int .i64 s))] a ∧ Le w M w' M' ∧ Cx No w M w' M') ?_ ?_ ?_
 ·
  intro a ha
  exact ⟨M, ha.sub ⟨Z, Z, Z, Z, trivial⟩, Le.refl _ _, hC⟩
 ·
  rintro k1 a w1 sr1 ⟨M1, hF1, hl1, hC1⟩ hb1 hR1
  refine cw_at (E := [(1, (.int .i64 a_n)), (7, v0p), (8, (.int .i64 (a_list.length : Int))), (9, (.int .i64 k1))]) hF1 (cw_seq (cw_region (lw_op Z Z Z (ow_lss Z Z Z fun bb1 hbb1 => lw_nil (ew_then (cw_seq ?_))))))
  replace hb1 := cond_some hb1
  rcases hb1 with ⟨hc1, hb1⟩ | ⟨hc1, hb1⟩
  ·
   obtain rfl := hbb1.trans hc1
   refine cw_true Z (cw_skip (ew_then (cw_seq (cw_block (cw_seq (cw_region ?_))))))
   replace hb1 := bind_some hb1
   obtain ⟨x1, hx1, hb1⟩ := hb1
   refine lw_op Z Z Z (ow_indexSlice (R := RSpan) Z Z Z (VRep.mono hl1 h0) Tryd.underlying71 (Tryd.sizeOf79 _) hx1 fun p1 hp1 => lw_op Z Z Z (ow_load (R := RSpan) Z Z hp1 (Tryd.sizeOf79 _) (Tryd.isAgg79 _) fun v2 hv2 => lw_allocStore (R := RSpan) Z Z Z Z Z Z Z Tryd.zeroValue79 Tryd.sizeOf79 Z Z Z (by simp) hv2 hC1 fun p2 w2 hp2 hb2 hl2 hC2 => lw_nil (ew_then (cw_seq (cw_region (lw_op Z Z Z (ow_fieldAddr Z Z Tryd.underlying79 Z (Tryd.sizeOf3 _) (lw_op Z Z Z (ow_load (R := RInt) Z Z (hp2.fld fld_Span_Lo) (Tryd.sizeOf3 _) (Tryd.isAgg3 _) fun v3 hv3 => ?_)))))))))
   obtain rfl := vint_eq hv3
   refine lw_op Z Z Z (ow_move Z Z (lw_op Z Z Z (ow_leq Z Z Z fun bb2 hbb2 => lw_op Z Z Z (ow_move Z Z ?_))))
   replace hb1 := cond_some hb1
   rcases hb1 with ⟨hc2, hb1⟩ | ⟨hc2, hb1⟩
   ·
    obtain rfl := hbb2.trans hc2
    refine lw_on Z Z Z Z Z Z (ow_move Z Z (lw_on Z Z Z Z Z Z (ow_fieldAddr Z Z Tryd.underlying79 Z (Tryd.sizeOf3 _) (lw_on Z Z Z Z Z Z (ow_load (R := RInt) Z Z (hp2.fld fld_Span_Hi) (Tryd.sizeOf3 _) (Tryd.isAgg3 _) fun v4 hv4 => ?_)))))
    obtain rfl := vint_eq hv4
    refine lw_on Z Z Z Z Z Z (ow_leq Z Z Z fun bb3 hbb3 => lw_op Z Z Z (ow_pickT Z Z Z (lw_nil (ew_then ?_))))
    replace hb1 := cond_some hb1
    rcases hb1 with ⟨hc3, hb1⟩ | ⟨hc3, hb1⟩
    ·
     obtain rfl := hbb3.trans hc3
     refine cw_true Z (cw_seq (cw_region (lw_op Z Z Z (ow_assign Z Z (lw_nil (ew_then (cw_ret (ew_blockR (ew_thenR (ew_thenR (ew_blockR (ew_brkR (ew_thenR ?_)))))))))))))
     have e1 := hR1 _ (Option.some.inj hb1).symm
     subst e1
     obtain rfl := Option.some.inj h
     exact ew_ret (res1 Z (.tmp Z)) ⟨_, Z, ((vbool _)), hC2.bx⟩
    ·
     obtain rfl := hbb3.trans hc3
     exact cw_false Z (cw_skip (ew_blockN (ew_then (cw_region (lw_op Z Z Z (ow_add Z Z Z (lw_op Z Z Z (ow_move Z Z (lw_nil (ew_nxt (W (k1 + 1)) hb1 fun a ha => ⟨M1, (ha.sub ⟨Z, Z, Z, Z, trivial⟩), (hl1.trans hl2), hC2⟩))))))))))
   ·
    obtain rfl := hbb2.trans hc2
    exact lw_off Z Z Z Z Z Z (lw_off Z Z Z Z Z Z (lw_off Z Z Z Z Z Z (lw_off Z Z Z Z Z Z (lw_op Z Z Z (ow_pickF Z Z Z (lw_nil (ew_then (cw_false Z (cw_skip (ew_blockN (ew_then (cw_region (lw_op Z Z Z (ow_add Z Z Z (lw_op Z Z Z (ow_move Z Z (lw_nil (ew_nxt (W (k1 + 1)) hb1 fun a ha => ⟨M1, (ha.sub ⟨Z, Z, Z, Z, trivial⟩), (hl1.trans hl2), hC2⟩))))))))))))))))))
  ·
   obtain rfl := hbb1.trans hc1
   exact cw_false Z (cw_exit (ew_thenX (ew_thenX (ew_blockX (ew_brk k1 hb1 fun a ha => ⟨M1, (ha.sub ⟨Z, Z, Z, Z, trivial⟩), hl1, hC1⟩)))))
 ·
  rintro k2 a w3 hlr2 ⟨M2, hF2, hl3, hC3⟩
  subst hlr2
  refine ew_at (E := [(1, (.int .i64 a_n)), (7, v0p), (8, (.int .i64 (a_list.length : Int))), (9, (.int .i64 k2))]) hF2 (ew_then (cw_seq (cw_region (lw_op Z Z Z (ow_assign Z Z (lw_nil (ew_then (cw_ret ?_))))))))
  obtain rfl := Option.some.inj h
  exact ew_ret (res1 Z (.tmp Z)) ⟨_, Z, ((vbool _)), hC3.bx⟩

theorem w_laws_alive {w : World} {M : Nat → Prop} (hG : ARep (RArr 4 RShape) w M shapes ⟨0, 0, none⟩) (hO : ∀ b, M b → b < w.heap.size)  {r : Bool} (h : F.laws_alive = some r) :
  Calls Tryd.prog 18 [].toArray w fun e w' => ∃ v, e = .returned v ∧ VRep RBool w' M r v ∧ BX No w w' := by
 have hC : Cx No w M w M := Cx.start hO (fun _ e => e.elim)
 refine walk (N := 4) Tryd.func18 Z Tryd.ntmps18 Z (cw_seq (cw_region (lw_op Z Z Z (ow_assign Z Z (lw_nil (ew_then (cw_seq (cw_region (lw_op Z Z Z (ow_build (v := .agg #[(.int .i64 2), (.int .i64 4)]) Z Z (by kernel_rfl) ?_))))))))))
 have hw1 : VRep RSpan w M ({ Lo := 2, Hi := 4 } : Span) (.agg #[(.int .i64 2), (.int .i64 4)]) := shut_Span
 refine lw_op Z Z Z (ow_buildSlice (R := RSpan) (xs := [({ Lo := 2, Hi := 4 } : Span)]) (cs := #[(.int .i64 2), (.int .i64 4)]) (e := 79) Z Z (by kernel_rfl) Z Z ⟨_, _, Z, hw1.cells, Z⟩ hC fun p1 w1 hw2 hb1 hl1 hC1 => ?_)
 replace h := bind_some h
 obtain ⟨x1, hx1, h⟩ := h
 refine lw_op Z Z Z (ow_call Z Z Tryd.call54 (w_impl_SpansHave (hG.mono hl1) hC1.old hw2 hx1) fun v1 w2 hv1 => ?_)
 obtain ⟨hv1, hb2⟩ := hv1
 have hC2 := hC1.no hb2
 obtain rfl := vbool_eq hv1
 refine lw_op Z Z Z (ow_assign Z Z (lw_nil (ew_then (cw_ret ?_))))
 obtain rfl := Option.some.inj h
 exact ew_ret (res1 Z (.tmp Z)) ⟨_, Z, ((vbool _)), hC2.bx⟩

theorem w_impl_FieldTop {w : World} {M : Nat → Prop} (hG : ARep (RArr 4 RShape) w M shapes ⟨0, 0, none⟩) (hO : ∀ b, M b → b < w.heap.size) {a_n : Int} {r : Int} (h : F.impl_FieldTop a_n = some r) :
  Calls Tryd.prog 83 [(.int .i64 a_n)].toArray w fun e w' => ∃ v, e = .returned v ∧ VRep RInt w' M r v ∧ BX No w w' := by
 have hC : Cx No w M w M := Cx.start hO (fun _ e => e.elim)
 refine walk (N := 13) Tryd.func83 Z Tryd.ntmps83 Z (cw_seq (cw_region (lw_op Z Z Z (ow_assign Z Z (lw_nil (ew_then (cw_seq (cw_seq (cw_region (lw_op Z Z Z (ow_move Z Z (lw_op Z Z Z (ow_lss Z Z Z fun bb1 hbb1 => lw_op Z Z Z (ow_move Z Z ?_))))))))))))))
 replace h := cond_some h
 rcases h with ⟨hc1, h⟩ | ⟨hc1, h⟩
 ·
  obtain rfl := hbb1.trans hc1
  refine lw_off Z Z Z Z Z Z (lw_off Z Z Z Z Z Z (lw_op Z Z Z (ow_pickT Z Z Z (lw_nil (ew_then (cw_true Z (cw_seq (cw_region (lw_op Z Z Z (ow_assign Z Z (lw_nil (ew_then (cw_ret (ew_thenR ?_))))))))))))))
  obtain rfl := Option.some.inj h
  exact ew_ret (res1 Z (.tmp Z)) ⟨_, Z, ((vint _)), hC.bx⟩
 ·
  obtain rfl := hbb1.trans hc1
  refine lw_on Z Z Z Z Z Z (ow_move Z Z (lw_on Z Z Z Z Z Z (ow_geq Z Z Z fun bb2 hbb2 => lw_op Z Z Z (ow_pickF Z Z Z (lw_nil (ew_then ?_))))))
  replace h := cond_some h
  rcases h with ⟨hc2, h⟩ | ⟨hc2, h⟩
  ·
   obtain rfl := hbb2.trans hc2
   refine cw_true Z (cw_seq (cw_region (lw_op Z Z Z (ow_assign Z Z (lw_nil (ew_then (cw_ret (ew_thenR ?_))))))))
   obtain rfl := Option.some.inj h
   exact ew_ret (res1 Z (.tmp Z)) ⟨_, Z, ((vint _)), hC.bx⟩
  ·
   obtain rfl := hbb2.trans hc2
   refine cw_false Z (cw_skip (ew_then (cw_seq (cw_region (lw_op Z Z Z (ow_move Z Z ?_))))))
   replace h := bind_some h
   obtain ⟨x1, hx1, h⟩ := h
   refine lw_op Z Z Z (ow_indexArr (R := RShape) Z Z Z hG Tryd.underlying77 (Tryd.sizeOf76 _) hx1 fun p1 hp1 => lw_op Z Z Z (ow_fieldAddr Z Z Tryd.underlying76 Z (Tryd.sizeOf3 _) (lw_op Z Z Z (ow_load (R := RInt) Z Z (hp1.fld fld_Shape_top) (Tryd.sizeOf3 _) (Tryd.isAgg3 _) fun v1 hv1 => ?_))))
   obtain rfl := vint_eq hv1
   refine lw_op Z Z Z (ow_assign Z Z (lw_nil (ew_then (cw_ret ?_))))
   obtain rfl := Option.some.inj h
   exact ew_ret (res1 Z (.tmp Z)) ⟨_, Z, ((vint _)), hC.bx⟩

theorem w_impl_TestValid {w : World} {M : Nat → Prop} (hG : ARep (RArr 4 RShape) w M shapes ⟨0, 0, none⟩) (hO : ∀ b, M b → b < w.heap.size) {v0p : Value} {a_t : Test} (h0 : VRep RTest w M a_t v0p) {r : Bool} (h : F.impl_TestValid a_t = some r) :
  Calls Tryd.prog 85 [v0p].toArray w fun e w' => ∃ v, e = .returned v ∧ VRep RBool w' M r v ∧ BX No w w' := by
 have hC : Cx No w M w M := Cx.start hO (fun _ e => e.elim)
 refine walk (N := 31) Tryd.func85 Z Tryd.ntmps85 Z (cw_seq (cw_region (lw_op Z Z Z (ow_box (R := RTest) Z Z h0 hC fun p1 w1 hp1 hb1 hl1 hC1 => lw_op Z Z Z (ow_assign Z Z (lw_nil (ew_then (cw_seq ?_))))))))
 replace h := cond_some h
 rcases h with ⟨hc1, h⟩ | ⟨hc1, h⟩
 ·
  replace h := cond_some h
  rcases h with ⟨hc2, h⟩ | ⟨hc2, h⟩
  ·
   replace h := cond_some h
   rcases h with ⟨hc3, h⟩ | ⟨hc3, h⟩
   ·
    replace h := cond_some h
    rcases h with ⟨hc4, h⟩ | ⟨hc4, h⟩
    ·
     replace h := bind_some h
     obtain ⟨x1, hx1, h⟩ := h
     refine cw_sub (E' := [(1, (.pointer (some p1))), (2, (.bool false))]) ⟨Z, Z, trivial⟩ (cw_drawQ 26 [PA RInt M a_t.Field, PEq (.int .i64 a_t.Field), PEq (.bool true), PEq (.bool true), PA RInt M a_t.Field, PEq (.int .i64 a_t.Field), PEq (.bool true), PEq (.bool true), PEq (.bool true), PA RInt M a_t.Lo, PEq (.int .i64 a_t.Lo), PEq (.bool true), PEq (.bool true), PEq (.bool true), PA RInt M a_t.Lo, PEq (.int .i64 a_t.Lo), PA RInt M a_t.Hi, PEq (.int .i64 a_t.Hi), PEq (.bool true), PEq (.bool true), PEq (.bool true), PA RInt M a_t.Hi, PEq (.int .i64 a_t.Hi), PA RInt M a_t.Field, PEq (.int .i64 a_t.Field), PEq (.int .i64 x1)] (by kernel_rfl) Z (by kernel_rfl) ⟨PA.mono _ _ _, PEq.mono _, PEq.mono _, PEq.mono _, PA.mono _ _ _, PEq.mono _, PEq.mono _, PEq.mono _, PEq.mono _, PA.mono _ _ _, PEq.mono _, PEq.mono _, PEq.mono _, PEq.mono _, PA.mono _ _ _, PEq.mono _, PA.mono _ _ _, PEq.mono _, PEq.mono _, PEq.mono _, PEq.mono _, PA.mono _ _ _, PEq.mono _, PA.mono _ _ _, PEq.mono _, PEq.mono _, trivial⟩ ⟨?_, ?_, ?_, ?_, ?_, ?_, ?_, ?_, ?_, ?_, ?_, ?_, ?_, ?_, ?_, ?_, ?_, ?_, ?_, ?_, ?_, ?_, ?_, ?_, ?_, ?_, trivial⟩ ?_)
     ·
      intro w3 D hS1 hd1
      have hl3 := Le.no M hS1
      exact dg_sub (E' := [(1, (.pointer (some p1)))]) ⟨Z, trivial⟩ (dg_plain Z (ow_fieldAddr Z Z Tryd.underlying31 Z (Tryd.sizeOf3 _) ⟨BX.refl _ _, ⟨_, Z, (ARep.mono hl3 (hp1.fld fld_Test_Field))⟩⟩))
     ·
      intro w4 D hS2 hd2
      have d1 : PA RInt M a_t.Field (D 0) w4 := dpA hd2 0 Z
      obtain ⟨p2, e1, ha1⟩ := d1
      refine dg_sub (E' := [(3, (.pointer (some p2)))]) ⟨(congrArg some e1), trivial⟩ (dg_plain Z (ow_load (R := RInt) Z Z ha1 (Tryd.sizeOf3 _) (Tryd.isAgg3 _) fun v9 hv9 => ?_))
      obtain rfl := vint_eq hv9
      exact ⟨BX.refl _ _, Z⟩
     ·
      intro w5 D hS3 hd3
      refine dg_sub (E' := [(4, (.int .i64 a_t.Field))]) ⟨(dpE hd3 1 Z Z), trivial⟩ (dg_plain Z (ow_geq Z Z Z fun bb5 hbb5 => ?_))
      obtain rfl := hbb5.trans hc1
      exact ⟨BX.refl _ _, Z⟩
     ·
      intro w6 D hS4 hd4
      exact dg_sub (E' := [(5, (.bool true))]) ⟨(dpE hd4 2 Z Z), trivial⟩ (dg_plain Z (ow_move Z Z ⟨BX.refl _ _, Z⟩))
     ·
      intro w7 D hS5 hd5
      have hl7 := Le.no M hS5
      exact dg_sub (E' := [(6, (.bool true)), (1, (.pointer (some p1)))]) ⟨(dpE hd5 3 Z Z), Z, trivial⟩ (dg_on Z Z Z Z (ow_fieldAddr Z Z Tryd.underlying31 Z (Tryd.sizeOf3 _) ⟨BX.refl _ _, ⟨_, Z, (ARep.mono hl7 (hp1.fld fld_Test_Field))⟩⟩))
     ·
      intro w8 D hS6 hd6
      have d5 : PA RInt M a_t.Field (D 4) w8 := dpA hd6 4 Z
      obtain ⟨p3, e2, ha2⟩ := d5
      refine dg_sub (E' := [(7, (.pointer (some p3))), (6, (.bool true))]) ⟨(congrArg some e2), (dpE hd6 3 Z Z), trivial⟩ (dg_on Z Z Z Z (ow_load (R := RInt) Z Z ha2 (Tryd.sizeOf3 _) (Tryd.isAgg3 _) fun v10 hv10 => ?_))
      obtain rfl := vint_eq hv10
      exact ⟨BX.refl _ _, Z⟩
     ·
      intro w9 D hS7 hd7
      refine dg_sub (E' := [(8, (.int .i64 a_t.Field)), (6, (.bool true))]) ⟨(dpE hd7 5 Z Z), (dpE hd7 3 Z Z), trivial⟩ (dg_on Z Z Z Z (ow_lss Z Z Z fun bb6 hbb6 => ?_))
      obtain rfl := hbb6.trans hc2
      exact ⟨BX.refl _ _, Z⟩
     ·
      intro w10 D hS8 hd8
      exact dg_sub (E' := [(6, (.bool true)), (9, (.bool true))]) ⟨(dpE hd8 3 Z Z), (dpE hd8 6 Z Z), trivial⟩ (dg_plain Z (ow_pickT Z Z Z ⟨BX.refl _ _, Z⟩))
     ·
      intro w11 D hS9 hd9
      exact dg_sub (E' := [(10, (.bool true))]) ⟨(dpE hd9 7 Z Z), trivial⟩ (dg_plain Z (ow_move Z Z ⟨BX.refl _ _, Z⟩))
     ·
      intro w12 D hS10 hd10
      have hl12 := Le.no M hS10
      exact dg_sub (E' := [(11, (.bool true)), (1, (.pointer (some p1)))]) ⟨(dpE hd10 8 Z Z), Z, trivial⟩ (dg_on Z Z Z Z (ow_fieldAddr Z Z Tryd.underlying31 Z (Tryd.sizeOf3 _) ⟨BX.refl _ _, ⟨_, Z, (ARep.mono hl12 (hp1.fld fld_Test_Lo))⟩⟩))
     ·
      intro w13 D hS11 hd11
      have d14 : PA RInt M a_t.Lo (D 9) w13 := dpA hd11 9 Z
      obtain ⟨p4, e3, ha3⟩ := d14
      refine dg_sub (E' := [(12, (.pointer (some p4))), (11, (.bool true))]) ⟨(congrArg some e3), (dpE hd11 8 Z Z), trivial⟩ (dg_on Z Z Z Z (ow_load (R := RInt) Z Z ha3 (Tryd.sizeOf3 _) (Tryd.isAgg3 _) fun v11 hv11 => ?_))
      obtain rfl := vint_eq hv11
      exact ⟨BX.refl _ _, Z⟩
     ·
      intro w14 D hS12 hd12
      refine dg_sub (E' := [(13, (.int .i64 a_t.Lo)), (11, (.bool true))]) ⟨(dpE hd12 10 Z Z), (dpE hd12 8 Z Z), trivial⟩ (dg_on Z Z Z Z (ow_geq Z Z Z fun bb7 hbb7 => ?_))
      obtain rfl := hbb7.trans hc3
      exact ⟨BX.refl _ _, Z⟩
     ·
      intro w15 D hS13 hd13
      exact dg_sub (E' := [(11, (.bool true)), (14, (.bool true))]) ⟨(dpE hd13 8 Z Z), (dpE hd13 11 Z Z), trivial⟩ (dg_plain Z (ow_pickT Z Z Z ⟨BX.refl _ _, Z⟩))
     ·
      intro w16 D hS14 hd14
      exact dg_sub (E' := [(15, (.bool true))]) ⟨(dpE hd14 12 Z Z), trivial⟩ (dg_plain Z (ow_move Z Z ⟨BX.refl _ _, Z⟩))
     ·
      intro w17 D hS15 hd15
      have hl17 := Le.no M hS15
      exact dg_sub (E' := [(16, (.bool true)), (1, (.pointer (some p1)))]) ⟨(dpE hd15 13 Z Z), Z, trivial⟩ (dg_on Z Z Z Z (ow_fieldAddr Z Z Tryd.underlying31 Z (Tryd.sizeOf3 _) ⟨BX.refl _ _, ⟨_, Z, (ARep.mono hl17 (hp1.fld fld_Test_Lo))⟩⟩))
     ·
      intro w18 D hS16 hd16
      have d23 : PA RInt M a_t.Lo (D 14) w18 := dpA hd16 14 Z
      obtain ⟨p5, e4, ha4⟩ := d23
      refine dg_sub (E' := [(17, (.pointer (some p5))), (16, (.bool true))]) ⟨(congrArg some e4), (dpE hd16 13 Z Z), trivial⟩ (dg_on Z Z Z Z (ow_load (R := RInt) Z Z ha4 (Tryd.sizeOf3 _) (Tryd.isAgg3 _) fun v12 hv12 => ?_))
      obtain rfl := vint_eq hv12
      exact ⟨BX.refl _ _, Z⟩
     ·
      intro w19 D hS17 hd17
      have hl19 := Le.no M hS17
      exact dg_sub (E' := [(16, (.bool true)), (1, (.pointer (some p1)))]) ⟨(dpE hd17 13 Z Z), Z, trivial⟩ (dg_on Z Z Z Z (ow_fieldAddr Z Z Tryd.underlying31 Z (Tryd.sizeOf3 _) ⟨BX.refl _ _, ⟨_, Z, (ARep.mono hl19 (hp1.fld fld_Test_Hi))⟩⟩))
     ·
      intro w20 D hS18 hd18
      have d26 : PA RInt M a_t.Hi (D 16) w20 := dpA hd18 16 Z
      obtain ⟨p6, e5, ha5⟩ := d26
      refine dg_sub (E' := [(19, (.pointer (some p6))), (16, (.bool true))]) ⟨(congrArg some e5), (dpE hd18 13 Z Z), trivial⟩ (dg_on Z Z Z Z (ow_load (R := RInt) Z Z ha5 (Tryd.sizeOf3 _) (Tryd.isAgg3 _) fun v13 hv13 => ?_))
      obtain rfl := vint_eq hv13
      exact ⟨BX.refl _ _, Z⟩
     ·
      intro w21 D hS19 hd19
      refine dg_sub (E' := [(18, (.int .i64 a_t.Lo)), (20, (.int .i64 a_t.Hi)), (16, (.bool true))]) ⟨(dpE hd19 15 Z Z), (dpE hd19 17 Z Z), (dpE hd19 13 Z Z), trivial⟩ (dg_on Z Z Z Z (ow_leq Z Z Z fun bb8 hbb8 => ?_))
      obtain rfl := hbb8.trans hc4
      exact ⟨BX.refl _ _, Z⟩
     ·
      intro w22 D hS20 hd20
      exact dg_sub (E' := [(16, (.bool true)), (21, (.bool true))]) ⟨(dpE hd20 13 Z Z), (dpE hd20 18 Z Z), trivial⟩ (dg_plain Z (ow_pickT Z Z Z ⟨BX.refl _ _, Z⟩))
     ·
      intro w23 D hS21 hd21
      exact dg_sub (E' := [(22, (.bool true))]) ⟨(dpE hd21 19 Z Z), trivial⟩ (dg_plain Z (ow_move Z Z ⟨BX.refl _ _, Z⟩))
     ·
      intro w24 D hS22 hd22
      have hl24 := Le.no M hS22
      exact dg_sub (E' := [(23, (.bool true)), (1, (.pointer (some p1)))]) ⟨(dpE hd22 20 Z Z), Z, trivial⟩ (dg_on Z Z Z Z (ow_fieldAddr Z Z Tryd.underlying31 Z (Tryd.sizeOf3 _) ⟨BX.refl _ _, ⟨_, Z, (ARep.mono hl24 (hp1.fld fld_Test_Hi))⟩⟩))
     ·
      intro w25 D hS23 hd23
      have d36 : PA RInt M a_t.Hi (D 21) w25 := dpA hd23 21 Z
      obtain ⟨p7, e6, ha6⟩ := d36
      refine dg_sub (E' := [(24, (.pointer (some p7))), (23, (.bool true))]) ⟨(congrArg some e6), (dpE hd23 20 Z Z), trivial⟩ (dg_on Z Z Z Z (ow_load (R := RInt) Z Z ha6 (Tryd.sizeOf3 _) (Tryd.isAgg3 _) fun v14 hv14 => ?_))
      obtain rfl := vint_eq hv14
      exact ⟨BX.refl _ _, Z⟩
     ·
      intro w26 D hS24 hd24
      have hl26 := Le.no M hS24
      exact dg_sub (E' := [(23, (.bool true)), (1, (.pointer (some p1)))]) ⟨(dpE hd24 20 Z Z), Z, trivial⟩ (dg_on Z Z Z Z (ow_fieldAddr Z Z Tryd.underlying31 Z (Tryd.sizeOf3 _) ⟨BX.refl _ _, ⟨_, Z, (ARep.mono hl26 (hp1.fld fld_Test_Field))⟩⟩))
     ·
      intro w27 D hS25 hd25
      have d39 : PA RInt M a_t.Field (D 23) w27 := dpA hd25 23 Z
      obtain ⟨p8, e7, ha7⟩ := d39
      refine dg_sub (E' := [(26, (.pointer (some p8))), (23, (.bool true))]) ⟨(congrArg some e7), (dpE hd25 20 Z Z), trivial⟩ (dg_on Z Z Z Z (ow_load (R := RInt) Z Z ha7 (Tryd.sizeOf3 _) (Tryd.isAgg3 _) fun v15 hv15 => ?_))
      obtain rfl := vint_eq hv15
      exact ⟨BX.refl _ _, Z⟩
     ·
      intro w28 D hS26 hd26
      have hl28 := Le.no M hS26
      have hC28 := hC1.no hS26
      refine dg_sub (E' := [(27, (.int .i64 a_t.Field)), (23, (.bool true))]) ⟨(dpE hd26 24 Z Z), (dpE hd26 20 Z Z), trivial⟩ (dg_on Z Z Z Z (ow_call Z Z Tryd.call83 (w_impl_FieldTop (hG.mono (hl1.trans hl28)) hC28.old hx1) fun v16 w29 hv16 => ?_))
      obtain ⟨hv16, hb3⟩ := hv16
      obtain rfl := vint_eq hv16
      exact ⟨hb3, Z⟩
     ·
      intro w30 D hS27 hd27
      have hC30 := hC1.no hS27
      refine lw_sub (E' := [(23, (.bool true)), (25, (.int .i64 a_t.Hi)), (28, (.int .i64 x1)), (1, (.pointer (some p1))), (2, (.bool false))]) ⟨(dpE hd27 20 Z Z), (dpE hd27 22 Z Z), (dpE hd27 25 Z Z), Z, Z, trivial⟩ (lw_on Z Z Z Z Z Z (ow_leq Z Z Z fun bb9 hbb9 => lw_op Z Z Z (ow_pickT Z Z Z (lw_op Z Z Z (ow_assign Z Z (lw_nil (ew_then (cw_ret ?_))))))))
      obtain rfl := Option.some.inj h
      exact ew_ret (res1 Z (.tmp Z)) ⟨_, Z, ((vbool_of hbb9)), hC30.bx⟩
    ·
     refine cw_sub (E' := [(1, (.pointer (some p1))), (2, (.bool false))]) ⟨Z, Z, trivial⟩ (cw_drawQ 26 [PA RInt M a_t.Field, PEq (.int .i64 a_t.Field), PEq (.bool true), PEq (.bool true), PA RInt M a_t.Field, PEq (.int .i64 a_t.Field), PEq (.bool true), PEq (.bool true), PEq (.bool true), PA RInt M a_t.Lo, PEq (.int .i64 a_t.Lo), PEq (.bool true), PEq (.bool true), PEq (.bool true), PA RInt M a_t.Lo, PEq (.int .i64 a_t.Lo), PA RInt M a_t.Hi, PEq (.int .i64 a_t.Hi), PEq (.bool false), PEq (.bool false), PEq (.bool false), PEq undef, PEq undef, PEq undef, PEq undef, PEq undef] (by kernel_rfl) Z (by kernel_rfl) ⟨PA.mono _ _ _, PEq.mono _, PEq.mono _, PEq.mono _, PA.mono _ _ _, PEq.mono _, PEq.mono _, PEq.mono _, PEq.mono _, PA.mono _ _ _, PEq.mono _, PEq.mono _, PEq.mono _, PEq.mono _, PA.mono _ _ _, PEq.mono _, PA.mono _ _ _, PEq.mono _, PEq.mono _, PEq.mono _, PEq.mono _, PEq.mono _, PEq.mono _, PEq.mono _, PEq.mono _, PEq.mono _, trivial⟩ ⟨?_, ?_, ?_, ?_, ?_, ?_, ?_, ?_, ?_, ?_, ?_, ?_, ?_, ?_, ?_, ?_, ?_, ?_, ?_, ?_, ?_, ?_, ?_, ?_, ?_, ?_, trivial⟩ ?_)
     ·
      intro w31 D hS28 hd28
      have hl31 := Le.no M hS28
      exact dg_sub (E' := [(1, (.pointer (some p1)))]) ⟨Z, trivial⟩ (dg_plain Z (ow_fieldAddr Z Z Tryd.underlying31 Z (Tryd.sizeOf3 _) ⟨BX.refl _ _, ⟨_, Z, (ARep.mono hl31 (hp1.fld fld_Test_Field))⟩⟩))
     ·
      intro w32 D hS29 hd29
      have d70 : PA RInt M a_t.Field (D 0) w32 := dpA hd29 0 Z
      obtain ⟨p9, e8, ha8⟩ := d70
      refine dg_sub (E' := [(3, (.pointer (some p9)))]) ⟨(congrArg some e8), trivial⟩ (dg_plain Z (ow_load (R := RInt) Z Z ha8 (Tryd.sizeOf3 _) (Tryd.isAgg3 _) fun v17 hv17 => ?_))
      obtain rfl := vint_eq hv17
      exact ⟨BX.refl _ _, Z⟩
     ·
      intro w33 D hS30 hd30
      refine dg_sub (E' := [(4, (.int .i64 a_t.Field))]) ⟨(dpE hd30 1 Z Z), trivial⟩ (dg_plain Z (ow_geq Z Z Z fun bb10 hbb10 => ?_))
      obtain rfl := hbb10.trans hc1
      exact ⟨BX.refl _ _, Z⟩
     ·
      intro w34 D hS31 hd31
      exact dg_sub (E' := [(5, (.bool true))]) ⟨(dpE hd31 2 Z Z), trivial⟩ (dg_plain Z (ow_move Z Z ⟨BX.refl _ _, Z⟩))
     ·
      intro w35 D hS32 hd32
      have hl35 := Le.no M hS32
      exact dg_sub (E' := [(6, (.bool true)), (1, (.pointer (some p1)))]) ⟨(dpE hd32 3 Z Z), Z, trivial⟩ (dg_on Z Z Z Z (ow_fieldAddr Z Z Tryd.underlying31 Z (Tryd.sizeOf3 _) ⟨BX.refl _ _, ⟨_, Z, (ARep.mono hl35 (hp1.fld fld_Test_Field))⟩⟩))
     ·
      intro w36 D hS33 hd33
      have d74 : PA RInt M a_t.Field (D 4) w36 := dpA hd33 4 Z
      obtain ⟨p10, e9, ha9⟩ := d74
      refine dg_sub (E' := [(7, (.pointer (some p10))), (6, (.bool true))]) ⟨(congrArg some e9), (dpE hd33 3 Z Z), trivial⟩ (dg_on Z Z Z Z (ow_load (R := RInt) Z Z ha9 (Tryd.sizeOf3 _) (Tryd.isAgg3 _) fun v18 hv18 => ?_))
      obtain rfl := vint_eq hv18
      exact ⟨BX.refl _ _, Z⟩
     ·
      intro w37 D hS34 hd34
      refine dg_sub (E' := [(8, (.int .i64 a_t.Field)), (6, (.bool true))]) ⟨(dpE hd34 5 Z Z), (dpE hd34 3 Z Z), trivial⟩ (dg_on Z Z Z Z (ow_lss Z Z Z fun bb11 hbb11 => ?_))
      obtain rfl := hbb11.trans hc2
      exact ⟨BX.refl _ _, Z⟩
     ·
      intro w38 D hS35 hd35
      exact dg_sub (E' := [(6, (.bool true)), (9, (.bool true))]) ⟨(dpE hd35 3 Z Z), (dpE hd35 6 Z Z), trivial⟩ (dg_plain Z (ow_pickT Z Z Z ⟨BX.refl _ _, Z⟩))
     ·
      intro w39 D hS36 hd36
      exact dg_sub (E' := [(10, (.bool true))]) ⟨(dpE hd36 7 Z Z), trivial⟩ (dg_plain Z (ow_move Z Z ⟨BX.refl _ _, Z⟩))
     ·
      intro w40 D hS37 hd37
      have hl40 := Le.no M hS37
      exact dg_sub (E' := [(11, (.bool true)), (1, (.pointer (some p1)))]) ⟨(dpE hd37 8 Z Z), Z, trivial⟩ (dg_on Z Z Z Z (ow_fieldAddr Z Z Tryd.underlying31 Z (Tryd.sizeOf3 _) ⟨BX.refl _ _, ⟨_, Z, (ARep.mono hl40 (hp1.fld fld_Test_Lo))⟩⟩))
     ·
      intro w41 D hS38 hd38
      have d83 : PA RInt M a_t.Lo (D 9) w41 := dpA hd38 9 Z
      obtain ⟨p11, e10, ha10⟩ := d83
      refine dg_sub (E' := [(12, (.pointer (some p11))), (11, (.bool true))]) ⟨(congrArg some e10), (dpE hd38 8 Z Z), trivial⟩ (dg_on Z Z Z Z (ow_load (R := RInt) Z Z ha10 (Tryd.sizeOf3 _) (Tryd.isAgg3 _) fun v19 hv19 => ?_))
      obtain rfl := vint_eq hv19
      exact ⟨BX.refl _ _, Z⟩
     ·
      intro w42 D hS39 hd39
      refine dg_sub (E' := [(13, (.int .i64 a_t.Lo)), (11, (.bool true))]) ⟨(dpE hd39 10 Z Z), (dpE hd39 8 Z Z), trivial⟩ (dg_on Z Z Z Z (ow_geq Z Z Z fun bb12 hbb12 => ?_))
      obtain rfl := hbb12.trans hc3
      exact ⟨BX.refl _ _, Z⟩
     ·
      intro w43 D hS40 hd40
      exact dg_sub (E' := [(11, (.bool true)), (14, (.bool true))]) ⟨(dpE hd40 8 Z Z), (dpE hd40 11 Z Z), trivial⟩ (dg_plain Z (ow_pickT Z Z Z ⟨BX.refl _ _, Z⟩))
     ·
      intro w44 D hS41 hd41
      exact dg_sub (E' := [(15, (.bool true))]) ⟨(dpE hd41 12 Z Z), trivial⟩ (dg_plain Z (ow_move Z Z ⟨BX.refl _ _, Z⟩))
     ·
      intro w45 D hS42 hd42
      have hl45 := Le.no M hS42
      exact dg_sub (E' := [(16, (.bool true)), (1, (.pointer (some p1)))]) ⟨(dpE hd42 13 Z Z), Z, trivial⟩ (dg_on Z Z Z Z (ow_fieldAddr Z Z Tryd.underlying31 Z (Tryd.sizeOf3 _) ⟨BX.refl _ _, ⟨_, Z, (ARep.mono hl45 (hp1.fld fld_Test_Lo))⟩⟩))
     ·
      intro w46 D hS43 hd43
      have d92 : PA RInt M a_t.Lo (D 14) w46 := dpA hd43 14 Z
      obtain ⟨p12, e11, ha11⟩ := d92
      refine dg_sub (E' := [(17, (.pointer (some p12))), (16, (.bool true))]) ⟨(congrArg some e11), (dpE hd43 13 Z Z), trivial⟩ (dg_on Z Z Z Z (ow_load (R := RInt) Z Z ha11 (Tryd.sizeOf3 _) (Tryd.isAgg3 _) fun v20 hv20 => ?_))
      obtain rfl := vint_eq hv20
      exact ⟨BX.refl _ _, Z⟩
     ·
      intro w47 D hS44 hd44
      have hl47 := Le.no M hS44
      exact dg_sub (E' := [(16, (.bool true)), (1, (.pointer (some p1)))]) ⟨(dpE hd44 13 Z Z), Z, trivial⟩ (dg_on Z Z Z Z (ow_fieldAddr Z Z Tryd.underlying31 Z (Tryd.sizeOf3 _) ⟨BX.refl _ _, ⟨_, Z, (ARep.mono hl47 (hp1.fld fld_Test_Hi))⟩⟩))
     ·
      intro w48 D hS45 hd45
      have d95 : PA RInt M a_t.Hi (D 16) w48 := dpA hd45 16 Z
      obtain ⟨p13, e12, ha12⟩ := d95
      refine dg_sub (E' := [(19, (.pointer (some p13))), (16, (.bool true))]) ⟨(congrArg some e12), (dpE hd45 13 Z Z), trivial⟩ (dg_on Z Z Z Z (ow_load (R := RInt) Z Z ha12 (Tryd.sizeOf3 _) (Tryd.isAgg3 _) fun v21 hv21 => ?_))
      obtain rfl := vint_eq hv21
      exact ⟨BX.refl _ _, Z⟩
     ·
      intro w49 D hS46 hd46
      refine dg_sub (E' := [(18, (.int .i64 a_t.Lo)), (20, (.int .i64 a_t.Hi)), (16, (.bool true))]) ⟨(dpE hd46 15 Z Z), (dpE hd46 17 Z Z), (dpE hd46 13 Z Z), trivial⟩ (dg_on Z Z Z Z (ow_leq Z Z Z fun bb13 hbb13 => ?_))
      obtain rfl := hbb13.trans hc4
      exact ⟨BX.refl _ _, Z⟩
     ·
      intro w50 D hS47 hd47
      exact dg_sub (E' := [(16, (.bool true)), (21, (.bool false))]) ⟨(dpE hd47 13 Z Z), (dpE hd47 18 Z Z), trivial⟩ (dg_plain Z (ow_pickT Z Z Z ⟨BX.refl _ _, Z⟩))
     ·
      intro w51 D hS48 hd48
      exact dg_sub (E' := [(22, (.bool false))]) ⟨(dpE hd48 19 Z Z), trivial⟩ (dg_plain Z (ow_move Z Z ⟨BX.refl _ _, Z⟩))
     ·
      intro w52 D hS49 hd49
      exact dg_sub (E' := [(23, (.bool false)), (1, (.pointer (some p1)))]) ⟨(dpE hd49 20 Z Z), Z, trivial⟩ (dg_off Z Z Z Z ⟨BX.refl _ _, Z⟩)
     ·
      intro w53 D hS50 hd50
      exact dg_sub (E' := [(24, undef), (23, (.bool false))]) ⟨(dpE hd50 21 Z Z), (dpE hd50 20 Z Z), trivial⟩ (dg_off Z Z Z Z ⟨BX.refl _ _, Z⟩)
     ·
      intro w54 D hS51 hd51
      exact dg_sub (E' := [(23, (.bool false)), (1, (.pointer (some p1)))]) ⟨(dpE hd51 20 Z Z), Z, trivial⟩ (dg_off Z Z Z Z ⟨BX.refl _ _, Z⟩)
     ·
      intro w55 D hS52 hd52
      exact dg_sub (E' := [(26, undef), (23, (.bool false))]) ⟨(dpE hd52 23 Z Z), (dpE hd52 20 Z Z), trivial⟩ (dg_off Z Z Z Z ⟨BX.refl _ _, Z⟩)
     ·
      intro w56 D hS53 hd53
      exact dg_sub (E' := [(27, undef), (23, (.bool false))]) ⟨(dpE hd53 24 Z Z), (dpE hd53 20 Z Z), trivial⟩ (dg_off Z Z Z Z ⟨BX.refl _ _, Z⟩)
     ·
      intro w57 D hS54 hd54
      have hC57 := hC1.no hS54
      refine lw_sub (E' := [(23, (.bool false)), (25, undef), (28, undef), (1, (.pointer (some p1))), (2, (.bool false))]) ⟨(dpE hd54 20 Z Z), (dpE hd54 22 Z Z), (dpE hd54 25 Z Z), Z, Z, trivial⟩ (lw_off Z Z Z Z Z Z (lw_op Z Z Z (ow_pickF Z Z Z (lw_op Z Z Z (ow_assign Z Z (lw_nil (ew_then (cw_ret ?_))))))))
      obtain rfl := Option.some.inj h
      exact ew_ret (res1 Z (.tmp Z)) ⟨_, Z, ((vbool _)), hC57.bx⟩
   ·
    refine cw_sub (E' := [(1, (.pointer (some p1))), (2, (.bool false))]) ⟨Z, Z, trivial⟩ (cw_drawQ 26 [PA RInt M a_t.Field, PEq (.int .i64 a_t.Field), PEq (.bool true), PEq (.bool true), PA RInt M a_t.Field, PEq (.int .i64 a_t.Field), PEq (.bool true), PEq (.bool true), PEq (.bool true), PA RInt M a_t.Lo, PEq (.int .i64 a_t.Lo), PEq (.bool false), PEq (.bool false), PEq (.bool false), PEq undef, PEq undef, PEq undef, PEq undef, PEq undef, PEq (.bool false), PEq (.bool false), PEq undef, PEq undef, PEq undef, PEq undef, PEq undef] (by kernel_rfl) Z (by kernel_rfl) ⟨PA.mono _ _ _, PEq.mono _, PEq.mono _, PEq.mono _, PA.mono _ _ _, PEq.mono _, PEq.mono _, PEq.mono _, PEq.mono _, PA.mono _ _ _, PEq.mono _, PEq.mono _, PEq.mono _, PEq.mono _, PEq.mono _, PEq.mono _, PEq.mono _, PEq.mono _, PEq.mono _, PEq.mono _, PEq.mono _, PEq.mono _, PEq.mono _, PEq.mono _, PEq.mono _, PEq.mono _, trivial⟩ ⟨?_, ?_, ?_, ?_, ?_, ?_, ?_, ?_, ?_, ?_, ?_, ?_, ?_, ?_, ?_, ?_, ?_, ?_, ?_, ?_, ?_, ?_, ?_, ?_, ?_, ?_, trivial⟩ ?_)
    ·
     intro w58 D hS55 hd55
     have hl58 := Le.no M hS55
     exact dg_sub (E' := [(1, (.pointer (some p1)))]) ⟨Z, trivial⟩ (dg_plain Z (ow_fieldAddr Z Z Tryd.underlying31 Z (Tryd.sizeOf3 _) ⟨BX.refl _ _, ⟨_, Z, (ARep.mono hl58 (hp1.fld fld_Test_Field))⟩⟩))
    ·
     intro w59 D hS56 hd56
     have d139 : PA RInt M a_t.Field (D 0) w59 := dpA hd56 0 Z
     obtain ⟨p14, e13, ha13⟩ := d139
     refine dg_sub (E' := [(3, (.pointer (some p14)))]) ⟨(congrArg some e13), trivial⟩ (dg_plain Z (ow_load (R := RInt) Z Z ha13 (Tryd.sizeOf3 _) (Tryd.isAgg3 _) fun v22 hv22 => ?_))
     obtain rfl := vint_eq hv22
     exact ⟨BX.refl _ _, Z⟩
    ·
     intro w60 D hS57 hd57
     refine dg_sub (E' := [(4, (.int .i64 a_t.Field))]) ⟨(dpE hd57 1 Z Z), trivial⟩ (dg_plain Z (ow_geq Z Z Z fun bb14 hbb14 => ?_))
     obtain rfl := hbb14.trans hc1
     exact ⟨BX.refl _ _, Z⟩
    ·
     intro w61 D hS58 hd58
     exact dg_sub (E' := [(5, (.bool true))]) ⟨(dpE hd58 2 Z Z), trivial⟩ (dg_plain Z (ow_move Z Z ⟨BX.refl _ _, Z⟩))
    ·
     intro w62 D hS59 hd59
     have hl62 := Le.no M hS59
     exact dg_sub (E' := [(6, (.bool true)), (1, (.pointer (some p1)))]) ⟨(dpE hd59 3 Z Z), Z, trivial⟩ (dg_on Z Z Z Z (ow_fieldAddr Z Z Tryd.underlying31 Z (Tryd.sizeOf3 _) ⟨BX.refl _ _, ⟨_, Z, (ARep.mono hl62 (hp1.fld fld_Test_Field))⟩⟩))
    ·
     intro w63 D hS60 hd60
     have d143 : PA RInt M a_t.Field (D 4) w63 := dpA hd60 4 Z
     obtain ⟨p15, e14, ha14⟩ := d143
     refine dg_sub (E' := [(7, (.pointer (some p15))), (6, (.bool true))]) ⟨(congrArg some e14), (dpE hd60 3 Z Z), trivial⟩ (dg_on Z Z Z Z (ow_load (R := RInt) Z Z ha14 (Tryd.sizeOf3 _) (Tryd.isAgg3 _) fun v23 hv23 => ?_))
     obtain rfl := vint_eq hv23
     exact ⟨BX.refl _ _, Z⟩
    ·
     intro w64 D hS61 hd61
     refine dg_sub (E' := [(8, (.int .i64 a_t.Field)), (6, (.bool true))]) ⟨(dpE hd61 5 Z Z), (dpE hd61 3 Z Z), trivial⟩ (dg_on Z Z Z Z (ow_lss Z Z Z fun bb15 hbb15 => ?_))
     obtain rfl := hbb15.trans hc2
     exact ⟨BX.refl _ _, Z⟩
    ·
     intro w65 D hS62 hd62
     exact dg_sub (E' := [(6, (.bool true)), (9, (.bool true))]) ⟨(dpE hd62 3 Z Z), (dpE hd62 6 Z Z), trivial⟩ (dg_plain Z (ow_pickT Z Z Z ⟨BX.refl _ _, Z⟩))
    ·
     intro w66 D hS63 hd63
     exact dg_sub (E' := [(10, (.bool true))]) ⟨(dpE hd63 7 Z Z), trivial⟩ (dg_plain Z (ow_move Z Z ⟨BX.refl _ _, Z⟩))
    ·
     intro w67 D hS64 hd64
     have hl67 := Le.no M hS64
     exact dg_sub (E' := [(11, (.bool true)), (1, (.pointer (some p1)))]) ⟨(dpE hd64 8 Z Z), Z, trivial⟩ (dg_on Z Z Z Z (ow_fieldAddr Z Z Tryd.underlying31 Z (Tryd.sizeOf3 _) ⟨BX.refl _ _, ⟨_, Z, (ARep.mono hl67 (hp1.fld fld_Test_Lo))⟩⟩))
    ·
     intro w68 D hS65 hd65
     have d152 : PA RInt M a_t.Lo (D 9) w68 := dpA hd65 9 Z
     obtain ⟨p16, e15, ha15⟩ := d152
     refine dg_sub (E' := [(12, (.pointer (some p16))), (11, (.bool true))]) ⟨(congrArg some e15), (dpE hd65 8 Z Z), trivial⟩ (dg_on Z Z Z Z (ow_load (R := RInt) Z Z ha15 (Tryd.sizeOf3 _) (Tryd.isAgg3 _) fun v24 hv24 => ?_))
     obtain rfl := vint_eq hv24
     exact ⟨BX.refl _ _, Z⟩
    ·
     intro w69 D hS66 hd66
     refine dg_sub (E' := [(13, (.int .i64 a_t.Lo)), (11, (.bool true))]) ⟨(dpE hd66 10 Z Z), (dpE hd66 8 Z Z), trivial⟩ (dg_on Z Z Z Z (ow_geq Z Z Z fun bb16 hbb16 => ?_))
     obtain rfl := hbb16.trans hc3
     exact ⟨BX.refl _ _, Z⟩
    ·
     intro w70 D hS67 hd67
     exact dg_sub (E' := [(11, (.bool true)), (14, (.bool false))]) ⟨(dpE hd67 8 Z Z), (dpE hd67 11 Z Z), trivial⟩ (dg_plain Z (ow_pickT Z Z Z ⟨BX.refl _ _, Z⟩))
    ·
     intro w71 D hS68 hd68
     exact dg_sub (E' := [(15, (.bool false))]) ⟨(dpE hd68 12 Z Z), trivial⟩ (dg_plain Z (ow_move Z Z ⟨BX.refl _ _, Z⟩))
    ·
     intro w72 D hS69 hd69
     exact dg_sub (E' := [(16, (.bool false)), (1, (.pointer (some p1)))]) ⟨(dpE hd69 13 Z Z), Z, trivial⟩ (dg_off Z Z Z Z ⟨BX.refl _ _, Z⟩)
    ·
     intro w73 D hS70 hd70
     exact dg_sub (E' := [(17, undef), (16, (.bool false))]) ⟨(dpE hd70 14 Z Z), (dpE hd70 13 Z Z), trivial⟩ (dg_off Z Z Z Z ⟨BX.refl _ _, Z⟩)
    ·
     intro w74 D hS71 hd71
     exact dg_sub (E' := [(16, (.bool false)), (1, (.pointer (some p1)))]) ⟨(dpE hd71 13 Z Z), Z, trivial⟩ (dg_off Z Z Z Z ⟨BX.refl _ _, Z⟩)
    ·
     intro w75 D hS72 hd72
     exact dg_sub (E' := [(19, undef), (16, (.bool false))]) ⟨(dpE hd72 16 Z Z), (dpE hd72 13 Z Z), trivial⟩ (dg_off Z Z Z Z ⟨BX.refl _ _, Z⟩)
    ·
     intro w76 D hS73 hd73
     exact dg_sub (E' := [(18, undef), (20, undef), (16, (.bool false))]) ⟨(dpE hd73 15 Z Z), (dpE hd73 17 Z Z), (dpE hd73 13 Z Z), trivial⟩ (dg_off Z Z Z Z ⟨BX.refl _ _, Z⟩)
    ·
     intro w77 D hS74 hd74
     exact dg_sub (E' := [(16, (.bool false)), (21, undef)]) ⟨(dpE hd74 13 Z Z), (dpE hd74 18 Z Z), trivial⟩ (dg_plain Z (ow_pickF Z Z Z ⟨BX.refl _ _, Z⟩))
    ·
     intro w78 D hS75 hd75
     exact dg_sub (E' := [(22, (.bool false))]) ⟨(dpE hd75 19 Z Z), trivial⟩ (dg_plain Z (ow_move Z Z ⟨BX.refl _ _, Z⟩))
    ·
     intro w79 D hS76 hd76
     exact dg_sub (E' := [(23, (.bool false)), (1, (.pointer (some p1)))]) ⟨(dpE hd76 20 Z Z), Z, trivial⟩ (dg_off Z Z Z Z ⟨BX.refl _ _, Z⟩)
    ·
     intro w80 D hS77 hd77
     exact dg_sub (E' := [(24, undef), (23, (.bool false))]) ⟨(dpE hd77 21 Z Z), (dpE hd77 20 Z Z), trivial⟩ (dg_off Z Z Z Z ⟨BX.refl _ _, Z⟩)
    ·
     intro w81 D hS78 hd78
     exact dg_sub (E' := [(23, (.bool false)), (1, (.pointer (some p1)))]) ⟨(dpE hd78 20 Z Z), Z, trivial⟩ (dg_off Z Z Z Z ⟨BX.refl _ _, Z⟩)
    ·
     intro w82 D hS79 hd79
     exact dg_sub (E' := [(26, undef), (23, (.bool false))]) ⟨(dpE hd79 23 Z Z), (dpE hd79 20 Z Z), trivial⟩ (dg_off Z Z Z Z ⟨BX.refl _ _, Z⟩)
    ·
     intro w83 D hS80 hd80
     exact dg_sub (E' := [(27, undef), (23, (.bool false))]) ⟨(dpE hd80 24 Z Z), (dpE hd80 20 Z Z), trivial⟩ (dg_off Z Z Z Z ⟨BX.refl _ _, Z⟩)
    ·
     intro w84 D hS81 hd81
     have hC84 := hC1.no hS81
     refine lw_sub (E' := [(23, (.bool false)), (25, undef), (28, undef), (1, (.pointer (some p1))), (2, (.bool false))]) ⟨(dpE hd81 20 Z Z), (dpE hd81 22 Z Z), (dpE hd81 25 Z Z), Z, Z, trivial⟩ (lw_off Z Z Z Z Z Z (lw_op Z Z Z (ow_pickF Z Z Z (lw_op Z Z Z (ow_assign Z Z (lw_nil (ew_then (cw_ret ?_))))))))
     obtain rfl := Option.some.inj h
     exact ew_ret (res1 Z (.tmp Z)) ⟨_, Z, ((vbool _)), hC84.bx⟩
  ·
   refine cw_sub (E' := [(1, (.pointer (some p1))), (2, (.bool false))]) ⟨Z, Z, trivial⟩ (cw_drawQ 26 [PA RInt M a_t.Field, PEq (.int .i64 a_t.Field), PEq (.bool true), PEq (.bool true), PA RInt M a_t.Field, PEq (.int .i64 a_t.Field), PEq (.bool false), PEq (.bool false), PEq (.bool false), PEq undef, PEq undef, PEq undef, PEq (.bool false), PEq (.bool false), PEq undef, PEq undef, PEq undef, PEq undef, PEq undef, PEq (.bool false), PEq (.bool false), PEq undef, PEq undef, PEq undef, PEq undef, PEq undef] (by kernel_rfl) Z (by kernel_rfl) ⟨PA.mono _ _ _, PEq.mono _, PEq.mono _, PEq.mono _, PA.mono _ _ _, PEq.mono _, PEq.mono _, PEq.mono _, PEq.mono _, PEq.mono _, PEq.mono _, PEq.mono _, PEq.mono _, PEq.mono _, PEq.mono _, PEq.mono _, PEq.mono _, PEq.mono _, PEq.mono _, PEq.mono _, PEq.mono _, PEq.mono _, PEq.mono _, PEq.mono _, PEq.mono _, PEq.mono _, trivial⟩ ⟨?_, ?_, ?_, ?_, ?_, ?_, ?_, ?_, ?_, ?_, ?_, ?_, ?_, ?_, ?_, ?_, ?_, ?_, ?_, ?_, ?_, ?_, ?_, ?_, ?_, ?_, trivial⟩ ?_)
   ·
    intro w85 D hS82 hd82
    have hl85 := Le.no M hS82
    exact dg_sub (E' := [(1, (.pointer (some p1)))]) ⟨Z, trivial⟩ (dg_plain Z (ow_fieldAddr Z Z Tryd.underlying31 Z (Tryd.sizeOf3 _) ⟨BX.refl _ _, ⟨_, Z, (ARep.mono hl85 (hp1.fld fld_Test_Field))⟩⟩))
   ·
    intro w86 D hS83 hd83
    have d208 : PA RInt M a_t.Field (D 0) w86 := dpA hd83 0 Z
    obtain ⟨p17, e16, ha16⟩ := d208
    refine dg_sub (E' := [(3, (.pointer (some p17)))]) ⟨(congrArg some e16), trivial⟩ (dg_plain Z (ow_load (R := RInt) Z Z ha16 (Tryd.sizeOf3 _) (Tryd.isAgg3 _) fun v25 hv25 => ?_))
    obtain rfl := vint_eq hv25
    exact ⟨BX.refl _ _, Z⟩
   ·
    intro w87 D hS84 hd84
    refine dg_sub (E' := [(4, (.int .i64 a_t.Field))]) ⟨(dpE hd84 1 Z Z), trivial⟩ (dg_plain Z (ow_geq Z Z Z fun bb17 hbb17 => ?_))
    obtain rfl := hbb17.trans hc1
    exact ⟨BX.refl _ _, Z⟩
   ·
    intro w88 D hS85 hd85
    exact dg_sub (E' := [(5, (.bool true))]) ⟨(dpE hd85 2 Z Z), trivial⟩ (dg_plain Z (ow_move Z Z ⟨BX.refl _ _, Z⟩))
   ·
    intro w89 D hS86 hd86
    have hl89 := Le.no M hS86
    exact dg_sub (E' := [(6, (.bool true)), (1, (.pointer (some p1)))]) ⟨(dpE hd86 3 Z Z), Z, trivial⟩ (dg_on Z Z Z Z (ow_fieldAddr Z Z Tryd.underlying31 Z (Tryd.sizeOf3 _) ⟨BX.refl _ _, ⟨_, Z, (ARep.mono hl89 (hp1.fld fld_Test_Field))⟩⟩))
   ·
    intro w90 D hS87 hd87
    have d212 : PA RInt M a_t.Field (D 4) w90 := dpA hd87 4 Z
    obtain ⟨p18, e17, ha17⟩ := d212
    refine dg_sub (E' := [(7, (.pointer (some p18))), (6, (.bool true))]) ⟨(congrArg some e17), (dpE hd87 3 Z Z), trivial⟩ (dg_on Z Z Z Z (ow_load (R := RInt) Z Z ha17 (Tryd.sizeOf3 _) (Tryd.isAgg3 _) fun v26 hv26 => ?_))
    obtain rfl := vint_eq hv26
    exact ⟨BX.refl _ _, Z⟩
   ·
    intro w91 D hS88 hd88
    refine dg_sub (E' := [(8, (.int .i64 a_t.Field)), (6, (.bool true))]) ⟨(dpE hd88 5 Z Z), (dpE hd88 3 Z Z), trivial⟩ (dg_on Z Z Z Z (ow_lss Z Z Z fun bb18 hbb18 => ?_))
    obtain rfl := hbb18.trans hc2
    exact ⟨BX.refl _ _, Z⟩
   ·
    intro w92 D hS89 hd89
    exact dg_sub (E' := [(6, (.bool true)), (9, (.bool false))]) ⟨(dpE hd89 3 Z Z), (dpE hd89 6 Z Z), trivial⟩ (dg_plain Z (ow_pickT Z Z Z ⟨BX.refl _ _, Z⟩))
   ·
    intro w93 D hS90 hd90
    exact dg_sub (E' := [(10, (.bool false))]) ⟨(dpE hd90 7 Z Z), trivial⟩ (dg_plain Z (ow_move Z Z ⟨BX.refl _ _, Z⟩))
   ·
    intro w94 D hS91 hd91
    exact dg_sub (E' := [(11, (.bool false)), (1, (.pointer (some p1)))]) ⟨(dpE hd91 8 Z Z), Z, trivial⟩ (dg_off Z Z Z Z ⟨BX.refl _ _, Z⟩)
   ·
    intro w95 D hS92 hd92
    exact dg_sub (E' := [(12, undef), (11, (.bool false))]) ⟨(dpE hd92 9 Z Z), (dpE hd92 8 Z Z), trivial⟩ (dg_off Z Z Z Z ⟨BX.refl _ _, Z⟩)
   ·
    intro w96 D hS93 hd93
    exact dg_sub (E' := [(13, undef), (11, (.bool false))]) ⟨(dpE hd93 10 Z Z), (dpE hd93 8 Z Z), trivial⟩ (dg_off Z Z Z Z ⟨BX.refl _ _, Z⟩)
   ·
    intro w97 D hS94 hd94
    exact dg_sub (E' := [(11, (.bool false)), (14, undef)]) ⟨(dpE hd94 8 Z Z), (dpE hd94 11 Z Z), trivial⟩ (dg_plain Z (ow_pickF Z Z Z ⟨BX.refl _ _, Z⟩))
   ·
    intro w98 D hS95 hd95
    exact dg_sub (E' := [(15, (.bool false))]) ⟨(dpE hd95 12 Z Z), trivial⟩ (dg_plain Z (ow_move Z Z ⟨BX.refl _ _, Z⟩))
   ·
    intro w99 D hS96 hd96
    exact dg_sub (E' := [(16, (.bool false)), (1, (.pointer (some p1)))]) ⟨(dpE hd96 13 Z Z), Z, trivial⟩ (dg_off Z Z Z Z ⟨BX.refl _ _, Z⟩)
   ·
    intro w100 D hS97 hd97
    exact dg_sub (E' := [(17, undef), (16, (.bool false))]) ⟨(dpE hd97 14 Z Z), (dpE hd97 13 Z Z), trivial⟩ (dg_off Z Z Z Z ⟨BX.refl _ _, Z⟩)
   ·
    intro w101 D hS98 hd98
    exact dg_sub (E' := [(16, (.bool false)), (1, (.pointer (some p1)))]) ⟨(dpE hd98 13 Z Z), Z, trivial⟩ (dg_off Z Z Z Z ⟨BX.refl _ _, Z⟩)
   ·
    intro w102 D hS99 hd99
    exact dg_sub (E' := [(19, undef), (16, (.bool false))]) ⟨(dpE hd99 16 Z Z), (dpE hd99 13 Z Z), trivial⟩ (dg_off Z Z Z Z ⟨BX.refl _ _, Z⟩)
   ·
    intro w103 D hS100 hd100
    exact dg_sub (E' := [(18, undef), (20, undef), (16, (.bool false))]) ⟨(dpE hd100 15 Z Z), (dpE hd100 17 Z Z), (dpE hd100 13 Z Z), trivial⟩ (dg_off Z Z Z Z ⟨BX.refl _ _, Z⟩)
   ·
    intro w104 D hS101 hd101
    exact dg_sub (E' := [(16, (.bool false)), (21, undef)]) ⟨(dpE hd101 13 Z Z), (dpE hd101 18 Z Z), trivial⟩ (dg_plain Z (ow_pickF Z Z Z ⟨BX.refl _ _, Z⟩))
   ·
    intro w105 D hS102 hd102
    exact dg_sub (E' := [(22, (.bool false))]) ⟨(dpE hd102 19 Z Z), trivial⟩ (dg_plain Z (ow_move Z Z ⟨BX.refl _ _, Z⟩))
   ·
    intro w106 D hS103 hd103
    exact dg_sub (E' := [(23, (.bool false)), (1, (.pointer (some p1)))]) ⟨(dpE hd103 20 Z Z), Z, trivial⟩ (dg_off Z Z Z Z ⟨BX.refl _ _, Z⟩)
   ·
    intro w107 D hS104 hd104
    exact dg_sub (E' := [(24, undef), (23, (.bool false))]) ⟨(dpE hd104 21 Z Z), (dpE hd104 20 Z Z), trivial⟩ (dg_off Z Z Z Z ⟨BX.refl _ _, Z⟩)
   ·
    intro w108 D hS105 hd105
    exact dg_sub (E' := [(23, (.bool false)), (1, (.pointer (some p1)))]) ⟨(dpE hd105 20 Z Z), Z, trivial⟩ (dg_off Z Z Z Z ⟨BX.refl _ _, Z⟩)
   ·
    intro w109 D hS106 hd106
    exact dg_sub (E' := [(26, undef), (23, (.bool false))]) ⟨(dpE hd106 23 Z Z), (dpE hd106 20 Z Z), trivial⟩ (dg_off Z Z Z Z ⟨BX.refl _ _, Z⟩)
   ·
    intro w110 D hS107 hd107
    exact dg_sub (E' := [(27, undef), (23, (.bool false))]) ⟨(dpE hd107 24 Z Z), (dpE hd107 20 Z Z), trivial⟩ (dg_off Z Z Z Z ⟨BX.refl _ _, Z⟩)
   ·
    intro w111 D hS108 hd108
    have hC111 := hC1.no hS108
    refine lw_sub (E' := [(23, (.bool false)), (25, undef), (28, undef), (1, (.pointer (some p1))), (2, (.bool false))]) ⟨(dpE hd108 20 Z Z), (dpE hd108 22 Z Z), (dpE hd108 25 Z Z), Z, Z, trivial⟩ (lw_off Z Z Z Z Z Z (lw_op Z Z Z (ow_pickF Z Z Z (lw_op Z Z Z (ow_assign Z Z (lw_nil (ew_then (cw_ret ?_))))))))
    obtain rfl := Option.some.inj h
    exact ew_ret (res1 Z (.tmp Z)) ⟨_, Z, ((vbool _)), hC111.bx⟩
 ·
  refine cw_sub (E' := [(1, (.pointer (some p1))), (2, (.bool false))]) ⟨Z, Z, trivial⟩ (cw_drawQ 26 [PA RInt M a_t.Field, PEq (.int .i64 a_t.Field), PEq (.bool false), PEq (.bool false), PEq undef, PEq undef, PEq undef, PEq (.bool false), PEq (.bool false), PEq undef, PEq undef, PEq undef, PEq (.bool false), PEq (.bool false), PEq undef, PEq undef, PEq undef, PEq undef, PEq undef, PEq (.bool false), PEq (.bool false), PEq undef, PEq undef, PEq undef, PEq undef, PEq undef] (by kernel_rfl) Z (by kernel_rfl) ⟨PA.mono _ _ _, PEq.mono _, PEq.mono _, PEq.mono _, PEq.mono _, PEq.mono _, PEq.mono _, PEq.mono _, PEq.mono _, PEq.mono _, PEq.mono _, PEq.mono _, PEq.mono _, PEq.mono _, PEq.mono _, PEq.mono _, PEq.mono _, PEq.mono _, PEq.mono _, PEq.mono _, PEq.mono _, PEq.mono _, PEq.mono _, PEq.mono _, PEq.mono _, PEq.mono _, trivial⟩ ⟨?_, ?_, ?_, ?_, ?_, ?_, ?_, ?_, ?_, ?_, ?_, ?_, ?_, ?_, ?_, ?_, ?_, ?_, ?_, ?_, ?_, ?_, ?_, ?_, ?_, ?_, trivial⟩ ?_)
  ·
   intro w112 D hS109 hd109
   have hl112 := Le.no M hS109
   exact dg_sub (E' := [(1, (.pointer (some p1)))]) ⟨Z, trivial⟩ (dg_plain Z (ow_fieldAddr Z Z Tryd.underlying31 Z (Tryd.sizeOf3 _) ⟨BX.refl _ _, ⟨_, Z, (ARep.mono hl112 (hp1.fld fld_Test_Field))⟩⟩))
  ·
   intro w113 D hS110 hd110
   have d277 : PA RInt M a_t.Field (D 0) w113 := dpA hd110 0 Z
   obtain ⟨p19, e18, ha18⟩ := d277
   refine dg_sub (E' := [(3, (.pointer (some p19)))]) ⟨(congrArg some e18), trivial⟩ (dg_plain Z (ow_load (R := RInt) Z Z ha18 (Tryd.sizeOf3 _) (Tryd.isAgg3 _) fun v27 hv27 => ?_))
   obtain rfl := vint_eq hv27
   exact ⟨BX.refl _ _, Z⟩
  ·
   intro w114 D hS111 hd111
   refine dg_sub (E' := [(4, (.int .i64 a_t.Field))]) ⟨(dpE hd111 1 Z Z), trivial⟩ (dg_plain Z (ow_geq Z Z Z fun bb19 hbb19 => ?_))
   obtain rfl := hbb19.trans hc1
   exact ⟨BX.refl _ _, Z⟩
  ·
   intro w115 D hS112 hd112
   exact dg_sub (E' := [(5, (.bool false))]) ⟨(dpE hd112 2 Z Z), trivial⟩ (dg_plain Z (ow_move Z Z ⟨BX.refl _ _, Z⟩))
  ·
   intro w116 D hS113 hd113
   exact dg_sub (E' := [(6, (.bool false)), (1, (.pointer (some p1)))]) ⟨(dpE hd113 3 Z Z), Z, trivial⟩ (dg_off Z Z Z Z ⟨BX.refl _ _, Z⟩)
  ·
   intro w117 D hS114 hd114
   exact dg_sub (E' := [(7, undef), (6, (.bool false))]) ⟨(dpE hd114 4 Z Z), (dpE hd114 3 Z Z), trivial⟩ (dg_off Z Z Z Z ⟨BX.refl _ _, Z⟩)
  ·
   intro w118 D hS115 hd115
   exact dg_sub (E' := [(8, undef), (6, (.bool false))]) ⟨(dpE hd115 5 Z Z), (dpE hd115 3 Z Z), trivial⟩ (dg_off Z Z Z Z ⟨BX.refl _ _, Z⟩)
  ·
   intro w119 D hS116 hd116
   exact dg_sub (E' := [(6, (.bool false)), (9, undef)]) ⟨(dpE hd116 3 Z Z), (dpE hd116 6 Z Z), trivial⟩ (dg_plain Z (ow_pickF Z Z Z ⟨BX.refl _ _, Z⟩))
  ·
   intro w120 D hS117 hd117
   exact dg_sub (E' := [(10, (.bool false))]) ⟨(dpE hd117 7 Z Z), trivial⟩ (dg_plain Z (ow_move Z Z ⟨BX.refl _ _, Z⟩))
  ·
   intro w121 D hS118 hd118
   exact dg_sub (E' := [(11, (.bool false)), (1, (.pointer (some p1)))]) ⟨(dpE hd118 8 Z Z), Z, trivial⟩ (dg_off Z Z Z Z ⟨BX.refl _ _, Z⟩)
  ·
   intro w122 D hS119 hd119
   exact dg_sub (E' := [(12, undef), (11, (.bool false))]) ⟨(dpE hd119 9 Z Z), (dpE hd119 8 Z Z), trivial⟩ (dg_off Z Z Z Z ⟨BX.refl _ _, Z⟩)
  ·
   intro w123 D hS120 hd120
   exact dg_sub (E' := [(13, undef), (11, (.bool false))]) ⟨(dpE hd120 10 Z Z), (dpE hd120 8 Z Z), trivial⟩ (dg_off Z Z Z Z ⟨BX.refl _ _, Z⟩)
  ·
   intro w124 D hS121 hd121
   exact dg_sub (E' := [(11, (.bool false)), (14, undef)]) ⟨(dpE hd121 8 Z Z), (dpE hd121 11 Z Z), trivial⟩ (dg_plain Z (ow_pickF Z Z Z ⟨BX.refl _ _, Z⟩))
  ·
   intro w125 D hS122 hd122
   exact dg_sub (E' := [(15, (.bool false))]) ⟨(dpE hd122 12 Z Z), trivial⟩ (dg_plain Z (ow_move Z Z ⟨BX.refl _ _, Z⟩))
  ·
   intro w126 D hS123 hd123
   exact dg_sub (E' := [(16, (.bool false)), (1, (.pointer (some p1)))]) ⟨(dpE hd123 13 Z Z), Z, trivial⟩ (dg_off Z Z Z Z ⟨BX.refl _ _, Z⟩)
  ·
   intro w127 D hS124 hd124
   exact dg_sub (E' := [(17, undef), (16, (.bool false))]) ⟨(dpE hd124 14 Z Z), (dpE hd124 13 Z Z), trivial⟩ (dg_off Z Z Z Z ⟨BX.refl _ _, Z⟩)
  ·
   intro w128 D hS125 hd125
   exact dg_sub (E' := [(16, (.bool false)), (1, (.pointer (some p1)))]) ⟨(dpE hd125 13 Z Z), Z, trivial⟩ (dg_off Z Z Z Z ⟨BX.refl _ _, Z⟩)
  ·
   intro w129 D hS126 hd126
   exact dg_sub (E' := [(19, undef), (16, (.bool false))]) ⟨(dpE hd126 16 Z Z), (dpE hd126 13 Z Z), trivial⟩ (dg_off Z Z Z Z ⟨BX.refl _ _, Z⟩)
  ·
   intro w130 D hS127 hd127
   exact dg_sub (E' := [(18, undef), (20, undef), (16, (.bool false))]) ⟨(dpE hd127 15 Z Z), (dpE hd127 17 Z Z), (dpE hd127 13 Z Z), trivial⟩ (dg_off Z Z Z Z ⟨BX.refl _ _, Z⟩)
  ·
   intro w131 D hS128 hd128
   exact dg_sub (E' := [(16, (.bool false)), (21, undef)]) ⟨(dpE hd128 13 Z Z), (dpE hd128 18 Z Z), trivial⟩ (dg_plain Z (ow_pickF Z Z Z ⟨BX.refl _ _, Z⟩))
  ·
   intro w132 D hS129 hd129
   exact dg_sub (E' := [(22, (.bool false))]) ⟨(dpE hd129 19 Z Z), trivial⟩ (dg_plain Z (ow_move Z Z ⟨BX.refl _ _, Z⟩))
  ·
   intro w133 D hS130 hd130
   exact dg_sub (E' := [(23, (.bool false)), (1, (.pointer (some p1)))]) ⟨(dpE hd130 20 Z Z), Z, trivial⟩ (dg_off Z Z Z Z ⟨BX.refl _ _, Z⟩)
  ·
   intro w134 D hS131 hd131
   exact dg_sub (E' := [(24, undef), (23, (.bool false))]) ⟨(dpE hd131 21 Z Z), (dpE hd131 20 Z Z), trivial⟩ (dg_off Z Z Z Z ⟨BX.refl _ _, Z⟩)
  ·
   intro w135 D hS132 hd132
   exact dg_sub (E' := [(23, (.bool false)), (1, (.pointer (some p1)))]) ⟨(dpE hd132 20 Z Z), Z, trivial⟩ (dg_off Z Z Z Z ⟨BX.refl _ _, Z⟩)
  ·
   intro w136 D hS133 hd133
   exact dg_sub (E' := [(26, undef), (23, (.bool false))]) ⟨(dpE hd133 23 Z Z), (dpE hd133 20 Z Z), trivial⟩ (dg_off Z Z Z Z ⟨BX.refl _ _, Z⟩)
  ·
   intro w137 D hS134 hd134
   exact dg_sub (E' := [(27, undef), (23, (.bool false))]) ⟨(dpE hd134 24 Z Z), (dpE hd134 20 Z Z), trivial⟩ (dg_off Z Z Z Z ⟨BX.refl _ _, Z⟩)
  ·
   intro w138 D hS135 hd135
   have hC138 := hC1.no hS135
   refine lw_sub (E' := [(23, (.bool false)), (25, undef), (28, undef), (1, (.pointer (some p1))), (2, (.bool false))]) ⟨(dpE hd135 20 Z Z), (dpE hd135 22 Z Z), (dpE hd135 25 Z Z), Z, Z, trivial⟩ (lw_off Z Z Z Z Z Z (lw_op Z Z Z (ow_pickF Z Z Z (lw_op Z Z Z (ow_assign Z Z (lw_nil (ew_then (cw_ret ?_))))))))
   obtain rfl := Option.some.inj h
   exact ew_ret (res1 Z (.tmp Z)) ⟨_, Z, ((vbool _)), hC138.bx⟩

theorem w_impl_TestsValid {w : World} {M : Nat → Prop} (hG : ARep (RArr 4 RShape) w M shapes ⟨0, 0, none⟩) (hO : ∀ b, M b → b < w.heap.size) {v0p : Value} {a_list : List Test} (h0 : VRep (RSlice RTest) w M a_list v0p) {r : Bool} (h : F.impl_TestsValid a_list = some r) :
  Calls Tryd.prog 56 [v0p].toArray w fun e w' => ∃ v, e = .returned v ∧ VRep RBool w' M r v ∧ BX No w w' := by
 have hC : Cx No w M w M := Cx.start hO (fun _ e => e.elim)
 refine walk (N := 18) Tryd.func56 Z Tryd.ntmps56 Z (cw_seq (cw_region (lw_op Z Z Z (ow_assign Z Z (lw_nil (ew_then (cw_seq (cw_seq (cw_region (lw_op Z Z Z (ow_move Z Z (lw_op Z Z Z (ow_len Z Z h0 Tryd.underlying27 Z (lw_op Z Z Z (ow_gtr Z Z Z fun bb1 hbb1 => lw_nil (ew_then ?_))))))))))))))))
 replace h := cond_some h
 rcases h with ⟨hc1, h⟩ | ⟨hc1, h⟩
 ·
  obtain rfl := hbb1.trans hc1
  refine cw_true Z (cw_seq (cw_region (lw_op Z Z Z (ow_assign Z Z (lw_nil (ew_then (cw_ret (ew_thenR ?_))))))))
  obtain rfl := Option.some.inj h
  exact ew_ret (res1 Z (.tmp Z)) ⟨_, Z, ((vbool _)), hC.bx⟩
 ·
  obtain rfl := hbb1.trans hc1
  refine cw_false Z (cw_skip (ew_then (cw_seq (cw_seq (cw_region (lw_op Z Z Z (ow_move Z Z (lw_op Z Z Z (ow_len Z Z h0 Tryd.underlying27 Z (lw_op Z Z Z (ow_move Z Z (lw_nil (ew_then ?_)))))))))))))
  replace h := bind_some h
  obtain ⟨lr1, hlr1, h⟩ := h
  refine cw_for hlr1 (fun s a w' => ∃ (M' : Nat → Prop), Fits 18 [(8, v0p), (9, (.int .i64 (a_list.length : Int))), (10, (.int .i64 s))] a ∧ Le w M w' M' ∧ Cx No w M w' M') ?_ ?_ ?_
  ·
   intro a ha
   exact ⟨M, ha.sub ⟨Z, Z, Z, trivial⟩, Le.refl _ _, hC⟩
  ·
   rintro k1 a w1 sr1 ⟨M1, hF1, hl1, hC1⟩ hb1 hR1
   refine cw_at (E := [(8, v0p), (9, (.int .i64 (a_list.length : Int))), (10, (.int .i64 k1))]) hF1 (cw_seq (cw_region (lw_op Z Z Z (ow_lss Z Z Z fun bb2 hbb2 => lw_nil (ew_then (cw_seq ?_))))))
   replace hb1 := cond_some hb1
   rcases hb1 with ⟨hc2, hb1⟩ | ⟨hc2, hb1⟩
   ·
    obtain rfl := hbb2.trans hc2
    refine cw_true Z (cw_skip (ew_then (cw_seq (cw_block (cw_seq (cw_region ?_))))))
    replace hb1 := bind_some hb1
    obtain ⟨x1, hx1, hb1⟩ := hb1
    refine lw_op Z Z Z (ow_indexSlice (R := RTest) Z Z Z (VRep.mono hl1 h0) Tryd.underlying27 (Tryd.sizeOf31 _) hx1 fun p1 hp1 => lw_op Z Z Z (ow_load (R := RTest) Z Z hp1 (Tryd.sizeOf31 _) (Tryd.isAgg31 _) fun v2 hv2 => lw_allocStore (R := RTest) Z Z Z Z Z Z Z Tryd.zeroValue31 Tryd.sizeOf31 Z Z Z (by simp) hv2 hC1 fun p2 w2 hp2 hb2 hl2 hC2 => lw_nil (ew_then (cw_seq (cw_region (lw_op Z Z Z (ow_load (R := RTest) Z Z hp2 (Tryd.sizeOf31 _) (Tryd.isAgg31 _) fun v3 hv3 => ?_)))))))
    replace hb1 := bind_some hb1
    obtain ⟨x2, hx2, hb1⟩ := hb1
    refine lw_op Z Z Z (ow_call Z Z Tryd.call85 (w_impl_TestValid (hG.mono (hl1.trans hl2)) hC2.old hv3 hx2) fun v4 w3 hv4 => ?_)
    obtain ⟨hv4, hb3⟩ := hv4
    have hl3 := Le.no M1 hb3
    have hC3 := hC2.no hb3
    obtain rfl := vbool_eq hv4
    refine lw_op Z Z Z (ow_not Z Z (lw_nil (ew_then ?_)))
    replace hb1 := cond_some hb1
    rcases hb1 with ⟨hc3, hb1⟩ | ⟨hc3, hb1⟩
    ·
     subst hc3
     refine cw_false Z (cw_skip (ew_blockN (ew_then (cw_region (lw_op Z Z Z (ow_add Z Z Z (lw_op Z Z Z (ow_move Z Z (lw_nil ?_)))))))))
     have lz1 := ((hl1.trans hl2).trans hl3)
     exact ew_nxt (W (k1 + 1)) hb1 fun a ha => ⟨M1, (ha.sub ⟨Z, Z, Z, trivial⟩), lz1, hC3⟩
    ·
     subst hc3
     refine cw_true Z (cw_seq (cw_region (lw_op Z Z Z (ow_assign Z Z (lw_nil (ew_then (cw_ret (ew_blockR (ew_thenR (ew_thenR (ew_blockR (ew_brkR (ew_thenR ?_)))))))))))))
     have e1 := hR1 _ (Option.some.inj hb1).symm
     subst e1
     obtain rfl := Option.some.inj h
     exact ew_ret (res1 Z (.tmp Z)) ⟨_, Z, ((vbool _)), hC3.bx⟩
   ·
    obtain rfl := hbb2.trans hc2
    exact cw_false Z (cw_exit (ew_thenX (ew_thenX (ew_blockX (ew_brk k1 hb1 fun a ha => ⟨M1, (ha.sub ⟨Z, Z, Z, trivial⟩), hl1, hC1⟩)))))
  ·
   rintro k2 a w4 hlr2 ⟨M2, hF2, hl4, hC4⟩
   subst hlr2
   refine ew_at (E := [(8, v0p), (9, (.int .i64 (a_list.length : Int))), (10, (.int .i64 k2))]) hF2 (ew_then (cw_seq (cw_region (lw_op Z Z Z (ow_assign Z Z (lw_nil (ew_then (cw_ret ?_))))))))
   obtain rfl := Option.some.inj h
   exact ew_ret (res1 Z (.tmp Z)) ⟨_, Z, ((vbool _)), hC4.bx⟩

theorem w_impl_RuleValid {w : World} {M : Nat → Prop} (hG : ARep (RArr 4 RShape) w M shapes ⟨0, 0, none⟩) (hO : ∀ b, M b → b < w.heap.size) {v0p : Value} {a_r : Rule} (h0 : VRep RRule w M a_r v0p) {r : Bool} (h : F.impl_RuleValid a_r = some r) :
  Calls Tryd.prog 76 [v0p].toArray w fun e w' => ∃ v, e = .returned v ∧ VRep RBool w' M r v ∧ BX No w w' := by
 have hC : Cx No w M w M := Cx.start hO (fun _ e => e.elim)
 refine walk (N := 27) Tryd.func76 Z Tryd.ntmps76 Z (cw_seq (cw_region (lw_op Z Z Z (ow_box (R := RRule) Z Z h0 hC fun p1 w1 hp1 hb1 hl1 hC1 => lw_op Z Z Z (ow_assign Z Z (lw_nil (ew_then (cw_seq (cw_seq (cw_region (lw_op Z Z Z (ow_fieldAddr Z Z Tryd.underlying42 Z (Tryd.sizeOf27 _) (lw_op Z Z Z (ow_load (R := (RSlice RTest)) Z Z (hp1.fld fld_Rule_Tests) (Tryd.sizeOf27 _) (Tryd.isAgg27 _) fun v1 hv1 => ?_))))))))))))))
 replace h := bind_some h
 obtain ⟨x1, hx1, h⟩ := h
 refine lw_op Z Z Z (ow_call Z Z Tryd.call56 (w_impl_TestsValid (hG.mono hl1) hC1.old hv1 hx1) fun v2 w2 hv2 => ?_)
 obtain ⟨hv2, hb2⟩ := hv2
 have hl2 := Le.no M hb2
 have hC2 := hC1.no hb2
 obtain rfl := vbool_eq hv2
 refine lw_op Z Z Z (ow_not Z Z (lw_nil (ew_then ?_)))
 replace h := cond_some h
 rcases h with ⟨hc1, h⟩ | ⟨hc1, h⟩
 ·
  subst hc1
  refine cw_false Z (cw_skip (ew_then (cw_seq (cw_seq (cw_region (lw_op Z Z Z (ow_fieldAddr Z Z Tryd.underlying42 Z (Tryd.sizeOf3 _) (lw_op Z Z Z (ow_load (R := RInt) Z Z (ARep.mono hl2 (hp1.fld fld_Rule_Action)) (Tryd.sizeOf3 _) (Tryd.isAgg3 _) fun v3 hv3 => ?_)))))))))
  obtain rfl := vint_eq hv3
  refine lw_nil (ew_then (cw_block (cw_seq (cw_region (lw_op Z Z Z (ow_eqlI Z Z Z fun bb1 hbb1 => lw_op Z Z Z (ow_assign Z Z (lw_nil (ew_then ?_)))))))))
  replace h := cond_some h
  rcases h with ⟨hc2, h⟩ | ⟨hc2, h⟩
  ·
   obtain rfl := hbb1.trans hc2
   refine cw_true Z (cw_seq (cw_region (lw_op Z Z Z (ow_fieldAddr Z Z Tryd.underlying42 Z (Tryd.sizeOf3 _) (lw_op Z Z Z (ow_load (R := RInt) Z Z (ARep.mono hl2 (hp1.fld fld_Rule_Chain)) (Tryd.sizeOf3 _) (Tryd.isAgg3 _) fun v4 hv4 => ?_))))))
   obtain rfl := vint_eq hv4
   refine lw_op Z Z Z (ow_geq Z Z Z fun bb2 hbb2 => lw_op Z Z Z (ow_move Z Z ?_))
   replace h := cond_some h
   rcases h with ⟨hc3, h⟩ | ⟨hc3, h⟩
   ·
    obtain rfl := hbb2.trans hc3
    refine lw_on Z Z Z Z Z Z (ow_fieldAddr Z Z Tryd.underlying42 Z (Tryd.sizeOf3 _) (lw_on Z Z Z Z Z Z (ow_load (R := RInt) Z Z (ARep.mono hl2 (hp1.fld fld_Rule_Chain)) (Tryd.sizeOf3 _) (Tryd.isAgg3 _) fun v5 hv5 => ?_)))
    obtain rfl := vint_eq hv5
    refine lw_on Z Z Z Z Z Z (ow_lss Z Z Z fun bb3 hbb3 => lw_op Z Z Z (ow_pickT Z Z Z (lw_op Z Z Z (ow_assign Z Z (lw_nil (ew_then (cw_ret (ew_blockR (ew_thenR ?_)))))))))
    obtain rfl := Option.some.inj h
    exact ew_ret (res1 Z (.tmp Z)) ⟨_, Z, ((vbool_of hbb3)), hC2.bx⟩
   ·
    obtain rfl := hbb2.trans hc3
    refine lw_off Z Z Z Z Z Z (lw_off Z Z Z Z Z Z (lw_off Z Z Z Z Z Z (lw_op Z Z Z (ow_pickF Z Z Z (lw_op Z Z Z (ow_assign Z Z (lw_nil (ew_then (cw_ret (ew_blockR (ew_thenR ?_)))))))))))
    obtain rfl := Option.some.inj h
    exact ew_ret (res1 Z (.tmp Z)) ⟨_, Z, ((vbool _)), hC2.bx⟩
  ·
   obtain rfl := hbb1.trans hc2
   refine cw_false Z (cw_seq (cw_seq (cw_region (lw_op Z Z Z (ow_eqlI Z Z Z fun bb4 hbb4 => lw_op Z Z Z (ow_assign Z Z (lw_nil (ew_then ?_))))))))
   replace h := cond_some h
   rcases h with ⟨hc4, h⟩ | ⟨hc4, h⟩
   ·
    obtain rfl := hbb4.trans hc4
    refine cw_true Z (cw_skip (ew_then (cw_true Z (cw_seq (cw_region (lw_op Z Z Z (ow_fieldAddr Z Z Tryd.underlying42 Z (Tryd.sizeOf3 _) (lw_op Z Z Z (ow_load (R := RInt) Z Z (ARep.mono hl2 (hp1.fld fld_Rule_Chain)) (Tryd.sizeOf3 _) (Tryd.isAgg3 _) fun v6 hv6 => ?_)))))))))
    obtain rfl := vint_eq hv6
    refine lw_op Z Z Z (ow_eqlI Z Z Z fun bb5 hbb5 => lw_op Z Z Z (ow_assign Z Z (lw_nil (ew_then (cw_ret (ew_blockR (ew_thenR ?_)))))))
    obtain rfl := Option.some.inj h
    exact ew_ret (res1 Z (.tmp Z)) ⟨_, Z, ((vbool_of hbb5)), hC2.bx⟩
   ·
    obtain rfl := hbb4.trans hc4
    refine cw_false Z (cw_seq (cw_region (lw_op Z Z Z (ow_eqlI Z Z Z fun bb6 hbb6 => lw_op Z Z Z (ow_assign Z Z (lw_nil (ew_then ?_)))))))
    replace h := cond_some h
    rcases h with ⟨hc5, h⟩ | ⟨hc5, h⟩
    ·
     obtain rfl := hbb6.trans hc5
     refine cw_true Z (cw_skip (ew_then (cw_true Z (cw_seq (cw_region (lw_op Z Z Z (ow_fieldAddr Z Z Tryd.underlying42 Z (Tryd.sizeOf3 _) (lw_op Z Z Z (ow_load (R := RInt) Z Z (ARep.mono hl2 (hp1.fld fld_Rule_Chain)) (Tryd.sizeOf3 _) (Tryd.isAgg3 _) fun v7 hv7 => ?_)))))))))
     obtain rfl := vint_eq hv7
     refine lw_op Z Z Z (ow_eqlI Z Z Z fun bb7 hbb7 => lw_op Z Z Z (ow_assign Z Z (lw_nil (ew_then (cw_ret (ew_blockR (ew_thenR ?_)))))))
     obtain rfl := Option.some.inj h
     exact ew_ret (res1 Z (.tmp Z)) ⟨_, Z, ((vbool_of hbb7)), hC2.bx⟩
    ·
     obtain rfl := hbb6.trans hc5
     refine cw_false Z (cw_seq (cw_region (lw_op Z Z Z (ow_eqlI Z Z Z fun bb8 hbb8 => lw_op Z Z Z (ow_assign Z Z (lw_nil (ew_then ?_)))))))
     replace h := cond_some h
     rcases h with ⟨hc6, h⟩ | ⟨hc6, h⟩
     ·
      obtain rfl := hbb8.trans hc6
      refine cw_true Z (cw_skip (ew_then (cw_true Z (cw_seq (cw_region (lw_op Z Z Z (ow_fieldAddr Z Z Tryd.underlying42 Z (Tryd.sizeOf3 _) (lw_op Z Z Z (ow_load (R := RInt) Z Z (ARep.mono hl2 (hp1.fld fld_Rule_Chain)) (Tryd.sizeOf3 _) (Tryd.isAgg3 _) fun v8 hv8 => ?_)))))))))
      obtain rfl := vint_eq hv8
      refine lw_op Z Z Z (ow_eqlI Z Z Z fun bb9 hbb9 => lw_op Z Z Z (ow_assign Z Z (lw_nil (ew_then (cw_ret (ew_blockR (ew_thenR ?_)))))))
      obtain rfl := Option.some.inj h
      exact ew_ret (res1 Z (.tmp Z)) ⟨_, Z, ((vbool_of hbb9)), hC2.bx⟩
     ·
      obtain rfl := hbb8.trans hc6
      refine cw_false Z (cw_region (lw_op Z Z Z (ow_eqlI Z Z Z fun bb10 hbb10 => lw_op Z Z Z (ow_assign Z Z (lw_nil (ew_then ?_))))))
      replace h := cond_some h
      rcases h with ⟨hc7, h⟩ | ⟨hc7, h⟩
      ·
       obtain rfl := hbb10.trans hc7
       refine cw_true Z (cw_seq (cw_region (lw_op Z Z Z (ow_fieldAddr Z Z Tryd.underlying42 Z (Tryd.sizeOf3 _) (lw_op Z Z Z (ow_load (R := RInt) Z Z (ARep.mono hl2 (hp1.fld fld_Rule_Chain)) (Tryd.sizeOf3 _) (Tryd.isAgg3 _) fun v9 hv9 => ?_))))))
       obtain rfl := vint_eq hv9
       refine lw_op Z Z Z (ow_eqlI Z Z Z fun bb11 hbb11 => lw_op Z Z Z (ow_assign Z Z (lw_nil (ew_then (cw_ret (ew_blockR (ew_thenR ?_)))))))
       obtain rfl := Option.some.inj h
       exact ew_ret (res1 Z (.tmp Z)) ⟨_, Z, ((vbool_of hbb11)), hC2.bx⟩
      ·
       obtain rfl := hbb10.trans hc7
       refine cw_false Z (cw_skip (ew_blockN (ew_then (cw_seq (cw_region (lw_op Z Z Z (ow_assign Z Z (lw_nil (ew_then (cw_ret ?_))))))))))
       obtain rfl := Option.some.inj h
       exact ew_ret (res1 Z (.tmp Z)) ⟨_, Z, ((vbool _)), hC2.bx⟩
 ·
  subst hc1
  refine cw_true Z (cw_seq (cw_region (lw_op Z Z Z (ow_assign Z Z (lw_nil (ew_then (cw_ret (ew_thenR ?_))))))))
  obtain rfl := Option.some.inj h
  exact ew_ret (res1 Z (.tmp Z)) ⟨_, Z, ((vbool _)), hC2.bx⟩

theorem w_impl_RulesValid {w : World} {M : Nat → Prop} (hG : ARep (RArr 4 RShape) w M shapes ⟨0, 0, none⟩) (hO : ∀ b, M b → b < w.heap.size) {v0p : Value} {a_list : List Rule} (h0 : VRep (RSlice RRule) w M a_list v0p) {r : Bool} (h : F.impl_RulesValid a_list = some r) :
  Calls Tryd.prog 66 [v0p].toArray w fun e w' => ∃ v, e = .returned v ∧ VRep RBool w' M r v ∧ BX No w w' := by
 have hC : Cx No w M w M := Cx.start hO (fun _ e => e.elim)
 refine walk (N := 18) Tryd.func66 Z Tryd.ntmps66 Z (cw_seq (cw_region (lw_op Z Z Z (ow_assign Z Z (lw_nil (ew_then (cw_seq (cw_seq (cw_region (lw_op Z Z Z (ow_move Z Z (lw_op Z Z Z (ow_len Z Z h0 Tryd.underlying36 Z (lw_op Z Z Z (ow_gtr Z Z Z fun bb1 hbb1 => lw_nil (ew_then ?_))))))))))))))))
 replace h := cond_some h
 rcases h with ⟨hc1, h⟩ | ⟨hc1, h⟩
 ·
  obtain rfl := hbb1.trans hc1
  refine cw_true Z (cw_seq (cw_region (lw_op Z Z Z (ow_assign Z Z (lw_nil (ew_then (cw_ret (ew_thenR ?_))))))))
  obtain rfl := Option.some.inj h
  exact ew_ret (res1 Z (.tmp Z)) ⟨_, Z, ((vbool _)), hC.bx⟩
 ·
  obtain rfl := hbb1.trans hc1
  refine cw_false Z (cw_skip (ew_then (cw_seq (cw_seq (cw_region (lw_op Z Z Z (ow_move Z Z (lw_op Z Z Z (ow_len Z Z h0 Tryd.underlying36 Z (lw_op Z Z Z (ow_move Z Z (lw_nil (ew_then ?_)))))))))))))
  replace h := bind_some h
  obtain ⟨lr1, hlr1, h⟩ := h
  refine cw_for hlr1 (fun s a w' => ∃ (M' : Nat → Prop), Fits 18 [(8, v0p), (9, (.int .i64 (a_list.length : Int))), (10, (.int .i64 s))] a ∧ Le w M w' M' ∧ Cx No w M w' M') ?_ ?_ ?_
  ·
   intro a ha
   exact ⟨M, ha.sub ⟨Z, Z, Z, trivial⟩, Le.refl _ _, hC⟩
  ·
   rintro k1 a w1 sr1 ⟨M1, hF1, hl1, hC1⟩ hb1 hR1
   refine cw_at (E := [(8, v0p), (9, (.int .i64 (a_list.length : Int))), (10, (.int .i64 k1))]) hF1 (cw_seq (cw_region (lw_op Z Z Z (ow_lss Z Z Z fun bb2 hbb2 => lw_nil (ew_then (cw_seq ?_))))))
   replace hb1 := cond_some hb1
   rcases hb1 with ⟨hc2, hb1⟩ | ⟨hc2, hb1⟩
   ·
    obtain rfl := hbb2.trans hc2
    refine cw_true Z (cw_skip (ew_then (cw_seq (cw_block (cw_seq (cw_region ?_))))))
    replace hb1 := bind_some hb1
    obtain ⟨x1, hx1, hb1⟩ := hb1
    refine lw_op Z Z Z (ow_indexSlice (R := RRule) Z Z Z (VRep.mono hl1 h0) Tryd.underlying36 (Tryd.sizeOf42 _) hx1 fun p1 hp1 => lw_op Z Z Z (ow_load (R := RRule) Z Z hp1 (Tryd.sizeOf42 _) (Tryd.isAgg42 _) fun v2 hv2 => lw_allocStore (R := RRule) Z Z Z Z Z Z Z Tryd.zeroValue42 Tryd.sizeOf42 Z Z Z (by simp) hv2 hC1 fun p2 w2 hp2 hb2 hl2 hC2 => lw_nil (ew_then (cw_seq (cw_region (lw_op Z Z Z (ow_load (R := RRule) Z Z hp2 (Tryd.sizeOf42 _) (Tryd.isAgg42 _) fun v3 hv3 => ?_)))))))
    replace hb1 := bind_some hb1
    obtain ⟨x2, hx2, hb1⟩ := hb1
    refine lw_op Z Z Z (ow_call Z Z Tryd.call76 (w_impl_RuleValid (hG.mono (hl1.trans hl2)) hC2.old hv3 hx2) fun v4 w3 hv4 => ?_)
    obtain ⟨hv4, hb3⟩ := hv4
    have hl3 := Le.no M1 hb3
    have hC3 := hC2.no hb3
    obtain rfl := vbool_eq hv4
    refine lw_op Z Z Z (ow_not Z Z (lw_nil (ew_then ?_)))
    replace hb1 := cond_some hb1
    rcases hb1 with ⟨hc3, hb1⟩ | ⟨hc3, hb1⟩
    ·
     subst hc3
     refine cw_false Z (cw_skip (ew_blockN (ew_then (cw_region (lw_op Z Z Z (ow_add Z Z Z (lw_op Z Z Z (ow_move Z Z (lw_nil ?_)))))))))
     have lz1 := ((hl1.trans hl2).trans hl3)
     exact ew_nxt (W (k1 + 1)) hb1 fun a ha => ⟨M1, (ha.sub ⟨Z, Z, Z, trivial⟩), lz1, hC3⟩
    ·
     subst hc3
     refine cw_true Z (cw_seq (cw_region (lw_op Z Z Z (ow_assign Z Z (lw_nil (ew_then (cw_ret (ew_blockR (ew_thenR (ew_thenR (ew_blockR (ew_brkR (ew_thenR ?_)))))))))))))
     have e1 := hR1 _ (Option.some.inj hb1).symm
     subst e1
     obtain rfl := Option.some.inj h
     exact ew_ret (res1 Z (.tmp Z)) ⟨_, Z, ((vbool _)), hC3.bx⟩
   ·
    obtain rfl := hbb2.trans hc2
    exact cw_false Z (cw_exit (ew_thenX (ew_thenX (ew_blockX (ew_brk k1 hb1 fun a ha => ⟨M1, (ha.sub ⟨Z, Z, Z, trivial⟩), hl1, hC1⟩)))))
  ·
   rintro k2 a w4 hlr2 ⟨M2, hF2, hl4, hC4⟩
   subst hlr2
   refine ew_at (E := [(8, v0p), (9, (.int .i64 (a_list.length : Int))), (10, (.int .i64 k2))]) hF2 (ew_then (cw_seq (cw_region (lw_op Z Z Z (ow_assign Z Z (lw_nil (ew_then (cw_ret ?_))))))))
   obtain rfl := Option.some.inj h
   exact ew_ret (res1 Z (.tmp Z)) ⟨_, Z, ((vbool _)), hC4.bx⟩

theorem w_impl_callsIn {w : World} {M : Nat → Prop} (_hG : ARep (RArr 4 RShape) w M shapes ⟨0, 0, none⟩) (hO : ∀ b, M b → b < w.heap.size) {v0p : Value} {a_rules : List Rule} (h0 : VRep (RSlice RRule) w M a_rules v0p) {r : (List Int)} (h : F.impl_callsIn a_rules = some r) :
  Calls Tryd.prog 67 [v0p].toArray w fun e w' => ∃ v, e = .returned v ∧ VRep (RSlice RInt) w' M r v ∧ BX No w w' := by
 obtain ⟨i3, hi3, hz3, hs3, hy3⟩ := info3
 have hC : Cx No w M w M := Cx.start hO (fun _ e => e.elim)
 clear _hG
 refine walk (N := 34) Tryd.func67 Z Tryd.ntmps67 Z (cw_seq (cw_region (lw_op Z Z Z (ow_assign Z Z (lw_nil (ew_then (cw_seq (cw_region (lw_op Z Z Z (ow_alloc Z (Tryd.zeroValue121 _) hC fun g1 w1 hg1 hg2 ho1 hb1 hl1 hC1 => ?_))))))))))
 have hm1 : (Add g1 M) g1 := .inl Z
 have ho2 : OwnA (RArr 5 RBool) w1 (Add g1 M) g1 121 [false, false, false, false, false] := OwnA.of ho1 ⟨Z, ⟨_, _, Z, (vbool _).cells, _, _, Z, (vbool _).cells, _, _, Z, (vbool _).cells, _, _, Z, (vbool _).cells, _, _, Z, (vbool _).cells, Z⟩⟩
 refine lw_nil (ew_then (cw_seq (cw_seq (cw_region (lw_op Z Z Z (ow_move Z Z (lw_op Z Z Z (ow_len Z Z (VRep.mono hl1 h0) Tryd.underlying36 Z (lw_op Z Z Z (ow_move Z Z (lw_nil (ew_then ?_))))))))))))
 replace h := bind_some h
 obtain ⟨lr1, hlr1, h⟩ := h
 refine cw_for hlr1 (fun s a w' => ∃ (M' : Nat → Prop), Fits 34 [(3, (.pointer (some ⟨g1, 0, none⟩))), (9, v0p), (10, (.int .i64 (a_rules.length : Int))), (11, (.int .i64 s.1))] a ∧ Le w1 (Add g1 M) w' M' ∧ Cx No w M w' M' ∧ OwnA (RArr 5 RBool) w' M' g1 121 s.2 ∧ M' g1) ?_ ?_ ?_
 ·
  intro a ha
  exact ⟨(Add g1 M), ha.sub ⟨Z, Z, Z, Z, trivial⟩, Le.refl _ _, hC1, ho2, hm1⟩
 ·
  rintro ⟨k1, y1⟩ a w2 sr1 ⟨M1, hF1, hl2, hC2, ho3, hm2⟩ hb2 hR1
  refine cw_at (E := [(3, (.pointer (some ⟨g1, 0, none⟩))), (9, v0p), (10, (.int .i64 (a_rules.length : Int))), (11, (.int .i64 k1))]) hF1 (cw_seq (cw_region (lw_op Z Z Z (ow_lss Z Z Z fun bb1 hbb1 => lw_nil (ew_then (cw_seq ?_))))))
  replace hb2 := cond_some hb2
  rcases hb2 with ⟨hc1, hb2⟩ | ⟨hc1, hb2⟩
  ·
   obtain rfl := hbb1.trans hc1
   refine cw_true Z (cw_skip (ew_then (cw_seq (cw_block (cw_seq (cw_region ?_))))))
   replace hb2 := bind_some hb2
   obtain ⟨x1, hx1, hb2⟩ := hb2
   refine lw_op Z Z Z (ow_indexSlice (R := RRule) Z Z Z (VRep.mono (hl1.trans hl2) h0) Tryd.underlying36 (Tryd.sizeOf42 _) hx1 fun p1 hp1 => lw_op Z Z Z (ow_load (R := RRule) Z Z hp1 (Tryd.sizeOf42 _) (Tryd.isAgg42 _) fun v3 hv3 => lw_allocStore (R := RRule) Z Z Z Z Z Z Z Tryd.zeroValue42 Tryd.sizeOf42 Z Z Z (by simp) hv3 hC2 fun p2 w3 hp2 hb3 hl3 hC3 => ?_))
   have ho4 := ho3.no hb3 hl3
   refine lw_nil (ew_then (cw_seq (cw_region (lw_op Z Z Z (ow_fieldAddr Z Z Tryd.underlying42 Z (Tryd.sizeOf3 _) (lw_op Z Z Z (ow_load (R := RInt) Z Z (hp2.fld fld_Rule_Action) (Tryd.sizeOf3 _) (Tryd.isAgg3 _) fun v4 hv4 => ?_)))))))
   obtain rfl := vint_eq hv4
   refine lw_op Z Z Z (ow_eqlI Z Z Z fun bb2 hbb2 => lw_nil (ew_then ?_))
   replace hb2 := cond_some hb2
   rcases hb2 with ⟨hc2, hb2⟩ | ⟨hc2, hb2⟩
   ·
    obtain rfl := hbb2.trans hc2
    refine cw_true Z (cw_region (lw_op Z Z Z (ow_fieldAddr Z Z Tryd.underlying42 Z (Tryd.sizeOf3 _) (lw_op Z Z Z (ow_load (R := RInt) Z Z (hp2.fld fld_Rule_Chain) (Tryd.sizeOf3 _) (Tryd.isAgg3 _) fun v5 hv5 => ?_)))))
    obtain rfl := vint_eq hv5
    replace hb2 := bind_some hb2
    obtain ⟨x2, hx2, hb2⟩ := hb2
    refine lw_op Z Z Z (ow_indexA (R := RBool) Z Z Z Z ho4 Tryd.underlying121 (Tryd.sizeOf4 _) hx2 (lw_op0 Z Z (ow_storeElA (X := No) (R := RBool) Z Z Z Z ho4 hx2 (Tryd.sizeOf4 _) (vbool _) hm2 (.inl hg2) hC3 fun w4 ho5 hb4 hl4 hC4 => lw_nil (ew_blockN (ew_then (cw_region (lw_op Z Z Z (ow_add Z Z Z (lw_op Z Z Z (ow_move Z Z (lw_nil ?_)))))))))))
    have lz1 := ((hl2.trans hl3).trans hl4)
    exact ew_nxt ((W (k1 + 1)), (List.set y1 (x1.Chain : Int).toNat true)) hb2 fun a ha => ⟨M1, (ha.sub ⟨Z, Z, Z, Z, trivial⟩), lz1, hC4, ho5, hm2⟩
   ·
    obtain rfl := hbb2.trans hc2
    exact cw_false Z (cw_skip (ew_blockN (ew_then (cw_region (lw_op Z Z Z (ow_add Z Z Z (lw_op Z Z Z (ow_move Z Z (lw_nil (ew_nxt ((W (k1 + 1)), y1) hb2 fun a ha => ⟨M1, (ha.sub ⟨Z, Z, Z, Z, trivial⟩), (hl2.trans hl3), hC3, ho4, hm2⟩))))))))))
  ·
   obtain rfl := hbb1.trans hc1
   exact cw_false Z (cw_exit (ew_thenX (ew_thenX (ew_blockX (ew_brk (k1, y1) hb2 fun a ha => ⟨M1, (ha.sub ⟨Z, Z, Z, Z, trivial⟩), hl2, hC2, ho3, hm2⟩)))))
 ·
  rintro ⟨k2, y2⟩ a w5 hlr2 ⟨M2, hF2, hl5, hC5, ho6, hm3⟩
  subst hlr2
  refine ew_at (E := [(3, (.pointer (some ⟨g1, 0, none⟩))), (9, v0p), (10, (.int .i64 (a_rules.length : Int))), (11, (.int .i64 k2))]) hF2 (ew_then (cw_seq (cw_region (lw_op Z Z Z (ow_assign Z Z (lw_nil (ew_then (cw_seq (cw_seq (cw_region (lw_op Z Z Z (ow_loadA (R := (RArr 5 RBool)) Z Z Z ho6 (Tryd.sizeOf121 _) (Tryd.isAgg121 _) fun v8 hv8 => lw_op Z Z Z (ow_move Z Z (lw_nil (ew_then ?_)))))))))))))))
  have hr1 : OwnRow RInt w.heap.size 3 w5 M2 ([] : List Int) (.slice none 0 0) := ownrow_nil
  replace h := bind_some h
  obtain ⟨lr2, hlr3, h⟩ := h
  refine cw_for hlr3 (fun s a w' => ∃ (M' : Nat → Prop) (v0c : Value), Fits 34 [(6, v0c), (22, v8), (23, (.int .i64 s.2))] a ∧ Le w5 M2 w' M' ∧ Cx No w M w' M' ∧ OwnRow RInt w.heap.size 3 w' M' s.1 v0c) ?_ ?_ ?_
  ·
   intro a ha
   exact ⟨M2, (.slice none 0 0), ha.sub ⟨Z, Z, Z, trivial⟩, Le.refl _ _, hC5, hr1⟩
  ·
   rintro ⟨y3, k3⟩ a w6 sr2 ⟨M3, v9, hF3, hl6, hC6, hw1⟩ hb5 hR2
   refine cw_at (E := [(6, v9), (22, v8), (23, (.int .i64 k3))]) hF3 (cw_seq (cw_region (lw_op Z Z Z (ow_lss Z Z Z fun bb3 hbb3 => lw_nil (ew_then (cw_seq ?_))))))
   replace hb5 := cond_some hb5
   rcases hb5 with ⟨hc3, hb5⟩ | ⟨hc3, hb5⟩
   ·
    obtain rfl := hbb3.trans hc3
    refine cw_true Z (cw_skip (ew_then (cw_seq (cw_block (cw_seq (cw_region (lw_op Z Z Z (ow_move Z Z ?_))))))))
    replace hb5 := bind_some hb5
    obtain ⟨x3, hx3, hb5⟩ := hb5
    refine lw_op Z Z Z (ow_index (R := RBool) Z Z Z (VRep.mono hl6 hv8) Tryd.underlying121 (Tryd.sizeOf4 _) (Tryd.isAgg4 _) hx3 fun v11 hv11 => ?_)
    obtain rfl := vbool_eq hv11
    refine lw_op Z Z Z (ow_assign Z Z (lw_op Z Z Z (ow_assign Z Z (lw_nil (ew_then (cw_seq (cw_region (lw_op Z Z Z (ow_move Z Z (lw_nil (ew_then ?_)))))))))))
    replace hb5 := cond_some hb5
    rcases hb5 with ⟨hc4, hb5⟩ | ⟨hc4, hb5⟩
    ·
     subst hc4
     refine cw_true Z (cw_region (lw_op Z Z Z (ow_move Z Z (lw_op Z Z Z (ow_move Z Z (lw_op Z Z Z (ow_buildSlice (R := RInt) (xs := [k3]) (cs := #[(.int .i64 k3)]) (e := 3) Z Z (by kernel_rfl) Z Z ⟨_, _, Z, (vint _).cells, Z⟩ hC6 fun p3 w7 hw2 hb6 hl7 hC7 => ?_)))))))
     have hr2 := hw1.no hb6
     replace hb5 := bind_some hb5
     obtain ⟨z1, hz1, hb5⟩ := hb5
     refine lw_op Z Z Z (ow_append (R := RInt) Z Z Z Z Tryd.underlying52 hi3 hz3 hs3 hy3 Z Z Z Z hr2 hw2 hz1 hC7 fun v12 w8 M4 hr3 hb7 hl8 hC8 hM1 hat1 => lw_op Z Z Z (ow_assign Z Z (lw_nil (ew_blockN (ew_then (cw_region (lw_op Z Z Z (ow_add Z Z Z (lw_op Z Z Z (ow_move Z Z (lw_nil ?_)))))))))))
     have lz2 := ((hl6.trans hl7).trans hl8)
     exact ew_nxt (z1, (W (k3 + 1))) hb5 fun a ha => ⟨M4, v12, (ha.sub ⟨Z, Z, Z, trivial⟩), lz2, hC8, hr3⟩
    ·
     subst hc4
     exact cw_false Z (cw_skip (ew_blockN (ew_then (cw_region (lw_op Z Z Z (ow_add Z Z Z (lw_op Z Z Z (ow_move Z Z (lw_nil (ew_nxt (y3, (W (k3 + 1))) hb5 fun a ha => ⟨M3, v9, (ha.sub ⟨Z, Z, Z, trivial⟩), hl6, hC6, hw1⟩))))))))))
   ·
    obtain rfl := hbb3.trans hc3
    exact cw_false Z (cw_exit (ew_thenX (ew_thenX (ew_blockX (ew_brk (y3, k3) hb5 fun a ha => ⟨M3, v9, (ha.sub ⟨Z, Z, Z, trivial⟩), hl6, hC6, hw1⟩)))))
  ·
   rintro ⟨y4, k4⟩ a w9 hlr4 ⟨M5, v13, hF4, hl9, hC9, hw3⟩
   subst hlr4
   refine ew_at (E := [(6, v13), (22, v8), (23, (.int .i64 k4))]) hF4 (ew_then (cw_seq (cw_region (lw_op Z Z Z (ow_move Z Z (lw_op Z Z Z (ow_assign Z Z (lw_nil (ew_then (cw_ret ?_))))))))))
   obtain rfl := Option.some.inj h
   exact ew_ret (res1 Z (.tmp Z)) ⟨_, Z, (hw3.freezeBack hC9 hO), hC9.bx⟩

theorem w_impl_visitCalls (n_ : Nat) : ∀ {w : World} {M : Nat → Prop} (hG : ARep (RArr 4 RShape) w M shapes ⟨0, 0, none⟩) (hO : ∀ b, M b → b < w.heap.size) {v0p : Value} {a_chains : List (List Rule)} (h0 : VRep (RSlice (RSlice RRule)) w M a_chains v0p) {a_chain : Int} {g : Nat} {a_colours : List Int} (hown : OwnA (RArr 5 RInt) w M g 96 a_colours) (hgM : M g) {r : Bool × (List Int)} (h : F.impl_visitCalls n_ a_chains a_chain a_colours = some r),
  Calls Tryd.prog 73 [v0p, (.int .i64 a_chain), (.pointer (some ⟨g, 0, none⟩))].toArray w fun e w' => ∃ v, e = .returned v ∧ (VRep RBool w' M r.1 v ∧ OwnA (RArr 5 RInt) w' M g 96 r.2) ∧ BX (One g) w w' := by
 induction n_ with
 | zero =>
  intro w M hG hO v0p a_chains h0 a_chain g a_colours hown hgM r h
  exact (Option.some_ne_none _ (show (none : Option (Bool × (List Int))) = some r from h).symm).elim
 | succ n_ ih =>
 intro w M hG hO v0p a_chains h0 a_chain g a_colours hown hgM r h
 have hX : ∀ b, (One g) b → M b := fun b e => e ▸ hgM
 have hC : Cx (One g) w M w M := Cx.start hO hX
 refine walk (N := 48) Tryd.func73 Z Tryd.ntmps73 Z (cw_seq (cw_region (lw_op Z Z Z (ow_assign Z Z (lw_nil (ew_then (cw_seq (cw_seq (cw_region (lw_op Z Z Z (ow_move Z Z (lw_op Z Z Z (ow_move Z Z (lw_op Z Z Z (ow_len Z Z h0 Tryd.underlying43 Z (lw_op Z Z Z (ow_geq Z Z Z fun bb1 hbb1 => lw_nil (ew_then ?_))))))))))))))))))
 replace h := cond_some h
 rcases h with ⟨hc1, h⟩ | ⟨hc1, h⟩
 ·
  obtain rfl := hbb1.trans hc1
  refine cw_true Z (cw_seq (cw_region (lw_op Z Z Z (ow_assign Z Z (lw_nil (ew_then (cw_ret (ew_thenR ?_))))))))
  obtain rfl := Option.some.inj h
  exact ew_ret (res1 Z (.tmp Z)) ⟨_, Z, ⟨((vbool _)), (hown.mono hC.back)⟩, hC.bx⟩
 ·
  obtain rfl := hbb1.trans hc1
  refine cw_false Z (cw_skip (ew_then (cw_seq (cw_seq (cw_region (lw_op Z Z Z (ow_move Z Z (lw_op Z Z Z (ow_move Z Z (lw_op Z Z Z (ow_nilCheck Z Z ?_)))))))))))
  replace h := bind_some h
  obtain ⟨x1, hx1, h⟩ := h
  refine lw_op Z Z Z (ow_indexA (R := RInt) Z Z Z Z hown Tryd.underlying96 (Tryd.sizeOf3 _) hx1 (lw_op Z Z Z (ow_loadElA (R := RInt) Z Z Z hown hx1 (Tryd.sizeOf3 _) (Tryd.isAgg3 _) fun v1 hv1 => ?_)))
  obtain rfl := vint_eq hv1
  refine lw_nil (ew_then (cw_block (cw_seq (cw_region (lw_op Z Z Z (ow_eqlI Z Z Z fun bb2 hbb2 => lw_op Z Z Z (ow_assign Z Z (lw_nil (ew_then ?_)))))))))
  replace h := cond_some h
  rcases h with ⟨hc2, h⟩ | ⟨hc2, h⟩
  ·
   obtain rfl := hbb2.trans hc2
   refine cw_true Z (cw_seq (cw_region (lw_op Z Z Z (ow_assign Z Z (lw_nil (ew_then (cw_ret (ew_blockR (ew_thenR ?_)))))))))
   obtain rfl := Option.some.inj h
   exact ew_ret (res1 Z (.tmp Z)) ⟨_, Z, ⟨((vbool _)), (hown.mono hC.back)⟩, hC.bx⟩
  ·
   obtain rfl := hbb2.trans hc2
   refine cw_false Z (cw_seq (cw_region (lw_op Z Z Z (ow_eqlI Z Z Z fun bb3 hbb3 => lw_op Z Z Z (ow_assign Z Z (lw_nil (ew_then ?_)))))))
   replace h := cond_some h
   rcases h with ⟨hc3, h⟩ | ⟨hc3, h⟩
   ·
    obtain rfl := hbb3.trans hc3
    refine cw_true Z (cw_seq (cw_region (lw_op Z Z Z (ow_assign Z Z (lw_nil (ew_then (cw_ret (ew_blockR (ew_thenR ?_)))))))))
    obtain rfl := Option.some.inj h
    exact ew_ret (res1 Z (.tmp Z)) ⟨_, Z, ⟨((vbool _)), (hown.mono hC.back)⟩, hC.bx⟩
   ·
    obtain rfl := hbb3.trans hc3
    refine cw_false Z (cw_skip (ew_blockN (ew_then (cw_seq (cw_region (lw_op Z Z Z (ow_move Z Z (lw_op Z Z Z (ow_move Z Z (lw_op Z Z Z (ow_nilCheck Z Z (lw_op Z Z Z (ow_indexA (R := RInt) Z Z Z Z hown Tryd.underlying96 (Tryd.sizeOf3 _) hx1 (lw_op0 Z Z (ow_storeElA (X := (One g)) (R := RInt) Z Z Z Z hown hx1 (Tryd.sizeOf3 _) (vint _) hgM (.inr Z) hC fun w1 ho1 hb1 hl1 hC1 => lw_nil (ew_then (cw_seq (cw_region (lw_op Z Z Z (ow_assign Z Z (lw_nil (ew_then (cw_seq (cw_seq (cw_region (lw_op Z Z Z (ow_move Z Z (lw_op Z Z Z (ow_move Z Z ?_)))))))))))))))))))))))))))))
    replace h := bind_some h
    obtain ⟨x2, hx2, h⟩ := h
    refine lw_op Z Z Z (ow_indexSlice (R := (RSlice RRule)) Z Z Z (VRep.mono hl1 h0) Tryd.underlying43 (Tryd.sizeOf36 _) hx2 fun p1 hp1 => lw_op Z Z Z (ow_load (R := (RSlice RRule)) Z Z hp1 (Tryd.sizeOf36 _) (Tryd.isAgg36 _) fun v2 hv2 => ?_))
    replace h := bind_some h
    obtain ⟨x3, hx3, h⟩ := h
    refine lw_op Z Z Z (ow_call Z Z Tryd.call67 (w_impl_callsIn (hG.mono hl1) hC1.old hv2 hx3) fun v3 w2 hv3 => ?_)
    obtain ⟨hv3, hb2⟩ := hv3
    have hl2 := Le.no M hb2
    have hC2 := hC1.no hb2
    have ho2 := ho1.no hb2 hl2
    refine lw_op Z Z Z (ow_len Z Z hv3 Tryd.underlying52 Z (lw_op Z Z Z (ow_move Z Z (lw_nil (ew_then ?_)))))
    replace h := bind_some h
    obtain ⟨lr1, hlr1, h⟩ := h
    refine cw_for hlr1 (fun s a w' => ∃ (M' : Nat → Prop), Fits 48 [(0, v0p), (1, (.int .i64 a_chain)), (2, (.pointer (some ⟨g, 0, none⟩))), (7, (.bool s.1)), (31, v3), (32, (.int .i64 (x3.length : Int))), (33, (.int .i64 s.2.1))] a ∧ Le w2 M w' M' ∧ Cx (One g) w M w' M' ∧ OwnA (RArr 5 RInt) w' M' g 96 s.2.2 ∧ M' g) ?_ ?_ ?_
    ·
     intro a ha
     exact ⟨M, ha.sub ⟨Z, Z, Z, Z, Z, Z, Z, trivial⟩, Le.refl _ _, hC2, ho2, hgM⟩
    ·
     rintro ⟨y1, k1, y2⟩ a w3 sr1 ⟨M1, hF1, hl3, hC3, ho3, hm1⟩ hb3 hR1
     refine cw_at (E := [(0, v0p), (1, (.int .i64 a_chain)), (2, (.pointer (some ⟨g, 0, none⟩))), (7, (.bool y1)), (31, v3), (32, (.int .i64 (x3.length : Int))), (33, (.int .i64 k1))]) hF1 (cw_seq (cw_region (lw_op Z Z Z (ow_lss Z Z Z fun bb4 hbb4 => lw_nil (ew_then (cw_seq ?_))))))
     replace hb3 := cond_some hb3
     rcases hb3 with ⟨hc4, hb3⟩ | ⟨hc4, hb3⟩
     ·
      obtain rfl := hbb4.trans hc4
      refine cw_true Z (cw_skip (ew_then (cw_seq (cw_block (cw_seq (cw_region ?_))))))
      replace hb3 := bind_some hb3
      obtain ⟨x4, hx4, hb3⟩ := hb3
      refine lw_op Z Z Z (ow_indexSlice (R := RInt) Z Z Z (VRep.mono hl3 hv3) Tryd.underlying52 (Tryd.sizeOf3 _) hx4 fun p2 hp2 => lw_op Z Z Z (ow_load (R := RInt) Z Z hp2 (Tryd.sizeOf3 _) (Tryd.isAgg3 _) fun v7 hv7 => ?_))
      obtain rfl := vint_eq hv7
      refine lw_op Z Z Z (ow_assign Z Z (lw_nil (ew_then (cw_seq (cw_region (lw_op Z Z Z (ow_move Z Z (lw_op Z Z Z (ow_move Z Z (lw_op Z Z Z (ow_move Z Z ?_)))))))))))
      have lz1 := ((hl1.trans hl2).trans hl3)
      replace hb3 := bind_some hb3
      obtain ⟨x5, hx5, hb3⟩ := hb3
      refine lw_op Z Z Z (ow_call Z Z Tryd.call73 (ih (hG.mono lz1) hC3.old (VRep.mono lz1 h0) ho3 hm1 hx5) fun v8 w4 hv8 => ?_)
      obtain ⟨⟨hv8, ho4⟩, hb4⟩ := hv8
      have hl4 := Le.of_bx M1 hb4 (fun b e => (by rw [show b = g from e]; exact hm1))
      have hC4 := hC3.go hb4 (fun b e => Or.inr e)
      obtain ⟨bb5, hbb5, rfl⟩ := vbool_ex hv8
      refine lw_op Z Z Z (ow_not Z Z (lw_nil (ew_then ?_)))
      replace hb3 := cond_some hb3
      rcases hb3 with ⟨hc5, hb3⟩ | ⟨hc5, hb3⟩
      ·
       obtain rfl := hbb5.trans hc5
       exact cw_false Z (cw_skip (ew_blockN (ew_then (cw_region (lw_op Z Z Z (ow_add Z Z Z (lw_op Z Z Z (ow_move Z Z (lw_nil (ew_nxt (y1, (W (k1 + 1)), x5.2) hb3 fun a ha => ⟨M1, (ha.sub ⟨Z, Z, Z, Z, Z, Z, Z, trivial⟩), (hl3.trans hl4), hC4, ho4, hm1⟩))))))))))
      ·
       obtain rfl := hbb5.trans hc5
       exact cw_true Z (cw_region (lw_op Z Z Z (ow_assign Z Z (lw_nil (ew_blockN (ew_then (cw_region (lw_op Z Z Z (ow_add Z Z Z (lw_op Z Z Z (ow_move Z Z (lw_nil (ew_nxt (false, (W (k1 + 1)), x5.2) hb3 fun a ha => ⟨M1, (ha.sub ⟨Z, Z, Z, Z, Z, Z, Z, trivial⟩), (hl3.trans hl4), hC4, ho4, hm1⟩)))))))))))))
     ·
      obtain rfl := hbb4.trans hc4
      exact cw_false Z (cw_exit (ew_thenX (ew_thenX (ew_blockX (ew_brk (y1, k1, y2) hb3 fun a ha => ⟨M1, (ha.sub ⟨Z, Z, Z, Z, Z, Z, Z, trivial⟩), hl3, hC3, ho3, hm1⟩)))))
    ·
     rintro ⟨y3, k2, y4⟩ a w5 hlr2 ⟨M2, hF2, hl5, hC5, ho5, hm2⟩
     subst hlr2
     refine ew_at (E := [(0, v0p), (1, (.int .i64 a_chain)), (2, (.pointer (some ⟨g, 0, none⟩))), (7, (.bool y3)), (31, v3), (32, (.int .i64 (x3.length : Int))), (33, (.int .i64 k2))]) hF2 (ew_then (cw_seq (cw_region (lw_op Z Z Z (ow_move Z Z (lw_op Z Z Z (ow_move Z Z (lw_op Z Z Z (ow_nilCheck Z Z ?_)))))))))
     replace h := bind_some h
     obtain ⟨x6, hx6, h⟩ := h
     refine lw_op Z Z Z (ow_indexA (R := RInt) Z Z Z Z ho5 Tryd.underlying96 (Tryd.sizeOf3 _) hx6 (lw_op0 Z Z (ow_storeElA (X := (One g)) (R := RInt) Z Z Z Z ho5 hx6 (Tryd.sizeOf3 _) (vint _) hm2 (.inr Z) hC5 fun w6 ho6 hb5 hl6 hC6 => lw_nil (ew_then (cw_seq (cw_region (lw_op Z Z Z (ow_move Z Z (lw_op Z Z Z (ow_assign Z Z (lw_nil (ew_then (cw_ret ?_)))))))))))))
     obtain rfl := Option.some.inj h
     exact ew_ret (res1 Z (.tmp Z)) ⟨_, Z, ⟨((vbool _)), (ho6.mono hC6.back)⟩, hC6.bx⟩

theorem w_impl_acyclic {w : World} {M : Nat → Prop} (hG : ARep (RArr 4 RShape) w M shapes ⟨0, 0, none⟩) (hO : ∀ b, M b → b < w.heap.size) {v0p : Value} {a_chains : List (List Rule)} (h0 : VRep (RSlice (RSlice RRule)) w M a_chains v0p) {r : Bool} (h : F.impl_acyclic a_chains = some r) :
  Calls Tryd.prog 68 [v0p].toArray w fun e w' => ∃ v, e = .returned v ∧ VRep RBool w' M r v ∧ BX No w w' := by
 have hC : Cx No w M w M := Cx.start hO (fun _ e => e.elim)
 refine walk (N := 15) Tryd.func68 Z Tryd.ntmps68 Z (cw_seq (cw_region (lw_op Z Z Z (ow_assign Z Z (lw_nil (ew_then (cw_seq (cw_region (lw_op Z Z Z (ow_alloc Z (Tryd.zeroValue96 _) hC fun g1 w1 hg1 hg2 ho1 hb1 hl1 hC1 => ?_))))))))))
 have hm1 : (Add g1 M) g1 := .inl Z
 have ho2 : OwnA (RArr 5 RInt) w1 (Add g1 M) g1 96 [0, 0, 0, 0, 0] := OwnA.of ho1 ⟨Z, ⟨_, _, Z, (vint _).cells, _, _, Z, (vint _).cells, _, _, Z, (vint _).cells, _, _, Z, (vint _).cells, _, _, Z, (vint _).cells, Z⟩⟩
 refine lw_nil (ew_then (cw_seq (cw_seq (cw_region (lw_op Z Z Z (ow_move Z Z (lw_op Z Z Z (ow_len Z Z (VRep.mono hl1 h0) Tryd.underlying43 Z (lw_op Z Z Z (ow_move Z Z (lw_nil (ew_then ?_))))))))))))
 replace h := bind_some h
 obtain ⟨lr1, hlr1, h⟩ := h
 refine cw_for hlr1 (fun s a w' => ∃ (M' : Nat → Prop), Fits 15 [(0, v0p), (3, (.pointer (some ⟨g1, 0, none⟩))), (6, (.int .i64 (a_chains.length : Int))), (7, (.int .i64 s.1))] a ∧ Le w1 (Add g1 M) w' M' ∧ Cx No w M w' M' ∧ OwnA (RArr 5 RInt) w' M' g1 96 s.2 ∧ M' g1) ?_ ?_ ?_
 ·
  intro a ha
  exact ⟨(Add g1 M), ha.sub ⟨Z, Z, Z, Z, trivial⟩, Le.refl _ _, hC1, ho2, hm1⟩
 ·
  rintro ⟨k1, y1⟩ a w2 sr1 ⟨M1, hF1, hl2, hC2, ho3, hm2⟩ hb2 hR1
  refine cw_at (E := [(0, v0p), (3, (.pointer (some ⟨g1, 0, none⟩))), (6, (.int .i64 (a_chains.length : Int))), (7, (.int .i64 k1))]) hF1 (cw_seq (cw_region (lw_op Z Z Z (ow_lss Z Z Z fun bb1 hbb1 => lw_nil (ew_then (cw_seq ?_))))))
  replace hb2 := cond_some hb2
  rcases hb2 with ⟨hc1, hb2⟩ | ⟨hc1, hb2⟩
  ·
   obtain rfl := hbb1.trans hc1
   refine cw_true Z (cw_skip (ew_then (cw_seq (cw_block (cw_seq (cw_region (lw_op Z Z Z (ow_move Z Z (lw_op Z Z Z (ow_assign Z Z (lw_nil (ew_then (cw_seq (cw_region (lw_op Z Z Z (ow_move Z Z (lw_op Z Z Z (ow_move Z Z ?_))))))))))))))))))
   replace hb2 := bind_some hb2
   obtain ⟨x1, hx1, hb2⟩ := hb2
   refine lw_op Z Z Z (ow_call Z Z Tryd.call73 (w_impl_visitCalls 10 (hG.mono (hl1.trans hl2)) hC2.old (VRep.mono (hl1.trans hl2) h0) ho3 hm2 hx1) fun v3 w3 hv3 => ?_)
   obtain ⟨⟨hv3, ho4⟩, hb3⟩ := hv3
   have hl3 := Le.of_bx M1 hb3 (fun b e => (by rw [show b = g1 from e]; exact hm2))
   have hC3 := hC2.go hb3 (fun b e => (by rw [show b = g1 from e]; exact (.inl hg2)))
   obtain ⟨bb2, hbb2, rfl⟩ := vbool_ex hv3
   refine lw_op Z Z Z (ow_not Z Z (lw_nil (ew_then ?_)))
   replace hb2 := cond_some hb2
   rcases hb2 with ⟨hc2, hb2⟩ | ⟨hc2, hb2⟩
   ·
    obtain rfl := hbb2.trans hc2
    exact cw_false Z (cw_skip (ew_blockN (ew_then (cw_region (lw_op Z Z Z (ow_add Z Z Z (lw_op Z Z Z (ow_move Z Z (lw_nil (ew_nxt ((W (k1 + 1)), x1.2) hb2 fun a ha => ⟨M1, (ha.sub ⟨Z, Z, Z, Z, trivial⟩), (hl2.trans hl3), hC3, ho4, hm2⟩))))))))))
   ·
    obtain rfl := hbb2.trans hc2
    refine cw_true Z (cw_seq (cw_region (lw_op Z Z Z (ow_assign Z Z (lw_nil (ew_then (cw_ret (ew_blockR (ew_thenR (ew_thenR (ew_blockR (ew_brkR (ew_thenR ?_)))))))))))))
    have e1 := hR1 _ (Option.some.inj hb2).symm
    subst e1
    obtain rfl := Option.some.inj h
    exact ew_ret (res1 Z (.tmp Z)) ⟨_, Z, ((vbool _)), hC3.bx⟩
  ·
   obtain rfl := hbb1.trans hc1
   exact cw_false Z (cw_exit (ew_thenX (ew_thenX (ew_blockX (ew_brk (k1, y1) hb2 fun a ha => ⟨M1, (ha.sub ⟨Z, Z, Z, Z, trivial⟩), hl2, hC2, ho3, hm2⟩)))))
 ·
  rintro ⟨k2, y2⟩ a w4 hlr2 ⟨M2, hF2, hl4, hC4, ho5, hm3⟩
  subst hlr2
  refine ew_at (E := [(0, v0p), (3, (.pointer (some ⟨g1, 0, none⟩))), (6, (.int .i64 (a_chains.length : Int))), (7, (.int .i64 k2))]) hF2 (ew_then (cw_seq (cw_region (lw_op Z Z Z (ow_assign Z Z (lw_nil (ew_then (cw_ret ?_))))))))
  obtain rfl := Option.some.inj h
  exact ew_ret (res1 Z (.tmp Z)) ⟨_, Z, ((vbool _)), hC4.bx⟩

theorem w_impl_RulesetValid {w : World} {M : Nat → Prop} (hG : ARep (RArr 4 RShape) w M shapes ⟨0, 0, none⟩) (hO : ∀ b, M b → b < w.heap.size) {v0p : Value} {a_s : Ruleset} (h0 : VRep RRuleset w M a_s v0p) {r : Bool} (h : F.impl_RulesetValid a_s = some r) :
  Calls Tryd.prog 25 [v0p].toArray w fun e w' => ∃ v, e = .returned v ∧ VRep RBool w' M r v ∧ BX No w w' := by
 have hC : Cx No w M w M := Cx.start hO (fun _ e => e.elim)
 refine walk (N := 54) Tryd.func25 Z Tryd.ntmps25 Z (cw_seq (cw_region (lw_op Z Z Z (ow_box (R := RRuleset) Z Z h0 hC fun p1 w1 hp1 hb1 hl1 hC1 => lw_op Z Z Z (ow_assign Z Z (lw_nil (ew_then (cw_seq (cw_seq (cw_region (lw_op Z Z Z (ow_fieldAddr Z Z Tryd.underlying45 Z (Tryd.sizeOf43 _) (lw_op Z Z Z (ow_load (R := (RSlice (RSlice RRule))) Z Z (hp1.fld fld_Ruleset_Chains) (Tryd.sizeOf43 _) (Tryd.isAgg43 _) fun v1 hv1 => lw_op Z Z Z (ow_len Z Z hv1 Tryd.underlying43 Z (lw_op Z Z Z (ow_lss Z Z Z fun bb1 hbb1 => lw_op Z Z Z (ow_move Z Z ?_))))))))))))))))))
 replace h := cond_some h
 rcases h with ⟨hc1, h⟩ | ⟨hc1, h⟩
 ·
  obtain rfl := hbb1.trans hc1
  refine lw_off Z Z Z Z Z Z (lw_off Z Z Z Z Z Z (lw_off Z Z Z Z Z Z (lw_off Z Z Z Z Z Z (lw_op Z Z Z (ow_pickT Z Z Z (lw_nil (ew_then (cw_true Z (cw_seq (cw_region (lw_op Z Z Z (ow_assign Z Z (lw_nil (ew_then (cw_ret (ew_thenR ?_))))))))))))))))
  obtain rfl := Option.some.inj h
  exact ew_ret (res1 Z (.tmp Z)) ⟨_, Z, ((vbool _)), hC1.bx⟩
 ·
  obtain rfl := hbb1.trans hc1
  refine lw_on Z Z Z Z Z Z (ow_fieldAddr Z Z Tryd.underlying45 Z (Tryd.sizeOf43 _) (lw_on Z Z Z Z Z Z (ow_load (R := (RSlice (RSlice RRule))) Z Z (hp1.fld fld_Ruleset_Chains) (Tryd.sizeOf43 _) (Tryd.isAgg43 _) fun v2 hv2 => lw_on Z Z Z Z Z Z (ow_len Z Z hv2 Tryd.underlying43 Z (lw_on Z Z Z Z Z Z (ow_gtr Z Z Z fun bb2 hbb2 => lw_op Z Z Z (ow_pickF Z Z Z (lw_nil (ew_then ?_)))))))))
  replace h := cond_some h
  rcases h with ⟨hc2, h⟩ | ⟨hc2, h⟩
  ·
   obtain rfl := hbb2.trans hc2
   refine cw_true Z (cw_seq (cw_region (lw_op Z Z Z (ow_assign Z Z (lw_nil (ew_then (cw_ret (ew_thenR ?_))))))))
   obtain rfl := Option.some.inj h
   exact ew_ret (res1 Z (.tmp Z)) ⟨_, Z, ((vbool _)), hC1.bx⟩
  ·
   obtain rfl := hbb2.trans hc2
   refine cw_false Z (cw_skip (ew_then (cw_seq (cw_seq (cw_region (lw_op Z Z Z (ow_fieldAddr Z Z Tryd.underlying45 Z (Tryd.sizeOf43 _) (lw_op Z Z Z (ow_load (R := (RSlice (RSlice RRule))) Z Z (hp1.fld fld_Ruleset_Chains) (Tryd.sizeOf43 _) (Tryd.isAgg43 _) fun v3 hv3 => lw_op Z Z Z (ow_len Z Z hv3 Tryd.underlying43 Z (lw_op Z Z Z (ow_move Z Z (lw_nil (ew_then ?_))))))))))))))
   replace h := bind_some h
   obtain ⟨lr1, hlr1, h⟩ := h
   refine cw_for hlr1 (fun s a w' => ∃ (M' : Nat → Prop), Fits 54 [(1, (.pointer (some p1))), (20, v3), (21, (.int .i64 (a_s.Chains.length : Int))), (22, (.int .i64 s))] a ∧ Le w1 M w' M' ∧ Cx No w M w' M') ?_ ?_ ?_
   ·
    intro a ha
    exact ⟨M, ha.sub ⟨Z, Z, Z, Z, trivial⟩, Le.refl _ _, hC1⟩
   ·
    rintro k1 a w2 sr1 ⟨M1, hF1, hl2, hC2⟩ hb2 hR1
    refine cw_at (E := [(1, (.pointer (some p1))), (20, v3), (21, (.int .i64 (a_s.Chains.length : Int))), (22, (.int .i64 k1))]) hF1 (cw_seq (cw_region (lw_op Z Z Z (ow_lss Z Z Z fun bb3 hbb3 => lw_nil (ew_then (cw_seq ?_))))))
    replace hb2 := cond_some hb2
    rcases hb2 with ⟨hc3, hb2⟩ | ⟨hc3, hb2⟩
    ·
     obtain rfl := hbb3.trans hc3
     refine cw_true Z (cw_skip (ew_then (cw_seq (cw_block (cw_seq (cw_region ?_))))))
     replace hb2 := bind_some hb2
     obtain ⟨x1, hx1, hb2⟩ := hb2
     refine lw_op Z Z Z (ow_indexSlice (R := (RSlice RRule)) Z Z Z (VRep.mono hl2 hv3) Tryd.underlying43 (Tryd.sizeOf36 _) hx1 fun p2 hp2 => lw_op Z Z Z (ow_load (R := (RSlice RRule)) Z Z hp2 (Tryd.sizeOf36 _) (Tryd.isAgg36 _) fun v5 hv5 => lw_op Z Z Z (ow_assign Z Z (lw_nil (ew_then (cw_seq (cw_region (lw_op Z Z Z (ow_move Z Z ?_)))))))))
     replace hb2 := bind_some hb2
     obtain ⟨x2, hx2, hb2⟩ := hb2
     refine lw_op Z Z Z (ow_call Z Z Tryd.call66 (w_impl_RulesValid (hG.mono (hl1.trans hl2)) hC2.old hv5 hx2) fun v6 w3 hv6 => ?_)
     obtain ⟨hv6, hb3⟩ := hv6
     have hl3 := Le.no M1 hb3
     have hC3 := hC2.no hb3
     obtain rfl := vbool_eq hv6
     refine lw_op Z Z Z (ow_not Z Z (lw_nil (ew_then ?_)))
     replace hb2 := cond_some hb2
     rcases hb2 with ⟨hc4, hb2⟩ | ⟨hc4, hb2⟩
     ·
      subst hc4
      exact cw_false Z (cw_skip (ew_blockN (ew_then (cw_region (lw_op Z Z Z (ow_add Z Z Z (lw_op Z Z Z (ow_move Z Z (lw_nil (ew_nxt (W (k1 + 1)) hb2 fun a ha => ⟨M1, (ha.sub ⟨Z, Z, Z, Z, trivial⟩), (hl2.trans hl3), hC3⟩))))))))))
     ·
      subst hc4
      refine cw_true Z (cw_seq (cw_region (lw_op Z Z Z (ow_assign Z Z (lw_nil (ew_then (cw_ret (ew_blockR (ew_thenR (ew_thenR (ew_blockR (ew_brkR (ew_thenR ?_)))))))))))))
      have e1 := hR1 _ (Option.some.inj hb2).symm
      subst e1
      obtain rfl := Option.some.inj h
      exact ew_ret (res1 Z (.tmp Z)) ⟨_, Z, ((vbool _)), hC3.bx⟩
    ·
     obtain rfl := hbb3.trans hc3
     exact cw_false Z (cw_exit (ew_thenX (ew_thenX (ew_blockX (ew_brk k1 hb2 fun a ha => ⟨M1, (ha.sub ⟨Z, Z, Z, Z, trivial⟩), hl2, hC2⟩)))))
   ·
    rintro k2 a w4 hlr2 ⟨M2, hF2, hl4, hC4⟩
    subst hlr2
    refine ew_at (E := [(1, (.pointer (some p1))), (20, v3), (21, (.int .i64 (a_s.Chains.length : Int))), (22, (.int .i64 k2))]) hF2 (ew_then (cw_seq (cw_seq (cw_region (lw_op Z Z Z (ow_fieldAddr Z Z Tryd.underlying45 Z (Tryd.sizeOf43 _) (lw_op Z Z Z (ow_load (R := (RSlice (RSlice RRule))) Z Z (ARep.mono hl4 (hp1.fld fld_Ruleset_Chains)) (Tryd.sizeOf43 _) (Tryd.isAgg43 _) fun v8 hv8 => lw_op Z Z Z (ow_len Z Z hv8 Tryd.underlying43 Z (lw_op Z Z Z (ow_move Z Z (lw_nil (ew_then ?_)))))))))))))
    replace h := bind_some h
    obtain ⟨lr2, hlr3, h⟩ := h
    refine cw_for hlr3 (fun s a w' => ∃ (M' : Nat → Prop), Fits 54 [(1, (.pointer (some p1))), (31, v8), (32, (.int .i64 (a_s.Chains.length : Int))), (33, (.int .i64 s))] a ∧ Le w4 M2 w' M' ∧ Cx No w M w' M') ?_ ?_ ?_
    ·
     intro a ha
     exact ⟨M2, ha.sub ⟨Z, Z, Z, Z, trivial⟩, Le.refl _ _, hC4⟩
    ·
     rintro k3 a w5 sr2 ⟨M3, hF3, hl5, hC5⟩ hb4 hR2
     refine cw_at (E := [(1, (.pointer (some p1))), (31, v8), (32, (.int .i64 (a_s.Chains.length : Int))), (33, (.int .i64 k3))]) hF3 (cw_seq (cw_region (lw_op Z Z Z (ow_lss Z Z Z fun bb4 hbb4 => lw_nil (ew_then (cw_seq ?_))))))
     replace hb4 := cond_some hb4
     rcases hb4 with ⟨hc5, hb4⟩ | ⟨hc5, hb4⟩
     ·
      obtain rfl := hbb4.trans hc5
      refine cw_true Z (cw_skip (ew_then (cw_seq (cw_block (cw_seq (cw_region ?_))))))
      replace hb4 := bind_some hb4
      obtain ⟨x3, hx3, hb4⟩ := hb4
      refine lw_op Z Z Z (ow_indexSlice (R := (RSlice RRule)) Z Z Z (VRep.mono hl5 hv8) Tryd.underlying43 (Tryd.sizeOf36 _) hx3 fun p3 hp3 => lw_op Z Z Z (ow_load (R := (RSlice RRule)) Z Z hp3 (Tryd.sizeOf36 _) (Tryd.isAgg36 _) fun v10 hv10 => lw_op Z Z Z (ow_assign Z Z (lw_nil (ew_then (cw_seq (cw_region (lw_op Z Z Z (ow_move Z Z ?_)))))))))
      replace hb4 := bind_some hb4
      obtain ⟨x4, hx4, hb4⟩ := hb4
      have lz1 := ((hl1.trans hl4).trans hl5)
      refine lw_op Z Z Z (ow_call Z Z Tryd.call67 (w_impl_callsIn (hG.mono lz1) hC5.old hv10 hx4) fun v11 w6 hv11 => ?_)
      obtain ⟨hv11, hb5⟩ := hv11
      have hl6 := Le.no M3 hb5
      have hC6 := hC5.no hb5
      refine lw_op Z Z Z (ow_len Z Z hv11 Tryd.underlying52 Z (lw_op Z Z Z (ow_move Z Z (lw_nil (ew_then ?_)))))
      replace hb4 := bind_some hb4
      obtain ⟨lr3, hlr4, hb4⟩ := hb4
      refine cw_for hlr4 (fun s a w' => ∃ (M' : Nat → Prop), Fits 54 [(1, (.pointer (some p1))), (31, v8), (32, (.int .i64 (a_s.Chains.length : Int))), (33, (.int .i64 k3)), (38, v11), (39, (.int .i64 (x4.length : Int))), (40, (.int .i64 s))] a ∧ Le w6 M3 w' M' ∧ Cx No w M w' M') ?_ ?_ ?_
      ·
       intro a ha
       exact ⟨M3, ha.sub ⟨Z, Z, Z, Z, Z, Z, Z, trivial⟩, Le.refl _ _, hC6⟩
      ·
       rintro k4 a w7 sr3 ⟨M4, hF4, hl7, hC7⟩ hb6 hR3
       refine cw_at (E := [(1, (.pointer (some p1))), (31, v8), (32, (.int .i64 (a_s.Chains.length : Int))), (33, (.int .i64 k3)), (38, v11), (39, (.int .i64 (x4.length : Int))), (40, (.int .i64 k4))]) hF4 (cw_seq (cw_region (lw_op Z Z Z (ow_lss Z Z Z fun bb5 hbb5 => lw_nil (ew_then (cw_seq ?_))))))
       replace hb6 := cond_some hb6
       rcases hb6 with ⟨hc6, hb6⟩ | ⟨hc6, hb6⟩
       ·
        obtain rfl := hbb5.trans hc6
        refine cw_true Z (cw_skip (ew_then (cw_seq (cw_block (cw_seq (cw_region ?_))))))
        replace hb6 := bind_some hb6
        obtain ⟨x5, hx5, hb6⟩ := hb6
        refine lw_op Z Z Z (ow_indexSlice (R := RInt) Z Z Z (VRep.mono hl7 hv11) Tryd.underlying52 (Tryd.sizeOf3 _) hx5 fun p4 hp4 => lw_op Z Z Z (ow_load (R := RInt) Z Z hp4 (Tryd.sizeOf3 _) (Tryd.isAgg3 _) fun v13 hv13 => ?_))
        obtain rfl := vint_eq hv13
        refine lw_op Z Z Z (ow_assign Z Z (lw_nil (ew_then (cw_seq (cw_region (lw_op Z Z Z (ow_move Z Z (lw_op Z Z Z (ow_fieldAddr Z Z Tryd.underlying45 Z (Tryd.sizeOf43 _) ?_)))))))))
        have lz2 := (((hl4.trans hl5).trans hl6).trans hl7)
        refine lw_op Z Z Z (ow_load (R := (RSlice (RSlice RRule))) Z Z (ARep.mono lz2 (hp1.fld fld_Ruleset_Chains)) (Tryd.sizeOf43 _) (Tryd.isAgg43 _) fun v14 hv14 => lw_op Z Z Z (ow_len Z Z hv14 Tryd.underlying43 Z (lw_op Z Z Z (ow_geq Z Z Z fun bb6 hbb6 => lw_nil (ew_then ?_)))))
        replace hb6 := cond_some hb6
        rcases hb6 with ⟨hc7, hb6⟩ | ⟨hc7, hb6⟩
        ·
         obtain rfl := hbb6.trans hc7
         refine cw_true Z (cw_seq (cw_region (lw_op Z Z Z (ow_assign Z Z (lw_nil (ew_then (cw_ret (ew_blockR (ew_thenR (ew_thenR (ew_blockR (ew_brkR (ew_blockR (ew_thenR (ew_thenR (ew_blockR (ew_brkR (ew_thenR ?_))))))))))))))))))
         have e2 := hR3 _ (Option.some.inj hb6).symm
         subst e2
         have e3 := hR2 _ (Option.some.inj hb4).symm
         subst e3
         obtain rfl := Option.some.inj h
         exact ew_ret (res1 Z (.tmp Z)) ⟨_, Z, ((vbool _)), hC7.bx⟩
        ·
         obtain rfl := hbb6.trans hc7
         exact cw_false Z (cw_skip (ew_blockN (ew_then (cw_region (lw_op Z Z Z (ow_add Z Z Z (lw_op Z Z Z (ow_move Z Z (lw_nil (ew_nxt (W (k4 + 1)) hb6 fun a ha => ⟨M4, (ha.sub ⟨Z, Z, Z, Z, Z, Z, Z, trivial⟩), hl7, hC7⟩))))))))))
       ·
        obtain rfl := hbb5.trans hc6
        exact cw_false Z (cw_exit (ew_thenX (ew_thenX (ew_blockX (ew_brk k4 hb6 fun a ha => ⟨M4, (ha.sub ⟨Z, Z, Z, Z, Z, Z, Z, trivial⟩), hl7, hC7⟩)))))
      ·
       rintro k5 a w8 hlr5 ⟨M5, hF5, hl8, hC8⟩
       subst hlr5
       refine ew_at (E := [(1, (.pointer (some p1))), (31, v8), (32, (.int .i64 (a_s.Chains.length : Int))), (33, (.int .i64 k3)), (38, v11), (39, (.int .i64 (x4.length : Int))), (40, (.int .i64 k5))]) hF5 (ew_blockN (ew_then (cw_region (lw_op Z Z Z (ow_add Z Z Z (lw_op Z Z Z (ow_move Z Z (lw_nil ?_))))))))
       have lz3 := ((hl5.trans hl6).trans hl8)
       exact ew_nxt (W (k3 + 1)) hb4 fun a ha => ⟨M5, (ha.sub ⟨Z, Z, Z, Z, trivial⟩), lz3, hC8⟩
     ·
      obtain rfl := hbb4.trans hc5
      exact cw_false Z (cw_exit (ew_thenX (ew_thenX (ew_blockX (ew_brk k3 hb4 fun a ha => ⟨M3, (ha.sub ⟨Z, Z, Z, Z, trivial⟩), hl5, hC5⟩)))))
    ·
     rintro k6 a w9 hlr6 ⟨M6, hF6, hl9, hC9⟩
     subst hlr6
     refine ew_at (E := [(1, (.pointer (some p1))), (31, v8), (32, (.int .i64 (a_s.Chains.length : Int))), (33, (.int .i64 k6))]) hF6 (ew_then (cw_seq (cw_region (lw_op Z Z Z (ow_fieldAddr Z Z Tryd.underlying45 Z (Tryd.sizeOf43 _) (lw_op Z Z Z (ow_load (R := (RSlice (RSlice RRule))) Z Z (ARep.mono (hl4.trans hl9) (hp1.fld fld_Ruleset_Chains)) (Tryd.sizeOf43 _) (Tryd.isAgg43 _) fun v17 hv17 => ?_)))))))
     replace h := bind_some h
     obtain ⟨x6, hx6, h⟩ := h
     have lz4 := ((hl1.trans hl4).trans hl9)
     refine lw_op Z Z Z (ow_call Z Z Tryd.call68 (w_impl_acyclic (hG.mono lz4) hC9.old hv17 hx6) fun v18 w10 hv18 => ?_)
     obtain ⟨hv18, hb7⟩ := hv18
     have hC10 := hC9.no hb7
     obtain rfl := vbool_eq hv18
     refine lw_op Z Z Z (ow_assign Z Z (lw_nil (ew_then (cw_ret ?_))))
     obtain rfl := Option.some.inj h
     exact ew_ret (res1 Z (.tmp Z)) ⟨_, Z, ((vbool _)), hC10.bx⟩

theorem w_impl_depthOf (n_ : Nat) : ∀ {w : World} {M : Nat → Prop} (hG : ARep (RArr 4 RShape) w M shapes ⟨0, 0, none⟩) (hO : ∀ b, M b → b < w.heap.size) {v0p : Value} {a_chains : List (List Rule)} (h0 : VRep (RSlice (RSlice RRule)) w M a_chains v0p) {a_chain : Int} {r : Int} (h : F.impl_depthOf n_ a_chains a_chain = some r),
  Calls Tryd.prog 72 [v0p, (.int .i64 a_chain)].toArray w fun e w' => ∃ v, e = .returned v ∧ VRep RInt w' M r v ∧ BX No w w' := by
 induction n_ with
 | zero =>
  intro w M hG hO v0p a_chains h0 a_chain r h
  exact (Option.some_ne_none _ (show (none : Option Int) = some r from h).symm).elim
 | succ n_ ih =>
 intro w M hG hO v0p a_chains h0 a_chain r h
 have hC : Cx No w M w M := Cx.start hO (fun _ e => e.elim)
 refine walk (N := 26) Tryd.func72 Z Tryd.ntmps72 Z (cw_seq (cw_region (lw_op Z Z Z (ow_assign Z Z (lw_nil (ew_then (cw_seq (cw_region (lw_op Z Z Z (ow_assign Z Z (lw_nil (ew_then (cw_seq (cw_seq (cw_region (lw_op Z Z Z (ow_move Z Z (lw_op Z Z Z (ow_move Z Z ?_)))))))))))))))))))
 replace h := bind_some h
 obtain ⟨x1, hx1, h⟩ := h
 refine lw_op Z Z Z (ow_indexSlice (R := (RSlice RRule)) Z Z Z h0 Tryd.underlying43 (Tryd.sizeOf36 _) hx1 fun p1 hp1 => lw_op Z Z Z (ow_load (R := (RSlice RRule)) Z Z hp1 (Tryd.sizeOf36 _) (Tryd.isAgg36 _) fun v1 hv1 => ?_))
 replace h := bind_some h
 obtain ⟨x2, hx2, h⟩ := h
 refine lw_op Z Z Z (ow_call Z Z Tryd.call67 (w_impl_callsIn hG hC.old hv1 hx2) fun v2 w1 hv2 => ?_)
 obtain ⟨hv2, hb1⟩ := hv2
 have hl1 := Le.no M hb1
 have hC1 := hC.no hb1
 refine lw_op Z Z Z (ow_len Z Z hv2 Tryd.underlying52 Z (lw_op Z Z Z (ow_move Z Z (lw_nil (ew_then ?_)))))
 replace h := bind_some h
 obtain ⟨lr1, hlr1, h⟩ := h
 refine cw_for hlr1 (fun s a w' => ∃ (M' : Nat → Prop), Fits 26 [(0, v0p), (5, (.int .i64 s.1)), (12, v2), (13, (.int .i64 (x2.length : Int))), (14, (.int .i64 s.2))] a ∧ Le w1 M w' M' ∧ Cx No w M w' M') ?_ ?_ ?_
 ·
  intro a ha
  exact ⟨M, ha.sub ⟨Z, Z, Z, Z, Z, trivial⟩, Le.refl _ _, hC1⟩
 ·
  rintro ⟨k1, k2⟩ a w2 sr1 ⟨M1, hF1, hl2, hC2⟩ hb2 hR1
  refine cw_at (E := [(0, v0p), (5, (.int .i64 k1)), (12, v2), (13, (.int .i64 (x2.length : Int))), (14, (.int .i64 k2))]) hF1 (cw_seq (cw_region (lw_op Z Z Z (ow_lss Z Z Z fun bb1 hbb1 => lw_nil (ew_then (cw_seq ?_))))))
  replace hb2 := cond_some hb2
  rcases hb2 with ⟨hc1, hb2⟩ | ⟨hc1, hb2⟩
  ·
   obtain rfl := hbb1.trans hc1
   refine cw_true Z (cw_skip (ew_then (cw_seq (cw_block (cw_seq (cw_region ?_))))))
   replace hb2 := bind_some hb2
   obtain ⟨x3, hx3, hb2⟩ := hb2
   refine lw_op Z Z Z (ow_indexSlice (R := RInt) Z Z Z (VRep.mono hl2 hv2) Tryd.underlying52 (Tryd.sizeOf3 _) hx3 fun p2 hp2 => lw_op Z Z Z (ow_load (R := RInt) Z Z hp2 (Tryd.sizeOf3 _) (Tryd.isAgg3 _) fun v5 hv5 => ?_))
   obtain rfl := vint_eq hv5
   refine lw_op Z Z Z (ow_assign Z Z (lw_nil (ew_then (cw_region (lw_op Z Z Z (ow_move Z Z (lw_op Z Z Z (ow_move Z Z (lw_op Z Z Z (ow_move Z Z ?_))))))))))
   replace hb2 := bind_some hb2
   obtain ⟨x4, hx4, hb2⟩ := hb2
   refine lw_op Z Z Z (ow_call Z Z Tryd.call72 (ih (hG.mono (hl1.trans hl2)) hC2.old (VRep.mono (hl1.trans hl2) h0) hx4) fun v6 w3 hv6 => ?_)
   obtain ⟨hv6, hb3⟩ := hv6
   have hl3 := Le.no M1 hb3
   have hC3 := hC2.no hb3
   obtain rfl := vint_eq hv6
   exact lw_op Z Z Z (ow_add Z Z Z (lw_op Z Z Z (ow_max Z Z Z (lw_op Z Z Z (ow_assign Z Z (lw_nil (ew_blockN (ew_then (cw_region (lw_op Z Z Z (ow_add Z Z Z (lw_op Z Z Z (ow_move Z Z (lw_nil (ew_nxt ((imax k1 (W (1 + x4))), (W (k2 + 1))) hb2 fun a ha => ⟨M1, (ha.sub ⟨Z, Z, Z, Z, Z, trivial⟩), (hl2.trans hl3), hC3⟩)))))))))))))))
  ·
   obtain rfl := hbb1.trans hc1
   exact cw_false Z (cw_exit (ew_thenX (ew_thenX (ew_blockX (ew_brk (k1, k2) hb2 fun a ha => ⟨M1, (ha.sub ⟨Z, Z, Z, Z, Z, trivial⟩), hl2, hC2⟩)))))
 ·
  rintro ⟨k3, k4⟩ a w4 hlr2 ⟨M2, hF2, hl4, hC4⟩
  subst hlr2
  refine ew_at (E := [(0, v0p), (5, (.int .i64 k3)), (12, v2), (13, (.int .i64 (x2.length : Int))), (14, (.int .i64 k4))]) hF2 (ew_then (cw_seq (cw_region (lw_op Z Z Z (ow_move Z Z (lw_op Z Z Z (ow_assign Z Z (lw_nil (ew_then (cw_ret ?_))))))))))
  obtain rfl := Option.some.inj h
  exact ew_ret (res1 Z (.tmp Z)) ⟨_, Z, ((vint _)), hC4.bx⟩

theorem w_impl_CallDepth {w : World} {M : Nat → Prop} (hG : ARep (RArr 4 RShape) w M shapes ⟨0, 0, none⟩) (hO : ∀ b, M b → b < w.heap.size) {v0p : Value} {a_s : Ruleset} (h0 : VRep RRuleset w M a_s v0p) {a_chain : Int} {r : Int} (h : F.impl_CallDepth a_s a_chain = some r) :
  Calls Tryd.prog 28 [v0p, (.int .i64 a_chain)].toArray w fun e w' => ∃ v, e = .returned v ∧ VRep RInt w' M r v ∧ BX No w w' := by
 have hC : Cx No w M w M := Cx.start hO (fun _ e => e.elim)
 refine walk (N := 23) Tryd.func28 Z Tryd.ntmps28 Z (cw_seq (cw_region (lw_op Z Z Z (ow_box (R := RRuleset) Z Z h0 hC fun p1 w1 hp1 hb1 hl1 hC1 => lw_op Z Z Z (ow_assign Z Z (lw_nil (ew_then (cw_seq (cw_seq (cw_region (lw_op Z Z Z (ow_load (R := RRuleset) Z Z hp1 (Tryd.sizeOf45 _) (Tryd.isAgg45 _) fun v1 hv1 => ?_))))))))))))
 replace h := bind_some h
 obtain ⟨x1, hx1, h⟩ := h
 refine lw_op Z Z Z (ow_call Z Z Tryd.call25 (w_impl_RulesetValid (hG.mono hl1) hC1.old hv1 hx1) fun v2 w2 hv2 => ?_)
 obtain ⟨hv2, hb2⟩ := hv2
 have hl2 := Le.no M hb2
 have hC2 := hC1.no hb2
 obtain rfl := vbool_eq hv2
 refine lw_op Z Z Z (ow_not Z Z (lw_op Z Z Z (ow_move Z Z ?_)))
 replace h := cond_some h
 rcases h with ⟨hc1, h⟩ | ⟨hc1, h⟩
 ·
  subst hc1
  refine lw_on Z Z Z Z Z Z (ow_move Z Z (lw_on Z Z Z Z Z Z (ow_lss Z Z Z fun bb1 hbb1 => lw_op Z Z Z (ow_pickF Z Z Z (lw_op Z Z Z (ow_move Z Z ?_))))))
  replace h := cond_some h
  rcases h with ⟨hc2, h⟩ | ⟨hc2, h⟩
  ·
   obtain rfl := hbb1.trans hc2
   refine lw_off Z Z Z Z Z Z (lw_off Z Z Z Z Z Z (lw_off Z Z Z Z Z Z (lw_off Z Z Z Z Z Z (lw_off Z Z Z Z Z Z (lw_op Z Z Z (ow_pickT Z Z Z (lw_nil (ew_then (cw_true Z (cw_seq (cw_region (lw_op Z Z Z (ow_assign Z Z (lw_nil (ew_then (cw_ret (ew_thenR ?_)))))))))))))))))
   obtain rfl := Option.some.inj h
   exact ew_ret (res1 Z (.tmp Z)) ⟨_, Z, ((vint _)), hC2.bx⟩
  ·
   obtain rfl := hbb1.trans hc2
   refine lw_on Z Z Z Z Z Z (ow_move Z Z (lw_on Z Z Z Z Z Z (ow_fieldAddr Z Z Tryd.underlying45 Z (Tryd.sizeOf43 _) (lw_on Z Z Z Z Z Z (ow_load (R := (RSlice (RSlice RRule))) Z Z (ARep.mono hl2 (hp1.fld fld_Ruleset_Chains)) (Tryd.sizeOf43 _) (Tryd.isAgg43 _) fun v3 hv3 => lw_on Z Z Z Z Z Z (ow_len Z Z hv3 Tryd.underlying43 Z (lw_on Z Z Z Z Z Z (ow_geq Z Z Z fun bb2 hbb2 => lw_op Z Z Z (ow_pickF Z Z Z (lw_nil (ew_then ?_)))))))))))
   replace h := cond_some h
   rcases h with ⟨hc3, h⟩ | ⟨hc3, h⟩
   ·
    obtain rfl := hbb2.trans hc3
    refine cw_true Z (cw_seq (cw_region (lw_op Z Z Z (ow_assign Z Z (lw_nil (ew_then (cw_ret (ew_thenR ?_))))))))
    obtain rfl := Option.some.inj h
    exact ew_ret (res1 Z (.tmp Z)) ⟨_, Z, ((vint _)), hC2.bx⟩
   ·
    obtain rfl := hbb2.trans hc3
    refine cw_false Z (cw_skip (ew_then (cw_seq (cw_region (lw_op Z Z Z (ow_fieldAddr Z Z Tryd.underlying45 Z (Tryd.sizeOf43 _) (lw_op Z Z Z (ow_load (R := (RSlice (RSlice RRule))) Z Z (ARep.mono hl2 (hp1.fld fld_Ruleset_Chains)) (Tryd.sizeOf43 _) (Tryd.isAgg43 _) fun v4 hv4 => lw_op Z Z Z (ow_move Z Z ?_)))))))))
    replace h := bind_some h
    obtain ⟨x2, hx2, h⟩ := h
    refine lw_op Z Z Z (ow_call Z Z Tryd.call72 (w_impl_depthOf 10 (hG.mono (hl1.trans hl2)) hC2.old hv4 hx2) fun v5 w3 hv5 => ?_)
    obtain ⟨hv5, hb3⟩ := hv5
    have hC3 := hC2.no hb3
    obtain rfl := vint_eq hv5
    refine lw_op Z Z Z (ow_assign Z Z (lw_nil (ew_then (cw_ret ?_))))
    obtain rfl := Option.some.inj h
    exact ew_ret (res1 Z (.tmp Z)) ⟨_, Z, ((vint _)), hC3.bx⟩
 ·
  subst hc1
  refine lw_off Z Z Z Z Z Z (lw_off Z Z Z Z Z Z (lw_op Z Z Z (ow_pickT Z Z Z (lw_op Z Z Z (ow_move Z Z (lw_off Z Z Z Z Z Z (lw_off Z Z Z Z Z Z (lw_off Z Z Z Z Z Z (lw_off Z Z Z Z Z Z (lw_off Z Z Z Z Z Z (lw_op Z Z Z (ow_pickT Z Z Z (lw_nil (ew_then (cw_true Z (cw_seq (cw_region (lw_op Z Z Z (ow_assign Z Z (lw_nil (ew_then (cw_ret (ew_thenR ?_)))))))))))))))))))))))
  obtain rfl := Option.some.inj h
  exact ew_ret (res1 Z (.tmp Z)) ⟨_, Z, ((vint _)), hC2.bx⟩

theorem w_impl_CallsOf {w : World} {M : Nat → Prop} (hG : ARep (RArr 4 RShape) w M shapes ⟨0, 0, none⟩) (hO : ∀ b, M b → b < w.heap.size) {v0p : Value} {a_s : Ruleset} (h0 : VRep RRuleset w M a_s v0p) {a_chain : Int} {r : (List Int)} (h : F.impl_CallsOf a_s a_chain = some r) :
  Calls Tryd.prog 30 [v0p, (.int .i64 a_chain)].toArray w fun e w' => ∃ v, e = .returned v ∧ VRep (RSlice RInt) w' M r v ∧ BX No w w' := by
 have hC : Cx No w M w M := Cx.start hO (fun _ e => e.elim)
 refine walk (N := 25) Tryd.func30 Z Tryd.ntmps30 Z (cw_seq (cw_region (lw_op Z Z Z (ow_box (R := RRuleset) Z Z h0 hC fun p1 w1 hp1 hb1 hl1 hC1 => lw_op Z Z Z (ow_assign Z Z (lw_nil (ew_then (cw_seq (cw_seq (cw_region (lw_op Z Z Z (ow_load (R := RRuleset) Z Z hp1 (Tryd.sizeOf45 _) (Tryd.isAgg45 _) fun v1 hv1 => ?_))))))))))))
 replace h := bind_some h
 obtain ⟨x1, hx1, h⟩ := h
 refine lw_op Z Z Z (ow_call Z Z Tryd.call25 (w_impl_RulesetValid (hG.mono hl1) hC1.old hv1 hx1) fun v2 w2 hv2 => ?_)
 obtain ⟨hv2, hb2⟩ := hv2
 have hl2 := Le.no M hb2
 have hC2 := hC1.no hb2
 obtain rfl := vbool_eq hv2
 refine lw_op Z Z Z (ow_not Z Z (lw_op Z Z Z (ow_move Z Z ?_)))
 replace h := cond_some h
 rcases h with ⟨hc1, h⟩ | ⟨hc1, h⟩
 ·
  subst hc1
  refine lw_on Z Z Z Z Z Z (ow_move Z Z (lw_on Z Z Z Z Z Z (ow_lss Z Z Z fun bb1 hbb1 => lw_op Z Z Z (ow_pickF Z Z Z (lw_op Z Z Z (ow_move Z Z ?_))))))
  replace h := cond_some h
  rcases h with ⟨hc2, h⟩ | ⟨hc2, h⟩
  ·
   obtain rfl := hbb1.trans hc2
   refine lw_off Z Z Z Z Z Z (lw_off Z Z Z Z Z Z (lw_off Z Z Z Z Z Z (lw_off Z Z Z Z Z Z (lw_off Z Z Z Z Z Z (lw_op Z Z Z (ow_pickT Z Z Z (lw_nil (ew_then (cw_true Z (cw_seq (cw_region (lw_op Z Z Z (ow_assign Z Z (lw_nil (ew_then (cw_ret (ew_thenR ?_)))))))))))))))))
   obtain rfl := Option.some.inj h
   exact ew_ret (res1 Z (.tmp Z)) ⟨_, Z, (VRep.mono hC2.back (vslice_nil (R := RInt) (w := w2) (M := M))), hC2.bx⟩
  ·
   obtain rfl := hbb1.trans hc2
   refine lw_on Z Z Z Z Z Z (ow_move Z Z (lw_on Z Z Z Z Z Z (ow_fieldAddr Z Z Tryd.underlying45 Z (Tryd.sizeOf43 _) (lw_on Z Z Z Z Z Z (ow_load (R := (RSlice (RSlice RRule))) Z Z (ARep.mono hl2 (hp1.fld fld_Ruleset_Chains)) (Tryd.sizeOf43 _) (Tryd.isAgg43 _) fun v3 hv3 => lw_on Z Z Z Z Z Z (ow_len Z Z hv3 Tryd.underlying43 Z (lw_on Z Z Z Z Z Z (ow_geq Z Z Z fun bb2 hbb2 => lw_op Z Z Z (ow_pickF Z Z Z (lw_nil (ew_then ?_)))))))))))
   replace h := cond_some h
   rcases h with ⟨hc3, h⟩ | ⟨hc3, h⟩
   ·
    obtain rfl := hbb2.trans hc3
    refine cw_true Z (cw_seq (cw_region (lw_op Z Z Z (ow_assign Z Z (lw_nil (ew_then (cw_ret (ew_thenR ?_))))))))
    obtain rfl := Option.some.inj h
    exact ew_ret (res1 Z (.tmp Z)) ⟨_, Z, (VRep.mono hC2.back (vslice_nil (R := RInt) (w := w2) (M := M))), hC2.bx⟩
   ·
    obtain rfl := hbb2.trans hc3
    refine cw_false Z (cw_skip (ew_then (cw_seq (cw_region (lw_op Z Z Z (ow_fieldAddr Z Z Tryd.underlying45 Z (Tryd.sizeOf43 _) (lw_op Z Z Z (ow_load (R := (RSlice (RSlice RRule))) Z Z (ARep.mono hl2 (hp1.fld fld_Ruleset_Chains)) (Tryd.sizeOf43 _) (Tryd.isAgg43 _) fun v4 hv4 => lw_op Z Z Z (ow_move Z Z ?_)))))))))
    replace h := bind_some h
    obtain ⟨x2, hx2, h⟩ := h
    refine lw_op Z Z Z (ow_indexSlice (R := (RSlice RRule)) Z Z Z hv4 Tryd.underlying43 (Tryd.sizeOf36 _) hx2 fun p2 hp2 => lw_op Z Z Z (ow_load (R := (RSlice RRule)) Z Z hp2 (Tryd.sizeOf36 _) (Tryd.isAgg36 _) fun v5 hv5 => ?_))
    replace h := bind_some h
    obtain ⟨x3, hx3, h⟩ := h
    refine lw_op Z Z Z (ow_call Z Z Tryd.call67 (w_impl_callsIn (hG.mono (hl1.trans hl2)) hC2.old hv5 hx3) fun v6 w3 hv6 => ?_)
    obtain ⟨hv6, hb3⟩ := hv6
    have hC3 := hC2.no hb3
    refine lw_op Z Z Z (ow_assign Z Z (lw_nil (ew_then (cw_ret ?_))))
    obtain rfl := Option.some.inj h
    exact ew_ret (res1 Z (.tmp Z)) ⟨_, Z, (VRep.mono hC3.back hv6), hC3.bx⟩
 ·
  subst hc1
  refine lw_off Z Z Z Z Z Z (lw_off Z Z Z Z Z Z (lw_op Z Z Z (ow_pickT Z Z Z (lw_op Z Z Z (ow_move Z Z (lw_off Z Z Z Z Z Z (lw_off Z Z Z Z Z Z (lw_off Z Z Z Z Z Z (lw_off Z Z Z Z Z Z (lw_off Z Z Z Z Z Z (lw_op Z Z Z (ow_pickT Z Z Z (lw_nil (ew_then (cw_true Z (cw_seq (cw_region (lw_op Z Z Z (ow_assign Z Z (lw_nil (ew_then (cw_ret (ew_thenR ?_)))))))))))))))))))))))
  obtain rfl := Option.some.inj h
  exact ew_ret (res1 Z (.tmp Z)) ⟨_, Z, (VRep.mono hC2.back (vslice_nil (R := RInt) (w := w2) (M := M))), hC2.bx⟩

theorem w_spec_l20Open {w : World} {M : Nat → Prop} (_hG : ARep (RArr 4 RShape) w M shapes ⟨0, 0, none⟩) (hO : ∀ b, M b → b < w.heap.size) {v0p : Value} {a_code : List Int} (h0 : VRep (RSlice RU8) w M a_code v0p) {r : List Int × Int} (h : F.spec_l20Open a_code = some r) :
  Calls Tryd.prog 47 [v0p].toArray w fun e w' => ∃ v, e = .returned v ∧ (∃ g A c, v = .pointer (some ⟨g, 0, none⟩) ∧ w.heap.size ≤ g ∧ Own w' g 111 #[.slice A r.1.length c, .int .i64 r.2] ∧ VRep (RSlice RU8) w' (Add g M) r.1 (.slice A r.1.length c)) ∧ BX No w w' := by
 have hC : Cx No w M w M := Cx.start hO (fun _ e => e.elim)
 clear _hG
 refine walk (N := 11) Tryd.func47 Z Tryd.ntmps47 Z (cw_seq (cw_region (lw_op Z Z Z (ow_assign Z Z (lw_nil (ew_then (cw_seq (cw_seq (cw_region (lw_op Z Z Z (ow_move Z Z (lw_op Z Z Z (ow_len Z Z h0 Tryd.underlying22 Z (lw_op Z Z Z (ow_gtr Z Z Z fun bb1 hbb1 => lw_nil (ew_then ?_))))))))))))))))
 replace h := cond_some h
 rcases h with ⟨hc1, h⟩ | ⟨hc1, h⟩
 ·
  obtain rfl := hbb1.trans hc1
  refine cw_true Z (cw_region (lw_op Z Z Z (ow_move Z Z ?_)))
  replace h := bind_some h
  obtain ⟨y1, hy1, h⟩ := h
  refine lw_op Z Z Z (ow_sliceTo (R := RU8) Z Z Z h0 Tryd.underlying22 (Tryd.sizeOf5 _) (takeF_some hy1).2 fun v1 hv1 => ?_)
  rw [← (takeF_some hy1).1] at hv1
  refine lw_op Z Z Z (ow_assign Z Z (lw_nil (ew_then (cw_seq (cw_region (lw_op Z Z Z (ow_move Z Z ?_)))))))
  obtain ⟨A1, c1, rfl, -⟩ := vslice_shape hv1
  refine lw_op Z Z Z (ow_build (v := .agg #[(.slice A1 y1.length c1), (.int .i64 0)]) Z Z (by kernel_rfl) (lw_op Z Z Z (ow_boxOwn Z Z hC fun g1 w1 hg1 hg2 ho1 hb1 hl1 hC1 => lw_op Z Z Z (ow_assign Z Z (lw_nil (ew_then (cw_ret ?_)))))))
  obtain rfl := Option.some.inj h
  exact ew_ret (res1 Z (.tmp Z)) ⟨_, Z, ⟨_, _, _, Z, hg2, ho1, (VRep.mono hl1 hv1)⟩, hC1.bx⟩
 ·
  obtain rfl := hbb1.trans hc1
  refine cw_false Z (cw_skip (ew_then (cw_seq (cw_region (lw_op Z Z Z (ow_move Z Z ?_))))))
  obtain ⟨A2, c2, rfl, -⟩ := vslice_shape h0
  refine lw_op Z Z Z (ow_build (v := .agg #[(.slice A2 a_code.length c2), (.int .i64 0)]) Z Z (by kernel_rfl) (lw_op Z Z Z (ow_boxOwn Z Z hC fun g2 w2 hg3 hg4 ho2 hb2 hl2 hC2 => lw_op Z Z Z (ow_assign Z Z (lw_nil (ew_then (cw_ret ?_)))))))
  obtain rfl := Option.some.inj h
  exact ew_ret (res1 Z (.tmp Z)) ⟨_, Z, ⟨_, _, _, Z, hg4, ho2, (VRep.mono hl2 h0)⟩, hC2.bx⟩

theorem w_spec_l20Rd_pick {w : World} {M : Nat → Prop} (_hG : ARep (RArr 4 RShape) w M shapes ⟨0, 0, none⟩) (hO : ∀ b, M b → b < w.heap.size) {g : Nat} {Ax : Option Addr} {cx : Nat} {a_xs : List Int} {a_pos : Int} (hxs : VRep (RSlice RU8) w M a_xs (.slice Ax a_xs.length cx)) (hown : Own w g 111 #[.slice Ax a_xs.length cx, .int .i64 a_pos]) (hgM : M g) {a_n : Int} {r : Int × Int} (h : F.spec_l20Rd_pick a_xs a_pos a_n = some r) :
  Calls Tryd.prog 60 [(.pointer (some ⟨g, 0, none⟩)), (.int .i64 a_n)].toArray w fun e w' => ∃ v, e = .returned v ∧ (VRep RInt w' M r.1 v ∧ Own w' g 111 #[.slice Ax a_xs.length cx, .int .i64 r.2]) ∧ BX (One g) w w' := by
 have hX : ∀ b, (One g) b → M b := fun b e => e ▸ hgM
 have hC : Cx (One g) w M w M := Cx.start hO hX
 clear _hG
 refine walk (N := 99) Tryd.func60 Z Tryd.ntmps60 Z (cw_seq (cw_region (lw_op Z Z Z (ow_assign Z Z (lw_nil (ew_then (cw_seq (cw_region (lw_op Z Z Z (ow_move Z Z (lw_op Z Z Z (ow_move Z Z (lw_op Z Z Z (ow_nilCheck Z Z (lw_op Z Z Z (ow_fieldAddr Z Z Tryd.underlying111 Z (Tryd.sizeOf3 _) (lw_op Z Z Z (ow_loadOwn1 Z Z Z hown (Tryd.isAgg3 _) Z (lw_op Z Z Z (ow_add Z Z Z (lw_op Z Z Z (ow_nilCheck Z Z (lw_op Z Z Z (ow_fieldAddr Z Z Tryd.underlying111 Z (Tryd.sizeOf3 _) (lw_op0 Z Z (ow_store (X := (One g)) (us := [(.int .i64 (W (a_pos + 1)))]) (cs' := #[(.slice Ax a_xs.length cx), (.int .i64 (W (a_pos + 1)))]) Z Z Z Z hown (Tryd.sizeOf3 _) Z Z Z Z hgM (.inr Z) Z hC fun w1 ho1 hb1 hl1 hC1 => lw_nil (ew_then (cw_seq (cw_seq (cw_region (lw_op Z Z Z (ow_move Z Z (lw_op Z Z Z (ow_lss Z Z Z fun bb1 hbb1 => lw_op Z Z Z (ow_move Z Z ?_)))))))))))))))))))))))))))))))))))
 replace h := cond_some h
 rcases h with ⟨hc1, h⟩ | ⟨hc1, h⟩
 ·
  obtain rfl := hbb1.trans hc1
  refine lw_off Z Z Z Z Z Z (lw_off Z Z Z Z Z Z (lw_off Z Z Z Z Z Z (lw_off Z Z Z Z Z Z (lw_off Z Z Z Z Z Z (lw_off Z Z Z Z Z Z (lw_op Z Z Z (ow_pickT Z Z Z (lw_nil (ew_then (cw_true Z (cw_seq (cw_region (lw_op Z Z Z (ow_assign Z Z (lw_nil (ew_then (cw_ret (ew_thenR ?_))))))))))))))))))
  obtain rfl := Option.some.inj h
  exact ew_ret (res1 Z (.tmp Z)) ⟨_, Z, ⟨((vint _)), ho1⟩, hC1.bx⟩
 ·
  obtain rfl := hbb1.trans hc1
  refine lw_on Z Z Z Z Z Z (ow_move Z Z (lw_on Z Z Z Z Z Z (ow_nilCheck Z Z (lw_on Z Z Z Z Z Z (ow_fieldAddr Z Z Tryd.underlying111 Z (Tryd.sizeOf22 _) (lw_on Z Z Z Z Z Z (ow_loadOwn1 Z Z Z ho1 (Tryd.isAgg22 _) Z (lw_on Z Z Z Z Z Z (ow_len Z Z (VRep.mono hl1 hxs) Tryd.underlying22 Z (lw_on Z Z Z Z Z Z (ow_eqlI Z Z Z fun bb2 hbb2 => lw_op Z Z Z (ow_pickF Z Z Z (lw_nil (ew_then ?_))))))))))))))
  replace h := cond_some h
  rcases h with ⟨hc2, h⟩ | ⟨hc2, h⟩
  ·
   obtain rfl := hbb2.trans hc2
   refine cw_true Z (cw_seq (cw_region (lw_op Z Z Z (ow_assign Z Z (lw_nil (ew_then (cw_ret (ew_thenR ?_))))))))
   obtain rfl := Option.some.inj h
   exact ew_ret (res1 Z (.tmp Z)) ⟨_, Z, ⟨((vint _)), ho1⟩, hC1.bx⟩
  ·
   obtain rfl := hbb2.trans hc2
   refine cw_false Z (cw_skip (ew_then (cw_seq (cw_region (lw_op Z Z Z (ow_move Z Z (lw_op Z Z Z (ow_nilCheck Z Z (lw_op Z Z Z (ow_fieldAddr Z Z Tryd.underlying111 Z (Tryd.sizeOf3 _) (lw_op Z Z Z (ow_loadOwn1 Z Z Z ho1 (Tryd.isAgg3 _) Z (lw_op Z Z Z (ow_sub Z Z Z (lw_op Z Z Z (ow_assign Z Z (lw_nil (ew_then (cw_seq (cw_seq (cw_region (lw_op Z Z Z (ow_move Z Z (lw_op Z Z Z (ow_move Z Z (lw_op Z Z Z (ow_nilCheck Z Z (lw_op Z Z Z (ow_fieldAddr Z Z Tryd.underlying111 Z (Tryd.sizeOf22 _) (lw_op Z Z Z (ow_loadOwn1 Z Z Z ho1 (Tryd.isAgg22 _) Z (lw_op Z Z Z (ow_len Z Z (VRep.mono hl1 hxs) Tryd.underlying22 Z (lw_op Z Z Z (ow_lss Z Z Z fun bb3 hbb3 => lw_nil (ew_then ?_))))))))))))))))))))))))))))))))))))
   replace h := cond_some h
   rcases h with ⟨hc3, h⟩ | ⟨hc3, h⟩
   ·
    obtain rfl := hbb3.trans hc3
    refine cw_true Z (cw_seq (cw_region (lw_op Z Z Z (ow_move Z Z (lw_op Z Z Z (ow_nilCheck Z Z (lw_op Z Z Z (ow_fieldAddr Z Z Tryd.underlying111 Z (Tryd.sizeOf22 _) (lw_op Z Z Z (ow_loadOwn1 Z Z Z ho1 (Tryd.isAgg22 _) Z (lw_op Z Z Z (ow_move Z Z ?_))))))))))))
    replace h := bind_some h
    obtain ⟨x1, hx1, h⟩ := h
    refine lw_op Z Z Z (ow_indexSlice (R := RU8) Z Z Z (VRep.mono hl1 hxs) Tryd.underlying22 (Tryd.sizeOf5 _) hx1 fun p1 hp1 => lw_op Z Z Z (ow_load (R := RU8) Z Z hp1 (Tryd.sizeOf5 _) (Tryd.isAgg5 _) fun v1 hv1 => ?_))
    obtain rfl := vu8_eq hv1
    refine lw_op Z Z Z (ow_u8int Z Z (by kernel_rfl) (lw_op Z Z Z (ow_move Z Z ?_)))
    replace h := bind_some h
    obtain ⟨u1, hu1, h⟩ := h
    refine lw_op Z Z Z (ow_rem Z Z Z (nzF_some hu1) (lw_op Z Z Z (ow_assign Z Z (lw_nil (ew_then (cw_ret (ew_thenR ?_)))))))
    obtain rfl := Option.some.inj h
    exact ew_ret (res1 Z (.tmp Z)) ⟨_, Z, ⟨((vint _)), ho1⟩, hC1.bx⟩
   ·
    obtain rfl := hbb3.trans hc3
    refine cw_false Z (cw_skip (ew_then (cw_seq ?_)))
    replace h := bind_some h
    obtain ⟨u2, hu2, h⟩ := h
    replace h := bind_some h
    obtain ⟨x2, hx2, h⟩ := h
    replace h := bind_some h
    obtain ⟨x3, hx3, h⟩ := h
    refine cw_sub (E' := [(0, (.pointer (some ⟨g, 0, none⟩))), (1, (.int .i64 a_n)), (4, (.int .i64 0)), (5, (.int .i64 (W ((W (a_pos + 1)) - 1))))]) ⟨Z, Z, Z, Z, trivial⟩ (cw_drawQ 44 [PEq (.pointer (some ⟨g, 0, none⟩)), PEq (.pointer (some ⟨g, 0, none⟩)), PEq (.pointer (some ⟨g, 0, none⟩)), PV (RSlice RU8) M a_xs, PEq (.int .i64 (W ((W (a_pos + 1)) - 1))), PEq (.pointer (some ⟨g, 0, none⟩)), PEq (.pointer (some ⟨g, 0, none⟩)), PEq (.pointer (some ⟨g, 0, none⟩)), PV (RSlice RU8) M a_xs, PEq (.int .i64 (a_xs.length : Int)), PEq (.int .i64 (((W ((W (a_pos + 1)) - 1))).tmod (a_xs.length : Int))), PA RU8 M x2, PEq (.int .u8 x2), PEq (.int .i64 (W x2)), PEq (.int .i64 (W ((W x2) * 131))), PEq (.pointer (some ⟨g, 0, none⟩)), PEq (.pointer (some ⟨g, 0, none⟩)), PEq (.pointer (some ⟨g, 0, none⟩)), PV (RSlice RU8) M a_xs, PEq (.int .i64 (W ((W (a_pos + 1)) - 1))), PEq (.int .i64 (W ((W ((W (a_pos + 1)) - 1)) * 7))), PEq (.int .i64 (W ((W ((W ((W (a_pos + 1)) - 1)) * 7)) + 3))), PEq (.pointer (some ⟨g, 0, none⟩)), PEq (.pointer (some ⟨g, 0, none⟩)), PEq (.pointer (some ⟨g, 0, none⟩)), PV (RSlice RU8) M a_xs, PEq (.int .i64 (a_xs.length : Int)), PEq (.int .i64 (((W ((W ((W ((W (a_pos + 1)) - 1)) * 7)) + 3))).tmod (a_xs.length : Int))), PA RU8 M x3, PEq (.int .u8 x3), PEq (.int .i64 (W x3)), PEq (.int .i64 (W ((W x3) * 1117))), PEq (.int .i64 (W ((W ((W x2) * 131)) + (W ((W x3) * 1117))))), PEq (.int .i64 (W ((W (a_pos + 1)) - 1))), PEq (.int .i64 (W ((W ((W (a_pos + 1)) - 1)) * 29))), PEq (.int .i64 (W ((W ((W ((W x2) * 131)) + (W ((W x3) * 1117)))) + (W ((W ((W (a_pos + 1)) - 1)) * 29))))), PEq (.int .i64 (W ((W (a_pos + 1)) - 1))), PEq (.pointer (some ⟨g, 0, none⟩)), PEq (.pointer (some ⟨g, 0, none⟩)), PEq (.pointer (some ⟨g, 0, none⟩)), PV (RSlice RU8) M a_xs, PEq (.int .i64 (a_xs.length : Int)), PEq (.int .i64 (W (((W ((W (a_pos + 1)) - 1))).tdiv (a_xs.length : Int)))), PEq (.int .i64 (W ((W (((W ((W (a_pos + 1)) - 1))).tdiv (a_xs.length : Int))) * 53)))] (by kernel_rfl) Z (by kernel_rfl) ⟨PEq.mono _, PEq.mono _, PEq.mono _, PV.mono _ _ _, PEq.mono _, PEq.mono _, PEq.mono _, PEq.mono _, PV.mono _ _ _, PEq.mono _, PEq.mono _, PA.mono _ _ _, PEq.mono _, PEq.mono _, PEq.mono _, PEq.mono _, PEq.mono _, PEq.mono _, PV.mono _ _ _, PEq.mono _, PEq.mono _, PEq.mono _, PEq.mono _, PEq.mono _, PEq.mono _, PV.mono _ _ _, PEq.mono _, PEq.mono _, PA.mono _ _ _, PEq.mono _, PEq.mono _, PEq.mono _, PEq.mono _, PEq.mono _, PEq.mono _, PEq.mono _, PEq.mono _, PEq.mono _, PEq.mono _, PEq.mono _, PV.mono _ _ _, PEq.mono _, PEq.mono _, PEq.mono _, trivial⟩ ⟨?_, ?_, ?_, ?_, ?_, ?_, ?_, ?_, ?_, ?_, ?_, ?_, ?_, ?_, ?_, ?_, ?_, ?_, ?_, ?_, ?_, ?_, ?_, ?_, ?_, ?_, ?_, ?_, ?_, ?_, ?_, ?_, ?_, ?_, ?_, ?_, ?_, ?_, ?_, ?_, ?_, ?_, ?_, ?_, trivial⟩ ?_)
    ·
     intro w2 D hS1 hd1
     exact dg_sub (E' := [(0, (.pointer (some ⟨g, 0, none⟩)))]) ⟨Z, trivial⟩ (dg_plain Z (ow_move Z Z ⟨BX.refl _ _, Z⟩))
    ·
     intro w3 D hS2 hd2
     exact dg_sub (E' := [(47, (.pointer (some ⟨g, 0, none⟩)))]) ⟨(dpE hd2 0 Z Z), trivial⟩ (dg_plain Z (ow_nilCheck Z Z ⟨BX.refl _ _, Z⟩))
    ·
     intro w4 D hS3 hd3
     exact dg_sub (E' := [(48, (.pointer (some ⟨g, 0, none⟩)))]) ⟨(dpE hd3 1 Z Z), trivial⟩ (dg_plain Z (ow_fieldAddr Z Z Tryd.underlying111 Z (Tryd.sizeOf22 _) ⟨BX.refl _ _, Z⟩))
    ·
     intro w5 D hS4 hd4
     have hl5 := Le.no M hS4
     have ho5 := ho1.no hS4
     exact dg_sub (E' := [(49, (.pointer (some ⟨g, 0, none⟩)))]) ⟨(dpE hd4 2 Z Z), trivial⟩ (dg_plain Z (ow_loadOwn1 Z Z Z ho5 (Tryd.isAgg22 _) Z ⟨BX.refl _ _, (VRep.mono (hl1.trans hl5) hxs)⟩))
    ·
     intro w6 D hS5 hd5
     exact dg_sub (E' := [(5, (.int .i64 (W ((W (a_pos + 1)) - 1))))]) ⟨Z, trivial⟩ (dg_plain Z (ow_move Z Z ⟨BX.refl _ _, Z⟩))
    ·
     intro w7 D hS6 hd6
     exact dg_sub (E' := [(0, (.pointer (some ⟨g, 0, none⟩)))]) ⟨Z, trivial⟩ (dg_plain Z (ow_move Z Z ⟨BX.refl _ _, Z⟩))
    ·
     intro w8 D hS7 hd7
     exact dg_sub (E' := [(52, (.pointer (some ⟨g, 0, none⟩)))]) ⟨(dpE hd7 5 Z Z), trivial⟩ (dg_plain Z (ow_nilCheck Z Z ⟨BX.refl _ _, Z⟩))
    ·
     intro w9 D hS8 hd8
     exact dg_sub (E' := [(53, (.pointer (some ⟨g, 0, none⟩)))]) ⟨(dpE hd8 6 Z Z), trivial⟩ (dg_plain Z (ow_fieldAddr Z Z Tryd.underlying111 Z (Tryd.sizeOf22 _) ⟨BX.refl _ _, Z⟩))
    ·
     intro w10 D hS9 hd9
     have hl10 := Le.no M hS9
     have ho10 := ho1.no hS9
     exact dg_sub (E' := [(54, (.pointer (some ⟨g, 0, none⟩)))]) ⟨(dpE hd9 7 Z Z), trivial⟩ (dg_plain Z (ow_loadOwn1 Z Z Z ho10 (Tryd.isAgg22 _) Z ⟨BX.refl _ _, (VRep.mono (hl1.trans hl10) hxs)⟩))
    ·
     intro w11 D hS10 hd10
     have d7 : PV (RSlice RU8) M a_xs (D 8) w11 := dpA hd10 8 Z
     generalize hq1 : (D 8) = v4 at d7
     exact dg_sub (E' := [(55, v4)]) ⟨(congrArg some hq1), trivial⟩ (dg_plain Z (ow_len Z Z d7 Tryd.underlying22 Z ⟨BX.refl _ _, Z⟩))
    ·
     intro w12 D hS11 hd11
     exact dg_sub (E' := [(51, (.int .i64 (W ((W (a_pos + 1)) - 1)))), (56, (.int .i64 (a_xs.length : Int)))]) ⟨(dpE hd11 4 Z Z), (dpE hd11 9 Z Z), trivial⟩ (dg_plain Z (ow_rem Z Z Z (nzF_some hu2) ⟨BX.refl _ _, Z⟩))
    ·
     intro w13 D hS12 hd12
     have d10 : PV (RSlice RU8) M a_xs (D 3) w13 := dpA hd12 3 Z
     generalize hq2 : (D 3) = v5 at d10
     exact dg_sub (E' := [(50, v5), (57, (.int .i64 (((W ((W (a_pos + 1)) - 1))).tmod (a_xs.length : Int))))]) ⟨(congrArg some hq2), (dpE hd12 10 Z Z), trivial⟩ (dg_plain Z (ow_indexSlice (R := RU8) Z Z Z d10 Tryd.underlying22 (Tryd.sizeOf5 _) hx2 fun p4 hp4 => ⟨BX.refl _ _, ⟨_, Z, hp4⟩⟩))
    ·
     intro w14 D hS13 hd13
     have d12 : PA RU8 M x2 (D 11) w14 := dpA hd13 11 Z
     obtain ⟨p5, e1, ha1⟩ := d12
     refine dg_sub (E' := [(58, (.pointer (some p5)))]) ⟨(congrArg some e1), trivial⟩ (dg_plain Z (ow_load (R := RU8) Z Z ha1 (Tryd.sizeOf5 _) (Tryd.isAgg5 _) fun v6 hv6 => ?_))
     obtain rfl := vu8_eq hv6
     exact ⟨BX.refl _ _, Z⟩
    ·
     intro w15 D hS14 hd14
     exact dg_sub (E' := [(59, (.int .u8 x2))]) ⟨(dpE hd14 12 Z Z), trivial⟩ (dg_plain Z (ow_u8int Z Z (by kernel_rfl) ⟨BX.refl _ _, Z⟩))
    ·
     intro w16 D hS15 hd15
     exact dg_sub (E' := [(60, (.int .i64 (W x2)))]) ⟨(dpE hd15 13 Z Z), trivial⟩ (dg_plain Z (ow_mul Z Z Z ⟨BX.refl _ _, Z⟩))
    ·
     intro w17 D hS16 hd16
     exact dg_sub (E' := [(0, (.pointer (some ⟨g, 0, none⟩)))]) ⟨Z, trivial⟩ (dg_plain Z (ow_move Z Z ⟨BX.refl _ _, Z⟩))
    ·
     intro w18 D hS17 hd17
     exact dg_sub (E' := [(62, (.pointer (some ⟨g, 0, none⟩)))]) ⟨(dpE hd17 15 Z Z), trivial⟩ (dg_plain Z (ow_nilCheck Z Z ⟨BX.refl _ _, Z⟩))
    ·
     intro w19 D hS18 hd18
     exact dg_sub (E' := [(63, (.pointer (some ⟨g, 0, none⟩)))]) ⟨(dpE hd18 16 Z Z), trivial⟩ (dg_plain Z (ow_fieldAddr Z Z Tryd.underlying111 Z (Tryd.sizeOf22 _) ⟨BX.refl _ _, Z⟩))
    ·
     intro w20 D hS19 hd19
     have hl20 := Le.no M hS19
     have ho20 := ho1.no hS19
     exact dg_sub (E' := [(64, (.pointer (some ⟨g, 0, none⟩)))]) ⟨(dpE hd19 17 Z Z), trivial⟩ (dg_plain Z (ow_loadOwn1 Z Z Z ho20 (Tryd.isAgg22 _) Z ⟨BX.refl _ _, (VRep.mono (hl1.trans hl20) hxs)⟩))
    ·
     intro w21 D hS20 hd20
     exact dg_sub (E' := [(5, (.int .i64 (W ((W (a_pos + 1)) - 1))))]) ⟨Z, trivial⟩ (dg_plain Z (ow_move Z Z ⟨BX.refl _ _, Z⟩))
    ·
     intro w22 D hS21 hd21
     exact dg_sub (E' := [(66, (.int .i64 (W ((W (a_pos + 1)) - 1))))]) ⟨(dpE hd21 19 Z Z), trivial⟩ (dg_plain Z (ow_mul Z Z Z ⟨BX.refl _ _, Z⟩))
    ·
     intro w23 D hS22 hd22
     exact dg_sub (E' := [(67, (.int .i64 (W ((W ((W (a_pos + 1)) - 1)) * 7))))]) ⟨(dpE hd22 20 Z Z), trivial⟩ (dg_plain Z (ow_add Z Z Z ⟨BX.refl _ _, Z⟩))
    ·
     intro w24 D hS23 hd23
     exact dg_sub (E' := [(0, (.pointer (some ⟨g, 0, none⟩)))]) ⟨Z, trivial⟩ (dg_plain Z (ow_move Z Z ⟨BX.refl _ _, Z⟩))
    ·
     intro w25 D hS24 hd24
     exact dg_sub (E' := [(69, (.pointer (some ⟨g, 0, none⟩)))]) ⟨(dpE hd24 22 Z Z), trivial⟩ (dg_plain Z (ow_nilCheck Z Z ⟨BX.refl _ _, Z⟩))
    ·
     intro w26 D hS25 hd25
     exact dg_sub (E' := [(70, (.pointer (some ⟨g, 0, none⟩)))]) ⟨(dpE hd25 23 Z Z), trivial⟩ (dg_plain Z (ow_fieldAddr Z Z Tryd.underlying111 Z (Tryd.sizeOf22 _) ⟨BX.refl _ _, Z⟩))
    ·
     intro w27 D hS26 hd26
     have hl27 := Le.no M hS26
     have ho27 := ho1.no hS26
     exact dg_sub (E' := [(71, (.pointer (some ⟨g, 0, none⟩)))]) ⟨(dpE hd26 24 Z Z), trivial⟩ (dg_plain Z (ow_loadOwn1 Z Z Z ho27 (Tryd.isAgg22 _) Z ⟨BX.refl _ _, (VRep.mono (hl1.trans hl27) hxs)⟩))
    ·
     intro w28 D hS27 hd27
     have d23 : PV (RSlice RU8) M a_xs (D 25) w28 := dpA hd27 25 Z
     generalize hq3 : (D 25) = v7 at d23
     exact dg_sub (E' := [(72, v7)]) ⟨(congrArg some hq3), trivial⟩ (dg_plain Z (ow_len Z Z d23 Tryd.underlying22 Z ⟨BX.refl _ _, Z⟩))
    ·
     intro w29 D hS28 hd28
     exact dg_sub (E' := [(68, (.int .i64 (W ((W ((W ((W (a_pos + 1)) - 1)) * 7)) + 3)))), (73, (.int .i64 (a_xs.length : Int)))]) ⟨(dpE hd28 21 Z Z), (dpE hd28 26 Z Z), trivial⟩ (dg_plain Z (ow_rem Z Z Z (nzF_some hu2) ⟨BX.refl _ _, Z⟩))
    ·
     intro w30 D hS29 hd29
     have d26 : PV (RSlice RU8) M a_xs (D 18) w30 := dpA hd29 18 Z
     generalize hq4 : (D 18) = v8 at d26
     exact dg_sub (E' := [(65, v8), (74, (.int .i64 (((W ((W ((W ((W (a_pos + 1)) - 1)) * 7)) + 3))).tmod (a_xs.length : Int))))]) ⟨(congrArg some hq4), (dpE hd29 27 Z Z), trivial⟩ (dg_plain Z (ow_indexSlice (R := RU8) Z Z Z d26 Tryd.underlying22 (Tryd.sizeOf5 _) hx3 fun p6 hp6 => ⟨BX.refl _ _, ⟨_, Z, hp6⟩⟩))
    ·
     intro w31 D hS30 hd30
     have d28 : PA RU8 M x3 (D 28) w31 := dpA hd30 28 Z
     obtain ⟨p7, e2, ha2⟩ := d28
     refine dg_sub (E' := [(75, (.pointer (some p7)))]) ⟨(congrArg some e2), trivial⟩ (dg_plain Z (ow_load (R := RU8) Z Z ha2 (Tryd.sizeOf5 _) (Tryd.isAgg5 _) fun v9 hv9 => ?_))
     obtain rfl := vu8_eq hv9
     exact ⟨BX.refl _ _, Z⟩
    ·
     intro w32 D hS31 hd31
     exact dg_sub (E' := [(76, (.int .u8 x3))]) ⟨(dpE hd31 29 Z Z), trivial⟩ (dg_plain Z (ow_u8int Z Z (by kernel_rfl) ⟨BX.refl _ _, Z⟩))
    ·
     intro w33 D hS32 hd32
     exact dg_sub (E' := [(77, (.int .i64 (W x3)))]) ⟨(dpE hd32 30 Z Z), trivial⟩ (dg_plain Z (ow_mul Z Z Z ⟨BX.refl _ _, Z⟩))
    ·
     intro w34 D hS33 hd33
     exact dg_sub (E' := [(61, (.int .i64 (W ((W x2) * 131)))), (78, (.int .i64 (W ((W x3) * 1117))))]) ⟨(dpE hd33 14 Z Z), (dpE hd33 31 Z Z), trivial⟩ (dg_plain Z (ow_add Z Z Z ⟨BX.refl _ _, Z⟩))
    ·
     intro w35 D hS34 hd34
     exact dg_sub (E' := [(5, (.int .i64 (W ((W (a_pos + 1)) - 1))))]) ⟨Z, trivial⟩ (dg_plain Z (ow_move Z Z ⟨BX.refl _ _, Z⟩))
    ·
     intro w36 D hS35 hd35
     exact dg_sub (E' := [(80, (.int .i64 (W ((W (a_pos + 1)) - 1))))]) ⟨(dpE hd35 33 Z Z), trivial⟩ (dg_plain Z (ow_mul Z Z Z ⟨BX.refl _ _, Z⟩))
    ·
     intro w37 D hS36 hd36
     exact dg_sub (E' := [(79, (.int .i64 (W ((W ((W x2) * 131)) + (W ((W x3) * 1117)))))), (81, (.int .i64 (W ((W ((W (a_pos + 1)) - 1)) * 29))))]) ⟨(dpE hd36 32 Z Z), (dpE hd36 34 Z Z), trivial⟩ (dg_plain Z (ow_add Z Z Z ⟨BX.refl _ _, Z⟩))
    ·
     intro w38 D hS37 hd37
     exact dg_sub (E' := [(5, (.int .i64 (W ((W (a_pos + 1)) - 1))))]) ⟨Z, trivial⟩ (dg_plain Z (ow_move Z Z ⟨BX.refl _ _, Z⟩))
    ·
     intro w39 D hS38 hd38
     exact dg_sub (E' := [(0, (.pointer (some ⟨g, 0, none⟩)))]) ⟨Z, trivial⟩ (dg_plain Z (ow_move Z Z ⟨BX.refl _ _, Z⟩))
    ·
     intro w40 D hS39 hd39
     exact dg_sub (E' := [(84, (.pointer (some ⟨g, 0, none⟩)))]) ⟨(dpE hd39 37 Z Z), trivial⟩ (dg_plain Z (ow_nilCheck Z Z ⟨BX.refl _ _, Z⟩))
    ·
     intro w41 D hS40 hd40
     exact dg_sub (E' := [(85, (.pointer (some ⟨g, 0, none⟩)))]) ⟨(dpE hd40 38 Z Z), trivial⟩ (dg_plain Z (ow_fieldAddr Z Z Tryd.underlying111 Z (Tryd.sizeOf22 _) ⟨BX.refl _ _, Z⟩))
    ·
     intro w42 D hS41 hd41
     have hl42 := Le.no M hS41
     have ho42 := ho1.no hS41
     exact dg_sub (E' := [(86, (.pointer (some ⟨g, 0, none⟩)))]) ⟨(dpE hd41 39 Z Z), trivial⟩ (dg_plain Z (ow_loadOwn1 Z Z Z ho42 (Tryd.isAgg22 _) Z ⟨BX.refl _ _, (VRep.mono (hl1.trans hl42) hxs)⟩))
    ·
     intro w43 D hS42 hd42
     have d39 : PV (RSlice RU8) M a_xs (D 40) w43 := dpA hd42 40 Z
     generalize hq5 : (D 40) = v10 at d39
     exact dg_sub (E' := [(87, v10)]) ⟨(congrArg some hq5), trivial⟩ (dg_plain Z (ow_len Z Z d39 Tryd.underlying22 Z ⟨BX.refl _ _, Z⟩))
    ·
     intro w44 D hS43 hd43
     exact dg_sub (E' := [(83, (.int .i64 (W ((W (a_pos + 1)) - 1)))), (88, (.int .i64 (a_xs.length : Int)))]) ⟨(dpE hd43 36 Z Z), (dpE hd43 41 Z Z), trivial⟩ (dg_plain Z (ow_quo Z Z Z (nzF_some hu2) ⟨BX.refl _ _, Z⟩))
    ·
     intro w45 D hS44 hd44
     exact dg_sub (E' := [(89, (.int .i64 (W (((W ((W (a_pos + 1)) - 1))).tdiv (a_xs.length : Int)))))]) ⟨(dpE hd44 42 Z Z), trivial⟩ (dg_plain Z (ow_mul Z Z Z ⟨BX.refl _ _, Z⟩))
    ·
     intro w46 D hS45 hd45
     have hC46 := hC1.no hS45
     have ho46 := ho1.no hS45
     refine lw_sub (E' := [(82, (.int .i64 (W ((W ((W ((W x2) * 131)) + (W ((W x3) * 1117)))) + (W ((W ((W (a_pos + 1)) - 1)) * 29)))))), (90, (.int .i64 (W ((W (((W ((W (a_pos + 1)) - 1))).tdiv (a_xs.length : Int))) * 53)))), (0, (.pointer (some ⟨g, 0, none⟩))), (1, (.int .i64 a_n)), (4, (.int .i64 0)), (5, (.int .i64 (W ((W (a_pos + 1)) - 1))))]) ⟨(dpE hd45 35 Z Z), (dpE hd45 43 Z Z), Z, Z, Z, Z, trivial⟩ (lw_op Z Z Z (ow_add Z Z Z (lw_op Z Z Z (ow_assign Z Z (lw_nil (ew_then (cw_seq (cw_region (lw_op Z Z Z (ow_move Z Z (lw_op Z Z Z (ow_move Z Z (lw_op Z Z Z (ow_quo Z Z Z (by decide) (lw_op Z Z Z (ow_xor Z Z Z (lw_op Z Z Z (ow_assign Z Z (lw_nil (ew_then (cw_seq (cw_region (lw_op Z Z Z (ow_move Z Z (lw_op Z Z Z (ow_move Z Z ?_))))))))))))))))))))))))))
     replace h := bind_some h
     obtain ⟨u3, hu3, h⟩ := h
     refine lw_op Z Z Z (ow_rem Z Z Z (nzF_some hu3) (lw_op Z Z Z (ow_assign Z Z (lw_nil (ew_then (cw_ret ?_))))))
     obtain rfl := Option.some.inj h
     exact ew_ret (res1 Z (.tmp Z)) ⟨_, Z, ⟨((vint _)), ho46⟩, hC46.bx⟩

theorem w_spec_l20Rd_odd {w : World} {M : Nat → Prop} (hG : ARep (RArr 4 RShape) w M shapes ⟨0, 0, none⟩) (hO : ∀ b, M b → b < w.heap.size) {g : Nat} {Ax : Option Addr} {cx : Nat} {a_xs : List Int} {a_pos : Int} (hxs : VRep (RSlice RU8) w M a_xs (.slice Ax a_xs.length cx)) (hown : Own w g 111 #[.slice Ax a_xs.length cx, .int .i64 a_pos]) (hgM : M g) {a_n : Int} {r : Bool × Int} (h : F.spec_l20Rd_odd a_xs a_pos a_n = some r) :
  Calls Tryd.prog 81 [(.pointer (some ⟨g, 0, none⟩)), (.int .i64 a_n)].toArray w fun e w' => ∃ v, e = .returned v ∧ (VRep RBool w' M r.1 v ∧ Own w' g 111 #[.slice Ax a_xs.length cx, .int .i64 r.2]) ∧ BX (One g) w w' := by
 have hX : ∀ b, (One g) b → M b := fun b e => e ▸ hgM
 have hC : Cx (One g) w M w M := Cx.start hO hX
 refine walk (N := 15) Tryd.func81 Z Tryd.ntmps81 Z (cw_seq (cw_region (lw_op Z Z Z (ow_assign Z Z (lw_nil (ew_then (cw_seq (cw_region (lw_op Z Z Z (ow_move Z Z (lw_op Z Z Z (ow_gtr Z Z Z fun bb1 hbb1 => lw_op Z Z Z (ow_move Z Z ?_)))))))))))))
 replace h := cond_some h
 rcases h with ⟨hc1, h⟩ | ⟨hc1, h⟩
 ·
  obtain rfl := hbb1.trans hc1
  refine lw_on Z Z Z Z Z Z (ow_move Z Z (lw_on Z Z Z Z Z Z (ow_move Z Z ?_)))
  replace h := bind_some h
  obtain ⟨x1, hx1, h⟩ := h
  refine lw_on Z Z Z Z Z Z (ow_call Z Z Tryd.call60 (w_spec_l20Rd_pick hG hC.old hxs hown hgM hx1) fun v1 w1 hv1 => ?_)
  obtain ⟨⟨hv1, ho1⟩, hb1⟩ := hv1
  have hC1 := hC.go hb1 (fun b e => Or.inr e)
  obtain rfl := vint_eq hv1
  refine lw_on Z Z Z Z Z Z (ow_move Z Z (lw_on Z Z Z Z Z Z (ow_sub Z Z Z (lw_on Z Z Z Z Z Z (ow_eqlI Z Z Z fun bb2 hbb2 => lw_op Z Z Z (ow_pickT Z Z Z (lw_op Z Z Z (ow_assign Z Z (lw_nil (ew_then (cw_ret ?_)))))))))))
  obtain rfl := Option.some.inj h
  exact ew_ret (res1 Z (.tmp Z)) ⟨_, Z, ⟨((vbool_of hbb2)), ho1⟩, hC1.bx⟩
 ·
  obtain rfl := hbb1.trans hc1
  refine lw_off Z Z Z Z Z Z (lw_off Z Z Z Z Z Z (lw_off Z Z Z Z Z Z (lw_off Z Z Z Z Z Z (lw_off Z Z Z Z Z Z (lw_off Z Z Z Z Z Z (lw_op Z Z Z (ow_pickF Z Z Z (lw_op Z Z Z (ow_assign Z Z (lw_nil (ew_then (cw_ret ?_))))))))))))
  obtain rfl := Option.some.inj h
  exact ew_ret (res1 Z (.tmp Z)) ⟨_, Z, ⟨((vbool _)), hown⟩, hC.bx⟩

theorem w_spec_l20Span {w : World} {M : Nat → Prop} (hG : ARep (RArr 4 RShape) w M shapes ⟨0, 0, none⟩) (hO : ∀ b, M b → b < w.heap.size) {g : Nat} {Ax : Option Addr} {cx : Nat} {a_xs : List Int} {a_pos : Int} (hxs : VRep (RSlice RU8) w M a_xs (.slice Ax a_xs.length cx)) (hown : Own w g 111 #[.slice Ax a_xs.length cx, .int .i64 a_pos]) (hgM : M g) {a_top : Int} {a_n : Int} {r : Span × Int} (h : F.spec_l20Span a_xs a_pos a_top a_n = some r) :
  Calls Tryd.prog 105 [(.pointer (some ⟨g, 0, none⟩)), (.int .i64 a_top), (.int .i64 a_n)].toArray w fun e w' => ∃ v, e = .returned v ∧ (VRep RSpan w' M r.1 v ∧ Own w' g 111 #[.slice Ax a_xs.length cx, .int .i64 r.2]) ∧ BX (One g) w w' := by
 have hX : ∀ b, (One g) b → M b := fun b e => e ▸ hgM
 have hC : Cx (One g) w M w M := Cx.start hO hX
 refine walk (N := 68) Tryd.func105 Z Tryd.ntmps105 Z (cw_seq (cw_region (lw_op Z Z Z (ow_alloc Z (Tryd.zeroValue79 _) hC fun g1 w1 hg1 hg2 ho1 hb1 hl1 hC1 => ?_))))
 have hn1 := Nat.ne_of_lt (Nat.lt_of_lt_of_le hown.lt hg1)
 have ho2 := hown.no hb1
 have hm1 : (Add g1 M) g := .inr hgM
 have hm2 : (Add g1 M) g1 := .inl Z
 refine lw_nil (ew_then (cw_seq (cw_region (lw_op Z Z Z (ow_move Z Z (lw_op Z Z Z (ow_move Z Z (lw_op Z Z Z (ow_add Z Z Z (lw_op Z Z Z (ow_min Z Z Z ?_)))))))))))
 replace h := bind_some h
 obtain ⟨x1, hx1, h⟩ := h
 refine lw_op Z Z Z (ow_call Z Z Tryd.call60 (w_spec_l20Rd_pick (hG.mono hl1) hC1.old (VRep.mono hl1 hxs) ho2 hm1 hx1) fun v1 w2 hv1 => ?_)
 obtain ⟨⟨hv1, ho3⟩, hb2⟩ := hv1
 have hl2 := Le.of_bx (Add g1 M) hb2 (fun b e => (by rw [show b = g from e]; exact hm1))
 have hC2 := hC1.go hb2 (fun b e => Or.inr e)
 have ho4 := ho1.go hb2 (fun e => hn1 e.symm)
 obtain rfl := vint_eq hv1
 refine lw_op Z Z Z (ow_build (v := .agg #[(.int .i64 x1.1), (.int .i64 0)]) Z Z (by kernel_rfl) (lw_op Z Z Z (ow_alloc Z (Tryd.zeroValue79 _) hC2 fun g2 w3 hg3 hg4 ho5 hb3 hl3 hC3 => ?_)))
 have hn2 := Nat.ne_of_lt (Nat.lt_of_lt_of_le ho3.lt hg3)
 have ho6 := ho3.no hb3
 have hm3 : (Add g2 (Add g1 M)) g := .inr hm1
 have hn3 := Nat.ne_of_lt (Nat.lt_of_lt_of_le ho4.lt hg3)
 have ho7 := ho4.no hb3
 have hm4 : (Add g2 (Add g1 M)) g1 := .inr hm2
 have hm5 : (Add g2 (Add g1 M)) g2 := .inl Z
 refine lw_op0 Z Z (ow_store (X := (One g)) (us := [(.int .i64 x1.1), (.int .i64 0)]) (cs' := #[(.int .i64 x1.1), (.int .i64 0)]) Z Z Z Z ho5 (Tryd.sizeOf79 _) Z Z Z Z hm5 (.inl hg4) Z hC3 fun w4 ho8 hb4 hl4 hC4 => ?_)
 have ho9 := ho6.go hb4 (fun e => hn2 e)
 have ho10 := ho7.go hb4 (fun e => hn3 e)
 refine lw_nil (ew_then (cw_seq (cw_seq (cw_region (lw_op Z Z Z (ow_move Z Z (lw_op Z Z Z (ow_gtr Z Z Z fun bb1 hbb1 => lw_op Z Z Z (ow_move Z Z ?_)))))))))
 replace h := cond_some h
 rcases h with ⟨hc1, h⟩ | ⟨hc1, h⟩
 ·
  obtain rfl := hbb1.trans hc1
  refine lw_on Z Z Z Z Z Z (ow_move Z Z ?_)
  have lz1 := (((hl1.trans hl2).trans hl3).trans hl4)
  replace h := bind_some h
  obtain ⟨x2, hx2, h⟩ := h
  refine lw_on Z Z Z Z Z Z (ow_call Z Z Tryd.call60 (w_spec_l20Rd_pick (hG.mono lz1) hC4.old (VRep.mono lz1 hxs) ho9 hm3 hx2) fun v2 w5 hv2 => ?_)
  obtain ⟨⟨hv2, ho11⟩, hb5⟩ := hv2
  have hl5 := Le.of_bx (Add g2 (Add g1 M)) hb5 (fun b e => (by rw [show b = g from e]; exact hm3))
  have hC5 := hC4.go hb5 (fun b e => Or.inr e)
  have ho12 := ho10.go hb5 (fun e => hn1 e.symm)
  have ho13 := ho8.go hb5 (fun e => hn2 e.symm)
  obtain rfl := vint_eq hv2
  refine lw_on Z Z Z Z Z Z (ow_eqlI Z Z Z fun bb2 hbb2 => lw_op Z Z Z (ow_pickT Z Z Z (lw_nil (ew_then ?_))))
  replace h := cond_some h
  rcases h with ⟨hc2, h⟩ | ⟨hc2, h⟩
  ·
   obtain rfl := hbb2.trans hc2
   refine cw_true Z ?_
   replace h := bind_some h
   obtain ⟨x3, hx3, h⟩ := h
   have lz2 := (lz1.trans hl5)
   refine cw_sub (E' := [(0, (.pointer (some ⟨g, 0, none⟩))), (1, (.int .i64 a_top)), (2, (.int .i64 a_n)), (6, (.pointer (some ⟨g1, 0, none⟩))), (7, (.pointer (some ⟨g2, 0, none⟩)))]) ⟨Z, Z, Z, Z, Z, trivial⟩ (cw_drawC (g := g) (T := 111) 7 1 [none, none, none, none, none, some 0, none] [#[(.slice Ax a_xs.length cx), (.int .i64 x2.2)], #[(.slice Ax a_xs.length cx), (.int .i64 x3.2)]] [PEq (.int .i64 a_top), PEq (.pointer (some ⟨g2, 0, none⟩)), PEq (.int .i64 x1.1), PEq (.int .i64 (W (x1.1 * 256))), PEq (.pointer (some ⟨g, 0, none⟩)), PEq (.int .i64 x3.1), PEq (.int .i64 (W ((W (x1.1 * 256)) + x3.1)))] (by kernel_rfl) Z (by kernel_rfl) (by kernel_rfl) ho11 ⟨(PEq.monoY hm3 _), (PEq.monoY hm3 _), (PEq.monoY hm3 _), (PEq.monoY hm3 _), (PEq.monoY hm3 _), (PEq.monoY hm3 _), (PEq.monoY hm3 _), trivial⟩ ⟨?_, ?_, ?_, ?_, ?_, ?_, ?_, trivial⟩ ?_)
   ·
    intro w7 D hS1 hd1
    exact dg_sub (E' := [(1, (.int .i64 a_top))]) ⟨Z, trivial⟩ (dg_plain Z (ow_move Z Z ⟨BX.refl _ _, Z⟩))
   ·
    intro w8 D hS2 hd2
    exact dg_sub (E' := [(7, (.pointer (some ⟨g2, 0, none⟩)))]) ⟨Z, trivial⟩ (dg_plain Z (ow_fieldAddr Z Z Tryd.underlying79 Z (Tryd.sizeOf3 _) ⟨BX.refl _ _, Z⟩))
   ·
    intro w9 D hS3 hd3
    have ho22 := ho13.go hS3 (fun e => hn2 e.symm)
    exact dg_sub (E' := [(22, (.pointer (some ⟨g2, 0, none⟩)))]) ⟨(dpE hd3 1 Z Z), trivial⟩ (dg_plain Z (ow_loadOwn1 Z Z Z ho22 (Tryd.isAgg3 _) Z ⟨BX.refl _ _, Z⟩))
   ·
    intro w10 D hS4 hd4
    exact dg_sub (E' := [(23, (.int .i64 x1.1))]) ⟨(dpE hd4 2 Z Z), trivial⟩ (dg_plain Z (ow_mul Z Z Z ⟨BX.refl _ _, Z⟩))
   ·
    intro w11 D hS5 hd5
    exact dg_sub (E' := [(0, (.pointer (some ⟨g, 0, none⟩)))]) ⟨Z, trivial⟩ (dg_plain Z (ow_move Z Z ⟨BX.refl _ _, Z⟩))
   ·
    intro w12 D hS6 hd6
    obtain ⟨hS6, ho27⟩ := hS6
    have ho27 : Own w12 g 111 #[(.slice Ax a_xs.length cx), (.int .i64 x2.2)] := ho27
    have hl12 := leY hm3 hS6
    have hC12 := hC5.go hS6 (fun b e => Or.inr e)
    refine dg_sub (E' := [(25, (.pointer (some ⟨g, 0, none⟩)))]) ⟨(dpE hd6 4 Z Z), trivial⟩ (dg_plain Z (ow_call Z Z Tryd.call60 (w_spec_l20Rd_pick (hG.mono (lz2.trans hl12)) hC12.old (VRep.mono (lz2.trans hl12) hxs) ho27 hm3 hx3) fun v4 w13 hv4 => ?_))
    obtain ⟨⟨hv4, ho30⟩, hb7⟩ := hv4
    obtain rfl := vint_eq hv4
    exact ⟨⟨⟨hS6.trans hb7, ho30⟩, hb7⟩, Z⟩
   ·
    intro w14 D hS7 hd7
    exact dg_sub (E' := [(24, (.int .i64 (W (x1.1 * 256)))), (26, (.int .i64 x3.1))]) ⟨(dpE hd7 3 Z Z), (dpE hd7 5 Z Z), trivial⟩ (dg_plain Z (ow_add Z Z Z ⟨BX.refl _ _, Z⟩))
   ·
    intro w15 D hS8 hd8
    obtain ⟨hS8, ho35⟩ := hS8
    have ho35 : Own w15 g 111 #[(.slice Ax a_xs.length cx), (.int .i64 x3.2)] := ho35
    have hl15 := leY hm3 hS8
    have hC15 := hC5.go hS8 (fun b e => Or.inr e)
    have ho36 := ho12.go hS8 (fun e => hn1 e.symm)
    have ho37 := ho13.go hS8 (fun e => hn2 e.symm)
    refine lw_sub (E' := [(21, (.int .i64 a_top)), (27, (.int .i64 (W ((W (x1.1 * 256)) + x3.1)))), (0, (.pointer (some ⟨g, 0, none⟩))), (1, (.int .i64 a_top)), (2, (.int .i64 a_n)), (6, (.pointer (some ⟨g1, 0, none⟩))), (7, (.pointer (some ⟨g2, 0, none⟩)))]) ⟨(dpE hd8 0 Z Z), (dpE hd8 6 Z Z), Z, Z, Z, Z, Z, trivial⟩ (lw_op Z Z Z (ow_min Z Z Z (lw_op Z Z Z (ow_fieldAddr Z Z Tryd.underlying79 Z (Tryd.sizeOf3 _) (lw_op0 Z Z (ow_store (X := (One g)) (us := [(.int .i64 (imin a_top (W ((W (x1.1 * 256)) + x3.1))))]) (cs' := #[(.int .i64 (imin a_top (W ((W (x1.1 * 256)) + x3.1)))), (.int .i64 0)]) Z Z Z Z ho37 (Tryd.sizeOf3 _) Z Z Z Z hm5 (.inl hg4) Z hC15 fun w16 ho38 hb8 hl16 hC16 => ?_))))))
    have ho39 := ho35.go hb8 (fun e => hn2 e)
    have ho40 := ho36.go hb8 (fun e => hn3 e)
    refine lw_nil (ew_then (cw_seq ?_))
    replace h := bind_some h
    obtain ⟨x4, hx4, h⟩ := h
    replace h := bind_some h
    obtain ⟨x5, hx5, h⟩ := h
    replace h := bind_some h
    obtain ⟨x6, hx6, h⟩ := h
    replace h := bind_some h
    obtain ⟨x7, hx7, h⟩ := h
    have lz4 := ((lz2.trans hl15).trans hl16)
    refine cw_sub (E' := [(0, (.pointer (some ⟨g, 0, none⟩))), (1, (.int .i64 a_top)), (2, (.int .i64 a_n)), (6, (.pointer (some ⟨g1, 0, none⟩))), (7, (.pointer (some ⟨g2, 0, none⟩)))]) ⟨Z, Z, Z, Z, Z, trivial⟩ (cw_drawC (g := g) (T := 111) 13 3 [none, none, none, none, some 0, none, some 1, none, none, some 2, none, none, none] [#[(.slice Ax a_xs.length cx), (.int .i64 x3.2)], #[(.slice Ax a_xs.length cx), (.int .i64 x4.2)], #[(.slice Ax a_xs.length cx), (.int .i64 x5.2)], #[(.slice Ax a_xs.length cx), (.int .i64 x6.2)]] [PEq (.int .i64 a_top), PEq (.pointer (some ⟨g2, 0, none⟩)), PEq (.int .i64 (imin a_top (W ((W (x1.1 * 256)) + x3.1)))), PEq (.pointer (some ⟨g, 0, none⟩)), PEq (.int .i64 x4.1), PEq (.pointer (some ⟨g, 0, none⟩)), PEq (.int .i64 x5.1), PV (RSlice RInt) (Add g2 (Add g1 M)) [0, x4.1, x5.1, 4096], PEq (.pointer (some ⟨g, 0, none⟩)), PEq (.int .i64 x6.1), PA RInt (Add g2 (Add g1 M)) x7, PEq (.int .i64 x7), PEq (.int .i64 (W ((imin a_top (W ((W (x1.1 * 256)) + x3.1))) + x7)))] (by kernel_rfl) Z (by kernel_rfl) (by kernel_rfl) ho39 ⟨(PEq.monoY hm3 _), (PEq.monoY hm3 _), (PEq.monoY hm3 _), (PEq.monoY hm3 _), (PEq.monoY hm3 _), (PEq.monoY hm3 _), (PEq.monoY hm3 _), (PV.monoY hm3 _ _), (PEq.monoY hm3 _), (PEq.monoY hm3 _), (PA.monoY hm3 _ _), (PEq.monoY hm3 _), (PEq.monoY hm3 _), trivial⟩ ⟨?_, ?_, ?_, ?_, ?_, ?_, ?_, ?_, ?_, ?_, ?_, ?_, ?_, trivial⟩ ?_)
    ·
     intro w21 D hS9 hd9
     exact dg_sub (E' := [(1, (.int .i64 a_top))]) ⟨Z, trivial⟩ (dg_plain Z (ow_move Z Z ⟨BX.refl _ _, Z⟩))
    ·
     intro w22 D hS10 hd10
     exact dg_sub (E' := [(7, (.pointer (some ⟨g2, 0, none⟩)))]) ⟨Z, trivial⟩ (dg_plain Z (ow_fieldAddr Z Z Tryd.underlying79 Z (Tryd.sizeOf3 _) ⟨BX.refl _ _, Z⟩))
    ·
     intro w23 D hS11 hd11
     have ho58 := ho38.go hS11 (fun e => hn2 e.symm)
     exact dg_sub (E' := [(31, (.pointer (some ⟨g2, 0, none⟩)))]) ⟨(dpE hd11 1 Z Z), trivial⟩ (dg_plain Z (ow_loadOwn1 Z Z Z ho58 (Tryd.isAgg3 _) Z ⟨BX.refl _ _, Z⟩))
    ·
     intro w24 D hS12 hd12
     exact dg_sub (E' := [(0, (.pointer (some ⟨g, 0, none⟩)))]) ⟨Z, trivial⟩ (dg_plain Z (ow_move Z Z ⟨BX.refl _ _, Z⟩))
    ·
     intro w25 D hS13 hd13
     obtain ⟨hS13, ho61⟩ := hS13
     have ho61 : Own w25 g 111 #[(.slice Ax a_xs.length cx), (.int .i64 x3.2)] := ho61
     have hl25 := leY hm3 hS13
     have hC25 := hC16.go hS13 (fun b e => Or.inr e)
     refine dg_sub (E' := [(33, (.pointer (some ⟨g, 0, none⟩)))]) ⟨(dpE hd13 3 Z Z), trivial⟩ (dg_plain Z (ow_call Z Z Tryd.call60 (w_spec_l20Rd_pick (hG.mono (lz4.trans hl25)) hC25.old (VRep.mono (lz4.trans hl25) hxs) ho61 hm3 hx4) fun v9 w26 hv9 => ?_))
     obtain ⟨⟨hv9, ho64⟩, hb13⟩ := hv9
     obtain rfl := vint_eq hv9
     exact ⟨⟨⟨hS13.trans hb13, ho64⟩, hb13⟩, Z⟩
    ·
     intro w27 D hS14 hd14
     exact dg_sub (E' := [(0, (.pointer (some ⟨g, 0, none⟩)))]) ⟨Z, trivial⟩ (dg_plain Z (ow_move Z Z ⟨BX.refl _ _, Z⟩))
    ·
     intro w28 D hS15 hd15
     obtain ⟨hS15, ho69⟩ := hS15
     have ho69 : Own w28 g 111 #[(.slice Ax a_xs.length cx), (.int .i64 x4.2)] := ho69
     have hl28 := leY hm3 hS15
     have hC28 := hC16.go hS15 (fun b e => Or.inr e)
     refine dg_sub (E' := [(35, (.pointer (some ⟨g, 0, none⟩)))]) ⟨(dpE hd15 5 Z Z), trivial⟩ (dg_plain Z (ow_call Z Z Tryd.call60 (w_spec_l20Rd_pick (hG.mono (lz4.trans hl28)) hC28.old (VRep.mono (lz4.trans hl28) hxs) ho69 hm3 hx5) fun v10 w29 hv10 => ?_))
     obtain ⟨⟨hv10, ho72⟩, hb14⟩ := hv10
     obtain rfl := vint_eq hv10
     exact ⟨⟨⟨hS15.trans hb14, ho72⟩, hb14⟩, Z⟩
    ·
     intro w30 D hS16 hd16
     have hC30 := hC16.go hS16 (fun b e => Or.inr e)
     exact dg_sub (E' := [(34, (.int .i64 x4.1)), (36, (.int .i64 x5.1))]) ⟨(dpE hd16 4 Z Z), (dpE hd16 6 Z Z), trivial⟩ (dg_plain Z (ow_buildSlice (R := RInt) (xs := [0, x4.1, x5.1, 4096]) (cs := #[(.int .i64 0), (.int .i64 x4.1), (.int .i64 x5.1), (.int .i64 4096)]) (e := 3) Z Z (by kernel_rfl) Z Z ⟨_, _, Z, (vint _).cells, _, _, Z, (vint _).cells, _, _, Z, (vint _).cells, _, _, Z, (vint _).cells, Z⟩ hC30 fun p3 w31 hw3 hb15 hl31 hC31 => ⟨hb15, hw3⟩))
    ·
     intro w32 D hS17 hd17
     exact dg_sub (E' := [(0, (.pointer (some ⟨g, 0, none⟩)))]) ⟨Z, trivial⟩ (dg_plain Z (ow_move Z Z ⟨BX.refl _ _, Z⟩))
    ·
     intro w33 D hS18 hd18
     obtain ⟨hS18, ho81⟩ := hS18
     have ho81 : Own w33 g 111 #[(.slice Ax a_xs.length cx), (.int .i64 x5.2)] := ho81
     have hl33 := leY hm3 hS18
     have hC33 := hC16.go hS18 (fun b e => Or.inr e)
     refine dg_sub (E' := [(38, (.pointer (some ⟨g, 0, none⟩)))]) ⟨(dpE hd18 8 Z Z), trivial⟩ (dg_plain Z (ow_call Z Z Tryd.call60 (w_spec_l20Rd_pick (hG.mono (lz4.trans hl33)) hC33.old (VRep.mono (lz4.trans hl33) hxs) ho81 hm3 hx6) fun v11 w34 hv11 => ?_))
     obtain ⟨⟨hv11, ho84⟩, hb16⟩ := hv11
     obtain rfl := vint_eq hv11
     exact ⟨⟨⟨hS18.trans hb16, ho84⟩, hb16⟩, Z⟩
    ·
     intro w35 D hS19 hd19
     have d21 : PV (RSlice RInt) (Add g2 (Add g1 M)) [0, x4.1, x5.1, 4096] (D 7) w35 := dpA hd19 7 Z
     generalize hq1 : (D 7) = v12 at d21
     exact dg_sub (E' := [(37, v12), (39, (.int .i64 x6.1))]) ⟨(congrArg some hq1), (dpE hd19 9 Z Z), trivial⟩ (dg_plain Z (ow_indexSlice (R := RInt) Z Z Z d21 Tryd.underlying52 (Tryd.sizeOf3 _) hx7 fun p4 hp4 => ⟨BX.refl _ _, ⟨_, Z, hp4⟩⟩))
    ·
     intro w36 D hS20 hd20
     have d23 : PA RInt (Add g2 (Add g1 M)) x7 (D 10) w36 := dpA hd20 10 Z
     obtain ⟨p5, e1, ha1⟩ := d23
     refine dg_sub (E' := [(40, (.pointer (some p5)))]) ⟨(congrArg some e1), trivial⟩ (dg_plain Z (ow_load (R := RInt) Z Z ha1 (Tryd.sizeOf3 _) (Tryd.isAgg3 _) fun v13 hv13 => ?_))
     obtain rfl := vint_eq hv13
     exact ⟨BX.refl _ _, Z⟩
    ·
     intro w37 D hS21 hd21
     exact dg_sub (E' := [(32, (.int .i64 (imin a_top (W ((W (x1.1 * 256)) + x3.1))))), (41, (.int .i64 x7))]) ⟨(dpE hd21 2 Z Z), (dpE hd21 11 Z Z), trivial⟩ (dg_plain Z (ow_add Z Z Z ⟨BX.refl _ _, Z⟩))
    ·
     intro w38 D hS22 hd22
     obtain ⟨hS22, ho93⟩ := hS22
     have ho93 : Own w38 g 111 #[(.slice Ax a_xs.length cx), (.int .i64 x6.2)] := ho93
     have hl38 := leY hm3 hS22
     have hC38 := hC16.go hS22 (fun b e => Or.inr e)
     have ho94 := ho40.go hS22 (fun e => hn1 e.symm)
     have ho95 := ho38.go hS22 (fun e => hn2 e.symm)
     refine lw_sub (E' := [(30, (.int .i64 a_top)), (42, (.int .i64 (W ((imin a_top (W ((W (x1.1 * 256)) + x3.1))) + x7)))), (0, (.pointer (some ⟨g, 0, none⟩))), (1, (.int .i64 a_top)), (2, (.int .i64 a_n)), (6, (.pointer (some ⟨g1, 0, none⟩))), (7, (.pointer (some ⟨g2, 0, none⟩)))]) ⟨(dpE hd22 0 Z Z), (dpE hd22 12 Z Z), Z, Z, Z, Z, Z, trivial⟩ (lw_op Z Z Z (ow_min Z Z Z (lw_op Z Z Z (ow_fieldAddr Z Z Tryd.underlying79 Z (Tryd.sizeOf3 _) (lw_op0 Z Z (ow_store (X := (One g)) (us := [(.int .i64 (imin a_top (W ((imin a_top (W ((W (x1.1 * 256)) + x3.1))) + x7))))]) (cs' := #[(.int .i64 (imin a_top (W ((W (x1.1 * 256)) + x3.1)))), (.int .i64 (imin a_top (W ((imin a_top (W ((W (x1.1 * 256)) + x3.1))) + x7))))]) Z Z Z Z ho95 (Tryd.sizeOf3 _) Z Z Z Z hm5 (.inl hg4) Z hC38 fun w39 ho96 hb17 hl39 hC39 => ?_))))))
     have ho97 := ho93.go hb17 (fun e => hn2 e)
     have ho98 := ho94.go hb17 (fun e => hn3 e)
     refine lw_nil (ew_then (cw_seq (cw_seq (cw_region (lw_op Z Z Z (ow_move Z Z (lw_op Z Z Z (ow_move Z Z ?_))))))))
     have lz5 := ((lz4.trans hl38).trans hl39)
     replace h := bind_some h
     obtain ⟨x8, hx8, h⟩ := h
     refine lw_op Z Z Z (ow_call Z Z Tryd.call81 (w_spec_l20Rd_odd (hG.mono lz5) hC39.old (VRep.mono lz5 hxs) ho97 hm3 hx8) fun v14 w40 hv14 => ?_)
     obtain ⟨⟨hv14, ho99⟩, hb18⟩ := hv14
     have hl40 := Le.of_bx (Add g2 (Add g1 M)) hb18 (fun b e => (by rw [show b = g from e]; exact hm3))
     have hC40 := hC39.go hb18 (fun b e => Or.inr e)
     have ho100 := ho98.go hb18 (fun e => hn1 e.symm)
     have ho101 := ho96.go hb18 (fun e => hn2 e.symm)
     obtain ⟨bb3, hbb3, rfl⟩ := vbool_ex hv14
     refine lw_nil (ew_then ?_)
     replace h := cond_some h
     rcases h with ⟨hc3, h⟩ | ⟨hc3, h⟩
     ·
      obtain rfl := hbb3.trans hc3
      refine cw_true Z (cw_seq ?_)
      replace h := bind_some h
      obtain ⟨x9, hx9, h⟩ := h
      have lz6 := (lz5.trans hl40)
      refine cw_sub (E' := [(0, (.pointer (some ⟨g, 0, none⟩))), (1, (.int .i64 a_top)), (6, (.pointer (some ⟨g1, 0, none⟩))), (7, (.pointer (some ⟨g2, 0, none⟩)))]) ⟨Z, Z, Z, Z, trivial⟩ (cw_drawC (g := g) (T := 111) 17 1 [none, none, none, none, none, none, none, none, none, none, none, none, none, none, none, none, some 0] [#[(.slice Ax a_xs.length cx), (.int .i64 x8.2)], #[(.slice Ax a_xs.length cx), (.int .i64 x9.2)]] [PEq (.pointer (some ⟨g2, 1, none⟩)), PEq (.int .i64 (imin a_top (W ((imin a_top (W ((W (x1.1 * 256)) + x3.1))) + x7)))), PEq (.int .i64 (W ((imin a_top (W ((imin a_top (W ((W (x1.1 * 256)) + x3.1))) + x7))) + 1))), PEq (.pointer (some ⟨g2, 1, none⟩)), PEq (.int .i64 (imin a_top (W ((imin a_top (W ((W (x1.1 * 256)) + x3.1))) + x7)))), PV RSpan (Add g2 (Add g1 M)) ({ Lo := (W ((imin a_top (W ((imin a_top (W ((W (x1.1 * 256)) + x3.1))) + x7))) + 1)), Hi := (imin a_top (W ((imin a_top (W ((W (x1.1 * 256)) + x3.1))) + x7))) } : Span), PEq (.pointer (some ⟨g2, 1, none⟩)), PEq (.int .i64 (imin a_top (W ((imin a_top (W ((W (x1.1 * 256)) + x3.1))) + x7)))), PV RSpan (Add g2 (Add g1 M)) ({ Lo := (-1), Hi := (imin a_top (W ((imin a_top (W ((W (x1.1 * 256)) + x3.1))) + x7))) } : Span), PEq (.pointer (some ⟨g2, 0, none⟩)), PEq (.int .i64 (imin a_top (W ((W (x1.1 * 256)) + x3.1)))), PEq (.int .i64 a_top), PEq (.int .i64 (W (a_top + 1))), PV RSpan (Add g2 (Add g1 M)) ({ Lo := (imin a_top (W ((W (x1.1 * 256)) + x3.1))), Hi := (W (a_top + 1)) } : Span), PV (RSlice RSpan) (Add g2 (Add g1 M)) [({ Lo := (W ((imin a_top (W ((imin a_top (W ((W (x1.1 * 256)) + x3.1))) + x7))) + 1)), Hi := (imin a_top (W ((imin a_top (W ((W (x1.1 * 256)) + x3.1))) + x7))) } : Span), ({ Lo := (-1), Hi := (imin a_top (W ((imin a_top (W ((W (x1.1 * 256)) + x3.1))) + x7))) } : Span), ({ Lo := (imin a_top (W ((W (x1.1 * 256)) + x3.1))), Hi := (W (a_top + 1)) } : Span)], PEq (.pointer (some ⟨g, 0, none⟩)), PEq (.int .i64 x9.1)] (by kernel_rfl) Z (by kernel_rfl) (by kernel_rfl) ho99 ⟨(PEq.monoY hm3 _), (PEq.monoY hm3 _), (PEq.monoY hm3 _), (PEq.monoY hm3 _), (PEq.monoY hm3 _), (PV.monoY hm3 _ _), (PEq.monoY hm3 _), (PEq.monoY hm3 _), (PV.monoY hm3 _ _), (PEq.monoY hm3 _), (PEq.monoY hm3 _), (PEq.monoY hm3 _), (PEq.monoY hm3 _), (PV.monoY hm3 _ _), (PV.monoY hm3 _ _), (PEq.monoY hm3 _), (PEq.monoY hm3 _), trivial⟩ ⟨?_, ?_, ?_, ?_, ?_, ?_, ?_, ?_, ?_, ?_, ?_, ?_, ?_, ?_, ?_, ?_, ?_, trivial⟩ ?_)
      ·
       intro w43 D hS23 hd23
       exact dg_sub (E' := [(7, (.pointer (some ⟨g2, 0, none⟩)))]) ⟨Z, trivial⟩ (dg_plain Z (ow_fieldAddr Z Z Tryd.underlying79 Z (Tryd.sizeOf3 _) ⟨BX.refl _ _, Z⟩))
      ·
       intro w44 D hS24 hd24
       have ho111 := ho101.go hS24 (fun e => hn2 e.symm)
       exact dg_sub (E' := [(48, (.pointer (some ⟨g2, 1, none⟩)))]) ⟨(dpE hd24 0 Z Z), trivial⟩ (dg_plain Z (ow_loadOwn1 Z Z Z ho111 (Tryd.isAgg3 _) Z ⟨BX.refl _ _, Z⟩))
      ·
       intro w45 D hS25 hd25
       exact dg_sub (E' := [(49, (.int .i64 (imin a_top (W ((imin a_top (W ((W (x1.1 * 256)) + x3.1))) + x7)))))]) ⟨(dpE hd25 1 Z Z), trivial⟩ (dg_plain Z (ow_add Z Z Z ⟨BX.refl _ _, Z⟩))
      ·
       intro w46 D hS26 hd26
       exact dg_sub (E' := [(7, (.pointer (some ⟨g2, 0, none⟩)))]) ⟨Z, trivial⟩ (dg_plain Z (ow_fieldAddr Z Z Tryd.underlying79 Z (Tryd.sizeOf3 _) ⟨BX.refl _ _, Z⟩))
      ·
       intro w47 D hS27 hd27
       have ho117 := ho101.go hS27 (fun e => hn2 e.symm)
       exact dg_sub (E' := [(51, (.pointer (some ⟨g2, 1, none⟩)))]) ⟨(dpE hd27 3 Z Z), trivial⟩ (dg_plain Z (ow_loadOwn1 Z Z Z ho117 (Tryd.isAgg3 _) Z ⟨BX.refl _ _, Z⟩))
      ·
       intro w48 D hS28 hd28
       refine dg_sub (E' := [(50, (.int .i64 (W ((imin a_top (W ((imin a_top (W ((W (x1.1 * 256)) + x3.1))) + x7))) + 1)))), (52, (.int .i64 (imin a_top (W ((imin a_top (W ((W (x1.1 * 256)) + x3.1))) + x7)))))]) ⟨(dpE hd28 2 Z Z), (dpE hd28 4 Z Z), trivial⟩ (dg_plain Z (ow_build (v := .agg #[(.int .i64 (W ((imin a_top (W ((imin a_top (W ((W (x1.1 * 256)) + x3.1))) + x7))) + 1))), (.int .i64 (imin a_top (W ((imin a_top (W ((W (x1.1 * 256)) + x3.1))) + x7))))]) Z Z (by kernel_rfl) ?_))
       have hw8 : VRep RSpan w48 (Add g2 (Add g1 M)) ({ Lo := (W ((imin a_top (W ((imin a_top (W ((W (x1.1 * 256)) + x3.1))) + x7))) + 1)), Hi := (imin a_top (W ((imin a_top (W ((W (x1.1 * 256)) + x3.1))) + x7))) } : Span) (.agg #[(.int .i64 (W ((imin a_top (W ((imin a_top (W ((W (x1.1 * 256)) + x3.1))) + x7))) + 1))), (.int .i64 (imin a_top (W ((imin a_top (W ((W (x1.1 * 256)) + x3.1))) + x7))))]) := shut_Span
       exact ⟨BX.refl _ _, hw8⟩
      ·
       intro w49 D hS29 hd29
       exact dg_sub (E' := [(7, (.pointer (some ⟨g2, 0, none⟩)))]) ⟨Z, trivial⟩ (dg_plain Z (ow_fieldAddr Z Z Tryd.underlying79 Z (Tryd.sizeOf3 _) ⟨BX.refl _ _, Z⟩))
      ·
       intro w50 D hS30 hd30
       have ho123 := ho101.go hS30 (fun e => hn2 e.symm)
       exact dg_sub (E' := [(54, (.pointer (some ⟨g2, 1, none⟩)))]) ⟨(dpE hd30 6 Z Z), trivial⟩ (dg_plain Z (ow_loadOwn1 Z Z Z ho123 (Tryd.isAgg3 _) Z ⟨BX.refl _ _, Z⟩))
      ·
       intro w51 D hS31 hd31
       refine dg_sub (E' := [(55, (.int .i64 (imin a_top (W ((imin a_top (W ((W (x1.1 * 256)) + x3.1))) + x7)))))]) ⟨(dpE hd31 7 Z Z), trivial⟩ (dg_plain Z (ow_build (v := .agg #[(.int .i64 (-1)), (.int .i64 (imin a_top (W ((imin a_top (W ((W (x1.1 * 256)) + x3.1))) + x7))))]) Z Z (by kernel_rfl) ?_))
       have hw9 : VRep RSpan w51 (Add g2 (Add g1 M)) ({ Lo := (-1), Hi := (imin a_top (W ((imin a_top (W ((W (x1.1 * 256)) + x3.1))) + x7))) } : Span) (.agg #[(.int .i64 (-1)), (.int .i64 (imin a_top (W ((imin a_top (W ((W (x1.1 * 256)) + x3.1))) + x7))))]) := shut_Span
       exact ⟨BX.refl _ _, hw9⟩
      ·
       intro w52 D hS32 hd32
       exact dg_sub (E' := [(7, (.pointer (some ⟨g2, 0, none⟩)))]) ⟨Z, trivial⟩ (dg_plain Z (ow_fieldAddr Z Z Tryd.underlying79 Z (Tryd.sizeOf3 _) ⟨BX.refl _ _, Z⟩))
      ·
       intro w53 D hS33 hd33
       have ho129 := ho101.go hS33 (fun e => hn2 e.symm)
       exact dg_sub (E' := [(57, (.pointer (some ⟨g2, 0, none⟩)))]) ⟨(dpE hd33 9 Z Z), trivial⟩ (dg_plain Z (ow_loadOwn1 Z Z Z ho129 (Tryd.isAgg3 _) Z ⟨BX.refl _ _, Z⟩))
      ·
       intro w54 D hS34 hd34
       exact dg_sub (E' := [(1, (.int .i64 a_top))]) ⟨Z, trivial⟩ (dg_plain Z (ow_move Z Z ⟨BX.refl _ _, Z⟩))
      ·
       intro w55 D hS35 hd35
       exact dg_sub (E' := [(59, (.int .i64 a_top))]) ⟨(dpE hd35 11 Z Z), trivial⟩ (dg_plain Z (ow_add Z Z Z ⟨BX.refl _ _, Z⟩))
      ·
       intro w56 D hS36 hd36
       refine dg_sub (E' := [(58, (.int .i64 (imin a_top (W ((W (x1.1 * 256)) + x3.1))))), (60, (.int .i64 (W (a_top + 1))))]) ⟨(dpE hd36 10 Z Z), (dpE hd36 12 Z Z), trivial⟩ (dg_plain Z (ow_build (v := .agg #[(.int .i64 (imin a_top (W ((W (x1.1 * 256)) + x3.1)))), (.int .i64 (W (a_top + 1)))]) Z Z (by kernel_rfl) ?_))
       have hw10 : VRep RSpan w56 (Add g2 (Add g1 M)) ({ Lo := (imin a_top (W ((W (x1.1 * 256)) + x3.1))), Hi := (W (a_top + 1)) } : Span) (.agg #[(.int .i64 (imin a_top (W ((W (x1.1 * 256)) + x3.1)))), (.int .i64 (W (a_top + 1)))]) := shut_Span
       exact ⟨BX.refl _ _, hw10⟩
      ·
       intro w57 D hS37 hd37
       have hC57 := hC40.go hS37 (fun b e => Or.inr e)
       have d50 : PV RSpan (Add g2 (Add g1 M)) ({ Lo := (W ((imin a_top (W ((imin a_top (W ((W (x1.1 * 256)) + x3.1))) + x7))) + 1)), Hi := (imin a_top (W ((imin a_top (W ((W (x1.1 * 256)) + x3.1))) + x7))) } : Span) (D 5) w57 := dpA hd37 5 Z
       have d51 : PV RSpan (Add g2 (Add g1 M)) ({ Lo := (-1), Hi := (imin a_top (W ((imin a_top (W ((W (x1.1 * 256)) + x3.1))) + x7))) } : Span) (D 8) w57 := dpA hd37 8 Z
       have d52 : PV RSpan (Add g2 (Add g1 M)) ({ Lo := (imin a_top (W ((W (x1.1 * 256)) + x3.1))), Hi := (W (a_top + 1)) } : Span) (D 13) w57 := dpA hd37 13 Z
       generalize hq2 : (D 5) = v16 at d50
       generalize hq3 : (D 8) = v17 at d51
       generalize hq4 : (D 13) = v18 at d52
       refine dg_sub (E' := [(53, v16), (56, v17), (61, v18)]) ⟨(congrArg some hq2), (congrArg some hq3), (congrArg some hq4), trivial⟩ ?_
       obtain rfl := open_Span d50
       obtain rfl := open_Span d51
       obtain rfl := open_Span d52
       exact dg_plain Z (ow_buildSlice (R := RSpan) (xs := [({ Lo := (W ((imin a_top (W ((imin a_top (W ((W (x1.1 * 256)) + x3.1))) + x7))) + 1)), Hi := (imin a_top (W ((imin a_top (W ((W (x1.1 * 256)) + x3.1))) + x7))) } : Span), ({ Lo := (-1), Hi := (imin a_top (W ((imin a_top (W ((W (x1.1 * 256)) + x3.1))) + x7))) } : Span), ({ Lo := (imin a_top (W ((W (x1.1 * 256)) + x3.1))), Hi := (W (a_top + 1)) } : Span)]) (cs := #[(.int .i64 ({ Lo := (W ((imin a_top (W ((imin a_top (W ((W (x1.1 * 256)) + x3.1))) + x7))) + 1)), Hi := (imin a_top (W ((imin a_top (W ((W (x1.1 * 256)) + x3.1))) + x7))) } : Span).Lo), (.int .i64 ({ Lo := (W ((imin a_top (W ((imin a_top (W ((W (x1.1 * 256)) + x3.1))) + x7))) + 1)), Hi := (imin a_top (W ((imin a_top (W ((W (x1.1 * 256)) + x3.1))) + x7))) } : Span).Hi), (.int .i64 ({ Lo := (-1), Hi := (imin a_top (W ((imin a_top (W ((W (x1.1 * 256)) + x3.1))) + x7))) } : Span).Lo), (.int .i64 ({ Lo := (-1), Hi := (imin a_top (W ((imin a_top (W ((W (x1.1 * 256)) + x3.1))) + x7))) } : Span).Hi), (.int .i64 ({ Lo := (imin a_top (W ((W (x1.1 * 256)) + x3.1))), Hi := (W (a_top + 1)) } : Span).Lo), (.int .i64 ({ Lo := (imin a_top (W ((W (x1.1 * 256)) + x3.1))), Hi := (W (a_top + 1)) } : Span).Hi)]) (e := 79) Z Z (by kernel_rfl) Z Z ⟨_, _, Z, d50.cells, _, _, Z, d51.cells, _, _, Z, d52.cells, Z⟩ hC57 fun p7 w58 hw11 hb21 hl58 hC58 => ⟨hb21, hw11⟩)
      ·
       intro w59 D hS38 hd38
       exact dg_sub (E' := [(0, (.pointer (some ⟨g, 0, none⟩)))]) ⟨Z, trivial⟩ (dg_plain Z (ow_move Z Z ⟨BX.refl _ _, Z⟩))
      ·
       intro w60 D hS39 hd39
       obtain ⟨hS39, ho142⟩ := hS39
       have ho142 : Own w60 g 111 #[(.slice Ax a_xs.length cx), (.int .i64 x8.2)] := ho142
       have hl60 := leY hm3 hS39
       have hC60 := hC40.go hS39 (fun b e => Or.inr e)
       refine dg_sub (E' := [(63, (.pointer (some ⟨g, 0, none⟩)))]) ⟨(dpE hd39 15 Z Z), trivial⟩ (dg_plain Z (ow_call Z Z Tryd.call60 (w_spec_l20Rd_pick (hG.mono (lz6.trans hl60)) hC60.old (VRep.mono (lz6.trans hl60) hxs) ho142 hm3 hx9) fun v19 w61 hv19 => ?_))
       obtain ⟨⟨hv19, ho145⟩, hb22⟩ := hv19
       obtain rfl := vint_eq hv19
       exact ⟨⟨⟨hS39.trans hb22, ho145⟩, hb22⟩, Z⟩
      ·
       intro w62 D hS40 hd40
       have d68 : PV (RSlice RSpan) (Add g2 (Add g1 M)) [({ Lo := (W ((imin a_top (W ((imin a_top (W ((W (x1.1 * 256)) + x3.1))) + x7))) + 1)), Hi := (imin a_top (W ((imin a_top (W ((W (x1.1 * 256)) + x3.1))) + x7))) } : Span), ({ Lo := (-1), Hi := (imin a_top (W ((imin a_top (W ((W (x1.1 * 256)) + x3.1))) + x7))) } : Span), ({ Lo := (imin a_top (W ((W (x1.1 * 256)) + x3.1))), Hi := (W (a_top + 1)) } : Span)] (D 14) w62 := dpA hd40 14 Z
       obtain ⟨hS40, ho148⟩ := hS40
       have ho148 : Own w62 g 111 #[(.slice Ax a_xs.length cx), (.int .i64 x9.2)] := ho148
       have hC62 := hC40.go hS40 (fun b e => Or.inr e)
       have ho149 := ho100.go hS40 (fun e => hn1 e.symm)
       generalize hq5 : (D 14) = v20 at d68
       refine lw_sub (E' := [(62, v20), (64, (.int .i64 x9.1)), (0, (.pointer (some ⟨g, 0, none⟩))), (1, (.int .i64 a_top)), (6, (.pointer (some ⟨g1, 0, none⟩))), (7, (.pointer (some ⟨g2, 0, none⟩)))]) ⟨(congrArg some hq5), (dpE hd40 16 Z Z), Z, Z, Z, Z, trivial⟩ ?_
       replace h := bind_some h
       obtain ⟨x10, hx10, h⟩ := h
       refine lw_op Z Z Z (ow_indexSlice (R := RSpan) Z Z Z d68 Tryd.underlying71 (Tryd.sizeOf79 _) hx10 fun p8 hp8 => lw_op Z Z Z (ow_load (R := RSpan) Z Z hp8 (Tryd.sizeOf79 _) (Tryd.isAgg79 _) fun v21 hv21 => ?_))
       obtain rfl := open_Span hv21
       refine lw_op0 Z Z (ow_store (X := (One g)) (us := [(.int .i64 x10.Lo), (.int .i64 x10.Hi)]) (cs' := #[(.int .i64 x10.Lo), (.int .i64 x10.Hi)]) Z Z Z Z ho149 (Tryd.sizeOf79 _) Z Z Z Z hm4 (.inl hg2) Z hC62 fun w63 ho151 hb23 hl63 hC63 => ?_)
       have ho152 := ho148.go hb23 (fun e => hn1 e)
       refine lw_nil (ew_then (cw_ret (ew_thenR ?_)))
       have hw12 : VRep RSpan w63 (Add g2 (Add g1 M)) ({ Lo := x10.Lo, Hi := x10.Hi } : Span) (.agg #[(.int .i64 x10.Lo), (.int .i64 x10.Hi)]) := shut_Span
       obtain rfl := Option.some.inj h
       exact ew_ret (res1 Z (.cell Z (own_loadVarA ho151 (Tryd.isAgg79 _) (Tryd.sizeOf79 _) Z))) ⟨_, Z, ⟨(hw12.mono hC63.back), ho152⟩, hC63.bx⟩
     ·
      obtain rfl := hbb3.trans hc3
      refine cw_false Z (cw_skip (ew_then (cw_seq (cw_region (lw_op Z Z Z (ow_loadOwnA Z Z Z ho101 (Tryd.isAgg79 _) (Tryd.sizeOf79 _) Z (lw_op0 Z Z (ow_store (X := (One g)) (us := [(.int .i64 (imin a_top (W ((W (x1.1 * 256)) + x3.1)))), (.int .i64 (imin a_top (W ((imin a_top (W ((W (x1.1 * 256)) + x3.1))) + x7))))]) (cs' := #[(.int .i64 (imin a_top (W ((W (x1.1 * 256)) + x3.1)))), (.int .i64 (imin a_top (W ((imin a_top (W ((W (x1.1 * 256)) + x3.1))) + x7))))]) Z Z Z Z ho100 (Tryd.sizeOf79 _) Z Z Z Z hm4 (.inl hg2) Z hC40 fun w64 ho154 hb24 hl64 hC64 => ?_))))))))
      have ho155 := ho99.go hb24 (fun e => hn1 e)
      refine lw_nil (ew_then (cw_ret ?_))
      have hw14 : VRep RSpan w64 (Add g2 (Add g1 M)) ({ Lo := (imin a_top (W ((W (x1.1 * 256)) + x3.1))), Hi := (imin a_top (W ((imin a_top (W ((W (x1.1 * 256)) + x3.1))) + x7))) } : Span) (.agg #[(.int .i64 (imin a_top (W ((W (x1.1 * 256)) + x3.1)))), (.int .i64 (imin a_top (W ((imin a_top (W ((W (x1.1 * 256)) + x3.1))) + x7))))]) := shut_Span
      obtain rfl := Option.some.inj h
      exact ew_ret (res1 Z (.cell Z (own_loadVarA ho154 (Tryd.isAgg79 _) (Tryd.sizeOf79 _) Z))) ⟨_, Z, ⟨(hw14.mono hC64.back), ho155⟩, hC64.bx⟩
  ·
   obtain rfl := hbb2.trans hc2
   refine cw_false Z (cw_skip (ew_then (cw_seq ?_)))
   replace h := bind_some h
   obtain ⟨x11, hx11, h⟩ := h
   replace h := bind_some h
   obtain ⟨x12, hx12, h⟩ := h
   replace h := bind_some h
   obtain ⟨x13, hx13, h⟩ := h
   replace h := bind_some h
   obtain ⟨x14, hx14, h⟩ := h
   have lz7 := (lz1.trans hl5)
   refine cw_sub (E' := [(0, (.pointer (some ⟨g, 0, none⟩))), (1, (.int .i64 a_top)), (2, (.int .i64 a_n)), (6, (.pointer (some ⟨g1, 0, none⟩))), (7, (.pointer (some ⟨g2, 0, none⟩)))]) ⟨Z, Z, Z, Z, Z, trivial⟩ (cw_drawC (g := g) (T := 111) 13 3 [none, none, none, none, some 0, none, some 1, none, none, some 2, none, none, none] [#[(.slice Ax a_xs.length cx), (.int .i64 x2.2)], #[(.slice Ax a_xs.length cx), (.int .i64 x11.2)], #[(.slice Ax a_xs.length cx), (.int .i64 x12.2)], #[(.slice Ax a_xs.length cx), (.int .i64 x13.2)]] [PEq (.int .i64 a_top), PEq (.pointer (some ⟨g2, 0, none⟩)), PEq (.int .i64 x1.1), PEq (.pointer (some ⟨g, 0, none⟩)), PEq (.int .i64 x11.1), PEq (.pointer (some ⟨g, 0, none⟩)), PEq (.int .i64 x12.1), PV (RSlice RInt) (Add g2 (Add g1 M)) [0, x11.1, x12.1, 4096], PEq (.pointer (some ⟨g, 0, none⟩)), PEq (.int .i64 x13.1), PA RInt (Add g2 (Add g1 M)) x14, PEq (.int .i64 x14), PEq (.int .i64 (W (x1.1 + x14)))] (by kernel_rfl) Z (by kernel_rfl) (by kernel_rfl) ho11 ⟨(PEq.monoY hm3 _), (PEq.monoY hm3 _), (PEq.monoY hm3 _), (PEq.monoY hm3 _), (PEq.monoY hm3 _), (PEq.monoY hm3 _), (PEq.monoY hm3 _), (PV.monoY hm3 _ _), (PEq.monoY hm3 _), (PEq.monoY hm3 _), (PA.monoY hm3 _ _), (PEq.monoY hm3 _), (PEq.monoY hm3 _), trivial⟩ ⟨?_, ?_, ?_, ?_, ?_, ?_, ?_, ?_, ?_, ?_, ?_, ?_, ?_, trivial⟩ ?_)
   ·
    intro w69 D hS41 hd41
    exact dg_sub (E' := [(1, (.int .i64 a_top))]) ⟨Z, trivial⟩ (dg_plain Z (ow_move Z Z ⟨BX.refl _ _, Z⟩))
   ·
    intro w70 D hS42 hd42
    exact dg_sub (E' := [(7, (.pointer (some ⟨g2, 0, none⟩)))]) ⟨Z, trivial⟩ (dg_plain Z (ow_fieldAddr Z Z Tryd.underlying79 Z (Tryd.sizeOf3 _) ⟨BX.refl _ _, Z⟩))
   ·
    intro w71 D hS43 hd43
    have ho174 := ho13.go hS43 (fun e => hn2 e.symm)
    exact dg_sub (E' := [(31, (.pointer (some ⟨g2, 0, none⟩)))]) ⟨(dpE hd43 1 Z Z), trivial⟩ (dg_plain Z (ow_loadOwn1 Z Z Z ho174 (Tryd.isAgg3 _) Z ⟨BX.refl _ _, Z⟩))
   ·
    intro w72 D hS44 hd44
    exact dg_sub (E' := [(0, (.pointer (some ⟨g, 0, none⟩)))]) ⟨Z, trivial⟩ (dg_plain Z (ow_move Z Z ⟨BX.refl _ _, Z⟩))
   ·
    intro w73 D hS45 hd45
    obtain ⟨hS45, ho177⟩ := hS45
    have ho177 : Own w73 g 111 #[(.slice Ax a_xs.length cx), (.int .i64 x2.2)] := ho177
    have hl73 := leY hm3 hS45
    have hC73 := hC5.go hS45 (fun b e => Or.inr e)
    refine dg_sub (E' := [(33, (.pointer (some ⟨g, 0, none⟩)))]) ⟨(dpE hd45 3 Z Z), trivial⟩ (dg_plain Z (ow_call Z Z Tryd.call60 (w_spec_l20Rd_pick (hG.mono (lz7.trans hl73)) hC73.old (VRep.mono (lz7.trans hl73) hxs) ho177 hm3 hx11) fun v26 w74 hv26 => ?_))
    obtain ⟨⟨hv26, ho180⟩, hb29⟩ := hv26
    obtain rfl := vint_eq hv26
    exact ⟨⟨⟨hS45.trans hb29, ho180⟩, hb29⟩, Z⟩
   ·
    intro w75 D hS46 hd46
    exact dg_sub (E' := [(0, (.pointer (some ⟨g, 0, none⟩)))]) ⟨Z, trivial⟩ (dg_plain Z (ow_move Z Z ⟨BX.refl _ _, Z⟩))
   ·
    intro w76 D hS47 hd47
    obtain ⟨hS47, ho185⟩ := hS47
    have ho185 : Own w76 g 111 #[(.slice Ax a_xs.length cx), (.int .i64 x11.2)] := ho185
    have hl76 := leY hm3 hS47
    have hC76 := hC5.go hS47 (fun b e => Or.inr e)
    refine dg_sub (E' := [(35, (.pointer (some ⟨g, 0, none⟩)))]) ⟨(dpE hd47 5 Z Z), trivial⟩ (dg_plain Z (ow_call Z Z Tryd.call60 (w_spec_l20Rd_pick (hG.mono (lz7.trans hl76)) hC76.old (VRep.mono (lz7.trans hl76) hxs) ho185 hm3 hx12) fun v27 w77 hv27 => ?_))
    obtain ⟨⟨hv27, ho188⟩, hb30⟩ := hv27
    obtain rfl := vint_eq hv27
    exact ⟨⟨⟨hS47.trans hb30, ho188⟩, hb30⟩, Z⟩
   ·
    intro w78 D hS48 hd48
    have hC78 := hC5.go hS48 (fun b e => Or.inr e)
    exact dg_sub (E' := [(34, (.int .i64 x11.1)), (36, (.int .i64 x12.1))]) ⟨(dpE hd48 4 Z Z), (dpE hd48 6 Z Z), trivial⟩ (dg_plain Z (ow_buildSlice (R := RInt) (xs := [0, x11.1, x12.1, 4096]) (cs := #[(.int .i64 0), (.int .i64 x11.1), (.int .i64 x12.1), (.int .i64 4096)]) (e := 3) Z Z (by kernel_rfl) Z Z ⟨_, _, Z, (vint _).cells, _, _, Z, (vint _).cells, _, _, Z, (vint _).cells, _, _, Z, (vint _).cells, Z⟩ hC78 fun p11 w79 hw16 hb31 hl79 hC79 => ⟨hb31, hw16⟩))
   ·
    intro w80 D hS49 hd49
    exact dg_sub (E' := [(0, (.pointer (some ⟨g, 0, none⟩)))]) ⟨Z, trivial⟩ (dg_plain Z (ow_move Z Z ⟨BX.refl _ _, Z⟩))
   ·
    intro w81 D hS50 hd50
    obtain ⟨hS50, ho197⟩ := hS50
    have ho197 : Own w81 g 111 #[(.slice Ax a_xs.length cx), (.int .i64 x12.2)] := ho197
    have hl81 := leY hm3 hS50
    have hC81 := hC5.go hS50 (fun b e => Or.inr e)
    refine dg_sub (E' := [(38, (.pointer (some ⟨g, 0, none⟩)))]) ⟨(dpE hd50 8 Z Z), trivial⟩ (dg_plain Z (ow_call Z Z Tryd.call60 (w_spec_l20Rd_pick (hG.mono (lz7.trans hl81)) hC81.old (VRep.mono (lz7.trans hl81) hxs) ho197 hm3 hx13) fun v28 w82 hv28 => ?_))
    obtain ⟨⟨hv28, ho200⟩, hb32⟩ := hv28
    obtain rfl := vint_eq hv28
    exact ⟨⟨⟨hS50.trans hb32, ho200⟩, hb32⟩, Z⟩
   ·
    intro w83 D hS51 hd51
    have d79 : PV (RSlice RInt) (Add g2 (Add g1 M)) [0, x11.1, x12.1, 4096] (D 7) w83 := dpA hd51 7 Z
    generalize hq6 : (D 7) = v29 at d79
    exact dg_sub (E' := [(37, v29), (39, (.int .i64 x13.1))]) ⟨(congrArg some hq6), (dpE hd51 9 Z Z), trivial⟩ (dg_plain Z (ow_indexSlice (R := RInt) Z Z Z d79 Tryd.underlying52 (Tryd.sizeOf3 _) hx14 fun p12 hp12 => ⟨BX.refl _ _, ⟨_, Z, hp12⟩⟩))
   ·
    intro w84 D hS52 hd52
    have d81 : PA RInt (Add g2 (Add g1 M)) x14 (D 10) w84 := dpA hd52 10 Z
    obtain ⟨p13, e2, ha2⟩ := d81
    refine dg_sub (E' := [(40, (.pointer (some p13)))]) ⟨(congrArg some e2), trivial⟩ (dg_plain Z (ow_load (R := RInt) Z Z ha2 (Tryd.sizeOf3 _) (Tryd.isAgg3 _) fun v30 hv30 => ?_))
    obtain rfl := vint_eq hv30
    exact ⟨BX.refl _ _, Z⟩
   ·
    intro w85 D hS53 hd53
    exact dg_sub (E' := [(32, (.int .i64 x1.1)), (41, (.int .i64 x14))]) ⟨(dpE hd53 2 Z Z), (dpE hd53 11 Z Z), trivial⟩ (dg_plain Z (ow_add Z Z Z ⟨BX.refl _ _, Z⟩))
   ·
    intro w86 D hS54 hd54
    obtain ⟨hS54, ho209⟩ := hS54
    have ho209 : Own w86 g 111 #[(.slice Ax a_xs.length cx), (.int .i64 x13.2)] := ho209
    have hl86 := leY hm3 hS54
    have hC86 := hC5.go hS54 (fun b e => Or.inr e)
    have ho210 := ho12.go hS54 (fun e => hn1 e.symm)
    have ho211 := ho13.go hS54 (fun e => hn2 e.symm)
    refine lw_sub (E' := [(30, (.int .i64 a_top)), (42, (.int .i64 (W (x1.1 + x14)))), (0, (.pointer (some ⟨g, 0, none⟩))), (1, (.int .i64 a_top)), (2, (.int .i64 a_n)), (6, (.pointer (some ⟨g1, 0, none⟩))), (7, (.pointer (some ⟨g2, 0, none⟩)))]) ⟨(dpE hd54 0 Z Z), (dpE hd54 12 Z Z), Z, Z, Z, Z, Z, trivial⟩ (lw_op Z Z Z (ow_min Z Z Z (lw_op Z Z Z (ow_fieldAddr Z Z Tryd.underlying79 Z (Tryd.sizeOf3 _) (lw_op0 Z Z (ow_store (X := (One g)) (us := [(.int .i64 (imin a_top (W (x1.1 + x14))))]) (cs' := #[(.int .i64 x1.1), (.int .i64 (imin a_top (W (x1.1 + x14))))]) Z Z Z Z ho211 (Tryd.sizeOf3 _) Z Z Z Z hm5 (.inl hg4) Z hC86 fun w87 ho212 hb33 hl87 hC87 => ?_))))))
    have ho213 := ho209.go hb33 (fun e => hn2 e)
    have ho214 := ho210.go hb33 (fun e => hn3 e)
    refine lw_nil (ew_then (cw_seq (cw_seq (cw_region (lw_op Z Z Z (ow_move Z Z (lw_op Z Z Z (ow_move Z Z ?_))))))))
    have lz9 := ((lz7.trans hl86).trans hl87)
    replace h := bind_some h
    obtain ⟨x15, hx15, h⟩ := h
    refine lw_op Z Z Z (ow_call Z Z Tryd.call81 (w_spec_l20Rd_odd (hG.mono lz9) hC87.old (VRep.mono lz9 hxs) ho213 hm3 hx15) fun v31 w88 hv31 => ?_)
    obtain ⟨⟨hv31, ho215⟩, hb34⟩ := hv31
    have hl88 := Le.of_bx (Add g2 (Add g1 M)) hb34 (fun b e => (by rw [show b = g from e]; exact hm3))
    have hC88 := hC87.go hb34 (fun b e => Or.inr e)
    have ho216 := ho214.go hb34 (fun e => hn1 e.symm)
    have ho217 := ho212.go hb34 (fun e => hn2 e.symm)
    obtain ⟨bb4, hbb4, rfl⟩ := vbool_ex hv31
    refine lw_nil (ew_then ?_)
    replace h := cond_some h
    rcases h with ⟨hc4, h⟩ | ⟨hc4, h⟩
    ·
     obtain rfl := hbb4.trans hc4
     refine cw_true Z (cw_seq ?_)
     replace h := bind_some h
     obtain ⟨x16, hx16, h⟩ := h
     have lz10 := (lz9.trans hl88)
     refine cw_sub (E' := [(0, (.pointer (some ⟨g, 0, none⟩))), (1, (.int .i64 a_top)), (6, (.pointer (some ⟨g1, 0, none⟩))), (7, (.pointer (some ⟨g2, 0, none⟩)))]) ⟨Z, Z, Z, Z, trivial⟩ (cw_drawC (g := g) (T := 111) 17 1 [none, none, none, none, none, none, none, none, none, none, none, none, none, none, none, none, some 0] [#[(.slice Ax a_xs.length cx), (.int .i64 x15.2)], #[(.slice Ax a_xs.length cx), (.int .i64 x16.2)]] [PEq (.pointer (some ⟨g2, 1, none⟩)), PEq (.int .i64 (imin a_top (W (x1.1 + x14)))), PEq (.int .i64 (W ((imin a_top (W (x1.1 + x14))) + 1))), PEq (.pointer (some ⟨g2, 1, none⟩)), PEq (.int .i64 (imin a_top (W (x1.1 + x14)))), PV RSpan (Add g2 (Add g1 M)) ({ Lo := (W ((imin a_top (W (x1.1 + x14))) + 1)), Hi := (imin a_top (W (x1.1 + x14))) } : Span), PEq (.pointer (some ⟨g2, 1, none⟩)), PEq (.int .i64 (imin a_top (W (x1.1 + x14)))), PV RSpan (Add g2 (Add g1 M)) ({ Lo := (-1), Hi := (imin a_top (W (x1.1 + x14))) } : Span), PEq (.pointer (some ⟨g2, 0, none⟩)), PEq (.int .i64 x1.1), PEq (.int .i64 a_top), PEq (.int .i64 (W (a_top + 1))), PV RSpan (Add g2 (Add g1 M)) ({ Lo := x1.1, Hi := (W (a_top + 1)) } : Span), PV (RSlice RSpan) (Add g2 (Add g1 M)) [({ Lo := (W ((imin a_top (W (x1.1 + x14))) + 1)), Hi := (imin a_top (W (x1.1 + x14))) } : Span), ({ Lo := (-1), Hi := (imin a_top (W (x1.1 + x14))) } : Span), ({ Lo := x1.1, Hi := (W (a_top + 1)) } : Span)], PEq (.pointer (some ⟨g, 0, none⟩)), PEq (.int .i64 x16.1)] (by kernel_rfl) Z (by kernel_rfl) (by kernel_rfl) ho215 ⟨(PEq.monoY hm3 _), (PEq.monoY hm3 _), (PEq.monoY hm3 _), (PEq.monoY hm3 _), (PEq.monoY hm3 _), (PV.monoY hm3 _ _), (PEq.monoY hm3 _), (PEq.monoY hm3 _), (PV.monoY hm3 _ _), (PEq.monoY hm3 _), (PEq.monoY hm3 _), (PEq.monoY hm3 _), (PEq.monoY hm3 _), (PV.monoY hm3 _ _), (PV.monoY hm3 _ _), (PEq.monoY hm3 _), (PEq.monoY hm3 _), trivial⟩ ⟨?_, ?_, ?_, ?_, ?_, ?_, ?_, ?_, ?_, ?_, ?_, ?_, ?_, ?_, ?_, ?_, ?_, trivial⟩ ?_)
     ·
      intro w91 D hS55 hd55
      exact dg_sub (E' := [(7, (.pointer (some ⟨g2, 0, none⟩)))]) ⟨Z, trivial⟩ (dg_plain Z (ow_fieldAddr Z Z Tryd.underlying79 Z (Tryd.sizeOf3 _) ⟨BX.refl _ _, Z⟩))
     ·
      intro w92 D hS56 hd56
      have ho227 := ho217.go hS56 (fun e => hn2 e.symm)
      exact dg_sub (E' := [(48, (.pointer (some ⟨g2, 1, none⟩)))]) ⟨(dpE hd56 0 Z Z), trivial⟩ (dg_plain Z (ow_loadOwn1 Z Z Z ho227 (Tryd.isAgg3 _) Z ⟨BX.refl _ _, Z⟩))
     ·
      intro w93 D hS57 hd57
      exact dg_sub (E' := [(49, (.int .i64 (imin a_top (W (x1.1 + x14)))))]) ⟨(dpE hd57 1 Z Z), trivial⟩ (dg_plain Z (ow_add Z Z Z ⟨BX.refl _ _, Z⟩))
     ·
      intro w94 D hS58 hd58
      exact dg_sub (E' := [(7, (.pointer (some ⟨g2, 0, none⟩)))]) ⟨Z, trivial⟩ (dg_plain Z (ow_fieldAddr Z Z Tryd.underlying79 Z (Tryd.sizeOf3 _) ⟨BX.refl _ _, Z⟩))
     ·
      intro w95 D hS59 hd59
      have ho233 := ho217.go hS59 (fun e => hn2 e.symm)
      exact dg_sub (E' := [(51, (.pointer (some ⟨g2, 1, none⟩)))]) ⟨(dpE hd59 3 Z Z), trivial⟩ (dg_plain Z (ow_loadOwn1 Z Z Z ho233 (Tryd.isAgg3 _) Z ⟨BX.refl _ _, Z⟩))
     ·
      intro w96 D hS60 hd60
      refine dg_sub (E' := [(50, (.int .i64 (W ((imin a_top (W (x1.1 + x14))) + 1)))), (52, (.int .i64 (imin a_top (W (x1.1 + x14)))))]) ⟨(dpE hd60 2 Z Z), (dpE hd60 4 Z Z), trivial⟩ (dg_plain Z (ow_build (v := .agg #[(.int .i64 (W ((imin a_top (W (x1.1 + x14))) + 1))), (.int .i64 (imin a_top (W (x1.1 + x14))))]) Z Z (by kernel_rfl) ?_))
      have hw21 : VRep RSpan w96 (Add g2 (Add g1 M)) ({ Lo := (W ((imin a_top (W (x1.1 + x14))) + 1)), Hi := (imin a_top (W (x1.1 + x14))) } : Span) (.agg #[(.int .i64 (W ((imin a_top (W (x1.1 + x14))) + 1))), (.int .i64 (imin a_top (W (x1.1 + x14))))]) := shut_Span
      exact ⟨BX.refl _ _, hw21⟩
     ·
      intro w97 D hS61 hd61
      exact dg_sub (E' := [(7, (.pointer (some ⟨g2, 0, none⟩)))]) ⟨Z, trivial⟩ (dg_plain Z (ow_fieldAddr Z Z Tryd.underlying79 Z (Tryd.sizeOf3 _) ⟨BX.refl _ _, Z⟩))
     ·
      intro w98 D hS62 hd62
      have ho239 := ho217.go hS62 (fun e => hn2 e.symm)
      exact dg_sub (E' := [(54, (.pointer (some ⟨g2, 1, none⟩)))]) ⟨(dpE hd62 6 Z Z), trivial⟩ (dg_plain Z (ow_loadOwn1 Z Z Z ho239 (Tryd.isAgg3 _) Z ⟨BX.refl _ _, Z⟩))
     ·
      intro w99 D hS63 hd63
      refine dg_sub (E' := [(55, (.int .i64 (imin a_top (W (x1.1 + x14)))))]) ⟨(dpE hd63 7 Z Z), trivial⟩ (dg_plain Z (ow_build (v := .agg #[(.int .i64 (-1)), (.int .i64 (imin a_top (W (x1.1 + x14))))]) Z Z (by kernel_rfl) ?_))
      have hw22 : VRep RSpan w99 (Add g2 (Add g1 M)) ({ Lo := (-1), Hi := (imin a_top (W (x1.1 + x14))) } : Span) (.agg #[(.int .i64 (-1)), (.int .i64 (imin a_top (W (x1.1 + x14))))]) := shut_Span
      exact ⟨BX.refl _ _, hw22⟩
     ·
      intro w100 D hS64 hd64
      exact dg_sub (E' := [(7, (.pointer (some ⟨g2, 0, none⟩)))]) ⟨Z, trivial⟩ (dg_plain Z (ow_fieldAddr Z Z Tryd.underlying79 Z (Tryd.sizeOf3 _) ⟨BX.refl _ _, Z⟩))
     ·
      intro w101 D hS65 hd65
      have ho245 := ho217.go hS65 (fun e => hn2 e.symm)
      exact dg_sub (E' := [(57, (.pointer (some ⟨g2, 0, none⟩)))]) ⟨(dpE hd65 9 Z Z), trivial⟩ (dg_plain Z (ow_loadOwn1 Z Z Z ho245 (Tryd.isAgg3 _) Z ⟨BX.refl _ _, Z⟩))
     ·
      intro w102 D hS66 hd66
      exact dg_sub (E' := [(1, (.int .i64 a_top))]) ⟨Z, trivial⟩ (dg_plain Z (ow_move Z Z ⟨BX.refl _ _, Z⟩))
     ·
      intro w103 D hS67 hd67
      exact dg_sub (E' := [(59, (.int .i64 a_top))]) ⟨(dpE hd67 11 Z Z), trivial⟩ (dg_plain Z (ow_add Z Z Z ⟨BX.refl _ _, Z⟩))
     ·
      intro w104 D hS68 hd68
      refine dg_sub (E' := [(58, (.int .i64 x1.1)), (60, (.int .i64 (W (a_top + 1))))]) ⟨(dpE hd68 10 Z Z), (dpE hd68 12 Z Z), trivial⟩ (dg_plain Z (ow_build (v := .agg #[(.int .i64 x1.1), (.int .i64 (W (a_top + 1)))]) Z Z (by kernel_rfl) ?_))
      have hw23 : VRep RSpan w104 (Add g2 (Add g1 M)) ({ Lo := x1.1, Hi := (W (a_top + 1)) } : Span) (.agg #[(.int .i64 x1.1), (.int .i64 (W (a_top + 1)))]) := shut_Span
      exact ⟨BX.refl _ _, hw23⟩
     ·
      intro w105 D hS69 hd69
      have hC105 := hC88.go hS69 (fun b e => Or.inr e)
      have d108 : PV RSpan (Add g2 (Add g1 M)) ({ Lo := (W ((imin a_top (W (x1.1 + x14))) + 1)), Hi := (imin a_top (W (x1.1 + x14))) } : Span) (D 5) w105 := dpA hd69 5 Z
      have d109 : PV RSpan (Add g2 (Add g1 M)) ({ Lo := (-1), Hi := (imin a_top (W (x1.1 + x14))) } : Span) (D 8) w105 := dpA hd69 8 Z
      have d110 : PV RSpan (Add g2 (Add g1 M)) ({ Lo := x1.1, Hi := (W (a_top + 1)) } : Span) (D 13) w105 := dpA hd69 13 Z
      generalize hq7 : (D 5) = v33 at d108
      generalize hq8 : (D 8) = v34 at d109
      generalize hq9 : (D 13) = v35 at d110
      refine dg_sub (E' := [(53, v33), (56, v34), (61, v35)]) ⟨(congrArg some hq7), (congrArg some hq8), (congrArg some hq9), trivial⟩ ?_
      obtain rfl := open_Span d108
      obtain rfl := open_Span d109
      obtain rfl := open_Span d110
      exact dg_plain Z (ow_buildSlice (R := RSpan) (xs := [({ Lo := (W ((imin a_top (W (x1.1 + x14))) + 1)), Hi := (imin a_top (W (x1.1 + x14))) } : Span), ({ Lo := (-1), Hi := (imin a_top (W (x1.1 + x14))) } : Span), ({ Lo := x1.1, Hi := (W (a_top + 1)) } : Span)]) (cs := #[(.int .i64 ({ Lo := (W ((imin a_top (W (x1.1 + x14))) + 1)), Hi := (imin a_top (W (x1.1 + x14))) } : Span).Lo), (.int .i64 ({ Lo := (W ((imin a_top (W (x1.1 + x14))) + 1)), Hi := (imin a_top (W (x1.1 + x14))) } : Span).Hi), (.int .i64 ({ Lo := (-1), Hi := (imin a_top (W (x1.1 + x14))) } : Span).Lo), (.int .i64 ({ Lo := (-1), Hi := (imin a_top (W (x1.1 + x14))) } : Span).Hi), (.int .i64 ({ Lo := x1.1, Hi := (W (a_top + 1)) } : Span).Lo), (.int .i64 ({ Lo := x1.1, Hi := (W (a_top + 1)) } : Span).Hi)]) (e := 79) Z Z (by kernel_rfl) Z Z ⟨_, _, Z, d108.cells, _, _, Z, d109.cells, _, _, Z, d110.cells, Z⟩ hC105 fun p15 w106 hw24 hb37 hl106 hC106 => ⟨hb37, hw24⟩)
     ·
      intro w107 D hS70 hd70
      exact dg_sub (E' := [(0, (.pointer (some ⟨g, 0, none⟩)))]) ⟨Z, trivial⟩ (dg_plain Z (ow_move Z Z ⟨BX.refl _ _, Z⟩))
     ·
      intro w108 D hS71 hd71
      obtain ⟨hS71, ho258⟩ := hS71
      have ho258 : Own w108 g 111 #[(.slice Ax a_xs.length cx), (.int .i64 x15.2)] := ho258
      have hl108 := leY hm3 hS71
      have hC108 := hC88.go hS71 (fun b e => Or.inr e)
      refine dg_sub (E' := [(63, (.pointer (some ⟨g, 0, none⟩)))]) ⟨(dpE hd71 15 Z Z), trivial⟩ (dg_plain Z (ow_call Z Z Tryd.call60 (w_spec_l20Rd_pick (hG.mono (lz10.trans hl108)) hC108.old (VRep.mono (lz10.trans hl108) hxs) ho258 hm3 hx16) fun v36 w109 hv36 => ?_))
      obtain ⟨⟨hv36, ho261⟩, hb38⟩ := hv36
      obtain rfl := vint_eq hv36
      exact ⟨⟨⟨hS71.trans hb38, ho261⟩, hb38⟩, Z⟩
     ·
      intro w110 D hS72 hd72
      have d126 : PV (RSlice RSpan) (Add g2 (Add g1 M)) [({ Lo := (W ((imin a_top (W (x1.1 + x14))) + 1)), Hi := (imin a_top (W (x1.1 + x14))) } : Span), ({ Lo := (-1), Hi := (imin a_top (W (x1.1 + x14))) } : Span), ({ Lo := x1.1, Hi := (W (a_top + 1)) } : Span)] (D 14) w110 := dpA hd72 14 Z
      obtain ⟨hS72, ho264⟩ := hS72
      have ho264 : Own w110 g 111 #[(.slice Ax a_xs.length cx), (.int .i64 x16.2)] := ho264
      have hC110 := hC88.go hS72 (fun b e => Or.inr e)
      have ho265 := ho216.go hS72 (fun e => hn1 e.symm)
      generalize hq10 : (D 14) = v37 at d126
      refine lw_sub (E' := [(62, v37), (64, (.int .i64 x16.1)), (0, (.pointer (some ⟨g, 0, none⟩))), (1, (.int .i64 a_top)), (6, (.pointer (some ⟨g1, 0, none⟩))), (7, (.pointer (some ⟨g2, 0, none⟩)))]) ⟨(congrArg some hq10), (dpE hd72 16 Z Z), Z, Z, Z, Z, trivial⟩ ?_
      replace h := bind_some h
      obtain ⟨x17, hx17, h⟩ := h
      refine lw_op Z Z Z (ow_indexSlice (R := RSpan) Z Z Z d126 Tryd.underlying71 (Tryd.sizeOf79 _) hx17 fun p16 hp16 => lw_op Z Z Z (ow_load (R := RSpan) Z Z hp16 (Tryd.sizeOf79 _) (Tryd.isAgg79 _) fun v38 hv38 => ?_))
      obtain rfl := open_Span hv38
      refine lw_op0 Z Z (ow_store (X := (One g)) (us := [(.int .i64 x17.Lo), (.int .i64 x17.Hi)]) (cs' := #[(.int .i64 x17.Lo), (.int .i64 x17.Hi)]) Z Z Z Z ho265 (Tryd.sizeOf79 _) Z Z Z Z hm4 (.inl hg2) Z hC110 fun w111 ho267 hb39 hl111 hC111 => ?_)
      have ho268 := ho264.go hb39 (fun e => hn1 e)
      refine lw_nil (ew_then (cw_ret (ew_thenR ?_)))
      have hw25 : VRep RSpan w111 (Add g2 (Add g1 M)) ({ Lo := x17.Lo, Hi := x17.Hi } : Span) (.agg #[(.int .i64 x17.Lo), (.int .i64 x17.Hi)]) := shut_Span
      obtain rfl := Option.some.inj h
      exact ew_ret (res1 Z (.cell Z (own_loadVarA ho267 (Tryd.isAgg79 _) (Tryd.sizeOf79 _) Z))) ⟨_, Z, ⟨(hw25.mono hC111.back), ho268⟩, hC111.bx⟩
    ·
     obtain rfl := hbb4.trans hc4
     refine cw_false Z (cw_skip (ew_then (cw_seq (cw_region (lw_op Z Z Z (ow_loadOwnA Z Z Z ho217 (Tryd.isAgg79 _) (Tryd.sizeOf79 _) Z (lw_op0 Z Z (ow_store (X := (One g)) (us := [(.int .i64 x1.1), (.int .i64 (imin a_top (W (x1.1 + x14))))]) (cs' := #[(.int .i64 x1.1), (.int .i64 (imin a_top (W (x1.1 + x14))))]) Z Z Z Z ho216 (Tryd.sizeOf79 _) Z Z Z Z hm4 (.inl hg2) Z hC88 fun w112 ho270 hb40 hl112 hC112 => ?_))))))))
     have ho271 := ho215.go hb40 (fun e => hn1 e)
     refine lw_nil (ew_then (cw_ret ?_))
     have hw27 : VRep RSpan w112 (Add g2 (Add g1 M)) ({ Lo := x1.1, Hi := (imin a_top (W (x1.1 + x14))) } : Span) (.agg #[(.int .i64 x1.1), (.int .i64 (imin a_top (W (x1.1 + x14))))]) := shut_Span
     obtain rfl := Option.some.inj h
     exact ew_ret (res1 Z (.cell Z (own_loadVarA ho270 (Tryd.isAgg79 _) (Tryd.sizeOf79 _) Z))) ⟨_, Z, ⟨(hw27.mono hC112.back), ho271⟩, hC112.bx⟩
 ·
  obtain rfl := hbb1.trans hc1
  refine lw_off Z Z Z Z Z Z (lw_off Z Z Z Z Z Z (lw_off Z Z Z Z Z Z (lw_op Z Z Z (ow_pickF Z Z Z (lw_nil (ew_then (cw_false Z (cw_skip (ew_then (cw_seq ?_))))))))))
  replace h := bind_some h
  obtain ⟨x18, hx18, h⟩ := h
  replace h := bind_some h
  obtain ⟨x19, hx19, h⟩ := h
  replace h := bind_some h
  obtain ⟨x20, hx20, h⟩ := h
  replace h := bind_some h
  obtain ⟨x21, hx21, h⟩ := h
  have lz11 := (((hl1.trans hl2).trans hl3).trans hl4)
  refine cw_sub (E' := [(0, (.pointer (some ⟨g, 0, none⟩))), (1, (.int .i64 a_top)), (2, (.int .i64 a_n)), (6, (.pointer (some ⟨g1, 0, none⟩))), (7, (.pointer (some ⟨g2, 0, none⟩)))]) ⟨Z, Z, Z, Z, Z, trivial⟩ (cw_drawC (g := g) (T := 111) 13 3 [none, none, none, none, some 0, none, some 1, none, none, some 2, none, none, none] [#[(.slice Ax a_xs.length cx), (.int .i64 x1.2)], #[(.slice Ax a_xs.length cx), (.int .i64 x18.2)], #[(.slice Ax a_xs.length cx), (.int .i64 x19.2)], #[(.slice Ax a_xs.length cx), (.int .i64 x20.2)]] [PEq (.int .i64 a_top), PEq (.pointer (some ⟨g2, 0, none⟩)), PEq (.int .i64 x1.1), PEq (.pointer (some ⟨g, 0, none⟩)), PEq (.int .i64 x18.1), PEq (.pointer (some ⟨g, 0, none⟩)), PEq (.int .i64 x19.1), PV (RSlice RInt) (Add g2 (Add g1 M)) [0, x18.1, x19.1, 4096], PEq (.pointer (some ⟨g, 0, none⟩)), PEq (.int .i64 x20.1), PA RInt (Add g2 (Add g1 M)) x21, PEq (.int .i64 x21), PEq (.int .i64 (W (x1.1 + x21)))] (by kernel_rfl) Z (by kernel_rfl) (by kernel_rfl) ho9 ⟨(PEq.monoY hm3 _), (PEq.monoY hm3 _), (PEq.monoY hm3 _), (PEq.monoY hm3 _), (PEq.monoY hm3 _), (PEq.monoY hm3 _), (PEq.monoY hm3 _), (PV.monoY hm3 _ _), (PEq.monoY hm3 _), (PEq.monoY hm3 _), (PA.monoY hm3 _ _), (PEq.monoY hm3 _), (PEq.monoY hm3 _), trivial⟩ ⟨?_, ?_, ?_, ?_, ?_, ?_, ?_, ?_, ?_, ?_, ?_, ?_, ?_, trivial⟩ ?_)
  ·
   intro w117 D hS73 hd73
   exact dg_sub (E' := [(1, (.int .i64 a_top))]) ⟨Z, trivial⟩ (dg_plain Z (ow_move Z Z ⟨BX.refl _ _, Z⟩))
  ·
   intro w118 D hS74 hd74
   exact dg_sub (E' := [(7, (.pointer (some ⟨g2, 0, none⟩)))]) ⟨Z, trivial⟩ (dg_plain Z (ow_fieldAddr Z Z Tryd.underlying79 Z (Tryd.sizeOf3 _) ⟨BX.refl _ _, Z⟩))
  ·
   intro w119 D hS75 hd75
   have ho290 := ho8.go hS75 (fun e => hn2 e.symm)
   exact dg_sub (E' := [(31, (.pointer (some ⟨g2, 0, none⟩)))]) ⟨(dpE hd75 1 Z Z), trivial⟩ (dg_plain Z (ow_loadOwn1 Z Z Z ho290 (Tryd.isAgg3 _) Z ⟨BX.refl _ _, Z⟩))
  ·
   intro w120 D hS76 hd76
   exact dg_sub (E' := [(0, (.pointer (some ⟨g, 0, none⟩)))]) ⟨Z, trivial⟩ (dg_plain Z (ow_move Z Z ⟨BX.refl _ _, Z⟩))
  ·
   intro w121 D hS77 hd77
   obtain ⟨hS77, ho293⟩ := hS77
   have ho293 : Own w121 g 111 #[(.slice Ax a_xs.length cx), (.int .i64 x1.2)] := ho293
   have hl121 := leY hm3 hS77
   have hC121 := hC4.go hS77 (fun b e => Or.inr e)
   refine dg_sub (E' := [(33, (.pointer (some ⟨g, 0, none⟩)))]) ⟨(dpE hd77 3 Z Z), trivial⟩ (dg_plain Z (ow_call Z Z Tryd.call60 (w_spec_l20Rd_pick (hG.mono (lz11.trans hl121)) hC121.old (VRep.mono (lz11.trans hl121) hxs) ho293 hm3 hx18) fun v43 w122 hv43 => ?_))
   obtain ⟨⟨hv43, ho296⟩, hb45⟩ := hv43
   obtain rfl := vint_eq hv43
   exact ⟨⟨⟨hS77.trans hb45, ho296⟩, hb45⟩, Z⟩
  ·
   intro w123 D hS78 hd78
   exact dg_sub (E' := [(0, (.pointer (some ⟨g, 0, none⟩)))]) ⟨Z, trivial⟩ (dg_plain Z (ow_move Z Z ⟨BX.refl _ _, Z⟩))
  ·
   intro w124 D hS79 hd79
   obtain ⟨hS79, ho301⟩ := hS79
   have ho301 : Own w124 g 111 #[(.slice Ax a_xs.length cx), (.int .i64 x18.2)] := ho301
   have hl124 := leY hm3 hS79
   have hC124 := hC4.go hS79 (fun b e => Or.inr e)
   refine dg_sub (E' := [(35, (.pointer (some ⟨g, 0, none⟩)))]) ⟨(dpE hd79 5 Z Z), trivial⟩ (dg_plain Z (ow_call Z Z Tryd.call60 (w_spec_l20Rd_pick (hG.mono (lz11.trans hl124)) hC124.old (VRep.mono (lz11.trans hl124) hxs) ho301 hm3 hx19) fun v44 w125 hv44 => ?_))
   obtain ⟨⟨hv44, ho304⟩, hb46⟩ := hv44
   obtain rfl := vint_eq hv44
   exact ⟨⟨⟨hS79.trans hb46, ho304⟩, hb46⟩, Z⟩
  ·
   intro w126 D hS80 hd80
   have hC126 := hC4.go hS80 (fun b e => Or.inr e)
   exact dg_sub (E' := [(34, (.int .i64 x18.1)), (36, (.int .i64 x19.1))]) ⟨(dpE hd80 4 Z Z), (dpE hd80 6 Z Z), trivial⟩ (dg_plain Z (ow_buildSlice (R := RInt) (xs := [0, x18.1, x19.1, 4096]) (cs := #[(.int .i64 0), (.int .i64 x18.1), (.int .i64 x19.1), (.int .i64 4096)]) (e := 3) Z Z (by kernel_rfl) Z Z ⟨_, _, Z, (vint _).cells, _, _, Z, (vint _).cells, _, _, Z, (vint _).cells, _, _, Z, (vint _).cells, Z⟩ hC126 fun p19 w127 hw29 hb47 hl127 hC127 => ⟨hb47, hw29⟩))
  ·
   intro w128 D hS81 hd81
   exact dg_sub (E' := [(0, (.pointer (some ⟨g, 0, none⟩)))]) ⟨Z, trivial⟩ (dg_plain Z (ow_move Z Z ⟨BX.refl _ _, Z⟩))
  ·
   intro w129 D hS82 hd82
   obtain ⟨hS82, ho313⟩ := hS82
   have ho313 : Own w129 g 111 #[(.slice Ax a_xs.length cx), (.int .i64 x19.2)] := ho313
   have hl129 := leY hm3 hS82
   have hC129 := hC4.go hS82 (fun b e => Or.inr e)
   refine dg_sub (E' := [(38, (.pointer (some ⟨g, 0, none⟩)))]) ⟨(dpE hd82 8 Z Z), trivial⟩ (dg_plain Z (ow_call Z Z Tryd.call60 (w_spec_l20Rd_pick (hG.mono (lz11.trans hl129)) hC129.old (VRep.mono (lz11.trans hl129) hxs) ho313 hm3 hx20) fun v45 w130 hv45 => ?_))
   obtain ⟨⟨hv45, ho316⟩, hb48⟩ := hv45
   obtain rfl := vint_eq hv45
   exact ⟨⟨⟨hS82.trans hb48, ho316⟩, hb48⟩, Z⟩
  ·
   intro w131 D hS83 hd83
   have d137 : PV (RSlice RInt) (Add g2 (Add g1 M)) [0, x18.1, x19.1, 4096] (D 7) w131 := dpA hd83 7 Z
   generalize hq11 : (D 7) = v46 at d137
   exact dg_sub (E' := [(37, v46), (39, (.int .i64 x20.1))]) ⟨(congrArg some hq11), (dpE hd83 9 Z Z), trivial⟩ (dg_plain Z (ow_indexSlice (R := RInt) Z Z Z d137 Tryd.underlying52 (Tryd.sizeOf3 _) hx21 fun p20 hp20 => ⟨BX.refl _ _, ⟨_, Z, hp20⟩⟩))
  ·
   intro w132 D hS84 hd84
   have d139 : PA RInt (Add g2 (Add g1 M)) x21 (D 10) w132 := dpA hd84 10 Z
   obtain ⟨p21, e3, ha3⟩ := d139
   refine dg_sub (E' := [(40, (.pointer (some p21)))]) ⟨(congrArg some e3), trivial⟩ (dg_plain Z (ow_load (R := RInt) Z Z ha3 (Tryd.sizeOf3 _) (Tryd.isAgg3 _) fun v47 hv47 => ?_))
   obtain rfl := vint_eq hv47
   exact ⟨BX.refl _ _, Z⟩
  ·
   intro w133 D hS85 hd85
   exact dg_sub (E' := [(32, (.int .i64 x1.1)), (41, (.int .i64 x21))]) ⟨(dpE hd85 2 Z Z), (dpE hd85 11 Z Z), trivial⟩ (dg_plain Z (ow_add Z Z Z ⟨BX.refl _ _, Z⟩))
  ·
   intro w134 D hS86 hd86
   obtain ⟨hS86, ho325⟩ := hS86
   have ho325 : Own w134 g 111 #[(.slice Ax a_xs.length cx), (.int .i64 x20.2)] := ho325
   have hl134 := leY hm3 hS86
   have hC134 := hC4.go hS86 (fun b e => Or.inr e)
   have ho326 := ho10.go hS86 (fun e => hn1 e.symm)
   have ho327 := ho8.go hS86 (fun e => hn2 e.symm)
   refine lw_sub (E' := [(30, (.int .i64 a_top)), (42, (.int .i64 (W (x1.1 + x21)))), (0, (.pointer (some ⟨g, 0, none⟩))), (1, (.int .i64 a_top)), (2, (.int .i64 a_n)), (6, (.pointer (some ⟨g1, 0, none⟩))), (7, (.pointer (some ⟨g2, 0, none⟩)))]) ⟨(dpE hd86 0 Z Z), (dpE hd86 12 Z Z), Z, Z, Z, Z, Z, trivial⟩ (lw_op Z Z Z (ow_min Z Z Z (lw_op Z Z Z (ow_fieldAddr Z Z Tryd.underlying79 Z (Tryd.sizeOf3 _) (lw_op0 Z Z (ow_store (X := (One g)) (us := [(.int .i64 (imin a_top (W (x1.1 + x21))))]) (cs' := #[(.int .i64 x1.1), (.int .i64 (imin a_top (W (x1.1 + x21))))]) Z Z Z Z ho327 (Tryd.sizeOf3 _) Z Z Z Z hm5 (.inl hg4) Z hC134 fun w135 ho328 hb49 hl135 hC135 => ?_))))))
   have ho329 := ho325.go hb49 (fun e => hn2 e)
   have ho330 := ho326.go hb49 (fun e => hn3 e)
   refine lw_nil (ew_then (cw_seq (cw_seq (cw_region (lw_op Z Z Z (ow_move Z Z (lw_op Z Z Z (ow_move Z Z ?_))))))))
   have lz13 := ((lz11.trans hl134).trans hl135)
   replace h := bind_some h
   obtain ⟨x22, hx22, h⟩ := h
   refine lw_op Z Z Z (ow_call Z Z Tryd.call81 (w_spec_l20Rd_odd (hG.mono lz13) hC135.old (VRep.mono lz13 hxs) ho329 hm3 hx22) fun v48 w136 hv48 => ?_)
   obtain ⟨⟨hv48, ho331⟩, hb50⟩ := hv48
   have hl136 := Le.of_bx (Add g2 (Add g1 M)) hb50 (fun b e => (by rw [show b = g from e]; exact hm3))
   have hC136 := hC135.go hb50 (fun b e => Or.inr e)
   have ho332 := ho330.go hb50 (fun e => hn1 e.symm)
   have ho333 := ho328.go hb50 (fun e => hn2 e.symm)
   obtain ⟨bb5, hbb5, rfl⟩ := vbool_ex hv48
   refine lw_nil (ew_then ?_)
   replace h := cond_some h
   rcases h with ⟨hc5, h⟩ | ⟨hc5, h⟩
   ·
    obtain rfl := hbb5.trans hc5
    refine cw_true Z (cw_seq ?_)
    replace h := bind_some h
    obtain ⟨x23, hx23, h⟩ := h
    have lz14 := (lz13.trans hl136)
    refine cw_sub (E' := [(0, (.pointer (some ⟨g, 0, none⟩))), (1, (.int .i64 a_top)), (6, (.pointer (some ⟨g1, 0, none⟩))), (7, (.pointer (some ⟨g2, 0, none⟩)))]) ⟨Z, Z, Z, Z, trivial⟩ (cw_drawC (g := g) (T := 111) 17 1 [none, none, none, none, none, none, none, none, none, none, none, none, none, none, none, none, some 0] [#[(.slice Ax a_xs.length cx), (.int .i64 x22.2)], #[(.slice Ax a_xs.length cx), (.int .i64 x23.2)]] [PEq (.pointer (some ⟨g2, 1, none⟩)), PEq (.int .i64 (imin a_top (W (x1.1 + x21)))), PEq (.int .i64 (W ((imin a_top (W (x1.1 + x21))) + 1))), PEq (.pointer (some ⟨g2, 1, none⟩)), PEq (.int .i64 (imin a_top (W (x1.1 + x21)))), PV RSpan (Add g2 (Add g1 M)) ({ Lo := (W ((imin a_top (W (x1.1 + x21))) + 1)), Hi := (imin a_top (W (x1.1 + x21))) } : Span), PEq (.pointer (some ⟨g2, 1, none⟩)), PEq (.int .i64 (imin a_top (W (x1.1 + x21)))), PV RSpan (Add g2 (Add g1 M)) ({ Lo := (-1), Hi := (imin a_top (W (x1.1 + x21))) } : Span), PEq (.pointer (some ⟨g2, 0, none⟩)), PEq (.int .i64 x1.1), PEq (.int .i64 a_top), PEq (.int .i64 (W (a_top + 1))), PV RSpan (Add g2 (Add g1 M)) ({ Lo := x1.1, Hi := (W (a_top + 1)) } : Span), PV (RSlice RSpan) (Add g2 (Add g1 M)) [({ Lo := (W ((imin a_top (W (x1.1 + x21))) + 1)), Hi := (imin a_top (W (x1.1 + x21))) } : Span), ({ Lo := (-1), Hi := (imin a_top (W (x1.1 + x21))) } : Span), ({ Lo := x1.1, Hi := (W (a_top + 1)) } : Span)], PEq (.pointer (some ⟨g, 0, none⟩)), PEq (.int .i64 x23.1)] (by kernel_rfl) Z (by kernel_rfl) (by kernel_rfl) ho331 ⟨(PEq.monoY hm3 _), (PEq.monoY hm3 _), (PEq.monoY hm3 _), (PEq.monoY hm3 _), (PEq.monoY hm3 _), (PV.monoY hm3 _ _), (PEq.monoY hm3 _), (PEq.monoY hm3 _), (PV.monoY hm3 _ _), (PEq.monoY hm3 _), (PEq.monoY hm3 _), (PEq.monoY hm3 _), (PEq.monoY hm3 _), (PV.monoY hm3 _ _), (PV.monoY hm3 _ _), (PEq.monoY hm3 _), (PEq.monoY hm3 _), trivial⟩ ⟨?_, ?_, ?_, ?_, ?_, ?_, ?_, ?_, ?_, ?_, ?_, ?_, ?_, ?_, ?_, ?_, ?_, trivial⟩ ?_)
    ·
     intro w139 D hS87 hd87
     exact dg_sub (E' := [(7, (.pointer (some ⟨g2, 0, none⟩)))]) ⟨Z, trivial⟩ (dg_plain Z (ow_fieldAddr Z Z Tryd.underlying79 Z (Tryd.sizeOf3 _) ⟨BX.refl _ _, Z⟩))
    ·
     intro w140 D hS88 hd88
     have ho343 := ho333.go hS88 (fun e => hn2 e.symm)
     exact dg_sub (E' := [(48, (.pointer (some ⟨g2, 1, none⟩)))]) ⟨(dpE hd88 0 Z Z), trivial⟩ (dg_plain Z (ow_loadOwn1 Z Z Z ho343 (Tryd.isAgg3 _) Z ⟨BX.refl _ _, Z⟩))
    ·
     intro w141 D hS89 hd89
     exact dg_sub (E' := [(49, (.int .i64 (imin a_top (W (x1.1 + x21)))))]) ⟨(dpE hd89 1 Z Z), trivial⟩ (dg_plain Z (ow_add Z Z Z ⟨BX.refl _ _, Z⟩))
    ·
     intro w142 D hS90 hd90
     exact dg_sub (E' := [(7, (.pointer (some ⟨g2, 0, none⟩)))]) ⟨Z, trivial⟩ (dg_plain Z (ow_fieldAddr Z Z Tryd.underlying79 Z (Tryd.sizeOf3 _) ⟨BX.refl _ _, Z⟩))
    ·
     intro w143 D hS91 hd91
     have ho349 := ho333.go hS91 (fun e => hn2 e.symm)
     exact dg_sub (E' := [(51, (.pointer (some ⟨g2, 1, none⟩)))]) ⟨(dpE hd91 3 Z Z), trivial⟩ (dg_plain Z (ow_loadOwn1 Z Z Z ho349 (Tryd.isAgg3 _) Z ⟨BX.refl _ _, Z⟩))
    ·
     intro w144 D hS92 hd92
     refine dg_sub (E' := [(50, (.int .i64 (W ((imin a_top (W (x1.1 + x21))) + 1)))), (52, (.int .i64 (imin a_top (W (x1.1 + x21)))))]) ⟨(dpE hd92 2 Z Z), (dpE hd92 4 Z Z), trivial⟩ (dg_plain Z (ow_build (v := .agg #[(.int .i64 (W ((imin a_top (W (x1.1 + x21))) + 1))), (.int .i64 (imin a_top (W (x1.1 + x21))))]) Z Z (by kernel_rfl) ?_))
     have hw34 : VRep RSpan w144 (Add g2 (Add g1 M)) ({ Lo := (W ((imin a_top (W (x1.1 + x21))) + 1)), Hi := (imin a_top (W (x1.1 + x21))) } : Span) (.agg #[(.int .i64 (W ((imin a_top (W (x1.1 + x21))) + 1))), (.int .i64 (imin a_top (W (x1.1 + x21))))]) := shut_Span
     exact ⟨BX.refl _ _, hw34⟩
    ·
     intro w145 D hS93 hd93
     exact dg_sub (E' := [(7, (.pointer (some ⟨g2, 0, none⟩)))]) ⟨Z, trivial⟩ (dg_plain Z (ow_fieldAddr Z Z Tryd.underlying79 Z (Tryd.sizeOf3 _) ⟨BX.refl _ _, Z⟩))
    ·
     intro w146 D hS94 hd94
     have ho355 := ho333.go hS94 (fun e => hn2 e.symm)
     exact dg_sub (E' := [(54, (.pointer (some ⟨g2, 1, none⟩)))]) ⟨(dpE hd94 6 Z Z), trivial⟩ (dg_plain Z (ow_loadOwn1 Z Z Z ho355 (Tryd.isAgg3 _) Z ⟨BX.refl _ _, Z⟩))
    ·
     intro w147 D hS95 hd95
     refine dg_sub (E' := [(55, (.int .i64 (imin a_top (W (x1.1 + x21)))))]) ⟨(dpE hd95 7 Z Z), trivial⟩ (dg_plain Z (ow_build (v := .agg #[(.int .i64 (-1)), (.int .i64 (imin a_top (W (x1.1 + x21))))]) Z Z (by kernel_rfl) ?_))
     have hw35 : VRep RSpan w147 (Add g2 (Add g1 M)) ({ Lo := (-1), Hi := (imin a_top (W (x1.1 + x21))) } : Span) (.agg #[(.int .i64 (-1)), (.int .i64 (imin a_top (W (x1.1 + x21))))]) := shut_Span
     exact ⟨BX.refl _ _, hw35⟩
    ·
     intro w148 D hS96 hd96
     exact dg_sub (E' := [(7, (.pointer (some ⟨g2, 0, none⟩)))]) ⟨Z, trivial⟩ (dg_plain Z (ow_fieldAddr Z Z Tryd.underlying79 Z (Tryd.sizeOf3 _) ⟨BX.refl _ _, Z⟩))
    ·
     intro w149 D hS97 hd97
     have ho361 := ho333.go hS97 (fun e => hn2 e.symm)
     exact dg_sub (E' := [(57, (.pointer (some ⟨g2, 0, none⟩)))]) ⟨(dpE hd97 9 Z Z), trivial⟩ (dg_plain Z (ow_loadOwn1 Z Z Z ho361 (Tryd.isAgg3 _) Z ⟨BX.refl _ _, Z⟩))
    ·
     intro w150 D hS98 hd98
     exact dg_sub (E' := [(1, (.int .i64 a_top))]) ⟨Z, trivial⟩ (dg_plain Z (ow_move Z Z ⟨BX.refl _ _, Z⟩))
    ·
     intro w151 D hS99 hd99
     exact dg_sub (E' := [(59, (.int .i64 a_top))]) ⟨(dpE hd99 11 Z Z), trivial⟩ (dg_plain Z (ow_add Z Z Z ⟨BX.refl _ _, Z⟩))
    ·
     intro w152 D hS100 hd100
     refine dg_sub (E' := [(58, (.int .i64 x1.1)), (60, (.int .i64 (W (a_top + 1))))]) ⟨(dpE hd100 10 Z Z), (dpE hd100 12 Z Z), trivial⟩ (dg_plain Z (ow_build (v := .agg #[(.int .i64 x1.1), (.int .i64 (W (a_top + 1)))]) Z Z (by kernel_rfl) ?_))
     have hw36 : VRep RSpan w152 (Add g2 (Add g1 M)) ({ Lo := x1.1, Hi := (W (a_top + 1)) } : Span) (.agg #[(.int .i64 x1.1), (.int .i64 (W (a_top + 1)))]) := shut_Span
     exact ⟨BX.refl _ _, hw36⟩
    ·
     intro w153 D hS101 hd101
     have hC153 := hC136.go hS101 (fun b e => Or.inr e)
     have d166 : PV RSpan (Add g2 (Add g1 M)) ({ Lo := (W ((imin a_top (W (x1.1 + x21))) + 1)), Hi := (imin a_top (W (x1.1 + x21))) } : Span) (D 5) w153 := dpA hd101 5 Z
     have d167 : PV RSpan (Add g2 (Add g1 M)) ({ Lo := (-1), Hi := (imin a_top (W (x1.1 + x21))) } : Span) (D 8) w153 := dpA hd101 8 Z
     have d168 : PV RSpan (Add g2 (Add g1 M)) ({ Lo := x1.1, Hi := (W (a_top + 1)) } : Span) (D 13) w153 := dpA hd101 13 Z
     generalize hq12 : (D 5) = v50 at d166
     generalize hq13 : (D 8) = v51 at d167
     generalize hq14 : (D 13) = v52 at d168
     refine dg_sub (E' := [(53, v50), (56, v51), (61, v52)]) ⟨(congrArg some hq12), (congrArg some hq13), (congrArg some hq14), trivial⟩ ?_
     obtain rfl := open_Span d166
     obtain rfl := open_Span d167
     obtain rfl := open_Span d168
     exact dg_plain Z (ow_buildSlice (R := RSpan) (xs := [({ Lo := (W ((imin a_top (W (x1.1 + x21))) + 1)), Hi := (imin a_top (W (x1.1 + x21))) } : Span), ({ Lo := (-1), Hi := (imin a_top (W (x1.1 + x21))) } : Span), ({ Lo := x1.1, Hi := (W (a_top + 1)) } : Span)]) (cs := #[(.int .i64 ({ Lo := (W ((imin a_top (W (x1.1 + x21))) + 1)), Hi := (imin a_top (W (x1.1 + x21))) } : Span).Lo), (.int .i64 ({ Lo := (W ((imin a_top (W (x1.1 + x21))) + 1)), Hi := (imin a_top (W (x1.1 + x21))) } : Span).Hi), (.int .i64 ({ Lo := (-1), Hi := (imin a_top (W (x1.1 + x21))) } : Span).Lo), (.int .i64 ({ Lo := (-1), Hi := (imin a_top (W (x1.1 + x21))) } : Span).Hi), (.int .i64 ({ Lo := x1.1, Hi := (W (a_top + 1)) } : Span).Lo), (.int .i64 ({ Lo := x1.1, Hi := (W (a_top + 1)) } : Span).Hi)]) (e := 79) Z Z (by kernel_rfl) Z Z ⟨_, _, Z, d166.cells, _, _, Z, d167.cells, _, _, Z, d168.cells, Z⟩ hC153 fun p23 w154 hw37 hb53 hl154 hC154 => ⟨hb53, hw37⟩)
    ·
     intro w155 D hS102 hd102
     exact dg_sub (E' := [(0, (.pointer (some ⟨g, 0, none⟩)))]) ⟨Z, trivial⟩ (dg_plain Z (ow_move Z Z ⟨BX.refl _ _, Z⟩))
    ·
     intro w156 D hS103 hd103
     obtain ⟨hS103, ho374⟩ := hS103
     have ho374 : Own w156 g 111 #[(.slice Ax a_xs.length cx), (.int .i64 x22.2)] := ho374
     have hl156 := leY hm3 hS103
     have hC156 := hC136.go hS103 (fun b e => Or.inr e)
     refine dg_sub (E' := [(63, (.pointer (some ⟨g, 0, none⟩)))]) ⟨(dpE hd103 15 Z Z), trivial⟩ (dg_plain Z (ow_call Z Z Tryd.call60 (w_spec_l20Rd_pick (hG.mono (lz14.trans hl156)) hC156.old (VRep.mono (lz14.trans hl156) hxs) ho374 hm3 hx23) fun v53 w157 hv53 => ?_))
     obtain ⟨⟨hv53, ho377⟩, hb54⟩ := hv53
     obtain rfl := vint_eq hv53
     exact ⟨⟨⟨hS103.trans hb54, ho377⟩, hb54⟩, Z⟩
    ·
     intro w158 D hS104 hd104
     have d184 : PV (RSlice RSpan) (Add g2 (Add g1 M)) [({ Lo := (W ((imin a_top (W (x1.1 + x21))) + 1)), Hi := (imin a_top (W (x1.1 + x21))) } : Span), ({ Lo := (-1), Hi := (imin a_top (W (x1.1 + x21))) } : Span), ({ Lo := x1.1, Hi := (W (a_top + 1)) } : Span)] (D 14) w158 := dpA hd104 14 Z
     obtain ⟨hS104, ho380⟩ := hS104
     have ho380 : Own w158 g 111 #[(.slice Ax a_xs.length cx), (.int .i64 x23.2)] := ho380
     have hC158 := hC136.go hS104 (fun b e => Or.inr e)
     have ho381 := ho332.go hS104 (fun e => hn1 e.symm)
     generalize hq15 : (D 14) = v54 at d184
     refine lw_sub (E' := [(62, v54), (64, (.int .i64 x23.1)), (0, (.pointer (some ⟨g, 0, none⟩))), (1, (.int .i64 a_top)), (6, (.pointer (some ⟨g1, 0, none⟩))), (7, (.pointer (some ⟨g2, 0, none⟩)))]) ⟨(congrArg some hq15), (dpE hd104 16 Z Z), Z, Z, Z, Z, trivial⟩ ?_
     replace h := bind_some h
     obtain ⟨x24, hx24, h⟩ := h
     refine lw_op Z Z Z (ow_indexSlice (R := RSpan) Z Z Z d184 Tryd.underlying71 (Tryd.sizeOf79 _) hx24 fun p24 hp24 => lw_op Z Z Z (ow_load (R := RSpan) Z Z hp24 (Tryd.sizeOf79 _) (Tryd.isAgg79 _) fun v55 hv55 => ?_))
     obtain rfl := open_Span hv55
     refine lw_op0 Z Z (ow_store (X := (One g)) (us := [(.int .i64 x24.Lo), (.int .i64 x24.Hi)]) (cs' := #[(.int .i64 x24.Lo), (.int .i64 x24.Hi)]) Z Z Z Z ho381 (Tryd.sizeOf79 _) Z Z Z Z hm4 (.inl hg2) Z hC158 fun w159 ho383 hb55 hl159 hC159 => ?_)
     have ho384 := ho380.go hb55 (fun e => hn1 e)
     refine lw_nil (ew_then (cw_ret (ew_thenR ?_)))
     have hw38 : VRep RSpan w159 (Add g2 (Add g1 M)) ({ Lo := x24.Lo, Hi := x24.Hi } : Span) (.agg #[(.int .i64 x24.Lo), (.int .i64 x24.Hi)]) := shut_Span
     obtain rfl := Option.some.inj h
     exact ew_ret (res1 Z (.cell Z (own_loadVarA ho383 (Tryd.isAgg79 _) (Tryd.sizeOf79 _) Z))) ⟨_, Z, ⟨(hw38.mono hC159.back), ho384⟩, hC159.bx⟩
   ·
    obtain rfl := hbb5.trans hc5
    refine cw_false Z (cw_skip (ew_then (cw_seq (cw_region (lw_op Z Z Z (ow_loadOwnA Z Z Z ho333 (Tryd.isAgg79 _) (Tryd.sizeOf79 _) Z (lw_op0 Z Z (ow_store (X := (One g)) (us := [(.int .i64 x1.1), (.int .i64 (imin a_top (W (x1.1 + x21))))]) (cs' := #[(.int .i64 x1.1), (.int .i64 (imin a_top (W (x1.1 + x21))))]) Z Z Z Z ho332 (Tryd.sizeOf79 _) Z Z Z Z hm4 (.inl hg2) Z hC136 fun w160 ho386 hb56 hl160 hC160 => ?_))))))))
    have ho387 := ho331.go hb56 (fun e => hn1 e)
    refine lw_nil (ew_then (cw_ret ?_))
    have hw40 : VRep RSpan w160 (Add g2 (Add g1 M)) ({ Lo := x1.1, Hi := (imin a_top (W (x1.1 + x21))) } : Span) (.agg #[(.int .i64 x1.1), (.int .i64 (imin a_top (W (x1.1 + x21))))]) := shut_Span
    obtain rfl := Option.some.inj h
    exact ew_ret (res1 Z (.cell Z (own_loadVarA ho386 (Tryd.isAgg79 _) (Tryd.sizeOf79 _) Z))) ⟨_, Z, ⟨(hw40.mono hC160.back), ho387⟩, hC160.bx⟩

theorem w_spec_FieldTop {w : World} {M : Nat → Prop} (_hG : ARep (RArr 4 RShape) w M shapes ⟨0, 0, none⟩) (hO : ∀ b, M b → b < w.heap.size) {a_n : Int} {r : Int} (h : F.spec_FieldTop a_n = some r) :
  Calls Tryd.prog 53 [(.int .i64 a_n)].toArray w fun e w' => ∃ v, e = .returned v ∧ VRep RInt w' M r v ∧ BX No w w' := by
 have hC : Cx No w M w M := Cx.start hO (fun _ e => e.elim)
 clear _hG
 refine walk (N := 11) Tryd.func53 Z Tryd.ntmps53 Z (cw_seq (cw_region (lw_op Z Z Z (ow_assign Z Z (lw_nil (ew_then (cw_seq (cw_seq (cw_region (lw_op Z Z Z (ow_move Z Z (lw_nil (ew_then (cw_block (cw_seq (cw_seq (cw_region (lw_op Z Z Z (ow_eqlI Z Z Z fun bb1 hbb1 => lw_op Z Z Z (ow_assign Z Z (lw_nil (ew_then ?_))))))))))))))))))))))
 replace h := cond_some h
 rcases h with ⟨hc1, h⟩ | ⟨hc1, h⟩
 ·
  obtain rfl := hbb1.trans hc1
  refine cw_true Z (cw_skip (ew_then (cw_true Z (cw_seq (cw_region (lw_op Z Z Z (ow_assign Z Z (lw_nil (ew_then (cw_ret (ew_blockR (ew_thenR ?_))))))))))))
  obtain rfl := Option.some.inj h
  exact ew_ret (res1 Z (.tmp Z)) ⟨_, Z, ((vint _)), hC.bx⟩
 ·
  obtain rfl := hbb1.trans hc1
  refine cw_false Z (cw_region (lw_op Z Z Z (ow_eqlI Z Z Z fun bb2 hbb2 => lw_op Z Z Z (ow_assign Z Z (lw_nil (ew_then ?_))))))
  replace h := cond_some h
  rcases h with ⟨hc2, h⟩ | ⟨hc2, h⟩
  ·
   obtain rfl := hbb2.trans hc2
   refine cw_true Z (cw_seq (cw_region (lw_op Z Z Z (ow_assign Z Z (lw_nil (ew_then (cw_ret (ew_blockR (ew_thenR ?_)))))))))
   obtain rfl := Option.some.inj h
   exact ew_ret (res1 Z (.tmp Z)) ⟨_, Z, ((vint _)), hC.bx⟩
  ·
   obtain rfl := hbb2.trans hc2
   refine cw_false Z (cw_seq (cw_region (lw_op Z Z Z (ow_eqlI Z Z Z fun bb3 hbb3 => lw_op Z Z Z (ow_assign Z Z (lw_nil (ew_then ?_)))))))
   replace h := cond_some h
   rcases h with ⟨hc3, h⟩ | ⟨hc3, h⟩
   ·
    obtain rfl := hbb3.trans hc3
    refine cw_true Z (cw_seq (cw_region (lw_op Z Z Z (ow_assign Z Z (lw_nil (ew_then (cw_ret (ew_blockR (ew_thenR ?_)))))))))
    obtain rfl := Option.some.inj h
    exact ew_ret (res1 Z (.tmp Z)) ⟨_, Z, ((vint _)), hC.bx⟩
   ·
    obtain rfl := hbb3.trans hc3
    refine cw_false Z (cw_seq (cw_region (lw_op Z Z Z (ow_eqlI Z Z Z fun bb4 hbb4 => lw_op Z Z Z (ow_assign Z Z (lw_nil (ew_then ?_)))))))
    replace h := cond_some h
    rcases h with ⟨hc4, h⟩ | ⟨hc4, h⟩
    ·
     obtain rfl := hbb4.trans hc4
     refine cw_true Z (cw_seq (cw_region (lw_op Z Z Z (ow_assign Z Z (lw_nil (ew_then (cw_ret (ew_blockR (ew_thenR ?_)))))))))
     obtain rfl := Option.some.inj h
     exact ew_ret (res1 Z (.tmp Z)) ⟨_, Z, ((vint _)), hC.bx⟩
    ·
     obtain rfl := hbb4.trans hc4
     refine cw_false Z (cw_skip (ew_blockN (ew_then (cw_seq (cw_region (lw_op Z Z Z (ow_assign Z Z (lw_nil (ew_then (cw_ret ?_))))))))))
     obtain rfl := Option.some.inj h
     exact ew_ret (res1 Z (.tmp Z)) ⟨_, Z, ((vint _)), hC.bx⟩


end Go.PF
