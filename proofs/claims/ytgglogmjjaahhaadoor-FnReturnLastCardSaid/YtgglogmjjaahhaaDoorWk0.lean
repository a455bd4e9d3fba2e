/- The walks; no condition. -/
import Derived.Test.YtgglogmjjaahhaaDoorProg
import Derived.Test.YtgglogmjjaahhaaDoorFun
import Derived.Test.YtgglogmjjaahhaaDoorPFDrop
set_option maxRecDepth 100000
set_option maxHeartbeats 4000000
namespace Go.PF
open Go Go.RowKit Go.Proofs

theorem info3 : ∃ i, Tryd.prog.info? 3 = some i ∧ i.zero = some (.int .i64 0) ∧ i.size = 1 ∧ i.bytes = 8 := info_parts (by kernel_rfl)
theorem info4 : ∃ i, Tryd.prog.info? 4 = some i ∧ i.zero = some (.bool false) ∧ i.size = 1 ∧ i.bytes = 1 := info_parts (by kernel_rfl)
theorem info31 : ∃ i, Tryd.prog.info? 31 = some i ∧ i.zero = some (.agg #[.int .i64 0, .int .i64 0, .int .i64 0, .bool false]) ∧ i.size = 4 ∧ i.bytes = 32 := info_parts (by kernel_rfl)
theorem info36 : ∃ i, Tryd.prog.info? 36 = some i ∧ i.zero = some (.slice none 0 0) ∧ i.size = 1 ∧ i.bytes = 24 := info_parts (by kernel_rfl)
theorem info42 : ∃ i, Tryd.prog.info? 42 = some i ∧ i.zero = some (.agg #[.slice none 0 0, .int .i64 0, .int .i64 0]) ∧ i.size = 3 ∧ i.bytes = 40 := info_parts (by kernel_rfl)
theorem info60 : ∃ i, Tryd.prog.info? 60 = some i ∧ i.zero = some (.agg #[.int .i64 0, .int .i64 0]) ∧ i.size = 2 ∧ i.bytes = 16 := info_parts (by kernel_rfl)
theorem info123 : ∃ i, Tryd.prog.info? 123 = some i ∧ i.zero = some (.agg #[.int .i64 0, .int .i64 0]) ∧ i.size = 2 ∧ i.bytes = 16 := info_parts (by kernel_rfl)
def actV : Act_ → Value
  | .deciding b => .iface 139 (.agg #[.bool b])
  | .calling c => .iface 141 (.agg #[.int .i64 c])
  | .returning => .iface 143 (.agg #[])
  | .passing => .iface 144 (.agg #[])
theorem w_impl_SpansHave {w : World} {M : Nat → Prop} (_hG : ARep (RArr 4 RShape) w M shapes ⟨0, 0, none⟩) (hO : ∀ b, M b → b < w.heap.size) {v0p : Value} {a_list : List Span} (h0 : VRep (RSlice RSpan) w M a_list v0p) {a_n : Int} {r : Bool} (h : F.impl_SpansHave a_list a_n = some r) :
  Calls Tryd.prog 54 [v0p, (.int .i64 a_n)].toArray w fun e w' => ∃ v, e = .returned v ∧ VRep RBool w' M r v ∧ BX No w w' := by
 have hC : Cx No w M w M := Cx.start hO (fun _ e => e.elim)
 clear _hG
 refine walk (N := 24) Tryd.func54 Z Tryd.ntmps54 Z (cw_seq (cw_region (lw_op Z Z Z (ow_assign Z Z (lw_nil (ew_then (cw_seq (cw_seq (cw_region (lw_op Z Z Z (ow_move Z Z (lw_op Z Z Z (ow_len Z Z h0 Tryd.underlying71 Z (lw_op Z Z Z (ow_move Z Z (lw_nil (ew_then ?_)))))))))))))))))
 replace h := bind_some h
 obtain ⟨lr1, hlr1, h⟩ := h
 refine cw_for hlr1 (fun s a w' => ∃ (M' : Nat → Prop), Fits 24 [(1, (Zv a_n)), (7, v0p), (8, (Zv (a_list.length : Int))), (9, (Zv s))] a ∧ Le w M w' M' ∧ Cx No w M w' M') ?_ ?_ ?_
 · exact fun a ha => ⟨M, ha.sub ⟨Z, Z, Z, Z, Zt⟩, Le.refl _ _, hC⟩
 ·
  rintro k1 a w1 sr1 ⟨M1, hF1, hl1, hC1⟩ hb1 hR1
  refine cw_at (E := [(1, (Zv a_n)), (7, v0p), (8, (Zv (a_list.length : Int))), (9, (Zv k1))]) hF1 (cw_seq (cw_region (lw_op Z Z Z (ow_lss Z Z Z fun bb1 hbb1 => lw_nil (ew_then (cw_seq ?_))))))
  replace hb1 := cond_some hb1
  rcases hb1 with ⟨hc1, hb1⟩ | ⟨hc1, hb1⟩
  ·
   obtain rfl := hbb1.trans hc1
   refine cw_true Z (cw_skip (ew_then (cw_seq (cw_block (cw_seq (cw_region ?_))))))
   replace hb1 := bind_some hb1
   obtain ⟨x1, hx1, hb1⟩ := hb1
   refine lw_op Z Z Z (ow_indexSlice (R := RSpan) Z Z Z (VRep.mono hl1 h0) Tryd.underlying71 (Tryd.sizeOf79 _) hx1 fun p1 hp1 => lw_op Z Z Z (ow_load (R := RSpan) Z Z hp1 (Tryd.sizeOf79 _) (Tryd.isAgg79 _) fun v2 hv2 => lw_allocStore (R := RSpan) Z Z Z Z Z Z Z Tryd.zeroValue79 Tryd.sizeOf79 Z Z Z (by simp) hv2 hC1 fun p2 w2 hp2 hb2 hl2 hC2 => lw_nil (ew_then (cw_seq (cw_region (lw_op Z Z Z (ow_fieldAddr Z Z Tryd.underlying79 Z (Tryd.sizeOf3 _) (lw_op Z Z Z (ow_load (R := RInt) Z Z (hp2.fld fld_Span_Lo) (Tryd.sizeOf3 _) (Tryd.isAgg3 _) fun v3 hv3 => ?_)))))))))
   obtain rfl := vint_eq hv3
   refine lw_op Z Z Z (ow_move Z Z (lw_op Z Z Z (ow_leq Z Z Z fun bb2 hbb2 => lw_op Z Z Z (ow_move Z Z ?_))))
   replace hb1 := cond_some hb1
   rcases hb1 with ⟨hc2, hb1⟩ | ⟨hc2, hb1⟩
   ·
    obtain rfl := hbb2.trans hc2
    refine lw_on Z Z Z Z Z Z (ow_move Z Z (lw_on Z Z Z Z Z Z (ow_fieldAddr Z Z Tryd.underlying79 Z (Tryd.sizeOf3 _) (lw_on Z Z Z Z Z Z (ow_load (R := RInt) Z Z (hp2.fld fld_Span_Hi) (Tryd.sizeOf3 _) (Tryd.isAgg3 _) fun v4 hv4 => ?_)))))
    obtain rfl := vint_eq hv4
    refine lw_on Z Z Z Z Z Z (ow_leq Z Z Z fun bb3 hbb3 => lw_op Z Z Z (ow_pickT Z Z Z (lw_nil (ew_then ?_))))
    replace hb1 := cond_some hb1
    rcases hb1 with ⟨hc3, hb1⟩ | ⟨hc3, hb1⟩
    ·
     obtain rfl := hbb3.trans hc3
     refine cw_true Z (cw_seq (cw_region (lw_op Z Z Z (ow_assign Z Z (lw_nil (ew_then (cw_ret (ew_blockR (ew_thenR (ew_thenR (ew_blockR (ew_brkR (ew_thenR ?_)))))))))))))
     have e1 := hR1 _ (sj hb1).symm
     subst e1
     obtain rfl := sj h
     exact ew_ret (res1 Z (.tmp Z)) ⟨_, Z, ((vbool _)), hC2.bx⟩
    ·
     obtain rfl := hbb3.trans hc3
     exact cw_false Z (cw_skip (ew_blockN (ew_then (cw_region (lw_op Z Z Z (ow_add Z Z Z (lw_op Z Z Z (ow_move Z Z (lw_nil (ew_nxt (W (k1 + 1)) hb1 fun a ha => ⟨M1, (ha.sub ⟨Z, Z, Z, Z, Zt⟩), (hl1.trans hl2), hC2⟩))))))))))
   ·
    obtain rfl := hbb2.trans hc2
    exact lw_off Z Z Z Z Z Z (lw_off Z Z Z Z Z Z (lw_off Z Z Z Z Z Z (lw_off Z Z Z Z Z Z (lw_op Z Z Z (ow_pickF Z Z Z (lw_nil (ew_then (cw_false Z (cw_skip (ew_blockN (ew_then (cw_region (lw_op Z Z Z (ow_add Z Z Z (lw_op Z Z Z (ow_move Z Z (lw_nil (ew_nxt (W (k1 + 1)) hb1 fun a ha => ⟨M1, (ha.sub ⟨Z, Z, Z, Z, Zt⟩), (hl1.trans hl2), hC2⟩))))))))))))))))))
  ·
   obtain rfl := hbb1.trans hc1
   exact cw_false Z (cw_exit (ew_thenX (ew_thenX (ew_blockX (ew_brk k1 hb1 fun a ha => ⟨M1, (ha.sub ⟨Z, Z, Z, Z, Zt⟩), hl1, hC1⟩)))))
 ·
  rintro k2 a w3 hlr2 ⟨M2, hF2, hl3, hC3⟩
  subst hlr2
  refine ew_at (E := [(1, (Zv a_n)), (7, v0p), (8, (Zv (a_list.length : Int))), (9, (Zv k2))]) hF2 (ew_then (cw_seq (cw_region (lw_op Z Z Z (ow_assign Z Z (lw_nil (ew_then (cw_ret ?_))))))))
  obtain rfl := sj h
  exact ew_ret (res1 Z (.tmp Z)) ⟨_, Z, ((vbool _)), hC3.bx⟩

theorem w_laws_alive {w : World} {M : Nat → Prop} (hG : ARep (RArr 4 RShape) w M shapes ⟨0, 0, none⟩) (hO : ∀ b, M b → b < w.heap.size)  {r : Bool} (h : F.laws_alive = some r) :
  Calls Tryd.prog 18 [].toArray w fun e w' => ∃ v, e = .returned v ∧ VRep RBool w' M r v ∧ BX No w w' := by
 have hC : Cx No w M w M := Cx.start hO (fun _ e => e.elim)
 refine walk (N := 4) Tryd.func18 Z Tryd.ntmps18 Z (cw_seq (cw_region (lw_op Z Z Z (ow_assign Z Z (lw_nil (ew_then (cw_seq (cw_region (lw_op Z Z Z (ow_build (v := .agg #[(Zv 2), (Zv 4)]) Z Z (by kernel_rfl) ?_))))))))))
 have hw1 : VRep RSpan w M ({ Lo := 2, Hi := 4 } : Span) (.agg #[(Zv 2), (Zv 4)]) := shut_Span
 refine lw_op Z Z Z (ow_buildSlice (R := RSpan) (xs := [({ Lo := 2, Hi := 4 } : Span)]) (cs := #[(Zv 2), (Zv 4)]) (e := 79) Z Z (by kernel_rfl) Z Z ⟨_, _, Z, hw1.cells, Z⟩ hC fun p1 w1 hw2 hb1 hl1 hC1 => ?_)
 replace h := bind_some h
 obtain ⟨x1, hx1, h⟩ := h
 refine lw_op Z Z Z (ow_call Z Z Tryd.call54 (w_impl_SpansHave (hG.mono hl1) hC1.old hw2 hx1) fun v1 w2 hv1 => ?_)
 obtain ⟨hv1, hb2⟩ := hv1
 have hC2 := hC1.no hb2
 obtain rfl := vbool_eq hv1
 refine lw_op Z Z Z (ow_assign Z Z (lw_nil (ew_then (cw_ret ?_))))
 obtain rfl := sj h
 exact ew_ret (res1 Z (.tmp Z)) ⟨_, Z, ((vbool _)), hC2.bx⟩

theorem w_impl_FieldTop {w : World} {M : Nat → Prop} (hG : ARep (RArr 4 RShape) w M shapes ⟨0, 0, none⟩) (hO : ∀ b, M b → b < w.heap.size) {a_n : Int} {r : Int} (h : F.impl_FieldTop a_n = some r) :
  Calls Tryd.prog 83 [(.int .i64 a_n)].toArray w fun e w' => ∃ v, e = .returned v ∧ VRep RInt w' M r v ∧ BX No w w' := by
 have hC : Cx No w M w M := Cx.start hO (fun _ e => e.elim)
 refine walk (N := 13) Tryd.func83 Z Tryd.ntmps83 Z (cw_seq (cw_region (lw_op Z Z Z (ow_assign Z Z (lw_nil (ew_then (cw_seq (cw_seq (cw_region (lw_op Z Z Z (ow_move Z Z (lw_op Z Z Z (ow_lss Z Z Z fun bb1 hbb1 => lw_op Z Z Z (ow_move Z Z ?_))))))))))))))
 replace h := cond_some h
 rcases h with ⟨hc1, h⟩ | ⟨hc1, h⟩
 ·
  obtain rfl := hbb1.trans hc1
  refine lw_off Z Z Z Z Z Z (lw_off Z Z Z Z Z Z (lw_op Z Z Z (ow_pickT Z Z Z (lw_nil (ew_then (cw_true Z (cw_seq (cw_region (lw_op Z Z Z (ow_assign Z Z (lw_nil (ew_then (cw_ret (ew_thenR ?_))))))))))))))
  obtain rfl := sj h
  exact ew_ret (res1 Z (.tmp Z)) ⟨_, Z, ((vint _)), hC.bx⟩
 ·
  obtain rfl := hbb1.trans hc1
  refine lw_on Z Z Z Z Z Z (ow_move Z Z (lw_on Z Z Z Z Z Z (ow_geq Z Z Z fun bb2 hbb2 => lw_op Z Z Z (ow_pickF Z Z Z (lw_nil (ew_then ?_))))))
  replace h := cond_some h
  rcases h with ⟨hc2, h⟩ | ⟨hc2, h⟩
  ·
   obtain rfl := hbb2.trans hc2
   refine cw_true Z (cw_seq (cw_region (lw_op Z Z Z (ow_assign Z Z (lw_nil (ew_then (cw_ret (ew_thenR ?_))))))))
   obtain rfl := sj h
   exact ew_ret (res1 Z (.tmp Z)) ⟨_, Z, ((vint _)), hC.bx⟩
  ·
   obtain rfl := hbb2.trans hc2
   refine cw_false Z (cw_skip (ew_then (cw_seq (cw_region (lw_op Z Z Z (ow_move Z Z ?_))))))
   replace h := bind_some h
   obtain ⟨x1, hx1, h⟩ := h
   refine lw_op Z Z Z (ow_indexArr (R := RShape) Z Z Z hG Tryd.underlying77 (Tryd.sizeOf76 _) hx1 fun p1 hp1 => lw_op Z Z Z (ow_fieldAddr Z Z Tryd.underlying76 Z (Tryd.sizeOf3 _) (lw_op Z Z Z (ow_load (R := RInt) Z Z (hp1.fld fld_Shape_top) (Tryd.sizeOf3 _) (Tryd.isAgg3 _) fun v1 hv1 => ?_))))
   obtain rfl := vint_eq hv1
   refine lw_op Z Z Z (ow_assign Z Z (lw_nil (ew_then (cw_ret ?_))))
   obtain rfl := sj h
   exact ew_ret (res1 Z (.tmp Z)) ⟨_, Z, ((vint _)), hC.bx⟩

theorem w_impl_TestValid {w : World} {M : Nat → Prop} (hG : ARep (RArr 4 RShape) w M shapes ⟨0, 0, none⟩) (hO : ∀ b, M b → b < w.heap.size) {v0p : Value} {a_t : Test} (h0 : VRep RTest w M a_t v0p) {r : Bool} (h : F.impl_TestValid a_t = some r) :
  Calls Tryd.prog 85 [v0p].toArray w fun e w' => ∃ v, e = .returned v ∧ VRep RBool w' M r v ∧ BX No w w' := by
 have hC : Cx No w M w M := Cx.start hO (fun _ e => e.elim)
 refine walk (N := 31) Tryd.func85 Z Tryd.ntmps85 Z (cw_seq (cw_region (lw_op Z Z Z (ow_box (R := RTest) Z Z h0 hC fun p1 w1 hp1 hb1 hl1 hC1 => lw_op Z Z Z (ow_assign Z Z (lw_nil (ew_then (cw_seq ?_))))))))
 replace h := cond_some h
 rcases h with ⟨hc1, h⟩ | ⟨hc1, h⟩
 ·
  replace h := cond_some h
  rcases h with ⟨hc2, h⟩ | ⟨hc2, h⟩
  ·
   replace h := cond_some h
   rcases h with ⟨hc3, h⟩ | ⟨hc3, h⟩
   ·
    replace h := cond_some h
    rcases h with ⟨hc4, h⟩ | ⟨hc4, h⟩
    ·
     replace h := bind_some h
     obtain ⟨x1, hx1, h⟩ := h
     refine cw_sub (E' := [(1, (.pointer (some p1))), (2, (.bool false))]) ⟨Z, Z, Zt⟩ (cw_drawQ 26 [PA RInt M a_t.Field, PEq (Zv a_t.Field), PEq (.bool true), PEq (.bool true), PA RInt M a_t.Field, PEq (Zv a_t.Field), PEq (.bool true), PEq (.bool true), PEq (.bool true), PA RInt M a_t.Lo, PEq (Zv a_t.Lo), PEq (.bool true), PEq (.bool true), PEq (.bool true), PA RInt M a_t.Lo, PEq (Zv a_t.Lo), PA RInt M a_t.Hi, PEq (Zv a_t.Hi), PEq (.bool true), PEq (.bool true), PEq (.bool true), PA RInt M a_t.Hi, PEq (Zv a_t.Hi), PA RInt M a_t.Field, PEq (Zv a_t.Field), PEq (Zv x1)] (by kernel_rfl) Z (by kernel_rfl) ⟨PA.mono _ _ _, Zq, Zq, Zq, PA.mono _ _ _, Zq, Zq, Zq, Zq, PA.mono _ _ _, Zq, Zq, Zq, Zq, PA.mono _ _ _, Zq, PA.mono _ _ _, Zq, Zq, Zq, Zq, PA.mono _ _ _, Zq, PA.mono _ _ _, Zq, Zq, Zt⟩ ⟨?_, ?_, ?_, ?_, ?_, ?_, ?_, ?_, ?_, ?_, ?_, ?_, ?_, ?_, ?_, ?_, ?_, ?_, ?_, ?_, ?_, ?_, ?_, ?_, ?_, ?_, Zt⟩ ?_)
     ·
      intro w3 D hS1 hd1
      have hl3 := Le.no M hS1
      exact dg_sub (E' := [(1, (.pointer (some p1)))]) ⟨Z, Zt⟩ (dg_plain Z (ow_fieldAddr Z Z Tryd.underlying31 Z (Tryd.sizeOf3 _) ⟨BX.refl _ _, ⟨_, Z, (ARep.mono hl3 (hp1.fld fld_Test_Field))⟩⟩))
     ·
      intro w4 D hS2 hd2
      have d1 : PA RInt M a_t.Field (D 0) w4 := dpA hd2 0 Z
      obtain ⟨p2, e1, ha1⟩ := d1
      refine dg_sub (E' := [(3, (.pointer (some p2)))]) ⟨congrArg some e1, Zt⟩ (dg_plain Z (ow_load (R := RInt) Z Z ha1 (Tryd.sizeOf3 _) (Tryd.isAgg3 _) fun v9 hv9 => ?_))
      obtain rfl := vint_eq hv9
      exact Zb
     ·
      intro w5 D hS3 hd3
      refine dg_sub (E' := [(4, (Zv a_t.Field))]) ⟨dpE hd3 1 Z Z, Zt⟩ (dg_plain Z (ow_geq Z Z Z fun bb5 hbb5 => ?_))
      obtain rfl := hbb5.trans hc1
      exact Zb
     · exact fun w6 D hS4 hd4 => dg_sub (E' := [(5, (.bool true))]) ⟨dpE hd4 2 Z Z, Zt⟩ (dg_plain Z (ow_move Z Z Zb))
     ·
      intro w7 D hS5 hd5
      have hl7 := Le.no M hS5
      exact dg_sub (E' := [(6, (.bool true)), (1, (.pointer (some p1)))]) ⟨dpE hd5 3 Z Z, Z, Zt⟩ (dg_on Z Z Z Z (ow_fieldAddr Z Z Tryd.underlying31 Z (Tryd.sizeOf3 _) ⟨BX.refl _ _, ⟨_, Z, (ARep.mono hl7 (hp1.fld fld_Test_Field))⟩⟩))
     ·
      intro w8 D hS6 hd6
      have d5 : PA RInt M a_t.Field (D 4) w8 := dpA hd6 4 Z
      obtain ⟨p3, e2, ha2⟩ := d5
      refine dg_sub (E' := [(7, (.pointer (some p3))), (6, (.bool true))]) ⟨congrArg some e2, dpE hd6 3 Z Z, Zt⟩ (dg_on Z Z Z Z (ow_load (R := RInt) Z Z ha2 (Tryd.sizeOf3 _) (Tryd.isAgg3 _) fun v10 hv10 => ?_))
      obtain rfl := vint_eq hv10
      exact Zb
     ·
      intro w9 D hS7 hd7
      refine dg_sub (E' := [(8, (Zv a_t.Field)), (6, (.bool true))]) ⟨dpE hd7 5 Z Z, dpE hd7 3 Z Z, Zt⟩ (dg_on Z Z Z Z (ow_lss Z Z Z fun bb6 hbb6 => ?_))
      obtain rfl := hbb6.trans hc2
      exact Zb
     · exact fun w10 D hS8 hd8 => dg_sub (E' := [(6, (.bool true)), (9, (.bool true))]) ⟨dpE hd8 3 Z Z, dpE hd8 6 Z Z, Zt⟩ (dg_plain Z (ow_pickT Z Z Z Zb))
     · exact fun w11 D hS9 hd9 => dg_sub (E' := [(10, (.bool true))]) ⟨dpE hd9 7 Z Z, Zt⟩ (dg_plain Z (ow_move Z Z Zb))
     ·
      intro w12 D hS10 hd10
      have hl12 := Le.no M hS10
      exact dg_sub (E' := [(11, (.bool true)), (1, (.pointer (some p1)))]) ⟨dpE hd10 8 Z Z, Z, Zt⟩ (dg_on Z Z Z Z (ow_fieldAddr Z Z Tryd.underlying31 Z (Tryd.sizeOf3 _) ⟨BX.refl _ _, ⟨_, Z, (ARep.mono hl12 (hp1.fld fld_Test_Lo))⟩⟩))
     ·
      intro w13 D hS11 hd11
      have d14 : PA RInt M a_t.Lo (D 9) w13 := dpA hd11 9 Z
      obtain ⟨p4, e3, ha3⟩ := d14
      refine dg_sub (E' := [(12, (.pointer (some p4))), (11, (.bool true))]) ⟨congrArg some e3, dpE hd11 8 Z Z, Zt⟩ (dg_on Z Z Z Z (ow_load (R := RInt) Z Z ha3 (Tryd.sizeOf3 _) (Tryd.isAgg3 _) fun v11 hv11 => ?_))
      obtain rfl := vint_eq hv11
      exact Zb
     ·
      intro w14 D hS12 hd12
      refine dg_sub (E' := [(13, (Zv a_t.Lo)), (11, (.bool true))]) ⟨dpE hd12 10 Z Z, dpE hd12 8 Z Z, Zt⟩ (dg_on Z Z Z Z (ow_geq Z Z Z fun bb7 hbb7 => ?_))
      obtain rfl := hbb7.trans hc3
      exact Zb
     · exact fun w15 D hS13 hd13 => dg_sub (E' := [(11, (.bool true)), (14, (.bool true))]) ⟨dpE hd13 8 Z Z, dpE hd13 11 Z Z, Zt⟩ (dg_plain Z (ow_pickT Z Z Z Zb))
     · exact fun w16 D hS14 hd14 => dg_sub (E' := [(15, (.bool true))]) ⟨dpE hd14 12 Z Z, Zt⟩ (dg_plain Z (ow_move Z Z Zb))
     ·
      intro w17 D hS15 hd15
      have hl17 := Le.no M hS15
      exact dg_sub (E' := [(16, (.bool true)), (1, (.pointer (some p1)))]) ⟨dpE hd15 13 Z Z, Z, Zt⟩ (dg_on Z Z Z Z (ow_fieldAddr Z Z Tryd.underlying31 Z (Tryd.sizeOf3 _) ⟨BX.refl _ _, ⟨_, Z, (ARep.mono hl17 (hp1.fld fld_Test_Lo))⟩⟩))
     ·
      intro w18 D hS16 hd16
      have d23 : PA RInt M a_t.Lo (D 14) w18 := dpA hd16 14 Z
      obtain ⟨p5, e4, ha4⟩ := d23
      refine dg_sub (E' := [(17, (.pointer (some p5))), (16, (.bool true))]) ⟨congrArg some e4, dpE hd16 13 Z Z, Zt⟩ (dg_on Z Z Z Z (ow_load (R := RInt) Z Z ha4 (Tryd.sizeOf3 _) (Tryd.isAgg3 _) fun v12 hv12 => ?_))
      obtain rfl := vint_eq hv12
      exact Zb
     ·
      intro w19 D hS17 hd17
      have hl19 := Le.no M hS17
      exact dg_sub (E' := [(16, (.bool true)), (1, (.pointer (some p1)))]) ⟨dpE hd17 13 Z Z, Z, Zt⟩ (dg_on Z Z Z Z (ow_fieldAddr Z Z Tryd.underlying31 Z (Tryd.sizeOf3 _) ⟨BX.refl _ _, ⟨_, Z, (ARep.mono hl19 (hp1.fld fld_Test_Hi))⟩⟩))
     ·
      intro w20 D hS18 hd18
      have d26 : PA RInt M a_t.Hi (D 16) w20 := dpA hd18 16 Z
      obtain ⟨p6, e5, ha5⟩ := d26
      refine dg_sub (E' := [(19, (.pointer (some p6))), (16, (.bool true))]) ⟨congrArg some e5, dpE hd18 13 Z Z, Zt⟩ (dg_on Z Z Z Z (ow_load (R := RInt) Z Z ha5 (Tryd.sizeOf3 _) (Tryd.isAgg3 _) fun v13 hv13 => ?_))
      obtain rfl := vint_eq hv13
      exact Zb
     ·
      intro w21 D hS19 hd19
      refine dg_sub (E' := [(18, (Zv a_t.Lo)), (20, (Zv a_t.Hi)), (16, (.bool true))]) ⟨dpE hd19 15 Z Z, dpE hd19 17 Z Z, dpE hd19 13 Z Z, Zt⟩ (dg_on Z Z Z Z (ow_leq Z Z Z fun bb8 hbb8 => ?_))
      obtain rfl := hbb8.trans hc4
      exact Zb
     · exact fun w22 D hS20 hd20 => dg_sub (E' := [(16, (.bool true)), (21, (.bool true))]) ⟨dpE hd20 13 Z Z, dpE hd20 18 Z Z, Zt⟩ (dg_plain Z (ow_pickT Z Z Z Zb))
     · exact fun w23 D hS21 hd21 => dg_sub (E' := [(22, (.bool true))]) ⟨dpE hd21 19 Z Z, Zt⟩ (dg_plain Z (ow_move Z Z Zb))
     ·
      intro w24 D hS22 hd22
      have hl24 := Le.no M hS22
      exact dg_sub (E' := [(23, (.bool true)), (1, (.pointer (some p1)))]) ⟨dpE hd22 20 Z Z, Z, Zt⟩ (dg_on Z Z Z Z (ow_fieldAddr Z Z Tryd.underlying31 Z (Tryd.sizeOf3 _) ⟨BX.refl _ _, ⟨_, Z, (ARep.mono hl24 (hp1.fld fld_Test_Hi))⟩⟩))
     ·
      intro w25 D hS23 hd23
      have d36 : PA RInt M a_t.Hi (D 21) w25 := dpA hd23 21 Z
      obtain ⟨p7, e6, ha6⟩ := d36
      refine dg_sub (E' := [(24, (.pointer (some p7))), (23, (.bool true))]) ⟨congrArg some e6, dpE hd23 20 Z Z, Zt⟩ (dg_on Z Z Z Z (ow_load (R := RInt) Z Z ha6 (Tryd.sizeOf3 _) (Tryd.isAgg3 _) fun v14 hv14 => ?_))
      obtain rfl := vint_eq hv14
      exact Zb
     ·
      intro w26 D hS24 hd24
      have hl26 := Le.no M hS24
      exact dg_sub (E' := [(23, (.bool true)), (1, (.pointer (some p1)))]) ⟨dpE hd24 20 Z Z, Z, Zt⟩ (dg_on Z Z Z Z (ow_fieldAddr Z Z Tryd.underlying31 Z (Tryd.sizeOf3 _) ⟨BX.refl _ _, ⟨_, Z, (ARep.mono hl26 (hp1.fld fld_Test_Field))⟩⟩))
     ·
      intro w27 D hS25 hd25
      have d39 : PA RInt M a_t.Field (D 23) w27 := dpA hd25 23 Z
      obtain ⟨p8, e7, ha7⟩ := d39
      refine dg_sub (E' := [(26, (.pointer (some p8))), (23, (.bool true))]) ⟨congrArg some e7, dpE hd25 20 Z Z, Zt⟩ (dg_on Z Z Z Z (ow_load (R := RInt) Z Z ha7 (Tryd.sizeOf3 _) (Tryd.isAgg3 _) fun v15 hv15 => ?_))
      obtain rfl := vint_eq hv15
      exact Zb
     ·
      intro w28 D hS26 hd26
      have hl28 := Le.no M hS26
      have hC28 := hC1.no hS26
      refine dg_sub (E' := [(27, (Zv a_t.Field)), (23, (.bool true))]) ⟨dpE hd26 24 Z Z, dpE hd26 20 Z Z, Zt⟩ (dg_on Z Z Z Z (ow_call Z Z Tryd.call83 (w_impl_FieldTop (hG.mono (hl1.trans hl28)) hC28.old hx1) fun v16 w29 hv16 => ?_))
      obtain ⟨hv16, hb3⟩ := hv16
      obtain rfl := vint_eq hv16
      exact ⟨hb3, Z⟩
     ·
      intro w30 D hS27 hd27
      have hC30 := hC1.no hS27
      refine lw_sub (E' := [(23, (.bool true)), (25, (Zv a_t.Hi)), (28, (Zv x1)), (1, (.pointer (some p1))), (2, (.bool false))]) ⟨dpE hd27 20 Z Z, dpE hd27 22 Z Z, dpE hd27 25 Z Z, Z, Z, Zt⟩ (lw_on Z Z Z Z Z Z (ow_leq Z Z Z fun bb9 hbb9 => lw_op Z Z Z (ow_pickT Z Z Z (lw_op Z Z Z (ow_assign Z Z (lw_nil (ew_then (cw_ret ?_))))))))
      obtain rfl := sj h
      exact ew_ret (res1 Z (.tmp Z)) ⟨_, Z, ((vbool_of hbb9)), hC30.bx⟩
    ·
     refine cw_sub (E' := [(1, (.pointer (some p1))), (2, (.bool false))]) ⟨Z, Z, Zt⟩ (cw_drawQ 26 [PA RInt M a_t.Field, PEq (Zv a_t.Field), PEq (.bool true), PEq (.bool true), PA RInt M a_t.Field, PEq (Zv a_t.Field), PEq (.bool true), PEq (.bool true), PEq (.bool true), PA RInt M a_t.Lo, PEq (Zv a_t.Lo), PEq (.bool true), PEq (.bool true), PEq (.bool true), PA RInt M a_t.Lo, PEq (Zv a_t.Lo), PA RInt M a_t.Hi, PEq (Zv a_t.Hi), PEq (.bool false), PEq (.bool false), PEq (.bool false), PEq undef, PEq undef, PEq undef, PEq undef, PEq undef] (by kernel_rfl) Z (by kernel_rfl) ⟨PA.mono _ _ _, Zq, Zq, Zq, PA.mono _ _ _, Zq, Zq, Zq, Zq, PA.mono _ _ _, Zq, Zq, Zq, Zq, PA.mono _ _ _, Zq, PA.mono _ _ _, Zq, Zq, Zq, Zq, Zq, Zq, Zq, Zq, Zq, Zt⟩ ⟨?_, ?_, ?_, ?_, ?_, ?_, ?_, ?_, ?_, ?_, ?_, ?_, ?_, ?_, ?_, ?_, ?_, ?_, ?_, ?_, ?_, ?_, ?_, ?_, ?_, ?_, Zt⟩ ?_)
     ·
      intro w31 D hS28 hd28
      have hl31 := Le.no M hS28
      exact dg_sub (E' := [(1, (.pointer (some p1)))]) ⟨Z, Zt⟩ (dg_plain Z (ow_fieldAddr Z Z Tryd.underlying31 Z (Tryd.sizeOf3 _) ⟨BX.refl _ _, ⟨_, Z, (ARep.mono hl31 (hp1.fld fld_Test_Field))⟩⟩))
     ·
      intro w32 D hS29 hd29
      have d70 : PA RInt M a_t.Field (D 0) w32 := dpA hd29 0 Z
      obtain ⟨p9, e8, ha8⟩ := d70
      refine dg_sub (E' := [(3, (.pointer (some p9)))]) ⟨congrArg some e8, Zt⟩ (dg_plain Z (ow_load (R := RInt) Z Z ha8 (Tryd.sizeOf3 _) (Tryd.isAgg3 _) fun v17 hv17 => ?_))
      obtain rfl := vint_eq hv17
      exact Zb
     ·
      intro w33 D hS30 hd30
      refine dg_sub (E' := [(4, (Zv a_t.Field))]) ⟨dpE hd30 1 Z Z, Zt⟩ (dg_plain Z (ow_geq Z Z Z fun bb10 hbb10 => ?_))
      obtain rfl := hbb10.trans hc1
      exact Zb
     · exact fun w34 D hS31 hd31 => dg_sub (E' := [(5, (.bool true))]) ⟨dpE hd31 2 Z Z, Zt⟩ (dg_plain Z (ow_move Z Z Zb))
     ·
      intro w35 D hS32 hd32
      have hl35 := Le.no M hS32
      exact dg_sub (E' := [(6, (.bool true)), (1, (.pointer (some p1)))]) ⟨dpE hd32 3 Z Z, Z, Zt⟩ (dg_on Z Z Z Z (ow_fieldAddr Z Z Tryd.underlying31 Z (Tryd.sizeOf3 _) ⟨BX.refl _ _, ⟨_, Z, (ARep.mono hl35 (hp1.fld fld_Test_Field))⟩⟩))
     ·
      intro w36 D hS33 hd33
      have d74 : PA RInt M a_t.Field (D 4) w36 := dpA hd33 4 Z
      obtain ⟨p10, e9, ha9⟩ := d74
      refine dg_sub (E' := [(7, (.pointer (some p10))), (6, (.bool true))]) ⟨congrArg some e9, dpE hd33 3 Z Z, Zt⟩ (dg_on Z Z Z Z (ow_load (R := RInt) Z Z ha9 (Tryd.sizeOf3 _) (Tryd.isAgg3 _) fun v18 hv18 => ?_))
      obtain rfl := vint_eq hv18
      exact Zb
     ·
      intro w37 D hS34 hd34
      refine dg_sub (E' := [(8, (Zv a_t.Field)), (6, (.bool true))]) ⟨dpE hd34 5 Z Z, dpE hd34 3 Z Z, Zt⟩ (dg_on Z Z Z Z (ow_lss Z Z Z fun bb11 hbb11 => ?_))
      obtain rfl := hbb11.trans hc2
      exact Zb
     · exact fun w38 D hS35 hd35 => dg_sub (E' := [(6, (.bool true)), (9, (.bool true))]) ⟨dpE hd35 3 Z Z, dpE hd35 6 Z Z, Zt⟩ (dg_plain Z (ow_pickT Z Z Z Zb))
     · exact fun w39 D hS36 hd36 => dg_sub (E' := [(10, (.bool true))]) ⟨dpE hd36 7 Z Z, Zt⟩ (dg_plain Z (ow_move Z Z Zb))
     ·
      intro w40 D hS37 hd37
      have hl40 := Le.no M hS37
      exact dg_sub (E' := [(11, (.bool true)), (1, (.pointer (some p1)))]) ⟨dpE hd37 8 Z Z, Z, Zt⟩ (dg_on Z Z Z Z (ow_fieldAddr Z Z Tryd.underlying31 Z (Tryd.sizeOf3 _) ⟨BX.refl _ _, ⟨_, Z, (ARep.mono hl40 (hp1.fld fld_Test_Lo))⟩⟩))
     ·
      intro w41 D hS38 hd38
      have d83 : PA RInt M a_t.Lo (D 9) w41 := dpA hd38 9 Z
      obtain ⟨p11, e10, ha10⟩ := d83
      refine dg_sub (E' := [(12, (.pointer (some p11))), (11, (.bool true))]) ⟨congrArg some e10, dpE hd38 8 Z Z, Zt⟩ (dg_on Z Z Z Z (ow_load (R := RInt) Z Z ha10 (Tryd.sizeOf3 _) (Tryd.isAgg3 _) fun v19 hv19 => ?_))
      obtain rfl := vint_eq hv19
      exact Zb
     ·
      intro w42 D hS39 hd39
      refine dg_sub (E' := [(13, (Zv a_t.Lo)), (11, (.bool true))]) ⟨dpE hd39 10 Z Z, dpE hd39 8 Z Z, Zt⟩ (dg_on Z Z Z Z (ow_geq Z Z Z fun bb12 hbb12 => ?_))
      obtain rfl := hbb12.trans hc3
      exact Zb
     · exact fun w43 D hS40 hd40 => dg_sub (E' := [(11, (.bool true)), (14, (.bool true))]) ⟨dpE hd40 8 Z Z, dpE hd40 11 Z Z, Zt⟩ (dg_plain Z (ow_pickT Z Z Z Zb))
     · exact fun w44 D hS41 hd41 => dg_sub (E' := [(15, (.bool true))]) ⟨dpE hd41 12 Z Z, Zt⟩ (dg_plain Z (ow_move Z Z Zb))
     ·
      intro w45 D hS42 hd42
      have hl45 := Le.no M hS42
      exact dg_sub (E' := [(16, (.bool true)), (1, (.pointer (some p1)))]) ⟨dpE hd42 13 Z Z, Z, Zt⟩ (dg_on Z Z Z Z (ow_fieldAddr Z Z Tryd.underlying31 Z (Tryd.sizeOf3 _) ⟨BX.refl _ _, ⟨_, Z, (ARep.mono hl45 (hp1.fld fld_Test_Lo))⟩⟩))
     ·
      intro w46 D hS43 hd43
      have d92 : PA RInt M a_t.Lo (D 14) w46 := dpA hd43 14 Z
      obtain ⟨p12, e11, ha11⟩ := d92
      refine dg_sub (E' := [(17, (.pointer (some p12))), (16, (.bool true))]) ⟨congrArg some e11, dpE hd43 13 Z Z, Zt⟩ (dg_on Z Z Z Z (ow_load (R := RInt) Z Z ha11 (Tryd.sizeOf3 _) (Tryd.isAgg3 _) fun v20 hv20 => ?_))
      obtain rfl := vint_eq hv20
      exact Zb
     ·
      intro w47 D hS44 hd44
      have hl47 := Le.no M hS44
      exact dg_sub (E' := [(16, (.bool true)), (1, (.pointer (some p1)))]) ⟨dpE hd44 13 Z Z, Z, Zt⟩ (dg_on Z Z Z Z (ow_fieldAddr Z Z Tryd.underlying31 Z (Tryd.sizeOf3 _) ⟨BX.refl _ _, ⟨_, Z, (ARep.mono hl47 (hp1.fld fld_Test_Hi))⟩⟩))
     ·
      intro w48 D hS45 hd45
      have d95 : PA RInt M a_t.Hi (D 16) w48 := dpA hd45 16 Z
      obtain ⟨p13, e12, ha12⟩ := d95
      refine dg_sub (E' := [(19, (.pointer (some p13))), (16, (.bool true))]) ⟨congrArg some e12, dpE hd45 13 Z Z, Zt⟩ (dg_on Z Z Z Z (ow_load (R := RInt) Z Z ha12 (Tryd.sizeOf3 _) (Tryd.isAgg3 _) fun v21 hv21 => ?_))
      obtain rfl := vint_eq hv21
      exact Zb
     ·
      intro w49 D hS46 hd46
      refine dg_sub (E' := [(18, (Zv a_t.Lo)), (20, (Zv a_t.Hi)), (16, (.bool true))]) ⟨dpE hd46 15 Z Z, dpE hd46 17 Z Z, dpE hd46 13 Z Z, Zt⟩ (dg_on Z Z Z Z (ow_leq Z Z Z fun bb13 hbb13 => ?_))
      obtain rfl := hbb13.trans hc4
      exact Zb
     · exact fun w50 D hS47 hd47 => dg_sub (E' := [(16, (.bool true)), (21, (.bool false))]) ⟨dpE hd47 13 Z Z, dpE hd47 18 Z Z, Zt⟩ (dg_plain Z (ow_pickT Z Z Z Zb))
     · exact fun w51 D hS48 hd48 => dg_sub (E' := [(22, (.bool false))]) ⟨dpE hd48 19 Z Z, Zt⟩ (dg_plain Z (ow_move Z Z Zb))
     · exact fun w52 D hS49 hd49 => dg_sub (E' := [(23, (.bool false)), (1, (.pointer (some p1)))]) ⟨dpE hd49 20 Z Z, Z, Zt⟩ (dg_off Z Z Z Z Zb)
     · exact fun w53 D hS50 hd50 => dg_sub (E' := [(24, undef), (23, (.bool false))]) ⟨dpE hd50 21 Z Z, dpE hd50 20 Z Z, Zt⟩ (dg_off Z Z Z Z Zb)
     · exact fun w54 D hS51 hd51 => dg_sub (E' := [(23, (.bool false)), (1, (.pointer (some p1)))]) ⟨dpE hd51 20 Z Z, Z, Zt⟩ (dg_off Z Z Z Z Zb)
     · exact fun w55 D hS52 hd52 => dg_sub (E' := [(26, undef), (23, (.bool false))]) ⟨dpE hd52 23 Z Z, dpE hd52 20 Z Z, Zt⟩ (dg_off Z Z Z Z Zb)
     · exact fun w56 D hS53 hd53 => dg_sub (E' := [(27, undef), (23, (.bool false))]) ⟨dpE hd53 24 Z Z, dpE hd53 20 Z Z, Zt⟩ (dg_off Z Z Z Z Zb)
     ·
      intro w57 D hS54 hd54
      have hC57 := hC1.no hS54
      refine lw_sub (E' := [(23, (.bool false)), (25, undef), (28, undef), (1, (.pointer (some p1))), (2, (.bool false))]) ⟨dpE hd54 20 Z Z, dpE hd54 22 Z Z, dpE hd54 25 Z Z, Z, Z, Zt⟩ (lw_off Z Z Z Z Z Z (lw_op Z Z Z (ow_pickF Z Z Z (lw_op Z Z Z (ow_assign Z Z (lw_nil (ew_then (cw_ret ?_))))))))
      obtain rfl := sj h
      exact ew_ret (res1 Z (.tmp Z)) ⟨_, Z, ((vbool _)), hC57.bx⟩
   ·
    refine cw_sub (E' := [(1, (.pointer (some p1))), (2, (.bool false))]) ⟨Z, Z, Zt⟩ (cw_drawQ 26 [PA RInt M a_t.Field, PEq (Zv a_t.Field), PEq (.bool true), PEq (.bool true), PA RInt M a_t.Field, PEq (Zv a_t.Field), PEq (.bool true), PEq (.bool true), PEq (.bool true), PA RInt M a_t.Lo, PEq (Zv a_t.Lo), PEq (.bool false), PEq (.bool false), PEq (.bool false), PEq undef, PEq undef, PEq undef, PEq undef, PEq undef, PEq (.bool false), PEq (.bool false), PEq undef, PEq undef, PEq undef, PEq undef, PEq undef] (by kernel_rfl) Z (by kernel_rfl) ⟨PA.mono _ _ _, Zq, Zq, Zq, PA.mono _ _ _, Zq, Zq, Zq, Zq, PA.mono _ _ _, Zq, Zq, Zq, Zq, Zq, Zq, Zq, Zq, Zq, Zq, Zq, Zq, Zq, Zq, Zq, Zq, Zt⟩ ⟨?_, ?_, ?_, ?_, ?_, ?_, ?_, ?_, ?_, ?_, ?_, ?_, ?_, ?_, ?_, ?_, ?_, ?_, ?_, ?_, ?_, ?_, ?_, ?_, ?_, ?_, Zt⟩ ?_)
    ·
     intro w58 D hS55 hd55
     have hl58 := Le.no M hS55
     exact dg_sub (E' := [(1, (.pointer (some p1)))]) ⟨Z, Zt⟩ (dg_plain Z (ow_fieldAddr Z Z Tryd.underlying31 Z (Tryd.sizeOf3 _) ⟨BX.refl _ _, ⟨_, Z, (ARep.mono hl58 (hp1.fld fld_Test_Field))⟩⟩))
    ·
     intro w59 D hS56 hd56
     have d139 : PA RInt M a_t.Field (D 0) w59 := dpA hd56 0 Z
     obtain ⟨p14, e13, ha13⟩ := d139
     refine dg_sub (E' := [(3, (.pointer (some p14)))]) ⟨congrArg some e13, Zt⟩ (dg_plain Z (ow_load (R := RInt) Z Z ha13 (Tryd.sizeOf3 _) (Tryd.isAgg3 _) fun v22 hv22 => ?_))
     obtain rfl := vint_eq hv22
     exact Zb
    ·
     intro w60 D hS57 hd57
     refine dg_sub (E' := [(4, (Zv a_t.Field))]) ⟨dpE hd57 1 Z Z, Zt⟩ (dg_plain Z (ow_geq Z Z Z fun bb14 hbb14 => ?_))
     obtain rfl := hbb14.trans hc1
     exact Zb
    · exact fun w61 D hS58 hd58 => dg_sub (E' := [(5, (.bool true))]) ⟨dpE hd58 2 Z Z, Zt⟩ (dg_plain Z (ow_move Z Z Zb))
    ·
     intro w62 D hS59 hd59
     have hl62 := Le.no M hS59
     exact dg_sub (E' := [(6, (.bool true)), (1, (.pointer (some p1)))]) ⟨dpE hd59 3 Z Z, Z, Zt⟩ (dg_on Z Z Z Z (ow_fieldAddr Z Z Tryd.underlying31 Z (Tryd.sizeOf3 _) ⟨BX.refl _ _, ⟨_, Z, (ARep.mono hl62 (hp1.fld fld_Test_Field))⟩⟩))
    ·
     intro w63 D hS60 hd60
     have d143 : PA RInt M a_t.Field (D 4) w63 := dpA hd60 4 Z
     obtain ⟨p15, e14, ha14⟩ := d143
     refine dg_sub (E' := [(7, (.pointer (some p15))), (6, (.bool true))]) ⟨congrArg some e14, dpE hd60 3 Z Z, Zt⟩ (dg_on Z Z Z Z (ow_load (R := RInt) Z Z ha14 (Tryd.sizeOf3 _) (Tryd.isAgg3 _) fun v23 hv23 => ?_))
     obtain rfl := vint_eq hv23
     exact Zb
    ·
     intro w64 D hS61 hd61
     refine dg_sub (E' := [(8, (Zv a_t.Field)), (6, (.bool true))]) ⟨dpE hd61 5 Z Z, dpE hd61 3 Z Z, Zt⟩ (dg_on Z Z Z Z (ow_lss Z Z Z fun bb15 hbb15 => ?_))
     obtain rfl := hbb15.trans hc2
     exact Zb
    · exact fun w65 D hS62 hd62 => dg_sub (E' := [(6, (.bool true)), (9, (.bool true))]) ⟨dpE hd62 3 Z Z, dpE hd62 6 Z Z, Zt⟩ (dg_plain Z (ow_pickT Z Z Z Zb))
    · exact fun w66 D hS63 hd63 => dg_sub (E' := [(10, (.bool true))]) ⟨dpE hd63 7 Z Z, Zt⟩ (dg_plain Z (ow_move Z Z Zb))
    ·
     intro w67 D hS64 hd64
     have hl67 := Le.no M hS64
     exact dg_sub (E' := [(11, (.bool true)), (1, (.pointer (some p1)))]) ⟨dpE hd64 8 Z Z, Z, Zt⟩ (dg_on Z Z Z Z (ow_fieldAddr Z Z Tryd.underlying31 Z (Tryd.sizeOf3 _) ⟨BX.refl _ _, ⟨_, Z, (ARep.mono hl67 (hp1.fld fld_Test_Lo))⟩⟩))
    ·
     intro w68 D hS65 hd65
     have d152 : PA RInt M a_t.Lo (D 9) w68 := dpA hd65 9 Z
     obtain ⟨p16, e15, ha15⟩ := d152
     refine dg_sub (E' := [(12, (.pointer (some p16))), (11, (.bool true))]) ⟨congrArg some e15, dpE hd65 8 Z Z, Zt⟩ (dg_on Z Z Z Z (ow_load (R := RInt) Z Z ha15 (Tryd.sizeOf3 _) (Tryd.isAgg3 _) fun v24 hv24 => ?_))
     obtain rfl := vint_eq hv24
     exact Zb
    ·
     intro w69 D hS66 hd66
     refine dg_sub (E' := [(13, (Zv a_t.Lo)), (11, (.bool true))]) ⟨dpE hd66 10 Z Z, dpE hd66 8 Z Z, Zt⟩ (dg_on Z Z Z Z (ow_geq Z Z Z fun bb16 hbb16 => ?_))
     obtain rfl := hbb16.trans hc3
     exact Zb
    · exact fun w70 D hS67 hd67 => dg_sub (E' := [(11, (.bool true)), (14, (.bool false))]) ⟨dpE hd67 8 Z Z, dpE hd67 11 Z Z, Zt⟩ (dg_plain Z (ow_pickT Z Z Z Zb))
    · exact fun w71 D hS68 hd68 => dg_sub (E' := [(15, (.bool false))]) ⟨dpE hd68 12 Z Z, Zt⟩ (dg_plain Z (ow_move Z Z Zb))
    · exact fun w72 D hS69 hd69 => dg_sub (E' := [(16, (.bool false)), (1, (.pointer (some p1)))]) ⟨dpE hd69 13 Z Z, Z, Zt⟩ (dg_off Z Z Z Z Zb)
    · exact fun w73 D hS70 hd70 => dg_sub (E' := [(17, undef), (16, (.bool false))]) ⟨dpE hd70 14 Z Z, dpE hd70 13 Z Z, Zt⟩ (dg_off Z Z Z Z Zb)
    · exact fun w74 D hS71 hd71 => dg_sub (E' := [(16, (.bool false)), (1, (.pointer (some p1)))]) ⟨dpE hd71 13 Z Z, Z, Zt⟩ (dg_off Z Z Z Z Zb)
    · exact fun w75 D hS72 hd72 => dg_sub (E' := [(19, undef), (16, (.bool false))]) ⟨dpE hd72 16 Z Z, dpE hd72 13 Z Z, Zt⟩ (dg_off Z Z Z Z Zb)
    · exact fun w76 D hS73 hd73 => dg_sub (E' := [(18, undef), (20, undef), (16, (.bool false))]) ⟨dpE hd73 15 Z Z, dpE hd73 17 Z Z, dpE hd73 13 Z Z, Zt⟩ (dg_off Z Z Z Z Zb)
    · exact fun w77 D hS74 hd74 => dg_sub (E' := [(16, (.bool false)), (21, undef)]) ⟨dpE hd74 13 Z Z, dpE hd74 18 Z Z, Zt⟩ (dg_plain Z (ow_pickF Z Z Z Zb))
    · exact fun w78 D hS75 hd75 => dg_sub (E' := [(22, (.bool false))]) ⟨dpE hd75 19 Z Z, Zt⟩ (dg_plain Z (ow_move Z Z Zb))
    · exact fun w79 D hS76 hd76 => dg_sub (E' := [(23, (.bool false)), (1, (.pointer (some p1)))]) ⟨dpE hd76 20 Z Z, Z, Zt⟩ (dg_off Z Z Z Z Zb)
    · exact fun w80 D hS77 hd77 => dg_sub (E' := [(24, undef), (23, (.bool false))]) ⟨dpE hd77 21 Z Z, dpE hd77 20 Z Z, Zt⟩ (dg_off Z Z Z Z Zb)
    · exact fun w81 D hS78 hd78 => dg_sub (E' := [(23, (.bool false)), (1, (.pointer (some p1)))]) ⟨dpE hd78 20 Z Z, Z, Zt⟩ (dg_off Z Z Z Z Zb)
    · exact fun w82 D hS79 hd79 => dg_sub (E' := [(26, undef), (23, (.bool false))]) ⟨dpE hd79 23 Z Z, dpE hd79 20 Z Z, Zt⟩ (dg_off Z Z Z Z Zb)
    · exact fun w83 D hS80 hd80 => dg_sub (E' := [(27, undef), (23, (.bool false))]) ⟨dpE hd80 24 Z Z, dpE hd80 20 Z Z, Zt⟩ (dg_off Z Z Z Z Zb)
    ·
     intro w84 D hS81 hd81
     have hC84 := hC1.no hS81
     refine lw_sub (E' := [(23, (.bool false)), (25, undef), (28, undef), (1, (.pointer (some p1))), (2, (.bool false))]) ⟨dpE hd81 20 Z Z, dpE hd81 22 Z Z, dpE hd81 25 Z Z, Z, Z, Zt⟩ (lw_off Z Z Z Z Z Z (lw_op Z Z Z (ow_pickF Z Z Z (lw_op Z Z Z (ow_assign Z Z (lw_nil (ew_then (cw_ret ?_))))))))
     obtain rfl := sj h
     exact ew_ret (res1 Z (.tmp Z)) ⟨_, Z, ((vbool _)), hC84.bx⟩
  ·
   refine cw_sub (E' := [(1, (.pointer (some p1))), (2, (.bool false))]) ⟨Z, Z, Zt⟩ (cw_drawQ 26 [PA RInt M a_t.Field, PEq (Zv a_t.Field), PEq (.bool true), PEq (.bool true), PA RInt M a_t.Field, PEq (Zv a_t.Field), PEq (.bool false), PEq (.bool false), PEq (.bool false), PEq undef, PEq undef, PEq undef, PEq (.bool false), PEq (.bool false), PEq undef, PEq undef, PEq undef, PEq undef, PEq undef, PEq (.bool false), PEq (.bool false), PEq undef, PEq undef, PEq undef, PEq undef, PEq undef] (by kernel_rfl) Z (by kernel_rfl) ⟨PA.mono _ _ _, Zq, Zq, Zq, PA.mono _ _ _, Zq, Zq, Zq, Zq, Zq, Zq, Zq, Zq, Zq, Zq, Zq, Zq, Zq, Zq, Zq, Zq, Zq, Zq, Zq, Zq, Zq, Zt⟩ ⟨?_, ?_, ?_, ?_, ?_, ?_, ?_, ?_, ?_, ?_, ?_, ?_, ?_, ?_, ?_, ?_, ?_, ?_, ?_, ?_, ?_, ?_, ?_, ?_, ?_, ?_, Zt⟩ ?_)
   ·
    intro w85 D hS82 hd82
    have hl85 := Le.no M hS82
    exact dg_sub (E' := [(1, (.pointer (some p1)))]) ⟨Z, Zt⟩ (dg_plain Z (ow_fieldAddr Z Z Tryd.underlying31 Z (Tryd.sizeOf3 _) ⟨BX.refl _ _, ⟨_, Z, (ARep.mono hl85 (hp1.fld fld_Test_Field))⟩⟩))
   ·
    intro w86 D hS83 hd83
    have d208 : PA RInt M a_t.Field (D 0) w86 := dpA hd83 0 Z
    obtain ⟨p17, e16, ha16⟩ := d208
    refine dg_sub (E' := [(3, (.pointer (some p17)))]) ⟨congrArg some e16, Zt⟩ (dg_plain Z (ow_load (R := RInt) Z Z ha16 (Tryd.sizeOf3 _) (Tryd.isAgg3 _) fun v25 hv25 => ?_))
    obtain rfl := vint_eq hv25
    exact Zb
   ·
    intro w87 D hS84 hd84
    refine dg_sub (E' := [(4, (Zv a_t.Field))]) ⟨dpE hd84 1 Z Z, Zt⟩ (dg_plain Z (ow_geq Z Z Z fun bb17 hbb17 => ?_))
    obtain rfl := hbb17.trans hc1
    exact Zb
   · exact fun w88 D hS85 hd85 => dg_sub (E' := [(5, (.bool true))]) ⟨dpE hd85 2 Z Z, Zt⟩ (dg_plain Z (ow_move Z Z Zb))
   ·
    intro w89 D hS86 hd86
    have hl89 := Le.no M hS86
    exact dg_sub (E' := [(6, (.bool true)), (1, (.pointer (some p1)))]) ⟨dpE hd86 3 Z Z, Z, Zt⟩ (dg_on Z Z Z Z (ow_fieldAddr Z Z Tryd.underlying31 Z (Tryd.sizeOf3 _) ⟨BX.refl _ _, ⟨_, Z, (ARep.mono hl89 (hp1.fld fld_Test_Field))⟩⟩))
   ·
    intro w90 D hS87 hd87
    have d212 : PA RInt M a_t.Field (D 4) w90 := dpA hd87 4 Z
    obtain ⟨p18, e17, ha17⟩ := d212
    refine dg_sub (E' := [(7, (.pointer (some p18))), (6, (.bool true))]) ⟨congrArg some e17, dpE hd87 3 Z Z, Zt⟩ (dg_on Z Z Z Z (ow_load (R := RInt) Z Z ha17 (Tryd.sizeOf3 _) (Tryd.isAgg3 _) fun v26 hv26 => ?_))
    obtain rfl := vint_eq hv26
    exact Zb
   ·
    intro w91 D hS88 hd88
    refine dg_sub (E' := [(8, (Zv a_t.Field)), (6, (.bool true))]) ⟨dpE hd88 5 Z Z, dpE hd88 3 Z Z, Zt⟩ (dg_on Z Z Z Z (ow_lss Z Z Z fun bb18 hbb18 => ?_))
    obtain rfl := hbb18.trans hc2
    exact Zb
   · exact fun w92 D hS89 hd89 => dg_sub (E' := [(6, (.bool true)), (9, (.bool false))]) ⟨dpE hd89 3 Z Z, dpE hd89 6 Z Z, Zt⟩ (dg_plain Z (ow_pickT Z Z Z Zb))
   · exact fun w93 D hS90 hd90 => dg_sub (E' := [(10, (.bool false))]) ⟨dpE hd90 7 Z Z, Zt⟩ (dg_plain Z (ow_move Z Z Zb))
   · exact fun w94 D hS91 hd91 => dg_sub (E' := [(11, (.bool false)), (1, (.pointer (some p1)))]) ⟨dpE hd91 8 Z Z, Z, Zt⟩ (dg_off Z Z Z Z Zb)
   · exact fun w95 D hS92 hd92 => dg_sub (E' := [(12, undef), (11, (.bool false))]) ⟨dpE hd92 9 Z Z, dpE hd92 8 Z Z, Zt⟩ (dg_off Z Z Z Z Zb)
   · exact fun w96 D hS93 hd93 => dg_sub (E' := [(13, undef), (11, (.bool false))]) ⟨dpE hd93 10 Z Z, dpE hd93 8 Z Z, Zt⟩ (dg_off Z Z Z Z Zb)
   · exact fun w97 D hS94 hd94 => dg_sub (E' := [(11, (.bool false)), (14, undef)]) ⟨dpE hd94 8 Z Z, dpE hd94 11 Z Z, Zt⟩ (dg_plain Z (ow_pickF Z Z Z Zb))
   · exact fun w98 D hS95 hd95 => dg_sub (E' := [(15, (.bool false))]) ⟨dpE hd95 12 Z Z, Zt⟩ (dg_plain Z (ow_move Z Z Zb))
   · exact fun w99 D hS96 hd96 => dg_sub (E' := [(16, (.bool false)), (1, (.pointer (some p1)))]) ⟨dpE hd96 13 Z Z, Z, Zt⟩ (dg_off Z Z Z Z Zb)
   · exact fun w100 D hS97 hd97 => dg_sub (E' := [(17, undef), (16, (.bool false))]) ⟨dpE hd97 14 Z Z, dpE hd97 13 Z Z, Zt⟩ (dg_off Z Z Z Z Zb)
   · exact fun w101 D hS98 hd98 => dg_sub (E' := [(16, (.bool false)), (1, (.pointer (some p1)))]) ⟨dpE hd98 13 Z Z, Z, Zt⟩ (dg_off Z Z Z Z Zb)
   · exact fun w102 D hS99 hd99 => dg_sub (E' := [(19, undef), (16, (.bool false))]) ⟨dpE hd99 16 Z Z, dpE hd99 13 Z Z, Zt⟩ (dg_off Z Z Z Z Zb)
   · exact fun w103 D hS100 hd100 => dg_sub (E' := [(18, undef), (20, undef), (16, (.bool false))]) ⟨dpE hd100 15 Z Z, dpE hd100 17 Z Z, dpE hd100 13 Z Z, Zt⟩ (dg_off Z Z Z Z Zb)
   · exact fun w104 D hS101 hd101 => dg_sub (E' := [(16, (.bool false)), (21, undef)]) ⟨dpE hd101 13 Z Z, dpE hd101 18 Z Z, Zt⟩ (dg_plain Z (ow_pickF Z Z Z Zb))
   · exact fun w105 D hS102 hd102 => dg_sub (E' := [(22, (.bool false))]) ⟨dpE hd102 19 Z Z, Zt⟩ (dg_plain Z (ow_move Z Z Zb))
   · exact fun w106 D hS103 hd103 => dg_sub (E' := [(23, (.bool false)), (1, (.pointer (some p1)))]) ⟨dpE hd103 20 Z Z, Z, Zt⟩ (dg_off Z Z Z Z Zb)
   · exact fun w107 D hS104 hd104 => dg_sub (E' := [(24, undef), (23, (.bool false))]) ⟨dpE hd104 21 Z Z, dpE hd104 20 Z Z, Zt⟩ (dg_off Z Z Z Z Zb)
   · exact fun w108 D hS105 hd105 => dg_sub (E' := [(23, (.bool false)), (1, (.pointer (some p1)))]) ⟨dpE hd105 20 Z Z, Z, Zt⟩ (dg_off Z Z Z Z Zb)
   · exact fun w109 D hS106 hd106 => dg_sub (E' := [(26, undef), (23, (.bool false))]) ⟨dpE hd106 23 Z Z, dpE hd106 20 Z Z, Zt⟩ (dg_off Z Z Z Z Zb)
   · exact fun w110 D hS107 hd107 => dg_sub (E' := [(27, undef), (23, (.bool false))]) ⟨dpE hd107 24 Z Z, dpE hd107 20 Z Z, Zt⟩ (dg_off Z Z Z Z Zb)
   ·
    intro w111 D hS108 hd108
    have hC111 := hC1.no hS108
    refine lw_sub (E' := [(23, (.bool false)), (25, undef), (28, undef), (1, (.pointer (some p1))), (2, (.bool false))]) ⟨dpE hd108 20 Z Z, dpE hd108 22 Z Z, dpE hd108 25 Z Z, Z, Z, Zt⟩ (lw_off Z Z Z Z Z Z (lw_op Z Z Z (ow_pickF Z Z Z (lw_op Z Z Z (ow_assign Z Z (lw_nil (ew_then (cw_ret ?_))))))))
    obtain rfl := sj h
    exact ew_ret (res1 Z (.tmp Z)) ⟨_, Z, ((vbool _)), hC111.bx⟩
 ·
  refine cw_sub (E' := [(1, (.pointer (some p1))), (2, (.bool false))]) ⟨Z, Z, Zt⟩ (cw_drawQ 26 [PA RInt M a_t.Field, PEq (Zv a_t.Field), PEq (.bool false), PEq (.bool false), PEq undef, PEq undef, PEq undef, PEq (.bool false), PEq (.bool false), PEq undef, PEq undef, PEq undef, PEq (.bool false), PEq (.bool false), PEq undef, PEq undef, PEq undef, PEq undef, PEq undef, PEq (.bool false), PEq (.bool false), PEq undef, PEq undef, PEq undef, PEq undef, PEq undef] (by kernel_rfl) Z (by kernel_rfl) ⟨PA.mono _ _ _, Zq, Zq, Zq, Zq, Zq, Zq, Zq, Zq, Zq, Zq, Zq, Zq, Zq, Zq, Zq, Zq, Zq, Zq, Zq, Zq, Zq, Zq, Zq, Zq, Zq, Zt⟩ ⟨?_, ?_, ?_, ?_, ?_, ?_, ?_, ?_, ?_, ?_, ?_, ?_, ?_, ?_, ?_, ?_, ?_, ?_, ?_, ?_, ?_, ?_, ?_, ?_, ?_, ?_, Zt⟩ ?_)
  ·
   intro w112 D hS109 hd109
   have hl112 := Le.no M hS109
   exact dg_sub (E' := [(1, (.pointer (some p1)))]) ⟨Z, Zt⟩ (dg_plain Z (ow_fieldAddr Z Z Tryd.underlying31 Z (Tryd.sizeOf3 _) ⟨BX.refl _ _, ⟨_, Z, (ARep.mono hl112 (hp1.fld fld_Test_Field))⟩⟩))
  ·
   intro w113 D hS110 hd110
   have d277 : PA RInt M a_t.Field (D 0) w113 := dpA hd110 0 Z
   obtain ⟨p19, e18, ha18⟩ := d277
   refine dg_sub (E' := [(3, (.pointer (some p19)))]) ⟨congrArg some e18, Zt⟩ (dg_plain Z (ow_load (R := RInt) Z Z ha18 (Tryd.sizeOf3 _) (Tryd.isAgg3 _) fun v27 hv27 => ?_))
   obtain rfl := vint_eq hv27
   exact Zb
  ·
   intro w114 D hS111 hd111
   refine dg_sub (E' := [(4, (Zv a_t.Field))]) ⟨dpE hd111 1 Z Z, Zt⟩ (dg_plain Z (ow_geq Z Z Z fun bb19 hbb19 => ?_))
   obtain rfl := hbb19.trans hc1
   exact Zb
  · exact fun w115 D hS112 hd112 => dg_sub (E' := [(5, (.bool false))]) ⟨dpE hd112 2 Z Z, Zt⟩ (dg_plain Z (ow_move Z Z Zb))
  · exact fun w116 D hS113 hd113 => dg_sub (E' := [(6, (.bool false)), (1, (.pointer (some p1)))]) ⟨dpE hd113 3 Z Z, Z, Zt⟩ (dg_off Z Z Z Z Zb)
  · exact fun w117 D hS114 hd114 => dg_sub (E' := [(7, undef), (6, (.bool false))]) ⟨dpE hd114 4 Z Z, dpE hd114 3 Z Z, Zt⟩ (dg_off Z Z Z Z Zb)
  · exact fun w118 D hS115 hd115 => dg_sub (E' := [(8, undef), (6, (.bool false))]) ⟨dpE hd115 5 Z Z, dpE hd115 3 Z Z, Zt⟩ (dg_off Z Z Z Z Zb)
  · exact fun w119 D hS116 hd116 => dg_sub (E' := [(6, (.bool false)), (9, undef)]) ⟨dpE hd116 3 Z Z, dpE hd116 6 Z Z, Zt⟩ (dg_plain Z (ow_pickF Z Z Z Zb))
  · exact fun w120 D hS117 hd117 => dg_sub (E' := [(10, (.bool false))]) ⟨dpE hd117 7 Z Z, Zt⟩ (dg_plain Z (ow_move Z Z Zb))
  · exact fun w121 D hS118 hd118 => dg_sub (E' := [(11, (.bool false)), (1, (.pointer (some p1)))]) ⟨dpE hd118 8 Z Z, Z, Zt⟩ (dg_off Z Z Z Z Zb)
  · exact fun w122 D hS119 hd119 => dg_sub (E' := [(12, undef), (11, (.bool false))]) ⟨dpE hd119 9 Z Z, dpE hd119 8 Z Z, Zt⟩ (dg_off Z Z Z Z Zb)
  · exact fun w123 D hS120 hd120 => dg_sub (E' := [(13, undef), (11, (.bool false))]) ⟨dpE hd120 10 Z Z, dpE hd120 8 Z Z, Zt⟩ (dg_off Z Z Z Z Zb)
  · exact fun w124 D hS121 hd121 => dg_sub (E' := [(11, (.bool false)), (14, undef)]) ⟨dpE hd121 8 Z Z, dpE hd121 11 Z Z, Zt⟩ (dg_plain Z (ow_pickF Z Z Z Zb))
  · exact fun w125 D hS122 hd122 => dg_sub (E' := [(15, (.bool false))]) ⟨dpE hd122 12 Z Z, Zt⟩ (dg_plain Z (ow_move Z Z Zb))
  · exact fun w126 D hS123 hd123 => dg_sub (E' := [(16, (.bool false)), (1, (.pointer (some p1)))]) ⟨dpE hd123 13 Z Z, Z, Zt⟩ (dg_off Z Z Z Z Zb)
  · exact fun w127 D hS124 hd124 => dg_sub (E' := [(17, undef), (16, (.bool false))]) ⟨dpE hd124 14 Z Z, dpE hd124 13 Z Z, Zt⟩ (dg_off Z Z Z Z Zb)
  · exact fun w128 D hS125 hd125 => dg_sub (E' := [(16, (.bool false)), (1, (.pointer (some p1)))]) ⟨dpE hd125 13 Z Z, Z, Zt⟩ (dg_off Z Z Z Z Zb)
  · exact fun w129 D hS126 hd126 => dg_sub (E' := [(19, undef), (16, (.bool false))]) ⟨dpE hd126 16 Z Z, dpE hd126 13 Z Z, Zt⟩ (dg_off Z Z Z Z Zb)
  · exact fun w130 D hS127 hd127 => dg_sub (E' := [(18, undef), (20, undef), (16, (.bool false))]) ⟨dpE hd127 15 Z Z, dpE hd127 17 Z Z, dpE hd127 13 Z Z, Zt⟩ (dg_off Z Z Z Z Zb)
  · exact fun w131 D hS128 hd128 => dg_sub (E' := [(16, (.bool false)), (21, undef)]) ⟨dpE hd128 13 Z Z, dpE hd128 18 Z Z, Zt⟩ (dg_plain Z (ow_pickF Z Z Z Zb))
  · exact fun w132 D hS129 hd129 => dg_sub (E' := [(22, (.bool false))]) ⟨dpE hd129 19 Z Z, Zt⟩ (dg_plain Z (ow_move Z Z Zb))
  · exact fun w133 D hS130 hd130 => dg_sub (E' := [(23, (.bool false)), (1, (.pointer (some p1)))]) ⟨dpE hd130 20 Z Z, Z, Zt⟩ (dg_off Z Z Z Z Zb)
  · exact fun w134 D hS131 hd131 => dg_sub (E' := [(24, undef), (23, (.bool false))]) ⟨dpE hd131 21 Z Z, dpE hd131 20 Z Z, Zt⟩ (dg_off Z Z Z Z Zb)
  · exact fun w135 D hS132 hd132 => dg_sub (E' := [(23, (.bool false)), (1, (.pointer (some p1)))]) ⟨dpE hd132 20 Z Z, Z, Zt⟩ (dg_off Z Z Z Z Zb)
  · exact fun w136 D hS133 hd133 => dg_sub (E' := [(26, undef), (23, (.bool false))]) ⟨dpE hd133 23 Z Z, dpE hd133 20 Z Z, Zt⟩ (dg_off Z Z Z Z Zb)
  · exact fun w137 D hS134 hd134 => dg_sub (E' := [(27, undef), (23, (.bool false))]) ⟨dpE hd134 24 Z Z, dpE hd134 20 Z Z, Zt⟩ (dg_off Z Z Z Z Zb)
  ·
   intro w138 D hS135 hd135
   have hC138 := hC1.no hS135
   refine lw_sub (E' := [(23, (.bool false)), (25, undef), (28, undef), (1, (.pointer (some p1))), (2, (.bool false))]) ⟨dpE hd135 20 Z Z, dpE hd135 22 Z Z, dpE hd135 25 Z Z, Z, Z, Zt⟩ (lw_off Z Z Z Z Z Z (lw_op Z Z Z (ow_pickF Z Z Z (lw_op Z Z Z (ow_assign Z Z (lw_nil (ew_then (cw_ret ?_))))))))
   obtain rfl := sj h
   exact ew_ret (res1 Z (.tmp Z)) ⟨_, Z, ((vbool _)), hC138.bx⟩

theorem w_impl_TestsValid {w : World} {M : Nat → Prop} (hG : ARep (RArr 4 RShape) w M shapes ⟨0, 0, none⟩) (hO : ∀ b, M b → b < w.heap.size) {v0p : Value} {a_list : List Test} (h0 : VRep (RSlice RTest) w M a_list v0p) {r : Bool} (h : F.impl_TestsValid a_list = some r) :
  Calls Tryd.prog 56 [v0p].toArray w fun e w' => ∃ v, e = .returned v ∧ VRep RBool w' M r v ∧ BX No w w' := by
 have hC : Cx No w M w M := Cx.start hO (fun _ e => e.elim)
 refine walk (N := 18) Tryd.func56 Z Tryd.ntmps56 Z (cw_seq (cw_region (lw_op Z Z Z (ow_assign Z Z (lw_nil (ew_then (cw_seq (cw_seq (cw_region (lw_op Z Z Z (ow_move Z Z (lw_op Z Z Z (ow_len Z Z h0 Tryd.underlying27 Z (lw_op Z Z Z (ow_gtr Z Z Z fun bb1 hbb1 => lw_nil (ew_then ?_))))))))))))))))
 replace h := cond_some h
 rcases h with ⟨hc1, h⟩ | ⟨hc1, h⟩
 ·
  obtain rfl := hbb1.trans hc1
  refine cw_true Z (cw_seq (cw_region (lw_op Z Z Z (ow_assign Z Z (lw_nil (ew_then (cw_ret (ew_thenR ?_))))))))
  obtain rfl := sj h
  exact ew_ret (res1 Z (.tmp Z)) ⟨_, Z, ((vbool _)), hC.bx⟩
 ·
  obtain rfl := hbb1.trans hc1
  refine cw_false Z (cw_skip (ew_then (cw_seq (cw_seq (cw_region (lw_op Z Z Z (ow_move Z Z (lw_op Z Z Z (ow_len Z Z h0 Tryd.underlying27 Z (lw_op Z Z Z (ow_move Z Z (lw_nil (ew_then ?_)))))))))))))
  replace h := bind_some h
  obtain ⟨lr1, hlr1, h⟩ := h
  refine cw_for hlr1 (fun s a w' => ∃ (M' : Nat → Prop), Fits 18 [(8, v0p), (9, (Zv (a_list.length : Int))), (10, (Zv s))] a ∧ Le w M w' M' ∧ Cx No w M w' M') ?_ ?_ ?_
  · exact fun a ha => ⟨M, ha.sub ⟨Z, Z, Z, Zt⟩, Le.refl _ _, hC⟩
  ·
   rintro k1 a w1 sr1 ⟨M1, hF1, hl1, hC1⟩ hb1 hR1
   refine cw_at (E := [(8, v0p), (9, (Zv (a_list.length : Int))), (10, (Zv k1))]) hF1 (cw_seq (cw_region (lw_op Z Z Z (ow_lss Z Z Z fun bb2 hbb2 => lw_nil (ew_then (cw_seq ?_))))))
   replace hb1 := cond_some hb1
   rcases hb1 with ⟨hc2, hb1⟩ | ⟨hc2, hb1⟩
   ·
    obtain rfl := hbb2.trans hc2
    refine cw_true Z (cw_skip (ew_then (cw_seq (cw_block (cw_seq (cw_region ?_))))))
    replace hb1 := bind_some hb1
    obtain ⟨x1, hx1, hb1⟩ := hb1
    refine lw_op Z Z Z (ow_indexSlice (R := RTest) Z Z Z (VRep.mono hl1 h0) Tryd.underlying27 (Tryd.sizeOf31 _) hx1 fun p1 hp1 => lw_op Z Z Z (ow_load (R := RTest) Z Z hp1 (Tryd.sizeOf31 _) (Tryd.isAgg31 _) fun v2 hv2 => lw_allocStore (R := RTest) Z Z Z Z Z Z Z Tryd.zeroValue31 Tryd.sizeOf31 Z Z Z (by simp) hv2 hC1 fun p2 w2 hp2 hb2 hl2 hC2 => lw_nil (ew_then (cw_seq (cw_region (lw_op Z Z Z (ow_load (R := RTest) Z Z hp2 (Tryd.sizeOf31 _) (Tryd.isAgg31 _) fun v3 hv3 => ?_)))))))
    replace hb1 := bind_some hb1
    obtain ⟨x2, hx2, hb1⟩ := hb1
    refine lw_op Z Z Z (ow_call Z Z Tryd.call85 (w_impl_TestValid (hG.mono (hl1.trans hl2)) hC2.old hv3 hx2) fun v4 w3 hv4 => ?_)
    obtain ⟨hv4, hb3⟩ := hv4
    have hl3 := Le.no M1 hb3
    have hC3 := hC2.no hb3
    obtain rfl := vbool_eq hv4
    refine lw_op Z Z Z (ow_not Z Z (lw_nil (ew_then ?_)))
    replace hb1 := cond_some hb1
    rcases hb1 with ⟨hc3, hb1⟩ | ⟨hc3, hb1⟩
    ·
     subst hc3
     refine cw_false Z (cw_skip (ew_blockN (ew_then (cw_region (lw_op Z Z Z (ow_add Z Z Z (lw_op Z Z Z (ow_move Z Z (lw_nil ?_)))))))))
     have lz1 := ((hl1.trans hl2).trans hl3)
     exact ew_nxt (W (k1 + 1)) hb1 fun a ha => ⟨M1, (ha.sub ⟨Z, Z, Z, Zt⟩), lz1, hC3⟩
    ·
     subst hc3
     refine cw_true Z (cw_seq (cw_region (lw_op Z Z Z (ow_assign Z Z (lw_nil (ew_then (cw_ret (ew_blockR (ew_thenR (ew_thenR (ew_blockR (ew_brkR (ew_thenR ?_)))))))))))))
     have e1 := hR1 _ (sj hb1).symm
     subst e1
     obtain rfl := sj h
     exact ew_ret (res1 Z (.tmp Z)) ⟨_, Z, ((vbool _)), hC3.bx⟩
   ·
    obtain rfl := hbb2.trans hc2
    exact cw_false Z (cw_exit (ew_thenX (ew_thenX (ew_blockX (ew_brk k1 hb1 fun a ha => ⟨M1, (ha.sub ⟨Z, Z, Z, Zt⟩), hl1, hC1⟩)))))
  ·
   rintro k2 a w4 hlr2 ⟨M2, hF2, hl4, hC4⟩
   subst hlr2
   refine ew_at (E := [(8, v0p), (9, (Zv (a_list.length : Int))), (10, (Zv k2))]) hF2 (ew_then (cw_seq (cw_region (lw_op Z Z Z (ow_assign Z Z (lw_nil (ew_then (cw_ret ?_))))))))
   obtain rfl := sj h
   exact ew_ret (res1 Z (.tmp Z)) ⟨_, Z, ((vbool _)), hC4.bx⟩

theorem w_impl_RuleValid {w : World} {M : Nat → Prop} (hG : ARep (RArr 4 RShape) w M shapes ⟨0, 0, none⟩) (hO : ∀ b, M b → b < w.heap.size) {v0p : Value} {a_r : Rule} (h0 : VRep RRule w M a_r v0p) {r : Bool} (h : F.impl_RuleValid a_r = some r) :
  Calls Tryd.prog 76 [v0p].toArray w fun e w' => ∃ v, e = .returned v ∧ VRep RBool w' M r v ∧ BX No w w' := by
 have hC : Cx No w M w M := Cx.start hO (fun _ e => e.elim)
 refine walk (N := 27) Tryd.func76 Z Tryd.ntmps76 Z (cw_seq (cw_region (lw_op Z Z Z (ow_box (R := RRule) Z Z h0 hC fun p1 w1 hp1 hb1 hl1 hC1 => lw_op Z Z Z (ow_assign Z Z (lw_nil (ew_then (cw_seq (cw_seq (cw_region (lw_op Z Z Z (ow_fieldAddr Z Z Tryd.underlying42 Z (Tryd.sizeOf27 _) (lw_op Z Z Z (ow_load (R := (RSlice RTest)) Z Z (hp1.fld fld_Rule_Tests) (Tryd.sizeOf27 _) (Tryd.isAgg27 _) fun v1 hv1 => ?_))))))))))))))
 replace h := bind_some h
 obtain ⟨x1, hx1, h⟩ := h
 refine lw_op Z Z Z (ow_call Z Z Tryd.call56 (w_impl_TestsValid (hG.mono hl1) hC1.old hv1 hx1) fun v2 w2 hv2 => ?_)
 obtain ⟨hv2, hb2⟩ := hv2
 have hl2 := Le.no M hb2
 have hC2 := hC1.no hb2
 obtain rfl := vbool_eq hv2
 refine lw_op Z Z Z (ow_not Z Z (lw_nil (ew_then ?_)))
 replace h := cond_some h
 rcases h with ⟨hc1, h⟩ | ⟨hc1, h⟩
 ·
  subst hc1
  refine cw_false Z (cw_skip (ew_then (cw_seq (cw_seq (cw_region (lw_op Z Z Z (ow_fieldAddr Z Z Tryd.underlying42 Z (Tryd.sizeOf3 _) (lw_op Z Z Z (ow_load (R := RInt) Z Z (ARep.mono hl2 (hp1.fld fld_Rule_Action)) (Tryd.sizeOf3 _) (Tryd.isAgg3 _) fun v3 hv3 => ?_)))))))))
  obtain rfl := vint_eq hv3
  refine lw_nil (ew_then (cw_block (cw_seq (cw_region (lw_op Z Z Z (ow_eqlI Z Z Z fun bb1 hbb1 => lw_op Z Z Z (ow_assign Z Z (lw_nil (ew_then ?_)))))))))
  replace h := cond_some h
  rcases h with ⟨hc2, h⟩ | ⟨hc2, h⟩
  ·
   obtain rfl := hbb1.trans hc2
   refine cw_true Z (cw_seq (cw_region (lw_op Z Z Z (ow_fieldAddr Z Z Tryd.underlying42 Z (Tryd.sizeOf3 _) (lw_op Z Z Z (ow_load (R := RInt) Z Z (ARep.mono hl2 (hp1.fld fld_Rule_Chain)) (Tryd.sizeOf3 _) (Tryd.isAgg3 _) fun v4 hv4 => ?_))))))
   obtain rfl := vint_eq hv4
   refine lw_op Z Z Z (ow_geq Z Z Z fun bb2 hbb2 => lw_op Z Z Z (ow_move Z Z ?_))
   replace h := cond_some h
   rcases h with ⟨hc3, h⟩ | ⟨hc3, h⟩
   ·
    obtain rfl := hbb2.trans hc3
    refine lw_on Z Z Z Z Z Z (ow_fieldAddr Z Z Tryd.underlying42 Z (Tryd.sizeOf3 _) (lw_on Z Z Z Z Z Z (ow_load (R := RInt) Z Z (ARep.mono hl2 (hp1.fld fld_Rule_Chain)) (Tryd.sizeOf3 _) (Tryd.isAgg3 _) fun v5 hv5 => ?_)))
    obtain rfl := vint_eq hv5
    refine lw_on Z Z Z Z Z Z (ow_lss Z Z Z fun bb3 hbb3 => lw_op Z Z Z (ow_pickT Z Z Z (lw_op Z Z Z (ow_assign Z Z (lw_nil (ew_then (cw_ret (ew_blockR (ew_thenR ?_)))))))))
    obtain rfl := sj h
    exact ew_ret (res1 Z (.tmp Z)) ⟨_, Z, ((vbool_of hbb3)), hC2.bx⟩
   ·
    obtain rfl := hbb2.trans hc3
    refine lw_off Z Z Z Z Z Z (lw_off Z Z Z Z Z Z (lw_off Z Z Z Z Z Z (lw_op Z Z Z (ow_pickF Z Z Z (lw_op Z Z Z (ow_assign Z Z (lw_nil (ew_then (cw_ret (ew_blockR (ew_thenR ?_)))))))))))
    obtain rfl := sj h
    exact ew_ret (res1 Z (.tmp Z)) ⟨_, Z, ((vbool _)), hC2.bx⟩
  ·
   obtain rfl := hbb1.trans hc2
   refine cw_false Z (cw_seq (cw_seq (cw_region (lw_op Z Z Z (ow_eqlI Z Z Z fun bb4 hbb4 => lw_op Z Z Z (ow_assign Z Z (lw_nil (ew_then ?_))))))))
   replace h := cond_some h
   rcases h with ⟨hc4, h⟩ | ⟨hc4, h⟩
   ·
    obtain rfl := hbb4.trans hc4
    refine cw_true Z (cw_skip (ew_then (cw_true Z (cw_seq (cw_region (lw_op Z Z Z (ow_fieldAddr Z Z Tryd.underlying42 Z (Tryd.sizeOf3 _) (lw_op Z Z Z (ow_load (R := RInt) Z Z (ARep.mono hl2 (hp1.fld fld_Rule_Chain)) (Tryd.sizeOf3 _) (Tryd.isAgg3 _) fun v6 hv6 => ?_)))))))))
    obtain rfl := vint_eq hv6
    refine lw_op Z Z Z (ow_eqlI Z Z Z fun bb5 hbb5 => lw_op Z Z Z (ow_assign Z Z (lw_nil (ew_then (cw_ret (ew_blockR (ew_thenR ?_)))))))
    obtain rfl := sj h
    exact ew_ret (res1 Z (.tmp Z)) ⟨_, Z, ((vbool_of hbb5)), hC2.bx⟩
   ·
    obtain rfl := hbb4.trans hc4
    refine cw_false Z (cw_seq (cw_region (lw_op Z Z Z (ow_eqlI Z Z Z fun bb6 hbb6 => lw_op Z Z Z (ow_assign Z Z (lw_nil (ew_then ?_)))))))
    replace h := cond_some h
    rcases h with ⟨hc5, h⟩ | ⟨hc5, h⟩
    ·
     obtain rfl := hbb6.trans hc5
     refine cw_true Z (cw_skip (ew_then (cw_true Z (cw_seq (cw_region (lw_op Z Z Z (ow_fieldAddr Z Z Tryd.underlying42 Z (Tryd.sizeOf3 _) (lw_op Z Z Z (ow_load (R := RInt) Z Z (ARep.mono hl2 (hp1.fld fld_Rule_Chain)) (Tryd.sizeOf3 _) (Tryd.isAgg3 _) fun v7 hv7 => ?_)))))))))
     obtain rfl := vint_eq hv7
     refine lw_op Z Z Z (ow_eqlI Z Z Z fun bb7 hbb7 => lw_op Z Z Z (ow_assign Z Z (lw_nil (ew_then (cw_ret (ew_blockR (ew_thenR ?_)))))))
     obtain rfl := sj h
     exact ew_ret (res1 Z (.tmp Z)) ⟨_, Z, ((vbool_of hbb7)), hC2.bx⟩
    ·
     obtain rfl := hbb6.trans hc5
     refine cw_false Z (cw_seq (cw_region (lw_op Z Z Z (ow_eqlI Z Z Z fun bb8 hbb8 => lw_op Z Z Z (ow_assign Z Z (lw_nil (ew_then ?_)))))))
     replace h := cond_some h
     rcases h with ⟨hc6, h⟩ | ⟨hc6, h⟩
     ·
      obtain rfl := hbb8.trans hc6
      refine cw_true Z (cw_skip (ew_then (cw_true Z (cw_seq (cw_region (lw_op Z Z Z (ow_fieldAddr Z Z Tryd.underlying42 Z (Tryd.sizeOf3 _) (lw_op Z Z Z (ow_load (R := RInt) Z Z (ARep.mono hl2 (hp1.fld fld_Rule_Chain)) (Tryd.sizeOf3 _) (Tryd.isAgg3 _) fun v8 hv8 => ?_)))))))))
      obtain rfl := vint_eq hv8
      refine lw_op Z Z Z (ow_eqlI Z Z Z fun bb9 hbb9 => lw_op Z Z Z (ow_assign Z Z (lw_nil (ew_then (cw_ret (ew_blockR (ew_thenR ?_)))))))
      obtain rfl := sj h
      exact ew_ret (res1 Z (.tmp Z)) ⟨_, Z, ((vbool_of hbb9)), hC2.bx⟩
     ·
      obtain rfl := hbb8.trans hc6
      refine cw_false Z (cw_region (lw_op Z Z Z (ow_eqlI Z Z Z fun bb10 hbb10 => lw_op Z Z Z (ow_assign Z Z (lw_nil (ew_then ?_))))))
      replace h := cond_some h
      rcases h with ⟨hc7, h⟩ | ⟨hc7, h⟩
      ·
       obtain rfl := hbb10.trans hc7
       refine cw_true Z (cw_seq (cw_region (lw_op Z Z Z (ow_fieldAddr Z Z Tryd.underlying42 Z (Tryd.sizeOf3 _) (lw_op Z Z Z (ow_load (R := RInt) Z Z (ARep.mono hl2 (hp1.fld fld_Rule_Chain)) (Tryd.sizeOf3 _) (Tryd.isAgg3 _) fun v9 hv9 => ?_))))))
       obtain rfl := vint_eq hv9
       refine lw_op Z Z Z (ow_eqlI Z Z Z fun bb11 hbb11 => lw_op Z Z Z (ow_assign Z Z (lw_nil (ew_then (cw_ret (ew_blockR (ew_thenR ?_)))))))
       obtain rfl := sj h
       exact ew_ret (res1 Z (.tmp Z)) ⟨_, Z, ((vbool_of hbb11)), hC2.bx⟩
      ·
       obtain rfl := hbb10.trans hc7
       refine cw_false Z (cw_skip (ew_blockN (ew_then (cw_seq (cw_region (lw_op Z Z Z (ow_assign Z Z (lw_nil (ew_then (cw_ret ?_))))))))))
       obtain rfl := sj h
       exact ew_ret (res1 Z (.tmp Z)) ⟨_, Z, ((vbool _)), hC2.bx⟩
 ·
  subst hc1
  refine cw_true Z (cw_seq (cw_region (lw_op Z Z Z (ow_assign Z Z (lw_nil (ew_then (cw_ret (ew_thenR ?_))))))))
  obtain rfl := sj h
  exact ew_ret (res1 Z (.tmp Z)) ⟨_, Z, ((vbool _)), hC2.bx⟩

theorem w_impl_RulesValid {w : World} {M : Nat → Prop} (hG : ARep (RArr 4 RShape) w M shapes ⟨0, 0, none⟩) (hO : ∀ b, M b → b < w.heap.size) {v0p : Value} {a_list : List Rule} (h0 : VRep (RSlice RRule) w M a_list v0p) {r : Bool} (h : F.impl_RulesValid a_list = some r) :
  Calls Tryd.prog 66 [v0p].toArray w fun e w' => ∃ v, e = .returned v ∧ VRep RBool w' M r v ∧ BX No w w' := by
 have hC : Cx No w M w M := Cx.start hO (fun _ e => e.elim)
 refine walk (N := 18) Tryd.func66 Z Tryd.ntmps66 Z (cw_seq (cw_region (lw_op Z Z Z (ow_assign Z Z (lw_nil (ew_then (cw_seq (cw_seq (cw_region (lw_op Z Z Z (ow_move Z Z (lw_op Z Z Z (ow_len Z Z h0 Tryd.underlying36 Z (lw_op Z Z Z (ow_gtr Z Z Z fun bb1 hbb1 => lw_nil (ew_then ?_))))))))))))))))
 replace h := cond_some h
 rcases h with ⟨hc1, h⟩ | ⟨hc1, h⟩
 ·
  obtain rfl := hbb1.trans hc1
  refine cw_true Z (cw_seq (cw_region (lw_op Z Z Z (ow_assign Z Z (lw_nil (ew_then (cw_ret (ew_thenR ?_))))))))
  obtain rfl := sj h
  exact ew_ret (res1 Z (.tmp Z)) ⟨_, Z, ((vbool _)), hC.bx⟩
 ·
  obtain rfl := hbb1.trans hc1
  refine cw_false Z (cw_skip (ew_then (cw_seq (cw_seq (cw_region (lw_op Z Z Z (ow_move Z Z (lw_op Z Z Z (ow_len Z Z h0 Tryd.underlying36 Z (lw_op Z Z Z (ow_move Z Z (lw_nil (ew_then ?_)))))))))))))
  replace h := bind_some h
  obtain ⟨lr1, hlr1, h⟩ := h
  refine cw_for hlr1 (fun s a w' => ∃ (M' : Nat → Prop), Fits 18 [(8, v0p), (9, (Zv (a_list.length : Int))), (10, (Zv s))] a ∧ Le w M w' M' ∧ Cx No w M w' M') ?_ ?_ ?_
  · exact fun a ha => ⟨M, ha.sub ⟨Z, Z, Z, Zt⟩, Le.refl _ _, hC⟩
  ·
   rintro k1 a w1 sr1 ⟨M1, hF1, hl1, hC1⟩ hb1 hR1
   refine cw_at (E := [(8, v0p), (9, (Zv (a_list.length : Int))), (10, (Zv k1))]) hF1 (cw_seq (cw_region (lw_op Z Z Z (ow_lss Z Z Z fun bb2 hbb2 => lw_nil (ew_then (cw_seq ?_))))))
   replace hb1 := cond_some hb1
   rcases hb1 with ⟨hc2, hb1⟩ | ⟨hc2, hb1⟩
   ·
    obtain rfl := hbb2.trans hc2
    refine cw_true Z (cw_skip (ew_then (cw_seq (cw_block (cw_seq (cw_region ?_))))))
    replace hb1 := bind_some hb1
    obtain ⟨x1, hx1, hb1⟩ := hb1
    refine lw_op Z Z Z (ow_indexSlice (R := RRule) Z Z Z (VRep.mono hl1 h0) Tryd.underlying36 (Tryd.sizeOf42 _) hx1 fun p1 hp1 => lw_op Z Z Z (ow_load (R := RRule) Z Z hp1 (Tryd.sizeOf42 _) (Tryd.isAgg42 _) fun v2 hv2 => lw_allocStore (R := RRule) Z Z Z Z Z Z Z Tryd.zeroValue42 Tryd.sizeOf42 Z Z Z (by simp) hv2 hC1 fun p2 w2 hp2 hb2 hl2 hC2 => lw_nil (ew_then (cw_seq (cw_region (lw_op Z Z Z (ow_load (R := RRule) Z Z hp2 (Tryd.sizeOf42 _) (Tryd.isAgg42 _) fun v3 hv3 => ?_)))))))
    replace hb1 := bind_some hb1
    obtain ⟨x2, hx2, hb1⟩ := hb1
    refine lw_op Z Z Z (ow_call Z Z Tryd.call76 (w_impl_RuleValid (hG.mono (hl1.trans hl2)) hC2.old hv3 hx2) fun v4 w3 hv4 => ?_)
    obtain ⟨hv4, hb3⟩ := hv4
    have hl3 := Le.no M1 hb3
    have hC3 := hC2.no hb3
    obtain rfl := vbool_eq hv4
    refine lw_op Z Z Z (ow_not Z Z (lw_nil (ew_then ?_)))
    replace hb1 := cond_some hb1
    rcases hb1 with ⟨hc3, hb1⟩ | ⟨hc3, hb1⟩
    ·
     subst hc3
     refine cw_false Z (cw_skip (ew_blockN (ew_then (cw_region (lw_op Z Z Z (ow_add Z Z Z (lw_op Z Z Z (ow_move Z Z (lw_nil ?_)))))))))
     have lz1 := ((hl1.trans hl2).trans hl3)
     exact ew_nxt (W (k1 + 1)) hb1 fun a ha => ⟨M1, (ha.sub ⟨Z, Z, Z, Zt⟩), lz1, hC3⟩
    ·
     subst hc3
     refine cw_true Z (cw_seq (cw_region (lw_op Z Z Z (ow_assign Z Z (lw_nil (ew_then (cw_ret (ew_blockR (ew_thenR (ew_thenR (ew_blockR (ew_brkR (ew_thenR ?_)))))))))))))
     have e1 := hR1 _ (sj hb1).symm
     subst e1
     obtain rfl := sj h
     exact ew_ret (res1 Z (.tmp Z)) ⟨_, Z, ((vbool _)), hC3.bx⟩
   ·
    obtain rfl := hbb2.trans hc2
    exact cw_false Z (cw_exit (ew_thenX (ew_thenX (ew_blockX (ew_brk k1 hb1 fun a ha => ⟨M1, (ha.sub ⟨Z, Z, Z, Zt⟩), hl1, hC1⟩)))))
  ·
   rintro k2 a w4 hlr2 ⟨M2, hF2, hl4, hC4⟩
   subst hlr2
   refine ew_at (E := [(8, v0p), (9, (Zv (a_list.length : Int))), (10, (Zv k2))]) hF2 (ew_then (cw_seq (cw_region (lw_op Z Z Z (ow_assign Z Z (lw_nil (ew_then (cw_ret ?_))))))))
   obtain rfl := sj h
   exact ew_ret (res1 Z (.tmp Z)) ⟨_, Z, ((vbool _)), hC4.bx⟩

theorem wo_impl_callsIn {w : World} {M : Nat → Prop} (_hG : ARep (RArr 4 RShape) w M shapes ⟨0, 0, none⟩) (hO : ∀ b, M b → b < w.heap.size) {v0p : Value} {a_rules : List Rule} (h0 : VRep (RSlice RRule) w M a_rules v0p) {r : (List Int)} (h : F.impl_callsIn a_rules = some r) :
  Calls Tryd.prog 67 [v0p].toArray w fun e w' => ∃ v, e = .returned v ∧ (∃ M', OwnRow RInt w.heap.size 3 w' M' r v ∧ Cx No w M w' M') ∧ BX No w w' := by
 obtain ⟨i3, hi3, hz3, hs3, hy3⟩ := info3
 have hC : Cx No w M w M := Cx.start hO (fun _ e => e.elim)
 clear _hG
 refine walk (N := 34) Tryd.func67 Z Tryd.ntmps67 Z (cw_seq (cw_region (lw_op Z Z Z (ow_assign Z Z (lw_nil (ew_then (cw_seq (cw_region (lw_op Z Z Z (ow_alloc Z (Tryd.zeroValue121 _) hC fun g1 w1 hg1 hg2 ho1 hb1 hl1 hC1 => ?_))))))))))
 have hm1 : (Add g1 M) g1 := .inl Z
 have ho2 : OwnA (RArr 5 RBool) w1 (Add g1 M) g1 121 [false, false, false, false, false] := OwnA.of ho1 ⟨Z, ⟨_, _, Z, (vbool _).cells, _, _, Z, (vbool _).cells, _, _, Z, (vbool _).cells, _, _, Z, (vbool _).cells, _, _, Z, (vbool _).cells, Z⟩⟩
 refine lw_nil (ew_then (cw_seq (cw_seq (cw_region (lw_op Z Z Z (ow_move Z Z (lw_op Z Z Z (ow_len Z Z (VRep.mono hl1 h0) Tryd.underlying36 Z (lw_op Z Z Z (ow_move Z Z (lw_nil (ew_then ?_))))))))))))
 replace h := bind_some h
 obtain ⟨lr1, hlr1, h⟩ := h
 refine cw_for hlr1 (fun s a w' => ∃ (M' : Nat → Prop), Fits 34 [(3, (Zw g1 0)), (9, v0p), (10, (Zv (a_rules.length : Int))), (11, (Zv s.1))] a ∧ Le w1 (Add g1 M) w' M' ∧ Cx No w M w' M' ∧ OwnA (RArr 5 RBool) w' M' g1 121 s.2 ∧ M' g1) ?_ ?_ ?_
 · exact fun a ha => ⟨(Add g1 M), ha.sub ⟨Z, Z, Z, Z, Zt⟩, Le.refl _ _, hC1, ho2, hm1⟩
 ·
  rintro ⟨k1, y1⟩ a w2 sr1 ⟨M1, hF1, hl2, hC2, ho3, hm2⟩ hb2 hR1
  refine cw_at (E := [(3, (Zw g1 0)), (9, v0p), (10, (Zv (a_rules.length : Int))), (11, (Zv k1))]) hF1 (cw_seq (cw_region (lw_op Z Z Z (ow_lss Z Z Z fun bb1 hbb1 => lw_nil (ew_then (cw_seq ?_))))))
  replace hb2 := cond_some hb2
  rcases hb2 with ⟨hc1, hb2⟩ | ⟨hc1, hb2⟩
  ·
   obtain rfl := hbb1.trans hc1
   refine cw_true Z (cw_skip (ew_then (cw_seq (cw_block (cw_seq (cw_region ?_))))))
   replace hb2 := bind_some hb2
   obtain ⟨x1, hx1, hb2⟩ := hb2
   refine lw_op Z Z Z (ow_indexSlice (R := RRule) Z Z Z (VRep.mono (hl1.trans hl2) h0) Tryd.underlying36 (Tryd.sizeOf42 _) hx1 fun p1 hp1 => lw_op Z Z Z (ow_load (R := RRule) Z Z hp1 (Tryd.sizeOf42 _) (Tryd.isAgg42 _) fun v3 hv3 => lw_allocStore (R := RRule) Z Z Z Z Z Z Z Tryd.zeroValue42 Tryd.sizeOf42 Z Z Z (by simp) hv3 hC2 fun p2 w3 hp2 hb3 hl3 hC3 => ?_))
   have ho4 := ho3.no hb3 hl3
   refine lw_nil (ew_then (cw_seq (cw_region (lw_op Z Z Z (ow_fieldAddr Z Z Tryd.underlying42 Z (Tryd.sizeOf3 _) (lw_op Z Z Z (ow_load (R := RInt) Z Z (hp2.fld fld_Rule_Action) (Tryd.sizeOf3 _) (Tryd.isAgg3 _) fun v4 hv4 => ?_)))))))
   obtain rfl := vint_eq hv4
   refine lw_op Z Z Z (ow_eqlI Z Z Z fun bb2 hbb2 => lw_nil (ew_then ?_))
   replace hb2 := cond_some hb2
   rcases hb2 with ⟨hc2, hb2⟩ | ⟨hc2, hb2⟩
   ·
    obtain rfl := hbb2.trans hc2
    refine cw_true Z (cw_region (lw_op Z Z Z (ow_fieldAddr Z Z Tryd.underlying42 Z (Tryd.sizeOf3 _) (lw_op Z Z Z (ow_load (R := RInt) Z Z (hp2.fld fld_Rule_Chain) (Tryd.sizeOf3 _) (Tryd.isAgg3 _) fun v5 hv5 => ?_)))))
    obtain rfl := vint_eq hv5
    replace hb2 := bind_some hb2
    obtain ⟨x2, hx2, hb2⟩ := hb2
    refine lw_op Z Z Z (ow_indexA (R := RBool) Z Z Z Z ho4 Tryd.underlying121 (Tryd.sizeOf4 _) hx2 (lw_op0 Z Z (ow_storeElA (X := No) (R := RBool) Z Z Z Z ho4 hx2 (Tryd.sizeOf4 _) (vbool _) hm2 (.inl hg2) hC3 fun w4 ho5 hb4 hl4 hC4 => lw_nil (ew_blockN (ew_then (cw_region (lw_op Z Z Z (ow_add Z Z Z (lw_op Z Z Z (ow_move Z Z (lw_nil ?_)))))))))))
    have lz1 := ((hl2.trans hl3).trans hl4)
    exact ew_nxt ((W (k1 + 1)), (List.set y1 (x1.Chain : Int).toNat true)) hb2 fun a ha => ⟨M1, (ha.sub ⟨Z, Z, Z, Z, Zt⟩), lz1, hC4, ho5, hm2⟩
   ·
    obtain rfl := hbb2.trans hc2
    exact cw_false Z (cw_skip (ew_blockN (ew_then (cw_region (lw_op Z Z Z (ow_add Z Z Z (lw_op Z Z Z (ow_move Z Z (lw_nil (ew_nxt ((W (k1 + 1)), y1) hb2 fun a ha => ⟨M1, (ha.sub ⟨Z, Z, Z, Z, Zt⟩), (hl2.trans hl3), hC3, ho4, hm2⟩))))))))))
  ·
   obtain rfl := hbb1.trans hc1
   exact cw_false Z (cw_exit (ew_thenX (ew_thenX (ew_blockX (ew_brk (k1, y1) hb2 fun a ha => ⟨M1, (ha.sub ⟨Z, Z, Z, Z, Zt⟩), hl2, hC2, ho3, hm2⟩)))))
 ·
  rintro ⟨k2, y2⟩ a w5 hlr2 ⟨M2, hF2, hl5, hC5, ho6, hm3⟩
  subst hlr2
  refine ew_at (E := [(3, (Zw g1 0)), (9, v0p), (10, (Zv (a_rules.length : Int))), (11, (Zv k2))]) hF2 (ew_then (cw_seq (cw_region (lw_op Z Z Z (ow_assign Z Z (lw_nil (ew_then (cw_seq (cw_seq (cw_region (lw_op Z Z Z (ow_loadA (R := (RArr 5 RBool)) Z Z Z ho6 (Tryd.sizeOf121 _) (Tryd.isAgg121 _) fun v8 hv8 => lw_op Z Z Z (ow_move Z Z (lw_nil (ew_then ?_)))))))))))))))
  have hr1 : OwnRow RInt w.heap.size 3 w5 M2 ([] : List Int) (.slice none 0 0) := ownrow_nil
  replace h := bind_some h
  obtain ⟨lr2, hlr3, h⟩ := h
  refine cw_for hlr3 (fun s a w' => ∃ (M' : Nat → Prop) (v0c : Value), Fits 34 [(6, v0c), (22, v8), (23, (Zv s.2))] a ∧ Le w5 M2 w' M' ∧ Cx No w M w' M' ∧ OwnRow RInt w.heap.size 3 w' M' s.1 v0c) ?_ ?_ ?_
  · exact fun a ha => ⟨M2, (.slice none 0 0), ha.sub ⟨Z, Z, Z, Zt⟩, Le.refl _ _, hC5, hr1⟩
  ·
   rintro ⟨y3, k3⟩ a w6 sr2 ⟨M3, v9, hF3, hl6, hC6, hw1⟩ hb5 hR2
   refine cw_at (E := [(6, v9), (22, v8), (23, (Zv k3))]) hF3 (cw_seq (cw_region (lw_op Z Z Z (ow_lss Z Z Z fun bb3 hbb3 => lw_nil (ew_then (cw_seq ?_))))))
   replace hb5 := cond_some hb5
   rcases hb5 with ⟨hc3, hb5⟩ | ⟨hc3, hb5⟩
   ·
    obtain rfl := hbb3.trans hc3
    refine cw_true Z (cw_skip (ew_then (cw_seq (cw_block (cw_seq (cw_region (lw_op Z Z Z (ow_move Z Z ?_))))))))
    replace hb5 := bind_some hb5
    obtain ⟨x3, hx3, hb5⟩ := hb5
    refine lw_op Z Z Z (ow_index (R := RBool) Z Z Z (VRep.mono hl6 hv8) Tryd.underlying121 (Tryd.sizeOf4 _) (Tryd.isAgg4 _) hx3 fun v11 hv11 => ?_)
    obtain rfl := vbool_eq hv11
    refine lw_op Z Z Z (ow_assign Z Z (lw_op Z Z Z (ow_assign Z Z (lw_nil (ew_then (cw_seq (cw_region (lw_op Z Z Z (ow_move Z Z (lw_nil (ew_then ?_)))))))))))
    replace hb5 := cond_some hb5
    rcases hb5 with ⟨hc4, hb5⟩ | ⟨hc4, hb5⟩
    ·
     subst hc4
     refine cw_true Z (cw_region (lw_op Z Z Z (ow_move Z Z (lw_op Z Z Z (ow_move Z Z (lw_op Z Z Z (ow_buildSlice (R := RInt) (xs := [k3]) (cs := #[(Zv k3)]) (e := 3) Z Z (by kernel_rfl) Z Z ⟨_, _, Z, (vint _).cells, Z⟩ hC6 fun p3 w7 hw2 hb6 hl7 hC7 => ?_)))))))
     have hr2 := hw1.no hb6
     replace hb5 := bind_some hb5
     obtain ⟨z1, hz1, hb5⟩ := hb5
     refine lw_op Z Z Z (ow_append (R := RInt) Z Z Z Z Tryd.underlying52 hi3 hz3 hs3 hy3 Z Z Z Z hr2 hw2 hz1 hC7 fun v12 w8 M4 hr3 hb7 hl8 hC8 hM1 hat1 => lw_op Z Z Z (ow_assign Z Z (lw_nil (ew_blockN (ew_then (cw_region (lw_op Z Z Z (ow_add Z Z Z (lw_op Z Z Z (ow_move Z Z (lw_nil ?_)))))))))))
     have lz2 := ((hl6.trans hl7).trans hl8)
     exact ew_nxt (z1, (W (k3 + 1))) hb5 fun a ha => ⟨M4, v12, (ha.sub ⟨Z, Z, Z, Zt⟩), lz2, hC8, hr3⟩
    ·
     subst hc4
     exact cw_false Z (cw_skip (ew_blockN (ew_then (cw_region (lw_op Z Z Z (ow_add Z Z Z (lw_op Z Z Z (ow_move Z Z (lw_nil (ew_nxt (y3, (W (k3 + 1))) hb5 fun a ha => ⟨M3, v9, (ha.sub ⟨Z, Z, Z, Zt⟩), hl6, hC6, hw1⟩))))))))))
   ·
    obtain rfl := hbb3.trans hc3
    exact cw_false Z (cw_exit (ew_thenX (ew_thenX (ew_blockX (ew_brk (y3, k3) hb5 fun a ha => ⟨M3, v9, (ha.sub ⟨Z, Z, Z, Zt⟩), hl6, hC6, hw1⟩)))))
  ·
   rintro ⟨y4, k4⟩ a w9 hlr4 ⟨M5, v13, hF4, hl9, hC9, hw3⟩
   subst hlr4
   refine ew_at (E := [(6, v13), (22, v8), (23, (Zv k4))]) hF4 (ew_then (cw_seq (cw_region (lw_op Z Z Z (ow_move Z Z (lw_op Z Z Z (ow_assign Z Z (lw_nil (ew_then (cw_ret ?_))))))))))
   obtain rfl := sj h
   exact ew_ret (res1 Z (.tmp Z)) ⟨_, Z, ⟨M5, hw3, hC9⟩, hC9.bx⟩

theorem w_impl_callsIn {w : World} {M : Nat → Prop} (hG : ARep (RArr 4 RShape) w M shapes ⟨0, 0, none⟩) (hO : ∀ b, M b → b < w.heap.size) {v0p : Value} {a_rules : List Rule} (h0 : VRep (RSlice RRule) w M a_rules v0p) {r : (List Int)} (h : F.impl_callsIn a_rules = some r) :
  Calls Tryd.prog 67 [v0p].toArray w fun e w' => ∃ v, e = .returned v ∧ VRep (RSlice RInt) w' M r v ∧ BX No w w' := by
 refine Calls.mono (wo_impl_callsIn hG hO h0 h) fun e w1 hz => ?_
 obtain ⟨v, e1, ⟨M1, hr, hc⟩, hb⟩ := hz
 exact ⟨v, e1, hr.freezeBack hc hO, hb⟩

theorem w_impl_visitCalls (n_ : Nat) : ∀ {w : World} {M : Nat → Prop} (hG : ARep (RArr 4 RShape) w M shapes ⟨0, 0, none⟩) (hO : ∀ b, M b → b < w.heap.size) {v0p : Value} {a_chains : List (List Rule)} (h0 : VRep (RSlice (RSlice RRule)) w M a_chains v0p) {a_chain : Int} {g : Nat} {a_colours : List Int} (hown : OwnA (RArr 5 RInt) w M g 96 a_colours) (hgM : M g) {r : Bool × (List Int)} (h : F.impl_visitCalls n_ a_chains a_chain a_colours = some r),
  Calls Tryd.prog 73 [v0p, (.int .i64 a_chain), (.pointer (some ⟨g, 0, none⟩))].toArray w fun e w' => ∃ v, e = .returned v ∧ (VRep RBool w' M r.1 v ∧ OwnA (RArr 5 RInt) w' M g 96 r.2) ∧ BX (One g) w w' := by
 induction n_ with
 | zero =>
  intro w M hG hO v0p a_chains h0 a_chain g a_colours hown hgM r h
  exact (Option.some_ne_none _ (show (none : Option (Bool × (List Int))) = some r from h).symm).elim
 | succ n_ ih =>
 intro w M hG hO v0p a_chains h0 a_chain g a_colours hown hgM r h
 have hX : ∀ b, (One g) b → M b := fun b e => e ▸ hgM
 have hC : Cx (One g) w M w M := Cx.start hO hX
 refine walk (N := 48) Tryd.func73 Z Tryd.ntmps73 Z (cw_seq (cw_region (lw_op Z Z Z (ow_assign Z Z (lw_nil (ew_then (cw_seq (cw_seq (cw_region (lw_op Z Z Z (ow_move Z Z (lw_op Z Z Z (ow_move Z Z (lw_op Z Z Z (ow_len Z Z h0 Tryd.underlying43 Z (lw_op Z Z Z (ow_geq Z Z Z fun bb1 hbb1 => lw_nil (ew_then ?_))))))))))))))))))
 replace h := cond_some h
 rcases h with ⟨hc1, h⟩ | ⟨hc1, h⟩
 ·
  obtain rfl := hbb1.trans hc1
  refine cw_true Z (cw_seq (cw_region (lw_op Z Z Z (ow_assign Z Z (lw_nil (ew_then (cw_ret (ew_thenR ?_))))))))
  obtain rfl := sj h
  exact ew_ret (res1 Z (.tmp Z)) ⟨_, Z, ⟨((vbool _)), (hown.mono hC.back)⟩, hC.bx⟩
 ·
  obtain rfl := hbb1.trans hc1
  refine cw_false Z (cw_skip (ew_then (cw_seq (cw_seq (cw_region (lw_op Z Z Z (ow_move Z Z (lw_op Z Z Z (ow_move Z Z (lw_op Z Z Z (ow_nilCheck Z Z ?_)))))))))))
  replace h := bind_some h
  obtain ⟨x1, hx1, h⟩ := h
  refine lw_op Z Z Z (ow_indexA (R := RInt) Z Z Z Z hown Tryd.underlying96 (Tryd.sizeOf3 _) hx1 (lw_op Z Z Z (ow_loadElA (R := RInt) Z Z Z hown hx1 (Tryd.sizeOf3 _) (Tryd.isAgg3 _) fun v1 hv1 => ?_)))
  obtain rfl := vint_eq hv1
  refine lw_nil (ew_then (cw_block (cw_seq (cw_region (lw_op Z Z Z (ow_eqlI Z Z Z fun bb2 hbb2 => lw_op Z Z Z (ow_assign Z Z (lw_nil (ew_then ?_)))))))))
  replace h := cond_some h
  rcases h with ⟨hc2, h⟩ | ⟨hc2, h⟩
  ·
   obtain rfl := hbb2.trans hc2
   refine cw_true Z (cw_seq (cw_region (lw_op Z Z Z (ow_assign Z Z (lw_nil (ew_then (cw_ret (ew_blockR (ew_thenR ?_)))))))))
   obtain rfl := sj h
   exact ew_ret (res1 Z (.tmp Z)) ⟨_, Z, ⟨((vbool _)), (hown.mono hC.back)⟩, hC.bx⟩
  ·
   obtain rfl := hbb2.trans hc2
   refine cw_false Z (cw_seq (cw_region (lw_op Z Z Z (ow_eqlI Z Z Z fun bb3 hbb3 => lw_op Z Z Z (ow_assign Z Z (lw_nil (ew_then ?_)))))))
   replace h := cond_some h
   rcases h with ⟨hc3, h⟩ | ⟨hc3, h⟩
   ·
    obtain rfl := hbb3.trans hc3
    refine cw_true Z (cw_seq (cw_region (lw_op Z Z Z (ow_assign Z Z (lw_nil (ew_then (cw_ret (ew_blockR (ew_thenR ?_)))))))))
    obtain rfl := sj h
    exact ew_ret (res1 Z (.tmp Z)) ⟨_, Z, ⟨((vbool _)), (hown.mono hC.back)⟩, hC.bx⟩
   ·
    obtain rfl := hbb3.trans hc3
    refine cw_false Z (cw_skip (ew_blockN (ew_then (cw_seq (cw_region (lw_op Z Z Z (ow_move Z Z (lw_op Z Z Z (ow_move Z Z (lw_op Z Z Z (ow_nilCheck Z Z (lw_op Z Z Z (ow_indexA (R := RInt) Z Z Z Z hown Tryd.underlying96 (Tryd.sizeOf3 _) hx1 (lw_op0 Z Z (ow_storeElA (X := (One g)) (R := RInt) Z Z Z Z hown hx1 (Tryd.sizeOf3 _) (vint _) hgM (.inr Z) hC fun w1 ho1 hb1 hl1 hC1 => lw_nil (ew_then (cw_seq (cw_region (lw_op Z Z Z (ow_assign Z Z (lw_nil (ew_then (cw_seq (cw_seq (cw_region (lw_op Z Z Z (ow_move Z Z (lw_op Z Z Z (ow_move Z Z ?_)))))))))))))))))))))))))))))
    replace h := bind_some h
    obtain ⟨x2, hx2, h⟩ := h
    refine lw_op Z Z Z (ow_indexSlice (R := (RSlice RRule)) Z Z Z (VRep.mono hl1 h0) Tryd.underlying43 (Tryd.sizeOf36 _) hx2 fun p1 hp1 => lw_op Z Z Z (ow_load (R := (RSlice RRule)) Z Z hp1 (Tryd.sizeOf36 _) (Tryd.isAgg36 _) fun v2 hv2 => ?_))
    replace h := bind_some h
    obtain ⟨x3, hx3, h⟩ := h
    refine lw_op Z Z Z (ow_call Z Z Tryd.call67 (w_impl_callsIn (hG.mono hl1) hC1.old hv2 hx3) fun v3 w2 hv3 => ?_)
    obtain ⟨hv3, hb2⟩ := hv3
    have hl2 := Le.no M hb2
    have hC2 := hC1.no hb2
    have ho2 := ho1.no hb2 hl2
    refine lw_op Z Z Z (ow_len Z Z hv3 Tryd.underlying52 Z (lw_op Z Z Z (ow_move Z Z (lw_nil (ew_then ?_)))))
    replace h := bind_some h
    obtain ⟨lr1, hlr1, h⟩ := h
    refine cw_for hlr1 (fun s a w' => ∃ (M' : Nat → Prop), Fits 48 [(0, v0p), (1, (Zv a_chain)), (2, (Zw g 0)), (7, (.bool s.1)), (31, v3), (32, (Zv (x3.length : Int))), (33, (Zv s.2.1))] a ∧ Le w2 M w' M' ∧ Cx (One g) w M w' M' ∧ OwnA (RArr 5 RInt) w' M' g 96 s.2.2 ∧ M' g) ?_ ?_ ?_
    · exact fun a ha => ⟨M, ha.sub ⟨Z, Z, Z, Z, Z, Z, Z, Zt⟩, Le.refl _ _, hC2, ho2, hgM⟩
    ·
     rintro ⟨y1, k1, y2⟩ a w3 sr1 ⟨M1, hF1, hl3, hC3, ho3, hm1⟩ hb3 hR1
     refine cw_at (E := [(0, v0p), (1, (Zv a_chain)), (2, (Zw g 0)), (7, (.bool y1)), (31, v3), (32, (Zv (x3.length : Int))), (33, (Zv k1))]) hF1 (cw_seq (cw_region (lw_op Z Z Z (ow_lss Z Z Z fun bb4 hbb4 => lw_nil (ew_then (cw_seq ?_))))))
     replace hb3 := cond_some hb3
     rcases hb3 with ⟨hc4, hb3⟩ | ⟨hc4, hb3⟩
     ·
      obtain rfl := hbb4.trans hc4
      refine cw_true Z (cw_skip (ew_then (cw_seq (cw_block (cw_seq (cw_region ?_))))))
      replace hb3 := bind_some hb3
      obtain ⟨x4, hx4, hb3⟩ := hb3
      refine lw_op Z Z Z (ow_indexSlice (R := RInt) Z Z Z (VRep.mono hl3 hv3) Tryd.underlying52 (Tryd.sizeOf3 _) hx4 fun p2 hp2 => lw_op Z Z Z (ow_load (R := RInt) Z Z hp2 (Tryd.sizeOf3 _) (Tryd.isAgg3 _) fun v7 hv7 => ?_))
      obtain rfl := vint_eq hv7
      refine lw_op Z Z Z (ow_assign Z Z (lw_nil (ew_then (cw_seq (cw_region (lw_op Z Z Z (ow_move Z Z (lw_op Z Z Z (ow_move Z Z (lw_op Z Z Z (ow_move Z Z ?_)))))))))))
      have lz1 := ((hl1.trans hl2).trans hl3)
      replace hb3 := bind_some hb3
      obtain ⟨x5, hx5, hb3⟩ := hb3
      refine lw_op Z Z Z (ow_call Z Z Tryd.call73 (ih (hG.mono lz1) hC3.old (VRep.mono lz1 h0) ho3 hm1 hx5) fun v8 w4 hv8 => ?_)
      obtain ⟨⟨hv8, ho4⟩, hb4⟩ := hv8
      have hl4 := Le.of_bx M1 hb4 (fun b e => (by rw [show b = g from e]; exact hm1))
      have hC4 := hC3.go hb4 (fun b e => Or.inr e)
      obtain ⟨bb5, hbb5, rfl⟩ := vbool_ex hv8
      refine lw_op Z Z Z (ow_not Z Z (lw_nil (ew_then ?_)))
      replace hb3 := cond_some hb3
      rcases hb3 with ⟨hc5, hb3⟩ | ⟨hc5, hb3⟩
      ·
       obtain rfl := hbb5.trans hc5
       exact cw_false Z (cw_skip (ew_blockN (ew_then (cw_region (lw_op Z Z Z (ow_add Z Z Z (lw_op Z Z Z (ow_move Z Z (lw_nil (ew_nxt (y1, (W (k1 + 1)), x5.2) hb3 fun a ha => ⟨M1, (ha.sub ⟨Z, Z, Z, Z, Z, Z, Z, Zt⟩), (hl3.trans hl4), hC4, ho4, hm1⟩))))))))))
      ·
       obtain rfl := hbb5.trans hc5
       exact cw_true Z (cw_region (lw_op Z Z Z (ow_assign Z Z (lw_nil (ew_blockN (ew_then (cw_region (lw_op Z Z Z (ow_add Z Z Z (lw_op Z Z Z (ow_move Z Z (lw_nil (ew_nxt (false, (W (k1 + 1)), x5.2) hb3 fun a ha => ⟨M1, (ha.sub ⟨Z, Z, Z, Z, Z, Z, Z, Zt⟩), (hl3.trans hl4), hC4, ho4, hm1⟩)))))))))))))
     ·
      obtain rfl := hbb4.trans hc4
      exact cw_false Z (cw_exit (ew_thenX (ew_thenX (ew_blockX (ew_brk (y1, k1, y2) hb3 fun a ha => ⟨M1, (ha.sub ⟨Z, Z, Z, Z, Z, Z, Z, Zt⟩), hl3, hC3, ho3, hm1⟩)))))
    ·
     rintro ⟨y3, k2, y4⟩ a w5 hlr2 ⟨M2, hF2, hl5, hC5, ho5, hm2⟩
     subst hlr2
     refine ew_at (E := [(0, v0p), (1, (Zv a_chain)), (2, (Zw g 0)), (7, (.bool y3)), (31, v3), (32, (Zv (x3.length : Int))), (33, (Zv k2))]) hF2 (ew_then (cw_seq (cw_region (lw_op Z Z Z (ow_move Z Z (lw_op Z Z Z (ow_move Z Z (lw_op Z Z Z (ow_nilCheck Z Z ?_)))))))))
     replace h := bind_some h
     obtain ⟨x6, hx6, h⟩ := h
     refine lw_op Z Z Z (ow_indexA (R := RInt) Z Z Z Z ho5 Tryd.underlying96 (Tryd.sizeOf3 _) hx6 (lw_op0 Z Z (ow_storeElA (X := (One g)) (R := RInt) Z Z Z Z ho5 hx6 (Tryd.sizeOf3 _) (vint _) hm2 (.inr Z) hC5 fun w6 ho6 hb5 hl6 hC6 => lw_nil (ew_then (cw_seq (cw_region (lw_op Z Z Z (ow_move Z Z (lw_op Z Z Z (ow_assign Z Z (lw_nil (ew_then (cw_ret ?_)))))))))))))
     obtain rfl := sj h
     exact ew_ret (res1 Z (.tmp Z)) ⟨_, Z, ⟨((vbool _)), (ho6.mono hC6.back)⟩, hC6.bx⟩

theorem w_impl_acyclic {w : World} {M : Nat → Prop} (hG : ARep (RArr 4 RShape) w M shapes ⟨0, 0, none⟩) (hO : ∀ b, M b → b < w.heap.size) {v0p : Value} {a_chains : List (List Rule)} (h0 : VRep (RSlice (RSlice RRule)) w M a_chains v0p) {r : Bool} (h : F.impl_acyclic a_chains = some r) :
  Calls Tryd.prog 68 [v0p].toArray w fun e w' => ∃ v, e = .returned v ∧ VRep RBool w' M r v ∧ BX No w w' := by
 have hC : Cx No w M w M := Cx.start hO (fun _ e => e.elim)
 refine walk (N := 15) Tryd.func68 Z Tryd.ntmps68 Z (cw_seq (cw_region (lw_op Z Z Z (ow_assign Z Z (lw_nil (ew_then (cw_seq (cw_region (lw_op Z Z Z (ow_alloc Z (Tryd.zeroValue96 _) hC fun g1 w1 hg1 hg2 ho1 hb1 hl1 hC1 => ?_))))))))))
 have hm1 : (Add g1 M) g1 := .inl Z
 have ho2 : OwnA (RArr 5 RInt) w1 (Add g1 M) g1 96 [0, 0, 0, 0, 0] := OwnA.of ho1 ⟨Z, ⟨_, _, Z, (vint _).cells, _, _, Z, (vint _).cells, _, _, Z, (vint _).cells, _, _, Z, (vint _).cells, _, _, Z, (vint _).cells, Z⟩⟩
 refine lw_nil (ew_then (cw_seq (cw_seq (cw_region (lw_op Z Z Z (ow_move Z Z (lw_op Z Z Z (ow_len Z Z (VRep.mono hl1 h0) Tryd.underlying43 Z (lw_op Z Z Z (ow_move Z Z (lw_nil (ew_then ?_))))))))))))
 replace h := bind_some h
 obtain ⟨lr1, hlr1, h⟩ := h
 refine cw_for hlr1 (fun s a w' => ∃ (M' : Nat → Prop), Fits 15 [(0, v0p), (3, (Zw g1 0)), (6, (Zv (a_chains.length : Int))), (7, (Zv s.1))] a ∧ Le w1 (Add g1 M) w' M' ∧ Cx No w M w' M' ∧ OwnA (RArr 5 RInt) w' M' g1 96 s.2 ∧ M' g1) ?_ ?_ ?_
 · exact fun a ha => ⟨(Add g1 M), ha.sub ⟨Z, Z, Z, Z, Zt⟩, Le.refl _ _, hC1, ho2, hm1⟩
 ·
  rintro ⟨k1, y1⟩ a w2 sr1 ⟨M1, hF1, hl2, hC2, ho3, hm2⟩ hb2 hR1
  refine cw_at (E := [(0, v0p), (3, (Zw g1 0)), (6, (Zv (a_chains.length : Int))), (7, (Zv k1))]) hF1 (cw_seq (cw_region (lw_op Z Z Z (ow_lss Z Z Z fun bb1 hbb1 => lw_nil (ew_then (cw_seq ?_))))))
  replace hb2 := cond_some hb2
  rcases hb2 with ⟨hc1, hb2⟩ | ⟨hc1, hb2⟩
  ·
   obtain rfl := hbb1.trans hc1
   refine cw_true Z (cw_skip (ew_then (cw_seq (cw_block (cw_seq (cw_region (lw_op Z Z Z (ow_move Z Z (lw_op Z Z Z (ow_assign Z Z (lw_nil (ew_then (cw_seq (cw_region (lw_op Z Z Z (ow_move Z Z (lw_op Z Z Z (ow_move Z Z ?_))))))))))))))))))
   replace hb2 := bind_some hb2
   obtain ⟨x1, hx1, hb2⟩ := hb2
   refine lw_op Z Z Z (ow_call Z Z Tryd.call73 (w_impl_visitCalls 10 (hG.mono (hl1.trans hl2)) hC2.old (VRep.mono (hl1.trans hl2) h0) ho3 hm2 hx1) fun v3 w3 hv3 => ?_)
   obtain ⟨⟨hv3, ho4⟩, hb3⟩ := hv3
   have hl3 := Le.of_bx M1 hb3 (fun b e => (by rw [show b = g1 from e]; exact hm2))
   have hC3 := hC2.go hb3 (fun b e => (by rw [show b = g1 from e]; exact (.inl hg2)))
   obtain ⟨bb2, hbb2, rfl⟩ := vbool_ex hv3
   refine lw_op Z Z Z (ow_not Z Z (lw_nil (ew_then ?_)))
   replace hb2 := cond_some hb2
   rcases hb2 with ⟨hc2, hb2⟩ | ⟨hc2, hb2⟩
   ·
    obtain rfl := hbb2.trans hc2
    exact cw_false Z (cw_skip (ew_blockN (ew_then (cw_region (lw_op Z Z Z (ow_add Z Z Z (lw_op Z Z Z (ow_move Z Z (lw_nil (ew_nxt ((W (k1 + 1)), x1.2) hb2 fun a ha => ⟨M1, (ha.sub ⟨Z, Z, Z, Z, Zt⟩), (hl2.trans hl3), hC3, ho4, hm2⟩))))))))))
   ·
    obtain rfl := hbb2.trans hc2
    refine cw_true Z (cw_seq (cw_region (lw_op Z Z Z (ow_assign Z Z (lw_nil (ew_then (cw_ret (ew_blockR (ew_thenR (ew_thenR (ew_blockR (ew_brkR (ew_thenR ?_)))))))))))))
    have e1 := hR1 _ (sj hb2).symm
    subst e1
    obtain rfl := sj h
    exact ew_ret (res1 Z (.tmp Z)) ⟨_, Z, ((vbool _)), hC3.bx⟩
  ·
   obtain rfl := hbb1.trans hc1
   exact cw_false Z (cw_exit (ew_thenX (ew_thenX (ew_blockX (ew_brk (k1, y1) hb2 fun a ha => ⟨M1, (ha.sub ⟨Z, Z, Z, Z, Zt⟩), hl2, hC2, ho3, hm2⟩)))))
 ·
  rintro ⟨k2, y2⟩ a w4 hlr2 ⟨M2, hF2, hl4, hC4, ho5, hm3⟩
  subst hlr2
  refine ew_at (E := [(0, v0p), (3, (Zw g1 0)), (6, (Zv (a_chains.length : Int))), (7, (Zv k2))]) hF2 (ew_then (cw_seq (cw_region (lw_op Z Z Z (ow_assign Z Z (lw_nil (ew_then (cw_ret ?_))))))))
  obtain rfl := sj h
  exact ew_ret (res1 Z (.tmp Z)) ⟨_, Z, ((vbool _)), hC4.bx⟩

theorem w_impl_RulesetValid {w : World} {M : Nat → Prop} (hG : ARep (RArr 4 RShape) w M shapes ⟨0, 0, none⟩) (hO : ∀ b, M b → b < w.heap.size) {v0p : Value} {a_s : Ruleset} (h0 : VRep RRuleset w M a_s v0p) {r : Bool} (h : F.impl_RulesetValid a_s = some r) :
  Calls Tryd.prog 25 [v0p].toArray w fun e w' => ∃ v, e = .returned v ∧ VRep RBool w' M r v ∧ BX No w w' := by
 have hC : Cx No w M w M := Cx.start hO (fun _ e => e.elim)
 refine walk (N := 54) Tryd.func25 Z Tryd.ntmps25 Z (cw_seq (cw_region (lw_op Z Z Z (ow_box (R := RRuleset) Z Z h0 hC fun p1 w1 hp1 hb1 hl1 hC1 => lw_op Z Z Z (ow_assign Z Z (lw_nil (ew_then (cw_seq (cw_seq (cw_region (lw_op Z Z Z (ow_fieldAddr Z Z Tryd.underlying45 Z (Tryd.sizeOf43 _) (lw_op Z Z Z (ow_load (R := (RSlice (RSlice RRule))) Z Z (hp1.fld fld_Ruleset_Chains) (Tryd.sizeOf43 _) (Tryd.isAgg43 _) fun v1 hv1 => lw_op Z Z Z (ow_len Z Z hv1 Tryd.underlying43 Z (lw_op Z Z Z (ow_lss Z Z Z fun bb1 hbb1 => lw_op Z Z Z (ow_move Z Z ?_))))))))))))))))))
 replace h := cond_some h
 rcases h with ⟨hc1, h⟩ | ⟨hc1, h⟩
 ·
  obtain rfl := hbb1.trans hc1
  refine lw_off Z Z Z Z Z Z (lw_off Z Z Z Z Z Z (lw_off Z Z Z Z Z Z (lw_off Z Z Z Z Z Z (lw_op Z Z Z (ow_pickT Z Z Z (lw_nil (ew_then (cw_true Z (cw_seq (cw_region (lw_op Z Z Z (ow_assign Z Z (lw_nil (ew_then (cw_ret (ew_thenR ?_))))))))))))))))
  obtain rfl := sj h
  exact ew_ret (res1 Z (.tmp Z)) ⟨_, Z, ((vbool _)), hC1.bx⟩
 ·
  obtain rfl := hbb1.trans hc1
  refine lw_on Z Z Z Z Z Z (ow_fieldAddr Z Z Tryd.underlying45 Z (Tryd.sizeOf43 _) (lw_on Z Z Z Z Z Z (ow_load (R := (RSlice (RSlice RRule))) Z Z (hp1.fld fld_Ruleset_Chains) (Tryd.sizeOf43 _) (Tryd.isAgg43 _) fun v2 hv2 => lw_on Z Z Z Z Z Z (ow_len Z Z hv2 Tryd.underlying43 Z (lw_on Z Z Z Z Z Z (ow_gtr Z Z Z fun bb2 hbb2 => lw_op Z Z Z (ow_pickF Z Z Z (lw_nil (ew_then ?_)))))))))
  replace h := cond_some h
  rcases h with ⟨hc2, h⟩ | ⟨hc2, h⟩
  ·
   obtain rfl := hbb2.trans hc2
   refine cw_true Z (cw_seq (cw_region (lw_op Z Z Z (ow_assign Z Z (lw_nil (ew_then (cw_ret (ew_thenR ?_))))))))
   obtain rfl := sj h
   exact ew_ret (res1 Z (.tmp Z)) ⟨_, Z, ((vbool _)), hC1.bx⟩
  ·
   obtain rfl := hbb2.trans hc2
   refine cw_false Z (cw_skip (ew_then (cw_seq (cw_seq (cw_region (lw_op Z Z Z (ow_fieldAddr Z Z Tryd.underlying45 Z (Tryd.sizeOf43 _) (lw_op Z Z Z (ow_load (R := (RSlice (RSlice RRule))) Z Z (hp1.fld fld_Ruleset_Chains) (Tryd.sizeOf43 _) (Tryd.isAgg43 _) fun v3 hv3 => lw_op Z Z Z (ow_len Z Z hv3 Tryd.underlying43 Z (lw_op Z Z Z (ow_move Z Z (lw_nil (ew_then ?_))))))))))))))
   replace h := bind_some h
   obtain ⟨lr1, hlr1, h⟩ := h
   refine cw_for hlr1 (fun s a w' => ∃ (M' : Nat → Prop), Fits 54 [(1, (.pointer (some p1))), (20, v3), (21, (Zv (a_s.Chains.length : Int))), (22, (Zv s))] a ∧ Le w1 M w' M' ∧ Cx No w M w' M') ?_ ?_ ?_
   · exact fun a ha => ⟨M, ha.sub ⟨Z, Z, Z, Z, Zt⟩, Le.refl _ _, hC1⟩
   ·
    rintro k1 a w2 sr1 ⟨M1, hF1, hl2, hC2⟩ hb2 hR1
    refine cw_at (E := [(1, (.pointer (some p1))), (20, v3), (21, (Zv (a_s.Chains.length : Int))), (22, (Zv k1))]) hF1 (cw_seq (cw_region (lw_op Z Z Z (ow_lss Z Z Z fun bb3 hbb3 => lw_nil (ew_then (cw_seq ?_))))))
    replace hb2 := cond_some hb2
    rcases hb2 with ⟨hc3, hb2⟩ | ⟨hc3, hb2⟩
    ·
     obtain rfl := hbb3.trans hc3
     refine cw_true Z (cw_skip (ew_then (cw_seq (cw_block (cw_seq (cw_region ?_))))))
     replace hb2 := bind_some hb2
     obtain ⟨x1, hx1, hb2⟩ := hb2
     refine lw_op Z Z Z (ow_indexSlice (R := (RSlice RRule)) Z Z Z (VRep.mono hl2 hv3) Tryd.underlying43 (Tryd.sizeOf36 _) hx1 fun p2 hp2 => lw_op Z Z Z (ow_load (R := (RSlice RRule)) Z Z hp2 (Tryd.sizeOf36 _) (Tryd.isAgg36 _) fun v5 hv5 => lw_op Z Z Z (ow_assign Z Z (lw_nil (ew_then (cw_seq (cw_region (lw_op Z Z Z (ow_move Z Z ?_)))))))))
     replace hb2 := bind_some hb2
     obtain ⟨x2, hx2, hb2⟩ := hb2
     refine lw_op Z Z Z (ow_call Z Z Tryd.call66 (w_impl_RulesValid (hG.mono (hl1.trans hl2)) hC2.old hv5 hx2) fun v6 w3 hv6 => ?_)
     obtain ⟨hv6, hb3⟩ := hv6
     have hl3 := Le.no M1 hb3
     have hC3 := hC2.no hb3
     obtain rfl := vbool_eq hv6
     refine lw_op Z Z Z (ow_not Z Z (lw_nil (ew_then ?_)))
     replace hb2 := cond_some hb2
     rcases hb2 with ⟨hc4, hb2⟩ | ⟨hc4, hb2⟩
     ·
      subst hc4
      exact cw_false Z (cw_skip (ew_blockN (ew_then (cw_region (lw_op Z Z Z (ow_add Z Z Z (lw_op Z Z Z (ow_move Z Z (lw_nil (ew_nxt (W (k1 + 1)) hb2 fun a ha => ⟨M1, (ha.sub ⟨Z, Z, Z, Z, Zt⟩), (hl2.trans hl3), hC3⟩))))))))))
     ·
      subst hc4
      refine cw_true Z (cw_seq (cw_region (lw_op Z Z Z (ow_assign Z Z (lw_nil (ew_then (cw_ret (ew_blockR (ew_thenR (ew_thenR (ew_blockR (ew_brkR (ew_thenR ?_)))))))))))))
      have e1 := hR1 _ (sj hb2).symm
      subst e1
      obtain rfl := sj h
      exact ew_ret (res1 Z (.tmp Z)) ⟨_, Z, ((vbool _)), hC3.bx⟩
    ·
     obtain rfl := hbb3.trans hc3
     exact cw_false Z (cw_exit (ew_thenX (ew_thenX (ew_blockX (ew_brk k1 hb2 fun a ha => ⟨M1, (ha.sub ⟨Z, Z, Z, Z, Zt⟩), hl2, hC2⟩)))))
   ·
    rintro k2 a w4 hlr2 ⟨M2, hF2, hl4, hC4⟩
    subst hlr2
    refine ew_at (E := [(1, (.pointer (some p1))), (20, v3), (21, (Zv (a_s.Chains.length : Int))), (22, (Zv k2))]) hF2 (ew_then (cw_seq (cw_seq (cw_region (lw_op Z Z Z (ow_fieldAddr Z Z Tryd.underlying45 Z (Tryd.sizeOf43 _) (lw_op Z Z Z (ow_load (R := (RSlice (RSlice RRule))) Z Z (ARep.mono hl4 (hp1.fld fld_Ruleset_Chains)) (Tryd.sizeOf43 _) (Tryd.isAgg43 _) fun v8 hv8 => lw_op Z Z Z (ow_len Z Z hv8 Tryd.underlying43 Z (lw_op Z Z Z (ow_move Z Z (lw_nil (ew_then ?_)))))))))))))
    replace h := bind_some h
    obtain ⟨lr2, hlr3, h⟩ := h
    refine cw_for hlr3 (fun s a w' => ∃ (M' : Nat → Prop), Fits 54 [(1, (.pointer (some p1))), (31, v8), (32, (Zv (a_s.Chains.length : Int))), (33, (Zv s))] a ∧ Le w4 M2 w' M' ∧ Cx No w M w' M') ?_ ?_ ?_
    · exact fun a ha => ⟨M2, ha.sub ⟨Z, Z, Z, Z, Zt⟩, Le.refl _ _, hC4⟩
    ·
     rintro k3 a w5 sr2 ⟨M3, hF3, hl5, hC5⟩ hb4 hR2
     refine cw_at (E := [(1, (.pointer (some p1))), (31, v8), (32, (Zv (a_s.Chains.length : Int))), (33, (Zv k3))]) hF3 (cw_seq (cw_region (lw_op Z Z Z (ow_lss Z Z Z fun bb4 hbb4 => lw_nil (ew_then (cw_seq ?_))))))
     replace hb4 := cond_some hb4
     rcases hb4 with ⟨hc5, hb4⟩ | ⟨hc5, hb4⟩
     ·
      obtain rfl := hbb4.trans hc5
      refine cw_true Z (cw_skip (ew_then (cw_seq (cw_block (cw_seq (cw_region ?_))))))
      replace hb4 := bind_some hb4
      obtain ⟨x3, hx3, hb4⟩ := hb4
      refine lw_op Z Z Z (ow_indexSlice (R := (RSlice RRule)) Z Z Z (VRep.mono hl5 hv8) Tryd.underlying43 (Tryd.sizeOf36 _) hx3 fun p3 hp3 => lw_op Z Z Z (ow_load (R := (RSlice RRule)) Z Z hp3 (Tryd.sizeOf36 _) (Tryd.isAgg36 _) fun v10 hv10 => lw_op Z Z Z (ow_assign Z Z (lw_nil (ew_then (cw_seq (cw_region (lw_op Z Z Z (ow_move Z Z ?_)))))))))
      replace hb4 := bind_some hb4
      obtain ⟨x4, hx4, hb4⟩ := hb4
      have lz1 := ((hl1.trans hl4).trans hl5)
      refine lw_op Z Z Z (ow_call Z Z Tryd.call67 (w_impl_callsIn (hG.mono lz1) hC5.old hv10 hx4) fun v11 w6 hv11 => ?_)
      obtain ⟨hv11, hb5⟩ := hv11
      have hl6 := Le.no M3 hb5
      have hC6 := hC5.no hb5
      refine lw_op Z Z Z (ow_len Z Z hv11 Tryd.underlying52 Z (lw_op Z Z Z (ow_move Z Z (lw_nil (ew_then ?_)))))
      replace hb4 := bind_some hb4
      obtain ⟨lr3, hlr4, hb4⟩ := hb4
      refine cw_for hlr4 (fun s a w' => ∃ (M' : Nat → Prop), Fits 54 [(1, (.pointer (some p1))), (31, v8), (32, (Zv (a_s.Chains.length : Int))), (33, (Zv k3)), (38, v11), (39, (Zv (x4.length : Int))), (40, (Zv s))] a ∧ Le w6 M3 w' M' ∧ Cx No w M w' M') ?_ ?_ ?_
      · exact fun a ha => ⟨M3, ha.sub ⟨Z, Z, Z, Z, Z, Z, Z, Zt⟩, Le.refl _ _, hC6⟩
      ·
       rintro k4 a w7 sr3 ⟨M4, hF4, hl7, hC7⟩ hb6 hR3
       refine cw_at (E := [(1, (.pointer (some p1))), (31, v8), (32, (Zv (a_s.Chains.length : Int))), (33, (Zv k3)), (38, v11), (39, (Zv (x4.length : Int))), (40, (Zv k4))]) hF4 (cw_seq (cw_region (lw_op Z Z Z (ow_lss Z Z Z fun bb5 hbb5 => lw_nil (ew_then (cw_seq ?_))))))
       replace hb6 := cond_some hb6
       rcases hb6 with ⟨hc6, hb6⟩ | ⟨hc6, hb6⟩
       ·
        obtain rfl := hbb5.trans hc6
        refine cw_true Z (cw_skip (ew_then (cw_seq (cw_block (cw_seq (cw_region ?_))))))
        replace hb6 := bind_some hb6
        obtain ⟨x5, hx5, hb6⟩ := hb6
        refine lw_op Z Z Z (ow_indexSlice (R := RInt) Z Z Z (VRep.mono hl7 hv11) Tryd.underlying52 (Tryd.sizeOf3 _) hx5 fun p4 hp4 => lw_op Z Z Z (ow_load (R := RInt) Z Z hp4 (Tryd.sizeOf3 _) (Tryd.isAgg3 _) fun v13 hv13 => ?_))
        obtain rfl := vint_eq hv13
        refine lw_op Z Z Z (ow_assign Z Z (lw_nil (ew_then (cw_seq (cw_region (lw_op Z Z Z (ow_move Z Z (lw_op Z Z Z (ow_fieldAddr Z Z Tryd.underlying45 Z (Tryd.sizeOf43 _) ?_)))))))))
        have lz2 := (((hl4.trans hl5).trans hl6).trans hl7)
        refine lw_op Z Z Z (ow_load (R := (RSlice (RSlice RRule))) Z Z (ARep.mono lz2 (hp1.fld fld_Ruleset_Chains)) (Tryd.sizeOf43 _) (Tryd.isAgg43 _) fun v14 hv14 => lw_op Z Z Z (ow_len Z Z hv14 Tryd.underlying43 Z (lw_op Z Z Z (ow_geq Z Z Z fun bb6 hbb6 => lw_nil (ew_then ?_)))))
        replace hb6 := cond_some hb6
        rcases hb6 with ⟨hc7, hb6⟩ | ⟨hc7, hb6⟩
        ·
         obtain rfl := hbb6.trans hc7
         refine cw_true Z (cw_seq (cw_region (lw_op Z Z Z (ow_assign Z Z (lw_nil (ew_then (cw_ret (ew_blockR (ew_thenR (ew_thenR (ew_blockR (ew_brkR (ew_blockR (ew_thenR (ew_thenR (ew_blockR (ew_brkR (ew_thenR ?_))))))))))))))))))
         have e2 := hR3 _ (sj hb6).symm
         subst e2
         have e3 := hR2 _ (sj hb4).symm
         subst e3
         obtain rfl := sj h
         exact ew_ret (res1 Z (.tmp Z)) ⟨_, Z, ((vbool _)), hC7.bx⟩
        ·
         obtain rfl := hbb6.trans hc7
         exact cw_false Z (cw_skip (ew_blockN (ew_then (cw_region (lw_op Z Z Z (ow_add Z Z Z (lw_op Z Z Z (ow_move Z Z (lw_nil (ew_nxt (W (k4 + 1)) hb6 fun a ha => ⟨M4, (ha.sub ⟨Z, Z, Z, Z, Z, Z, Z, Zt⟩), hl7, hC7⟩))))))))))
       ·
        obtain rfl := hbb5.trans hc6
        exact cw_false Z (cw_exit (ew_thenX (ew_thenX (ew_blockX (ew_brk k4 hb6 fun a ha => ⟨M4, (ha.sub ⟨Z, Z, Z, Z, Z, Z, Z, Zt⟩), hl7, hC7⟩)))))
      ·
       rintro k5 a w8 hlr5 ⟨M5, hF5, hl8, hC8⟩
       subst hlr5
       refine ew_at (E := [(1, (.pointer (some p1))), (31, v8), (32, (Zv (a_s.Chains.length : Int))), (33, (Zv k3)), (38, v11), (39, (Zv (x4.length : Int))), (40, (Zv k5))]) hF5 (ew_blockN (ew_then (cw_region (lw_op Z Z Z (ow_add Z Z Z (lw_op Z Z Z (ow_move Z Z (lw_nil ?_))))))))
       have lz3 := ((hl5.trans hl6).trans hl8)
       exact ew_nxt (W (k3 + 1)) hb4 fun a ha => ⟨M5, (ha.sub ⟨Z, Z, Z, Z, Zt⟩), lz3, hC8⟩
     ·
      obtain rfl := hbb4.trans hc5
      exact cw_false Z (cw_exit (ew_thenX (ew_thenX (ew_blockX (ew_brk k3 hb4 fun a ha => ⟨M3, (ha.sub ⟨Z, Z, Z, Z, Zt⟩), hl5, hC5⟩)))))
    ·
     rintro k6 a w9 hlr6 ⟨M6, hF6, hl9, hC9⟩
     subst hlr6
     refine ew_at (E := [(1, (.pointer (some p1))), (31, v8), (32, (Zv (a_s.Chains.length : Int))), (33, (Zv k6))]) hF6 (ew_then (cw_seq (cw_region (lw_op Z Z Z (ow_fieldAddr Z Z Tryd.underlying45 Z (Tryd.sizeOf43 _) (lw_op Z Z Z (ow_load (R := (RSlice (RSlice RRule))) Z Z (ARep.mono (hl4.trans hl9) (hp1.fld fld_Ruleset_Chains)) (Tryd.sizeOf43 _) (Tryd.isAgg43 _) fun v17 hv17 => ?_)))))))
     replace h := bind_some h
     obtain ⟨x6, hx6, h⟩ := h
     have lz4 := ((hl1.trans hl4).trans hl9)
     refine lw_op Z Z Z (ow_call Z Z Tryd.call68 (w_impl_acyclic (hG.mono lz4) hC9.old hv17 hx6) fun v18 w10 hv18 => ?_)
     obtain ⟨hv18, hb7⟩ := hv18
     have hC10 := hC9.no hb7
     obtain rfl := vbool_eq hv18
     refine lw_op Z Z Z (ow_assign Z Z (lw_nil (ew_then (cw_ret ?_))))
     obtain rfl := sj h
     exact ew_ret (res1 Z (.tmp Z)) ⟨_, Z, ((vbool _)), hC10.bx⟩

theorem w_impl_Packet_fields {w : World} {M : Nat → Prop} (_hG : ARep (RArr 4 RShape) w M shapes ⟨0, 0, none⟩) (hO : ∀ b, M b → b < w.heap.size) {v0p : Value} {a_p : Packet} (h0 : VRep RPacket w M a_p v0p) {r : (List Int)} (h : F.impl_Packet_fields a_p = some r) :
  Calls Tryd.prog 92 [v0p].toArray w fun e w' => ∃ v, e = .returned v ∧ VRep (RArr 4 RInt) w' M r v ∧ BX No w w' := by
 have hC : Cx No w M w M := Cx.start hO (fun _ e => e.elim)
 clear _hG
 refine walk (N := 12) Tryd.func92 Z Tryd.ntmps92 Z (cw_seq (cw_region (lw_op Z Z Z (ow_box (R := RPacket) Z Z h0 hC fun p1 w1 hp1 hb1 hl1 hC1 => lw_op Z Z Z (ow_alloc Z (Tryd.zeroValue119 _) hC1 fun g1 w2 hg1 hg2 ho1 hb2 hl2 hC2 => ?_)))))
 have hm1 : (Add g1 M) g1 := .inl Z
 have ho2 : OwnA (RArr 4 RInt) w2 (Add g1 M) g1 119 [0, 0, 0, 0] := OwnA.of ho1 ⟨Z, ⟨_, _, Z, (vint _).cells, _, _, Z, (vint _).cells, _, _, Z, (vint _).cells, _, _, Z, (vint _).cells, Z⟩⟩
 refine lw_nil (ew_then (cw_seq (cw_region (lw_op Z Z Z (ow_fieldAddr Z Z Tryd.underlying38 Z (Tryd.sizeOf3 _) (lw_op Z Z Z (ow_load (R := RInt) Z Z (ARep.mono hl2 (hp1.fld fld_Packet_From)) (Tryd.sizeOf3 _) (Tryd.isAgg3 _) fun v1 hv1 => ?_)))))))
 obtain rfl := vint_eq hv1
 refine lw_op Z Z Z (ow_fieldAddr Z Z Tryd.underlying38 Z (Tryd.sizeOf3 _) (lw_op Z Z Z (ow_load (R := RInt) Z Z (ARep.mono hl2 (hp1.fld fld_Packet_To)) (Tryd.sizeOf3 _) (Tryd.isAgg3 _) fun v2 hv2 => ?_)))
 obtain rfl := vint_eq hv2
 refine lw_op Z Z Z (ow_fieldAddr Z Z Tryd.underlying38 Z (Tryd.sizeOf3 _) (lw_op Z Z Z (ow_load (R := RInt) Z Z (ARep.mono hl2 (hp1.fld fld_Packet_Port)) (Tryd.sizeOf3 _) (Tryd.isAgg3 _) fun v3 hv3 => ?_)))
 obtain rfl := vint_eq hv3
 refine lw_op Z Z Z (ow_fieldAddr Z Z Tryd.underlying38 Z (Tryd.sizeOf3 _) (lw_op Z Z Z (ow_load (R := RInt) Z Z (ARep.mono hl2 (hp1.fld fld_Packet_Proto)) (Tryd.sizeOf3 _) (Tryd.isAgg3 _) fun v4 hv4 => ?_)))
 obtain rfl := vint_eq hv4
 refine lw_op Z Z Z (ow_build (v := .agg #[(Zv a_p.From), (Zv a_p.To), (Zv a_p.Port), (Zv a_p.Proto)]) Z Z (by kernel_rfl) ?_)
 have hw1 : VRep (RArr 4 RInt) w2 (Add g1 M) [a_p.From, a_p.To, a_p.Port, a_p.Proto] (.agg #[(Zv a_p.From), (Zv a_p.To), (Zv a_p.Port), (Zv a_p.Proto)]) := ⟨_, ⟨Z, ⟨_, _, Z, (vint _).cells, _, _, Z, (vint _).cells, _, _, Z, (vint _).cells, _, _, Z, (vint _).cells, Z⟩⟩, Z⟩
 obtain ⟨cs1, h1, h2⟩ := ho2.own
 refine lw_op0 Z Z (ow_storeA (X := No) (R := (RArr 4 RInt)) Z Z Z Z h1 h2 (Tryd.sizeOf119 _) hw1 hm1 (.inl hg2) hC2 fun w3 ho3 hb3 hl3 hC3 => lw_nil (ew_then (cw_ret ?_)))
 obtain rfl := sj h
 obtain ⟨v5, hq1, hw2⟩ := resA ho3 (Tryd.sizeOf119 _) (Tryd.isAgg119 _) rfl
 exact ew_ret (res1 Z (.cell Z hq1)) ⟨_, Z, (hw2.mono hC3.back), hC3.bx⟩

theorem w_impl_PacketValid {w : World} {M : Nat → Prop} (hG : ARep (RArr 4 RShape) w M shapes ⟨0, 0, none⟩) (hO : ∀ b, M b → b < w.heap.size) {v0p : Value} {a_p : Packet} (h0 : VRep RPacket w M a_p v0p) {r : Bool} (h : F.impl_PacketValid a_p = some r) :
  Calls Tryd.prog 62 [v0p].toArray w fun e w' => ∃ v, e = .returned v ∧ VRep RBool w' M r v ∧ BX No w w' := by
 have hC : Cx No w M w M := Cx.start hO (fun _ e => e.elim)
 refine walk (N := 20) Tryd.func62 Z Tryd.ntmps62 Z (cw_seq (cw_region (lw_op Z Z Z (ow_box (R := RPacket) Z Z h0 hC fun p1 w1 hp1 hb1 hl1 hC1 => lw_op Z Z Z (ow_assign Z Z (lw_nil (ew_then (cw_seq (cw_seq (cw_region (lw_op Z Z Z (ow_load (R := RPacket) Z Z hp1 (Tryd.sizeOf38 _) (Tryd.isAgg38 _) fun v1 hv1 => ?_))))))))))))
 replace h := bind_some h
 obtain ⟨x1, hx1, h⟩ := h
 refine lw_op Z Z Z (ow_call Z Z Tryd.call92 (w_impl_Packet_fields (hG.mono hl1) hC1.old hv1 hx1) fun v2 w2 hv2 => ?_)
 obtain ⟨hv2, hb2⟩ := hv2
 have hl2 := Le.no M hb2
 have hC2 := hC1.no hb2
 refine lw_op Z Z Z (ow_move Z Z (lw_nil (ew_then ?_)))
 replace h := bind_some h
 obtain ⟨lr1, hlr1, h⟩ := h
 refine cw_for hlr1 (fun s a w' => ∃ (M' : Nat → Prop), Fits 20 [(6, v2), (7, (Zv s))] a ∧ Le w2 M w' M' ∧ Cx No w M w' M') ?_ ?_ ?_
 · exact fun a ha => ⟨M, ha.sub ⟨Z, Z, Zt⟩, Le.refl _ _, hC2⟩
 ·
  rintro k1 a w3 sr1 ⟨M1, hF1, hl3, hC3⟩ hb3 hR1
  refine cw_at (E := [(6, v2), (7, (Zv k1))]) hF1 (cw_seq (cw_region (lw_op Z Z Z (ow_lss Z Z Z fun bb1 hbb1 => lw_nil (ew_then (cw_seq ?_))))))
  replace hb3 := cond_some hb3
  rcases hb3 with ⟨hc1, hb3⟩ | ⟨hc1, hb3⟩
  ·
   obtain rfl := hbb1.trans hc1
   refine cw_true Z (cw_skip (ew_then (cw_seq (cw_block (cw_seq (cw_region (lw_op Z Z Z (ow_move Z Z ?_))))))))
   replace hb3 := bind_some hb3
   obtain ⟨x2, hx2, hb3⟩ := hb3
   refine lw_op Z Z Z (ow_index (R := RInt) Z Z Z (VRep.mono hl3 hv2) Tryd.underlying119 (Tryd.sizeOf3 _) (Tryd.isAgg3 _) hx2 fun v4 hv4 => ?_)
   obtain rfl := vint_eq hv4
   refine lw_op Z Z Z (ow_assign Z Z (lw_op Z Z Z (ow_assign Z Z (lw_nil (ew_then (cw_seq (cw_region (lw_op Z Z Z (ow_move Z Z (lw_op Z Z Z (ow_lss Z Z Z fun bb2 hbb2 => lw_op Z Z Z (ow_move Z Z ?_))))))))))))
   replace hb3 := cond_some hb3
   rcases hb3 with ⟨hc2, hb3⟩ | ⟨hc2, hb3⟩
   ·
    obtain rfl := hbb2.trans hc2
    refine lw_off Z Z Z Z Z Z (lw_off Z Z Z Z Z Z (lw_off Z Z Z Z Z Z (lw_off Z Z Z Z Z Z (lw_op Z Z Z (ow_pickT Z Z Z (lw_nil (ew_then (cw_true Z (cw_seq (cw_region (lw_op Z Z Z (ow_assign Z Z (lw_nil (ew_then (cw_ret (ew_blockR (ew_thenR (ew_thenR (ew_blockR (ew_brkR (ew_thenR ?_)))))))))))))))))))))
    have e1 := hR1 _ (sj hb3).symm
    subst e1
    obtain rfl := sj h
    exact ew_ret (res1 Z (.tmp Z)) ⟨_, Z, ((vbool _)), hC3.bx⟩
   ·
    obtain rfl := hbb2.trans hc2
    refine lw_on Z Z Z Z Z Z (ow_move Z Z (lw_on Z Z Z Z Z Z (ow_move Z Z ?_)))
    replace hb3 := bind_some hb3
    obtain ⟨x3, hx3, hb3⟩ := hb3
    have lz1 := ((hl1.trans hl2).trans hl3)
    refine lw_on Z Z Z Z Z Z (ow_call Z Z Tryd.call83 (w_impl_FieldTop (hG.mono lz1) hC3.old hx3) fun v5 w4 hv5 => ?_)
    obtain ⟨hv5, hb4⟩ := hv5
    have hl4 := Le.no M1 hb4
    have hC4 := hC3.no hb4
    obtain rfl := vint_eq hv5
    refine lw_on Z Z Z Z Z Z (ow_gtr Z Z Z fun bb3 hbb3 => lw_op Z Z Z (ow_pickF Z Z Z (lw_nil (ew_then ?_))))
    replace hb3 := cond_some hb3
    rcases hb3 with ⟨hc3, hb3⟩ | ⟨hc3, hb3⟩
    ·
     obtain rfl := hbb3.trans hc3
     refine cw_true Z (cw_seq (cw_region (lw_op Z Z Z (ow_assign Z Z (lw_nil (ew_then (cw_ret (ew_blockR (ew_thenR (ew_thenR (ew_blockR (ew_brkR (ew_thenR ?_)))))))))))))
     have e2 := hR1 _ (sj hb3).symm
     subst e2
     obtain rfl := sj h
     exact ew_ret (res1 Z (.tmp Z)) ⟨_, Z, ((vbool _)), hC4.bx⟩
    ·
     obtain rfl := hbb3.trans hc3
     exact cw_false Z (cw_skip (ew_blockN (ew_then (cw_region (lw_op Z Z Z (ow_add Z Z Z (lw_op Z Z Z (ow_move Z Z (lw_nil (ew_nxt (W (k1 + 1)) hb3 fun a ha => ⟨M1, (ha.sub ⟨Z, Z, Zt⟩), (hl3.trans hl4), hC4⟩))))))))))
  ·
   obtain rfl := hbb1.trans hc1
   exact cw_false Z (cw_exit (ew_thenX (ew_thenX (ew_blockX (ew_brk k1 hb3 fun a ha => ⟨M1, (ha.sub ⟨Z, Z, Zt⟩), hl3, hC3⟩)))))
 ·
  rintro k2 a w5 hlr2 ⟨M2, hF2, hl5, hC5⟩
  subst hlr2
  refine ew_at (E := [(6, v2), (7, (Zv k2))]) hF2 (ew_then (cw_seq (cw_region (lw_op Z Z Z (ow_assign Z Z (lw_nil (ew_then (cw_ret ?_))))))))
  obtain rfl := sj h
  exact ew_ret (res1 Z (.tmp Z)) ⟨_, Z, ((vbool _)), hC5.bx⟩

theorem w_impl_Test_holds {w : World} {M : Nat → Prop} (hG : ARep (RArr 4 RShape) w M shapes ⟨0, 0, none⟩) (hO : ∀ b, M b → b < w.heap.size) {v0p : Value} {a_t : Test} (h0 : VRep RTest w M a_t v0p) {v1p : Value} {a_p : Packet} (h1 : VRep RPacket w M a_p v1p) {r : Bool} (h : F.impl_Test_holds a_t a_p = some r) :
  Calls Tryd.prog 97 [v0p, v1p].toArray w fun e w' => ∃ v, e = .returned v ∧ VRep RBool w' M r v ∧ BX No w w' := by
 have hC : Cx No w M w M := Cx.start hO (fun _ e => e.elim)
 refine walk (N := 26) Tryd.func97 Z Tryd.ntmps97 Z (cw_seq (cw_region (lw_op Z Z Z (ow_box (R := RTest) Z Z h0 hC fun p1 w1 hp1 hb1 hl1 hC1 => lw_op Z Z Z (ow_box (R := RPacket) Z Z (VRep.mono hl1 h1) hC1 fun p2 w2 hp2 hb2 hl2 hC2 => lw_op Z Z Z (ow_assign Z Z (lw_nil (ew_then (cw_seq ?_)))))))))
 replace h := bind_some h
 obtain ⟨x1, hx1, h⟩ := h
 have lz1 := (hl1.trans hl2)
 refine cw_sub (E' := [(2, (.pointer (some p1))), (3, (.pointer (some p2))), (4, (.bool false))]) ⟨Z, Z, Z, Zt⟩ (cw_drawQ 4 [PV RPacket M a_p, PV (RArr 4 RInt) M x1, PA RInt M a_t.Field, PEq (Zv a_t.Field)] (by kernel_rfl) Z (by kernel_rfl) ⟨PV.mono _ _ _, PV.mono _ _ _, PA.mono _ _ _, Zq, Zt⟩ ⟨?_, ?_, ?_, ?_, Zt⟩ ?_)
 ·
  intro w4 D hS1 hd1
  have hl4 := Le.no M hS1
  exact dg_sub (E' := [(3, (.pointer (some p2)))]) ⟨Z, Zt⟩ (dg_plain Z (ow_load (R := RPacket) Z Z (ARep.mono hl4 hp2) (Tryd.sizeOf38 _) (Tryd.isAgg38 _) fun v4 hv4 => ⟨BX.refl _ _, hv4⟩))
 ·
  intro w5 D hS2 hd2
  have hl5 := Le.no M hS2
  have hC5 := hC2.no hS2
  have d1 : PV RPacket M a_p (D 0) w5 := dpA hd2 0 Z
  generalize hq1 : (D 0) = v5 at d1
  refine dg_sub (E' := [(7, v5)]) ⟨congrArg some hq1, Zt⟩ (dg_plain Z (ow_call Z Z Tryd.call92 (w_impl_Packet_fields (hG.mono (lz1.trans hl5)) hC5.old d1 hx1) fun v6 w6 hv6 => ?_))
  obtain ⟨hv6, hb4⟩ := hv6
  exact ⟨hb4, hv6⟩
 ·
  intro w7 D hS3 hd3
  have hl7 := Le.no M hS3
  exact dg_sub (E' := [(2, (.pointer (some p1)))]) ⟨Z, Zt⟩ (dg_plain Z (ow_fieldAddr Z Z Tryd.underlying31 Z (Tryd.sizeOf3 _) ⟨BX.refl _ _, ⟨_, Z, (ARep.mono (hl2.trans hl7) (hp1.fld fld_Test_Field))⟩⟩))
 ·
  intro w8 D hS4 hd4
  have d2 : PA RInt M a_t.Field (D 2) w8 := dpA hd4 2 Z
  obtain ⟨p3, e1, ha1⟩ := d2
  refine dg_sub (E' := [(9, (.pointer (some p3)))]) ⟨congrArg some e1, Zt⟩ (dg_plain Z (ow_load (R := RInt) Z Z ha1 (Tryd.sizeOf3 _) (Tryd.isAgg3 _) fun v7 hv7 => ?_))
  obtain rfl := vint_eq hv7
  exact Zb
 ·
  intro w9 D hS5 hd5
  have d4 : PV (RArr 4 RInt) M x1 (D 1) w9 := dpA hd5 1 Z
  have hl9 := Le.no M hS5
  have hC9 := hC2.no hS5
  generalize hq2 : (D 1) = v8 at d4
  refine lw_sub (E' := [(8, v8), (10, (Zv a_t.Field)), (2, (.pointer (some p1))), (3, (.pointer (some p2))), (4, (.bool false))]) ⟨congrArg some hq2, dpE hd5 3 Z Z, Z, Z, Z, Zt⟩ ?_
  replace h := bind_some h
  obtain ⟨x2, hx2, h⟩ := h
  refine lw_op Z Z Z (ow_index (R := RInt) Z Z Z d4 Tryd.underlying119 (Tryd.sizeOf3 _) (Tryd.isAgg3 _) hx2 fun v9 hv9 => ?_)
  obtain rfl := vint_eq hv9
  refine lw_op Z Z Z (ow_assign Z Z (lw_nil (ew_then (cw_seq (cw_region (lw_op Z Z Z (ow_fieldAddr Z Z Tryd.underlying31 Z (Tryd.sizeOf3 _) (lw_op Z Z Z (ow_load (R := RInt) Z Z (ARep.mono (hl2.trans hl9) (hp1.fld fld_Test_Lo)) (Tryd.sizeOf3 _) (Tryd.isAgg3 _) fun v10 hv10 => ?_)))))))))
  obtain rfl := vint_eq hv10
  refine lw_op Z Z Z (ow_move Z Z (lw_op Z Z Z (ow_leq Z Z Z fun bb1 hbb1 => lw_op Z Z Z (ow_move Z Z ?_))))
  replace h := cond_some h
  rcases h with ⟨hc1, h⟩ | ⟨hc1, h⟩
  ·
   obtain rfl := hbb1.trans hc1
   refine lw_on Z Z Z Z Z Z (ow_move Z Z (lw_on Z Z Z Z Z Z (ow_fieldAddr Z Z Tryd.underlying31 Z (Tryd.sizeOf3 _) (lw_on Z Z Z Z Z Z (ow_load (R := RInt) Z Z (ARep.mono (hl2.trans hl9) (hp1.fld fld_Test_Hi)) (Tryd.sizeOf3 _) (Tryd.isAgg3 _) fun v11 hv11 => ?_)))))
   obtain rfl := vint_eq hv11
   refine lw_on Z Z Z Z Z Z (ow_leq Z Z Z fun bb2 hbb2 => lw_op Z Z Z (ow_pickT Z Z Z (lw_op Z Z Z (ow_assign Z Z (lw_nil (ew_then (cw_seq (cw_region (lw_op Z Z Z (ow_move Z Z (lw_op Z Z Z (ow_fieldAddr Z Z Tryd.underlying31 Z (Tryd.sizeOf4 _) (lw_op Z Z Z (ow_load (R := RBool) Z Z (ARep.mono (hl2.trans hl9) (hp1.fld fld_Test_Not)) (Tryd.sizeOf4 _) (Tryd.isAgg4 _) fun v12 hv12 => ?_))))))))))))))
   obtain ⟨bb3, hbb3, rfl⟩ := vbool_ex hv12
   refine lw_op Z Z Z (ow_neqB Z Z Z Tryd.underlying4 fun bb4 hbb4 => ?_)
   have hbb4' : bb4 = ((decide (x2 ≤ a_t.Hi)) != a_t.Not) := hbb4.trans (by rw [hbb2, hbb3])
   refine lw_op Z Z Z (ow_assign Z Z (lw_nil (ew_then (cw_ret ?_))))
   obtain rfl := sj h
   exact ew_ret (res1 Z (.tmp Z)) ⟨_, Z, ((vbool_of hbb4')), hC9.bx⟩
  ·
   obtain rfl := hbb1.trans hc1
   refine lw_off Z Z Z Z Z Z (lw_off Z Z Z Z Z Z (lw_off Z Z Z Z Z Z (lw_off Z Z Z Z Z Z (lw_op Z Z Z (ow_pickF Z Z Z (lw_op Z Z Z (ow_assign Z Z (lw_nil (ew_then (cw_seq (cw_region (lw_op Z Z Z (ow_move Z Z (lw_op Z Z Z (ow_fieldAddr Z Z Tryd.underlying31 Z (Tryd.sizeOf4 _) (lw_op Z Z Z (ow_load (R := RBool) Z Z (ARep.mono (hl2.trans hl9) (hp1.fld fld_Test_Not)) (Tryd.sizeOf4 _) (Tryd.isAgg4 _) fun v13 hv13 => ?_)))))))))))))))))
   obtain ⟨bb5, hbb5, rfl⟩ := vbool_ex hv13
   refine lw_op Z Z Z (ow_neqB Z Z Z Tryd.underlying4 fun bb6 hbb6 => ?_)
   have hbb6' : bb6 = (false != a_t.Not) := hbb6.trans (by rw [hbb5])
   refine lw_op Z Z Z (ow_assign Z Z (lw_nil (ew_then (cw_ret ?_))))
   obtain rfl := sj h
   exact ew_ret (res1 Z (.tmp Z)) ⟨_, Z, ((vbool_of hbb6')), hC9.bx⟩

theorem w_impl_allHold {w : World} {M : Nat → Prop} (hG : ARep (RArr 4 RShape) w M shapes ⟨0, 0, none⟩) (hO : ∀ b, M b → b < w.heap.size) {v0p : Value} {a_list : List Test} (h0 : VRep (RSlice RTest) w M a_list v0p) {v1p : Value} {a_p : Packet} (h1 : VRep RPacket w M a_p v1p) {r : Bool} (h : F.impl_allHold a_list a_p = some r) :
  Calls Tryd.prog 77 [v0p, v1p].toArray w fun e w' => ∃ v, e = .returned v ∧ VRep RBool w' M r v ∧ BX No w w' := by
 have hC : Cx No w M w M := Cx.start hO (fun _ e => e.elim)
 refine walk (N := 18) Tryd.func77 Z Tryd.ntmps77 Z (cw_seq (cw_region (lw_op Z Z Z (ow_box (R := RPacket) Z Z h1 hC fun p1 w1 hp1 hb1 hl1 hC1 => lw_op Z Z Z (ow_assign Z Z (lw_nil (ew_then (cw_seq (cw_seq (cw_region (lw_op Z Z Z (ow_move Z Z (lw_op Z Z Z (ow_len Z Z (VRep.mono hl1 h0) Tryd.underlying27 Z (lw_op Z Z Z (ow_move Z Z (lw_nil (ew_then ?_))))))))))))))))))
 replace h := bind_some h
 obtain ⟨lr1, hlr1, h⟩ := h
 refine cw_for hlr1 (fun s a w' => ∃ (M' : Nat → Prop), Fits 18 [(3, (.pointer (some p1))), (7, v0p), (8, (Zv (a_list.length : Int))), (9, (Zv s))] a ∧ Le w1 M w' M' ∧ Cx No w M w' M') ?_ ?_ ?_
 · exact fun a ha => ⟨M, ha.sub ⟨Z, Z, Z, Z, Zt⟩, Le.refl _ _, hC1⟩
 ·
  rintro k1 a w2 sr1 ⟨M1, hF1, hl2, hC2⟩ hb2 hR1
  refine cw_at (E := [(3, (.pointer (some p1))), (7, v0p), (8, (Zv (a_list.length : Int))), (9, (Zv k1))]) hF1 (cw_seq (cw_region (lw_op Z Z Z (ow_lss Z Z Z fun bb1 hbb1 => lw_nil (ew_then (cw_seq ?_))))))
  replace hb2 := cond_some hb2
  rcases hb2 with ⟨hc1, hb2⟩ | ⟨hc1, hb2⟩
  ·
   obtain rfl := hbb1.trans hc1
   refine cw_true Z (cw_skip (ew_then (cw_seq (cw_block (cw_seq (cw_region ?_))))))
   replace hb2 := bind_some hb2
   obtain ⟨x1, hx1, hb2⟩ := hb2
   refine lw_op Z Z Z (ow_indexSlice (R := RTest) Z Z Z (VRep.mono (hl1.trans hl2) h0) Tryd.underlying27 (Tryd.sizeOf31 _) hx1 fun p2 hp2 => lw_op Z Z Z (ow_load (R := RTest) Z Z hp2 (Tryd.sizeOf31 _) (Tryd.isAgg31 _) fun v2 hv2 => lw_allocStore (R := RTest) Z Z Z Z Z Z Z Tryd.zeroValue31 Tryd.sizeOf31 Z Z Z (by simp) hv2 hC2 fun p3 w3 hp3 hb3 hl3 hC3 => lw_nil (ew_then (cw_seq (cw_region (lw_op Z Z Z (ow_load (R := RTest) Z Z hp3 (Tryd.sizeOf31 _) (Tryd.isAgg31 _) fun v3 hv3 => lw_op Z Z Z (ow_load (R := RPacket) Z Z (ARep.mono (hl2.trans hl3) hp1) (Tryd.sizeOf38 _) (Tryd.isAgg38 _) fun v4 hv4 => ?_))))))))
   replace hb2 := bind_some hb2
   obtain ⟨x2, hx2, hb2⟩ := hb2
   have lz1 := ((hl1.trans hl2).trans hl3)
   refine lw_op Z Z Z (ow_call Z Z Tryd.call97 (w_impl_Test_holds (hG.mono lz1) hC3.old hv3 hv4 hx2) fun v5 w4 hv5 => ?_)
   obtain ⟨hv5, hb4⟩ := hv5
   have hl4 := Le.no M1 hb4
   have hC4 := hC3.no hb4
   obtain rfl := vbool_eq hv5
   refine lw_op Z Z Z (ow_not Z Z (lw_nil (ew_then ?_)))
   replace hb2 := cond_some hb2
   rcases hb2 with ⟨hc2, hb2⟩ | ⟨hc2, hb2⟩
   ·
    subst hc2
    refine cw_false Z (cw_skip (ew_blockN (ew_then (cw_region (lw_op Z Z Z (ow_add Z Z Z (lw_op Z Z Z (ow_move Z Z (lw_nil ?_)))))))))
    have lz2 := ((hl2.trans hl3).trans hl4)
    exact ew_nxt (W (k1 + 1)) hb2 fun a ha => ⟨M1, (ha.sub ⟨Z, Z, Z, Z, Zt⟩), lz2, hC4⟩
   ·
    subst hc2
    refine cw_true Z (cw_seq (cw_region (lw_op Z Z Z (ow_assign Z Z (lw_nil (ew_then (cw_ret (ew_blockR (ew_thenR (ew_thenR (ew_blockR (ew_brkR (ew_thenR ?_)))))))))))))
    have e1 := hR1 _ (sj hb2).symm
    subst e1
    obtain rfl := sj h
    exact ew_ret (res1 Z (.tmp Z)) ⟨_, Z, ((vbool _)), hC4.bx⟩
  ·
   obtain rfl := hbb1.trans hc1
   exact cw_false Z (cw_exit (ew_thenX (ew_thenX (ew_blockX (ew_brk k1 hb2 fun a ha => ⟨M1, (ha.sub ⟨Z, Z, Z, Z, Zt⟩), hl2, hC2⟩)))))
 ·
  rintro k2 a w5 hlr2 ⟨M2, hF2, hl5, hC5⟩
  subst hlr2
  refine ew_at (E := [(3, (.pointer (some p1))), (7, v0p), (8, (Zv (a_list.length : Int))), (9, (Zv k2))]) hF2 (ew_then (cw_seq (cw_region (lw_op Z Z Z (ow_assign Z Z (lw_nil (ew_then (cw_ret ?_))))))))
  obtain rfl := sj h
  exact ew_ret (res1 Z (.tmp Z)) ⟨_, Z, ((vbool _)), hC5.bx⟩

theorem w_impl_walk_leave {w : World} {M : Nat → Prop} (_hG : ARep (RArr 4 RShape) w M shapes ⟨0, 0, none⟩) (hO : ∀ b, M b → b < w.heap.size) {vs0 : Value} {a_0c : List Place} (hr0p : OwnRow RPlace 0 123 w M a_0c vs0) {vs1 : Value} {a_1c : List Visit} (hr1p : OwnRow RVisit 0 60 w M a_1c vs1) {a_2c : Int} {g : Nat} (hown : Own w g 103 #[vs0, vs1, (.int .i64 a_2c)]) (hgM : M g) {r : (List Place) × (List Visit) × Int} (h : F.impl_walk_leave a_0c a_1c a_2c = some r) :
  Calls Tryd.prog 95 [(.pointer (some ⟨g, 0, none⟩))].toArray w fun e w' => ∃ v, e = .returned v ∧ v = .tuple #[] ∧ ∃ (M' : Nat → Prop) (u0 : Value) (u1 : Value), Own w' g 103 #[u0, u1, .int .i64 r.2.2] ∧ OwnRow RPlace 0 123 w' M' r.1 u0 ∧ OwnRow RVisit 0 60 w' M' r.2.1 u1 ∧ Cx (fun b => b = g ∨ vs0.ownBlock = some b ∨ vs1.ownBlock = some b) w M w' M' ∧ (∀ b, u0.ownBlock = some b → w.heap.size ≤ b ∨ (fun b => b = g ∨ vs0.ownBlock = some b ∨ vs1.ownBlock = some b) b) ∧ (∀ b, u1.ownBlock = some b → w.heap.size ≤ b ∨ (fun b => b = g ∨ vs0.ownBlock = some b ∨ vs1.ownBlock = some b) b) := by
 have hX : ∀ b, (fun b => b = g ∨ vs0.ownBlock = some b ∨ vs1.ownBlock = some b) b → M b := fun b e => (e.elim (fun e => by rw [show b = g from e]; exact hgM) (fun e => (e.elim (fun e => hr0p.mem b e) (fun e => (hr1p.mem b e)))))
 have hC : Cx (fun b => b = g ∨ vs0.ownBlock = some b ∨ vs1.ownBlock = some b) w M w M := Cx.start hO hX
 have hge0p : ∀ b, vs0.ownBlock = some b → w.heap.size ≤ b ∨ (fun b => b = g ∨ vs0.ownBlock = some b ∨ vs1.ownBlock = some b) b := fun b e => .inr (.inr (.inl e))
 have hge1p : ∀ b, vs1.ownBlock = some b → w.heap.size ≤ b ∨ (fun b => b = g ∨ vs0.ownBlock = some b ∨ vs1.ownBlock = some b) b := fun b e => .inr (.inr (.inr e))
 clear _hG
 refine walk (N := 16) Tryd.func95 Z Tryd.ntmps95 Z ?_
 replace h := bind_some h
 obtain ⟨y1, hy1, h⟩ := h
 refine cw_sub (E' := [(0, (Zw g 0))]) ⟨Z, Zt⟩ (cw_drawQ 12 [PEq (Zw g 0), PEq (Zw g 0), PEq (Zw g 0), PEq (Zw g 0), PEq vs0, PEq (Zw g 0), PEq (Zw g 0), PEq (Zw g 0), PEq vs0, PEq (Zv (a_0c.length : Int)), PEq (Zv (W ((a_0c.length : Int) - 1))), PRow RPlace 0 123 M y1 vs0] (by kernel_rfl) Z (by kernel_rfl) ⟨Zq, Zq, Zq, Zq, Zq, Zq, Zq, Zq, Zq, Zq, Zq, PRow.mono _ _ _ _ _ _, Zt⟩ ⟨?_, ?_, ?_, ?_, ?_, ?_, ?_, ?_, ?_, ?_, ?_, ?_, Zt⟩ ?_)
 · exact fun w1 D hS1 hd1 => dg_sub (E' := [(0, (Zw g 0))]) ⟨Z, Zt⟩ (dg_plain Z (ow_move Z Z Zb))
 · exact fun w2 D hS2 hd2 => dg_sub (E' := [(0, (Zw g 0))]) ⟨Z, Zt⟩ (dg_plain Z (ow_move Z Z Zb))
 · exact fun w3 D hS3 hd3 => dg_sub (E' := [(3, (Zw g 0))]) ⟨dpE hd3 1 Z Z, Zt⟩ (dg_plain Z (ow_nilCheck Z Z Zb))
 · exact fun w4 D hS4 hd4 => dg_sub (E' := [(4, (Zw g 0))]) ⟨dpE hd4 2 Z Z, Zt⟩ (dg_plain Z (ow_fieldAddr Z Z Tryd.underlying103 Z (Tryd.sizeOf101 _) Zb))
 ·
  intro w5 D hS5 hd5
  have ho5 := hown.no hS5
  exact dg_sub (E' := [(5, (Zw g 0))]) ⟨dpE hd5 3 Z Z, Zt⟩ (dg_plain Z (ow_loadOwn1 Z Z Z ho5 (Tryd.isAgg101 _) Z Zb))
 · exact fun w6 D hS6 hd6 => dg_sub (E' := [(0, (Zw g 0))]) ⟨Z, Zt⟩ (dg_plain Z (ow_move Z Z Zb))
 · exact fun w7 D hS7 hd7 => dg_sub (E' := [(7, (Zw g 0))]) ⟨dpE hd7 5 Z Z, Zt⟩ (dg_plain Z (ow_nilCheck Z Z Zb))
 · exact fun w8 D hS8 hd8 => dg_sub (E' := [(8, (Zw g 0))]) ⟨dpE hd8 6 Z Z, Zt⟩ (dg_plain Z (ow_fieldAddr Z Z Tryd.underlying103 Z (Tryd.sizeOf101 _) Zb))
 ·
  intro w9 D hS9 hd9
  have ho9 := hown.no hS9
  exact dg_sub (E' := [(9, (Zw g 0))]) ⟨dpE hd9 7 Z Z, Zt⟩ (dg_plain Z (ow_loadOwn1 Z Z Z ho9 (Tryd.isAgg101 _) Z Zb))
 ·
  intro w10 D hS10 hd10
  have hr19 := hr0p.no hS10
  exact dg_sub (E' := [(10, vs0)]) ⟨dpE hd10 8 Z Z, Zt⟩ (dg_plain Z (ow_lenOwn Z Z hr19 Tryd.underlying101 Zb))
 · exact fun w11 D hS11 hd11 => dg_sub (E' := [(11, (Zv (a_0c.length : Int)))]) ⟨dpE hd11 9 Z Z, Zt⟩ (dg_plain Z (ow_sub Z Z Z Zb))
 ·
  intro w12 D hS12 hd12
  have hr23 := hr0p.no hS12
  refine dg_sub (E' := [(6, vs0), (12, (Zv (W ((a_0c.length : Int) - 1))))]) ⟨dpE hd12 4 Z Z, dpE hd12 10 Z Z, Zt⟩ (dg_plain Z (ow_sliceToRow (R := RPlace) Z Z Z hr23 Tryd.underlying101 (Tryd.sizeOf123 _) (takeF_some hy1).2 fun v2 hv2 hub2 => ?_))
  rw [← (takeF_some hy1).1] at hv2
  exact ⟨BX.refl _ _, ⟨hv2, hub2⟩⟩
 ·
  intro w13 D hS13 hd13
  have d22 : PRow RPlace 0 123 M y1 vs0 (D 11) w13 := dpA hd13 11 Z
  have hC13 := hC.no hS13
  have ho13 := hown.no hS13
  have hr26 := hr1p.no hS13
  generalize hq1 : (D 11) = v3 at d22
  obtain ⟨hr27, hub3⟩ := d22
  have hge3 : ∀ b, v3.ownBlock = some b → w.heap.size ≤ b ∨ (fun b => b = g ∨ vs0.ownBlock = some b ∨ vs1.ownBlock = some b) b := fun b e => hge0p b (by rw [← hub3]; exact e)
  refine lw_sub (E' := [(2, (Zw g 0)), (13, v3), (0, (Zw g 0))]) ⟨dpE hd13 0 Z Z, congrArg some hq1, Z, Zt⟩ (lw_op Z Z Z (ow_nilCheck Z Z (lw_op Z Z Z (ow_fieldAddr Z Z Tryd.underlying103 Z (Tryd.sizeOf101 _) ?_))))
  obtain ⟨A1, c1, rfl⟩ := hr27.len
  refine lw_op0 Z Z (ow_store (X := (fun b => b = g ∨ vs0.ownBlock = some b ∨ vs1.ownBlock = some b)) (us := [(.slice A1 y1.length c1)]) (cs' := #[(.slice A1 y1.length c1), vs1, (Zv a_2c)]) Z Z Z Z ho13 (Tryd.sizeOf101 _) Z Z Z Z hgM (.inr (.inl Z)) Z hC13 fun w14 ho14 hb1 hl14 hC14 => ?_)
  have hr28 := hr26.go hb1 (fun k hk e => (orow_ne hr26 ho13 (by decide)) (hk.trans (congrArg some e))) hl14 (fun _ h => h)
  have hr29 := hr27.go hb1 (fun k hk e => (orow_ne hr27 ho13 (by decide)) (hk.trans (congrArg some e))) hl14 (fun _ h => h)
  refine lw_nil ?_
  obtain rfl := sj h
  exact ew_end (res0 Z) ⟨_, Z, Z, M, (.slice A1 y1.length c1), vs1, ho14, hr29, hr28, hC14, hge3, hge1p⟩

theorem w_impl_actionOf {w : World} {M : Nat → Prop} (_hG : ARep (RArr 4 RShape) w M shapes ⟨0, 0, none⟩) (hO : ∀ b, M b → b < w.heap.size) {v0p : Value} {a_r : Rule} (h0 : VRep RRule w M a_r v0p) {r : Act_} (h : F.impl_actionOf a_r = some r) :
  Calls Tryd.prog 96 [v0p].toArray w fun e w' => ∃ v, e = .returned v ∧ v = actV r ∧ BX No w w' := by
 have hC : Cx No w M w M := Cx.start hO (fun _ e => e.elim)
 clear _hG
 refine walk (N := 25) Tryd.func96 Z Tryd.ntmps96 Z (cw_seq (cw_region (lw_op Z Z Z (ow_box (R := RRule) Z Z h0 hC fun p1 w1 hp1 hb1 hl1 hC1 => lw_op Z Z Z (ow_assign Z Z (lw_nil (ew_then (cw_seq (cw_seq (cw_region (lw_op Z Z Z (ow_fieldAddr Z Z Tryd.underlying42 Z (Tryd.sizeOf3 _) (lw_op Z Z Z (ow_load (R := RInt) Z Z (hp1.fld fld_Rule_Action) (Tryd.sizeOf3 _) (Tryd.isAgg3 _) fun v1 hv1 => ?_))))))))))))))
 obtain rfl := vint_eq hv1
 refine lw_nil (ew_then (cw_block (cw_seq (cw_region (lw_op Z Z Z (ow_eqlI Z Z Z fun bb1 hbb1 => lw_op Z Z Z (ow_assign Z Z (lw_nil (ew_then ?_)))))))))
 replace h := cond_some h
 rcases h with ⟨hc1, h⟩ | ⟨hc1, h⟩
 ·
  obtain rfl := hbb1.trans hc1
  refine cw_true Z (cw_seq (cw_region (lw_op Z Z Z (ow_build (v := .agg #[(.bool true)]) Z Z (by kernel_rfl) (lw_op Z Z Z (ow_makeIface (u := .iface 139 (.agg #[(.bool true)])) Z Z (by kernel_rfl) (lw_op Z Z Z (ow_assign Z Z (lw_nil (ew_then (cw_ret (ew_blockR (ew_thenR ?_)))))))))))))
  obtain rfl := sj h
  exact ew_ret (res1 Z (.tmp Z)) ⟨_, Z, Z, hC1.bx⟩
 ·
  obtain rfl := hbb1.trans hc1
  refine cw_false Z (cw_seq (cw_region (lw_op Z Z Z (ow_eqlI Z Z Z fun bb2 hbb2 => lw_op Z Z Z (ow_assign Z Z (lw_nil (ew_then ?_)))))))
  replace h := cond_some h
  rcases h with ⟨hc2, h⟩ | ⟨hc2, h⟩
  ·
   obtain rfl := hbb2.trans hc2
   refine cw_true Z (cw_seq (cw_region (lw_op Z Z Z (ow_build (v := .agg #[(.bool false)]) Z Z (by kernel_rfl) (lw_op Z Z Z (ow_makeIface (u := .iface 139 (.agg #[(.bool false)])) Z Z (by kernel_rfl) (lw_op Z Z Z (ow_assign Z Z (lw_nil (ew_then (cw_ret (ew_blockR (ew_thenR ?_)))))))))))))
   obtain rfl := sj h
   exact ew_ret (res1 Z (.tmp Z)) ⟨_, Z, Z, hC1.bx⟩
  ·
   obtain rfl := hbb2.trans hc2
   refine cw_false Z (cw_seq (cw_region (lw_op Z Z Z (ow_eqlI Z Z Z fun bb3 hbb3 => lw_op Z Z Z (ow_assign Z Z (lw_nil (ew_then ?_)))))))
   replace h := cond_some h
   rcases h with ⟨hc3, h⟩ | ⟨hc3, h⟩
   ·
    obtain rfl := hbb3.trans hc3
    refine cw_true Z (cw_seq (cw_region (lw_op Z Z Z (ow_fieldAddr Z Z Tryd.underlying42 Z (Tryd.sizeOf3 _) (lw_op Z Z Z (ow_load (R := RInt) Z Z (hp1.fld fld_Rule_Chain) (Tryd.sizeOf3 _) (Tryd.isAgg3 _) fun v2 hv2 => ?_))))))
    obtain rfl := vint_eq hv2
    refine lw_op Z Z Z (ow_build (v := .agg #[(Zv a_r.Chain)]) Z Z (by kernel_rfl) (lw_op Z Z Z (ow_makeIface (u := .iface 141 (.agg #[(Zv a_r.Chain)])) Z Z (by kernel_rfl) (lw_op Z Z Z (ow_assign Z Z (lw_nil (ew_then (cw_ret (ew_blockR (ew_thenR ?_))))))))))
    obtain rfl := sj h
    exact ew_ret (res1 Z (.tmp Z)) ⟨_, Z, Z, hC1.bx⟩
   ·
    obtain rfl := hbb3.trans hc3
    refine cw_false Z (cw_seq (cw_region (lw_op Z Z Z (ow_eqlI Z Z Z fun bb4 hbb4 => lw_op Z Z Z (ow_assign Z Z (lw_nil (ew_then ?_)))))))
    replace h := cond_some h
    rcases h with ⟨hc4, h⟩ | ⟨hc4, h⟩
    ·
     obtain rfl := hbb4.trans hc4
     refine cw_true Z (cw_seq (cw_region (lw_op Z Z Z (ow_build (v := .agg #[]) Z Z (by kernel_rfl) (lw_op Z Z Z (ow_makeIface (u := .iface 143 (.agg #[])) Z Z (by kernel_rfl) (lw_op Z Z Z (ow_assign Z Z (lw_nil (ew_then (cw_ret (ew_blockR (ew_thenR ?_)))))))))))))
     obtain rfl := sj h
     exact ew_ret (res1 Z (.tmp Z)) ⟨_, Z, Z, hC1.bx⟩
    ·
     obtain rfl := hbb4.trans hc4
     refine cw_false Z (cw_skip (ew_blockN (ew_then (cw_seq (cw_region (lw_op Z Z Z (ow_build (v := .agg #[]) Z Z (by kernel_rfl) (lw_op Z Z Z (ow_makeIface (u := .iface 144 (.agg #[])) Z Z (by kernel_rfl) (lw_op Z Z Z (ow_assign Z Z (lw_nil (ew_then (cw_ret ?_))))))))))))))
     obtain rfl := sj h
     exact ew_ret (res1 Z (.tmp Z)) ⟨_, Z, Z, hC1.bx⟩

theorem w_impl_deciding_walk {w : World} {M : Nat → Prop} (_hG : ARep (RArr 4 RShape) w M shapes ⟨0, 0, none⟩) (hO : ∀ b, M b → b < w.heap.size) {v0p : Value} {a_d : deciding} (h0 : VRep Rdeciding w M a_d v0p) {vs0 : Value} {a_0c : List Place} (hr0p : OwnRow RPlace 0 123 w M a_0c vs0) {vs1 : Value} {a_1c : List Visit} (hr1p : OwnRow RVisit 0 60 w M a_1c vs1) {a_2c : Int} {g : Nat} (hown : Own w g 103 #[vs0, vs1, (.int .i64 a_2c)]) (hgM : M g) {r : (List Place) × (List Visit) × Int} (h : F.impl_deciding_walk a_d a_0c a_1c a_2c = some r) :
  Calls Tryd.prog 133 [v0p, (.pointer (some ⟨g, 0, none⟩))].toArray w fun e w' => ∃ v, e = .returned v ∧ v = .tuple #[] ∧ ∃ (M' : Nat → Prop) (u0 : Value) (u1 : Value), Own w' g 103 #[u0, u1, .int .i64 r.2.2] ∧ OwnRow RPlace 0 123 w' M' r.1 u0 ∧ OwnRow RVisit 0 60 w' M' r.2.1 u1 ∧ Cx (fun b => b = g ∨ vs0.ownBlock = some b ∨ vs1.ownBlock = some b) w M w' M' ∧ (∀ b, u0.ownBlock = some b → w.heap.size ≤ b ∨ (fun b => b = g ∨ vs0.ownBlock = some b ∨ vs1.ownBlock = some b) b) ∧ (∀ b, u1.ownBlock = some b → w.heap.size ≤ b ∨ (fun b => b = g ∨ vs0.ownBlock = some b ∨ vs1.ownBlock = some b) b) := by
 have hX : ∀ b, (fun b => b = g ∨ vs0.ownBlock = some b ∨ vs1.ownBlock = some b) b → M b := fun b e => (e.elim (fun e => by rw [show b = g from e]; exact hgM) (fun e => (e.elim (fun e => hr0p.mem b e) (fun e => (hr1p.mem b e)))))
 have hC : Cx (fun b => b = g ∨ vs0.ownBlock = some b ∨ vs1.ownBlock = some b) w M w M := Cx.start hO hX
 have hge0p : ∀ b, vs0.ownBlock = some b → w.heap.size ≤ b ∨ (fun b => b = g ∨ vs0.ownBlock = some b ∨ vs1.ownBlock = some b) b := fun b e => .inr (.inr (.inl e))
 have hge1p : ∀ b, vs1.ownBlock = some b → w.heap.size ≤ b ∨ (fun b => b = g ∨ vs0.ownBlock = some b ∨ vs1.ownBlock = some b) b := fun b e => .inr (.inr (.inr e))
 clear _hG
 refine walk (N := 12) Tryd.func133 Z Tryd.ntmps133 Z (cw_seq (cw_region (lw_op Z Z Z (ow_box (R := Rdeciding) Z Z h0 hC fun p1 w1 hp1 hb1 hl1 hC1 => ?_))))
 have ho1 := hown.no hb1
 have hr1 := hr0p.no hb1
 have hr2 := hr1p.no hb1
 refine lw_nil (ew_then (cw_seq (cw_region (lw_op Z Z Z (ow_fieldAddr Z Z Tryd.underlying139 Z (Tryd.sizeOf4 _) (lw_op Z Z Z (ow_load (R := RBool) Z Z (hp1.fld fld_deciding_accept) (Tryd.sizeOf4 _) (Tryd.isAgg4 _) fun v1 hv1 => ?_)))))))
 obtain ⟨bb1, hbb1, rfl⟩ := vbool_ex hv1
 refine lw_nil (ew_then ?_)
 replace h := cond_some h
 rcases h with ⟨hc1, h⟩ | ⟨hc1, h⟩
 ·
  obtain rfl := hbb1.trans hc1
  refine cw_true Z (cw_region (lw_op Z Z Z (ow_move Z Z (lw_op Z Z Z (ow_nilCheck Z Z (lw_op Z Z Z (ow_fieldAddr Z Z Tryd.underlying103 Z (Tryd.sizeOf3 _) (lw_op0 Z Z (ow_store (X := (fun b => b = g ∨ vs0.ownBlock = some b ∨ vs1.ownBlock = some b)) (us := [(Zv 1)]) (cs' := #[vs0, vs1, (Zv 1)]) Z Z Z Z ho1 (Tryd.sizeOf3 _) Z Z Z Z hgM (.inr (.inl Z)) Z hC1 fun w2 ho2 hb2 hl2 hC2 => ?_)))))))))
  have hr3 := hr1.go hb2 (fun k hk e => (orow_ne hr1 ho1 (by decide)) (hk.trans (congrArg some e))) hl2 (fun _ h => h)
  have hr4 := hr2.go hb2 (fun k hk e => (orow_ne hr2 ho1 (by decide)) (hk.trans (congrArg some e))) hl2 (fun _ h => h)
  refine lw_nil ?_
  obtain rfl := sj h
  exact ew_end (res0 Z) ⟨_, Z, Z, M, vs0, vs1, ho2, hr3, hr4, hC2, hge0p, hge1p⟩
 ·
  obtain rfl := hbb1.trans hc1
  refine cw_false Z (cw_region (lw_op Z Z Z (ow_move Z Z (lw_op Z Z Z (ow_nilCheck Z Z (lw_op Z Z Z (ow_fieldAddr Z Z Tryd.underlying103 Z (Tryd.sizeOf3 _) (lw_op0 Z Z (ow_store (X := (fun b => b = g ∨ vs0.ownBlock = some b ∨ vs1.ownBlock = some b)) (us := [(Zv 2)]) (cs' := #[vs0, vs1, (Zv 2)]) Z Z Z Z ho1 (Tryd.sizeOf3 _) Z Z Z Z hgM (.inr (.inl Z)) Z hC1 fun w3 ho3 hb3 hl3 hC3 => ?_)))))))))
  have hr5 := hr1.go hb3 (fun k hk e => (orow_ne hr1 ho1 (by decide)) (hk.trans (congrArg some e))) hl3 (fun _ h => h)
  have hr6 := hr2.go hb3 (fun k hk e => (orow_ne hr2 ho1 (by decide)) (hk.trans (congrArg some e))) hl3 (fun _ h => h)
  refine lw_nil ?_
  obtain rfl := sj h
  exact ew_end (res0 Z) ⟨_, Z, Z, M, vs0, vs1, ho3, hr5, hr6, hC3, hge0p, hge1p⟩

theorem w_impl_calling_walk {w : World} {M : Nat → Prop} (_hG : ARep (RArr 4 RShape) w M shapes ⟨0, 0, none⟩) (hO : ∀ b, M b → b < w.heap.size) {v0p : Value} {a_c : calling} (h0 : VRep Rcalling w M a_c v0p) {vs0 : Value} {a_0c : List Place} (hr0p : OwnRow RPlace 0 123 w M a_0c vs0) {vs1 : Value} {a_1c : List Visit} (hr1p : OwnRow RVisit 0 60 w M a_1c vs1) {a_2c : Int} {g : Nat} (hown : Own w g 103 #[vs0, vs1, (.int .i64 a_2c)]) (hgM : M g) {r : (List Place) × (List Visit) × Int} (h : F.impl_calling_walk a_c a_0c a_1c a_2c = some r) :
  Calls Tryd.prog 136 [v0p, (.pointer (some ⟨g, 0, none⟩))].toArray w fun e w' => ∃ v, e = .returned v ∧ v = .tuple #[] ∧ ∃ (M' : Nat → Prop) (u0 : Value) (u1 : Value), Own w' g 103 #[u0, u1, .int .i64 r.2.2] ∧ OwnRow RPlace 0 123 w' M' r.1 u0 ∧ OwnRow RVisit 0 60 w' M' r.2.1 u1 ∧ Cx (fun b => b = g ∨ vs0.ownBlock = some b ∨ vs1.ownBlock = some b) w M w' M' ∧ (∀ b, u0.ownBlock = some b → w.heap.size ≤ b ∨ (fun b => b = g ∨ vs0.ownBlock = some b ∨ vs1.ownBlock = some b) b) ∧ (∀ b, u1.ownBlock = some b → w.heap.size ≤ b ∨ (fun b => b = g ∨ vs0.ownBlock = some b ∨ vs1.ownBlock = some b) b) := by
 obtain ⟨i123, hi123, hz123, hs123, hy123⟩ := info123
 have hX : ∀ b, (fun b => b = g ∨ vs0.ownBlock = some b ∨ vs1.ownBlock = some b) b → M b := fun b e => (e.elim (fun e => by rw [show b = g from e]; exact hgM) (fun e => (e.elim (fun e => hr0p.mem b e) (fun e => (hr1p.mem b e)))))
 have hC : Cx (fun b => b = g ∨ vs0.ownBlock = some b ∨ vs1.ownBlock = some b) w M w M := Cx.start hO hX
 have hge0p : ∀ b, vs0.ownBlock = some b → w.heap.size ≤ b ∨ (fun b => b = g ∨ vs0.ownBlock = some b ∨ vs1.ownBlock = some b) b := fun b e => .inr (.inr (.inl e))
 have hge1p : ∀ b, vs1.ownBlock = some b → w.heap.size ≤ b ∨ (fun b => b = g ∨ vs0.ownBlock = some b ∨ vs1.ownBlock = some b) b := fun b e => .inr (.inr (.inr e))
 clear _hG
 refine walk (N := 16) Tryd.func136 Z Tryd.ntmps136 Z (cw_seq (cw_region (lw_op Z Z Z (ow_box (R := Rcalling) Z Z h0 hC fun p1 w1 hp1 hb1 hl1 hC1 => ?_))))
 have ho1 := hown.no hb1
 have hr1 := hr0p.no hb1
 have hr2 := hr1p.no hb1
 refine lw_nil (ew_then ?_)
 replace h := bind_some h
 obtain ⟨z1, hz1, h⟩ := h
 refine cw_sub (E' := [(1, (Zw g 0)), (2, (.pointer (some p1)))]) ⟨Z, Z, Zt⟩ (cw_drawR 10 [none, none, none, none, none, none, none, none, none, some 0] [PEq (Zw g 0), PEq (Zw g 0), PEq (Zw g 0), PEq (Zw g 0), PEq vs0, PA RInt M a_c.chain, PEq (Zv a_c.chain), PV RPlace M ({ chain := a_c.chain, next := 0 } : Place), PV (RSlice RPlace) M [({ chain := a_c.chain, next := 0 } : Place)], PApp RPlace 0 123 (fun b => b = g ∨ vs0.ownBlock = some b ∨ vs1.ownBlock = some b) w M w1 M vs0 z1] (by kernel_rfl) Z (by kernel_rfl) (by kernel_rfl) hr1 ⟨(PEq.monoR _), (PEq.monoR _), (PEq.monoR _), (PEq.monoR _), (PEq.monoR _), (PA.monoR hr1.mem _ _), (PEq.monoR _), (PV.monoR hr1.mem _ _), (PV.monoR hr1.mem _ _), PApp.mono _ _ _ _ _ _ _ _ _ _, Zt⟩ ⟨?_, ?_, ?_, ?_, ?_, ?_, ?_, ?_, ?_, ?_, Zt⟩ ?_)
 · exact fun w4 D hS1 hd1 => dg_sub (E' := [(1, (Zw g 0))]) ⟨Z, Zt⟩ (dg_plain Z (ow_move Z Z Zb))
 · exact fun w5 D hS2 hd2 => dg_sub (E' := [(1, (Zw g 0))]) ⟨Z, Zt⟩ (dg_plain Z (ow_move Z Z Zb))
 · exact fun w6 D hS3 hd3 => dg_sub (E' := [(5, (Zw g 0))]) ⟨dpE hd3 1 Z Z, Zt⟩ (dg_plain Z (ow_nilCheck Z Z Zb))
 · exact fun w7 D hS4 hd4 => dg_sub (E' := [(6, (Zw g 0))]) ⟨dpE hd4 2 Z Z, Zt⟩ (dg_plain Z (ow_fieldAddr Z Z Tryd.underlying103 Z (Tryd.sizeOf101 _) Zb))
 ·
  intro w8 D hS5 hd5
  have ho8 := ho1.go hS5 (fun e => (orow_ne hr1 ho1 (by decide)) e)
  exact dg_sub (E' := [(7, (Zw g 0))]) ⟨dpE hd5 3 Z Z, Zt⟩ (dg_plain Z (ow_loadOwn1 Z Z Z ho8 (Tryd.isAgg101 _) Z Zb))
 ·
  intro w9 D hS6 hd6
  have hl9 := leR hr1 hS6
  exact dg_sub (E' := [(2, (.pointer (some p1)))]) ⟨Z, Zt⟩ (dg_plain Z (ow_fieldAddr Z Z Tryd.underlying141 Z (Tryd.sizeOf3 _) ⟨BX.refl _ _, ⟨_, Z, (ARep.mono hl9 (hp1.fld fld_calling_chain))⟩⟩))
 ·
  intro w10 D hS7 hd7
  have d4 : PA RInt M a_c.chain (D 5) w10 := dpA hd7 5 Z
  obtain ⟨p3, e1, ha1⟩ := d4
  refine dg_sub (E' := [(9, (.pointer (some p3)))]) ⟨congrArg some e1, Zt⟩ (dg_plain Z (ow_load (R := RInt) Z Z ha1 (Tryd.sizeOf3 _) (Tryd.isAgg3 _) fun v3 hv3 => ?_))
  obtain rfl := vint_eq hv3
  exact Zb
 ·
  intro w11 D hS8 hd8
  refine dg_sub (E' := [(10, (Zv a_c.chain))]) ⟨dpE hd8 6 Z Z, Zt⟩ (dg_plain Z (ow_build (v := .agg #[(Zv a_c.chain), (Zv 0)]) Z Z (by kernel_rfl) ?_))
  have hw3 : VRep RPlace w11 M ({ chain := a_c.chain, next := 0 } : Place) (.agg #[(Zv a_c.chain), (Zv 0)]) := shut_Place
  exact ⟨BX.refl _ _, hw3⟩
 ·
  intro w12 D hS9 hd9
  have hC12 := hC1.go hS9 hge0p
  have d6 : PV RPlace M ({ chain := a_c.chain, next := 0 } : Place) (D 7) w12 := dpA hd9 7 Z
  generalize hq1 : (D 7) = v4 at d6
  refine dg_sub (E' := [(11, v4)]) ⟨congrArg some hq1, Zt⟩ ?_
  obtain rfl := open_Place d6
  exact dg_plain Z (ow_buildSlice (R := RPlace) (xs := [({ chain := a_c.chain, next := 0 } : Place)]) (cs := #[(Zv ({ chain := a_c.chain, next := 0 } : Place).chain), (Zv ({ chain := a_c.chain, next := 0 } : Place).next)]) (e := 123) Z Z (by kernel_rfl) Z Z ⟨_, _, Z, d6.cells, Z⟩ hC12 fun p4 w13 hw4 hb4 hl13 hC13 => ⟨hb4, hw4⟩)
 ·
  intro w14 D hS10 hd10
  obtain ⟨hS10, ho14⟩ := hS10
  have ho14 := ho14 Z
  have hl14 := leR hr1 hS10
  have hC14 := hC1.go hS10 hge0p
  have d8 : PV (RSlice RPlace) M [({ chain := a_c.chain, next := 0 } : Place)] (D 8) w14 := dpA hd10 8 Z
  generalize hq2 : (D 8) = v5 at d8
  exact dg_sub (E' := [(8, vs0), (12, v5)]) ⟨dpE hd10 4 Z Z, congrArg some hq2, Zt⟩ (dg_plain Z (ow_appendX (R := RPlace) (B := 0) Z Z Z Z Tryd.underlying101 hi123 hz123 hs123 hy123 Z Z Z Z ho14 d8 hz1 hC14 (Nat.zero_le _) hge0p fun v6 w15 M2 hr18 hb5 hl15 hC15 hM2 hat2 => ⟨⟨⟨hS10.trans hb5, fun h => absurd h (by decide)⟩, hb5⟩, M2, hr18, hS10.trans hb5, hl14.trans hl15, hC15, hM2, fun b e => hat2.elim (fun h => .inl (h ▸ e)) (fun h => .inr (by rw [h] at e; rw [← sj e]; exact hS10.size))⟩))
 ·
  intro w16 D hS11 hd11
  have d18 : PApp RPlace 0 123 (fun b => b = g ∨ vs0.ownBlock = some b ∨ vs1.ownBlock = some b) w M w1 M vs0 z1 (D 9) w16 := dpA hd11 9 Z
  obtain ⟨M3, hr20, hb6, hl16, hC16, hM3, hat3⟩ := d18
  obtain ⟨v7, hq3⟩ : ∃ v, (D 9) = v := ⟨_, rfl⟩
  rw [hq3] at hr20 hat3
  have ho17 := ho1.go hb6 (fun e => (orow_ne hr1 ho1 (by decide)) e)
  have hm3 := hM3 _ hgM
  have hr21 := hr2.go hb6 (fun _ hk hu => orow_row_ne hr2 hr1 (by decide) hk hu) hl16 hM3
  have hge3 : ∀ b, v7.ownBlock = some b → w.heap.size ≤ b ∨ (fun b => b = g ∨ vs0.ownBlock = some b ∨ vs1.ownBlock = some b) b := fun b e => (hat3 b e).elim (fun h => hge0p b h) (fun h => .inl (Nat.le_trans hC1.bx.size h))
  refine lw_sub (E' := [(13, v7), (4, (Zw g 0)), (1, (Zw g 0)), (2, (.pointer (some p1)))]) ⟨congrArg some hq3, dpE hd11 0 Z Z, Z, Z, Zt⟩ (lw_op Z Z Z (ow_nilCheck Z Z (lw_op Z Z Z (ow_fieldAddr Z Z Tryd.underlying103 Z (Tryd.sizeOf101 _) ?_))))
  obtain ⟨A1, c1, rfl⟩ := hr20.len
  refine lw_op0 Z Z (ow_store (X := (fun b => b = g ∨ vs0.ownBlock = some b ∨ vs1.ownBlock = some b)) (us := [(.slice A1 z1.length c1)]) (cs' := #[(.slice A1 z1.length c1), vs1, (Zv a_2c)]) Z Z Z Z ho17 (Tryd.sizeOf101 _) Z Z Z Z hm3 (.inr (.inl Z)) Z hC16 fun w17 ho18 hb7 hl17 hC17 => ?_)
  have hr22 := hr21.go hb7 (fun k hk e => (orow_ne hr21 ho17 (by decide)) (hk.trans (congrArg some e))) hl17 (fun _ h => h)
  have hr23 := hr20.go hb7 (fun k hk e => (orow_ne hr20 ho17 (by decide)) (hk.trans (congrArg some e))) hl17 (fun _ h => h)
  refine lw_nil ?_
  obtain rfl := sj h
  exact ew_end (res0 Z) ⟨_, Z, Z, M3, (.slice A1 z1.length c1), vs1, ho18, hr23, hr22, hC17, hge3, hge1p⟩

theorem w_impl_returning_walk {w : World} {M : Nat → Prop} (hG : ARep (RArr 4 RShape) w M shapes ⟨0, 0, none⟩) (hO : ∀ b, M b → b < w.heap.size) {vs0 : Value} {a_0c : List Place} (hr0p : OwnRow RPlace 0 123 w M a_0c vs0) {vs1 : Value} {a_1c : List Visit} (hr1p : OwnRow RVisit 0 60 w M a_1c vs1) {a_2c : Int} {g : Nat} (hown : Own w g 103 #[vs0, vs1, (.int .i64 a_2c)]) (hgM : M g) {r : (List Place) × (List Visit) × Int} (h : F.impl_returning_walk a_0c a_1c a_2c = some r) :
  Calls Tryd.prog 139 [(.agg #[]), (.pointer (some ⟨g, 0, none⟩))].toArray w fun e w' => ∃ v, e = .returned v ∧ v = .tuple #[] ∧ ∃ (M' : Nat → Prop) (u0 : Value) (u1 : Value), Own w' g 103 #[u0, u1, .int .i64 r.2.2] ∧ OwnRow RPlace 0 123 w' M' r.1 u0 ∧ OwnRow RVisit 0 60 w' M' r.2.1 u1 ∧ Cx (fun b => b = g ∨ vs0.ownBlock = some b ∨ vs1.ownBlock = some b) w M w' M' ∧ (∀ b, u0.ownBlock = some b → w.heap.size ≤ b ∨ (fun b => b = g ∨ vs0.ownBlock = some b ∨ vs1.ownBlock = some b) b) ∧ (∀ b, u1.ownBlock = some b → w.heap.size ≤ b ∨ (fun b => b = g ∨ vs0.ownBlock = some b ∨ vs1.ownBlock = some b) b) := by
 have hX : ∀ b, (fun b => b = g ∨ vs0.ownBlock = some b ∨ vs1.ownBlock = some b) b → M b := fun b e => (e.elim (fun e => by rw [show b = g from e]; exact hgM) (fun e => (e.elim (fun e => hr0p.mem b e) (fun e => (hr1p.mem b e)))))
 have hC : Cx (fun b => b = g ∨ vs0.ownBlock = some b ∨ vs1.ownBlock = some b) w M w M := Cx.start hO hX
 have hge0p : ∀ b, vs0.ownBlock = some b → w.heap.size ≤ b ∨ (fun b => b = g ∨ vs0.ownBlock = some b ∨ vs1.ownBlock = some b) b := fun b e => .inr (.inr (.inl e))
 have hge1p : ∀ b, vs1.ownBlock = some b → w.heap.size ≤ b ∨ (fun b => b = g ∨ vs0.ownBlock = some b ∨ vs1.ownBlock = some b) b := fun b e => .inr (.inr (.inr e))
 refine walk (N := 6) Tryd.func139 Z Tryd.ntmps139 Z (cw_seq (cw_region (lw_op Z Z Z (ow_box (R := REmpty) (d := ()) Z Z vempty hC fun p1 w1 hp1 hb1 hl1 hC1 => ?_))))
 have ho1 := hown.no hb1
 have hr1 := hr0p.no hb1
 have hr2 := hr1p.no hb1
 refine lw_nil (ew_then (cw_region (lw_op Z Z Z (ow_move Z Z ?_))))
 replace h := bind_some h
 obtain ⟨x1, hx1, h⟩ := h
 refine lw_op Z Z Z (ow_call Z Z Tryd.call95 (w_impl_walk_leave (hG.mono hl1) hC1.old (hr1.base (Nat.zero_le _)) (hr2.base (Nat.zero_le _)) ho1 hgM hx1) fun v1 w2 hv1 => ?_)
 obtain ⟨hw1, M1, v2, v3, ho2, hr3, hr4, hk1, hge1, hge2⟩ := hv1
 have hY1 : ∀ b, (fun b => b = g ∨ (Value.ownBlock vs0) = some b ∨ (Value.ownBlock vs1) = some b) b → w.heap.size ≤ b ∨ (fun b => b = g ∨ vs0.ownBlock = some b ∨ vs1.ownBlock = some b) b := fun b e => (e.elim (fun e => by rw [show b = g from e]; exact (.inr (.inl Z))) (fun e => (e.elim (fun e => hge0p b e) (fun e => (hge1p b e)))))
 have hC2 := hC1.trans2 hk1 hY1
 have hge3 : ∀ b, (Value.ownBlock v2) = some b → w.heap.size ≤ b ∨ (fun b => b = g ∨ vs0.ownBlock = some b ∨ vs1.ownBlock = some b) b := fun b e => (hge1 b e).elim (fun h => .inl (Nat.le_trans hC1.bx.size h)) (hY1 b)
 have hge4 : ∀ b, (Value.ownBlock v3) = some b → w.heap.size ≤ b ∨ (fun b => b = g ∨ vs0.ownBlock = some b ∨ vs1.ownBlock = some b) b := fun b e => (hge2 b e).elim (fun h => .inl (Nat.le_trans hC1.bx.size h)) (hY1 b)
 subst hw1
 refine lw_nil ?_
 obtain rfl := sj h
 exact ew_end (res0 Z) ⟨_, Z, Z, M1, v2, v3, ho2, hr3, hr4, hC2, hge3, hge4⟩

theorem w_impl_passing_walk {w : World} {M : Nat → Prop} (_hG : ARep (RArr 4 RShape) w M shapes ⟨0, 0, none⟩) (hO : ∀ b, M b → b < w.heap.size) {vs0 : Value} {a_0c : List Place} (hr0p : OwnRow RPlace 0 123 w M a_0c vs0) {vs1 : Value} {a_1c : List Visit} (hr1p : OwnRow RVisit 0 60 w M a_1c vs1) {a_2c : Int} {g : Nat} (hown : Own w g 103 #[vs0, vs1, (.int .i64 a_2c)]) (hgM : M g) {r : (List Place) × (List Visit) × Int} (h : F.impl_passing_walk a_0c a_1c a_2c = some r) :
  Calls Tryd.prog 142 [(.agg #[]), (.pointer (some ⟨g, 0, none⟩))].toArray w fun e w' => ∃ v, e = .returned v ∧ v = .tuple #[] ∧ ∃ (M' : Nat → Prop) (u0 : Value) (u1 : Value), Own w' g 103 #[u0, u1, .int .i64 r.2.2] ∧ OwnRow RPlace 0 123 w' M' r.1 u0 ∧ OwnRow RVisit 0 60 w' M' r.2.1 u1 ∧ Cx (fun b => b = g ∨ vs0.ownBlock = some b ∨ vs1.ownBlock = some b) w M w' M' ∧ (∀ b, u0.ownBlock = some b → w.heap.size ≤ b ∨ (fun b => b = g ∨ vs0.ownBlock = some b ∨ vs1.ownBlock = some b) b) ∧ (∀ b, u1.ownBlock = some b → w.heap.size ≤ b ∨ (fun b => b = g ∨ vs0.ownBlock = some b ∨ vs1.ownBlock = some b) b) := by
 have hX : ∀ b, (fun b => b = g ∨ vs0.ownBlock = some b ∨ vs1.ownBlock = some b) b → M b := fun b e => (e.elim (fun e => by rw [show b = g from e]; exact hgM) (fun e => (e.elim (fun e => hr0p.mem b e) (fun e => (hr1p.mem b e)))))
 have hC : Cx (fun b => b = g ∨ vs0.ownBlock = some b ∨ vs1.ownBlock = some b) w M w M := Cx.start hO hX
 have hge0p : ∀ b, vs0.ownBlock = some b → w.heap.size ≤ b ∨ (fun b => b = g ∨ vs0.ownBlock = some b ∨ vs1.ownBlock = some b) b := fun b e => .inr (.inr (.inl e))
 have hge1p : ∀ b, vs1.ownBlock = some b → w.heap.size ≤ b ∨ (fun b => b = g ∨ vs0.ownBlock = some b ∨ vs1.ownBlock = some b) b := fun b e => .inr (.inr (.inr e))
 clear _hG
 refine walk (N := 4) Tryd.func142 Z Tryd.ntmps142 Z (cw_region (lw_op Z Z Z (ow_box (R := REmpty) (d := ()) Z Z vempty hC fun p1 w1 hp1 hb1 hl1 hC1 => ?_)))
 have ho1 := hown.no hb1
 have hr1 := hr0p.no hb1
 have hr2 := hr1p.no hb1
 refine lw_nil ?_
 obtain rfl := sj h
 exact ew_end (res0 Z) ⟨_, Z, Z, M, vs0, vs1, ho1, hr1, hr2, hC1, hge0p, hge1p⟩

theorem inv_walk {w : World} {M : Nat → Prop} (hG : ARep (RArr 4 RShape) w M shapes ⟨0, 0, none⟩) (hO : ∀ b, M b → b < w.heap.size) {vs0 : Value} {a_0c : List Place} (hr0p : OwnRow RPlace 0 123 w M a_0c vs0) {vs1 : Value} {a_1c : List Visit} (hr1p : OwnRow RVisit 0 60 w M a_1c vs1) {a_2c : Int} {g : Nat} (hown : Own w g 103 #[vs0, vs1, .int .i64 a_2c]) (hgM : M g) {act : Act_} {r : (List Place) × (List Visit) × Int} (h : F.invoke_walk act a_0c a_1c a_2c = some r) :
  ∃ (f : FuncId) (us : List Value), (callMethod (actV act) "loop.example/packetfilter/impl.walk" [(.pointer (some ⟨g, 0, none⟩))].toArray).run Tryd.prog w = .ok (.enter f us.toArray) w ∧ Calls Tryd.prog f us.toArray w fun e w' => ∃ v, e = .returned v ∧ v = .tuple #[] ∧ ∃ (M' : Nat → Prop) (u0 : Value) (u1 : Value), Own w' g 103 #[u0, u1, .int .i64 r.2.2] ∧ OwnRow RPlace 0 123 w' M' r.1 u0 ∧ OwnRow RVisit 0 60 w' M' r.2.1 u1 ∧ Cx (fun b => b = g ∨ vs0.ownBlock = some b ∨ vs1.ownBlock = some b) w M w' M' ∧ (∀ b, u0.ownBlock = some b → w.heap.size ≤ b ∨ (fun b => b = g ∨ vs0.ownBlock = some b ∨ vs1.ownBlock = some b) b) ∧ (∀ b, u1.ownBlock = some b → w.heap.size ≤ b ∨ (fun b => b = g ∨ vs0.ownBlock = some b ∨ vs1.ownBlock = some b) b) := by
 cases act with
 | deciding b => exact ⟨133, [(.agg #[.bool b]), (Zw g 0)], by kernel_rfl, w_impl_deciding_walk hG hO shut_deciding hr0p hr1p hown hgM h⟩
 | calling b => exact ⟨136, [(.agg #[Zv b]), (Zw g 0)], by kernel_rfl, w_impl_calling_walk hG hO shut_calling hr0p hr1p hown hgM h⟩
 | returning => exact ⟨139, [(.agg #[]), (Zw g 0)], by kernel_rfl, w_impl_returning_walk hG hO hr0p hr1p hown hgM h⟩
 | passing => exact ⟨142, [(.agg #[]), (Zw g 0)], by kernel_rfl, w_impl_passing_walk hG hO hr0p hr1p hown hgM h⟩

theorem w_impl_walkThrough {w : World} {M : Nat → Prop} (hG : ARep (RArr 4 RShape) w M shapes ⟨0, 0, none⟩) (hO : ∀ b, M b → b < w.heap.size) {v0p : Value} {a_s : Ruleset} (h0 : VRep RRuleset w M a_s v0p) {v1p : Value} {a_p : Packet} (h1 : VRep RPacket w M a_p v1p) {r : Walk} (h : F.impl_walkThrough a_s a_p = some r) :
  Calls Tryd.prog 74 [v0p, v1p].toArray w fun e w' => ∃ v, e = .returned v ∧ (∃ p, v = .pointer (some p) ∧ ARep RWalk w' M r p) ∧ BX No w w' := by
 obtain ⟨i60, hi60, hz60, hs60, hy60⟩ := info60
 have hC : Cx No w M w M := Cx.start hO (fun _ e => e.elim)
 refine walk (N := 102) Tryd.func74 Z Tryd.ntmps74 Z (cw_seq (cw_region (lw_op Z Z Z (ow_box (R := RRuleset) Z Z h0 hC fun p1 w1 hp1 hb1 hl1 hC1 => lw_op Z Z Z (ow_box (R := RPacket) Z Z (VRep.mono hl1 h1) hC1 fun p2 w2 hp2 hb2 hl2 hC2 => lw_op Z Z Z (ow_assign Z Z (lw_nil (ew_then (cw_seq (cw_region (lw_op Z Z Z (ow_build (v := .agg #[(Zv 0), (Zv 0)]) Z Z (by kernel_rfl) ?_))))))))))))
 have hw1 : VRep RPlace w2 M ({ chain := 0, next := 0 } : Place) (.agg #[(Zv 0), (Zv 0)]) := shut_Place
 refine lw_op Z Z Z (ow_buildSliceOwn (R := RPlace) (xs := [({ chain := 0, next := 0 } : Place)]) (cs := #[(Zv 0), (Zv 0)]) (e := 123) Z Z (by kernel_rfl) Z Z ⟨_, _, Z, hw1.cells, Z⟩ hC2 fun p3 w3 M1 hr1 hb3 hl3 hC3 hM1 hat1 => lw_op Z Z Z (ow_build (v := .agg #[(.slice (some p3) 1 1), (.slice none 0 0), (Zv 5)]) Z Z (by kernel_rfl) (lw_op Z Z Z (ow_boxOwn Z Z hC3 fun g1 w4 hg1 hg2 ho1 hb4 hl4 hC4 => ?_))))
 have hr2 := hr1.add hb4 hg1
 have hm1 : (Add g1 M1) g1 := .inl Z
 refine lw_op Z Z Z (ow_assign Z Z (lw_nil (ew_then (cw_seq ?_))))
 have hr3 : OwnRow RVisit w.heap.size 60 w4 (Add g1 M1) ([] : List Visit) (.slice none 0 0) := ownrow_nil
 replace h := bind_some h
 obtain ⟨lr1, hlr1, h⟩ := h
 refine cw_for hlr1 (fun s a w' => ∃ (M' : Nat → Prop) (v0c : Value) (v1c : Value), Fits 102 [(2, (.pointer (some p1))), (3, (.pointer (some p2))), (5, (Zw g1 0))] a ∧ Le w4 (Add g1 M1) w' M' ∧ Cx No w M w' M' ∧ OwnRow RPlace w.heap.size 123 w' M' s.1 v0c ∧ OwnRow RVisit w.heap.size 60 w' M' s.2.1 v1c ∧ Own w' g1 103 #[v0c, v1c, (Zv s.2.2)] ∧ M' g1) ?_ ?_ ?_
 · exact fun a ha => ⟨(Add g1 M1), (.slice (some p3) 1 1), (.slice none 0 0), ha.sub ⟨Z, Z, Z, Zt⟩, Le.refl _ _, hC4, hr2, hr3, ho1, hm1⟩
 ·
  rintro ⟨y1, y2, k1⟩ a w5 sr1 ⟨M2, v1, v2, hF1, hl5, hC5, hw2, hw3, ho2, hm2⟩ hb5 hR1
  refine cw_at (E := [(2, (.pointer (some p1))), (3, (.pointer (some p2))), (5, (Zw g1 0))]) hF1 (cw_seq (cw_seq (cw_region (lw_op Z Z Z (ow_move Z Z (lw_op Z Z Z (ow_nilCheck Z Z (lw_op Z Z Z (ow_fieldAddr Z Z Tryd.underlying103 Z (Tryd.sizeOf101 _) (lw_op Z Z Z (ow_loadOwn1 Z Z Z ho2 (Tryd.isAgg101 _) Z (lw_op Z Z Z (ow_lenOwn Z Z hw2 Tryd.underlying101 (lw_op Z Z Z (ow_gtr Z Z Z fun bb1 hbb1 => lw_op Z Z Z (ow_move Z Z ?_))))))))))))))))
  replace hb5 := cond_some hb5
  rcases hb5 with ⟨hc1, hb5⟩ | ⟨hc1, hb5⟩
  ·
   obtain rfl := hbb1.trans hc1
   refine lw_on Z Z Z Z Z Z (ow_move Z Z (lw_on Z Z Z Z Z Z (ow_nilCheck Z Z (lw_on Z Z Z Z Z Z (ow_fieldAddr Z Z Tryd.underlying103 Z (Tryd.sizeOf3 _) (lw_on Z Z Z Z Z Z (ow_loadOwn1 Z Z Z ho2 (Tryd.isAgg3 _) Z (lw_on Z Z Z Z Z Z (ow_eqlI Z Z Z fun bb2 hbb2 => lw_op Z Z Z (ow_pickT Z Z Z (lw_nil (ew_then ?_))))))))))))
   replace hb5 := cond_some hb5
   rcases hb5 with ⟨hc2, hb5⟩ | ⟨hc2, hb5⟩
   ·
    obtain rfl := hbb2.trans hc2
    refine cw_true Z (cw_skip (ew_then (cw_block (cw_seq ?_))))
    have lz1 := ((((hl1.trans hl2).trans hl3).trans hl4).trans hl5)
    have lz2 := (((hl2.trans hl3).trans hl4).trans hl5)
    have lz3 := ((hl3.trans hl4).trans hl5)
    refine cw_sub (E' := [(2, (.pointer (some p1))), (3, (.pointer (some p2))), (5, (Zw g1 0))]) ⟨Z, Z, Z, Zt⟩ (cw_drawQ 10 [PEq (Zw g1 0), PEq (Zw g1 0), PEq (Zw g1 0), PEq v1, PEq (Zw g1 0), PEq (Zw g1 0), PEq (Zw g1 0), PEq v1, PEq (Zv (y1.length : Int)), PEq (Zv (W ((y1.length : Int) - 1)))] (by kernel_rfl) Z (by kernel_rfl) ⟨Zq, Zq, Zq, Zq, Zq, Zq, Zq, Zq, Zq, Zq, Zt⟩ ⟨?_, ?_, ?_, ?_, ?_, ?_, ?_, ?_, ?_, ?_, Zt⟩ ?_)
    · exact fun w6 D hS1 hd1 => dg_sub (E' := [(5, (Zw g1 0))]) ⟨Z, Zt⟩ (dg_plain Z (ow_move Z Z Zb))
    · exact fun w7 D hS2 hd2 => dg_sub (E' := [(26, (Zw g1 0))]) ⟨dpE hd2 0 Z Z, Zt⟩ (dg_plain Z (ow_nilCheck Z Z Zb))
    · exact fun w8 D hS3 hd3 => dg_sub (E' := [(27, (Zw g1 0))]) ⟨dpE hd3 1 Z Z, Zt⟩ (dg_plain Z (ow_fieldAddr Z Z Tryd.underlying103 Z (Tryd.sizeOf101 _) Zb))
    ·
     intro w9 D hS4 hd4
     have ho6 := ho2.no hS4
     exact dg_sub (E' := [(28, (Zw g1 0))]) ⟨dpE hd4 2 Z Z, Zt⟩ (dg_plain Z (ow_loadOwn1 Z Z Z ho6 (Tryd.isAgg101 _) Z Zb))
    · exact fun w10 D hS5 hd5 => dg_sub (E' := [(5, (Zw g1 0))]) ⟨Z, Zt⟩ (dg_plain Z (ow_move Z Z Zb))
    · exact fun w11 D hS6 hd6 => dg_sub (E' := [(30, (Zw g1 0))]) ⟨dpE hd6 4 Z Z, Zt⟩ (dg_plain Z (ow_nilCheck Z Z Zb))
    · exact fun w12 D hS7 hd7 => dg_sub (E' := [(31, (Zw g1 0))]) ⟨dpE hd7 5 Z Z, Zt⟩ (dg_plain Z (ow_fieldAddr Z Z Tryd.underlying103 Z (Tryd.sizeOf101 _) Zb))
    ·
     intro w13 D hS8 hd8
     have ho10 := ho2.no hS8
     exact dg_sub (E' := [(32, (Zw g1 0))]) ⟨dpE hd8 6 Z Z, Zt⟩ (dg_plain Z (ow_loadOwn1 Z Z Z ho10 (Tryd.isAgg101 _) Z Zb))
    ·
     intro w14 D hS9 hd9
     have hr20 := hw2.no hS9
     exact dg_sub (E' := [(33, v1)]) ⟨dpE hd9 7 Z Z, Zt⟩ (dg_plain Z (ow_lenOwn Z Z hr20 Tryd.underlying101 Zb))
    · exact fun w15 D hS10 hd10 => dg_sub (E' := [(34, (Zv (y1.length : Int)))]) ⟨dpE hd10 8 Z Z, Zt⟩ (dg_plain Z (ow_sub Z Z Z Zb))
    ·
     intro w16 D hS11 hd11
     have hl16 := Le.no M2 hS11
     have hC16 := hC5.no hS11
     have ho13 := ho2.no hS11
     have hr24 := hw2.no hS11
     have hr25 := hw3.no hS11
     refine lw_sub (E' := [(29, v1), (35, (Zv (W ((y1.length : Int) - 1)))), (2, (.pointer (some p1))), (3, (.pointer (some p2))), (5, (Zw g1 0))]) ⟨dpE hd11 3 Z Z, dpE hd11 9 Z Z, Z, Z, Z, Zt⟩ ?_
     replace hb5 := bind_some hb5
     obtain ⟨x1, hx1, hb5⟩ := hb5
     refine lw_op Z Z Z (ow_indexRow (R := RPlace) Z Z Z hr24 Tryd.underlying101 (Tryd.sizeOf123 _) hx1 (lw_op Z Z Z (ow_assign Z Z (lw_nil (ew_then (cw_seq ?_))))))
     have lz4 := (lz1.trans hl16)
     have lz5 := (lz2.trans hl16)
     have lz6 := (lz3.trans hl16)
     refine cw_sub (E' := [(2, (.pointer (some p1))), (3, (.pointer (some p2))), (5, (Zw g1 0)), (6, (.pointer (some ⟨blk v1, ((W ((y1.length : Int) - 1)) : Int).toNat * RPlace.size + 0, none⟩)))]) ⟨Z, Z, Z, Z, Zt⟩ (cw_drawQ 6 [PA (RSlice (RSlice RRule)) M2 a_s.Chains, PV (RSlice (RSlice RRule)) M2 a_s.Chains, PEq (.pointer (some ⟨blk v1, ((W ((y1.length : Int) - 1)) : Int).toNat * RPlace.size + 0, none⟩)), PEq (.pointer (some ⟨blk v1, ((W ((y1.length : Int) - 1)) : Int).toNat * RPlace.size + 0, none⟩)), PEq (.pointer (some ⟨blk v1, ((W ((y1.length : Int) - 1)) : Int).toNat * RPlace.size + 0, none⟩)), PEq (Zv x1.chain)] (by kernel_rfl) Z (by kernel_rfl) ⟨PA.mono _ _ _, PV.mono _ _ _, Zq, Zq, Zq, Zq, Zt⟩ ⟨?_, ?_, ?_, ?_, ?_, ?_, Zt⟩ ?_)
     ·
      intro w17 D hS12 hd12
      have hl17 := Le.no M2 hS12
      exact dg_sub (E' := [(2, (.pointer (some p1)))]) ⟨Z, Zt⟩ (dg_plain Z (ow_fieldAddr Z Z Tryd.underlying45 Z (Tryd.sizeOf43 _) ⟨BX.refl _ _, ⟨_, Z, (ARep.mono (lz5.trans hl17) (hp1.fld fld_Ruleset_Chains))⟩⟩))
     ·
      intro w18 D hS13 hd13
      have d19 : PA (RSlice (RSlice RRule)) M2 a_s.Chains (D 0) w18 := dpA hd13 0 Z
      obtain ⟨p4, e1, ha1⟩ := d19
      exact dg_sub (E' := [(37, (.pointer (some p4)))]) ⟨congrArg some e1, Zt⟩ (dg_plain Z (ow_load (R := (RSlice (RSlice RRule))) Z Z ha1 (Tryd.sizeOf43 _) (Tryd.isAgg43 _) fun v6 hv6 => ⟨BX.refl _ _, hv6⟩))
     · exact fun w19 D hS14 hd14 => dg_sub (E' := [(6, (.pointer (some ⟨blk v1, ((W ((y1.length : Int) - 1)) : Int).toNat * RPlace.size + 0, none⟩)))]) ⟨Z, Zt⟩ (dg_plain Z (ow_move Z Z Zb))
     · exact fun w20 D hS15 hd15 => dg_sub (E' := [(39, (.pointer (some ⟨blk v1, ((W ((y1.length : Int) - 1)) : Int).toNat * RPlace.size + 0, none⟩)))]) ⟨dpE hd15 2 Z Z, Zt⟩ (dg_plain Z (ow_nilCheck Z Z Zb))
     · exact fun w21 D hS16 hd16 => dg_sub (E' := [(40, (.pointer (some ⟨blk v1, ((W ((y1.length : Int) - 1)) : Int).toNat * RPlace.size + 0, none⟩)))]) ⟨dpE hd16 3 Z Z, Zt⟩ (dg_plain Z (ow_fieldAddr Z Z Tryd.underlying123 Z (Tryd.sizeOf3 _) Zb))
     ·
      intro w22 D hS17 hd17
      have hr36 := hr24.no hS17
      refine dg_sub (E' := [(41, (.pointer (some ⟨blk v1, ((W ((y1.length : Int) - 1)) : Int).toNat * RPlace.size + 0, none⟩)))]) ⟨dpE hd17 4 Z Z, Zt⟩ (dg_plain Z (ow_loadElRow (R := RPlace) (S := RInt) Z Z Z hr36 (orow_blk hr36 hx1) hx1 fld_Place_chain (Tryd.sizeOf3 _) (Tryd.isAgg3 _) fun v7 hv7 => ?_))
      obtain rfl := vint_eq hv7
      exact Zb
     ·
      intro w23 D hS18 hd18
      have d24 : PV (RSlice (RSlice RRule)) M2 a_s.Chains (D 1) w23 := dpA hd18 1 Z
      have hl23 := Le.no M2 hS18
      have hC23 := hC16.no hS18
      have ho20 := ho13.no hS18
      have hr38 := hr24.no hS18
      have hr39 := hr25.no hS18
      generalize hq1 : (D 1) = v8 at d24
      refine lw_sub (E' := [(38, v8), (42, (Zv x1.chain)), (2, (.pointer (some p1))), (3, (.pointer (some p2))), (5, (Zw g1 0)), (6, (.pointer (some ⟨blk v1, ((W ((y1.length : Int) - 1)) : Int).toNat * RPlace.size + 0, none⟩)))]) ⟨congrArg some hq1, dpE hd18 5 Z Z, Z, Z, Z, Z, Zt⟩ ?_
      replace hb5 := bind_some hb5
      obtain ⟨x2, hx2, hb5⟩ := hb5
      refine lw_op Z Z Z (ow_indexSlice (R := (RSlice RRule)) Z Z Z d24 Tryd.underlying43 (Tryd.sizeOf36 _) hx2 fun p5 hp5 => lw_op Z Z Z (ow_load (R := (RSlice RRule)) Z Z hp5 (Tryd.sizeOf36 _) (Tryd.isAgg36 _) fun v9 hv9 => lw_op Z Z Z (ow_assign Z Z (lw_nil (ew_then (cw_seq (cw_seq (cw_region (lw_op Z Z Z (ow_move Z Z (lw_op Z Z Z (ow_nilCheck Z Z (lw_op Z Z Z (ow_fieldAddr Z Z Tryd.underlying123 Z (Tryd.sizeOf3 _) (lw_op Z Z Z (ow_loadElRow (R := RPlace) (S := RInt) Z Z Z hr38 (orow_blk hr38 hx1) hx1 fld_Place_next (Tryd.sizeOf3 _) (Tryd.isAgg3 _) fun v10 hv10 => ?_))))))))))))))))
      obtain rfl := vint_eq hv10
      refine lw_op Z Z Z (ow_move Z Z (lw_op Z Z Z (ow_len Z Z hv9 Tryd.underlying36 Z (lw_op Z Z Z (ow_eqlI Z Z Z fun bb3 hbb3 => lw_nil (ew_then ?_))))))
      replace hb5 := cond_some hb5
      rcases hb5 with ⟨hc3, hb5⟩ | ⟨hc3, hb5⟩
      ·
       obtain rfl := hbb3.trans hc3
       refine cw_true Z (cw_seq (cw_region (lw_op Z Z Z (ow_move Z Z ?_))))
       replace hb5 := bind_some hb5
       obtain ⟨x3, hx3, hb5⟩ := hb5
       refine lw_op Z Z Z (ow_call Z Z Tryd.call95 (w_impl_walk_leave (hG.mono (lz4.trans hl23)) hC23.old (hr38.base (Nat.zero_le _)) (hr39.base (Nat.zero_le _)) ho20 hm2 hx3) fun v11 w24 hv11 => ?_)
       obtain ⟨hw4, M3, v12, v13, ho21, hr40, hr41, hk1, hge1, hge2⟩ := hv11
       have hY1 : ∀ b, (fun b => b = g1 ∨ (Value.ownBlock v1) = some b ∨ (Value.ownBlock v2) = some b) b → w.heap.size ≤ b ∨ No b := fun b e => (e.elim (fun e => by rw [show b = g1 from e]; exact (.inl hg2)) (fun e => (e.elim (fun e => (fun b e => .inl (hr38.block e).1) b e) (fun e => ((fun b e => .inl (hr39.block e).1) b e)))))
       have hl24 := hk1.leY (fun b e => (e.elim (fun e => by rw [show b = g1 from e]; exact hm2) (fun e => (e.elim (fun e => hr38.mem b e) (fun e => (hr39.mem b e))))))
       have hC24 := hC23.trans2 hk1 hY1
       have hr42 := hr40.raise (B' := w.heap.size) (fun b e => (hge1 b e).elim (fun h => Nat.le_trans hC23.bx.size h) (fun e => (e.elim (fun e => by rw [show b = g1 from e]; exact hg2) (fun e => (e.elim (fun e => (hr38.block e).1) (fun e => ((hr39.block e).1)))))))
       have hr43 := hr41.raise (B' := w.heap.size) (fun b e => (hge2 b e).elim (fun h => Nat.le_trans hC23.bx.size h) (fun e => (e.elim (fun e => by rw [show b = g1 from e]; exact hg2) (fun e => (e.elim (fun e => (hr38.block e).1) (fun e => ((hr39.block e).1)))))))
       have hm3 := hk1.sup _ hm2
       subst hw4
       refine lw_nil (ew_then (cw_exit (ew_thenX (ew_blockX ?_))))
       have lz7 := (((hl5.trans hl16).trans hl23).trans hl24)
       exact ew_nxt (x3.1, x3.2.1, x3.2.2) hb5 fun a ha => ⟨M3, v12, v13, (ha.sub ⟨Z, Z, Z, Zt⟩), lz7, hC24, hr42, hr43, ho21, hm3⟩
      ·
       obtain rfl := hbb3.trans hc3
       refine cw_false Z (cw_skip (ew_then (cw_seq (cw_region (lw_op Z Z Z (ow_move Z Z (lw_op Z Z Z (ow_nilCheck Z Z (lw_op Z Z Z (ow_fieldAddr Z Z Tryd.underlying123 Z (Tryd.sizeOf3 _) (lw_op Z Z Z (ow_loadElRow (R := RPlace) (S := RInt) Z Z Z hr38 (orow_blk hr38 hx1) hx1 fld_Place_next (Tryd.sizeOf3 _) (Tryd.isAgg3 _) fun v14 hv14 => ?_))))))))))))
       obtain rfl := vint_eq hv14
       refine lw_op Z Z Z (ow_assign Z Z (lw_nil (ew_then (cw_seq (cw_region (lw_op Z Z Z (ow_move Z Z (lw_op Z Z Z (ow_nilCheck Z Z (lw_op Z Z Z (ow_fieldAddr Z Z Tryd.underlying123 Z (Tryd.sizeOf3 _) (lw_op Z Z Z (ow_loadElRow (R := RPlace) (S := RInt) Z Z Z hr38 (orow_blk hr38 hx1) hx1 fld_Place_next (Tryd.sizeOf3 _) (Tryd.isAgg3 _) fun v15 hv15 => ?_)))))))))))))
       obtain rfl := vint_eq hv15
       refine lw_op Z Z Z (ow_add Z Z Z (lw_op Z Z Z (ow_nilCheck Z Z (lw_op Z Z Z (ow_fieldAddr Z Z Tryd.underlying123 Z (Tryd.sizeOf3 _) (lw_op0 Z Z (ow_storeElRow (X := No) (R := RPlace) (S := RInt) Z Z Z Z hr38 (orow_blk hr38 hx1) hx1 set_Place_next (Tryd.sizeOf3 _) (vint _) (Nat.le_refl _) hC23 fun w25 ho22 hb8 hl25 hC25 => ?_)))))))
       have ho23 := ho20.go hb8 (fun e => (orow_ne hr38 ho20 (by decide)) (by rw [orow_blk hr38 hx1]; exact congrArg some e.symm))
       have hr44 := hr39.go hb8 (fun k hk e => orow_row_ne hr39 hr38 (by decide) hk (by rw [orow_blk hr38 hx1]; exact congrArg some e.symm)) hl25 (fun _ h => h)
       refine lw_nil (ew_then (cw_seq (cw_seq ?_)))
       replace hb5 := bind_some hb5
       obtain ⟨x4, hx4, hb5⟩ := hb5
       have lz8 := ((lz4.trans hl23).trans hl25)
       have lz10 := ((lz6.trans hl23).trans hl25)
       refine cw_sub (E' := [(2, (.pointer (some p1))), (3, (.pointer (some p2))), (5, (Zw g1 0)), (6, (.pointer (some ⟨blk v1, ((W ((y1.length : Int) - 1)) : Int).toNat * RPlace.size + 0, none⟩))), (7, v9), (8, (Zv x1.next))]) ⟨Z, Z, Z, Z, Z, Z, Zt⟩ (cw_drawQ 6 [PV (RSlice RRule) M2 x2, PEq (Zv x1.next), PA RRule M2 x4, PA (RSlice RTest) M2 x4.Tests, PV (RSlice RTest) M2 x4.Tests, PV RPacket M2 a_p] (by kernel_rfl) Z (by kernel_rfl) ⟨PV.mono _ _ _, Zq, PA.mono _ _ _, PA.mono _ _ _, PV.mono _ _ _, PV.mono _ _ _, Zt⟩ ⟨?_, ?_, ?_, ?_, ?_, ?_, Zt⟩ ?_)
       ·
        intro w26 D hS19 hd19
        have hl26 := Le.no M2 hS19
        exact dg_sub (E' := [(7, v9)]) ⟨Z, Zt⟩ (dg_plain Z (ow_move Z Z ⟨BX.refl _ _, (VRep.mono (hl25.trans hl26) hv9)⟩))
       · exact fun w27 D hS20 hd20 => dg_sub (E' := [(8, (Zv x1.next))]) ⟨Z, Zt⟩ (dg_plain Z (ow_move Z Z Zb))
       ·
        intro w28 D hS21 hd21
        have d29 : PV (RSlice RRule) M2 x2 (D 0) w28 := dpA hd21 0 Z
        generalize hq2 : (D 0) = v18 at d29
        exact dg_sub (E' := [(65, v18), (66, (Zv x1.next))]) ⟨congrArg some hq2, dpE hd21 1 Z Z, Zt⟩ (dg_plain Z (ow_indexSlice (R := RRule) Z Z Z d29 Tryd.underlying36 (Tryd.sizeOf42 _) hx4 fun p7 hp7 => ⟨BX.refl _ _, ⟨_, Z, hp7⟩⟩))
       ·
        intro w29 D hS22 hd22
        have d31 : PA RRule M2 x4 (D 2) w29 := dpA hd22 2 Z
        obtain ⟨p8, e2, ha2⟩ := d31
        exact dg_sub (E' := [(67, (.pointer (some p8)))]) ⟨congrArg some e2, Zt⟩ (dg_plain Z (ow_fieldAddr Z Z Tryd.underlying42 Z (Tryd.sizeOf27 _) ⟨BX.refl _ _, ⟨_, Z, (ha2.fld fld_Rule_Tests)⟩⟩))
       ·
        intro w30 D hS23 hd23
        have d32 : PA (RSlice RTest) M2 x4.Tests (D 3) w30 := dpA hd23 3 Z
        obtain ⟨p9, e3, ha3⟩ := d32
        exact dg_sub (E' := [(68, (.pointer (some p9)))]) ⟨congrArg some e3, Zt⟩ (dg_plain Z (ow_load (R := (RSlice RTest)) Z Z ha3 (Tryd.sizeOf27 _) (Tryd.isAgg27 _) fun v19 hv19 => ⟨BX.refl _ _, hv19⟩))
       ·
        intro w31 D hS24 hd24
        have hl31 := Le.no M2 hS24
        exact dg_sub (E' := [(3, (.pointer (some p2)))]) ⟨Z, Zt⟩ (dg_plain Z (ow_load (R := RPacket) Z Z (ARep.mono (lz10.trans hl31) hp2) (Tryd.sizeOf38 _) (Tryd.isAgg38 _) fun v20 hv20 => ⟨BX.refl _ _, hv20⟩))
       ·
        intro w32 D hS25 hd25
        have d37 : PV (RSlice RTest) M2 x4.Tests (D 4) w32 := dpA hd25 4 Z
        have d38 : PV RPacket M2 a_p (D 5) w32 := dpA hd25 5 Z
        have hl32 := Le.no M2 hS25
        have hC32 := hC25.no hS25
        have ho30 := ho23.no hS25
        have hr57 := ho22.no hS25
        have hr58 := hr44.no hS25
        generalize hq3 : (D 4) = v21 at d37
        generalize hq4 : (D 5) = v22 at d38
        refine lw_sub (E' := [(69, v21), (70, v22), (2, (.pointer (some p1))), (3, (.pointer (some p2))), (5, (Zw g1 0)), (6, (.pointer (some ⟨blk v1, ((W ((y1.length : Int) - 1)) : Int).toNat * RPlace.size + 0, none⟩))), (7, v9), (8, (Zv x1.next))]) ⟨congrArg some hq3, congrArg some hq4, Z, Z, Z, Z, Z, Z, Zt⟩ ?_
        replace hb5 := bind_some hb5
        obtain ⟨x5, hx5, hb5⟩ := hb5
        refine lw_op Z Z Z (ow_call Z Z Tryd.call77 (w_impl_allHold (hG.mono (lz8.trans hl32)) hC32.old d37 d38 hx5) fun v23 w33 hv23 => ?_)
        obtain ⟨hv23, hb9⟩ := hv23
        have hl33 := Le.no M2 hb9
        have hC33 := hC32.no hb9
        have ho31 := ho30.no hb9
        have hr59 := hr57.no hb9
        have hr60 := hr58.no hb9
        obtain rfl := vbool_eq hv23
        refine lw_op Z Z Z (ow_not Z Z (lw_nil (ew_then ?_)))
        replace hb5 := cond_some hb5
        rcases hb5 with ⟨hc4, hb5⟩ | ⟨hc4, hb5⟩
        ·
         subst hc4
         refine cw_false Z (cw_skip (ew_then (cw_seq (cw_seq (cw_region (lw_op Z Z Z (ow_move Z Z (lw_op Z Z Z (ow_nilCheck Z Z (lw_op Z Z Z (ow_fieldAddr Z Z Tryd.underlying103 Z (Tryd.sizeOf57 _) (lw_op Z Z Z (ow_loadOwn1 Z Z Z ho31 (Tryd.isAgg57 _) Z (lw_op Z Z Z (ow_lenOwn Z Z hr60 Tryd.underlying57 (lw_op Z Z Z (ow_lss Z Z Z fun bb4 hbb4 => lw_nil (ew_then ?_))))))))))))))))))
         replace hb5 := cond_some hb5
         rcases hb5 with ⟨hc5, hb5⟩ | ⟨hc5, hb5⟩
         ·
          obtain rfl := hbb4.trans hc5
          refine cw_true Z ?_
          replace hb5 := bind_some hb5
          obtain ⟨x6, hx6, hb5⟩ := hb5
          replace hb5 := bind_some hb5
          obtain ⟨z1, hz1, hb5⟩ := hb5
          have lz11 := ((lz8.trans hl32).trans hl33)
          have lz14 := ((hl25.trans hl32).trans hl33)
          refine cw_sub (E' := [(2, (.pointer (some p1))), (3, (.pointer (some p2))), (5, (Zw g1 0)), (6, (.pointer (some ⟨blk v1, ((W ((y1.length : Int) - 1)) : Int).toNat * RPlace.size + 0, none⟩))), (7, v9), (8, (Zv x1.next))]) ⟨Z, Z, Z, Z, Z, Z, Zt⟩ (cw_drawR 13 [none, none, none, none, none, none, none, none, none, none, none, none, some 0] [PEq (Zw g1 0), PEq (Zw g1 0), PEq (Zw g1 0), PEq (Zw g1 1), PEq v2, PEq (.pointer (some ⟨blk v1, ((W ((y1.length : Int) - 1)) : Int).toNat * RPlace.size + 0, none⟩)), PEq (.pointer (some ⟨blk v1, ((W ((y1.length : Int) - 1)) : Int).toNat * RPlace.size + 0, none⟩)), PEq (.pointer (some ⟨blk v1, ((W ((y1.length : Int) - 1)) : Int).toNat * RPlace.size + 0, none⟩)), PEq (Zv x6.chain), PEq (Zv x1.next), PV RVisit M2 ({ Chain := x6.chain, Place := x1.next } : Visit), PV (RSlice RVisit) M2 [({ Chain := x6.chain, Place := x1.next } : Visit)], PApp RVisit w.heap.size 60 No w M w33 M2 v2 z1] (by kernel_rfl) Z (by kernel_rfl) (by kernel_rfl) hr60 ⟨(PEq.monoR _), (PEq.monoR _), (PEq.monoR _), (PEq.monoR _), (PEq.monoR _), (PEq.monoR _), (PEq.monoR _), (PEq.monoR _), (PEq.monoR _), (PEq.monoR _), (PV.monoR hr60.mem _ _), (PV.monoR hr60.mem _ _), PApp.mono _ _ _ _ _ _ _ _ _ _, Zt⟩ ⟨?_, ?_, ?_, ?_, ?_, ?_, ?_, ?_, ?_, ?_, ?_, ?_, ?_, Zt⟩ ?_)
          · exact fun w36 D hS26 hd26 => dg_sub (E' := [(5, (Zw g1 0))]) ⟨Z, Zt⟩ (dg_plain Z (ow_move Z Z Zb))
          · exact fun w37 D hS27 hd27 => dg_sub (E' := [(5, (Zw g1 0))]) ⟨Z, Zt⟩ (dg_plain Z (ow_move Z Z Zb))
          · exact fun w38 D hS28 hd28 => dg_sub (E' := [(80, (Zw g1 0))]) ⟨dpE hd28 1 Z Z, Zt⟩ (dg_plain Z (ow_nilCheck Z Z Zb))
          · exact fun w39 D hS29 hd29 => dg_sub (E' := [(81, (Zw g1 0))]) ⟨dpE hd29 2 Z Z, Zt⟩ (dg_plain Z (ow_fieldAddr Z Z Tryd.underlying103 Z (Tryd.sizeOf57 _) Zb))
          ·
           intro w40 D hS30 hd30
           have ho38 := ho31.go hS30 (fun e => (orow_ne hr60 ho31 (by decide)) e)
           exact dg_sub (E' := [(82, (Zw g1 1))]) ⟨dpE hd30 3 Z Z, Zt⟩ (dg_plain Z (ow_loadOwn1 Z Z Z ho38 (Tryd.isAgg57 _) Z Zb))
          · exact fun w41 D hS31 hd31 => dg_sub (E' := [(6, (.pointer (some ⟨blk v1, ((W ((y1.length : Int) - 1)) : Int).toNat * RPlace.size + 0, none⟩)))]) ⟨Z, Zt⟩ (dg_plain Z (ow_move Z Z Zb))
          · exact fun w42 D hS32 hd32 => dg_sub (E' := [(84, (.pointer (some ⟨blk v1, ((W ((y1.length : Int) - 1)) : Int).toNat * RPlace.size + 0, none⟩)))]) ⟨dpE hd32 5 Z Z, Zt⟩ (dg_plain Z (ow_nilCheck Z Z Zb))
          · exact fun w43 D hS33 hd33 => dg_sub (E' := [(85, (.pointer (some ⟨blk v1, ((W ((y1.length : Int) - 1)) : Int).toNat * RPlace.size + 0, none⟩)))]) ⟨dpE hd33 6 Z Z, Zt⟩ (dg_plain Z (ow_fieldAddr Z Z Tryd.underlying123 Z (Tryd.sizeOf3 _) Zb))
          ·
           intro w44 D hS34 hd34
           have hl44 := leR hr60 hS34
           have hr73 := hr59.go hS34 (fun _ hk hu => orow_row_ne hr59 hr60 (by decide) hk hu) hl44 (fun _ h => h)
           refine dg_sub (E' := [(86, (.pointer (some ⟨blk v1, ((W ((y1.length : Int) - 1)) : Int).toNat * RPlace.size + 0, none⟩)))]) ⟨dpE hd34 7 Z Z, Zt⟩ (dg_plain Z (ow_loadElRow (R := RPlace) (S := RInt) Z Z Z hr73 (orow_blk hr73 hx6) hx6 fld_Place_chain (Tryd.sizeOf3 _) (Tryd.isAgg3 _) fun v26 hv26 => ?_))
           obtain rfl := vint_eq hv26
           exact Zb
          · exact fun w45 D hS35 hd35 => dg_sub (E' := [(8, (Zv x1.next))]) ⟨Z, Zt⟩ (dg_plain Z (ow_move Z Z Zb))
          ·
           intro w46 D hS36 hd36
           refine dg_sub (E' := [(87, (Zv x6.chain)), (88, (Zv x1.next))]) ⟨dpE hd36 8 Z Z, dpE hd36 9 Z Z, Zt⟩ (dg_plain Z (ow_build (v := .agg #[(Zv x6.chain), (Zv x1.next)]) Z Z (by kernel_rfl) ?_))
           have hw7 : VRep RVisit w46 M2 ({ Chain := x6.chain, Place := x1.next } : Visit) (.agg #[(Zv x6.chain), (Zv x1.next)]) := shut_Visit
           exact ⟨BX.refl _ _, hw7⟩
          ·
           intro w47 D hS37 hd37
           have hC47 := hC33.go hS37 (fun b e => .inl (hr60.block e).1)
           have d47 : PV RVisit M2 ({ Chain := x6.chain, Place := x1.next } : Visit) (D 10) w47 := dpA hd37 10 Z
           generalize hq5 : (D 10) = v27 at d47
           refine dg_sub (E' := [(89, v27)]) ⟨congrArg some hq5, Zt⟩ ?_
           obtain rfl := open_Visit d47
           exact dg_plain Z (ow_buildSlice (R := RVisit) (xs := [({ Chain := x6.chain, Place := x1.next } : Visit)]) (cs := #[(Zv ({ Chain := x6.chain, Place := x1.next } : Visit).Chain), (Zv ({ Chain := x6.chain, Place := x1.next } : Visit).Place)]) (e := 60) Z Z (by kernel_rfl) Z Z ⟨_, _, Z, d47.cells, Z⟩ hC47 fun p11 w48 hw8 hb12 hl48 hC48 => ⟨hb12, hw8⟩)
          ·
           intro w49 D hS38 hd38
           obtain ⟨hS38, ho47⟩ := hS38
           have ho47 := ho47 Z
           have hl49 := leR hr60 hS38
           have hC49 := hC33.go hS38 (fun b e => .inl (hr60.block e).1)
           have d49 : PV (RSlice RVisit) M2 [({ Chain := x6.chain, Place := x1.next } : Visit)] (D 11) w49 := dpA hd38 11 Z
           generalize hq6 : (D 11) = v28 at d49
           exact dg_sub (E' := [(83, v2), (90, v28)]) ⟨dpE hd38 4 Z Z, congrArg some hq6, Zt⟩ (dg_plain Z (ow_append (R := RVisit) Z Z Z Z Tryd.underlying57 hi60 hz60 hs60 hy60 Z Z Z Z ho47 d49 hz1 hC49 fun v29 w50 M5 hr79 hb13 hl50 hC50 hM3 hat3 => ⟨⟨⟨hS38.trans hb13, fun h => absurd h (by decide)⟩, hb13⟩, M5, hr79, hS38.trans hb13, hl49.trans hl50, hC50, hM3, fun b e => hat3.elim (fun h => .inl (h ▸ e)) (fun h => .inr (by rw [h] at e; rw [← sj e]; exact hS38.size))⟩))
          ·
           intro w51 D hS39 hd39
           have d62 : PApp RVisit w.heap.size 60 No w M w33 M2 v2 z1 (D 12) w51 := dpA hd39 12 Z
           obtain ⟨M6, hr81, hb14, hl51, hC51, hM4, hat4⟩ := d62
           obtain ⟨v30, hq7⟩ : ∃ v, (D 12) = v := ⟨_, rfl⟩
           rw [hq7] at hr81 hat4
           have ho50 := ho31.go hb14 (fun e => (orow_ne hr60 ho31 (by decide)) e)
           have hm6 := hM4 _ hm2
           have hr82 := hr59.go hb14 (fun _ hk hu => orow_row_ne hr59 hr60 (by decide) hk hu) hl51 hM4
           refine lw_sub (E' := [(91, v30), (79, (Zw g1 0)), (2, (.pointer (some p1))), (3, (.pointer (some p2))), (5, (Zw g1 0)), (6, (.pointer (some ⟨blk v1, ((W ((y1.length : Int) - 1)) : Int).toNat * RPlace.size + 0, none⟩))), (7, v9), (8, (Zv x1.next))]) ⟨congrArg some hq7, dpE hd39 0 Z Z, Z, Z, Z, Z, Z, Z, Zt⟩ (lw_op Z Z Z (ow_nilCheck Z Z (lw_op Z Z Z (ow_fieldAddr Z Z Tryd.underlying103 Z (Tryd.sizeOf57 _) ?_))))
           obtain ⟨A1, c1, rfl⟩ := hr81.len
           refine lw_op0 Z Z (ow_store (X := No) (us := [(.slice A1 z1.length c1)]) (cs' := #[v1, (.slice A1 z1.length c1), (Zv k1)]) Z Z Z Z ho50 (Tryd.sizeOf57 _) Z Z Z Z hm6 (.inl hg2) Z hC51 fun w52 ho51 hb15 hl52 hC52 => ?_)
           have hr83 := hr82.go hb15 (fun k hk e => (orow_ne hr82 ho50 (by decide)) (hk.trans (congrArg some e))) hl52 (fun _ h => h)
           have hr84 := hr81.go hb15 (fun k hk e => (orow_ne hr81 ho50 (by decide)) (hk.trans (congrArg some e))) hl52 (fun _ h => h)
           refine lw_nil (ew_then (cw_region (lw_op Z Z Z (ow_move Z Z (lw_op Z Z Z (ow_move Z Z ?_))))))
           have lz15 := ((lz14.trans hl51).trans hl52)
           refine lw_op Z Z Z (ow_indexSlice (R := RRule) Z Z Z (VRep.mono lz15 hv9) Tryd.underlying36 (Tryd.sizeOf42 _) hx4 fun p12 hp12 => lw_op Z Z Z (ow_load (R := RRule) Z Z hp12 (Tryd.sizeOf42 _) (Tryd.isAgg42 _) fun v31 hv31 => ?_))
           replace hb5 := bind_some hb5
           obtain ⟨x7, hx7, hb5⟩ := hb5
           have lz16 := ((lz11.trans hl51).trans hl52)
           refine lw_op Z Z Z (ow_call Z Z Tryd.call96 (w_impl_actionOf (hG.mono lz16) hC52.old hv31 hx7) fun v32 w53 hv32 => ?_)
           obtain ⟨rfl, hb16⟩ := hv32
           have hl53 := Le.no M6 hb16
           have hC53 := hC52.no hb16
           have ho52 := ho51.no hb16
           have hr85 := hr83.no hb16
           have hr86 := hr84.no hb16
           refine lw_op Z Z Z (ow_move Z Z ?_)
           replace hb5 := bind_some hb5
           obtain ⟨x8, hx8, hb5⟩ := hb5
           obtain ⟨mf1, mu1, hm7, hcl1⟩ := inv_walk (hG.mono (lz16.trans hl53)) hC53.old (hr85.base (Nat.zero_le _)) (hr86.base (Nat.zero_le _)) ho52 hm6 hx8
           refine lw_op Z Z Z (ow_invoke Z Z Z hm7 hcl1 fun v33 w54 hv1 => ?_)
           obtain ⟨hw9, M7, v34, v35, ho53, hr87, hr88, hk2, hge3, hge4⟩ := hv1
           have hY2 : ∀ b, (fun b => b = g1 ∨ (Value.ownBlock v1) = some b ∨ (Value.ownBlock (.slice A1 z1.length c1)) = some b) b → w.heap.size ≤ b ∨ No b := fun b e => (e.elim (fun e => by rw [show b = g1 from e]; exact (.inl hg2)) (fun e => (e.elim (fun e => (fun b e => .inl (hr85.block e).1) b e) (fun e => ((fun b e => .inl (hr86.block e).1) b e)))))
           have hl54 := hk2.leY (fun b e => (e.elim (fun e => by rw [show b = g1 from e]; exact hm6) (fun e => (e.elim (fun e => hr85.mem b e) (fun e => (hr86.mem b e))))))
           have hC54 := hC53.trans2 hk2 hY2
           have hr89 := hr87.raise (B' := w.heap.size) (fun b e => (hge3 b e).elim (fun h => Nat.le_trans hC53.bx.size h) (fun e => (e.elim (fun e => by rw [show b = g1 from e]; exact hg2) (fun e => (e.elim (fun e => (hr85.block e).1) (fun e => ((hr86.block e).1)))))))
           have hr90 := hr88.raise (B' := w.heap.size) (fun b e => (hge4 b e).elim (fun h => Nat.le_trans hC53.bx.size h) (fun e => (e.elim (fun e => by rw [show b = g1 from e]; exact hg2) (fun e => (e.elim (fun e => (hr85.block e).1) (fun e => ((hr86.block e).1)))))))
           have hm8 := hk2.sup _ hm6
           subst hw9
           refine lw_nil (ew_blockN ?_)
           have lz17 := (((((((((hl5.trans hl16).trans hl23).trans hl25).trans hl32).trans hl33).trans hl51).trans hl52).trans hl53).trans hl54)
           exact ew_nxt (x8.1, x8.2.1, x8.2.2) hb5 fun a ha => ⟨M7, v34, v35, (ha.sub ⟨Z, Z, Z, Zt⟩), lz17, hC54, hr89, hr90, ho53, hm8⟩
         ·
          obtain rfl := hbb4.trans hc5
          refine cw_false Z (cw_skip (ew_then (cw_region (lw_op Z Z Z (ow_move Z Z (lw_op Z Z Z (ow_move Z Z ?_)))))))
          have lz18 := ((hl25.trans hl32).trans hl33)
          refine lw_op Z Z Z (ow_indexSlice (R := RRule) Z Z Z (VRep.mono lz18 hv9) Tryd.underlying36 (Tryd.sizeOf42 _) hx4 fun p13 hp13 => lw_op Z Z Z (ow_load (R := RRule) Z Z hp13 (Tryd.sizeOf42 _) (Tryd.isAgg42 _) fun v36 hv36 => ?_))
          replace hb5 := bind_some hb5
          obtain ⟨x9, hx9, hb5⟩ := hb5
          have lz19 := ((lz8.trans hl32).trans hl33)
          refine lw_op Z Z Z (ow_call Z Z Tryd.call96 (w_impl_actionOf (hG.mono lz19) hC33.old hv36 hx9) fun v37 w55 hv37 => ?_)
          obtain ⟨rfl, hb18⟩ := hv37
          have hl55 := Le.no M2 hb18
          have hC55 := hC33.no hb18
          have ho54 := ho31.no hb18
          have hr91 := hr59.no hb18
          have hr92 := hr60.no hb18
          refine lw_op Z Z Z (ow_move Z Z ?_)
          replace hb5 := bind_some hb5
          obtain ⟨x10, hx10, hb5⟩ := hb5
          obtain ⟨mf2, mu2, hm9, hcl2⟩ := inv_walk (hG.mono (lz19.trans hl55)) hC55.old (hr91.base (Nat.zero_le _)) (hr92.base (Nat.zero_le _)) ho54 hm2 hx10
          refine lw_op Z Z Z (ow_invoke Z Z Z hm9 hcl2 fun v38 w56 hv2 => ?_)
          obtain ⟨hw10, M8, v39, v40, ho55, hr93, hr94, hk3, hge5, hge6⟩ := hv2
          have hY3 : ∀ b, (fun b => b = g1 ∨ (Value.ownBlock v1) = some b ∨ (Value.ownBlock v2) = some b) b → w.heap.size ≤ b ∨ No b := fun b e => (e.elim (fun e => by rw [show b = g1 from e]; exact (.inl hg2)) (fun e => (e.elim (fun e => (fun b e => .inl (hr91.block e).1) b e) (fun e => ((fun b e => .inl (hr92.block e).1) b e)))))
          have hl56 := hk3.leY (fun b e => (e.elim (fun e => by rw [show b = g1 from e]; exact hm2) (fun e => (e.elim (fun e => hr91.mem b e) (fun e => (hr92.mem b e))))))
          have hC56 := hC55.trans2 hk3 hY3
          have hr95 := hr93.raise (B' := w.heap.size) (fun b e => (hge5 b e).elim (fun h => Nat.le_trans hC55.bx.size h) (fun e => (e.elim (fun e => by rw [show b = g1 from e]; exact hg2) (fun e => (e.elim (fun e => (hr91.block e).1) (fun e => ((hr92.block e).1)))))))
          have hr96 := hr94.raise (B' := w.heap.size) (fun b e => (hge6 b e).elim (fun h => Nat.le_trans hC55.bx.size h) (fun e => (e.elim (fun e => by rw [show b = g1 from e]; exact hg2) (fun e => (e.elim (fun e => (hr91.block e).1) (fun e => ((hr92.block e).1)))))))
          have hm10 := hk3.sup _ hm2
          subst hw10
          refine lw_nil (ew_blockN ?_)
          have lz20 := (((((((hl5.trans hl16).trans hl23).trans hl25).trans hl32).trans hl33).trans hl55).trans hl56)
          exact ew_nxt (x10.1, x10.2.1, x10.2.2) hb5 fun a ha => ⟨M8, v39, v40, (ha.sub ⟨Z, Z, Z, Zt⟩), lz20, hC56, hr95, hr96, ho55, hm10⟩
        ·
         subst hc4
         refine cw_true Z (cw_exit (ew_thenX (ew_blockX ?_)))
         have lz21 := (((((hl5.trans hl16).trans hl23).trans hl25).trans hl32).trans hl33)
         exact ew_nxt ((List.set y1 ((W ((y1.length : Int) - 1)) : Int).toNat { x1 with next := (W (x1.next + 1)) }), y2, k1) hb5 fun a ha => ⟨M2, v1, v2, (ha.sub ⟨Z, Z, Z, Zt⟩), lz21, hC33, hr59, hr60, ho31, hm2⟩
   ·
    obtain rfl := hbb2.trans hc2
    exact cw_false Z (cw_exit (ew_thenX (ew_thenX (ew_blockX (ew_brk (y1, y2, k1) hb5 fun a ha => ⟨M2, v1, v2, (ha.sub ⟨Z, Z, Z, Zt⟩), hl5, hC5, hw2, hw3, ho2, hm2⟩)))))
  ·
   obtain rfl := hbb1.trans hc1
   exact lw_off Z Z Z Z Z Z (lw_off Z Z Z Z Z Z (lw_off Z Z Z Z Z Z (lw_off Z Z Z Z Z Z (lw_off Z Z Z Z Z Z (lw_op Z Z Z (ow_pickF Z Z Z (lw_nil (ew_then (cw_false Z (cw_exit (ew_thenX (ew_thenX (ew_blockX (ew_brk (y1, y2, k1) hb5 fun a ha => ⟨M2, v1, v2, (ha.sub ⟨Z, Z, Z, Zt⟩), hl5, hC5, hw2, hw3, ho2, hm2⟩))))))))))))))
 ·
  rintro ⟨y3, y4, k2⟩ a w57 hlr2 ⟨M9, v41, v42, hF2, hl57, hC57, hw11, hw12, ho56, hm11⟩
  subst hlr2
  refine ew_at (E := [(2, (.pointer (some p1))), (3, (.pointer (some p2))), (5, (Zw g1 0))]) hF2 (ew_then (cw_seq (cw_region (lw_op Z Z Z (ow_move Z Z (lw_op Z Z Z (ow_assign Z Z (lw_nil (ew_then (cw_ret ?_))))))))))
  have hw13 := hw11.freezeDel
  have hC58 := hw11.cxDel hC57 (fun _ e => e.elim) hO
  have hr97 := hw12.goDel hw11 (by decide)
  have hw14 := hr97.freezeDel
  have hC59 := hr97.cxDel hC58 (fun _ e => e.elim) hO
  have hl59 := Le.del w57 (Del v41 M9) v42
  obtain ⟨A2, c2, rfl, -⟩ := vslice_shape hw13
  obtain ⟨A3, c3, rfl, -⟩ := vslice_shape hw14
  have hw15 : VRep RWalk w57 (Del (.slice A3 y4.length c3) (Del (.slice A2 y3.length c2) M9)) ({ stack := y3, visits := y4, decision := k2 } : Walk) (.agg #[(.slice A2 y3.length c2), (.slice A3 y4.length c3), (Zv k2)]) := shut_Walk (VRep.mono hl59 hw13) hw14
  obtain rfl := sj h
  exact ew_ret (res1 Z (.tmp Z)) ⟨_, Z, ⟨_, Z, Own.arep ho56 (hw15.mono hC59.back).cells (fun h => Nat.lt_irrefl _ (Nat.lt_of_lt_of_le (hO _ h) hg2))⟩, hC59.bx⟩

theorem w_impl_judgeValid {w : World} {M : Nat → Prop} (hG : ARep (RArr 4 RShape) w M shapes ⟨0, 0, none⟩) (hO : ∀ b, M b → b < w.heap.size) {v0p : Value} {a_s : Ruleset} (h0 : VRep RRuleset w M a_s v0p) {v1p : Value} {a_p : Packet} (h1 : VRep RPacket w M a_p v1p) {r : Bool} (h : F.impl_judgeValid a_s a_p = some r) :
  Calls Tryd.prog 63 [v0p, v1p].toArray w fun e w' => ∃ v, e = .returned v ∧ VRep RBool w' M r v ∧ BX No w w' := by
 have hC : Cx No w M w M := Cx.start hO (fun _ e => e.elim)
 refine walk (N := 17) Tryd.func63 Z Tryd.ntmps63 Z (cw_seq (cw_region (lw_op Z Z Z (ow_box (R := RRuleset) Z Z h0 hC fun p1 w1 hp1 hb1 hl1 hC1 => lw_op Z Z Z (ow_box (R := RPacket) Z Z (VRep.mono hl1 h1) hC1 fun p2 w2 hp2 hb2 hl2 hC2 => lw_op Z Z Z (ow_assign Z Z (lw_nil (ew_then (cw_seq (cw_seq (cw_region (lw_op Z Z Z (ow_load (R := RRuleset) Z Z (ARep.mono hl2 hp1) (Tryd.sizeOf45 _) (Tryd.isAgg45 _) fun v1 hv1 => lw_op Z Z Z (ow_load (R := RPacket) Z Z hp2 (Tryd.sizeOf38 _) (Tryd.isAgg38 _) fun v2 hv2 => ?_))))))))))))))
 replace h := bind_some h
 obtain ⟨x1, hx1, h⟩ := h
 refine lw_op Z Z Z (ow_call Z Z Tryd.call74 (w_impl_walkThrough (hG.mono (hl1.trans hl2)) hC2.old hv1 hv2 hx1) fun v3 w3 hv3 => ?_)
 obtain ⟨⟨p3, rfl, hpw1⟩, hb3⟩ := hv3
 have hl3 := Le.no M hb3
 have hC3 := hC2.no hb3
 refine lw_op Z Z Z (ow_nilCheck Z Z (lw_op Z Z Z (ow_fieldAddr Z Z Tryd.underlying103 Z (Tryd.sizeOf3 _) (lw_op Z Z Z (ow_load (R := RInt) Z Z (hpw1.fld fld_Walk_decision) (Tryd.sizeOf3 _) (Tryd.isAgg3 _) fun v4 hv4 => ?_)))))
 obtain rfl := vint_eq hv4
 refine lw_nil (ew_then (cw_block (cw_seq (cw_region (lw_op Z Z Z (ow_eqlI Z Z Z fun bb1 hbb1 => lw_op Z Z Z (ow_assign Z Z (lw_nil (ew_then ?_)))))))))
 replace h := cond_some h
 rcases h with ⟨hc1, h⟩ | ⟨hc1, h⟩
 ·
  obtain rfl := hbb1.trans hc1
  refine cw_true Z (cw_seq (cw_region (lw_op Z Z Z (ow_assign Z Z (lw_nil (ew_then (cw_ret (ew_blockR (ew_thenR ?_)))))))))
  obtain rfl := sj h
  exact ew_ret (res1 Z (.tmp Z)) ⟨_, Z, ((vbool _)), hC3.bx⟩
 ·
  obtain rfl := hbb1.trans hc1
  refine cw_false Z (cw_seq (cw_region (lw_op Z Z Z (ow_eqlI Z Z Z fun bb2 hbb2 => lw_op Z Z Z (ow_assign Z Z (lw_nil (ew_then ?_)))))))
  replace h := cond_some h
  rcases h with ⟨hc2, h⟩ | ⟨hc2, h⟩
  ·
   obtain rfl := hbb2.trans hc2
   refine cw_true Z (cw_seq (cw_region (lw_op Z Z Z (ow_assign Z Z (lw_nil (ew_then (cw_ret (ew_blockR (ew_thenR ?_)))))))))
   obtain rfl := sj h
   exact ew_ret (res1 Z (.tmp Z)) ⟨_, Z, ((vbool _)), hC3.bx⟩
  ·
   obtain rfl := hbb2.trans hc2
   refine cw_false Z (cw_skip (ew_blockN (ew_then (cw_seq (cw_region (lw_op Z Z Z (ow_fieldAddr Z Z Tryd.underlying45 Z (Tryd.sizeOf4 _) (lw_op Z Z Z (ow_load (R := RBool) Z Z (ARep.mono (hl2.trans hl3) (hp1.fld fld_Ruleset_Accept)) (Tryd.sizeOf4 _) (Tryd.isAgg4 _) fun v5 hv5 => ?_)))))))))
   obtain ⟨bb3, hbb3, rfl⟩ := vbool_ex hv5
   refine lw_op Z Z Z (ow_assign Z Z (lw_nil (ew_then (cw_ret ?_))))
   obtain rfl := sj h
   exact ew_ret (res1 Z (.tmp Z)) ⟨_, Z, ((vbool_of hbb3)), hC3.bx⟩

theorem w_impl_Judge {w : World} {M : Nat → Prop} (hG : ARep (RArr 4 RShape) w M shapes ⟨0, 0, none⟩) (hO : ∀ b, M b → b < w.heap.size) {v0p : Value} {a_s : Ruleset} (h0 : VRep RRuleset w M a_s v0p) {v1p : Value} {a_p : Packet} (h1 : VRep RPacket w M a_p v1p) {r : Bool} (h : F.impl_Judge a_s a_p = some r) :
  Calls Tryd.prog 22 [v0p, v1p].toArray w fun e w' => ∃ v, e = .returned v ∧ VRep RBool w' M r v ∧ BX No w w' := by
 have hC : Cx No w M w M := Cx.start hO (fun _ e => e.elim)
 refine walk (N := 16) Tryd.func22 Z Tryd.ntmps22 Z (cw_seq (cw_region (lw_op Z Z Z (ow_box (R := RRuleset) Z Z h0 hC fun p1 w1 hp1 hb1 hl1 hC1 => lw_op Z Z Z (ow_box (R := RPacket) Z Z (VRep.mono hl1 h1) hC1 fun p2 w2 hp2 hb2 hl2 hC2 => lw_op Z Z Z (ow_assign Z Z (lw_nil (ew_then (cw_seq (cw_seq (cw_region (lw_op Z Z Z (ow_load (R := RRuleset) Z Z (ARep.mono hl2 hp1) (Tryd.sizeOf45 _) (Tryd.isAgg45 _) fun v1 hv1 => ?_)))))))))))))
 replace h := bind_some h
 obtain ⟨x1, hx1, h⟩ := h
 refine lw_op Z Z Z (ow_call Z Z Tryd.call25 (w_impl_RulesetValid (hG.mono (hl1.trans hl2)) hC2.old hv1 hx1) fun v2 w3 hv2 => ?_)
 obtain ⟨hv2, hb3⟩ := hv2
 have hl3 := Le.no M hb3
 have hC3 := hC2.no hb3
 obtain rfl := vbool_eq hv2
 refine lw_op Z Z Z (ow_not Z Z (lw_op Z Z Z (ow_move Z Z ?_)))
 replace h := cond_some h
 rcases h with ⟨hc1, h⟩ | ⟨hc1, h⟩
 ·
  subst hc1
  refine lw_on Z Z Z Z Z Z (ow_load (R := RPacket) Z Z (ARep.mono hl3 hp2) (Tryd.sizeOf38 _) (Tryd.isAgg38 _) fun v3 hv3 => ?_)
  replace h := bind_some h
  obtain ⟨x2, hx2, h⟩ := h
  have lz1 := ((hl1.trans hl2).trans hl3)
  refine lw_on Z Z Z Z Z Z (ow_call Z Z Tryd.call62 (w_impl_PacketValid (hG.mono lz1) hC3.old hv3 hx2) fun v4 w4 hv4 => ?_)
  obtain ⟨hv4, hb4⟩ := hv4
  have hl4 := Le.no M hb4
  have hC4 := hC3.no hb4
  obtain rfl := vbool_eq hv4
  refine lw_on Z Z Z Z Z Z (ow_not Z Z (lw_op Z Z Z (ow_pickF Z Z Z (lw_nil (ew_then ?_)))))
  replace h := cond_some h
  rcases h with ⟨hc2, h⟩ | ⟨hc2, h⟩
  ·
   subst hc2
   refine cw_false Z (cw_skip (ew_then (cw_seq (cw_region ?_))))
   have lz2 := ((hl2.trans hl3).trans hl4)
   refine lw_op Z Z Z (ow_load (R := RRuleset) Z Z (ARep.mono lz2 hp1) (Tryd.sizeOf45 _) (Tryd.isAgg45 _) fun v5 hv5 => lw_op Z Z Z (ow_load (R := RPacket) Z Z (ARep.mono (hl3.trans hl4) hp2) (Tryd.sizeOf38 _) (Tryd.isAgg38 _) fun v6 hv6 => ?_))
   replace h := bind_some h
   obtain ⟨x3, hx3, h⟩ := h
   refine lw_op Z Z Z (ow_call Z Z Tryd.call63 (w_impl_judgeValid (hG.mono (lz1.trans hl4)) hC4.old hv5 hv6 hx3) fun v7 w5 hv7 => ?_)
   obtain ⟨hv7, hb5⟩ := hv7
   have hC5 := hC4.no hb5
   obtain rfl := vbool_eq hv7
   refine lw_op Z Z Z (ow_assign Z Z (lw_nil (ew_then (cw_ret ?_))))
   obtain rfl := sj h
   exact ew_ret (res1 Z (.tmp Z)) ⟨_, Z, ((vbool _)), hC5.bx⟩
  ·
   subst hc2
   refine cw_true Z (cw_seq (cw_region (lw_op Z Z Z (ow_assign Z Z (lw_nil (ew_then (cw_ret (ew_thenR ?_))))))))
   obtain rfl := sj h
   exact ew_ret (res1 Z (.tmp Z)) ⟨_, Z, ((vbool _)), hC4.bx⟩
 ·
  subst hc1
  refine lw_off Z Z Z Z Z Z (lw_off Z Z Z Z Z Z (lw_off Z Z Z Z Z Z (lw_op Z Z Z (ow_pickT Z Z Z (lw_nil (ew_then (cw_true Z (cw_seq (cw_region (lw_op Z Z Z (ow_assign Z Z (lw_nil (ew_then (cw_ret (ew_thenR ?_)))))))))))))))
  obtain rfl := sj h
  exact ew_ret (res1 Z (.tmp Z)) ⟨_, Z, ((vbool _)), hC3.bx⟩

theorem w_spec_l1In {w : World} {M : Nat → Prop} (_hG : ARep (RArr 4 RShape) w M shapes ⟨0, 0, none⟩) (hO : ∀ b, M b → b < w.heap.size) {a_n : Int} {a_lo : Int} {a_hi : Int} {r : Bool} (h : F.spec_l1In a_n a_lo a_hi = some r) :
  Calls Tryd.prog 70 [(.int .i64 a_n), (.int .i64 a_lo), (.int .i64 a_hi)].toArray w fun e w' => ∃ v, e = .returned v ∧ VRep RBool w' M r v ∧ BX No w w' := by
 have hC : Cx No w M w M := Cx.start hO (fun _ e => e.elim)
 clear _hG
 refine walk (N := 15) Tryd.func70 Z Tryd.ntmps70 Z (cw_seq (cw_region (lw_op Z Z Z (ow_assign Z Z (lw_nil (ew_then (cw_seq (cw_region (lw_op Z Z Z (ow_move Z Z (lw_op Z Z Z (ow_move Z Z (lw_op Z Z Z (ow_geq Z Z Z fun bb1 hbb1 => lw_op Z Z Z (ow_move Z Z ?_)))))))))))))))
 replace h := cond_some h
 rcases h with ⟨hc1, h⟩ | ⟨hc1, h⟩
 ·
  obtain rfl := hbb1.trans hc1
  refine lw_on Z Z Z Z Z Z (ow_move Z Z (lw_on Z Z Z Z Z Z (ow_move Z Z (lw_on Z Z Z Z Z Z (ow_leq Z Z Z fun bb2 hbb2 => lw_op Z Z Z (ow_pickT Z Z Z (lw_op Z Z Z (ow_assign Z Z (lw_nil (ew_then (cw_ret ?_)))))))))))
  obtain rfl := sj h
  exact ew_ret (res1 Z (.tmp Z)) ⟨_, Z, ((vbool_of hbb2)), hC.bx⟩
 ·
  obtain rfl := hbb1.trans hc1
  refine lw_off Z Z Z Z Z Z (lw_off Z Z Z Z Z Z (lw_off Z Z Z Z Z Z (lw_op Z Z Z (ow_pickF Z Z Z (lw_op Z Z Z (ow_assign Z Z (lw_nil (ew_then (cw_ret ?_)))))))))
  obtain rfl := sj h
  exact ew_ret (res1 Z (.tmp Z)) ⟨_, Z, ((vbool _)), hC.bx⟩

theorem w_spec_FieldTop {w : World} {M : Nat → Prop} (_hG : ARep (RArr 4 RShape) w M shapes ⟨0, 0, none⟩) (hO : ∀ b, M b → b < w.heap.size) {a_n : Int} {r : Int} (h : F.spec_FieldTop a_n = some r) :
  Calls Tryd.prog 53 [(.int .i64 a_n)].toArray w fun e w' => ∃ v, e = .returned v ∧ VRep RInt w' M r v ∧ BX No w w' := by
 have hC : Cx No w M w M := Cx.start hO (fun _ e => e.elim)
 clear _hG
 refine walk (N := 11) Tryd.func53 Z Tryd.ntmps53 Z (cw_seq (cw_region (lw_op Z Z Z (ow_assign Z Z (lw_nil (ew_then (cw_seq (cw_seq (cw_region (lw_op Z Z Z (ow_move Z Z (lw_nil (ew_then (cw_block (cw_seq (cw_seq (cw_region (lw_op Z Z Z (ow_eqlI Z Z Z fun bb1 hbb1 => lw_op Z Z Z (ow_assign Z Z (lw_nil (ew_then ?_))))))))))))))))))))))
 replace h := cond_some h
 rcases h with ⟨hc1, h⟩ | ⟨hc1, h⟩
 ·
  obtain rfl := hbb1.trans hc1
  refine cw_true Z (cw_skip (ew_then (cw_true Z (cw_seq (cw_region (lw_op Z Z Z (ow_assign Z Z (lw_nil (ew_then (cw_ret (ew_blockR (ew_thenR ?_))))))))))))
  obtain rfl := sj h
  exact ew_ret (res1 Z (.tmp Z)) ⟨_, Z, ((vint _)), hC.bx⟩
 ·
  obtain rfl := hbb1.trans hc1
  refine cw_false Z (cw_region (lw_op Z Z Z (ow_eqlI Z Z Z fun bb2 hbb2 => lw_op Z Z Z (ow_assign Z Z (lw_nil (ew_then ?_))))))
  replace h := cond_some h
  rcases h with ⟨hc2, h⟩ | ⟨hc2, h⟩
  ·
   obtain rfl := hbb2.trans hc2
   refine cw_true Z (cw_seq (cw_region (lw_op Z Z Z (ow_assign Z Z (lw_nil (ew_then (cw_ret (ew_blockR (ew_thenR ?_)))))))))
   obtain rfl := sj h
   exact ew_ret (res1 Z (.tmp Z)) ⟨_, Z, ((vint _)), hC.bx⟩
  ·
   obtain rfl := hbb2.trans hc2
   refine cw_false Z (cw_seq (cw_region (lw_op Z Z Z (ow_eqlI Z Z Z fun bb3 hbb3 => lw_op Z Z Z (ow_assign Z Z (lw_nil (ew_then ?_)))))))
   replace h := cond_some h
   rcases h with ⟨hc3, h⟩ | ⟨hc3, h⟩
   ·
    obtain rfl := hbb3.trans hc3
    refine cw_true Z (cw_seq (cw_region (lw_op Z Z Z (ow_assign Z Z (lw_nil (ew_then (cw_ret (ew_blockR (ew_thenR ?_)))))))))
    obtain rfl := sj h
    exact ew_ret (res1 Z (.tmp Z)) ⟨_, Z, ((vint _)), hC.bx⟩
   ·
    obtain rfl := hbb3.trans hc3
    refine cw_false Z (cw_seq (cw_region (lw_op Z Z Z (ow_eqlI Z Z Z fun bb4 hbb4 => lw_op Z Z Z (ow_assign Z Z (lw_nil (ew_then ?_)))))))
    replace h := cond_some h
    rcases h with ⟨hc4, h⟩ | ⟨hc4, h⟩
    ·
     obtain rfl := hbb4.trans hc4
     refine cw_true Z (cw_seq (cw_region (lw_op Z Z Z (ow_assign Z Z (lw_nil (ew_then (cw_ret (ew_blockR (ew_thenR ?_)))))))))
     obtain rfl := sj h
     exact ew_ret (res1 Z (.tmp Z)) ⟨_, Z, ((vint _)), hC.bx⟩
    ·
     obtain rfl := hbb4.trans hc4
     refine cw_false Z (cw_skip (ew_blockN (ew_then (cw_seq (cw_region (lw_op Z Z Z (ow_assign Z Z (lw_nil (ew_then (cw_ret ?_))))))))))
     obtain rfl := sj h
     exact ew_ret (res1 Z (.tmp Z)) ⟨_, Z, ((vint _)), hC.bx⟩

theorem w_spec_TestValid {w : World} {M : Nat → Prop} (hG : ARep (RArr 4 RShape) w M shapes ⟨0, 0, none⟩) (hO : ∀ b, M b → b < w.heap.size) {v0p : Value} {a_t : Test} (h0 : VRep RTest w M a_t v0p) {r : Bool} (h : F.spec_TestValid a_t = some r) :
  Calls Tryd.prog 91 [v0p].toArray w fun e w' => ∃ v, e = .returned v ∧ VRep RBool w' M r v ∧ BX No w w' := by
 have hC : Cx No w M w M := Cx.start hO (fun _ e => e.elim)
 refine walk (N := 21) Tryd.func91 Z Tryd.ntmps91 Z (cw_seq (cw_region (lw_op Z Z Z (ow_box (R := RTest) Z Z h0 hC fun p1 w1 hp1 hb1 hl1 hC1 => lw_op Z Z Z (ow_assign Z Z (lw_nil (ew_then (cw_seq ?_))))))))
 replace h := bind_some h
 obtain ⟨x1, hx1, h⟩ := h
 replace h := cond_some h
 rcases h with ⟨hc1, h⟩ | ⟨hc1, h⟩
 ·
  subst hc1
  replace h := bind_some h
  obtain ⟨x2, hx2, h⟩ := h
  replace h := cond_some h
  rcases h with ⟨hc2, h⟩ | ⟨hc2, h⟩
  ·
   subst hc2
   replace h := bind_some h
   obtain ⟨x3, hx3, h⟩ := h
   refine cw_sub (E' := [(1, (.pointer (some p1))), (2, (.bool false))]) ⟨Z, Z, Zt⟩ (cw_drawQ 16 [PA RInt M a_t.Field, PEq (Zv a_t.Field), PEq (.bool true), PEq (.bool true), PA RInt M a_t.Lo, PEq (Zv a_t.Lo), PA RInt M a_t.Hi, PEq (Zv a_t.Hi), PEq (.bool true), PEq (.bool true), PEq (.bool true), PA RInt M a_t.Hi, PEq (Zv a_t.Hi), PA RInt M a_t.Field, PEq (Zv a_t.Field), PEq (Zv x3)] (by kernel_rfl) Z (by kernel_rfl) ⟨PA.mono _ _ _, Zq, Zq, Zq, PA.mono _ _ _, Zq, PA.mono _ _ _, Zq, Zq, Zq, Zq, PA.mono _ _ _, Zq, PA.mono _ _ _, Zq, Zq, Zt⟩ ⟨?_, ?_, ?_, ?_, ?_, ?_, ?_, ?_, ?_, ?_, ?_, ?_, ?_, ?_, ?_, ?_, Zt⟩ ?_)
   ·
    intro w5 D hS1 hd1
    have hl5 := Le.no M hS1
    exact dg_sub (E' := [(1, (.pointer (some p1)))]) ⟨Z, Zt⟩ (dg_plain Z (ow_fieldAddr Z Z Tryd.underlying31 Z (Tryd.sizeOf3 _) ⟨BX.refl _ _, ⟨_, Z, (ARep.mono hl5 (hp1.fld fld_Test_Field))⟩⟩))
   ·
    intro w6 D hS2 hd2
    have d1 : PA RInt M a_t.Field (D 0) w6 := dpA hd2 0 Z
    obtain ⟨p2, e1, ha1⟩ := d1
    refine dg_sub (E' := [(3, (.pointer (some p2)))]) ⟨congrArg some e1, Zt⟩ (dg_plain Z (ow_load (R := RInt) Z Z ha1 (Tryd.sizeOf3 _) (Tryd.isAgg3 _) fun v9 hv9 => ?_))
    obtain rfl := vint_eq hv9
    exact Zb
   ·
    intro w7 D hS3 hd3
    have hl7 := Le.no M hS3
    have hC7 := hC1.no hS3
    refine dg_sub (E' := [(4, (Zv a_t.Field))]) ⟨dpE hd3 1 Z Z, Zt⟩ (dg_plain Z (ow_call Z Z Tryd.call70 (w_spec_l1In (hG.mono (hl1.trans hl7)) hC7.old hx1) fun v10 w8 hv10 => ?_))
    obtain ⟨hv10, hb5⟩ := hv10
    obtain rfl := vbool_eq hv10
    exact ⟨hb5, Z⟩
   · exact fun w9 D hS4 hd4 => dg_sub (E' := [(5, (.bool true))]) ⟨dpE hd4 2 Z Z, Zt⟩ (dg_plain Z (ow_move Z Z Zb))
   ·
    intro w10 D hS5 hd5
    have hl10 := Le.no M hS5
    exact dg_sub (E' := [(6, (.bool true)), (1, (.pointer (some p1)))]) ⟨dpE hd5 3 Z Z, Z, Zt⟩ (dg_on Z Z Z Z (ow_fieldAddr Z Z Tryd.underlying31 Z (Tryd.sizeOf3 _) ⟨BX.refl _ _, ⟨_, Z, (ARep.mono hl10 (hp1.fld fld_Test_Lo))⟩⟩))
   ·
    intro w11 D hS6 hd6
    have d6 : PA RInt M a_t.Lo (D 4) w11 := dpA hd6 4 Z
    obtain ⟨p3, e2, ha2⟩ := d6
    refine dg_sub (E' := [(7, (.pointer (some p3))), (6, (.bool true))]) ⟨congrArg some e2, dpE hd6 3 Z Z, Zt⟩ (dg_on Z Z Z Z (ow_load (R := RInt) Z Z ha2 (Tryd.sizeOf3 _) (Tryd.isAgg3 _) fun v11 hv11 => ?_))
    obtain rfl := vint_eq hv11
    exact Zb
   ·
    intro w12 D hS7 hd7
    have hl12 := Le.no M hS7
    exact dg_sub (E' := [(6, (.bool true)), (1, (.pointer (some p1)))]) ⟨dpE hd7 3 Z Z, Z, Zt⟩ (dg_on Z Z Z Z (ow_fieldAddr Z Z Tryd.underlying31 Z (Tryd.sizeOf3 _) ⟨BX.refl _ _, ⟨_, Z, (ARep.mono hl12 (hp1.fld fld_Test_Hi))⟩⟩))
   ·
    intro w13 D hS8 hd8
    have d9 : PA RInt M a_t.Hi (D 6) w13 := dpA hd8 6 Z
    obtain ⟨p4, e3, ha3⟩ := d9
    refine dg_sub (E' := [(9, (.pointer (some p4))), (6, (.bool true))]) ⟨congrArg some e3, dpE hd8 3 Z Z, Zt⟩ (dg_on Z Z Z Z (ow_load (R := RInt) Z Z ha3 (Tryd.sizeOf3 _) (Tryd.isAgg3 _) fun v12 hv12 => ?_))
    obtain rfl := vint_eq hv12
    exact Zb
   ·
    intro w14 D hS9 hd9
    have hl14 := Le.no M hS9
    have hC14 := hC1.no hS9
    refine dg_sub (E' := [(8, (Zv a_t.Lo)), (10, (Zv a_t.Hi)), (6, (.bool true))]) ⟨dpE hd9 5 Z Z, dpE hd9 7 Z Z, dpE hd9 3 Z Z, Zt⟩ (dg_on Z Z Z Z (ow_call Z Z Tryd.call70 (w_spec_l1In (hG.mono (hl1.trans hl14)) hC14.old hx2) fun v13 w15 hv13 => ?_))
    obtain ⟨hv13, hb6⟩ := hv13
    obtain rfl := vbool_eq hv13
    exact ⟨hb6, Z⟩
   · exact fun w16 D hS10 hd10 => dg_sub (E' := [(6, (.bool true)), (11, (.bool true))]) ⟨dpE hd10 3 Z Z, dpE hd10 8 Z Z, Zt⟩ (dg_plain Z (ow_pickT Z Z Z Zb))
   · exact fun w17 D hS11 hd11 => dg_sub (E' := [(12, (.bool true))]) ⟨dpE hd11 9 Z Z, Zt⟩ (dg_plain Z (ow_move Z Z Zb))
   ·
    intro w18 D hS12 hd12
    have hl18 := Le.no M hS12
    exact dg_sub (E' := [(13, (.bool true)), (1, (.pointer (some p1)))]) ⟨dpE hd12 10 Z Z, Z, Zt⟩ (dg_on Z Z Z Z (ow_fieldAddr Z Z Tryd.underlying31 Z (Tryd.sizeOf3 _) ⟨BX.refl _ _, ⟨_, Z, (ARep.mono hl18 (hp1.fld fld_Test_Hi))⟩⟩))
   ·
    intro w19 D hS13 hd13
    have d20 : PA RInt M a_t.Hi (D 11) w19 := dpA hd13 11 Z
    obtain ⟨p5, e4, ha4⟩ := d20
    refine dg_sub (E' := [(14, (.pointer (some p5))), (13, (.bool true))]) ⟨congrArg some e4, dpE hd13 10 Z Z, Zt⟩ (dg_on Z Z Z Z (ow_load (R := RInt) Z Z ha4 (Tryd.sizeOf3 _) (Tryd.isAgg3 _) fun v14 hv14 => ?_))
    obtain rfl := vint_eq hv14
    exact Zb
   ·
    intro w20 D hS14 hd14
    have hl20 := Le.no M hS14
    exact dg_sub (E' := [(13, (.bool true)), (1, (.pointer (some p1)))]) ⟨dpE hd14 10 Z Z, Z, Zt⟩ (dg_on Z Z Z Z (ow_fieldAddr Z Z Tryd.underlying31 Z (Tryd.sizeOf3 _) ⟨BX.refl _ _, ⟨_, Z, (ARep.mono hl20 (hp1.fld fld_Test_Field))⟩⟩))
   ·
    intro w21 D hS15 hd15
    have d23 : PA RInt M a_t.Field (D 13) w21 := dpA hd15 13 Z
    obtain ⟨p6, e5, ha5⟩ := d23
    refine dg_sub (E' := [(16, (.pointer (some p6))), (13, (.bool true))]) ⟨congrArg some e5, dpE hd15 10 Z Z, Zt⟩ (dg_on Z Z Z Z (ow_load (R := RInt) Z Z ha5 (Tryd.sizeOf3 _) (Tryd.isAgg3 _) fun v15 hv15 => ?_))
    obtain rfl := vint_eq hv15
    exact Zb
   ·
    intro w22 D hS16 hd16
    have hl22 := Le.no M hS16
    have hC22 := hC1.no hS16
    refine dg_sub (E' := [(17, (Zv a_t.Field)), (13, (.bool true))]) ⟨dpE hd16 14 Z Z, dpE hd16 10 Z Z, Zt⟩ (dg_on Z Z Z Z (ow_call Z Z Tryd.call53 (w_spec_FieldTop (hG.mono (hl1.trans hl22)) hC22.old hx3) fun v16 w23 hv16 => ?_))
    obtain ⟨hv16, hb7⟩ := hv16
    obtain rfl := vint_eq hv16
    exact ⟨hb7, Z⟩
   ·
    intro w24 D hS17 hd17
    have hC24 := hC1.no hS17
    refine lw_sub (E' := [(13, (.bool true)), (15, (Zv a_t.Hi)), (18, (Zv x3)), (1, (.pointer (some p1))), (2, (.bool false))]) ⟨dpE hd17 10 Z Z, dpE hd17 12 Z Z, dpE hd17 15 Z Z, Z, Z, Zt⟩ (lw_on Z Z Z Z Z Z (ow_leq Z Z Z fun bb1 hbb1 => lw_op Z Z Z (ow_pickT Z Z Z (lw_op Z Z Z (ow_assign Z Z (lw_nil (ew_then (cw_ret ?_))))))))
    obtain rfl := sj h
    exact ew_ret (res1 Z (.tmp Z)) ⟨_, Z, ((vbool_of hbb1)), hC24.bx⟩
  ·
   subst hc2
   refine cw_sub (E' := [(1, (.pointer (some p1))), (2, (.bool false))]) ⟨Z, Z, Zt⟩ (cw_drawQ 16 [PA RInt M a_t.Field, PEq (Zv a_t.Field), PEq (.bool true), PEq (.bool true), PA RInt M a_t.Lo, PEq (Zv a_t.Lo), PA RInt M a_t.Hi, PEq (Zv a_t.Hi), PEq (.bool false), PEq (.bool false), PEq (.bool false), PEq undef, PEq undef, PEq undef, PEq undef, PEq undef] (by kernel_rfl) Z (by kernel_rfl) ⟨PA.mono _ _ _, Zq, Zq, Zq, PA.mono _ _ _, Zq, PA.mono _ _ _, Zq, Zq, Zq, Zq, Zq, Zq, Zq, Zq, Zq, Zt⟩ ⟨?_, ?_, ?_, ?_, ?_, ?_, ?_, ?_, ?_, ?_, ?_, ?_, ?_, ?_, ?_, ?_, Zt⟩ ?_)
   ·
    intro w25 D hS18 hd18
    have hl25 := Le.no M hS18
    exact dg_sub (E' := [(1, (.pointer (some p1)))]) ⟨Z, Zt⟩ (dg_plain Z (ow_fieldAddr Z Z Tryd.underlying31 Z (Tryd.sizeOf3 _) ⟨BX.refl _ _, ⟨_, Z, (ARep.mono hl25 (hp1.fld fld_Test_Field))⟩⟩))
   ·
    intro w26 D hS19 hd19
    have d44 : PA RInt M a_t.Field (D 0) w26 := dpA hd19 0 Z
    obtain ⟨p7, e6, ha6⟩ := d44
    refine dg_sub (E' := [(3, (.pointer (some p7)))]) ⟨congrArg some e6, Zt⟩ (dg_plain Z (ow_load (R := RInt) Z Z ha6 (Tryd.sizeOf3 _) (Tryd.isAgg3 _) fun v17 hv17 => ?_))
    obtain rfl := vint_eq hv17
    exact Zb
   ·
    intro w27 D hS20 hd20
    have hl27 := Le.no M hS20
    have hC27 := hC1.no hS20
    refine dg_sub (E' := [(4, (Zv a_t.Field))]) ⟨dpE hd20 1 Z Z, Zt⟩ (dg_plain Z (ow_call Z Z Tryd.call70 (w_spec_l1In (hG.mono (hl1.trans hl27)) hC27.old hx1) fun v18 w28 hv18 => ?_))
    obtain ⟨hv18, hb8⟩ := hv18
    obtain rfl := vbool_eq hv18
    exact ⟨hb8, Z⟩
   · exact fun w29 D hS21 hd21 => dg_sub (E' := [(5, (.bool true))]) ⟨dpE hd21 2 Z Z, Zt⟩ (dg_plain Z (ow_move Z Z Zb))
   ·
    intro w30 D hS22 hd22
    have hl30 := Le.no M hS22
    exact dg_sub (E' := [(6, (.bool true)), (1, (.pointer (some p1)))]) ⟨dpE hd22 3 Z Z, Z, Zt⟩ (dg_on Z Z Z Z (ow_fieldAddr Z Z Tryd.underlying31 Z (Tryd.sizeOf3 _) ⟨BX.refl _ _, ⟨_, Z, (ARep.mono hl30 (hp1.fld fld_Test_Lo))⟩⟩))
   ·
    intro w31 D hS23 hd23
    have d49 : PA RInt M a_t.Lo (D 4) w31 := dpA hd23 4 Z
    obtain ⟨p8, e7, ha7⟩ := d49
    refine dg_sub (E' := [(7, (.pointer (some p8))), (6, (.bool true))]) ⟨congrArg some e7, dpE hd23 3 Z Z, Zt⟩ (dg_on Z Z Z Z (ow_load (R := RInt) Z Z ha7 (Tryd.sizeOf3 _) (Tryd.isAgg3 _) fun v19 hv19 => ?_))
    obtain rfl := vint_eq hv19
    exact Zb
   ·
    intro w32 D hS24 hd24
    have hl32 := Le.no M hS24
    exact dg_sub (E' := [(6, (.bool true)), (1, (.pointer (some p1)))]) ⟨dpE hd24 3 Z Z, Z, Zt⟩ (dg_on Z Z Z Z (ow_fieldAddr Z Z Tryd.underlying31 Z (Tryd.sizeOf3 _) ⟨BX.refl _ _, ⟨_, Z, (ARep.mono hl32 (hp1.fld fld_Test_Hi))⟩⟩))
   ·
    intro w33 D hS25 hd25
    have d52 : PA RInt M a_t.Hi (D 6) w33 := dpA hd25 6 Z
    obtain ⟨p9, e8, ha8⟩ := d52
    refine dg_sub (E' := [(9, (.pointer (some p9))), (6, (.bool true))]) ⟨congrArg some e8, dpE hd25 3 Z Z, Zt⟩ (dg_on Z Z Z Z (ow_load (R := RInt) Z Z ha8 (Tryd.sizeOf3 _) (Tryd.isAgg3 _) fun v20 hv20 => ?_))
    obtain rfl := vint_eq hv20
    exact Zb
   ·
    intro w34 D hS26 hd26
    have hl34 := Le.no M hS26
    have hC34 := hC1.no hS26
    refine dg_sub (E' := [(8, (Zv a_t.Lo)), (10, (Zv a_t.Hi)), (6, (.bool true))]) ⟨dpE hd26 5 Z Z, dpE hd26 7 Z Z, dpE hd26 3 Z Z, Zt⟩ (dg_on Z Z Z Z (ow_call Z Z Tryd.call70 (w_spec_l1In (hG.mono (hl1.trans hl34)) hC34.old hx2) fun v21 w35 hv21 => ?_))
    obtain ⟨hv21, hb9⟩ := hv21
    obtain rfl := vbool_eq hv21
    exact ⟨hb9, Z⟩
   · exact fun w36 D hS27 hd27 => dg_sub (E' := [(6, (.bool true)), (11, (.bool false))]) ⟨dpE hd27 3 Z Z, dpE hd27 8 Z Z, Zt⟩ (dg_plain Z (ow_pickT Z Z Z Zb))
   · exact fun w37 D hS28 hd28 => dg_sub (E' := [(12, (.bool false))]) ⟨dpE hd28 9 Z Z, Zt⟩ (dg_plain Z (ow_move Z Z Zb))
   · exact fun w38 D hS29 hd29 => dg_sub (E' := [(13, (.bool false)), (1, (.pointer (some p1)))]) ⟨dpE hd29 10 Z Z, Z, Zt⟩ (dg_off Z Z Z Z Zb)
   · exact fun w39 D hS30 hd30 => dg_sub (E' := [(14, undef), (13, (.bool false))]) ⟨dpE hd30 11 Z Z, dpE hd30 10 Z Z, Zt⟩ (dg_off Z Z Z Z Zb)
   · exact fun w40 D hS31 hd31 => dg_sub (E' := [(13, (.bool false)), (1, (.pointer (some p1)))]) ⟨dpE hd31 10 Z Z, Z, Zt⟩ (dg_off Z Z Z Z Zb)
   · exact fun w41 D hS32 hd32 => dg_sub (E' := [(16, undef), (13, (.bool false))]) ⟨dpE hd32 13 Z Z, dpE hd32 10 Z Z, Zt⟩ (dg_off Z Z Z Z Zb)
   · exact fun w42 D hS33 hd33 => dg_sub (E' := [(17, undef), (13, (.bool false))]) ⟨dpE hd33 14 Z Z, dpE hd33 10 Z Z, Zt⟩ (dg_off Z Z Z Z Zb)
   ·
    intro w43 D hS34 hd34
    have hC43 := hC1.no hS34
    refine lw_sub (E' := [(13, (.bool false)), (15, undef), (18, undef), (1, (.pointer (some p1))), (2, (.bool false))]) ⟨dpE hd34 10 Z Z, dpE hd34 12 Z Z, dpE hd34 15 Z Z, Z, Z, Zt⟩ (lw_off Z Z Z Z Z Z (lw_op Z Z Z (ow_pickF Z Z Z (lw_op Z Z Z (ow_assign Z Z (lw_nil (ew_then (cw_ret ?_))))))))
    obtain rfl := sj h
    exact ew_ret (res1 Z (.tmp Z)) ⟨_, Z, ((vbool _)), hC43.bx⟩
 ·
  subst hc1
  refine cw_sub (E' := [(1, (.pointer (some p1))), (2, (.bool false))]) ⟨Z, Z, Zt⟩ (cw_drawQ 16 [PA RInt M a_t.Field, PEq (Zv a_t.Field), PEq (.bool false), PEq (.bool false), PEq undef, PEq undef, PEq undef, PEq undef, PEq undef, PEq (.bool false), PEq (.bool false), PEq undef, PEq undef, PEq undef, PEq undef, PEq undef] (by kernel_rfl) Z (by kernel_rfl) ⟨PA.mono _ _ _, Zq, Zq, Zq, Zq, Zq, Zq, Zq, Zq, Zq, Zq, Zq, Zq, Zq, Zq, Zq, Zt⟩ ⟨?_, ?_, ?_, ?_, ?_, ?_, ?_, ?_, ?_, ?_, ?_, ?_, ?_, ?_, ?_, ?_, Zt⟩ ?_)
  ·
   intro w44 D hS35 hd35
   have hl44 := Le.no M hS35
   exact dg_sub (E' := [(1, (.pointer (some p1)))]) ⟨Z, Zt⟩ (dg_plain Z (ow_fieldAddr Z Z Tryd.underlying31 Z (Tryd.sizeOf3 _) ⟨BX.refl _ _, ⟨_, Z, (ARep.mono hl44 (hp1.fld fld_Test_Field))⟩⟩))
  ·
   intro w45 D hS36 hd36
   have d87 : PA RInt M a_t.Field (D 0) w45 := dpA hd36 0 Z
   obtain ⟨p10, e9, ha9⟩ := d87
   refine dg_sub (E' := [(3, (.pointer (some p10)))]) ⟨congrArg some e9, Zt⟩ (dg_plain Z (ow_load (R := RInt) Z Z ha9 (Tryd.sizeOf3 _) (Tryd.isAgg3 _) fun v22 hv22 => ?_))
   obtain rfl := vint_eq hv22
   exact Zb
  ·
   intro w46 D hS37 hd37
   have hl46 := Le.no M hS37
   have hC46 := hC1.no hS37
   refine dg_sub (E' := [(4, (Zv a_t.Field))]) ⟨dpE hd37 1 Z Z, Zt⟩ (dg_plain Z (ow_call Z Z Tryd.call70 (w_spec_l1In (hG.mono (hl1.trans hl46)) hC46.old hx1) fun v23 w47 hv23 => ?_))
   obtain ⟨hv23, hb10⟩ := hv23
   obtain rfl := vbool_eq hv23
   exact ⟨hb10, Z⟩
  · exact fun w48 D hS38 hd38 => dg_sub (E' := [(5, (.bool false))]) ⟨dpE hd38 2 Z Z, Zt⟩ (dg_plain Z (ow_move Z Z Zb))
  · exact fun w49 D hS39 hd39 => dg_sub (E' := [(6, (.bool false)), (1, (.pointer (some p1)))]) ⟨dpE hd39 3 Z Z, Z, Zt⟩ (dg_off Z Z Z Z Zb)
  · exact fun w50 D hS40 hd40 => dg_sub (E' := [(7, undef), (6, (.bool false))]) ⟨dpE hd40 4 Z Z, dpE hd40 3 Z Z, Zt⟩ (dg_off Z Z Z Z Zb)
  · exact fun w51 D hS41 hd41 => dg_sub (E' := [(6, (.bool false)), (1, (.pointer (some p1)))]) ⟨dpE hd41 3 Z Z, Z, Zt⟩ (dg_off Z Z Z Z Zb)
  · exact fun w52 D hS42 hd42 => dg_sub (E' := [(9, undef), (6, (.bool false))]) ⟨dpE hd42 6 Z Z, dpE hd42 3 Z Z, Zt⟩ (dg_off Z Z Z Z Zb)
  · exact fun w53 D hS43 hd43 => dg_sub (E' := [(8, undef), (10, undef), (6, (.bool false))]) ⟨dpE hd43 5 Z Z, dpE hd43 7 Z Z, dpE hd43 3 Z Z, Zt⟩ (dg_off Z Z Z Z Zb)
  · exact fun w54 D hS44 hd44 => dg_sub (E' := [(6, (.bool false)), (11, undef)]) ⟨dpE hd44 3 Z Z, dpE hd44 8 Z Z, Zt⟩ (dg_plain Z (ow_pickF Z Z Z Zb))
  · exact fun w55 D hS45 hd45 => dg_sub (E' := [(12, (.bool false))]) ⟨dpE hd45 9 Z Z, Zt⟩ (dg_plain Z (ow_move Z Z Zb))
  · exact fun w56 D hS46 hd46 => dg_sub (E' := [(13, (.bool false)), (1, (.pointer (some p1)))]) ⟨dpE hd46 10 Z Z, Z, Zt⟩ (dg_off Z Z Z Z Zb)
  · exact fun w57 D hS47 hd47 => dg_sub (E' := [(14, undef), (13, (.bool false))]) ⟨dpE hd47 11 Z Z, dpE hd47 10 Z Z, Zt⟩ (dg_off Z Z Z Z Zb)
  · exact fun w58 D hS48 hd48 => dg_sub (E' := [(13, (.bool false)), (1, (.pointer (some p1)))]) ⟨dpE hd48 10 Z Z, Z, Zt⟩ (dg_off Z Z Z Z Zb)
  · exact fun w59 D hS49 hd49 => dg_sub (E' := [(16, undef), (13, (.bool false))]) ⟨dpE hd49 13 Z Z, dpE hd49 10 Z Z, Zt⟩ (dg_off Z Z Z Z Zb)
  · exact fun w60 D hS50 hd50 => dg_sub (E' := [(17, undef), (13, (.bool false))]) ⟨dpE hd50 14 Z Z, dpE hd50 10 Z Z, Zt⟩ (dg_off Z Z Z Z Zb)
  ·
   intro w61 D hS51 hd51
   have hC61 := hC1.no hS51
   refine lw_sub (E' := [(13, (.bool false)), (15, undef), (18, undef), (1, (.pointer (some p1))), (2, (.bool false))]) ⟨dpE hd51 10 Z Z, dpE hd51 12 Z Z, dpE hd51 15 Z Z, Z, Z, Zt⟩ (lw_off Z Z Z Z Z Z (lw_op Z Z Z (ow_pickF Z Z Z (lw_op Z Z Z (ow_assign Z Z (lw_nil (ew_then (cw_ret ?_))))))))
   obtain rfl := sj h
   exact ew_ret (res1 Z (.tmp Z)) ⟨_, Z, ((vbool _)), hC61.bx⟩

theorem w_spec_TestsValid {w : World} {M : Nat → Prop} (hG : ARep (RArr 4 RShape) w M shapes ⟨0, 0, none⟩) (hO : ∀ b, M b → b < w.heap.size) {v0p : Value} {a_list : List Test} (h0 : VRep (RSlice RTest) w M a_list v0p) {r : Bool} (h : F.spec_TestsValid a_list = some r) :
  Calls Tryd.prog 98 [v0p].toArray w fun e w' => ∃ v, e = .returned v ∧ VRep RBool w' M r v ∧ BX No w w' := by
 have hC : Cx No w M w M := Cx.start hO (fun _ e => e.elim)
 refine walk (N := 19) Tryd.func98 Z Tryd.ntmps98 Z (cw_seq (cw_region (lw_op Z Z Z (ow_assign Z Z (lw_nil (ew_then (cw_seq (cw_seq (cw_region (lw_op Z Z Z (ow_assign Z Z (lw_nil (ew_then ?_)))))))))))))
 replace h := bind_some h
 obtain ⟨lr1, hlr1, h⟩ := h
 refine cw_for hlr1 (fun s a w' => ∃ (M' : Nat → Prop), Fits 19 [(0, v0p), (3, (Zv s))] a ∧ Le w M w' M' ∧ Cx No w M w' M') ?_ ?_ ?_
 · exact fun a ha => ⟨M, ha.sub ⟨Z, Z, Zt⟩, Le.refl _ _, hC⟩
 ·
  rintro k1 a w1 sr1 ⟨M1, hF1, hl1, hC1⟩ hb1 hR1
  refine cw_at (E := [(0, v0p), (3, (Zv k1))]) hF1 (cw_seq (cw_seq (cw_region (lw_op Z Z Z (ow_move Z Z (lw_op Z Z Z (ow_move Z Z (lw_op Z Z Z (ow_len Z Z (VRep.mono hl1 h0) Tryd.underlying27 Z (lw_op Z Z Z (ow_lss Z Z Z fun bb1 hbb1 => lw_nil (ew_then ?_))))))))))))
  replace hb1 := cond_some hb1
  rcases hb1 with ⟨hc1, hb1⟩ | ⟨hc1, hb1⟩
  ·
   obtain rfl := hbb1.trans hc1
   refine cw_true Z (cw_skip (ew_then (cw_seq (cw_block (cw_seq (cw_region (lw_op Z Z Z (ow_move Z Z (lw_op Z Z Z (ow_move Z Z ?_))))))))))
   replace hb1 := bind_some hb1
   obtain ⟨x1, hx1, hb1⟩ := hb1
   refine lw_op Z Z Z (ow_indexSlice (R := RTest) Z Z Z (VRep.mono hl1 h0) Tryd.underlying27 (Tryd.sizeOf31 _) hx1 fun p1 hp1 => lw_op Z Z Z (ow_load (R := RTest) Z Z hp1 (Tryd.sizeOf31 _) (Tryd.isAgg31 _) fun v2 hv2 => ?_))
   replace hb1 := bind_some hb1
   obtain ⟨x2, hx2, hb1⟩ := hb1
   refine lw_op Z Z Z (ow_call Z Z Tryd.call91 (w_spec_TestValid (hG.mono hl1) hC1.old hv2 hx2) fun v3 w2 hv3 => ?_)
   obtain ⟨hv3, hb2⟩ := hv3
   have hl2 := Le.no M1 hb2
   have hC2 := hC1.no hb2
   obtain rfl := vbool_eq hv3
   refine lw_op Z Z Z (ow_not Z Z (lw_nil (ew_then ?_)))
   replace hb1 := cond_some hb1
   rcases hb1 with ⟨hc2, hb1⟩ | ⟨hc2, hb1⟩
   ·
    subst hc2
    exact cw_false Z (cw_skip (ew_blockN (ew_then (cw_region (lw_op Z Z Z (ow_move Z Z (lw_op Z Z Z (ow_add Z Z Z (lw_op Z Z Z (ow_assign Z Z (lw_nil (ew_nxt (W (k1 + 1)) hb1 fun a ha => ⟨M1, (ha.sub ⟨Z, Z, Zt⟩), (hl1.trans hl2), hC2⟩))))))))))))
   ·
    subst hc2
    refine cw_true Z (cw_seq (cw_region (lw_op Z Z Z (ow_assign Z Z (lw_nil (ew_then (cw_ret (ew_blockR (ew_thenR (ew_thenR (ew_blockR (ew_brkR (ew_thenR ?_)))))))))))))
    have e1 := hR1 _ (sj hb1).symm
    subst e1
    obtain rfl := sj h
    exact ew_ret (res1 Z (.tmp Z)) ⟨_, Z, ((vbool _)), hC2.bx⟩
  ·
   obtain rfl := hbb1.trans hc1
   exact cw_false Z (cw_exit (ew_thenX (ew_thenX (ew_blockX (ew_brk k1 hb1 fun a ha => ⟨M1, (ha.sub ⟨Z, Z, Zt⟩), hl1, hC1⟩)))))
 ·
  rintro k2 a w3 hlr2 ⟨M2, hF2, hl3, hC3⟩
  subst hlr2
  refine ew_at (E := [(0, v0p), (3, (Zv k2))]) hF2 (ew_then (cw_seq (cw_region (lw_op Z Z Z (ow_move Z Z (lw_op Z Z Z (ow_len Z Z (VRep.mono hl3 h0) Tryd.underlying27 Z (lw_op Z Z Z (ow_leq Z Z Z fun bb2 hbb2 => lw_op Z Z Z (ow_assign Z Z (lw_nil (ew_then (cw_ret ?_)))))))))))))
  obtain rfl := sj h
  exact ew_ret (res1 Z (.tmp Z)) ⟨_, Z, ((vbool_of hbb2)), hC3.bx⟩

theorem w_spec_RuleValid {w : World} {M : Nat → Prop} (hG : ARep (RArr 4 RShape) w M shapes ⟨0, 0, none⟩) (hO : ∀ b, M b → b < w.heap.size) {v0p : Value} {a_r : Rule} (h0 : VRep RRule w M a_r v0p) {r : Bool} (h : F.spec_RuleValid a_r = some r) :
  Calls Tryd.prog 94 [v0p].toArray w fun e w' => ∃ v, e = .returned v ∧ VRep RBool w' M r v ∧ BX No w w' := by
 have hC : Cx No w M w M := Cx.start hO (fun _ e => e.elim)
 refine walk (N := 31) Tryd.func94 Z Tryd.ntmps94 Z (cw_seq (cw_region (lw_op Z Z Z (ow_box (R := RRule) Z Z h0 hC fun p1 w1 hp1 hb1 hl1 hC1 => lw_op Z Z Z (ow_assign Z Z (lw_nil (ew_then (cw_seq (cw_region (lw_op Z Z Z (ow_fieldAddr Z Z Tryd.underlying42 Z (Tryd.sizeOf27 _) (lw_op Z Z Z (ow_load (R := (RSlice RTest)) Z Z (hp1.fld fld_Rule_Tests) (Tryd.sizeOf27 _) (Tryd.isAgg27 _) fun v1 hv1 => ?_)))))))))))))
 replace h := bind_some h
 obtain ⟨x1, hx1, h⟩ := h
 refine lw_op Z Z Z (ow_call Z Z Tryd.call98 (w_spec_TestsValid (hG.mono hl1) hC1.old hv1 hx1) fun v2 w2 hv2 => ?_)
 obtain ⟨hv2, hb2⟩ := hv2
 have hl2 := Le.no M hb2
 have hC2 := hC1.no hb2
 obtain rfl := vbool_eq hv2
 refine lw_op Z Z Z (ow_move Z Z ?_)
 replace h := cond_some h
 rcases h with ⟨hc1, h⟩ | ⟨hc1, h⟩
 ·
  subst hc1
  refine lw_on Z Z Z Z Z Z (ow_fieldAddr Z Z Tryd.underlying42 Z (Tryd.sizeOf3 _) (lw_on Z Z Z Z Z Z (ow_load (R := RInt) Z Z (ARep.mono hl2 (hp1.fld fld_Rule_Action)) (Tryd.sizeOf3 _) (Tryd.isAgg3 _) fun v3 hv3 => ?_)))
  obtain rfl := vint_eq hv3
  replace h := bind_some h
  obtain ⟨x2, hx2, h⟩ := h
  refine lw_on Z Z Z Z Z Z (ow_call Z Z Tryd.call70 (w_spec_l1In (hG.mono (hl1.trans hl2)) hC2.old hx2) fun v4 w3 hv4 => ?_)
  obtain ⟨hv4, hb3⟩ := hv4
  have hl3 := Le.no M hb3
  have hC3 := hC2.no hb3
  obtain rfl := vbool_eq hv4
  refine lw_op Z Z Z (ow_pickT Z Z Z (lw_op Z Z Z (ow_move Z Z ?_)))
  replace h := cond_some h
  rcases h with ⟨hc2, h⟩ | ⟨hc2, h⟩
  ·
   subst hc2
   refine lw_on Z Z Z Z Z Z (ow_fieldAddr Z Z Tryd.underlying42 Z (Tryd.sizeOf3 _) (lw_on Z Z Z Z Z Z (ow_load (R := RInt) Z Z (ARep.mono (hl2.trans hl3) (hp1.fld fld_Rule_Action)) (Tryd.sizeOf3 _) (Tryd.isAgg3 _) fun v5 hv5 => ?_)))
   obtain rfl := vint_eq hv5
   refine lw_on Z Z Z Z Z Z (ow_eqlI Z Z Z fun bb1 hbb1 => lw_on Z Z Z Z Z Z (ow_move Z Z ?_))
   replace h := cond_some h
   rcases h with ⟨hc3, h⟩ | ⟨hc3, h⟩
   ·
    obtain rfl := hbb1.trans hc3
    refine lw_on Z Z Z Z Z Z (ow_fieldAddr Z Z Tryd.underlying42 Z (Tryd.sizeOf3 _) (lw_on Z Z Z Z Z Z (ow_load (R := RInt) Z Z (ARep.mono (hl2.trans hl3) (hp1.fld fld_Rule_Chain)) (Tryd.sizeOf3 _) (Tryd.isAgg3 _) fun v6 hv6 => ?_)))
    obtain rfl := vint_eq hv6
    replace h := bind_some h
    obtain ⟨x3, hx3, h⟩ := h
    have lz1 := ((hl1.trans hl2).trans hl3)
    refine lw_on Z Z Z Z Z Z (ow_call Z Z Tryd.call70 (w_spec_l1In (hG.mono lz1) hC3.old hx3) fun v7 w4 hv7 => ?_)
    obtain ⟨hv7, hb4⟩ := hv7
    have hl4 := Le.no M hb4
    have hC4 := hC3.no hb4
    obtain rfl := vbool_eq hv7
    refine lw_on Z Z Z Z Z Z (ow_pickT Z Z Z (lw_on Z Z Z Z Z Z (ow_move Z Z ?_)))
    replace h := cond_some h
    rcases h with ⟨hc4, h⟩ | ⟨hc4, h⟩
    ·
     subst hc4
     refine lw_off Z Z Z Z Z Z (lw_off Z Z Z Z Z Z (lw_off Z Z Z Z Z Z (lw_off Z Z Z Z Z Z (lw_off' Z Z Z Z Z Z (lw_off' Z Z Z Z Z Z (lw_off' Z Z Z Z Z Z (lw_off Z Z Z Z Z Z (lw_on Z Z Z Z Z Z (ow_pickT Z Z Z (lw_op Z Z Z (ow_pickT Z Z Z (lw_op Z Z Z (ow_assign Z Z (lw_nil (ew_then (cw_ret ?_))))))))))))))))
     obtain rfl := sj h
     exact ew_ret (res1 Z (.tmp Z)) ⟨_, Z, ((vbool _)), hC4.bx⟩
    ·
     subst hc4
     refine lw_on Z Z Z Z Z Z (ow_fieldAddr Z Z Tryd.underlying42 Z (Tryd.sizeOf3 _) ?_)
     have lz2 := ((hl2.trans hl3).trans hl4)
     refine lw_on Z Z Z Z Z Z (ow_load (R := RInt) Z Z (ARep.mono lz2 (hp1.fld fld_Rule_Action)) (Tryd.sizeOf3 _) (Tryd.isAgg3 _) fun v8 hv8 => ?_)
     obtain rfl := vint_eq hv8
     refine lw_on Z Z Z Z Z Z (ow_neqI Z Z Z fun bb2 hbb2 => lw_on Z Z Z Z Z Z (ow_move Z Z ?_))
     replace h := cond_some h
     rcases h with ⟨hc5, h⟩ | ⟨hc5, h⟩
     ·
      obtain rfl := hbb2.trans hc5
      refine lw_on Z Z Z Z Z Z (ow_fieldAddr Z Z Tryd.underlying42 Z (Tryd.sizeOf3 _) (lw_on Z Z Z Z Z Z (ow_load (R := RInt) Z Z (ARep.mono lz2 (hp1.fld fld_Rule_Chain)) (Tryd.sizeOf3 _) (Tryd.isAgg3 _) fun v9 hv9 => ?_)))
      obtain rfl := vint_eq hv9
      refine lw_on Z Z Z Z Z Z (ow_eqlI Z Z Z fun bb3 hbb3 => lw_on Z Z Z Z Z Z (ow_pickT Z Z Z (lw_on Z Z Z Z Z Z (ow_pickF Z Z Z (lw_op Z Z Z (ow_pickT Z Z Z (lw_op Z Z Z (ow_assign Z Z (lw_nil (ew_then (cw_ret ?_)))))))))))
      obtain rfl := sj h
      exact ew_ret (res1 Z (.tmp Z)) ⟨_, Z, ((vbool_of hbb3)), hC4.bx⟩
     ·
      obtain rfl := hbb2.trans hc5
      refine lw_off Z Z Z Z Z Z (lw_off Z Z Z Z Z Z (lw_off Z Z Z Z Z Z (lw_on Z Z Z Z Z Z (ow_pickF Z Z Z (lw_on Z Z Z Z Z Z (ow_pickF Z Z Z (lw_op Z Z Z (ow_pickT Z Z Z (lw_op Z Z Z (ow_assign Z Z (lw_nil (ew_then (cw_ret ?_)))))))))))))
      obtain rfl := sj h
      exact ew_ret (res1 Z (.tmp Z)) ⟨_, Z, ((vbool _)), hC4.bx⟩
   ·
    obtain rfl := hbb1.trans hc3
    refine lw_off Z Z Z Z Z Z (lw_off Z Z Z Z Z Z (lw_off Z Z Z Z Z Z (lw_on Z Z Z Z Z Z (ow_pickF Z Z Z (lw_on Z Z Z Z Z Z (ow_move Z Z (lw_on Z Z Z Z Z Z (ow_fieldAddr Z Z Tryd.underlying42 Z (Tryd.sizeOf3 _) (lw_on Z Z Z Z Z Z (ow_load (R := RInt) Z Z (ARep.mono (hl2.trans hl3) (hp1.fld fld_Rule_Action)) (Tryd.sizeOf3 _) (Tryd.isAgg3 _) fun v10 hv10 => ?_))))))))))
    obtain rfl := vint_eq hv10
    refine lw_on Z Z Z Z Z Z (ow_neqI Z Z Z fun bb4 hbb4 => lw_on Z Z Z Z Z Z (ow_move Z Z ?_))
    replace h := cond_some h
    rcases h with ⟨hc6, h⟩ | ⟨hc6, h⟩
    ·
     obtain rfl := hbb4.trans hc6
     refine lw_on Z Z Z Z Z Z (ow_fieldAddr Z Z Tryd.underlying42 Z (Tryd.sizeOf3 _) (lw_on Z Z Z Z Z Z (ow_load (R := RInt) Z Z (ARep.mono (hl2.trans hl3) (hp1.fld fld_Rule_Chain)) (Tryd.sizeOf3 _) (Tryd.isAgg3 _) fun v11 hv11 => ?_)))
     obtain rfl := vint_eq hv11
     refine lw_on Z Z Z Z Z Z (ow_eqlI Z Z Z fun bb5 hbb5 => lw_on Z Z Z Z Z Z (ow_pickT Z Z Z (lw_on Z Z Z Z Z Z (ow_pickF Z Z Z (lw_op Z Z Z (ow_pickT Z Z Z (lw_op Z Z Z (ow_assign Z Z (lw_nil (ew_then (cw_ret ?_)))))))))))
     obtain rfl := sj h
     exact ew_ret (res1 Z (.tmp Z)) ⟨_, Z, ((vbool_of hbb5)), hC3.bx⟩
    ·
     obtain rfl := hbb4.trans hc6
     refine lw_off Z Z Z Z Z Z (lw_off Z Z Z Z Z Z (lw_off Z Z Z Z Z Z (lw_on Z Z Z Z Z Z (ow_pickF Z Z Z (lw_on Z Z Z Z Z Z (ow_pickF Z Z Z (lw_op Z Z Z (ow_pickT Z Z Z (lw_op Z Z Z (ow_assign Z Z (lw_nil (ew_then (cw_ret ?_)))))))))))))
     obtain rfl := sj h
     exact ew_ret (res1 Z (.tmp Z)) ⟨_, Z, ((vbool _)), hC3.bx⟩
  ·
   subst hc2
   refine lw_off Z Z Z Z Z Z (lw_off Z Z Z Z Z Z (lw_off Z Z Z Z Z Z (lw_off Z Z Z Z Z Z (lw_off' Z Z Z Z Z Z (lw_off' Z Z Z Z Z Z (lw_off' Z Z Z Z Z Z (lw_off Z Z Z Z Z Z (lw_off Z Z Z Z Z Z (lw_off' Z Z Z Z Z Z (lw_off' Z Z Z Z Z Z (lw_off' Z Z Z Z Z Z (lw_off' Z Z Z Z Z Z (lw_off' Z Z Z Z Z Z (lw_off' Z Z Z Z Z Z (lw_off' Z Z Z Z Z Z (lw_off' Z Z Z Z Z Z (lw_off Z Z Z Z Z Z (lw_op Z Z Z (ow_pickF Z Z Z (lw_op Z Z Z (ow_assign Z Z (lw_nil (ew_then (cw_ret ?_))))))))))))))))))))))))
   obtain rfl := sj h
   exact ew_ret (res1 Z (.tmp Z)) ⟨_, Z, ((vbool _)), hC3.bx⟩
 ·
  subst hc1
  refine lw_off Z Z Z Z Z Z (lw_off Z Z Z Z Z Z (lw_off Z Z Z Z Z Z (lw_op Z Z Z (ow_pickF Z Z Z (lw_op Z Z Z (ow_move Z Z (lw_off Z Z Z Z Z Z (lw_off Z Z Z Z Z Z (lw_off Z Z Z Z Z Z (lw_off Z Z Z Z Z Z (lw_off' Z Z Z Z Z Z (lw_off' Z Z Z Z Z Z (lw_off' Z Z Z Z Z Z (lw_off Z Z Z Z Z Z (lw_off Z Z Z Z Z Z (lw_off' Z Z Z Z Z Z (lw_off' Z Z Z Z Z Z (lw_off' Z Z Z Z Z Z (lw_off' Z Z Z Z Z Z (lw_off' Z Z Z Z Z Z (lw_off' Z Z Z Z Z Z (lw_off' Z Z Z Z Z Z (lw_off' Z Z Z Z Z Z (lw_off Z Z Z Z Z Z (lw_op Z Z Z (ow_pickF Z Z Z (lw_op Z Z Z (ow_assign Z Z ?_))))))))))))))))))))))))))))
  refine lw_nil (ew_then (cw_ret ?_))
  obtain rfl := sj h
  exact ew_ret (res1 Z (.tmp Z)) ⟨_, Z, ((vbool _)), hC2.bx⟩

theorem w_spec_RulesValid {w : World} {M : Nat → Prop} (hG : ARep (RArr 4 RShape) w M shapes ⟨0, 0, none⟩) (hO : ∀ b, M b → b < w.heap.size) {v0p : Value} {a_list : List Rule} (h0 : VRep (RSlice RRule) w M a_list v0p) {r : Bool} (h : F.spec_RulesValid a_list = some r) :
  Calls Tryd.prog 69 [v0p].toArray w fun e w' => ∃ v, e = .returned v ∧ VRep RBool w' M r v ∧ BX No w w' := by
 have hC : Cx No w M w M := Cx.start hO (fun _ e => e.elim)
 refine walk (N := 19) Tryd.func69 Z Tryd.ntmps69 Z (cw_seq (cw_region (lw_op Z Z Z (ow_assign Z Z (lw_nil (ew_then (cw_seq (cw_seq (cw_region (lw_op Z Z Z (ow_assign Z Z (lw_nil (ew_then ?_)))))))))))))
 replace h := bind_some h
 obtain ⟨lr1, hlr1, h⟩ := h
 refine cw_for hlr1 (fun s a w' => ∃ (M' : Nat → Prop), Fits 19 [(0, v0p), (3, (Zv s))] a ∧ Le w M w' M' ∧ Cx No w M w' M') ?_ ?_ ?_
 · exact fun a ha => ⟨M, ha.sub ⟨Z, Z, Zt⟩, Le.refl _ _, hC⟩
 ·
  rintro k1 a w1 sr1 ⟨M1, hF1, hl1, hC1⟩ hb1 hR1
  refine cw_at (E := [(0, v0p), (3, (Zv k1))]) hF1 (cw_seq (cw_seq (cw_region (lw_op Z Z Z (ow_move Z Z (lw_op Z Z Z (ow_move Z Z (lw_op Z Z Z (ow_len Z Z (VRep.mono hl1 h0) Tryd.underlying36 Z (lw_op Z Z Z (ow_lss Z Z Z fun bb1 hbb1 => lw_nil (ew_then ?_))))))))))))
  replace hb1 := cond_some hb1
  rcases hb1 with ⟨hc1, hb1⟩ | ⟨hc1, hb1⟩
  ·
   obtain rfl := hbb1.trans hc1
   refine cw_true Z (cw_skip (ew_then (cw_seq (cw_block (cw_seq (cw_region (lw_op Z Z Z (ow_move Z Z (lw_op Z Z Z (ow_move Z Z ?_))))))))))
   replace hb1 := bind_some hb1
   obtain ⟨x1, hx1, hb1⟩ := hb1
   refine lw_op Z Z Z (ow_indexSlice (R := RRule) Z Z Z (VRep.mono hl1 h0) Tryd.underlying36 (Tryd.sizeOf42 _) hx1 fun p1 hp1 => lw_op Z Z Z (ow_load (R := RRule) Z Z hp1 (Tryd.sizeOf42 _) (Tryd.isAgg42 _) fun v2 hv2 => ?_))
   replace hb1 := bind_some hb1
   obtain ⟨x2, hx2, hb1⟩ := hb1
   refine lw_op Z Z Z (ow_call Z Z Tryd.call94 (w_spec_RuleValid (hG.mono hl1) hC1.old hv2 hx2) fun v3 w2 hv3 => ?_)
   obtain ⟨hv3, hb2⟩ := hv3
   have hl2 := Le.no M1 hb2
   have hC2 := hC1.no hb2
   obtain rfl := vbool_eq hv3
   refine lw_op Z Z Z (ow_not Z Z (lw_nil (ew_then ?_)))
   replace hb1 := cond_some hb1
   rcases hb1 with ⟨hc2, hb1⟩ | ⟨hc2, hb1⟩
   ·
    subst hc2
    exact cw_false Z (cw_skip (ew_blockN (ew_then (cw_region (lw_op Z Z Z (ow_move Z Z (lw_op Z Z Z (ow_add Z Z Z (lw_op Z Z Z (ow_assign Z Z (lw_nil (ew_nxt (W (k1 + 1)) hb1 fun a ha => ⟨M1, (ha.sub ⟨Z, Z, Zt⟩), (hl1.trans hl2), hC2⟩))))))))))))
   ·
    subst hc2
    refine cw_true Z (cw_seq (cw_region (lw_op Z Z Z (ow_assign Z Z (lw_nil (ew_then (cw_ret (ew_blockR (ew_thenR (ew_thenR (ew_blockR (ew_brkR (ew_thenR ?_)))))))))))))
    have e1 := hR1 _ (sj hb1).symm
    subst e1
    obtain rfl := sj h
    exact ew_ret (res1 Z (.tmp Z)) ⟨_, Z, ((vbool _)), hC2.bx⟩
  ·
   obtain rfl := hbb1.trans hc1
   exact cw_false Z (cw_exit (ew_thenX (ew_thenX (ew_blockX (ew_brk k1 hb1 fun a ha => ⟨M1, (ha.sub ⟨Z, Z, Zt⟩), hl1, hC1⟩)))))
 ·
  rintro k2 a w3 hlr2 ⟨M2, hF2, hl3, hC3⟩
  subst hlr2
  refine ew_at (E := [(0, v0p), (3, (Zv k2))]) hF2 (ew_then (cw_seq (cw_region (lw_op Z Z Z (ow_move Z Z (lw_op Z Z Z (ow_len Z Z (VRep.mono hl3 h0) Tryd.underlying36 Z (lw_op Z Z Z (ow_leq Z Z Z fun bb2 hbb2 => lw_op Z Z Z (ow_assign Z Z (lw_nil (ew_then (cw_ret ?_)))))))))))))
  obtain rfl := sj h
  exact ew_ret (res1 Z (.tmp Z)) ⟨_, Z, ((vbool_of hbb2)), hC3.bx⟩

theorem w_spec_l8Order {w : World} {M : Nat → Prop} (_hG : ARep (RArr 4 RShape) w M shapes ⟨0, 0, none⟩) (hO : ∀ b, M b → b < w.heap.size) {v0p : Value} {a_s : Ruleset} (h0 : VRep RRuleset w M a_s v0p) {r : (List Int)} (h : F.spec_l8Order a_s = some r) :
  Calls Tryd.prog 71 [v0p].toArray w fun e w' => ∃ v, e = .returned v ∧ VRep (RSlice RInt) w' M r v ∧ BX No w w' := by
 obtain ⟨i3, hi3, hz3, hs3, hy3⟩ := info3
 obtain ⟨i4, hi4, hz4, hs4, hy4⟩ := info4
 have hC : Cx No w M w M := Cx.start hO (fun _ e => e.elim)
 clear _hG
 refine walk (N := 74) Tryd.func71 Z Tryd.ntmps71 Z (cw_seq (cw_region (lw_op Z Z Z (ow_box (R := RRuleset) Z Z h0 hC fun p1 w1 hp1 hb1 hl1 hC1 => lw_op Z Z Z (ow_assign Z Z (lw_nil (ew_then (cw_seq (cw_region (lw_op Z Z Z (ow_fieldAddr Z Z Tryd.underlying45 Z (Tryd.sizeOf43 _) (lw_op Z Z Z (ow_load (R := (RSlice (RSlice RRule))) Z Z (hp1.fld fld_Ruleset_Chains) (Tryd.sizeOf43 _) (Tryd.isAgg43 _) fun v1 hv1 => lw_op Z Z Z (ow_len Z Z hv1 Tryd.underlying43 Z ?_))))))))))))))
 replace h := bind_some h
 obtain ⟨mk1, hmk1, h⟩ := h
 refine lw_op Z Z Z (ow_make (R := RBool) Z Z Z Tryd.underlying56 hi4 hz4 hs4 hy4 Z Z (vbool false) hmk1 hC1 fun v2 w2 M1 hr1 hb2 hl2 hC2 hM1 hat1 => lw_op Z Z Z (ow_assign Z Z (lw_nil (ew_then (cw_seq (cw_region (lw_op Z Z Z (ow_buildSlice0 (R := RInt) (e := 3) Z (by kernel_rfl) hC2 fun p2 w3 M2 hr2 hb3 hl3 hC3 hM2 hat2 => ?_))))))))
 have hr3 := hr1.go hb3 (fun _ _ e => e) hl3 hM2
 refine lw_op Z Z Z (ow_assign Z Z (lw_nil (ew_then (cw_seq (cw_seq (cw_region (lw_op Z Z Z (ow_assign Z Z (lw_nil (ew_then ?_))))))))))
 replace h := bind_some h
 obtain ⟨lr1, hlr1, h⟩ := h
 refine cw_for hlr1 (fun s a w' => ∃ (M' : Nat → Prop) (v0c : Value), Fits 74 [(1, (.pointer (some p1))), (3, v2), (4, v0c), (5, (Zv s.2.1))] a ∧ Le w3 M2 w' M' ∧ Cx No w M w' M' ∧ OwnRow RInt w.heap.size 3 w' M' s.1 v0c ∧ OwnRow RBool w.heap.size 4 w' M' s.2.2 v2) ?_ ?_ ?_
 · exact fun a ha => ⟨M2, (.slice (some p2) 0 0), ha.sub ⟨Z, Z, Z, Z, Zt⟩, Le.refl _ _, hC3, hr2, hr3⟩
 ·
  rintro ⟨y1, k1, y2⟩ a w4 sr1 ⟨M3, v3, hF1, hl4, hC4, hw1, hw2⟩ hb4 hR1
  refine cw_at (E := [(1, (.pointer (some p1))), (3, v2), (4, v3), (5, (Zv k1))]) hF1 (cw_seq (cw_seq (cw_region (lw_op Z Z Z (ow_move Z Z (lw_op Z Z Z (ow_fieldAddr Z Z Tryd.underlying45 Z (Tryd.sizeOf43 _) ?_)))))))
  have lz1 := ((hl2.trans hl3).trans hl4)
  refine lw_op Z Z Z (ow_load (R := (RSlice (RSlice RRule))) Z Z (ARep.mono lz1 (hp1.fld fld_Ruleset_Chains)) (Tryd.sizeOf43 _) (Tryd.isAgg43 _) fun v6 hv6 => lw_op Z Z Z (ow_len Z Z hv6 Tryd.underlying43 Z (lw_op Z Z Z (ow_lss Z Z Z fun bb1 hbb1 => lw_nil (ew_then ?_)))))
  replace hb4 := cond_some hb4
  rcases hb4 with ⟨hc1, hb4⟩ | ⟨hc1, hb4⟩
  ·
   obtain rfl := hbb1.trans hc1
   refine cw_true Z (cw_skip (ew_then (cw_seq (cw_block (cw_seq (cw_region (lw_op Z Z Z (ow_assign Z Z (lw_nil (ew_then ?_))))))))))
   replace hb4 := bind_some hb4
   obtain ⟨lr2, hlr2, hb4⟩ := hb4
   refine cw_for hlr2 (fun s a w' => ∃ (M' : Nat → Prop) (v0c : Value), Fits 74 [(1, (.pointer (some p1))), (3, v2), (4, v0c), (5, (Zv k1)), (6, (Zv s.2.1))] a ∧ Le w4 M3 w' M' ∧ Cx No w M w' M' ∧ OwnRow RInt w.heap.size 3 w' M' s.1 v0c ∧ OwnRow RBool w.heap.size 4 w' M' s.2.2 v2) ?_ ?_ ?_
   · exact fun a ha => ⟨M3, v3, ha.sub ⟨Z, Z, Z, Z, Z, Zt⟩, Le.refl _ _, hC4, hw1, hw2⟩
   ·
    rintro ⟨y3, k2, y4⟩ a w5 sr2 ⟨M4, v7, hF2, hl5, hC5, hw3, hw4⟩ hb5 hR2
    refine cw_at (E := [(1, (.pointer (some p1))), (3, v2), (4, v7), (5, (Zv k1)), (6, (Zv k2))]) hF2 (cw_seq (cw_seq (cw_region (lw_op Z Z Z (ow_move Z Z (lw_op Z Z Z (ow_fieldAddr Z Z Tryd.underlying45 Z (Tryd.sizeOf43 _) (lw_op Z Z Z (ow_load (R := (RSlice (RSlice RRule))) Z Z (ARep.mono (lz1.trans hl5) (hp1.fld fld_Ruleset_Chains)) (Tryd.sizeOf43 _) (Tryd.isAgg43 _) fun v10 hv10 => lw_op Z Z Z (ow_len Z Z hv10 Tryd.underlying43 Z (lw_op Z Z Z (ow_lss Z Z Z fun bb2 hbb2 => lw_nil (ew_then ?_)))))))))))))
    replace hb5 := cond_some hb5
    rcases hb5 with ⟨hc2, hb5⟩ | ⟨hc2, hb5⟩
    ·
     obtain rfl := hbb2.trans hc2
     refine cw_true Z (cw_skip (ew_then (cw_seq (cw_block (cw_seq (cw_region (lw_op Z Z Z (ow_move Z Z (lw_op Z Z Z (ow_move Z Z ?_))))))))))
     replace hb5 := bind_some hb5
     obtain ⟨x1, hx1, hb5⟩ := hb5
     refine lw_op Z Z Z (ow_indexRow (R := RBool) Z Z Z hw4 Tryd.underlying56 (Tryd.sizeOf4 _) hx1 (lw_op Z Z Z (ow_loadElRow (R := RBool) (S := RBool) Z Z Z hw4 (orow_blk hw4 hx1) hx1 (Fld.whole RBool) (Tryd.sizeOf4 _) (Tryd.isAgg4 _) fun v11 hv11 => ?_)))
     obtain rfl := vbool_eq hv11
     refine lw_op Z Z Z (ow_not Z Z (lw_op Z Z Z (ow_assign Z Z (lw_nil (ew_then (cw_seq (cw_seq (cw_region (lw_op Z Z Z (ow_assign Z Z (lw_nil (ew_then ?_))))))))))))
     replace hb5 := bind_some hb5
     obtain ⟨lr3, hlr3, hb5⟩ := hb5
     refine cw_for hlr3 (fun s a w' => ∃ (M' : Nat → Prop), Fits 74 [(1, (.pointer (some p1))), (3, v2), (4, v7), (5, (Zv k1)), (6, (Zv k2)), (7, (.bool s.1)), (8, (Zv s.2.1))] a ∧ Le w5 M4 w' M' ∧ Cx No w M w' M' ∧ OwnRow RBool w.heap.size 4 w' M' s.2.2.1 v2 ∧ OwnRow RInt w.heap.size 3 w' M' s.2.2.2 v7) ?_ ?_ ?_
     · exact fun a ha => ⟨M4, ha.sub ⟨Z, Z, Z, Z, Z, Z, Z, Zt⟩, Le.refl _ _, hC5, hw4, hw3⟩
     ·
      rintro ⟨y5, k3, y6, y7⟩ a w6 sr3 ⟨M5, hF3, hl6, hC6, hw5, hw6⟩ hb6 hR3
      refine cw_at (E := [(1, (.pointer (some p1))), (3, v2), (4, v7), (5, (Zv k1)), (6, (Zv k2)), (7, (.bool y5)), (8, (Zv k3))]) hF3 (cw_seq (cw_seq (cw_region (lw_op Z Z Z (ow_move Z Z (lw_op Z Z Z (ow_fieldAddr Z Z Tryd.underlying45 Z (Tryd.sizeOf43 _) ?_)))))))
      have lz2 := ((lz1.trans hl5).trans hl6)
      refine lw_op Z Z Z (ow_load (R := (RSlice (RSlice RRule))) Z Z (ARep.mono lz2 (hp1.fld fld_Ruleset_Chains)) (Tryd.sizeOf43 _) (Tryd.isAgg43 _) fun v16 hv16 => lw_op Z Z Z (ow_move Z Z ?_))
      replace hb6 := bind_some hb6
      obtain ⟨x2, hx2, hb6⟩ := hb6
      refine lw_op Z Z Z (ow_indexSlice (R := (RSlice RRule)) Z Z Z hv16 Tryd.underlying43 (Tryd.sizeOf36 _) hx2 fun p3 hp3 => lw_op Z Z Z (ow_load (R := (RSlice RRule)) Z Z hp3 (Tryd.sizeOf36 _) (Tryd.isAgg36 _) fun v17 hv17 => lw_op Z Z Z (ow_len Z Z hv17 Tryd.underlying36 Z (lw_op Z Z Z (ow_lss Z Z Z fun bb3 hbb3 => lw_nil (ew_then ?_))))))
      replace hb6 := cond_some hb6
      rcases hb6 with ⟨hc3, hb6⟩ | ⟨hc3, hb6⟩
      ·
       obtain rfl := hbb3.trans hc3
       refine cw_true Z (cw_skip (ew_then (cw_seq (cw_block (cw_seq (cw_region (lw_op Z Z Z (ow_fieldAddr Z Z Tryd.underlying45 Z (Tryd.sizeOf43 _) (lw_op Z Z Z (ow_load (R := (RSlice (RSlice RRule))) Z Z (ARep.mono lz2 (hp1.fld fld_Ruleset_Chains)) (Tryd.sizeOf43 _) (Tryd.isAgg43 _) fun v18 hv18 => lw_op Z Z Z (ow_move Z Z (lw_op Z Z Z (ow_indexSlice (R := (RSlice RRule)) Z Z Z hv18 Tryd.underlying43 (Tryd.sizeOf36 _) hx2 fun p4 hp4 => lw_op Z Z Z (ow_load (R := (RSlice RRule)) Z Z hp4 (Tryd.sizeOf36 _) (Tryd.isAgg36 _) fun v19 hv19 => lw_op Z Z Z (ow_move Z Z ?_)))))))))))))))
       replace hb6 := bind_some hb6
       obtain ⟨x3, hx3, hb6⟩ := hb6
       refine lw_op Z Z Z (ow_indexSlice (R := RRule) Z Z Z hv19 Tryd.underlying36 (Tryd.sizeOf42 _) hx3 fun p5 hp5 => lw_op Z Z Z (ow_load (R := RRule) Z Z hp5 (Tryd.sizeOf42 _) (Tryd.isAgg42 _) fun v20 hv20 => lw_allocStore (R := RRule) Z Z Z Z Z Z Z Tryd.zeroValue42 Tryd.sizeOf42 Z Z Z (by simp) hv20 hC6 fun p6 w7 hp6 hb7 hl7 hC7 => ?_))
       have hr4 := hw5.no hb7
       have hr5 := hw6.no hb7
       refine lw_nil (ew_then (cw_region (lw_op Z Z Z (ow_move Z Z (lw_op Z Z Z (ow_move Z Z ?_))))))
       replace hb6 := cond_some hb6
       rcases hb6 with ⟨hc4, hb6⟩ | ⟨hc4, hb6⟩
       ·
        subst hc4
        refine lw_on Z Z Z Z Z Z (ow_fieldAddr Z Z Tryd.underlying42 Z (Tryd.sizeOf3 _) (lw_on Z Z Z Z Z Z (ow_load (R := RInt) Z Z (hp6.fld fld_Rule_Action) (Tryd.sizeOf3 _) (Tryd.isAgg3 _) fun v21 hv21 => ?_)))
        obtain rfl := vint_eq hv21
        refine lw_on Z Z Z Z Z Z (ow_neqI Z Z Z fun bb4 hbb4 => lw_on Z Z Z Z Z Z (ow_move Z Z ?_))
        replace hb6 := cond_some hb6
        rcases hb6 with ⟨hc5, hb6⟩ | ⟨hc5, hb6⟩
        ·
         obtain rfl := hbb4.trans hc5
         exact lw_off Z Z Z Z Z Z (lw_off Z Z Z Z Z Z (lw_off Z Z Z Z Z Z (lw_off Z Z Z Z Z Z (lw_off Z Z Z Z Z Z (lw_on Z Z Z Z Z Z (ow_pickT Z Z Z (lw_op Z Z Z (ow_pickT Z Z Z (lw_op Z Z Z (ow_assign Z Z (lw_nil (ew_blockN (ew_then (cw_region (lw_op Z Z Z (ow_move Z Z (lw_op Z Z Z (ow_add Z Z Z (lw_op Z Z Z (ow_assign Z Z (lw_nil (ew_nxt (true, (W (k3 + 1)), y6, y7) hb6 fun a ha => ⟨M5, (ha.sub ⟨Z, Z, Z, Z, Z, Z, Z, Zt⟩), (hl6.trans hl7), hC7, hr4, hr5⟩))))))))))))))))))))))
        ·
         obtain rfl := hbb4.trans hc5
         refine lw_on Z Z Z Z Z Z (ow_move Z Z (lw_on Z Z Z Z Z Z (ow_fieldAddr Z Z Tryd.underlying42 Z (Tryd.sizeOf3 _) (lw_on Z Z Z Z Z Z (ow_load (R := RInt) Z Z (hp6.fld fld_Rule_Chain) (Tryd.sizeOf3 _) (Tryd.isAgg3 _) fun v22 hv22 => ?_)))))
         obtain rfl := vint_eq hv22
         replace hb6 := bind_some hb6
         obtain ⟨x4, hx4, hb6⟩ := hb6
         refine lw_on Z Z Z Z Z Z (ow_indexRow (R := RBool) Z Z Z hr4 Tryd.underlying56 (Tryd.sizeOf4 _) hx4 (lw_on Z Z Z Z Z Z (ow_loadElRow (R := RBool) (S := RBool) Z Z Z hr4 (orow_blk hr4 hx4) hx4 (Fld.whole RBool) (Tryd.sizeOf4 _) (Tryd.isAgg4 _) fun v23 hv23 => ?_)))
         obtain rfl := vbool_eq hv23
         exact lw_on Z Z Z Z Z Z (ow_pickF Z Z Z (lw_op Z Z Z (ow_pickT Z Z Z (lw_op Z Z Z (ow_assign Z Z (lw_nil (ew_blockN (ew_then (cw_region (lw_op Z Z Z (ow_move Z Z (lw_op Z Z Z (ow_add Z Z Z (lw_op Z Z Z (ow_assign Z Z (lw_nil (ew_nxt (x4, (W (k3 + 1)), y6, y7) hb6 fun a ha => ⟨M5, (ha.sub ⟨Z, Z, Z, Z, Z, Z, Z, Zt⟩), (hl6.trans hl7), hC7, hr4, hr5⟩)))))))))))))))))
       ·
        subst hc4
        exact lw_off Z Z Z Z Z Z (lw_off Z Z Z Z Z Z (lw_off Z Z Z Z Z Z (lw_off Z Z Z Z Z Z (lw_off' Z Z Z Z Z Z (lw_off' Z Z Z Z Z Z (lw_off' Z Z Z Z Z Z (lw_off' Z Z Z Z Z Z (lw_off' Z Z Z Z Z Z (lw_off Z Z Z Z Z Z (lw_op Z Z Z (ow_pickF Z Z Z (lw_op Z Z Z (ow_assign Z Z (lw_nil (ew_blockN (ew_then (cw_region (lw_op Z Z Z (ow_move Z Z (lw_op Z Z Z (ow_add Z Z Z (lw_op Z Z Z (ow_assign Z Z (lw_nil (ew_nxt (false, (W (k3 + 1)), y6, y7) hb6 fun a ha => ⟨M5, (ha.sub ⟨Z, Z, Z, Z, Z, Z, Z, Zt⟩), (hl6.trans hl7), hC7, hr4, hr5⟩)))))))))))))))))))))))))
      ·
       obtain rfl := hbb3.trans hc3
       exact cw_false Z (cw_exit (ew_thenX (ew_thenX (ew_blockX (ew_brk (y5, k3, y6, y7) hb6 fun a ha => ⟨M5, (ha.sub ⟨Z, Z, Z, Z, Z, Z, Z, Zt⟩), hl6, hC6, hw5, hw6⟩)))))
     ·
      rintro ⟨y8, k4, y9, y10⟩ a w8 hlr4 ⟨M6, hF4, hl8, hC8, hw7, hw8⟩
      subst hlr4
      refine ew_at (E := [(1, (.pointer (some p1))), (3, v2), (4, v7), (5, (Zv k1)), (6, (Zv k2)), (7, (.bool y8)), (8, (Zv k4))]) hF4 (ew_then (cw_seq (cw_region (lw_op Z Z Z (ow_move Z Z (lw_nil (ew_then ?_)))))))
      replace hb5 := cond_some hb5
      rcases hb5 with ⟨hc6, hb5⟩ | ⟨hc6, hb5⟩
      ·
       subst hc6
       refine cw_true Z (cw_seq (cw_region (lw_op Z Z Z (ow_move Z Z (lw_op Z Z Z (ow_move Z Z ?_))))))
       replace hb5 := bind_some hb5
       obtain ⟨x5, hx5, hb5⟩ := hb5
       refine lw_op Z Z Z (ow_indexRow (R := RBool) Z Z Z hw7 Tryd.underlying56 (Tryd.sizeOf4 _) hx5 (lw_op0 Z Z (ow_storeElRow (X := No) (R := RBool) (S := RBool) Z Z Z Z hw7 (orow_blk hw7 hx5) hx5 (FldSet.whole RBool) (Tryd.sizeOf4 _) (vbool _) (Nat.le_refl _) hC8 fun w9 ho1 hb8 hl9 hC9 => ?_)))
       have hr6 := hw8.go hb8 (fun k hk e => orow_row_ne hw8 hw7 (by decide) hk (by rw [orow_blk hw7 hx5]; exact congrArg some e.symm)) hl9 (fun _ h => h)
       refine lw_nil (ew_then (cw_region (lw_op Z Z Z (ow_move Z Z (lw_op Z Z Z (ow_move Z Z (lw_op Z Z Z (ow_buildSlice (R := RInt) (xs := [k2]) (cs := #[(Zv k2)]) (e := 3) Z Z (by kernel_rfl) Z Z ⟨_, _, Z, (vint _).cells, Z⟩ hC9 fun p7 w10 hw9 hb9 hl10 hC10 => ?_))))))))
       have hr7 := ho1.no hb9
       have hr8 := hr6.no hb9
       replace hb5 := bind_some hb5
       obtain ⟨z1, hz1, hb5⟩ := hb5
       refine lw_op Z Z Z (ow_append (R := RInt) Z Z Z Z Tryd.underlying52 hi3 hz3 hs3 hy3 Z Z Z Z hr8 hw9 hz1 hC10 fun v28 w11 M7 hr9 hb10 hl11 hC11 hM3 hat3 => ?_)
       have hr10 := hr7.goRow hr8 hb10 hl11 hM3 (by decide)
       refine lw_op Z Z Z (ow_assign Z Z (lw_nil (ew_blockN (ew_then (cw_region (lw_op Z Z Z (ow_move Z Z (lw_op Z Z Z (ow_add Z Z Z (lw_op Z Z Z (ow_assign Z Z (lw_nil ?_))))))))))))
       have lz3 := ((((hl5.trans hl8).trans hl9).trans hl10).trans hl11)
       exact ew_nxt (z1, (W (k2 + 1)), (List.set y9 (k2 : Int).toNat true)) hb5 fun a ha => ⟨M7, v28, (ha.sub ⟨Z, Z, Z, Z, Z, Zt⟩), lz3, hC11, hr9, hr10⟩
      ·
       subst hc6
       exact cw_false Z (cw_skip (ew_blockN (ew_then (cw_region (lw_op Z Z Z (ow_move Z Z (lw_op Z Z Z (ow_add Z Z Z (lw_op Z Z Z (ow_assign Z Z (lw_nil (ew_nxt (y10, (W (k2 + 1)), y9) hb5 fun a ha => ⟨M6, v7, (ha.sub ⟨Z, Z, Z, Z, Z, Zt⟩), (hl5.trans hl8), hC8, hw8, hw7⟩))))))))))))
    ·
     obtain rfl := hbb2.trans hc2
     exact cw_false Z (cw_exit (ew_thenX (ew_thenX (ew_blockX (ew_brk (y3, k2, y4) hb5 fun a ha => ⟨M4, v7, (ha.sub ⟨Z, Z, Z, Z, Z, Zt⟩), hl5, hC5, hw3, hw4⟩)))))
   ·
    rintro ⟨y11, k5, y12⟩ a w12 hlr5 ⟨M8, v29, hF5, hl12, hC12, hw10, hw11⟩
    subst hlr5
    exact ew_at (E := [(1, (.pointer (some p1))), (3, v2), (4, v29), (5, (Zv k1)), (6, (Zv k5))]) hF5 (ew_blockN (ew_then (cw_region (lw_op Z Z Z (ow_move Z Z (lw_op Z Z Z (ow_add Z Z Z (lw_op Z Z Z (ow_assign Z Z (lw_nil (ew_nxt (y11, (W (k1 + 1)), y12) hb4 fun a ha => ⟨M8, v29, (ha.sub ⟨Z, Z, Z, Z, Zt⟩), (hl4.trans hl12), hC12, hw10, hw11⟩)))))))))))
  ·
   obtain rfl := hbb1.trans hc1
   exact cw_false Z (cw_exit (ew_thenX (ew_thenX (ew_blockX (ew_brk (y1, k1, y2) hb4 fun a ha => ⟨M3, v3, (ha.sub ⟨Z, Z, Z, Z, Zt⟩), hl4, hC4, hw1, hw2⟩)))))
 ·
  rintro ⟨y13, k6, y14⟩ a w13 hlr6 ⟨M9, v32, hF6, hl13, hC13, hw12, hw13⟩
  subst hlr6
  refine ew_at (E := [(1, (.pointer (some p1))), (3, v2), (4, v32), (5, (Zv k6))]) hF6 (ew_then (cw_seq (cw_region (lw_op Z Z Z (ow_move Z Z (lw_op Z Z Z (ow_assign Z Z (lw_nil (ew_then (cw_ret ?_))))))))))
  obtain rfl := sj h
  exact ew_ret (res1 Z (.tmp Z)) ⟨_, Z, (hw12.freezeBack hC13 hO), hC13.bx⟩


end Go.PF
