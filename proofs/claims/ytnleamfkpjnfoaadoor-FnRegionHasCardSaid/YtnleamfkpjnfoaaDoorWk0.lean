/- The walks; no condition. -/
import Derived.Test.YtnleamfkpjnfoaaDoorProg
import Derived.Test.YtnleamfkpjnfoaaDoorFun
import Derived.Test.YtnleamfkpjnfoaaDoorPFNew
set_option maxRecDepth 100000
set_option maxHeartbeats 4000000
namespace Go.PF
open Go Go.RowKit Go.Proofs

theorem info27 : ∃ i, Tryd.prog.info? 27 = some i ∧ i.zero = some (.agg #[.slice none 0 0]) ∧ i.size = 1 ∧ i.bytes = 24 := info_parts (by kernel_rfl)
theorem info31 : ∃ i, Tryd.prog.info? 31 = some i ∧ i.zero = some (.agg #[.int .i64 0, .int .i64 0, .int .i64 0, .bool false]) ∧ i.size = 4 ∧ i.bytes = 32 := info_parts (by kernel_rfl)
theorem info58 : ∃ i, Tryd.prog.info? 58 = some i ∧ i.zero = some (.slice none 0 0) ∧ i.size = 1 ∧ i.bytes = 24 := info_parts (by kernel_rfl)
theorem info76 : ∃ i, Tryd.prog.info? 76 = some i ∧ i.zero = some (.agg #[.int .i64 0, .int .i64 0]) ∧ i.size = 2 ∧ i.bytes = 16 := info_parts (by kernel_rfl)
theorem w_impl_SpansHave {w : World} {M : Nat → Prop} (_hG : ARep (RArr 4 RShape) w M shapes ⟨0, 0, none⟩) (hO : ∀ b, M b → b < w.heap.size) {v0p : Value} {a_list : List Span} (h0 : VRep (RSlice RSpan) w M a_list v0p) {a_n : Int} {r : Bool} (h : F.impl_SpansHave a_list a_n = some r) :
  Calls Tryd.prog 40 [v0p, (.int .i64 a_n)].toArray w fun e w' => ∃ v, e = .returned v ∧ VRep RBool w' M r v ∧ BX No w w' := by
 have hC : Cx No w M w M := Cx.start hO (fun _ e => e.elim)
 clear _hG
 refine walk (N := 24) Tryd.func40 rfl Tryd.ntmps40 rfl ?_
 refine cw_seq (cw_region (lw_op rfl rfl rfl (ow_assign rfl rfl ?_)))
 refine lw_nil (ew_then (cw_seq (cw_seq (cw_region (lw_op rfl rfl rfl (ow_move rfl rfl ?_))))))
 refine lw_op rfl rfl rfl (ow_len rfl rfl h0 Tryd.underlying58 rfl ?_)
 refine lw_op rfl rfl rfl (ow_move rfl rfl ?_)
 refine lw_nil (ew_then ?_)
 replace h := bind_some h
 obtain ⟨lr1, hlr1, h⟩ := h
 refine cw_for hlr1 (fun s a w' => ∃ (M' : Nat → Prop), Fits 24 [(1, (.int .i64 a_n)), (7, v0p), (8, (.int .i64 (a_list.length : Int))), (9, (.int .i64 s))] a ∧ Le w M w' M' ∧ Cx No w M w' M') ?_ ?_ ?_
 ·
  intro a ha
  exact ⟨M, ha.sub ⟨rfl, rfl, rfl, rfl, trivial⟩, Le.refl _ _, hC⟩
 ·
  rintro k1 a w1 sr1 ⟨M1, hF1, hl1, hC1⟩ hb1 hR1
  refine cw_at (E := [(1, (.int .i64 a_n)), (7, v0p), (8, (.int .i64 (a_list.length : Int))), (9, (.int .i64 k1))]) hF1 ?_
  refine cw_seq (cw_region (lw_op rfl rfl rfl (ow_lss rfl rfl rfl fun bb1 hbb1 => ?_)))
  refine lw_nil (ew_then (cw_seq ?_))
  replace hb1 := cond_some hb1
  rcases hb1 with ⟨hc1, hb1⟩ | ⟨hc1, hb1⟩
  ·
   obtain rfl := hbb1.trans hc1
   refine cw_true rfl ?_
   refine cw_skip (ew_then (cw_seq (cw_block ?_)))
   refine cw_seq (cw_region ?_)
   replace hb1 := bind_some hb1
   obtain ⟨x1, hx1, hb1⟩ := hb1
   refine lw_op rfl rfl rfl (ow_indexSlice (R := RSpan) rfl rfl rfl (VRep.mono hl1 h0) Tryd.underlying58 (Tryd.sizeOf76 _) hx1 fun p1 hp1 => ?_)
   refine lw_op rfl rfl rfl (ow_load (R := RSpan) rfl rfl hp1 (Tryd.sizeOf76 _) (Tryd.isAgg76 _) fun v2 hv2 => ?_)
   refine lw_allocStore (R := RSpan) rfl rfl rfl rfl rfl rfl rfl Tryd.zeroValue76 Tryd.sizeOf76 rfl rfl rfl (by simp) hv2 hC1 fun p2 w2 hp2 hb2 hl2 hC2 => ?_
   refine lw_nil (ew_then (cw_seq (cw_region (lw_op rfl rfl rfl (ow_fieldAddr rfl rfl Tryd.underlying76 rfl (Tryd.sizeOf3 _) ?_)))))
   refine lw_op rfl rfl rfl (ow_load (R := RInt) rfl rfl (hp2.fld fld_Span_Lo) (Tryd.sizeOf3 _) (Tryd.isAgg3 _) fun v3 hv3 => ?_)
   obtain rfl := vint_eq hv3
   refine lw_op rfl rfl rfl (ow_move rfl rfl ?_)
   refine lw_op rfl rfl rfl (ow_leq rfl rfl rfl fun bb2 hbb2 => ?_)
   refine lw_op rfl rfl rfl (ow_move rfl rfl ?_)
   replace hb1 := cond_some hb1
   rcases hb1 with ⟨hc2, hb1⟩ | ⟨hc2, hb1⟩
   ·
    obtain rfl := hbb2.trans hc2
    refine lw_on rfl rfl rfl rfl rfl rfl (ow_move rfl rfl ?_)
    refine lw_on rfl rfl rfl rfl rfl rfl (ow_fieldAddr rfl rfl Tryd.underlying76 rfl (Tryd.sizeOf3 _) ?_)
    refine lw_on rfl rfl rfl rfl rfl rfl (ow_load (R := RInt) rfl rfl (hp2.fld fld_Span_Hi) (Tryd.sizeOf3 _) (Tryd.isAgg3 _) fun v4 hv4 => ?_)
    obtain rfl := vint_eq hv4
    refine lw_on rfl rfl rfl rfl rfl rfl (ow_leq rfl rfl rfl fun bb3 hbb3 => ?_)
    refine lw_op rfl rfl rfl (ow_pickT rfl rfl rfl ?_)
    refine lw_nil (ew_then ?_)
    replace hb1 := cond_some hb1
    rcases hb1 with ⟨hc3, hb1⟩ | ⟨hc3, hb1⟩
    ·
     obtain rfl := hbb3.trans hc3
     refine cw_true rfl ?_
     refine cw_seq (cw_region (lw_op rfl rfl rfl (ow_assign rfl rfl ?_)))
     refine lw_nil (ew_then (cw_ret (ew_blockR ?_)))
     refine ew_thenR (ew_thenR (ew_blockR ?_))
     refine ew_brkR ?_
     refine ew_thenR ?_
     have e1 := hR1 _ (Option.some.inj hb1).symm
     subst e1
     obtain rfl := Option.some.inj h
     exact ew_ret (res1 rfl (.tmp rfl)) ⟨_, rfl, ((vbool _)), hC2.bx⟩
    ·
     obtain rfl := hbb3.trans hc3
     refine cw_false rfl ?_
     refine cw_skip (ew_blockN ?_)
     refine ew_then (cw_region (lw_op rfl rfl rfl (ow_add rfl rfl rfl ?_)))
     refine lw_op rfl rfl rfl (ow_move rfl rfl ?_)
     refine lw_nil (ew_nxt (W (k1 + 1)) hb1 fun a ha => ⟨M1, ?_, (hl1.trans hl2), hC2⟩)
     exact ha.sub ⟨rfl, rfl, rfl, rfl, trivial⟩
   ·
    obtain rfl := hbb2.trans hc2
    refine lw_off rfl rfl rfl rfl rfl rfl ?_
    refine lw_off rfl rfl rfl rfl rfl rfl ?_
    refine lw_off rfl rfl rfl rfl rfl rfl ?_
    refine lw_off rfl rfl rfl rfl rfl rfl ?_
    refine lw_op rfl rfl rfl (ow_pickF rfl rfl rfl ?_)
    refine lw_nil (ew_then (cw_false rfl ?_))
    refine cw_skip (ew_blockN ?_)
    refine ew_then (cw_region (lw_op rfl rfl rfl (ow_add rfl rfl rfl ?_)))
    refine lw_op rfl rfl rfl (ow_move rfl rfl ?_)
    refine lw_nil (ew_nxt (W (k1 + 1)) hb1 fun a ha => ⟨M1, ?_, (hl1.trans hl2), hC2⟩)
    exact ha.sub ⟨rfl, rfl, rfl, rfl, trivial⟩
  ·
   obtain rfl := hbb1.trans hc1
   refine cw_false rfl ?_
   refine cw_exit ?_
   refine ew_thenX ?_
   refine ew_thenX ?_
   refine ew_blockX ?_
   refine ew_brk k1 hb1 fun a ha => ⟨M1, ?_, hl1, hC1⟩
   exact ha.sub ⟨rfl, rfl, rfl, rfl, trivial⟩
 ·
  rintro k2 a w3 hlr2 ⟨M2, hF2, hl3, hC3⟩
  subst hlr2
  refine ew_at (E := [(1, (.int .i64 a_n)), (7, v0p), (8, (.int .i64 (a_list.length : Int))), (9, (.int .i64 k2))]) hF2 ?_
  refine ew_then (cw_seq (cw_region (lw_op rfl rfl rfl (ow_assign rfl rfl ?_))))
  refine lw_nil (ew_then (cw_ret ?_))
  obtain rfl := Option.some.inj h
  exact ew_ret (res1 rfl (.tmp rfl)) ⟨_, rfl, ((vbool _)), hC3.bx⟩

theorem w_laws_alive {w : World} {M : Nat → Prop} (hG : ARep (RArr 4 RShape) w M shapes ⟨0, 0, none⟩) (hO : ∀ b, M b → b < w.heap.size)  {r : Bool} (h : F.laws_alive = some r) :
  Calls Tryd.prog 19 [].toArray w fun e w' => ∃ v, e = .returned v ∧ VRep RBool w' M r v ∧ BX No w w' := by
 have hC : Cx No w M w M := Cx.start hO (fun _ e => e.elim)
 refine walk (N := 4) Tryd.func19 rfl Tryd.ntmps19 rfl ?_
 refine cw_seq (cw_region (lw_op rfl rfl rfl (ow_assign rfl rfl ?_)))
 refine lw_nil (ew_then (cw_seq (cw_region (lw_op rfl rfl rfl (ow_build (v := .agg #[(.int .i64 2), (.int .i64 4)]) rfl rfl (by kernel_rfl) ?_)))))
 have hw1 : VRep RSpan w M ({ Lo := 2, Hi := 4 } : Span) (.agg #[(.int .i64 2), (.int .i64 4)]) := shut_Span
 refine lw_op rfl rfl rfl (ow_buildSlice (R := RSpan) (xs := [({ Lo := 2, Hi := 4 } : Span)]) (cs := #[(.int .i64 2), (.int .i64 4)]) (e := 76) rfl rfl (by kernel_rfl) rfl rfl ⟨_, _, rfl, hw1.cells, rfl⟩ hC fun p1 w1 hw2 hb1 hl1 hC1 => ?_)
 replace h := bind_some h
 obtain ⟨x1, hx1, h⟩ := h
 refine lw_op rfl rfl rfl (ow_call rfl rfl Tryd.call40 (w_impl_SpansHave (hG.mono hl1) hC1.old hw2 hx1) fun v1 w2 hv1 => ?_)
 obtain ⟨hv1, hb2⟩ := hv1
 have hl2 := Le.no M hb2
 have hC2 := hC1.no hb2
 obtain rfl := vbool_eq hv1
 refine lw_op rfl rfl rfl (ow_assign rfl rfl ?_)
 refine lw_nil (ew_then (cw_ret ?_))
 obtain rfl := Option.some.inj h
 exact ew_ret (res1 rfl (.tmp rfl)) ⟨_, rfl, ((vbool _)), hC2.bx⟩

theorem w_spec_l1In {w : World} {M : Nat → Prop} (_hG : ARep (RArr 4 RShape) w M shapes ⟨0, 0, none⟩) (hO : ∀ b, M b → b < w.heap.size) {a_n : Int} {a_lo : Int} {a_hi : Int} {r : Bool} (h : F.spec_l1In a_n a_lo a_hi = some r) :
  Calls Tryd.prog 82 [(.int .i64 a_n), (.int .i64 a_lo), (.int .i64 a_hi)].toArray w fun e w' => ∃ v, e = .returned v ∧ VRep RBool w' M r v ∧ BX No w w' := by
 have hC : Cx No w M w M := Cx.start hO (fun _ e => e.elim)
 clear _hG
 refine walk (N := 15) Tryd.func82 rfl Tryd.ntmps82 rfl ?_
 refine cw_seq (cw_region (lw_op rfl rfl rfl (ow_assign rfl rfl ?_)))
 refine lw_nil (ew_then (cw_seq (cw_region (lw_op rfl rfl rfl (ow_move rfl rfl ?_)))))
 refine lw_op rfl rfl rfl (ow_move rfl rfl ?_)
 refine lw_op rfl rfl rfl (ow_geq rfl rfl rfl fun bb1 hbb1 => ?_)
 refine lw_op rfl rfl rfl (ow_move rfl rfl ?_)
 replace h := cond_some h
 rcases h with ⟨hc1, h⟩ | ⟨hc1, h⟩
 ·
  obtain rfl := hbb1.trans hc1
  refine lw_on rfl rfl rfl rfl rfl rfl (ow_move rfl rfl ?_)
  refine lw_on rfl rfl rfl rfl rfl rfl (ow_move rfl rfl ?_)
  refine lw_on rfl rfl rfl rfl rfl rfl (ow_leq rfl rfl rfl fun bb2 hbb2 => ?_)
  refine lw_op rfl rfl rfl (ow_pickT rfl rfl rfl ?_)
  refine lw_op rfl rfl rfl (ow_assign rfl rfl ?_)
  refine lw_nil (ew_then (cw_ret ?_))
  obtain rfl := Option.some.inj h
  exact ew_ret (res1 rfl (.tmp rfl)) ⟨_, rfl, ((vbool_of hbb2)), hC.bx⟩
 ·
  obtain rfl := hbb1.trans hc1
  refine lw_off rfl rfl rfl rfl rfl rfl ?_
  refine lw_off rfl rfl rfl rfl rfl rfl ?_
  refine lw_off rfl rfl rfl rfl rfl rfl ?_
  refine lw_op rfl rfl rfl (ow_pickF rfl rfl rfl ?_)
  refine lw_op rfl rfl rfl (ow_assign rfl rfl ?_)
  refine lw_nil (ew_then (cw_ret ?_))
  obtain rfl := Option.some.inj h
  exact ew_ret (res1 rfl (.tmp rfl)) ⟨_, rfl, ((vbool _)), hC.bx⟩

theorem w_spec_SpansValid {w : World} {M : Nat → Prop} (hG : ARep (RArr 4 RShape) w M shapes ⟨0, 0, none⟩) (hO : ∀ b, M b → b < w.heap.size) {v0p : Value} {a_list : List Span} (h0 : VRep (RSlice RSpan) w M a_list v0p) {a_top : Int} {r : Bool} (h : F.spec_SpansValid a_list a_top = some r) :
  Calls Tryd.prog 80 [v0p, (.int .i64 a_top)].toArray w fun e w' => ∃ v, e = .returned v ∧ VRep RBool w' M r v ∧ BX No w w' := by
 have hC : Cx No w M w M := Cx.start hO (fun _ e => e.elim)
 refine walk (N := 60) Tryd.func80 rfl Tryd.ntmps80 rfl ?_
 refine cw_seq (cw_region (lw_op rfl rfl rfl (ow_assign rfl rfl ?_)))
 refine lw_nil (ew_then (cw_seq (cw_seq (cw_region (lw_op rfl rfl rfl (ow_assign rfl rfl ?_))))))
 refine lw_nil (ew_then ?_)
 replace h := bind_some h
 obtain ⟨lr1, hlr1, h⟩ := h
 refine cw_for hlr1 (fun s a w' => ∃ (M' : Nat → Prop), Fits 60 [(0, v0p), (1, (.int .i64 a_top)), (5, (.int .i64 s))] a ∧ Le w M w' M' ∧ Cx No w M w' M') ?_ ?_ ?_
 ·
  intro a ha
  exact ⟨M, ha.sub ⟨rfl, rfl, rfl, trivial⟩, Le.refl _ _, hC⟩
 ·
  rintro k1 a w1 sr1 ⟨M1, hF1, hl1, hC1⟩ hb1 hR1
  refine cw_at (E := [(0, v0p), (1, (.int .i64 a_top)), (5, (.int .i64 k1))]) hF1 ?_
  refine cw_seq (cw_seq (cw_region (lw_op rfl rfl rfl (ow_move rfl rfl ?_))))
  refine lw_op rfl rfl rfl (ow_move rfl rfl ?_)
  refine lw_op rfl rfl rfl (ow_len rfl rfl (VRep.mono hl1 h0) Tryd.underlying58 rfl ?_)
  refine lw_op rfl rfl rfl (ow_lss rfl rfl rfl fun bb1 hbb1 => ?_)
  refine lw_nil (ew_then ?_)
  replace hb1 := cond_some hb1
  rcases hb1 with ⟨hc1, hb1⟩ | ⟨hc1, hb1⟩
  ·
   obtain rfl := hbb1.trans hc1
   refine cw_true rfl ?_
   refine cw_skip (ew_then (cw_seq (cw_block ?_)))
   refine cw_seq ?_
   replace hb1 := bind_some hb1
   obtain ⟨x1, hx1, hb1⟩ := hb1
   replace hb1 := bind_some hb1
   obtain ⟨x2, hx2, hb1⟩ := hb1
   replace hb1 := cond_some hb1
   rcases hb1 with ⟨hc2, hb1⟩ | ⟨hc2, hb1⟩
   ·
    subst hc2
    replace hb1 := bind_some hb1
    obtain ⟨x3, hx3, hb1⟩ := hb1
    replace hb1 := cond_some hb1
    rcases hb1 with ⟨hc3, hb1⟩ | ⟨hc3, hb1⟩
    ·
     subst hc3
     replace hb1 := cond_some hb1
     rcases hb1 with ⟨hc4, hb1⟩ | ⟨hc4, hb1⟩
     ·
      replace hb1 := bind_some hb1
      obtain ⟨x4, hx4, hb1⟩ := hb1
      refine cw_sub (E' := [(0, v0p), (1, (.int .i64 a_top)), (5, (.int .i64 k1))]) ⟨rfl, rfl, rfl, trivial⟩ ?_
      refine cw_drawQ 38 [PV (RSlice RSpan) M1 a_list, PEq (.int .i64 k1), PA RSpan M1 x1, PA RInt M1 x1.Lo, PEq (.int .i64 x1.Lo), PV (RSlice RSpan) M1 a_list, PEq (.int .i64 k1), PA RSpan M1 x1, PA RInt M1 x1.Hi, PEq (.int .i64 x1.Hi), PEq (.bool true), PEq (.bool false), PEq (.bool false), PV (RSlice RSpan) M1 a_list, PEq (.int .i64 k1), PA RSpan M1 x1, PA RInt M1 x1.Hi, PEq (.int .i64 x1.Hi), PEq (.int .i64 a_top), PEq (.bool true), PEq (.bool false), PEq (.bool false), PEq (.bool false), PEq (.int .i64 k1), PEq (.bool true), PEq (.bool true), PV (RSlice RSpan) M1 a_list, PEq (.int .i64 k1), PA RSpan M1 x1, PA RInt M1 x1.Lo, PEq (.int .i64 x1.Lo), PV (RSlice RSpan) M1 a_list, PEq (.int .i64 k1), PEq (.int .i64 (W (k1 - 1))), PA RSpan M1 x4, PA RInt M1 x4.Hi, PEq (.int .i64 x4.Hi), PEq (.int .i64 (W (x4.Hi + 2)))] (by kernel_rfl) rfl (by kernel_rfl) ⟨PV.mono _ _ _, PEq.mono _, PA.mono _ _ _, PA.mono _ _ _, PEq.mono _, PV.mono _ _ _, PEq.mono _, PA.mono _ _ _, PA.mono _ _ _, PEq.mono _, PEq.mono _, PEq.mono _, PEq.mono _, PV.mono _ _ _, PEq.mono _, PA.mono _ _ _, PA.mono _ _ _, PEq.mono _, PEq.mono _, PEq.mono _, PEq.mono _, PEq.mono _, PEq.mono _, PEq.mono _, PEq.mono _, PEq.mono _, PV.mono _ _ _, PEq.mono _, PA.mono _ _ _, PA.mono _ _ _, PEq.mono _, PV.mono _ _ _, PEq.mono _, PEq.mono _, PA.mono _ _ _, PA.mono _ _ _, PEq.mono _, PEq.mono _, trivial⟩ ⟨?_, ?_, ?_, ?_, ?_, ?_, ?_, ?_, ?_, ?_, ?_, ?_, ?_, ?_, ?_, ?_, ?_, ?_, ?_, ?_, ?_, ?_, ?_, ?_, ?_, ?_, ?_, ?_, ?_, ?_, ?_, ?_, ?_, ?_, ?_, ?_, ?_, ?_, trivial⟩ ?_
      ·
       intro w4 D hS1 hd1
       have hl4 := Le.no M1 hS1
       have hC4 := hC1.no hS1
       refine dg_sub (E' := [(0, v0p)]) ⟨rfl, trivial⟩ ?_
       refine dg_plain rfl (ow_move rfl rfl ?_)
       exact ⟨BX.refl _ _, (VRep.mono (hl1.trans hl4) h0)⟩
      ·
       intro w5 D hS2 hd2
       have hl5 := Le.no M1 hS2
       have hC5 := hC1.no hS2
       refine dg_sub (E' := [(5, (.int .i64 k1))]) ⟨rfl, trivial⟩ ?_
       refine dg_plain rfl (ow_move rfl rfl ?_)
       exact ⟨BX.refl _ _, rfl⟩
      ·
       intro w6 D hS3 hd3
       have hl6 := Le.no M1 hS3
       have hC6 := hC1.no hS3
       have hd3 : PV (RSlice RSpan) M1 a_list (D 0) w6 ∧ PEq (.int .i64 k1) (D 1) w6 ∧ True := hd3
       obtain ⟨d1, d2, -⟩ := hd3
       obtain ⟨v9, hq1⟩ : ∃ v, (D 0) = v := ⟨_, rfl⟩
       rw [hq1] at d1
       refine dg_sub (E' := [(12, v9), (13, (.int .i64 k1))]) ⟨(congrArg some hq1), (congrArg some d2), trivial⟩ ?_
       refine dg_plain rfl (ow_indexSlice (R := RSpan) rfl rfl rfl d1 Tryd.underlying58 (Tryd.sizeOf76 _) hx1 fun p6 hp6 => ?_)
       exact ⟨BX.refl _ _, ⟨_, rfl, hp6⟩⟩
      ·
       intro w7 D hS4 hd4
       have hl7 := Le.no M1 hS4
       have hC7 := hC1.no hS4
       have hd4 : PA RSpan M1 x1 (D 2) w7 ∧ True := hd4
       obtain ⟨d3, -⟩ := hd4
       obtain ⟨p7, e1, ha1⟩ := d3
       refine dg_sub (E' := [(14, (.pointer (some p7)))]) ⟨(congrArg some e1), trivial⟩ ?_
       refine dg_plain rfl (ow_fieldAddr rfl rfl Tryd.underlying76 rfl (Tryd.sizeOf3 _) ?_)
       exact ⟨BX.refl _ _, ⟨_, rfl, (ha1.fld fld_Span_Lo)⟩⟩
      ·
       intro w8 D hS5 hd5
       have hl8 := Le.no M1 hS5
       have hC8 := hC1.no hS5
       have hd5 : PA RInt M1 x1.Lo (D 3) w8 ∧ True := hd5
       obtain ⟨d4, -⟩ := hd5
       obtain ⟨p8, e2, ha2⟩ := d4
       refine dg_sub (E' := [(15, (.pointer (some p8)))]) ⟨(congrArg some e2), trivial⟩ ?_
       refine dg_plain rfl (ow_load (R := RInt) rfl rfl ha2 (Tryd.sizeOf3 _) (Tryd.isAgg3 _) fun v10 hv10 => ?_)
       obtain rfl := vint_eq hv10
       exact ⟨BX.refl _ _, rfl⟩
      ·
       intro w9 D hS6 hd6
       have hl9 := Le.no M1 hS6
       have hC9 := hC1.no hS6
       refine dg_sub (E' := [(0, v0p)]) ⟨rfl, trivial⟩ ?_
       refine dg_plain rfl (ow_move rfl rfl ?_)
       exact ⟨BX.refl _ _, (VRep.mono (hl1.trans hl9) h0)⟩
      ·
       intro w10 D hS7 hd7
       have hl10 := Le.no M1 hS7
       have hC10 := hC1.no hS7
       refine dg_sub (E' := [(5, (.int .i64 k1))]) ⟨rfl, trivial⟩ ?_
       refine dg_plain rfl (ow_move rfl rfl ?_)
       exact ⟨BX.refl _ _, rfl⟩
      ·
       intro w11 D hS8 hd8
       have hl11 := Le.no M1 hS8
       have hC11 := hC1.no hS8
       have hd8 : PV (RSlice RSpan) M1 a_list (D 5) w11 ∧ PEq (.int .i64 k1) (D 6) w11 ∧ True := hd8
       obtain ⟨d5, d6, -⟩ := hd8
       obtain ⟨v11, hq2⟩ : ∃ v, (D 5) = v := ⟨_, rfl⟩
       rw [hq2] at d5
       refine dg_sub (E' := [(17, v11), (18, (.int .i64 k1))]) ⟨(congrArg some hq2), (congrArg some d6), trivial⟩ ?_
       refine dg_plain rfl (ow_indexSlice (R := RSpan) rfl rfl rfl d5 Tryd.underlying58 (Tryd.sizeOf76 _) hx1 fun p9 hp9 => ?_)
       exact ⟨BX.refl _ _, ⟨_, rfl, hp9⟩⟩
      ·
       intro w12 D hS9 hd9
       have hl12 := Le.no M1 hS9
       have hC12 := hC1.no hS9
       have hd9 : PA RSpan M1 x1 (D 7) w12 ∧ True := hd9
       obtain ⟨d7, -⟩ := hd9
       obtain ⟨p10, e3, ha3⟩ := d7
       refine dg_sub (E' := [(19, (.pointer (some p10)))]) ⟨(congrArg some e3), trivial⟩ ?_
       refine dg_plain rfl (ow_fieldAddr rfl rfl Tryd.underlying76 rfl (Tryd.sizeOf3 _) ?_)
       exact ⟨BX.refl _ _, ⟨_, rfl, (ha3.fld fld_Span_Hi)⟩⟩
      ·
       intro w13 D hS10 hd10
       have hl13 := Le.no M1 hS10
       have hC13 := hC1.no hS10
       have hd10 : PA RInt M1 x1.Hi (D 8) w13 ∧ True := hd10
       obtain ⟨d8, -⟩ := hd10
       obtain ⟨p11, e4, ha4⟩ := d8
       refine dg_sub (E' := [(20, (.pointer (some p11)))]) ⟨(congrArg some e4), trivial⟩ ?_
       refine dg_plain rfl (ow_load (R := RInt) rfl rfl ha4 (Tryd.sizeOf3 _) (Tryd.isAgg3 _) fun v12 hv12 => ?_)
       obtain rfl := vint_eq hv12
       exact ⟨BX.refl _ _, rfl⟩
      ·
       intro w14 D hS11 hd11
       have hl14 := Le.no M1 hS11
       have hC14 := hC1.no hS11
       have hd11 : PEq (.int .i64 x1.Lo) (D 4) w14 ∧ PEq (.int .i64 x1.Hi) (D 9) w14 ∧ True := hd11
       obtain ⟨d9, d10, -⟩ := hd11
       refine dg_sub (E' := [(16, (.int .i64 x1.Lo)), (21, (.int .i64 x1.Hi))]) ⟨(congrArg some d9), (congrArg some d10), trivial⟩ ?_
       refine dg_plain rfl (ow_call rfl rfl Tryd.call82 (w_spec_l1In (hG.mono (hl1.trans hl14)) hC14.old hx2) fun v13 w15 hv13 => ?_)
       obtain ⟨hv13, hb4⟩ := hv13
       have hl15 := Le.no M1 hb4
       have hC15 := hC14.no hb4
       obtain rfl := vbool_eq hv13
       exact ⟨hb4, rfl⟩
      ·
       intro w16 D hS12 hd12
       have hl16 := Le.no M1 hS12
       have hC16 := hC1.no hS12
       have hd12 : PEq (.bool true) (D 10) w16 ∧ True := hd12
       obtain ⟨d11, -⟩ := hd12
       refine dg_sub (E' := [(22, (.bool true))]) ⟨(congrArg some d11), trivial⟩ ?_
       refine dg_plain rfl (ow_not rfl rfl ?_)
       exact ⟨BX.refl _ _, rfl⟩
      ·
       intro w17 D hS13 hd13
       have hl17 := Le.no M1 hS13
       have hC17 := hC1.no hS13
       have hd13 : PEq (.bool false) (D 11) w17 ∧ PEq (.bool true) (D 10) w17 ∧ True := hd13
       obtain ⟨d12, d13, -⟩ := hd13
       refine dg_sub (E' := [(23, (.bool false))]) ⟨(congrArg some d12), trivial⟩ ?_
       refine dg_plain rfl (ow_move rfl rfl ?_)
       exact ⟨BX.refl _ _, rfl⟩
      ·
       intro w18 D hS14 hd14
       have hl18 := Le.no M1 hS14
       have hC18 := hC1.no hS14
       have hd14 : PEq (.bool false) (D 12) w18 ∧ True := hd14
       obtain ⟨d14, -⟩ := hd14
       refine dg_sub (E' := [(24, (.bool false)), (0, v0p)]) ⟨(congrArg some d14), rfl, trivial⟩ ?_
       refine dg_on rfl rfl rfl rfl (ow_move rfl rfl ?_)
       exact ⟨BX.refl _ _, (VRep.mono (hl1.trans hl18) h0)⟩
      ·
       intro w19 D hS15 hd15
       have hl19 := Le.no M1 hS15
       have hC19 := hC1.no hS15
       have hd15 : PEq (.bool false) (D 12) w19 ∧ True := hd15
       obtain ⟨d15, -⟩ := hd15
       refine dg_sub (E' := [(24, (.bool false)), (5, (.int .i64 k1))]) ⟨(congrArg some d15), rfl, trivial⟩ ?_
       refine dg_on rfl rfl rfl rfl (ow_move rfl rfl ?_)
       exact ⟨BX.refl _ _, rfl⟩
      ·
       intro w20 D hS16 hd16
       have hl20 := Le.no M1 hS16
       have hC20 := hC1.no hS16
       have hd16 : PV (RSlice RSpan) M1 a_list (D 13) w20 ∧ PEq (.int .i64 k1) (D 14) w20 ∧ PEq (.bool false) (D 12) w20 ∧ True := hd16
       obtain ⟨d16, d17, d18, -⟩ := hd16
       obtain ⟨v14, hq3⟩ : ∃ v, (D 13) = v := ⟨_, rfl⟩
       rw [hq3] at d16
       refine dg_sub (E' := [(25, v14), (26, (.int .i64 k1)), (24, (.bool false))]) ⟨(congrArg some hq3), (congrArg some d17), (congrArg some d18), trivial⟩ ?_
       refine dg_on rfl rfl rfl rfl (ow_indexSlice (R := RSpan) rfl rfl rfl d16 Tryd.underlying58 (Tryd.sizeOf76 _) hx1 fun p12 hp12 => ?_)
       exact ⟨BX.refl _ _, ⟨_, rfl, hp12⟩⟩
      ·
       intro w21 D hS17 hd17
       have hl21 := Le.no M1 hS17
       have hC21 := hC1.no hS17
       have hd17 : PA RSpan M1 x1 (D 15) w21 ∧ PEq (.bool false) (D 12) w21 ∧ True := hd17
       obtain ⟨d19, d20, -⟩ := hd17
       obtain ⟨p13, e5, ha5⟩ := d19
       refine dg_sub (E' := [(27, (.pointer (some p13))), (24, (.bool false))]) ⟨(congrArg some e5), (congrArg some d20), trivial⟩ ?_
       refine dg_on rfl rfl rfl rfl (ow_fieldAddr rfl rfl Tryd.underlying76 rfl (Tryd.sizeOf3 _) ?_)
       exact ⟨BX.refl _ _, ⟨_, rfl, (ha5.fld fld_Span_Hi)⟩⟩
      ·
       intro w22 D hS18 hd18
       have hl22 := Le.no M1 hS18
       have hC22 := hC1.no hS18
       have hd18 : PA RInt M1 x1.Hi (D 16) w22 ∧ PEq (.bool false) (D 12) w22 ∧ True := hd18
       obtain ⟨d21, d22, -⟩ := hd18
       obtain ⟨p14, e6, ha6⟩ := d21
       refine dg_sub (E' := [(28, (.pointer (some p14))), (24, (.bool false))]) ⟨(congrArg some e6), (congrArg some d22), trivial⟩ ?_
       refine dg_on rfl rfl rfl rfl (ow_load (R := RInt) rfl rfl ha6 (Tryd.sizeOf3 _) (Tryd.isAgg3 _) fun v15 hv15 => ?_)
       obtain rfl := vint_eq hv15
       exact ⟨BX.refl _ _, rfl⟩
      ·
       intro w23 D hS19 hd19
       have hl23 := Le.no M1 hS19
       have hC23 := hC1.no hS19
       have hd19 : PEq (.bool false) (D 12) w23 ∧ True := hd19
       obtain ⟨d23, -⟩ := hd19
       refine dg_sub (E' := [(24, (.bool false)), (1, (.int .i64 a_top))]) ⟨(congrArg some d23), rfl, trivial⟩ ?_
       refine dg_on rfl rfl rfl rfl (ow_move rfl rfl ?_)
       exact ⟨BX.refl _ _, rfl⟩
      ·
       intro w24 D hS20 hd20
       have hl24 := Le.no M1 hS20
       have hC24 := hC1.no hS20
       have hd20 : PEq (.int .i64 x1.Hi) (D 17) w24 ∧ PEq (.int .i64 a_top) (D 18) w24 ∧ PEq (.bool false) (D 12) w24 ∧ PEq (.bool false) (D 12) w24 ∧ True := hd20
       obtain ⟨d24, d25, d26, d27, -⟩ := hd20
       refine dg_sub (E' := [(29, (.int .i64 x1.Hi)), (30, (.int .i64 a_top)), (24, (.bool false))]) ⟨(congrArg some d24), (congrArg some d25), (congrArg some d26), trivial⟩ ?_
       refine dg_on rfl rfl rfl rfl (ow_call rfl rfl Tryd.call82 (w_spec_l1In (hG.mono (hl1.trans hl24)) hC24.old hx3) fun v16 w25 hv16 => ?_)
       obtain ⟨hv16, hb5⟩ := hv16
       have hl25 := Le.no M1 hb5
       have hC25 := hC24.no hb5
       obtain rfl := vbool_eq hv16
       exact ⟨hb5, rfl⟩
      ·
       intro w26 D hS21 hd21
       have hl26 := Le.no M1 hS21
       have hC26 := hC1.no hS21
       have hd21 : PEq (.bool true) (D 19) w26 ∧ PEq (.bool false) (D 12) w26 ∧ True := hd21
       obtain ⟨d28, d29, -⟩ := hd21
       refine dg_sub (E' := [(31, (.bool true)), (24, (.bool false))]) ⟨(congrArg some d28), (congrArg some d29), trivial⟩ ?_
       refine dg_on rfl rfl rfl rfl (ow_not rfl rfl ?_)
       exact ⟨BX.refl _ _, rfl⟩
      ·
       intro w27 D hS22 hd22
       have hl27 := Le.no M1 hS22
       have hC27 := hC1.no hS22
       have hd22 : PEq (.bool false) (D 12) w27 ∧ PEq (.bool false) (D 20) w27 ∧ True := hd22
       obtain ⟨d30, d31, -⟩ := hd22
       refine dg_sub (E' := [(24, (.bool false)), (32, (.bool false))]) ⟨(congrArg some d30), (congrArg some d31), trivial⟩ ?_
       refine dg_plain rfl (ow_pickF rfl rfl rfl ?_)
       exact ⟨BX.refl _ _, rfl⟩
      ·
       intro w28 D hS23 hd23
       have hl28 := Le.no M1 hS23
       have hC28 := hC1.no hS23
       have hd23 : PEq (.bool false) (D 21) w28 ∧ PEq (.bool true) (D 19) w28 ∧ True := hd23
       obtain ⟨d32, d33, -⟩ := hd23
       refine dg_sub (E' := [(33, (.bool false))]) ⟨(congrArg some d32), trivial⟩ ?_
       refine dg_plain rfl (ow_move rfl rfl ?_)
       exact ⟨BX.refl _ _, rfl⟩
      ·
       intro w29 D hS24 hd24
       have hl29 := Le.no M1 hS24
       have hC29 := hC1.no hS24
       have hd24 : PEq (.bool false) (D 22) w29 ∧ True := hd24
       obtain ⟨d34, -⟩ := hd24
       refine dg_sub (E' := [(34, (.bool false)), (5, (.int .i64 k1))]) ⟨(congrArg some d34), rfl, trivial⟩ ?_
       refine dg_on rfl rfl rfl rfl (ow_move rfl rfl ?_)
       exact ⟨BX.refl _ _, rfl⟩
      ·
       intro w30 D hS25 hd25
       have hl30 := Le.no M1 hS25
       have hC30 := hC1.no hS25
       have hd25 : PEq (.int .i64 k1) (D 23) w30 ∧ PEq (.bool false) (D 22) w30 ∧ True := hd25
       obtain ⟨d35, d36, -⟩ := hd25
       refine dg_sub (E' := [(35, (.int .i64 k1)), (34, (.bool false))]) ⟨(congrArg some d35), (congrArg some d36), trivial⟩ ?_
       refine dg_on rfl rfl rfl rfl (ow_gtr rfl rfl rfl fun bb3 hbb3 => ?_)
       obtain rfl := hbb3.trans hc4
       exact ⟨BX.refl _ _, rfl⟩
      ·
       intro w31 D hS26 hd26
       have hl31 := Le.no M1 hS26
       have hC31 := hC1.no hS26
       have hd26 : PEq (.bool true) (D 24) w31 ∧ PEq (.bool false) (D 22) w31 ∧ PEq (.bool false) (D 22) w31 ∧ True := hd26
       obtain ⟨d37, d38, d39, -⟩ := hd26
       refine dg_sub (E' := [(36, (.bool true)), (34, (.bool false))]) ⟨(congrArg some d37), (congrArg some d38), trivial⟩ ?_
       refine dg_on rfl rfl rfl rfl (ow_move rfl rfl ?_)
       exact ⟨BX.refl _ _, rfl⟩
      ·
       intro w32 D hS27 hd27
       have hl32 := Le.no M1 hS27
       have hC32 := hC1.no hS27
       have hd27 : PEq (.bool true) (D 25) w32 ∧ True := hd27
       obtain ⟨d40, -⟩ := hd27
       refine dg_sub (E' := [(37, (.bool true)), (0, v0p)]) ⟨(congrArg some d40), rfl, trivial⟩ ?_
       refine dg_on rfl rfl rfl rfl (ow_move rfl rfl ?_)
       exact ⟨BX.refl _ _, (VRep.mono (hl1.trans hl32) h0)⟩
      ·
       intro w33 D hS28 hd28
       have hl33 := Le.no M1 hS28
       have hC33 := hC1.no hS28
       have hd28 : PEq (.bool true) (D 25) w33 ∧ True := hd28
       obtain ⟨d41, -⟩ := hd28
       refine dg_sub (E' := [(37, (.bool true)), (5, (.int .i64 k1))]) ⟨(congrArg some d41), rfl, trivial⟩ ?_
       refine dg_on rfl rfl rfl rfl (ow_move rfl rfl ?_)
       exact ⟨BX.refl _ _, rfl⟩
      ·
       intro w34 D hS29 hd29
       have hl34 := Le.no M1 hS29
       have hC34 := hC1.no hS29
       have hd29 : PV (RSlice RSpan) M1 a_list (D 26) w34 ∧ PEq (.int .i64 k1) (D 27) w34 ∧ PEq (.bool true) (D 25) w34 ∧ True := hd29
       obtain ⟨d42, d43, d44, -⟩ := hd29
       obtain ⟨v17, hq4⟩ : ∃ v, (D 26) = v := ⟨_, rfl⟩
       rw [hq4] at d42
       refine dg_sub (E' := [(38, v17), (39, (.int .i64 k1)), (37, (.bool true))]) ⟨(congrArg some hq4), (congrArg some d43), (congrArg some d44), trivial⟩ ?_
       refine dg_on rfl rfl rfl rfl (ow_indexSlice (R := RSpan) rfl rfl rfl d42 Tryd.underlying58 (Tryd.sizeOf76 _) hx1 fun p15 hp15 => ?_)
       exact ⟨BX.refl _ _, ⟨_, rfl, hp15⟩⟩
      ·
       intro w35 D hS30 hd30
       have hl35 := Le.no M1 hS30
       have hC35 := hC1.no hS30
       have hd30 : PA RSpan M1 x1 (D 28) w35 ∧ PEq (.bool true) (D 25) w35 ∧ True := hd30
       obtain ⟨d45, d46, -⟩ := hd30
       obtain ⟨p16, e7, ha7⟩ := d45
       refine dg_sub (E' := [(40, (.pointer (some p16))), (37, (.bool true))]) ⟨(congrArg some e7), (congrArg some d46), trivial⟩ ?_
       refine dg_on rfl rfl rfl rfl (ow_fieldAddr rfl rfl Tryd.underlying76 rfl (Tryd.sizeOf3 _) ?_)
       exact ⟨BX.refl _ _, ⟨_, rfl, (ha7.fld fld_Span_Lo)⟩⟩
      ·
       intro w36 D hS31 hd31
       have hl36 := Le.no M1 hS31
       have hC36 := hC1.no hS31
       have hd31 : PA RInt M1 x1.Lo (D 29) w36 ∧ PEq (.bool true) (D 25) w36 ∧ True := hd31
       obtain ⟨d47, d48, -⟩ := hd31
       obtain ⟨p17, e8, ha8⟩ := d47
       refine dg_sub (E' := [(41, (.pointer (some p17))), (37, (.bool true))]) ⟨(congrArg some e8), (congrArg some d48), trivial⟩ ?_
       refine dg_on rfl rfl rfl rfl (ow_load (R := RInt) rfl rfl ha8 (Tryd.sizeOf3 _) (Tryd.isAgg3 _) fun v18 hv18 => ?_)
       obtain rfl := vint_eq hv18
       exact ⟨BX.refl _ _, rfl⟩
      ·
       intro w37 D hS32 hd32
       have hl37 := Le.no M1 hS32
       have hC37 := hC1.no hS32
       have hd32 : PEq (.bool true) (D 25) w37 ∧ True := hd32
       obtain ⟨d49, -⟩ := hd32
       refine dg_sub (E' := [(37, (.bool true)), (0, v0p)]) ⟨(congrArg some d49), rfl, trivial⟩ ?_
       refine dg_on rfl rfl rfl rfl (ow_move rfl rfl ?_)
       exact ⟨BX.refl _ _, (VRep.mono (hl1.trans hl37) h0)⟩
      ·
       intro w38 D hS33 hd33
       have hl38 := Le.no M1 hS33
       have hC38 := hC1.no hS33
       have hd33 : PEq (.bool true) (D 25) w38 ∧ True := hd33
       obtain ⟨d50, -⟩ := hd33
       refine dg_sub (E' := [(37, (.bool true)), (5, (.int .i64 k1))]) ⟨(congrArg some d50), rfl, trivial⟩ ?_
       refine dg_on rfl rfl rfl rfl (ow_move rfl rfl ?_)
       exact ⟨BX.refl _ _, rfl⟩
      ·
       intro w39 D hS34 hd34
       have hl39 := Le.no M1 hS34
       have hC39 := hC1.no hS34
       have hd34 : PEq (.int .i64 k1) (D 32) w39 ∧ PEq (.bool true) (D 25) w39 ∧ True := hd34
       obtain ⟨d51, d52, -⟩ := hd34
       refine dg_sub (E' := [(44, (.int .i64 k1)), (37, (.bool true))]) ⟨(congrArg some d51), (congrArg some d52), trivial⟩ ?_
       refine dg_on rfl rfl rfl rfl (ow_sub rfl rfl rfl ?_)
       exact ⟨BX.refl _ _, rfl⟩
      ·
       intro w40 D hS35 hd35
       have hl40 := Le.no M1 hS35
       have hC40 := hC1.no hS35
       have hd35 : PV (RSlice RSpan) M1 a_list (D 31) w40 ∧ PEq (.int .i64 (W (k1 - 1))) (D 33) w40 ∧ PEq (.bool true) (D 25) w40 ∧ True := hd35
       obtain ⟨d53, d54, d55, -⟩ := hd35
       obtain ⟨v19, hq5⟩ : ∃ v, (D 31) = v := ⟨_, rfl⟩
       rw [hq5] at d53
       refine dg_sub (E' := [(43, v19), (45, (.int .i64 (W (k1 - 1)))), (37, (.bool true))]) ⟨(congrArg some hq5), (congrArg some d54), (congrArg some d55), trivial⟩ ?_
       refine dg_on rfl rfl rfl rfl (ow_indexSlice (R := RSpan) rfl rfl rfl d53 Tryd.underlying58 (Tryd.sizeOf76 _) hx4 fun p18 hp18 => ?_)
       exact ⟨BX.refl _ _, ⟨_, rfl, hp18⟩⟩
      ·
       intro w41 D hS36 hd36
       have hl41 := Le.no M1 hS36
       have hC41 := hC1.no hS36
       have hd36 : PA RSpan M1 x4 (D 34) w41 ∧ PEq (.bool true) (D 25) w41 ∧ True := hd36
       obtain ⟨d56, d57, -⟩ := hd36
       obtain ⟨p19, e9, ha9⟩ := d56
       refine dg_sub (E' := [(46, (.pointer (some p19))), (37, (.bool true))]) ⟨(congrArg some e9), (congrArg some d57), trivial⟩ ?_
       refine dg_on rfl rfl rfl rfl (ow_fieldAddr rfl rfl Tryd.underlying76 rfl (Tryd.sizeOf3 _) ?_)
       exact ⟨BX.refl _ _, ⟨_, rfl, (ha9.fld fld_Span_Hi)⟩⟩
      ·
       intro w42 D hS37 hd37
       have hl42 := Le.no M1 hS37
       have hC42 := hC1.no hS37
       have hd37 : PA RInt M1 x4.Hi (D 35) w42 ∧ PEq (.bool true) (D 25) w42 ∧ True := hd37
       obtain ⟨d58, d59, -⟩ := hd37
       obtain ⟨p20, e10, ha10⟩ := d58
       refine dg_sub (E' := [(47, (.pointer (some p20))), (37, (.bool true))]) ⟨(congrArg some e10), (congrArg some d59), trivial⟩ ?_
       refine dg_on rfl rfl rfl rfl (ow_load (R := RInt) rfl rfl ha10 (Tryd.sizeOf3 _) (Tryd.isAgg3 _) fun v20 hv20 => ?_)
       obtain rfl := vint_eq hv20
       exact ⟨BX.refl _ _, rfl⟩
      ·
       intro w43 D hS38 hd38
       have hl43 := Le.no M1 hS38
       have hC43 := hC1.no hS38
       have hd38 : PEq (.int .i64 x4.Hi) (D 36) w43 ∧ PEq (.bool true) (D 25) w43 ∧ True := hd38
       obtain ⟨d60, d61, -⟩ := hd38
       refine dg_sub (E' := [(48, (.int .i64 x4.Hi)), (37, (.bool true))]) ⟨(congrArg some d60), (congrArg some d61), trivial⟩ ?_
       refine dg_on rfl rfl rfl rfl (ow_add rfl rfl rfl ?_)
       exact ⟨BX.refl _ _, rfl⟩
      ·
       intro w44 D hS39 hd39
       have hd39 : PV (RSlice RSpan) M1 a_list (D 0) w44 ∧ PEq (.int .i64 k1) (D 1) w44 ∧ PA RSpan M1 x1 (D 2) w44 ∧ PA RInt M1 x1.Lo (D 3) w44 ∧ PEq (.int .i64 x1.Lo) (D 4) w44 ∧ PV (RSlice RSpan) M1 a_list (D 5) w44 ∧ PEq (.int .i64 k1) (D 6) w44 ∧ PA RSpan M1 x1 (D 7) w44 ∧ PA RInt M1 x1.Hi (D 8) w44 ∧ PEq (.int .i64 x1.Hi) (D 9) w44 ∧ PEq (.bool true) (D 10) w44 ∧ PEq (.bool false) (D 11) w44 ∧ PEq (.bool false) (D 12) w44 ∧ PV (RSlice RSpan) M1 a_list (D 13) w44 ∧ PEq (.int .i64 k1) (D 14) w44 ∧ PA RSpan M1 x1 (D 15) w44 ∧ PA RInt M1 x1.Hi (D 16) w44 ∧ PEq (.int .i64 x1.Hi) (D 17) w44 ∧ PEq (.int .i64 a_top) (D 18) w44 ∧ PEq (.bool true) (D 19) w44 ∧ PEq (.bool false) (D 20) w44 ∧ PEq (.bool false) (D 21) w44 ∧ PEq (.bool false) (D 22) w44 ∧ PEq (.int .i64 k1) (D 23) w44 ∧ PEq (.bool true) (D 24) w44 ∧ PEq (.bool true) (D 25) w44 ∧ PV (RSlice RSpan) M1 a_list (D 26) w44 ∧ PEq (.int .i64 k1) (D 27) w44 ∧ PA RSpan M1 x1 (D 28) w44 ∧ PA RInt M1 x1.Lo (D 29) w44 ∧ PEq (.int .i64 x1.Lo) (D 30) w44 ∧ PV (RSlice RSpan) M1 a_list (D 31) w44 ∧ PEq (.int .i64 k1) (D 32) w44 ∧ PEq (.int .i64 (W (k1 - 1))) (D 33) w44 ∧ PA RSpan M1 x4 (D 34) w44 ∧ PA RInt M1 x4.Hi (D 35) w44 ∧ PEq (.int .i64 x4.Hi) (D 36) w44 ∧ PEq (.int .i64 (W (x4.Hi + 2))) (D 37) w44 ∧ True := hd39
       obtain ⟨-, -, -, -, -, -, -, -, -, -, -, -, -, -, -, -, -, -, -, -, -, -, d84, -, -, d87, -, -, -, -, d92, -, -, -, -, -, -, d99, -⟩ := hd39
       have hl44 := Le.no M1 hS39
       have hC44 := hC1.no hS39
       refine lw_sub (E' := [(34, (.bool false)), (37, (.bool true)), (42, (.int .i64 x1.Lo)), (49, (.int .i64 (W (x4.Hi + 2)))), (0, v0p), (1, (.int .i64 a_top)), (5, (.int .i64 k1))]) ⟨(congrArg some d84), (congrArg some d87), (congrArg some d92), (congrArg some d99), rfl, rfl, rfl, trivial⟩ ?_
       refine lw_on rfl rfl rfl rfl rfl rfl (ow_lss rfl rfl rfl fun bb4 hbb4 => ?_)
       refine lw_on rfl rfl rfl rfl rfl rfl (ow_pickT rfl rfl rfl ?_)
       refine lw_op rfl rfl rfl (ow_pickF rfl rfl rfl ?_)
       refine lw_nil (ew_then ?_)
       replace hb1 := cond_some hb1
       rcases hb1 with ⟨hc5, hb1⟩ | ⟨hc5, hb1⟩
       ·
        obtain rfl := hbb4.trans hc5
        refine cw_true rfl ?_
        refine cw_seq (cw_region (lw_op rfl rfl rfl (ow_assign rfl rfl ?_)))
        refine lw_nil (ew_then (cw_ret (ew_blockR ?_)))
        refine ew_thenR (ew_thenR (ew_blockR ?_))
        refine ew_brkR ?_
        refine ew_thenR ?_
        have e11 := hR1 _ (Option.some.inj hb1).symm
        subst e11
        obtain rfl := Option.some.inj h
        exact ew_ret (res1 rfl (.tmp rfl)) ⟨_, rfl, ((vbool _)), hC44.bx⟩
       ·
        obtain rfl := hbb4.trans hc5
        refine cw_false rfl ?_
        refine cw_skip (ew_blockN ?_)
        refine ew_then (cw_region (lw_op rfl rfl rfl (ow_move rfl rfl ?_)))
        refine lw_op rfl rfl rfl (ow_add rfl rfl rfl ?_)
        refine lw_op rfl rfl rfl (ow_assign rfl rfl ?_)
        refine lw_nil (ew_nxt (W (k1 + 1)) hb1 fun a ha => ⟨M1, ?_, (hl1.trans hl44), hC44⟩)
        exact ha.sub ⟨rfl, rfl, rfl, trivial⟩
     ·
      refine cw_sub (E' := [(0, v0p), (1, (.int .i64 a_top)), (5, (.int .i64 k1))]) ⟨rfl, rfl, rfl, trivial⟩ ?_
      refine cw_drawQ 38 [PV (RSlice RSpan) M1 a_list, PEq (.int .i64 k1), PA RSpan M1 x1, PA RInt M1 x1.Lo, PEq (.int .i64 x1.Lo), PV (RSlice RSpan) M1 a_list, PEq (.int .i64 k1), PA RSpan M1 x1, PA RInt M1 x1.Hi, PEq (.int .i64 x1.Hi), PEq (.bool true), PEq (.bool false), PEq (.bool false), PV (RSlice RSpan) M1 a_list, PEq (.int .i64 k1), PA RSpan M1 x1, PA RInt M1 x1.Hi, PEq (.int .i64 x1.Hi), PEq (.int .i64 a_top), PEq (.bool true), PEq (.bool false), PEq (.bool false), PEq (.bool false), PEq (.int .i64 k1), PEq (.bool false), PEq (.bool false), PEq undef, PEq undef, PEq undef, PEq undef, PEq undef, PEq undef, PEq undef, PEq undef, PEq undef, PEq undef, PEq undef, PEq undef] (by kernel_rfl) rfl (by kernel_rfl) ⟨PV.mono _ _ _, PEq.mono _, PA.mono _ _ _, PA.mono _ _ _, PEq.mono _, PV.mono _ _ _, PEq.mono _, PA.mono _ _ _, PA.mono _ _ _, PEq.mono _, PEq.mono _, PEq.mono _, PEq.mono _, PV.mono _ _ _, PEq.mono _, PA.mono _ _ _, PA.mono _ _ _, PEq.mono _, PEq.mono _, PEq.mono _, PEq.mono _, PEq.mono _, PEq.mono _, PEq.mono _, PEq.mono _, PEq.mono _, PEq.mono _, PEq.mono _, PEq.mono _, PEq.mono _, PEq.mono _, PEq.mono _, PEq.mono _, PEq.mono _, PEq.mono _, PEq.mono _, PEq.mono _, PEq.mono _, trivial⟩ ⟨?_, ?_, ?_, ?_, ?_, ?_, ?_, ?_, ?_, ?_, ?_, ?_, ?_, ?_, ?_, ?_, ?_, ?_, ?_, ?_, ?_, ?_, ?_, ?_, ?_, ?_, ?_, ?_, ?_, ?_, ?_, ?_, ?_, ?_, ?_, ?_, ?_, ?_, trivial⟩ ?_
      ·
       intro w45 D hS40 hd40
       have hl45 := Le.no M1 hS40
       have hC45 := hC1.no hS40
       refine dg_sub (E' := [(0, v0p)]) ⟨rfl, trivial⟩ ?_
       refine dg_plain rfl (ow_move rfl rfl ?_)
       exact ⟨BX.refl _ _, (VRep.mono (hl1.trans hl45) h0)⟩
      ·
       intro w46 D hS41 hd41
       have hl46 := Le.no M1 hS41
       have hC46 := hC1.no hS41
       refine dg_sub (E' := [(5, (.int .i64 k1))]) ⟨rfl, trivial⟩ ?_
       refine dg_plain rfl (ow_move rfl rfl ?_)
       exact ⟨BX.refl _ _, rfl⟩
      ·
       intro w47 D hS42 hd42
       have hl47 := Le.no M1 hS42
       have hC47 := hC1.no hS42
       have hd42 : PV (RSlice RSpan) M1 a_list (D 0) w47 ∧ PEq (.int .i64 k1) (D 1) w47 ∧ True := hd42
       obtain ⟨d100, d101, -⟩ := hd42
       obtain ⟨v21, hq6⟩ : ∃ v, (D 0) = v := ⟨_, rfl⟩
       rw [hq6] at d100
       refine dg_sub (E' := [(12, v21), (13, (.int .i64 k1))]) ⟨(congrArg some hq6), (congrArg some d101), trivial⟩ ?_
       refine dg_plain rfl (ow_indexSlice (R := RSpan) rfl rfl rfl d100 Tryd.underlying58 (Tryd.sizeOf76 _) hx1 fun p21 hp21 => ?_)
       exact ⟨BX.refl _ _, ⟨_, rfl, hp21⟩⟩
      ·
       intro w48 D hS43 hd43
       have hl48 := Le.no M1 hS43
       have hC48 := hC1.no hS43
       have hd43 : PA RSpan M1 x1 (D 2) w48 ∧ True := hd43
       obtain ⟨d102, -⟩ := hd43
       obtain ⟨p22, e12, ha11⟩ := d102
       refine dg_sub (E' := [(14, (.pointer (some p22)))]) ⟨(congrArg some e12), trivial⟩ ?_
       refine dg_plain rfl (ow_fieldAddr rfl rfl Tryd.underlying76 rfl (Tryd.sizeOf3 _) ?_)
       exact ⟨BX.refl _ _, ⟨_, rfl, (ha11.fld fld_Span_Lo)⟩⟩
      ·
       intro w49 D hS44 hd44
       have hl49 := Le.no M1 hS44
       have hC49 := hC1.no hS44
       have hd44 : PA RInt M1 x1.Lo (D 3) w49 ∧ True := hd44
       obtain ⟨d103, -⟩ := hd44
       obtain ⟨p23, e13, ha12⟩ := d103
       refine dg_sub (E' := [(15, (.pointer (some p23)))]) ⟨(congrArg some e13), trivial⟩ ?_
       refine dg_plain rfl (ow_load (R := RInt) rfl rfl ha12 (Tryd.sizeOf3 _) (Tryd.isAgg3 _) fun v22 hv22 => ?_)
       obtain rfl := vint_eq hv22
       exact ⟨BX.refl _ _, rfl⟩
      ·
       intro w50 D hS45 hd45
       have hl50 := Le.no M1 hS45
       have hC50 := hC1.no hS45
       refine dg_sub (E' := [(0, v0p)]) ⟨rfl, trivial⟩ ?_
       refine dg_plain rfl (ow_move rfl rfl ?_)
       exact ⟨BX.refl _ _, (VRep.mono (hl1.trans hl50) h0)⟩
      ·
       intro w51 D hS46 hd46
       have hl51 := Le.no M1 hS46
       have hC51 := hC1.no hS46
       refine dg_sub (E' := [(5, (.int .i64 k1))]) ⟨rfl, trivial⟩ ?_
       refine dg_plain rfl (ow_move rfl rfl ?_)
       exact ⟨BX.refl _ _, rfl⟩
      ·
       intro w52 D hS47 hd47
       have hl52 := Le.no M1 hS47
       have hC52 := hC1.no hS47
       have hd47 : PV (RSlice RSpan) M1 a_list (D 5) w52 ∧ PEq (.int .i64 k1) (D 6) w52 ∧ True := hd47
       obtain ⟨d104, d105, -⟩ := hd47
       obtain ⟨v23, hq7⟩ : ∃ v, (D 5) = v := ⟨_, rfl⟩
       rw [hq7] at d104
       refine dg_sub (E' := [(17, v23), (18, (.int .i64 k1))]) ⟨(congrArg some hq7), (congrArg some d105), trivial⟩ ?_
       refine dg_plain rfl (ow_indexSlice (R := RSpan) rfl rfl rfl d104 Tryd.underlying58 (Tryd.sizeOf76 _) hx1 fun p24 hp24 => ?_)
       exact ⟨BX.refl _ _, ⟨_, rfl, hp24⟩⟩
      ·
       intro w53 D hS48 hd48
       have hl53 := Le.no M1 hS48
       have hC53 := hC1.no hS48
       have hd48 : PA RSpan M1 x1 (D 7) w53 ∧ True := hd48
       obtain ⟨d106, -⟩ := hd48
       obtain ⟨p25, e14, ha13⟩ := d106
       refine dg_sub (E' := [(19, (.pointer (some p25)))]) ⟨(congrArg some e14), trivial⟩ ?_
       refine dg_plain rfl (ow_fieldAddr rfl rfl Tryd.underlying76 rfl (Tryd.sizeOf3 _) ?_)
       exact ⟨BX.refl _ _, ⟨_, rfl, (ha13.fld fld_Span_Hi)⟩⟩
      ·
       intro w54 D hS49 hd49
       have hl54 := Le.no M1 hS49
       have hC54 := hC1.no hS49
       have hd49 : PA RInt M1 x1.Hi (D 8) w54 ∧ True := hd49
       obtain ⟨d107, -⟩ := hd49
       obtain ⟨p26, e15, ha14⟩ := d107
       refine dg_sub (E' := [(20, (.pointer (some p26)))]) ⟨(congrArg some e15), trivial⟩ ?_
       refine dg_plain rfl (ow_load (R := RInt) rfl rfl ha14 (Tryd.sizeOf3 _) (Tryd.isAgg3 _) fun v24 hv24 => ?_)
       obtain rfl := vint_eq hv24
       exact ⟨BX.refl _ _, rfl⟩
      ·
       intro w55 D hS50 hd50
       have hl55 := Le.no M1 hS50
       have hC55 := hC1.no hS50
       have hd50 : PEq (.int .i64 x1.Lo) (D 4) w55 ∧ PEq (.int .i64 x1.Hi) (D 9) w55 ∧ True := hd50
       obtain ⟨d108, d109, -⟩ := hd50
       refine dg_sub (E' := [(16, (.int .i64 x1.Lo)), (21, (.int .i64 x1.Hi))]) ⟨(congrArg some d108), (congrArg some d109), trivial⟩ ?_
       refine dg_plain rfl (ow_call rfl rfl Tryd.call82 (w_spec_l1In (hG.mono (hl1.trans hl55)) hC55.old hx2) fun v25 w56 hv25 => ?_)
       obtain ⟨hv25, hb6⟩ := hv25
       have hl56 := Le.no M1 hb6
       have hC56 := hC55.no hb6
       obtain rfl := vbool_eq hv25
       exact ⟨hb6, rfl⟩
      ·
       intro w57 D hS51 hd51
       have hl57 := Le.no M1 hS51
       have hC57 := hC1.no hS51
       have hd51 : PEq (.bool true) (D 10) w57 ∧ True := hd51
       obtain ⟨d110, -⟩ := hd51
       refine dg_sub (E' := [(22, (.bool true))]) ⟨(congrArg some d110), trivial⟩ ?_
       refine dg_plain rfl (ow_not rfl rfl ?_)
       exact ⟨BX.refl _ _, rfl⟩
      ·
       intro w58 D hS52 hd52
       have hl58 := Le.no M1 hS52
       have hC58 := hC1.no hS52
       have hd52 : PEq (.bool false) (D 11) w58 ∧ PEq (.bool true) (D 10) w58 ∧ True := hd52
       obtain ⟨d111, d112, -⟩ := hd52
       refine dg_sub (E' := [(23, (.bool false))]) ⟨(congrArg some d111), trivial⟩ ?_
       refine dg_plain rfl (ow_move rfl rfl ?_)
       exact ⟨BX.refl _ _, rfl⟩
      ·
       intro w59 D hS53 hd53
       have hl59 := Le.no M1 hS53
       have hC59 := hC1.no hS53
       have hd53 : PEq (.bool false) (D 12) w59 ∧ True := hd53
       obtain ⟨d113, -⟩ := hd53
       refine dg_sub (E' := [(24, (.bool false)), (0, v0p)]) ⟨(congrArg some d113), rfl, trivial⟩ ?_
       refine dg_on rfl rfl rfl rfl (ow_move rfl rfl ?_)
       exact ⟨BX.refl _ _, (VRep.mono (hl1.trans hl59) h0)⟩
      ·
       intro w60 D hS54 hd54
       have hl60 := Le.no M1 hS54
       have hC60 := hC1.no hS54
       have hd54 : PEq (.bool false) (D 12) w60 ∧ True := hd54
       obtain ⟨d114, -⟩ := hd54
       refine dg_sub (E' := [(24, (.bool false)), (5, (.int .i64 k1))]) ⟨(congrArg some d114), rfl, trivial⟩ ?_
       refine dg_on rfl rfl rfl rfl (ow_move rfl rfl ?_)
       exact ⟨BX.refl _ _, rfl⟩
      ·
       intro w61 D hS55 hd55
       have hl61 := Le.no M1 hS55
       have hC61 := hC1.no hS55
       have hd55 : PV (RSlice RSpan) M1 a_list (D 13) w61 ∧ PEq (.int .i64 k1) (D 14) w61 ∧ PEq (.bool false) (D 12) w61 ∧ True := hd55
       obtain ⟨d115, d116, d117, -⟩ := hd55
       obtain ⟨v26, hq8⟩ : ∃ v, (D 13) = v := ⟨_, rfl⟩
       rw [hq8] at d115
       refine dg_sub (E' := [(25, v26), (26, (.int .i64 k1)), (24, (.bool false))]) ⟨(congrArg some hq8), (congrArg some d116), (congrArg some d117), trivial⟩ ?_
       refine dg_on rfl rfl rfl rfl (ow_indexSlice (R := RSpan) rfl rfl rfl d115 Tryd.underlying58 (Tryd.sizeOf76 _) hx1 fun p27 hp27 => ?_)
       exact ⟨BX.refl _ _, ⟨_, rfl, hp27⟩⟩
      ·
       intro w62 D hS56 hd56
       have hl62 := Le.no M1 hS56
       have hC62 := hC1.no hS56
       have hd56 : PA RSpan M1 x1 (D 15) w62 ∧ PEq (.bool false) (D 12) w62 ∧ True := hd56
       obtain ⟨d118, d119, -⟩ := hd56
       obtain ⟨p28, e16, ha15⟩ := d118
       refine dg_sub (E' := [(27, (.pointer (some p28))), (24, (.bool false))]) ⟨(congrArg some e16), (congrArg some d119), trivial⟩ ?_
       refine dg_on rfl rfl rfl rfl (ow_fieldAddr rfl rfl Tryd.underlying76 rfl (Tryd.sizeOf3 _) ?_)
       exact ⟨BX.refl _ _, ⟨_, rfl, (ha15.fld fld_Span_Hi)⟩⟩
      ·
       intro w63 D hS57 hd57
       have hl63 := Le.no M1 hS57
       have hC63 := hC1.no hS57
       have hd57 : PA RInt M1 x1.Hi (D 16) w63 ∧ PEq (.bool false) (D 12) w63 ∧ True := hd57
       obtain ⟨d120, d121, -⟩ := hd57
       obtain ⟨p29, e17, ha16⟩ := d120
       refine dg_sub (E' := [(28, (.pointer (some p29))), (24, (.bool false))]) ⟨(congrArg some e17), (congrArg some d121), trivial⟩ ?_
       refine dg_on rfl rfl rfl rfl (ow_load (R := RInt) rfl rfl ha16 (Tryd.sizeOf3 _) (Tryd.isAgg3 _) fun v27 hv27 => ?_)
       obtain rfl := vint_eq hv27
       exact ⟨BX.refl _ _, rfl⟩
      ·
       intro w64 D hS58 hd58
       have hl64 := Le.no M1 hS58
       have hC64 := hC1.no hS58
       have hd58 : PEq (.bool false) (D 12) w64 ∧ True := hd58
       obtain ⟨d122, -⟩ := hd58
       refine dg_sub (E' := [(24, (.bool false)), (1, (.int .i64 a_top))]) ⟨(congrArg some d122), rfl, trivial⟩ ?_
       refine dg_on rfl rfl rfl rfl (ow_move rfl rfl ?_)
       exact ⟨BX.refl _ _, rfl⟩
      ·
       intro w65 D hS59 hd59
       have hl65 := Le.no M1 hS59
       have hC65 := hC1.no hS59
       have hd59 : PEq (.int .i64 x1.Hi) (D 17) w65 ∧ PEq (.int .i64 a_top) (D 18) w65 ∧ PEq (.bool false) (D 12) w65 ∧ PEq (.bool false) (D 12) w65 ∧ True := hd59
       obtain ⟨d123, d124, d125, d126, -⟩ := hd59
       refine dg_sub (E' := [(29, (.int .i64 x1.Hi)), (30, (.int .i64 a_top)), (24, (.bool false))]) ⟨(congrArg some d123), (congrArg some d124), (congrArg some d125), trivial⟩ ?_
       refine dg_on rfl rfl rfl rfl (ow_call rfl rfl Tryd.call82 (w_spec_l1In (hG.mono (hl1.trans hl65)) hC65.old hx3) fun v28 w66 hv28 => ?_)
       obtain ⟨hv28, hb7⟩ := hv28
       have hl66 := Le.no M1 hb7
       have hC66 := hC65.no hb7
       obtain rfl := vbool_eq hv28
       exact ⟨hb7, rfl⟩
      ·
       intro w67 D hS60 hd60
       have hl67 := Le.no M1 hS60
       have hC67 := hC1.no hS60
       have hd60 : PEq (.bool true) (D 19) w67 ∧ PEq (.bool false) (D 12) w67 ∧ True := hd60
       obtain ⟨d127, d128, -⟩ := hd60
       refine dg_sub (E' := [(31, (.bool true)), (24, (.bool false))]) ⟨(congrArg some d127), (congrArg some d128), trivial⟩ ?_
       refine dg_on rfl rfl rfl rfl (ow_not rfl rfl ?_)
       exact ⟨BX.refl _ _, rfl⟩
      ·
       intro w68 D hS61 hd61
       have hl68 := Le.no M1 hS61
       have hC68 := hC1.no hS61
       have hd61 : PEq (.bool false) (D 12) w68 ∧ PEq (.bool false) (D 20) w68 ∧ True := hd61
       obtain ⟨d129, d130, -⟩ := hd61
       refine dg_sub (E' := [(24, (.bool false)), (32, (.bool false))]) ⟨(congrArg some d129), (congrArg some d130), trivial⟩ ?_
       refine dg_plain rfl (ow_pickF rfl rfl rfl ?_)
       exact ⟨BX.refl _ _, rfl⟩
      ·
       intro w69 D hS62 hd62
       have hl69 := Le.no M1 hS62
       have hC69 := hC1.no hS62
       have hd62 : PEq (.bool false) (D 21) w69 ∧ PEq (.bool true) (D 19) w69 ∧ True := hd62
       obtain ⟨d131, d132, -⟩ := hd62
       refine dg_sub (E' := [(33, (.bool false))]) ⟨(congrArg some d131), trivial⟩ ?_
       refine dg_plain rfl (ow_move rfl rfl ?_)
       exact ⟨BX.refl _ _, rfl⟩
      ·
       intro w70 D hS63 hd63
       have hl70 := Le.no M1 hS63
       have hC70 := hC1.no hS63
       have hd63 : PEq (.bool false) (D 22) w70 ∧ True := hd63
       obtain ⟨d133, -⟩ := hd63
       refine dg_sub (E' := [(34, (.bool false)), (5, (.int .i64 k1))]) ⟨(congrArg some d133), rfl, trivial⟩ ?_
       refine dg_on rfl rfl rfl rfl (ow_move rfl rfl ?_)
       exact ⟨BX.refl _ _, rfl⟩
      ·
       intro w71 D hS64 hd64
       have hl71 := Le.no M1 hS64
       have hC71 := hC1.no hS64
       have hd64 : PEq (.int .i64 k1) (D 23) w71 ∧ PEq (.bool false) (D 22) w71 ∧ True := hd64
       obtain ⟨d134, d135, -⟩ := hd64
       refine dg_sub (E' := [(35, (.int .i64 k1)), (34, (.bool false))]) ⟨(congrArg some d134), (congrArg some d135), trivial⟩ ?_
       refine dg_on rfl rfl rfl rfl (ow_gtr rfl rfl rfl fun bb5 hbb5 => ?_)
       obtain rfl := hbb5.trans hc4
       exact ⟨BX.refl _ _, rfl⟩
      ·
       intro w72 D hS65 hd65
       have hl72 := Le.no M1 hS65
       have hC72 := hC1.no hS65
       have hd65 : PEq (.bool false) (D 24) w72 ∧ PEq (.bool false) (D 22) w72 ∧ PEq (.bool false) (D 22) w72 ∧ True := hd65
       obtain ⟨d136, d137, d138, -⟩ := hd65
       refine dg_sub (E' := [(36, (.bool false)), (34, (.bool false))]) ⟨(congrArg some d136), (congrArg some d137), trivial⟩ ?_
       refine dg_on rfl rfl rfl rfl (ow_move rfl rfl ?_)
       exact ⟨BX.refl _ _, rfl⟩
      ·
       intro w73 D hS66 hd66
       have hl73 := Le.no M1 hS66
       have hC73 := hC1.no hS66
       have hd66 : PEq (.bool false) (D 25) w73 ∧ True := hd66
       obtain ⟨d139, -⟩ := hd66
       refine dg_sub (E' := [(37, (.bool false)), (0, v0p)]) ⟨(congrArg some d139), rfl, trivial⟩ ?_
       exact dg_off rfl rfl rfl rfl ⟨BX.refl _ _, rfl⟩
      ·
       intro w74 D hS67 hd67
       have hl74 := Le.no M1 hS67
       have hC74 := hC1.no hS67
       have hd67 : PEq (.bool false) (D 25) w74 ∧ True := hd67
       obtain ⟨d140, -⟩ := hd67
       refine dg_sub (E' := [(37, (.bool false)), (5, (.int .i64 k1))]) ⟨(congrArg some d140), rfl, trivial⟩ ?_
       exact dg_off rfl rfl rfl rfl ⟨BX.refl _ _, rfl⟩
      ·
       intro w75 D hS68 hd68
       have hl75 := Le.no M1 hS68
       have hC75 := hC1.no hS68
       have hd68 : PEq undef (D 26) w75 ∧ PEq undef (D 27) w75 ∧ PEq (.bool false) (D 25) w75 ∧ True := hd68
       obtain ⟨d141, d142, d143, -⟩ := hd68
       refine dg_sub (E' := [(38, undef), (39, undef), (37, (.bool false))]) ⟨(congrArg some d141), (congrArg some d142), (congrArg some d143), trivial⟩ ?_
       exact dg_off rfl rfl rfl rfl ⟨BX.refl _ _, rfl⟩
      ·
       intro w76 D hS69 hd69
       have hl76 := Le.no M1 hS69
       have hC76 := hC1.no hS69
       have hd69 : PEq undef (D 28) w76 ∧ PEq (.bool false) (D 25) w76 ∧ True := hd69
       obtain ⟨d144, d145, -⟩ := hd69
       refine dg_sub (E' := [(40, undef), (37, (.bool false))]) ⟨(congrArg some d144), (congrArg some d145), trivial⟩ ?_
       exact dg_off rfl rfl rfl rfl ⟨BX.refl _ _, rfl⟩
      ·
       intro w77 D hS70 hd70
       have hl77 := Le.no M1 hS70
       have hC77 := hC1.no hS70
       have hd70 : PEq undef (D 29) w77 ∧ PEq (.bool false) (D 25) w77 ∧ True := hd70
       obtain ⟨d146, d147, -⟩ := hd70
       refine dg_sub (E' := [(41, undef), (37, (.bool false))]) ⟨(congrArg some d146), (congrArg some d147), trivial⟩ ?_
       exact dg_off rfl rfl rfl rfl ⟨BX.refl _ _, rfl⟩
      ·
       intro w78 D hS71 hd71
       have hl78 := Le.no M1 hS71
       have hC78 := hC1.no hS71
       have hd71 : PEq (.bool false) (D 25) w78 ∧ True := hd71
       obtain ⟨d148, -⟩ := hd71
       refine dg_sub (E' := [(37, (.bool false)), (0, v0p)]) ⟨(congrArg some d148), rfl, trivial⟩ ?_
       exact dg_off rfl rfl rfl rfl ⟨BX.refl _ _, rfl⟩
      ·
       intro w79 D hS72 hd72
       have hl79 := Le.no M1 hS72
       have hC79 := hC1.no hS72
       have hd72 : PEq (.bool false) (D 25) w79 ∧ True := hd72
       obtain ⟨d149, -⟩ := hd72
       refine dg_sub (E' := [(37, (.bool false)), (5, (.int .i64 k1))]) ⟨(congrArg some d149), rfl, trivial⟩ ?_
       exact dg_off rfl rfl rfl rfl ⟨BX.refl _ _, rfl⟩
      ·
       intro w80 D hS73 hd73
       have hl80 := Le.no M1 hS73
       have hC80 := hC1.no hS73
       have hd73 : PEq undef (D 32) w80 ∧ PEq (.bool false) (D 25) w80 ∧ True := hd73
       obtain ⟨d150, d151, -⟩ := hd73
       refine dg_sub (E' := [(44, undef), (37, (.bool false))]) ⟨(congrArg some d150), (congrArg some d151), trivial⟩ ?_
       exact dg_off rfl rfl rfl rfl ⟨BX.refl _ _, rfl⟩
      ·
       intro w81 D hS74 hd74
       have hl81 := Le.no M1 hS74
       have hC81 := hC1.no hS74
       have hd74 : PEq undef (D 31) w81 ∧ PEq undef (D 33) w81 ∧ PEq (.bool false) (D 25) w81 ∧ True := hd74
       obtain ⟨d152, d153, d154, -⟩ := hd74
       refine dg_sub (E' := [(43, undef), (45, undef), (37, (.bool false))]) ⟨(congrArg some d152), (congrArg some d153), (congrArg some d154), trivial⟩ ?_
       exact dg_off rfl rfl rfl rfl ⟨BX.refl _ _, rfl⟩
      ·
       intro w82 D hS75 hd75
       have hl82 := Le.no M1 hS75
       have hC82 := hC1.no hS75
       have hd75 : PEq undef (D 34) w82 ∧ PEq (.bool false) (D 25) w82 ∧ True := hd75
       obtain ⟨d155, d156, -⟩ := hd75
       refine dg_sub (E' := [(46, undef), (37, (.bool false))]) ⟨(congrArg some d155), (congrArg some d156), trivial⟩ ?_
       exact dg_off rfl rfl rfl rfl ⟨BX.refl _ _, rfl⟩
      ·
       intro w83 D hS76 hd76
       have hl83 := Le.no M1 hS76
       have hC83 := hC1.no hS76
       have hd76 : PEq undef (D 35) w83 ∧ PEq (.bool false) (D 25) w83 ∧ True := hd76
       obtain ⟨d157, d158, -⟩ := hd76
       refine dg_sub (E' := [(47, undef), (37, (.bool false))]) ⟨(congrArg some d157), (congrArg some d158), trivial⟩ ?_
       exact dg_off rfl rfl rfl rfl ⟨BX.refl _ _, rfl⟩
      ·
       intro w84 D hS77 hd77
       have hl84 := Le.no M1 hS77
       have hC84 := hC1.no hS77
       have hd77 : PEq undef (D 36) w84 ∧ PEq (.bool false) (D 25) w84 ∧ True := hd77
       obtain ⟨d159, d160, -⟩ := hd77
       refine dg_sub (E' := [(48, undef), (37, (.bool false))]) ⟨(congrArg some d159), (congrArg some d160), trivial⟩ ?_
       exact dg_off rfl rfl rfl rfl ⟨BX.refl _ _, rfl⟩
      ·
       intro w85 D hS78 hd78
       have hd78 : PV (RSlice RSpan) M1 a_list (D 0) w85 ∧ PEq (.int .i64 k1) (D 1) w85 ∧ PA RSpan M1 x1 (D 2) w85 ∧ PA RInt M1 x1.Lo (D 3) w85 ∧ PEq (.int .i64 x1.Lo) (D 4) w85 ∧ PV (RSlice RSpan) M1 a_list (D 5) w85 ∧ PEq (.int .i64 k1) (D 6) w85 ∧ PA RSpan M1 x1 (D 7) w85 ∧ PA RInt M1 x1.Hi (D 8) w85 ∧ PEq (.int .i64 x1.Hi) (D 9) w85 ∧ PEq (.bool true) (D 10) w85 ∧ PEq (.bool false) (D 11) w85 ∧ PEq (.bool false) (D 12) w85 ∧ PV (RSlice RSpan) M1 a_list (D 13) w85 ∧ PEq (.int .i64 k1) (D 14) w85 ∧ PA RSpan M1 x1 (D 15) w85 ∧ PA RInt M1 x1.Hi (D 16) w85 ∧ PEq (.int .i64 x1.Hi) (D 17) w85 ∧ PEq (.int .i64 a_top) (D 18) w85 ∧ PEq (.bool true) (D 19) w85 ∧ PEq (.bool false) (D 20) w85 ∧ PEq (.bool false) (D 21) w85 ∧ PEq (.bool false) (D 22) w85 ∧ PEq (.int .i64 k1) (D 23) w85 ∧ PEq (.bool false) (D 24) w85 ∧ PEq (.bool false) (D 25) w85 ∧ PEq undef (D 26) w85 ∧ PEq undef (D 27) w85 ∧ PEq undef (D 28) w85 ∧ PEq undef (D 29) w85 ∧ PEq undef (D 30) w85 ∧ PEq undef (D 31) w85 ∧ PEq undef (D 32) w85 ∧ PEq undef (D 33) w85 ∧ PEq undef (D 34) w85 ∧ PEq undef (D 35) w85 ∧ PEq undef (D 36) w85 ∧ PEq undef (D 37) w85 ∧ True := hd78
       obtain ⟨-, -, -, -, -, -, -, -, -, -, -, -, -, -, -, -, -, -, -, -, -, -, d183, -, -, d186, -, -, -, -, d191, -, -, -, -, -, -, d198, -⟩ := hd78
       have hl85 := Le.no M1 hS78
       have hC85 := hC1.no hS78
       refine lw_sub (E' := [(34, (.bool false)), (37, (.bool false)), (42, undef), (49, undef), (0, v0p), (1, (.int .i64 a_top)), (5, (.int .i64 k1))]) ⟨(congrArg some d183), (congrArg some d186), (congrArg some d191), (congrArg some d198), rfl, rfl, rfl, trivial⟩ ?_
       refine lw_off rfl rfl rfl rfl rfl rfl ?_
       refine lw_on rfl rfl rfl rfl rfl rfl (ow_pickF rfl rfl rfl ?_)
       refine lw_op rfl rfl rfl (ow_pickF rfl rfl rfl ?_)
       refine lw_nil (ew_then (cw_false rfl ?_))
       refine cw_skip (ew_blockN ?_)
       refine ew_then (cw_region (lw_op rfl rfl rfl (ow_move rfl rfl ?_)))
       refine lw_op rfl rfl rfl (ow_add rfl rfl rfl ?_)
       refine lw_op rfl rfl rfl (ow_assign rfl rfl ?_)
       refine lw_nil (ew_nxt (W (k1 + 1)) hb1 fun a ha => ⟨M1, ?_, (hl1.trans hl85), hC85⟩)
       exact ha.sub ⟨rfl, rfl, rfl, trivial⟩
    ·
     subst hc3
     refine cw_sub (E' := [(0, v0p), (1, (.int .i64 a_top)), (5, (.int .i64 k1))]) ⟨rfl, rfl, rfl, trivial⟩ ?_
     refine cw_drawQ 38 [PV (RSlice RSpan) M1 a_list, PEq (.int .i64 k1), PA RSpan M1 x1, PA RInt M1 x1.Lo, PEq (.int .i64 x1.Lo), PV (RSlice RSpan) M1 a_list, PEq (.int .i64 k1), PA RSpan M1 x1, PA RInt M1 x1.Hi, PEq (.int .i64 x1.Hi), PEq (.bool true), PEq (.bool false), PEq (.bool false), PV (RSlice RSpan) M1 a_list, PEq (.int .i64 k1), PA RSpan M1 x1, PA RInt M1 x1.Hi, PEq (.int .i64 x1.Hi), PEq (.int .i64 a_top), PEq (.bool false), PEq (.bool true), PEq (.bool true), PEq (.bool true), PEq undef, PEq undef, PEq undef, PEq undef, PEq undef, PEq undef, PEq undef, PEq undef, PEq undef, PEq undef, PEq undef, PEq undef, PEq undef, PEq undef, PEq undef] (by kernel_rfl) rfl (by kernel_rfl) ⟨PV.mono _ _ _, PEq.mono _, PA.mono _ _ _, PA.mono _ _ _, PEq.mono _, PV.mono _ _ _, PEq.mono _, PA.mono _ _ _, PA.mono _ _ _, PEq.mono _, PEq.mono _, PEq.mono _, PEq.mono _, PV.mono _ _ _, PEq.mono _, PA.mono _ _ _, PA.mono _ _ _, PEq.mono _, PEq.mono _, PEq.mono _, PEq.mono _, PEq.mono _, PEq.mono _, PEq.mono _, PEq.mono _, PEq.mono _, PEq.mono _, PEq.mono _, PEq.mono _, PEq.mono _, PEq.mono _, PEq.mono _, PEq.mono _, PEq.mono _, PEq.mono _, PEq.mono _, PEq.mono _, PEq.mono _, trivial⟩ ⟨?_, ?_, ?_, ?_, ?_, ?_, ?_, ?_, ?_, ?_, ?_, ?_, ?_, ?_, ?_, ?_, ?_, ?_, ?_, ?_, ?_, ?_, ?_, ?_, ?_, ?_, ?_, ?_, ?_, ?_, ?_, ?_, ?_, ?_, ?_, ?_, ?_, ?_, trivial⟩ ?_
     ·
      intro w86 D hS79 hd79
      have hl86 := Le.no M1 hS79
      have hC86 := hC1.no hS79
      refine dg_sub (E' := [(0, v0p)]) ⟨rfl, trivial⟩ ?_
      refine dg_plain rfl (ow_move rfl rfl ?_)
      exact ⟨BX.refl _ _, (VRep.mono (hl1.trans hl86) h0)⟩
     ·
      intro w87 D hS80 hd80
      have hl87 := Le.no M1 hS80
      have hC87 := hC1.no hS80
      refine dg_sub (E' := [(5, (.int .i64 k1))]) ⟨rfl, trivial⟩ ?_
      refine dg_plain rfl (ow_move rfl rfl ?_)
      exact ⟨BX.refl _ _, rfl⟩
     ·
      intro w88 D hS81 hd81
      have hl88 := Le.no M1 hS81
      have hC88 := hC1.no hS81
      have hd81 : PV (RSlice RSpan) M1 a_list (D 0) w88 ∧ PEq (.int .i64 k1) (D 1) w88 ∧ True := hd81
      obtain ⟨d199, d200, -⟩ := hd81
      obtain ⟨v29, hq9⟩ : ∃ v, (D 0) = v := ⟨_, rfl⟩
      rw [hq9] at d199
      refine dg_sub (E' := [(12, v29), (13, (.int .i64 k1))]) ⟨(congrArg some hq9), (congrArg some d200), trivial⟩ ?_
      refine dg_plain rfl (ow_indexSlice (R := RSpan) rfl rfl rfl d199 Tryd.underlying58 (Tryd.sizeOf76 _) hx1 fun p30 hp30 => ?_)
      exact ⟨BX.refl _ _, ⟨_, rfl, hp30⟩⟩
     ·
      intro w89 D hS82 hd82
      have hl89 := Le.no M1 hS82
      have hC89 := hC1.no hS82
      have hd82 : PA RSpan M1 x1 (D 2) w89 ∧ True := hd82
      obtain ⟨d201, -⟩ := hd82
      obtain ⟨p31, e18, ha17⟩ := d201
      refine dg_sub (E' := [(14, (.pointer (some p31)))]) ⟨(congrArg some e18), trivial⟩ ?_
      refine dg_plain rfl (ow_fieldAddr rfl rfl Tryd.underlying76 rfl (Tryd.sizeOf3 _) ?_)
      exact ⟨BX.refl _ _, ⟨_, rfl, (ha17.fld fld_Span_Lo)⟩⟩
     ·
      intro w90 D hS83 hd83
      have hl90 := Le.no M1 hS83
      have hC90 := hC1.no hS83
      have hd83 : PA RInt M1 x1.Lo (D 3) w90 ∧ True := hd83
      obtain ⟨d202, -⟩ := hd83
      obtain ⟨p32, e19, ha18⟩ := d202
      refine dg_sub (E' := [(15, (.pointer (some p32)))]) ⟨(congrArg some e19), trivial⟩ ?_
      refine dg_plain rfl (ow_load (R := RInt) rfl rfl ha18 (Tryd.sizeOf3 _) (Tryd.isAgg3 _) fun v30 hv30 => ?_)
      obtain rfl := vint_eq hv30
      exact ⟨BX.refl _ _, rfl⟩
     ·
      intro w91 D hS84 hd84
      have hl91 := Le.no M1 hS84
      have hC91 := hC1.no hS84
      refine dg_sub (E' := [(0, v0p)]) ⟨rfl, trivial⟩ ?_
      refine dg_plain rfl (ow_move rfl rfl ?_)
      exact ⟨BX.refl _ _, (VRep.mono (hl1.trans hl91) h0)⟩
     ·
      intro w92 D hS85 hd85
      have hl92 := Le.no M1 hS85
      have hC92 := hC1.no hS85
      refine dg_sub (E' := [(5, (.int .i64 k1))]) ⟨rfl, trivial⟩ ?_
      refine dg_plain rfl (ow_move rfl rfl ?_)
      exact ⟨BX.refl _ _, rfl⟩
     ·
      intro w93 D hS86 hd86
      have hl93 := Le.no M1 hS86
      have hC93 := hC1.no hS86
      have hd86 : PV (RSlice RSpan) M1 a_list (D 5) w93 ∧ PEq (.int .i64 k1) (D 6) w93 ∧ True := hd86
      obtain ⟨d203, d204, -⟩ := hd86
      obtain ⟨v31, hq10⟩ : ∃ v, (D 5) = v := ⟨_, rfl⟩
      rw [hq10] at d203
      refine dg_sub (E' := [(17, v31), (18, (.int .i64 k1))]) ⟨(congrArg some hq10), (congrArg some d204), trivial⟩ ?_
      refine dg_plain rfl (ow_indexSlice (R := RSpan) rfl rfl rfl d203 Tryd.underlying58 (Tryd.sizeOf76 _) hx1 fun p33 hp33 => ?_)
      exact ⟨BX.refl _ _, ⟨_, rfl, hp33⟩⟩
     ·
      intro w94 D hS87 hd87
      have hl94 := Le.no M1 hS87
      have hC94 := hC1.no hS87
      have hd87 : PA RSpan M1 x1 (D 7) w94 ∧ True := hd87
      obtain ⟨d205, -⟩ := hd87
      obtain ⟨p34, e20, ha19⟩ := d205
      refine dg_sub (E' := [(19, (.pointer (some p34)))]) ⟨(congrArg some e20), trivial⟩ ?_
      refine dg_plain rfl (ow_fieldAddr rfl rfl Tryd.underlying76 rfl (Tryd.sizeOf3 _) ?_)
      exact ⟨BX.refl _ _, ⟨_, rfl, (ha19.fld fld_Span_Hi)⟩⟩
     ·
      intro w95 D hS88 hd88
      have hl95 := Le.no M1 hS88
      have hC95 := hC1.no hS88
      have hd88 : PA RInt M1 x1.Hi (D 8) w95 ∧ True := hd88
      obtain ⟨d206, -⟩ := hd88
      obtain ⟨p35, e21, ha20⟩ := d206
      refine dg_sub (E' := [(20, (.pointer (some p35)))]) ⟨(congrArg some e21), trivial⟩ ?_
      refine dg_plain rfl (ow_load (R := RInt) rfl rfl ha20 (Tryd.sizeOf3 _) (Tryd.isAgg3 _) fun v32 hv32 => ?_)
      obtain rfl := vint_eq hv32
      exact ⟨BX.refl _ _, rfl⟩
     ·
      intro w96 D hS89 hd89
      have hl96 := Le.no M1 hS89
      have hC96 := hC1.no hS89
      have hd89 : PEq (.int .i64 x1.Lo) (D 4) w96 ∧ PEq (.int .i64 x1.Hi) (D 9) w96 ∧ True := hd89
      obtain ⟨d207, d208, -⟩ := hd89
      refine dg_sub (E' := [(16, (.int .i64 x1.Lo)), (21, (.int .i64 x1.Hi))]) ⟨(congrArg some d207), (congrArg some d208), trivial⟩ ?_
      refine dg_plain rfl (ow_call rfl rfl Tryd.call82 (w_spec_l1In (hG.mono (hl1.trans hl96)) hC96.old hx2) fun v33 w97 hv33 => ?_)
      obtain ⟨hv33, hb8⟩ := hv33
      have hl97 := Le.no M1 hb8
      have hC97 := hC96.no hb8
      obtain rfl := vbool_eq hv33
      exact ⟨hb8, rfl⟩
     ·
      intro w98 D hS90 hd90
      have hl98 := Le.no M1 hS90
      have hC98 := hC1.no hS90
      have hd90 : PEq (.bool true) (D 10) w98 ∧ True := hd90
      obtain ⟨d209, -⟩ := hd90
      refine dg_sub (E' := [(22, (.bool true))]) ⟨(congrArg some d209), trivial⟩ ?_
      refine dg_plain rfl (ow_not rfl rfl ?_)
      exact ⟨BX.refl _ _, rfl⟩
     ·
      intro w99 D hS91 hd91
      have hl99 := Le.no M1 hS91
      have hC99 := hC1.no hS91
      have hd91 : PEq (.bool false) (D 11) w99 ∧ PEq (.bool true) (D 10) w99 ∧ True := hd91
      obtain ⟨d210, d211, -⟩ := hd91
      refine dg_sub (E' := [(23, (.bool false))]) ⟨(congrArg some d210), trivial⟩ ?_
      refine dg_plain rfl (ow_move rfl rfl ?_)
      exact ⟨BX.refl _ _, rfl⟩
     ·
      intro w100 D hS92 hd92
      have hl100 := Le.no M1 hS92
      have hC100 := hC1.no hS92
      have hd92 : PEq (.bool false) (D 12) w100 ∧ True := hd92
      obtain ⟨d212, -⟩ := hd92
      refine dg_sub (E' := [(24, (.bool false)), (0, v0p)]) ⟨(congrArg some d212), rfl, trivial⟩ ?_
      refine dg_on rfl rfl rfl rfl (ow_move rfl rfl ?_)
      exact ⟨BX.refl _ _, (VRep.mono (hl1.trans hl100) h0)⟩
     ·
      intro w101 D hS93 hd93
      have hl101 := Le.no M1 hS93
      have hC101 := hC1.no hS93
      have hd93 : PEq (.bool false) (D 12) w101 ∧ True := hd93
      obtain ⟨d213, -⟩ := hd93
      refine dg_sub (E' := [(24, (.bool false)), (5, (.int .i64 k1))]) ⟨(congrArg some d213), rfl, trivial⟩ ?_
      refine dg_on rfl rfl rfl rfl (ow_move rfl rfl ?_)
      exact ⟨BX.refl _ _, rfl⟩
     ·
      intro w102 D hS94 hd94
      have hl102 := Le.no M1 hS94
      have hC102 := hC1.no hS94
      have hd94 : PV (RSlice RSpan) M1 a_list (D 13) w102 ∧ PEq (.int .i64 k1) (D 14) w102 ∧ PEq (.bool false) (D 12) w102 ∧ True := hd94
      obtain ⟨d214, d215, d216, -⟩ := hd94
      obtain ⟨v34, hq11⟩ : ∃ v, (D 13) = v := ⟨_, rfl⟩
      rw [hq11] at d214
      refine dg_sub (E' := [(25, v34), (26, (.int .i64 k1)), (24, (.bool false))]) ⟨(congrArg some hq11), (congrArg some d215), (congrArg some d216), trivial⟩ ?_
      refine dg_on rfl rfl rfl rfl (ow_indexSlice (R := RSpan) rfl rfl rfl d214 Tryd.underlying58 (Tryd.sizeOf76 _) hx1 fun p36 hp36 => ?_)
      exact ⟨BX.refl _ _, ⟨_, rfl, hp36⟩⟩
     ·
      intro w103 D hS95 hd95
      have hl103 := Le.no M1 hS95
      have hC103 := hC1.no hS95
      have hd95 : PA RSpan M1 x1 (D 15) w103 ∧ PEq (.bool false) (D 12) w103 ∧ True := hd95
      obtain ⟨d217, d218, -⟩ := hd95
      obtain ⟨p37, e22, ha21⟩ := d217
      refine dg_sub (E' := [(27, (.pointer (some p37))), (24, (.bool false))]) ⟨(congrArg some e22), (congrArg some d218), trivial⟩ ?_
      refine dg_on rfl rfl rfl rfl (ow_fieldAddr rfl rfl Tryd.underlying76 rfl (Tryd.sizeOf3 _) ?_)
      exact ⟨BX.refl _ _, ⟨_, rfl, (ha21.fld fld_Span_Hi)⟩⟩
     ·
      intro w104 D hS96 hd96
      have hl104 := Le.no M1 hS96
      have hC104 := hC1.no hS96
      have hd96 : PA RInt M1 x1.Hi (D 16) w104 ∧ PEq (.bool false) (D 12) w104 ∧ True := hd96
      obtain ⟨d219, d220, -⟩ := hd96
      obtain ⟨p38, e23, ha22⟩ := d219
      refine dg_sub (E' := [(28, (.pointer (some p38))), (24, (.bool false))]) ⟨(congrArg some e23), (congrArg some d220), trivial⟩ ?_
      refine dg_on rfl rfl rfl rfl (ow_load (R := RInt) rfl rfl ha22 (Tryd.sizeOf3 _) (Tryd.isAgg3 _) fun v35 hv35 => ?_)
      obtain rfl := vint_eq hv35
      exact ⟨BX.refl _ _, rfl⟩
     ·
      intro w105 D hS97 hd97
      have hl105 := Le.no M1 hS97
      have hC105 := hC1.no hS97
      have hd97 : PEq (.bool false) (D 12) w105 ∧ True := hd97
      obtain ⟨d221, -⟩ := hd97
      refine dg_sub (E' := [(24, (.bool false)), (1, (.int .i64 a_top))]) ⟨(congrArg some d221), rfl, trivial⟩ ?_
      refine dg_on rfl rfl rfl rfl (ow_move rfl rfl ?_)
      exact ⟨BX.refl _ _, rfl⟩
     ·
      intro w106 D hS98 hd98
      have hl106 := Le.no M1 hS98
      have hC106 := hC1.no hS98
      have hd98 : PEq (.int .i64 x1.Hi) (D 17) w106 ∧ PEq (.int .i64 a_top) (D 18) w106 ∧ PEq (.bool false) (D 12) w106 ∧ PEq (.bool false) (D 12) w106 ∧ True := hd98
      obtain ⟨d222, d223, d224, d225, -⟩ := hd98
      refine dg_sub (E' := [(29, (.int .i64 x1.Hi)), (30, (.int .i64 a_top)), (24, (.bool false))]) ⟨(congrArg some d222), (congrArg some d223), (congrArg some d224), trivial⟩ ?_
      refine dg_on rfl rfl rfl rfl (ow_call rfl rfl Tryd.call82 (w_spec_l1In (hG.mono (hl1.trans hl106)) hC106.old hx3) fun v36 w107 hv36 => ?_)
      obtain ⟨hv36, hb9⟩ := hv36
      have hl107 := Le.no M1 hb9
      have hC107 := hC106.no hb9
      obtain rfl := vbool_eq hv36
      exact ⟨hb9, rfl⟩
     ·
      intro w108 D hS99 hd99
      have hl108 := Le.no M1 hS99
      have hC108 := hC1.no hS99
      have hd99 : PEq (.bool false) (D 19) w108 ∧ PEq (.bool false) (D 12) w108 ∧ True := hd99
      obtain ⟨d226, d227, -⟩ := hd99
      refine dg_sub (E' := [(31, (.bool false)), (24, (.bool false))]) ⟨(congrArg some d226), (congrArg some d227), trivial⟩ ?_
      refine dg_on rfl rfl rfl rfl (ow_not rfl rfl ?_)
      exact ⟨BX.refl _ _, rfl⟩
     ·
      intro w109 D hS100 hd100
      have hl109 := Le.no M1 hS100
      have hC109 := hC1.no hS100
      have hd100 : PEq (.bool false) (D 12) w109 ∧ PEq (.bool true) (D 20) w109 ∧ True := hd100
      obtain ⟨d228, d229, -⟩ := hd100
      refine dg_sub (E' := [(24, (.bool false)), (32, (.bool true))]) ⟨(congrArg some d228), (congrArg some d229), trivial⟩ ?_
      refine dg_plain rfl (ow_pickF rfl rfl rfl ?_)
      exact ⟨BX.refl _ _, rfl⟩
     ·
      intro w110 D hS101 hd101
      have hl110 := Le.no M1 hS101
      have hC110 := hC1.no hS101
      have hd101 : PEq (.bool true) (D 21) w110 ∧ PEq (.bool false) (D 19) w110 ∧ True := hd101
      obtain ⟨d230, d231, -⟩ := hd101
      refine dg_sub (E' := [(33, (.bool true))]) ⟨(congrArg some d230), trivial⟩ ?_
      refine dg_plain rfl (ow_move rfl rfl ?_)
      exact ⟨BX.refl _ _, rfl⟩
     ·
      intro w111 D hS102 hd102
      have hl111 := Le.no M1 hS102
      have hC111 := hC1.no hS102
      have hd102 : PEq (.bool true) (D 22) w111 ∧ True := hd102
      obtain ⟨d232, -⟩ := hd102
      refine dg_sub (E' := [(34, (.bool true)), (5, (.int .i64 k1))]) ⟨(congrArg some d232), rfl, trivial⟩ ?_
      exact dg_off rfl rfl rfl rfl ⟨BX.refl _ _, rfl⟩
     ·
      intro w112 D hS103 hd103
      have hl112 := Le.no M1 hS103
      have hC112 := hC1.no hS103
      have hd103 : PEq undef (D 23) w112 ∧ PEq (.bool true) (D 22) w112 ∧ True := hd103
      obtain ⟨d233, d234, -⟩ := hd103
      refine dg_sub (E' := [(35, undef), (34, (.bool true))]) ⟨(congrArg some d233), (congrArg some d234), trivial⟩ ?_
      exact dg_off rfl rfl rfl rfl ⟨BX.refl _ _, rfl⟩
     ·
      intro w113 D hS104 hd104
      have hl113 := Le.no M1 hS104
      have hC113 := hC1.no hS104
      have hd104 : PEq undef (D 24) w113 ∧ PEq (.bool true) (D 22) w113 ∧ PEq (.bool true) (D 22) w113 ∧ True := hd104
      obtain ⟨d235, d236, d237, -⟩ := hd104
      refine dg_sub (E' := [(36, undef), (34, (.bool true))]) ⟨(congrArg some d235), (congrArg some d236), trivial⟩ ?_
      exact dg_off rfl rfl rfl rfl ⟨BX.refl _ _, rfl⟩
     ·
      intro w114 D hS105 hd105
      have hl114 := Le.no M1 hS105
      have hC114 := hC1.no hS105
      have hd105 : PEq undef (D 25) w114 ∧ True := hd105
      obtain ⟨d238, -⟩ := hd105
      refine dg_sub (E' := [(37, undef), (0, v0p)]) ⟨(congrArg some d238), rfl, trivial⟩ ?_
      exact dg_off' rfl rfl rfl rfl ⟨BX.refl _ _, rfl⟩
     ·
      intro w115 D hS106 hd106
      have hl115 := Le.no M1 hS106
      have hC115 := hC1.no hS106
      have hd106 : PEq undef (D 25) w115 ∧ True := hd106
      obtain ⟨d239, -⟩ := hd106
      refine dg_sub (E' := [(37, undef), (5, (.int .i64 k1))]) ⟨(congrArg some d239), rfl, trivial⟩ ?_
      exact dg_off' rfl rfl rfl rfl ⟨BX.refl _ _, rfl⟩
     ·
      intro w116 D hS107 hd107
      have hl116 := Le.no M1 hS107
      have hC116 := hC1.no hS107
      have hd107 : PEq undef (D 26) w116 ∧ PEq undef (D 27) w116 ∧ PEq undef (D 25) w116 ∧ True := hd107
      obtain ⟨d240, d241, d242, -⟩ := hd107
      refine dg_sub (E' := [(38, undef), (39, undef), (37, undef)]) ⟨(congrArg some d240), (congrArg some d241), (congrArg some d242), trivial⟩ ?_
      exact dg_off' rfl rfl rfl rfl ⟨BX.refl _ _, rfl⟩
     ·
      intro w117 D hS108 hd108
      have hl117 := Le.no M1 hS108
      have hC117 := hC1.no hS108
      have hd108 : PEq undef (D 28) w117 ∧ PEq undef (D 25) w117 ∧ True := hd108
      obtain ⟨d243, d244, -⟩ := hd108
      refine dg_sub (E' := [(40, undef), (37, undef)]) ⟨(congrArg some d243), (congrArg some d244), trivial⟩ ?_
      exact dg_off' rfl rfl rfl rfl ⟨BX.refl _ _, rfl⟩
     ·
      intro w118 D hS109 hd109
      have hl118 := Le.no M1 hS109
      have hC118 := hC1.no hS109
      have hd109 : PEq undef (D 29) w118 ∧ PEq undef (D 25) w118 ∧ True := hd109
      obtain ⟨d245, d246, -⟩ := hd109
      refine dg_sub (E' := [(41, undef), (37, undef)]) ⟨(congrArg some d245), (congrArg some d246), trivial⟩ ?_
      exact dg_off' rfl rfl rfl rfl ⟨BX.refl _ _, rfl⟩
     ·
      intro w119 D hS110 hd110
      have hl119 := Le.no M1 hS110
      have hC119 := hC1.no hS110
      have hd110 : PEq undef (D 25) w119 ∧ True := hd110
      obtain ⟨d247, -⟩ := hd110
      refine dg_sub (E' := [(37, undef), (0, v0p)]) ⟨(congrArg some d247), rfl, trivial⟩ ?_
      exact dg_off' rfl rfl rfl rfl ⟨BX.refl _ _, rfl⟩
     ·
      intro w120 D hS111 hd111
      have hl120 := Le.no M1 hS111
      have hC120 := hC1.no hS111
      have hd111 : PEq undef (D 25) w120 ∧ True := hd111
      obtain ⟨d248, -⟩ := hd111
      refine dg_sub (E' := [(37, undef), (5, (.int .i64 k1))]) ⟨(congrArg some d248), rfl, trivial⟩ ?_
      exact dg_off' rfl rfl rfl rfl ⟨BX.refl _ _, rfl⟩
     ·
      intro w121 D hS112 hd112
      have hl121 := Le.no M1 hS112
      have hC121 := hC1.no hS112
      have hd112 : PEq undef (D 32) w121 ∧ PEq undef (D 25) w121 ∧ True := hd112
      obtain ⟨d249, d250, -⟩ := hd112
      refine dg_sub (E' := [(44, undef), (37, undef)]) ⟨(congrArg some d249), (congrArg some d250), trivial⟩ ?_
      exact dg_off' rfl rfl rfl rfl ⟨BX.refl _ _, rfl⟩
     ·
      intro w122 D hS113 hd113
      have hl122 := Le.no M1 hS113
      have hC122 := hC1.no hS113
      have hd113 : PEq undef (D 31) w122 ∧ PEq undef (D 33) w122 ∧ PEq undef (D 25) w122 ∧ True := hd113
      obtain ⟨d251, d252, d253, -⟩ := hd113
      refine dg_sub (E' := [(43, undef), (45, undef), (37, undef)]) ⟨(congrArg some d251), (congrArg some d252), (congrArg some d253), trivial⟩ ?_
      exact dg_off' rfl rfl rfl rfl ⟨BX.refl _ _, rfl⟩
     ·
      intro w123 D hS114 hd114
      have hl123 := Le.no M1 hS114
      have hC123 := hC1.no hS114
      have hd114 : PEq undef (D 34) w123 ∧ PEq undef (D 25) w123 ∧ True := hd114
      obtain ⟨d254, d255, -⟩ := hd114
      refine dg_sub (E' := [(46, undef), (37, undef)]) ⟨(congrArg some d254), (congrArg some d255), trivial⟩ ?_
      exact dg_off' rfl rfl rfl rfl ⟨BX.refl _ _, rfl⟩
     ·
      intro w124 D hS115 hd115
      have hl124 := Le.no M1 hS115
      have hC124 := hC1.no hS115
      have hd115 : PEq undef (D 35) w124 ∧ PEq undef (D 25) w124 ∧ True := hd115
      obtain ⟨d256, d257, -⟩ := hd115
      refine dg_sub (E' := [(47, undef), (37, undef)]) ⟨(congrArg some d256), (congrArg some d257), trivial⟩ ?_
      exact dg_off' rfl rfl rfl rfl ⟨BX.refl _ _, rfl⟩
     ·
      intro w125 D hS116 hd116
      have hl125 := Le.no M1 hS116
      have hC125 := hC1.no hS116
      have hd116 : PEq undef (D 36) w125 ∧ PEq undef (D 25) w125 ∧ True := hd116
      obtain ⟨d258, d259, -⟩ := hd116
      refine dg_sub (E' := [(48, undef), (37, undef)]) ⟨(congrArg some d258), (congrArg some d259), trivial⟩ ?_
      exact dg_off' rfl rfl rfl rfl ⟨BX.refl _ _, rfl⟩
     ·
      intro w126 D hS117 hd117
      have hd117 : PV (RSlice RSpan) M1 a_list (D 0) w126 ∧ PEq (.int .i64 k1) (D 1) w126 ∧ PA RSpan M1 x1 (D 2) w126 ∧ PA RInt M1 x1.Lo (D 3) w126 ∧ PEq (.int .i64 x1.Lo) (D 4) w126 ∧ PV (RSlice RSpan) M1 a_list (D 5) w126 ∧ PEq (.int .i64 k1) (D 6) w126 ∧ PA RSpan M1 x1 (D 7) w126 ∧ PA RInt M1 x1.Hi (D 8) w126 ∧ PEq (.int .i64 x1.Hi) (D 9) w126 ∧ PEq (.bool true) (D 10) w126 ∧ PEq (.bool false) (D 11) w126 ∧ PEq (.bool false) (D 12) w126 ∧ PV (RSlice RSpan) M1 a_list (D 13) w126 ∧ PEq (.int .i64 k1) (D 14) w126 ∧ PA RSpan M1 x1 (D 15) w126 ∧ PA RInt M1 x1.Hi (D 16) w126 ∧ PEq (.int .i64 x1.Hi) (D 17) w126 ∧ PEq (.int .i64 a_top) (D 18) w126 ∧ PEq (.bool false) (D 19) w126 ∧ PEq (.bool true) (D 20) w126 ∧ PEq (.bool true) (D 21) w126 ∧ PEq (.bool true) (D 22) w126 ∧ PEq undef (D 23) w126 ∧ PEq undef (D 24) w126 ∧ PEq undef (D 25) w126 ∧ PEq undef (D 26) w126 ∧ PEq undef (D 27) w126 ∧ PEq undef (D 28) w126 ∧ PEq undef (D 29) w126 ∧ PEq undef (D 30) w126 ∧ PEq undef (D 31) w126 ∧ PEq undef (D 32) w126 ∧ PEq undef (D 33) w126 ∧ PEq undef (D 34) w126 ∧ PEq undef (D 35) w126 ∧ PEq undef (D 36) w126 ∧ PEq undef (D 37) w126 ∧ True := hd117
      obtain ⟨-, -, -, -, -, -, -, -, -, -, -, -, -, -, -, -, -, -, -, -, -, -, d282, -, -, d285, -, -, -, -, d290, -, -, -, -, -, -, d297, -⟩ := hd117
      have hl126 := Le.no M1 hS117
      have hC126 := hC1.no hS117
      refine lw_sub (E' := [(34, (.bool true)), (37, undef), (42, undef), (49, undef), (0, v0p), (1, (.int .i64 a_top)), (5, (.int .i64 k1))]) ⟨(congrArg some d282), (congrArg some d285), (congrArg some d290), (congrArg some d297), rfl, rfl, rfl, trivial⟩ ?_
      refine lw_off' rfl rfl rfl rfl rfl rfl ?_
      refine lw_off rfl rfl rfl rfl rfl rfl ?_
      refine lw_op rfl rfl rfl (ow_pickT rfl rfl rfl ?_)
      refine lw_nil (ew_then (cw_true rfl ?_))
      refine cw_seq (cw_region (lw_op rfl rfl rfl (ow_assign rfl rfl ?_)))
      refine lw_nil (ew_then (cw_ret (ew_blockR ?_)))
      refine ew_thenR (ew_thenR (ew_blockR ?_))
      refine ew_brkR ?_
      refine ew_thenR ?_
      have e24 := hR1 _ (Option.some.inj hb1).symm
      subst e24
      obtain rfl := Option.some.inj h
      exact ew_ret (res1 rfl (.tmp rfl)) ⟨_, rfl, ((vbool _)), hC126.bx⟩
   ·
    subst hc2
    refine cw_sub (E' := [(0, v0p), (1, (.int .i64 a_top)), (5, (.int .i64 k1))]) ⟨rfl, rfl, rfl, trivial⟩ ?_
    refine cw_drawQ 38 [PV (RSlice RSpan) M1 a_list, PEq (.int .i64 k1), PA RSpan M1 x1, PA RInt M1 x1.Lo, PEq (.int .i64 x1.Lo), PV (RSlice RSpan) M1 a_list, PEq (.int .i64 k1), PA RSpan M1 x1, PA RInt M1 x1.Hi, PEq (.int .i64 x1.Hi), PEq (.bool false), PEq (.bool true), PEq (.bool true), PEq undef, PEq undef, PEq undef, PEq undef, PEq undef, PEq undef, PEq undef, PEq undef, PEq (.bool true), PEq (.bool true), PEq undef, PEq undef, PEq undef, PEq undef, PEq undef, PEq undef, PEq undef, PEq undef, PEq undef, PEq undef, PEq undef, PEq undef, PEq undef, PEq undef, PEq undef] (by kernel_rfl) rfl (by kernel_rfl) ⟨PV.mono _ _ _, PEq.mono _, PA.mono _ _ _, PA.mono _ _ _, PEq.mono _, PV.mono _ _ _, PEq.mono _, PA.mono _ _ _, PA.mono _ _ _, PEq.mono _, PEq.mono _, PEq.mono _, PEq.mono _, PEq.mono _, PEq.mono _, PEq.mono _, PEq.mono _, PEq.mono _, PEq.mono _, PEq.mono _, PEq.mono _, PEq.mono _, PEq.mono _, PEq.mono _, PEq.mono _, PEq.mono _, PEq.mono _, PEq.mono _, PEq.mono _, PEq.mono _, PEq.mono _, PEq.mono _, PEq.mono _, PEq.mono _, PEq.mono _, PEq.mono _, PEq.mono _, PEq.mono _, trivial⟩ ⟨?_, ?_, ?_, ?_, ?_, ?_, ?_, ?_, ?_, ?_, ?_, ?_, ?_, ?_, ?_, ?_, ?_, ?_, ?_, ?_, ?_, ?_, ?_, ?_, ?_, ?_, ?_, ?_, ?_, ?_, ?_, ?_, ?_, ?_, ?_, ?_, ?_, ?_, trivial⟩ ?_
    ·
     intro w127 D hS118 hd118
     have hl127 := Le.no M1 hS118
     have hC127 := hC1.no hS118
     refine dg_sub (E' := [(0, v0p)]) ⟨rfl, trivial⟩ ?_
     refine dg_plain rfl (ow_move rfl rfl ?_)
     exact ⟨BX.refl _ _, (VRep.mono (hl1.trans hl127) h0)⟩
    ·
     intro w128 D hS119 hd119
     have hl128 := Le.no M1 hS119
     have hC128 := hC1.no hS119
     refine dg_sub (E' := [(5, (.int .i64 k1))]) ⟨rfl, trivial⟩ ?_
     refine dg_plain rfl (ow_move rfl rfl ?_)
     exact ⟨BX.refl _ _, rfl⟩
    ·
     intro w129 D hS120 hd120
     have hl129 := Le.no M1 hS120
     have hC129 := hC1.no hS120
     have hd120 : PV (RSlice RSpan) M1 a_list (D 0) w129 ∧ PEq (.int .i64 k1) (D 1) w129 ∧ True := hd120
     obtain ⟨d298, d299, -⟩ := hd120
     obtain ⟨v37, hq12⟩ : ∃ v, (D 0) = v := ⟨_, rfl⟩
     rw [hq12] at d298
     refine dg_sub (E' := [(12, v37), (13, (.int .i64 k1))]) ⟨(congrArg some hq12), (congrArg some d299), trivial⟩ ?_
     refine dg_plain rfl (ow_indexSlice (R := RSpan) rfl rfl rfl d298 Tryd.underlying58 (Tryd.sizeOf76 _) hx1 fun p39 hp39 => ?_)
     exact ⟨BX.refl _ _, ⟨_, rfl, hp39⟩⟩
    ·
     intro w130 D hS121 hd121
     have hl130 := Le.no M1 hS121
     have hC130 := hC1.no hS121
     have hd121 : PA RSpan M1 x1 (D 2) w130 ∧ True := hd121
     obtain ⟨d300, -⟩ := hd121
     obtain ⟨p40, e25, ha23⟩ := d300
     refine dg_sub (E' := [(14, (.pointer (some p40)))]) ⟨(congrArg some e25), trivial⟩ ?_
     refine dg_plain rfl (ow_fieldAddr rfl rfl Tryd.underlying76 rfl (Tryd.sizeOf3 _) ?_)
     exact ⟨BX.refl _ _, ⟨_, rfl, (ha23.fld fld_Span_Lo)⟩⟩
    ·
     intro w131 D hS122 hd122
     have hl131 := Le.no M1 hS122
     have hC131 := hC1.no hS122
     have hd122 : PA RInt M1 x1.Lo (D 3) w131 ∧ True := hd122
     obtain ⟨d301, -⟩ := hd122
     obtain ⟨p41, e26, ha24⟩ := d301
     refine dg_sub (E' := [(15, (.pointer (some p41)))]) ⟨(congrArg some e26), trivial⟩ ?_
     refine dg_plain rfl (ow_load (R := RInt) rfl rfl ha24 (Tryd.sizeOf3 _) (Tryd.isAgg3 _) fun v38 hv38 => ?_)
     obtain rfl := vint_eq hv38
     exact ⟨BX.refl _ _, rfl⟩
    ·
     intro w132 D hS123 hd123
     have hl132 := Le.no M1 hS123
     have hC132 := hC1.no hS123
     refine dg_sub (E' := [(0, v0p)]) ⟨rfl, trivial⟩ ?_
     refine dg_plain rfl (ow_move rfl rfl ?_)
     exact ⟨BX.refl _ _, (VRep.mono (hl1.trans hl132) h0)⟩
    ·
     intro w133 D hS124 hd124
     have hl133 := Le.no M1 hS124
     have hC133 := hC1.no hS124
     refine dg_sub (E' := [(5, (.int .i64 k1))]) ⟨rfl, trivial⟩ ?_
     refine dg_plain rfl (ow_move rfl rfl ?_)
     exact ⟨BX.refl _ _, rfl⟩
    ·
     intro w134 D hS125 hd125
     have hl134 := Le.no M1 hS125
     have hC134 := hC1.no hS125
     have hd125 : PV (RSlice RSpan) M1 a_list (D 5) w134 ∧ PEq (.int .i64 k1) (D 6) w134 ∧ True := hd125
     obtain ⟨d302, d303, -⟩ := hd125
     obtain ⟨v39, hq13⟩ : ∃ v, (D 5) = v := ⟨_, rfl⟩
     rw [hq13] at d302
     refine dg_sub (E' := [(17, v39), (18, (.int .i64 k1))]) ⟨(congrArg some hq13), (congrArg some d303), trivial⟩ ?_
     refine dg_plain rfl (ow_indexSlice (R := RSpan) rfl rfl rfl d302 Tryd.underlying58 (Tryd.sizeOf76 _) hx1 fun p42 hp42 => ?_)
     exact ⟨BX.refl _ _, ⟨_, rfl, hp42⟩⟩
    ·
     intro w135 D hS126 hd126
     have hl135 := Le.no M1 hS126
     have hC135 := hC1.no hS126
     have hd126 : PA RSpan M1 x1 (D 7) w135 ∧ True := hd126
     obtain ⟨d304, -⟩ := hd126
     obtain ⟨p43, e27, ha25⟩ := d304
     refine dg_sub (E' := [(19, (.pointer (some p43)))]) ⟨(congrArg some e27), trivial⟩ ?_
     refine dg_plain rfl (ow_fieldAddr rfl rfl Tryd.underlying76 rfl (Tryd.sizeOf3 _) ?_)
     exact ⟨BX.refl _ _, ⟨_, rfl, (ha25.fld fld_Span_Hi)⟩⟩
    ·
     intro w136 D hS127 hd127
     have hl136 := Le.no M1 hS127
     have hC136 := hC1.no hS127
     have hd127 : PA RInt M1 x1.Hi (D 8) w136 ∧ True := hd127
     obtain ⟨d305, -⟩ := hd127
     obtain ⟨p44, e28, ha26⟩ := d305
     refine dg_sub (E' := [(20, (.pointer (some p44)))]) ⟨(congrArg some e28), trivial⟩ ?_
     refine dg_plain rfl (ow_load (R := RInt) rfl rfl ha26 (Tryd.sizeOf3 _) (Tryd.isAgg3 _) fun v40 hv40 => ?_)
     obtain rfl := vint_eq hv40
     exact ⟨BX.refl _ _, rfl⟩
    ·
     intro w137 D hS128 hd128
     have hl137 := Le.no M1 hS128
     have hC137 := hC1.no hS128
     have hd128 : PEq (.int .i64 x1.Lo) (D 4) w137 ∧ PEq (.int .i64 x1.Hi) (D 9) w137 ∧ True := hd128
     obtain ⟨d306, d307, -⟩ := hd128
     refine dg_sub (E' := [(16, (.int .i64 x1.Lo)), (21, (.int .i64 x1.Hi))]) ⟨(congrArg some d306), (congrArg some d307), trivial⟩ ?_
     refine dg_plain rfl (ow_call rfl rfl Tryd.call82 (w_spec_l1In (hG.mono (hl1.trans hl137)) hC137.old hx2) fun v41 w138 hv41 => ?_)
     obtain ⟨hv41, hb10⟩ := hv41
     have hl138 := Le.no M1 hb10
     have hC138 := hC137.no hb10
     obtain rfl := vbool_eq hv41
     exact ⟨hb10, rfl⟩
    ·
     intro w139 D hS129 hd129
     have hl139 := Le.no M1 hS129
     have hC139 := hC1.no hS129
     have hd129 : PEq (.bool false) (D 10) w139 ∧ True := hd129
     obtain ⟨d308, -⟩ := hd129
     refine dg_sub (E' := [(22, (.bool false))]) ⟨(congrArg some d308), trivial⟩ ?_
     refine dg_plain rfl (ow_not rfl rfl ?_)
     exact ⟨BX.refl _ _, rfl⟩
    ·
     intro w140 D hS130 hd130
     have hl140 := Le.no M1 hS130
     have hC140 := hC1.no hS130
     have hd130 : PEq (.bool true) (D 11) w140 ∧ PEq (.bool false) (D 10) w140 ∧ True := hd130
     obtain ⟨d309, d310, -⟩ := hd130
     refine dg_sub (E' := [(23, (.bool true))]) ⟨(congrArg some d309), trivial⟩ ?_
     refine dg_plain rfl (ow_move rfl rfl ?_)
     exact ⟨BX.refl _ _, rfl⟩
    ·
     intro w141 D hS131 hd131
     have hl141 := Le.no M1 hS131
     have hC141 := hC1.no hS131
     have hd131 : PEq (.bool true) (D 12) w141 ∧ True := hd131
     obtain ⟨d311, -⟩ := hd131
     refine dg_sub (E' := [(24, (.bool true)), (0, v0p)]) ⟨(congrArg some d311), rfl, trivial⟩ ?_
     exact dg_off rfl rfl rfl rfl ⟨BX.refl _ _, rfl⟩
    ·
     intro w142 D hS132 hd132
     have hl142 := Le.no M1 hS132
     have hC142 := hC1.no hS132
     have hd132 : PEq (.bool true) (D 12) w142 ∧ True := hd132
     obtain ⟨d312, -⟩ := hd132
     refine dg_sub (E' := [(24, (.bool true)), (5, (.int .i64 k1))]) ⟨(congrArg some d312), rfl, trivial⟩ ?_
     exact dg_off rfl rfl rfl rfl ⟨BX.refl _ _, rfl⟩
    ·
     intro w143 D hS133 hd133
     have hl143 := Le.no M1 hS133
     have hC143 := hC1.no hS133
     have hd133 : PEq undef (D 13) w143 ∧ PEq undef (D 14) w143 ∧ PEq (.bool true) (D 12) w143 ∧ True := hd133
     obtain ⟨d313, d314, d315, -⟩ := hd133
     refine dg_sub (E' := [(25, undef), (26, undef), (24, (.bool true))]) ⟨(congrArg some d313), (congrArg some d314), (congrArg some d315), trivial⟩ ?_
     exact dg_off rfl rfl rfl rfl ⟨BX.refl _ _, rfl⟩
    ·
     intro w144 D hS134 hd134
     have hl144 := Le.no M1 hS134
     have hC144 := hC1.no hS134
     have hd134 : PEq undef (D 15) w144 ∧ PEq (.bool true) (D 12) w144 ∧ True := hd134
     obtain ⟨d316, d317, -⟩ := hd134
     refine dg_sub (E' := [(27, undef), (24, (.bool true))]) ⟨(congrArg some d316), (congrArg some d317), trivial⟩ ?_
     exact dg_off rfl rfl rfl rfl ⟨BX.refl _ _, rfl⟩
    ·
     intro w145 D hS135 hd135
     have hl145 := Le.no M1 hS135
     have hC145 := hC1.no hS135
     have hd135 : PEq undef (D 16) w145 ∧ PEq (.bool true) (D 12) w145 ∧ True := hd135
     obtain ⟨d318, d319, -⟩ := hd135
     refine dg_sub (E' := [(28, undef), (24, (.bool true))]) ⟨(congrArg some d318), (congrArg some d319), trivial⟩ ?_
     exact dg_off rfl rfl rfl rfl ⟨BX.refl _ _, rfl⟩
    ·
     intro w146 D hS136 hd136
     have hl146 := Le.no M1 hS136
     have hC146 := hC1.no hS136
     have hd136 : PEq (.bool true) (D 12) w146 ∧ True := hd136
     obtain ⟨d320, -⟩ := hd136
     refine dg_sub (E' := [(24, (.bool true)), (1, (.int .i64 a_top))]) ⟨(congrArg some d320), rfl, trivial⟩ ?_
     exact dg_off rfl rfl rfl rfl ⟨BX.refl _ _, rfl⟩
    ·
     intro w147 D hS137 hd137
     have hl147 := Le.no M1 hS137
     have hC147 := hC1.no hS137
     have hd137 : PEq undef (D 17) w147 ∧ PEq undef (D 18) w147 ∧ PEq (.bool true) (D 12) w147 ∧ PEq (.bool true) (D 12) w147 ∧ True := hd137
     obtain ⟨d321, d322, d323, d324, -⟩ := hd137
     refine dg_sub (E' := [(29, undef), (30, undef), (24, (.bool true))]) ⟨(congrArg some d321), (congrArg some d322), (congrArg some d323), trivial⟩ ?_
     exact dg_off rfl rfl rfl rfl ⟨BX.refl _ _, rfl⟩
    ·
     intro w148 D hS138 hd138
     have hl148 := Le.no M1 hS138
     have hC148 := hC1.no hS138
     have hd138 : PEq undef (D 19) w148 ∧ PEq (.bool true) (D 12) w148 ∧ True := hd138
     obtain ⟨d325, d326, -⟩ := hd138
     refine dg_sub (E' := [(31, undef), (24, (.bool true))]) ⟨(congrArg some d325), (congrArg some d326), trivial⟩ ?_
     exact dg_off rfl rfl rfl rfl ⟨BX.refl _ _, rfl⟩
    ·
     intro w149 D hS139 hd139
     have hl149 := Le.no M1 hS139
     have hC149 := hC1.no hS139
     have hd139 : PEq (.bool true) (D 12) w149 ∧ PEq undef (D 20) w149 ∧ True := hd139
     obtain ⟨d327, d328, -⟩ := hd139
     refine dg_sub (E' := [(24, (.bool true)), (32, undef)]) ⟨(congrArg some d327), (congrArg some d328), trivial⟩ ?_
     refine dg_plain rfl (ow_pickT rfl rfl rfl ?_)
     exact ⟨BX.refl _ _, rfl⟩
    ·
     intro w150 D hS140 hd140
     have hl150 := Le.no M1 hS140
     have hC150 := hC1.no hS140
     have hd140 : PEq (.bool true) (D 21) w150 ∧ PEq undef (D 19) w150 ∧ True := hd140
     obtain ⟨d329, d330, -⟩ := hd140
     refine dg_sub (E' := [(33, (.bool true))]) ⟨(congrArg some d329), trivial⟩ ?_
     refine dg_plain rfl (ow_move rfl rfl ?_)
     exact ⟨BX.refl _ _, rfl⟩
    ·
     intro w151 D hS141 hd141
     have hl151 := Le.no M1 hS141
     have hC151 := hC1.no hS141
     have hd141 : PEq (.bool true) (D 22) w151 ∧ True := hd141
     obtain ⟨d331, -⟩ := hd141
     refine dg_sub (E' := [(34, (.bool true)), (5, (.int .i64 k1))]) ⟨(congrArg some d331), rfl, trivial⟩ ?_
     exact dg_off rfl rfl rfl rfl ⟨BX.refl _ _, rfl⟩
    ·
     intro w152 D hS142 hd142
     have hl152 := Le.no M1 hS142
     have hC152 := hC1.no hS142
     have hd142 : PEq undef (D 23) w152 ∧ PEq (.bool true) (D 22) w152 ∧ True := hd142
     obtain ⟨d332, d333, -⟩ := hd142
     refine dg_sub (E' := [(35, undef), (34, (.bool true))]) ⟨(congrArg some d332), (congrArg some d333), trivial⟩ ?_
     exact dg_off rfl rfl rfl rfl ⟨BX.refl _ _, rfl⟩
    ·
     intro w153 D hS143 hd143
     have hl153 := Le.no M1 hS143
     have hC153 := hC1.no hS143
     have hd143 : PEq undef (D 24) w153 ∧ PEq (.bool true) (D 22) w153 ∧ PEq (.bool true) (D 22) w153 ∧ True := hd143
     obtain ⟨d334, d335, d336, -⟩ := hd143
     refine dg_sub (E' := [(36, undef), (34, (.bool true))]) ⟨(congrArg some d334), (congrArg some d335), trivial⟩ ?_
     exact dg_off rfl rfl rfl rfl ⟨BX.refl _ _, rfl⟩
    ·
     intro w154 D hS144 hd144
     have hl154 := Le.no M1 hS144
     have hC154 := hC1.no hS144
     have hd144 : PEq undef (D 25) w154 ∧ True := hd144
     obtain ⟨d337, -⟩ := hd144
     refine dg_sub (E' := [(37, undef), (0, v0p)]) ⟨(congrArg some d337), rfl, trivial⟩ ?_
     exact dg_off' rfl rfl rfl rfl ⟨BX.refl _ _, rfl⟩
    ·
     intro w155 D hS145 hd145
     have hl155 := Le.no M1 hS145
     have hC155 := hC1.no hS145
     have hd145 : PEq undef (D 25) w155 ∧ True := hd145
     obtain ⟨d338, -⟩ := hd145
     refine dg_sub (E' := [(37, undef), (5, (.int .i64 k1))]) ⟨(congrArg some d338), rfl, trivial⟩ ?_
     exact dg_off' rfl rfl rfl rfl ⟨BX.refl _ _, rfl⟩
    ·
     intro w156 D hS146 hd146
     have hl156 := Le.no M1 hS146
     have hC156 := hC1.no hS146
     have hd146 : PEq undef (D 26) w156 ∧ PEq undef (D 27) w156 ∧ PEq undef (D 25) w156 ∧ True := hd146
     obtain ⟨d339, d340, d341, -⟩ := hd146
     refine dg_sub (E' := [(38, undef), (39, undef), (37, undef)]) ⟨(congrArg some d339), (congrArg some d340), (congrArg some d341), trivial⟩ ?_
     exact dg_off' rfl rfl rfl rfl ⟨BX.refl _ _, rfl⟩
    ·
     intro w157 D hS147 hd147
     have hl157 := Le.no M1 hS147
     have hC157 := hC1.no hS147
     have hd147 : PEq undef (D 28) w157 ∧ PEq undef (D 25) w157 ∧ True := hd147
     obtain ⟨d342, d343, -⟩ := hd147
     refine dg_sub (E' := [(40, undef), (37, undef)]) ⟨(congrArg some d342), (congrArg some d343), trivial⟩ ?_
     exact dg_off' rfl rfl rfl rfl ⟨BX.refl _ _, rfl⟩
    ·
     intro w158 D hS148 hd148
     have hl158 := Le.no M1 hS148
     have hC158 := hC1.no hS148
     have hd148 : PEq undef (D 29) w158 ∧ PEq undef (D 25) w158 ∧ True := hd148
     obtain ⟨d344, d345, -⟩ := hd148
     refine dg_sub (E' := [(41, undef), (37, undef)]) ⟨(congrArg some d344), (congrArg some d345), trivial⟩ ?_
     exact dg_off' rfl rfl rfl rfl ⟨BX.refl _ _, rfl⟩
    ·
     intro w159 D hS149 hd149
     have hl159 := Le.no M1 hS149
     have hC159 := hC1.no hS149
     have hd149 : PEq undef (D 25) w159 ∧ True := hd149
     obtain ⟨d346, -⟩ := hd149
     refine dg_sub (E' := [(37, undef), (0, v0p)]) ⟨(congrArg some d346), rfl, trivial⟩ ?_
     exact dg_off' rfl rfl rfl rfl ⟨BX.refl _ _, rfl⟩
    ·
     intro w160 D hS150 hd150
     have hl160 := Le.no M1 hS150
     have hC160 := hC1.no hS150
     have hd150 : PEq undef (D 25) w160 ∧ True := hd150
     obtain ⟨d347, -⟩ := hd150
     refine dg_sub (E' := [(37, undef), (5, (.int .i64 k1))]) ⟨(congrArg some d347), rfl, trivial⟩ ?_
     exact dg_off' rfl rfl rfl rfl ⟨BX.refl _ _, rfl⟩
    ·
     intro w161 D hS151 hd151
     have hl161 := Le.no M1 hS151
     have hC161 := hC1.no hS151
     have hd151 : PEq undef (D 32) w161 ∧ PEq undef (D 25) w161 ∧ True := hd151
     obtain ⟨d348, d349, -⟩ := hd151
     refine dg_sub (E' := [(44, undef), (37, undef)]) ⟨(congrArg some d348), (congrArg some d349), trivial⟩ ?_
     exact dg_off' rfl rfl rfl rfl ⟨BX.refl _ _, rfl⟩
    ·
     intro w162 D hS152 hd152
     have hl162 := Le.no M1 hS152
     have hC162 := hC1.no hS152
     have hd152 : PEq undef (D 31) w162 ∧ PEq undef (D 33) w162 ∧ PEq undef (D 25) w162 ∧ True := hd152
     obtain ⟨d350, d351, d352, -⟩ := hd152
     refine dg_sub (E' := [(43, undef), (45, undef), (37, undef)]) ⟨(congrArg some d350), (congrArg some d351), (congrArg some d352), trivial⟩ ?_
     exact dg_off' rfl rfl rfl rfl ⟨BX.refl _ _, rfl⟩
    ·
     intro w163 D hS153 hd153
     have hl163 := Le.no M1 hS153
     have hC163 := hC1.no hS153
     have hd153 : PEq undef (D 34) w163 ∧ PEq undef (D 25) w163 ∧ True := hd153
     obtain ⟨d353, d354, -⟩ := hd153
     refine dg_sub (E' := [(46, undef), (37, undef)]) ⟨(congrArg some d353), (congrArg some d354), trivial⟩ ?_
     exact dg_off' rfl rfl rfl rfl ⟨BX.refl _ _, rfl⟩
    ·
     intro w164 D hS154 hd154
     have hl164 := Le.no M1 hS154
     have hC164 := hC1.no hS154
     have hd154 : PEq undef (D 35) w164 ∧ PEq undef (D 25) w164 ∧ True := hd154
     obtain ⟨d355, d356, -⟩ := hd154
     refine dg_sub (E' := [(47, undef), (37, undef)]) ⟨(congrArg some d355), (congrArg some d356), trivial⟩ ?_
     exact dg_off' rfl rfl rfl rfl ⟨BX.refl _ _, rfl⟩
    ·
     intro w165 D hS155 hd155
     have hl165 := Le.no M1 hS155
     have hC165 := hC1.no hS155
     have hd155 : PEq undef (D 36) w165 ∧ PEq undef (D 25) w165 ∧ True := hd155
     obtain ⟨d357, d358, -⟩ := hd155
     refine dg_sub (E' := [(48, undef), (37, undef)]) ⟨(congrArg some d357), (congrArg some d358), trivial⟩ ?_
     exact dg_off' rfl rfl rfl rfl ⟨BX.refl _ _, rfl⟩
    ·
     intro w166 D hS156 hd156
     have hd156 : PV (RSlice RSpan) M1 a_list (D 0) w166 ∧ PEq (.int .i64 k1) (D 1) w166 ∧ PA RSpan M1 x1 (D 2) w166 ∧ PA RInt M1 x1.Lo (D 3) w166 ∧ PEq (.int .i64 x1.Lo) (D 4) w166 ∧ PV (RSlice RSpan) M1 a_list (D 5) w166 ∧ PEq (.int .i64 k1) (D 6) w166 ∧ PA RSpan M1 x1 (D 7) w166 ∧ PA RInt M1 x1.Hi (D 8) w166 ∧ PEq (.int .i64 x1.Hi) (D 9) w166 ∧ PEq (.bool false) (D 10) w166 ∧ PEq (.bool true) (D 11) w166 ∧ PEq (.bool true) (D 12) w166 ∧ PEq undef (D 13) w166 ∧ PEq undef (D 14) w166 ∧ PEq undef (D 15) w166 ∧ PEq undef (D 16) w166 ∧ PEq undef (D 17) w166 ∧ PEq undef (D 18) w166 ∧ PEq undef (D 19) w166 ∧ PEq undef (D 20) w166 ∧ PEq (.bool true) (D 21) w166 ∧ PEq (.bool true) (D 22) w166 ∧ PEq undef (D 23) w166 ∧ PEq undef (D 24) w166 ∧ PEq undef (D 25) w166 ∧ PEq undef (D 26) w166 ∧ PEq undef (D 27) w166 ∧ PEq undef (D 28) w166 ∧ PEq undef (D 29) w166 ∧ PEq undef (D 30) w166 ∧ PEq undef (D 31) w166 ∧ PEq undef (D 32) w166 ∧ PEq undef (D 33) w166 ∧ PEq undef (D 34) w166 ∧ PEq undef (D 35) w166 ∧ PEq undef (D 36) w166 ∧ PEq undef (D 37) w166 ∧ True := hd156
     obtain ⟨-, -, -, -, -, -, -, -, -, -, -, -, -, -, -, -, -, -, -, -, -, -, d381, -, -, d384, -, -, -, -, d389, -, -, -, -, -, -, d396, -⟩ := hd156
     have hl166 := Le.no M1 hS156
     have hC166 := hC1.no hS156
     refine lw_sub (E' := [(34, (.bool true)), (37, undef), (42, undef), (49, undef), (0, v0p), (1, (.int .i64 a_top)), (5, (.int .i64 k1))]) ⟨(congrArg some d381), (congrArg some d384), (congrArg some d389), (congrArg some d396), rfl, rfl, rfl, trivial⟩ ?_
     refine lw_off' rfl rfl rfl rfl rfl rfl ?_
     refine lw_off rfl rfl rfl rfl rfl rfl ?_
     refine lw_op rfl rfl rfl (ow_pickT rfl rfl rfl ?_)
     refine lw_nil (ew_then (cw_true rfl ?_))
     refine cw_seq (cw_region (lw_op rfl rfl rfl (ow_assign rfl rfl ?_)))
     refine lw_nil (ew_then (cw_ret (ew_blockR ?_)))
     refine ew_thenR (ew_thenR (ew_blockR ?_))
     refine ew_brkR ?_
     refine ew_thenR ?_
     have e29 := hR1 _ (Option.some.inj hb1).symm
     subst e29
     obtain rfl := Option.some.inj h
     exact ew_ret (res1 rfl (.tmp rfl)) ⟨_, rfl, ((vbool _)), hC166.bx⟩
  ·
   obtain rfl := hbb1.trans hc1
   refine cw_false rfl ?_
   refine cw_exit ?_
   refine ew_thenX ?_
   refine ew_thenX ?_
   refine ew_blockX ?_
   refine ew_brk k1 hb1 fun a ha => ⟨M1, ?_, hl1, hC1⟩
   exact ha.sub ⟨rfl, rfl, rfl, trivial⟩
 ·
  rintro k2 a w167 hlr2 ⟨M2, hF2, hl167, hC167⟩
  subst hlr2
  refine ew_at (E := [(0, v0p), (1, (.int .i64 a_top)), (5, (.int .i64 k2))]) hF2 ?_
  refine ew_then (cw_seq (cw_region (lw_op rfl rfl rfl (ow_move rfl rfl ?_))))
  replace h := bind_some h
  obtain ⟨x5, hx5, h⟩ := h
  refine lw_op rfl rfl rfl (ow_call rfl rfl Tryd.call82 (w_spec_l1In (hG.mono hl167) hC167.old hx5) fun v43 w168 hv43 => ?_)
  obtain ⟨hv43, hb11⟩ := hv43
  have hl168 := Le.no M2 hb11
  have hC168 := hC167.no hb11
  obtain rfl := vbool_eq hv43
  refine lw_op rfl rfl rfl (ow_move rfl rfl ?_)
  replace h := cond_some h
  rcases h with ⟨hc6, h⟩ | ⟨hc6, h⟩
  ·
   subst hc6
   refine lw_on rfl rfl rfl rfl rfl rfl (ow_move rfl rfl ?_)
   refine lw_on rfl rfl rfl rfl rfl rfl (ow_len rfl rfl (VRep.mono (hl167.trans hl168) h0) Tryd.underlying58 rfl ?_)
   refine lw_on rfl rfl rfl rfl rfl rfl (ow_leq rfl rfl rfl fun bb6 hbb6 => ?_)
   refine lw_op rfl rfl rfl (ow_pickT rfl rfl rfl ?_)
   refine lw_op rfl rfl rfl (ow_assign rfl rfl ?_)
   refine lw_nil (ew_then (cw_ret ?_))
   obtain rfl := Option.some.inj h
   exact ew_ret (res1 rfl (.tmp rfl)) ⟨_, rfl, ((vbool_of hbb6)), hC168.bx⟩
  ·
   subst hc6
   refine lw_off rfl rfl rfl rfl rfl rfl ?_
   refine lw_off rfl rfl rfl rfl rfl rfl ?_
   refine lw_off rfl rfl rfl rfl rfl rfl ?_
   refine lw_op rfl rfl rfl (ow_pickF rfl rfl rfl ?_)
   refine lw_op rfl rfl rfl (ow_assign rfl rfl ?_)
   refine lw_nil (ew_then (cw_ret ?_))
   obtain rfl := Option.some.inj h
   exact ew_ret (res1 rfl (.tmp rfl)) ⟨_, rfl, ((vbool _)), hC168.bx⟩

theorem w_spec_FieldTop {w : World} {M : Nat → Prop} (_hG : ARep (RArr 4 RShape) w M shapes ⟨0, 0, none⟩) (hO : ∀ b, M b → b < w.heap.size) {a_n : Int} {r : Int} (h : F.spec_FieldTop a_n = some r) :
  Calls Tryd.prog 81 [(.int .i64 a_n)].toArray w fun e w' => ∃ v, e = .returned v ∧ VRep RInt w' M r v ∧ BX No w w' := by
 have hC : Cx No w M w M := Cx.start hO (fun _ e => e.elim)
 clear _hG
 refine walk (N := 11) Tryd.func81 rfl Tryd.ntmps81 rfl ?_
 refine cw_seq (cw_region (lw_op rfl rfl rfl (ow_assign rfl rfl ?_)))
 refine lw_nil (ew_then (cw_seq (cw_seq (cw_region (lw_op rfl rfl rfl (ow_move rfl rfl ?_))))))
 refine lw_nil (ew_then (cw_block ?_))
 refine cw_seq (cw_seq (cw_region (lw_op rfl rfl rfl (ow_eqlI rfl rfl rfl fun bb1 hbb1 => ?_))))
 refine lw_op rfl rfl rfl (ow_assign rfl rfl ?_)
 refine lw_nil (ew_then ?_)
 replace h := cond_some h
 rcases h with ⟨hc1, h⟩ | ⟨hc1, h⟩
 ·
  obtain rfl := hbb1.trans hc1
  refine cw_true rfl ?_
  refine cw_skip (ew_then (cw_true rfl ?_))
  refine cw_seq (cw_region (lw_op rfl rfl rfl (ow_assign rfl rfl ?_)))
  refine lw_nil (ew_then (cw_ret (ew_blockR ?_)))
  refine ew_thenR ?_
  obtain rfl := Option.some.inj h
  exact ew_ret (res1 rfl (.tmp rfl)) ⟨_, rfl, ((vint _)), hC.bx⟩
 ·
  obtain rfl := hbb1.trans hc1
  refine cw_false rfl ?_
  refine cw_region (lw_op rfl rfl rfl (ow_eqlI rfl rfl rfl fun bb2 hbb2 => ?_))
  refine lw_op rfl rfl rfl (ow_assign rfl rfl ?_)
  refine lw_nil (ew_then ?_)
  replace h := cond_some h
  rcases h with ⟨hc2, h⟩ | ⟨hc2, h⟩
  ·
   obtain rfl := hbb2.trans hc2
   refine cw_true rfl ?_
   refine cw_seq (cw_region (lw_op rfl rfl rfl (ow_assign rfl rfl ?_)))
   refine lw_nil (ew_then (cw_ret (ew_blockR ?_)))
   refine ew_thenR ?_
   obtain rfl := Option.some.inj h
   exact ew_ret (res1 rfl (.tmp rfl)) ⟨_, rfl, ((vint _)), hC.bx⟩
  ·
   obtain rfl := hbb2.trans hc2
   refine cw_false rfl ?_
   refine cw_seq (cw_region (lw_op rfl rfl rfl (ow_eqlI rfl rfl rfl fun bb3 hbb3 => ?_)))
   refine lw_op rfl rfl rfl (ow_assign rfl rfl ?_)
   refine lw_nil (ew_then ?_)
   replace h := cond_some h
   rcases h with ⟨hc3, h⟩ | ⟨hc3, h⟩
   ·
    obtain rfl := hbb3.trans hc3
    refine cw_true rfl ?_
    refine cw_seq (cw_region (lw_op rfl rfl rfl (ow_assign rfl rfl ?_)))
    refine lw_nil (ew_then (cw_ret (ew_blockR ?_)))
    refine ew_thenR ?_
    obtain rfl := Option.some.inj h
    exact ew_ret (res1 rfl (.tmp rfl)) ⟨_, rfl, ((vint _)), hC.bx⟩
   ·
    obtain rfl := hbb3.trans hc3
    refine cw_false rfl ?_
    refine cw_seq (cw_region (lw_op rfl rfl rfl (ow_eqlI rfl rfl rfl fun bb4 hbb4 => ?_)))
    refine lw_op rfl rfl rfl (ow_assign rfl rfl ?_)
    refine lw_nil (ew_then ?_)
    replace h := cond_some h
    rcases h with ⟨hc4, h⟩ | ⟨hc4, h⟩
    ·
     obtain rfl := hbb4.trans hc4
     refine cw_true rfl ?_
     refine cw_seq (cw_region (lw_op rfl rfl rfl (ow_assign rfl rfl ?_)))
     refine lw_nil (ew_then (cw_ret (ew_blockR ?_)))
     refine ew_thenR ?_
     obtain rfl := Option.some.inj h
     exact ew_ret (res1 rfl (.tmp rfl)) ⟨_, rfl, ((vint _)), hC.bx⟩
    ·
     obtain rfl := hbb4.trans hc4
     refine cw_false rfl ?_
     refine cw_skip (ew_blockN ?_)
     refine ew_then (cw_seq (cw_region (lw_op rfl rfl rfl (ow_assign rfl rfl ?_))))
     refine lw_nil (ew_then (cw_ret ?_))
     obtain rfl := Option.some.inj h
     exact ew_ret (res1 rfl (.tmp rfl)) ⟨_, rfl, ((vint _)), hC.bx⟩

theorem w_spec_BoxValid {w : World} {M : Nat → Prop} (hG : ARep (RArr 4 RShape) w M shapes ⟨0, 0, none⟩) (hO : ∀ b, M b → b < w.heap.size) {v0p : Value} {a_b : Box} (h0 : VRep RBox w M a_b v0p) {r : Bool} (h : F.spec_BoxValid a_b = some r) :
  Calls Tryd.prog 38 [v0p].toArray w fun e w' => ∃ v, e = .returned v ∧ VRep RBool w' M r v ∧ BX No w w' := by
 have hC : Cx No w M w M := Cx.start hO (fun _ e => e.elim)
 refine walk (N := 28) Tryd.func38 rfl Tryd.ntmps38 rfl ?_
 refine cw_seq (cw_region (lw_op rfl rfl rfl (ow_box (R := RBox) rfl rfl h0 hC fun p1 w1 hp1 hb1 hl1 hC1 => ?_)))
 refine lw_op rfl rfl rfl (ow_assign rfl rfl ?_)
 refine lw_nil (ew_then (cw_seq (cw_seq (cw_region (lw_op rfl rfl rfl (ow_assign rfl rfl ?_))))))
 refine lw_nil (ew_then ?_)
 replace h := bind_some h
 obtain ⟨lr1, hlr1, h⟩ := h
 refine cw_for hlr1 (fun s a w' => ∃ (M' : Nat → Prop), Fits 28 [(1, (.pointer (some p1))), (3, (.int .i64 s))] a ∧ Le w1 M w' M' ∧ Cx No w M w' M') ?_ ?_ ?_
 ·
  intro a ha
  exact ⟨M, ha.sub ⟨rfl, rfl, trivial⟩, Le.refl _ _, hC1⟩
 ·
  rintro k1 a w2 sr1 ⟨M1, hF1, hl2, hC2⟩ hb2 hR1
  refine cw_at (E := [(1, (.pointer (some p1))), (3, (.int .i64 k1))]) hF1 ?_
  refine cw_seq (cw_seq (cw_region (lw_op rfl rfl rfl (ow_move rfl rfl ?_))))
  refine lw_op rfl rfl rfl (ow_fieldAddr rfl rfl Tryd.underlying27 rfl (Tryd.sizeOf25 _) ?_)
  refine lw_op rfl rfl rfl (ow_load (R := (RSlice (RSlice RSpan))) rfl rfl (ARep.mono hl2 (hp1.fld fld_Box_Sides)) (Tryd.sizeOf25 _) (Tryd.isAgg25 _) fun v2 hv2 => ?_)
  refine lw_op rfl rfl rfl (ow_len rfl rfl hv2 Tryd.underlying25 rfl ?_)
  refine lw_op rfl rfl rfl (ow_lss rfl rfl rfl fun bb1 hbb1 => ?_)
  refine lw_nil (ew_then ?_)
  replace hb2 := cond_some hb2
  rcases hb2 with ⟨hc1, hb2⟩ | ⟨hc1, hb2⟩
  ·
   obtain rfl := hbb1.trans hc1
   refine cw_true rfl ?_
   refine cw_skip (ew_then (cw_seq (cw_block ?_)))
   refine cw_seq ?_
   replace hb2 := cond_some hb2
   rcases hb2 with ⟨hc2, hb2⟩ | ⟨hc2, hb2⟩
   ·
    refine cw_sub (E' := [(1, (.pointer (some p1))), (3, (.int .i64 k1))]) ⟨rfl, rfl, trivial⟩ ?_
    refine cw_drawQ 10 [PEq (.int .i64 k1), PEq (.bool true), PEq (.bool true), PEq undef, PEq undef, PEq undef, PEq undef, PEq undef, PEq undef, PEq undef] (by kernel_rfl) rfl (by kernel_rfl) ⟨PEq.mono _, PEq.mono _, PEq.mono _, PEq.mono _, PEq.mono _, PEq.mono _, PEq.mono _, PEq.mono _, PEq.mono _, PEq.mono _, trivial⟩ ⟨?_, ?_, ?_, ?_, ?_, ?_, ?_, ?_, ?_, ?_, trivial⟩ ?_
    ·
     intro w3 D hS1 hd1
     have hl3 := Le.no M1 hS1
     have hC3 := hC2.no hS1
     refine dg_sub (E' := [(3, (.int .i64 k1))]) ⟨rfl, trivial⟩ ?_
     refine dg_plain rfl (ow_move rfl rfl ?_)
     exact ⟨BX.refl _ _, rfl⟩
    ·
     intro w4 D hS2 hd2
     have hl4 := Le.no M1 hS2
     have hC4 := hC2.no hS2
     have hd2 : PEq (.int .i64 k1) (D 0) w4 ∧ True := hd2
     obtain ⟨d1, -⟩ := hd2
     refine dg_sub (E' := [(11, (.int .i64 k1))]) ⟨(congrArg some d1), trivial⟩ ?_
     refine dg_plain rfl (ow_geq rfl rfl rfl fun bb3 hbb3 => ?_)
     obtain rfl := hbb3.trans hc2
     exact ⟨BX.refl _ _, rfl⟩
    ·
     intro w5 D hS3 hd3
     have hl5 := Le.no M1 hS3
     have hC5 := hC2.no hS3
     have hd3 : PEq (.bool true) (D 1) w5 ∧ True := hd3
     obtain ⟨d2, -⟩ := hd3
     refine dg_sub (E' := [(12, (.bool true))]) ⟨(congrArg some d2), trivial⟩ ?_
     refine dg_plain rfl (ow_move rfl rfl ?_)
     exact ⟨BX.refl _ _, rfl⟩
    ·
     intro w6 D hS4 hd4
     have hl6 := Le.no M1 hS4
     have hC6 := hC2.no hS4
     have hd4 : PEq (.bool true) (D 2) w6 ∧ True := hd4
     obtain ⟨d3, -⟩ := hd4
     refine dg_sub (E' := [(13, (.bool true)), (1, (.pointer (some p1)))]) ⟨(congrArg some d3), rfl, trivial⟩ ?_
     exact dg_off rfl rfl rfl rfl ⟨BX.refl _ _, rfl⟩
    ·
     intro w7 D hS5 hd5
     have hl7 := Le.no M1 hS5
     have hC7 := hC2.no hS5
     have hd5 : PEq undef (D 3) w7 ∧ PEq (.bool true) (D 2) w7 ∧ True := hd5
     obtain ⟨d4, d5, -⟩ := hd5
     refine dg_sub (E' := [(14, undef), (13, (.bool true))]) ⟨(congrArg some d4), (congrArg some d5), trivial⟩ ?_
     exact dg_off rfl rfl rfl rfl ⟨BX.refl _ _, rfl⟩
    ·
     intro w8 D hS6 hd6
     have hl8 := Le.no M1 hS6
     have hC8 := hC2.no hS6
     have hd6 : PEq (.bool true) (D 2) w8 ∧ True := hd6
     obtain ⟨d6, -⟩ := hd6
     refine dg_sub (E' := [(13, (.bool true)), (3, (.int .i64 k1))]) ⟨(congrArg some d6), rfl, trivial⟩ ?_
     exact dg_off rfl rfl rfl rfl ⟨BX.refl _ _, rfl⟩
    ·
     intro w9 D hS7 hd7
     have hl9 := Le.no M1 hS7
     have hC9 := hC2.no hS7
     have hd7 : PEq undef (D 4) w9 ∧ PEq undef (D 5) w9 ∧ PEq (.bool true) (D 2) w9 ∧ True := hd7
     obtain ⟨d7, d8, d9, -⟩ := hd7
     refine dg_sub (E' := [(15, undef), (16, undef), (13, (.bool true))]) ⟨(congrArg some d7), (congrArg some d8), (congrArg some d9), trivial⟩ ?_
     exact dg_off rfl rfl rfl rfl ⟨BX.refl _ _, rfl⟩
    ·
     intro w10 D hS8 hd8
     have hl10 := Le.no M1 hS8
     have hC10 := hC2.no hS8
     have hd8 : PEq undef (D 6) w10 ∧ PEq (.bool true) (D 2) w10 ∧ True := hd8
     obtain ⟨d10, d11, -⟩ := hd8
     refine dg_sub (E' := [(17, undef), (13, (.bool true))]) ⟨(congrArg some d10), (congrArg some d11), trivial⟩ ?_
     exact dg_off rfl rfl rfl rfl ⟨BX.refl _ _, rfl⟩
    ·
     intro w11 D hS9 hd9
     have hl11 := Le.no M1 hS9
     have hC11 := hC2.no hS9
     have hd9 : PEq (.bool true) (D 2) w11 ∧ True := hd9
     obtain ⟨d12, -⟩ := hd9
     refine dg_sub (E' := [(13, (.bool true)), (3, (.int .i64 k1))]) ⟨(congrArg some d12), rfl, trivial⟩ ?_
     exact dg_off rfl rfl rfl rfl ⟨BX.refl _ _, rfl⟩
    ·
     intro w12 D hS10 hd10
     have hl12 := Le.no M1 hS10
     have hC12 := hC2.no hS10
     have hd10 : PEq undef (D 8) w12 ∧ PEq (.bool true) (D 2) w12 ∧ PEq (.bool true) (D 2) w12 ∧ True := hd10
     obtain ⟨d13, d14, d15, -⟩ := hd10
     refine dg_sub (E' := [(19, undef), (13, (.bool true))]) ⟨(congrArg some d13), (congrArg some d14), trivial⟩ ?_
     exact dg_off rfl rfl rfl rfl ⟨BX.refl _ _, rfl⟩
    ·
     intro w13 D hS11 hd11
     have hd11 : PEq (.int .i64 k1) (D 0) w13 ∧ PEq (.bool true) (D 1) w13 ∧ PEq (.bool true) (D 2) w13 ∧ PEq undef (D 3) w13 ∧ PEq undef (D 4) w13 ∧ PEq undef (D 5) w13 ∧ PEq undef (D 6) w13 ∧ PEq undef (D 7) w13 ∧ PEq undef (D 8) w13 ∧ PEq undef (D 9) w13 ∧ True := hd11
     obtain ⟨-, -, d18, -, -, -, -, d23, -, d25, -⟩ := hd11
     have hl13 := Le.no M1 hS11
     have hC13 := hC2.no hS11
     refine lw_sub (E' := [(13, (.bool true)), (18, undef), (20, undef), (1, (.pointer (some p1))), (3, (.int .i64 k1))]) ⟨(congrArg some d18), (congrArg some d23), (congrArg some d25), rfl, rfl, trivial⟩ ?_
     refine lw_off rfl rfl rfl rfl rfl rfl ?_
     refine lw_off rfl rfl rfl rfl rfl rfl ?_
     refine lw_op rfl rfl rfl (ow_pickT rfl rfl rfl ?_)
     refine lw_nil (ew_then (cw_true rfl ?_))
     refine cw_seq (cw_region (lw_op rfl rfl rfl (ow_assign rfl rfl ?_)))
     refine lw_nil (ew_then (cw_ret (ew_blockR ?_)))
     refine ew_thenR (ew_thenR (ew_blockR ?_))
     refine ew_brkR ?_
     refine ew_thenR ?_
     have e1 := hR1 _ (Option.some.inj hb2).symm
     subst e1
     obtain rfl := Option.some.inj h
     exact ew_ret (res1 rfl (.tmp rfl)) ⟨_, rfl, ((vbool _)), hC13.bx⟩
   ·
    replace hb2 := bind_some hb2
    obtain ⟨x1, hx1, hb2⟩ := hb2
    replace hb2 := bind_some hb2
    obtain ⟨x2, hx2, hb2⟩ := hb2
    refine cw_sub (E' := [(1, (.pointer (some p1))), (3, (.int .i64 k1))]) ⟨rfl, rfl, trivial⟩ ?_
    refine cw_drawQ 10 [PEq (.int .i64 k1), PEq (.bool false), PEq (.bool false), PA (RSlice (RSlice RSpan)) M1 a_b.Sides, PV (RSlice (RSlice RSpan)) M1 a_b.Sides, PEq (.int .i64 k1), PA (RSlice RSpan) M1 x1, PV (RSlice RSpan) M1 x1, PEq (.int .i64 k1), PEq (.int .i64 x2)] (by kernel_rfl) rfl (by kernel_rfl) ⟨PEq.mono _, PEq.mono _, PEq.mono _, PA.mono _ _ _, PV.mono _ _ _, PEq.mono _, PA.mono _ _ _, PV.mono _ _ _, PEq.mono _, PEq.mono _, trivial⟩ ⟨?_, ?_, ?_, ?_, ?_, ?_, ?_, ?_, ?_, ?_, trivial⟩ ?_
    ·
     intro w15 D hS12 hd12
     have hl15 := Le.no M1 hS12
     have hC15 := hC2.no hS12
     refine dg_sub (E' := [(3, (.int .i64 k1))]) ⟨rfl, trivial⟩ ?_
     refine dg_plain rfl (ow_move rfl rfl ?_)
     exact ⟨BX.refl _ _, rfl⟩
    ·
     intro w16 D hS13 hd13
     have hl16 := Le.no M1 hS13
     have hC16 := hC2.no hS13
     have hd13 : PEq (.int .i64 k1) (D 0) w16 ∧ True := hd13
     obtain ⟨d26, -⟩ := hd13
     refine dg_sub (E' := [(11, (.int .i64 k1))]) ⟨(congrArg some d26), trivial⟩ ?_
     refine dg_plain rfl (ow_geq rfl rfl rfl fun bb4 hbb4 => ?_)
     obtain rfl := hbb4.trans hc2
     exact ⟨BX.refl _ _, rfl⟩
    ·
     intro w17 D hS14 hd14
     have hl17 := Le.no M1 hS14
     have hC17 := hC2.no hS14
     have hd14 : PEq (.bool false) (D 1) w17 ∧ True := hd14
     obtain ⟨d27, -⟩ := hd14
     refine dg_sub (E' := [(12, (.bool false))]) ⟨(congrArg some d27), trivial⟩ ?_
     refine dg_plain rfl (ow_move rfl rfl ?_)
     exact ⟨BX.refl _ _, rfl⟩
    ·
     intro w18 D hS15 hd15
     have hl18 := Le.no M1 hS15
     have hC18 := hC2.no hS15
     have hd15 : PEq (.bool false) (D 2) w18 ∧ True := hd15
     obtain ⟨d28, -⟩ := hd15
     refine dg_sub (E' := [(13, (.bool false)), (1, (.pointer (some p1)))]) ⟨(congrArg some d28), rfl, trivial⟩ ?_
     refine dg_on rfl rfl rfl rfl (ow_fieldAddr rfl rfl Tryd.underlying27 rfl (Tryd.sizeOf25 _) ?_)
     exact ⟨BX.refl _ _, ⟨_, rfl, (ARep.mono (hl2.trans hl18) (hp1.fld fld_Box_Sides))⟩⟩
    ·
     intro w19 D hS16 hd16
     have hl19 := Le.no M1 hS16
     have hC19 := hC2.no hS16
     have hd16 : PA (RSlice (RSlice RSpan)) M1 a_b.Sides (D 3) w19 ∧ PEq (.bool false) (D 2) w19 ∧ True := hd16
     obtain ⟨d29, d30, -⟩ := hd16
     obtain ⟨p3, e2, ha1⟩ := d29
     refine dg_sub (E' := [(14, (.pointer (some p3))), (13, (.bool false))]) ⟨(congrArg some e2), (congrArg some d30), trivial⟩ ?_
     refine dg_on rfl rfl rfl rfl (ow_load (R := (RSlice (RSlice RSpan))) rfl rfl ha1 (Tryd.sizeOf25 _) (Tryd.isAgg25 _) fun v6 hv6 => ?_)
     exact ⟨BX.refl _ _, hv6⟩
    ·
     intro w20 D hS17 hd17
     have hl20 := Le.no M1 hS17
     have hC20 := hC2.no hS17
     have hd17 : PEq (.bool false) (D 2) w20 ∧ True := hd17
     obtain ⟨d31, -⟩ := hd17
     refine dg_sub (E' := [(13, (.bool false)), (3, (.int .i64 k1))]) ⟨(congrArg some d31), rfl, trivial⟩ ?_
     refine dg_on rfl rfl rfl rfl (ow_move rfl rfl ?_)
     exact ⟨BX.refl _ _, rfl⟩
    ·
     intro w21 D hS18 hd18
     have hl21 := Le.no M1 hS18
     have hC21 := hC2.no hS18
     have hd18 : PV (RSlice (RSlice RSpan)) M1 a_b.Sides (D 4) w21 ∧ PEq (.int .i64 k1) (D 5) w21 ∧ PEq (.bool false) (D 2) w21 ∧ True := hd18
     obtain ⟨d32, d33, d34, -⟩ := hd18
     obtain ⟨v7, hq1⟩ : ∃ v, (D 4) = v := ⟨_, rfl⟩
     rw [hq1] at d32
     refine dg_sub (E' := [(15, v7), (16, (.int .i64 k1)), (13, (.bool false))]) ⟨(congrArg some hq1), (congrArg some d33), (congrArg some d34), trivial⟩ ?_
     refine dg_on rfl rfl rfl rfl (ow_indexSlice (R := (RSlice RSpan)) rfl rfl rfl d32 Tryd.underlying25 (Tryd.sizeOf58 _) hx1 fun p4 hp4 => ?_)
     exact ⟨BX.refl _ _, ⟨_, rfl, hp4⟩⟩
    ·
     intro w22 D hS19 hd19
     have hl22 := Le.no M1 hS19
     have hC22 := hC2.no hS19
     have hd19 : PA (RSlice RSpan) M1 x1 (D 6) w22 ∧ PEq (.bool false) (D 2) w22 ∧ True := hd19
     obtain ⟨d35, d36, -⟩ := hd19
     obtain ⟨p5, e3, ha2⟩ := d35
     refine dg_sub (E' := [(17, (.pointer (some p5))), (13, (.bool false))]) ⟨(congrArg some e3), (congrArg some d36), trivial⟩ ?_
     refine dg_on rfl rfl rfl rfl (ow_load (R := (RSlice RSpan)) rfl rfl ha2 (Tryd.sizeOf58 _) (Tryd.isAgg58 _) fun v8 hv8 => ?_)
     exact ⟨BX.refl _ _, hv8⟩
    ·
     intro w23 D hS20 hd20
     have hl23 := Le.no M1 hS20
     have hC23 := hC2.no hS20
     have hd20 : PEq (.bool false) (D 2) w23 ∧ True := hd20
     obtain ⟨d37, -⟩ := hd20
     refine dg_sub (E' := [(13, (.bool false)), (3, (.int .i64 k1))]) ⟨(congrArg some d37), rfl, trivial⟩ ?_
     refine dg_on rfl rfl rfl rfl (ow_move rfl rfl ?_)
     exact ⟨BX.refl _ _, rfl⟩
    ·
     intro w24 D hS21 hd21
     have hl24 := Le.no M1 hS21
     have hC24 := hC2.no hS21
     have hd21 : PEq (.int .i64 k1) (D 8) w24 ∧ PEq (.bool false) (D 2) w24 ∧ PEq (.bool false) (D 2) w24 ∧ True := hd21
     obtain ⟨d38, d39, d40, -⟩ := hd21
     refine dg_sub (E' := [(19, (.int .i64 k1)), (13, (.bool false))]) ⟨(congrArg some d38), (congrArg some d39), trivial⟩ ?_
     refine dg_on rfl rfl rfl rfl (ow_call rfl rfl Tryd.call81 (w_spec_FieldTop (hG.mono ((hl1.trans hl2).trans hl24)) hC24.old hx2) fun v9 w25 hv9 => ?_)
     obtain ⟨hv9, hb4⟩ := hv9
     have hl25 := Le.no M1 hb4
     have hC25 := hC24.no hb4
     obtain rfl := vint_eq hv9
     exact ⟨hb4, rfl⟩
    ·
     intro w26 D hS22 hd22
     have hd22 : PEq (.int .i64 k1) (D 0) w26 ∧ PEq (.bool false) (D 1) w26 ∧ PEq (.bool false) (D 2) w26 ∧ PA (RSlice (RSlice RSpan)) M1 a_b.Sides (D 3) w26 ∧ PV (RSlice (RSlice RSpan)) M1 a_b.Sides (D 4) w26 ∧ PEq (.int .i64 k1) (D 5) w26 ∧ PA (RSlice RSpan) M1 x1 (D 6) w26 ∧ PV (RSlice RSpan) M1 x1 (D 7) w26 ∧ PEq (.int .i64 k1) (D 8) w26 ∧ PEq (.int .i64 x2) (D 9) w26 ∧ True := hd22
     obtain ⟨-, -, d43, -, -, -, -, d48, -, d50, -⟩ := hd22
     have hl26 := Le.no M1 hS22
     have hC26 := hC2.no hS22
     obtain ⟨v10, hq2⟩ : ∃ v, (D 7) = v := ⟨_, rfl⟩
     rw [hq2] at d48
     refine lw_sub (E' := [(13, (.bool false)), (18, v10), (20, (.int .i64 x2)), (1, (.pointer (some p1))), (3, (.int .i64 k1))]) ⟨(congrArg some d43), (congrArg some hq2), (congrArg some d50), rfl, rfl, trivial⟩ ?_
     replace hb2 := bind_some hb2
     obtain ⟨x3, hx3, hb2⟩ := hb2
     refine lw_on rfl rfl rfl rfl rfl rfl (ow_call rfl rfl Tryd.call80 (w_spec_SpansValid (hG.mono ((hl1.trans hl2).trans hl26)) hC26.old d48 hx3) fun v11 w27 hv11 => ?_)
     obtain ⟨hv11, hb5⟩ := hv11
     have hl27 := Le.no M1 hb5
     have hC27 := hC26.no hb5
     obtain rfl := vbool_eq hv11
     refine lw_on rfl rfl rfl rfl rfl rfl (ow_not rfl rfl ?_)
     refine lw_op rfl rfl rfl (ow_pickF rfl rfl rfl ?_)
     refine lw_nil (ew_then ?_)
     replace hb2 := cond_some hb2
     rcases hb2 with ⟨hc3, hb2⟩ | ⟨hc3, hb2⟩
     ·
      subst hc3
      refine cw_false rfl ?_
      refine cw_skip (ew_blockN ?_)
      refine ew_then (cw_region (lw_op rfl rfl rfl (ow_move rfl rfl ?_)))
      refine lw_op rfl rfl rfl (ow_add rfl rfl rfl ?_)
      refine lw_op rfl rfl rfl (ow_assign rfl rfl ?_)
      refine lw_nil (ew_nxt (W (k1 + 1)) hb2 fun a ha => ⟨M1, ?_, ((hl2.trans hl26).trans hl27), hC27⟩)
      exact ha.sub ⟨rfl, rfl, trivial⟩
     ·
      subst hc3
      refine cw_true rfl ?_
      refine cw_seq (cw_region (lw_op rfl rfl rfl (ow_assign rfl rfl ?_)))
      refine lw_nil (ew_then (cw_ret (ew_blockR ?_)))
      refine ew_thenR (ew_thenR (ew_blockR ?_))
      refine ew_brkR ?_
      refine ew_thenR ?_
      have e4 := hR1 _ (Option.some.inj hb2).symm
      subst e4
      obtain rfl := Option.some.inj h
      exact ew_ret (res1 rfl (.tmp rfl)) ⟨_, rfl, ((vbool _)), hC27.bx⟩
  ·
   obtain rfl := hbb1.trans hc1
   refine cw_false rfl ?_
   refine cw_exit ?_
   refine ew_thenX ?_
   refine ew_thenX ?_
   refine ew_blockX ?_
   refine ew_brk k1 hb2 fun a ha => ⟨M1, ?_, hl2, hC2⟩
   exact ha.sub ⟨rfl, rfl, trivial⟩
 ·
  rintro k2 a w28 hlr2 ⟨M2, hF2, hl28, hC28⟩
  subst hlr2
  refine ew_at (E := [(1, (.pointer (some p1))), (3, (.int .i64 k2))]) hF2 ?_
  refine ew_then (cw_seq (cw_region (lw_op rfl rfl rfl (ow_fieldAddr rfl rfl Tryd.underlying27 rfl (Tryd.sizeOf25 _) ?_))))
  refine lw_op rfl rfl rfl (ow_load (R := (RSlice (RSlice RSpan))) rfl rfl (ARep.mono hl28 (hp1.fld fld_Box_Sides)) (Tryd.sizeOf25 _) (Tryd.isAgg25 _) fun v13 hv13 => ?_)
  refine lw_op rfl rfl rfl (ow_len rfl rfl hv13 Tryd.underlying25 rfl ?_)
  refine lw_op rfl rfl rfl (ow_eqlI rfl rfl rfl fun bb5 hbb5 => ?_)
  refine lw_op rfl rfl rfl (ow_assign rfl rfl ?_)
  refine lw_nil (ew_then (cw_ret ?_))
  obtain rfl := Option.some.inj h
  exact ew_ret (res1 rfl (.tmp rfl)) ⟨_, rfl, ((vbool_of hbb5)), hC28.bx⟩

theorem w_spec_RegionValid {w : World} {M : Nat → Prop} (hG : ARep (RArr 4 RShape) w M shapes ⟨0, 0, none⟩) (hO : ∀ b, M b → b < w.heap.size) {v0p : Value} {a_list : List Box} (h0 : VRep (RSlice RBox) w M a_list v0p) {r : Bool} (h : F.spec_RegionValid a_list = some r) :
  Calls Tryd.prog 22 [v0p].toArray w fun e w' => ∃ v, e = .returned v ∧ VRep RBool w' M r v ∧ BX No w w' := by
 have hC : Cx No w M w M := Cx.start hO (fun _ e => e.elim)
 refine walk (N := 19) Tryd.func22 rfl Tryd.ntmps22 rfl ?_
 refine cw_seq (cw_region (lw_op rfl rfl rfl (ow_assign rfl rfl ?_)))
 refine lw_nil (ew_then (cw_seq (cw_seq (cw_region (lw_op rfl rfl rfl (ow_assign rfl rfl ?_))))))
 refine lw_nil (ew_then ?_)
 replace h := bind_some h
 obtain ⟨lr1, hlr1, h⟩ := h
 refine cw_for hlr1 (fun s a w' => ∃ (M' : Nat → Prop), Fits 19 [(0, v0p), (3, (.int .i64 s))] a ∧ Le w M w' M' ∧ Cx No w M w' M') ?_ ?_ ?_
 ·
  intro a ha
  exact ⟨M, ha.sub ⟨rfl, rfl, trivial⟩, Le.refl _ _, hC⟩
 ·
  rintro k1 a w1 sr1 ⟨M1, hF1, hl1, hC1⟩ hb1 hR1
  refine cw_at (E := [(0, v0p), (3, (.int .i64 k1))]) hF1 ?_
  refine cw_seq (cw_seq (cw_region (lw_op rfl rfl rfl (ow_move rfl rfl ?_))))
  refine lw_op rfl rfl rfl (ow_move rfl rfl ?_)
  refine lw_op rfl rfl rfl (ow_len rfl rfl (VRep.mono hl1 h0) Tryd.underlying34 rfl ?_)
  refine lw_op rfl rfl rfl (ow_lss rfl rfl rfl fun bb1 hbb1 => ?_)
  refine lw_nil (ew_then ?_)
  replace hb1 := cond_some hb1
  rcases hb1 with ⟨hc1, hb1⟩ | ⟨hc1, hb1⟩
  ·
   obtain rfl := hbb1.trans hc1
   refine cw_true rfl ?_
   refine cw_skip (ew_then (cw_seq (cw_block ?_)))
   refine cw_seq (cw_region (lw_op rfl rfl rfl (ow_move rfl rfl ?_)))
   refine lw_op rfl rfl rfl (ow_move rfl rfl ?_)
   replace hb1 := bind_some hb1
   obtain ⟨x1, hx1, hb1⟩ := hb1
   refine lw_op rfl rfl rfl (ow_indexSlice (R := RBox) rfl rfl rfl (VRep.mono hl1 h0) Tryd.underlying34 (Tryd.sizeOf27 _) hx1 fun p1 hp1 => ?_)
   refine lw_op rfl rfl rfl (ow_load (R := RBox) rfl rfl hp1 (Tryd.sizeOf27 _) (Tryd.isAgg27 _) fun v2 hv2 => ?_)
   replace hb1 := bind_some hb1
   obtain ⟨x2, hx2, hb1⟩ := hb1
   refine lw_op rfl rfl rfl (ow_call rfl rfl Tryd.call38 (w_spec_BoxValid (hG.mono hl1) hC1.old hv2 hx2) fun v3 w2 hv3 => ?_)
   obtain ⟨hv3, hb2⟩ := hv3
   have hl2 := Le.no M1 hb2
   have hC2 := hC1.no hb2
   obtain rfl := vbool_eq hv3
   refine lw_op rfl rfl rfl (ow_not rfl rfl ?_)
   refine lw_nil (ew_then ?_)
   replace hb1 := cond_some hb1
   rcases hb1 with ⟨hc2, hb1⟩ | ⟨hc2, hb1⟩
   ·
    subst hc2
    refine cw_false rfl ?_
    refine cw_skip (ew_blockN ?_)
    refine ew_then (cw_region (lw_op rfl rfl rfl (ow_move rfl rfl ?_)))
    refine lw_op rfl rfl rfl (ow_add rfl rfl rfl ?_)
    refine lw_op rfl rfl rfl (ow_assign rfl rfl ?_)
    refine lw_nil (ew_nxt (W (k1 + 1)) hb1 fun a ha => ⟨M1, ?_, (hl1.trans hl2), hC2⟩)
    exact ha.sub ⟨rfl, rfl, trivial⟩
   ·
    subst hc2
    refine cw_true rfl ?_
    refine cw_seq (cw_region (lw_op rfl rfl rfl (ow_assign rfl rfl ?_)))
    refine lw_nil (ew_then (cw_ret (ew_blockR ?_)))
    refine ew_thenR (ew_thenR (ew_blockR ?_))
    refine ew_brkR ?_
    refine ew_thenR ?_
    have e1 := hR1 _ (Option.some.inj hb1).symm
    subst e1
    obtain rfl := Option.some.inj h
    exact ew_ret (res1 rfl (.tmp rfl)) ⟨_, rfl, ((vbool _)), hC2.bx⟩
  ·
   obtain rfl := hbb1.trans hc1
   refine cw_false rfl ?_
   refine cw_exit ?_
   refine ew_thenX ?_
   refine ew_thenX ?_
   refine ew_blockX ?_
   refine ew_brk k1 hb1 fun a ha => ⟨M1, ?_, hl1, hC1⟩
   exact ha.sub ⟨rfl, rfl, trivial⟩
 ·
  rintro k2 a w3 hlr2 ⟨M2, hF2, hl3, hC3⟩
  subst hlr2
  refine ew_at (E := [(0, v0p), (3, (.int .i64 k2))]) hF2 ?_
  refine ew_then (cw_seq (cw_region (lw_op rfl rfl rfl (ow_move rfl rfl ?_))))
  refine lw_op rfl rfl rfl (ow_len rfl rfl (VRep.mono hl3 h0) Tryd.underlying34 rfl ?_)
  refine lw_op rfl rfl rfl (ow_leq rfl rfl rfl fun bb2 hbb2 => ?_)
  refine lw_op rfl rfl rfl (ow_assign rfl rfl ?_)
  refine lw_nil (ew_then (cw_ret ?_))
  obtain rfl := Option.some.inj h
  exact ew_ret (res1 rfl (.tmp rfl)) ⟨_, rfl, ((vbool_of hbb2)), hC3.bx⟩

theorem w_spec_l20Open {w : World} {M : Nat → Prop} (_hG : ARep (RArr 4 RShape) w M shapes ⟨0, 0, none⟩) (hO : ∀ b, M b → b < w.heap.size) {v0p : Value} {a_code : List Int} (h0 : VRep (RSlice RU8) w M a_code v0p) {r : List Int × Int} (h : F.spec_l20Open a_code = some r) :
  Calls Tryd.prog 54 [v0p].toArray w fun e w' => ∃ v, e = .returned v ∧ (∃ g A c, v = .pointer (some ⟨g, 0, none⟩) ∧ w.heap.size ≤ g ∧ Own w' g 98 #[.slice A r.1.length c, .int .i64 r.2] ∧ VRep (RSlice RU8) w' (Add g M) r.1 (.slice A r.1.length c)) ∧ BX No w w' := by
 have hC : Cx No w M w M := Cx.start hO (fun _ e => e.elim)
 clear _hG
 refine walk (N := 11) Tryd.func54 rfl Tryd.ntmps54 rfl ?_
 refine cw_seq (cw_region (lw_op rfl rfl rfl (ow_assign rfl rfl ?_)))
 refine lw_nil (ew_then (cw_seq (cw_seq (cw_region (lw_op rfl rfl rfl (ow_move rfl rfl ?_))))))
 refine lw_op rfl rfl rfl (ow_len rfl rfl h0 Tryd.underlying22 rfl ?_)
 refine lw_op rfl rfl rfl (ow_gtr rfl rfl rfl fun bb1 hbb1 => ?_)
 refine lw_nil (ew_then ?_)
 replace h := cond_some h
 rcases h with ⟨hc1, h⟩ | ⟨hc1, h⟩
 ·
  obtain rfl := hbb1.trans hc1
  refine cw_true rfl ?_
  refine cw_region (lw_op rfl rfl rfl (ow_move rfl rfl ?_))
  replace h := bind_some h
  obtain ⟨y1, hy1, h⟩ := h
  refine lw_op rfl rfl rfl (ow_sliceTo (R := RU8) rfl rfl rfl h0 Tryd.underlying22 (Tryd.sizeOf5 _) (takeF_some hy1).2 fun v1 hv1 => ?_)
  rw [← (takeF_some hy1).1] at hv1
  refine lw_op rfl rfl rfl (ow_assign rfl rfl ?_)
  refine lw_nil (ew_then (cw_seq (cw_region (lw_op rfl rfl rfl (ow_move rfl rfl ?_)))))
  obtain ⟨A1, c1, rfl, -⟩ := vslice_shape hv1
  refine lw_op rfl rfl rfl (ow_build (v := .agg #[(.slice A1 y1.length c1), (.int .i64 0)]) rfl rfl (by kernel_rfl) ?_)
  have hw1 : VRep Rl20Rd w M ({ b := y1, p := 0 } : l20Rd) (.agg #[(.slice A1 y1.length c1), (.int .i64 0)]) := shut_l20Rd hv1
  refine lw_op rfl rfl rfl (ow_boxOwn rfl rfl hC fun g1 w1 hg1 hg2 ho1 hb1 hl1 hC1 => ?_)
  have hm1 : (Add g1 M) g1 := .inl rfl
  refine lw_op rfl rfl rfl (ow_assign rfl rfl ?_)
  refine lw_nil (ew_then (cw_ret ?_))
  obtain rfl := Option.some.inj h
  exact ew_ret (res1 rfl (.tmp rfl)) ⟨_, rfl, ⟨_, _, _, rfl, hg2, ho1, (VRep.mono hl1 hv1)⟩, hC1.bx⟩
 ·
  obtain rfl := hbb1.trans hc1
  refine cw_false rfl ?_
  refine cw_skip (ew_then (cw_seq (cw_region (lw_op rfl rfl rfl (ow_move rfl rfl ?_)))))
  obtain ⟨A2, c2, rfl, -⟩ := vslice_shape h0
  refine lw_op rfl rfl rfl (ow_build (v := .agg #[(.slice A2 a_code.length c2), (.int .i64 0)]) rfl rfl (by kernel_rfl) ?_)
  have hw2 : VRep Rl20Rd w M ({ b := a_code, p := 0 } : l20Rd) (.agg #[(.slice A2 a_code.length c2), (.int .i64 0)]) := shut_l20Rd h0
  refine lw_op rfl rfl rfl (ow_boxOwn rfl rfl hC fun g2 w2 hg3 hg4 ho2 hb2 hl2 hC2 => ?_)
  have hm2 : (Add g2 M) g2 := .inl rfl
  refine lw_op rfl rfl rfl (ow_assign rfl rfl ?_)
  refine lw_nil (ew_then (cw_ret ?_))
  obtain rfl := Option.some.inj h
  exact ew_ret (res1 rfl (.tmp rfl)) ⟨_, rfl, ⟨_, _, _, rfl, hg4, ho2, (VRep.mono hl2 h0)⟩, hC2.bx⟩

theorem w_spec_BoxAll {w : World} {M : Nat → Prop} (hG : ARep (RArr 4 RShape) w M shapes ⟨0, 0, none⟩) (hO : ∀ b, M b → b < w.heap.size)  {r : Box} (h : F.spec_BoxAll = some r) :
  Calls Tryd.prog 59 [].toArray w fun e w' => ∃ v, e = .returned v ∧ VRep RBox w' M r v ∧ BX No w w' := by
 obtain ⟨i58, hi58, hz58, hs58, hy58⟩ := info58
 have hC : Cx No w M w M := Cx.start hO (fun _ e => e.elim)
 refine walk (N := 18) Tryd.func59 rfl Tryd.ntmps59 rfl ?_
 refine cw_seq (cw_region (lw_op rfl rfl rfl (ow_alloc rfl (Tryd.zeroValue27 _) hC fun g1 w1 hg1 hg2 ho1 hb1 hl1 hC1 => ?_)))
 have hm1 : (Add g1 M) g1 := .inl rfl
 refine lw_nil (ew_then (cw_seq (cw_region (lw_op rfl rfl rfl (ow_build (v := .agg #[(.slice none 0 0)]) rfl rfl (by kernel_rfl) ?_)))))
 have hw1 : VRep RBox w1 (Add g1 M) ({ Sides := ([] : List (List Span)) } : Box) (.agg #[(.slice none 0 0)]) := shut_Box (vslice_nil (R := (RSlice RSpan)) (w := w1) (M := (Add g1 M)))
 refine lw_op rfl rfl rfl (ow_alloc rfl (Tryd.zeroValue27 _) hC1 fun g2 w2 hg3 hg4 ho2 hb2 hl2 hC2 => ?_)
 have hn1 := Nat.ne_of_lt (Nat.lt_of_lt_of_le ho1.lt hg3)
 have ho3 := ho1.no hb2
 have hm2 : (Add g2 (Add g1 M)) g1 := .inr hm1
 have hm3 : (Add g2 (Add g1 M)) g2 := .inl rfl
 refine lw_op0 rfl rfl (ow_store (X := No) (us := [(.slice none 0 0)]) (cs' := #[(.slice none 0 0)]) rfl rfl rfl rfl ho2 (Tryd.sizeOf27 _) rfl rfl rfl rfl hm3 (.inl hg4) rfl hC2 fun w3 ho4 hb3 hl3 hC3 => ?_)
 have ho5 := ho3.go hb3 (fun e => hn1 e)
 refine lw_nil (ew_then (cw_seq (cw_seq (cw_region (lw_op rfl rfl rfl (ow_assign rfl rfl ?_))))))
 refine lw_nil (ew_then ?_)
 have hr1 : OwnRow (RSlice RSpan) w.heap.size 58 w3 (Add g2 (Add g1 M)) ([] : List (List Span)) (.slice none 0 0) := ownrow_nil
 replace h := bind_some h
 obtain ⟨lr1, hlr1, h⟩ := h
 refine cw_for hlr1 (fun s a w' => ∃ (M' : Nat → Prop) (v1c : Value), Fits 18 [(0, (.pointer (some ⟨g1, 0, none⟩))), (1, (.pointer (some ⟨g2, 0, none⟩))), (2, (.int .i64 s.1))] a ∧ Le w3 (Add g2 (Add g1 M)) w' M' ∧ Cx No w M w' M' ∧ OwnRow (RSlice RSpan) w.heap.size 58 w' M' s.2 v1c ∧ Own w' g1 27 #[(.slice none 0 0)] ∧ M' g1 ∧ Own w' g2 27 #[v1c] ∧ M' g2) ?_ ?_ ?_
 ·
  intro a ha
  exact ⟨(Add g2 (Add g1 M)), (.slice none 0 0), ha.sub ⟨rfl, rfl, rfl, trivial⟩, Le.refl _ _, hC3, hr1, ho5, hm2, ho4, hm3⟩
 ·
  rintro ⟨k1, y1⟩ a w4 sr1 ⟨M1, v2, hF1, hl4, hC4, hw2, ho6, hm4, ho7, hm5⟩ hb4 hR1
  refine cw_at (E := [(0, (.pointer (some ⟨g1, 0, none⟩))), (1, (.pointer (some ⟨g2, 0, none⟩))), (2, (.int .i64 k1))]) hF1 ?_
  refine cw_seq (cw_seq (cw_region (lw_op rfl rfl rfl (ow_move rfl rfl ?_))))
  refine lw_op rfl rfl rfl (ow_lss rfl rfl rfl fun bb1 hbb1 => ?_)
  refine lw_nil (ew_then ?_)
  replace hb4 := cond_some hb4
  rcases hb4 with ⟨hc1, hb4⟩ | ⟨hc1, hb4⟩
  ·
   obtain rfl := hbb1.trans hc1
   refine cw_true rfl ?_
   refine cw_skip (ew_then (cw_seq (cw_block ?_)))
   replace hb4 := bind_some hb4
   obtain ⟨x1, hx1, hb4⟩ := hb4
   refine cw_sub (E' := [(0, (.pointer (some ⟨g1, 0, none⟩))), (1, (.pointer (some ⟨g2, 0, none⟩))), (2, (.int .i64 k1))]) ⟨rfl, rfl, rfl, trivial⟩ ?_
   refine cw_drawQ 7 [PEq (.pointer (some ⟨g2, 0, none⟩)), PEq v2, PEq (.int .i64 k1), PEq (.int .i64 x1), PV RSpan M1 ({ Lo := 0, Hi := x1 } : Span), PV (RSlice RSpan) M1 [({ Lo := 0, Hi := x1 } : Span)], PV (RSlice (RSlice RSpan)) M1 [[({ Lo := 0, Hi := x1 } : Span)]]] (by kernel_rfl) rfl (by kernel_rfl) ⟨PEq.mono _, PEq.mono _, PEq.mono _, PEq.mono _, PV.mono _ _ _, PV.mono _ _ _, PV.mono _ _ _, trivial⟩ ⟨?_, ?_, ?_, ?_, ?_, ?_, ?_, trivial⟩ ?_
   ·
    intro w8 D hS1 hd1
    have hl8 := Le.no M1 hS1
    have hC8 := hC4.no hS1
    have ho14 := ho6.no hS1
    have ho15 := ho7.no hS1
    have hr5 := hw2.no hS1
    refine dg_sub (E' := [(1, (.pointer (some ⟨g2, 0, none⟩)))]) ⟨rfl, trivial⟩ ?_
    refine dg_plain rfl (ow_fieldAddr rfl rfl Tryd.underlying27 rfl (Tryd.sizeOf25 _) ?_)
    exact ⟨BX.refl _ _, rfl⟩
   ·
    intro w9 D hS2 hd2
    have hl9 := Le.no M1 hS2
    have hC9 := hC4.no hS2
    have ho16 := ho6.no hS2
    have ho17 := ho7.no hS2
    have hr6 := hw2.no hS2
    have hd2 : PEq (.pointer (some ⟨g2, 0, none⟩)) (D 0) w9 ∧ True := hd2
    obtain ⟨d1, -⟩ := hd2
    refine dg_sub (E' := [(8, (.pointer (some ⟨g2, 0, none⟩)))]) ⟨(congrArg some d1), trivial⟩ ?_
    refine dg_plain rfl (ow_loadOwn1 rfl rfl rfl ho17 (Tryd.isAgg25 _) rfl ?_)
    exact ⟨BX.refl _ _, rfl⟩
   ·
    intro w10 D hS3 hd3
    have hl10 := Le.no M1 hS3
    have hC10 := hC4.no hS3
    have ho18 := ho6.no hS3
    have ho19 := ho7.no hS3
    have hr7 := hw2.no hS3
    refine dg_sub (E' := [(2, (.int .i64 k1))]) ⟨rfl, trivial⟩ ?_
    refine dg_plain rfl (ow_move rfl rfl ?_)
    exact ⟨BX.refl _ _, rfl⟩
   ·
    intro w11 D hS4 hd4
    have hl11 := Le.no M1 hS4
    have hC11 := hC4.no hS4
    have ho20 := ho6.no hS4
    have ho21 := ho7.no hS4
    have hr8 := hw2.no hS4
    have hd4 : PEq (.int .i64 k1) (D 2) w11 ∧ True := hd4
    obtain ⟨d2, -⟩ := hd4
    refine dg_sub (E' := [(10, (.int .i64 k1))]) ⟨(congrArg some d2), trivial⟩ ?_
    refine dg_plain rfl (ow_call rfl rfl Tryd.call81 (w_spec_FieldTop (hG.mono ((((hl1.trans hl2).trans hl3).trans hl4).trans hl11)) hC11.old hx1) fun v4 w12 hv4 => ?_)
    obtain ⟨hv4, hb8⟩ := hv4
    have hl12 := Le.no M1 hb8
    have hC12 := hC11.no hb8
    have ho22 := ho20.no hb8
    have ho23 := ho21.no hb8
    have hr9 := hr8.no hb8
    obtain rfl := vint_eq hv4
    exact ⟨hb8, rfl⟩
   ·
    intro w13 D hS5 hd5
    have hl13 := Le.no M1 hS5
    have hC13 := hC4.no hS5
    have ho24 := ho6.no hS5
    have ho25 := ho7.no hS5
    have hr10 := hw2.no hS5
    have hd5 : PEq (.int .i64 x1) (D 3) w13 ∧ True := hd5
    obtain ⟨d3, -⟩ := hd5
    refine dg_sub (E' := [(11, (.int .i64 x1))]) ⟨(congrArg some d3), trivial⟩ ?_
    refine dg_plain rfl (ow_build (v := .agg #[(.int .i64 0), (.int .i64 x1)]) rfl rfl (by kernel_rfl) ?_)
    have hw6 : VRep RSpan w13 M1 ({ Lo := 0, Hi := x1 } : Span) (.agg #[(.int .i64 0), (.int .i64 x1)]) := shut_Span
    exact ⟨BX.refl _ _, hw6⟩
   ·
    intro w14 D hS6 hd6
    have hl14 := Le.no M1 hS6
    have hC14 := hC4.no hS6
    have ho26 := ho6.no hS6
    have ho27 := ho7.no hS6
    have hr11 := hw2.no hS6
    have hd6 : PV RSpan M1 ({ Lo := 0, Hi := x1 } : Span) (D 4) w14 ∧ True := hd6
    obtain ⟨d4, -⟩ := hd6
    obtain ⟨v5, hq1⟩ : ∃ v, (D 4) = v := ⟨_, rfl⟩
    rw [hq1] at d4
    refine dg_sub (E' := [(12, v5)]) ⟨(congrArg some hq1), trivial⟩ ?_
    obtain rfl := open_Span d4
    refine dg_plain rfl (ow_buildSlice (R := RSpan) (xs := [({ Lo := 0, Hi := x1 } : Span)]) (cs := #[(.int .i64 ({ Lo := 0, Hi := x1 } : Span).Lo), (.int .i64 ({ Lo := 0, Hi := x1 } : Span).Hi)]) (e := 76) rfl rfl (by kernel_rfl) rfl rfl ⟨_, _, rfl, d4.cells, rfl⟩ hC14 fun p3 w15 hw7 hb9 hl15 hC15 => ?_)
    have ho28 := ho26.no hb9
    have ho29 := ho27.no hb9
    have hr12 := hr11.no hb9
    exact ⟨hb9, hw7⟩
   ·
    intro w16 D hS7 hd7
    have hl16 := Le.no M1 hS7
    have hC16 := hC4.no hS7
    have ho30 := ho6.no hS7
    have ho31 := ho7.no hS7
    have hr13 := hw2.no hS7
    have hd7 : PV (RSlice RSpan) M1 [({ Lo := 0, Hi := x1 } : Span)] (D 5) w16 ∧ True := hd7
    obtain ⟨d5, -⟩ := hd7
    obtain ⟨v6, hq2⟩ : ∃ v, (D 5) = v := ⟨_, rfl⟩
    rw [hq2] at d5
    refine dg_sub (E' := [(13, v6)]) ⟨(congrArg some hq2), trivial⟩ ?_
    obtain ⟨A1, c1, rfl, -⟩ := vslice_shape d5
    refine dg_plain rfl (ow_buildSlice (R := (RSlice RSpan)) (xs := [[({ Lo := 0, Hi := x1 } : Span)]]) (cs := #[(.slice A1 [({ Lo := 0, Hi := x1 } : Span)].length c1)]) (e := 58) rfl rfl (by kernel_rfl) rfl rfl ⟨_, _, rfl, d5.cells, rfl⟩ hC16 fun p4 w17 hw8 hb10 hl17 hC17 => ?_)
    have ho32 := ho30.no hb10
    have ho33 := ho31.no hb10
    have hr14 := hr13.no hb10
    exact ⟨hb10, hw8⟩
   ·
    intro w18 D hS8 hd8
    have hd8 : PEq (.pointer (some ⟨g2, 0, none⟩)) (D 0) w18 ∧ PEq v2 (D 1) w18 ∧ PEq (.int .i64 k1) (D 2) w18 ∧ PEq (.int .i64 x1) (D 3) w18 ∧ PV RSpan M1 ({ Lo := 0, Hi := x1 } : Span) (D 4) w18 ∧ PV (RSlice RSpan) M1 [({ Lo := 0, Hi := x1 } : Span)] (D 5) w18 ∧ PV (RSlice (RSlice RSpan)) M1 [[({ Lo := 0, Hi := x1 } : Span)]] (D 6) w18 ∧ True := hd8
    obtain ⟨-, d7, -, -, -, -, d12, -⟩ := hd8
    have hl18 := Le.no M1 hS8
    have hC18 := hC4.no hS8
    have ho34 := ho6.no hS8
    have ho35 := ho7.no hS8
    have hr15 := hw2.no hS8
    obtain ⟨v7, hq3⟩ : ∃ v, (D 6) = v := ⟨_, rfl⟩
    rw [hq3] at d12
    refine lw_sub (E' := [(9, v2), (14, v7), (0, (.pointer (some ⟨g1, 0, none⟩))), (1, (.pointer (some ⟨g2, 0, none⟩))), (2, (.int .i64 k1))]) ⟨(congrArg some d7), (congrArg some hq3), rfl, rfl, rfl, trivial⟩ ?_
    replace hb4 := bind_some hb4
    obtain ⟨z1, hz1, hb4⟩ := hb4
    refine lw_op rfl rfl rfl (ow_append (R := (RSlice RSpan)) rfl rfl rfl rfl Tryd.underlying25 hi58 hz58 hs58 hy58 rfl rfl rfl rfl hr15 d12 hz1 hC18 fun v8 w19 M2 hr16 hb11 hl19 hC19 hM1 hat1 => ?_)
    have ho36 := ho34.go hb11 (fun e => (orow_ne hr15 ho34 (by decide)) e)
    have hm6 := hM1 _ hm4
    have ho37 := ho35.go hb11 (fun e => (orow_ne hr15 ho35 (by decide)) e)
    have hm7 := hM1 _ hm5
    refine lw_op rfl rfl rfl (ow_fieldAddr rfl rfl Tryd.underlying27 rfl (Tryd.sizeOf25 _) ?_)
    obtain ⟨A2, c2, rfl⟩ := hr16.len
    refine lw_op0 rfl rfl (ow_store (X := No) (us := [(.slice A2 z1.length c2)]) (cs' := #[(.slice A2 z1.length c2)]) rfl rfl rfl rfl ho37 (Tryd.sizeOf25 _) rfl rfl rfl rfl hm7 (.inl hg4) rfl hC19 fun w20 ho38 hb12 hl20 hC20 => ?_)
    have ho39 := ho36.go hb12 (fun e => hn1 e)
    have hr17 := hr16.go hb12 (fun k hk e => (orow_ne hr16 ho37 (by decide)) (hk.trans (congrArg some e))) hl20 (fun _ h => h)
    refine lw_nil (ew_blockN ?_)
    refine ew_then (cw_region (lw_op rfl rfl rfl (ow_move rfl rfl ?_)))
    refine lw_op rfl rfl rfl (ow_add rfl rfl rfl ?_)
    refine lw_op rfl rfl rfl (ow_assign rfl rfl ?_)
    refine lw_nil (ew_nxt ((W (k1 + 1)), z1) hb4 fun a ha => ⟨M2, (.slice A2 z1.length c2), ?_, (((hl4.trans hl18).trans hl19).trans hl20), hC20, hr17, ho39, hm6, ho38, hm7⟩)
    exact ha.sub ⟨rfl, rfl, rfl, trivial⟩
  ·
   obtain rfl := hbb1.trans hc1
   refine cw_false rfl ?_
   refine cw_exit ?_
   refine ew_thenX ?_
   refine ew_thenX ?_
   refine ew_blockX ?_
   refine ew_brk (k1, y1) hb4 fun a ha => ⟨M1, v2, ?_, hl4, hC4, hw2, ho6, hm4, ho7, hm5⟩
   exact ha.sub ⟨rfl, rfl, rfl, trivial⟩
 ·
  rintro ⟨k2, y2⟩ a w21 hlr2 ⟨M3, v10, hF2, hl21, hC21, hw9, ho40, hm8, ho41, hm9⟩
  subst hlr2
  refine ew_at (E := [(0, (.pointer (some ⟨g1, 0, none⟩))), (1, (.pointer (some ⟨g2, 0, none⟩))), (2, (.int .i64 k2))]) hF2 ?_
  refine ew_then (cw_seq (cw_region (lw_op rfl rfl rfl (ow_loadOwnA rfl rfl rfl ho41 (Tryd.isAgg27 _) (Tryd.sizeOf27 _) rfl ?_))))
  have hw10 := hw9.freezeDel
  have hC22 := hw9.cxDel hC21 (fun _ e => e.elim) hO
  have hl22 := Le.del w21 M3 v10
  have hm10 : (Del v10 M3) g1 := ⟨hm8, fun e => (orow_ne hw9 ho40 (by decide)) e⟩
  have hm11 : (Del v10 M3) g2 := ⟨hm9, fun e => (orow_ne hw9 ho41 (by decide)) e⟩
  obtain ⟨A3, c3, rfl, -⟩ := vslice_shape hw10
  have hw11 : VRep RBox w21 (Del (.slice A3 y2.length c3) M3) ({ Sides := y2 } : Box) (.agg #[(.slice A3 y2.length c3)]) := shut_Box hw10
  refine lw_op0 rfl rfl (ow_store (X := No) (us := [(.slice A3 y2.length c3)]) (cs' := #[(.slice A3 y2.length c3)]) rfl rfl rfl rfl ho40 (Tryd.sizeOf27 _) rfl rfl rfl rfl hm10 (.inl hg2) rfl hC22 fun w22 ho42 hb13 hl23 hC23 => ?_)
  have ho43 := ho41.go hb13 (fun e => hn1 e.symm)
  refine lw_nil (ew_then (cw_ret ?_))
  have hw12 : VRep RBox w22 (Del (.slice A3 y2.length c3) M3) ({ Sides := y2 } : Box) (.agg #[(.slice A3 y2.length c3)]) := shut_Box (VRep.mono hl23 hw10)
  obtain rfl := Option.some.inj h
  exact ew_ret (res1 rfl (.cell rfl (own_loadVarA ho42 (Tryd.isAgg27 _) (Tryd.sizeOf27 _) rfl))) ⟨_, rfl, (hw12.mono hC23.back), hC23.bx⟩

theorem wo_spec_BoxAll {w : World} {M : Nat → Prop} (hG : ARep (RArr 4 RShape) w M shapes ⟨0, 0, none⟩) (hO : ∀ b, M b → b < w.heap.size)  {r : Box} (h : F.spec_BoxAll = some r) :
  Calls Tryd.prog 59 [].toArray w fun e w' => ∃ v, e = .returned v ∧ (∃ M' u, v = .agg #[u] ∧ OwnRow (RSlice RSpan) w.heap.size 58 w' M' r.Sides u ∧ Cx No w M w' M') ∧ BX No w w' := by
 obtain ⟨i58, hi58, hz58, hs58, hy58⟩ := info58
 have hC : Cx No w M w M := Cx.start hO (fun _ e => e.elim)
 refine walk (N := 18) Tryd.func59 rfl Tryd.ntmps59 rfl ?_
 refine cw_seq (cw_region (lw_op rfl rfl rfl (ow_alloc rfl (Tryd.zeroValue27 _) hC fun g1 w1 hg1 hg2 ho1 hb1 hl1 hC1 => ?_)))
 have hm1 : (Add g1 M) g1 := .inl rfl
 refine lw_nil (ew_then (cw_seq (cw_region (lw_op rfl rfl rfl (ow_build (v := .agg #[(.slice none 0 0)]) rfl rfl (by kernel_rfl) ?_)))))
 have hw1 : VRep RBox w1 (Add g1 M) ({ Sides := ([] : List (List Span)) } : Box) (.agg #[(.slice none 0 0)]) := shut_Box (vslice_nil (R := (RSlice RSpan)) (w := w1) (M := (Add g1 M)))
 refine lw_op rfl rfl rfl (ow_alloc rfl (Tryd.zeroValue27 _) hC1 fun g2 w2 hg3 hg4 ho2 hb2 hl2 hC2 => ?_)
 have hn1 := Nat.ne_of_lt (Nat.lt_of_lt_of_le ho1.lt hg3)
 have ho3 := ho1.no hb2
 have hm2 : (Add g2 (Add g1 M)) g1 := .inr hm1
 have hm3 : (Add g2 (Add g1 M)) g2 := .inl rfl
 refine lw_op0 rfl rfl (ow_store (X := No) (us := [(.slice none 0 0)]) (cs' := #[(.slice none 0 0)]) rfl rfl rfl rfl ho2 (Tryd.sizeOf27 _) rfl rfl rfl rfl hm3 (.inl hg4) rfl hC2 fun w3 ho4 hb3 hl3 hC3 => ?_)
 have ho5 := ho3.go hb3 (fun e => hn1 e)
 refine lw_nil (ew_then (cw_seq (cw_seq (cw_region (lw_op rfl rfl rfl (ow_assign rfl rfl ?_))))))
 refine lw_nil (ew_then ?_)
 have hr1 : OwnRow (RSlice RSpan) w.heap.size 58 w3 (Add g2 (Add g1 M)) ([] : List (List Span)) (.slice none 0 0) := ownrow_nil
 replace h := bind_some h
 obtain ⟨lr1, hlr1, h⟩ := h
 refine cw_for hlr1 (fun s a w' => ∃ (M' : Nat → Prop) (v1c : Value), Fits 18 [(0, (.pointer (some ⟨g1, 0, none⟩))), (1, (.pointer (some ⟨g2, 0, none⟩))), (2, (.int .i64 s.1))] a ∧ Le w3 (Add g2 (Add g1 M)) w' M' ∧ Cx No w M w' M' ∧ OwnRow (RSlice RSpan) w.heap.size 58 w' M' s.2 v1c ∧ Own w' g1 27 #[(.slice none 0 0)] ∧ M' g1 ∧ Own w' g2 27 #[v1c] ∧ M' g2) ?_ ?_ ?_
 ·
  intro a ha
  exact ⟨(Add g2 (Add g1 M)), (.slice none 0 0), ha.sub ⟨rfl, rfl, rfl, trivial⟩, Le.refl _ _, hC3, hr1, ho5, hm2, ho4, hm3⟩
 ·
  rintro ⟨k1, y1⟩ a w4 sr1 ⟨M1, v2, hF1, hl4, hC4, hw2, ho6, hm4, ho7, hm5⟩ hb4 hR1
  refine cw_at (E := [(0, (.pointer (some ⟨g1, 0, none⟩))), (1, (.pointer (some ⟨g2, 0, none⟩))), (2, (.int .i64 k1))]) hF1 ?_
  refine cw_seq (cw_seq (cw_region (lw_op rfl rfl rfl (ow_move rfl rfl ?_))))
  refine lw_op rfl rfl rfl (ow_lss rfl rfl rfl fun bb1 hbb1 => ?_)
  refine lw_nil (ew_then ?_)
  replace hb4 := cond_some hb4
  rcases hb4 with ⟨hc1, hb4⟩ | ⟨hc1, hb4⟩
  ·
   obtain rfl := hbb1.trans hc1
   refine cw_true rfl ?_
   refine cw_skip (ew_then (cw_seq (cw_block ?_)))
   replace hb4 := bind_some hb4
   obtain ⟨x1, hx1, hb4⟩ := hb4
   refine cw_sub (E' := [(0, (.pointer (some ⟨g1, 0, none⟩))), (1, (.pointer (some ⟨g2, 0, none⟩))), (2, (.int .i64 k1))]) ⟨rfl, rfl, rfl, trivial⟩ ?_
   refine cw_drawQ 7 [PEq (.pointer (some ⟨g2, 0, none⟩)), PEq v2, PEq (.int .i64 k1), PEq (.int .i64 x1), PV RSpan M1 ({ Lo := 0, Hi := x1 } : Span), PV (RSlice RSpan) M1 [({ Lo := 0, Hi := x1 } : Span)], PV (RSlice (RSlice RSpan)) M1 [[({ Lo := 0, Hi := x1 } : Span)]]] (by kernel_rfl) rfl (by kernel_rfl) ⟨PEq.mono _, PEq.mono _, PEq.mono _, PEq.mono _, PV.mono _ _ _, PV.mono _ _ _, PV.mono _ _ _, trivial⟩ ⟨?_, ?_, ?_, ?_, ?_, ?_, ?_, trivial⟩ ?_
   ·
    intro w8 D hS1 hd1
    have hl8 := Le.no M1 hS1
    have hC8 := hC4.no hS1
    have ho14 := ho6.no hS1
    have ho15 := ho7.no hS1
    have hr5 := hw2.no hS1
    refine dg_sub (E' := [(1, (.pointer (some ⟨g2, 0, none⟩)))]) ⟨rfl, trivial⟩ ?_
    refine dg_plain rfl (ow_fieldAddr rfl rfl Tryd.underlying27 rfl (Tryd.sizeOf25 _) ?_)
    exact ⟨BX.refl _ _, rfl⟩
   ·
    intro w9 D hS2 hd2
    have hl9 := Le.no M1 hS2
    have hC9 := hC4.no hS2
    have ho16 := ho6.no hS2
    have ho17 := ho7.no hS2
    have hr6 := hw2.no hS2
    have hd2 : PEq (.pointer (some ⟨g2, 0, none⟩)) (D 0) w9 ∧ True := hd2
    obtain ⟨d1, -⟩ := hd2
    refine dg_sub (E' := [(8, (.pointer (some ⟨g2, 0, none⟩)))]) ⟨(congrArg some d1), trivial⟩ ?_
    refine dg_plain rfl (ow_loadOwn1 rfl rfl rfl ho17 (Tryd.isAgg25 _) rfl ?_)
    exact ⟨BX.refl _ _, rfl⟩
   ·
    intro w10 D hS3 hd3
    have hl10 := Le.no M1 hS3
    have hC10 := hC4.no hS3
    have ho18 := ho6.no hS3
    have ho19 := ho7.no hS3
    have hr7 := hw2.no hS3
    refine dg_sub (E' := [(2, (.int .i64 k1))]) ⟨rfl, trivial⟩ ?_
    refine dg_plain rfl (ow_move rfl rfl ?_)
    exact ⟨BX.refl _ _, rfl⟩
   ·
    intro w11 D hS4 hd4
    have hl11 := Le.no M1 hS4
    have hC11 := hC4.no hS4
    have ho20 := ho6.no hS4
    have ho21 := ho7.no hS4
    have hr8 := hw2.no hS4
    have hd4 : PEq (.int .i64 k1) (D 2) w11 ∧ True := hd4
    obtain ⟨d2, -⟩ := hd4
    refine dg_sub (E' := [(10, (.int .i64 k1))]) ⟨(congrArg some d2), trivial⟩ ?_
    refine dg_plain rfl (ow_call rfl rfl Tryd.call81 (w_spec_FieldTop (hG.mono ((((hl1.trans hl2).trans hl3).trans hl4).trans hl11)) hC11.old hx1) fun v4 w12 hv4 => ?_)
    obtain ⟨hv4, hb8⟩ := hv4
    have hl12 := Le.no M1 hb8
    have hC12 := hC11.no hb8
    have ho22 := ho20.no hb8
    have ho23 := ho21.no hb8
    have hr9 := hr8.no hb8
    obtain rfl := vint_eq hv4
    exact ⟨hb8, rfl⟩
   ·
    intro w13 D hS5 hd5
    have hl13 := Le.no M1 hS5
    have hC13 := hC4.no hS5
    have ho24 := ho6.no hS5
    have ho25 := ho7.no hS5
    have hr10 := hw2.no hS5
    have hd5 : PEq (.int .i64 x1) (D 3) w13 ∧ True := hd5
    obtain ⟨d3, -⟩ := hd5
    refine dg_sub (E' := [(11, (.int .i64 x1))]) ⟨(congrArg some d3), trivial⟩ ?_
    refine dg_plain rfl (ow_build (v := .agg #[(.int .i64 0), (.int .i64 x1)]) rfl rfl (by kernel_rfl) ?_)
    have hw6 : VRep RSpan w13 M1 ({ Lo := 0, Hi := x1 } : Span) (.agg #[(.int .i64 0), (.int .i64 x1)]) := shut_Span
    exact ⟨BX.refl _ _, hw6⟩
   ·
    intro w14 D hS6 hd6
    have hl14 := Le.no M1 hS6
    have hC14 := hC4.no hS6
    have ho26 := ho6.no hS6
    have ho27 := ho7.no hS6
    have hr11 := hw2.no hS6
    have hd6 : PV RSpan M1 ({ Lo := 0, Hi := x1 } : Span) (D 4) w14 ∧ True := hd6
    obtain ⟨d4, -⟩ := hd6
    obtain ⟨v5, hq1⟩ : ∃ v, (D 4) = v := ⟨_, rfl⟩
    rw [hq1] at d4
    refine dg_sub (E' := [(12, v5)]) ⟨(congrArg some hq1), trivial⟩ ?_
    obtain rfl := open_Span d4
    refine dg_plain rfl (ow_buildSlice (R := RSpan) (xs := [({ Lo := 0, Hi := x1 } : Span)]) (cs := #[(.int .i64 ({ Lo := 0, Hi := x1 } : Span).Lo), (.int .i64 ({ Lo := 0, Hi := x1 } : Span).Hi)]) (e := 76) rfl rfl (by kernel_rfl) rfl rfl ⟨_, _, rfl, d4.cells, rfl⟩ hC14 fun p3 w15 hw7 hb9 hl15 hC15 => ?_)
    have ho28 := ho26.no hb9
    have ho29 := ho27.no hb9
    have hr12 := hr11.no hb9
    exact ⟨hb9, hw7⟩
   ·
    intro w16 D hS7 hd7
    have hl16 := Le.no M1 hS7
    have hC16 := hC4.no hS7
    have ho30 := ho6.no hS7
    have ho31 := ho7.no hS7
    have hr13 := hw2.no hS7
    have hd7 : PV (RSlice RSpan) M1 [({ Lo := 0, Hi := x1 } : Span)] (D 5) w16 ∧ True := hd7
    obtain ⟨d5, -⟩ := hd7
    obtain ⟨v6, hq2⟩ : ∃ v, (D 5) = v := ⟨_, rfl⟩
    rw [hq2] at d5
    refine dg_sub (E' := [(13, v6)]) ⟨(congrArg some hq2), trivial⟩ ?_
    obtain ⟨A1, c1, rfl, -⟩ := vslice_shape d5
    refine dg_plain rfl (ow_buildSlice (R := (RSlice RSpan)) (xs := [[({ Lo := 0, Hi := x1 } : Span)]]) (cs := #[(.slice A1 [({ Lo := 0, Hi := x1 } : Span)].length c1)]) (e := 58) rfl rfl (by kernel_rfl) rfl rfl ⟨_, _, rfl, d5.cells, rfl⟩ hC16 fun p4 w17 hw8 hb10 hl17 hC17 => ?_)
    have ho32 := ho30.no hb10
    have ho33 := ho31.no hb10
    have hr14 := hr13.no hb10
    exact ⟨hb10, hw8⟩
   ·
    intro w18 D hS8 hd8
    have hd8 : PEq (.pointer (some ⟨g2, 0, none⟩)) (D 0) w18 ∧ PEq v2 (D 1) w18 ∧ PEq (.int .i64 k1) (D 2) w18 ∧ PEq (.int .i64 x1) (D 3) w18 ∧ PV RSpan M1 ({ Lo := 0, Hi := x1 } : Span) (D 4) w18 ∧ PV (RSlice RSpan) M1 [({ Lo := 0, Hi := x1 } : Span)] (D 5) w18 ∧ PV (RSlice (RSlice RSpan)) M1 [[({ Lo := 0, Hi := x1 } : Span)]] (D 6) w18 ∧ True := hd8
    obtain ⟨-, d7, -, -, -, -, d12, -⟩ := hd8
    have hl18 := Le.no M1 hS8
    have hC18 := hC4.no hS8
    have ho34 := ho6.no hS8
    have ho35 := ho7.no hS8
    have hr15 := hw2.no hS8
    obtain ⟨v7, hq3⟩ : ∃ v, (D 6) = v := ⟨_, rfl⟩
    rw [hq3] at d12
    refine lw_sub (E' := [(9, v2), (14, v7), (0, (.pointer (some ⟨g1, 0, none⟩))), (1, (.pointer (some ⟨g2, 0, none⟩))), (2, (.int .i64 k1))]) ⟨(congrArg some d7), (congrArg some hq3), rfl, rfl, rfl, trivial⟩ ?_
    replace hb4 := bind_some hb4
    obtain ⟨z1, hz1, hb4⟩ := hb4
    refine lw_op rfl rfl rfl (ow_append (R := (RSlice RSpan)) rfl rfl rfl rfl Tryd.underlying25 hi58 hz58 hs58 hy58 rfl rfl rfl rfl hr15 d12 hz1 hC18 fun v8 w19 M2 hr16 hb11 hl19 hC19 hM1 hat1 => ?_)
    have ho36 := ho34.go hb11 (fun e => (orow_ne hr15 ho34 (by decide)) e)
    have hm6 := hM1 _ hm4
    have ho37 := ho35.go hb11 (fun e => (orow_ne hr15 ho35 (by decide)) e)
    have hm7 := hM1 _ hm5
    refine lw_op rfl rfl rfl (ow_fieldAddr rfl rfl Tryd.underlying27 rfl (Tryd.sizeOf25 _) ?_)
    obtain ⟨A2, c2, rfl⟩ := hr16.len
    refine lw_op0 rfl rfl (ow_store (X := No) (us := [(.slice A2 z1.length c2)]) (cs' := #[(.slice A2 z1.length c2)]) rfl rfl rfl rfl ho37 (Tryd.sizeOf25 _) rfl rfl rfl rfl hm7 (.inl hg4) rfl hC19 fun w20 ho38 hb12 hl20 hC20 => ?_)
    have ho39 := ho36.go hb12 (fun e => hn1 e)
    have hr17 := hr16.go hb12 (fun k hk e => (orow_ne hr16 ho37 (by decide)) (hk.trans (congrArg some e))) hl20 (fun _ h => h)
    refine lw_nil (ew_blockN ?_)
    refine ew_then (cw_region (lw_op rfl rfl rfl (ow_move rfl rfl ?_)))
    refine lw_op rfl rfl rfl (ow_add rfl rfl rfl ?_)
    refine lw_op rfl rfl rfl (ow_assign rfl rfl ?_)
    refine lw_nil (ew_nxt ((W (k1 + 1)), z1) hb4 fun a ha => ⟨M2, (.slice A2 z1.length c2), ?_, (((hl4.trans hl18).trans hl19).trans hl20), hC20, hr17, ho39, hm6, ho38, hm7⟩)
    exact ha.sub ⟨rfl, rfl, rfl, trivial⟩
  ·
   obtain rfl := hbb1.trans hc1
   refine cw_false rfl ?_
   refine cw_exit ?_
   refine ew_thenX ?_
   refine ew_thenX ?_
   refine ew_blockX ?_
   refine ew_brk (k1, y1) hb4 fun a ha => ⟨M1, v2, ?_, hl4, hC4, hw2, ho6, hm4, ho7, hm5⟩
   exact ha.sub ⟨rfl, rfl, rfl, trivial⟩
 ·
  rintro ⟨k2, y2⟩ a w21 hlr2 ⟨M3, v10, hF2, hl21, hC21, hw9, ho40, hm8, ho41, hm9⟩
  subst hlr2
  refine ew_at (E := [(0, (.pointer (some ⟨g1, 0, none⟩))), (1, (.pointer (some ⟨g2, 0, none⟩))), (2, (.int .i64 k2))]) hF2 ?_
  refine ew_then (cw_seq (cw_region ?_))
  obtain ⟨A3, c3, rfl⟩ := hw9.len
  refine lw_op rfl rfl rfl (ow_loadOwnA rfl rfl rfl ho41 (Tryd.isAgg27 _) (Tryd.sizeOf27 _) rfl ?_)
  refine lw_op0 rfl rfl (ow_store (X := No) (us := [(.slice A3 y2.length c3)]) (cs' := #[(.slice A3 y2.length c3)]) rfl rfl rfl rfl ho40 (Tryd.sizeOf27 _) rfl rfl rfl rfl hm8 (.inl hg2) rfl hC21 fun w22 ho42 hb13 hl22 hC22 => ?_)
  have ho43 := ho41.go hb13 (fun e => hn1 e.symm)
  have hr18 := hw9.go hb13 (fun k hk e => (orow_ne hw9 ho40 (by decide)) (hk.trans (congrArg some e))) hl22 (fun _ h => h)
  refine lw_nil (ew_then (cw_ret ?_))
  obtain rfl := Option.some.inj h
  exact ew_ret (res1 rfl (.cell rfl (own_loadVarA ho42 (Tryd.isAgg27 _) (Tryd.sizeOf27 _) rfl))) ⟨_, rfl, ⟨M3, _, rfl, hr18, hC22⟩, hC22.bx⟩

theorem w_spec_TestValid {w : World} {M : Nat → Prop} (hG : ARep (RArr 4 RShape) w M shapes ⟨0, 0, none⟩) (hO : ∀ b, M b → b < w.heap.size) {v0p : Value} {a_t : Test} (h0 : VRep RTest w M a_t v0p) {r : Bool} (h : F.spec_TestValid a_t = some r) :
  Calls Tryd.prog 64 [v0p].toArray w fun e w' => ∃ v, e = .returned v ∧ VRep RBool w' M r v ∧ BX No w w' := by
 have hC : Cx No w M w M := Cx.start hO (fun _ e => e.elim)
 refine walk (N := 21) Tryd.func64 rfl Tryd.ntmps64 rfl ?_
 refine cw_seq (cw_region (lw_op rfl rfl rfl (ow_box (R := RTest) rfl rfl h0 hC fun p1 w1 hp1 hb1 hl1 hC1 => ?_)))
 refine lw_op rfl rfl rfl (ow_assign rfl rfl ?_)
 refine lw_nil (ew_then (cw_seq ?_))
 replace h := bind_some h
 obtain ⟨x1, hx1, h⟩ := h
 replace h := cond_some h
 rcases h with ⟨hc1, h⟩ | ⟨hc1, h⟩
 ·
  subst hc1
  replace h := bind_some h
  obtain ⟨x2, hx2, h⟩ := h
  replace h := cond_some h
  rcases h with ⟨hc2, h⟩ | ⟨hc2, h⟩
  ·
   subst hc2
   replace h := bind_some h
   obtain ⟨x3, hx3, h⟩ := h
   refine cw_sub (E' := [(1, (.pointer (some p1))), (2, (.bool false))]) ⟨rfl, rfl, trivial⟩ ?_
   refine cw_drawQ 16 [PA RInt M a_t.Field, PEq (.int .i64 a_t.Field), PEq (.bool true), PEq (.bool true), PA RInt M a_t.Lo, PEq (.int .i64 a_t.Lo), PA RInt M a_t.Hi, PEq (.int .i64 a_t.Hi), PEq (.bool true), PEq (.bool true), PEq (.bool true), PA RInt M a_t.Hi, PEq (.int .i64 a_t.Hi), PA RInt M a_t.Field, PEq (.int .i64 a_t.Field), PEq (.int .i64 x3)] (by kernel_rfl) rfl (by kernel_rfl) ⟨PA.mono _ _ _, PEq.mono _, PEq.mono _, PEq.mono _, PA.mono _ _ _, PEq.mono _, PA.mono _ _ _, PEq.mono _, PEq.mono _, PEq.mono _, PEq.mono _, PA.mono _ _ _, PEq.mono _, PA.mono _ _ _, PEq.mono _, PEq.mono _, trivial⟩ ⟨?_, ?_, ?_, ?_, ?_, ?_, ?_, ?_, ?_, ?_, ?_, ?_, ?_, ?_, ?_, ?_, trivial⟩ ?_
   ·
    intro w5 D hS1 hd1
    have hl5 := Le.no M hS1
    have hC5 := hC1.no hS1
    refine dg_sub (E' := [(1, (.pointer (some p1)))]) ⟨rfl, trivial⟩ ?_
    refine dg_plain rfl (ow_fieldAddr rfl rfl Tryd.underlying31 rfl (Tryd.sizeOf3 _) ?_)
    exact ⟨BX.refl _ _, ⟨_, rfl, (ARep.mono hl5 (hp1.fld fld_Test_Field))⟩⟩
   ·
    intro w6 D hS2 hd2
    have hl6 := Le.no M hS2
    have hC6 := hC1.no hS2
    have hd2 : PA RInt M a_t.Field (D 0) w6 ∧ True := hd2
    obtain ⟨d1, -⟩ := hd2
    obtain ⟨p2, e1, ha1⟩ := d1
    refine dg_sub (E' := [(3, (.pointer (some p2)))]) ⟨(congrArg some e1), trivial⟩ ?_
    refine dg_plain rfl (ow_load (R := RInt) rfl rfl ha1 (Tryd.sizeOf3 _) (Tryd.isAgg3 _) fun v9 hv9 => ?_)
    obtain rfl := vint_eq hv9
    exact ⟨BX.refl _ _, rfl⟩
   ·
    intro w7 D hS3 hd3
    have hl7 := Le.no M hS3
    have hC7 := hC1.no hS3
    have hd3 : PEq (.int .i64 a_t.Field) (D 1) w7 ∧ True := hd3
    obtain ⟨d2, -⟩ := hd3
    refine dg_sub (E' := [(4, (.int .i64 a_t.Field))]) ⟨(congrArg some d2), trivial⟩ ?_
    refine dg_plain rfl (ow_call rfl rfl Tryd.call82 (w_spec_l1In (hG.mono (hl1.trans hl7)) hC7.old hx1) fun v10 w8 hv10 => ?_)
    obtain ⟨hv10, hb5⟩ := hv10
    have hl8 := Le.no M hb5
    have hC8 := hC7.no hb5
    obtain rfl := vbool_eq hv10
    exact ⟨hb5, rfl⟩
   ·
    intro w9 D hS4 hd4
    have hl9 := Le.no M hS4
    have hC9 := hC1.no hS4
    have hd4 : PEq (.bool true) (D 2) w9 ∧ PEq (.bool true) (D 2) w9 ∧ True := hd4
    obtain ⟨d3, d4, -⟩ := hd4
    refine dg_sub (E' := [(5, (.bool true))]) ⟨(congrArg some d3), trivial⟩ ?_
    refine dg_plain rfl (ow_move rfl rfl ?_)
    exact ⟨BX.refl _ _, rfl⟩
   ·
    intro w10 D hS5 hd5
    have hl10 := Le.no M hS5
    have hC10 := hC1.no hS5
    have hd5 : PEq (.bool true) (D 3) w10 ∧ True := hd5
    obtain ⟨d5, -⟩ := hd5
    refine dg_sub (E' := [(6, (.bool true)), (1, (.pointer (some p1)))]) ⟨(congrArg some d5), rfl, trivial⟩ ?_
    refine dg_on rfl rfl rfl rfl (ow_fieldAddr rfl rfl Tryd.underlying31 rfl (Tryd.sizeOf3 _) ?_)
    exact ⟨BX.refl _ _, ⟨_, rfl, (ARep.mono hl10 (hp1.fld fld_Test_Lo))⟩⟩
   ·
    intro w11 D hS6 hd6
    have hl11 := Le.no M hS6
    have hC11 := hC1.no hS6
    have hd6 : PA RInt M a_t.Lo (D 4) w11 ∧ PEq (.bool true) (D 3) w11 ∧ True := hd6
    obtain ⟨d6, d7, -⟩ := hd6
    obtain ⟨p3, e2, ha2⟩ := d6
    refine dg_sub (E' := [(7, (.pointer (some p3))), (6, (.bool true))]) ⟨(congrArg some e2), (congrArg some d7), trivial⟩ ?_
    refine dg_on rfl rfl rfl rfl (ow_load (R := RInt) rfl rfl ha2 (Tryd.sizeOf3 _) (Tryd.isAgg3 _) fun v11 hv11 => ?_)
    obtain rfl := vint_eq hv11
    exact ⟨BX.refl _ _, rfl⟩
   ·
    intro w12 D hS7 hd7
    have hl12 := Le.no M hS7
    have hC12 := hC1.no hS7
    have hd7 : PEq (.bool true) (D 3) w12 ∧ True := hd7
    obtain ⟨d8, -⟩ := hd7
    refine dg_sub (E' := [(6, (.bool true)), (1, (.pointer (some p1)))]) ⟨(congrArg some d8), rfl, trivial⟩ ?_
    refine dg_on rfl rfl rfl rfl (ow_fieldAddr rfl rfl Tryd.underlying31 rfl (Tryd.sizeOf3 _) ?_)
    exact ⟨BX.refl _ _, ⟨_, rfl, (ARep.mono hl12 (hp1.fld fld_Test_Hi))⟩⟩
   ·
    intro w13 D hS8 hd8
    have hl13 := Le.no M hS8
    have hC13 := hC1.no hS8
    have hd8 : PA RInt M a_t.Hi (D 6) w13 ∧ PEq (.bool true) (D 3) w13 ∧ True := hd8
    obtain ⟨d9, d10, -⟩ := hd8
    obtain ⟨p4, e3, ha3⟩ := d9
    refine dg_sub (E' := [(9, (.pointer (some p4))), (6, (.bool true))]) ⟨(congrArg some e3), (congrArg some d10), trivial⟩ ?_
    refine dg_on rfl rfl rfl rfl (ow_load (R := RInt) rfl rfl ha3 (Tryd.sizeOf3 _) (Tryd.isAgg3 _) fun v12 hv12 => ?_)
    obtain rfl := vint_eq hv12
    exact ⟨BX.refl _ _, rfl⟩
   ·
    intro w14 D hS9 hd9
    have hl14 := Le.no M hS9
    have hC14 := hC1.no hS9
    have hd9 : PEq (.int .i64 a_t.Lo) (D 5) w14 ∧ PEq (.int .i64 a_t.Hi) (D 7) w14 ∧ PEq (.bool true) (D 3) w14 ∧ PEq (.bool true) (D 3) w14 ∧ True := hd9
    obtain ⟨d11, d12, d13, d14, -⟩ := hd9
    refine dg_sub (E' := [(8, (.int .i64 a_t.Lo)), (10, (.int .i64 a_t.Hi)), (6, (.bool true))]) ⟨(congrArg some d11), (congrArg some d12), (congrArg some d13), trivial⟩ ?_
    refine dg_on rfl rfl rfl rfl (ow_call rfl rfl Tryd.call82 (w_spec_l1In (hG.mono (hl1.trans hl14)) hC14.old hx2) fun v13 w15 hv13 => ?_)
    obtain ⟨hv13, hb6⟩ := hv13
    have hl15 := Le.no M hb6
    have hC15 := hC14.no hb6
    obtain rfl := vbool_eq hv13
    exact ⟨hb6, rfl⟩
   ·
    intro w16 D hS10 hd10
    have hl16 := Le.no M hS10
    have hC16 := hC1.no hS10
    have hd10 : PEq (.bool true) (D 3) w16 ∧ PEq (.bool true) (D 8) w16 ∧ True := hd10
    obtain ⟨d15, d16, -⟩ := hd10
    refine dg_sub (E' := [(6, (.bool true)), (11, (.bool true))]) ⟨(congrArg some d15), (congrArg some d16), trivial⟩ ?_
    refine dg_plain rfl (ow_pickT rfl rfl rfl ?_)
    exact ⟨BX.refl _ _, rfl⟩
   ·
    intro w17 D hS11 hd11
    have hl17 := Le.no M hS11
    have hC17 := hC1.no hS11
    have hd11 : PEq (.bool true) (D 9) w17 ∧ PEq (.bool true) (D 8) w17 ∧ True := hd11
    obtain ⟨d17, d18, -⟩ := hd11
    refine dg_sub (E' := [(12, (.bool true))]) ⟨(congrArg some d17), trivial⟩ ?_
    refine dg_plain rfl (ow_move rfl rfl ?_)
    exact ⟨BX.refl _ _, rfl⟩
   ·
    intro w18 D hS12 hd12
    have hl18 := Le.no M hS12
    have hC18 := hC1.no hS12
    have hd12 : PEq (.bool true) (D 10) w18 ∧ True := hd12
    obtain ⟨d19, -⟩ := hd12
    refine dg_sub (E' := [(13, (.bool true)), (1, (.pointer (some p1)))]) ⟨(congrArg some d19), rfl, trivial⟩ ?_
    refine dg_on rfl rfl rfl rfl (ow_fieldAddr rfl rfl Tryd.underlying31 rfl (Tryd.sizeOf3 _) ?_)
    exact ⟨BX.refl _ _, ⟨_, rfl, (ARep.mono hl18 (hp1.fld fld_Test_Hi))⟩⟩
   ·
    intro w19 D hS13 hd13
    have hl19 := Le.no M hS13
    have hC19 := hC1.no hS13
    have hd13 : PA RInt M a_t.Hi (D 11) w19 ∧ PEq (.bool true) (D 10) w19 ∧ True := hd13
    obtain ⟨d20, d21, -⟩ := hd13
    obtain ⟨p5, e4, ha4⟩ := d20
    refine dg_sub (E' := [(14, (.pointer (some p5))), (13, (.bool true))]) ⟨(congrArg some e4), (congrArg some d21), trivial⟩ ?_
    refine dg_on rfl rfl rfl rfl (ow_load (R := RInt) rfl rfl ha4 (Tryd.sizeOf3 _) (Tryd.isAgg3 _) fun v14 hv14 => ?_)
    obtain rfl := vint_eq hv14
    exact ⟨BX.refl _ _, rfl⟩
   ·
    intro w20 D hS14 hd14
    have hl20 := Le.no M hS14
    have hC20 := hC1.no hS14
    have hd14 : PEq (.bool true) (D 10) w20 ∧ True := hd14
    obtain ⟨d22, -⟩ := hd14
    refine dg_sub (E' := [(13, (.bool true)), (1, (.pointer (some p1)))]) ⟨(congrArg some d22), rfl, trivial⟩ ?_
    refine dg_on rfl rfl rfl rfl (ow_fieldAddr rfl rfl Tryd.underlying31 rfl (Tryd.sizeOf3 _) ?_)
    exact ⟨BX.refl _ _, ⟨_, rfl, (ARep.mono hl20 (hp1.fld fld_Test_Field))⟩⟩
   ·
    intro w21 D hS15 hd15
    have hl21 := Le.no M hS15
    have hC21 := hC1.no hS15
    have hd15 : PA RInt M a_t.Field (D 13) w21 ∧ PEq (.bool true) (D 10) w21 ∧ True := hd15
    obtain ⟨d23, d24, -⟩ := hd15
    obtain ⟨p6, e5, ha5⟩ := d23
    refine dg_sub (E' := [(16, (.pointer (some p6))), (13, (.bool true))]) ⟨(congrArg some e5), (congrArg some d24), trivial⟩ ?_
    refine dg_on rfl rfl rfl rfl (ow_load (R := RInt) rfl rfl ha5 (Tryd.sizeOf3 _) (Tryd.isAgg3 _) fun v15 hv15 => ?_)
    obtain rfl := vint_eq hv15
    exact ⟨BX.refl _ _, rfl⟩
   ·
    intro w22 D hS16 hd16
    have hl22 := Le.no M hS16
    have hC22 := hC1.no hS16
    have hd16 : PEq (.int .i64 a_t.Field) (D 14) w22 ∧ PEq (.bool true) (D 10) w22 ∧ PEq (.bool true) (D 10) w22 ∧ True := hd16
    obtain ⟨d25, d26, d27, -⟩ := hd16
    refine dg_sub (E' := [(17, (.int .i64 a_t.Field)), (13, (.bool true))]) ⟨(congrArg some d25), (congrArg some d26), trivial⟩ ?_
    refine dg_on rfl rfl rfl rfl (ow_call rfl rfl Tryd.call81 (w_spec_FieldTop (hG.mono (hl1.trans hl22)) hC22.old hx3) fun v16 w23 hv16 => ?_)
    obtain ⟨hv16, hb7⟩ := hv16
    have hl23 := Le.no M hb7
    have hC23 := hC22.no hb7
    obtain rfl := vint_eq hv16
    exact ⟨hb7, rfl⟩
   ·
    intro w24 D hS17 hd17
    have hd17 : PA RInt M a_t.Field (D 0) w24 ∧ PEq (.int .i64 a_t.Field) (D 1) w24 ∧ PEq (.bool true) (D 2) w24 ∧ PEq (.bool true) (D 3) w24 ∧ PA RInt M a_t.Lo (D 4) w24 ∧ PEq (.int .i64 a_t.Lo) (D 5) w24 ∧ PA RInt M a_t.Hi (D 6) w24 ∧ PEq (.int .i64 a_t.Hi) (D 7) w24 ∧ PEq (.bool true) (D 8) w24 ∧ PEq (.bool true) (D 9) w24 ∧ PEq (.bool true) (D 10) w24 ∧ PA RInt M a_t.Hi (D 11) w24 ∧ PEq (.int .i64 a_t.Hi) (D 12) w24 ∧ PA RInt M a_t.Field (D 13) w24 ∧ PEq (.int .i64 a_t.Field) (D 14) w24 ∧ PEq (.int .i64 x3) (D 15) w24 ∧ True := hd17
    obtain ⟨-, -, -, -, -, -, -, -, -, -, d38, -, d40, -, -, d43, -⟩ := hd17
    have hl24 := Le.no M hS17
    have hC24 := hC1.no hS17
    refine lw_sub (E' := [(13, (.bool true)), (15, (.int .i64 a_t.Hi)), (18, (.int .i64 x3)), (1, (.pointer (some p1))), (2, (.bool false))]) ⟨(congrArg some d38), (congrArg some d40), (congrArg some d43), rfl, rfl, trivial⟩ ?_
    refine lw_on rfl rfl rfl rfl rfl rfl (ow_leq rfl rfl rfl fun bb1 hbb1 => ?_)
    refine lw_op rfl rfl rfl (ow_pickT rfl rfl rfl ?_)
    refine lw_op rfl rfl rfl (ow_assign rfl rfl ?_)
    refine lw_nil (ew_then (cw_ret ?_))
    obtain rfl := Option.some.inj h
    exact ew_ret (res1 rfl (.tmp rfl)) ⟨_, rfl, ((vbool_of hbb1)), hC24.bx⟩
  ·
   subst hc2
   refine cw_sub (E' := [(1, (.pointer (some p1))), (2, (.bool false))]) ⟨rfl, rfl, trivial⟩ ?_
   refine cw_drawQ 16 [PA RInt M a_t.Field, PEq (.int .i64 a_t.Field), PEq (.bool true), PEq (.bool true), PA RInt M a_t.Lo, PEq (.int .i64 a_t.Lo), PA RInt M a_t.Hi, PEq (.int .i64 a_t.Hi), PEq (.bool false), PEq (.bool false), PEq (.bool false), PEq undef, PEq undef, PEq undef, PEq undef, PEq undef] (by kernel_rfl) rfl (by kernel_rfl) ⟨PA.mono _ _ _, PEq.mono _, PEq.mono _, PEq.mono _, PA.mono _ _ _, PEq.mono _, PA.mono _ _ _, PEq.mono _, PEq.mono _, PEq.mono _, PEq.mono _, PEq.mono _, PEq.mono _, PEq.mono _, PEq.mono _, PEq.mono _, trivial⟩ ⟨?_, ?_, ?_, ?_, ?_, ?_, ?_, ?_, ?_, ?_, ?_, ?_, ?_, ?_, ?_, ?_, trivial⟩ ?_
   ·
    intro w25 D hS18 hd18
    have hl25 := Le.no M hS18
    have hC25 := hC1.no hS18
    refine dg_sub (E' := [(1, (.pointer (some p1)))]) ⟨rfl, trivial⟩ ?_
    refine dg_plain rfl (ow_fieldAddr rfl rfl Tryd.underlying31 rfl (Tryd.sizeOf3 _) ?_)
    exact ⟨BX.refl _ _, ⟨_, rfl, (ARep.mono hl25 (hp1.fld fld_Test_Field))⟩⟩
   ·
    intro w26 D hS19 hd19
    have hl26 := Le.no M hS19
    have hC26 := hC1.no hS19
    have hd19 : PA RInt M a_t.Field (D 0) w26 ∧ True := hd19
    obtain ⟨d44, -⟩ := hd19
    obtain ⟨p7, e6, ha6⟩ := d44
    refine dg_sub (E' := [(3, (.pointer (some p7)))]) ⟨(congrArg some e6), trivial⟩ ?_
    refine dg_plain rfl (ow_load (R := RInt) rfl rfl ha6 (Tryd.sizeOf3 _) (Tryd.isAgg3 _) fun v17 hv17 => ?_)
    obtain rfl := vint_eq hv17
    exact ⟨BX.refl _ _, rfl⟩
   ·
    intro w27 D hS20 hd20
    have hl27 := Le.no M hS20
    have hC27 := hC1.no hS20
    have hd20 : PEq (.int .i64 a_t.Field) (D 1) w27 ∧ True := hd20
    obtain ⟨d45, -⟩ := hd20
    refine dg_sub (E' := [(4, (.int .i64 a_t.Field))]) ⟨(congrArg some d45), trivial⟩ ?_
    refine dg_plain rfl (ow_call rfl rfl Tryd.call82 (w_spec_l1In (hG.mono (hl1.trans hl27)) hC27.old hx1) fun v18 w28 hv18 => ?_)
    obtain ⟨hv18, hb8⟩ := hv18
    have hl28 := Le.no M hb8
    have hC28 := hC27.no hb8
    obtain rfl := vbool_eq hv18
    exact ⟨hb8, rfl⟩
   ·
    intro w29 D hS21 hd21
    have hl29 := Le.no M hS21
    have hC29 := hC1.no hS21
    have hd21 : PEq (.bool true) (D 2) w29 ∧ PEq (.bool true) (D 2) w29 ∧ True := hd21
    obtain ⟨d46, d47, -⟩ := hd21
    refine dg_sub (E' := [(5, (.bool true))]) ⟨(congrArg some d46), trivial⟩ ?_
    refine dg_plain rfl (ow_move rfl rfl ?_)
    exact ⟨BX.refl _ _, rfl⟩
   ·
    intro w30 D hS22 hd22
    have hl30 := Le.no M hS22
    have hC30 := hC1.no hS22
    have hd22 : PEq (.bool true) (D 3) w30 ∧ True := hd22
    obtain ⟨d48, -⟩ := hd22
    refine dg_sub (E' := [(6, (.bool true)), (1, (.pointer (some p1)))]) ⟨(congrArg some d48), rfl, trivial⟩ ?_
    refine dg_on rfl rfl rfl rfl (ow_fieldAddr rfl rfl Tryd.underlying31 rfl (Tryd.sizeOf3 _) ?_)
    exact ⟨BX.refl _ _, ⟨_, rfl, (ARep.mono hl30 (hp1.fld fld_Test_Lo))⟩⟩
   ·
    intro w31 D hS23 hd23
    have hl31 := Le.no M hS23
    have hC31 := hC1.no hS23
    have hd23 : PA RInt M a_t.Lo (D 4) w31 ∧ PEq (.bool true) (D 3) w31 ∧ True := hd23
    obtain ⟨d49, d50, -⟩ := hd23
    obtain ⟨p8, e7, ha7⟩ := d49
    refine dg_sub (E' := [(7, (.pointer (some p8))), (6, (.bool true))]) ⟨(congrArg some e7), (congrArg some d50), trivial⟩ ?_
    refine dg_on rfl rfl rfl rfl (ow_load (R := RInt) rfl rfl ha7 (Tryd.sizeOf3 _) (Tryd.isAgg3 _) fun v19 hv19 => ?_)
    obtain rfl := vint_eq hv19
    exact ⟨BX.refl _ _, rfl⟩
   ·
    intro w32 D hS24 hd24
    have hl32 := Le.no M hS24
    have hC32 := hC1.no hS24
    have hd24 : PEq (.bool true) (D 3) w32 ∧ True := hd24
    obtain ⟨d51, -⟩ := hd24
    refine dg_sub (E' := [(6, (.bool true)), (1, (.pointer (some p1)))]) ⟨(congrArg some d51), rfl, trivial⟩ ?_
    refine dg_on rfl rfl rfl rfl (ow_fieldAddr rfl rfl Tryd.underlying31 rfl (Tryd.sizeOf3 _) ?_)
    exact ⟨BX.refl _ _, ⟨_, rfl, (ARep.mono hl32 (hp1.fld fld_Test_Hi))⟩⟩
   ·
    intro w33 D hS25 hd25
    have hl33 := Le.no M hS25
    have hC33 := hC1.no hS25
    have hd25 : PA RInt M a_t.Hi (D 6) w33 ∧ PEq (.bool true) (D 3) w33 ∧ True := hd25
    obtain ⟨d52, d53, -⟩ := hd25
    obtain ⟨p9, e8, ha8⟩ := d52
    refine dg_sub (E' := [(9, (.pointer (some p9))), (6, (.bool true))]) ⟨(congrArg some e8), (congrArg some d53), trivial⟩ ?_
    refine dg_on rfl rfl rfl rfl (ow_load (R := RInt) rfl rfl ha8 (Tryd.sizeOf3 _) (Tryd.isAgg3 _) fun v20 hv20 => ?_)
    obtain rfl := vint_eq hv20
    exact ⟨BX.refl _ _, rfl⟩
   ·
    intro w34 D hS26 hd26
    have hl34 := Le.no M hS26
    have hC34 := hC1.no hS26
    have hd26 : PEq (.int .i64 a_t.Lo) (D 5) w34 ∧ PEq (.int .i64 a_t.Hi) (D 7) w34 ∧ PEq (.bool true) (D 3) w34 ∧ PEq (.bool true) (D 3) w34 ∧ True := hd26
    obtain ⟨d54, d55, d56, d57, -⟩ := hd26
    refine dg_sub (E' := [(8, (.int .i64 a_t.Lo)), (10, (.int .i64 a_t.Hi)), (6, (.bool true))]) ⟨(congrArg some d54), (congrArg some d55), (congrArg some d56), trivial⟩ ?_
    refine dg_on rfl rfl rfl rfl (ow_call rfl rfl Tryd.call82 (w_spec_l1In (hG.mono (hl1.trans hl34)) hC34.old hx2) fun v21 w35 hv21 => ?_)
    obtain ⟨hv21, hb9⟩ := hv21
    have hl35 := Le.no M hb9
    have hC35 := hC34.no hb9
    obtain rfl := vbool_eq hv21
    exact ⟨hb9, rfl⟩
   ·
    intro w36 D hS27 hd27
    have hl36 := Le.no M hS27
    have hC36 := hC1.no hS27
    have hd27 : PEq (.bool true) (D 3) w36 ∧ PEq (.bool false) (D 8) w36 ∧ True := hd27
    obtain ⟨d58, d59, -⟩ := hd27
    refine dg_sub (E' := [(6, (.bool true)), (11, (.bool false))]) ⟨(congrArg some d58), (congrArg some d59), trivial⟩ ?_
    refine dg_plain rfl (ow_pickT rfl rfl rfl ?_)
    exact ⟨BX.refl _ _, rfl⟩
   ·
    intro w37 D hS28 hd28
    have hl37 := Le.no M hS28
    have hC37 := hC1.no hS28
    have hd28 : PEq (.bool false) (D 9) w37 ∧ PEq (.bool false) (D 8) w37 ∧ True := hd28
    obtain ⟨d60, d61, -⟩ := hd28
    refine dg_sub (E' := [(12, (.bool false))]) ⟨(congrArg some d60), trivial⟩ ?_
    refine dg_plain rfl (ow_move rfl rfl ?_)
    exact ⟨BX.refl _ _, rfl⟩
   ·
    intro w38 D hS29 hd29
    have hl38 := Le.no M hS29
    have hC38 := hC1.no hS29
    have hd29 : PEq (.bool false) (D 10) w38 ∧ True := hd29
    obtain ⟨d62, -⟩ := hd29
    refine dg_sub (E' := [(13, (.bool false)), (1, (.pointer (some p1)))]) ⟨(congrArg some d62), rfl, trivial⟩ ?_
    exact dg_off rfl rfl rfl rfl ⟨BX.refl _ _, rfl⟩
   ·
    intro w39 D hS30 hd30
    have hl39 := Le.no M hS30
    have hC39 := hC1.no hS30
    have hd30 : PEq undef (D 11) w39 ∧ PEq (.bool false) (D 10) w39 ∧ True := hd30
    obtain ⟨d63, d64, -⟩ := hd30
    refine dg_sub (E' := [(14, undef), (13, (.bool false))]) ⟨(congrArg some d63), (congrArg some d64), trivial⟩ ?_
    exact dg_off rfl rfl rfl rfl ⟨BX.refl _ _, rfl⟩
   ·
    intro w40 D hS31 hd31
    have hl40 := Le.no M hS31
    have hC40 := hC1.no hS31
    have hd31 : PEq (.bool false) (D 10) w40 ∧ True := hd31
    obtain ⟨d65, -⟩ := hd31
    refine dg_sub (E' := [(13, (.bool false)), (1, (.pointer (some p1)))]) ⟨(congrArg some d65), rfl, trivial⟩ ?_
    exact dg_off rfl rfl rfl rfl ⟨BX.refl _ _, rfl⟩
   ·
    intro w41 D hS32 hd32
    have hl41 := Le.no M hS32
    have hC41 := hC1.no hS32
    have hd32 : PEq undef (D 13) w41 ∧ PEq (.bool false) (D 10) w41 ∧ True := hd32
    obtain ⟨d66, d67, -⟩ := hd32
    refine dg_sub (E' := [(16, undef), (13, (.bool false))]) ⟨(congrArg some d66), (congrArg some d67), trivial⟩ ?_
    exact dg_off rfl rfl rfl rfl ⟨BX.refl _ _, rfl⟩
   ·
    intro w42 D hS33 hd33
    have hl42 := Le.no M hS33
    have hC42 := hC1.no hS33
    have hd33 : PEq undef (D 14) w42 ∧ PEq (.bool false) (D 10) w42 ∧ PEq (.bool false) (D 10) w42 ∧ True := hd33
    obtain ⟨d68, d69, d70, -⟩ := hd33
    refine dg_sub (E' := [(17, undef), (13, (.bool false))]) ⟨(congrArg some d68), (congrArg some d69), trivial⟩ ?_
    exact dg_off rfl rfl rfl rfl ⟨BX.refl _ _, rfl⟩
   ·
    intro w43 D hS34 hd34
    have hd34 : PA RInt M a_t.Field (D 0) w43 ∧ PEq (.int .i64 a_t.Field) (D 1) w43 ∧ PEq (.bool true) (D 2) w43 ∧ PEq (.bool true) (D 3) w43 ∧ PA RInt M a_t.Lo (D 4) w43 ∧ PEq (.int .i64 a_t.Lo) (D 5) w43 ∧ PA RInt M a_t.Hi (D 6) w43 ∧ PEq (.int .i64 a_t.Hi) (D 7) w43 ∧ PEq (.bool false) (D 8) w43 ∧ PEq (.bool false) (D 9) w43 ∧ PEq (.bool false) (D 10) w43 ∧ PEq undef (D 11) w43 ∧ PEq undef (D 12) w43 ∧ PEq undef (D 13) w43 ∧ PEq undef (D 14) w43 ∧ PEq undef (D 15) w43 ∧ True := hd34
    obtain ⟨-, -, -, -, -, -, -, -, -, -, d81, -, d83, -, -, d86, -⟩ := hd34
    have hl43 := Le.no M hS34
    have hC43 := hC1.no hS34
    refine lw_sub (E' := [(13, (.bool false)), (15, undef), (18, undef), (1, (.pointer (some p1))), (2, (.bool false))]) ⟨(congrArg some d81), (congrArg some d83), (congrArg some d86), rfl, rfl, trivial⟩ ?_
    refine lw_off rfl rfl rfl rfl rfl rfl ?_
    refine lw_op rfl rfl rfl (ow_pickF rfl rfl rfl ?_)
    refine lw_op rfl rfl rfl (ow_assign rfl rfl ?_)
    refine lw_nil (ew_then (cw_ret ?_))
    obtain rfl := Option.some.inj h
    exact ew_ret (res1 rfl (.tmp rfl)) ⟨_, rfl, ((vbool _)), hC43.bx⟩
 ·
  subst hc1
  refine cw_sub (E' := [(1, (.pointer (some p1))), (2, (.bool false))]) ⟨rfl, rfl, trivial⟩ ?_
  refine cw_drawQ 16 [PA RInt M a_t.Field, PEq (.int .i64 a_t.Field), PEq (.bool false), PEq (.bool false), PEq undef, PEq undef, PEq undef, PEq undef, PEq undef, PEq (.bool false), PEq (.bool false), PEq undef, PEq undef, PEq undef, PEq undef, PEq undef] (by kernel_rfl) rfl (by kernel_rfl) ⟨PA.mono _ _ _, PEq.mono _, PEq.mono _, PEq.mono _, PEq.mono _, PEq.mono _, PEq.mono _, PEq.mono _, PEq.mono _, PEq.mono _, PEq.mono _, PEq.mono _, PEq.mono _, PEq.mono _, PEq.mono _, PEq.mono _, trivial⟩ ⟨?_, ?_, ?_, ?_, ?_, ?_, ?_, ?_, ?_, ?_, ?_, ?_, ?_, ?_, ?_, ?_, trivial⟩ ?_
  ·
   intro w44 D hS35 hd35
   have hl44 := Le.no M hS35
   have hC44 := hC1.no hS35
   refine dg_sub (E' := [(1, (.pointer (some p1)))]) ⟨rfl, trivial⟩ ?_
   refine dg_plain rfl (ow_fieldAddr rfl rfl Tryd.underlying31 rfl (Tryd.sizeOf3 _) ?_)
   exact ⟨BX.refl _ _, ⟨_, rfl, (ARep.mono hl44 (hp1.fld fld_Test_Field))⟩⟩
  ·
   intro w45 D hS36 hd36
   have hl45 := Le.no M hS36
   have hC45 := hC1.no hS36
   have hd36 : PA RInt M a_t.Field (D 0) w45 ∧ True := hd36
   obtain ⟨d87, -⟩ := hd36
   obtain ⟨p10, e9, ha9⟩ := d87
   refine dg_sub (E' := [(3, (.pointer (some p10)))]) ⟨(congrArg some e9), trivial⟩ ?_
   refine dg_plain rfl (ow_load (R := RInt) rfl rfl ha9 (Tryd.sizeOf3 _) (Tryd.isAgg3 _) fun v22 hv22 => ?_)
   obtain rfl := vint_eq hv22
   exact ⟨BX.refl _ _, rfl⟩
  ·
   intro w46 D hS37 hd37
   have hl46 := Le.no M hS37
   have hC46 := hC1.no hS37
   have hd37 : PEq (.int .i64 a_t.Field) (D 1) w46 ∧ True := hd37
   obtain ⟨d88, -⟩ := hd37
   refine dg_sub (E' := [(4, (.int .i64 a_t.Field))]) ⟨(congrArg some d88), trivial⟩ ?_
   refine dg_plain rfl (ow_call rfl rfl Tryd.call82 (w_spec_l1In (hG.mono (hl1.trans hl46)) hC46.old hx1) fun v23 w47 hv23 => ?_)
   obtain ⟨hv23, hb10⟩ := hv23
   have hl47 := Le.no M hb10
   have hC47 := hC46.no hb10
   obtain rfl := vbool_eq hv23
   exact ⟨hb10, rfl⟩
  ·
   intro w48 D hS38 hd38
   have hl48 := Le.no M hS38
   have hC48 := hC1.no hS38
   have hd38 : PEq (.bool false) (D 2) w48 ∧ PEq (.bool false) (D 2) w48 ∧ True := hd38
   obtain ⟨d89, d90, -⟩ := hd38
   refine dg_sub (E' := [(5, (.bool false))]) ⟨(congrArg some d89), trivial⟩ ?_
   refine dg_plain rfl (ow_move rfl rfl ?_)
   exact ⟨BX.refl _ _, rfl⟩
  ·
   intro w49 D hS39 hd39
   have hl49 := Le.no M hS39
   have hC49 := hC1.no hS39
   have hd39 : PEq (.bool false) (D 3) w49 ∧ True := hd39
   obtain ⟨d91, -⟩ := hd39
   refine dg_sub (E' := [(6, (.bool false)), (1, (.pointer (some p1)))]) ⟨(congrArg some d91), rfl, trivial⟩ ?_
   exact dg_off rfl rfl rfl rfl ⟨BX.refl _ _, rfl⟩
  ·
   intro w50 D hS40 hd40
   have hl50 := Le.no M hS40
   have hC50 := hC1.no hS40
   have hd40 : PEq undef (D 4) w50 ∧ PEq (.bool false) (D 3) w50 ∧ True := hd40
   obtain ⟨d92, d93, -⟩ := hd40
   refine dg_sub (E' := [(7, undef), (6, (.bool false))]) ⟨(congrArg some d92), (congrArg some d93), trivial⟩ ?_
   exact dg_off rfl rfl rfl rfl ⟨BX.refl _ _, rfl⟩
  ·
   intro w51 D hS41 hd41
   have hl51 := Le.no M hS41
   have hC51 := hC1.no hS41
   have hd41 : PEq (.bool false) (D 3) w51 ∧ True := hd41
   obtain ⟨d94, -⟩ := hd41
   refine dg_sub (E' := [(6, (.bool false)), (1, (.pointer (some p1)))]) ⟨(congrArg some d94), rfl, trivial⟩ ?_
   exact dg_off rfl rfl rfl rfl ⟨BX.refl _ _, rfl⟩
  ·
   intro w52 D hS42 hd42
   have hl52 := Le.no M hS42
   have hC52 := hC1.no hS42
   have hd42 : PEq undef (D 6) w52 ∧ PEq (.bool false) (D 3) w52 ∧ True := hd42
   obtain ⟨d95, d96, -⟩ := hd42
   refine dg_sub (E' := [(9, undef), (6, (.bool false))]) ⟨(congrArg some d95), (congrArg some d96), trivial⟩ ?_
   exact dg_off rfl rfl rfl rfl ⟨BX.refl _ _, rfl⟩
  ·
   intro w53 D hS43 hd43
   have hl53 := Le.no M hS43
   have hC53 := hC1.no hS43
   have hd43 : PEq undef (D 5) w53 ∧ PEq undef (D 7) w53 ∧ PEq (.bool false) (D 3) w53 ∧ PEq (.bool false) (D 3) w53 ∧ True := hd43
   obtain ⟨d97, d98, d99, d100, -⟩ := hd43
   refine dg_sub (E' := [(8, undef), (10, undef), (6, (.bool false))]) ⟨(congrArg some d97), (congrArg some d98), (congrArg some d99), trivial⟩ ?_
   exact dg_off rfl rfl rfl rfl ⟨BX.refl _ _, rfl⟩
  ·
   intro w54 D hS44 hd44
   have hl54 := Le.no M hS44
   have hC54 := hC1.no hS44
   have hd44 : PEq (.bool false) (D 3) w54 ∧ PEq undef (D 8) w54 ∧ True := hd44
   obtain ⟨d101, d102, -⟩ := hd44
   refine dg_sub (E' := [(6, (.bool false)), (11, undef)]) ⟨(congrArg some d101), (congrArg some d102), trivial⟩ ?_
   refine dg_plain rfl (ow_pickF rfl rfl rfl ?_)
   exact ⟨BX.refl _ _, rfl⟩
  ·
   intro w55 D hS45 hd45
   have hl55 := Le.no M hS45
   have hC55 := hC1.no hS45
   have hd45 : PEq (.bool false) (D 9) w55 ∧ PEq undef (D 8) w55 ∧ True := hd45
   obtain ⟨d103, d104, -⟩ := hd45
   refine dg_sub (E' := [(12, (.bool false))]) ⟨(congrArg some d103), trivial⟩ ?_
   refine dg_plain rfl (ow_move rfl rfl ?_)
   exact ⟨BX.refl _ _, rfl⟩
  ·
   intro w56 D hS46 hd46
   have hl56 := Le.no M hS46
   have hC56 := hC1.no hS46
   have hd46 : PEq (.bool false) (D 10) w56 ∧ True := hd46
   obtain ⟨d105, -⟩ := hd46
   refine dg_sub (E' := [(13, (.bool false)), (1, (.pointer (some p1)))]) ⟨(congrArg some d105), rfl, trivial⟩ ?_
   exact dg_off rfl rfl rfl rfl ⟨BX.refl _ _, rfl⟩
  ·
   intro w57 D hS47 hd47
   have hl57 := Le.no M hS47
   have hC57 := hC1.no hS47
   have hd47 : PEq undef (D 11) w57 ∧ PEq (.bool false) (D 10) w57 ∧ True := hd47
   obtain ⟨d106, d107, -⟩ := hd47
   refine dg_sub (E' := [(14, undef), (13, (.bool false))]) ⟨(congrArg some d106), (congrArg some d107), trivial⟩ ?_
   exact dg_off rfl rfl rfl rfl ⟨BX.refl _ _, rfl⟩
  ·
   intro w58 D hS48 hd48
   have hl58 := Le.no M hS48
   have hC58 := hC1.no hS48
   have hd48 : PEq (.bool false) (D 10) w58 ∧ True := hd48
   obtain ⟨d108, -⟩ := hd48
   refine dg_sub (E' := [(13, (.bool false)), (1, (.pointer (some p1)))]) ⟨(congrArg some d108), rfl, trivial⟩ ?_
   exact dg_off rfl rfl rfl rfl ⟨BX.refl _ _, rfl⟩
  ·
   intro w59 D hS49 hd49
   have hl59 := Le.no M hS49
   have hC59 := hC1.no hS49
   have hd49 : PEq undef (D 13) w59 ∧ PEq (.bool false) (D 10) w59 ∧ True := hd49
   obtain ⟨d109, d110, -⟩ := hd49
   refine dg_sub (E' := [(16, undef), (13, (.bool false))]) ⟨(congrArg some d109), (congrArg some d110), trivial⟩ ?_
   exact dg_off rfl rfl rfl rfl ⟨BX.refl _ _, rfl⟩
  ·
   intro w60 D hS50 hd50
   have hl60 := Le.no M hS50
   have hC60 := hC1.no hS50
   have hd50 : PEq undef (D 14) w60 ∧ PEq (.bool false) (D 10) w60 ∧ PEq (.bool false) (D 10) w60 ∧ True := hd50
   obtain ⟨d111, d112, d113, -⟩ := hd50
   refine dg_sub (E' := [(17, undef), (13, (.bool false))]) ⟨(congrArg some d111), (congrArg some d112), trivial⟩ ?_
   exact dg_off rfl rfl rfl rfl ⟨BX.refl _ _, rfl⟩
  ·
   intro w61 D hS51 hd51
   have hd51 : PA RInt M a_t.Field (D 0) w61 ∧ PEq (.int .i64 a_t.Field) (D 1) w61 ∧ PEq (.bool false) (D 2) w61 ∧ PEq (.bool false) (D 3) w61 ∧ PEq undef (D 4) w61 ∧ PEq undef (D 5) w61 ∧ PEq undef (D 6) w61 ∧ PEq undef (D 7) w61 ∧ PEq undef (D 8) w61 ∧ PEq (.bool false) (D 9) w61 ∧ PEq (.bool false) (D 10) w61 ∧ PEq undef (D 11) w61 ∧ PEq undef (D 12) w61 ∧ PEq undef (D 13) w61 ∧ PEq undef (D 14) w61 ∧ PEq undef (D 15) w61 ∧ True := hd51
   obtain ⟨-, -, -, -, -, -, -, -, -, -, d124, -, d126, -, -, d129, -⟩ := hd51
   have hl61 := Le.no M hS51
   have hC61 := hC1.no hS51
   refine lw_sub (E' := [(13, (.bool false)), (15, undef), (18, undef), (1, (.pointer (some p1))), (2, (.bool false))]) ⟨(congrArg some d124), (congrArg some d126), (congrArg some d129), rfl, rfl, trivial⟩ ?_
   refine lw_off rfl rfl rfl rfl rfl rfl ?_
   refine lw_op rfl rfl rfl (ow_pickF rfl rfl rfl ?_)
   refine lw_op rfl rfl rfl (ow_assign rfl rfl ?_)
   refine lw_nil (ew_then (cw_ret ?_))
   obtain rfl := Option.some.inj h
   exact ew_ret (res1 rfl (.tmp rfl)) ⟨_, rfl, ((vbool _)), hC61.bx⟩

theorem w_spec_TestsValid {w : World} {M : Nat → Prop} (hG : ARep (RArr 4 RShape) w M shapes ⟨0, 0, none⟩) (hO : ∀ b, M b → b < w.heap.size) {v0p : Value} {a_list : List Test} (h0 : VRep (RSlice RTest) w M a_list v0p) {r : Bool} (h : F.spec_TestsValid a_list = some r) :
  Calls Tryd.prog 26 [v0p].toArray w fun e w' => ∃ v, e = .returned v ∧ VRep RBool w' M r v ∧ BX No w w' := by
 have hC : Cx No w M w M := Cx.start hO (fun _ e => e.elim)
 refine walk (N := 19) Tryd.func26 rfl Tryd.ntmps26 rfl ?_
 refine cw_seq (cw_region (lw_op rfl rfl rfl (ow_assign rfl rfl ?_)))
 refine lw_nil (ew_then (cw_seq (cw_seq (cw_region (lw_op rfl rfl rfl (ow_assign rfl rfl ?_))))))
 refine lw_nil (ew_then ?_)
 replace h := bind_some h
 obtain ⟨lr1, hlr1, h⟩ := h
 refine cw_for hlr1 (fun s a w' => ∃ (M' : Nat → Prop), Fits 19 [(0, v0p), (3, (.int .i64 s))] a ∧ Le w M w' M' ∧ Cx No w M w' M') ?_ ?_ ?_
 ·
  intro a ha
  exact ⟨M, ha.sub ⟨rfl, rfl, trivial⟩, Le.refl _ _, hC⟩
 ·
  rintro k1 a w1 sr1 ⟨M1, hF1, hl1, hC1⟩ hb1 hR1
  refine cw_at (E := [(0, v0p), (3, (.int .i64 k1))]) hF1 ?_
  refine cw_seq (cw_seq (cw_region (lw_op rfl rfl rfl (ow_move rfl rfl ?_))))
  refine lw_op rfl rfl rfl (ow_move rfl rfl ?_)
  refine lw_op rfl rfl rfl (ow_len rfl rfl (VRep.mono hl1 h0) Tryd.underlying23 rfl ?_)
  refine lw_op rfl rfl rfl (ow_lss rfl rfl rfl fun bb1 hbb1 => ?_)
  refine lw_nil (ew_then ?_)
  replace hb1 := cond_some hb1
  rcases hb1 with ⟨hc1, hb1⟩ | ⟨hc1, hb1⟩
  ·
   obtain rfl := hbb1.trans hc1
   refine cw_true rfl ?_
   refine cw_skip (ew_then (cw_seq (cw_block ?_)))
   refine cw_seq (cw_region (lw_op rfl rfl rfl (ow_move rfl rfl ?_)))
   refine lw_op rfl rfl rfl (ow_move rfl rfl ?_)
   replace hb1 := bind_some hb1
   obtain ⟨x1, hx1, hb1⟩ := hb1
   refine lw_op rfl rfl rfl (ow_indexSlice (R := RTest) rfl rfl rfl (VRep.mono hl1 h0) Tryd.underlying23 (Tryd.sizeOf31 _) hx1 fun p1 hp1 => ?_)
   refine lw_op rfl rfl rfl (ow_load (R := RTest) rfl rfl hp1 (Tryd.sizeOf31 _) (Tryd.isAgg31 _) fun v2 hv2 => ?_)
   replace hb1 := bind_some hb1
   obtain ⟨x2, hx2, hb1⟩ := hb1
   refine lw_op rfl rfl rfl (ow_call rfl rfl Tryd.call64 (w_spec_TestValid (hG.mono hl1) hC1.old hv2 hx2) fun v3 w2 hv3 => ?_)
   obtain ⟨hv3, hb2⟩ := hv3
   have hl2 := Le.no M1 hb2
   have hC2 := hC1.no hb2
   obtain rfl := vbool_eq hv3
   refine lw_op rfl rfl rfl (ow_not rfl rfl ?_)
   refine lw_nil (ew_then ?_)
   replace hb1 := cond_some hb1
   rcases hb1 with ⟨hc2, hb1⟩ | ⟨hc2, hb1⟩
   ·
    subst hc2
    refine cw_false rfl ?_
    refine cw_skip (ew_blockN ?_)
    refine ew_then (cw_region (lw_op rfl rfl rfl (ow_move rfl rfl ?_)))
    refine lw_op rfl rfl rfl (ow_add rfl rfl rfl ?_)
    refine lw_op rfl rfl rfl (ow_assign rfl rfl ?_)
    refine lw_nil (ew_nxt (W (k1 + 1)) hb1 fun a ha => ⟨M1, ?_, (hl1.trans hl2), hC2⟩)
    exact ha.sub ⟨rfl, rfl, trivial⟩
   ·
    subst hc2
    refine cw_true rfl ?_
    refine cw_seq (cw_region (lw_op rfl rfl rfl (ow_assign rfl rfl ?_)))
    refine lw_nil (ew_then (cw_ret (ew_blockR ?_)))
    refine ew_thenR (ew_thenR (ew_blockR ?_))
    refine ew_brkR ?_
    refine ew_thenR ?_
    have e1 := hR1 _ (Option.some.inj hb1).symm
    subst e1
    obtain rfl := Option.some.inj h
    exact ew_ret (res1 rfl (.tmp rfl)) ⟨_, rfl, ((vbool _)), hC2.bx⟩
  ·
   obtain rfl := hbb1.trans hc1
   refine cw_false rfl ?_
   refine cw_exit ?_
   refine ew_thenX ?_
   refine ew_thenX ?_
   refine ew_blockX ?_
   refine ew_brk k1 hb1 fun a ha => ⟨M1, ?_, hl1, hC1⟩
   exact ha.sub ⟨rfl, rfl, trivial⟩
 ·
  rintro k2 a w3 hlr2 ⟨M2, hF2, hl3, hC3⟩
  subst hlr2
  refine ew_at (E := [(0, v0p), (3, (.int .i64 k2))]) hF2 ?_
  refine ew_then (cw_seq (cw_region (lw_op rfl rfl rfl (ow_move rfl rfl ?_))))
  refine lw_op rfl rfl rfl (ow_len rfl rfl (VRep.mono hl3 h0) Tryd.underlying23 rfl ?_)
  refine lw_op rfl rfl rfl (ow_leq rfl rfl rfl fun bb2 hbb2 => ?_)
  refine lw_op rfl rfl rfl (ow_assign rfl rfl ?_)
  refine lw_nil (ew_then (cw_ret ?_))
  obtain rfl := Option.some.inj h
  exact ew_ret (res1 rfl (.tmp rfl)) ⟨_, rfl, ((vbool_of hbb2)), hC3.bx⟩

theorem w_spec_l2Meet {w : World} {M : Nat → Prop} (_hG : ARep (RArr 4 RShape) w M shapes ⟨0, 0, none⟩) (hO : ∀ b, M b → b < w.heap.size) {v0p : Value} {a_a : List Span} (h0 : VRep (RSlice RSpan) w M a_a v0p) {v1p : Value} {a_b : List Span} (h1 : VRep (RSlice RSpan) w M a_b v1p) {r : (List Span)} (h : F.spec_l2Meet a_a a_b = some r) :
  Calls Tryd.prog 60 [v0p, v1p].toArray w fun e w' => ∃ v, e = .returned v ∧ VRep (RSlice RSpan) w' M r v ∧ BX No w w' := by
 obtain ⟨i76, hi76, hz76, hs76, hy76⟩ := info76
 have hC : Cx No w M w M := Cx.start hO (fun _ e => e.elim)
 clear _hG
 refine walk (N := 55) Tryd.func60 rfl Tryd.ntmps60 rfl ?_
 refine cw_seq (cw_region (lw_op rfl rfl rfl (ow_assign rfl rfl ?_)))
 refine lw_nil (ew_then (cw_seq (cw_region (lw_op rfl rfl rfl (ow_buildSlice0 (R := RSpan) (e := 76) rfl (by kernel_rfl) hC fun p1 w1 M1 hr1 hb1 hl1 hC1 hM1 hat1 => ?_)))))
 refine lw_op rfl rfl rfl (ow_assign rfl rfl ?_)
 refine lw_nil (ew_then (cw_seq (cw_seq (cw_region (lw_op rfl rfl rfl (ow_assign rfl rfl ?_))))))
 refine lw_nil (ew_then ?_)
 replace h := bind_some h
 obtain ⟨lr1, hlr1, h⟩ := h
 refine cw_for hlr1 (fun s a w' => ∃ (M' : Nat → Prop) (v0c : Value), Fits 55 [(0, v0p), (1, v1p), (5, v0c), (6, (.int .i64 s.2))] a ∧ Le w1 M1 w' M' ∧ Cx No w M w' M' ∧ OwnRow RSpan w.heap.size 76 w' M' s.1 v0c) ?_ ?_ ?_
 ·
  intro a ha
  exact ⟨M1, (.slice (some p1) 0 0), ha.sub ⟨rfl, rfl, rfl, rfl, trivial⟩, Le.refl _ _, hC1, hr1⟩
 ·
  rintro ⟨y1, k1⟩ a w2 sr1 ⟨M2, v1, hF1, hl2, hC2, hw1⟩ hb2 hR1
  refine cw_at (E := [(0, v0p), (1, v1p), (5, v1), (6, (.int .i64 k1))]) hF1 ?_
  refine cw_seq (cw_seq (cw_region (lw_op rfl rfl rfl (ow_move rfl rfl ?_))))
  refine lw_op rfl rfl rfl (ow_move rfl rfl ?_)
  refine lw_op rfl rfl rfl (ow_len rfl rfl (VRep.mono (hl1.trans hl2) h0) Tryd.underlying58 rfl ?_)
  refine lw_op rfl rfl rfl (ow_lss rfl rfl rfl fun bb1 hbb1 => ?_)
  refine lw_nil (ew_then ?_)
  replace hb2 := cond_some hb2
  rcases hb2 with ⟨hc1, hb2⟩ | ⟨hc1, hb2⟩
  ·
   obtain rfl := hbb1.trans hc1
   refine cw_true rfl ?_
   refine cw_skip (ew_then (cw_seq (cw_block ?_)))
   refine cw_seq (cw_region (lw_op rfl rfl rfl (ow_assign rfl rfl ?_)))
   refine lw_nil (ew_then ?_)
   replace hb2 := bind_some hb2
   obtain ⟨lr2, hlr2, hb2⟩ := hb2
   refine cw_for hlr2 (fun s a w' => ∃ (M' : Nat → Prop) (v0c : Value), Fits 55 [(0, v0p), (1, v1p), (5, v0c), (6, (.int .i64 k1)), (7, (.int .i64 s.2))] a ∧ Le w2 M2 w' M' ∧ Cx No w M w' M' ∧ OwnRow RSpan w.heap.size 76 w' M' s.1 v0c) ?_ ?_ ?_
   ·
    intro a ha
    exact ⟨M2, v1, ha.sub ⟨rfl, rfl, rfl, rfl, rfl, trivial⟩, Le.refl _ _, hC2, hw1⟩
   ·
    rintro ⟨y2, k2⟩ a w3 sr2 ⟨M3, v3, hF2, hl3, hC3, hw2⟩ hb3 hR2
    refine cw_at (E := [(0, v0p), (1, v1p), (5, v3), (6, (.int .i64 k1)), (7, (.int .i64 k2))]) hF2 ?_
    refine cw_seq (cw_seq (cw_region (lw_op rfl rfl rfl (ow_move rfl rfl ?_))))
    refine lw_op rfl rfl rfl (ow_move rfl rfl ?_)
    refine lw_op rfl rfl rfl (ow_len rfl rfl (VRep.mono ((hl1.trans hl2).trans hl3) h1) Tryd.underlying58 rfl ?_)
    refine lw_op rfl rfl rfl (ow_lss rfl rfl rfl fun bb2 hbb2 => ?_)
    refine lw_nil (ew_then ?_)
    replace hb3 := cond_some hb3
    rcases hb3 with ⟨hc2, hb3⟩ | ⟨hc2, hb3⟩
    ·
     obtain rfl := hbb2.trans hc2
     refine cw_true rfl ?_
     refine cw_skip (ew_then (cw_seq (cw_block ?_)))
     refine cw_seq ?_
     replace hb3 := bind_some hb3
     obtain ⟨x1, hx1, hb3⟩ := hb3
     replace hb3 := bind_some hb3
     obtain ⟨x2, hx2, hb3⟩ := hb3
     refine cw_sub (E' := [(0, v0p), (1, v1p), (5, v3), (6, (.int .i64 k1)), (7, (.int .i64 k2))]) ⟨rfl, rfl, rfl, rfl, rfl, trivial⟩ ?_
     refine cw_drawQ 10 [PV (RSlice RSpan) M3 a_a, PEq (.int .i64 k1), PA RSpan M3 x1, PA RInt M3 x1.Lo, PEq (.int .i64 x1.Lo), PV (RSlice RSpan) M3 a_b, PEq (.int .i64 k2), PA RSpan M3 x2, PA RInt M3 x2.Lo, PEq (.int .i64 x2.Lo)] (by kernel_rfl) rfl (by kernel_rfl) ⟨PV.mono _ _ _, PEq.mono _, PA.mono _ _ _, PA.mono _ _ _, PEq.mono _, PV.mono _ _ _, PEq.mono _, PA.mono _ _ _, PA.mono _ _ _, PEq.mono _, trivial⟩ ⟨?_, ?_, ?_, ?_, ?_, ?_, ?_, ?_, ?_, ?_, trivial⟩ ?_
     ·
      intro w4 D hS1 hd1
      have hl4 := Le.no M3 hS1
      have hC4 := hC3.no hS1
      have hr2 := hw2.no hS1
      refine dg_sub (E' := [(0, v0p)]) ⟨rfl, trivial⟩ ?_
      refine dg_plain rfl (ow_move rfl rfl ?_)
      exact ⟨BX.refl _ _, (VRep.mono (((hl1.trans hl2).trans hl3).trans hl4) h0)⟩
     ·
      intro w5 D hS2 hd2
      have hl5 := Le.no M3 hS2
      have hC5 := hC3.no hS2
      have hr3 := hw2.no hS2
      refine dg_sub (E' := [(6, (.int .i64 k1))]) ⟨rfl, trivial⟩ ?_
      refine dg_plain rfl (ow_move rfl rfl ?_)
      exact ⟨BX.refl _ _, rfl⟩
     ·
      intro w6 D hS3 hd3
      have hl6 := Le.no M3 hS3
      have hC6 := hC3.no hS3
      have hr4 := hw2.no hS3
      have hd3 : PV (RSlice RSpan) M3 a_a (D 0) w6 ∧ PEq (.int .i64 k1) (D 1) w6 ∧ True := hd3
      obtain ⟨d1, d2, -⟩ := hd3
      obtain ⟨v7, hq1⟩ : ∃ v, (D 0) = v := ⟨_, rfl⟩
      rw [hq1] at d1
      refine dg_sub (E' := [(23, v7), (24, (.int .i64 k1))]) ⟨(congrArg some hq1), (congrArg some d2), trivial⟩ ?_
      refine dg_plain rfl (ow_indexSlice (R := RSpan) rfl rfl rfl d1 Tryd.underlying58 (Tryd.sizeOf76 _) hx1 fun p4 hp4 => ?_)
      exact ⟨BX.refl _ _, ⟨_, rfl, hp4⟩⟩
     ·
      intro w7 D hS4 hd4
      have hl7 := Le.no M3 hS4
      have hC7 := hC3.no hS4
      have hr5 := hw2.no hS4
      have hd4 : PA RSpan M3 x1 (D 2) w7 ∧ True := hd4
      obtain ⟨d3, -⟩ := hd4
      obtain ⟨p5, e1, ha1⟩ := d3
      refine dg_sub (E' := [(25, (.pointer (some p5)))]) ⟨(congrArg some e1), trivial⟩ ?_
      refine dg_plain rfl (ow_fieldAddr rfl rfl Tryd.underlying76 rfl (Tryd.sizeOf3 _) ?_)
      exact ⟨BX.refl _ _, ⟨_, rfl, (ha1.fld fld_Span_Lo)⟩⟩
     ·
      intro w8 D hS5 hd5
      have hl8 := Le.no M3 hS5
      have hC8 := hC3.no hS5
      have hr6 := hw2.no hS5
      have hd5 : PA RInt M3 x1.Lo (D 3) w8 ∧ True := hd5
      obtain ⟨d4, -⟩ := hd5
      obtain ⟨p6, e2, ha2⟩ := d4
      refine dg_sub (E' := [(26, (.pointer (some p6)))]) ⟨(congrArg some e2), trivial⟩ ?_
      refine dg_plain rfl (ow_load (R := RInt) rfl rfl ha2 (Tryd.sizeOf3 _) (Tryd.isAgg3 _) fun v8 hv8 => ?_)
      obtain rfl := vint_eq hv8
      exact ⟨BX.refl _ _, rfl⟩
     ·
      intro w9 D hS6 hd6
      have hl9 := Le.no M3 hS6
      have hC9 := hC3.no hS6
      have hr7 := hw2.no hS6
      refine dg_sub (E' := [(1, v1p)]) ⟨rfl, trivial⟩ ?_
      refine dg_plain rfl (ow_move rfl rfl ?_)
      exact ⟨BX.refl _ _, (VRep.mono (((hl1.trans hl2).trans hl3).trans hl9) h1)⟩
     ·
      intro w10 D hS7 hd7
      have hl10 := Le.no M3 hS7
      have hC10 := hC3.no hS7
      have hr8 := hw2.no hS7
      refine dg_sub (E' := [(7, (.int .i64 k2))]) ⟨rfl, trivial⟩ ?_
      refine dg_plain rfl (ow_move rfl rfl ?_)
      exact ⟨BX.refl _ _, rfl⟩
     ·
      intro w11 D hS8 hd8
      have hl11 := Le.no M3 hS8
      have hC11 := hC3.no hS8
      have hr9 := hw2.no hS8
      have hd8 : PV (RSlice RSpan) M3 a_b (D 5) w11 ∧ PEq (.int .i64 k2) (D 6) w11 ∧ True := hd8
      obtain ⟨d5, d6, -⟩ := hd8
      obtain ⟨v9, hq2⟩ : ∃ v, (D 5) = v := ⟨_, rfl⟩
      rw [hq2] at d5
      refine dg_sub (E' := [(28, v9), (29, (.int .i64 k2))]) ⟨(congrArg some hq2), (congrArg some d6), trivial⟩ ?_
      refine dg_plain rfl (ow_indexSlice (R := RSpan) rfl rfl rfl d5 Tryd.underlying58 (Tryd.sizeOf76 _) hx2 fun p7 hp7 => ?_)
      exact ⟨BX.refl _ _, ⟨_, rfl, hp7⟩⟩
     ·
      intro w12 D hS9 hd9
      have hl12 := Le.no M3 hS9
      have hC12 := hC3.no hS9
      have hr10 := hw2.no hS9
      have hd9 : PA RSpan M3 x2 (D 7) w12 ∧ True := hd9
      obtain ⟨d7, -⟩ := hd9
      obtain ⟨p8, e3, ha3⟩ := d7
      refine dg_sub (E' := [(30, (.pointer (some p8)))]) ⟨(congrArg some e3), trivial⟩ ?_
      refine dg_plain rfl (ow_fieldAddr rfl rfl Tryd.underlying76 rfl (Tryd.sizeOf3 _) ?_)
      exact ⟨BX.refl _ _, ⟨_, rfl, (ha3.fld fld_Span_Lo)⟩⟩
     ·
      intro w13 D hS10 hd10
      have hl13 := Le.no M3 hS10
      have hC13 := hC3.no hS10
      have hr11 := hw2.no hS10
      have hd10 : PA RInt M3 x2.Lo (D 8) w13 ∧ True := hd10
      obtain ⟨d8, -⟩ := hd10
      obtain ⟨p9, e4, ha4⟩ := d8
      refine dg_sub (E' := [(31, (.pointer (some p9)))]) ⟨(congrArg some e4), trivial⟩ ?_
      refine dg_plain rfl (ow_load (R := RInt) rfl rfl ha4 (Tryd.sizeOf3 _) (Tryd.isAgg3 _) fun v10 hv10 => ?_)
      obtain rfl := vint_eq hv10
      exact ⟨BX.refl _ _, rfl⟩
     ·
      intro w14 D hS11 hd11
      have hd11 : PV (RSlice RSpan) M3 a_a (D 0) w14 ∧ PEq (.int .i64 k1) (D 1) w14 ∧ PA RSpan M3 x1 (D 2) w14 ∧ PA RInt M3 x1.Lo (D 3) w14 ∧ PEq (.int .i64 x1.Lo) (D 4) w14 ∧ PV (RSlice RSpan) M3 a_b (D 5) w14 ∧ PEq (.int .i64 k2) (D 6) w14 ∧ PA RSpan M3 x2 (D 7) w14 ∧ PA RInt M3 x2.Lo (D 8) w14 ∧ PEq (.int .i64 x2.Lo) (D 9) w14 ∧ True := hd11
      obtain ⟨-, -, -, -, d13, -, -, -, -, d18, -⟩ := hd11
      have hl14 := Le.no M3 hS11
      have hC14 := hC3.no hS11
      have hr12 := hw2.no hS11
      refine lw_sub (E' := [(27, (.int .i64 x1.Lo)), (32, (.int .i64 x2.Lo)), (0, v0p), (1, v1p), (5, v3), (6, (.int .i64 k1)), (7, (.int .i64 k2))]) ⟨(congrArg some d13), (congrArg some d18), rfl, rfl, rfl, rfl, rfl, trivial⟩ ?_
      refine lw_op rfl rfl rfl (ow_max rfl rfl rfl ?_)
      refine lw_op rfl rfl rfl (ow_assign rfl rfl ?_)
      refine lw_nil (ew_then (cw_seq (cw_sub (E' := [(0, v0p), (1, v1p), (5, v3), (6, (.int .i64 k1)), (7, (.int .i64 k2)), (8, (.int .i64 (imax x1.Lo x2.Lo)))]) ⟨rfl, rfl, rfl, rfl, rfl, rfl, trivial⟩ ?_)))
      refine cw_drawQ 10 [PV (RSlice RSpan) M3 a_a, PEq (.int .i64 k1), PA RSpan M3 x1, PA RInt M3 x1.Hi, PEq (.int .i64 x1.Hi), PV (RSlice RSpan) M3 a_b, PEq (.int .i64 k2), PA RSpan M3 x2, PA RInt M3 x2.Hi, PEq (.int .i64 x2.Hi)] (by kernel_rfl) rfl (by kernel_rfl) ⟨PV.mono _ _ _, PEq.mono _, PA.mono _ _ _, PA.mono _ _ _, PEq.mono _, PV.mono _ _ _, PEq.mono _, PA.mono _ _ _, PA.mono _ _ _, PEq.mono _, trivial⟩ ⟨?_, ?_, ?_, ?_, ?_, ?_, ?_, ?_, ?_, ?_, trivial⟩ ?_
      ·
       intro w15 D hS12 hd12
       have hl15 := Le.no M3 hS12
       have hC15 := hC14.no hS12
       have hr13 := hr12.no hS12
       refine dg_sub (E' := [(0, v0p)]) ⟨rfl, trivial⟩ ?_
       refine dg_plain rfl (ow_move rfl rfl ?_)
       exact ⟨BX.refl _ _, (VRep.mono ((((hl1.trans hl2).trans hl3).trans hl14).trans hl15) h0)⟩
      ·
       intro w16 D hS13 hd13
       have hl16 := Le.no M3 hS13
       have hC16 := hC14.no hS13
       have hr14 := hr12.no hS13
       refine dg_sub (E' := [(6, (.int .i64 k1))]) ⟨rfl, trivial⟩ ?_
       refine dg_plain rfl (ow_move rfl rfl ?_)
       exact ⟨BX.refl _ _, rfl⟩
      ·
       intro w17 D hS14 hd14
       have hl17 := Le.no M3 hS14
       have hC17 := hC14.no hS14
       have hr15 := hr12.no hS14
       have hd14 : PV (RSlice RSpan) M3 a_a (D 0) w17 ∧ PEq (.int .i64 k1) (D 1) w17 ∧ True := hd14
       obtain ⟨d19, d20, -⟩ := hd14
       obtain ⟨v13, hq3⟩ : ∃ v, (D 0) = v := ⟨_, rfl⟩
       rw [hq3] at d19
       refine dg_sub (E' := [(34, v13), (35, (.int .i64 k1))]) ⟨(congrArg some hq3), (congrArg some d20), trivial⟩ ?_
       refine dg_plain rfl (ow_indexSlice (R := RSpan) rfl rfl rfl d19 Tryd.underlying58 (Tryd.sizeOf76 _) hx1 fun p12 hp12 => ?_)
       exact ⟨BX.refl _ _, ⟨_, rfl, hp12⟩⟩
      ·
       intro w18 D hS15 hd15
       have hl18 := Le.no M3 hS15
       have hC18 := hC14.no hS15
       have hr16 := hr12.no hS15
       have hd15 : PA RSpan M3 x1 (D 2) w18 ∧ True := hd15
       obtain ⟨d21, -⟩ := hd15
       obtain ⟨p13, e5, ha5⟩ := d21
       refine dg_sub (E' := [(36, (.pointer (some p13)))]) ⟨(congrArg some e5), trivial⟩ ?_
       refine dg_plain rfl (ow_fieldAddr rfl rfl Tryd.underlying76 rfl (Tryd.sizeOf3 _) ?_)
       exact ⟨BX.refl _ _, ⟨_, rfl, (ha5.fld fld_Span_Hi)⟩⟩
      ·
       intro w19 D hS16 hd16
       have hl19 := Le.no M3 hS16
       have hC19 := hC14.no hS16
       have hr17 := hr12.no hS16
       have hd16 : PA RInt M3 x1.Hi (D 3) w19 ∧ True := hd16
       obtain ⟨d22, -⟩ := hd16
       obtain ⟨p14, e6, ha6⟩ := d22
       refine dg_sub (E' := [(37, (.pointer (some p14)))]) ⟨(congrArg some e6), trivial⟩ ?_
       refine dg_plain rfl (ow_load (R := RInt) rfl rfl ha6 (Tryd.sizeOf3 _) (Tryd.isAgg3 _) fun v14 hv14 => ?_)
       obtain rfl := vint_eq hv14
       exact ⟨BX.refl _ _, rfl⟩
      ·
       intro w20 D hS17 hd17
       have hl20 := Le.no M3 hS17
       have hC20 := hC14.no hS17
       have hr18 := hr12.no hS17
       refine dg_sub (E' := [(1, v1p)]) ⟨rfl, trivial⟩ ?_
       refine dg_plain rfl (ow_move rfl rfl ?_)
       exact ⟨BX.refl _ _, (VRep.mono ((((hl1.trans hl2).trans hl3).trans hl14).trans hl20) h1)⟩
      ·
       intro w21 D hS18 hd18
       have hl21 := Le.no M3 hS18
       have hC21 := hC14.no hS18
       have hr19 := hr12.no hS18
       refine dg_sub (E' := [(7, (.int .i64 k2))]) ⟨rfl, trivial⟩ ?_
       refine dg_plain rfl (ow_move rfl rfl ?_)
       exact ⟨BX.refl _ _, rfl⟩
      ·
       intro w22 D hS19 hd19
       have hl22 := Le.no M3 hS19
       have hC22 := hC14.no hS19
       have hr20 := hr12.no hS19
       have hd19 : PV (RSlice RSpan) M3 a_b (D 5) w22 ∧ PEq (.int .i64 k2) (D 6) w22 ∧ True := hd19
       obtain ⟨d23, d24, -⟩ := hd19
       obtain ⟨v15, hq4⟩ : ∃ v, (D 5) = v := ⟨_, rfl⟩
       rw [hq4] at d23
       refine dg_sub (E' := [(39, v15), (40, (.int .i64 k2))]) ⟨(congrArg some hq4), (congrArg some d24), trivial⟩ ?_
       refine dg_plain rfl (ow_indexSlice (R := RSpan) rfl rfl rfl d23 Tryd.underlying58 (Tryd.sizeOf76 _) hx2 fun p15 hp15 => ?_)
       exact ⟨BX.refl _ _, ⟨_, rfl, hp15⟩⟩
      ·
       intro w23 D hS20 hd20
       have hl23 := Le.no M3 hS20
       have hC23 := hC14.no hS20
       have hr21 := hr12.no hS20
       have hd20 : PA RSpan M3 x2 (D 7) w23 ∧ True := hd20
       obtain ⟨d25, -⟩ := hd20
       obtain ⟨p16, e7, ha7⟩ := d25
       refine dg_sub (E' := [(41, (.pointer (some p16)))]) ⟨(congrArg some e7), trivial⟩ ?_
       refine dg_plain rfl (ow_fieldAddr rfl rfl Tryd.underlying76 rfl (Tryd.sizeOf3 _) ?_)
       exact ⟨BX.refl _ _, ⟨_, rfl, (ha7.fld fld_Span_Hi)⟩⟩
      ·
       intro w24 D hS21 hd21
       have hl24 := Le.no M3 hS21
       have hC24 := hC14.no hS21
       have hr22 := hr12.no hS21
       have hd21 : PA RInt M3 x2.Hi (D 8) w24 ∧ True := hd21
       obtain ⟨d26, -⟩ := hd21
       obtain ⟨p17, e8, ha8⟩ := d26
       refine dg_sub (E' := [(42, (.pointer (some p17)))]) ⟨(congrArg some e8), trivial⟩ ?_
       refine dg_plain rfl (ow_load (R := RInt) rfl rfl ha8 (Tryd.sizeOf3 _) (Tryd.isAgg3 _) fun v16 hv16 => ?_)
       obtain rfl := vint_eq hv16
       exact ⟨BX.refl _ _, rfl⟩
      ·
       intro w25 D hS22 hd22
       have hd22 : PV (RSlice RSpan) M3 a_a (D 0) w25 ∧ PEq (.int .i64 k1) (D 1) w25 ∧ PA RSpan M3 x1 (D 2) w25 ∧ PA RInt M3 x1.Hi (D 3) w25 ∧ PEq (.int .i64 x1.Hi) (D 4) w25 ∧ PV (RSlice RSpan) M3 a_b (D 5) w25 ∧ PEq (.int .i64 k2) (D 6) w25 ∧ PA RSpan M3 x2 (D 7) w25 ∧ PA RInt M3 x2.Hi (D 8) w25 ∧ PEq (.int .i64 x2.Hi) (D 9) w25 ∧ True := hd22
       obtain ⟨-, -, -, -, d31, -, -, -, -, d36, -⟩ := hd22
       have hl25 := Le.no M3 hS22
       have hC25 := hC14.no hS22
       have hr23 := hr12.no hS22
       refine lw_sub (E' := [(38, (.int .i64 x1.Hi)), (43, (.int .i64 x2.Hi)), (0, v0p), (1, v1p), (5, v3), (6, (.int .i64 k1)), (7, (.int .i64 k2)), (8, (.int .i64 (imax x1.Lo x2.Lo)))]) ⟨(congrArg some d31), (congrArg some d36), rfl, rfl, rfl, rfl, rfl, rfl, trivial⟩ ?_
       refine lw_op rfl rfl rfl (ow_min rfl rfl rfl ?_)
       refine lw_op rfl rfl rfl (ow_assign rfl rfl ?_)
       refine lw_nil (ew_then (cw_seq (cw_region (lw_op rfl rfl rfl (ow_move rfl rfl ?_)))))
       refine lw_op rfl rfl rfl (ow_move rfl rfl ?_)
       refine lw_op rfl rfl rfl (ow_leq rfl rfl rfl fun bb3 hbb3 => ?_)
       refine lw_nil (ew_then ?_)
       replace hb3 := cond_some hb3
       rcases hb3 with ⟨hc3, hb3⟩ | ⟨hc3, hb3⟩
       ·
        obtain rfl := hbb3.trans hc3
        refine cw_true rfl ?_
        refine cw_region (lw_op rfl rfl rfl (ow_move rfl rfl ?_))
        refine lw_op rfl rfl rfl (ow_move rfl rfl ?_)
        refine lw_op rfl rfl rfl (ow_move rfl rfl ?_)
        refine lw_op rfl rfl rfl (ow_build (v := .agg #[(.int .i64 (imax x1.Lo x2.Lo)), (.int .i64 (imin x1.Hi x2.Hi))]) rfl rfl (by kernel_rfl) ?_)
        have hw3 : VRep RSpan w25 M3 ({ Lo := (imax x1.Lo x2.Lo), Hi := (imin x1.Hi x2.Hi) } : Span) (.agg #[(.int .i64 (imax x1.Lo x2.Lo)), (.int .i64 (imin x1.Hi x2.Hi))]) := shut_Span
        refine lw_op rfl rfl rfl (ow_buildSlice (R := RSpan) (xs := [({ Lo := (imax x1.Lo x2.Lo), Hi := (imin x1.Hi x2.Hi) } : Span)]) (cs := #[(.int .i64 (imax x1.Lo x2.Lo)), (.int .i64 (imin x1.Hi x2.Hi))]) (e := 76) rfl rfl (by kernel_rfl) rfl rfl ⟨_, _, rfl, hw3.cells, rfl⟩ hC25 fun p18 w26 hw4 hb4 hl26 hC26 => ?_)
        have hr24 := hr23.no hb4
        replace hb3 := bind_some hb3
        obtain ⟨z1, hz1, hb3⟩ := hb3
        refine lw_op rfl rfl rfl (ow_append (R := RSpan) rfl rfl rfl rfl Tryd.underlying58 hi76 hz76 hs76 hy76 rfl rfl rfl rfl hr24 hw4 hz1 hC26 fun v17 w27 M4 hr25 hb5 hl27 hC27 hM2 hat2 => ?_)
        refine lw_op rfl rfl rfl (ow_assign rfl rfl ?_)
        refine lw_nil (ew_blockN ?_)
        refine ew_then (cw_region (lw_op rfl rfl rfl (ow_move rfl rfl ?_)))
        refine lw_op rfl rfl rfl (ow_add rfl rfl rfl ?_)
        refine lw_op rfl rfl rfl (ow_assign rfl rfl ?_)
        refine lw_nil (ew_nxt (z1, (W (k2 + 1))) hb3 fun a ha => ⟨M4, v17, ?_, ((((hl3.trans hl14).trans hl25).trans hl26).trans hl27), hC27, hr25⟩)
        exact ha.sub ⟨rfl, rfl, rfl, rfl, rfl, trivial⟩
       ·
        obtain rfl := hbb3.trans hc3
        refine cw_false rfl ?_
        refine cw_skip (ew_blockN ?_)
        refine ew_then (cw_region (lw_op rfl rfl rfl (ow_move rfl rfl ?_)))
        refine lw_op rfl rfl rfl (ow_add rfl rfl rfl ?_)
        refine lw_op rfl rfl rfl (ow_assign rfl rfl ?_)
        refine lw_nil (ew_nxt (y2, (W (k2 + 1))) hb3 fun a ha => ⟨M3, v3, ?_, ((hl3.trans hl14).trans hl25), hC25, hr23⟩)
        exact ha.sub ⟨rfl, rfl, rfl, rfl, rfl, trivial⟩
    ·
     obtain rfl := hbb2.trans hc2
     refine cw_false rfl ?_
     refine cw_exit ?_
     refine ew_thenX ?_
     refine ew_thenX ?_
     refine ew_blockX ?_
     refine ew_brk (y2, k2) hb3 fun a ha => ⟨M3, v3, ?_, hl3, hC3, hw2⟩
     exact ha.sub ⟨rfl, rfl, rfl, rfl, rfl, trivial⟩
   ·
    rintro ⟨y3, k3⟩ a w28 hlr3 ⟨M5, v18, hF3, hl28, hC28, hw5⟩
    subst hlr3
    refine ew_at (E := [(0, v0p), (1, v1p), (5, v18), (6, (.int .i64 k1)), (7, (.int .i64 k3))]) hF3 ?_
    refine ew_blockN ?_
    refine ew_then (cw_region (lw_op rfl rfl rfl (ow_move rfl rfl ?_)))
    refine lw_op rfl rfl rfl (ow_add rfl rfl rfl ?_)
    refine lw_op rfl rfl rfl (ow_assign rfl rfl ?_)
    refine lw_nil (ew_nxt (y3, (W (k1 + 1))) hb2 fun a ha => ⟨M5, v18, ?_, (hl2.trans hl28), hC28, hw5⟩)
    exact ha.sub ⟨rfl, rfl, rfl, rfl, trivial⟩
  ·
   obtain rfl := hbb1.trans hc1
   refine cw_false rfl ?_
   refine cw_exit ?_
   refine ew_thenX ?_
   refine ew_thenX ?_
   refine ew_blockX ?_
   refine ew_brk (y1, k1) hb2 fun a ha => ⟨M2, v1, ?_, hl2, hC2, hw1⟩
   exact ha.sub ⟨rfl, rfl, rfl, rfl, trivial⟩
 ·
  rintro ⟨y4, k4⟩ a w29 hlr4 ⟨M6, v20, hF4, hl29, hC29, hw6⟩
  subst hlr4
  refine ew_at (E := [(0, v0p), (1, v1p), (5, v20), (6, (.int .i64 k4))]) hF4 ?_
  refine ew_then (cw_seq (cw_region (lw_op rfl rfl rfl (ow_move rfl rfl ?_))))
  refine lw_op rfl rfl rfl (ow_assign rfl rfl ?_)
  refine lw_nil (ew_then (cw_ret ?_))
  obtain rfl := Option.some.inj h
  exact ew_ret (res1 rfl (.tmp rfl)) ⟨_, rfl, (hw6.freezeBack hC29 hO), hC29.bx⟩

theorem w_spec_l2Other {w : World} {M : Nat → Prop} (_hG : ARep (RArr 4 RShape) w M shapes ⟨0, 0, none⟩) (hO : ∀ b, M b → b < w.heap.size) {v0p : Value} {a_a : List Span} (h0 : VRep (RSlice RSpan) w M a_a v0p) {a_top : Int} {r : (List Span)} (h : F.spec_l2Other a_a a_top = some r) :
  Calls Tryd.prog 97 [v0p, (.int .i64 a_top)].toArray w fun e w' => ∃ v, e = .returned v ∧ VRep (RSlice RSpan) w' M r v ∧ BX No w w' := by
 obtain ⟨i76, hi76, hz76, hs76, hy76⟩ := info76
 have hC : Cx No w M w M := Cx.start hO (fun _ e => e.elim)
 clear _hG
 refine walk (N := 49) Tryd.func97 rfl Tryd.ntmps97 rfl ?_
 refine cw_seq (cw_region (lw_op rfl rfl rfl (ow_assign rfl rfl ?_)))
 refine lw_nil (ew_then (cw_seq (cw_region (lw_op rfl rfl rfl (ow_buildSlice0 (R := RSpan) (e := 76) rfl (by kernel_rfl) hC fun p1 w1 M1 hr1 hb1 hl1 hC1 hM1 hat1 => ?_)))))
 refine lw_op rfl rfl rfl (ow_assign rfl rfl ?_)
 refine lw_nil (ew_then (cw_seq (cw_region (lw_op rfl rfl rfl (ow_assign rfl rfl ?_)))))
 refine lw_nil (ew_then (cw_seq (cw_seq (cw_region (lw_op rfl rfl rfl (ow_assign rfl rfl ?_))))))
 refine lw_nil (ew_then ?_)
 replace h := bind_some h
 obtain ⟨lr1, hlr1, h⟩ := h
 refine cw_for hlr1 (fun s a w' => ∃ (M' : Nat → Prop) (v0c : Value), Fits 49 [(0, v0p), (1, (.int .i64 a_top)), (5, v0c), (6, (.int .i64 s.2.1)), (7, (.int .i64 s.2.2))] a ∧ Le w1 M1 w' M' ∧ Cx No w M w' M' ∧ OwnRow RSpan w.heap.size 76 w' M' s.1 v0c) ?_ ?_ ?_
 ·
  intro a ha
  exact ⟨M1, (.slice (some p1) 0 0), ha.sub ⟨rfl, rfl, rfl, rfl, rfl, trivial⟩, Le.refl _ _, hC1, hr1⟩
 ·
  rintro ⟨y1, k1, k2⟩ a w2 sr1 ⟨M2, v1, hF1, hl2, hC2, hw1⟩ hb2 hR1
  refine cw_at (E := [(0, v0p), (1, (.int .i64 a_top)), (5, v1), (6, (.int .i64 k1)), (7, (.int .i64 k2))]) hF1 ?_
  refine cw_seq (cw_seq (cw_region (lw_op rfl rfl rfl (ow_move rfl rfl ?_))))
  refine lw_op rfl rfl rfl (ow_move rfl rfl ?_)
  refine lw_op rfl rfl rfl (ow_len rfl rfl (VRep.mono (hl1.trans hl2) h0) Tryd.underlying58 rfl ?_)
  refine lw_op rfl rfl rfl (ow_lss rfl rfl rfl fun bb1 hbb1 => ?_)
  refine lw_nil (ew_then ?_)
  replace hb2 := cond_some hb2
  rcases hb2 with ⟨hc1, hb2⟩ | ⟨hc1, hb2⟩
  ·
   obtain rfl := hbb1.trans hc1
   refine cw_true rfl ?_
   refine cw_skip (ew_then (cw_seq (cw_block ?_)))
   refine cw_seq (cw_seq (cw_region (lw_op rfl rfl rfl (ow_move rfl rfl ?_))))
   refine lw_op rfl rfl rfl (ow_move rfl rfl ?_)
   refine lw_op rfl rfl rfl (ow_move rfl rfl ?_)
   replace hb2 := bind_some hb2
   obtain ⟨x1, hx1, hb2⟩ := hb2
   refine lw_op rfl rfl rfl (ow_indexSlice (R := RSpan) rfl rfl rfl (VRep.mono (hl1.trans hl2) h0) Tryd.underlying58 (Tryd.sizeOf76 _) hx1 fun p2 hp2 => ?_)
   refine lw_op rfl rfl rfl (ow_fieldAddr rfl rfl Tryd.underlying76 rfl (Tryd.sizeOf3 _) ?_)
   refine lw_op rfl rfl rfl (ow_load (R := RInt) rfl rfl (hp2.fld fld_Span_Lo) (Tryd.sizeOf3 _) (Tryd.isAgg3 _) fun v4 hv4 => ?_)
   obtain rfl := vint_eq hv4
   refine lw_op rfl rfl rfl (ow_lss rfl rfl rfl fun bb2 hbb2 => ?_)
   refine lw_nil (ew_then ?_)
   replace hb2 := cond_some hb2
   rcases hb2 with ⟨hc2, hb2⟩ | ⟨hc2, hb2⟩
   ·
    obtain rfl := hbb2.trans hc2
    refine cw_true rfl ?_
    refine cw_region (lw_op rfl rfl rfl (ow_move rfl rfl ?_))
    refine lw_op rfl rfl rfl (ow_move rfl rfl ?_)
    refine lw_op rfl rfl rfl (ow_move rfl rfl ?_)
    refine lw_op rfl rfl rfl (ow_move rfl rfl ?_)
    refine lw_op rfl rfl rfl (ow_indexSlice (R := RSpan) rfl rfl rfl (VRep.mono (hl1.trans hl2) h0) Tryd.underlying58 (Tryd.sizeOf76 _) hx1 fun p3 hp3 => ?_)
    refine lw_op rfl rfl rfl (ow_fieldAddr rfl rfl Tryd.underlying76 rfl (Tryd.sizeOf3 _) ?_)
    refine lw_op rfl rfl rfl (ow_load (R := RInt) rfl rfl (hp3.fld fld_Span_Lo) (Tryd.sizeOf3 _) (Tryd.isAgg3 _) fun v5 hv5 => ?_)
    obtain rfl := vint_eq hv5
    refine lw_op rfl rfl rfl (ow_sub rfl rfl rfl ?_)
    refine lw_op rfl rfl rfl (ow_build (v := .agg #[(.int .i64 k1), (.int .i64 (W (x1.Lo - 1)))]) rfl rfl (by kernel_rfl) ?_)
    have hw2 : VRep RSpan w2 M2 ({ Lo := k1, Hi := (W (x1.Lo - 1)) } : Span) (.agg #[(.int .i64 k1), (.int .i64 (W (x1.Lo - 1)))]) := shut_Span
    refine lw_op rfl rfl rfl (ow_buildSlice (R := RSpan) (xs := [({ Lo := k1, Hi := (W (x1.Lo - 1)) } : Span)]) (cs := #[(.int .i64 k1), (.int .i64 (W (x1.Lo - 1)))]) (e := 76) rfl rfl (by kernel_rfl) rfl rfl ⟨_, _, rfl, hw2.cells, rfl⟩ hC2 fun p4 w3 hw3 hb3 hl3 hC3 => ?_)
    have hr2 := hw1.no hb3
    replace hb2 := bind_some hb2
    obtain ⟨z1, hz1, hb2⟩ := hb2
    refine lw_op rfl rfl rfl (ow_append (R := RSpan) rfl rfl rfl rfl Tryd.underlying58 hi76 hz76 hs76 hy76 rfl rfl rfl rfl hr2 hw3 hz1 hC3 fun v6 w4 M3 hr3 hb4 hl4 hC4 hM2 hat2 => ?_)
    refine lw_op rfl rfl rfl (ow_assign rfl rfl ?_)
    refine lw_nil (ew_then (cw_region (lw_op rfl rfl rfl (ow_move rfl rfl ?_))))
    refine lw_op rfl rfl rfl (ow_move rfl rfl ?_)
    refine lw_op rfl rfl rfl (ow_indexSlice (R := RSpan) rfl rfl rfl (VRep.mono (((hl1.trans hl2).trans hl3).trans hl4) h0) Tryd.underlying58 (Tryd.sizeOf76 _) hx1 fun p5 hp5 => ?_)
    refine lw_op rfl rfl rfl (ow_fieldAddr rfl rfl Tryd.underlying76 rfl (Tryd.sizeOf3 _) ?_)
    refine lw_op rfl rfl rfl (ow_load (R := RInt) rfl rfl (hp5.fld fld_Span_Hi) (Tryd.sizeOf3 _) (Tryd.isAgg3 _) fun v7 hv7 => ?_)
    obtain rfl := vint_eq hv7
    refine lw_op rfl rfl rfl (ow_add rfl rfl rfl ?_)
    refine lw_op rfl rfl rfl (ow_assign rfl rfl ?_)
    refine lw_nil (ew_blockN ?_)
    refine ew_then (cw_region (lw_op rfl rfl rfl (ow_move rfl rfl ?_)))
    refine lw_op rfl rfl rfl (ow_add rfl rfl rfl ?_)
    refine lw_op rfl rfl rfl (ow_assign rfl rfl ?_)
    refine lw_nil (ew_nxt (z1, (W (x1.Hi + 1)), (W (k2 + 1))) hb2 fun a ha => ⟨M3, v6, ?_, ((hl2.trans hl3).trans hl4), hC4, hr3⟩)
    exact ha.sub ⟨rfl, rfl, rfl, rfl, rfl, trivial⟩
   ·
    obtain rfl := hbb2.trans hc2
    refine cw_false rfl ?_
    refine cw_skip (ew_then (cw_region (lw_op rfl rfl rfl (ow_move rfl rfl ?_))))
    refine lw_op rfl rfl rfl (ow_move rfl rfl ?_)
    refine lw_op rfl rfl rfl (ow_indexSlice (R := RSpan) rfl rfl rfl (VRep.mono (hl1.trans hl2) h0) Tryd.underlying58 (Tryd.sizeOf76 _) hx1 fun p6 hp6 => ?_)
    refine lw_op rfl rfl rfl (ow_fieldAddr rfl rfl Tryd.underlying76 rfl (Tryd.sizeOf3 _) ?_)
    refine lw_op rfl rfl rfl (ow_load (R := RInt) rfl rfl (hp6.fld fld_Span_Hi) (Tryd.sizeOf3 _) (Tryd.isAgg3 _) fun v8 hv8 => ?_)
    obtain rfl := vint_eq hv8
    refine lw_op rfl rfl rfl (ow_add rfl rfl rfl ?_)
    refine lw_op rfl rfl rfl (ow_assign rfl rfl ?_)
    refine lw_nil (ew_blockN ?_)
    refine ew_then (cw_region (lw_op rfl rfl rfl (ow_move rfl rfl ?_)))
    refine lw_op rfl rfl rfl (ow_add rfl rfl rfl ?_)
    refine lw_op rfl rfl rfl (ow_assign rfl rfl ?_)
    refine lw_nil (ew_nxt (y1, (W (x1.Hi + 1)), (W (k2 + 1))) hb2 fun a ha => ⟨M2, v1, ?_, hl2, hC2, hw1⟩)
    exact ha.sub ⟨rfl, rfl, rfl, rfl, rfl, trivial⟩
  ·
   obtain rfl := hbb1.trans hc1
   refine cw_false rfl ?_
   refine cw_exit ?_
   refine ew_thenX ?_
   refine ew_thenX ?_
   refine ew_blockX ?_
   refine ew_brk (y1, k1, k2) hb2 fun a ha => ⟨M2, v1, ?_, hl2, hC2, hw1⟩
   exact ha.sub ⟨rfl, rfl, rfl, rfl, rfl, trivial⟩
 ·
  rintro ⟨y2, k3, k4⟩ a w5 hlr2 ⟨M4, v9, hF2, hl5, hC5, hw4⟩
  subst hlr2
  refine ew_at (E := [(0, v0p), (1, (.int .i64 a_top)), (5, v9), (6, (.int .i64 k3)), (7, (.int .i64 k4))]) hF2 ?_
  refine ew_then (cw_seq (cw_seq (cw_region (lw_op rfl rfl rfl (ow_move rfl rfl ?_)))))
  refine lw_op rfl rfl rfl (ow_move rfl rfl ?_)
  refine lw_op rfl rfl rfl (ow_leq rfl rfl rfl fun bb3 hbb3 => ?_)
  refine lw_nil (ew_then ?_)
  replace h := cond_some h
  rcases h with ⟨hc3, h⟩ | ⟨hc3, h⟩
  ·
   obtain rfl := hbb3.trans hc3
   refine cw_true rfl ?_
   refine cw_region (lw_op rfl rfl rfl (ow_move rfl rfl ?_))
   refine lw_op rfl rfl rfl (ow_move rfl rfl ?_)
   refine lw_op rfl rfl rfl (ow_move rfl rfl ?_)
   refine lw_op rfl rfl rfl (ow_build (v := .agg #[(.int .i64 k3), (.int .i64 a_top)]) rfl rfl (by kernel_rfl) ?_)
   have hw5 : VRep RSpan w5 M4 ({ Lo := k3, Hi := a_top } : Span) (.agg #[(.int .i64 k3), (.int .i64 a_top)]) := shut_Span
   refine lw_op rfl rfl rfl (ow_buildSlice (R := RSpan) (xs := [({ Lo := k3, Hi := a_top } : Span)]) (cs := #[(.int .i64 k3), (.int .i64 a_top)]) (e := 76) rfl rfl (by kernel_rfl) rfl rfl ⟨_, _, rfl, hw5.cells, rfl⟩ hC5 fun p7 w6 hw6 hb5 hl6 hC6 => ?_)
   have hr4 := hw4.no hb5
   replace h := bind_some h
   obtain ⟨z2, hz2, h⟩ := h
   refine lw_op rfl rfl rfl (ow_append (R := RSpan) rfl rfl rfl rfl Tryd.underlying58 hi76 hz76 hs76 hy76 rfl rfl rfl rfl hr4 hw6 hz2 hC6 fun v12 w7 M5 hr5 hb6 hl7 hC7 hM3 hat3 => ?_)
   refine lw_op rfl rfl rfl (ow_assign rfl rfl ?_)
   refine lw_nil (ew_then (cw_seq (cw_region (lw_op rfl rfl rfl (ow_move rfl rfl ?_)))))
   refine lw_op rfl rfl rfl (ow_assign rfl rfl ?_)
   refine lw_nil (ew_then (cw_ret ?_))
   obtain rfl := Option.some.inj h
   exact ew_ret (res1 rfl (.tmp rfl)) ⟨_, rfl, (hr5.freezeBack hC7 hO), hC7.bx⟩
  ·
   obtain rfl := hbb3.trans hc3
   refine cw_false rfl ?_
   refine cw_skip (ew_then (cw_seq (cw_region (lw_op rfl rfl rfl (ow_move rfl rfl ?_)))))
   refine lw_op rfl rfl rfl (ow_assign rfl rfl ?_)
   refine lw_nil (ew_then (cw_ret ?_))
   obtain rfl := Option.some.inj h
   exact ew_ret (res1 rfl (.tmp rfl)) ⟨_, rfl, (hw4.freezeBack hC5 hO), hC5.bx⟩

theorem w_spec_TestSpans {w : World} {M : Nat → Prop} (hG : ARep (RArr 4 RShape) w M shapes ⟨0, 0, none⟩) (hO : ∀ b, M b → b < w.heap.size) {v0p : Value} {a_t : Test} (h0 : VRep RTest w M a_t v0p) {r : (List Span)} (h : F.spec_TestSpans a_t = some r) :
  Calls Tryd.prog 61 [v0p].toArray w fun e w' => ∃ v, e = .returned v ∧ VRep (RSlice RSpan) w' M r v ∧ BX No w w' := by
 have hC : Cx No w M w M := Cx.start hO (fun _ e => e.elim)
 refine walk (N := 22) Tryd.func61 rfl Tryd.ntmps61 rfl ?_
 refine cw_seq (cw_region (lw_op rfl rfl rfl (ow_box (R := RTest) rfl rfl h0 hC fun p1 w1 hp1 hb1 hl1 hC1 => ?_)))
 refine lw_op rfl rfl rfl (ow_assign rfl rfl ?_)
 refine lw_nil (ew_then (cw_seq (cw_seq (cw_region (lw_op rfl rfl rfl (ow_load (R := RTest) rfl rfl hp1 (Tryd.sizeOf31 _) (Tryd.isAgg31 _) fun v1 hv1 => ?_))))))
 replace h := bind_some h
 obtain ⟨x1, hx1, h⟩ := h
 refine lw_op rfl rfl rfl (ow_call rfl rfl Tryd.call64 (w_spec_TestValid (hG.mono hl1) hC1.old hv1 hx1) fun v2 w2 hv2 => ?_)
 obtain ⟨hv2, hb2⟩ := hv2
 have hl2 := Le.no M hb2
 have hC2 := hC1.no hb2
 obtain rfl := vbool_eq hv2
 refine lw_op rfl rfl rfl (ow_not rfl rfl ?_)
 refine lw_nil (ew_then ?_)
 replace h := cond_some h
 rcases h with ⟨hc1, h⟩ | ⟨hc1, h⟩
 ·
  subst hc1
  refine cw_false rfl ?_
  refine cw_skip (ew_then (cw_seq (cw_region (lw_op rfl rfl rfl (ow_fieldAddr rfl rfl Tryd.underlying31 rfl (Tryd.sizeOf3 _) ?_)))))
  refine lw_op rfl rfl rfl (ow_load (R := RInt) rfl rfl (ARep.mono hl2 (hp1.fld fld_Test_Lo)) (Tryd.sizeOf3 _) (Tryd.isAgg3 _) fun v3 hv3 => ?_)
  obtain rfl := vint_eq hv3
  refine lw_op rfl rfl rfl (ow_fieldAddr rfl rfl Tryd.underlying31 rfl (Tryd.sizeOf3 _) ?_)
  refine lw_op rfl rfl rfl (ow_load (R := RInt) rfl rfl (ARep.mono hl2 (hp1.fld fld_Test_Hi)) (Tryd.sizeOf3 _) (Tryd.isAgg3 _) fun v4 hv4 => ?_)
  obtain rfl := vint_eq hv4
  refine lw_op rfl rfl rfl (ow_build (v := .agg #[(.int .i64 a_t.Lo), (.int .i64 a_t.Hi)]) rfl rfl (by kernel_rfl) ?_)
  have hw1 : VRep RSpan w2 M ({ Lo := a_t.Lo, Hi := a_t.Hi } : Span) (.agg #[(.int .i64 a_t.Lo), (.int .i64 a_t.Hi)]) := shut_Span
  refine lw_op rfl rfl rfl (ow_buildSlice (R := RSpan) (xs := [({ Lo := a_t.Lo, Hi := a_t.Hi } : Span)]) (cs := #[(.int .i64 a_t.Lo), (.int .i64 a_t.Hi)]) (e := 76) rfl rfl (by kernel_rfl) rfl rfl ⟨_, _, rfl, hw1.cells, rfl⟩ hC2 fun p2 w3 hw2 hb3 hl3 hC3 => ?_)
  refine lw_op rfl rfl rfl (ow_assign rfl rfl ?_)
  refine lw_nil (ew_then (cw_seq (cw_seq (cw_region (lw_op rfl rfl rfl (ow_fieldAddr rfl rfl Tryd.underlying31 rfl (Tryd.sizeOf4 _) ?_))))))
  refine lw_op rfl rfl rfl (ow_load (R := RBool) rfl rfl (ARep.mono (hl2.trans hl3) (hp1.fld fld_Test_Not)) (Tryd.sizeOf4 _) (Tryd.isAgg4 _) fun v5 hv5 => ?_)
  obtain ⟨bb1, hbb1, rfl⟩ := vbool_ex hv5
  refine lw_nil (ew_then ?_)
  replace h := cond_some h
  rcases h with ⟨hc2, h⟩ | ⟨hc2, h⟩
  ·
   obtain rfl := hbb1.trans hc2
   refine cw_true rfl ?_
   refine cw_seq (cw_region (lw_op rfl rfl rfl (ow_move rfl rfl ?_)))
   refine lw_op rfl rfl rfl (ow_fieldAddr rfl rfl Tryd.underlying31 rfl (Tryd.sizeOf3 _) ?_)
   refine lw_op rfl rfl rfl (ow_load (R := RInt) rfl rfl (ARep.mono (hl2.trans hl3) (hp1.fld fld_Test_Field)) (Tryd.sizeOf3 _) (Tryd.isAgg3 _) fun v6 hv6 => ?_)
   obtain rfl := vint_eq hv6
   replace h := bind_some h
   obtain ⟨x2, hx2, h⟩ := h
   refine lw_op rfl rfl rfl (ow_call rfl rfl Tryd.call81 (w_spec_FieldTop (hG.mono ((hl1.trans hl2).trans hl3)) hC3.old hx2) fun v7 w4 hv7 => ?_)
   obtain ⟨hv7, hb4⟩ := hv7
   have hl4 := Le.no M hb4
   have hC4 := hC3.no hb4
   obtain rfl := vint_eq hv7
   replace h := bind_some h
   obtain ⟨x3, hx3, h⟩ := h
   refine lw_op rfl rfl rfl (ow_call rfl rfl Tryd.call97 (w_spec_l2Other (hG.mono (((hl1.trans hl2).trans hl3).trans hl4)) hC4.old (VRep.mono hl4 hw2) hx3) fun v8 w5 hv8 => ?_)
   obtain ⟨hv8, hb5⟩ := hv8
   have hl5 := Le.no M hb5
   have hC5 := hC4.no hb5
   refine lw_op rfl rfl rfl (ow_assign rfl rfl ?_)
   refine lw_nil (ew_then (cw_ret (ew_thenR ?_)))
   obtain rfl := Option.some.inj h
   exact ew_ret (res1 rfl (.tmp rfl)) ⟨_, rfl, (VRep.mono hC5.back hv8), hC5.bx⟩
  ·
   obtain rfl := hbb1.trans hc2
   refine cw_false rfl ?_
   refine cw_skip (ew_then (cw_seq (cw_region (lw_op rfl rfl rfl (ow_move rfl rfl ?_)))))
   refine lw_op rfl rfl rfl (ow_assign rfl rfl ?_)
   refine lw_nil (ew_then (cw_ret ?_))
   obtain rfl := Option.some.inj h
   exact ew_ret (res1 rfl (.tmp rfl)) ⟨_, rfl, (VRep.mono hC3.back hw2), hC3.bx⟩
 ·
  subst hc1
  refine cw_true rfl ?_
  refine cw_seq (cw_region (lw_op rfl rfl rfl (ow_buildSlice0I (R := RSpan) (e := 76) rfl (by kernel_rfl) hC2 fun p3 w6 hw3 hb6 hl6 hC6 => ?_)))
  refine lw_op rfl rfl rfl (ow_assign rfl rfl ?_)
  refine lw_nil (ew_then (cw_ret (ew_thenR ?_)))
  obtain rfl := Option.some.inj h
  exact ew_ret (res1 rfl (.tmp rfl)) ⟨_, rfl, (VRep.mono hC6.back hw3), hC6.bx⟩


end Go.PF
