/- The walks; no condition. -/
import Derived.Test.YtgglogmjjaahhaaDoorProg
import Derived.Test.YtgglogmjjaahhaaDoorFun
import Derived.Test.YtgglogmjjaahhaaDoorPFFresh
set_option maxRecDepth 100000
set_option maxHeartbeats 4000000
namespace Go.PF
open Go Go.RowKit Go.Proofs

theorem info3 : ∃ i, Tryd.prog.info? 3 = some i ∧ i.zero = some (.int .i64 0) ∧ i.size = 1 ∧ i.bytes = 8 := info_parts (by kernel_rfl)
theorem info4 : ∃ i, Tryd.prog.info? 4 = some i ∧ i.zero = some (.bool false) ∧ i.size = 1 ∧ i.bytes = 1 := info_parts (by kernel_rfl)
theorem info31 : ∃ i, Tryd.prog.info? 31 = some i ∧ i.zero = some (.agg #[.int .i64 0, .int .i64 0, .int .i64 0, .bool false]) ∧ i.size = 4 ∧ i.bytes = 32 := info_parts (by kernel_rfl)
theorem info36 : ∃ i, Tryd.prog.info? 36 = some i ∧ i.zero = some (.slice none 0 0) ∧ i.size = 1 ∧ i.bytes = 24 := info_parts (by kernel_rfl)
theorem info42 : ∃ i, Tryd.prog.info? 42 = some i ∧ i.zero = some (.agg #[.slice none 0 0, .int .i64 0, .int .i64 0]) ∧ i.size = 3 ∧ i.bytes = 40 := info_parts (by kernel_rfl)
def actV : Act_ → Value
  | .deciding b => .iface 139 (.agg #[.bool b])
  | .calling c => .iface 141 (.agg #[.int .i64 c])
  | .returning => .iface 143 (.agg #[])
  | .passing => .iface 144 (.agg #[])
theorem w_impl_SpansHave {w : World} {M : Nat → Prop} (_hG : ARep (RArr 4 RShape) w M shapes ⟨0, 0, none⟩) (hO : ∀ b, M b → b < w.heap.size) {v0p : Value} {a_list : List Span} (h0 : VRep (RSlice RSpan) w M a_list v0p) {a_n : Int} {r : Bool} (h : F.impl_SpansHave a_list a_n = some r) :
  Calls Tryd.prog 54 [v0p, (.int .i64 a_n)].toArray w fun e w' => ∃ v, e = .returned v ∧ VRep RBool w' M r v ∧ BX No w w' := by
 have hC : Cx No w M w M := Cx.start hO (fun _ e => e.elim)
 clear _hG
 refine walk (N := 24) Tryd.func54 Z Tryd.ntmps54 Z (cw_seq (cw_region (lw_op Z Z Z (ow_assign Z Z (lw_nil (ew_then (cw_seq (cw_seq (cw_region (lw_op Z Z Z (ow_move Z Z (lw_op Z Z Z (ow_len Z Z h0 Tryd.underlying71 Z (lw_op Z Z Z (ow_move Z Z (lw_nil (ew_then ?_)))))))))))))))))
 replace h := bind_some h
 obtain ⟨lr1, hlr1, h⟩ := h
 refine cw_for hlr1 (fun s a w' => ∃ (M' : Nat → Prop), Fits 24 [(1, (.int .i64 a_n)), (7, v0p), (8, (.int .i64 (a_list.length : Int))), (9, (.int .i64 s))] a ∧ Le w M w' M' ∧ Cx No w M w' M') ?_ ?_ ?_
 ·
  intro a ha
  exact ⟨M, ha.sub ⟨Z, Z, Z, Z, trivial⟩, Le.refl _ _, hC⟩
 ·
  rintro k1 a w1 sr1 ⟨M1, hF1, hl1, hC1⟩ hb1 hR1
  refine cw_at (E := [(1, (.int .i64 a_n)), (7, v0p), (8, (.int .i64 (a_list.length : Int))), (9, (.int .i64 k1))]) hF1 (cw_seq (cw_region (lw_op Z Z Z (ow_lss Z Z Z fun bb1 hbb1 => lw_nil (ew_then (cw_seq ?_))))))
  replace hb1 := cond_some hb1
  rcases hb1 with ⟨hc1, hb1⟩ | ⟨hc1, hb1⟩
  ·
   obtain rfl := hbb1.trans hc1
   refine cw_true Z (cw_skip (ew_then (cw_seq (cw_block (cw_seq (cw_region ?_))))))
   replace hb1 := bind_some hb1
   obtain ⟨x1, hx1, hb1⟩ := hb1
   refine lw_op Z Z Z (ow_indexSlice (R := RSpan) Z Z Z (VRep.mono hl1 h0) Tryd.underlying71 (Tryd.sizeOf79 _) hx1 fun p1 hp1 => lw_op Z Z Z (ow_load (R := RSpan) Z Z hp1 (Tryd.sizeOf79 _) (Tryd.isAgg79 _) fun v2 hv2 => lw_allocStore (R := RSpan) Z Z Z Z Z Z Z Tryd.zeroValue79 Tryd.sizeOf79 Z Z Z (by simp) hv2 hC1 fun p2 w2 hp2 hb2 hl2 hC2 => lw_nil (ew_then (cw_seq (cw_region (lw_op Z Z Z (ow_fieldAddr Z Z Tryd.underlying79 Z (Tryd.sizeOf3 _) (lw_op Z Z Z (ow_load (R := RInt) Z Z (hp2.fld fld_Span_Lo) (Tryd.sizeOf3 _) (Tryd.isAgg3 _) fun v3 hv3 => ?_)))))))))
   obtain rfl := vint_eq hv3
   refine lw_op Z Z Z (ow_move Z Z (lw_op Z Z Z (ow_leq Z Z Z fun bb2 hbb2 => lw_op Z Z Z (ow_move Z Z ?_))))
   replace hb1 := cond_some hb1
   rcases hb1 with ⟨hc2, hb1⟩ | ⟨hc2, hb1⟩
   ·
    obtain rfl := hbb2.trans hc2
    refine lw_on Z Z Z Z Z Z (ow_move Z Z (lw_on Z Z Z Z Z Z (ow_fieldAddr Z Z Tryd.underlying79 Z (Tryd.sizeOf3 _) (lw_on Z Z Z Z Z Z (ow_load (R := RInt) Z Z (hp2.fld fld_Span_Hi) (Tryd.sizeOf3 _) (Tryd.isAgg3 _) fun v4 hv4 => ?_)))))
    obtain rfl := vint_eq hv4
    refine lw_on Z Z Z Z Z Z (ow_leq Z Z Z fun bb3 hbb3 => lw_op Z Z Z (ow_pickT Z Z Z (lw_nil (ew_then ?_))))
    replace hb1 := cond_some hb1
    rcases hb1 with ⟨hc3, hb1⟩ | ⟨hc3, hb1⟩
    ·
     obtain rfl := hbb3.trans hc3
     refine cw_true Z (cw_seq (cw_region (lw_op Z Z Z (ow_assign Z Z (lw_nil (ew_then (cw_ret (ew_blockR (ew_thenR (ew_thenR (ew_blockR (ew_brkR (ew_thenR ?_)))))))))))))
     have e1 := hR1 _ (Option.some.inj hb1).symm
     subst e1
     obtain rfl := Option.some.inj h
     exact ew_ret (res1 Z (.tmp Z)) ⟨_, Z, ((vbool _)), hC2.bx⟩
    ·
     obtain rfl := hbb3.trans hc3
     exact cw_false Z (cw_skip (ew_blockN (ew_then (cw_region (lw_op Z Z Z (ow_add Z Z Z (lw_op Z Z Z (ow_move Z Z (lw_nil (ew_nxt (W (k1 + 1)) hb1 fun a ha => ⟨M1, (ha.sub ⟨Z, Z, Z, Z, trivial⟩), (hl1.trans hl2), hC2⟩))))))))))
   ·
    obtain rfl := hbb2.trans hc2
    exact lw_off Z Z Z Z Z Z (lw_off Z Z Z Z Z Z (lw_off Z Z Z Z Z Z (lw_off Z Z Z Z Z Z (lw_op Z Z Z (ow_pickF Z Z Z (lw_nil (ew_then (cw_false Z (cw_skip (ew_blockN (ew_then (cw_region (lw_op Z Z Z (ow_add Z Z Z (lw_op Z Z Z (ow_move Z Z (lw_nil (ew_nxt (W (k1 + 1)) hb1 fun a ha => ⟨M1, (ha.sub ⟨Z, Z, Z, Z, trivial⟩), (hl1.trans hl2), hC2⟩))))))))))))))))))
  ·
   obtain rfl := hbb1.trans hc1
   exact cw_false Z (cw_exit (ew_thenX (ew_thenX (ew_blockX (ew_brk k1 hb1 fun a ha => ⟨M1, (ha.sub ⟨Z, Z, Z, Z, trivial⟩), hl1, hC1⟩)))))
 ·
  rintro k2 a w3 hlr2 ⟨M2, hF2, hl3, hC3⟩
  subst hlr2
  refine ew_at (E := [(1, (.int .i64 a_n)), (7, v0p), (8, (.int .i64 (a_list.length : Int))), (9, (.int .i64 k2))]) hF2 (ew_then (cw_seq (cw_region (lw_op Z Z Z (ow_assign Z Z (lw_nil (ew_then (cw_ret ?_))))))))
  obtain rfl := Option.some.inj h
  exact ew_ret (res1 Z (.tmp Z)) ⟨_, Z, ((vbool _)), hC3.bx⟩

theorem w_laws_alive {w : World} {M : Nat → Prop} (hG : ARep (RArr 4 RShape) w M shapes ⟨0, 0, none⟩) (hO : ∀ b, M b → b < w.heap.size)  {r : Bool} (h : F.laws_alive = some r) :
  Calls Tryd.prog 18 [].toArray w fun e w' => ∃ v, e = .returned v ∧ VRep RBool w' M r v ∧ BX No w w' := by
 have hC : Cx No w M w M := Cx.start hO (fun _ e => e.elim)
 refine walk (N := 4) Tryd.func18 Z Tryd.ntmps18 Z (cw_seq (cw_region (lw_op Z Z Z (ow_assign Z Z (lw_nil (ew_then (cw_seq (cw_region (lw_op Z Z Z (ow_build (v := .agg #[(.int .i64 2), (.int .i64 4)]) Z Z (by kernel_rfl) ?_))))))))))
 have hw1 : VRep RSpan w M ({ Lo := 2, Hi := 4 } : Span) (.agg #[(.int .i64 2), (.int .i64 4)]) := shut_Span
 refine lw_op Z Z Z (ow_buildSlice (R := RSpan) (xs := [({ Lo := 2, Hi := 4 } : Span)]) (cs := #[(.int .i64 2), (.int .i64 4)]) (e := 79) Z Z (by kernel_rfl) Z Z ⟨_, _, Z, hw1.cells, Z⟩ hC fun p1 w1 hw2 hb1 hl1 hC1 => ?_)
 replace h := bind_some h
 obtain ⟨x1, hx1, h⟩ := h
 refine lw_op Z Z Z (ow_call Z Z Tryd.call54 (w_impl_SpansHave (hG.mono hl1) hC1.old hw2 hx1) fun v1 w2 hv1 => ?_)
 obtain ⟨hv1, hb2⟩ := hv1
 have hC2 := hC1.no hb2
 obtain rfl := vbool_eq hv1
 refine lw_op Z Z Z (ow_assign Z Z (lw_nil (ew_then (cw_ret ?_))))
 obtain rfl := Option.some.inj h
 exact ew_ret (res1 Z (.tmp Z)) ⟨_, Z, ((vbool _)), hC2.bx⟩

theorem w_spec_l20Open {w : World} {M : Nat → Prop} (_hG : ARep (RArr 4 RShape) w M shapes ⟨0, 0, none⟩) (hO : ∀ b, M b → b < w.heap.size) {v0p : Value} {a_code : List Int} (h0 : VRep (RSlice RU8) w M a_code v0p) {r : List Int × Int} (h : F.spec_l20Open a_code = some r) :
  Calls Tryd.prog 47 [v0p].toArray w fun e w' => ∃ v, e = .returned v ∧ (∃ g A c, v = .pointer (some ⟨g, 0, none⟩) ∧ w.heap.size ≤ g ∧ Own w' g 111 #[.slice A r.1.length c, .int .i64 r.2] ∧ VRep (RSlice RU8) w' (Add g M) r.1 (.slice A r.1.length c)) ∧ BX No w w' := by
 have hC : Cx No w M w M := Cx.start hO (fun _ e => e.elim)
 clear _hG
 refine walk (N := 11) Tryd.func47 Z Tryd.ntmps47 Z (cw_seq (cw_region (lw_op Z Z Z (ow_assign Z Z (lw_nil (ew_then (cw_seq (cw_seq (cw_region (lw_op Z Z Z (ow_move Z Z (lw_op Z Z Z (ow_len Z Z h0 Tryd.underlying22 Z (lw_op Z Z Z (ow_gtr Z Z Z fun bb1 hbb1 => lw_nil (ew_then ?_))))))))))))))))
 replace h := cond_some h
 rcases h with ⟨hc1, h⟩ | ⟨hc1, h⟩
 ·
  obtain rfl := hbb1.trans hc1
  refine cw_true Z (cw_region (lw_op Z Z Z (ow_move Z Z ?_)))
  replace h := bind_some h
  obtain ⟨y1, hy1, h⟩ := h
  refine lw_op Z Z Z (ow_sliceTo (R := RU8) Z Z Z h0 Tryd.underlying22 (Tryd.sizeOf5 _) (takeF_some hy1).2 fun v1 hv1 => ?_)
  rw [← (takeF_some hy1).1] at hv1
  refine lw_op Z Z Z (ow_assign Z Z (lw_nil (ew_then (cw_seq (cw_region (lw_op Z Z Z (ow_move Z Z ?_)))))))
  obtain ⟨A1, c1, rfl, -⟩ := vslice_shape hv1
  refine lw_op Z Z Z (ow_build (v := .agg #[(.slice A1 y1.length c1), (.int .i64 0)]) Z Z (by kernel_rfl) (lw_op Z Z Z (ow_boxOwn Z Z hC fun g1 w1 hg1 hg2 ho1 hb1 hl1 hC1 => lw_op Z Z Z (ow_assign Z Z (lw_nil (ew_then (cw_ret ?_)))))))
  obtain rfl := Option.some.inj h
  exact ew_ret (res1 Z (.tmp Z)) ⟨_, Z, ⟨_, _, _, Z, hg2, ho1, (VRep.mono hl1 hv1)⟩, hC1.bx⟩
 ·
  obtain rfl := hbb1.trans hc1
  refine cw_false Z (cw_skip (ew_then (cw_seq (cw_region (lw_op Z Z Z (ow_move Z Z ?_))))))
  obtain ⟨A2, c2, rfl, -⟩ := vslice_shape h0
  refine lw_op Z Z Z (ow_build (v := .agg #[(.slice A2 a_code.length c2), (.int .i64 0)]) Z Z (by kernel_rfl) (lw_op Z Z Z (ow_boxOwn Z Z hC fun g2 w2 hg3 hg4 ho2 hb2 hl2 hC2 => lw_op Z Z Z (ow_assign Z Z (lw_nil (ew_then (cw_ret ?_)))))))
  obtain rfl := Option.some.inj h
  exact ew_ret (res1 Z (.tmp Z)) ⟨_, Z, ⟨_, _, _, Z, hg4, ho2, (VRep.mono hl2 h0)⟩, hC2.bx⟩

theorem w_spec_l20Rd_pick {w : World} {M : Nat → Prop} (_hG : ARep (RArr 4 RShape) w M shapes ⟨0, 0, none⟩) (hO : ∀ b, M b → b < w.heap.size) {g : Nat} {Ax : Option Addr} {cx : Nat} {a_xs : List Int} {a_pos : Int} (hxs : VRep (RSlice RU8) w M a_xs (.slice Ax a_xs.length cx)) (hown : Own w g 111 #[.slice Ax a_xs.length cx, .int .i64 a_pos]) (hgM : M g) {a_n : Int} {r : Int × Int} (h : F.spec_l20Rd_pick a_xs a_pos a_n = some r) :
  Calls Tryd.prog 60 [(.pointer (some ⟨g, 0, none⟩)), (.int .i64 a_n)].toArray w fun e w' => ∃ v, e = .returned v ∧ (VRep RInt w' M r.1 v ∧ Own w' g 111 #[.slice Ax a_xs.length cx, .int .i64 r.2]) ∧ BX (One g) w w' := by
 have hX : ∀ b, (One g) b → M b := fun b e => e ▸ hgM
 have hC : Cx (One g) w M w M := Cx.start hO hX
 clear _hG
 refine walk (N := 99) Tryd.func60 Z Tryd.ntmps60 Z (cw_seq (cw_region (lw_op Z Z Z (ow_assign Z Z (lw_nil (ew_then (cw_seq (cw_region (lw_op Z Z Z (ow_move Z Z (lw_op Z Z Z (ow_move Z Z (lw_op Z Z Z (ow_nilCheck Z Z (lw_op Z Z Z (ow_fieldAddr Z Z Tryd.underlying111 Z (Tryd.sizeOf3 _) (lw_op Z Z Z (ow_loadOwn1 Z Z Z hown (Tryd.isAgg3 _) Z (lw_op Z Z Z (ow_add Z Z Z (lw_op Z Z Z (ow_nilCheck Z Z (lw_op Z Z Z (ow_fieldAddr Z Z Tryd.underlying111 Z (Tryd.sizeOf3 _) (lw_op0 Z Z (ow_store (X := (One g)) (us := [(.int .i64 (W (a_pos + 1)))]) (cs' := #[(.slice Ax a_xs.length cx), (.int .i64 (W (a_pos + 1)))]) Z Z Z Z hown (Tryd.sizeOf3 _) Z Z Z Z hgM (.inr Z) Z hC fun w1 ho1 hb1 hl1 hC1 => lw_nil (ew_then (cw_seq (cw_seq (cw_region (lw_op Z Z Z (ow_move Z Z (lw_op Z Z Z (ow_lss Z Z Z fun bb1 hbb1 => lw_op Z Z Z (ow_move Z Z ?_)))))))))))))))))))))))))))))))))))
 replace h := cond_some h
 rcases h with ⟨hc1, h⟩ | ⟨hc1, h⟩
 ·
  obtain rfl := hbb1.trans hc1
  refine lw_off Z Z Z Z Z Z (lw_off Z Z Z Z Z Z (lw_off Z Z Z Z Z Z (lw_off Z Z Z Z Z Z (lw_off Z Z Z Z Z Z (lw_off Z Z Z Z Z Z (lw_op Z Z Z (ow_pickT Z Z Z (lw_nil (ew_then (cw_true Z (cw_seq (cw_region (lw_op Z Z Z (ow_assign Z Z (lw_nil (ew_then (cw_ret (ew_thenR ?_))))))))))))))))))
  obtain rfl := Option.some.inj h
  exact ew_ret (res1 Z (.tmp Z)) ⟨_, Z, ⟨((vint _)), ho1⟩, hC1.bx⟩
 ·
  obtain rfl := hbb1.trans hc1
  refine lw_on Z Z Z Z Z Z (ow_move Z Z (lw_on Z Z Z Z Z Z (ow_nilCheck Z Z (lw_on Z Z Z Z Z Z (ow_fieldAddr Z Z Tryd.underlying111 Z (Tryd.sizeOf22 _) (lw_on Z Z Z Z Z Z (ow_loadOwn1 Z Z Z ho1 (Tryd.isAgg22 _) Z (lw_on Z Z Z Z Z Z (ow_len Z Z (VRep.mono hl1 hxs) Tryd.underlying22 Z (lw_on Z Z Z Z Z Z (ow_eqlI Z Z Z fun bb2 hbb2 => lw_op Z Z Z (ow_pickF Z Z Z (lw_nil (ew_then ?_))))))))))))))
  replace h := cond_some h
  rcases h with ⟨hc2, h⟩ | ⟨hc2, h⟩
  ·
   obtain rfl := hbb2.trans hc2
   refine cw_true Z (cw_seq (cw_region (lw_op Z Z Z (ow_assign Z Z (lw_nil (ew_then (cw_ret (ew_thenR ?_))))))))
   obtain rfl := Option.some.inj h
   exact ew_ret (res1 Z (.tmp Z)) ⟨_, Z, ⟨((vint _)), ho1⟩, hC1.bx⟩
  ·
   obtain rfl := hbb2.trans hc2
   refine cw_false Z (cw_skip (ew_then (cw_seq (cw_region (lw_op Z Z Z (ow_move Z Z (lw_op Z Z Z (ow_nilCheck Z Z (lw_op Z Z Z (ow_fieldAddr Z Z Tryd.underlying111 Z (Tryd.sizeOf3 _) (lw_op Z Z Z (ow_loadOwn1 Z Z Z ho1 (Tryd.isAgg3 _) Z (lw_op Z Z Z (ow_sub Z Z Z (lw_op Z Z Z (ow_assign Z Z (lw_nil (ew_then (cw_seq (cw_seq (cw_region (lw_op Z Z Z (ow_move Z Z (lw_op Z Z Z (ow_move Z Z (lw_op Z Z Z (ow_nilCheck Z Z (lw_op Z Z Z (ow_fieldAddr Z Z Tryd.underlying111 Z (Tryd.sizeOf22 _) (lw_op Z Z Z (ow_loadOwn1 Z Z Z ho1 (Tryd.isAgg22 _) Z (lw_op Z Z Z (ow_len Z Z (VRep.mono hl1 hxs) Tryd.underlying22 Z (lw_op Z Z Z (ow_lss Z Z Z fun bb3 hbb3 => lw_nil (ew_then ?_))))))))))))))))))))))))))))))))))))
   replace h := cond_some h
   rcases h with ⟨hc3, h⟩ | ⟨hc3, h⟩
   ·
    obtain rfl := hbb3.trans hc3
    refine cw_true Z (cw_seq (cw_region (lw_op Z Z Z (ow_move Z Z (lw_op Z Z Z (ow_nilCheck Z Z (lw_op Z Z Z (ow_fieldAddr Z Z Tryd.underlying111 Z (Tryd.sizeOf22 _) (lw_op Z Z Z (ow_loadOwn1 Z Z Z ho1 (Tryd.isAgg22 _) Z (lw_op Z Z Z (ow_move Z Z ?_))))))))))))
    replace h := bind_some h
    obtain ⟨x1, hx1, h⟩ := h
    refine lw_op Z Z Z (ow_indexSlice (R := RU8) Z Z Z (VRep.mono hl1 hxs) Tryd.underlying22 (Tryd.sizeOf5 _) hx1 fun p1 hp1 => lw_op Z Z Z (ow_load (R := RU8) Z Z hp1 (Tryd.sizeOf5 _) (Tryd.isAgg5 _) fun v1 hv1 => ?_))
    obtain rfl := vu8_eq hv1
    refine lw_op Z Z Z (ow_u8int Z Z (by kernel_rfl) (lw_op Z Z Z (ow_move Z Z ?_)))
    replace h := bind_some h
    obtain ⟨u1, hu1, h⟩ := h
    refine lw_op Z Z Z (ow_rem Z Z Z (nzF_some hu1) (lw_op Z Z Z (ow_assign Z Z (lw_nil (ew_then (cw_ret (ew_thenR ?_)))))))
    obtain rfl := Option.some.inj h
    exact ew_ret (res1 Z (.tmp Z)) ⟨_, Z, ⟨((vint _)), ho1⟩, hC1.bx⟩
   ·
    obtain rfl := hbb3.trans hc3
    refine cw_false Z (cw_skip (ew_then (cw_seq ?_)))
    replace h := bind_some h
    obtain ⟨u2, hu2, h⟩ := h
    replace h := bind_some h
    obtain ⟨x2, hx2, h⟩ := h
    replace h := bind_some h
    obtain ⟨x3, hx3, h⟩ := h
    refine cw_sub (E' := [(0, (.pointer (some ⟨g, 0, none⟩))), (1, (.int .i64 a_n)), (4, (.int .i64 0)), (5, (.int .i64 (W ((W (a_pos + 1)) - 1))))]) ⟨Z, Z, Z, Z, trivial⟩ (cw_drawQ 44 [PEq (.pointer (some ⟨g, 0, none⟩)), PEq (.pointer (some ⟨g, 0, none⟩)), PEq (.pointer (some ⟨g, 0, none⟩)), PV (RSlice RU8) M a_xs, PEq (.int .i64 (W ((W (a_pos + 1)) - 1))), PEq (.pointer (some ⟨g, 0, none⟩)), PEq (.pointer (some ⟨g, 0, none⟩)), PEq (.pointer (some ⟨g, 0, none⟩)), PV (RSlice RU8) M a_xs, PEq (.int .i64 (a_xs.length : Int)), PEq (.int .i64 (((W ((W (a_pos + 1)) - 1))).tmod (a_xs.length : Int))), PA RU8 M x2, PEq (.int .u8 x2), PEq (.int .i64 (W x2)), PEq (.int .i64 (W ((W x2) * 131))), PEq (.pointer (some ⟨g, 0, none⟩)), PEq (.pointer (some ⟨g, 0, none⟩)), PEq (.pointer (some ⟨g, 0, none⟩)), PV (RSlice RU8) M a_xs, PEq (.int .i64 (W ((W (a_pos + 1)) - 1))), PEq (.int .i64 (W ((W ((W (a_pos + 1)) - 1)) * 7))), PEq (.int .i64 (W ((W ((W ((W (a_pos + 1)) - 1)) * 7)) + 3))), PEq (.pointer (some ⟨g, 0, none⟩)), PEq (.pointer (some ⟨g, 0, none⟩)), PEq (.pointer (some ⟨g, 0, none⟩)), PV (RSlice RU8) M a_xs, PEq (.int .i64 (a_xs.length : Int)), PEq (.int .i64 (((W ((W ((W ((W (a_pos + 1)) - 1)) * 7)) + 3))).tmod (a_xs.length : Int))), PA RU8 M x3, PEq (.int .u8 x3), PEq (.int .i64 (W x3)), PEq (.int .i64 (W ((W x3) * 1117))), PEq (.int .i64 (W ((W ((W x2) * 131)) + (W ((W x3) * 1117))))), PEq (.int .i64 (W ((W (a_pos + 1)) - 1))), PEq (.int .i64 (W ((W ((W (a_pos + 1)) - 1)) * 29))), PEq (.int .i64 (W ((W ((W ((W x2) * 131)) + (W ((W x3) * 1117)))) + (W ((W ((W (a_pos + 1)) - 1)) * 29))))), PEq (.int .i64 (W ((W (a_pos + 1)) - 1))), PEq (.pointer (some ⟨g, 0, none⟩)), PEq (.pointer (some ⟨g, 0, none⟩)), PEq (.pointer (some ⟨g, 0, none⟩)), PV (RSlice RU8) M a_xs, PEq (.int .i64 (a_xs.length : Int)), PEq (.int .i64 (W (((W ((W (a_pos + 1)) - 1))).tdiv (a_xs.length : Int)))), PEq (.int .i64 (W ((W (((W ((W (a_pos + 1)) - 1))).tdiv (a_xs.length : Int))) * 53)))] (by kernel_rfl) Z (by kernel_rfl) ⟨PEq.mono _, PEq.mono _, PEq.mono _, PV.mono _ _ _, PEq.mono _, PEq.mono _, PEq.mono _, PEq.mono _, PV.mono _ _ _, PEq.mono _, PEq.mono _, PA.mono _ _ _, PEq.mono _, PEq.mono _, PEq.mono _, PEq.mono _, PEq.mono _, PEq.mono _, PV.mono _ _ _, PEq.mono _, PEq.mono _, PEq.mono _, PEq.mono _, PEq.mono _, PEq.mono _, PV.mono _ _ _, PEq.mono _, PEq.mono _, PA.mono _ _ _, PEq.mono _, PEq.mono _, PEq.mono _, PEq.mono _, PEq.mono _, PEq.mono _, PEq.mono _, PEq.mono _, PEq.mono _, PEq.mono _, PEq.mono _, PV.mono _ _ _, PEq.mono _, PEq.mono _, PEq.mono _, trivial⟩ ⟨?_, ?_, ?_, ?_, ?_, ?_, ?_, ?_, ?_, ?_, ?_, ?_, ?_, ?_, ?_, ?_, ?_, ?_, ?_, ?_, ?_, ?_, ?_, ?_, ?_, ?_, ?_, ?_, ?_, ?_, ?_, ?_, ?_, ?_, ?_, ?_, ?_, ?_, ?_, ?_, ?_, ?_, ?_, ?_, trivial⟩ ?_)
    ·
     intro w2 D hS1 hd1
     exact dg_sub (E' := [(0, (.pointer (some ⟨g, 0, none⟩)))]) ⟨Z, trivial⟩ (dg_plain Z (ow_move Z Z ⟨BX.refl _ _, Z⟩))
    ·
     intro w3 D hS2 hd2
     exact dg_sub (E' := [(47, (.pointer (some ⟨g, 0, none⟩)))]) ⟨(dpE hd2 0 Z Z), trivial⟩ (dg_plain Z (ow_nilCheck Z Z ⟨BX.refl _ _, Z⟩))
    ·
     intro w4 D hS3 hd3
     exact dg_sub (E' := [(48, (.pointer (some ⟨g, 0, none⟩)))]) ⟨(dpE hd3 1 Z Z), trivial⟩ (dg_plain Z (ow_fieldAddr Z Z Tryd.underlying111 Z (Tryd.sizeOf22 _) ⟨BX.refl _ _, Z⟩))
    ·
     intro w5 D hS4 hd4
     have hl5 := Le.no M hS4
     have ho5 := ho1.no hS4
     exact dg_sub (E' := [(49, (.pointer (some ⟨g, 0, none⟩)))]) ⟨(dpE hd4 2 Z Z), trivial⟩ (dg_plain Z (ow_loadOwn1 Z Z Z ho5 (Tryd.isAgg22 _) Z ⟨BX.refl _ _, (VRep.mono (hl1.trans hl5) hxs)⟩))
    ·
     intro w6 D hS5 hd5
     exact dg_sub (E' := [(5, (.int .i64 (W ((W (a_pos + 1)) - 1))))]) ⟨Z, trivial⟩ (dg_plain Z (ow_move Z Z ⟨BX.refl _ _, Z⟩))
    ·
     intro w7 D hS6 hd6
     exact dg_sub (E' := [(0, (.pointer (some ⟨g, 0, none⟩)))]) ⟨Z, trivial⟩ (dg_plain Z (ow_move Z Z ⟨BX.refl _ _, Z⟩))
    ·
     intro w8 D hS7 hd7
     exact dg_sub (E' := [(52, (.pointer (some ⟨g, 0, none⟩)))]) ⟨(dpE hd7 5 Z Z), trivial⟩ (dg_plain Z (ow_nilCheck Z Z ⟨BX.refl _ _, Z⟩))
    ·
     intro w9 D hS8 hd8
     exact dg_sub (E' := [(53, (.pointer (some ⟨g, 0, none⟩)))]) ⟨(dpE hd8 6 Z Z), trivial⟩ (dg_plain Z (ow_fieldAddr Z Z Tryd.underlying111 Z (Tryd.sizeOf22 _) ⟨BX.refl _ _, Z⟩))
    ·
     intro w10 D hS9 hd9
     have hl10 := Le.no M hS9
     have ho10 := ho1.no hS9
     exact dg_sub (E' := [(54, (.pointer (some ⟨g, 0, none⟩)))]) ⟨(dpE hd9 7 Z Z), trivial⟩ (dg_plain Z (ow_loadOwn1 Z Z Z ho10 (Tryd.isAgg22 _) Z ⟨BX.refl _ _, (VRep.mono (hl1.trans hl10) hxs)⟩))
    ·
     intro w11 D hS10 hd10
     have d7 : PV (RSlice RU8) M a_xs (D 8) w11 := dpA hd10 8 Z
     generalize hq1 : (D 8) = v4 at d7
     exact dg_sub (E' := [(55, v4)]) ⟨(congrArg some hq1), trivial⟩ (dg_plain Z (ow_len Z Z d7 Tryd.underlying22 Z ⟨BX.refl _ _, Z⟩))
    ·
     intro w12 D hS11 hd11
     exact dg_sub (E' := [(51, (.int .i64 (W ((W (a_pos + 1)) - 1)))), (56, (.int .i64 (a_xs.length : Int)))]) ⟨(dpE hd11 4 Z Z), (dpE hd11 9 Z Z), trivial⟩ (dg_plain Z (ow_rem Z Z Z (nzF_some hu2) ⟨BX.refl _ _, Z⟩))
    ·
     intro w13 D hS12 hd12
     have d10 : PV (RSlice RU8) M a_xs (D 3) w13 := dpA hd12 3 Z
     generalize hq2 : (D 3) = v5 at d10
     exact dg_sub (E' := [(50, v5), (57, (.int .i64 (((W ((W (a_pos + 1)) - 1))).tmod (a_xs.length : Int))))]) ⟨(congrArg some hq2), (dpE hd12 10 Z Z), trivial⟩ (dg_plain Z (ow_indexSlice (R := RU8) Z Z Z d10 Tryd.underlying22 (Tryd.sizeOf5 _) hx2 fun p4 hp4 => ⟨BX.refl _ _, ⟨_, Z, hp4⟩⟩))
    ·
     intro w14 D hS13 hd13
     have d12 : PA RU8 M x2 (D 11) w14 := dpA hd13 11 Z
     obtain ⟨p5, e1, ha1⟩ := d12
     refine dg_sub (E' := [(58, (.pointer (some p5)))]) ⟨(congrArg some e1), trivial⟩ (dg_plain Z (ow_load (R := RU8) Z Z ha1 (Tryd.sizeOf5 _) (Tryd.isAgg5 _) fun v6 hv6 => ?_))
     obtain rfl := vu8_eq hv6
     exact ⟨BX.refl _ _, Z⟩
    ·
     intro w15 D hS14 hd14
     exact dg_sub (E' := [(59, (.int .u8 x2))]) ⟨(dpE hd14 12 Z Z), trivial⟩ (dg_plain Z (ow_u8int Z Z (by kernel_rfl) ⟨BX.refl _ _, Z⟩))
    ·
     intro w16 D hS15 hd15
     exact dg_sub (E' := [(60, (.int .i64 (W x2)))]) ⟨(dpE hd15 13 Z Z), trivial⟩ (dg_plain Z (ow_mul Z Z Z ⟨BX.refl _ _, Z⟩))
    ·
     intro w17 D hS16 hd16
     exact dg_sub (E' := [(0, (.pointer (some ⟨g, 0, none⟩)))]) ⟨Z, trivial⟩ (dg_plain Z (ow_move Z Z ⟨BX.refl _ _, Z⟩))
    ·
     intro w18 D hS17 hd17
     exact dg_sub (E' := [(62, (.pointer (some ⟨g, 0, none⟩)))]) ⟨(dpE hd17 15 Z Z), trivial⟩ (dg_plain Z (ow_nilCheck Z Z ⟨BX.refl _ _, Z⟩))
    ·
     intro w19 D hS18 hd18
     exact dg_sub (E' := [(63, (.pointer (some ⟨g, 0, none⟩)))]) ⟨(dpE hd18 16 Z Z), trivial⟩ (dg_plain Z (ow_fieldAddr Z Z Tryd.underlying111 Z (Tryd.sizeOf22 _) ⟨BX.refl _ _, Z⟩))
    ·
     intro w20 D hS19 hd19
     have hl20 := Le.no M hS19
     have ho20 := ho1.no hS19
     exact dg_sub (E' := [(64, (.pointer (some ⟨g, 0, none⟩)))]) ⟨(dpE hd19 17 Z Z), trivial⟩ (dg_plain Z (ow_loadOwn1 Z Z Z ho20 (Tryd.isAgg22 _) Z ⟨BX.refl _ _, (VRep.mono (hl1.trans hl20) hxs)⟩))
    ·
     intro w21 D hS20 hd20
     exact dg_sub (E' := [(5, (.int .i64 (W ((W (a_pos + 1)) - 1))))]) ⟨Z, trivial⟩ (dg_plain Z (ow_move Z Z ⟨BX.refl _ _, Z⟩))
    ·
     intro w22 D hS21 hd21
     exact dg_sub (E' := [(66, (.int .i64 (W ((W (a_pos + 1)) - 1))))]) ⟨(dpE hd21 19 Z Z), trivial⟩ (dg_plain Z (ow_mul Z Z Z ⟨BX.refl _ _, Z⟩))
    ·
     intro w23 D hS22 hd22
     exact dg_sub (E' := [(67, (.int .i64 (W ((W ((W (a_pos + 1)) - 1)) * 7))))]) ⟨(dpE hd22 20 Z Z), trivial⟩ (dg_plain Z (ow_add Z Z Z ⟨BX.refl _ _, Z⟩))
    ·
     intro w24 D hS23 hd23
     exact dg_sub (E' := [(0, (.pointer (some ⟨g, 0, none⟩)))]) ⟨Z, trivial⟩ (dg_plain Z (ow_move Z Z ⟨BX.refl _ _, Z⟩))
    ·
     intro w25 D hS24 hd24
     exact dg_sub (E' := [(69, (.pointer (some ⟨g, 0, none⟩)))]) ⟨(dpE hd24 22 Z Z), trivial⟩ (dg_plain Z (ow_nilCheck Z Z ⟨BX.refl _ _, Z⟩))
    ·
     intro w26 D hS25 hd25
     exact dg_sub (E' := [(70, (.pointer (some ⟨g, 0, none⟩)))]) ⟨(dpE hd25 23 Z Z), trivial⟩ (dg_plain Z (ow_fieldAddr Z Z Tryd.underlying111 Z (Tryd.sizeOf22 _) ⟨BX.refl _ _, Z⟩))
    ·
     intro w27 D hS26 hd26
     have hl27 := Le.no M hS26
     have ho27 := ho1.no hS26
     exact dg_sub (E' := [(71, (.pointer (some ⟨g, 0, none⟩)))]) ⟨(dpE hd26 24 Z Z), trivial⟩ (dg_plain Z (ow_loadOwn1 Z Z Z ho27 (Tryd.isAgg22 _) Z ⟨BX.refl _ _, (VRep.mono (hl1.trans hl27) hxs)⟩))
    ·
     intro w28 D hS27 hd27
     have d23 : PV (RSlice RU8) M a_xs (D 25) w28 := dpA hd27 25 Z
     generalize hq3 : (D 25) = v7 at d23
     exact dg_sub (E' := [(72, v7)]) ⟨(congrArg some hq3), trivial⟩ (dg_plain Z (ow_len Z Z d23 Tryd.underlying22 Z ⟨BX.refl _ _, Z⟩))
    ·
     intro w29 D hS28 hd28
     exact dg_sub (E' := [(68, (.int .i64 (W ((W ((W ((W (a_pos + 1)) - 1)) * 7)) + 3)))), (73, (.int .i64 (a_xs.length : Int)))]) ⟨(dpE hd28 21 Z Z), (dpE hd28 26 Z Z), trivial⟩ (dg_plain Z (ow_rem Z Z Z (nzF_some hu2) ⟨BX.refl _ _, Z⟩))
    ·
     intro w30 D hS29 hd29
     have d26 : PV (RSlice RU8) M a_xs (D 18) w30 := dpA hd29 18 Z
     generalize hq4 : (D 18) = v8 at d26
     exact dg_sub (E' := [(65, v8), (74, (.int .i64 (((W ((W ((W ((W (a_pos + 1)) - 1)) * 7)) + 3))).tmod (a_xs.length : Int))))]) ⟨(congrArg some hq4), (dpE hd29 27 Z Z), trivial⟩ (dg_plain Z (ow_indexSlice (R := RU8) Z Z Z d26 Tryd.underlying22 (Tryd.sizeOf5 _) hx3 fun p6 hp6 => ⟨BX.refl _ _, ⟨_, Z, hp6⟩⟩))
    ·
     intro w31 D hS30 hd30
     have d28 : PA RU8 M x3 (D 28) w31 := dpA hd30 28 Z
     obtain ⟨p7, e2, ha2⟩ := d28
     refine dg_sub (E' := [(75, (.pointer (some p7)))]) ⟨(congrArg some e2), trivial⟩ (dg_plain Z (ow_load (R := RU8) Z Z ha2 (Tryd.sizeOf5 _) (Tryd.isAgg5 _) fun v9 hv9 => ?_))
     obtain rfl := vu8_eq hv9
     exact ⟨BX.refl _ _, Z⟩
    ·
     intro w32 D hS31 hd31
     exact dg_sub (E' := [(76, (.int .u8 x3))]) ⟨(dpE hd31 29 Z Z), trivial⟩ (dg_plain Z (ow_u8int Z Z (by kernel_rfl) ⟨BX.refl _ _, Z⟩))
    ·
     intro w33 D hS32 hd32
     exact dg_sub (E' := [(77, (.int .i64 (W x3)))]) ⟨(dpE hd32 30 Z Z), trivial⟩ (dg_plain Z (ow_mul Z Z Z ⟨BX.refl _ _, Z⟩))
    ·
     intro w34 D hS33 hd33
     exact dg_sub (E' := [(61, (.int .i64 (W ((W x2) * 131)))), (78, (.int .i64 (W ((W x3) * 1117))))]) ⟨(dpE hd33 14 Z Z), (dpE hd33 31 Z Z), trivial⟩ (dg_plain Z (ow_add Z Z Z ⟨BX.refl _ _, Z⟩))
    ·
     intro w35 D hS34 hd34
     exact dg_sub (E' := [(5, (.int .i64 (W ((W (a_pos + 1)) - 1))))]) ⟨Z, trivial⟩ (dg_plain Z (ow_move Z Z ⟨BX.refl _ _, Z⟩))
    ·
     intro w36 D hS35 hd35
     exact dg_sub (E' := [(80, (.int .i64 (W ((W (a_pos + 1)) - 1))))]) ⟨(dpE hd35 33 Z Z), trivial⟩ (dg_plain Z (ow_mul Z Z Z ⟨BX.refl _ _, Z⟩))
    ·
     intro w37 D hS36 hd36
     exact dg_sub (E' := [(79, (.int .i64 (W ((W ((W x2) * 131)) + (W ((W x3) * 1117)))))), (81, (.int .i64 (W ((W ((W (a_pos + 1)) - 1)) * 29))))]) ⟨(dpE hd36 32 Z Z), (dpE hd36 34 Z Z), trivial⟩ (dg_plain Z (ow_add Z Z Z ⟨BX.refl _ _, Z⟩))
    ·
     intro w38 D hS37 hd37
     exact dg_sub (E' := [(5, (.int .i64 (W ((W (a_pos + 1)) - 1))))]) ⟨Z, trivial⟩ (dg_plain Z (ow_move Z Z ⟨BX.refl _ _, Z⟩))
    ·
     intro w39 D hS38 hd38
     exact dg_sub (E' := [(0, (.pointer (some ⟨g, 0, none⟩)))]) ⟨Z, trivial⟩ (dg_plain Z (ow_move Z Z ⟨BX.refl _ _, Z⟩))
    ·
     intro w40 D hS39 hd39
     exact dg_sub (E' := [(84, (.pointer (some ⟨g, 0, none⟩)))]) ⟨(dpE hd39 37 Z Z), trivial⟩ (dg_plain Z (ow_nilCheck Z Z ⟨BX.refl _ _, Z⟩))
    ·
     intro w41 D hS40 hd40
     exact dg_sub (E' := [(85, (.pointer (some ⟨g, 0, none⟩)))]) ⟨(dpE hd40 38 Z Z), trivial⟩ (dg_plain Z (ow_fieldAddr Z Z Tryd.underlying111 Z (Tryd.sizeOf22 _) ⟨BX.refl _ _, Z⟩))
    ·
     intro w42 D hS41 hd41
     have hl42 := Le.no M hS41
     have ho42 := ho1.no hS41
     exact dg_sub (E' := [(86, (.pointer (some ⟨g, 0, none⟩)))]) ⟨(dpE hd41 39 Z Z), trivial⟩ (dg_plain Z (ow_loadOwn1 Z Z Z ho42 (Tryd.isAgg22 _) Z ⟨BX.refl _ _, (VRep.mono (hl1.trans hl42) hxs)⟩))
    ·
     intro w43 D hS42 hd42
     have d39 : PV (RSlice RU8) M a_xs (D 40) w43 := dpA hd42 40 Z
     generalize hq5 : (D 40) = v10 at d39
     exact dg_sub (E' := [(87, v10)]) ⟨(congrArg some hq5), trivial⟩ (dg_plain Z (ow_len Z Z d39 Tryd.underlying22 Z ⟨BX.refl _ _, Z⟩))
    ·
     intro w44 D hS43 hd43
     exact dg_sub (E' := [(83, (.int .i64 (W ((W (a_pos + 1)) - 1)))), (88, (.int .i64 (a_xs.length : Int)))]) ⟨(dpE hd43 36 Z Z), (dpE hd43 41 Z Z), trivial⟩ (dg_plain Z (ow_quo Z Z Z (nzF_some hu2) ⟨BX.refl _ _, Z⟩))
    ·
     intro w45 D hS44 hd44
     exact dg_sub (E' := [(89, (.int .i64 (W (((W ((W (a_pos + 1)) - 1))).tdiv (a_xs.length : Int)))))]) ⟨(dpE hd44 42 Z Z), trivial⟩ (dg_plain Z (ow_mul Z Z Z ⟨BX.refl _ _, Z⟩))
    ·
     intro w46 D hS45 hd45
     have hC46 := hC1.no hS45
     have ho46 := ho1.no hS45
     refine lw_sub (E' := [(82, (.int .i64 (W ((W ((W ((W x2) * 131)) + (W ((W x3) * 1117)))) + (W ((W ((W (a_pos + 1)) - 1)) * 29)))))), (90, (.int .i64 (W ((W (((W ((W (a_pos + 1)) - 1))).tdiv (a_xs.length : Int))) * 53)))), (0, (.pointer (some ⟨g, 0, none⟩))), (1, (.int .i64 a_n)), (4, (.int .i64 0)), (5, (.int .i64 (W ((W (a_pos + 1)) - 1))))]) ⟨(dpE hd45 35 Z Z), (dpE hd45 43 Z Z), Z, Z, Z, Z, trivial⟩ (lw_op Z Z Z (ow_add Z Z Z (lw_op Z Z Z (ow_assign Z Z (lw_nil (ew_then (cw_seq (cw_region (lw_op Z Z Z (ow_move Z Z (lw_op Z Z Z (ow_move Z Z (lw_op Z Z Z (ow_quo Z Z Z (by decide) (lw_op Z Z Z (ow_xor Z Z Z (lw_op Z Z Z (ow_assign Z Z (lw_nil (ew_then (cw_seq (cw_region (lw_op Z Z Z (ow_move Z Z (lw_op Z Z Z (ow_move Z Z ?_))))))))))))))))))))))))))
     replace h := bind_some h
     obtain ⟨u3, hu3, h⟩ := h
     refine lw_op Z Z Z (ow_rem Z Z Z (nzF_some hu3) (lw_op Z Z Z (ow_assign Z Z (lw_nil (ew_then (cw_ret ?_))))))
     obtain rfl := Option.some.inj h
     exact ew_ret (res1 Z (.tmp Z)) ⟨_, Z, ⟨((vint _)), ho46⟩, hC46.bx⟩

theorem w_spec_l20Rd_odd {w : World} {M : Nat → Prop} (hG : ARep (RArr 4 RShape) w M shapes ⟨0, 0, none⟩) (hO : ∀ b, M b → b < w.heap.size) {g : Nat} {Ax : Option Addr} {cx : Nat} {a_xs : List Int} {a_pos : Int} (hxs : VRep (RSlice RU8) w M a_xs (.slice Ax a_xs.length cx)) (hown : Own w g 111 #[.slice Ax a_xs.length cx, .int .i64 a_pos]) (hgM : M g) {a_n : Int} {r : Bool × Int} (h : F.spec_l20Rd_odd a_xs a_pos a_n = some r) :
  Calls Tryd.prog 81 [(.pointer (some ⟨g, 0, none⟩)), (.int .i64 a_n)].toArray w fun e w' => ∃ v, e = .returned v ∧ (VRep RBool w' M r.1 v ∧ Own w' g 111 #[.slice Ax a_xs.length cx, .int .i64 r.2]) ∧ BX (One g) w w' := by
 have hX : ∀ b, (One g) b → M b := fun b e => e ▸ hgM
 have hC : Cx (One g) w M w M := Cx.start hO hX
 refine walk (N := 15) Tryd.func81 Z Tryd.ntmps81 Z (cw_seq (cw_region (lw_op Z Z Z (ow_assign Z Z (lw_nil (ew_then (cw_seq (cw_region (lw_op Z Z Z (ow_move Z Z (lw_op Z Z Z (ow_gtr Z Z Z fun bb1 hbb1 => lw_op Z Z Z (ow_move Z Z ?_)))))))))))))
 replace h := cond_some h
 rcases h with ⟨hc1, h⟩ | ⟨hc1, h⟩
 ·
  obtain rfl := hbb1.trans hc1
  refine lw_on Z Z Z Z Z Z (ow_move Z Z (lw_on Z Z Z Z Z Z (ow_move Z Z ?_)))
  replace h := bind_some h
  obtain ⟨x1, hx1, h⟩ := h
  refine lw_on Z Z Z Z Z Z (ow_call Z Z Tryd.call60 (w_spec_l20Rd_pick hG hC.old hxs hown hgM hx1) fun v1 w1 hv1 => ?_)
  obtain ⟨⟨hv1, ho1⟩, hb1⟩ := hv1
  have hC1 := hC.go hb1 (fun b e => Or.inr e)
  obtain rfl := vint_eq hv1
  refine lw_on Z Z Z Z Z Z (ow_move Z Z (lw_on Z Z Z Z Z Z (ow_sub Z Z Z (lw_on Z Z Z Z Z Z (ow_eqlI Z Z Z fun bb2 hbb2 => lw_op Z Z Z (ow_pickT Z Z Z (lw_op Z Z Z (ow_assign Z Z (lw_nil (ew_then (cw_ret ?_)))))))))))
  obtain rfl := Option.some.inj h
  exact ew_ret (res1 Z (.tmp Z)) ⟨_, Z, ⟨((vbool_of hbb2)), ho1⟩, hC1.bx⟩
 ·
  obtain rfl := hbb1.trans hc1
  refine lw_off Z Z Z Z Z Z (lw_off Z Z Z Z Z Z (lw_off Z Z Z Z Z Z (lw_off Z Z Z Z Z Z (lw_off Z Z Z Z Z Z (lw_off Z Z Z Z Z Z (lw_op Z Z Z (ow_pickF Z Z Z (lw_op Z Z Z (ow_assign Z Z (lw_nil (ew_then (cw_ret ?_))))))))))))
  obtain rfl := Option.some.inj h
  exact ew_ret (res1 Z (.tmp Z)) ⟨_, Z, ⟨((vbool _)), hown⟩, hC.bx⟩

theorem w_spec_l20Span {w : World} {M : Nat → Prop} (hG : ARep (RArr 4 RShape) w M shapes ⟨0, 0, none⟩) (hO : ∀ b, M b → b < w.heap.size) {g : Nat} {Ax : Option Addr} {cx : Nat} {a_xs : List Int} {a_pos : Int} (hxs : VRep (RSlice RU8) w M a_xs (.slice Ax a_xs.length cx)) (hown : Own w g 111 #[.slice Ax a_xs.length cx, .int .i64 a_pos]) (hgM : M g) {a_top : Int} {a_n : Int} {r : Span × Int} (h : F.spec_l20Span a_xs a_pos a_top a_n = some r) :
  Calls Tryd.prog 105 [(.pointer (some ⟨g, 0, none⟩)), (.int .i64 a_top), (.int .i64 a_n)].toArray w fun e w' => ∃ v, e = .returned v ∧ (VRep RSpan w' M r.1 v ∧ Own w' g 111 #[.slice Ax a_xs.length cx, .int .i64 r.2]) ∧ BX (One g) w w' := by
 have hX : ∀ b, (One g) b → M b := fun b e => e ▸ hgM
 have hC : Cx (One g) w M w M := Cx.start hO hX
 refine walk (N := 68) Tryd.func105 Z Tryd.ntmps105 Z (cw_seq (cw_region (lw_op Z Z Z (ow_alloc Z (Tryd.zeroValue79 _) hC fun g1 w1 hg1 hg2 ho1 hb1 hl1 hC1 => ?_))))
 have hn1 := Nat.ne_of_lt (Nat.lt_of_lt_of_le hown.lt hg1)
 have ho2 := hown.no hb1
 have hm1 : (Add g1 M) g := .inr hgM
 have hm2 : (Add g1 M) g1 := .inl Z
 refine lw_nil (ew_then (cw_seq (cw_region (lw_op Z Z Z (ow_move Z Z (lw_op Z Z Z (ow_move Z Z (lw_op Z Z Z (ow_add Z Z Z (lw_op Z Z Z (ow_min Z Z Z ?_)))))))))))
 replace h := bind_some h
 obtain ⟨x1, hx1, h⟩ := h
 refine lw_op Z Z Z (ow_call Z Z Tryd.call60 (w_spec_l20Rd_pick (hG.mono hl1) hC1.old (VRep.mono hl1 hxs) ho2 hm1 hx1) fun v1 w2 hv1 => ?_)
 obtain ⟨⟨hv1, ho3⟩, hb2⟩ := hv1
 have hl2 := Le.of_bx (Add g1 M) hb2 (fun b e => (by rw [show b = g from e]; exact hm1))
 have hC2 := hC1.go hb2 (fun b e => Or.inr e)
 have ho4 := ho1.go hb2 (fun e => hn1 e.symm)
 obtain rfl := vint_eq hv1
 refine lw_op Z Z Z (ow_build (v := .agg #[(.int .i64 x1.1), (.int .i64 0)]) Z Z (by kernel_rfl) (lw_op Z Z Z (ow_alloc Z (Tryd.zeroValue79 _) hC2 fun g2 w3 hg3 hg4 ho5 hb3 hl3 hC3 => ?_)))
 have hn2 := Nat.ne_of_lt (Nat.lt_of_lt_of_le ho3.lt hg3)
 have ho6 := ho3.no hb3
 have hm3 : (Add g2 (Add g1 M)) g := .inr hm1
 have hn3 := Nat.ne_of_lt (Nat.lt_of_lt_of_le ho4.lt hg3)
 have ho7 := ho4.no hb3
 have hm4 : (Add g2 (Add g1 M)) g1 := .inr hm2
 have hm5 : (Add g2 (Add g1 M)) g2 := .inl Z
 refine lw_op0 Z Z (ow_store (X := (One g)) (us := [(.int .i64 x1.1), (.int .i64 0)]) (cs' := #[(.int .i64 x1.1), (.int .i64 0)]) Z Z Z Z ho5 (Tryd.sizeOf79 _) Z Z Z Z hm5 (.inl hg4) Z hC3 fun w4 ho8 hb4 hl4 hC4 => ?_)
 have ho9 := ho6.go hb4 (fun e => hn2 e)
 have ho10 := ho7.go hb4 (fun e => hn3 e)
 refine lw_nil (ew_then (cw_seq (cw_seq (cw_region (lw_op Z Z Z (ow_move Z Z (lw_op Z Z Z (ow_gtr Z Z Z fun bb1 hbb1 => lw_op Z Z Z (ow_move Z Z ?_)))))))))
 replace h := cond_some h
 rcases h with ⟨hc1, h⟩ | ⟨hc1, h⟩
 ·
  obtain rfl := hbb1.trans hc1
  refine lw_on Z Z Z Z Z Z (ow_move Z Z ?_)
  have lz1 := (((hl1.trans hl2).trans hl3).trans hl4)
  replace h := bind_some h
  obtain ⟨x2, hx2, h⟩ := h
  refine lw_on Z Z Z Z Z Z (ow_call Z Z Tryd.call60 (w_spec_l20Rd_pick (hG.mono lz1) hC4.old (VRep.mono lz1 hxs) ho9 hm3 hx2) fun v2 w5 hv2 => ?_)
  obtain ⟨⟨hv2, ho11⟩, hb5⟩ := hv2
  have hl5 := Le.of_bx (Add g2 (Add g1 M)) hb5 (fun b e => (by rw [show b = g from e]; exact hm3))
  have hC5 := hC4.go hb5 (fun b e => Or.inr e)
  have ho12 := ho10.go hb5 (fun e => hn1 e.symm)
  have ho13 := ho8.go hb5 (fun e => hn2 e.symm)
  obtain rfl := vint_eq hv2
  refine lw_on Z Z Z Z Z Z (ow_eqlI Z Z Z fun bb2 hbb2 => lw_op Z Z Z (ow_pickT Z Z Z (lw_nil (ew_then ?_))))
  replace h := cond_some h
  rcases h with ⟨hc2, h⟩ | ⟨hc2, h⟩
  ·
   obtain rfl := hbb2.trans hc2
   refine cw_true Z ?_
   replace h := bind_some h
   obtain ⟨x3, hx3, h⟩ := h
   have lz2 := (lz1.trans hl5)
   refine cw_sub (E' := [(0, (.pointer (some ⟨g, 0, none⟩))), (1, (.int .i64 a_top)), (2, (.int .i64 a_n)), (6, (.pointer (some ⟨g1, 0, none⟩))), (7, (.pointer (some ⟨g2, 0, none⟩)))]) ⟨Z, Z, Z, Z, Z, trivial⟩ (cw_drawC (g := g) (T := 111) 7 1 [none, none, none, none, none, some 0, none] [#[(.slice Ax a_xs.length cx), (.int .i64 x2.2)], #[(.slice Ax a_xs.length cx), (.int .i64 x3.2)]] [PEq (.int .i64 a_top), PEq (.pointer (some ⟨g2, 0, none⟩)), PEq (.int .i64 x1.1), PEq (.int .i64 (W (x1.1 * 256))), PEq (.pointer (some ⟨g, 0, none⟩)), PEq (.int .i64 x3.1), PEq (.int .i64 (W ((W (x1.1 * 256)) + x3.1)))] (by kernel_rfl) Z (by kernel_rfl) (by kernel_rfl) ho11 ⟨(PEq.monoY hm3 _), (PEq.monoY hm3 _), (PEq.monoY hm3 _), (PEq.monoY hm3 _), (PEq.monoY hm3 _), (PEq.monoY hm3 _), (PEq.monoY hm3 _), trivial⟩ ⟨?_, ?_, ?_, ?_, ?_, ?_, ?_, trivial⟩ ?_)
   ·
    intro w7 D hS1 hd1
    exact dg_sub (E' := [(1, (.int .i64 a_top))]) ⟨Z, trivial⟩ (dg_plain Z (ow_move Z Z ⟨BX.refl _ _, Z⟩))
   ·
    intro w8 D hS2 hd2
    exact dg_sub (E' := [(7, (.pointer (some ⟨g2, 0, none⟩)))]) ⟨Z, trivial⟩ (dg_plain Z (ow_fieldAddr Z Z Tryd.underlying79 Z (Tryd.sizeOf3 _) ⟨BX.refl _ _, Z⟩))
   ·
    intro w9 D hS3 hd3
    have ho22 := ho13.go hS3 (fun e => hn2 e.symm)
    exact dg_sub (E' := [(22, (.pointer (some ⟨g2, 0, none⟩)))]) ⟨(dpE hd3 1 Z Z), trivial⟩ (dg_plain Z (ow_loadOwn1 Z Z Z ho22 (Tryd.isAgg3 _) Z ⟨BX.refl _ _, Z⟩))
   ·
    intro w10 D hS4 hd4
    exact dg_sub (E' := [(23, (.int .i64 x1.1))]) ⟨(dpE hd4 2 Z Z), trivial⟩ (dg_plain Z (ow_mul Z Z Z ⟨BX.refl _ _, Z⟩))
   ·
    intro w11 D hS5 hd5
    exact dg_sub (E' := [(0, (.pointer (some ⟨g, 0, none⟩)))]) ⟨Z, trivial⟩ (dg_plain Z (ow_move Z Z ⟨BX.refl _ _, Z⟩))
   ·
    intro w12 D hS6 hd6
    obtain ⟨hS6, ho27⟩ := hS6
    have ho27 : Own w12 g 111 #[(.slice Ax a_xs.length cx), (.int .i64 x2.2)] := ho27
    have hl12 := leY hm3 hS6
    have hC12 := hC5.go hS6 (fun b e => Or.inr e)
    refine dg_sub (E' := [(25, (.pointer (some ⟨g, 0, none⟩)))]) ⟨(dpE hd6 4 Z Z), trivial⟩ (dg_plain Z (ow_call Z Z Tryd.call60 (w_spec_l20Rd_pick (hG.mono (lz2.trans hl12)) hC12.old (VRep.mono (lz2.trans hl12) hxs) ho27 hm3 hx3) fun v4 w13 hv4 => ?_))
    obtain ⟨⟨hv4, ho30⟩, hb7⟩ := hv4
    obtain rfl := vint_eq hv4
    exact ⟨⟨⟨hS6.trans hb7, ho30⟩, hb7⟩, Z⟩
   ·
    intro w14 D hS7 hd7
    exact dg_sub (E' := [(24, (.int .i64 (W (x1.1 * 256)))), (26, (.int .i64 x3.1))]) ⟨(dpE hd7 3 Z Z), (dpE hd7 5 Z Z), trivial⟩ (dg_plain Z (ow_add Z Z Z ⟨BX.refl _ _, Z⟩))
   ·
    intro w15 D hS8 hd8
    obtain ⟨hS8, ho35⟩ := hS8
    have ho35 : Own w15 g 111 #[(.slice Ax a_xs.length cx), (.int .i64 x3.2)] := ho35
    have hl15 := leY hm3 hS8
    have hC15 := hC5.go hS8 (fun b e => Or.inr e)
    have ho36 := ho12.go hS8 (fun e => hn1 e.symm)
    have ho37 := ho13.go hS8 (fun e => hn2 e.symm)
    refine lw_sub (E' := [(21, (.int .i64 a_top)), (27, (.int .i64 (W ((W (x1.1 * 256)) + x3.1)))), (0, (.pointer (some ⟨g, 0, none⟩))), (1, (.int .i64 a_top)), (2, (.int .i64 a_n)), (6, (.pointer (some ⟨g1, 0, none⟩))), (7, (.pointer (some ⟨g2, 0, none⟩)))]) ⟨(dpE hd8 0 Z Z), (dpE hd8 6 Z Z), Z, Z, Z, Z, Z, trivial⟩ (lw_op Z Z Z (ow_min Z Z Z (lw_op Z Z Z (ow_fieldAddr Z Z Tryd.underlying79 Z (Tryd.sizeOf3 _) (lw_op0 Z Z (ow_store (X := (One g)) (us := [(.int .i64 (imin a_top (W ((W (x1.1 * 256)) + x3.1))))]) (cs' := #[(.int .i64 (imin a_top (W ((W (x1.1 * 256)) + x3.1)))), (.int .i64 0)]) Z Z Z Z ho37 (Tryd.sizeOf3 _) Z Z Z Z hm5 (.inl hg4) Z hC15 fun w16 ho38 hb8 hl16 hC16 => ?_))))))
    have ho39 := ho35.go hb8 (fun e => hn2 e)
    have ho40 := ho36.go hb8 (fun e => hn3 e)
    refine lw_nil (ew_then (cw_seq ?_))
    replace h := bind_some h
    obtain ⟨x4, hx4, h⟩ := h
    replace h := bind_some h
    obtain ⟨x5, hx5, h⟩ := h
    replace h := bind_some h
    obtain ⟨x6, hx6, h⟩ := h
    replace h := bind_some h
    obtain ⟨x7, hx7, h⟩ := h
    have lz4 := ((lz2.trans hl15).trans hl16)
    refine cw_sub (E' := [(0, (.pointer (some ⟨g, 0, none⟩))), (1, (.int .i64 a_top)), (2, (.int .i64 a_n)), (6, (.pointer (some ⟨g1, 0, none⟩))), (7, (.pointer (some ⟨g2, 0, none⟩)))]) ⟨Z, Z, Z, Z, Z, trivial⟩ (cw_drawC (g := g) (T := 111) 13 3 [none, none, none, none, some 0, none, some 1, none, none, some 2, none, none, none] [#[(.slice Ax a_xs.length cx), (.int .i64 x3.2)], #[(.slice Ax a_xs.length cx), (.int .i64 x4.2)], #[(.slice Ax a_xs.length cx), (.int .i64 x5.2)], #[(.slice Ax a_xs.length cx), (.int .i64 x6.2)]] [PEq (.int .i64 a_top), PEq (.pointer (some ⟨g2, 0, none⟩)), PEq (.int .i64 (imin a_top (W ((W (x1.1 * 256)) + x3.1)))), PEq (.pointer (some ⟨g, 0, none⟩)), PEq (.int .i64 x4.1), PEq (.pointer (some ⟨g, 0, none⟩)), PEq (.int .i64 x5.1), PV (RSlice RInt) (Add g2 (Add g1 M)) [0, x4.1, x5.1, 4096], PEq (.pointer (some ⟨g, 0, none⟩)), PEq (.int .i64 x6.1), PA RInt (Add g2 (Add g1 M)) x7, PEq (.int .i64 x7), PEq (.int .i64 (W ((imin a_top (W ((W (x1.1 * 256)) + x3.1))) + x7)))] (by kernel_rfl) Z (by kernel_rfl) (by kernel_rfl) ho39 ⟨(PEq.monoY hm3 _), (PEq.monoY hm3 _), (PEq.monoY hm3 _), (PEq.monoY hm3 _), (PEq.monoY hm3 _), (PEq.monoY hm3 _), (PEq.monoY hm3 _), (PV.monoY hm3 _ _), (PEq.monoY hm3 _), (PEq.monoY hm3 _), (PA.monoY hm3 _ _), (PEq.monoY hm3 _), (PEq.monoY hm3 _), trivial⟩ ⟨?_, ?_, ?_, ?_, ?_, ?_, ?_, ?_, ?_, ?_, ?_, ?_, ?_, trivial⟩ ?_)
    ·
     intro w21 D hS9 hd9
     exact dg_sub (E' := [(1, (.int .i64 a_top))]) ⟨Z, trivial⟩ (dg_plain Z (ow_move Z Z ⟨BX.refl _ _, Z⟩))
    ·
     intro w22 D hS10 hd10
     exact dg_sub (E' := [(7, (.pointer (some ⟨g2, 0, none⟩)))]) ⟨Z, trivial⟩ (dg_plain Z (ow_fieldAddr Z Z Tryd.underlying79 Z (Tryd.sizeOf3 _) ⟨BX.refl _ _, Z⟩))
    ·
     intro w23 D hS11 hd11
     have ho58 := ho38.go hS11 (fun e => hn2 e.symm)
     exact dg_sub (E' := [(31, (.pointer (some ⟨g2, 0, none⟩)))]) ⟨(dpE hd11 1 Z Z), trivial⟩ (dg_plain Z (ow_loadOwn1 Z Z Z ho58 (Tryd.isAgg3 _) Z ⟨BX.refl _ _, Z⟩))
    ·
     intro w24 D hS12 hd12
     exact dg_sub (E' := [(0, (.pointer (some ⟨g, 0, none⟩)))]) ⟨Z, trivial⟩ (dg_plain Z (ow_move Z Z ⟨BX.refl _ _, Z⟩))
    ·
     intro w25 D hS13 hd13
     obtain ⟨hS13, ho61⟩ := hS13
     have ho61 : Own w25 g 111 #[(.slice Ax a_xs.length cx), (.int .i64 x3.2)] := ho61
     have hl25 := leY hm3 hS13
     have hC25 := hC16.go hS13 (fun b e => Or.inr e)
     refine dg_sub (E' := [(33, (.pointer (some ⟨g, 0, none⟩)))]) ⟨(dpE hd13 3 Z Z), trivial⟩ (dg_plain Z (ow_call Z Z Tryd.call60 (w_spec_l20Rd_pick (hG.mono (lz4.trans hl25)) hC25.old (VRep.mono (lz4.trans hl25) hxs) ho61 hm3 hx4) fun v9 w26 hv9 => ?_))
     obtain ⟨⟨hv9, ho64⟩, hb13⟩ := hv9
     obtain rfl := vint_eq hv9
     exact ⟨⟨⟨hS13.trans hb13, ho64⟩, hb13⟩, Z⟩
    ·
     intro w27 D hS14 hd14
     exact dg_sub (E' := [(0, (.pointer (some ⟨g, 0, none⟩)))]) ⟨Z, trivial⟩ (dg_plain Z (ow_move Z Z ⟨BX.refl _ _, Z⟩))
    ·
     intro w28 D hS15 hd15
     obtain ⟨hS15, ho69⟩ := hS15
     have ho69 : Own w28 g 111 #[(.slice Ax a_xs.length cx), (.int .i64 x4.2)] := ho69
     have hl28 := leY hm3 hS15
     have hC28 := hC16.go hS15 (fun b e => Or.inr e)
     refine dg_sub (E' := [(35, (.pointer (some ⟨g, 0, none⟩)))]) ⟨(dpE hd15 5 Z Z), trivial⟩ (dg_plain Z (ow_call Z Z Tryd.call60 (w_spec_l20Rd_pick (hG.mono (lz4.trans hl28)) hC28.old (VRep.mono (lz4.trans hl28) hxs) ho69 hm3 hx5) fun v10 w29 hv10 => ?_))
     obtain ⟨⟨hv10, ho72⟩, hb14⟩ := hv10
     obtain rfl := vint_eq hv10
     exact ⟨⟨⟨hS15.trans hb14, ho72⟩, hb14⟩, Z⟩
    ·
     intro w30 D hS16 hd16
     have hC30 := hC16.go hS16 (fun b e => Or.inr e)
     exact dg_sub (E' := [(34, (.int .i64 x4.1)), (36, (.int .i64 x5.1))]) ⟨(dpE hd16 4 Z Z), (dpE hd16 6 Z Z), trivial⟩ (dg_plain Z (ow_buildSlice (R := RInt) (xs := [0, x4.1, x5.1, 4096]) (cs := #[(.int .i64 0), (.int .i64 x4.1), (.int .i64 x5.1), (.int .i64 4096)]) (e := 3) Z Z (by kernel_rfl) Z Z ⟨_, _, Z, (vint _).cells, _, _, Z, (vint _).cells, _, _, Z, (vint _).cells, _, _, Z, (vint _).cells, Z⟩ hC30 fun p3 w31 hw3 hb15 hl31 hC31 => ⟨hb15, hw3⟩))
    ·
     intro w32 D hS17 hd17
     exact dg_sub (E' := [(0, (.pointer (some ⟨g, 0, none⟩)))]) ⟨Z, trivial⟩ (dg_plain Z (ow_move Z Z ⟨BX.refl _ _, Z⟩))
    ·
     intro w33 D hS18 hd18
     obtain ⟨hS18, ho81⟩ := hS18
     have ho81 : Own w33 g 111 #[(.slice Ax a_xs.length cx), (.int .i64 x5.2)] := ho81
     have hl33 := leY hm3 hS18
     have hC33 := hC16.go hS18 (fun b e => Or.inr e)
     refine dg_sub (E' := [(38, (.pointer (some ⟨g, 0, none⟩)))]) ⟨(dpE hd18 8 Z Z), trivial⟩ (dg_plain Z (ow_call Z Z Tryd.call60 (w_spec_l20Rd_pick (hG.mono (lz4.trans hl33)) hC33.old (VRep.mono (lz4.trans hl33) hxs) ho81 hm3 hx6) fun v11 w34 hv11 => ?_))
     obtain ⟨⟨hv11, ho84⟩, hb16⟩ := hv11
     obtain rfl := vint_eq hv11
     exact ⟨⟨⟨hS18.trans hb16, ho84⟩, hb16⟩, Z⟩
    ·
     intro w35 D hS19 hd19
     have d21 : PV (RSlice RInt) (Add g2 (Add g1 M)) [0, x4.1, x5.1, 4096] (D 7) w35 := dpA hd19 7 Z
     generalize hq1 : (D 7) = v12 at d21
     exact dg_sub (E' := [(37, v12), (39, (.int .i64 x6.1))]) ⟨(congrArg some hq1), (dpE hd19 9 Z Z), trivial⟩ (dg_plain Z (ow_indexSlice (R := RInt) Z Z Z d21 Tryd.underlying52 (Tryd.sizeOf3 _) hx7 fun p4 hp4 => ⟨BX.refl _ _, ⟨_, Z, hp4⟩⟩))
    ·
     intro w36 D hS20 hd20
     have d23 : PA RInt (Add g2 (Add g1 M)) x7 (D 10) w36 := dpA hd20 10 Z
     obtain ⟨p5, e1, ha1⟩ := d23
     refine dg_sub (E' := [(40, (.pointer (some p5)))]) ⟨(congrArg some e1), trivial⟩ (dg_plain Z (ow_load (R := RInt) Z Z ha1 (Tryd.sizeOf3 _) (Tryd.isAgg3 _) fun v13 hv13 => ?_))
     obtain rfl := vint_eq hv13
     exact ⟨BX.refl _ _, Z⟩
    ·
     intro w37 D hS21 hd21
     exact dg_sub (E' := [(32, (.int .i64 (imin a_top (W ((W (x1.1 * 256)) + x3.1))))), (41, (.int .i64 x7))]) ⟨(dpE hd21 2 Z Z), (dpE hd21 11 Z Z), trivial⟩ (dg_plain Z (ow_add Z Z Z ⟨BX.refl _ _, Z⟩))
    ·
     intro w38 D hS22 hd22
     obtain ⟨hS22, ho93⟩ := hS22
     have ho93 : Own w38 g 111 #[(.slice Ax a_xs.length cx), (.int .i64 x6.2)] := ho93
     have hl38 := leY hm3 hS22
     have hC38 := hC16.go hS22 (fun b e => Or.inr e)
     have ho94 := ho40.go hS22 (fun e => hn1 e.symm)
     have ho95 := ho38.go hS22 (fun e => hn2 e.symm)
     refine lw_sub (E' := [(30, (.int .i64 a_top)), (42, (.int .i64 (W ((imin a_top (W ((W (x1.1 * 256)) + x3.1))) + x7)))), (0, (.pointer (some ⟨g, 0, none⟩))), (1, (.int .i64 a_top)), (2, (.int .i64 a_n)), (6, (.pointer (some ⟨g1, 0, none⟩))), (7, (.pointer (some ⟨g2, 0, none⟩)))]) ⟨(dpE hd22 0 Z Z), (dpE hd22 12 Z Z), Z, Z, Z, Z, Z, trivial⟩ (lw_op Z Z Z (ow_min Z Z Z (lw_op Z Z Z (ow_fieldAddr Z Z Tryd.underlying79 Z (Tryd.sizeOf3 _) (lw_op0 Z Z (ow_store (X := (One g)) (us := [(.int .i64 (imin a_top (W ((imin a_top (W ((W (x1.1 * 256)) + x3.1))) + x7))))]) (cs' := #[(.int .i64 (imin a_top (W ((W (x1.1 * 256)) + x3.1)))), (.int .i64 (imin a_top (W ((imin a_top (W ((W (x1.1 * 256)) + x3.1))) + x7))))]) Z Z Z Z ho95 (Tryd.sizeOf3 _) Z Z Z Z hm5 (.inl hg4) Z hC38 fun w39 ho96 hb17 hl39 hC39 => ?_))))))
     have ho97 := ho93.go hb17 (fun e => hn2 e)
     have ho98 := ho94.go hb17 (fun e => hn3 e)
     refine lw_nil (ew_then (cw_seq (cw_seq (cw_region (lw_op Z Z Z (ow_move Z Z (lw_op Z Z Z (ow_move Z Z ?_))))))))
     have lz5 := ((lz4.trans hl38).trans hl39)
     replace h := bind_some h
     obtain ⟨x8, hx8, h⟩ := h
     refine lw_op Z Z Z (ow_call Z Z Tryd.call81 (w_spec_l20Rd_odd (hG.mono lz5) hC39.old (VRep.mono lz5 hxs) ho97 hm3 hx8) fun v14 w40 hv14 => ?_)
     obtain ⟨⟨hv14, ho99⟩, hb18⟩ := hv14
     have hl40 := Le.of_bx (Add g2 (Add g1 M)) hb18 (fun b e => (by rw [show b = g from e]; exact hm3))
     have hC40 := hC39.go hb18 (fun b e => Or.inr e)
     have ho100 := ho98.go hb18 (fun e => hn1 e.symm)
     have ho101 := ho96.go hb18 (fun e => hn2 e.symm)
     obtain ⟨bb3, hbb3, rfl⟩ := vbool_ex hv14
     refine lw_nil (ew_then ?_)
     replace h := cond_some h
     rcases h with ⟨hc3, h⟩ | ⟨hc3, h⟩
     ·
      obtain rfl := hbb3.trans hc3
      refine cw_true Z (cw_seq ?_)
      replace h := bind_some h
      obtain ⟨x9, hx9, h⟩ := h
      have lz6 := (lz5.trans hl40)
      refine cw_sub (E' := [(0, (.pointer (some ⟨g, 0, none⟩))), (1, (.int .i64 a_top)), (6, (.pointer (some ⟨g1, 0, none⟩))), (7, (.pointer (some ⟨g2, 0, none⟩)))]) ⟨Z, Z, Z, Z, trivial⟩ (cw_drawC (g := g) (T := 111) 17 1 [none, none, none, none, none, none, none, none, none, none, none, none, none, none, none, none, some 0] [#[(.slice Ax a_xs.length cx), (.int .i64 x8.2)], #[(.slice Ax a_xs.length cx), (.int .i64 x9.2)]] [PEq (.pointer (some ⟨g2, 1, none⟩)), PEq (.int .i64 (imin a_top (W ((imin a_top (W ((W (x1.1 * 256)) + x3.1))) + x7)))), PEq (.int .i64 (W ((imin a_top (W ((imin a_top (W ((W (x1.1 * 256)) + x3.1))) + x7))) + 1))), PEq (.pointer (some ⟨g2, 1, none⟩)), PEq (.int .i64 (imin a_top (W ((imin a_top (W ((W (x1.1 * 256)) + x3.1))) + x7)))), PV RSpan (Add g2 (Add g1 M)) ({ Lo := (W ((imin a_top (W ((imin a_top (W ((W (x1.1 * 256)) + x3.1))) + x7))) + 1)), Hi := (imin a_top (W ((imin a_top (W ((W (x1.1 * 256)) + x3.1))) + x7))) } : Span), PEq (.pointer (some ⟨g2, 1, none⟩)), PEq (.int .i64 (imin a_top (W ((imin a_top (W ((W (x1.1 * 256)) + x3.1))) + x7)))), PV RSpan (Add g2 (Add g1 M)) ({ Lo := (-1), Hi := (imin a_top (W ((imin a_top (W ((W (x1.1 * 256)) + x3.1))) + x7))) } : Span), PEq (.pointer (some ⟨g2, 0, none⟩)), PEq (.int .i64 (imin a_top (W ((W (x1.1 * 256)) + x3.1)))), PEq (.int .i64 a_top), PEq (.int .i64 (W (a_top + 1))), PV RSpan (Add g2 (Add g1 M)) ({ Lo := (imin a_top (W ((W (x1.1 * 256)) + x3.1))), Hi := (W (a_top + 1)) } : Span), PV (RSlice RSpan) (Add g2 (Add g1 M)) [({ Lo := (W ((imin a_top (W ((imin a_top (W ((W (x1.1 * 256)) + x3.1))) + x7))) + 1)), Hi := (imin a_top (W ((imin a_top (W ((W (x1.1 * 256)) + x3.1))) + x7))) } : Span), ({ Lo := (-1), Hi := (imin a_top (W ((imin a_top (W ((W (x1.1 * 256)) + x3.1))) + x7))) } : Span), ({ Lo := (imin a_top (W ((W (x1.1 * 256)) + x3.1))), Hi := (W (a_top + 1)) } : Span)], PEq (.pointer (some ⟨g, 0, none⟩)), PEq (.int .i64 x9.1)] (by kernel_rfl) Z (by kernel_rfl) (by kernel_rfl) ho99 ⟨(PEq.monoY hm3 _), (PEq.monoY hm3 _), (PEq.monoY hm3 _), (PEq.monoY hm3 _), (PEq.monoY hm3 _), (PV.monoY hm3 _ _), (PEq.monoY hm3 _), (PEq.monoY hm3 _), (PV.monoY hm3 _ _), (PEq.monoY hm3 _), (PEq.monoY hm3 _), (PEq.monoY hm3 _), (PEq.monoY hm3 _), (PV.monoY hm3 _ _), (PV.monoY hm3 _ _), (PEq.monoY hm3 _), (PEq.monoY hm3 _), trivial⟩ ⟨?_, ?_, ?_, ?_, ?_, ?_, ?_, ?_, ?_, ?_, ?_, ?_, ?_, ?_, ?_, ?_, ?_, trivial⟩ ?_)
      ·
       intro w43 D hS23 hd23
       exact dg_sub (E' := [(7, (.pointer (some ⟨g2, 0, none⟩)))]) ⟨Z, trivial⟩ (dg_plain Z (ow_fieldAddr Z Z Tryd.underlying79 Z (Tryd.sizeOf3 _) ⟨BX.refl _ _, Z⟩))
      ·
       intro w44 D hS24 hd24
       have ho111 := ho101.go hS24 (fun e => hn2 e.symm)
       exact dg_sub (E' := [(48, (.pointer (some ⟨g2, 1, none⟩)))]) ⟨(dpE hd24 0 Z Z), trivial⟩ (dg_plain Z (ow_loadOwn1 Z Z Z ho111 (Tryd.isAgg3 _) Z ⟨BX.refl _ _, Z⟩))
      ·
       intro w45 D hS25 hd25
       exact dg_sub (E' := [(49, (.int .i64 (imin a_top (W ((imin a_top (W ((W (x1.1 * 256)) + x3.1))) + x7)))))]) ⟨(dpE hd25 1 Z Z), trivial⟩ (dg_plain Z (ow_add Z Z Z ⟨BX.refl _ _, Z⟩))
      ·
       intro w46 D hS26 hd26
       exact dg_sub (E' := [(7, (.pointer (some ⟨g2, 0, none⟩)))]) ⟨Z, trivial⟩ (dg_plain Z (ow_fieldAddr Z Z Tryd.underlying79 Z (Tryd.sizeOf3 _) ⟨BX.refl _ _, Z⟩))
      ·
       intro w47 D hS27 hd27
       have ho117 := ho101.go hS27 (fun e => hn2 e.symm)
       exact dg_sub (E' := [(51, (.pointer (some ⟨g2, 1, none⟩)))]) ⟨(dpE hd27 3 Z Z), trivial⟩ (dg_plain Z (ow_loadOwn1 Z Z Z ho117 (Tryd.isAgg3 _) Z ⟨BX.refl _ _, Z⟩))
      ·
       intro w48 D hS28 hd28
       refine dg_sub (E' := [(50, (.int .i64 (W ((imin a_top (W ((imin a_top (W ((W (x1.1 * 256)) + x3.1))) + x7))) + 1)))), (52, (.int .i64 (imin a_top (W ((imin a_top (W ((W (x1.1 * 256)) + x3.1))) + x7)))))]) ⟨(dpE hd28 2 Z Z), (dpE hd28 4 Z Z), trivial⟩ (dg_plain Z (ow_build (v := .agg #[(.int .i64 (W ((imin a_top (W ((imin a_top (W ((W (x1.1 * 256)) + x3.1))) + x7))) + 1))), (.int .i64 (imin a_top (W ((imin a_top (W ((W (x1.1 * 256)) + x3.1))) + x7))))]) Z Z (by kernel_rfl) ?_))
       have hw8 : VRep RSpan w48 (Add g2 (Add g1 M)) ({ Lo := (W ((imin a_top (W ((imin a_top (W ((W (x1.1 * 256)) + x3.1))) + x7))) + 1)), Hi := (imin a_top (W ((imin a_top (W ((W (x1.1 * 256)) + x3.1))) + x7))) } : Span) (.agg #[(.int .i64 (W ((imin a_top (W ((imin a_top (W ((W (x1.1 * 256)) + x3.1))) + x7))) + 1))), (.int .i64 (imin a_top (W ((imin a_top (W ((W (x1.1 * 256)) + x3.1))) + x7))))]) := shut_Span
       exact ⟨BX.refl _ _, hw8⟩
      ·
       intro w49 D hS29 hd29
       exact dg_sub (E' := [(7, (.pointer (some ⟨g2, 0, none⟩)))]) ⟨Z, trivial⟩ (dg_plain Z (ow_fieldAddr Z Z Tryd.underlying79 Z (Tryd.sizeOf3 _) ⟨BX.refl _ _, Z⟩))
      ·
       intro w50 D hS30 hd30
       have ho123 := ho101.go hS30 (fun e => hn2 e.symm)
       exact dg_sub (E' := [(54, (.pointer (some ⟨g2, 1, none⟩)))]) ⟨(dpE hd30 6 Z Z), trivial⟩ (dg_plain Z (ow_loadOwn1 Z Z Z ho123 (Tryd.isAgg3 _) Z ⟨BX.refl _ _, Z⟩))
      ·
       intro w51 D hS31 hd31
       refine dg_sub (E' := [(55, (.int .i64 (imin a_top (W ((imin a_top (W ((W (x1.1 * 256)) + x3.1))) + x7)))))]) ⟨(dpE hd31 7 Z Z), trivial⟩ (dg_plain Z (ow_build (v := .agg #[(.int .i64 (-1)), (.int .i64 (imin a_top (W ((imin a_top (W ((W (x1.1 * 256)) + x3.1))) + x7))))]) Z Z (by kernel_rfl) ?_))
       have hw9 : VRep RSpan w51 (Add g2 (Add g1 M)) ({ Lo := (-1), Hi := (imin a_top (W ((imin a_top (W ((W (x1.1 * 256)) + x3.1))) + x7))) } : Span) (.agg #[(.int .i64 (-1)), (.int .i64 (imin a_top (W ((imin a_top (W ((W (x1.1 * 256)) + x3.1))) + x7))))]) := shut_Span
       exact ⟨BX.refl _ _, hw9⟩
      ·
       intro w52 D hS32 hd32
       exact dg_sub (E' := [(7, (.pointer (some ⟨g2, 0, none⟩)))]) ⟨Z, trivial⟩ (dg_plain Z (ow_fieldAddr Z Z Tryd.underlying79 Z (Tryd.sizeOf3 _) ⟨BX.refl _ _, Z⟩))
      ·
       intro w53 D hS33 hd33
       have ho129 := ho101.go hS33 (fun e => hn2 e.symm)
       exact dg_sub (E' := [(57, (.pointer (some ⟨g2, 0, none⟩)))]) ⟨(dpE hd33 9 Z Z), trivial⟩ (dg_plain Z (ow_loadOwn1 Z Z Z ho129 (Tryd.isAgg3 _) Z ⟨BX.refl _ _, Z⟩))
      ·
       intro w54 D hS34 hd34
       exact dg_sub (E' := [(1, (.int .i64 a_top))]) ⟨Z, trivial⟩ (dg_plain Z (ow_move Z Z ⟨BX.refl _ _, Z⟩))
      ·
       intro w55 D hS35 hd35
       exact dg_sub (E' := [(59, (.int .i64 a_top))]) ⟨(dpE hd35 11 Z Z), trivial⟩ (dg_plain Z (ow_add Z Z Z ⟨BX.refl _ _, Z⟩))
      ·
       intro w56 D hS36 hd36
       refine dg_sub (E' := [(58, (.int .i64 (imin a_top (W ((W (x1.1 * 256)) + x3.1))))), (60, (.int .i64 (W (a_top + 1))))]) ⟨(dpE hd36 10 Z Z), (dpE hd36 12 Z Z), trivial⟩ (dg_plain Z (ow_build (v := .agg #[(.int .i64 (imin a_top (W ((W (x1.1 * 256)) + x3.1)))), (.int .i64 (W (a_top + 1)))]) Z Z (by kernel_rfl) ?_))
       have hw10 : VRep RSpan w56 (Add g2 (Add g1 M)) ({ Lo := (imin a_top (W ((W (x1.1 * 256)) + x3.1))), Hi := (W (a_top + 1)) } : Span) (.agg #[(.int .i64 (imin a_top (W ((W (x1.1 * 256)) + x3.1)))), (.int .i64 (W (a_top + 1)))]) := shut_Span
       exact ⟨BX.refl _ _, hw10⟩
      ·
       intro w57 D hS37 hd37
       have hC57 := hC40.go hS37 (fun b e => Or.inr e)
       have d50 : PV RSpan (Add g2 (Add g1 M)) ({ Lo := (W ((imin a_top (W ((imin a_top (W ((W (x1.1 * 256)) + x3.1))) + x7))) + 1)), Hi := (imin a_top (W ((imin a_top (W ((W (x1.1 * 256)) + x3.1))) + x7))) } : Span) (D 5) w57 := dpA hd37 5 Z
       have d51 : PV RSpan (Add g2 (Add g1 M)) ({ Lo := (-1), Hi := (imin a_top (W ((imin a_top (W ((W (x1.1 * 256)) + x3.1))) + x7))) } : Span) (D 8) w57 := dpA hd37 8 Z
       have d52 : PV RSpan (Add g2 (Add g1 M)) ({ Lo := (imin a_top (W ((W (x1.1 * 256)) + x3.1))), Hi := (W (a_top + 1)) } : Span) (D 13) w57 := dpA hd37 13 Z
       generalize hq2 : (D 5) = v16 at d50
       generalize hq3 : (D 8) = v17 at d51
       generalize hq4 : (D 13) = v18 at d52
       refine dg_sub (E' := [(53, v16), (56, v17), (61, v18)]) ⟨(congrArg some hq2), (congrArg some hq3), (congrArg some hq4), trivial⟩ ?_
       obtain rfl := open_Span d50
       obtain rfl := open_Span d51
       obtain rfl := open_Span d52
       exact dg_plain Z (ow_buildSlice (R := RSpan) (xs := [({ Lo := (W ((imin a_top (W ((imin a_top (W ((W (x1.1 * 256)) + x3.1))) + x7))) + 1)), Hi := (imin a_top (W ((imin a_top (W ((W (x1.1 * 256)) + x3.1))) + x7))) } : Span), ({ Lo := (-1), Hi := (imin a_top (W ((imin a_top (W ((W (x1.1 * 256)) + x3.1))) + x7))) } : Span), ({ Lo := (imin a_top (W ((W (x1.1 * 256)) + x3.1))), Hi := (W (a_top + 1)) } : Span)]) (cs := #[(.int .i64 ({ Lo := (W ((imin a_top (W ((imin a_top (W ((W (x1.1 * 256)) + x3.1))) + x7))) + 1)), Hi := (imin a_top (W ((imin a_top (W ((W (x1.1 * 256)) + x3.1))) + x7))) } : Span).Lo), (.int .i64 ({ Lo := (W ((imin a_top (W ((imin a_top (W ((W (x1.1 * 256)) + x3.1))) + x7))) + 1)), Hi := (imin a_top (W ((imin a_top (W ((W (x1.1 * 256)) + x3.1))) + x7))) } : Span).Hi), (.int .i64 ({ Lo := (-1), Hi := (imin a_top (W ((imin a_top (W ((W (x1.1 * 256)) + x3.1))) + x7))) } : Span).Lo), (.int .i64 ({ Lo := (-1), Hi := (imin a_top (W ((imin a_top (W ((W (x1.1 * 256)) + x3.1))) + x7))) } : Span).Hi), (.int .i64 ({ Lo := (imin a_top (W ((W (x1.1 * 256)) + x3.1))), Hi := (W (a_top + 1)) } : Span).Lo), (.int .i64 ({ Lo := (imin a_top (W ((W (x1.1 * 256)) + x3.1))), Hi := (W (a_top + 1)) } : Span).Hi)]) (e := 79) Z Z (by kernel_rfl) Z Z ⟨_, _, Z, d50.cells, _, _, Z, d51.cells, _, _, Z, d52.cells, Z⟩ hC57 fun p7 w58 hw11 hb21 hl58 hC58 => ⟨hb21, hw11⟩)
      ·
       intro w59 D hS38 hd38
       exact dg_sub (E' := [(0, (.pointer (some ⟨g, 0, none⟩)))]) ⟨Z, trivial⟩ (dg_plain Z (ow_move Z Z ⟨BX.refl _ _, Z⟩))
      ·
       intro w60 D hS39 hd39
       obtain ⟨hS39, ho142⟩ := hS39
       have ho142 : Own w60 g 111 #[(.slice Ax a_xs.length cx), (.int .i64 x8.2)] := ho142
       have hl60 := leY hm3 hS39
       have hC60 := hC40.go hS39 (fun b e => Or.inr e)
       refine dg_sub (E' := [(63, (.pointer (some ⟨g, 0, none⟩)))]) ⟨(dpE hd39 15 Z Z), trivial⟩ (dg_plain Z (ow_call Z Z Tryd.call60 (w_spec_l20Rd_pick (hG.mono (lz6.trans hl60)) hC60.old (VRep.mono (lz6.trans hl60) hxs) ho142 hm3 hx9) fun v19 w61 hv19 => ?_))
       obtain ⟨⟨hv19, ho145⟩, hb22⟩ := hv19
       obtain rfl := vint_eq hv19
       exact ⟨⟨⟨hS39.trans hb22, ho145⟩, hb22⟩, Z⟩
      ·
       intro w62 D hS40 hd40
       have d68 : PV (RSlice RSpan) (Add g2 (Add g1 M)) [({ Lo := (W ((imin a_top (W ((imin a_top (W ((W (x1.1 * 256)) + x3.1))) + x7))) + 1)), Hi := (imin a_top (W ((imin a_top (W ((W (x1.1 * 256)) + x3.1))) + x7))) } : Span), ({ Lo := (-1), Hi := (imin a_top (W ((imin a_top (W ((W (x1.1 * 256)) + x3.1))) + x7))) } : Span), ({ Lo := (imin a_top (W ((W (x1.1 * 256)) + x3.1))), Hi := (W (a_top + 1)) } : Span)] (D 14) w62 := dpA hd40 14 Z
       obtain ⟨hS40, ho148⟩ := hS40
       have ho148 : Own w62 g 111 #[(.slice Ax a_xs.length cx), (.int .i64 x9.2)] := ho148
       have hC62 := hC40.go hS40 (fun b e => Or.inr e)
       have ho149 := ho100.go hS40 (fun e => hn1 e.symm)
       generalize hq5 : (D 14) = v20 at d68
       refine lw_sub (E' := [(62, v20), (64, (.int .i64 x9.1)), (0, (.pointer (some ⟨g, 0, none⟩))), (1, (.int .i64 a_top)), (6, (.pointer (some ⟨g1, 0, none⟩))), (7, (.pointer (some ⟨g2, 0, none⟩)))]) ⟨(congrArg some hq5), (dpE hd40 16 Z Z), Z, Z, Z, Z, trivial⟩ ?_
       replace h := bind_some h
       obtain ⟨x10, hx10, h⟩ := h
       refine lw_op Z Z Z (ow_indexSlice (R := RSpan) Z Z Z d68 Tryd.underlying71 (Tryd.sizeOf79 _) hx10 fun p8 hp8 => lw_op Z Z Z (ow_load (R := RSpan) Z Z hp8 (Tryd.sizeOf79 _) (Tryd.isAgg79 _) fun v21 hv21 => ?_))
       obtain rfl := open_Span hv21
       refine lw_op0 Z Z (ow_store (X := (One g)) (us := [(.int .i64 x10.Lo), (.int .i64 x10.Hi)]) (cs' := #[(.int .i64 x10.Lo), (.int .i64 x10.Hi)]) Z Z Z Z ho149 (Tryd.sizeOf79 _) Z Z Z Z hm4 (.inl hg2) Z hC62 fun w63 ho151 hb23 hl63 hC63 => ?_)
       have ho152 := ho148.go hb23 (fun e => hn1 e)
       refine lw_nil (ew_then (cw_ret (ew_thenR ?_)))
       have hw12 : VRep RSpan w63 (Add g2 (Add g1 M)) ({ Lo := x10.Lo, Hi := x10.Hi } : Span) (.agg #[(.int .i64 x10.Lo), (.int .i64 x10.Hi)]) := shut_Span
       obtain rfl := Option.some.inj h
       exact ew_ret (res1 Z (.cell Z (own_loadVarA ho151 (Tryd.isAgg79 _) (Tryd.sizeOf79 _) Z))) ⟨_, Z, ⟨(hw12.mono hC63.back), ho152⟩, hC63.bx⟩
     ·
      obtain rfl := hbb3.trans hc3
      refine cw_false Z (cw_skip (ew_then (cw_seq (cw_region (lw_op Z Z Z (ow_loadOwnA Z Z Z ho101 (Tryd.isAgg79 _) (Tryd.sizeOf79 _) Z (lw_op0 Z Z (ow_store (X := (One g)) (us := [(.int .i64 (imin a_top (W ((W (x1.1 * 256)) + x3.1)))), (.int .i64 (imin a_top (W ((imin a_top (W ((W (x1.1 * 256)) + x3.1))) + x7))))]) (cs' := #[(.int .i64 (imin a_top (W ((W (x1.1 * 256)) + x3.1)))), (.int .i64 (imin a_top (W ((imin a_top (W ((W (x1.1 * 256)) + x3.1))) + x7))))]) Z Z Z Z ho100 (Tryd.sizeOf79 _) Z Z Z Z hm4 (.inl hg2) Z hC40 fun w64 ho154 hb24 hl64 hC64 => ?_))))))))
      have ho155 := ho99.go hb24 (fun e => hn1 e)
      refine lw_nil (ew_then (cw_ret ?_))
      have hw14 : VRep RSpan w64 (Add g2 (Add g1 M)) ({ Lo := (imin a_top (W ((W (x1.1 * 256)) + x3.1))), Hi := (imin a_top (W ((imin a_top (W ((W (x1.1 * 256)) + x3.1))) + x7))) } : Span) (.agg #[(.int .i64 (imin a_top (W ((W (x1.1 * 256)) + x3.1)))), (.int .i64 (imin a_top (W ((imin a_top (W ((W (x1.1 * 256)) + x3.1))) + x7))))]) := shut_Span
      obtain rfl := Option.some.inj h
      exact ew_ret (res1 Z (.cell Z (own_loadVarA ho154 (Tryd.isAgg79 _) (Tryd.sizeOf79 _) Z))) ⟨_, Z, ⟨(hw14.mono hC64.back), ho155⟩, hC64.bx⟩
  ·
   obtain rfl := hbb2.trans hc2
   refine cw_false Z (cw_skip (ew_then (cw_seq ?_)))
   replace h := bind_some h
   obtain ⟨x11, hx11, h⟩ := h
   replace h := bind_some h
   obtain ⟨x12, hx12, h⟩ := h
   replace h := bind_some h
   obtain ⟨x13, hx13, h⟩ := h
   replace h := bind_some h
   obtain ⟨x14, hx14, h⟩ := h
   have lz7 := (lz1.trans hl5)
   refine cw_sub (E' := [(0, (.pointer (some ⟨g, 0, none⟩))), (1, (.int .i64 a_top)), (2, (.int .i64 a_n)), (6, (.pointer (some ⟨g1, 0, none⟩))), (7, (.pointer (some ⟨g2, 0, none⟩)))]) ⟨Z, Z, Z, Z, Z, trivial⟩ (cw_drawC (g := g) (T := 111) 13 3 [none, none, none, none, some 0, none, some 1, none, none, some 2, none, none, none] [#[(.slice Ax a_xs.length cx), (.int .i64 x2.2)], #[(.slice Ax a_xs.length cx), (.int .i64 x11.2)], #[(.slice Ax a_xs.length cx), (.int .i64 x12.2)], #[(.slice Ax a_xs.length cx), (.int .i64 x13.2)]] [PEq (.int .i64 a_top), PEq (.pointer (some ⟨g2, 0, none⟩)), PEq (.int .i64 x1.1), PEq (.pointer (some ⟨g, 0, none⟩)), PEq (.int .i64 x11.1), PEq (.pointer (some ⟨g, 0, none⟩)), PEq (.int .i64 x12.1), PV (RSlice RInt) (Add g2 (Add g1 M)) [0, x11.1, x12.1, 4096], PEq (.pointer (some ⟨g, 0, none⟩)), PEq (.int .i64 x13.1), PA RInt (Add g2 (Add g1 M)) x14, PEq (.int .i64 x14), PEq (.int .i64 (W (x1.1 + x14)))] (by kernel_rfl) Z (by kernel_rfl) (by kernel_rfl) ho11 ⟨(PEq.monoY hm3 _), (PEq.monoY hm3 _), (PEq.monoY hm3 _), (PEq.monoY hm3 _), (PEq.monoY hm3 _), (PEq.monoY hm3 _), (PEq.monoY hm3 _), (PV.monoY hm3 _ _), (PEq.monoY hm3 _), (PEq.monoY hm3 _), (PA.monoY hm3 _ _), (PEq.monoY hm3 _), (PEq.monoY hm3 _), trivial⟩ ⟨?_, ?_, ?_, ?_, ?_, ?_, ?_, ?_, ?_, ?_, ?_, ?_, ?_, trivial⟩ ?_)
   ·
    intro w69 D hS41 hd41
    exact dg_sub (E' := [(1, (.int .i64 a_top))]) ⟨Z, trivial⟩ (dg_plain Z (ow_move Z Z ⟨BX.refl _ _, Z⟩))
   ·
    intro w70 D hS42 hd42
    exact dg_sub (E' := [(7, (.pointer (some ⟨g2, 0, none⟩)))]) ⟨Z, trivial⟩ (dg_plain Z (ow_fieldAddr Z Z Tryd.underlying79 Z (Tryd.sizeOf3 _) ⟨BX.refl _ _, Z⟩))
   ·
    intro w71 D hS43 hd43
    have ho174 := ho13.go hS43 (fun e => hn2 e.symm)
    exact dg_sub (E' := [(31, (.pointer (some ⟨g2, 0, none⟩)))]) ⟨(dpE hd43 1 Z Z), trivial⟩ (dg_plain Z (ow_loadOwn1 Z Z Z ho174 (Tryd.isAgg3 _) Z ⟨BX.refl _ _, Z⟩))
   ·
    intro w72 D hS44 hd44
    exact dg_sub (E' := [(0, (.pointer (some ⟨g, 0, none⟩)))]) ⟨Z, trivial⟩ (dg_plain Z (ow_move Z Z ⟨BX.refl _ _, Z⟩))
   ·
    intro w73 D hS45 hd45
    obtain ⟨hS45, ho177⟩ := hS45
    have ho177 : Own w73 g 111 #[(.slice Ax a_xs.length cx), (.int .i64 x2.2)] := ho177
    have hl73 := leY hm3 hS45
    have hC73 := hC5.go hS45 (fun b e => Or.inr e)
    refine dg_sub (E' := [(33, (.pointer (some ⟨g, 0, none⟩)))]) ⟨(dpE hd45 3 Z Z), trivial⟩ (dg_plain Z (ow_call Z Z Tryd.call60 (w_spec_l20Rd_pick (hG.mono (lz7.trans hl73)) hC73.old (VRep.mono (lz7.trans hl73) hxs) ho177 hm3 hx11) fun v26 w74 hv26 => ?_))
    obtain ⟨⟨hv26, ho180⟩, hb29⟩ := hv26
    obtain rfl := vint_eq hv26
    exact ⟨⟨⟨hS45.trans hb29, ho180⟩, hb29⟩, Z⟩
   ·
    intro w75 D hS46 hd46
    exact dg_sub (E' := [(0, (.pointer (some ⟨g, 0, none⟩)))]) ⟨Z, trivial⟩ (dg_plain Z (ow_move Z Z ⟨BX.refl _ _, Z⟩))
   ·
    intro w76 D hS47 hd47
    obtain ⟨hS47, ho185⟩ := hS47
    have ho185 : Own w76 g 111 #[(.slice Ax a_xs.length cx), (.int .i64 x11.2)] := ho185
    have hl76 := leY hm3 hS47
    have hC76 := hC5.go hS47 (fun b e => Or.inr e)
    refine dg_sub (E' := [(35, (.pointer (some ⟨g, 0, none⟩)))]) ⟨(dpE hd47 5 Z Z), trivial⟩ (dg_plain Z (ow_call Z Z Tryd.call60 (w_spec_l20Rd_pick (hG.mono (lz7.trans hl76)) hC76.old (VRep.mono (lz7.trans hl76) hxs) ho185 hm3 hx12) fun v27 w77 hv27 => ?_))
    obtain ⟨⟨hv27, ho188⟩, hb30⟩ := hv27
    obtain rfl := vint_eq hv27
    exact ⟨⟨⟨hS47.trans hb30, ho188⟩, hb30⟩, Z⟩
   ·
    intro w78 D hS48 hd48
    have hC78 := hC5.go hS48 (fun b e => Or.inr e)
    exact dg_sub (E' := [(34, (.int .i64 x11.1)), (36, (.int .i64 x12.1))]) ⟨(dpE hd48 4 Z Z), (dpE hd48 6 Z Z), trivial⟩ (dg_plain Z (ow_buildSlice (R := RInt) (xs := [0, x11.1, x12.1, 4096]) (cs := #[(.int .i64 0), (.int .i64 x11.1), (.int .i64 x12.1), (.int .i64 4096)]) (e := 3) Z Z (by kernel_rfl) Z Z ⟨_, _, Z, (vint _).cells, _, _, Z, (vint _).cells, _, _, Z, (vint _).cells, _, _, Z, (vint _).cells, Z⟩ hC78 fun p11 w79 hw16 hb31 hl79 hC79 => ⟨hb31, hw16⟩))
   ·
    intro w80 D hS49 hd49
    exact dg_sub (E' := [(0, (.pointer (some ⟨g, 0, none⟩)))]) ⟨Z, trivial⟩ (dg_plain Z (ow_move Z Z ⟨BX.refl _ _, Z⟩))
   ·
    intro w81 D hS50 hd50
    obtain ⟨hS50, ho197⟩ := hS50
    have ho197 : Own w81 g 111 #[(.slice Ax a_xs.length cx), (.int .i64 x12.2)] := ho197
    have hl81 := leY hm3 hS50
    have hC81 := hC5.go hS50 (fun b e => Or.inr e)
    refine dg_sub (E' := [(38, (.pointer (some ⟨g, 0, none⟩)))]) ⟨(dpE hd50 8 Z Z), trivial⟩ (dg_plain Z (ow_call Z Z Tryd.call60 (w_spec_l20Rd_pick (hG.mono (lz7.trans hl81)) hC81.old (VRep.mono (lz7.trans hl81) hxs) ho197 hm3 hx13) fun v28 w82 hv28 => ?_))
    obtain ⟨⟨hv28, ho200⟩, hb32⟩ := hv28
    obtain rfl := vint_eq hv28
    exact ⟨⟨⟨hS50.trans hb32, ho200⟩, hb32⟩, Z⟩
   ·
    intro w83 D hS51 hd51
    have d79 : PV (RSlice RInt) (Add g2 (Add g1 M)) [0, x11.1, x12.1, 4096] (D 7) w83 := dpA hd51 7 Z
    generalize hq6 : (D 7) = v29 at d79
    exact dg_sub (E' := [(37, v29), (39, (.int .i64 x13.1))]) ⟨(congrArg some hq6), (dpE hd51 9 Z Z), trivial⟩ (dg_plain Z (ow_indexSlice (R := RInt) Z Z Z d79 Tryd.underlying52 (Tryd.sizeOf3 _) hx14 fun p12 hp12 => ⟨BX.refl _ _, ⟨_, Z, hp12⟩⟩))
   ·
    intro w84 D hS52 hd52
    have d81 : PA RInt (Add g2 (Add g1 M)) x14 (D 10) w84 := dpA hd52 10 Z
    obtain ⟨p13, e2, ha2⟩ := d81
    refine dg_sub (E' := [(40, (.pointer (some p13)))]) ⟨(congrArg some e2), trivial⟩ (dg_plain Z (ow_load (R := RInt) Z Z ha2 (Tryd.sizeOf3 _) (Tryd.isAgg3 _) fun v30 hv30 => ?_))
    obtain rfl := vint_eq hv30
    exact ⟨BX.refl _ _, Z⟩
   ·
    intro w85 D hS53 hd53
    exact dg_sub (E' := [(32, (.int .i64 x1.1)), (41, (.int .i64 x14))]) ⟨(dpE hd53 2 Z Z), (dpE hd53 11 Z Z), trivial⟩ (dg_plain Z (ow_add Z Z Z ⟨BX.refl _ _, Z⟩))
   ·
    intro w86 D hS54 hd54
    obtain ⟨hS54, ho209⟩ := hS54
    have ho209 : Own w86 g 111 #[(.slice Ax a_xs.length cx), (.int .i64 x13.2)] := ho209
    have hl86 := leY hm3 hS54
    have hC86 := hC5.go hS54 (fun b e => Or.inr e)
    have ho210 := ho12.go hS54 (fun e => hn1 e.symm)
    have ho211 := ho13.go hS54 (fun e => hn2 e.symm)
    refine lw_sub (E' := [(30, (.int .i64 a_top)), (42, (.int .i64 (W (x1.1 + x14)))), (0, (.pointer (some ⟨g, 0, none⟩))), (1, (.int .i64 a_top)), (2, (.int .i64 a_n)), (6, (.pointer (some ⟨g1, 0, none⟩))), (7, (.pointer (some ⟨g2, 0, none⟩)))]) ⟨(dpE hd54 0 Z Z), (dpE hd54 12 Z Z), Z, Z, Z, Z, Z, trivial⟩ (lw_op Z Z Z (ow_min Z Z Z (lw_op Z Z Z (ow_fieldAddr Z Z Tryd.underlying79 Z (Tryd.sizeOf3 _) (lw_op0 Z Z (ow_store (X := (One g)) (us := [(.int .i64 (imin a_top (W (x1.1 + x14))))]) (cs' := #[(.int .i64 x1.1), (.int .i64 (imin a_top (W (x1.1 + x14))))]) Z Z Z Z ho211 (Tryd.sizeOf3 _) Z Z Z Z hm5 (.inl hg4) Z hC86 fun w87 ho212 hb33 hl87 hC87 => ?_))))))
    have ho213 := ho209.go hb33 (fun e => hn2 e)
    have ho214 := ho210.go hb33 (fun e => hn3 e)
    refine lw_nil (ew_then (cw_seq (cw_seq (cw_region (lw_op Z Z Z (ow_move Z Z (lw_op Z Z Z (ow_move Z Z ?_))))))))
    have lz9 := ((lz7.trans hl86).trans hl87)
    replace h := bind_some h
    obtain ⟨x15, hx15, h⟩ := h
    refine lw_op Z Z Z (ow_call Z Z Tryd.call81 (w_spec_l20Rd_odd (hG.mono lz9) hC87.old (VRep.mono lz9 hxs) ho213 hm3 hx15) fun v31 w88 hv31 => ?_)
    obtain ⟨⟨hv31, ho215⟩, hb34⟩ := hv31
    have hl88 := Le.of_bx (Add g2 (Add g1 M)) hb34 (fun b e => (by rw [show b = g from e]; exact hm3))
    have hC88 := hC87.go hb34 (fun b e => Or.inr e)
    have ho216 := ho214.go hb34 (fun e => hn1 e.symm)
    have ho217 := ho212.go hb34 (fun e => hn2 e.symm)
    obtain ⟨bb4, hbb4, rfl⟩ := vbool_ex hv31
    refine lw_nil (ew_then ?_)
    replace h := cond_some h
    rcases h with ⟨hc4, h⟩ | ⟨hc4, h⟩
    ·
     obtain rfl := hbb4.trans hc4
     refine cw_true Z (cw_seq ?_)
     replace h := bind_some h
     obtain ⟨x16, hx16, h⟩ := h
     have lz10 := (lz9.trans hl88)
     refine cw_sub (E' := [(0, (.pointer (some ⟨g, 0, none⟩))), (1, (.int .i64 a_top)), (6, (.pointer (some ⟨g1, 0, none⟩))), (7, (.pointer (some ⟨g2, 0, none⟩)))]) ⟨Z, Z, Z, Z, trivial⟩ (cw_drawC (g := g) (T := 111) 17 1 [none, none, none, none, none, none, none, none, none, none, none, none, none, none, none, none, some 0] [#[(.slice Ax a_xs.length cx), (.int .i64 x15.2)], #[(.slice Ax a_xs.length cx), (.int .i64 x16.2)]] [PEq (.pointer (some ⟨g2, 1, none⟩)), PEq (.int .i64 (imin a_top (W (x1.1 + x14)))), PEq (.int .i64 (W ((imin a_top (W (x1.1 + x14))) + 1))), PEq (.pointer (some ⟨g2, 1, none⟩)), PEq (.int .i64 (imin a_top (W (x1.1 + x14)))), PV RSpan (Add g2 (Add g1 M)) ({ Lo := (W ((imin a_top (W (x1.1 + x14))) + 1)), Hi := (imin a_top (W (x1.1 + x14))) } : Span), PEq (.pointer (some ⟨g2, 1, none⟩)), PEq (.int .i64 (imin a_top (W (x1.1 + x14)))), PV RSpan (Add g2 (Add g1 M)) ({ Lo := (-1), Hi := (imin a_top (W (x1.1 + x14))) } : Span), PEq (.pointer (some ⟨g2, 0, none⟩)), PEq (.int .i64 x1.1), PEq (.int .i64 a_top), PEq (.int .i64 (W (a_top + 1))), PV RSpan (Add g2 (Add g1 M)) ({ Lo := x1.1, Hi := (W (a_top + 1)) } : Span), PV (RSlice RSpan) (Add g2 (Add g1 M)) [({ Lo := (W ((imin a_top (W (x1.1 + x14))) + 1)), Hi := (imin a_top (W (x1.1 + x14))) } : Span), ({ Lo := (-1), Hi := (imin a_top (W (x1.1 + x14))) } : Span), ({ Lo := x1.1, Hi := (W (a_top + 1)) } : Span)], PEq (.pointer (some ⟨g, 0, none⟩)), PEq (.int .i64 x16.1)] (by kernel_rfl) Z (by kernel_rfl) (by kernel_rfl) ho215 ⟨(PEq.monoY hm3 _), (PEq.monoY hm3 _), (PEq.monoY hm3 _), (PEq.monoY hm3 _), (PEq.monoY hm3 _), (PV.monoY hm3 _ _), (PEq.monoY hm3 _), (PEq.monoY hm3 _), (PV.monoY hm3 _ _), (PEq.monoY hm3 _), (PEq.monoY hm3 _), (PEq.monoY hm3 _), (PEq.monoY hm3 _), (PV.monoY hm3 _ _), (PV.monoY hm3 _ _), (PEq.monoY hm3 _), (PEq.monoY hm3 _), trivial⟩ ⟨?_, ?_, ?_, ?_, ?_, ?_, ?_, ?_, ?_, ?_, ?_, ?_, ?_, ?_, ?_, ?_, ?_, trivial⟩ ?_)
     ·
      intro w91 D hS55 hd55
      exact dg_sub (E' := [(7, (.pointer (some ⟨g2, 0, none⟩)))]) ⟨Z, trivial⟩ (dg_plain Z (ow_fieldAddr Z Z Tryd.underlying79 Z (Tryd.sizeOf3 _) ⟨BX.refl _ _, Z⟩))
     ·
      intro w92 D hS56 hd56
      have ho227 := ho217.go hS56 (fun e => hn2 e.symm)
      exact dg_sub (E' := [(48, (.pointer (some ⟨g2, 1, none⟩)))]) ⟨(dpE hd56 0 Z Z), trivial⟩ (dg_plain Z (ow_loadOwn1 Z Z Z ho227 (Tryd.isAgg3 _) Z ⟨BX.refl _ _, Z⟩))
     ·
      intro w93 D hS57 hd57
      exact dg_sub (E' := [(49, (.int .i64 (imin a_top (W (x1.1 + x14)))))]) ⟨(dpE hd57 1 Z Z), trivial⟩ (dg_plain Z (ow_add Z Z Z ⟨BX.refl _ _, Z⟩))
     ·
      intro w94 D hS58 hd58
      exact dg_sub (E' := [(7, (.pointer (some ⟨g2, 0, none⟩)))]) ⟨Z, trivial⟩ (dg_plain Z (ow_fieldAddr Z Z Tryd.underlying79 Z (Tryd.sizeOf3 _) ⟨BX.refl _ _, Z⟩))
     ·
      intro w95 D hS59 hd59
      have ho233 := ho217.go hS59 (fun e => hn2 e.symm)
      exact dg_sub (E' := [(51, (.pointer (some ⟨g2, 1, none⟩)))]) ⟨(dpE hd59 3 Z Z), trivial⟩ (dg_plain Z (ow_loadOwn1 Z Z Z ho233 (Tryd.isAgg3 _) Z ⟨BX.refl _ _, Z⟩))
     ·
      intro w96 D hS60 hd60
      refine dg_sub (E' := [(50, (.int .i64 (W ((imin a_top (W (x1.1 + x14))) + 1)))), (52, (.int .i64 (imin a_top (W (x1.1 + x14)))))]) ⟨(dpE hd60 2 Z Z), (dpE hd60 4 Z Z), trivial⟩ (dg_plain Z (ow_build (v := .agg #[(.int .i64 (W ((imin a_top (W (x1.1 + x14))) + 1))), (.int .i64 (imin a_top (W (x1.1 + x14))))]) Z Z (by kernel_rfl) ?_))
      have hw21 : VRep RSpan w96 (Add g2 (Add g1 M)) ({ Lo := (W ((imin a_top (W (x1.1 + x14))) + 1)), Hi := (imin a_top (W (x1.1 + x14))) } : Span) (.agg #[(.int .i64 (W ((imin a_top (W (x1.1 + x14))) + 1))), (.int .i64 (imin a_top (W (x1.1 + x14))))]) := shut_Span
      exact ⟨BX.refl _ _, hw21⟩
     ·
      intro w97 D hS61 hd61
      exact dg_sub (E' := [(7, (.pointer (some ⟨g2, 0, none⟩)))]) ⟨Z, trivial⟩ (dg_plain Z (ow_fieldAddr Z Z Tryd.underlying79 Z (Tryd.sizeOf3 _) ⟨BX.refl _ _, Z⟩))
     ·
      intro w98 D hS62 hd62
      have ho239 := ho217.go hS62 (fun e => hn2 e.symm)
      exact dg_sub (E' := [(54, (.pointer (some ⟨g2, 1, none⟩)))]) ⟨(dpE hd62 6 Z Z), trivial⟩ (dg_plain Z (ow_loadOwn1 Z Z Z ho239 (Tryd.isAgg3 _) Z ⟨BX.refl _ _, Z⟩))
     ·
      intro w99 D hS63 hd63
      refine dg_sub (E' := [(55, (.int .i64 (imin a_top (W (x1.1 + x14)))))]) ⟨(dpE hd63 7 Z Z), trivial⟩ (dg_plain Z (ow_build (v := .agg #[(.int .i64 (-1)), (.int .i64 (imin a_top (W (x1.1 + x14))))]) Z Z (by kernel_rfl) ?_))
      have hw22 : VRep RSpan w99 (Add g2 (Add g1 M)) ({ Lo := (-1), Hi := (imin a_top (W (x1.1 + x14))) } : Span) (.agg #[(.int .i64 (-1)), (.int .i64 (imin a_top (W (x1.1 + x14))))]) := shut_Span
      exact ⟨BX.refl _ _, hw22⟩
     ·
      intro w100 D hS64 hd64
      exact dg_sub (E' := [(7, (.pointer (some ⟨g2, 0, none⟩)))]) ⟨Z, trivial⟩ (dg_plain Z (ow_fieldAddr Z Z Tryd.underlying79 Z (Tryd.sizeOf3 _) ⟨BX.refl _ _, Z⟩))
     ·
      intro w101 D hS65 hd65
      have ho245 := ho217.go hS65 (fun e => hn2 e.symm)
      exact dg_sub (E' := [(57, (.pointer (some ⟨g2, 0, none⟩)))]) ⟨(dpE hd65 9 Z Z), trivial⟩ (dg_plain Z (ow_loadOwn1 Z Z Z ho245 (Tryd.isAgg3 _) Z ⟨BX.refl _ _, Z⟩))
     ·
      intro w102 D hS66 hd66
      exact dg_sub (E' := [(1, (.int .i64 a_top))]) ⟨Z, trivial⟩ (dg_plain Z (ow_move Z Z ⟨BX.refl _ _, Z⟩))
     ·
      intro w103 D hS67 hd67
      exact dg_sub (E' := [(59, (.int .i64 a_top))]) ⟨(dpE hd67 11 Z Z), trivial⟩ (dg_plain Z (ow_add Z Z Z ⟨BX.refl _ _, Z⟩))
     ·
      intro w104 D hS68 hd68
      refine dg_sub (E' := [(58, (.int .i64 x1.1)), (60, (.int .i64 (W (a_top + 1))))]) ⟨(dpE hd68 10 Z Z), (dpE hd68 12 Z Z), trivial⟩ (dg_plain Z (ow_build (v := .agg #[(.int .i64 x1.1), (.int .i64 (W (a_top + 1)))]) Z Z (by kernel_rfl) ?_))
      have hw23 : VRep RSpan w104 (Add g2 (Add g1 M)) ({ Lo := x1.1, Hi := (W (a_top + 1)) } : Span) (.agg #[(.int .i64 x1.1), (.int .i64 (W (a_top + 1)))]) := shut_Span
      exact ⟨BX.refl _ _, hw23⟩
     ·
      intro w105 D hS69 hd69
      have hC105 := hC88.go hS69 (fun b e => Or.inr e)
      have d108 : PV RSpan (Add g2 (Add g1 M)) ({ Lo := (W ((imin a_top (W (x1.1 + x14))) + 1)), Hi := (imin a_top (W (x1.1 + x14))) } : Span) (D 5) w105 := dpA hd69 5 Z
      have d109 : PV RSpan (Add g2 (Add g1 M)) ({ Lo := (-1), Hi := (imin a_top (W (x1.1 + x14))) } : Span) (D 8) w105 := dpA hd69 8 Z
      have d110 : PV RSpan (Add g2 (Add g1 M)) ({ Lo := x1.1, Hi := (W (a_top + 1)) } : Span) (D 13) w105 := dpA hd69 13 Z
      generalize hq7 : (D 5) = v33 at d108
      generalize hq8 : (D 8) = v34 at d109
      generalize hq9 : (D 13) = v35 at d110
      refine dg_sub (E' := [(53, v33), (56, v34), (61, v35)]) ⟨(congrArg some hq7), (congrArg some hq8), (congrArg some hq9), trivial⟩ ?_
      obtain rfl := open_Span d108
      obtain rfl := open_Span d109
      obtain rfl := open_Span d110
      exact dg_plain Z (ow_buildSlice (R := RSpan) (xs := [({ Lo := (W ((imin a_top (W (x1.1 + x14))) + 1)), Hi := (imin a_top (W (x1.1 + x14))) } : Span), ({ Lo := (-1), Hi := (imin a_top (W (x1.1 + x14))) } : Span), ({ Lo := x1.1, Hi := (W (a_top + 1)) } : Span)]) (cs := #[(.int .i64 ({ Lo := (W ((imin a_top (W (x1.1 + x14))) + 1)), Hi := (imin a_top (W (x1.1 + x14))) } : Span).Lo), (.int .i64 ({ Lo := (W ((imin a_top (W (x1.1 + x14))) + 1)), Hi := (imin a_top (W (x1.1 + x14))) } : Span).Hi), (.int .i64 ({ Lo := (-1), Hi := (imin a_top (W (x1.1 + x14))) } : Span).Lo), (.int .i64 ({ Lo := (-1), Hi := (imin a_top (W (x1.1 + x14))) } : Span).Hi), (.int .i64 ({ Lo := x1.1, Hi := (W (a_top + 1)) } : Span).Lo), (.int .i64 ({ Lo := x1.1, Hi := (W (a_top + 1)) } : Span).Hi)]) (e := 79) Z Z (by kernel_rfl) Z Z ⟨_, _, Z, d108.cells, _, _, Z, d109.cells, _, _, Z, d110.cells, Z⟩ hC105 fun p15 w106 hw24 hb37 hl106 hC106 => ⟨hb37, hw24⟩)
     ·
      intro w107 D hS70 hd70
      exact dg_sub (E' := [(0, (.pointer (some ⟨g, 0, none⟩)))]) ⟨Z, trivial⟩ (dg_plain Z (ow_move Z Z ⟨BX.refl _ _, Z⟩))
     ·
      intro w108 D hS71 hd71
      obtain ⟨hS71, ho258⟩ := hS71
      have ho258 : Own w108 g 111 #[(.slice Ax a_xs.length cx), (.int .i64 x15.2)] := ho258
      have hl108 := leY hm3 hS71
      have hC108 := hC88.go hS71 (fun b e => Or.inr e)
      refine dg_sub (E' := [(63, (.pointer (some ⟨g, 0, none⟩)))]) ⟨(dpE hd71 15 Z Z), trivial⟩ (dg_plain Z (ow_call Z Z Tryd.call60 (w_spec_l20Rd_pick (hG.mono (lz10.trans hl108)) hC108.old (VRep.mono (lz10.trans hl108) hxs) ho258 hm3 hx16) fun v36 w109 hv36 => ?_))
      obtain ⟨⟨hv36, ho261⟩, hb38⟩ := hv36
      obtain rfl := vint_eq hv36
      exact ⟨⟨⟨hS71.trans hb38, ho261⟩, hb38⟩, Z⟩
     ·
      intro w110 D hS72 hd72
      have d126 : PV (RSlice RSpan) (Add g2 (Add g1 M)) [({ Lo := (W ((imin a_top (W (x1.1 + x14))) + 1)), Hi := (imin a_top (W (x1.1 + x14))) } : Span), ({ Lo := (-1), Hi := (imin a_top (W (x1.1 + x14))) } : Span), ({ Lo := x1.1, Hi := (W (a_top + 1)) } : Span)] (D 14) w110 := dpA hd72 14 Z
      obtain ⟨hS72, ho264⟩ := hS72
      have ho264 : Own w110 g 111 #[(.slice Ax a_xs.length cx), (.int .i64 x16.2)] := ho264
      have hC110 := hC88.go hS72 (fun b e => Or.inr e)
      have ho265 := ho216.go hS72 (fun e => hn1 e.symm)
      generalize hq10 : (D 14) = v37 at d126
      refine lw_sub (E' := [(62, v37), (64, (.int .i64 x16.1)), (0, (.pointer (some ⟨g, 0, none⟩))), (1, (.int .i64 a_top)), (6, (.pointer (some ⟨g1, 0, none⟩))), (7, (.pointer (some ⟨g2, 0, none⟩)))]) ⟨(congrArg some hq10), (dpE hd72 16 Z Z), Z, Z, Z, Z, trivial⟩ ?_
      replace h := bind_some h
      obtain ⟨x17, hx17, h⟩ := h
      refine lw_op Z Z Z (ow_indexSlice (R := RSpan) Z Z Z d126 Tryd.underlying71 (Tryd.sizeOf79 _) hx17 fun p16 hp16 => lw_op Z Z Z (ow_load (R := RSpan) Z Z hp16 (Tryd.sizeOf79 _) (Tryd.isAgg79 _) fun v38 hv38 => ?_))
      obtain rfl := open_Span hv38
      refine lw_op0 Z Z (ow_store (X := (One g)) (us := [(.int .i64 x17.Lo), (.int .i64 x17.Hi)]) (cs' := #[(.int .i64 x17.Lo), (.int .i64 x17.Hi)]) Z Z Z Z ho265 (Tryd.sizeOf79 _) Z Z Z Z hm4 (.inl hg2) Z hC110 fun w111 ho267 hb39 hl111 hC111 => ?_)
      have ho268 := ho264.go hb39 (fun e => hn1 e)
      refine lw_nil (ew_then (cw_ret (ew_thenR ?_)))
      have hw25 : VRep RSpan w111 (Add g2 (Add g1 M)) ({ Lo := x17.Lo, Hi := x17.Hi } : Span) (.agg #[(.int .i64 x17.Lo), (.int .i64 x17.Hi)]) := shut_Span
      obtain rfl := Option.some.inj h
      exact ew_ret (res1 Z (.cell Z (own_loadVarA ho267 (Tryd.isAgg79 _) (Tryd.sizeOf79 _) Z))) ⟨_, Z, ⟨(hw25.mono hC111.back), ho268⟩, hC111.bx⟩
    ·
     obtain rfl := hbb4.trans hc4
     refine cw_false Z (cw_skip (ew_then (cw_seq (cw_region (lw_op Z Z Z (ow_loadOwnA Z Z Z ho217 (Tryd.isAgg79 _) (Tryd.sizeOf79 _) Z (lw_op0 Z Z (ow_store (X := (One g)) (us := [(.int .i64 x1.1), (.int .i64 (imin a_top (W (x1.1 + x14))))]) (cs' := #[(.int .i64 x1.1), (.int .i64 (imin a_top (W (x1.1 + x14))))]) Z Z Z Z ho216 (Tryd.sizeOf79 _) Z Z Z Z hm4 (.inl hg2) Z hC88 fun w112 ho270 hb40 hl112 hC112 => ?_))))))))
     have ho271 := ho215.go hb40 (fun e => hn1 e)
     refine lw_nil (ew_then (cw_ret ?_))
     have hw27 : VRep RSpan w112 (Add g2 (Add g1 M)) ({ Lo := x1.1, Hi := (imin a_top (W (x1.1 + x14))) } : Span) (.agg #[(.int .i64 x1.1), (.int .i64 (imin a_top (W (x1.1 + x14))))]) := shut_Span
     obtain rfl := Option.some.inj h
     exact ew_ret (res1 Z (.cell Z (own_loadVarA ho270 (Tryd.isAgg79 _) (Tryd.sizeOf79 _) Z))) ⟨_, Z, ⟨(hw27.mono hC112.back), ho271⟩, hC112.bx⟩
 ·
  obtain rfl := hbb1.trans hc1
  refine lw_off Z Z Z Z Z Z (lw_off Z Z Z Z Z Z (lw_off Z Z Z Z Z Z (lw_op Z Z Z (ow_pickF Z Z Z (lw_nil (ew_then (cw_false Z (cw_skip (ew_then (cw_seq ?_))))))))))
  replace h := bind_some h
  obtain ⟨x18, hx18, h⟩ := h
  replace h := bind_some h
  obtain ⟨x19, hx19, h⟩ := h
  replace h := bind_some h
  obtain ⟨x20, hx20, h⟩ := h
  replace h := bind_some h
  obtain ⟨x21, hx21, h⟩ := h
  have lz11 := (((hl1.trans hl2).trans hl3).trans hl4)
  refine cw_sub (E' := [(0, (.pointer (some ⟨g, 0, none⟩))), (1, (.int .i64 a_top)), (2, (.int .i64 a_n)), (6, (.pointer (some ⟨g1, 0, none⟩))), (7, (.pointer (some ⟨g2, 0, none⟩)))]) ⟨Z, Z, Z, Z, Z, trivial⟩ (cw_drawC (g := g) (T := 111) 13 3 [none, none, none, none, some 0, none, some 1, none, none, some 2, none, none, none] [#[(.slice Ax a_xs.length cx), (.int .i64 x1.2)], #[(.slice Ax a_xs.length cx), (.int .i64 x18.2)], #[(.slice Ax a_xs.length cx), (.int .i64 x19.2)], #[(.slice Ax a_xs.length cx), (.int .i64 x20.2)]] [PEq (.int .i64 a_top), PEq (.pointer (some ⟨g2, 0, none⟩)), PEq (.int .i64 x1.1), PEq (.pointer (some ⟨g, 0, none⟩)), PEq (.int .i64 x18.1), PEq (.pointer (some ⟨g, 0, none⟩)), PEq (.int .i64 x19.1), PV (RSlice RInt) (Add g2 (Add g1 M)) [0, x18.1, x19.1, 4096], PEq (.pointer (some ⟨g, 0, none⟩)), PEq (.int .i64 x20.1), PA RInt (Add g2 (Add g1 M)) x21, PEq (.int .i64 x21), PEq (.int .i64 (W (x1.1 + x21)))] (by kernel_rfl) Z (by kernel_rfl) (by kernel_rfl) ho9 ⟨(PEq.monoY hm3 _), (PEq.monoY hm3 _), (PEq.monoY hm3 _), (PEq.monoY hm3 _), (PEq.monoY hm3 _), (PEq.monoY hm3 _), (PEq.monoY hm3 _), (PV.monoY hm3 _ _), (PEq.monoY hm3 _), (PEq.monoY hm3 _), (PA.monoY hm3 _ _), (PEq.monoY hm3 _), (PEq.monoY hm3 _), trivial⟩ ⟨?_, ?_, ?_, ?_, ?_, ?_, ?_, ?_, ?_, ?_, ?_, ?_, ?_, trivial⟩ ?_)
  ·
   intro w117 D hS73 hd73
   exact dg_sub (E' := [(1, (.int .i64 a_top))]) ⟨Z, trivial⟩ (dg_plain Z (ow_move Z Z ⟨BX.refl _ _, Z⟩))
  ·
   intro w118 D hS74 hd74
   exact dg_sub (E' := [(7, (.pointer (some ⟨g2, 0, none⟩)))]) ⟨Z, trivial⟩ (dg_plain Z (ow_fieldAddr Z Z Tryd.underlying79 Z (Tryd.sizeOf3 _) ⟨BX.refl _ _, Z⟩))
  ·
   intro w119 D hS75 hd75
   have ho290 := ho8.go hS75 (fun e => hn2 e.symm)
   exact dg_sub (E' := [(31, (.pointer (some ⟨g2, 0, none⟩)))]) ⟨(dpE hd75 1 Z Z), trivial⟩ (dg_plain Z (ow_loadOwn1 Z Z Z ho290 (Tryd.isAgg3 _) Z ⟨BX.refl _ _, Z⟩))
  ·
   intro w120 D hS76 hd76
   exact dg_sub (E' := [(0, (.pointer (some ⟨g, 0, none⟩)))]) ⟨Z, trivial⟩ (dg_plain Z (ow_move Z Z ⟨BX.refl _ _, Z⟩))
  ·
   intro w121 D hS77 hd77
   obtain ⟨hS77, ho293⟩ := hS77
   have ho293 : Own w121 g 111 #[(.slice Ax a_xs.length cx), (.int .i64 x1.2)] := ho293
   have hl121 := leY hm3 hS77
   have hC121 := hC4.go hS77 (fun b e => Or.inr e)
   refine dg_sub (E' := [(33, (.pointer (some ⟨g, 0, none⟩)))]) ⟨(dpE hd77 3 Z Z), trivial⟩ (dg_plain Z (ow_call Z Z Tryd.call60 (w_spec_l20Rd_pick (hG.mono (lz11.trans hl121)) hC121.old (VRep.mono (lz11.trans hl121) hxs) ho293 hm3 hx18) fun v43 w122 hv43 => ?_))
   obtain ⟨⟨hv43, ho296⟩, hb45⟩ := hv43
   obtain rfl := vint_eq hv43
   exact ⟨⟨⟨hS77.trans hb45, ho296⟩, hb45⟩, Z⟩
  ·
   intro w123 D hS78 hd78
   exact dg_sub (E' := [(0, (.pointer (some ⟨g, 0, none⟩)))]) ⟨Z, trivial⟩ (dg_plain Z (ow_move Z Z ⟨BX.refl _ _, Z⟩))
  ·
   intro w124 D hS79 hd79
   obtain ⟨hS79, ho301⟩ := hS79
   have ho301 : Own w124 g 111 #[(.slice Ax a_xs.length cx), (.int .i64 x18.2)] := ho301
   have hl124 := leY hm3 hS79
   have hC124 := hC4.go hS79 (fun b e => Or.inr e)
   refine dg_sub (E' := [(35, (.pointer (some ⟨g, 0, none⟩)))]) ⟨(dpE hd79 5 Z Z), trivial⟩ (dg_plain Z (ow_call Z Z Tryd.call60 (w_spec_l20Rd_pick (hG.mono (lz11.trans hl124)) hC124.old (VRep.mono (lz11.trans hl124) hxs) ho301 hm3 hx19) fun v44 w125 hv44 => ?_))
   obtain ⟨⟨hv44, ho304⟩, hb46⟩ := hv44
   obtain rfl := vint_eq hv44
   exact ⟨⟨⟨hS79.trans hb46, ho304⟩, hb46⟩, Z⟩
  ·
   intro w126 D hS80 hd80
   have hC126 := hC4.go hS80 (fun b e => Or.inr e)
   exact dg_sub (E' := [(34, (.int .i64 x18.1)), (36, (.int .i64 x19.1))]) ⟨(dpE hd80 4 Z Z), (dpE hd80 6 Z Z), trivial⟩ (dg_plain Z (ow_buildSlice (R := RInt) (xs := [0, x18.1, x19.1, 4096]) (cs := #[(.int .i64 0), (.int .i64 x18.1), (.int .i64 x19.1), (.int .i64 4096)]) (e := 3) Z Z (by kernel_rfl) Z Z ⟨_, _, Z, (vint _).cells, _, _, Z, (vint _).cells, _, _, Z, (vint _).cells, _, _, Z, (vint _).cells, Z⟩ hC126 fun p19 w127 hw29 hb47 hl127 hC127 => ⟨hb47, hw29⟩))
  ·
   intro w128 D hS81 hd81
   exact dg_sub (E' := [(0, (.pointer (some ⟨g, 0, none⟩)))]) ⟨Z, trivial⟩ (dg_plain Z (ow_move Z Z ⟨BX.refl _ _, Z⟩))
  ·
   intro w129 D hS82 hd82
   obtain ⟨hS82, ho313⟩ := hS82
   have ho313 : Own w129 g 111 #[(.slice Ax a_xs.length cx), (.int .i64 x19.2)] := ho313
   have hl129 := leY hm3 hS82
   have hC129 := hC4.go hS82 (fun b e => Or.inr e)
   refine dg_sub (E' := [(38, (.pointer (some ⟨g, 0, none⟩)))]) ⟨(dpE hd82 8 Z Z), trivial⟩ (dg_plain Z (ow_call Z Z Tryd.call60 (w_spec_l20Rd_pick (hG.mono (lz11.trans hl129)) hC129.old (VRep.mono (lz11.trans hl129) hxs) ho313 hm3 hx20) fun v45 w130 hv45 => ?_))
   obtain ⟨⟨hv45, ho316⟩, hb48⟩ := hv45
   obtain rfl := vint_eq hv45
   exact ⟨⟨⟨hS82.trans hb48, ho316⟩, hb48⟩, Z⟩
  ·
   intro w131 D hS83 hd83
   have d137 : PV (RSlice RInt) (Add g2 (Add g1 M)) [0, x18.1, x19.1, 4096] (D 7) w131 := dpA hd83 7 Z
   generalize hq11 : (D 7) = v46 at d137
   exact dg_sub (E' := [(37, v46), (39, (.int .i64 x20.1))]) ⟨(congrArg some hq11), (dpE hd83 9 Z Z), trivial⟩ (dg_plain Z (ow_indexSlice (R := RInt) Z Z Z d137 Tryd.underlying52 (Tryd.sizeOf3 _) hx21 fun p20 hp20 => ⟨BX.refl _ _, ⟨_, Z, hp20⟩⟩))
  ·
   intro w132 D hS84 hd84
   have d139 : PA RInt (Add g2 (Add g1 M)) x21 (D 10) w132 := dpA hd84 10 Z
   obtain ⟨p21, e3, ha3⟩ := d139
   refine dg_sub (E' := [(40, (.pointer (some p21)))]) ⟨(congrArg some e3), trivial⟩ (dg_plain Z (ow_load (R := RInt) Z Z ha3 (Tryd.sizeOf3 _) (Tryd.isAgg3 _) fun v47 hv47 => ?_))
   obtain rfl := vint_eq hv47
   exact ⟨BX.refl _ _, Z⟩
  ·
   intro w133 D hS85 hd85
   exact dg_sub (E' := [(32, (.int .i64 x1.1)), (41, (.int .i64 x21))]) ⟨(dpE hd85 2 Z Z), (dpE hd85 11 Z Z), trivial⟩ (dg_plain Z (ow_add Z Z Z ⟨BX.refl _ _, Z⟩))
  ·
   intro w134 D hS86 hd86
   obtain ⟨hS86, ho325⟩ := hS86
   have ho325 : Own w134 g 111 #[(.slice Ax a_xs.length cx), (.int .i64 x20.2)] := ho325
   have hl134 := leY hm3 hS86
   have hC134 := hC4.go hS86 (fun b e => Or.inr e)
   have ho326 := ho10.go hS86 (fun e => hn1 e.symm)
   have ho327 := ho8.go hS86 (fun e => hn2 e.symm)
   refine lw_sub (E' := [(30, (.int .i64 a_top)), (42, (.int .i64 (W (x1.1 + x21)))), (0, (.pointer (some ⟨g, 0, none⟩))), (1, (.int .i64 a_top)), (2, (.int .i64 a_n)), (6, (.pointer (some ⟨g1, 0, none⟩))), (7, (.pointer (some ⟨g2, 0, none⟩)))]) ⟨(dpE hd86 0 Z Z), (dpE hd86 12 Z Z), Z, Z, Z, Z, Z, trivial⟩ (lw_op Z Z Z (ow_min Z Z Z (lw_op Z Z Z (ow_fieldAddr Z Z Tryd.underlying79 Z (Tryd.sizeOf3 _) (lw_op0 Z Z (ow_store (X := (One g)) (us := [(.int .i64 (imin a_top (W (x1.1 + x21))))]) (cs' := #[(.int .i64 x1.1), (.int .i64 (imin a_top (W (x1.1 + x21))))]) Z Z Z Z ho327 (Tryd.sizeOf3 _) Z Z Z Z hm5 (.inl hg4) Z hC134 fun w135 ho328 hb49 hl135 hC135 => ?_))))))
   have ho329 := ho325.go hb49 (fun e => hn2 e)
   have ho330 := ho326.go hb49 (fun e => hn3 e)
   refine lw_nil (ew_then (cw_seq (cw_seq (cw_region (lw_op Z Z Z (ow_move Z Z (lw_op Z Z Z (ow_move Z Z ?_))))))))
   have lz13 := ((lz11.trans hl134).trans hl135)
   replace h := bind_some h
   obtain ⟨x22, hx22, h⟩ := h
   refine lw_op Z Z Z (ow_call Z Z Tryd.call81 (w_spec_l20Rd_odd (hG.mono lz13) hC135.old (VRep.mono lz13 hxs) ho329 hm3 hx22) fun v48 w136 hv48 => ?_)
   obtain ⟨⟨hv48, ho331⟩, hb50⟩ := hv48
   have hl136 := Le.of_bx (Add g2 (Add g1 M)) hb50 (fun b e => (by rw [show b = g from e]; exact hm3))
   have hC136 := hC135.go hb50 (fun b e => Or.inr e)
   have ho332 := ho330.go hb50 (fun e => hn1 e.symm)
   have ho333 := ho328.go hb50 (fun e => hn2 e.symm)
   obtain ⟨bb5, hbb5, rfl⟩ := vbool_ex hv48
   refine lw_nil (ew_then ?_)
   replace h := cond_some h
   rcases h with ⟨hc5, h⟩ | ⟨hc5, h⟩
   ·
    obtain rfl := hbb5.trans hc5
    refine cw_true Z (cw_seq ?_)
    replace h := bind_some h
    obtain ⟨x23, hx23, h⟩ := h
    have lz14 := (lz13.trans hl136)
    refine cw_sub (E' := [(0, (.pointer (some ⟨g, 0, none⟩))), (1, (.int .i64 a_top)), (6, (.pointer (some ⟨g1, 0, none⟩))), (7, (.pointer (some ⟨g2, 0, none⟩)))]) ⟨Z, Z, Z, Z, trivial⟩ (cw_drawC (g := g) (T := 111) 17 1 [none, none, none, none, none, none, none, none, none, none, none, none, none, none, none, none, some 0] [#[(.slice Ax a_xs.length cx), (.int .i64 x22.2)], #[(.slice Ax a_xs.length cx), (.int .i64 x23.2)]] [PEq (.pointer (some ⟨g2, 1, none⟩)), PEq (.int .i64 (imin a_top (W (x1.1 + x21)))), PEq (.int .i64 (W ((imin a_top (W (x1.1 + x21))) + 1))), PEq (.pointer (some ⟨g2, 1, none⟩)), PEq (.int .i64 (imin a_top (W (x1.1 + x21)))), PV RSpan (Add g2 (Add g1 M)) ({ Lo := (W ((imin a_top (W (x1.1 + x21))) + 1)), Hi := (imin a_top (W (x1.1 + x21))) } : Span), PEq (.pointer (some ⟨g2, 1, none⟩)), PEq (.int .i64 (imin a_top (W (x1.1 + x21)))), PV RSpan (Add g2 (Add g1 M)) ({ Lo := (-1), Hi := (imin a_top (W (x1.1 + x21))) } : Span), PEq (.pointer (some ⟨g2, 0, none⟩)), PEq (.int .i64 x1.1), PEq (.int .i64 a_top), PEq (.int .i64 (W (a_top + 1))), PV RSpan (Add g2 (Add g1 M)) ({ Lo := x1.1, Hi := (W (a_top + 1)) } : Span), PV (RSlice RSpan) (Add g2 (Add g1 M)) [({ Lo := (W ((imin a_top (W (x1.1 + x21))) + 1)), Hi := (imin a_top (W (x1.1 + x21))) } : Span), ({ Lo := (-1), Hi := (imin a_top (W (x1.1 + x21))) } : Span), ({ Lo := x1.1, Hi := (W (a_top + 1)) } : Span)], PEq (.pointer (some ⟨g, 0, none⟩)), PEq (.int .i64 x23.1)] (by kernel_rfl) Z (by kernel_rfl) (by kernel_rfl) ho331 ⟨(PEq.monoY hm3 _), (PEq.monoY hm3 _), (PEq.monoY hm3 _), (PEq.monoY hm3 _), (PEq.monoY hm3 _), (PV.monoY hm3 _ _), (PEq.monoY hm3 _), (PEq.monoY hm3 _), (PV.monoY hm3 _ _), (PEq.monoY hm3 _), (PEq.monoY hm3 _), (PEq.monoY hm3 _), (PEq.monoY hm3 _), (PV.monoY hm3 _ _), (PV.monoY hm3 _ _), (PEq.monoY hm3 _), (PEq.monoY hm3 _), trivial⟩ ⟨?_, ?_, ?_, ?_, ?_, ?_, ?_, ?_, ?_, ?_, ?_, ?_, ?_, ?_, ?_, ?_, ?_, trivial⟩ ?_)
    ·
     intro w139 D hS87 hd87
     exact dg_sub (E' := [(7, (.pointer (some ⟨g2, 0, none⟩)))]) ⟨Z, trivial⟩ (dg_plain Z (ow_fieldAddr Z Z Tryd.underlying79 Z (Tryd.sizeOf3 _) ⟨BX.refl _ _, Z⟩))
    ·
     intro w140 D hS88 hd88
     have ho343 := ho333.go hS88 (fun e => hn2 e.symm)
     exact dg_sub (E' := [(48, (.pointer (some ⟨g2, 1, none⟩)))]) ⟨(dpE hd88 0 Z Z), trivial⟩ (dg_plain Z (ow_loadOwn1 Z Z Z ho343 (Tryd.isAgg3 _) Z ⟨BX.refl _ _, Z⟩))
    ·
     intro w141 D hS89 hd89
     exact dg_sub (E' := [(49, (.int .i64 (imin a_top (W (x1.1 + x21)))))]) ⟨(dpE hd89 1 Z Z), trivial⟩ (dg_plain Z (ow_add Z Z Z ⟨BX.refl _ _, Z⟩))
    ·
     intro w142 D hS90 hd90
     exact dg_sub (E' := [(7, (.pointer (some ⟨g2, 0, none⟩)))]) ⟨Z, trivial⟩ (dg_plain Z (ow_fieldAddr Z Z Tryd.underlying79 Z (Tryd.sizeOf3 _) ⟨BX.refl _ _, Z⟩))
    ·
     intro w143 D hS91 hd91
     have ho349 := ho333.go hS91 (fun e => hn2 e.symm)
     exact dg_sub (E' := [(51, (.pointer (some ⟨g2, 1, none⟩)))]) ⟨(dpE hd91 3 Z Z), trivial⟩ (dg_plain Z (ow_loadOwn1 Z Z Z ho349 (Tryd.isAgg3 _) Z ⟨BX.refl _ _, Z⟩))
    ·
     intro w144 D hS92 hd92
     refine dg_sub (E' := [(50, (.int .i64 (W ((imin a_top (W (x1.1 + x21))) + 1)))), (52, (.int .i64 (imin a_top (W (x1.1 + x21)))))]) ⟨(dpE hd92 2 Z Z), (dpE hd92 4 Z Z), trivial⟩ (dg_plain Z (ow_build (v := .agg #[(.int .i64 (W ((imin a_top (W (x1.1 + x21))) + 1))), (.int .i64 (imin a_top (W (x1.1 + x21))))]) Z Z (by kernel_rfl) ?_))
     have hw34 : VRep RSpan w144 (Add g2 (Add g1 M)) ({ Lo := (W ((imin a_top (W (x1.1 + x21))) + 1)), Hi := (imin a_top (W (x1.1 + x21))) } : Span) (.agg #[(.int .i64 (W ((imin a_top (W (x1.1 + x21))) + 1))), (.int .i64 (imin a_top (W (x1.1 + x21))))]) := shut_Span
     exact ⟨BX.refl _ _, hw34⟩
    ·
     intro w145 D hS93 hd93
     exact dg_sub (E' := [(7, (.pointer (some ⟨g2, 0, none⟩)))]) ⟨Z, trivial⟩ (dg_plain Z (ow_fieldAddr Z Z Tryd.underlying79 Z (Tryd.sizeOf3 _) ⟨BX.refl _ _, Z⟩))
    ·
     intro w146 D hS94 hd94
     have ho355 := ho333.go hS94 (fun e => hn2 e.symm)
     exact dg_sub (E' := [(54, (.pointer (some ⟨g2, 1, none⟩)))]) ⟨(dpE hd94 6 Z Z), trivial⟩ (dg_plain Z (ow_loadOwn1 Z Z Z ho355 (Tryd.isAgg3 _) Z ⟨BX.refl _ _, Z⟩))
    ·
     intro w147 D hS95 hd95
     refine dg_sub (E' := [(55, (.int .i64 (imin a_top (W (x1.1 + x21)))))]) ⟨(dpE hd95 7 Z Z), trivial⟩ (dg_plain Z (ow_build (v := .agg #[(.int .i64 (-1)), (.int .i64 (imin a_top (W (x1.1 + x21))))]) Z Z (by kernel_rfl) ?_))
     have hw35 : VRep RSpan w147 (Add g2 (Add g1 M)) ({ Lo := (-1), Hi := (imin a_top (W (x1.1 + x21))) } : Span) (.agg #[(.int .i64 (-1)), (.int .i64 (imin a_top (W (x1.1 + x21))))]) := shut_Span
     exact ⟨BX.refl _ _, hw35⟩
    ·
     intro w148 D hS96 hd96
     exact dg_sub (E' := [(7, (.pointer (some ⟨g2, 0, none⟩)))]) ⟨Z, trivial⟩ (dg_plain Z (ow_fieldAddr Z Z Tryd.underlying79 Z (Tryd.sizeOf3 _) ⟨BX.refl _ _, Z⟩))
    ·
     intro w149 D hS97 hd97
     have ho361 := ho333.go hS97 (fun e => hn2 e.symm)
     exact dg_sub (E' := [(57, (.pointer (some ⟨g2, 0, none⟩)))]) ⟨(dpE hd97 9 Z Z), trivial⟩ (dg_plain Z (ow_loadOwn1 Z Z Z ho361 (Tryd.isAgg3 _) Z ⟨BX.refl _ _, Z⟩))
    ·
     intro w150 D hS98 hd98
     exact dg_sub (E' := [(1, (.int .i64 a_top))]) ⟨Z, trivial⟩ (dg_plain Z (ow_move Z Z ⟨BX.refl _ _, Z⟩))
    ·
     intro w151 D hS99 hd99
     exact dg_sub (E' := [(59, (.int .i64 a_top))]) ⟨(dpE hd99 11 Z Z), trivial⟩ (dg_plain Z (ow_add Z Z Z ⟨BX.refl _ _, Z⟩))
    ·
     intro w152 D hS100 hd100
     refine dg_sub (E' := [(58, (.int .i64 x1.1)), (60, (.int .i64 (W (a_top + 1))))]) ⟨(dpE hd100 10 Z Z), (dpE hd100 12 Z Z), trivial⟩ (dg_plain Z (ow_build (v := .agg #[(.int .i64 x1.1), (.int .i64 (W (a_top + 1)))]) Z Z (by kernel_rfl) ?_))
     have hw36 : VRep RSpan w152 (Add g2 (Add g1 M)) ({ Lo := x1.1, Hi := (W (a_top + 1)) } : Span) (.agg #[(.int .i64 x1.1), (.int .i64 (W (a_top + 1)))]) := shut_Span
     exact ⟨BX.refl _ _, hw36⟩
    ·
     intro w153 D hS101 hd101
     have hC153 := hC136.go hS101 (fun b e => Or.inr e)
     have d166 : PV RSpan (Add g2 (Add g1 M)) ({ Lo := (W ((imin a_top (W (x1.1 + x21))) + 1)), Hi := (imin a_top (W (x1.1 + x21))) } : Span) (D 5) w153 := dpA hd101 5 Z
     have d167 : PV RSpan (Add g2 (Add g1 M)) ({ Lo := (-1), Hi := (imin a_top (W (x1.1 + x21))) } : Span) (D 8) w153 := dpA hd101 8 Z
     have d168 : PV RSpan (Add g2 (Add g1 M)) ({ Lo := x1.1, Hi := (W (a_top + 1)) } : Span) (D 13) w153 := dpA hd101 13 Z
     generalize hq12 : (D 5) = v50 at d166
     generalize hq13 : (D 8) = v51 at d167
     generalize hq14 : (D 13) = v52 at d168
     refine dg_sub (E' := [(53, v50), (56, v51), (61, v52)]) ⟨(congrArg some hq12), (congrArg some hq13), (congrArg some hq14), trivial⟩ ?_
     obtain rfl := open_Span d166
     obtain rfl := open_Span d167
     obtain rfl := open_Span d168
     exact dg_plain Z (ow_buildSlice (R := RSpan) (xs := [({ Lo := (W ((imin a_top (W (x1.1 + x21))) + 1)), Hi := (imin a_top (W (x1.1 + x21))) } : Span), ({ Lo := (-1), Hi := (imin a_top (W (x1.1 + x21))) } : Span), ({ Lo := x1.1, Hi := (W (a_top + 1)) } : Span)]) (cs := #[(.int .i64 ({ Lo := (W ((imin a_top (W (x1.1 + x21))) + 1)), Hi := (imin a_top (W (x1.1 + x21))) } : Span).Lo), (.int .i64 ({ Lo := (W ((imin a_top (W (x1.1 + x21))) + 1)), Hi := (imin a_top (W (x1.1 + x21))) } : Span).Hi), (.int .i64 ({ Lo := (-1), Hi := (imin a_top (W (x1.1 + x21))) } : Span).Lo), (.int .i64 ({ Lo := (-1), Hi := (imin a_top (W (x1.1 + x21))) } : Span).Hi), (.int .i64 ({ Lo := x1.1, Hi := (W (a_top + 1)) } : Span).Lo), (.int .i64 ({ Lo := x1.1, Hi := (W (a_top + 1)) } : Span).Hi)]) (e := 79) Z Z (by kernel_rfl) Z Z ⟨_, _, Z, d166.cells, _, _, Z, d167.cells, _, _, Z, d168.cells, Z⟩ hC153 fun p23 w154 hw37 hb53 hl154 hC154 => ⟨hb53, hw37⟩)
    ·
     intro w155 D hS102 hd102
     exact dg_sub (E' := [(0, (.pointer (some ⟨g, 0, none⟩)))]) ⟨Z, trivial⟩ (dg_plain Z (ow_move Z Z ⟨BX.refl _ _, Z⟩))
    ·
     intro w156 D hS103 hd103
     obtain ⟨hS103, ho374⟩ := hS103
     have ho374 : Own w156 g 111 #[(.slice Ax a_xs.length cx), (.int .i64 x22.2)] := ho374
     have hl156 := leY hm3 hS103
     have hC156 := hC136.go hS103 (fun b e => Or.inr e)
     refine dg_sub (E' := [(63, (.pointer (some ⟨g, 0, none⟩)))]) ⟨(dpE hd103 15 Z Z), trivial⟩ (dg_plain Z (ow_call Z Z Tryd.call60 (w_spec_l20Rd_pick (hG.mono (lz14.trans hl156)) hC156.old (VRep.mono (lz14.trans hl156) hxs) ho374 hm3 hx23) fun v53 w157 hv53 => ?_))
     obtain ⟨⟨hv53, ho377⟩, hb54⟩ := hv53
     obtain rfl := vint_eq hv53
     exact ⟨⟨⟨hS103.trans hb54, ho377⟩, hb54⟩, Z⟩
    ·
     intro w158 D hS104 hd104
     have d184 : PV (RSlice RSpan) (Add g2 (Add g1 M)) [({ Lo := (W ((imin a_top (W (x1.1 + x21))) + 1)), Hi := (imin a_top (W (x1.1 + x21))) } : Span), ({ Lo := (-1), Hi := (imin a_top (W (x1.1 + x21))) } : Span), ({ Lo := x1.1, Hi := (W (a_top + 1)) } : Span)] (D 14) w158 := dpA hd104 14 Z
     obtain ⟨hS104, ho380⟩ := hS104
     have ho380 : Own w158 g 111 #[(.slice Ax a_xs.length cx), (.int .i64 x23.2)] := ho380
     have hC158 := hC136.go hS104 (fun b e => Or.inr e)
     have ho381 := ho332.go hS104 (fun e => hn1 e.symm)
     generalize hq15 : (D 14) = v54 at d184
     refine lw_sub (E' := [(62, v54), (64, (.int .i64 x23.1)), (0, (.pointer (some ⟨g, 0, none⟩))), (1, (.int .i64 a_top)), (6, (.pointer (some ⟨g1, 0, none⟩))), (7, (.pointer (some ⟨g2, 0, none⟩)))]) ⟨(congrArg some hq15), (dpE hd104 16 Z Z), Z, Z, Z, Z, trivial⟩ ?_
     replace h := bind_some h
     obtain ⟨x24, hx24, h⟩ := h
     refine lw_op Z Z Z (ow_indexSlice (R := RSpan) Z Z Z d184 Tryd.underlying71 (Tryd.sizeOf79 _) hx24 fun p24 hp24 => lw_op Z Z Z (ow_load (R := RSpan) Z Z hp24 (Tryd.sizeOf79 _) (Tryd.isAgg79 _) fun v55 hv55 => ?_))
     obtain rfl := open_Span hv55
     refine lw_op0 Z Z (ow_store (X := (One g)) (us := [(.int .i64 x24.Lo), (.int .i64 x24.Hi)]) (cs' := #[(.int .i64 x24.Lo), (.int .i64 x24.Hi)]) Z Z Z Z ho381 (Tryd.sizeOf79 _) Z Z Z Z hm4 (.inl hg2) Z hC158 fun w159 ho383 hb55 hl159 hC159 => ?_)
     have ho384 := ho380.go hb55 (fun e => hn1 e)
     refine lw_nil (ew_then (cw_ret (ew_thenR ?_)))
     have hw38 : VRep RSpan w159 (Add g2 (Add g1 M)) ({ Lo := x24.Lo, Hi := x24.Hi } : Span) (.agg #[(.int .i64 x24.Lo), (.int .i64 x24.Hi)]) := shut_Span
     obtain rfl := Option.some.inj h
     exact ew_ret (res1 Z (.cell Z (own_loadVarA ho383 (Tryd.isAgg79 _) (Tryd.sizeOf79 _) Z))) ⟨_, Z, ⟨(hw38.mono hC159.back), ho384⟩, hC159.bx⟩
   ·
    obtain rfl := hbb5.trans hc5
    refine cw_false Z (cw_skip (ew_then (cw_seq (cw_region (lw_op Z Z Z (ow_loadOwnA Z Z Z ho333 (Tryd.isAgg79 _) (Tryd.sizeOf79 _) Z (lw_op0 Z Z (ow_store (X := (One g)) (us := [(.int .i64 x1.1), (.int .i64 (imin a_top (W (x1.1 + x21))))]) (cs' := #[(.int .i64 x1.1), (.int .i64 (imin a_top (W (x1.1 + x21))))]) Z Z Z Z ho332 (Tryd.sizeOf79 _) Z Z Z Z hm4 (.inl hg2) Z hC136 fun w160 ho386 hb56 hl160 hC160 => ?_))))))))
    have ho387 := ho331.go hb56 (fun e => hn1 e)
    refine lw_nil (ew_then (cw_ret ?_))
    have hw40 : VRep RSpan w160 (Add g2 (Add g1 M)) ({ Lo := x1.1, Hi := (imin a_top (W (x1.1 + x21))) } : Span) (.agg #[(.int .i64 x1.1), (.int .i64 (imin a_top (W (x1.1 + x21))))]) := shut_Span
    obtain rfl := Option.some.inj h
    exact ew_ret (res1 Z (.cell Z (own_loadVarA ho386 (Tryd.isAgg79 _) (Tryd.sizeOf79 _) Z))) ⟨_, Z, ⟨(hw40.mono hC160.back), ho387⟩, hC160.bx⟩

theorem w_spec_FieldTop {w : World} {M : Nat → Prop} (_hG : ARep (RArr 4 RShape) w M shapes ⟨0, 0, none⟩) (hO : ∀ b, M b → b < w.heap.size) {a_n : Int} {r : Int} (h : F.spec_FieldTop a_n = some r) :
  Calls Tryd.prog 53 [(.int .i64 a_n)].toArray w fun e w' => ∃ v, e = .returned v ∧ VRep RInt w' M r v ∧ BX No w w' := by
 have hC : Cx No w M w M := Cx.start hO (fun _ e => e.elim)
 clear _hG
 refine walk (N := 11) Tryd.func53 Z Tryd.ntmps53 Z (cw_seq (cw_region (lw_op Z Z Z (ow_assign Z Z (lw_nil (ew_then (cw_seq (cw_seq (cw_region (lw_op Z Z Z (ow_move Z Z (lw_nil (ew_then (cw_block (cw_seq (cw_seq (cw_region (lw_op Z Z Z (ow_eqlI Z Z Z fun bb1 hbb1 => lw_op Z Z Z (ow_assign Z Z (lw_nil (ew_then ?_))))))))))))))))))))))
 replace h := cond_some h
 rcases h with ⟨hc1, h⟩ | ⟨hc1, h⟩
 ·
  obtain rfl := hbb1.trans hc1
  refine cw_true Z (cw_skip (ew_then (cw_true Z (cw_seq (cw_region (lw_op Z Z Z (ow_assign Z Z (lw_nil (ew_then (cw_ret (ew_blockR (ew_thenR ?_))))))))))))
  obtain rfl := Option.some.inj h
  exact ew_ret (res1 Z (.tmp Z)) ⟨_, Z, ((vint _)), hC.bx⟩
 ·
  obtain rfl := hbb1.trans hc1
  refine cw_false Z (cw_region (lw_op Z Z Z (ow_eqlI Z Z Z fun bb2 hbb2 => lw_op Z Z Z (ow_assign Z Z (lw_nil (ew_then ?_))))))
  replace h := cond_some h
  rcases h with ⟨hc2, h⟩ | ⟨hc2, h⟩
  ·
   obtain rfl := hbb2.trans hc2
   refine cw_true Z (cw_seq (cw_region (lw_op Z Z Z (ow_assign Z Z (lw_nil (ew_then (cw_ret (ew_blockR (ew_thenR ?_)))))))))
   obtain rfl := Option.some.inj h
   exact ew_ret (res1 Z (.tmp Z)) ⟨_, Z, ((vint _)), hC.bx⟩
  ·
   obtain rfl := hbb2.trans hc2
   refine cw_false Z (cw_seq (cw_region (lw_op Z Z Z (ow_eqlI Z Z Z fun bb3 hbb3 => lw_op Z Z Z (ow_assign Z Z (lw_nil (ew_then ?_)))))))
   replace h := cond_some h
   rcases h with ⟨hc3, h⟩ | ⟨hc3, h⟩
   ·
    obtain rfl := hbb3.trans hc3
    refine cw_true Z (cw_seq (cw_region (lw_op Z Z Z (ow_assign Z Z (lw_nil (ew_then (cw_ret (ew_blockR (ew_thenR ?_)))))))))
    obtain rfl := Option.some.inj h
    exact ew_ret (res1 Z (.tmp Z)) ⟨_, Z, ((vint _)), hC.bx⟩
   ·
    obtain rfl := hbb3.trans hc3
    refine cw_false Z (cw_seq (cw_region (lw_op Z Z Z (ow_eqlI Z Z Z fun bb4 hbb4 => lw_op Z Z Z (ow_assign Z Z (lw_nil (ew_then ?_)))))))
    replace h := cond_some h
    rcases h with ⟨hc4, h⟩ | ⟨hc4, h⟩
    ·
     obtain rfl := hbb4.trans hc4
     refine cw_true Z (cw_seq (cw_region (lw_op Z Z Z (ow_assign Z Z (lw_nil (ew_then (cw_ret (ew_blockR (ew_thenR ?_)))))))))
     obtain rfl := Option.some.inj h
     exact ew_ret (res1 Z (.tmp Z)) ⟨_, Z, ((vint _)), hC.bx⟩
    ·
     obtain rfl := hbb4.trans hc4
     refine cw_false Z (cw_skip (ew_blockN (ew_then (cw_seq (cw_region (lw_op Z Z Z (ow_assign Z Z (lw_nil (ew_then (cw_ret ?_))))))))))
     obtain rfl := Option.some.inj h
     exact ew_ret (res1 Z (.tmp Z)) ⟨_, Z, ((vint _)), hC.bx⟩

theorem w_spec_l20Test {w : World} {M : Nat → Prop} (hG : ARep (RArr 4 RShape) w M shapes ⟨0, 0, none⟩) (hO : ∀ b, M b → b < w.heap.size) {g : Nat} {Ax : Option Addr} {cx : Nat} {a_xs : List Int} {a_pos : Int} (hxs : VRep (RSlice RU8) w M a_xs (.slice Ax a_xs.length cx)) (hown : Own w g 111 #[.slice Ax a_xs.length cx, .int .i64 a_pos]) (hgM : M g) {a_n : Int} {r : Test × Int} (h : F.spec_l20Test a_xs a_pos a_n = some r) :
  Calls Tryd.prog 102 [(.pointer (some ⟨g, 0, none⟩)), (.int .i64 a_n)].toArray w fun e w' => ∃ v, e = .returned v ∧ (VRep RTest w' M r.1 v ∧ Own w' g 111 #[.slice Ax a_xs.length cx, .int .i64 r.2]) ∧ BX (One g) w w' := by
 have hX : ∀ b, (One g) b → M b := fun b e => e ▸ hgM
 have hC : Cx (One g) w M w M := Cx.start hO hX
 refine walk (N := 83) Tryd.func102 Z Tryd.ntmps102 Z (cw_seq (cw_region (lw_op Z Z Z (ow_alloc Z (Tryd.zeroValue31 _) hC fun g1 w1 hg1 hg2 ho1 hb1 hl1 hC1 => ?_))))
 have hn1 := Nat.ne_of_lt (Nat.lt_of_lt_of_le hown.lt hg1)
 have ho2 := hown.no hb1
 have hm1 : (Add g1 M) g := .inr hgM
 have hm2 : (Add g1 M) g1 := .inl Z
 refine lw_nil (ew_then (cw_seq (cw_region (lw_op Z Z Z (ow_move Z Z ?_)))))
 replace h := bind_some h
 obtain ⟨x1, hx1, h⟩ := h
 refine lw_op Z Z Z (ow_call Z Z Tryd.call60 (w_spec_l20Rd_pick (hG.mono hl1) hC1.old (VRep.mono hl1 hxs) ho2 hm1 hx1) fun v1 w2 hv1 => ?_)
 obtain ⟨⟨hv1, ho3⟩, hb2⟩ := hv1
 have hl2 := Le.of_bx (Add g1 M) hb2 (fun b e => (by rw [show b = g from e]; exact hm1))
 have hC2 := hC1.go hb2 (fun b e => Or.inr e)
 have ho4 := ho1.go hb2 (fun e => hn1 e.symm)
 obtain rfl := vint_eq hv1
 refine lw_op Z Z Z (ow_move Z Z ?_)
 replace h := bind_some h
 obtain ⟨x2, hx2, h⟩ := h
 refine lw_op Z Z Z (ow_call Z Z Tryd.call60 (w_spec_l20Rd_pick (hG.mono (hl1.trans hl2)) hC2.old (VRep.mono (hl1.trans hl2) hxs) ho3 hm1 hx2) fun v2 w3 hv2 => ?_)
 obtain ⟨⟨hv2, ho5⟩, hb3⟩ := hv2
 have hl3 := Le.of_bx (Add g1 M) hb3 (fun b e => (by rw [show b = g from e]; exact hm1))
 have hC3 := hC2.go hb3 (fun b e => Or.inr e)
 have ho6 := ho4.go hb3 (fun e => hn1 e.symm)
 obtain rfl := vint_eq hv2
 refine lw_op Z Z Z (ow_eqlI Z Z Z fun bb1 hbb1 => lw_op Z Z Z (ow_build (v := .agg #[(.int .i64 x1.1), (.int .i64 0), (.int .i64 0), (.bool bb1)]) Z Z (by kernel_rfl) (lw_op Z Z Z (ow_alloc Z (Tryd.zeroValue31 _) hC3 fun g2 w4 hg3 hg4 ho7 hb4 hl4 hC4 => ?_))))
 have hn2 := Nat.ne_of_lt (Nat.lt_of_lt_of_le ho5.lt hg3)
 have ho8 := ho5.no hb4
 have hm3 : (Add g2 (Add g1 M)) g := .inr hm1
 have hn3 := Nat.ne_of_lt (Nat.lt_of_lt_of_le ho6.lt hg3)
 have ho9 := ho6.no hb4
 have hm4 : (Add g2 (Add g1 M)) g1 := .inr hm2
 have hm5 : (Add g2 (Add g1 M)) g2 := .inl Z
 refine lw_op0 Z Z (ow_store (X := (One g)) (us := [(.int .i64 x1.1), (.int .i64 0), (.int .i64 0), (.bool bb1)]) (cs' := #[(.int .i64 x1.1), (.int .i64 0), (.int .i64 0), (.bool bb1)]) Z Z Z Z ho7 (Tryd.sizeOf31 _) Z Z Z Z hm5 (.inl hg4) Z hC4 fun w5 ho10 hb5 hl5 hC5 => ?_)
 have ho11 := ho8.go hb5 (fun e => hn2 e)
 have ho12 := ho9.go hb5 (fun e => hn3 e)
 refine lw_nil (ew_then (cw_seq (cw_region (lw_op Z Z Z (ow_fieldAddr Z Z Tryd.underlying31 Z (Tryd.sizeOf3 _) (lw_op Z Z Z (ow_loadOwn1 Z Z Z ho10 (Tryd.isAgg3 _) Z ?_)))))))
 replace h := bind_some h
 obtain ⟨x3, hx3, h⟩ := h
 have lz1 := ((((hl1.trans hl2).trans hl3).trans hl4).trans hl5)
 refine lw_op Z Z Z (ow_call Z Z Tryd.call53 (w_spec_FieldTop (hG.mono lz1) hC5.old hx3) fun v3 w6 hv3 => ?_)
 obtain ⟨hv3, hb6⟩ := hv3
 have hl6 := Le.no (Add g2 (Add g1 M)) hb6
 have hC6 := hC5.no hb6
 have ho13 := ho11.no hb6
 have ho14 := ho12.no hb6
 have ho15 := ho10.no hb6
 obtain rfl := vint_eq hv3
 refine lw_op Z Z Z (ow_assign Z Z (lw_nil (ew_then (cw_seq (cw_region (lw_op Z Z Z (ow_move Z Z (lw_op Z Z Z (ow_move Z Z ?_)))))))))
 replace h := bind_some h
 obtain ⟨x4, hx4, h⟩ := h
 refine lw_op Z Z Z (ow_call Z Z Tryd.call105 (w_spec_l20Span (hG.mono (lz1.trans hl6)) hC6.old (VRep.mono (lz1.trans hl6) hxs) ho13 hm3 hx4) fun v4 w7 hv4 => ?_)
 obtain ⟨⟨hv4, ho16⟩, hb7⟩ := hv4
 have hl7 := Le.of_bx (Add g2 (Add g1 M)) hb7 (fun b e => (by rw [show b = g from e]; exact hm3))
 have hC7 := hC6.go hb7 (fun b e => Or.inr e)
 have ho17 := ho14.go hb7 (fun e => hn1 e.symm)
 have ho18 := ho15.go hb7 (fun e => hn2 e.symm)
 refine lw_op Z Z Z (ow_alloc Z (Tryd.zeroValue79 _) hC7 fun g3 w8 hg5 hg6 ho19 hb8 hl8 hC8 => ?_)
 have hn4 := Nat.ne_of_lt (Nat.lt_of_lt_of_le ho16.lt hg5)
 have ho20 := ho16.no hb8
 have hm6 : (Add g3 (Add g2 (Add g1 M))) g := .inr hm3
 have hn5 := Nat.ne_of_lt (Nat.lt_of_lt_of_le ho17.lt hg5)
 have ho21 := ho17.no hb8
 have hm7 : (Add g3 (Add g2 (Add g1 M))) g1 := .inr hm4
 have hn6 := Nat.ne_of_lt (Nat.lt_of_lt_of_le ho18.lt hg5)
 have ho22 := ho18.no hb8
 have hm8 : (Add g3 (Add g2 (Add g1 M))) g2 := .inr hm5
 have hm9 : (Add g3 (Add g2 (Add g1 M))) g3 := .inl Z
 obtain rfl := open_Span hv4
 refine lw_op0 Z Z (ow_store (X := (One g)) (us := [(.int .i64 x4.1.Lo), (.int .i64 x4.1.Hi)]) (cs' := #[(.int .i64 x4.1.Lo), (.int .i64 x4.1.Hi)]) Z Z Z Z ho19 (Tryd.sizeOf79 _) Z Z Z Z hm9 (.inl hg6) Z hC8 fun w9 ho23 hb9 hl9 hC9 => ?_)
 have ho24 := ho20.go hb9 (fun e => hn4 e)
 have ho25 := ho21.go hb9 (fun e => hn5 e)
 have ho26 := ho22.go hb9 (fun e => hn6 e)
 refine lw_nil (ew_then (cw_seq (cw_seq (cw_region (lw_op Z Z Z (ow_fieldAddr Z Z Tryd.underlying31 Z (Tryd.sizeOf3 _) (lw_op Z Z Z (ow_loadOwn1 Z Z Z ho26 (Tryd.isAgg3 _) Z (lw_op Z Z Z (ow_lss Z Z Z fun bb2 hbb2 => lw_op Z Z Z (ow_move Z Z ?_)))))))))))
 replace h := cond_some h
 rcases h with ⟨hc1, h⟩ | ⟨hc1, h⟩
 ·
  obtain rfl := hbb2.trans hc1
  refine lw_on Z Z Z Z Z Z (ow_move Z Z ?_)
  have lz2 := ((((lz1.trans hl6).trans hl7).trans hl8).trans hl9)
  replace h := bind_some h
  obtain ⟨x5, hx5, h⟩ := h
  refine lw_on Z Z Z Z Z Z (ow_call Z Z Tryd.call60 (w_spec_l20Rd_pick (hG.mono lz2) hC9.old (VRep.mono lz2 hxs) ho24 hm6 hx5) fun v5 w10 hv5 => ?_)
  obtain ⟨⟨hv5, ho27⟩, hb10⟩ := hv5
  have hl10 := Le.of_bx (Add g3 (Add g2 (Add g1 M))) hb10 (fun b e => (by rw [show b = g from e]; exact hm6))
  have hC10 := hC9.go hb10 (fun b e => Or.inr e)
  have ho28 := ho25.go hb10 (fun e => hn1 e.symm)
  have ho29 := ho26.go hb10 (fun e => hn2 e.symm)
  have ho30 := ho23.go hb10 (fun e => hn4 e.symm)
  obtain rfl := vint_eq hv5
  refine lw_on Z Z Z Z Z Z (ow_eqlI Z Z Z fun bb3 hbb3 => lw_op Z Z Z (ow_pickT Z Z Z (lw_nil (ew_then ?_))))
  replace h := cond_some h
  rcases h with ⟨hc2, h⟩ | ⟨hc2, h⟩
  ·
   obtain rfl := hbb3.trans hc2
   refine cw_true Z (cw_seq (cw_region (lw_op Z Z Z (ow_move Z Z ?_))))
   replace h := bind_some h
   obtain ⟨x6, hx6, h⟩ := h
   refine lw_op Z Z Z (ow_call Z Z Tryd.call60 (w_spec_l20Rd_pick (hG.mono (lz2.trans hl10)) hC10.old (VRep.mono (lz2.trans hl10) hxs) ho27 hm6 hx6) fun v6 w11 hv6 => ?_)
   obtain ⟨⟨hv6, ho31⟩, hb11⟩ := hv6
   have hl11 := Le.of_bx (Add g3 (Add g2 (Add g1 M))) hb11 (fun b e => (by rw [show b = g from e]; exact hm6))
   have hC11 := hC10.go hb11 (fun b e => Or.inr e)
   have ho32 := ho28.go hb11 (fun e => hn1 e.symm)
   have ho33 := ho29.go hb11 (fun e => hn2 e.symm)
   have ho34 := ho30.go hb11 (fun e => hn4 e.symm)
   obtain rfl := vint_eq hv6
   refine lw_op Z Z Z (ow_build (v := .agg #[(.int .i64 x6.1), (.int .i64 0)]) Z Z (by kernel_rfl) (lw_op0 Z Z (ow_store (X := (One g)) (us := [(.int .i64 x6.1), (.int .i64 0)]) (cs' := #[(.int .i64 x6.1), (.int .i64 0)]) Z Z Z Z ho34 (Tryd.sizeOf79 _) Z Z Z Z hm9 (.inl hg6) Z hC11 fun w12 ho35 hb12 hl12 hC12 => ?_)))
   have ho36 := ho31.go hb12 (fun e => hn4 e)
   have ho37 := ho32.go hb12 (fun e => hn5 e)
   have ho38 := ho33.go hb12 (fun e => hn6 e)
   refine lw_nil (ew_then ?_)
   replace h := bind_some h
   obtain ⟨x7, hx7, h⟩ := h
   have lz3 := (((lz2.trans hl10).trans hl11).trans hl12)
   refine cw_sub (E' := [(0, (.pointer (some ⟨g, 0, none⟩))), (1, (.int .i64 a_n)), (4, (.pointer (some ⟨g1, 0, none⟩))), (5, (.pointer (some ⟨g2, 0, none⟩))), (6, (.int .i64 x3)), (7, (.pointer (some ⟨g3, 0, none⟩)))]) ⟨Z, Z, Z, Z, Z, Z, trivial⟩ (cw_drawC (g := g) (T := 111) 4 1 [none, none, none, some 0] [#[(.slice Ax a_xs.length cx), (.int .i64 x6.2)], #[(.slice Ax a_xs.length cx), (.int .i64 x7.2)]] [PEq (.pointer (some ⟨g3, 0, none⟩)), PEq (.int .i64 x6.1), PEq (.pointer (some ⟨g, 0, none⟩)), PEq (.int .i64 x7.1)] (by kernel_rfl) Z (by kernel_rfl) (by kernel_rfl) ho36 ⟨(PEq.monoY hm6 _), (PEq.monoY hm6 _), (PEq.monoY hm6 _), (PEq.monoY hm6 _), trivial⟩ ⟨?_, ?_, ?_, ?_, trivial⟩ ?_)
   ·
    intro w14 D hS1 hd1
    exact dg_sub (E' := [(7, (.pointer (some ⟨g3, 0, none⟩)))]) ⟨Z, trivial⟩ (dg_plain Z (ow_fieldAddr Z Z Tryd.underlying79 Z (Tryd.sizeOf3 _) ⟨BX.refl _ _, Z⟩))
   ·
    intro w15 D hS2 hd2
    have ho48 := ho35.go hS2 (fun e => hn4 e.symm)
    exact dg_sub (E' := [(31, (.pointer (some ⟨g3, 0, none⟩)))]) ⟨(dpE hd2 0 Z Z), trivial⟩ (dg_plain Z (ow_loadOwn1 Z Z Z ho48 (Tryd.isAgg3 _) Z ⟨BX.refl _ _, Z⟩))
   ·
    intro w16 D hS3 hd3
    exact dg_sub (E' := [(0, (.pointer (some ⟨g, 0, none⟩)))]) ⟨Z, trivial⟩ (dg_plain Z (ow_move Z Z ⟨BX.refl _ _, Z⟩))
   ·
    intro w17 D hS4 hd4
    obtain ⟨hS4, ho52⟩ := hS4
    have ho52 : Own w17 g 111 #[(.slice Ax a_xs.length cx), (.int .i64 x6.2)] := ho52
    have hl17 := leY hm6 hS4
    have hC17 := hC12.go hS4 (fun b e => Or.inr e)
    refine dg_sub (E' := [(33, (.pointer (some ⟨g, 0, none⟩)))]) ⟨(dpE hd4 2 Z Z), trivial⟩ (dg_plain Z (ow_call Z Z Tryd.call60 (w_spec_l20Rd_pick (hG.mono (lz3.trans hl17)) hC17.old (VRep.mono (lz3.trans hl17) hxs) ho52 hm6 hx7) fun v8 w18 hv8 => ?_))
    obtain ⟨⟨hv8, ho56⟩, hb14⟩ := hv8
    obtain rfl := vint_eq hv8
    exact ⟨⟨⟨hS4.trans hb14, ho56⟩, hb14⟩, Z⟩
   ·
    intro w19 D hS5 hd5
    obtain ⟨hS5, ho60⟩ := hS5
    have ho60 : Own w19 g 111 #[(.slice Ax a_xs.length cx), (.int .i64 x7.2)] := ho60
    have hl19 := leY hm6 hS5
    have hC19 := hC12.go hS5 (fun b e => Or.inr e)
    have ho61 := ho37.go hS5 (fun e => hn1 e.symm)
    have ho62 := ho38.go hS5 (fun e => hn2 e.symm)
    have ho63 := ho35.go hS5 (fun e => hn4 e.symm)
    refine lw_sub (E' := [(32, (.int .i64 x6.1)), (34, (.int .i64 x7.1)), (0, (.pointer (some ⟨g, 0, none⟩))), (1, (.int .i64 a_n)), (4, (.pointer (some ⟨g1, 0, none⟩))), (5, (.pointer (some ⟨g2, 0, none⟩))), (6, (.int .i64 x3)), (7, (.pointer (some ⟨g3, 0, none⟩)))]) ⟨(dpE hd5 1 Z Z), (dpE hd5 3 Z Z), Z, Z, Z, Z, Z, Z, trivial⟩ (lw_op Z Z Z (ow_add Z Z Z (lw_op Z Z Z (ow_fieldAddr Z Z Tryd.underlying79 Z (Tryd.sizeOf3 _) (lw_op0 Z Z (ow_store (X := (One g)) (us := [(.int .i64 (W (x6.1 + x7.1)))]) (cs' := #[(.int .i64 x6.1), (.int .i64 (W (x6.1 + x7.1)))]) Z Z Z Z ho63 (Tryd.sizeOf3 _) Z Z Z Z hm9 (.inl hg6) Z hC19 fun w20 ho64 hb15 hl20 hC20 => ?_))))))
    have ho65 := ho60.go hb15 (fun e => hn4 e)
    have ho66 := ho61.go hb15 (fun e => hn5 e)
    have ho67 := ho62.go hb15 (fun e => hn6 e)
    refine lw_nil (ew_then (cw_seq (cw_seq (cw_region (lw_op Z Z Z (ow_move Z Z ?_))))))
    have lz6 := ((lz3.trans hl19).trans hl20)
    replace h := bind_some h
    obtain ⟨x8, hx8, h⟩ := h
    refine lw_op Z Z Z (ow_call Z Z Tryd.call60 (w_spec_l20Rd_pick (hG.mono lz6) hC20.old (VRep.mono lz6 hxs) ho65 hm6 hx8) fun v9 w21 hv9 => ?_)
    obtain ⟨⟨hv9, ho68⟩, hb16⟩ := hv9
    have hl21 := Le.of_bx (Add g3 (Add g2 (Add g1 M))) hb16 (fun b e => (by rw [show b = g from e]; exact hm6))
    have hC21 := hC20.go hb16 (fun b e => Or.inr e)
    have ho69 := ho66.go hb16 (fun e => hn1 e.symm)
    have ho70 := ho67.go hb16 (fun e => hn2 e.symm)
    have ho71 := ho64.go hb16 (fun e => hn4 e.symm)
    obtain rfl := vint_eq hv9
    refine lw_op Z Z Z (ow_eqlI Z Z Z fun bb4 hbb4 => lw_nil (ew_then ?_))
    replace h := cond_some h
    rcases h with ⟨hc3, h⟩ | ⟨hc3, h⟩
    ·
     obtain rfl := hbb4.trans hc3
     refine cw_true Z ?_
     replace h := bind_some h
     obtain ⟨x9, hx9, h⟩ := h
     have lz7 := (lz6.trans hl21)
     refine cw_sub (E' := [(0, (.pointer (some ⟨g, 0, none⟩))), (1, (.int .i64 a_n)), (4, (.pointer (some ⟨g1, 0, none⟩))), (5, (.pointer (some ⟨g2, 0, none⟩))), (6, (.int .i64 x3)), (7, (.pointer (some ⟨g3, 0, none⟩)))]) ⟨Z, Z, Z, Z, Z, Z, trivial⟩ (cw_drawC (g := g) (T := 111) 12 1 [none, none, none, none, none, none, none, none, none, none, none, some 0] [#[(.slice Ax a_xs.length cx), (.int .i64 x8.2)], #[(.slice Ax a_xs.length cx), (.int .i64 x9.2)]] [PEq (.int .i64 x3), PV RSpan (Add g3 (Add g2 (Add g1 M))) ({ Lo := 0, Hi := x3 } : Span), PEq (.pointer (some ⟨g3, 1, none⟩)), PEq (.int .i64 (W (x6.1 + x7.1))), PV RSpan (Add g3 (Add g2 (Add g1 M))) ({ Lo := 0, Hi := (W (x6.1 + x7.1)) } : Span), PEq (.pointer (some ⟨g3, 0, none⟩)), PEq (.int .i64 x6.1), PEq (.int .i64 x3), PV RSpan (Add g3 (Add g2 (Add g1 M))) ({ Lo := x6.1, Hi := x3 } : Span), PV (RSlice RSpan) (Add g3 (Add g2 (Add g1 M))) [({ Lo := 0, Hi := x3 } : Span), ({ Lo := 0, Hi := (W (x6.1 + x7.1)) } : Span), ({ Lo := x6.1, Hi := x3 } : Span)], PEq (.pointer (some ⟨g, 0, none⟩)), PEq (.int .i64 x9.1)] (by kernel_rfl) Z (by kernel_rfl) (by kernel_rfl) ho68 ⟨(PEq.monoY hm6 _), (PV.monoY hm6 _ _), (PEq.monoY hm6 _), (PEq.monoY hm6 _), (PV.monoY hm6 _ _), (PEq.monoY hm6 _), (PEq.monoY hm6 _), (PEq.monoY hm6 _), (PV.monoY hm6 _ _), (PV.monoY hm6 _ _), (PEq.monoY hm6 _), (PEq.monoY hm6 _), trivial⟩ ⟨?_, ?_, ?_, ?_, ?_, ?_, ?_, ?_, ?_, ?_, ?_, ?_, trivial⟩ ?_)
     ·
      intro w24 D hS6 hd6
      exact dg_sub (E' := [(6, (.int .i64 x3))]) ⟨Z, trivial⟩ (dg_plain Z (ow_move Z Z ⟨BX.refl _ _, Z⟩))
     ·
      intro w25 D hS7 hd7
      refine dg_sub (E' := [(40, (.int .i64 x3))]) ⟨(dpE hd7 0 Z Z), trivial⟩ (dg_plain Z (ow_build (v := .agg #[(.int .i64 0), (.int .i64 x3)]) Z Z (by kernel_rfl) ?_))
      have hw7 : VRep RSpan w25 (Add g3 (Add g2 (Add g1 M))) ({ Lo := 0, Hi := x3 } : Span) (.agg #[(.int .i64 0), (.int .i64 x3)]) := shut_Span
      exact ⟨BX.refl _ _, hw7⟩
     ·
      intro w26 D hS8 hd8
      exact dg_sub (E' := [(7, (.pointer (some ⟨g3, 0, none⟩)))]) ⟨Z, trivial⟩ (dg_plain Z (ow_fieldAddr Z Z Tryd.underlying79 Z (Tryd.sizeOf3 _) ⟨BX.refl _ _, Z⟩))
     ·
      intro w27 D hS9 hd9
      have ho91 := ho71.go hS9 (fun e => hn4 e.symm)
      exact dg_sub (E' := [(42, (.pointer (some ⟨g3, 1, none⟩)))]) ⟨(dpE hd9 2 Z Z), trivial⟩ (dg_plain Z (ow_loadOwn1 Z Z Z ho91 (Tryd.isAgg3 _) Z ⟨BX.refl _ _, Z⟩))
     ·
      intro w28 D hS10 hd10
      refine dg_sub (E' := [(43, (.int .i64 (W (x6.1 + x7.1))))]) ⟨(dpE hd10 3 Z Z), trivial⟩ (dg_plain Z (ow_build (v := .agg #[(.int .i64 0), (.int .i64 (W (x6.1 + x7.1)))]) Z Z (by kernel_rfl) ?_))
      have hw8 : VRep RSpan w28 (Add g3 (Add g2 (Add g1 M))) ({ Lo := 0, Hi := (W (x6.1 + x7.1)) } : Span) (.agg #[(.int .i64 0), (.int .i64 (W (x6.1 + x7.1)))]) := shut_Span
      exact ⟨BX.refl _ _, hw8⟩
     ·
      intro w29 D hS11 hd11
      exact dg_sub (E' := [(7, (.pointer (some ⟨g3, 0, none⟩)))]) ⟨Z, trivial⟩ (dg_plain Z (ow_fieldAddr Z Z Tryd.underlying79 Z (Tryd.sizeOf3 _) ⟨BX.refl _ _, Z⟩))
     ·
      intro w30 D hS12 hd12
      have ho100 := ho71.go hS12 (fun e => hn4 e.symm)
      exact dg_sub (E' := [(45, (.pointer (some ⟨g3, 0, none⟩)))]) ⟨(dpE hd12 5 Z Z), trivial⟩ (dg_plain Z (ow_loadOwn1 Z Z Z ho100 (Tryd.isAgg3 _) Z ⟨BX.refl _ _, Z⟩))
     ·
      intro w31 D hS13 hd13
      exact dg_sub (E' := [(6, (.int .i64 x3))]) ⟨Z, trivial⟩ (dg_plain Z (ow_move Z Z ⟨BX.refl _ _, Z⟩))
     ·
      intro w32 D hS14 hd14
      refine dg_sub (E' := [(46, (.int .i64 x6.1)), (47, (.int .i64 x3))]) ⟨(dpE hd14 6 Z Z), (dpE hd14 7 Z Z), trivial⟩ (dg_plain Z (ow_build (v := .agg #[(.int .i64 x6.1), (.int .i64 x3)]) Z Z (by kernel_rfl) ?_))
      have hw9 : VRep RSpan w32 (Add g3 (Add g2 (Add g1 M))) ({ Lo := x6.1, Hi := x3 } : Span) (.agg #[(.int .i64 x6.1), (.int .i64 x3)]) := shut_Span
      exact ⟨BX.refl _ _, hw9⟩
     ·
      intro w33 D hS15 hd15
      have hC33 := hC21.go hS15 (fun b e => Or.inr e)
      have d13 : PV RSpan (Add g3 (Add g2 (Add g1 M))) ({ Lo := 0, Hi := x3 } : Span) (D 1) w33 := dpA hd15 1 Z
      have d14 : PV RSpan (Add g3 (Add g2 (Add g1 M))) ({ Lo := 0, Hi := (W (x6.1 + x7.1)) } : Span) (D 4) w33 := dpA hd15 4 Z
      have d15 : PV RSpan (Add g3 (Add g2 (Add g1 M))) ({ Lo := x6.1, Hi := x3 } : Span) (D 8) w33 := dpA hd15 8 Z
      generalize hq1 : (D 1) = v11 at d13
      generalize hq2 : (D 4) = v12 at d14
      generalize hq3 : (D 8) = v13 at d15
      refine dg_sub (E' := [(41, v11), (44, v12), (48, v13)]) ⟨(congrArg some hq1), (congrArg some hq2), (congrArg some hq3), trivial⟩ ?_
      obtain rfl := open_Span d13
      obtain rfl := open_Span d14
      obtain rfl := open_Span d15
      exact dg_plain Z (ow_buildSlice (R := RSpan) (xs := [({ Lo := 0, Hi := x3 } : Span), ({ Lo := 0, Hi := (W (x6.1 + x7.1)) } : Span), ({ Lo := x6.1, Hi := x3 } : Span)]) (cs := #[(.int .i64 ({ Lo := 0, Hi := x3 } : Span).Lo), (.int .i64 ({ Lo := 0, Hi := x3 } : Span).Hi), (.int .i64 ({ Lo := 0, Hi := (W (x6.1 + x7.1)) } : Span).Lo), (.int .i64 ({ Lo := 0, Hi := (W (x6.1 + x7.1)) } : Span).Hi), (.int .i64 ({ Lo := x6.1, Hi := x3 } : Span).Lo), (.int .i64 ({ Lo := x6.1, Hi := x3 } : Span).Hi)]) (e := 79) Z Z (by kernel_rfl) Z Z ⟨_, _, Z, d13.cells, _, _, Z, d14.cells, _, _, Z, d15.cells, Z⟩ hC33 fun p2 w34 hw10 hb19 hl34 hC34 => ⟨hb19, hw10⟩)
     ·
      intro w35 D hS16 hd16
      exact dg_sub (E' := [(0, (.pointer (some ⟨g, 0, none⟩)))]) ⟨Z, trivial⟩ (dg_plain Z (ow_move Z Z ⟨BX.refl _ _, Z⟩))
     ·
      intro w36 D hS17 hd17
      obtain ⟨hS17, ho116⟩ := hS17
      have ho116 : Own w36 g 111 #[(.slice Ax a_xs.length cx), (.int .i64 x8.2)] := ho116
      have hl36 := leY hm6 hS17
      have hC36 := hC21.go hS17 (fun b e => Or.inr e)
      refine dg_sub (E' := [(50, (.pointer (some ⟨g, 0, none⟩)))]) ⟨(dpE hd17 10 Z Z), trivial⟩ (dg_plain Z (ow_call Z Z Tryd.call60 (w_spec_l20Rd_pick (hG.mono (lz7.trans hl36)) hC36.old (VRep.mono (lz7.trans hl36) hxs) ho116 hm6 hx9) fun v14 w37 hv14 => ?_))
      obtain ⟨⟨hv14, ho120⟩, hb20⟩ := hv14
      obtain rfl := vint_eq hv14
      exact ⟨⟨⟨hS17.trans hb20, ho120⟩, hb20⟩, Z⟩
     ·
      intro w38 D hS18 hd18
      have d26 : PV (RSlice RSpan) (Add g3 (Add g2 (Add g1 M))) [({ Lo := 0, Hi := x3 } : Span), ({ Lo := 0, Hi := (W (x6.1 + x7.1)) } : Span), ({ Lo := x6.1, Hi := x3 } : Span)] (D 9) w38 := dpA hd18 9 Z
      obtain ⟨hS18, ho124⟩ := hS18
      have ho124 : Own w38 g 111 #[(.slice Ax a_xs.length cx), (.int .i64 x9.2)] := ho124
      have hl38 := leY hm6 hS18
      have hC38 := hC21.go hS18 (fun b e => Or.inr e)
      have ho125 := ho69.go hS18 (fun e => hn1 e.symm)
      have ho126 := ho70.go hS18 (fun e => hn2 e.symm)
      have ho127 := ho71.go hS18 (fun e => hn4 e.symm)
      generalize hq4 : (D 9) = v15 at d26
      refine lw_sub (E' := [(49, v15), (51, (.int .i64 x9.1)), (0, (.pointer (some ⟨g, 0, none⟩))), (1, (.int .i64 a_n)), (4, (.pointer (some ⟨g1, 0, none⟩))), (5, (.pointer (some ⟨g2, 0, none⟩))), (6, (.int .i64 x3)), (7, (.pointer (some ⟨g3, 0, none⟩)))]) ⟨(congrArg some hq4), (dpE hd18 11 Z Z), Z, Z, Z, Z, Z, Z, trivial⟩ ?_
      replace h := bind_some h
      obtain ⟨x10, hx10, h⟩ := h
      refine lw_op Z Z Z (ow_indexSlice (R := RSpan) Z Z Z d26 Tryd.underlying71 (Tryd.sizeOf79 _) hx10 fun p3 hp3 => lw_op Z Z Z (ow_load (R := RSpan) Z Z hp3 (Tryd.sizeOf79 _) (Tryd.isAgg79 _) fun v16 hv16 => ?_))
      obtain rfl := open_Span hv16
      refine lw_op0 Z Z (ow_store (X := (One g)) (us := [(.int .i64 x10.Lo), (.int .i64 x10.Hi)]) (cs' := #[(.int .i64 x10.Lo), (.int .i64 x10.Hi)]) Z Z Z Z ho127 (Tryd.sizeOf79 _) Z Z Z Z hm9 (.inl hg6) Z hC38 fun w39 ho128 hb21 hl39 hC39 => ?_)
      have ho129 := ho124.go hb21 (fun e => hn4 e)
      have ho130 := ho125.go hb21 (fun e => hn5 e)
      have ho131 := ho126.go hb21 (fun e => hn6 e)
      refine lw_nil (ew_then (cw_seq (cw_region (lw_op Z Z Z (ow_fieldAddr Z Z Tryd.underlying79 Z (Tryd.sizeOf3 _) (lw_op Z Z Z (ow_loadOwn1 Z Z Z ho128 (Tryd.isAgg3 _) Z (lw_op Z Z Z (ow_fieldAddr Z Z Tryd.underlying31 Z (Tryd.sizeOf3 _) (lw_op0 Z Z (ow_store (X := (One g)) (us := [(.int .i64 x10.Lo)]) (cs' := #[(.int .i64 x1.1), (.int .i64 x10.Lo), (.int .i64 0), (.bool bb1)]) Z Z Z Z ho131 (Tryd.sizeOf3 _) Z Z Z Z hm8 (.inl hg4) Z hC39 fun w40 ho132 hb22 hl40 hC40 => ?_)))))))))))
      have ho133 := ho129.go hb22 (fun e => hn2 e)
      have ho134 := ho130.go hb22 (fun e => hn3 e)
      have ho135 := ho128.go hb22 (fun e => hn6 e.symm)
      refine lw_nil (ew_then (cw_seq (cw_region (lw_op Z Z Z (ow_fieldAddr Z Z Tryd.underlying79 Z (Tryd.sizeOf3 _) (lw_op Z Z Z (ow_loadOwn1 Z Z Z ho135 (Tryd.isAgg3 _) Z (lw_op Z Z Z (ow_fieldAddr Z Z Tryd.underlying31 Z (Tryd.sizeOf3 _) (lw_op0 Z Z (ow_store (X := (One g)) (us := [(.int .i64 x10.Hi)]) (cs' := #[(.int .i64 x1.1), (.int .i64 x10.Lo), (.int .i64 x10.Hi), (.bool bb1)]) Z Z Z Z ho132 (Tryd.sizeOf3 _) Z Z Z Z hm8 (.inl hg4) Z hC40 fun w41 ho136 hb23 hl41 hC41 => ?_)))))))))))
      have ho137 := ho133.go hb23 (fun e => hn2 e)
      have ho138 := ho134.go hb23 (fun e => hn3 e)
      refine lw_nil (ew_then (cw_seq (cw_seq (cw_region (lw_op Z Z Z (ow_move Z Z (lw_op Z Z Z (ow_move Z Z ?_))))))))
      have lz8 := ((((lz7.trans hl38).trans hl39).trans hl40).trans hl41)
      replace h := bind_some h
      obtain ⟨x11, hx11, h⟩ := h
      refine lw_op Z Z Z (ow_call Z Z Tryd.call81 (w_spec_l20Rd_odd (hG.mono lz8) hC41.old (VRep.mono lz8 hxs) ho137 hm6 hx11) fun v17 w42 hv17 => ?_)
      obtain ⟨⟨hv17, ho140⟩, hb24⟩ := hv17
      have hl42 := Le.of_bx (Add g3 (Add g2 (Add g1 M))) hb24 (fun b e => (by rw [show b = g from e]; exact hm6))
      have hC42 := hC41.go hb24 (fun b e => Or.inr e)
      have ho141 := ho138.go hb24 (fun e => hn1 e.symm)
      have ho142 := ho136.go hb24 (fun e => hn2 e.symm)
      obtain ⟨bb5, hbb5, rfl⟩ := vbool_ex hv17
      refine lw_nil (ew_then ?_)
      replace h := cond_some h
      rcases h with ⟨hc4, h⟩ | ⟨hc4, h⟩
      ·
       obtain rfl := hbb5.trans hc4
       refine cw_true Z (cw_seq (cw_region (lw_op Z Z Z (ow_move Z Z ?_))))
       replace h := bind_some h
       obtain ⟨x12, hx12, h⟩ := h
       refine lw_op Z Z Z (ow_call Z Z Tryd.call60 (w_spec_l20Rd_pick (hG.mono (lz8.trans hl42)) hC42.old (VRep.mono (lz8.trans hl42) hxs) ho140 hm6 hx12) fun v18 w43 hv18 => ?_)
       obtain ⟨⟨hv18, ho144⟩, hb25⟩ := hv18
       have hl43 := Le.of_bx (Add g3 (Add g2 (Add g1 M))) hb25 (fun b e => (by rw [show b = g from e]; exact hm6))
       have hC43 := hC42.go hb25 (fun b e => Or.inr e)
       have ho145 := ho141.go hb25 (fun e => hn1 e.symm)
       have ho146 := ho142.go hb25 (fun e => hn2 e.symm)
       obtain rfl := vint_eq hv18
       refine lw_nil (ew_then (cw_block (cw_seq (cw_region (lw_op Z Z Z (ow_eqlI Z Z Z fun bb6 hbb6 => lw_op Z Z Z (ow_assign Z Z (lw_nil (ew_then ?_)))))))))
       replace h := cond_some h
       rcases h with ⟨hc5, h⟩ | ⟨hc5, h⟩
       ·
        obtain rfl := hbb6.trans hc5
        refine cw_true Z (cw_region (lw_op Z Z Z (ow_buildSlice (R := RInt) (xs := [(-1), 4]) (cs := #[(.int .i64 (-1)), (.int .i64 4)]) (e := 3) Z Z (by kernel_rfl) Z Z ⟨_, _, Z, (vint _).cells, _, _, Z, (vint _).cells, Z⟩ hC43 fun p4 w44 hw11 hb26 hl44 hC44 => ?_)))
        have ho148 := ho144.no hb26
        have ho149 := ho145.no hb26
        have ho150 := ho146.no hb26
        refine lw_op Z Z Z (ow_move Z Z ?_)
        have lz9 := (((lz8.trans hl42).trans hl43).trans hl44)
        replace h := bind_some h
        obtain ⟨x13, hx13, h⟩ := h
        refine lw_op Z Z Z (ow_call Z Z Tryd.call60 (w_spec_l20Rd_pick (hG.mono lz9) hC44.old (VRep.mono lz9 hxs) ho148 hm6 hx13) fun v19 w45 hv19 => ?_)
        obtain ⟨⟨hv19, ho152⟩, hb27⟩ := hv19
        have hl45 := Le.of_bx (Add g3 (Add g2 (Add g1 M))) hb27 (fun b e => (by rw [show b = g from e]; exact hm6))
        have hC45 := hC44.go hb27 (fun b e => Or.inr e)
        have ho153 := ho149.go hb27 (fun e => hn1 e.symm)
        have ho154 := ho150.go hb27 (fun e => hn2 e.symm)
        obtain rfl := vint_eq hv19
        replace h := bind_some h
        obtain ⟨x14, hx14, h⟩ := h
        refine lw_op Z Z Z (ow_indexSlice (R := RInt) Z Z Z (VRep.mono hl45 hw11) Tryd.underlying52 (Tryd.sizeOf3 _) hx14 fun p5 hp5 => lw_op Z Z Z (ow_load (R := RInt) Z Z hp5 (Tryd.sizeOf3 _) (Tryd.isAgg3 _) fun v20 hv20 => ?_))
        obtain rfl := vint_eq hv20
        refine lw_op Z Z Z (ow_fieldAddr Z Z Tryd.underlying31 Z (Tryd.sizeOf3 _) (lw_op0 Z Z (ow_store (X := (One g)) (us := [(.int .i64 x14)]) (cs' := #[(.int .i64 x14), (.int .i64 x10.Lo), (.int .i64 x10.Hi), (.bool bb1)]) Z Z Z Z ho154 (Tryd.sizeOf3 _) Z Z Z Z hm8 (.inl hg4) Z hC45 fun w46 ho156 hb28 hl46 hC46 => ?_)))
        have ho157 := ho152.go hb28 (fun e => hn2 e)
        have ho158 := ho153.go hb28 (fun e => hn3 e)
        refine lw_nil (ew_blockN (ew_then (cw_seq (cw_region (lw_op Z Z Z (ow_loadOwnA Z Z Z ho156 (Tryd.isAgg31 _) (Tryd.sizeOf31 _) Z (lw_op0 Z Z (ow_store (X := (One g)) (us := [(.int .i64 x14), (.int .i64 x10.Lo), (.int .i64 x10.Hi), (.bool bb1)]) (cs' := #[(.int .i64 x14), (.int .i64 x10.Lo), (.int .i64 x10.Hi), (.bool bb1)]) Z Z Z Z ho158 (Tryd.sizeOf31 _) Z Z Z Z hm7 (.inl hg2) Z hC46 fun w47 ho160 hb29 hl47 hC47 => ?_))))))))
        have ho161 := ho157.go hb29 (fun e => hn1 e)
        refine lw_nil (ew_then (cw_ret ?_))
        have hw13 : VRep RTest w47 (Add g3 (Add g2 (Add g1 M))) ({ Field := x14, Lo := x10.Lo, Hi := x10.Hi, Not := (x2.1 == 0) } : Test) (.agg #[(.int .i64 x14), (.int .i64 x10.Lo), (.int .i64 x10.Hi), (.bool bb1)]) := by subst hbb1; exact shut_Test
        obtain rfl := Option.some.inj h
        exact ew_ret (res1 Z (.cell Z (own_loadVarA ho160 (Tryd.isAgg31 _) (Tryd.sizeOf31 _) Z))) ⟨_, Z, ⟨(hw13.mono hC47.back), ho161⟩, hC47.bx⟩
       ·
        obtain rfl := hbb6.trans hc5
        refine cw_false Z (cw_seq (cw_region (lw_op Z Z Z (ow_eqlI Z Z Z fun bb7 hbb7 => lw_op Z Z Z (ow_assign Z Z (lw_nil (ew_then ?_)))))))
        replace h := cond_some h
        rcases h with ⟨hc6, h⟩ | ⟨hc6, h⟩
        ·
         obtain rfl := hbb7.trans hc6
         refine cw_true Z (cw_region (lw_op Z Z Z (ow_fieldAddr Z Z Tryd.underlying31 Z (Tryd.sizeOf3 _) (lw_op Z Z Z (ow_loadOwn1 Z Z Z ho146 (Tryd.isAgg3 _) Z (lw_op Z Z Z (ow_add Z Z Z (lw_op Z Z Z (ow_fieldAddr Z Z Tryd.underlying31 Z (Tryd.sizeOf3 _) (lw_op0 Z Z (ow_store (X := (One g)) (us := [(.int .i64 (W (x10.Hi + 1)))]) (cs' := #[(.int .i64 x1.1), (.int .i64 (W (x10.Hi + 1))), (.int .i64 x10.Hi), (.bool bb1)]) Z Z Z Z ho146 (Tryd.sizeOf3 _) Z Z Z Z hm8 (.inl hg4) Z hC43 fun w48 ho164 hb30 hl48 hC48 => ?_)))))))))))
         have ho165 := ho144.go hb30 (fun e => hn2 e)
         have ho166 := ho145.go hb30 (fun e => hn3 e)
         refine lw_nil (ew_blockN (ew_then (cw_seq (cw_region (lw_op Z Z Z (ow_loadOwnA Z Z Z ho164 (Tryd.isAgg31 _) (Tryd.sizeOf31 _) Z (lw_op0 Z Z (ow_store (X := (One g)) (us := [(.int .i64 x1.1), (.int .i64 (W (x10.Hi + 1))), (.int .i64 x10.Hi), (.bool bb1)]) (cs' := #[(.int .i64 x1.1), (.int .i64 (W (x10.Hi + 1))), (.int .i64 x10.Hi), (.bool bb1)]) Z Z Z Z ho166 (Tryd.sizeOf31 _) Z Z Z Z hm7 (.inl hg2) Z hC48 fun w49 ho168 hb31 hl49 hC49 => ?_))))))))
         have ho169 := ho165.go hb31 (fun e => hn1 e)
         refine lw_nil (ew_then (cw_ret ?_))
         have hw15 : VRep RTest w49 (Add g3 (Add g2 (Add g1 M))) ({ Field := x1.1, Lo := (W (x10.Hi + 1)), Hi := x10.Hi, Not := (x2.1 == 0) } : Test) (.agg #[(.int .i64 x1.1), (.int .i64 (W (x10.Hi + 1))), (.int .i64 x10.Hi), (.bool bb1)]) := by subst hbb1; exact shut_Test
         obtain rfl := Option.some.inj h
         exact ew_ret (res1 Z (.cell Z (own_loadVarA ho168 (Tryd.isAgg31 _) (Tryd.sizeOf31 _) Z))) ⟨_, Z, ⟨(hw15.mono hC49.back), ho169⟩, hC49.bx⟩
        ·
         obtain rfl := hbb7.trans hc6
         refine cw_false Z (cw_region (lw_op Z Z Z (ow_move Z Z (lw_op Z Z Z (ow_add Z Z Z (lw_op Z Z Z (ow_fieldAddr Z Z Tryd.underlying31 Z (Tryd.sizeOf3 _) (lw_op0 Z Z (ow_store (X := (One g)) (us := [(.int .i64 (W (x3 + 1)))]) (cs' := #[(.int .i64 x1.1), (.int .i64 x10.Lo), (.int .i64 (W (x3 + 1))), (.bool bb1)]) Z Z Z Z ho146 (Tryd.sizeOf3 _) Z Z Z Z hm8 (.inl hg4) Z hC43 fun w50 ho172 hb32 hl50 hC50 => ?_)))))))))
         have ho173 := ho144.go hb32 (fun e => hn2 e)
         have ho174 := ho145.go hb32 (fun e => hn3 e)
         refine lw_nil (ew_blockN (ew_then (cw_seq (cw_region (lw_op Z Z Z (ow_loadOwnA Z Z Z ho172 (Tryd.isAgg31 _) (Tryd.sizeOf31 _) Z (lw_op0 Z Z (ow_store (X := (One g)) (us := [(.int .i64 x1.1), (.int .i64 x10.Lo), (.int .i64 (W (x3 + 1))), (.bool bb1)]) (cs' := #[(.int .i64 x1.1), (.int .i64 x10.Lo), (.int .i64 (W (x3 + 1))), (.bool bb1)]) Z Z Z Z ho174 (Tryd.sizeOf31 _) Z Z Z Z hm7 (.inl hg2) Z hC50 fun w51 ho176 hb33 hl51 hC51 => ?_))))))))
         have ho177 := ho173.go hb33 (fun e => hn1 e)
         refine lw_nil (ew_then (cw_ret ?_))
         have hw17 : VRep RTest w51 (Add g3 (Add g2 (Add g1 M))) ({ Field := x1.1, Lo := x10.Lo, Hi := (W (x3 + 1)), Not := (x2.1 == 0) } : Test) (.agg #[(.int .i64 x1.1), (.int .i64 x10.Lo), (.int .i64 (W (x3 + 1))), (.bool bb1)]) := by subst hbb1; exact shut_Test
         obtain rfl := Option.some.inj h
         exact ew_ret (res1 Z (.cell Z (own_loadVarA ho176 (Tryd.isAgg31 _) (Tryd.sizeOf31 _) Z))) ⟨_, Z, ⟨(hw17.mono hC51.back), ho177⟩, hC51.bx⟩
      ·
       obtain rfl := hbb5.trans hc4
       refine cw_false Z (cw_skip (ew_then (cw_seq (cw_region (lw_op Z Z Z (ow_loadOwnA Z Z Z ho142 (Tryd.isAgg31 _) (Tryd.sizeOf31 _) Z (lw_op0 Z Z (ow_store (X := (One g)) (us := [(.int .i64 x1.1), (.int .i64 x10.Lo), (.int .i64 x10.Hi), (.bool bb1)]) (cs' := #[(.int .i64 x1.1), (.int .i64 x10.Lo), (.int .i64 x10.Hi), (.bool bb1)]) Z Z Z Z ho141 (Tryd.sizeOf31 _) Z Z Z Z hm7 (.inl hg2) Z hC42 fun w52 ho180 hb34 hl52 hC52 => ?_))))))))
       have ho181 := ho140.go hb34 (fun e => hn1 e)
       refine lw_nil (ew_then (cw_ret ?_))
       have hw19 : VRep RTest w52 (Add g3 (Add g2 (Add g1 M))) ({ Field := x1.1, Lo := x10.Lo, Hi := x10.Hi, Not := (x2.1 == 0) } : Test) (.agg #[(.int .i64 x1.1), (.int .i64 x10.Lo), (.int .i64 x10.Hi), (.bool bb1)]) := by subst hbb1; exact shut_Test
       obtain rfl := Option.some.inj h
       exact ew_ret (res1 Z (.cell Z (own_loadVarA ho180 (Tryd.isAgg31 _) (Tryd.sizeOf31 _) Z))) ⟨_, Z, ⟨(hw19.mono hC52.back), ho181⟩, hC52.bx⟩
    ·
     obtain rfl := hbb4.trans hc3
     refine cw_false Z (cw_skip (ew_then (cw_seq (cw_region (lw_op Z Z Z (ow_fieldAddr Z Z Tryd.underlying79 Z (Tryd.sizeOf3 _) (lw_op Z Z Z (ow_loadOwn1 Z Z Z ho71 (Tryd.isAgg3 _) Z (lw_op Z Z Z (ow_fieldAddr Z Z Tryd.underlying31 Z (Tryd.sizeOf3 _) (lw_op0 Z Z (ow_store (X := (One g)) (us := [(.int .i64 x6.1)]) (cs' := #[(.int .i64 x1.1), (.int .i64 x6.1), (.int .i64 0), (.bool bb1)]) Z Z Z Z ho70 (Tryd.sizeOf3 _) Z Z Z Z hm8 (.inl hg4) Z hC21 fun w53 ho184 hb35 hl53 hC53 => ?_))))))))))))
     have ho185 := ho68.go hb35 (fun e => hn2 e)
     have ho186 := ho69.go hb35 (fun e => hn3 e)
     have ho187 := ho71.go hb35 (fun e => hn6 e.symm)
     refine lw_nil (ew_then (cw_seq (cw_region (lw_op Z Z Z (ow_fieldAddr Z Z Tryd.underlying79 Z (Tryd.sizeOf3 _) (lw_op Z Z Z (ow_loadOwn1 Z Z Z ho187 (Tryd.isAgg3 _) Z (lw_op Z Z Z (ow_fieldAddr Z Z Tryd.underlying31 Z (Tryd.sizeOf3 _) (lw_op0 Z Z (ow_store (X := (One g)) (us := [(.int .i64 (W (x6.1 + x7.1)))]) (cs' := #[(.int .i64 x1.1), (.int .i64 x6.1), (.int .i64 (W (x6.1 + x7.1))), (.bool bb1)]) Z Z Z Z ho184 (Tryd.sizeOf3 _) Z Z Z Z hm8 (.inl hg4) Z hC53 fun w54 ho188 hb36 hl54 hC54 => ?_)))))))))))
     have ho189 := ho185.go hb36 (fun e => hn2 e)
     have ho190 := ho186.go hb36 (fun e => hn3 e)
     refine lw_nil (ew_then (cw_seq (cw_seq (cw_region (lw_op Z Z Z (ow_move Z Z (lw_op Z Z Z (ow_move Z Z ?_))))))))
     have lz10 := (((lz6.trans hl21).trans hl53).trans hl54)
     replace h := bind_some h
     obtain ⟨x15, hx15, h⟩ := h
     refine lw_op Z Z Z (ow_call Z Z Tryd.call81 (w_spec_l20Rd_odd (hG.mono lz10) hC54.old (VRep.mono lz10 hxs) ho189 hm6 hx15) fun v21 w55 hv21 => ?_)
     obtain ⟨⟨hv21, ho192⟩, hb37⟩ := hv21
     have hl55 := Le.of_bx (Add g3 (Add g2 (Add g1 M))) hb37 (fun b e => (by rw [show b = g from e]; exact hm6))
     have hC55 := hC54.go hb37 (fun b e => Or.inr e)
     have ho193 := ho190.go hb37 (fun e => hn1 e.symm)
     have ho194 := ho188.go hb37 (fun e => hn2 e.symm)
     obtain ⟨bb8, hbb8, rfl⟩ := vbool_ex hv21
     refine lw_nil (ew_then ?_)
     replace h := cond_some h
     rcases h with ⟨hc7, h⟩ | ⟨hc7, h⟩
     ·
      obtain rfl := hbb8.trans hc7
      refine cw_true Z (cw_seq (cw_region (lw_op Z Z Z (ow_move Z Z ?_))))
      replace h := bind_some h
      obtain ⟨x16, hx16, h⟩ := h
      refine lw_op Z Z Z (ow_call Z Z Tryd.call60 (w_spec_l20Rd_pick (hG.mono (lz10.trans hl55)) hC55.old (VRep.mono (lz10.trans hl55) hxs) ho192 hm6 hx16) fun v22 w56 hv22 => ?_)
      obtain ⟨⟨hv22, ho196⟩, hb38⟩ := hv22
      have hl56 := Le.of_bx (Add g3 (Add g2 (Add g1 M))) hb38 (fun b e => (by rw [show b = g from e]; exact hm6))
      have hC56 := hC55.go hb38 (fun b e => Or.inr e)
      have ho197 := ho193.go hb38 (fun e => hn1 e.symm)
      have ho198 := ho194.go hb38 (fun e => hn2 e.symm)
      obtain rfl := vint_eq hv22
      refine lw_nil (ew_then (cw_block (cw_seq (cw_region (lw_op Z Z Z (ow_eqlI Z Z Z fun bb9 hbb9 => lw_op Z Z Z (ow_assign Z Z (lw_nil (ew_then ?_)))))))))
      replace h := cond_some h
      rcases h with ⟨hc8, h⟩ | ⟨hc8, h⟩
      ·
       obtain rfl := hbb9.trans hc8
       refine cw_true Z (cw_region (lw_op Z Z Z (ow_buildSlice (R := RInt) (xs := [(-1), 4]) (cs := #[(.int .i64 (-1)), (.int .i64 4)]) (e := 3) Z Z (by kernel_rfl) Z Z ⟨_, _, Z, (vint _).cells, _, _, Z, (vint _).cells, Z⟩ hC56 fun p6 w57 hw20 hb39 hl57 hC57 => ?_)))
       have ho200 := ho196.no hb39
       have ho201 := ho197.no hb39
       have ho202 := ho198.no hb39
       refine lw_op Z Z Z (ow_move Z Z ?_)
       have lz11 := (((lz10.trans hl55).trans hl56).trans hl57)
       replace h := bind_some h
       obtain ⟨x17, hx17, h⟩ := h
       refine lw_op Z Z Z (ow_call Z Z Tryd.call60 (w_spec_l20Rd_pick (hG.mono lz11) hC57.old (VRep.mono lz11 hxs) ho200 hm6 hx17) fun v23 w58 hv23 => ?_)
       obtain ⟨⟨hv23, ho204⟩, hb40⟩ := hv23
       have hl58 := Le.of_bx (Add g3 (Add g2 (Add g1 M))) hb40 (fun b e => (by rw [show b = g from e]; exact hm6))
       have hC58 := hC57.go hb40 (fun b e => Or.inr e)
       have ho205 := ho201.go hb40 (fun e => hn1 e.symm)
       have ho206 := ho202.go hb40 (fun e => hn2 e.symm)
       obtain rfl := vint_eq hv23
       replace h := bind_some h
       obtain ⟨x18, hx18, h⟩ := h
       refine lw_op Z Z Z (ow_indexSlice (R := RInt) Z Z Z (VRep.mono hl58 hw20) Tryd.underlying52 (Tryd.sizeOf3 _) hx18 fun p7 hp7 => lw_op Z Z Z (ow_load (R := RInt) Z Z hp7 (Tryd.sizeOf3 _) (Tryd.isAgg3 _) fun v24 hv24 => ?_))
       obtain rfl := vint_eq hv24
       refine lw_op Z Z Z (ow_fieldAddr Z Z Tryd.underlying31 Z (Tryd.sizeOf3 _) (lw_op0 Z Z (ow_store (X := (One g)) (us := [(.int .i64 x18)]) (cs' := #[(.int .i64 x18), (.int .i64 x6.1), (.int .i64 (W (x6.1 + x7.1))), (.bool bb1)]) Z Z Z Z ho206 (Tryd.sizeOf3 _) Z Z Z Z hm8 (.inl hg4) Z hC58 fun w59 ho208 hb41 hl59 hC59 => ?_)))
       have ho209 := ho204.go hb41 (fun e => hn2 e)
       have ho210 := ho205.go hb41 (fun e => hn3 e)
       refine lw_nil (ew_blockN (ew_then (cw_seq (cw_region (lw_op Z Z Z (ow_loadOwnA Z Z Z ho208 (Tryd.isAgg31 _) (Tryd.sizeOf31 _) Z (lw_op0 Z Z (ow_store (X := (One g)) (us := [(.int .i64 x18), (.int .i64 x6.1), (.int .i64 (W (x6.1 + x7.1))), (.bool bb1)]) (cs' := #[(.int .i64 x18), (.int .i64 x6.1), (.int .i64 (W (x6.1 + x7.1))), (.bool bb1)]) Z Z Z Z ho210 (Tryd.sizeOf31 _) Z Z Z Z hm7 (.inl hg2) Z hC59 fun w60 ho212 hb42 hl60 hC60 => ?_))))))))
       have ho213 := ho209.go hb42 (fun e => hn1 e)
       refine lw_nil (ew_then (cw_ret ?_))
       have hw22 : VRep RTest w60 (Add g3 (Add g2 (Add g1 M))) ({ Field := x18, Lo := x6.1, Hi := (W (x6.1 + x7.1)), Not := (x2.1 == 0) } : Test) (.agg #[(.int .i64 x18), (.int .i64 x6.1), (.int .i64 (W (x6.1 + x7.1))), (.bool bb1)]) := by subst hbb1; exact shut_Test
       obtain rfl := Option.some.inj h
       exact ew_ret (res1 Z (.cell Z (own_loadVarA ho212 (Tryd.isAgg31 _) (Tryd.sizeOf31 _) Z))) ⟨_, Z, ⟨(hw22.mono hC60.back), ho213⟩, hC60.bx⟩
      ·
       obtain rfl := hbb9.trans hc8
       refine cw_false Z (cw_seq (cw_region (lw_op Z Z Z (ow_eqlI Z Z Z fun bb10 hbb10 => lw_op Z Z Z (ow_assign Z Z (lw_nil (ew_then ?_)))))))
       replace h := cond_some h
       rcases h with ⟨hc9, h⟩ | ⟨hc9, h⟩
       ·
        obtain rfl := hbb10.trans hc9
        refine cw_true Z (cw_region (lw_op Z Z Z (ow_fieldAddr Z Z Tryd.underlying31 Z (Tryd.sizeOf3 _) (lw_op Z Z Z (ow_loadOwn1 Z Z Z ho198 (Tryd.isAgg3 _) Z (lw_op Z Z Z (ow_add Z Z Z (lw_op Z Z Z (ow_fieldAddr Z Z Tryd.underlying31 Z (Tryd.sizeOf3 _) (lw_op0 Z Z (ow_store (X := (One g)) (us := [(.int .i64 (W ((W (x6.1 + x7.1)) + 1)))]) (cs' := #[(.int .i64 x1.1), (.int .i64 (W ((W (x6.1 + x7.1)) + 1))), (.int .i64 (W (x6.1 + x7.1))), (.bool bb1)]) Z Z Z Z ho198 (Tryd.sizeOf3 _) Z Z Z Z hm8 (.inl hg4) Z hC56 fun w61 ho216 hb43 hl61 hC61 => ?_)))))))))))
        have ho217 := ho196.go hb43 (fun e => hn2 e)
        have ho218 := ho197.go hb43 (fun e => hn3 e)
        refine lw_nil (ew_blockN (ew_then (cw_seq (cw_region (lw_op Z Z Z (ow_loadOwnA Z Z Z ho216 (Tryd.isAgg31 _) (Tryd.sizeOf31 _) Z (lw_op0 Z Z (ow_store (X := (One g)) (us := [(.int .i64 x1.1), (.int .i64 (W ((W (x6.1 + x7.1)) + 1))), (.int .i64 (W (x6.1 + x7.1))), (.bool bb1)]) (cs' := #[(.int .i64 x1.1), (.int .i64 (W ((W (x6.1 + x7.1)) + 1))), (.int .i64 (W (x6.1 + x7.1))), (.bool bb1)]) Z Z Z Z ho218 (Tryd.sizeOf31 _) Z Z Z Z hm7 (.inl hg2) Z hC61 fun w62 ho220 hb44 hl62 hC62 => ?_))))))))
        have ho221 := ho217.go hb44 (fun e => hn1 e)
        refine lw_nil (ew_then (cw_ret ?_))
        have hw24 : VRep RTest w62 (Add g3 (Add g2 (Add g1 M))) ({ Field := x1.1, Lo := (W ((W (x6.1 + x7.1)) + 1)), Hi := (W (x6.1 + x7.1)), Not := (x2.1 == 0) } : Test) (.agg #[(.int .i64 x1.1), (.int .i64 (W ((W (x6.1 + x7.1)) + 1))), (.int .i64 (W (x6.1 + x7.1))), (.bool bb1)]) := by subst hbb1; exact shut_Test
        obtain rfl := Option.some.inj h
        exact ew_ret (res1 Z (.cell Z (own_loadVarA ho220 (Tryd.isAgg31 _) (Tryd.sizeOf31 _) Z))) ⟨_, Z, ⟨(hw24.mono hC62.back), ho221⟩, hC62.bx⟩
       ·
        obtain rfl := hbb10.trans hc9
        refine cw_false Z (cw_region (lw_op Z Z Z (ow_move Z Z (lw_op Z Z Z (ow_add Z Z Z (lw_op Z Z Z (ow_fieldAddr Z Z Tryd.underlying31 Z (Tryd.sizeOf3 _) (lw_op0 Z Z (ow_store (X := (One g)) (us := [(.int .i64 (W (x3 + 1)))]) (cs' := #[(.int .i64 x1.1), (.int .i64 x6.1), (.int .i64 (W (x3 + 1))), (.bool bb1)]) Z Z Z Z ho198 (Tryd.sizeOf3 _) Z Z Z Z hm8 (.inl hg4) Z hC56 fun w63 ho224 hb45 hl63 hC63 => ?_)))))))))
        have ho225 := ho196.go hb45 (fun e => hn2 e)
        have ho226 := ho197.go hb45 (fun e => hn3 e)
        refine lw_nil (ew_blockN (ew_then (cw_seq (cw_region (lw_op Z Z Z (ow_loadOwnA Z Z Z ho224 (Tryd.isAgg31 _) (Tryd.sizeOf31 _) Z (lw_op0 Z Z (ow_store (X := (One g)) (us := [(.int .i64 x1.1), (.int .i64 x6.1), (.int .i64 (W (x3 + 1))), (.bool bb1)]) (cs' := #[(.int .i64 x1.1), (.int .i64 x6.1), (.int .i64 (W (x3 + 1))), (.bool bb1)]) Z Z Z Z ho226 (Tryd.sizeOf31 _) Z Z Z Z hm7 (.inl hg2) Z hC63 fun w64 ho228 hb46 hl64 hC64 => ?_))))))))
        have ho229 := ho225.go hb46 (fun e => hn1 e)
        refine lw_nil (ew_then (cw_ret ?_))
        have hw26 : VRep RTest w64 (Add g3 (Add g2 (Add g1 M))) ({ Field := x1.1, Lo := x6.1, Hi := (W (x3 + 1)), Not := (x2.1 == 0) } : Test) (.agg #[(.int .i64 x1.1), (.int .i64 x6.1), (.int .i64 (W (x3 + 1))), (.bool bb1)]) := by subst hbb1; exact shut_Test
        obtain rfl := Option.some.inj h
        exact ew_ret (res1 Z (.cell Z (own_loadVarA ho228 (Tryd.isAgg31 _) (Tryd.sizeOf31 _) Z))) ⟨_, Z, ⟨(hw26.mono hC64.back), ho229⟩, hC64.bx⟩
     ·
      obtain rfl := hbb8.trans hc7
      refine cw_false Z (cw_skip (ew_then (cw_seq (cw_region (lw_op Z Z Z (ow_loadOwnA Z Z Z ho194 (Tryd.isAgg31 _) (Tryd.sizeOf31 _) Z (lw_op0 Z Z (ow_store (X := (One g)) (us := [(.int .i64 x1.1), (.int .i64 x6.1), (.int .i64 (W (x6.1 + x7.1))), (.bool bb1)]) (cs' := #[(.int .i64 x1.1), (.int .i64 x6.1), (.int .i64 (W (x6.1 + x7.1))), (.bool bb1)]) Z Z Z Z ho193 (Tryd.sizeOf31 _) Z Z Z Z hm7 (.inl hg2) Z hC55 fun w65 ho232 hb47 hl65 hC65 => ?_))))))))
      have ho233 := ho192.go hb47 (fun e => hn1 e)
      refine lw_nil (ew_then (cw_ret ?_))
      have hw28 : VRep RTest w65 (Add g3 (Add g2 (Add g1 M))) ({ Field := x1.1, Lo := x6.1, Hi := (W (x6.1 + x7.1)), Not := (x2.1 == 0) } : Test) (.agg #[(.int .i64 x1.1), (.int .i64 x6.1), (.int .i64 (W (x6.1 + x7.1))), (.bool bb1)]) := by subst hbb1; exact shut_Test
      obtain rfl := Option.some.inj h
      exact ew_ret (res1 Z (.cell Z (own_loadVarA ho232 (Tryd.isAgg31 _) (Tryd.sizeOf31 _) Z))) ⟨_, Z, ⟨(hw28.mono hC65.back), ho233⟩, hC65.bx⟩
  ·
   obtain rfl := hbb3.trans hc2
   refine cw_false Z (cw_skip (ew_then (cw_seq (cw_seq (cw_region (lw_op Z Z Z (ow_move Z Z ?_)))))))
   replace h := bind_some h
   obtain ⟨x19, hx19, h⟩ := h
   refine lw_op Z Z Z (ow_call Z Z Tryd.call60 (w_spec_l20Rd_pick (hG.mono (lz2.trans hl10)) hC10.old (VRep.mono (lz2.trans hl10) hxs) ho27 hm6 hx19) fun v25 w66 hv25 => ?_)
   obtain ⟨⟨hv25, ho236⟩, hb48⟩ := hv25
   have hl66 := Le.of_bx (Add g3 (Add g2 (Add g1 M))) hb48 (fun b e => (by rw [show b = g from e]; exact hm6))
   have hC66 := hC10.go hb48 (fun b e => Or.inr e)
   have ho237 := ho28.go hb48 (fun e => hn1 e.symm)
   have ho238 := ho29.go hb48 (fun e => hn2 e.symm)
   have ho239 := ho30.go hb48 (fun e => hn4 e.symm)
   obtain rfl := vint_eq hv25
   refine lw_op Z Z Z (ow_eqlI Z Z Z fun bb11 hbb11 => lw_nil (ew_then ?_))
   replace h := cond_some h
   rcases h with ⟨hc10, h⟩ | ⟨hc10, h⟩
   ·
    obtain rfl := hbb11.trans hc10
    refine cw_true Z ?_
    replace h := bind_some h
    obtain ⟨x20, hx20, h⟩ := h
    have lz12 := ((lz2.trans hl10).trans hl66)
    refine cw_sub (E' := [(0, (.pointer (some ⟨g, 0, none⟩))), (1, (.int .i64 a_n)), (4, (.pointer (some ⟨g1, 0, none⟩))), (5, (.pointer (some ⟨g2, 0, none⟩))), (6, (.int .i64 x3)), (7, (.pointer (some ⟨g3, 0, none⟩)))]) ⟨Z, Z, Z, Z, Z, Z, trivial⟩ (cw_drawC (g := g) (T := 111) 12 1 [none, none, none, none, none, none, none, none, none, none, none, some 0] [#[(.slice Ax a_xs.length cx), (.int .i64 x19.2)], #[(.slice Ax a_xs.length cx), (.int .i64 x20.2)]] [PEq (.int .i64 x3), PV RSpan (Add g3 (Add g2 (Add g1 M))) ({ Lo := 0, Hi := x3 } : Span), PEq (.pointer (some ⟨g3, 1, none⟩)), PEq (.int .i64 x4.1.Hi), PV RSpan (Add g3 (Add g2 (Add g1 M))) ({ Lo := 0, Hi := x4.1.Hi } : Span), PEq (.pointer (some ⟨g3, 0, none⟩)), PEq (.int .i64 x4.1.Lo), PEq (.int .i64 x3), PV RSpan (Add g3 (Add g2 (Add g1 M))) ({ Lo := x4.1.Lo, Hi := x3 } : Span), PV (RSlice RSpan) (Add g3 (Add g2 (Add g1 M))) [({ Lo := 0, Hi := x3 } : Span), ({ Lo := 0, Hi := x4.1.Hi } : Span), ({ Lo := x4.1.Lo, Hi := x3 } : Span)], PEq (.pointer (some ⟨g, 0, none⟩)), PEq (.int .i64 x20.1)] (by kernel_rfl) Z (by kernel_rfl) (by kernel_rfl) ho236 ⟨(PEq.monoY hm6 _), (PV.monoY hm6 _ _), (PEq.monoY hm6 _), (PEq.monoY hm6 _), (PV.monoY hm6 _ _), (PEq.monoY hm6 _), (PEq.monoY hm6 _), (PEq.monoY hm6 _), (PV.monoY hm6 _ _), (PV.monoY hm6 _ _), (PEq.monoY hm6 _), (PEq.monoY hm6 _), trivial⟩ ⟨?_, ?_, ?_, ?_, ?_, ?_, ?_, ?_, ?_, ?_, ?_, ?_, trivial⟩ ?_)
    ·
     intro w69 D hS19 hd19
     exact dg_sub (E' := [(6, (.int .i64 x3))]) ⟨Z, trivial⟩ (dg_plain Z (ow_move Z Z ⟨BX.refl _ _, Z⟩))
    ·
     intro w70 D hS20 hd20
     refine dg_sub (E' := [(40, (.int .i64 x3))]) ⟨(dpE hd20 0 Z Z), trivial⟩ (dg_plain Z (ow_build (v := .agg #[(.int .i64 0), (.int .i64 x3)]) Z Z (by kernel_rfl) ?_))
     have hw33 : VRep RSpan w70 (Add g3 (Add g2 (Add g1 M))) ({ Lo := 0, Hi := x3 } : Span) (.agg #[(.int .i64 0), (.int .i64 x3)]) := shut_Span
     exact ⟨BX.refl _ _, hw33⟩
    ·
     intro w71 D hS21 hd21
     exact dg_sub (E' := [(7, (.pointer (some ⟨g3, 0, none⟩)))]) ⟨Z, trivial⟩ (dg_plain Z (ow_fieldAddr Z Z Tryd.underlying79 Z (Tryd.sizeOf3 _) ⟨BX.refl _ _, Z⟩))
    ·
     intro w72 D hS22 hd22
     have ho259 := ho239.go hS22 (fun e => hn4 e.symm)
     exact dg_sub (E' := [(42, (.pointer (some ⟨g3, 1, none⟩)))]) ⟨(dpE hd22 2 Z Z), trivial⟩ (dg_plain Z (ow_loadOwn1 Z Z Z ho259 (Tryd.isAgg3 _) Z ⟨BX.refl _ _, Z⟩))
    ·
     intro w73 D hS23 hd23
     refine dg_sub (E' := [(43, (.int .i64 x4.1.Hi))]) ⟨(dpE hd23 3 Z Z), trivial⟩ (dg_plain Z (ow_build (v := .agg #[(.int .i64 0), (.int .i64 x4.1.Hi)]) Z Z (by kernel_rfl) ?_))
     have hw34 : VRep RSpan w73 (Add g3 (Add g2 (Add g1 M))) ({ Lo := 0, Hi := x4.1.Hi } : Span) (.agg #[(.int .i64 0), (.int .i64 x4.1.Hi)]) := shut_Span
     exact ⟨BX.refl _ _, hw34⟩
    ·
     intro w74 D hS24 hd24
     exact dg_sub (E' := [(7, (.pointer (some ⟨g3, 0, none⟩)))]) ⟨Z, trivial⟩ (dg_plain Z (ow_fieldAddr Z Z Tryd.underlying79 Z (Tryd.sizeOf3 _) ⟨BX.refl _ _, Z⟩))
    ·
     intro w75 D hS25 hd25
     have ho268 := ho239.go hS25 (fun e => hn4 e.symm)
     exact dg_sub (E' := [(45, (.pointer (some ⟨g3, 0, none⟩)))]) ⟨(dpE hd25 5 Z Z), trivial⟩ (dg_plain Z (ow_loadOwn1 Z Z Z ho268 (Tryd.isAgg3 _) Z ⟨BX.refl _ _, Z⟩))
    ·
     intro w76 D hS26 hd26
     exact dg_sub (E' := [(6, (.int .i64 x3))]) ⟨Z, trivial⟩ (dg_plain Z (ow_move Z Z ⟨BX.refl _ _, Z⟩))
    ·
     intro w77 D hS27 hd27
     refine dg_sub (E' := [(46, (.int .i64 x4.1.Lo)), (47, (.int .i64 x3))]) ⟨(dpE hd27 6 Z Z), (dpE hd27 7 Z Z), trivial⟩ (dg_plain Z (ow_build (v := .agg #[(.int .i64 x4.1.Lo), (.int .i64 x3)]) Z Z (by kernel_rfl) ?_))
     have hw35 : VRep RSpan w77 (Add g3 (Add g2 (Add g1 M))) ({ Lo := x4.1.Lo, Hi := x3 } : Span) (.agg #[(.int .i64 x4.1.Lo), (.int .i64 x3)]) := shut_Span
     exact ⟨BX.refl _ _, hw35⟩
    ·
     intro w78 D hS28 hd28
     have hC78 := hC66.go hS28 (fun b e => Or.inr e)
     have d35 : PV RSpan (Add g3 (Add g2 (Add g1 M))) ({ Lo := 0, Hi := x3 } : Span) (D 1) w78 := dpA hd28 1 Z
     have d36 : PV RSpan (Add g3 (Add g2 (Add g1 M))) ({ Lo := 0, Hi := x4.1.Hi } : Span) (D 4) w78 := dpA hd28 4 Z
     have d37 : PV RSpan (Add g3 (Add g2 (Add g1 M))) ({ Lo := x4.1.Lo, Hi := x3 } : Span) (D 8) w78 := dpA hd28 8 Z
     generalize hq5 : (D 1) = v27 at d35
     generalize hq6 : (D 4) = v28 at d36
     generalize hq7 : (D 8) = v29 at d37
     refine dg_sub (E' := [(41, v27), (44, v28), (48, v29)]) ⟨(congrArg some hq5), (congrArg some hq6), (congrArg some hq7), trivial⟩ ?_
     obtain rfl := open_Span d35
     obtain rfl := open_Span d36
     obtain rfl := open_Span d37
     exact dg_plain Z (ow_buildSlice (R := RSpan) (xs := [({ Lo := 0, Hi := x3 } : Span), ({ Lo := 0, Hi := x4.1.Hi } : Span), ({ Lo := x4.1.Lo, Hi := x3 } : Span)]) (cs := #[(.int .i64 ({ Lo := 0, Hi := x3 } : Span).Lo), (.int .i64 ({ Lo := 0, Hi := x3 } : Span).Hi), (.int .i64 ({ Lo := 0, Hi := x4.1.Hi } : Span).Lo), (.int .i64 ({ Lo := 0, Hi := x4.1.Hi } : Span).Hi), (.int .i64 ({ Lo := x4.1.Lo, Hi := x3 } : Span).Lo), (.int .i64 ({ Lo := x4.1.Lo, Hi := x3 } : Span).Hi)]) (e := 79) Z Z (by kernel_rfl) Z Z ⟨_, _, Z, d35.cells, _, _, Z, d36.cells, _, _, Z, d37.cells, Z⟩ hC78 fun p9 w79 hw36 hb51 hl79 hC79 => ⟨hb51, hw36⟩)
    ·
     intro w80 D hS29 hd29
     exact dg_sub (E' := [(0, (.pointer (some ⟨g, 0, none⟩)))]) ⟨Z, trivial⟩ (dg_plain Z (ow_move Z Z ⟨BX.refl _ _, Z⟩))
    ·
     intro w81 D hS30 hd30
     obtain ⟨hS30, ho284⟩ := hS30
     have ho284 : Own w81 g 111 #[(.slice Ax a_xs.length cx), (.int .i64 x19.2)] := ho284
     have hl81 := leY hm6 hS30
     have hC81 := hC66.go hS30 (fun b e => Or.inr e)
     refine dg_sub (E' := [(50, (.pointer (some ⟨g, 0, none⟩)))]) ⟨(dpE hd30 10 Z Z), trivial⟩ (dg_plain Z (ow_call Z Z Tryd.call60 (w_spec_l20Rd_pick (hG.mono (lz12.trans hl81)) hC81.old (VRep.mono (lz12.trans hl81) hxs) ho284 hm6 hx20) fun v30 w82 hv30 => ?_))
     obtain ⟨⟨hv30, ho288⟩, hb52⟩ := hv30
     obtain rfl := vint_eq hv30
     exact ⟨⟨⟨hS30.trans hb52, ho288⟩, hb52⟩, Z⟩
    ·
     intro w83 D hS31 hd31
     have d48 : PV (RSlice RSpan) (Add g3 (Add g2 (Add g1 M))) [({ Lo := 0, Hi := x3 } : Span), ({ Lo := 0, Hi := x4.1.Hi } : Span), ({ Lo := x4.1.Lo, Hi := x3 } : Span)] (D 9) w83 := dpA hd31 9 Z
     obtain ⟨hS31, ho292⟩ := hS31
     have ho292 : Own w83 g 111 #[(.slice Ax a_xs.length cx), (.int .i64 x20.2)] := ho292
     have hl83 := leY hm6 hS31
     have hC83 := hC66.go hS31 (fun b e => Or.inr e)
     have ho293 := ho237.go hS31 (fun e => hn1 e.symm)
     have ho294 := ho238.go hS31 (fun e => hn2 e.symm)
     have ho295 := ho239.go hS31 (fun e => hn4 e.symm)
     generalize hq8 : (D 9) = v31 at d48
     refine lw_sub (E' := [(49, v31), (51, (.int .i64 x20.1)), (0, (.pointer (some ⟨g, 0, none⟩))), (1, (.int .i64 a_n)), (4, (.pointer (some ⟨g1, 0, none⟩))), (5, (.pointer (some ⟨g2, 0, none⟩))), (6, (.int .i64 x3)), (7, (.pointer (some ⟨g3, 0, none⟩)))]) ⟨(congrArg some hq8), (dpE hd31 11 Z Z), Z, Z, Z, Z, Z, Z, trivial⟩ ?_
     replace h := bind_some h
     obtain ⟨x21, hx21, h⟩ := h
     refine lw_op Z Z Z (ow_indexSlice (R := RSpan) Z Z Z d48 Tryd.underlying71 (Tryd.sizeOf79 _) hx21 fun p10 hp10 => lw_op Z Z Z (ow_load (R := RSpan) Z Z hp10 (Tryd.sizeOf79 _) (Tryd.isAgg79 _) fun v32 hv32 => ?_))
     obtain rfl := open_Span hv32
     refine lw_op0 Z Z (ow_store (X := (One g)) (us := [(.int .i64 x21.Lo), (.int .i64 x21.Hi)]) (cs' := #[(.int .i64 x21.Lo), (.int .i64 x21.Hi)]) Z Z Z Z ho295 (Tryd.sizeOf79 _) Z Z Z Z hm9 (.inl hg6) Z hC83 fun w84 ho296 hb53 hl84 hC84 => ?_)
     have ho297 := ho292.go hb53 (fun e => hn4 e)
     have ho298 := ho293.go hb53 (fun e => hn5 e)
     have ho299 := ho294.go hb53 (fun e => hn6 e)
     refine lw_nil (ew_then (cw_seq (cw_region (lw_op Z Z Z (ow_fieldAddr Z Z Tryd.underlying79 Z (Tryd.sizeOf3 _) (lw_op Z Z Z (ow_loadOwn1 Z Z Z ho296 (Tryd.isAgg3 _) Z (lw_op Z Z Z (ow_fieldAddr Z Z Tryd.underlying31 Z (Tryd.sizeOf3 _) (lw_op0 Z Z (ow_store (X := (One g)) (us := [(.int .i64 x21.Lo)]) (cs' := #[(.int .i64 x1.1), (.int .i64 x21.Lo), (.int .i64 0), (.bool bb1)]) Z Z Z Z ho299 (Tryd.sizeOf3 _) Z Z Z Z hm8 (.inl hg4) Z hC84 fun w85 ho300 hb54 hl85 hC85 => ?_)))))))))))
     have ho301 := ho297.go hb54 (fun e => hn2 e)
     have ho302 := ho298.go hb54 (fun e => hn3 e)
     have ho303 := ho296.go hb54 (fun e => hn6 e.symm)
     refine lw_nil (ew_then (cw_seq (cw_region (lw_op Z Z Z (ow_fieldAddr Z Z Tryd.underlying79 Z (Tryd.sizeOf3 _) (lw_op Z Z Z (ow_loadOwn1 Z Z Z ho303 (Tryd.isAgg3 _) Z (lw_op Z Z Z (ow_fieldAddr Z Z Tryd.underlying31 Z (Tryd.sizeOf3 _) (lw_op0 Z Z (ow_store (X := (One g)) (us := [(.int .i64 x21.Hi)]) (cs' := #[(.int .i64 x1.1), (.int .i64 x21.Lo), (.int .i64 x21.Hi), (.bool bb1)]) Z Z Z Z ho300 (Tryd.sizeOf3 _) Z Z Z Z hm8 (.inl hg4) Z hC85 fun w86 ho304 hb55 hl86 hC86 => ?_)))))))))))
     have ho305 := ho301.go hb55 (fun e => hn2 e)
     have ho306 := ho302.go hb55 (fun e => hn3 e)
     refine lw_nil (ew_then (cw_seq (cw_seq (cw_region (lw_op Z Z Z (ow_move Z Z (lw_op Z Z Z (ow_move Z Z ?_))))))))
     have lz15 := ((((lz12.trans hl83).trans hl84).trans hl85).trans hl86)
     replace h := bind_some h
     obtain ⟨x22, hx22, h⟩ := h
     refine lw_op Z Z Z (ow_call Z Z Tryd.call81 (w_spec_l20Rd_odd (hG.mono lz15) hC86.old (VRep.mono lz15 hxs) ho305 hm6 hx22) fun v33 w87 hv33 => ?_)
     obtain ⟨⟨hv33, ho308⟩, hb56⟩ := hv33
     have hl87 := Le.of_bx (Add g3 (Add g2 (Add g1 M))) hb56 (fun b e => (by rw [show b = g from e]; exact hm6))
     have hC87 := hC86.go hb56 (fun b e => Or.inr e)
     have ho309 := ho306.go hb56 (fun e => hn1 e.symm)
     have ho310 := ho304.go hb56 (fun e => hn2 e.symm)
     obtain ⟨bb12, hbb12, rfl⟩ := vbool_ex hv33
     refine lw_nil (ew_then ?_)
     replace h := cond_some h
     rcases h with ⟨hc11, h⟩ | ⟨hc11, h⟩
     ·
      obtain rfl := hbb12.trans hc11
      refine cw_true Z (cw_seq (cw_region (lw_op Z Z Z (ow_move Z Z ?_))))
      replace h := bind_some h
      obtain ⟨x23, hx23, h⟩ := h
      refine lw_op Z Z Z (ow_call Z Z Tryd.call60 (w_spec_l20Rd_pick (hG.mono (lz15.trans hl87)) hC87.old (VRep.mono (lz15.trans hl87) hxs) ho308 hm6 hx23) fun v34 w88 hv34 => ?_)
      obtain ⟨⟨hv34, ho312⟩, hb57⟩ := hv34
      have hl88 := Le.of_bx (Add g3 (Add g2 (Add g1 M))) hb57 (fun b e => (by rw [show b = g from e]; exact hm6))
      have hC88 := hC87.go hb57 (fun b e => Or.inr e)
      have ho313 := ho309.go hb57 (fun e => hn1 e.symm)
      have ho314 := ho310.go hb57 (fun e => hn2 e.symm)
      obtain rfl := vint_eq hv34
      refine lw_nil (ew_then (cw_block (cw_seq (cw_region (lw_op Z Z Z (ow_eqlI Z Z Z fun bb13 hbb13 => lw_op Z Z Z (ow_assign Z Z (lw_nil (ew_then ?_)))))))))
      replace h := cond_some h
      rcases h with ⟨hc12, h⟩ | ⟨hc12, h⟩
      ·
       obtain rfl := hbb13.trans hc12
       refine cw_true Z (cw_region (lw_op Z Z Z (ow_buildSlice (R := RInt) (xs := [(-1), 4]) (cs := #[(.int .i64 (-1)), (.int .i64 4)]) (e := 3) Z Z (by kernel_rfl) Z Z ⟨_, _, Z, (vint _).cells, _, _, Z, (vint _).cells, Z⟩ hC88 fun p11 w89 hw37 hb58 hl89 hC89 => ?_)))
       have ho316 := ho312.no hb58
       have ho317 := ho313.no hb58
       have ho318 := ho314.no hb58
       refine lw_op Z Z Z (ow_move Z Z ?_)
       have lz16 := (((lz15.trans hl87).trans hl88).trans hl89)
       replace h := bind_some h
       obtain ⟨x24, hx24, h⟩ := h
       refine lw_op Z Z Z (ow_call Z Z Tryd.call60 (w_spec_l20Rd_pick (hG.mono lz16) hC89.old (VRep.mono lz16 hxs) ho316 hm6 hx24) fun v35 w90 hv35 => ?_)
       obtain ⟨⟨hv35, ho320⟩, hb59⟩ := hv35
       have hl90 := Le.of_bx (Add g3 (Add g2 (Add g1 M))) hb59 (fun b e => (by rw [show b = g from e]; exact hm6))
       have hC90 := hC89.go hb59 (fun b e => Or.inr e)
       have ho321 := ho317.go hb59 (fun e => hn1 e.symm)
       have ho322 := ho318.go hb59 (fun e => hn2 e.symm)
       obtain rfl := vint_eq hv35
       replace h := bind_some h
       obtain ⟨x25, hx25, h⟩ := h
       refine lw_op Z Z Z (ow_indexSlice (R := RInt) Z Z Z (VRep.mono hl90 hw37) Tryd.underlying52 (Tryd.sizeOf3 _) hx25 fun p12 hp12 => lw_op Z Z Z (ow_load (R := RInt) Z Z hp12 (Tryd.sizeOf3 _) (Tryd.isAgg3 _) fun v36 hv36 => ?_))
       obtain rfl := vint_eq hv36
       refine lw_op Z Z Z (ow_fieldAddr Z Z Tryd.underlying31 Z (Tryd.sizeOf3 _) (lw_op0 Z Z (ow_store (X := (One g)) (us := [(.int .i64 x25)]) (cs' := #[(.int .i64 x25), (.int .i64 x21.Lo), (.int .i64 x21.Hi), (.bool bb1)]) Z Z Z Z ho322 (Tryd.sizeOf3 _) Z Z Z Z hm8 (.inl hg4) Z hC90 fun w91 ho324 hb60 hl91 hC91 => ?_)))
       have ho325 := ho320.go hb60 (fun e => hn2 e)
       have ho326 := ho321.go hb60 (fun e => hn3 e)
       refine lw_nil (ew_blockN (ew_then (cw_seq (cw_region (lw_op Z Z Z (ow_loadOwnA Z Z Z ho324 (Tryd.isAgg31 _) (Tryd.sizeOf31 _) Z (lw_op0 Z Z (ow_store (X := (One g)) (us := [(.int .i64 x25), (.int .i64 x21.Lo), (.int .i64 x21.Hi), (.bool bb1)]) (cs' := #[(.int .i64 x25), (.int .i64 x21.Lo), (.int .i64 x21.Hi), (.bool bb1)]) Z Z Z Z ho326 (Tryd.sizeOf31 _) Z Z Z Z hm7 (.inl hg2) Z hC91 fun w92 ho328 hb61 hl92 hC92 => ?_))))))))
       have ho329 := ho325.go hb61 (fun e => hn1 e)
       refine lw_nil (ew_then (cw_ret ?_))
       have hw39 : VRep RTest w92 (Add g3 (Add g2 (Add g1 M))) ({ Field := x25, Lo := x21.Lo, Hi := x21.Hi, Not := (x2.1 == 0) } : Test) (.agg #[(.int .i64 x25), (.int .i64 x21.Lo), (.int .i64 x21.Hi), (.bool bb1)]) := by subst hbb1; exact shut_Test
       obtain rfl := Option.some.inj h
       exact ew_ret (res1 Z (.cell Z (own_loadVarA ho328 (Tryd.isAgg31 _) (Tryd.sizeOf31 _) Z))) ⟨_, Z, ⟨(hw39.mono hC92.back), ho329⟩, hC92.bx⟩
      ·
       obtain rfl := hbb13.trans hc12
       refine cw_false Z (cw_seq (cw_region (lw_op Z Z Z (ow_eqlI Z Z Z fun bb14 hbb14 => lw_op Z Z Z (ow_assign Z Z (lw_nil (ew_then ?_)))))))
       replace h := cond_some h
       rcases h with ⟨hc13, h⟩ | ⟨hc13, h⟩
       ·
        obtain rfl := hbb14.trans hc13
        refine cw_true Z (cw_region (lw_op Z Z Z (ow_fieldAddr Z Z Tryd.underlying31 Z (Tryd.sizeOf3 _) (lw_op Z Z Z (ow_loadOwn1 Z Z Z ho314 (Tryd.isAgg3 _) Z (lw_op Z Z Z (ow_add Z Z Z (lw_op Z Z Z (ow_fieldAddr Z Z Tryd.underlying31 Z (Tryd.sizeOf3 _) (lw_op0 Z Z (ow_store (X := (One g)) (us := [(.int .i64 (W (x21.Hi + 1)))]) (cs' := #[(.int .i64 x1.1), (.int .i64 (W (x21.Hi + 1))), (.int .i64 x21.Hi), (.bool bb1)]) Z Z Z Z ho314 (Tryd.sizeOf3 _) Z Z Z Z hm8 (.inl hg4) Z hC88 fun w93 ho332 hb62 hl93 hC93 => ?_)))))))))))
        have ho333 := ho312.go hb62 (fun e => hn2 e)
        have ho334 := ho313.go hb62 (fun e => hn3 e)
        refine lw_nil (ew_blockN (ew_then (cw_seq (cw_region (lw_op Z Z Z (ow_loadOwnA Z Z Z ho332 (Tryd.isAgg31 _) (Tryd.sizeOf31 _) Z (lw_op0 Z Z (ow_store (X := (One g)) (us := [(.int .i64 x1.1), (.int .i64 (W (x21.Hi + 1))), (.int .i64 x21.Hi), (.bool bb1)]) (cs' := #[(.int .i64 x1.1), (.int .i64 (W (x21.Hi + 1))), (.int .i64 x21.Hi), (.bool bb1)]) Z Z Z Z ho334 (Tryd.sizeOf31 _) Z Z Z Z hm7 (.inl hg2) Z hC93 fun w94 ho336 hb63 hl94 hC94 => ?_))))))))
        have ho337 := ho333.go hb63 (fun e => hn1 e)
        refine lw_nil (ew_then (cw_ret ?_))
        have hw41 : VRep RTest w94 (Add g3 (Add g2 (Add g1 M))) ({ Field := x1.1, Lo := (W (x21.Hi + 1)), Hi := x21.Hi, Not := (x2.1 == 0) } : Test) (.agg #[(.int .i64 x1.1), (.int .i64 (W (x21.Hi + 1))), (.int .i64 x21.Hi), (.bool bb1)]) := by subst hbb1; exact shut_Test
        obtain rfl := Option.some.inj h
        exact ew_ret (res1 Z (.cell Z (own_loadVarA ho336 (Tryd.isAgg31 _) (Tryd.sizeOf31 _) Z))) ⟨_, Z, ⟨(hw41.mono hC94.back), ho337⟩, hC94.bx⟩
       ·
        obtain rfl := hbb14.trans hc13
        refine cw_false Z (cw_region (lw_op Z Z Z (ow_move Z Z (lw_op Z Z Z (ow_add Z Z Z (lw_op Z Z Z (ow_fieldAddr Z Z Tryd.underlying31 Z (Tryd.sizeOf3 _) (lw_op0 Z Z (ow_store (X := (One g)) (us := [(.int .i64 (W (x3 + 1)))]) (cs' := #[(.int .i64 x1.1), (.int .i64 x21.Lo), (.int .i64 (W (x3 + 1))), (.bool bb1)]) Z Z Z Z ho314 (Tryd.sizeOf3 _) Z Z Z Z hm8 (.inl hg4) Z hC88 fun w95 ho340 hb64 hl95 hC95 => ?_)))))))))
        have ho341 := ho312.go hb64 (fun e => hn2 e)
        have ho342 := ho313.go hb64 (fun e => hn3 e)
        refine lw_nil (ew_blockN (ew_then (cw_seq (cw_region (lw_op Z Z Z (ow_loadOwnA Z Z Z ho340 (Tryd.isAgg31 _) (Tryd.sizeOf31 _) Z (lw_op0 Z Z (ow_store (X := (One g)) (us := [(.int .i64 x1.1), (.int .i64 x21.Lo), (.int .i64 (W (x3 + 1))), (.bool bb1)]) (cs' := #[(.int .i64 x1.1), (.int .i64 x21.Lo), (.int .i64 (W (x3 + 1))), (.bool bb1)]) Z Z Z Z ho342 (Tryd.sizeOf31 _) Z Z Z Z hm7 (.inl hg2) Z hC95 fun w96 ho344 hb65 hl96 hC96 => ?_))))))))
        have ho345 := ho341.go hb65 (fun e => hn1 e)
        refine lw_nil (ew_then (cw_ret ?_))
        have hw43 : VRep RTest w96 (Add g3 (Add g2 (Add g1 M))) ({ Field := x1.1, Lo := x21.Lo, Hi := (W (x3 + 1)), Not := (x2.1 == 0) } : Test) (.agg #[(.int .i64 x1.1), (.int .i64 x21.Lo), (.int .i64 (W (x3 + 1))), (.bool bb1)]) := by subst hbb1; exact shut_Test
        obtain rfl := Option.some.inj h
        exact ew_ret (res1 Z (.cell Z (own_loadVarA ho344 (Tryd.isAgg31 _) (Tryd.sizeOf31 _) Z))) ⟨_, Z, ⟨(hw43.mono hC96.back), ho345⟩, hC96.bx⟩
     ·
      obtain rfl := hbb12.trans hc11
      refine cw_false Z (cw_skip (ew_then (cw_seq (cw_region (lw_op Z Z Z (ow_loadOwnA Z Z Z ho310 (Tryd.isAgg31 _) (Tryd.sizeOf31 _) Z (lw_op0 Z Z (ow_store (X := (One g)) (us := [(.int .i64 x1.1), (.int .i64 x21.Lo), (.int .i64 x21.Hi), (.bool bb1)]) (cs' := #[(.int .i64 x1.1), (.int .i64 x21.Lo), (.int .i64 x21.Hi), (.bool bb1)]) Z Z Z Z ho309 (Tryd.sizeOf31 _) Z Z Z Z hm7 (.inl hg2) Z hC87 fun w97 ho348 hb66 hl97 hC97 => ?_))))))))
      have ho349 := ho308.go hb66 (fun e => hn1 e)
      refine lw_nil (ew_then (cw_ret ?_))
      have hw45 : VRep RTest w97 (Add g3 (Add g2 (Add g1 M))) ({ Field := x1.1, Lo := x21.Lo, Hi := x21.Hi, Not := (x2.1 == 0) } : Test) (.agg #[(.int .i64 x1.1), (.int .i64 x21.Lo), (.int .i64 x21.Hi), (.bool bb1)]) := by subst hbb1; exact shut_Test
      obtain rfl := Option.some.inj h
      exact ew_ret (res1 Z (.cell Z (own_loadVarA ho348 (Tryd.isAgg31 _) (Tryd.sizeOf31 _) Z))) ⟨_, Z, ⟨(hw45.mono hC97.back), ho349⟩, hC97.bx⟩
   ·
    obtain rfl := hbb11.trans hc10
    refine cw_false Z (cw_skip (ew_then (cw_seq (cw_region (lw_op Z Z Z (ow_fieldAddr Z Z Tryd.underlying79 Z (Tryd.sizeOf3 _) (lw_op Z Z Z (ow_loadOwn1 Z Z Z ho239 (Tryd.isAgg3 _) Z (lw_op Z Z Z (ow_fieldAddr Z Z Tryd.underlying31 Z (Tryd.sizeOf3 _) (lw_op0 Z Z (ow_store (X := (One g)) (us := [(.int .i64 x4.1.Lo)]) (cs' := #[(.int .i64 x1.1), (.int .i64 x4.1.Lo), (.int .i64 0), (.bool bb1)]) Z Z Z Z ho238 (Tryd.sizeOf3 _) Z Z Z Z hm8 (.inl hg4) Z hC66 fun w98 ho352 hb67 hl98 hC98 => ?_))))))))))))
    have ho353 := ho236.go hb67 (fun e => hn2 e)
    have ho354 := ho237.go hb67 (fun e => hn3 e)
    have ho355 := ho239.go hb67 (fun e => hn6 e.symm)
    refine lw_nil (ew_then (cw_seq (cw_region (lw_op Z Z Z (ow_fieldAddr Z Z Tryd.underlying79 Z (Tryd.sizeOf3 _) (lw_op Z Z Z (ow_loadOwn1 Z Z Z ho355 (Tryd.isAgg3 _) Z (lw_op Z Z Z (ow_fieldAddr Z Z Tryd.underlying31 Z (Tryd.sizeOf3 _) (lw_op0 Z Z (ow_store (X := (One g)) (us := [(.int .i64 x4.1.Hi)]) (cs' := #[(.int .i64 x1.1), (.int .i64 x4.1.Lo), (.int .i64 x4.1.Hi), (.bool bb1)]) Z Z Z Z ho352 (Tryd.sizeOf3 _) Z Z Z Z hm8 (.inl hg4) Z hC98 fun w99 ho356 hb68 hl99 hC99 => ?_)))))))))))
    have ho357 := ho353.go hb68 (fun e => hn2 e)
    have ho358 := ho354.go hb68 (fun e => hn3 e)
    refine lw_nil (ew_then (cw_seq (cw_seq (cw_region (lw_op Z Z Z (ow_move Z Z (lw_op Z Z Z (ow_move Z Z ?_))))))))
    have lz17 := ((((lz2.trans hl10).trans hl66).trans hl98).trans hl99)
    replace h := bind_some h
    obtain ⟨x26, hx26, h⟩ := h
    refine lw_op Z Z Z (ow_call Z Z Tryd.call81 (w_spec_l20Rd_odd (hG.mono lz17) hC99.old (VRep.mono lz17 hxs) ho357 hm6 hx26) fun v37 w100 hv37 => ?_)
    obtain ⟨⟨hv37, ho360⟩, hb69⟩ := hv37
    have hl100 := Le.of_bx (Add g3 (Add g2 (Add g1 M))) hb69 (fun b e => (by rw [show b = g from e]; exact hm6))
    have hC100 := hC99.go hb69 (fun b e => Or.inr e)
    have ho361 := ho358.go hb69 (fun e => hn1 e.symm)
    have ho362 := ho356.go hb69 (fun e => hn2 e.symm)
    obtain ⟨bb15, hbb15, rfl⟩ := vbool_ex hv37
    refine lw_nil (ew_then ?_)
    replace h := cond_some h
    rcases h with ⟨hc14, h⟩ | ⟨hc14, h⟩
    ·
     obtain rfl := hbb15.trans hc14
     refine cw_true Z (cw_seq (cw_region (lw_op Z Z Z (ow_move Z Z ?_))))
     replace h := bind_some h
     obtain ⟨x27, hx27, h⟩ := h
     refine lw_op Z Z Z (ow_call Z Z Tryd.call60 (w_spec_l20Rd_pick (hG.mono (lz17.trans hl100)) hC100.old (VRep.mono (lz17.trans hl100) hxs) ho360 hm6 hx27) fun v38 w101 hv38 => ?_)
     obtain ⟨⟨hv38, ho364⟩, hb70⟩ := hv38
     have hl101 := Le.of_bx (Add g3 (Add g2 (Add g1 M))) hb70 (fun b e => (by rw [show b = g from e]; exact hm6))
     have hC101 := hC100.go hb70 (fun b e => Or.inr e)
     have ho365 := ho361.go hb70 (fun e => hn1 e.symm)
     have ho366 := ho362.go hb70 (fun e => hn2 e.symm)
     obtain rfl := vint_eq hv38
     refine lw_nil (ew_then (cw_block (cw_seq (cw_region (lw_op Z Z Z (ow_eqlI Z Z Z fun bb16 hbb16 => lw_op Z Z Z (ow_assign Z Z (lw_nil (ew_then ?_)))))))))
     replace h := cond_some h
     rcases h with ⟨hc15, h⟩ | ⟨hc15, h⟩
     ·
      obtain rfl := hbb16.trans hc15
      refine cw_true Z (cw_region (lw_op Z Z Z (ow_buildSlice (R := RInt) (xs := [(-1), 4]) (cs := #[(.int .i64 (-1)), (.int .i64 4)]) (e := 3) Z Z (by kernel_rfl) Z Z ⟨_, _, Z, (vint _).cells, _, _, Z, (vint _).cells, Z⟩ hC101 fun p13 w102 hw46 hb71 hl102 hC102 => ?_)))
      have ho368 := ho364.no hb71
      have ho369 := ho365.no hb71
      have ho370 := ho366.no hb71
      refine lw_op Z Z Z (ow_move Z Z ?_)
      have lz18 := (((lz17.trans hl100).trans hl101).trans hl102)
      replace h := bind_some h
      obtain ⟨x28, hx28, h⟩ := h
      refine lw_op Z Z Z (ow_call Z Z Tryd.call60 (w_spec_l20Rd_pick (hG.mono lz18) hC102.old (VRep.mono lz18 hxs) ho368 hm6 hx28) fun v39 w103 hv39 => ?_)
      obtain ⟨⟨hv39, ho372⟩, hb72⟩ := hv39
      have hl103 := Le.of_bx (Add g3 (Add g2 (Add g1 M))) hb72 (fun b e => (by rw [show b = g from e]; exact hm6))
      have hC103 := hC102.go hb72 (fun b e => Or.inr e)
      have ho373 := ho369.go hb72 (fun e => hn1 e.symm)
      have ho374 := ho370.go hb72 (fun e => hn2 e.symm)
      obtain rfl := vint_eq hv39
      replace h := bind_some h
      obtain ⟨x29, hx29, h⟩ := h
      refine lw_op Z Z Z (ow_indexSlice (R := RInt) Z Z Z (VRep.mono hl103 hw46) Tryd.underlying52 (Tryd.sizeOf3 _) hx29 fun p14 hp14 => lw_op Z Z Z (ow_load (R := RInt) Z Z hp14 (Tryd.sizeOf3 _) (Tryd.isAgg3 _) fun v40 hv40 => ?_))
      obtain rfl := vint_eq hv40
      refine lw_op Z Z Z (ow_fieldAddr Z Z Tryd.underlying31 Z (Tryd.sizeOf3 _) (lw_op0 Z Z (ow_store (X := (One g)) (us := [(.int .i64 x29)]) (cs' := #[(.int .i64 x29), (.int .i64 x4.1.Lo), (.int .i64 x4.1.Hi), (.bool bb1)]) Z Z Z Z ho374 (Tryd.sizeOf3 _) Z Z Z Z hm8 (.inl hg4) Z hC103 fun w104 ho376 hb73 hl104 hC104 => ?_)))
      have ho377 := ho372.go hb73 (fun e => hn2 e)
      have ho378 := ho373.go hb73 (fun e => hn3 e)
      refine lw_nil (ew_blockN (ew_then (cw_seq (cw_region (lw_op Z Z Z (ow_loadOwnA Z Z Z ho376 (Tryd.isAgg31 _) (Tryd.sizeOf31 _) Z (lw_op0 Z Z (ow_store (X := (One g)) (us := [(.int .i64 x29), (.int .i64 x4.1.Lo), (.int .i64 x4.1.Hi), (.bool bb1)]) (cs' := #[(.int .i64 x29), (.int .i64 x4.1.Lo), (.int .i64 x4.1.Hi), (.bool bb1)]) Z Z Z Z ho378 (Tryd.sizeOf31 _) Z Z Z Z hm7 (.inl hg2) Z hC104 fun w105 ho380 hb74 hl105 hC105 => ?_))))))))
      have ho381 := ho377.go hb74 (fun e => hn1 e)
      refine lw_nil (ew_then (cw_ret ?_))
      have hw48 : VRep RTest w105 (Add g3 (Add g2 (Add g1 M))) ({ Field := x29, Lo := x4.1.Lo, Hi := x4.1.Hi, Not := (x2.1 == 0) } : Test) (.agg #[(.int .i64 x29), (.int .i64 x4.1.Lo), (.int .i64 x4.1.Hi), (.bool bb1)]) := by subst hbb1; exact shut_Test
      obtain rfl := Option.some.inj h
      exact ew_ret (res1 Z (.cell Z (own_loadVarA ho380 (Tryd.isAgg31 _) (Tryd.sizeOf31 _) Z))) ⟨_, Z, ⟨(hw48.mono hC105.back), ho381⟩, hC105.bx⟩
     ·
      obtain rfl := hbb16.trans hc15
      refine cw_false Z (cw_seq (cw_region (lw_op Z Z Z (ow_eqlI Z Z Z fun bb17 hbb17 => lw_op Z Z Z (ow_assign Z Z (lw_nil (ew_then ?_)))))))
      replace h := cond_some h
      rcases h with ⟨hc16, h⟩ | ⟨hc16, h⟩
      ·
       obtain rfl := hbb17.trans hc16
       refine cw_true Z (cw_region (lw_op Z Z Z (ow_fieldAddr Z Z Tryd.underlying31 Z (Tryd.sizeOf3 _) (lw_op Z Z Z (ow_loadOwn1 Z Z Z ho366 (Tryd.isAgg3 _) Z (lw_op Z Z Z (ow_add Z Z Z (lw_op Z Z Z (ow_fieldAddr Z Z Tryd.underlying31 Z (Tryd.sizeOf3 _) (lw_op0 Z Z (ow_store (X := (One g)) (us := [(.int .i64 (W (x4.1.Hi + 1)))]) (cs' := #[(.int .i64 x1.1), (.int .i64 (W (x4.1.Hi + 1))), (.int .i64 x4.1.Hi), (.bool bb1)]) Z Z Z Z ho366 (Tryd.sizeOf3 _) Z Z Z Z hm8 (.inl hg4) Z hC101 fun w106 ho384 hb75 hl106 hC106 => ?_)))))))))))
       have ho385 := ho364.go hb75 (fun e => hn2 e)
       have ho386 := ho365.go hb75 (fun e => hn3 e)
       refine lw_nil (ew_blockN (ew_then (cw_seq (cw_region (lw_op Z Z Z (ow_loadOwnA Z Z Z ho384 (Tryd.isAgg31 _) (Tryd.sizeOf31 _) Z (lw_op0 Z Z (ow_store (X := (One g)) (us := [(.int .i64 x1.1), (.int .i64 (W (x4.1.Hi + 1))), (.int .i64 x4.1.Hi), (.bool bb1)]) (cs' := #[(.int .i64 x1.1), (.int .i64 (W (x4.1.Hi + 1))), (.int .i64 x4.1.Hi), (.bool bb1)]) Z Z Z Z ho386 (Tryd.sizeOf31 _) Z Z Z Z hm7 (.inl hg2) Z hC106 fun w107 ho388 hb76 hl107 hC107 => ?_))))))))
       have ho389 := ho385.go hb76 (fun e => hn1 e)
       refine lw_nil (ew_then (cw_ret ?_))
       have hw50 : VRep RTest w107 (Add g3 (Add g2 (Add g1 M))) ({ Field := x1.1, Lo := (W (x4.1.Hi + 1)), Hi := x4.1.Hi, Not := (x2.1 == 0) } : Test) (.agg #[(.int .i64 x1.1), (.int .i64 (W (x4.1.Hi + 1))), (.int .i64 x4.1.Hi), (.bool bb1)]) := by subst hbb1; exact shut_Test
       obtain rfl := Option.some.inj h
       exact ew_ret (res1 Z (.cell Z (own_loadVarA ho388 (Tryd.isAgg31 _) (Tryd.sizeOf31 _) Z))) ⟨_, Z, ⟨(hw50.mono hC107.back), ho389⟩, hC107.bx⟩
      ·
       obtain rfl := hbb17.trans hc16
       refine cw_false Z (cw_region (lw_op Z Z Z (ow_move Z Z (lw_op Z Z Z (ow_add Z Z Z (lw_op Z Z Z (ow_fieldAddr Z Z Tryd.underlying31 Z (Tryd.sizeOf3 _) (lw_op0 Z Z (ow_store (X := (One g)) (us := [(.int .i64 (W (x3 + 1)))]) (cs' := #[(.int .i64 x1.1), (.int .i64 x4.1.Lo), (.int .i64 (W (x3 + 1))), (.bool bb1)]) Z Z Z Z ho366 (Tryd.sizeOf3 _) Z Z Z Z hm8 (.inl hg4) Z hC101 fun w108 ho392 hb77 hl108 hC108 => ?_)))))))))
       have ho393 := ho364.go hb77 (fun e => hn2 e)
       have ho394 := ho365.go hb77 (fun e => hn3 e)
       refine lw_nil (ew_blockN (ew_then (cw_seq (cw_region (lw_op Z Z Z (ow_loadOwnA Z Z Z ho392 (Tryd.isAgg31 _) (Tryd.sizeOf31 _) Z (lw_op0 Z Z (ow_store (X := (One g)) (us := [(.int .i64 x1.1), (.int .i64 x4.1.Lo), (.int .i64 (W (x3 + 1))), (.bool bb1)]) (cs' := #[(.int .i64 x1.1), (.int .i64 x4.1.Lo), (.int .i64 (W (x3 + 1))), (.bool bb1)]) Z Z Z Z ho394 (Tryd.sizeOf31 _) Z Z Z Z hm7 (.inl hg2) Z hC108 fun w109 ho396 hb78 hl109 hC109 => ?_))))))))
       have ho397 := ho393.go hb78 (fun e => hn1 e)
       refine lw_nil (ew_then (cw_ret ?_))
       have hw52 : VRep RTest w109 (Add g3 (Add g2 (Add g1 M))) ({ Field := x1.1, Lo := x4.1.Lo, Hi := (W (x3 + 1)), Not := (x2.1 == 0) } : Test) (.agg #[(.int .i64 x1.1), (.int .i64 x4.1.Lo), (.int .i64 (W (x3 + 1))), (.bool bb1)]) := by subst hbb1; exact shut_Test
       obtain rfl := Option.some.inj h
       exact ew_ret (res1 Z (.cell Z (own_loadVarA ho396 (Tryd.isAgg31 _) (Tryd.sizeOf31 _) Z))) ⟨_, Z, ⟨(hw52.mono hC109.back), ho397⟩, hC109.bx⟩
    ·
     obtain rfl := hbb15.trans hc14
     refine cw_false Z (cw_skip (ew_then (cw_seq (cw_region (lw_op Z Z Z (ow_loadOwnA Z Z Z ho362 (Tryd.isAgg31 _) (Tryd.sizeOf31 _) Z (lw_op0 Z Z (ow_store (X := (One g)) (us := [(.int .i64 x1.1), (.int .i64 x4.1.Lo), (.int .i64 x4.1.Hi), (.bool bb1)]) (cs' := #[(.int .i64 x1.1), (.int .i64 x4.1.Lo), (.int .i64 x4.1.Hi), (.bool bb1)]) Z Z Z Z ho361 (Tryd.sizeOf31 _) Z Z Z Z hm7 (.inl hg2) Z hC100 fun w110 ho400 hb79 hl110 hC110 => ?_))))))))
     have ho401 := ho360.go hb79 (fun e => hn1 e)
     refine lw_nil (ew_then (cw_ret ?_))
     have hw54 : VRep RTest w110 (Add g3 (Add g2 (Add g1 M))) ({ Field := x1.1, Lo := x4.1.Lo, Hi := x4.1.Hi, Not := (x2.1 == 0) } : Test) (.agg #[(.int .i64 x1.1), (.int .i64 x4.1.Lo), (.int .i64 x4.1.Hi), (.bool bb1)]) := by subst hbb1; exact shut_Test
     obtain rfl := Option.some.inj h
     exact ew_ret (res1 Z (.cell Z (own_loadVarA ho400 (Tryd.isAgg31 _) (Tryd.sizeOf31 _) Z))) ⟨_, Z, ⟨(hw54.mono hC110.back), ho401⟩, hC110.bx⟩
 ·
  obtain rfl := hbb2.trans hc1
  refine lw_off Z Z Z Z Z Z (lw_off Z Z Z Z Z Z (lw_off Z Z Z Z Z Z (lw_op Z Z Z (ow_pickF Z Z Z (lw_nil (ew_then (cw_false Z (cw_skip (ew_then (cw_seq (cw_seq (cw_region (lw_op Z Z Z (ow_move Z Z ?_))))))))))))))
  have lz19 := ((((lz1.trans hl6).trans hl7).trans hl8).trans hl9)
  replace h := bind_some h
  obtain ⟨x30, hx30, h⟩ := h
  refine lw_op Z Z Z (ow_call Z Z Tryd.call60 (w_spec_l20Rd_pick (hG.mono lz19) hC9.old (VRep.mono lz19 hxs) ho24 hm6 hx30) fun v41 w111 hv41 => ?_)
  obtain ⟨⟨hv41, ho404⟩, hb80⟩ := hv41
  have hl111 := Le.of_bx (Add g3 (Add g2 (Add g1 M))) hb80 (fun b e => (by rw [show b = g from e]; exact hm6))
  have hC111 := hC9.go hb80 (fun b e => Or.inr e)
  have ho405 := ho25.go hb80 (fun e => hn1 e.symm)
  have ho406 := ho26.go hb80 (fun e => hn2 e.symm)
  have ho407 := ho23.go hb80 (fun e => hn4 e.symm)
  obtain rfl := vint_eq hv41
  refine lw_op Z Z Z (ow_eqlI Z Z Z fun bb18 hbb18 => lw_nil (ew_then ?_))
  replace h := cond_some h
  rcases h with ⟨hc17, h⟩ | ⟨hc17, h⟩
  ·
   obtain rfl := hbb18.trans hc17
   refine cw_true Z ?_
   replace h := bind_some h
   obtain ⟨x31, hx31, h⟩ := h
   have lz20 := (lz19.trans hl111)
   refine cw_sub (E' := [(0, (.pointer (some ⟨g, 0, none⟩))), (1, (.int .i64 a_n)), (4, (.pointer (some ⟨g1, 0, none⟩))), (5, (.pointer (some ⟨g2, 0, none⟩))), (6, (.int .i64 x3)), (7, (.pointer (some ⟨g3, 0, none⟩)))]) ⟨Z, Z, Z, Z, Z, Z, trivial⟩ (cw_drawC (g := g) (T := 111) 12 1 [none, none, none, none, none, none, none, none, none, none, none, some 0] [#[(.slice Ax a_xs.length cx), (.int .i64 x30.2)], #[(.slice Ax a_xs.length cx), (.int .i64 x31.2)]] [PEq (.int .i64 x3), PV RSpan (Add g3 (Add g2 (Add g1 M))) ({ Lo := 0, Hi := x3 } : Span), PEq (.pointer (some ⟨g3, 1, none⟩)), PEq (.int .i64 x4.1.Hi), PV RSpan (Add g3 (Add g2 (Add g1 M))) ({ Lo := 0, Hi := x4.1.Hi } : Span), PEq (.pointer (some ⟨g3, 0, none⟩)), PEq (.int .i64 x4.1.Lo), PEq (.int .i64 x3), PV RSpan (Add g3 (Add g2 (Add g1 M))) ({ Lo := x4.1.Lo, Hi := x3 } : Span), PV (RSlice RSpan) (Add g3 (Add g2 (Add g1 M))) [({ Lo := 0, Hi := x3 } : Span), ({ Lo := 0, Hi := x4.1.Hi } : Span), ({ Lo := x4.1.Lo, Hi := x3 } : Span)], PEq (.pointer (some ⟨g, 0, none⟩)), PEq (.int .i64 x31.1)] (by kernel_rfl) Z (by kernel_rfl) (by kernel_rfl) ho404 ⟨(PEq.monoY hm6 _), (PV.monoY hm6 _ _), (PEq.monoY hm6 _), (PEq.monoY hm6 _), (PV.monoY hm6 _ _), (PEq.monoY hm6 _), (PEq.monoY hm6 _), (PEq.monoY hm6 _), (PV.monoY hm6 _ _), (PV.monoY hm6 _ _), (PEq.monoY hm6 _), (PEq.monoY hm6 _), trivial⟩ ⟨?_, ?_, ?_, ?_, ?_, ?_, ?_, ?_, ?_, ?_, ?_, ?_, trivial⟩ ?_)
   ·
    intro w114 D hS32 hd32
    exact dg_sub (E' := [(6, (.int .i64 x3))]) ⟨Z, trivial⟩ (dg_plain Z (ow_move Z Z ⟨BX.refl _ _, Z⟩))
   ·
    intro w115 D hS33 hd33
    refine dg_sub (E' := [(40, (.int .i64 x3))]) ⟨(dpE hd33 0 Z Z), trivial⟩ (dg_plain Z (ow_build (v := .agg #[(.int .i64 0), (.int .i64 x3)]) Z Z (by kernel_rfl) ?_))
    have hw59 : VRep RSpan w115 (Add g3 (Add g2 (Add g1 M))) ({ Lo := 0, Hi := x3 } : Span) (.agg #[(.int .i64 0), (.int .i64 x3)]) := shut_Span
    exact ⟨BX.refl _ _, hw59⟩
   ·
    intro w116 D hS34 hd34
    exact dg_sub (E' := [(7, (.pointer (some ⟨g3, 0, none⟩)))]) ⟨Z, trivial⟩ (dg_plain Z (ow_fieldAddr Z Z Tryd.underlying79 Z (Tryd.sizeOf3 _) ⟨BX.refl _ _, Z⟩))
   ·
    intro w117 D hS35 hd35
    have ho427 := ho407.go hS35 (fun e => hn4 e.symm)
    exact dg_sub (E' := [(42, (.pointer (some ⟨g3, 1, none⟩)))]) ⟨(dpE hd35 2 Z Z), trivial⟩ (dg_plain Z (ow_loadOwn1 Z Z Z ho427 (Tryd.isAgg3 _) Z ⟨BX.refl _ _, Z⟩))
   ·
    intro w118 D hS36 hd36
    refine dg_sub (E' := [(43, (.int .i64 x4.1.Hi))]) ⟨(dpE hd36 3 Z Z), trivial⟩ (dg_plain Z (ow_build (v := .agg #[(.int .i64 0), (.int .i64 x4.1.Hi)]) Z Z (by kernel_rfl) ?_))
    have hw60 : VRep RSpan w118 (Add g3 (Add g2 (Add g1 M))) ({ Lo := 0, Hi := x4.1.Hi } : Span) (.agg #[(.int .i64 0), (.int .i64 x4.1.Hi)]) := shut_Span
    exact ⟨BX.refl _ _, hw60⟩
   ·
    intro w119 D hS37 hd37
    exact dg_sub (E' := [(7, (.pointer (some ⟨g3, 0, none⟩)))]) ⟨Z, trivial⟩ (dg_plain Z (ow_fieldAddr Z Z Tryd.underlying79 Z (Tryd.sizeOf3 _) ⟨BX.refl _ _, Z⟩))
   ·
    intro w120 D hS38 hd38
    have ho436 := ho407.go hS38 (fun e => hn4 e.symm)
    exact dg_sub (E' := [(45, (.pointer (some ⟨g3, 0, none⟩)))]) ⟨(dpE hd38 5 Z Z), trivial⟩ (dg_plain Z (ow_loadOwn1 Z Z Z ho436 (Tryd.isAgg3 _) Z ⟨BX.refl _ _, Z⟩))
   ·
    intro w121 D hS39 hd39
    exact dg_sub (E' := [(6, (.int .i64 x3))]) ⟨Z, trivial⟩ (dg_plain Z (ow_move Z Z ⟨BX.refl _ _, Z⟩))
   ·
    intro w122 D hS40 hd40
    refine dg_sub (E' := [(46, (.int .i64 x4.1.Lo)), (47, (.int .i64 x3))]) ⟨(dpE hd40 6 Z Z), (dpE hd40 7 Z Z), trivial⟩ (dg_plain Z (ow_build (v := .agg #[(.int .i64 x4.1.Lo), (.int .i64 x3)]) Z Z (by kernel_rfl) ?_))
    have hw61 : VRep RSpan w122 (Add g3 (Add g2 (Add g1 M))) ({ Lo := x4.1.Lo, Hi := x3 } : Span) (.agg #[(.int .i64 x4.1.Lo), (.int .i64 x3)]) := shut_Span
    exact ⟨BX.refl _ _, hw61⟩
   ·
    intro w123 D hS41 hd41
    have hC123 := hC111.go hS41 (fun b e => Or.inr e)
    have d57 : PV RSpan (Add g3 (Add g2 (Add g1 M))) ({ Lo := 0, Hi := x3 } : Span) (D 1) w123 := dpA hd41 1 Z
    have d58 : PV RSpan (Add g3 (Add g2 (Add g1 M))) ({ Lo := 0, Hi := x4.1.Hi } : Span) (D 4) w123 := dpA hd41 4 Z
    have d59 : PV RSpan (Add g3 (Add g2 (Add g1 M))) ({ Lo := x4.1.Lo, Hi := x3 } : Span) (D 8) w123 := dpA hd41 8 Z
    generalize hq9 : (D 1) = v43 at d57
    generalize hq10 : (D 4) = v44 at d58
    generalize hq11 : (D 8) = v45 at d59
    refine dg_sub (E' := [(41, v43), (44, v44), (48, v45)]) ⟨(congrArg some hq9), (congrArg some hq10), (congrArg some hq11), trivial⟩ ?_
    obtain rfl := open_Span d57
    obtain rfl := open_Span d58
    obtain rfl := open_Span d59
    exact dg_plain Z (ow_buildSlice (R := RSpan) (xs := [({ Lo := 0, Hi := x3 } : Span), ({ Lo := 0, Hi := x4.1.Hi } : Span), ({ Lo := x4.1.Lo, Hi := x3 } : Span)]) (cs := #[(.int .i64 ({ Lo := 0, Hi := x3 } : Span).Lo), (.int .i64 ({ Lo := 0, Hi := x3 } : Span).Hi), (.int .i64 ({ Lo := 0, Hi := x4.1.Hi } : Span).Lo), (.int .i64 ({ Lo := 0, Hi := x4.1.Hi } : Span).Hi), (.int .i64 ({ Lo := x4.1.Lo, Hi := x3 } : Span).Lo), (.int .i64 ({ Lo := x4.1.Lo, Hi := x3 } : Span).Hi)]) (e := 79) Z Z (by kernel_rfl) Z Z ⟨_, _, Z, d57.cells, _, _, Z, d58.cells, _, _, Z, d59.cells, Z⟩ hC123 fun p16 w124 hw62 hb83 hl124 hC124 => ⟨hb83, hw62⟩)
   ·
    intro w125 D hS42 hd42
    exact dg_sub (E' := [(0, (.pointer (some ⟨g, 0, none⟩)))]) ⟨Z, trivial⟩ (dg_plain Z (ow_move Z Z ⟨BX.refl _ _, Z⟩))
   ·
    intro w126 D hS43 hd43
    obtain ⟨hS43, ho452⟩ := hS43
    have ho452 : Own w126 g 111 #[(.slice Ax a_xs.length cx), (.int .i64 x30.2)] := ho452
    have hl126 := leY hm6 hS43
    have hC126 := hC111.go hS43 (fun b e => Or.inr e)
    refine dg_sub (E' := [(50, (.pointer (some ⟨g, 0, none⟩)))]) ⟨(dpE hd43 10 Z Z), trivial⟩ (dg_plain Z (ow_call Z Z Tryd.call60 (w_spec_l20Rd_pick (hG.mono (lz20.trans hl126)) hC126.old (VRep.mono (lz20.trans hl126) hxs) ho452 hm6 hx31) fun v46 w127 hv46 => ?_))
    obtain ⟨⟨hv46, ho456⟩, hb84⟩ := hv46
    obtain rfl := vint_eq hv46
    exact ⟨⟨⟨hS43.trans hb84, ho456⟩, hb84⟩, Z⟩
   ·
    intro w128 D hS44 hd44
    have d70 : PV (RSlice RSpan) (Add g3 (Add g2 (Add g1 M))) [({ Lo := 0, Hi := x3 } : Span), ({ Lo := 0, Hi := x4.1.Hi } : Span), ({ Lo := x4.1.Lo, Hi := x3 } : Span)] (D 9) w128 := dpA hd44 9 Z
    obtain ⟨hS44, ho460⟩ := hS44
    have ho460 : Own w128 g 111 #[(.slice Ax a_xs.length cx), (.int .i64 x31.2)] := ho460
    have hl128 := leY hm6 hS44
    have hC128 := hC111.go hS44 (fun b e => Or.inr e)
    have ho461 := ho405.go hS44 (fun e => hn1 e.symm)
    have ho462 := ho406.go hS44 (fun e => hn2 e.symm)
    have ho463 := ho407.go hS44 (fun e => hn4 e.symm)
    generalize hq12 : (D 9) = v47 at d70
    refine lw_sub (E' := [(49, v47), (51, (.int .i64 x31.1)), (0, (.pointer (some ⟨g, 0, none⟩))), (1, (.int .i64 a_n)), (4, (.pointer (some ⟨g1, 0, none⟩))), (5, (.pointer (some ⟨g2, 0, none⟩))), (6, (.int .i64 x3)), (7, (.pointer (some ⟨g3, 0, none⟩)))]) ⟨(congrArg some hq12), (dpE hd44 11 Z Z), Z, Z, Z, Z, Z, Z, trivial⟩ ?_
    replace h := bind_some h
    obtain ⟨x32, hx32, h⟩ := h
    refine lw_op Z Z Z (ow_indexSlice (R := RSpan) Z Z Z d70 Tryd.underlying71 (Tryd.sizeOf79 _) hx32 fun p17 hp17 => lw_op Z Z Z (ow_load (R := RSpan) Z Z hp17 (Tryd.sizeOf79 _) (Tryd.isAgg79 _) fun v48 hv48 => ?_))
    obtain rfl := open_Span hv48
    refine lw_op0 Z Z (ow_store (X := (One g)) (us := [(.int .i64 x32.Lo), (.int .i64 x32.Hi)]) (cs' := #[(.int .i64 x32.Lo), (.int .i64 x32.Hi)]) Z Z Z Z ho463 (Tryd.sizeOf79 _) Z Z Z Z hm9 (.inl hg6) Z hC128 fun w129 ho464 hb85 hl129 hC129 => ?_)
    have ho465 := ho460.go hb85 (fun e => hn4 e)
    have ho466 := ho461.go hb85 (fun e => hn5 e)
    have ho467 := ho462.go hb85 (fun e => hn6 e)
    refine lw_nil (ew_then (cw_seq (cw_region (lw_op Z Z Z (ow_fieldAddr Z Z Tryd.underlying79 Z (Tryd.sizeOf3 _) (lw_op Z Z Z (ow_loadOwn1 Z Z Z ho464 (Tryd.isAgg3 _) Z (lw_op Z Z Z (ow_fieldAddr Z Z Tryd.underlying31 Z (Tryd.sizeOf3 _) (lw_op0 Z Z (ow_store (X := (One g)) (us := [(.int .i64 x32.Lo)]) (cs' := #[(.int .i64 x1.1), (.int .i64 x32.Lo), (.int .i64 0), (.bool bb1)]) Z Z Z Z ho467 (Tryd.sizeOf3 _) Z Z Z Z hm8 (.inl hg4) Z hC129 fun w130 ho468 hb86 hl130 hC130 => ?_)))))))))))
    have ho469 := ho465.go hb86 (fun e => hn2 e)
    have ho470 := ho466.go hb86 (fun e => hn3 e)
    have ho471 := ho464.go hb86 (fun e => hn6 e.symm)
    refine lw_nil (ew_then (cw_seq (cw_region (lw_op Z Z Z (ow_fieldAddr Z Z Tryd.underlying79 Z (Tryd.sizeOf3 _) (lw_op Z Z Z (ow_loadOwn1 Z Z Z ho471 (Tryd.isAgg3 _) Z (lw_op Z Z Z (ow_fieldAddr Z Z Tryd.underlying31 Z (Tryd.sizeOf3 _) (lw_op0 Z Z (ow_store (X := (One g)) (us := [(.int .i64 x32.Hi)]) (cs' := #[(.int .i64 x1.1), (.int .i64 x32.Lo), (.int .i64 x32.Hi), (.bool bb1)]) Z Z Z Z ho468 (Tryd.sizeOf3 _) Z Z Z Z hm8 (.inl hg4) Z hC130 fun w131 ho472 hb87 hl131 hC131 => ?_)))))))))))
    have ho473 := ho469.go hb87 (fun e => hn2 e)
    have ho474 := ho470.go hb87 (fun e => hn3 e)
    refine lw_nil (ew_then (cw_seq (cw_seq (cw_region (lw_op Z Z Z (ow_move Z Z (lw_op Z Z Z (ow_move Z Z ?_))))))))
    have lz23 := ((((lz20.trans hl128).trans hl129).trans hl130).trans hl131)
    replace h := bind_some h
    obtain ⟨x33, hx33, h⟩ := h
    refine lw_op Z Z Z (ow_call Z Z Tryd.call81 (w_spec_l20Rd_odd (hG.mono lz23) hC131.old (VRep.mono lz23 hxs) ho473 hm6 hx33) fun v49 w132 hv49 => ?_)
    obtain ⟨⟨hv49, ho476⟩, hb88⟩ := hv49
    have hl132 := Le.of_bx (Add g3 (Add g2 (Add g1 M))) hb88 (fun b e => (by rw [show b = g from e]; exact hm6))
    have hC132 := hC131.go hb88 (fun b e => Or.inr e)
    have ho477 := ho474.go hb88 (fun e => hn1 e.symm)
    have ho478 := ho472.go hb88 (fun e => hn2 e.symm)
    obtain ⟨bb19, hbb19, rfl⟩ := vbool_ex hv49
    refine lw_nil (ew_then ?_)
    replace h := cond_some h
    rcases h with ⟨hc18, h⟩ | ⟨hc18, h⟩
    ·
     obtain rfl := hbb19.trans hc18
     refine cw_true Z (cw_seq (cw_region (lw_op Z Z Z (ow_move Z Z ?_))))
     replace h := bind_some h
     obtain ⟨x34, hx34, h⟩ := h
     refine lw_op Z Z Z (ow_call Z Z Tryd.call60 (w_spec_l20Rd_pick (hG.mono (lz23.trans hl132)) hC132.old (VRep.mono (lz23.trans hl132) hxs) ho476 hm6 hx34) fun v50 w133 hv50 => ?_)
     obtain ⟨⟨hv50, ho480⟩, hb89⟩ := hv50
     have hl133 := Le.of_bx (Add g3 (Add g2 (Add g1 M))) hb89 (fun b e => (by rw [show b = g from e]; exact hm6))
     have hC133 := hC132.go hb89 (fun b e => Or.inr e)
     have ho481 := ho477.go hb89 (fun e => hn1 e.symm)
     have ho482 := ho478.go hb89 (fun e => hn2 e.symm)
     obtain rfl := vint_eq hv50
     refine lw_nil (ew_then (cw_block (cw_seq (cw_region (lw_op Z Z Z (ow_eqlI Z Z Z fun bb20 hbb20 => lw_op Z Z Z (ow_assign Z Z (lw_nil (ew_then ?_)))))))))
     replace h := cond_some h
     rcases h with ⟨hc19, h⟩ | ⟨hc19, h⟩
     ·
      obtain rfl := hbb20.trans hc19
      refine cw_true Z (cw_region (lw_op Z Z Z (ow_buildSlice (R := RInt) (xs := [(-1), 4]) (cs := #[(.int .i64 (-1)), (.int .i64 4)]) (e := 3) Z Z (by kernel_rfl) Z Z ⟨_, _, Z, (vint _).cells, _, _, Z, (vint _).cells, Z⟩ hC133 fun p18 w134 hw63 hb90 hl134 hC134 => ?_)))
      have ho484 := ho480.no hb90
      have ho485 := ho481.no hb90
      have ho486 := ho482.no hb90
      refine lw_op Z Z Z (ow_move Z Z ?_)
      have lz24 := (((lz23.trans hl132).trans hl133).trans hl134)
      replace h := bind_some h
      obtain ⟨x35, hx35, h⟩ := h
      refine lw_op Z Z Z (ow_call Z Z Tryd.call60 (w_spec_l20Rd_pick (hG.mono lz24) hC134.old (VRep.mono lz24 hxs) ho484 hm6 hx35) fun v51 w135 hv51 => ?_)
      obtain ⟨⟨hv51, ho488⟩, hb91⟩ := hv51
      have hl135 := Le.of_bx (Add g3 (Add g2 (Add g1 M))) hb91 (fun b e => (by rw [show b = g from e]; exact hm6))
      have hC135 := hC134.go hb91 (fun b e => Or.inr e)
      have ho489 := ho485.go hb91 (fun e => hn1 e.symm)
      have ho490 := ho486.go hb91 (fun e => hn2 e.symm)
      obtain rfl := vint_eq hv51
      replace h := bind_some h
      obtain ⟨x36, hx36, h⟩ := h
      refine lw_op Z Z Z (ow_indexSlice (R := RInt) Z Z Z (VRep.mono hl135 hw63) Tryd.underlying52 (Tryd.sizeOf3 _) hx36 fun p19 hp19 => lw_op Z Z Z (ow_load (R := RInt) Z Z hp19 (Tryd.sizeOf3 _) (Tryd.isAgg3 _) fun v52 hv52 => ?_))
      obtain rfl := vint_eq hv52
      refine lw_op Z Z Z (ow_fieldAddr Z Z Tryd.underlying31 Z (Tryd.sizeOf3 _) (lw_op0 Z Z (ow_store (X := (One g)) (us := [(.int .i64 x36)]) (cs' := #[(.int .i64 x36), (.int .i64 x32.Lo), (.int .i64 x32.Hi), (.bool bb1)]) Z Z Z Z ho490 (Tryd.sizeOf3 _) Z Z Z Z hm8 (.inl hg4) Z hC135 fun w136 ho492 hb92 hl136 hC136 => ?_)))
      have ho493 := ho488.go hb92 (fun e => hn2 e)
      have ho494 := ho489.go hb92 (fun e => hn3 e)
      refine lw_nil (ew_blockN (ew_then (cw_seq (cw_region (lw_op Z Z Z (ow_loadOwnA Z Z Z ho492 (Tryd.isAgg31 _) (Tryd.sizeOf31 _) Z (lw_op0 Z Z (ow_store (X := (One g)) (us := [(.int .i64 x36), (.int .i64 x32.Lo), (.int .i64 x32.Hi), (.bool bb1)]) (cs' := #[(.int .i64 x36), (.int .i64 x32.Lo), (.int .i64 x32.Hi), (.bool bb1)]) Z Z Z Z ho494 (Tryd.sizeOf31 _) Z Z Z Z hm7 (.inl hg2) Z hC136 fun w137 ho496 hb93 hl137 hC137 => ?_))))))))
      have ho497 := ho493.go hb93 (fun e => hn1 e)
      refine lw_nil (ew_then (cw_ret ?_))
      have hw65 : VRep RTest w137 (Add g3 (Add g2 (Add g1 M))) ({ Field := x36, Lo := x32.Lo, Hi := x32.Hi, Not := (x2.1 == 0) } : Test) (.agg #[(.int .i64 x36), (.int .i64 x32.Lo), (.int .i64 x32.Hi), (.bool bb1)]) := by subst hbb1; exact shut_Test
      obtain rfl := Option.some.inj h
      exact ew_ret (res1 Z (.cell Z (own_loadVarA ho496 (Tryd.isAgg31 _) (Tryd.sizeOf31 _) Z))) ⟨_, Z, ⟨(hw65.mono hC137.back), ho497⟩, hC137.bx⟩
     ·
      obtain rfl := hbb20.trans hc19
      refine cw_false Z (cw_seq (cw_region (lw_op Z Z Z (ow_eqlI Z Z Z fun bb21 hbb21 => lw_op Z Z Z (ow_assign Z Z (lw_nil (ew_then ?_)))))))
      replace h := cond_some h
      rcases h with ⟨hc20, h⟩ | ⟨hc20, h⟩
      ·
       obtain rfl := hbb21.trans hc20
       refine cw_true Z (cw_region (lw_op Z Z Z (ow_fieldAddr Z Z Tryd.underlying31 Z (Tryd.sizeOf3 _) (lw_op Z Z Z (ow_loadOwn1 Z Z Z ho482 (Tryd.isAgg3 _) Z (lw_op Z Z Z (ow_add Z Z Z (lw_op Z Z Z (ow_fieldAddr Z Z Tryd.underlying31 Z (Tryd.sizeOf3 _) (lw_op0 Z Z (ow_store (X := (One g)) (us := [(.int .i64 (W (x32.Hi + 1)))]) (cs' := #[(.int .i64 x1.1), (.int .i64 (W (x32.Hi + 1))), (.int .i64 x32.Hi), (.bool bb1)]) Z Z Z Z ho482 (Tryd.sizeOf3 _) Z Z Z Z hm8 (.inl hg4) Z hC133 fun w138 ho500 hb94 hl138 hC138 => ?_)))))))))))
       have ho501 := ho480.go hb94 (fun e => hn2 e)
       have ho502 := ho481.go hb94 (fun e => hn3 e)
       refine lw_nil (ew_blockN (ew_then (cw_seq (cw_region (lw_op Z Z Z (ow_loadOwnA Z Z Z ho500 (Tryd.isAgg31 _) (Tryd.sizeOf31 _) Z (lw_op0 Z Z (ow_store (X := (One g)) (us := [(.int .i64 x1.1), (.int .i64 (W (x32.Hi + 1))), (.int .i64 x32.Hi), (.bool bb1)]) (cs' := #[(.int .i64 x1.1), (.int .i64 (W (x32.Hi + 1))), (.int .i64 x32.Hi), (.bool bb1)]) Z Z Z Z ho502 (Tryd.sizeOf31 _) Z Z Z Z hm7 (.inl hg2) Z hC138 fun w139 ho504 hb95 hl139 hC139 => ?_))))))))
       have ho505 := ho501.go hb95 (fun e => hn1 e)
       refine lw_nil (ew_then (cw_ret ?_))
       have hw67 : VRep RTest w139 (Add g3 (Add g2 (Add g1 M))) ({ Field := x1.1, Lo := (W (x32.Hi + 1)), Hi := x32.Hi, Not := (x2.1 == 0) } : Test) (.agg #[(.int .i64 x1.1), (.int .i64 (W (x32.Hi + 1))), (.int .i64 x32.Hi), (.bool bb1)]) := by subst hbb1; exact shut_Test
       obtain rfl := Option.some.inj h
       exact ew_ret (res1 Z (.cell Z (own_loadVarA ho504 (Tryd.isAgg31 _) (Tryd.sizeOf31 _) Z))) ⟨_, Z, ⟨(hw67.mono hC139.back), ho505⟩, hC139.bx⟩
      ·
       obtain rfl := hbb21.trans hc20
       refine cw_false Z (cw_region (lw_op Z Z Z (ow_move Z Z (lw_op Z Z Z (ow_add Z Z Z (lw_op Z Z Z (ow_fieldAddr Z Z Tryd.underlying31 Z (Tryd.sizeOf3 _) (lw_op0 Z Z (ow_store (X := (One g)) (us := [(.int .i64 (W (x3 + 1)))]) (cs' := #[(.int .i64 x1.1), (.int .i64 x32.Lo), (.int .i64 (W (x3 + 1))), (.bool bb1)]) Z Z Z Z ho482 (Tryd.sizeOf3 _) Z Z Z Z hm8 (.inl hg4) Z hC133 fun w140 ho508 hb96 hl140 hC140 => ?_)))))))))
       have ho509 := ho480.go hb96 (fun e => hn2 e)
       have ho510 := ho481.go hb96 (fun e => hn3 e)
       refine lw_nil (ew_blockN (ew_then (cw_seq (cw_region (lw_op Z Z Z (ow_loadOwnA Z Z Z ho508 (Tryd.isAgg31 _) (Tryd.sizeOf31 _) Z (lw_op0 Z Z (ow_store (X := (One g)) (us := [(.int .i64 x1.1), (.int .i64 x32.Lo), (.int .i64 (W (x3 + 1))), (.bool bb1)]) (cs' := #[(.int .i64 x1.1), (.int .i64 x32.Lo), (.int .i64 (W (x3 + 1))), (.bool bb1)]) Z Z Z Z ho510 (Tryd.sizeOf31 _) Z Z Z Z hm7 (.inl hg2) Z hC140 fun w141 ho512 hb97 hl141 hC141 => ?_))))))))
       have ho513 := ho509.go hb97 (fun e => hn1 e)
       refine lw_nil (ew_then (cw_ret ?_))
       have hw69 : VRep RTest w141 (Add g3 (Add g2 (Add g1 M))) ({ Field := x1.1, Lo := x32.Lo, Hi := (W (x3 + 1)), Not := (x2.1 == 0) } : Test) (.agg #[(.int .i64 x1.1), (.int .i64 x32.Lo), (.int .i64 (W (x3 + 1))), (.bool bb1)]) := by subst hbb1; exact shut_Test
       obtain rfl := Option.some.inj h
       exact ew_ret (res1 Z (.cell Z (own_loadVarA ho512 (Tryd.isAgg31 _) (Tryd.sizeOf31 _) Z))) ⟨_, Z, ⟨(hw69.mono hC141.back), ho513⟩, hC141.bx⟩
    ·
     obtain rfl := hbb19.trans hc18
     refine cw_false Z (cw_skip (ew_then (cw_seq (cw_region (lw_op Z Z Z (ow_loadOwnA Z Z Z ho478 (Tryd.isAgg31 _) (Tryd.sizeOf31 _) Z (lw_op0 Z Z (ow_store (X := (One g)) (us := [(.int .i64 x1.1), (.int .i64 x32.Lo), (.int .i64 x32.Hi), (.bool bb1)]) (cs' := #[(.int .i64 x1.1), (.int .i64 x32.Lo), (.int .i64 x32.Hi), (.bool bb1)]) Z Z Z Z ho477 (Tryd.sizeOf31 _) Z Z Z Z hm7 (.inl hg2) Z hC132 fun w142 ho516 hb98 hl142 hC142 => ?_))))))))
     have ho517 := ho476.go hb98 (fun e => hn1 e)
     refine lw_nil (ew_then (cw_ret ?_))
     have hw71 : VRep RTest w142 (Add g3 (Add g2 (Add g1 M))) ({ Field := x1.1, Lo := x32.Lo, Hi := x32.Hi, Not := (x2.1 == 0) } : Test) (.agg #[(.int .i64 x1.1), (.int .i64 x32.Lo), (.int .i64 x32.Hi), (.bool bb1)]) := by subst hbb1; exact shut_Test
     obtain rfl := Option.some.inj h
     exact ew_ret (res1 Z (.cell Z (own_loadVarA ho516 (Tryd.isAgg31 _) (Tryd.sizeOf31 _) Z))) ⟨_, Z, ⟨(hw71.mono hC142.back), ho517⟩, hC142.bx⟩
  ·
   obtain rfl := hbb18.trans hc17
   refine cw_false Z (cw_skip (ew_then (cw_seq (cw_region (lw_op Z Z Z (ow_fieldAddr Z Z Tryd.underlying79 Z (Tryd.sizeOf3 _) (lw_op Z Z Z (ow_loadOwn1 Z Z Z ho407 (Tryd.isAgg3 _) Z (lw_op Z Z Z (ow_fieldAddr Z Z Tryd.underlying31 Z (Tryd.sizeOf3 _) (lw_op0 Z Z (ow_store (X := (One g)) (us := [(.int .i64 x4.1.Lo)]) (cs' := #[(.int .i64 x1.1), (.int .i64 x4.1.Lo), (.int .i64 0), (.bool bb1)]) Z Z Z Z ho406 (Tryd.sizeOf3 _) Z Z Z Z hm8 (.inl hg4) Z hC111 fun w143 ho520 hb99 hl143 hC143 => ?_))))))))))))
   have ho521 := ho404.go hb99 (fun e => hn2 e)
   have ho522 := ho405.go hb99 (fun e => hn3 e)
   have ho523 := ho407.go hb99 (fun e => hn6 e.symm)
   refine lw_nil (ew_then (cw_seq (cw_region (lw_op Z Z Z (ow_fieldAddr Z Z Tryd.underlying79 Z (Tryd.sizeOf3 _) (lw_op Z Z Z (ow_loadOwn1 Z Z Z ho523 (Tryd.isAgg3 _) Z (lw_op Z Z Z (ow_fieldAddr Z Z Tryd.underlying31 Z (Tryd.sizeOf3 _) (lw_op0 Z Z (ow_store (X := (One g)) (us := [(.int .i64 x4.1.Hi)]) (cs' := #[(.int .i64 x1.1), (.int .i64 x4.1.Lo), (.int .i64 x4.1.Hi), (.bool bb1)]) Z Z Z Z ho520 (Tryd.sizeOf3 _) Z Z Z Z hm8 (.inl hg4) Z hC143 fun w144 ho524 hb100 hl144 hC144 => ?_)))))))))))
   have ho525 := ho521.go hb100 (fun e => hn2 e)
   have ho526 := ho522.go hb100 (fun e => hn3 e)
   refine lw_nil (ew_then (cw_seq (cw_seq (cw_region (lw_op Z Z Z (ow_move Z Z (lw_op Z Z Z (ow_move Z Z ?_))))))))
   have lz25 := (((lz19.trans hl111).trans hl143).trans hl144)
   replace h := bind_some h
   obtain ⟨x37, hx37, h⟩ := h
   refine lw_op Z Z Z (ow_call Z Z Tryd.call81 (w_spec_l20Rd_odd (hG.mono lz25) hC144.old (VRep.mono lz25 hxs) ho525 hm6 hx37) fun v53 w145 hv53 => ?_)
   obtain ⟨⟨hv53, ho528⟩, hb101⟩ := hv53
   have hl145 := Le.of_bx (Add g3 (Add g2 (Add g1 M))) hb101 (fun b e => (by rw [show b = g from e]; exact hm6))
   have hC145 := hC144.go hb101 (fun b e => Or.inr e)
   have ho529 := ho526.go hb101 (fun e => hn1 e.symm)
   have ho530 := ho524.go hb101 (fun e => hn2 e.symm)
   obtain ⟨bb22, hbb22, rfl⟩ := vbool_ex hv53
   refine lw_nil (ew_then ?_)
   replace h := cond_some h
   rcases h with ⟨hc21, h⟩ | ⟨hc21, h⟩
   ·
    obtain rfl := hbb22.trans hc21
    refine cw_true Z (cw_seq (cw_region (lw_op Z Z Z (ow_move Z Z ?_))))
    replace h := bind_some h
    obtain ⟨x38, hx38, h⟩ := h
    refine lw_op Z Z Z (ow_call Z Z Tryd.call60 (w_spec_l20Rd_pick (hG.mono (lz25.trans hl145)) hC145.old (VRep.mono (lz25.trans hl145) hxs) ho528 hm6 hx38) fun v54 w146 hv54 => ?_)
    obtain ⟨⟨hv54, ho532⟩, hb102⟩ := hv54
    have hl146 := Le.of_bx (Add g3 (Add g2 (Add g1 M))) hb102 (fun b e => (by rw [show b = g from e]; exact hm6))
    have hC146 := hC145.go hb102 (fun b e => Or.inr e)
    have ho533 := ho529.go hb102 (fun e => hn1 e.symm)
    have ho534 := ho530.go hb102 (fun e => hn2 e.symm)
    obtain rfl := vint_eq hv54
    refine lw_nil (ew_then (cw_block (cw_seq (cw_region (lw_op Z Z Z (ow_eqlI Z Z Z fun bb23 hbb23 => lw_op Z Z Z (ow_assign Z Z (lw_nil (ew_then ?_)))))))))
    replace h := cond_some h
    rcases h with ⟨hc22, h⟩ | ⟨hc22, h⟩
    ·
     obtain rfl := hbb23.trans hc22
     refine cw_true Z (cw_region (lw_op Z Z Z (ow_buildSlice (R := RInt) (xs := [(-1), 4]) (cs := #[(.int .i64 (-1)), (.int .i64 4)]) (e := 3) Z Z (by kernel_rfl) Z Z ⟨_, _, Z, (vint _).cells, _, _, Z, (vint _).cells, Z⟩ hC146 fun p20 w147 hw72 hb103 hl147 hC147 => ?_)))
     have ho536 := ho532.no hb103
     have ho537 := ho533.no hb103
     have ho538 := ho534.no hb103
     refine lw_op Z Z Z (ow_move Z Z ?_)
     have lz26 := (((lz25.trans hl145).trans hl146).trans hl147)
     replace h := bind_some h
     obtain ⟨x39, hx39, h⟩ := h
     refine lw_op Z Z Z (ow_call Z Z Tryd.call60 (w_spec_l20Rd_pick (hG.mono lz26) hC147.old (VRep.mono lz26 hxs) ho536 hm6 hx39) fun v55 w148 hv55 => ?_)
     obtain ⟨⟨hv55, ho540⟩, hb104⟩ := hv55
     have hl148 := Le.of_bx (Add g3 (Add g2 (Add g1 M))) hb104 (fun b e => (by rw [show b = g from e]; exact hm6))
     have hC148 := hC147.go hb104 (fun b e => Or.inr e)
     have ho541 := ho537.go hb104 (fun e => hn1 e.symm)
     have ho542 := ho538.go hb104 (fun e => hn2 e.symm)
     obtain rfl := vint_eq hv55
     replace h := bind_some h
     obtain ⟨x40, hx40, h⟩ := h
     refine lw_op Z Z Z (ow_indexSlice (R := RInt) Z Z Z (VRep.mono hl148 hw72) Tryd.underlying52 (Tryd.sizeOf3 _) hx40 fun p21 hp21 => lw_op Z Z Z (ow_load (R := RInt) Z Z hp21 (Tryd.sizeOf3 _) (Tryd.isAgg3 _) fun v56 hv56 => ?_))
     obtain rfl := vint_eq hv56
     refine lw_op Z Z Z (ow_fieldAddr Z Z Tryd.underlying31 Z (Tryd.sizeOf3 _) (lw_op0 Z Z (ow_store (X := (One g)) (us := [(.int .i64 x40)]) (cs' := #[(.int .i64 x40), (.int .i64 x4.1.Lo), (.int .i64 x4.1.Hi), (.bool bb1)]) Z Z Z Z ho542 (Tryd.sizeOf3 _) Z Z Z Z hm8 (.inl hg4) Z hC148 fun w149 ho544 hb105 hl149 hC149 => ?_)))
     have ho545 := ho540.go hb105 (fun e => hn2 e)
     have ho546 := ho541.go hb105 (fun e => hn3 e)
     refine lw_nil (ew_blockN (ew_then (cw_seq (cw_region (lw_op Z Z Z (ow_loadOwnA Z Z Z ho544 (Tryd.isAgg31 _) (Tryd.sizeOf31 _) Z (lw_op0 Z Z (ow_store (X := (One g)) (us := [(.int .i64 x40), (.int .i64 x4.1.Lo), (.int .i64 x4.1.Hi), (.bool bb1)]) (cs' := #[(.int .i64 x40), (.int .i64 x4.1.Lo), (.int .i64 x4.1.Hi), (.bool bb1)]) Z Z Z Z ho546 (Tryd.sizeOf31 _) Z Z Z Z hm7 (.inl hg2) Z hC149 fun w150 ho548 hb106 hl150 hC150 => ?_))))))))
     have ho549 := ho545.go hb106 (fun e => hn1 e)
     refine lw_nil (ew_then (cw_ret ?_))
     have hw74 : VRep RTest w150 (Add g3 (Add g2 (Add g1 M))) ({ Field := x40, Lo := x4.1.Lo, Hi := x4.1.Hi, Not := (x2.1 == 0) } : Test) (.agg #[(.int .i64 x40), (.int .i64 x4.1.Lo), (.int .i64 x4.1.Hi), (.bool bb1)]) := by subst hbb1; exact shut_Test
     obtain rfl := Option.some.inj h
     exact ew_ret (res1 Z (.cell Z (own_loadVarA ho548 (Tryd.isAgg31 _) (Tryd.sizeOf31 _) Z))) ⟨_, Z, ⟨(hw74.mono hC150.back), ho549⟩, hC150.bx⟩
    ·
     obtain rfl := hbb23.trans hc22
     refine cw_false Z (cw_seq (cw_region (lw_op Z Z Z (ow_eqlI Z Z Z fun bb24 hbb24 => lw_op Z Z Z (ow_assign Z Z (lw_nil (ew_then ?_)))))))
     replace h := cond_some h
     rcases h with ⟨hc23, h⟩ | ⟨hc23, h⟩
     ·
      obtain rfl := hbb24.trans hc23
      refine cw_true Z (cw_region (lw_op Z Z Z (ow_fieldAddr Z Z Tryd.underlying31 Z (Tryd.sizeOf3 _) (lw_op Z Z Z (ow_loadOwn1 Z Z Z ho534 (Tryd.isAgg3 _) Z (lw_op Z Z Z (ow_add Z Z Z (lw_op Z Z Z (ow_fieldAddr Z Z Tryd.underlying31 Z (Tryd.sizeOf3 _) (lw_op0 Z Z (ow_store (X := (One g)) (us := [(.int .i64 (W (x4.1.Hi + 1)))]) (cs' := #[(.int .i64 x1.1), (.int .i64 (W (x4.1.Hi + 1))), (.int .i64 x4.1.Hi), (.bool bb1)]) Z Z Z Z ho534 (Tryd.sizeOf3 _) Z Z Z Z hm8 (.inl hg4) Z hC146 fun w151 ho552 hb107 hl151 hC151 => ?_)))))))))))
      have ho553 := ho532.go hb107 (fun e => hn2 e)
      have ho554 := ho533.go hb107 (fun e => hn3 e)
      refine lw_nil (ew_blockN (ew_then (cw_seq (cw_region (lw_op Z Z Z (ow_loadOwnA Z Z Z ho552 (Tryd.isAgg31 _) (Tryd.sizeOf31 _) Z (lw_op0 Z Z (ow_store (X := (One g)) (us := [(.int .i64 x1.1), (.int .i64 (W (x4.1.Hi + 1))), (.int .i64 x4.1.Hi), (.bool bb1)]) (cs' := #[(.int .i64 x1.1), (.int .i64 (W (x4.1.Hi + 1))), (.int .i64 x4.1.Hi), (.bool bb1)]) Z Z Z Z ho554 (Tryd.sizeOf31 _) Z Z Z Z hm7 (.inl hg2) Z hC151 fun w152 ho556 hb108 hl152 hC152 => ?_))))))))
      have ho557 := ho553.go hb108 (fun e => hn1 e)
      refine lw_nil (ew_then (cw_ret ?_))
      have hw76 : VRep RTest w152 (Add g3 (Add g2 (Add g1 M))) ({ Field := x1.1, Lo := (W (x4.1.Hi + 1)), Hi := x4.1.Hi, Not := (x2.1 == 0) } : Test) (.agg #[(.int .i64 x1.1), (.int .i64 (W (x4.1.Hi + 1))), (.int .i64 x4.1.Hi), (.bool bb1)]) := by subst hbb1; exact shut_Test
      obtain rfl := Option.some.inj h
      exact ew_ret (res1 Z (.cell Z (own_loadVarA ho556 (Tryd.isAgg31 _) (Tryd.sizeOf31 _) Z))) ⟨_, Z, ⟨(hw76.mono hC152.back), ho557⟩, hC152.bx⟩
     ·
      obtain rfl := hbb24.trans hc23
      refine cw_false Z (cw_region (lw_op Z Z Z (ow_move Z Z (lw_op Z Z Z (ow_add Z Z Z (lw_op Z Z Z (ow_fieldAddr Z Z Tryd.underlying31 Z (Tryd.sizeOf3 _) (lw_op0 Z Z (ow_store (X := (One g)) (us := [(.int .i64 (W (x3 + 1)))]) (cs' := #[(.int .i64 x1.1), (.int .i64 x4.1.Lo), (.int .i64 (W (x3 + 1))), (.bool bb1)]) Z Z Z Z ho534 (Tryd.sizeOf3 _) Z Z Z Z hm8 (.inl hg4) Z hC146 fun w153 ho560 hb109 hl153 hC153 => ?_)))))))))
      have ho561 := ho532.go hb109 (fun e => hn2 e)
      have ho562 := ho533.go hb109 (fun e => hn3 e)
      refine lw_nil (ew_blockN (ew_then (cw_seq (cw_region (lw_op Z Z Z (ow_loadOwnA Z Z Z ho560 (Tryd.isAgg31 _) (Tryd.sizeOf31 _) Z (lw_op0 Z Z (ow_store (X := (One g)) (us := [(.int .i64 x1.1), (.int .i64 x4.1.Lo), (.int .i64 (W (x3 + 1))), (.bool bb1)]) (cs' := #[(.int .i64 x1.1), (.int .i64 x4.1.Lo), (.int .i64 (W (x3 + 1))), (.bool bb1)]) Z Z Z Z ho562 (Tryd.sizeOf31 _) Z Z Z Z hm7 (.inl hg2) Z hC153 fun w154 ho564 hb110 hl154 hC154 => ?_))))))))
      have ho565 := ho561.go hb110 (fun e => hn1 e)
      refine lw_nil (ew_then (cw_ret ?_))
      have hw78 : VRep RTest w154 (Add g3 (Add g2 (Add g1 M))) ({ Field := x1.1, Lo := x4.1.Lo, Hi := (W (x3 + 1)), Not := (x2.1 == 0) } : Test) (.agg #[(.int .i64 x1.1), (.int .i64 x4.1.Lo), (.int .i64 (W (x3 + 1))), (.bool bb1)]) := by subst hbb1; exact shut_Test
      obtain rfl := Option.some.inj h
      exact ew_ret (res1 Z (.cell Z (own_loadVarA ho564 (Tryd.isAgg31 _) (Tryd.sizeOf31 _) Z))) ⟨_, Z, ⟨(hw78.mono hC154.back), ho565⟩, hC154.bx⟩
   ·
    obtain rfl := hbb22.trans hc21
    refine cw_false Z (cw_skip (ew_then (cw_seq (cw_region (lw_op Z Z Z (ow_loadOwnA Z Z Z ho530 (Tryd.isAgg31 _) (Tryd.sizeOf31 _) Z (lw_op0 Z Z (ow_store (X := (One g)) (us := [(.int .i64 x1.1), (.int .i64 x4.1.Lo), (.int .i64 x4.1.Hi), (.bool bb1)]) (cs' := #[(.int .i64 x1.1), (.int .i64 x4.1.Lo), (.int .i64 x4.1.Hi), (.bool bb1)]) Z Z Z Z ho529 (Tryd.sizeOf31 _) Z Z Z Z hm7 (.inl hg2) Z hC145 fun w155 ho568 hb111 hl155 hC155 => ?_))))))))
    have ho569 := ho528.go hb111 (fun e => hn1 e)
    refine lw_nil (ew_then (cw_ret ?_))
    have hw80 : VRep RTest w155 (Add g3 (Add g2 (Add g1 M))) ({ Field := x1.1, Lo := x4.1.Lo, Hi := x4.1.Hi, Not := (x2.1 == 0) } : Test) (.agg #[(.int .i64 x1.1), (.int .i64 x4.1.Lo), (.int .i64 x4.1.Hi), (.bool bb1)]) := by subst hbb1; exact shut_Test
    obtain rfl := Option.some.inj h
    exact ew_ret (res1 Z (.cell Z (own_loadVarA ho568 (Tryd.isAgg31 _) (Tryd.sizeOf31 _) Z))) ⟨_, Z, ⟨(hw80.mono hC155.back), ho569⟩, hC155.bx⟩

theorem w_spec_l20Tests {w : World} {M : Nat → Prop} (hG : ARep (RArr 4 RShape) w M shapes ⟨0, 0, none⟩) (hO : ∀ b, M b → b < w.heap.size) {g : Nat} {Ax : Option Addr} {cx : Nat} {a_xs : List Int} {a_pos : Int} (hxs : VRep (RSlice RU8) w M a_xs (.slice Ax a_xs.length cx)) (hown : Own w g 111 #[.slice Ax a_xs.length cx, .int .i64 a_pos]) (hgM : M g) {a_n : Int} {r : ((List Test)) × Int} (h : F.spec_l20Tests a_xs a_pos a_n = some r) :
  Calls Tryd.prog 79 [(.pointer (some ⟨g, 0, none⟩)), (.int .i64 a_n)].toArray w fun e w' => ∃ v, e = .returned v ∧ (VRep (RSlice RTest) w' M r.1 v ∧ Own w' g 111 #[.slice Ax a_xs.length cx, .int .i64 r.2]) ∧ BX (One g) w w' := by
 obtain ⟨i31, hi31, hz31, hs31, hy31⟩ := info31
 have hX : ∀ b, (One g) b → M b := fun b e => e ▸ hgM
 have hC : Cx (One g) w M w M := Cx.start hO hX
 refine walk (N := 32) Tryd.func79 Z Tryd.ntmps79 Z (cw_seq (cw_region (lw_op Z Z Z (ow_assign Z Z (lw_nil (ew_then (cw_seq (cw_region (lw_op Z Z Z (ow_buildSlice0 (R := RTest) (e := 31) Z (by kernel_rfl) hC fun p1 w1 M1 hr1 hb1 hl1 hC1 hM1 hat1 => ?_))))))))))
 have ho1 := hown.no hb1
 have hm1 := hM1 _ hgM
 refine lw_op Z Z Z (ow_assign Z Z (lw_nil (ew_then (cw_seq (cw_seq (cw_region (lw_op Z Z Z (ow_move Z Z ?_))))))))
 replace h := bind_some h
 obtain ⟨x1, hx1, h⟩ := h
 refine lw_op Z Z Z (ow_call Z Z Tryd.call60 (w_spec_l20Rd_pick (hG.mono hl1) hC1.old (VRep.mono hl1 hxs) ho1 hm1 hx1) fun v1 w2 hv1 => ?_)
 obtain ⟨⟨hv1, ho2⟩, hb2⟩ := hv1
 have hl2 := Le.of_bx M1 hb2 (fun b e => (by rw [show b = g from e]; exact hm1))
 have hC2 := hC1.go hb2 (fun b e => Or.inr e)
 have hr2 := hr1.go hb2 (fun k hk e => (orow_ne hr1 ho1 (by decide)) (hk.trans (congrArg some e))) hl2 (fun _ h => h)
 obtain rfl := vint_eq hv1
 refine lw_op Z Z Z (ow_assign Z Z (lw_nil (ew_then ?_)))
 replace h := bind_some h
 obtain ⟨lr1, hlr1, h⟩ := h
 refine cw_for hlr1 (fun s a w' => ∃ (M' : Nat → Prop) (v0c : Value), Fits 32 [(0, (.pointer (some ⟨g, 0, none⟩))), (1, (.int .i64 a_n)), (5, v0c), (6, (.int .i64 s.2.1))] a ∧ Le w2 M1 w' M' ∧ Cx (One g) w M w' M' ∧ OwnRow RTest w.heap.size 31 w' M' s.1 v0c ∧ Own w' g 111 #[(.slice Ax a_xs.length cx), (.int .i64 s.2.2)] ∧ M' g) ?_ ?_ ?_
 ·
  intro a ha
  exact ⟨M1, (.slice (some p1) 0 0), ha.sub ⟨Z, Z, Z, Z, trivial⟩, Le.refl _ _, hC2, hr2, ho2, hm1⟩
 ·
  rintro ⟨y1, k1, k2⟩ a w3 sr1 ⟨M2, v2, hF1, hl3, hC3, hw1, ho3, hm2⟩ hb3 hR1
  refine cw_at (E := [(0, (.pointer (some ⟨g, 0, none⟩))), (1, (.int .i64 a_n)), (5, v2), (6, (.int .i64 k1))]) hF1 (cw_seq (cw_seq (cw_region (lw_op Z Z Z (ow_move Z Z (lw_op Z Z Z (ow_gtr Z Z Z fun bb1 hbb1 => lw_nil (ew_then ?_))))))))
  replace hb3 := cond_some hb3
  rcases hb3 with ⟨hc1, hb3⟩ | ⟨hc1, hb3⟩
  ·
   obtain rfl := hbb1.trans hc1
   refine cw_true Z (cw_skip (ew_then (cw_seq (cw_block (cw_region (lw_op Z Z Z (ow_move Z Z (lw_op Z Z Z (ow_move Z Z ?_)))))))))
   have lz1 := ((hl1.trans hl2).trans hl3)
   replace hb3 := bind_some hb3
   obtain ⟨x2, hx2, hb3⟩ := hb3
   refine lw_op Z Z Z (ow_call Z Z Tryd.call102 (w_spec_l20Test (hG.mono lz1) hC3.old (VRep.mono lz1 hxs) ho3 hm2 hx2) fun v5 w4 hv5 => ?_)
   obtain ⟨⟨hv5, ho4⟩, hb4⟩ := hv5
   have hl4 := Le.of_bx M2 hb4 (fun b e => (by rw [show b = g from e]; exact hm2))
   have hC4 := hC3.go hb4 (fun b e => Or.inr e)
   have hr3 := hw1.go hb4 (fun k hk e => (orow_ne hw1 ho3 (by decide)) (hk.trans (congrArg some e))) hl4 (fun _ h => h)
   obtain rfl := open_Test hv5
   refine lw_op Z Z Z (ow_buildSlice (R := RTest) (xs := [x2.1]) (cs := #[(.int .i64 x2.1.Field), (.int .i64 x2.1.Lo), (.int .i64 x2.1.Hi), (.bool x2.1.Not)]) (e := 31) Z Z (by kernel_rfl) Z Z ⟨_, _, Z, hv5.cells, Z⟩ hC4 fun p2 w5 hw2 hb5 hl5 hC5 => ?_)
   have ho5 := ho4.no hb5
   have hr4 := hr3.no hb5
   replace hb3 := bind_some hb3
   obtain ⟨z1, hz1, hb3⟩ := hb3
   refine lw_op Z Z Z (ow_append (R := RTest) Z Z Z Z Tryd.underlying27 hi31 hz31 hs31 hy31 Z Z Z Z hr4 hw2 hz1 hC5 fun v6 w6 M3 hr5 hb6 hl6 hC6 hM2 hat2 => ?_)
   have ho6 := ho5.go hb6 (fun e => (orow_ne hr4 ho5 (by decide)) e)
   have hm3 := hM2 _ hm2
   refine lw_op Z Z Z (ow_assign Z Z (lw_nil (ew_blockN (ew_then (cw_region (lw_op Z Z Z (ow_move Z Z (lw_op Z Z Z (ow_sub Z Z Z (lw_op Z Z Z (ow_assign Z Z (lw_nil ?_))))))))))))
   have lz2 := (((hl3.trans hl4).trans hl5).trans hl6)
   exact ew_nxt (z1, (W (k1 - 1)), x2.2) hb3 fun a ha => ⟨M3, v6, (ha.sub ⟨Z, Z, Z, Z, trivial⟩), lz2, hC6, hr5, ho6, hm3⟩
  ·
   obtain rfl := hbb1.trans hc1
   exact cw_false Z (cw_exit (ew_thenX (ew_thenX (ew_blockX (ew_brk (y1, k1, k2) hb3 fun a ha => ⟨M2, v2, (ha.sub ⟨Z, Z, Z, Z, trivial⟩), hl3, hC3, hw1, ho3, hm2⟩)))))
 ·
  rintro ⟨y2, k3, k4⟩ a w7 hlr2 ⟨M4, v7, hF2, hl7, hC7, hw3, ho7, hm4⟩
  subst hlr2
  refine ew_at (E := [(0, (.pointer (some ⟨g, 0, none⟩))), (1, (.int .i64 a_n)), (5, v7), (6, (.int .i64 k3))]) hF2 (ew_then (cw_seq (cw_seq (cw_region (lw_op Z Z Z (ow_move Z Z (lw_op Z Z Z (ow_move Z Z ?_))))))))
  have lz3 := ((hl1.trans hl2).trans hl7)
  replace h := bind_some h
  obtain ⟨x3, hx3, h⟩ := h
  refine lw_op Z Z Z (ow_call Z Z Tryd.call81 (w_spec_l20Rd_odd (hG.mono lz3) hC7.old (VRep.mono lz3 hxs) ho7 hm4 hx3) fun v10 w8 hv10 => ?_)
  obtain ⟨⟨hv10, ho8⟩, hb7⟩ := hv10
  have hl8 := Le.of_bx M4 hb7 (fun b e => (by rw [show b = g from e]; exact hm4))
  have hC8 := hC7.go hb7 (fun b e => Or.inr e)
  have hr6 := hw3.go hb7 (fun k hk e => (orow_ne hw3 ho7 (by decide)) (hk.trans (congrArg some e))) hl8 (fun _ h => h)
  obtain ⟨bb2, hbb2, rfl⟩ := vbool_ex hv10
  refine lw_nil (ew_then ?_)
  replace h := cond_some h
  rcases h with ⟨hc2, h⟩ | ⟨hc2, h⟩
  ·
   obtain rfl := hbb2.trans hc2
   refine cw_true Z (cw_seq (cw_region (lw_op Z Z Z (ow_move Z Z ?_))))
   replace h := bind_some h
   obtain ⟨x4, hx4, h⟩ := h
   refine lw_op Z Z Z (ow_call Z Z Tryd.call60 (w_spec_l20Rd_pick (hG.mono (lz3.trans hl8)) hC8.old (VRep.mono (lz3.trans hl8) hxs) ho8 hm4 hx4) fun v11 w9 hv11 => ?_)
   obtain ⟨⟨hv11, ho9⟩, hb8⟩ := hv11
   have hl9 := Le.of_bx M4 hb8 (fun b e => (by rw [show b = g from e]; exact hm4))
   have hC9 := hC8.go hb8 (fun b e => Or.inr e)
   have hr7 := hr6.go hb8 (fun k hk e => (orow_ne hr6 ho8 (by decide)) (hk.trans (congrArg some e))) hl9 (fun _ h => h)
   obtain rfl := vint_eq hv11
   refine lw_op Z Z Z (ow_eqlI Z Z Z fun bb3 hbb3 => lw_nil (ew_then ?_))
   replace h := cond_some h
   rcases h with ⟨hc3, h⟩ | ⟨hc3, h⟩
   ·
    obtain rfl := hbb3.trans hc3
    refine cw_true Z (cw_region (lw_op Z Z Z (ow_move Z Z (lw_op Z Z Z (ow_move Z Z ?_)))))
    have lz4 := ((lz3.trans hl8).trans hl9)
    replace h := bind_some h
    obtain ⟨x5, hx5, h⟩ := h
    refine lw_op Z Z Z (ow_call Z Z Tryd.call102 (w_spec_l20Test (hG.mono lz4) hC9.old (VRep.mono lz4 hxs) ho9 hm4 hx5) fun v12 w10 hv12 => ?_)
    obtain ⟨⟨hv12, ho10⟩, hb9⟩ := hv12
    have hl10 := Le.of_bx M4 hb9 (fun b e => (by rw [show b = g from e]; exact hm4))
    have hC10 := hC9.go hb9 (fun b e => Or.inr e)
    have hr8 := hr7.go hb9 (fun k hk e => (orow_ne hr7 ho9 (by decide)) (hk.trans (congrArg some e))) hl10 (fun _ h => h)
    obtain rfl := open_Test hv12
    refine lw_op Z Z Z (ow_buildSlice (R := RTest) (xs := [x5.1]) (cs := #[(.int .i64 x5.1.Field), (.int .i64 x5.1.Lo), (.int .i64 x5.1.Hi), (.bool x5.1.Not)]) (e := 31) Z Z (by kernel_rfl) Z Z ⟨_, _, Z, hv12.cells, Z⟩ hC10 fun p3 w11 hw4 hb10 hl11 hC11 => ?_)
    have ho11 := ho10.no hb10
    have hr9 := hr8.no hb10
    replace h := bind_some h
    obtain ⟨z2, hz2, h⟩ := h
    refine lw_op Z Z Z (ow_append (R := RTest) Z Z Z Z Tryd.underlying27 hi31 hz31 hs31 hy31 Z Z Z Z hr9 hw4 hz2 hC11 fun v13 w12 M5 hr10 hb11 hl12 hC12 hM3 hat3 => ?_)
    have ho12 := ho11.go hb11 (fun e => (orow_ne hr9 ho11 (by decide)) e)
    refine lw_op Z Z Z (ow_assign Z Z (lw_nil (ew_then (cw_seq (cw_region (lw_op Z Z Z (ow_move Z Z (lw_op Z Z Z (ow_assign Z Z (lw_nil (ew_then (cw_ret ?_))))))))))))
    obtain rfl := Option.some.inj h
    exact ew_ret (res1 Z (.tmp Z)) ⟨_, Z, ⟨(hr10.freezeBack hC12 hO), ho12⟩, hC12.bx⟩
   ·
    obtain rfl := hbb3.trans hc3
    refine cw_false Z (cw_region ?_)
    replace h := bind_some h
    obtain ⟨mk1, hmk1, h⟩ := h
    refine lw_op Z Z Z (ow_make (R := RTest) Z Z Z Tryd.underlying27 hi31 hz31 hs31 hy31 Z Z (shut_Test) hmk1 hC9 fun v14 w13 M6 hr11 hb12 hl13 hC13 hM4 hat4 => ?_)
    have ho13 := ho9.no hb12
    refine lw_op Z Z Z (ow_assign Z Z (lw_nil (ew_then (cw_seq (cw_region (lw_op Z Z Z (ow_move Z Z (lw_op Z Z Z (ow_assign Z Z (lw_nil (ew_then (cw_ret ?_))))))))))))
    obtain rfl := Option.some.inj h
    exact ew_ret (res1 Z (.tmp Z)) ⟨_, Z, ⟨(hr11.freezeBack hC13 hO), ho13⟩, hC13.bx⟩
  ·
   obtain rfl := hbb2.trans hc2
   refine cw_false Z (cw_skip (ew_then (cw_seq (cw_region (lw_op Z Z Z (ow_move Z Z (lw_op Z Z Z (ow_assign Z Z (lw_nil (ew_then (cw_ret ?_)))))))))))
   obtain rfl := Option.some.inj h
   exact ew_ret (res1 Z (.tmp Z)) ⟨_, Z, ⟨(hr6.freezeBack hC8 hO), ho8⟩, hC8.bx⟩


end Go.PF
