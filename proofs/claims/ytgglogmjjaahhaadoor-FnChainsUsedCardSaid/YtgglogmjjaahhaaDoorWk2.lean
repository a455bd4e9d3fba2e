/- The walks; no condition. -/
import Derived.Test.YtgglogmjjaahhaaDoorProg
import Derived.Test.YtgglogmjjaahhaaDoorWk1
import Derived.Test.YtgglogmjjaahhaaDoorPFFresh
set_option maxRecDepth 100000
set_option maxHeartbeats 4000000
namespace Go.PF
open Go Go.RowKit Go.Proofs

theorem wo_spec_l20Rules {w : World} {M : Nat → Prop} (hG : ARep (RArr 4 RShape) w M shapes ⟨0, 0, none⟩) (hO : ∀ b, M b → b < w.heap.size) {g : Nat} {Ax : Option Addr} {cx : Nat} {a_xs : List Int} {a_pos : Int} (hxs : VRep (RSlice RU8) w M a_xs (.slice Ax a_xs.length cx)) (hown : Own w g 111 #[.slice Ax a_xs.length cx, .int .i64 a_pos]) (hgM : M g) {a_first : Int} {a_chains : Int} {a_n : Int} {r : ((List Rule)) × Int} (h : F.spec_l20Rules a_xs a_pos a_first a_chains a_n = some r) :
  Calls Tryd.prog 59 [(.pointer (some ⟨g, 0, none⟩)), (.int .i64 a_first), (.int .i64 a_chains), (.int .i64 a_n)].toArray w fun e w' => ∃ v, e = .returned v ∧ ((∃ M', OwnRow RRule w.heap.size 42 w' M' r.1 v ∧ Cx (One g) w M w' M') ∧ Own w' g 111 #[.slice Ax a_xs.length cx, .int .i64 r.2]) ∧ BX (One g) w w' := by
 obtain ⟨i42, hi42, hz42, hs42, hy42⟩ := info42
 have hX : ∀ b, (One g) b → M b := fun b e => e ▸ hgM
 have hC : Cx (One g) w M w M := Cx.start hO hX
 refine walk (N := 46) Tryd.func59 Z Tryd.ntmps59 Z (cw_seq (cw_region (lw_op Z Z Z (ow_assign Z Z (lw_nil (ew_then (cw_seq (cw_region (lw_op Z Z Z (ow_buildSlice0 (R := RRule) (e := 42) Z (by kernel_rfl) hC fun p1 w1 M1 hr1 hb1 hl1 hC1 hM1 hat1 => ?_))))))))))
 have ho1 := hown.no hb1
 have hm1 := hM1 _ hgM
 refine lw_op Z Z Z (ow_assign Z Z (lw_nil (ew_then (cw_seq (cw_seq (cw_region (lw_op Z Z Z (ow_move Z Z ?_))))))))
 replace h := bind_some h
 obtain ⟨x1, hx1, h⟩ := h
 refine lw_op Z Z Z (ow_call Z Z Tryd.call60 (w_spec_l20Rd_pick (hG.mono hl1) hC1.old (VRep.mono hl1 hxs) ho1 hm1 hx1) fun v1 w2 hv1 => ?_)
 obtain ⟨⟨hv1, ho2⟩, hb2⟩ := hv1
 have hl2 := Le.of_bx M1 hb2 (fun b e => (by rw [show b = g from e]; exact hm1))
 have hC2 := hC1.go hb2 (fun b e => Or.inr e)
 have hr2 := hr1.go hb2 (fun k hk e => (orow_ne hr1 ho1 (by decide)) (hk.trans (congrArg some e))) hl2 (fun _ h => h)
 obtain rfl := vint_eq hv1
 refine lw_op Z Z Z (ow_assign Z Z (lw_nil (ew_then ?_)))
 replace h := bind_some h
 obtain ⟨lr1, hlr1, h⟩ := h
 refine cw_for hlr1 (fun s a w' => ∃ (M' : Nat → Prop) (v0c : Value), Fits 46 [(0, (.pointer (some ⟨g, 0, none⟩))), (1, (.int .i64 a_first)), (2, (.int .i64 a_chains)), (3, (.int .i64 a_n)), (9, v0c), (10, (.int .i64 s.2.1))] a ∧ Le w2 M1 w' M' ∧ Cx (One g) w M w' M' ∧ OwnRow RRule w.heap.size 42 w' M' s.1 v0c ∧ Own w' g 111 #[(.slice Ax a_xs.length cx), (.int .i64 s.2.2)] ∧ M' g) ?_ ?_ ?_
 ·
  intro a ha
  exact ⟨M1, (.slice (some p1) 0 0), ha.sub ⟨Z, Z, Z, Z, Z, Z, trivial⟩, Le.refl _ _, hC2, hr2, ho2, hm1⟩
 ·
  rintro ⟨y1, k1, k2⟩ a w3 sr1 ⟨M2, v2, hF1, hl3, hC3, hw1, ho3, hm2⟩ hb3 hR1
  refine cw_at (E := [(0, (.pointer (some ⟨g, 0, none⟩))), (1, (.int .i64 a_first)), (2, (.int .i64 a_chains)), (3, (.int .i64 a_n)), (9, v2), (10, (.int .i64 k1))]) hF1 (cw_seq (cw_seq (cw_region (lw_op Z Z Z (ow_move Z Z (lw_op Z Z Z (ow_gtr Z Z Z fun bb1 hbb1 => lw_nil (ew_then ?_))))))))
  replace hb3 := cond_some hb3
  rcases hb3 with ⟨hc1, hb3⟩ | ⟨hc1, hb3⟩
  ·
   obtain rfl := hbb1.trans hc1
   refine cw_true Z (cw_skip (ew_then (cw_seq (cw_block (cw_region (lw_op Z Z Z (ow_move Z Z (lw_op Z Z Z (ow_move Z Z (lw_op Z Z Z (ow_move Z Z (lw_op Z Z Z (ow_move Z Z ?_)))))))))))))
   have lz1 := ((hl1.trans hl2).trans hl3)
   replace hb3 := bind_some hb3
   obtain ⟨x2, hx2, hb3⟩ := hb3
   refine lw_op Z Z Z (ow_call Z Z Tryd.call89 (w_spec_l20Rule (hG.mono lz1) hC3.old (VRep.mono lz1 hxs) ho3 hm2 hx2) fun v5 w4 hv5 => ?_)
   obtain ⟨⟨hv5, ho4⟩, hb4⟩ := hv5
   have hl4 := Le.of_bx M2 hb4 (fun b e => (by rw [show b = g from e]; exact hm2))
   have hC4 := hC3.go hb4 (fun b e => Or.inr e)
   have hr3 := hw1.go hb4 (fun k hk e => (orow_ne hw1 ho3 (by decide)) (hk.trans (congrArg some e))) hl4 (fun _ h => h)
   obtain ⟨A1, c1, rfl, hw2⟩ := open_Rule hv5
   refine lw_op Z Z Z (ow_buildSlice (R := RRule) (xs := [x2.1]) (cs := #[(.slice A1 x2.1.Tests.length c1), (.int .i64 x2.1.Action), (.int .i64 x2.1.Chain)]) (e := 42) Z Z (by kernel_rfl) Z Z ⟨_, _, Z, hv5.cells, Z⟩ hC4 fun p2 w5 hw3 hb5 hl5 hC5 => ?_)
   have ho5 := ho4.no hb5
   have hr4 := hr3.no hb5
   replace hb3 := bind_some hb3
   obtain ⟨z1, hz1, hb3⟩ := hb3
   refine lw_op Z Z Z (ow_append (R := RRule) Z Z Z Z Tryd.underlying36 hi42 hz42 hs42 hy42 Z Z Z Z hr4 hw3 hz1 hC5 fun v6 w6 M3 hr5 hb6 hl6 hC6 hM2 hat2 => ?_)
   have ho6 := ho5.go hb6 (fun e => (orow_ne hr4 ho5 (by decide)) e)
   have hm3 := hM2 _ hm2
   refine lw_op Z Z Z (ow_assign Z Z (lw_nil (ew_blockN (ew_then (cw_region (lw_op Z Z Z (ow_move Z Z (lw_op Z Z Z (ow_sub Z Z Z (lw_op Z Z Z (ow_assign Z Z (lw_nil ?_))))))))))))
   have lz2 := (((hl3.trans hl4).trans hl5).trans hl6)
   exact ew_nxt (z1, (W (k1 - 1)), x2.2) hb3 fun a ha => ⟨M3, v6, (ha.sub ⟨Z, Z, Z, Z, Z, Z, trivial⟩), lz2, hC6, hr5, ho6, hm3⟩
  ·
   obtain rfl := hbb1.trans hc1
   exact cw_false Z (cw_exit (ew_thenX (ew_thenX (ew_blockX (ew_brk (y1, k1, k2) hb3 fun a ha => ⟨M2, v2, (ha.sub ⟨Z, Z, Z, Z, Z, Z, trivial⟩), hl3, hC3, hw1, ho3, hm2⟩)))))
 ·
  rintro ⟨y2, k3, k4⟩ a w7 hlr2 ⟨M4, v7, hF2, hl7, hC7, hw4, ho7, hm4⟩
  subst hlr2
  refine ew_at (E := [(0, (.pointer (some ⟨g, 0, none⟩))), (1, (.int .i64 a_first)), (2, (.int .i64 a_chains)), (3, (.int .i64 a_n)), (9, v7), (10, (.int .i64 k3))]) hF2 (ew_then (cw_seq (cw_seq (cw_region (lw_op Z Z Z (ow_move Z Z (lw_op Z Z Z (ow_move Z Z ?_))))))))
  have lz3 := ((hl1.trans hl2).trans hl7)
  replace h := bind_some h
  obtain ⟨x3, hx3, h⟩ := h
  refine lw_op Z Z Z (ow_call Z Z Tryd.call81 (w_spec_l20Rd_odd (hG.mono lz3) hC7.old (VRep.mono lz3 hxs) ho7 hm4 hx3) fun v10 w8 hv10 => ?_)
  obtain ⟨⟨hv10, ho8⟩, hb7⟩ := hv10
  have hl8 := Le.of_bx M4 hb7 (fun b e => (by rw [show b = g from e]; exact hm4))
  have hC8 := hC7.go hb7 (fun b e => Or.inr e)
  have hr6 := hw4.go hb7 (fun k hk e => (orow_ne hw4 ho7 (by decide)) (hk.trans (congrArg some e))) hl8 (fun _ h => h)
  obtain ⟨bb2, hbb2, rfl⟩ := vbool_ex hv10
  refine lw_nil (ew_then ?_)
  replace h := cond_some h
  rcases h with ⟨hc2, h⟩ | ⟨hc2, h⟩
  ·
   obtain rfl := hbb2.trans hc2
   refine cw_true Z (cw_seq (cw_region (lw_op Z Z Z (ow_move Z Z ?_))))
   replace h := bind_some h
   obtain ⟨x4, hx4, h⟩ := h
   refine lw_op Z Z Z (ow_call Z Z Tryd.call60 (w_spec_l20Rd_pick (hG.mono (lz3.trans hl8)) hC8.old (VRep.mono (lz3.trans hl8) hxs) ho8 hm4 hx4) fun v11 w9 hv11 => ?_)
   obtain ⟨⟨hv11, ho9⟩, hb8⟩ := hv11
   have hl9 := Le.of_bx M4 hb8 (fun b e => (by rw [show b = g from e]; exact hm4))
   have hC9 := hC8.go hb8 (fun b e => Or.inr e)
   have hr7 := hr6.go hb8 (fun k hk e => (orow_ne hr6 ho8 (by decide)) (hk.trans (congrArg some e))) hl9 (fun _ h => h)
   obtain rfl := vint_eq hv11
   refine lw_op Z Z Z (ow_eqlI Z Z Z fun bb3 hbb3 => lw_nil (ew_then ?_))
   replace h := cond_some h
   rcases h with ⟨hc3, h⟩ | ⟨hc3, h⟩
   ·
    obtain rfl := hbb3.trans hc3
    refine cw_true Z (cw_region (lw_op Z Z Z (ow_move Z Z (lw_op Z Z Z (ow_move Z Z (lw_op Z Z Z (ow_move Z Z (lw_op Z Z Z (ow_move Z Z ?_)))))))))
    have lz4 := ((lz3.trans hl8).trans hl9)
    replace h := bind_some h
    obtain ⟨x5, hx5, h⟩ := h
    refine lw_op Z Z Z (ow_call Z Z Tryd.call89 (w_spec_l20Rule (hG.mono lz4) hC9.old (VRep.mono lz4 hxs) ho9 hm4 hx5) fun v12 w10 hv12 => ?_)
    obtain ⟨⟨hv12, ho10⟩, hb9⟩ := hv12
    have hl10 := Le.of_bx M4 hb9 (fun b e => (by rw [show b = g from e]; exact hm4))
    have hC10 := hC9.go hb9 (fun b e => Or.inr e)
    have hr8 := hr7.go hb9 (fun k hk e => (orow_ne hr7 ho9 (by decide)) (hk.trans (congrArg some e))) hl10 (fun _ h => h)
    obtain ⟨A2, c2, rfl, hw5⟩ := open_Rule hv12
    refine lw_op Z Z Z (ow_buildSlice (R := RRule) (xs := [x5.1]) (cs := #[(.slice A2 x5.1.Tests.length c2), (.int .i64 x5.1.Action), (.int .i64 x5.1.Chain)]) (e := 42) Z Z (by kernel_rfl) Z Z ⟨_, _, Z, hv12.cells, Z⟩ hC10 fun p3 w11 hw6 hb10 hl11 hC11 => ?_)
    have ho11 := ho10.no hb10
    have hr9 := hr8.no hb10
    replace h := bind_some h
    obtain ⟨z2, hz2, h⟩ := h
    refine lw_op Z Z Z (ow_append (R := RRule) Z Z Z Z Tryd.underlying36 hi42 hz42 hs42 hy42 Z Z Z Z hr9 hw6 hz2 hC11 fun v13 w12 M5 hr10 hb11 hl12 hC12 hM3 hat3 => ?_)
    have ho12 := ho11.go hb11 (fun e => (orow_ne hr9 ho11 (by decide)) e)
    refine lw_op Z Z Z (ow_assign Z Z (lw_nil (ew_then (cw_seq (cw_region (lw_op Z Z Z (ow_move Z Z (lw_op Z Z Z (ow_assign Z Z (lw_nil (ew_then (cw_ret ?_))))))))))))
    obtain rfl := Option.some.inj h
    exact ew_ret (res1 Z (.tmp Z)) ⟨_, Z, ⟨⟨M5, hr10, hC12⟩, ho12⟩, hC12.bx⟩
   ·
    obtain rfl := hbb3.trans hc3
    refine cw_false Z ?_
    replace h := bind_some h
    obtain ⟨lr2, hlr3, h⟩ := h
    refine cw_for hlr3 (fun s a w' => ∃ (M' : Nat → Prop) (v0c : Value), Fits 46 [(9, v0c)] a ∧ Le w9 M4 w' M' ∧ Cx (One g) w M w' M' ∧ OwnRow RRule w.heap.size 42 w' M' s v0c ∧ Own w' g 111 #[(.slice Ax a_xs.length cx), (.int .i64 x4.2)] ∧ M' g) ?_ ?_ ?_
    ·
     intro a ha
     exact ⟨M4, v7, ha.sub ⟨Z, trivial⟩, Le.refl _ _, hC9, hr7, ho9, hm4⟩
    ·
     rintro y3 a w13 sr2 ⟨M6, v14, hF3, hl13, hC13, hw7, ho13, hm6⟩ hb12 hR2
     refine cw_at (E := [(9, v14)]) hF3 (cw_seq (cw_seq (cw_region (lw_op Z Z Z (ow_move Z Z (lw_op Z Z Z (ow_lenOwn Z Z hw7 Tryd.underlying36 (lw_op Z Z Z (ow_leq Z Z Z fun bb4 hbb4 => lw_nil (ew_then ?_))))))))))
     replace hb12 := cond_some hb12
     rcases hb12 with ⟨hc4, hb12⟩ | ⟨hc4, hb12⟩
     ·
      obtain rfl := hbb4.trans hc4
      refine cw_true Z (cw_skip (ew_then (cw_block (cw_region (lw_op Z Z Z (ow_move Z Z (lw_op Z Z Z (ow_build (v := .agg #[(.slice none 0 0), (.int .i64 5), (.int .i64 0)]) Z Z (by kernel_rfl) ?_))))))))
      have hw8 : VRep RRule w13 M6 ({ Tests := ([] : List Test), Action := 5, Chain := 0 } : Rule) (.agg #[(.slice none 0 0), (.int .i64 5), (.int .i64 0)]) := shut_Rule (vslice_nil (R := RTest) (w := w13) (M := M6))
      refine lw_op Z Z Z (ow_buildSlice (R := RRule) (xs := [({ Tests := ([] : List Test), Action := 5, Chain := 0 } : Rule)]) (cs := #[(.slice none 0 0), (.int .i64 5), (.int .i64 0)]) (e := 42) Z Z (by kernel_rfl) Z Z ⟨_, _, Z, hw8.cells, Z⟩ hC13 fun p4 w14 hw9 hb13 hl14 hC14 => ?_)
      have ho14 := ho13.no hb13
      have hr11 := hw7.no hb13
      replace hb12 := bind_some hb12
      obtain ⟨z3, hz3, hb12⟩ := hb12
      refine lw_op Z Z Z (ow_append (R := RRule) Z Z Z Z Tryd.underlying36 hi42 hz42 hs42 hy42 Z Z Z Z hr11 hw9 hz3 hC14 fun v15 w15 M7 hr12 hb14 hl15 hC15 hM4 hat4 => ?_)
      have ho15 := ho14.go hb14 (fun e => (orow_ne hr11 ho14 (by decide)) e)
      have hm7 := hM4 _ hm6
      refine lw_op Z Z Z (ow_assign Z Z (lw_nil (ew_blockN ?_)))
      have lz5 := ((hl13.trans hl14).trans hl15)
      exact ew_nxt z3 hb12 fun a ha => ⟨M7, v15, (ha.sub ⟨Z, trivial⟩), lz5, hC15, hr12, ho15, hm7⟩
     ·
      obtain rfl := hbb4.trans hc4
      exact cw_false Z (cw_exit (ew_thenX (ew_thenX (ew_blockX (ew_brk y3 hb12 fun a ha => ⟨M6, v14, (ha.sub ⟨Z, trivial⟩), hl13, hC13, hw7, ho13, hm6⟩)))))
    ·
     rintro y4 a w16 hlr4 ⟨M8, v16, hF4, hl16, hC16, hw10, ho16, hm8⟩
     subst hlr4
     refine ew_at (E := [(9, v16)]) hF4 (ew_then (cw_seq (cw_region (lw_op Z Z Z (ow_move Z Z (lw_op Z Z Z (ow_assign Z Z (lw_nil (ew_then (cw_ret ?_))))))))))
     obtain rfl := Option.some.inj h
     exact ew_ret (res1 Z (.tmp Z)) ⟨_, Z, ⟨⟨M8, hw10, hC16⟩, ho16⟩, hC16.bx⟩
  ·
   obtain rfl := hbb2.trans hc2
   refine cw_false Z (cw_skip (ew_then (cw_seq (cw_region (lw_op Z Z Z (ow_move Z Z (lw_op Z Z Z (ow_assign Z Z (lw_nil (ew_then (cw_ret ?_)))))))))))
   obtain rfl := Option.some.inj h
   exact ew_ret (res1 Z (.tmp Z)) ⟨_, Z, ⟨⟨M4, hr6, hC8⟩, ho8⟩, hC8.bx⟩

theorem w_spec_l20Ruleset {w : World} {M : Nat → Prop} (hG : ARep (RArr 4 RShape) w M shapes ⟨0, 0, none⟩) (hO : ∀ b, M b → b < w.heap.size) {g : Nat} {Ax : Option Addr} {cx : Nat} {a_xs : List Int} {a_pos : Int} (hxs : VRep (RSlice RU8) w M a_xs (.slice Ax a_xs.length cx)) (hown : Own w g 111 #[.slice Ax a_xs.length cx, .int .i64 a_pos]) (hgM : M g) {a_n : Int} {r : Ruleset × Int} (h : F.spec_l20Ruleset a_xs a_pos a_n = some r) :
  Calls Tryd.prog 65 [(.pointer (some ⟨g, 0, none⟩)), (.int .i64 a_n)].toArray w fun e w' => ∃ v, e = .returned v ∧ (VRep RRuleset w' M r.1 v ∧ Own w' g 111 #[.slice Ax a_xs.length cx, .int .i64 r.2]) ∧ BX (One g) w w' := by
 obtain ⟨i36, hi36, hz36, hs36, hy36⟩ := info36
 obtain ⟨i42, hi42, hz42, hs42, hy42⟩ := info42
 have hX : ∀ b, (One g) b → M b := fun b e => e ▸ hgM
 have hC : Cx (One g) w M w M := Cx.start hO hX
 refine walk (N := 80) Tryd.func65 Z Tryd.ntmps65 Z (cw_seq (cw_region (lw_op Z Z Z (ow_alloc Z (Tryd.zeroValue45 _) hC fun g1 w1 hg1 hg2 ho1 hb1 hl1 hC1 => ?_))))
 have hn1 := Nat.ne_of_lt (Nat.lt_of_lt_of_le hown.lt hg1)
 have ho2 := hown.no hb1
 have hm1 : (Add g1 M) g := .inr hgM
 have hm2 : (Add g1 M) g1 := .inl Z
 refine lw_nil (ew_then (cw_seq (cw_region (lw_op Z Z Z (ow_move Z Z ?_)))))
 replace h := bind_some h
 obtain ⟨x1, hx1, h⟩ := h
 refine lw_op Z Z Z (ow_call Z Z Tryd.call60 (w_spec_l20Rd_pick (hG.mono hl1) hC1.old (VRep.mono hl1 hxs) ho2 hm1 hx1) fun v1 w2 hv1 => ?_)
 obtain ⟨⟨hv1, ho3⟩, hb2⟩ := hv1
 have hl2 := Le.of_bx (Add g1 M) hb2 (fun b e => (by rw [show b = g from e]; exact hm1))
 have hC2 := hC1.go hb2 (fun b e => Or.inr e)
 have ho4 := ho1.go hb2 (fun e => hn1 e.symm)
 obtain rfl := vint_eq hv1
 refine lw_op Z Z Z (ow_eqlI Z Z Z fun bb1 hbb1 => lw_op Z Z Z (ow_build (v := .agg #[(.slice none 0 0), (.bool bb1)]) Z Z (by kernel_rfl) (lw_op Z Z Z (ow_alloc Z (Tryd.zeroValue45 _) hC2 fun g2 w3 hg3 hg4 ho5 hb3 hl3 hC3 => ?_))))
 have hn2 := Nat.ne_of_lt (Nat.lt_of_lt_of_le ho3.lt hg3)
 have ho6 := ho3.no hb3
 have hm3 : (Add g2 (Add g1 M)) g := .inr hm1
 have hn3 := Nat.ne_of_lt (Nat.lt_of_lt_of_le ho4.lt hg3)
 have ho7 := ho4.no hb3
 have hm4 : (Add g2 (Add g1 M)) g1 := .inr hm2
 have hm5 : (Add g2 (Add g1 M)) g2 := .inl Z
 refine lw_op0 Z Z (ow_store (X := (One g)) (us := [(.slice none 0 0), (.bool bb1)]) (cs' := #[(.slice none 0 0), (.bool bb1)]) Z Z Z Z ho5 (Tryd.sizeOf45 _) Z Z Z Z hm5 (.inl hg4) Z hC3 fun w4 ho8 hb4 hl4 hC4 => ?_)
 have ho9 := ho6.go hb4 (fun e => hn2 e)
 have ho10 := ho7.go hb4 (fun e => hn3 e)
 refine lw_nil (ew_then (cw_seq (cw_region (lw_op Z Z Z (ow_move Z Z ?_)))))
 have lz1 := (((hl1.trans hl2).trans hl3).trans hl4)
 replace h := bind_some h
 obtain ⟨x2, hx2, h⟩ := h
 refine lw_op Z Z Z (ow_call Z Z Tryd.call60 (w_spec_l20Rd_pick (hG.mono lz1) hC4.old (VRep.mono lz1 hxs) ho9 hm3 hx2) fun v2 w5 hv2 => ?_)
 obtain ⟨⟨hv2, ho11⟩, hb5⟩ := hv2
 have hl5 := Le.of_bx (Add g2 (Add g1 M)) hb5 (fun b e => (by rw [show b = g from e]; exact hm3))
 have hC5 := hC4.go hb5 (fun b e => Or.inr e)
 have ho12 := ho10.go hb5 (fun e => hn1 e.symm)
 have ho13 := ho8.go hb5 (fun e => hn2 e.symm)
 obtain rfl := vint_eq hv2
 refine lw_op Z Z Z (ow_add Z Z Z (lw_op Z Z Z (ow_assign Z Z (lw_nil (ew_then (cw_seq (cw_seq (cw_region (lw_op Z Z Z (ow_assign Z Z (lw_nil (ew_then ?_))))))))))))
 have hr1 : HRow RRule w.heap.size 36 42 w5 (Add g2 (Add g1 M)) ([] : List (List Rule)) (.slice none 0 0) := hrow_nil
 replace h := bind_some h
 obtain ⟨lr1, hlr1, h⟩ := h
 refine cw_for hlr1 (fun s a w' => ∃ (M' : Nat → Prop) (v2c : Value), Fits 80 [(0, (.pointer (some ⟨g, 0, none⟩))), (1, (.int .i64 a_n)), (4, (.pointer (some ⟨g1, 0, none⟩))), (5, (.pointer (some ⟨g2, 0, none⟩))), (6, (.int .i64 (W (1 + x2.1)))), (7, (.int .i64 s.1))] a ∧ Le w5 (Add g2 (Add g1 M)) w' M' ∧ Cx (One g) w M w' M' ∧ HRow RRule w.heap.size 36 42 w' M' s.2.2 v2c ∧ Own w' g 111 #[(.slice Ax a_xs.length cx), (.int .i64 s.2.1)] ∧ M' g ∧ Own w' g1 45 #[(.slice none 0 0), (.bool false)] ∧ M' g1 ∧ Own w' g2 45 #[v2c, (.bool bb1)] ∧ M' g2) ?_ ?_ ?_
 ·
  intro a ha
  exact ⟨(Add g2 (Add g1 M)), (.slice none 0 0), ha.sub ⟨Z, Z, Z, Z, Z, Z, trivial⟩, Le.refl _ _, hC5, hr1, ho11, hm3, ho12, hm4, ho13, hm5⟩
 ·
  rintro ⟨k1, k2, y1⟩ a w6 sr1 ⟨M1, v5, hF1, hl6, hC6, hw2, ho14, hm6, ho15, hm7, ho16, hm8⟩ hb6 hR1
  refine cw_at (E := [(0, (.pointer (some ⟨g, 0, none⟩))), (1, (.int .i64 a_n)), (4, (.pointer (some ⟨g1, 0, none⟩))), (5, (.pointer (some ⟨g2, 0, none⟩))), (6, (.int .i64 (W (1 + x2.1)))), (7, (.int .i64 k1))]) hF1 (cw_seq (cw_seq (cw_region (lw_op Z Z Z (ow_move Z Z (lw_op Z Z Z (ow_move Z Z (lw_op Z Z Z (ow_lss Z Z Z fun bb2 hbb2 => lw_nil (ew_then ?_))))))))))
  replace hb6 := cond_some hb6
  rcases hb6 with ⟨hc1, hb6⟩ | ⟨hc1, hb6⟩
  ·
   obtain rfl := hbb2.trans hc1
   refine cw_true Z (cw_skip (ew_then (cw_seq (cw_block ?_))))
   have lz2 := ((lz1.trans hl5).trans hl6)
   replace hb6 := bind_some hb6
   obtain ⟨x3, hx3, hb6⟩ := hb6
   replace hb6 := bind_some hb6
   obtain ⟨z1, hz1, hb6⟩ := hb6
   refine cw_sub (E' := [(0, (.pointer (some ⟨g, 0, none⟩))), (1, (.int .i64 a_n)), (4, (.pointer (some ⟨g1, 0, none⟩))), (5, (.pointer (some ⟨g2, 0, none⟩))), (6, (.int .i64 (W (1 + x2.1)))), (7, (.int .i64 k1))]) ⟨Z, Z, Z, Z, Z, Z, trivial⟩ (cw_drawC (g := g) (T := 111) 8 1 [none, none, none, none, none, none, some 0, none] [#[(.slice Ax a_xs.length cx), (.int .i64 k2)], #[(.slice Ax a_xs.length cx), (.int .i64 x3.2)]] [PEq (.pointer (some ⟨g2, 0, none⟩)), PEq v5, PEq (.pointer (some ⟨g, 0, none⟩)), PEq (.int .i64 k1), PEq (.int .i64 (W (k1 + 1))), PEq (.int .i64 (W (1 + x2.1))), PNR RRule w.heap.size 42 (One g) w M w6 M1 x3.1, PNL RRule w.heap.size 42 (One g) w M w6 M1 x3.1] (by kernel_rfl) Z (by kernel_rfl) (by kernel_rfl) ho14 ⟨(PEq.monoY hm6 _), (PEq.monoY hm6 _), (PEq.monoY hm6 _), (PEq.monoY hm6 _), (PEq.monoY hm6 _), (PEq.monoY hm6 _), (PNR.monoY hm6 ho14.lt (.inr Z)), (PNL.monoY hm6 ho14.lt (.inr Z)), trivial⟩ ⟨?_, ?_, ?_, ?_, ?_, ?_, ?_, ?_, trivial⟩ ?_)
   ·
    intro wa D hSa hda
    exact dg_sub (E' := [(5, (.pointer (some ⟨g2, 0, none⟩)))]) ⟨Z, trivial⟩ (dg_plain Z (ow_fieldAddr Z Z Tryd.underlying45 Z (Tryd.sizeOf43 _) ⟨BX.refl _ _, Z⟩))
   ·
    intro wa D hSa hda
    exact dg_sub (E' := [(20, (.pointer (some ⟨g2, 0, none⟩)))]) ⟨dpE hda 0 Z Z, trivial⟩ (dg_plain Z (ow_loadOwn1 Z Z Z (ho16.go hSa (fun e => hn2 e.symm)) (Tryd.isAgg43 _) Z ⟨BX.refl _ _, Z⟩))
   ·
    intro wa D hSa hda
    exact dg_sub (E' := [(0, (.pointer (some ⟨g, 0, none⟩)))]) ⟨Z, trivial⟩ (dg_plain Z (ow_move Z Z ⟨BX.refl _ _, Z⟩))
   ·
    intro wa D hSa hda
    exact dg_sub (E' := [(7, (.int .i64 k1))]) ⟨Z, trivial⟩ (dg_plain Z (ow_move Z Z ⟨BX.refl _ _, Z⟩))
   ·
    intro wa D hSa hda
    exact dg_sub (E' := [(23, (.int .i64 k1))]) ⟨dpE hda 3 Z Z, trivial⟩ (dg_plain Z (ow_add Z Z Z ⟨BX.refl _ _, Z⟩))
   ·
    intro wa D hSa hda
    exact dg_sub (E' := [(6, (.int .i64 (W (1 + x2.1))))]) ⟨Z, trivial⟩ (dg_plain Z (ow_move Z Z ⟨BX.refl _ _, Z⟩))
   ·
    intro wa D hSa hda
    obtain ⟨hSa, hOa⟩ := hSa
    have hOa : Own wa g 111 #[(.slice Ax a_xs.length cx), (.int .i64 k2)] := hOa
    have hla := leY hm6 hSa
    have hCa := hC6.go hSa (fun b e => Or.inr e)
    refine dg_sub (E' := [(22, (.pointer (some ⟨g, 0, none⟩))), (24, (.int .i64 (W (k1 + 1)))), (25, (.int .i64 (W (1 + x2.1))))]) ⟨dpE hda 2 Z Z, dpE hda 4 Z Z, dpE hda 5 Z Z, trivial⟩ (dg_plain Z (ow_call Z Z Tryd.call59 (wo_spec_l20Rules (hG.mono (lz2.trans hla)) hCa.old (VRep.mono hla (VRep.mono lz2 hxs)) hOa hm6 hx3) fun va wb hva => ?_))
    obtain ⟨⟨⟨Mb, hrb, hkb⟩, hOb⟩, hbb⟩ := hva
    exact ⟨⟨⟨hSa.trans hbb, hOb⟩, hbb⟩, Mb, hrb.base hCa.bx.size, hla.trans (hkb.leY (fun b e => by rw [show b = g from e]; exact hm6)), hCa.trans2 hkb (fun b e => .inr e), hkb.sup, fun b e => Nat.le_trans hSa.size (hrb.block e).1⟩
   ·
    intro wa D hSa hda
    have hd6 : PNR RRule w.heap.size 42 (One g) w M w6 M1 x3.1 (D 6) wa := dpA hda 6 Z
    obtain ⟨Mb, hrb, hlb, hCb, hmb, hgb⟩ := hd6
    generalize hqb : (D 6) = va at hrb hgb
    obtain ⟨Ab, cb, rfl⟩ := hrb.len
    exact dg_sub (E' := [(26, .slice Ab x3.1.length cb)]) ⟨congrArg some hqb, trivial⟩ (dg_plain Z (ow_buildSlice (R := RHd) (xs := [.slice Ab x3.1.length cb]) (cs := #[.slice Ab x3.1.length cb]) (e := 36) Z Z (by kernel_rfl) Z Z ⟨_, _, Z, ⟨Z, Z⟩, Z⟩ hCb fun pb wc hwc hbc hlc hCc => ⟨hbc, _, Mb, hwc, hrb.no hbc, hlb.trans hlc, hCc, hmb, hgb⟩))
   ·
    intro w7 D hS1 hd1
    obtain ⟨hS1, ho17⟩ := hS1
    have ho17 : Own w7 g 111 #[(.slice Ax a_xs.length cx), (.int .i64 x3.2)] := ho17
    have d1 : PNL RRule w.heap.size 42 (One g) w M w6 M1 x3.1 (D 7) w7 := dpA hd1 7 Z
    obtain ⟨v6, M2, hw3, hr2, hl7, hC7, hk1, hge1⟩ := d1
    generalize hq1 : (D 7) = v7 at hw3
    have hm9 := hk1 _ hm6
    have hm10 := hk1 _ hm7
    have ho18 := ho15.go hS1 (fun e => hn1 e.symm)
    have hm11 := hk1 _ hm8
    have ho19 := ho16.go hS1 (fun e => hn2 e.symm)
    refine lw_sub (E' := [(27, v7), (21, v5), (0, (.pointer (some ⟨g, 0, none⟩))), (1, (.int .i64 a_n)), (4, (.pointer (some ⟨g1, 0, none⟩))), (5, (.pointer (some ⟨g2, 0, none⟩))), (6, (.int .i64 (W (1 + x2.1)))), (7, (.int .i64 k1))]) ⟨(congrArg some hq1), dpE hd1 1 Z Z, Z, Z, Z, Z, Z, Z, trivial⟩ (lw_op Z Z Z (ow_appendH Z Z Z Z Tryd.underlying43 hi36 hz36 hs36 hy36 Z Z Z Z hw2 hS1 ho14 (by decide) (by decide) (by decide) hw3 hr2 hl7 hk1 hge1 hz1 hC7 hX hO fun v8 w8 M3 hr3 hb7 hl8 hC8 hk2 => ?_))
    have hm12 := (hk2 _ _ _ ho17 (by decide) (by decide)).2 hm9
    have ho20 := ho17.go hb7 (fun e => (hk2 _ _ _ ho17 (by decide) (by decide)).1 e)
    have hm13 := (hk2 _ _ _ ho18 (by decide) (by decide)).2 hm10
    have ho21 := ho18.go hb7 (fun e => (hk2 _ _ _ ho18 (by decide) (by decide)).1 e)
    have hm14 := (hk2 _ _ _ ho19 (by decide) (by decide)).2 hm11
    have ho22 := ho19.go hb7 (fun e => (hk2 _ _ _ ho19 (by decide) (by decide)).1 e)
    refine lw_op Z Z Z (ow_fieldAddr Z Z Tryd.underlying45 Z (Tryd.sizeOf43 _) ?_)
    obtain ⟨A1, c1, rfl⟩ := hr3.len
    refine lw_op0 Z Z (ow_store (X := (One g)) (us := [(.slice A1 z1.length c1)]) (cs' := #[(.slice A1 z1.length c1), (.bool bb1)]) Z Z Z Z ho22 (Tryd.sizeOf43 _) Z Z Z Z hm14 (.inl hg4) Z hC8 fun w9 ho23 hb8 hl9 hC9 => ?_)
    have ho24 := ho20.go hb8 (fun e => hn2 e)
    have ho25 := ho21.go hb8 (fun e => hn3 e)
    have hr4 := HRow.goOwn hr3 hb8 ho22 hl9 (by decide) (by decide)
    refine lw_nil (ew_blockN (ew_then (cw_region (lw_op Z Z Z (ow_move Z Z (lw_op Z Z Z (ow_add Z Z Z (lw_op Z Z Z (ow_assign Z Z (lw_nil ?_))))))))))
    have lz3 := (((hl6.trans hl7).trans hl8).trans hl9)
    exact ew_nxt ((W (k1 + 1)), x3.2, z1) hb6 fun a ha => ⟨M3, (.slice A1 z1.length c1), (ha.sub ⟨Z, Z, Z, Z, Z, Z, trivial⟩), lz3, hC9, hr4, ho24, hm12, ho25, hm13, ho23, hm14⟩
  ·
   obtain rfl := hbb2.trans hc1
   exact cw_false Z (cw_exit (ew_thenX (ew_thenX (ew_blockX (ew_brk (k1, k2, y1) hb6 fun a ha => ⟨M1, v5, (ha.sub ⟨Z, Z, Z, Z, Z, Z, trivial⟩), hl6, hC6, hw2, ho14, hm6, ho15, hm7, ho16, hm8⟩)))))
 ·
  rintro ⟨k3, k4, y2⟩ a w10 hlr2 ⟨M4, v11, hF2, hl10, hC10, hw4, ho26, hm15, ho27, hm16, ho28, hm17⟩
  subst hlr2
  refine ew_at (E := [(0, (.pointer (some ⟨g, 0, none⟩))), (1, (.int .i64 a_n)), (4, (.pointer (some ⟨g1, 0, none⟩))), (5, (.pointer (some ⟨g2, 0, none⟩))), (6, (.int .i64 (W (1 + x2.1)))), (7, (.int .i64 k3))]) hF2 (ew_then (cw_seq (cw_seq (cw_region (lw_op Z Z Z (ow_move Z Z (lw_op Z Z Z (ow_move Z Z ?_))))))))
  have lz4 := ((lz1.trans hl5).trans hl10)
  replace h := bind_some h
  obtain ⟨x4, hx4, h⟩ := h
  refine lw_op Z Z Z (ow_call Z Z Tryd.call81 (w_spec_l20Rd_odd (hG.mono lz4) hC10.old (VRep.mono lz4 hxs) ho26 hm15 hx4) fun v12 w11 hv12 => ?_)
  obtain ⟨⟨hv12, ho29⟩, hb9⟩ := hv12
  have hl11 := Le.of_bx M4 hb9 (fun b e => (by rw [show b = g from e]; exact hm15))
  have hC11 := hC10.go hb9 (fun b e => Or.inr e)
  have ho30 := ho27.go hb9 (fun e => hn1 e.symm)
  have ho31 := ho28.go hb9 (fun e => hn2 e.symm)
  have hr5 := HRow.goOwn hw4 hb9 ho26 hl11 (by decide) (by decide)
  obtain ⟨bb3, hbb3, rfl⟩ := vbool_ex hv12
  refine lw_nil (ew_then ?_)
  replace h := cond_some h
  rcases h with ⟨hc2, h⟩ | ⟨hc2, h⟩
  ·
   obtain rfl := hbb3.trans hc2
   refine cw_true Z (cw_seq (cw_region (lw_op Z Z Z (ow_move Z Z ?_))))
   replace h := bind_some h
   obtain ⟨x5, hx5, h⟩ := h
   refine lw_op Z Z Z (ow_call Z Z Tryd.call60 (w_spec_l20Rd_pick (hG.mono (lz4.trans hl11)) hC11.old (VRep.mono (lz4.trans hl11) hxs) ho29 hm15 hx5) fun v13 w12 hv13 => ?_)
   obtain ⟨⟨hv13, ho32⟩, hb10⟩ := hv13
   have hl12 := Le.of_bx M4 hb10 (fun b e => (by rw [show b = g from e]; exact hm15))
   have hC12 := hC11.go hb10 (fun b e => Or.inr e)
   have ho33 := ho30.go hb10 (fun e => hn1 e.symm)
   have ho34 := ho31.go hb10 (fun e => hn2 e.symm)
   have hr6 := HRow.goOwn hr5 hb10 ho29 hl12 (by decide) (by decide)
   obtain rfl := vint_eq hv13
   refine lw_nil (ew_then (cw_block (cw_seq (cw_region (lw_op Z Z Z (ow_eqlI Z Z Z fun bb4 hbb4 => lw_op Z Z Z (ow_assign Z Z (lw_nil (ew_then ?_)))))))))
   replace h := cond_some h
   rcases h with ⟨hc3, h⟩ | ⟨hc3, h⟩
   ·
    obtain rfl := hbb4.trans hc3
    refine cw_true Z ?_
    obtain ⟨M5, hr7, hl13, hC13, hk3⟩ := HRow.flat hr6 hC12 hX hO (by decide)
    have hm19 : M5 g1 := hk3 _ _ _ ho33 (by decide) hm16
    have hm20 : M5 g2 := hk3 _ _ _ ho34 (by decide) hm17
    refine cw_region (lw_op Z Z Z (ow_buildSlice0 (R := (RSlice RRule)) (e := 36) Z (by kernel_rfl) hC13 fun p1 w13 M6 hr8 hb11 hl14 hC14 hM1 hat1 => ?_))
    have ho35 := ho32.no hb11
    have ho36 := ho33.no hb11
    have hm22 := hM1 _ hm19
    have ho37 := ho34.no hb11
    have hm23 := hM1 _ hm20
    refine lw_op Z Z Z (ow_fieldAddr Z Z Tryd.underlying45 Z (Tryd.sizeOf43 _) (lw_op0 Z Z (ow_store (X := (One g)) (us := [(.slice (some p1) 0 0)]) (cs' := #[(.slice (some p1) 0 0), (.bool bb1)]) Z Z Z Z ho37 (Tryd.sizeOf43 _) Z Z Z Z hm23 (.inl hg4) Z hC14 fun w14 ho38 hb12 hl15 hC15 => ?_)))
    have ho39 := ho35.go hb12 (fun e => hn2 e)
    have ho40 := ho36.go hb12 (fun e => hn3 e)
    refine lw_nil (ew_blockN (ew_then (cw_seq (cw_region (lw_op Z Z Z (ow_loadOwnA Z Z Z ho38 (Tryd.isAgg45 _) (Tryd.sizeOf45 _) Z (lw_op0 Z Z (ow_store (X := (One g)) (us := [(.slice (some p1) 0 0), (.bool bb1)]) (cs' := #[(.slice (some p1) 0 0), (.bool bb1)]) Z Z Z Z ho40 (Tryd.sizeOf45 _) Z Z Z Z hm22 (.inl hg2) Z hC15 fun w15 ho41 hb13 hl16 hC16 => ?_))))))))
    have ho42 := ho39.go hb13 (fun e => hn1 e)
    refine lw_nil (ew_then (cw_ret ?_))
    have hw6 : VRep RRuleset w15 M6 ({ Chains := ([] : List (List Rule)), Accept := (x1.1 == 0) } : Ruleset) (.agg #[(.slice (some p1) 0 0), (.bool bb1)]) := by subst hbb1; exact shut_Ruleset (VRep.mono hl16 vslice_nil)
    obtain rfl := Option.some.inj h
    exact ew_ret (res1 Z (.cell Z (own_loadVarA ho41 (Tryd.isAgg45 _) (Tryd.sizeOf45 _) Z))) ⟨_, Z, ⟨(hw6.mono hC16.back), ho42⟩, hC16.bx⟩
   ·
    obtain rfl := hbb4.trans hc3
    refine cw_false Z (cw_seq (cw_region (lw_op Z Z Z (ow_eqlI Z Z Z fun bb5 hbb5 => lw_op Z Z Z (ow_assign Z Z (lw_nil (ew_then ?_)))))))
    replace h := cond_some h
    rcases h with ⟨hc4, h⟩ | ⟨hc4, h⟩
    ·
     obtain rfl := hbb5.trans hc4
     refine cw_true Z ?_
     have lz5 := ((lz4.trans hl11).trans hl12)
     replace h := bind_some h
     obtain ⟨x6, hx6, h⟩ := h
     replace h := bind_some h
     obtain ⟨x7, hx7, h⟩ := h
     replace h := bind_some h
     obtain ⟨x8, hx8, h⟩ := h
     replace h := bind_some h
     obtain ⟨z2, hz2, h⟩ := h
     obtain ⟨v14, v15, v16, hq2, hr13, hr14, hw7⟩ := HRow.cons hr6 hx6
     have hq2 : y2 = x6 :: v16 := hq2
     obtain ⟨A2, c2, rfl⟩ := hr14.len
     have hY4 : ¬ (OrRow g (.slice A2 x6.length c2)) g1 := fun e => e.elim (fun e => (fun e => hn1 e.symm) e) (fun e => orow_ne hr14 ho33 (by decide) e)
     have hY5 : ¬ (OrRow g (.slice A2 x6.length c2)) g2 := fun e => e.elim (fun e => (fun e => hn2 e.symm) e) (fun e => orow_ne hr14 ho34 (by decide) e)
     have hY1 : ∀ b, (OrRow g (.slice A2 x6.length c2)) b → M4 b := fun b e => e.elim (fun e => by rw [show b = g from e]; exact hm15) (fun e => hr14.mem b e)
     have hY2 : ∀ b, (OrRow g (.slice A2 x6.length c2)) b → w.heap.size ≤ b ∨ (One g) b := fun b e => e.elim (fun e => .inr e) (fun e => .inl (hr14.block e).1)
     have hY3 : ∀ b, (Value.ownBlock v11) = some b → ¬ (OrRow g (.slice A2 x6.length c2)) b := fun b hb e => e.elim (fun e => orow_ne hr13 ho32 (by decide) (hb.trans (congrArg some e))) (fun e => orow_row_ne hr13 hr14 (by decide) hb e)
     refine cw_sub (E' := [(0, (.pointer (some ⟨g, 0, none⟩))), (4, (.pointer (some ⟨g1, 0, none⟩))), (5, (.pointer (some ⟨g2, 0, none⟩))), (6, (.int .i64 (W (1 + x2.1))))]) ⟨Z, Z, Z, Z, trivial⟩ (cw_drawCR (g := g) (Tg := 111) (R := RRule) (B := w.heap.size) (e := 42) (M := M4) (xs := x6) (v := (.slice A2 x6.length c2)) 15 2 [none, none, none, none, none, none, none, none, none, some 0, none, none, none, none, some 1] [#[(.slice Ax a_xs.length cx), (.int .i64 x5.2)], #[(.slice Ax a_xs.length cx), (.int .i64 x7.2)], #[(.slice Ax a_xs.length cx), (.int .i64 x7.2)]] [PEq (.pointer (some ⟨g2, 0, none⟩)), PEq v11, PEq (.pointer (some ⟨g2, 0, none⟩)), PEq v11, PEq (.pointer (some ⟨blk v11, (0 : Int).toNat * RHd.size, none⟩)), PEq (.slice A2 x6.length c2), PEq (.int .i64 (W (1 + x2.1))), PV (RSlice RInt) M4 [0, (W (1 + x2.1))], PEq (.pointer (some ⟨g, 0, none⟩)), PEq (.int .i64 x7.1), PA RInt M4 x8, PEq (.int .i64 x8), PV RRule M4 ({ Tests := ([] : List Test), Action := 3, Chain := x8 } : Rule), PV (RSlice RRule) M4 [({ Tests := ([] : List Test), Action := 3, Chain := x8 } : Rule)], PApp2 RRule w.heap.size 42 (One g) w M w12 M4 z2] (by kernel_rfl) Z (by kernel_rfl) (by kernel_rfl) ho32 hr14 ⟨(PEq.monoR _), (PEq.monoR _), (PEq.monoR _), (PEq.monoR _), (PEq.monoR _), (PEq.monoR _), (PEq.monoR _), (PV.monoR hY1 _ _), (PEq.monoR _), (PEq.monoR _), (PA.monoR hY1 _ _), (PEq.monoR _), (PV.monoR hY1 _ _), (PV.monoR hY1 _ _), PApp2.mono, trivial⟩ ⟨?_, ?_, ?_, ?_, ?_, ?_, ?_, ?_, ?_, ?_, ?_, ?_, ?_, ?_, ?_, trivial⟩ ?_)
     ·
      intro wa D hSa hda
      exact dg_sub (E' := [(5, (.pointer (some ⟨g2, 0, none⟩)))]) ⟨Z, trivial⟩ (dg_plain Z (ow_fieldAddr Z Z Tryd.underlying45 Z (Tryd.sizeOf43 _) ⟨BX.refl _ _, Z⟩))
     ·
      intro wa D hSa hda
      exact dg_sub (E' := [(47, (.pointer (some ⟨g2, 0, none⟩)))]) ⟨dpE hda 0 Z Z, trivial⟩ (dg_plain Z (ow_loadOwn1 Z Z Z (ho34.go hSa hY5) (Tryd.isAgg43 _) Z ⟨BX.refl _ _, Z⟩))
     ·
      intro wa D hSa hda
      exact dg_sub (E' := [(5, (.pointer (some ⟨g2, 0, none⟩)))]) ⟨Z, trivial⟩ (dg_plain Z (ow_fieldAddr Z Z Tryd.underlying45 Z (Tryd.sizeOf43 _) ⟨BX.refl _ _, Z⟩))
     ·
      intro wa D hSa hda
      exact dg_sub (E' := [(49, (.pointer (some ⟨g2, 0, none⟩)))]) ⟨dpE hda 2 Z Z, trivial⟩ (dg_plain Z (ow_loadOwn1 Z Z Z (ho34.go hSa hY5) (Tryd.isAgg43 _) Z ⟨BX.refl _ _, Z⟩))
     ·
      intro wa D hSa hda
      have hra := hr13.go hSa hY3 (Le.of_bx M4 hSa hY1) (fun _ h => h)
      exact dg_sub (E' := [(50, v11)]) ⟨dpE hda 3 Z Z, trivial⟩ (dg_plain Z (ow_indexRow (R := RHd) (j := 0) Z Z Z hra Tryd.underlying43 (Tryd.sizeOf36 _) Z ⟨BX.refl _ _, Z⟩))
     ·
      intro wa D hSa hda
      have hra := hr13.go hSa hY3 (Le.of_bx M4 hSa hY1) (fun _ h => h)
      exact dg_sub (E' := [(51, (.pointer (some ⟨blk v11, (0 : Int).toNat * RHd.size, none⟩)))]) ⟨dpE hda 4 Z Z, trivial⟩ (dg_plain Z (ow_loadElRow (R := RHd) (S := RHd) (j := 0) (y := (.slice A2 x6.length c2)) Z Z Z hra (orow_blk (j := 0) (y := (.slice A2 x6.length c2)) hra Z) Z (Fld.whole RHd) (Tryd.sizeOf36 _) (Tryd.isAgg36 _) fun va hva => ⟨BX.refl _ _, rhd_eq hva⟩))
     ·
      intro wa D hSa hda
      exact dg_sub (E' := [(6, (.int .i64 (W (1 + x2.1))))]) ⟨Z, trivial⟩ (dg_plain Z (ow_move Z Z ⟨BX.refl _ _, Z⟩))
     ·
      intro wa D hSa hda
      have hCa := hC12.go hSa hY2
      exact dg_sub (E' := [(53, (.int .i64 (W (1 + x2.1))))]) ⟨dpE hda 6 Z Z, trivial⟩ (dg_plain Z (ow_buildSlice (R := RInt) (xs := [0, (W (1 + x2.1))]) (cs := #[.int .i64 0, .int .i64 (W (1 + x2.1))]) (e := 3) Z Z (by kernel_rfl) Z Z ⟨_, _, Z, (vint _).cells, _, _, Z, (vint _).cells, Z⟩ hCa fun pb wc hwc hbc hlc hCc => ⟨hbc, hwc⟩))
     ·
      intro wa D hSa hda
      exact dg_sub (E' := [(0, (.pointer (some ⟨g, 0, none⟩)))]) ⟨Z, trivial⟩ (dg_plain Z (ow_move Z Z ⟨BX.refl _ _, Z⟩))
     ·
      intro wa D hSa hda
      obtain ⟨hSa, hOa, hRa⟩ := hSa
      have hOa : Own wa g 111 #[(.slice Ax a_xs.length cx), (.int .i64 x5.2)] := hOa
      have hRa := hRa (by decide)
      have hla := Le.of_bx M4 hSa hY1
      have hCa := hC12.go hSa hY2
      refine dg_sub (E' := [(55, (.pointer (some ⟨g, 0, none⟩)))]) ⟨dpE hda 8 Z Z, trivial⟩ (dg_plain Z (ow_call Z Z Tryd.call60 (w_spec_l20Rd_pick (hG.mono (lz5.trans hla)) hCa.old (VRep.mono hla (VRep.mono lz5 hxs)) hOa hm15 hx7) fun va wb hva => ?_))
      obtain ⟨⟨hva, hOb⟩, hbb⟩ := hva
      obtain rfl := vint_eq hva
      exact ⟨⟨⟨hSa.trans (hbb.mono fun _ _ e => .inl e), hOb, fun _ => hRa.go hbb (fun b hb e => orow_ne hRa hOa (by decide) (hb.trans (congrArg some e))) (leY hm15 hbb) (fun _ h => h)⟩, hbb.mono fun _ _ e => .inl e⟩, Z⟩
     ·
      intro wa D hSa hda
      have d7a : PV (RSlice RInt) M4 [0, (W (1 + x2.1))] (D 7) wa := dpA hda 7 Z
      generalize hqa : (D 7) = va at d7a
      exact dg_sub (E' := [(54, va), (56, (.int .i64 x7.1))]) ⟨congrArg some hqa, dpE hda 9 Z Z, trivial⟩ (dg_plain Z (ow_indexSlice (R := RInt) Z Z Z d7a Tryd.underlying52 (Tryd.sizeOf3 _) hx8 fun pa hpa => ⟨BX.refl _ _, _, Z, hpa⟩))
     ·
      intro wa D hSa hda
      have d10a : PA RInt M4 x8 (D 10) wa := dpA hda 10 Z
      obtain ⟨pa, hqa, hpa⟩ := d10a
      refine dg_sub (E' := [(57, .pointer (some pa))]) ⟨congrArg some hqa, trivial⟩ (dg_plain Z (ow_load (R := RInt) Z Z hpa (Tryd.sizeOf3 _) (Tryd.isAgg3 _) fun va hva => ?_))
      obtain rfl := vint_eq hva
      exact ⟨BX.refl _ _, Z⟩
     ·
      intro wa D hSa hda
      exact dg_sub (E' := [(58, (.int .i64 x8))]) ⟨dpE hda 11 Z Z, trivial⟩ (dg_plain Z (ow_build (v := .agg #[.slice none 0 0, .int .i64 3, .int .i64 x8]) Z Z (by kernel_rfl) ⟨BX.refl _ _, shut_Rule vslice_nil⟩))
     ·
      intro wa D hSa hda
      have hCa := hC12.go hSa hY2
      have d12a : PV RRule M4 ({ Tests := ([] : List Test), Action := 3, Chain := x8 } : Rule) (D 12) wa := dpA hda 12 Z
      generalize hqa : (D 12) = va at d12a
      obtain ⟨Aq, cq, rfl, hwq⟩ := open_Rule d12a
      exact dg_sub (E' := [(59, .agg #[.slice Aq ([] : List Test).length cq, .int .i64 3, .int .i64 x8])]) ⟨congrArg some hqa, trivial⟩ (dg_plain Z (ow_buildSlice (R := RRule) (xs := [({ Tests := ([] : List Test), Action := 3, Chain := x8 } : Rule)]) (cs := #[.slice Aq ([] : List Test).length cq, .int .i64 3, .int .i64 x8]) (e := 42) Z Z (by kernel_rfl) Z Z ⟨_, _, Z, d12a.cells, Z⟩ hCa fun pb wc hwc hbc hlc hCc => ⟨hbc, hwc⟩))
     ·
      intro wa D hSa hda
      obtain ⟨hSa, hOa, hRa⟩ := hSa
      have hOa : Own wa g 111 #[(.slice Ax a_xs.length cx), (.int .i64 x7.2)] := hOa
      have hRa := hRa (by decide)
      have hla := Le.of_bx M4 hSa hY1
      have hCa := hC12.go hSa hY2
      have d13a : PV (RSlice RRule) M4 [({ Tests := ([] : List Test), Action := 3, Chain := x8 } : Rule)] (D 13) wa := dpA hda 13 Z
      generalize hqa : (D 13) = ua at d13a
      exact dg_sub (E' := [(52, (.slice A2 x6.length c2)), (60, ua)]) ⟨dpE hda 5 Z Z, congrArg some hqa, trivial⟩ (dg_plain Z (ow_append (R := RRule) Z Z Z Z Tryd.underlying36 hi42 hz42 hs42 hy42 Z Z Z Z hRa d13a hz2 hCa fun vb wb Mb hrb hbb hlb hCb hMb hatb => ⟨⟨⟨hSa.trans (hbb.mono fun _ _ e => .inr e), hOa.go hbb (fun e => orow_ne hRa hOa (by decide) e), fun h => absurd h (by decide)⟩, hbb.mono fun _ _ e => .inr e⟩, Mb, hrb, hla.trans hlb, hCb, hMb⟩))
     ·
      intro w16 D hS2 hd2
      obtain ⟨hS2, ho44⟩ := hS2
      have ho44 : Own w16 g 111 #[(.slice Ax a_xs.length cx), (.int .i64 x7.2)] := ho44
      have d2 : PApp2 RRule w.heap.size 42 (One g) w M w12 M4 z2 (D 14) w16 := dpA hd2 14 Z
      obtain ⟨M7, hr15, hl17, hC17, hk4⟩ := d2
      generalize hq3 : (D 14) = v17 at hr15
      obtain ⟨A3, c3, rfl⟩ := hr15.len
      have hr16 := hr13.go hS2 hY3 hl17 hk4
      have hw8 := hw7.mono hl17
      have hm25 := hk4 _ hm16
      have ho45 := ho33.go hS2 hY4
      have ho46 := ho34.go hS2 hY5
      refine lw_sub (E' := [(61, (.slice A3 z2.length c3)), (48, v11), (0, (.pointer (some ⟨g, 0, none⟩))), (4, (.pointer (some ⟨g1, 0, none⟩))), (5, (.pointer (some ⟨g2, 0, none⟩))), (6, (.int .i64 (W (1 + x2.1))))]) ⟨(congrArg some hq3), dpE hd2 1 Z Z, Z, Z, Z, Z, trivial⟩ (lw_op Z Z Z (ow_indexRow (R := RHd) (j := 0) Z Z Z hr16 Tryd.underlying43 (Tryd.sizeOf36 _) Z ?_))
      have hq4 := orow_blk (j := 0) (y := (.slice A2 x6.length c2)) hr16 Z
      refine lw_op0 Z Z (ow_storeElRow (X := (One g)) (R := RHd) (S := RHd) (j := 0) (y := (.slice A2 x6.length c2)) Z Z Z Z hr16 hq4 Z (FldSet.whole RHd) (Tryd.sizeOf36 _) (rhd Z) (Nat.le_refl _) hC17 fun w17 hr17 hb14 hl18 hC18 => ?_)
      have ho47 := ho44.go hb14 (fun e => orow_ne hr16 ho44 (by decide) (by rw [hq4]; exact congrArg some e.symm))
      have ho48 := ho45.go hb14 (fun e => orow_ne hr16 ho45 (by decide) (by rw [hq4]; exact congrArg some e.symm))
      have ho49 := ho46.go hb14 (fun e => orow_ne hr16 ho46 (by decide) (by rw [hq4]; exact congrArg some e.symm))
      have hr18 := hr15.go hb14 (fun k hk e => orow_row_ne hr15 hr16 (by decide) hk (by rw [hq4]; exact congrArg some e.symm)) hl18 (fun _ h => h)
      have hr19 : HRow RRule w.heap.size 36 42 w17 M7 (List.set y2 (0 : Int).toNat z2) v11 := by rw [hq2]; exact ⟨(.slice A3 z2.length c3) :: v15, hr17, hr18, hw8.mono hl18⟩
      refine lw_nil (ew_blockN (ew_then (cw_seq ?_)))
      obtain ⟨M8, hr20, hl19, hC19, hk5⟩ := HRow.flat hr19 hC18 hX hO (by decide)
      have hm28 : M8 g1 := hk5 _ _ _ ho48 (by decide) hm25
      refine cw_region (lw_op Z Z Z (ow_loadOwnA Z Z Z ho49 (Tryd.isAgg45 _) (Tryd.sizeOf45 _) Z ?_))
      have hw9 := hr20.freezeDel
      have hC20 := hr20.cxDel hC19 hX hO
      have hm31 : (Del v11 M8) g1 := ⟨hm28, fun e => (orow_ne hr20 ho48 (by decide)) e⟩
      obtain ⟨A4, c4, rfl, -⟩ := vslice_shape hw9
      refine lw_op0 Z Z (ow_store (X := (One g)) (us := [(.slice A4 (List.set y2 (0 : Int).toNat z2).length c4), (.bool bb1)]) (cs' := #[(.slice A4 (List.set y2 (0 : Int).toNat z2).length c4), (.bool bb1)]) Z Z Z Z ho48 (Tryd.sizeOf45 _) Z Z Z Z hm31 (.inl hg2) Z hC20 fun w18 ho50 hb15 hl21 hC21 => ?_)
      have ho51 := ho47.go hb15 (fun e => hn1 e)
      refine lw_nil (ew_then (cw_ret ?_))
      have hw11 : VRep RRuleset w18 (Del (.slice A4 (List.set y2 (0 : Int).toNat z2).length c4) M8) ({ Chains := (List.set y2 (0 : Int).toNat z2), Accept := (x1.1 == 0) } : Ruleset) (.agg #[(.slice A4 (List.set y2 (0 : Int).toNat z2).length c4), (.bool bb1)]) := by subst hbb1; exact shut_Ruleset (VRep.mono hl21 hw9)
      obtain rfl := Option.some.inj h
      exact ew_ret (res1 Z (.cell Z (own_loadVarA ho50 (Tryd.isAgg45 _) (Tryd.sizeOf45 _) Z))) ⟨_, Z, ⟨(hw11.mono hC21.back), ho51⟩, hC21.bx⟩
    ·
     obtain rfl := hbb5.trans hc4
     refine cw_false Z (cw_seq (cw_region (lw_op Z Z Z (ow_eqlI Z Z Z fun bb6 hbb6 => lw_op Z Z Z (ow_assign Z Z (lw_nil (ew_then ?_)))))))
     replace h := cond_some h
     rcases h with ⟨hc5, h⟩ | ⟨hc5, h⟩
     ·
      obtain rfl := hbb6.trans hc5
      refine cw_true Z (cw_seq ?_)
      obtain ⟨M9, hr21, hl22, hC22, hk6⟩ := HRow.flat hr6 hC12 hX hO (by decide)
      have hm34 : M9 g1 := hk6 _ _ _ ho33 (by decide) hm16
      refine cw_region (lw_op Z Z Z (ow_fieldAddr Z Z Tryd.underlying45 Z (Tryd.sizeOf43 _) (lw_op Z Z Z (ow_loadOwn1 Z Z Z ho34 (Tryd.isAgg43 _) Z (lw_op Z Z Z (ow_move Z Z (lw_op Z Z Z (ow_sub Z Z Z (lw_op Z Z Z (ow_build (v := .agg #[(.slice none 0 0), (.int .i64 3), (.int .i64 0)]) Z Z (by kernel_rfl) ?_))))))))))
      have hw12 : VRep RRule w12 M9 ({ Tests := ([] : List Test), Action := 3, Chain := 0 } : Rule) (.agg #[(.slice none 0 0), (.int .i64 3), (.int .i64 0)]) := shut_Rule (vslice_nil (R := RTest) (w := w12) (M := M9))
      refine lw_op Z Z Z (ow_buildSlice (R := RRule) (xs := [({ Tests := ([] : List Test), Action := 3, Chain := 0 } : Rule)]) (cs := #[(.slice none 0 0), (.int .i64 3), (.int .i64 0)]) (e := 42) Z Z (by kernel_rfl) Z Z ⟨_, _, Z, hw12.cells, Z⟩ hC22 fun p2 w19 hw13 hb16 hl23 hC23 => ?_)
      have ho53 := ho32.no hb16
      have ho54 := ho33.no hb16
      have ho55 := ho34.no hb16
      have hr22 := hr21.no hb16
      replace h := bind_some h
      obtain ⟨x9, hx9, h⟩ := h
      refine lw_op Z Z Z (ow_indexRow (R := (RSlice RRule)) Z Z Z hr22 Tryd.underlying43 (Tryd.sizeOf36 _) hx9 (lw_op0 Z Z (ow_storeElRow (X := (One g)) (R := (RSlice RRule)) (S := (RSlice RRule)) Z Z Z Z hr22 (orow_blk hr22 hx9) hx9 (FldSet.whole (RSlice RRule)) (Tryd.sizeOf36 _) hw13 (Nat.le_refl _) hC23 fun w20 ho56 hb17 hl24 hC24 => ?_)))
      have ho57 := ho53.go hb17 (fun e => (orow_ne hr22 ho53 (by decide)) (by rw [orow_blk hr22 hx9]; exact congrArg some e.symm))
      have ho58 := ho54.go hb17 (fun e => (orow_ne hr22 ho54 (by decide)) (by rw [orow_blk hr22 hx9]; exact congrArg some e.symm))
      have ho59 := ho55.go hb17 (fun e => (orow_ne hr22 ho55 (by decide)) (by rw [orow_blk hr22 hx9]; exact congrArg some e.symm))
      refine lw_nil (ew_then (cw_region (lw_op Z Z Z (ow_fieldAddr Z Z Tryd.underlying45 Z (Tryd.sizeOf43 _) (lw_op Z Z Z (ow_loadOwn1 Z Z Z ho59 (Tryd.isAgg43 _) Z (lw_op Z Z Z (ow_move Z Z (lw_op Z Z Z (ow_sub Z Z Z (lw_op Z Z Z (ow_build (v := .agg #[(.slice none 0 0), (.int .i64 3), (.int .i64 (W ((W (1 + x2.1)) - 1)))]) Z Z (by kernel_rfl) ?_))))))))))))
      have hw14 : VRep RRule w20 M9 ({ Tests := ([] : List Test), Action := 3, Chain := (W ((W (1 + x2.1)) - 1)) } : Rule) (.agg #[(.slice none 0 0), (.int .i64 3), (.int .i64 (W ((W (1 + x2.1)) - 1)))]) := shut_Rule (vslice_nil (R := RTest) (w := w20) (M := M9))
      refine lw_op Z Z Z (ow_buildSlice (R := RRule) (xs := [({ Tests := ([] : List Test), Action := 3, Chain := (W ((W (1 + x2.1)) - 1)) } : Rule)]) (cs := #[(.slice none 0 0), (.int .i64 3), (.int .i64 (W ((W (1 + x2.1)) - 1)))]) (e := 42) Z Z (by kernel_rfl) Z Z ⟨_, _, Z, hw14.cells, Z⟩ hC24 fun p3 w21 hw15 hb18 hl25 hC25 => ?_)
      have ho60 := ho57.no hb18
      have ho61 := ho58.no hb18
      have ho62 := ho59.no hb18
      have hr23 := ho56.no hb18
      replace h := bind_some h
      obtain ⟨x10, hx10, h⟩ := h
      refine lw_op Z Z Z (ow_indexRow (R := (RSlice RRule)) Z Z Z hr23 Tryd.underlying43 (Tryd.sizeOf36 _) hx10 (lw_op0 Z Z (ow_storeElRow (X := (One g)) (R := (RSlice RRule)) (S := (RSlice RRule)) Z Z Z Z hr23 (orow_blk hr23 hx10) hx10 (FldSet.whole (RSlice RRule)) (Tryd.sizeOf36 _) hw15 (Nat.le_refl _) hC25 fun w22 ho63 hb19 hl26 hC26 => ?_)))
      have ho64 := ho60.go hb19 (fun e => (orow_ne hr23 ho60 (by decide)) (by rw [orow_blk hr23 hx10]; exact congrArg some e.symm))
      have ho65 := ho61.go hb19 (fun e => (orow_ne hr23 ho61 (by decide)) (by rw [orow_blk hr23 hx10]; exact congrArg some e.symm))
      have ho66 := ho62.go hb19 (fun e => (orow_ne hr23 ho62 (by decide)) (by rw [orow_blk hr23 hx10]; exact congrArg some e.symm))
      refine lw_nil (ew_blockN (ew_then (cw_seq (cw_region (lw_op Z Z Z (ow_loadOwnA Z Z Z ho66 (Tryd.isAgg45 _) (Tryd.sizeOf45 _) Z ?_))))))
      have hw16 := ho63.freezeDel
      have hC27 := ho63.cxDel hC26 hX hO
      have hm37 : (Del v11 M9) g1 := ⟨hm34, fun e => (orow_ne ho63 ho65 (by decide)) e⟩
      obtain ⟨A5, c5, rfl, -⟩ := vslice_shape hw16
      refine lw_op0 Z Z (ow_store (X := (One g)) (us := [(.slice A5 (List.set (List.set y2 ((W ((W (1 + x2.1)) - 1)) : Int).toNat [({ Tests := ([] : List Test), Action := 3, Chain := 0 } : Rule)]) (0 : Int).toNat [({ Tests := ([] : List Test), Action := 3, Chain := (W ((W (1 + x2.1)) - 1)) } : Rule)]).length c5), (.bool bb1)]) (cs' := #[(.slice A5 (List.set (List.set y2 ((W ((W (1 + x2.1)) - 1)) : Int).toNat [({ Tests := ([] : List Test), Action := 3, Chain := 0 } : Rule)]) (0 : Int).toNat [({ Tests := ([] : List Test), Action := 3, Chain := (W ((W (1 + x2.1)) - 1)) } : Rule)]).length c5), (.bool bb1)]) Z Z Z Z ho65 (Tryd.sizeOf45 _) Z Z Z Z hm37 (.inl hg2) Z hC27 fun w23 ho67 hb20 hl28 hC28 => ?_)
      have ho68 := ho64.go hb20 (fun e => hn1 e)
      refine lw_nil (ew_then (cw_ret ?_))
      have hw18 : VRep RRuleset w23 (Del (.slice A5 (List.set (List.set y2 ((W ((W (1 + x2.1)) - 1)) : Int).toNat [({ Tests := ([] : List Test), Action := 3, Chain := 0 } : Rule)]) (0 : Int).toNat [({ Tests := ([] : List Test), Action := 3, Chain := (W ((W (1 + x2.1)) - 1)) } : Rule)]).length c5) M9) ({ Chains := (List.set (List.set y2 ((W ((W (1 + x2.1)) - 1)) : Int).toNat [({ Tests := ([] : List Test), Action := 3, Chain := 0 } : Rule)]) (0 : Int).toNat [({ Tests := ([] : List Test), Action := 3, Chain := (W ((W (1 + x2.1)) - 1)) } : Rule)]), Accept := (x1.1 == 0) } : Ruleset) (.agg #[(.slice A5 (List.set (List.set y2 ((W ((W (1 + x2.1)) - 1)) : Int).toNat [({ Tests := ([] : List Test), Action := 3, Chain := 0 } : Rule)]) (0 : Int).toNat [({ Tests := ([] : List Test), Action := 3, Chain := (W ((W (1 + x2.1)) - 1)) } : Rule)]).length c5), (.bool bb1)]) := by subst hbb1; exact shut_Ruleset (VRep.mono hl28 hw16)
      obtain rfl := Option.some.inj h
      exact ew_ret (res1 Z (.cell Z (own_loadVarA ho67 (Tryd.isAgg45 _) (Tryd.sizeOf45 _) Z))) ⟨_, Z, ⟨(hw18.mono hC28.back), ho68⟩, hC28.bx⟩
     ·
      obtain rfl := hbb6.trans hc5
      refine cw_false Z ?_
      obtain ⟨M10, hr24, hl29, hC29, hk7⟩ := HRow.flat hr6 hC12 hX hO (by decide)
      have hm39 : M10 g := hk7 _ _ _ ho32 (by decide) hm15
      have hm40 : M10 g1 := hk7 _ _ _ ho33 (by decide) hm16
      replace h := bind_some h
      obtain ⟨x11, hx11, h⟩ := h
      have lz6 := (((lz4.trans hl11).trans hl12).trans hl29)
      refine cw_sub (E' := [(0, (.pointer (some ⟨g, 0, none⟩))), (4, (.pointer (some ⟨g1, 0, none⟩))), (5, (.pointer (some ⟨g2, 0, none⟩))), (6, (.int .i64 (W (1 + x2.1))))]) ⟨Z, Z, Z, Z, trivial⟩ (cw_drawC (g := g) (T := 111) 5 1 [none, none, none, none, some 0] [#[(.slice Ax a_xs.length cx), (.int .i64 x5.2)], #[(.slice Ax a_xs.length cx), (.int .i64 x11.2)]] [PEq (.pointer (some ⟨g2, 0, none⟩)), PEq v11, PEq (.pointer (some ⟨g, 0, none⟩)), PEq (.int .i64 (W (1 + x2.1))), PV (RSlice RRule) M10 x11.1] (by kernel_rfl) Z (by kernel_rfl) (by kernel_rfl) ho32 ⟨(PEq.monoY hm39 _), (PEq.monoY hm39 _), (PEq.monoY hm39 _), (PEq.monoY hm39 _), (PV.monoY hm39 _ _), trivial⟩ ⟨?_, ?_, ?_, ?_, ?_, trivial⟩ ?_)
      ·
       intro w25 D hS3 hd3
       exact dg_sub (E' := [(5, (.pointer (some ⟨g2, 0, none⟩)))]) ⟨Z, trivial⟩ (dg_plain Z (ow_fieldAddr Z Z Tryd.underlying45 Z (Tryd.sizeOf43 _) ⟨BX.refl _ _, Z⟩))
      ·
       intro w26 D hS4 hd4
       have ho76 := ho34.go hS4 (fun e => hn2 e.symm)
       exact dg_sub (E' := [(35, (.pointer (some ⟨g2, 0, none⟩)))]) ⟨(dpE hd4 0 Z Z), trivial⟩ (dg_plain Z (ow_loadOwn1 Z Z Z ho76 (Tryd.isAgg43 _) Z ⟨BX.refl _ _, Z⟩))
      ·
       intro w27 D hS5 hd5
       exact dg_sub (E' := [(0, (.pointer (some ⟨g, 0, none⟩)))]) ⟨Z, trivial⟩ (dg_plain Z (ow_move Z Z ⟨BX.refl _ _, Z⟩))
      ·
       intro w28 D hS6 hd6
       exact dg_sub (E' := [(6, (.int .i64 (W (1 + x2.1))))]) ⟨Z, trivial⟩ (dg_plain Z (ow_move Z Z ⟨BX.refl _ _, Z⟩))
      ·
       intro w29 D hS7 hd7
       obtain ⟨hS7, ho81⟩ := hS7
       have ho81 : Own w29 g 111 #[(.slice Ax a_xs.length cx), (.int .i64 x5.2)] := ho81
       have hl35 := leY hm39 hS7
       have hC35 := hC29.go hS7 (fun b e => Or.inr e)
       refine dg_sub (E' := [(37, (.pointer (some ⟨g, 0, none⟩))), (38, (.int .i64 (W (1 + x2.1))))]) ⟨(dpE hd7 2 Z Z), (dpE hd7 3 Z Z), trivial⟩ (dg_plain Z (ow_call Z Z Tryd.call59 (w_spec_l20Rules (hG.mono (lz6.trans hl35)) hC35.old (VRep.mono (lz6.trans hl35) hxs) ho81 hm39 hx11) fun v19 w30 hv19 => ?_))
       obtain ⟨⟨hv19, ho84⟩, hb22⟩ := hv19
       exact ⟨⟨⟨hS7.trans hb22, ho84⟩, hb22⟩, hv19⟩
      ·
       intro w31 D hS8 hd8
       have d10 : PV (RSlice RRule) M10 x11.1 (D 4) w31 := dpA hd8 4 Z
       obtain ⟨hS8, ho87⟩ := hS8
       have ho87 : Own w31 g 111 #[(.slice Ax a_xs.length cx), (.int .i64 x11.2)] := ho87
       have hl37 := leY hm39 hS8
       have hC37 := hC29.go hS8 (fun b e => Or.inr e)
       have ho88 := ho33.go hS8 (fun e => hn1 e.symm)
       have ho89 := ho34.go hS8 (fun e => hn2 e.symm)
       have hr32 := hr24.go hS8 (fun k hk e => (orow_ne hr24 ho32 (by decide)) (hk.trans (congrArg some e))) hl37 (fun _ h => h)
       generalize hq5 : (D 4) = v20 at d10
       refine lw_sub (E' := [(36, v11), (39, v20), (0, (.pointer (some ⟨g, 0, none⟩))), (4, (.pointer (some ⟨g1, 0, none⟩))), (5, (.pointer (some ⟨g2, 0, none⟩))), (6, (.int .i64 (W (1 + x2.1))))]) ⟨(dpE hd8 1 Z Z), (congrArg some hq5), Z, Z, Z, Z, trivial⟩ ?_
       replace h := bind_some h
       obtain ⟨x12, hx12, h⟩ := h
       refine lw_op Z Z Z (ow_indexRow (R := (RSlice RRule)) Z Z Z hr32 Tryd.underlying43 (Tryd.sizeOf36 _) hx12 (lw_op0 Z Z (ow_storeElRow (X := (One g)) (R := (RSlice RRule)) (S := (RSlice RRule)) Z Z Z Z hr32 (orow_blk hr32 hx12) hx12 (FldSet.whole (RSlice RRule)) (Tryd.sizeOf36 _) d10 (Nat.le_refl _) hC37 fun w32 ho90 hb23 hl38 hC38 => ?_)))
       have ho91 := ho87.go hb23 (fun e => (orow_ne hr32 ho87 (by decide)) (by rw [orow_blk hr32 hx12]; exact congrArg some e.symm))
       have ho92 := ho88.go hb23 (fun e => (orow_ne hr32 ho88 (by decide)) (by rw [orow_blk hr32 hx12]; exact congrArg some e.symm))
       have ho93 := ho89.go hb23 (fun e => (orow_ne hr32 ho89 (by decide)) (by rw [orow_blk hr32 hx12]; exact congrArg some e.symm))
       refine lw_nil (ew_blockN (ew_then (cw_seq (cw_region (lw_op Z Z Z (ow_loadOwnA Z Z Z ho93 (Tryd.isAgg45 _) (Tryd.sizeOf45 _) Z ?_))))))
       have hw19 := ho90.freezeDel
       have hC39 := ho90.cxDel hC38 hX hO
       have hm43 : (Del v11 M10) g1 := ⟨hm40, fun e => (orow_ne ho90 ho92 (by decide)) e⟩
       obtain ⟨A6, c6, rfl, -⟩ := vslice_shape hw19
       refine lw_op0 Z Z (ow_store (X := (One g)) (us := [(.slice A6 (List.set y2 (0 : Int).toNat x11.1).length c6), (.bool bb1)]) (cs' := #[(.slice A6 (List.set y2 (0 : Int).toNat x11.1).length c6), (.bool bb1)]) Z Z Z Z ho92 (Tryd.sizeOf45 _) Z Z Z Z hm43 (.inl hg2) Z hC39 fun w33 ho94 hb24 hl40 hC40 => ?_)
       have ho95 := ho91.go hb24 (fun e => hn1 e)
       refine lw_nil (ew_then (cw_ret ?_))
       have hw21 : VRep RRuleset w33 (Del (.slice A6 (List.set y2 (0 : Int).toNat x11.1).length c6) M10) ({ Chains := (List.set y2 (0 : Int).toNat x11.1), Accept := (x1.1 == 0) } : Ruleset) (.agg #[(.slice A6 (List.set y2 (0 : Int).toNat x11.1).length c6), (.bool bb1)]) := by subst hbb1; exact shut_Ruleset (VRep.mono hl40 hw19)
       obtain rfl := Option.some.inj h
       exact ew_ret (res1 Z (.cell Z (own_loadVarA ho94 (Tryd.isAgg45 _) (Tryd.sizeOf45 _) Z))) ⟨_, Z, ⟨(hw21.mono hC40.back), ho95⟩, hC40.bx⟩
  ·
   obtain rfl := hbb3.trans hc2
   refine cw_false Z (cw_skip (ew_then (cw_seq ?_)))
   obtain ⟨M11, hr33, hl41, hC41, hk8⟩ := HRow.flat hr5 hC11 hX hO (by decide)
   have hm46 : M11 g1 := hk8 _ _ _ ho30 (by decide) hm16
   refine cw_region (lw_op Z Z Z (ow_loadOwnA Z Z Z ho31 (Tryd.isAgg45 _) (Tryd.sizeOf45 _) Z ?_))
   have hw22 := hr33.freezeDel
   have hC42 := hr33.cxDel hC41 hX hO
   have hm49 : (Del v11 M11) g1 := ⟨hm46, fun e => (orow_ne hr33 ho30 (by decide)) e⟩
   obtain ⟨A7, c7, rfl, -⟩ := vslice_shape hw22
   refine lw_op0 Z Z (ow_store (X := (One g)) (us := [(.slice A7 y2.length c7), (.bool bb1)]) (cs' := #[(.slice A7 y2.length c7), (.bool bb1)]) Z Z Z Z ho30 (Tryd.sizeOf45 _) Z Z Z Z hm49 (.inl hg2) Z hC42 fun w34 ho97 hb25 hl43 hC43 => ?_)
   have ho98 := ho29.go hb25 (fun e => hn1 e)
   refine lw_nil (ew_then (cw_ret ?_))
   have hw24 : VRep RRuleset w34 (Del (.slice A7 y2.length c7) M11) ({ Chains := y2, Accept := (x1.1 == 0) } : Ruleset) (.agg #[(.slice A7 y2.length c7), (.bool bb1)]) := by subst hbb1; exact shut_Ruleset (VRep.mono hl43 hw22)
   obtain rfl := Option.some.inj h
   exact ew_ret (res1 Z (.cell Z (own_loadVarA ho97 (Tryd.isAgg45 _) (Tryd.sizeOf45 _) Z))) ⟨_, Z, ⟨(hw24.mono hC43.back), ho98⟩, hC43.bx⟩

theorem w_spec_DrawChainsUsed {w : World} {M : Nat → Prop} (hG : ARep (RArr 4 RShape) w M shapes ⟨0, 0, none⟩) (hO : ∀ b, M b → b < w.heap.size) {v0p : Value} {a_code : List Int} (h0 : VRep (RSlice RU8) w M a_code v0p) {r : Ruleset} (h : F.spec_DrawChainsUsed a_code = some r) :
  Calls Tryd.prog 34 [v0p].toArray w fun e w' => ∃ v, e = .returned v ∧ VRep RRuleset w' M r v ∧ BX No w w' := by
 have hC : Cx No w M w M := Cx.start hO (fun _ e => e.elim)
 refine walk (N := 6) Tryd.func34 Z Tryd.ntmps34 Z (cw_seq (cw_region (lw_op Z Z Z (ow_alloc Z (Tryd.zeroValue45 _) hC fun g1 w1 hg1 hg2 ho1 hb1 hl1 hC1 => ?_))))
 have hm1 : (Add g1 M) g1 := .inl Z
 refine lw_nil (ew_then (cw_seq (cw_region (lw_op Z Z Z (ow_move Z Z ?_)))))
 replace h := bind_some h
 obtain ⟨x1, hx1, h⟩ := h
 refine lw_op Z Z Z (ow_call Z Z Tryd.call47 (w_spec_l20Open (hG.mono hl1) hC1.old (VRep.mono hl1 h0) hx1) fun v1 w2 hv1 => ?_)
 obtain ⟨⟨g2, A1, c1, rfl, hg3, ho2, hw1⟩, hb2⟩ := hv1
 have hl2 := (Le.no (Add g1 M) hb2).add hg3
 have hg4 := Nat.le_trans hC1.bx.size hg3
 have hC2 := (hC1.no hb2).add ho2.lt hg4
 have hn1 := Nat.ne_of_lt (Nat.lt_of_lt_of_le ho1.lt hg3)
 have ho3 := ho1.no hb2
 have hm2 : (Add g2 (Add g1 M)) g1 := .inr hm1
 have hm3 : (Add g2 (Add g1 M)) g2 := .inl Z
 replace h := bind_some h
 obtain ⟨x2, hx2, h⟩ := h
 refine lw_op Z Z Z (ow_call Z Z Tryd.call65 (w_spec_l20Ruleset (hG.mono (hl1.trans hl2)) hC2.old hw1 ho2 hm3 hx2) fun v2 w3 hv2 => ?_)
 obtain ⟨⟨hv2, ho4⟩, hb3⟩ := hv2
 have hC3 := hC2.go hb3 (fun b e => (by rw [show b = g2 from e]; exact (.inl hg4)))
 have ho5 := ho3.go hb3 (fun e => hn1 e)
 obtain ⟨A2, c2, rfl, hw2⟩ := open_Ruleset hv2
 refine lw_op0 Z Z (ow_store (X := No) (us := [(.slice A2 x2.1.Chains.length c2), (.bool x2.1.Accept)]) (cs' := #[(.slice A2 x2.1.Chains.length c2), (.bool x2.1.Accept)]) Z Z Z Z ho5 (Tryd.sizeOf45 _) Z Z Z Z hm2 (.inl hg2) Z hC3 fun w4 ho6 hb4 hl4 hC4 => lw_nil (ew_then (cw_ret ?_)))
 have hw3 : VRep RRuleset w4 (Add g2 (Add g1 M)) ({ Chains := x2.1.Chains, Accept := x2.1.Accept } : Ruleset) (.agg #[(.slice A2 x2.1.Chains.length c2), (.bool x2.1.Accept)]) := shut_Ruleset (VRep.mono hl4 hw2)
 obtain rfl := Option.some.inj h
 exact ew_ret (res1 Z (.cell Z (own_loadVarA ho6 (Tryd.isAgg45 _) (Tryd.sizeOf45 _) Z))) ⟨_, Z, (hw3.mono hC4.back), hC4.bx⟩

theorem w_impl_ChainsUsed {w : World} {M : Nat → Prop} (hG : ARep (RArr 4 RShape) w M shapes ⟨0, 0, none⟩) (hO : ∀ b, M b → b < w.heap.size) {v0p : Value} {a_s : Ruleset} (h0 : VRep RRuleset w M a_s v0p) {r : (List Int)} (h : F.impl_ChainsUsed a_s = some r) :
  Calls Tryd.prog 35 [v0p].toArray w fun e w' => ∃ v, e = .returned v ∧ VRep (RSlice RInt) w' M r v ∧ BX No w w' := by
 obtain ⟨i3, hi3, hz3, hs3, hy3⟩ := info3
 have hC : Cx No w M w M := Cx.start hO (fun _ e => e.elim)
 refine walk (N := 26) Tryd.func35 Z Tryd.ntmps35 Z (cw_seq (cw_region (lw_op Z Z Z (ow_box (R := RRuleset) Z Z h0 hC fun p1 w1 hp1 hb1 hl1 hC1 => lw_op Z Z Z (ow_assign Z Z (lw_nil (ew_then (cw_seq (cw_seq (cw_region (lw_op Z Z Z (ow_load (R := RRuleset) Z Z hp1 (Tryd.sizeOf45 _) (Tryd.isAgg45 _) fun v1 hv1 => ?_))))))))))))
 replace h := bind_some h
 obtain ⟨x1, hx1, h⟩ := h
 refine lw_op Z Z Z (ow_call Z Z Tryd.call25 (w_impl_RulesetValid (hG.mono hl1) hC1.old hv1 hx1) fun v2 w2 hv2 => ?_)
 obtain ⟨hv2, hb2⟩ := hv2
 have hl2 := Le.no M hb2
 have hC2 := hC1.no hb2
 obtain rfl := vbool_eq hv2
 refine lw_op Z Z Z (ow_not Z Z (lw_nil (ew_then ?_)))
 replace h := cond_some h
 rcases h with ⟨hc1, h⟩ | ⟨hc1, h⟩
 ·
  subst hc1
  refine cw_false Z (cw_skip (ew_then (cw_seq (cw_region (lw_op Z Z Z (ow_alloc Z (Tryd.zeroValue96 _) hC2 fun g1 w3 hg1 hg2 ho1 hb3 hl3 hC3 => ?_))))))
  have hm1 : (Add g1 M) g1 := .inl Z
  have ho2 : OwnA (RArr 5 RInt) w3 (Add g1 M) g1 96 [0, 0, 0, 0, 0] := OwnA.of ho1 ⟨Z, ⟨_, _, Z, (vint _).cells, _, _, Z, (vint _).cells, _, _, Z, (vint _).cells, _, _, Z, (vint _).cells, _, _, Z, (vint _).cells, Z⟩⟩
  refine lw_nil (ew_then (cw_seq (cw_region (lw_op Z Z Z (ow_fieldAddr Z Z Tryd.underlying45 Z (Tryd.sizeOf43 _) (lw_op Z Z Z (ow_load (R := (RSlice (RSlice RRule))) Z Z (ARep.mono (hl2.trans hl3) (hp1.fld fld_Ruleset_Chains)) (Tryd.sizeOf43 _) (Tryd.isAgg43 _) fun v3 hv3 => ?_)))))))
  replace h := bind_some h
  obtain ⟨x2, hx2, h⟩ := h
  have lz1 := ((hl1.trans hl2).trans hl3)
  refine lw_op Z Z Z (ow_call Z Z Tryd.call73 (w_impl_visitCalls 10 (hG.mono lz1) hC3.old hv3 ho2 hm1 hx2) fun v4 w4 hv4 => ?_)
  obtain ⟨⟨hv4, ho3⟩, hb4⟩ := hv4
  have hC4 := hC3.go hb4 (fun b e => (by rw [show b = g1 from e]; exact (.inl hg2)))
  obtain ⟨bb1, hbb1, rfl⟩ := vbool_ex hv4
  refine lw_nil (ew_then (cw_seq (cw_region (lw_op Z Z Z (ow_assign Z Z (lw_nil (ew_then (cw_seq (cw_seq (cw_region (lw_op Z Z Z (ow_loadA (R := (RArr 5 RInt)) Z Z Z ho3 (Tryd.sizeOf96 _) (Tryd.isAgg96 _) fun v5 hv5 => lw_op Z Z Z (ow_move Z Z (lw_nil (ew_then ?_)))))))))))))))
  have hr1 : OwnRow RInt w.heap.size 3 w4 (Add g1 M) ([] : List Int) (.slice none 0 0) := ownrow_nil
  replace h := bind_some h
  obtain ⟨lr1, hlr1, h⟩ := h
  refine cw_for hlr1 (fun s a w' => ∃ (M' : Nat → Prop) (v0c : Value), Fits 26 [(4, v0c), (13, v5), (14, (.int .i64 s.2))] a ∧ Le w4 (Add g1 M) w' M' ∧ Cx No w M w' M' ∧ OwnRow RInt w.heap.size 3 w' M' s.1 v0c) ?_ ?_ ?_
  ·
   intro a ha
   exact ⟨(Add g1 M), (.slice none 0 0), ha.sub ⟨Z, Z, Z, trivial⟩, Le.refl _ _, hC4, hr1⟩
  ·
   rintro ⟨y1, k1⟩ a w5 sr1 ⟨M1, v6, hF1, hl5, hC5, hw1⟩ hb5 hR1
   refine cw_at (E := [(4, v6), (13, v5), (14, (.int .i64 k1))]) hF1 (cw_seq (cw_region (lw_op Z Z Z (ow_lss Z Z Z fun bb2 hbb2 => lw_nil (ew_then (cw_seq ?_))))))
   replace hb5 := cond_some hb5
   rcases hb5 with ⟨hc2, hb5⟩ | ⟨hc2, hb5⟩
   ·
    obtain rfl := hbb2.trans hc2
    refine cw_true Z (cw_skip (ew_then (cw_seq (cw_block (cw_seq (cw_region (lw_op Z Z Z (ow_move Z Z ?_))))))))
    replace hb5 := bind_some hb5
    obtain ⟨x3, hx3, hb5⟩ := hb5
    refine lw_op Z Z Z (ow_index (R := RInt) Z Z Z (VRep.mono hl5 hv5) Tryd.underlying96 (Tryd.sizeOf3 _) (Tryd.isAgg3 _) hx3 fun v8 hv8 => ?_)
    obtain rfl := vint_eq hv8
    refine lw_op Z Z Z (ow_assign Z Z (lw_op Z Z Z (ow_assign Z Z (lw_nil (ew_then (cw_seq (cw_region (lw_op Z Z Z (ow_move Z Z (lw_op Z Z Z (ow_neqI Z Z Z fun bb3 hbb3 => lw_nil (ew_then ?_))))))))))))
    replace hb5 := cond_some hb5
    rcases hb5 with ⟨hc3, hb5⟩ | ⟨hc3, hb5⟩
    ·
     obtain rfl := hbb3.trans hc3
     refine cw_true Z (cw_region (lw_op Z Z Z (ow_move Z Z (lw_op Z Z Z (ow_move Z Z (lw_op Z Z Z (ow_buildSlice (R := RInt) (xs := [k1]) (cs := #[(.int .i64 k1)]) (e := 3) Z Z (by kernel_rfl) Z Z ⟨_, _, Z, (vint _).cells, Z⟩ hC5 fun p2 w6 hw2 hb6 hl6 hC6 => ?_)))))))
     have hr2 := hw1.no hb6
     replace hb5 := bind_some hb5
     obtain ⟨z1, hz1, hb5⟩ := hb5
     refine lw_op Z Z Z (ow_append (R := RInt) Z Z Z Z Tryd.underlying52 hi3 hz3 hs3 hy3 Z Z Z Z hr2 hw2 hz1 hC6 fun v9 w7 M2 hr3 hb7 hl7 hC7 hM1 hat1 => lw_op Z Z Z (ow_assign Z Z (lw_nil (ew_blockN (ew_then (cw_region (lw_op Z Z Z (ow_add Z Z Z (lw_op Z Z Z (ow_move Z Z (lw_nil ?_)))))))))))
     have lz2 := ((hl5.trans hl6).trans hl7)
     exact ew_nxt (z1, (W (k1 + 1))) hb5 fun a ha => ⟨M2, v9, (ha.sub ⟨Z, Z, Z, trivial⟩), lz2, hC7, hr3⟩
    ·
     obtain rfl := hbb3.trans hc3
     exact cw_false Z (cw_skip (ew_blockN (ew_then (cw_region (lw_op Z Z Z (ow_add Z Z Z (lw_op Z Z Z (ow_move Z Z (lw_nil (ew_nxt (y1, (W (k1 + 1))) hb5 fun a ha => ⟨M1, v6, (ha.sub ⟨Z, Z, Z, trivial⟩), hl5, hC5, hw1⟩))))))))))
   ·
    obtain rfl := hbb2.trans hc2
    exact cw_false Z (cw_exit (ew_thenX (ew_thenX (ew_blockX (ew_brk (y1, k1) hb5 fun a ha => ⟨M1, v6, (ha.sub ⟨Z, Z, Z, trivial⟩), hl5, hC5, hw1⟩)))))
  ·
   rintro ⟨y2, k2⟩ a w8 hlr2 ⟨M3, v10, hF2, hl8, hC8, hw3⟩
   subst hlr2
   refine ew_at (E := [(4, v10), (13, v5), (14, (.int .i64 k2))]) hF2 (ew_then (cw_seq (cw_region (lw_op Z Z Z (ow_move Z Z (lw_op Z Z Z (ow_assign Z Z (lw_nil (ew_then (cw_ret ?_))))))))))
   obtain rfl := Option.some.inj h
   exact ew_ret (res1 Z (.tmp Z)) ⟨_, Z, (hw3.freezeBack hC8 hO), hC8.bx⟩
 ·
  subst hc1
  refine cw_true Z (cw_seq (cw_region (lw_op Z Z Z (ow_assign Z Z (lw_nil (ew_then (cw_ret (ew_thenR ?_))))))))
  obtain rfl := Option.some.inj h
  exact ew_ret (res1 Z (.tmp Z)) ⟨_, Z, (VRep.mono hC2.back (vslice_nil (R := RInt) (w := w2) (M := M))), hC2.bx⟩

theorem w_spec_ChainsUsed {w : World} {M : Nat → Prop} (hG : ARep (RArr 4 RShape) w M shapes ⟨0, 0, none⟩) (hO : ∀ b, M b → b < w.heap.size) {v0p : Value} {a_s : Ruleset} (h0 : VRep RRuleset w M a_s v0p) {r : (List Int)} (h : F.spec_ChainsUsed a_s = some r) :
  Calls Tryd.prog 36 [v0p].toArray w fun e w' => ∃ v, e = .returned v ∧ VRep (RSlice RInt) w' M r v ∧ BX No w w' := by
 obtain ⟨i3, hi3, hz3, hs3, hy3⟩ := info3
 obtain ⟨i4, hi4, hz4, hs4, hy4⟩ := info4
 have hC : Cx No w M w M := Cx.start hO (fun _ e => e.elim)
 refine walk (N := 87) Tryd.func36 Z Tryd.ntmps36 Z (cw_seq (cw_region (lw_op Z Z Z (ow_box (R := RRuleset) Z Z h0 hC fun p1 w1 hp1 hb1 hl1 hC1 => lw_op Z Z Z (ow_assign Z Z (lw_nil (ew_then (cw_seq (cw_region (lw_op Z Z Z (ow_buildSlice0 (R := RInt) (e := 3) Z (by kernel_rfl) hC1 fun p2 w2 M1 hr1 hb2 hl2 hC2 hM1 hat1 => lw_op Z Z Z (ow_assign Z Z (lw_nil (ew_then (cw_seq (cw_seq (cw_region (lw_op Z Z Z (ow_load (R := RRuleset) Z Z (ARep.mono hl2 hp1) (Tryd.sizeOf45 _) (Tryd.isAgg45 _) fun v1 hv1 => ?_)))))))))))))))))))
 replace h := bind_some h
 obtain ⟨x1, hx1, h⟩ := h
 refine lw_op Z Z Z (ow_call Z Z Tryd.call26 (w_spec_RulesetValid (hG.mono (hl1.trans hl2)) hC2.old hv1 hx1) fun v2 w3 hv2 => ?_)
 obtain ⟨hv2, hb3⟩ := hv2
 have hl3 := Le.no M1 hb3
 have hC3 := hC2.no hb3
 have hr2 := hr1.no hb3
 obtain rfl := vbool_eq hv2
 refine lw_op Z Z Z (ow_not Z Z (lw_nil (ew_then ?_)))
 replace h := cond_some h
 rcases h with ⟨hc1, h⟩ | ⟨hc1, h⟩
 ·
  subst hc1
  refine cw_false Z (cw_skip (ew_then (cw_seq (cw_region (lw_op Z Z Z (ow_fieldAddr Z Z Tryd.underlying45 Z (Tryd.sizeOf43 _) (lw_op Z Z Z (ow_load (R := (RSlice (RSlice RRule))) Z Z (ARep.mono (hl2.trans hl3) (hp1.fld fld_Ruleset_Chains)) (Tryd.sizeOf43 _) (Tryd.isAgg43 _) fun v3 hv3 => lw_op Z Z Z (ow_len Z Z hv3 Tryd.underlying43 Z ?_)))))))))
  replace h := bind_some h
  obtain ⟨mk1, hmk1, h⟩ := h
  refine lw_op Z Z Z (ow_make (R := RBool) Z Z Z Tryd.underlying56 hi4 hz4 hs4 hy4 Z Z (vbool false) hmk1 hC3 fun v4 w4 M2 hr3 hb4 hl4 hC4 hM2 hat2 => ?_)
  have hr4 := hr2.go hb4 (fun _ _ e => e) hl4 hM2
  refine lw_op Z Z Z (ow_assign Z Z (lw_nil (ew_then (cw_seq (cw_region (lw_op Z Z Z (ow_move Z Z ?_)))))))
  replace h := bind_some h
  obtain ⟨x2, hx2, h⟩ := h
  refine lw_op Z Z Z (ow_indexRow (R := RBool) Z Z Z hr3 Tryd.underlying56 (Tryd.sizeOf4 _) hx2 (lw_op0 Z Z (ow_storeElRow (X := No) (R := RBool) (S := RBool) Z Z Z Z hr3 (orow_blk hr3 hx2) hx2 (FldSet.whole RBool) (Tryd.sizeOf4 _) (vbool _) (Nat.le_refl _) hC4 fun w5 ho1 hb5 hl5 hC5 => ?_)))
  have hr5 := hr4.go hb5 (fun k hk e => orow_row_ne hr4 hr3 (by decide) hk (by rw [orow_blk hr3 hx2]; exact congrArg some e.symm)) hl5 (fun _ h => h)
  refine lw_nil (ew_then (cw_seq (cw_seq (cw_region (lw_op Z Z Z (ow_assign Z Z (lw_nil (ew_then ?_))))))))
  replace h := bind_some h
  obtain ⟨lr1, hlr1, h⟩ := h
  refine cw_for hlr1 (fun s a w' => ∃ (M' : Nat → Prop), Fits 87 [(1, (.pointer (some p1))), (3, (.slice (some p2) 0 0)), (4, v4), (5, (.int .i64 s.1))] a ∧ Le w5 M2 w' M' ∧ Cx No w M w' M' ∧ OwnRow RInt w.heap.size 3 w' M' s.2.1 (.slice (some p2) 0 0) ∧ OwnRow RBool w.heap.size 4 w' M' s.2.2 v4) ?_ ?_ ?_
  ·
   intro a ha
   exact ⟨M2, ha.sub ⟨Z, Z, Z, Z, trivial⟩, Le.refl _ _, hC5, hr5, ho1⟩
  ·
   rintro ⟨k1, y1, y2⟩ a w6 sr1 ⟨M3, hF1, hl6, hC6, hw1, hw2⟩ hb6 hR1
   refine cw_at (E := [(1, (.pointer (some p1))), (3, (.slice (some p2) 0 0)), (4, v4), (5, (.int .i64 k1))]) hF1 (cw_seq (cw_seq (cw_region (lw_op Z Z Z (ow_move Z Z (lw_op Z Z Z (ow_fieldAddr Z Z Tryd.underlying45 Z (Tryd.sizeOf43 _) ?_)))))))
   have lz1 := ((((hl2.trans hl3).trans hl4).trans hl5).trans hl6)
   refine lw_op Z Z Z (ow_load (R := (RSlice (RSlice RRule))) Z Z (ARep.mono lz1 (hp1.fld fld_Ruleset_Chains)) (Tryd.sizeOf43 _) (Tryd.isAgg43 _) fun v8 hv8 => lw_op Z Z Z (ow_len Z Z hv8 Tryd.underlying43 Z (lw_op Z Z Z (ow_lss Z Z Z fun bb1 hbb1 => lw_nil (ew_then ?_)))))
   replace hb6 := cond_some hb6
   rcases hb6 with ⟨hc2, hb6⟩ | ⟨hc2, hb6⟩
   ·
    obtain rfl := hbb1.trans hc2
    refine cw_true Z (cw_skip (ew_then (cw_seq (cw_block (cw_seq (cw_region (lw_op Z Z Z (ow_assign Z Z (lw_nil (ew_then ?_))))))))))
    replace hb6 := bind_some hb6
    obtain ⟨lr2, hlr2, hb6⟩ := hb6
    refine cw_for hlr2 (fun s a w' => ∃ (M' : Nat → Prop), Fits 87 [(1, (.pointer (some p1))), (3, (.slice (some p2) 0 0)), (4, v4), (5, (.int .i64 k1)), (6, (.int .i64 s.1))] a ∧ Le w6 M3 w' M' ∧ Cx No w M w' M' ∧ OwnRow RInt w.heap.size 3 w' M' s.2.1 (.slice (some p2) 0 0) ∧ OwnRow RBool w.heap.size 4 w' M' s.2.2 v4) ?_ ?_ ?_
    ·
     intro a ha
     exact ⟨M3, ha.sub ⟨Z, Z, Z, Z, Z, trivial⟩, Le.refl _ _, hC6, hw1, hw2⟩
    ·
     rintro ⟨k2, y3, y4⟩ a w7 sr2 ⟨M4, hF2, hl7, hC7, hw3, hw4⟩ hb7 hR2
     refine cw_at (E := [(1, (.pointer (some p1))), (3, (.slice (some p2) 0 0)), (4, v4), (5, (.int .i64 k1)), (6, (.int .i64 k2))]) hF2 (cw_seq (cw_seq (cw_region (lw_op Z Z Z (ow_move Z Z (lw_op Z Z Z (ow_fieldAddr Z Z Tryd.underlying45 Z (Tryd.sizeOf43 _) (lw_op Z Z Z (ow_load (R := (RSlice (RSlice RRule))) Z Z (ARep.mono (lz1.trans hl7) (hp1.fld fld_Ruleset_Chains)) (Tryd.sizeOf43 _) (Tryd.isAgg43 _) fun v12 hv12 => lw_op Z Z Z (ow_len Z Z hv12 Tryd.underlying43 Z (lw_op Z Z Z (ow_lss Z Z Z fun bb2 hbb2 => lw_nil (ew_then ?_)))))))))))))
     replace hb7 := cond_some hb7
     rcases hb7 with ⟨hc3, hb7⟩ | ⟨hc3, hb7⟩
     ·
      obtain rfl := hbb2.trans hc3
      refine cw_true Z (cw_skip (ew_then (cw_seq (cw_block (cw_seq (cw_region (lw_op Z Z Z (ow_assign Z Z (lw_nil (ew_then ?_))))))))))
      replace hb7 := bind_some hb7
      obtain ⟨lr3, hlr3, hb7⟩ := hb7
      refine cw_for hlr3 (fun s a w' => ∃ (M' : Nat → Prop), Fits 87 [(1, (.pointer (some p1))), (3, (.slice (some p2) 0 0)), (4, v4), (5, (.int .i64 k1)), (6, (.int .i64 k2)), (7, (.int .i64 s.1))] a ∧ Le w7 M4 w' M' ∧ Cx No w M w' M' ∧ OwnRow RInt w.heap.size 3 w' M' s.2.1 (.slice (some p2) 0 0) ∧ OwnRow RBool w.heap.size 4 w' M' s.2.2 v4) ?_ ?_ ?_
      ·
       intro a ha
       exact ⟨M4, ha.sub ⟨Z, Z, Z, Z, Z, Z, trivial⟩, Le.refl _ _, hC7, hw3, hw4⟩
      ·
       rintro ⟨k3, y5, y6⟩ a w8 sr3 ⟨M5, hF3, hl8, hC8, hw5, hw6⟩ hb8 hR3
       refine cw_at (E := [(1, (.pointer (some p1))), (3, (.slice (some p2) 0 0)), (4, v4), (5, (.int .i64 k1)), (6, (.int .i64 k2)), (7, (.int .i64 k3))]) hF3 (cw_seq (cw_seq (cw_region (lw_op Z Z Z (ow_move Z Z (lw_op Z Z Z (ow_fieldAddr Z Z Tryd.underlying45 Z (Tryd.sizeOf43 _) ?_)))))))
       have lz2 := ((lz1.trans hl7).trans hl8)
       refine lw_op Z Z Z (ow_load (R := (RSlice (RSlice RRule))) Z Z (ARep.mono lz2 (hp1.fld fld_Ruleset_Chains)) (Tryd.sizeOf43 _) (Tryd.isAgg43 _) fun v16 hv16 => lw_op Z Z Z (ow_move Z Z ?_))
       replace hb8 := bind_some hb8
       obtain ⟨x3, hx3, hb8⟩ := hb8
       refine lw_op Z Z Z (ow_indexSlice (R := (RSlice RRule)) Z Z Z hv16 Tryd.underlying43 (Tryd.sizeOf36 _) hx3 fun p3 hp3 => lw_op Z Z Z (ow_load (R := (RSlice RRule)) Z Z hp3 (Tryd.sizeOf36 _) (Tryd.isAgg36 _) fun v17 hv17 => lw_op Z Z Z (ow_len Z Z hv17 Tryd.underlying36 Z (lw_op Z Z Z (ow_lss Z Z Z fun bb3 hbb3 => lw_op Z Z Z (ow_move Z Z ?_))))))
       replace hb8 := cond_some hb8
       rcases hb8 with ⟨hc4, hb8⟩ | ⟨hc4, hb8⟩
       ·
        obtain rfl := hbb3.trans hc4
        refine lw_on Z Z Z Z Z Z (ow_move Z Z (lw_on Z Z Z Z Z Z (ow_move Z Z ?_)))
        replace hb8 := bind_some hb8
        obtain ⟨x4, hx4, hb8⟩ := hb8
        refine lw_on Z Z Z Z Z Z (ow_indexRow (R := RBool) Z Z Z hw6 Tryd.underlying56 (Tryd.sizeOf4 _) hx4 (lw_on Z Z Z Z Z Z (ow_loadElRow (R := RBool) (S := RBool) Z Z Z hw6 (orow_blk hw6 hx4) hx4 (Fld.whole RBool) (Tryd.sizeOf4 _) (Tryd.isAgg4 _) fun v18 hv18 => ?_)))
        obtain rfl := vbool_eq hv18
        refine lw_op Z Z Z (ow_pickT Z Z Z (lw_nil (ew_then ?_)))
        replace hb8 := cond_some hb8
        rcases hb8 with ⟨hc5, hb8⟩ | ⟨hc5, hb8⟩
        ·
         subst hc5
         refine cw_true Z (cw_skip (ew_then (cw_seq (cw_block (cw_seq (cw_region (lw_op Z Z Z (ow_fieldAddr Z Z Tryd.underlying45 Z (Tryd.sizeOf43 _) (lw_op Z Z Z (ow_load (R := (RSlice (RSlice RRule))) Z Z (ARep.mono lz2 (hp1.fld fld_Ruleset_Chains)) (Tryd.sizeOf43 _) (Tryd.isAgg43 _) fun v19 hv19 => lw_op Z Z Z (ow_move Z Z (lw_op Z Z Z (ow_indexSlice (R := (RSlice RRule)) Z Z Z hv19 Tryd.underlying43 (Tryd.sizeOf36 _) hx3 fun p4 hp4 => lw_op Z Z Z (ow_load (R := (RSlice RRule)) Z Z hp4 (Tryd.sizeOf36 _) (Tryd.isAgg36 _) fun v20 hv20 => lw_op Z Z Z (ow_move Z Z ?_)))))))))))))))
         replace hb8 := bind_some hb8
         obtain ⟨x5, hx5, hb8⟩ := hb8
         refine lw_op Z Z Z (ow_indexSlice (R := RRule) Z Z Z hv20 Tryd.underlying36 (Tryd.sizeOf42 _) hx5 fun p5 hp5 => lw_op Z Z Z (ow_fieldAddr Z Z Tryd.underlying42 Z (Tryd.sizeOf3 _) (lw_op Z Z Z (ow_load (R := RInt) Z Z (hp5.fld fld_Rule_Action) (Tryd.sizeOf3 _) (Tryd.isAgg3 _) fun v21 hv21 => ?_))))
         obtain rfl := vint_eq hv21
         refine lw_op Z Z Z (ow_eqlI Z Z Z fun bb4 hbb4 => lw_nil (ew_then ?_))
         replace hb8 := cond_some hb8
         rcases hb8 with ⟨hc6, hb8⟩ | ⟨hc6, hb8⟩
         ·
          obtain rfl := hbb4.trans hc6
          refine cw_true Z (cw_region (lw_op Z Z Z (ow_move Z Z (lw_op Z Z Z (ow_fieldAddr Z Z Tryd.underlying45 Z (Tryd.sizeOf43 _) (lw_op Z Z Z (ow_load (R := (RSlice (RSlice RRule))) Z Z (ARep.mono lz2 (hp1.fld fld_Ruleset_Chains)) (Tryd.sizeOf43 _) (Tryd.isAgg43 _) fun v22 hv22 => lw_op Z Z Z (ow_move Z Z (lw_op Z Z Z (ow_indexSlice (R := (RSlice RRule)) Z Z Z hv22 Tryd.underlying43 (Tryd.sizeOf36 _) hx3 fun p6 hp6 => lw_op Z Z Z (ow_load (R := (RSlice RRule)) Z Z hp6 (Tryd.sizeOf36 _) (Tryd.isAgg36 _) fun v23 hv23 => lw_op Z Z Z (ow_move Z Z (lw_op Z Z Z (ow_indexSlice (R := RRule) Z Z Z hv23 Tryd.underlying36 (Tryd.sizeOf42 _) hx5 fun p7 hp7 => lw_op Z Z Z (ow_fieldAddr Z Z Tryd.underlying42 Z (Tryd.sizeOf3 _) (lw_op Z Z Z (ow_load (R := RInt) Z Z (hp7.fld fld_Rule_Chain) (Tryd.sizeOf3 _) (Tryd.isAgg3 _) fun v24 hv24 => ?_)))))))))))))))))
          obtain rfl := vint_eq hv24
          replace hb8 := bind_some hb8
          obtain ⟨x6, hx6, hb8⟩ := hb8
          refine lw_op Z Z Z (ow_indexRow (R := RBool) Z Z Z hw6 Tryd.underlying56 (Tryd.sizeOf4 _) hx6 (lw_op0 Z Z (ow_storeElRow (X := No) (R := RBool) (S := RBool) Z Z Z Z hw6 (orow_blk hw6 hx6) hx6 (FldSet.whole RBool) (Tryd.sizeOf4 _) (vbool _) (Nat.le_refl _) hC8 fun w9 ho2 hb9 hl9 hC9 => ?_)))
          have hr6 := hw5.go hb9 (fun k hk e => orow_row_ne hw5 hw6 (by decide) hk (by rw [orow_blk hw6 hx6]; exact congrArg some e.symm)) hl9 (fun _ h => h)
          exact lw_nil (ew_blockN (ew_then (cw_region (lw_op Z Z Z (ow_move Z Z (lw_op Z Z Z (ow_add Z Z Z (lw_op Z Z Z (ow_assign Z Z (lw_nil (ew_nxt ((W (k3 + 1)), y5, (List.set y6 (x5.Chain : Int).toNat true)) hb8 fun a ha => ⟨M5, (ha.sub ⟨Z, Z, Z, Z, Z, Z, trivial⟩), (hl8.trans hl9), hC9, hr6, ho2⟩)))))))))))
         ·
          obtain rfl := hbb4.trans hc6
          exact cw_false Z (cw_skip (ew_blockN (ew_then (cw_region (lw_op Z Z Z (ow_move Z Z (lw_op Z Z Z (ow_add Z Z Z (lw_op Z Z Z (ow_assign Z Z (lw_nil (ew_nxt ((W (k3 + 1)), y5, y6) hb8 fun a ha => ⟨M5, (ha.sub ⟨Z, Z, Z, Z, Z, Z, trivial⟩), hl8, hC8, hw5, hw6⟩))))))))))))
        ·
         subst hc5
         exact cw_false Z (cw_exit (ew_thenX (ew_thenX (ew_blockX (ew_brk (k3, y5, y6) hb8 fun a ha => ⟨M5, (ha.sub ⟨Z, Z, Z, Z, Z, Z, trivial⟩), hl8, hC8, hw5, hw6⟩)))))
       ·
        obtain rfl := hbb3.trans hc4
        exact lw_off Z Z Z Z Z Z (lw_off Z Z Z Z Z Z (lw_off Z Z Z Z Z Z (lw_off Z Z Z Z Z Z (lw_op Z Z Z (ow_pickF Z Z Z (lw_nil (ew_then (cw_false Z (cw_exit (ew_thenX (ew_thenX (ew_blockX (ew_brk (k3, y5, y6) hb8 fun a ha => ⟨M5, (ha.sub ⟨Z, Z, Z, Z, Z, Z, trivial⟩), hl8, hC8, hw5, hw6⟩)))))))))))))
      ·
       rintro ⟨k4, y7, y8⟩ a w10 hlr4 ⟨M6, hF4, hl10, hC10, hw7, hw8⟩
       subst hlr4
       exact ew_at (E := [(1, (.pointer (some p1))), (3, (.slice (some p2) 0 0)), (4, v4), (5, (.int .i64 k1)), (6, (.int .i64 k2)), (7, (.int .i64 k4))]) hF4 (ew_blockN (ew_then (cw_region (lw_op Z Z Z (ow_move Z Z (lw_op Z Z Z (ow_add Z Z Z (lw_op Z Z Z (ow_assign Z Z (lw_nil (ew_nxt ((W (k2 + 1)), y7, y8) hb7 fun a ha => ⟨M6, (ha.sub ⟨Z, Z, Z, Z, Z, trivial⟩), (hl7.trans hl10), hC10, hw7, hw8⟩)))))))))))
     ·
      obtain rfl := hbb2.trans hc3
      exact cw_false Z (cw_exit (ew_thenX (ew_thenX (ew_blockX (ew_brk (k2, y3, y4) hb7 fun a ha => ⟨M4, (ha.sub ⟨Z, Z, Z, Z, Z, trivial⟩), hl7, hC7, hw3, hw4⟩)))))
    ·
     rintro ⟨k5, y9, y10⟩ a w11 hlr5 ⟨M7, hF5, hl11, hC11, hw9, hw10⟩
     subst hlr5
     exact ew_at (E := [(1, (.pointer (some p1))), (3, (.slice (some p2) 0 0)), (4, v4), (5, (.int .i64 k1)), (6, (.int .i64 k5))]) hF5 (ew_blockN (ew_then (cw_region (lw_op Z Z Z (ow_move Z Z (lw_op Z Z Z (ow_add Z Z Z (lw_op Z Z Z (ow_assign Z Z (lw_nil (ew_nxt ((W (k1 + 1)), y9, y10) hb6 fun a ha => ⟨M7, (ha.sub ⟨Z, Z, Z, Z, trivial⟩), (hl6.trans hl11), hC11, hw9, hw10⟩)))))))))))
   ·
    obtain rfl := hbb1.trans hc2
    exact cw_false Z (cw_exit (ew_thenX (ew_thenX (ew_blockX (ew_brk (k1, y1, y2) hb6 fun a ha => ⟨M3, (ha.sub ⟨Z, Z, Z, Z, trivial⟩), hl6, hC6, hw1, hw2⟩)))))
  ·
   rintro ⟨k6, y11, y12⟩ a w12 hlr6 ⟨M8, hF6, hl12, hC12, hw11, hw12⟩
   subst hlr6
   refine ew_at (E := [(1, (.pointer (some p1))), (3, (.slice (some p2) 0 0)), (4, v4), (5, (.int .i64 k6))]) hF6 (ew_then (cw_seq (cw_seq (cw_region (lw_op Z Z Z (ow_assign Z Z (lw_nil (ew_then ?_))))))))
   replace h := bind_some h
   obtain ⟨lr4, hlr7, h⟩ := h
   refine cw_for hlr7 (fun s a w' => ∃ (M' : Nat → Prop) (v0c : Value), Fits 87 [(1, (.pointer (some p1))), (3, v0c), (4, v4), (8, (.int .i64 s.2.1))] a ∧ Le w12 M8 w' M' ∧ Cx No w M w' M' ∧ OwnRow RInt w.heap.size 3 w' M' s.1 v0c ∧ OwnRow RBool w.heap.size 4 w' M' s.2.2 v4) ?_ ?_ ?_
   ·
    intro a ha
    exact ⟨M8, (.slice (some p2) 0 0), ha.sub ⟨Z, Z, Z, Z, trivial⟩, Le.refl _ _, hC12, hw11, hw12⟩
   ·
    rintro ⟨y13, k7, y14⟩ a w13 sr4 ⟨M9, v34, hF7, hl13, hC13, hw13, hw14⟩ hb10 hR4
    refine cw_at (E := [(1, (.pointer (some p1))), (3, v34), (4, v4), (8, (.int .i64 k7))]) hF7 (cw_seq (cw_seq (cw_region (lw_op Z Z Z (ow_move Z Z (lw_op Z Z Z (ow_fieldAddr Z Z Tryd.underlying45 Z (Tryd.sizeOf43 _) ?_)))))))
    have lz3 := (((((hl2.trans hl3).trans hl4).trans hl5).trans hl12).trans hl13)
    refine lw_op Z Z Z (ow_load (R := (RSlice (RSlice RRule))) Z Z (ARep.mono lz3 (hp1.fld fld_Ruleset_Chains)) (Tryd.sizeOf43 _) (Tryd.isAgg43 _) fun v37 hv37 => lw_op Z Z Z (ow_len Z Z hv37 Tryd.underlying43 Z (lw_op Z Z Z (ow_lss Z Z Z fun bb5 hbb5 => lw_nil (ew_then ?_)))))
    replace hb10 := cond_some hb10
    rcases hb10 with ⟨hc7, hb10⟩ | ⟨hc7, hb10⟩
    ·
     obtain rfl := hbb5.trans hc7
     refine cw_true Z (cw_skip (ew_then (cw_seq (cw_block (cw_seq (cw_region (lw_op Z Z Z (ow_move Z Z (lw_op Z Z Z (ow_move Z Z ?_))))))))))
     replace hb10 := bind_some hb10
     obtain ⟨x7, hx7, hb10⟩ := hb10
     refine lw_op Z Z Z (ow_indexRow (R := RBool) Z Z Z hw14 Tryd.underlying56 (Tryd.sizeOf4 _) hx7 (lw_op Z Z Z (ow_loadElRow (R := RBool) (S := RBool) Z Z Z hw14 (orow_blk hw14 hx7) hx7 (Fld.whole RBool) (Tryd.sizeOf4 _) (Tryd.isAgg4 _) fun v38 hv38 => ?_)))
     obtain rfl := vbool_eq hv38
     refine lw_nil (ew_then ?_)
     replace hb10 := cond_some hb10
     rcases hb10 with ⟨hc8, hb10⟩ | ⟨hc8, hb10⟩
     ·
      subst hc8
      refine cw_true Z (cw_region (lw_op Z Z Z (ow_move Z Z (lw_op Z Z Z (ow_move Z Z (lw_op Z Z Z (ow_buildSlice (R := RInt) (xs := [k7]) (cs := #[(.int .i64 k7)]) (e := 3) Z Z (by kernel_rfl) Z Z ⟨_, _, Z, (vint _).cells, Z⟩ hC13 fun p8 w14 hw15 hb11 hl14 hC14 => ?_)))))))
      have hr7 := hw13.no hb11
      have hr8 := hw14.no hb11
      replace hb10 := bind_some hb10
      obtain ⟨z1, hz1, hb10⟩ := hb10
      refine lw_op Z Z Z (ow_append (R := RInt) Z Z Z Z Tryd.underlying52 hi3 hz3 hs3 hy3 Z Z Z Z hr7 hw15 hz1 hC14 fun v39 w15 M10 hr9 hb12 hl15 hC15 hM3 hat3 => ?_)
      have hr10 := hr8.goRow hr7 hb12 hl15 hM3 (by decide)
      refine lw_op Z Z Z (ow_assign Z Z (lw_nil (ew_blockN (ew_then (cw_region (lw_op Z Z Z (ow_move Z Z (lw_op Z Z Z (ow_add Z Z Z (lw_op Z Z Z (ow_assign Z Z (lw_nil ?_))))))))))))
      have lz4 := ((hl13.trans hl14).trans hl15)
      exact ew_nxt (z1, (W (k7 + 1)), y14) hb10 fun a ha => ⟨M10, v39, (ha.sub ⟨Z, Z, Z, Z, trivial⟩), lz4, hC15, hr9, hr10⟩
     ·
      subst hc8
      exact cw_false Z (cw_skip (ew_blockN (ew_then (cw_region (lw_op Z Z Z (ow_move Z Z (lw_op Z Z Z (ow_add Z Z Z (lw_op Z Z Z (ow_assign Z Z (lw_nil (ew_nxt (y13, (W (k7 + 1)), y14) hb10 fun a ha => ⟨M9, v34, (ha.sub ⟨Z, Z, Z, Z, trivial⟩), hl13, hC13, hw13, hw14⟩))))))))))))
    ·
     obtain rfl := hbb5.trans hc7
     exact cw_false Z (cw_exit (ew_thenX (ew_thenX (ew_blockX (ew_brk (y13, k7, y14) hb10 fun a ha => ⟨M9, v34, (ha.sub ⟨Z, Z, Z, Z, trivial⟩), hl13, hC13, hw13, hw14⟩)))))
   ·
    rintro ⟨y15, k8, y16⟩ a w16 hlr8 ⟨M11, v40, hF8, hl16, hC16, hw16, hw17⟩
    subst hlr8
    refine ew_at (E := [(1, (.pointer (some p1))), (3, v40), (4, v4), (8, (.int .i64 k8))]) hF8 (ew_then (cw_seq (cw_region (lw_op Z Z Z (ow_move Z Z (lw_op Z Z Z (ow_assign Z Z (lw_nil (ew_then (cw_ret ?_))))))))))
    obtain rfl := Option.some.inj h
    exact ew_ret (res1 Z (.tmp Z)) ⟨_, Z, (hw16.freezeBack hC16 hO), hC16.bx⟩
 ·
  subst hc1
  refine cw_true Z (cw_seq (cw_region (lw_op Z Z Z (ow_move Z Z (lw_op Z Z Z (ow_assign Z Z (lw_nil (ew_then (cw_ret (ew_thenR ?_))))))))))
  obtain rfl := Option.some.inj h
  exact ew_ret (res1 Z (.tmp Z)) ⟨_, Z, (hr2.freezeBack hC3 hO), hC3.bx⟩

theorem w_impl_Packet_fields {w : World} {M : Nat → Prop} (_hG : ARep (RArr 4 RShape) w M shapes ⟨0, 0, none⟩) (hO : ∀ b, M b → b < w.heap.size) {v0p : Value} {a_p : Packet} (h0 : VRep RPacket w M a_p v0p) {r : (List Int)} (h : F.impl_Packet_fields a_p = some r) :
  Calls Tryd.prog 92 [v0p].toArray w fun e w' => ∃ v, e = .returned v ∧ VRep (RArr 4 RInt) w' M r v ∧ BX No w w' := by
 have hC : Cx No w M w M := Cx.start hO (fun _ e => e.elim)
 clear _hG
 refine walk (N := 12) Tryd.func92 Z Tryd.ntmps92 Z (cw_seq (cw_region (lw_op Z Z Z (ow_box (R := RPacket) Z Z h0 hC fun p1 w1 hp1 hb1 hl1 hC1 => lw_op Z Z Z (ow_alloc Z (Tryd.zeroValue119 _) hC1 fun g1 w2 hg1 hg2 ho1 hb2 hl2 hC2 => ?_)))))
 have hm1 : (Add g1 M) g1 := .inl Z
 have ho2 : OwnA (RArr 4 RInt) w2 (Add g1 M) g1 119 [0, 0, 0, 0] := OwnA.of ho1 ⟨Z, ⟨_, _, Z, (vint _).cells, _, _, Z, (vint _).cells, _, _, Z, (vint _).cells, _, _, Z, (vint _).cells, Z⟩⟩
 refine lw_nil (ew_then (cw_seq (cw_region (lw_op Z Z Z (ow_fieldAddr Z Z Tryd.underlying38 Z (Tryd.sizeOf3 _) (lw_op Z Z Z (ow_load (R := RInt) Z Z (ARep.mono hl2 (hp1.fld fld_Packet_From)) (Tryd.sizeOf3 _) (Tryd.isAgg3 _) fun v1 hv1 => ?_)))))))
 obtain rfl := vint_eq hv1
 refine lw_op Z Z Z (ow_fieldAddr Z Z Tryd.underlying38 Z (Tryd.sizeOf3 _) (lw_op Z Z Z (ow_load (R := RInt) Z Z (ARep.mono hl2 (hp1.fld fld_Packet_To)) (Tryd.sizeOf3 _) (Tryd.isAgg3 _) fun v2 hv2 => ?_)))
 obtain rfl := vint_eq hv2
 refine lw_op Z Z Z (ow_fieldAddr Z Z Tryd.underlying38 Z (Tryd.sizeOf3 _) (lw_op Z Z Z (ow_load (R := RInt) Z Z (ARep.mono hl2 (hp1.fld fld_Packet_Port)) (Tryd.sizeOf3 _) (Tryd.isAgg3 _) fun v3 hv3 => ?_)))
 obtain rfl := vint_eq hv3
 refine lw_op Z Z Z (ow_fieldAddr Z Z Tryd.underlying38 Z (Tryd.sizeOf3 _) (lw_op Z Z Z (ow_load (R := RInt) Z Z (ARep.mono hl2 (hp1.fld fld_Packet_Proto)) (Tryd.sizeOf3 _) (Tryd.isAgg3 _) fun v4 hv4 => ?_)))
 obtain rfl := vint_eq hv4
 refine lw_op Z Z Z (ow_build (v := .agg #[(.int .i64 a_p.From), (.int .i64 a_p.To), (.int .i64 a_p.Port), (.int .i64 a_p.Proto)]) Z Z (by kernel_rfl) ?_)
 have hw1 : VRep (RArr 4 RInt) w2 (Add g1 M) [a_p.From, a_p.To, a_p.Port, a_p.Proto] (.agg #[(.int .i64 a_p.From), (.int .i64 a_p.To), (.int .i64 a_p.Port), (.int .i64 a_p.Proto)]) := ⟨_, ⟨Z, ⟨_, _, Z, (vint _).cells, _, _, Z, (vint _).cells, _, _, Z, (vint _).cells, _, _, Z, (vint _).cells, Z⟩⟩, Z⟩
 obtain ⟨cs1, h1, h2⟩ := ho2.own
 refine lw_op0 Z Z (ow_storeA (X := No) (R := (RArr 4 RInt)) Z Z Z Z h1 h2 (Tryd.sizeOf119 _) hw1 hm1 (.inl hg2) hC2 fun w3 ho3 hb3 hl3 hC3 => lw_nil (ew_then (cw_ret ?_)))
 obtain rfl := Option.some.inj h
 obtain ⟨v5, hq1, hw2⟩ := resA ho3 (Tryd.sizeOf119 _) (Tryd.isAgg119 _) rfl
 exact ew_ret (res1 Z (.cell Z hq1)) ⟨_, Z, (hw2.mono hC3.back), hC3.bx⟩

theorem w_impl_PacketValid {w : World} {M : Nat → Prop} (hG : ARep (RArr 4 RShape) w M shapes ⟨0, 0, none⟩) (hO : ∀ b, M b → b < w.heap.size) {v0p : Value} {a_p : Packet} (h0 : VRep RPacket w M a_p v0p) {r : Bool} (h : F.impl_PacketValid a_p = some r) :
  Calls Tryd.prog 62 [v0p].toArray w fun e w' => ∃ v, e = .returned v ∧ VRep RBool w' M r v ∧ BX No w w' := by
 have hC : Cx No w M w M := Cx.start hO (fun _ e => e.elim)
 refine walk (N := 20) Tryd.func62 Z Tryd.ntmps62 Z (cw_seq (cw_region (lw_op Z Z Z (ow_box (R := RPacket) Z Z h0 hC fun p1 w1 hp1 hb1 hl1 hC1 => lw_op Z Z Z (ow_assign Z Z (lw_nil (ew_then (cw_seq (cw_seq (cw_region (lw_op Z Z Z (ow_load (R := RPacket) Z Z hp1 (Tryd.sizeOf38 _) (Tryd.isAgg38 _) fun v1 hv1 => ?_))))))))))))
 replace h := bind_some h
 obtain ⟨x1, hx1, h⟩ := h
 refine lw_op Z Z Z (ow_call Z Z Tryd.call92 (w_impl_Packet_fields (hG.mono hl1) hC1.old hv1 hx1) fun v2 w2 hv2 => ?_)
 obtain ⟨hv2, hb2⟩ := hv2
 have hl2 := Le.no M hb2
 have hC2 := hC1.no hb2
 refine lw_op Z Z Z (ow_move Z Z (lw_nil (ew_then ?_)))
 replace h := bind_some h
 obtain ⟨lr1, hlr1, h⟩ := h
 refine cw_for hlr1 (fun s a w' => ∃ (M' : Nat → Prop), Fits 20 [(6, v2), (7, (.int .i64 s))] a ∧ Le w2 M w' M' ∧ Cx No w M w' M') ?_ ?_ ?_
 ·
  intro a ha
  exact ⟨M, ha.sub ⟨Z, Z, trivial⟩, Le.refl _ _, hC2⟩
 ·
  rintro k1 a w3 sr1 ⟨M1, hF1, hl3, hC3⟩ hb3 hR1
  refine cw_at (E := [(6, v2), (7, (.int .i64 k1))]) hF1 (cw_seq (cw_region (lw_op Z Z Z (ow_lss Z Z Z fun bb1 hbb1 => lw_nil (ew_then (cw_seq ?_))))))
  replace hb3 := cond_some hb3
  rcases hb3 with ⟨hc1, hb3⟩ | ⟨hc1, hb3⟩
  ·
   obtain rfl := hbb1.trans hc1
   refine cw_true Z (cw_skip (ew_then (cw_seq (cw_block (cw_seq (cw_region (lw_op Z Z Z (ow_move Z Z ?_))))))))
   replace hb3 := bind_some hb3
   obtain ⟨x2, hx2, hb3⟩ := hb3
   refine lw_op Z Z Z (ow_index (R := RInt) Z Z Z (VRep.mono hl3 hv2) Tryd.underlying119 (Tryd.sizeOf3 _) (Tryd.isAgg3 _) hx2 fun v4 hv4 => ?_)
   obtain rfl := vint_eq hv4
   refine lw_op Z Z Z (ow_assign Z Z (lw_op Z Z Z (ow_assign Z Z (lw_nil (ew_then (cw_seq (cw_region (lw_op Z Z Z (ow_move Z Z (lw_op Z Z Z (ow_lss Z Z Z fun bb2 hbb2 => lw_op Z Z Z (ow_move Z Z ?_))))))))))))
   replace hb3 := cond_some hb3
   rcases hb3 with ⟨hc2, hb3⟩ | ⟨hc2, hb3⟩
   ·
    obtain rfl := hbb2.trans hc2
    refine lw_off Z Z Z Z Z Z (lw_off Z Z Z Z Z Z (lw_off Z Z Z Z Z Z (lw_off Z Z Z Z Z Z (lw_op Z Z Z (ow_pickT Z Z Z (lw_nil (ew_then (cw_true Z (cw_seq (cw_region (lw_op Z Z Z (ow_assign Z Z (lw_nil (ew_then (cw_ret (ew_blockR (ew_thenR (ew_thenR (ew_blockR (ew_brkR (ew_thenR ?_)))))))))))))))))))))
    have e1 := hR1 _ (Option.some.inj hb3).symm
    subst e1
    obtain rfl := Option.some.inj h
    exact ew_ret (res1 Z (.tmp Z)) ⟨_, Z, ((vbool _)), hC3.bx⟩
   ·
    obtain rfl := hbb2.trans hc2
    refine lw_on Z Z Z Z Z Z (ow_move Z Z (lw_on Z Z Z Z Z Z (ow_move Z Z ?_)))
    replace hb3 := bind_some hb3
    obtain ⟨x3, hx3, hb3⟩ := hb3
    have lz1 := ((hl1.trans hl2).trans hl3)
    refine lw_on Z Z Z Z Z Z (ow_call Z Z Tryd.call83 (w_impl_FieldTop (hG.mono lz1) hC3.old hx3) fun v5 w4 hv5 => ?_)
    obtain ⟨hv5, hb4⟩ := hv5
    have hl4 := Le.no M1 hb4
    have hC4 := hC3.no hb4
    obtain rfl := vint_eq hv5
    refine lw_on Z Z Z Z Z Z (ow_gtr Z Z Z fun bb3 hbb3 => lw_op Z Z Z (ow_pickF Z Z Z (lw_nil (ew_then ?_))))
    replace hb3 := cond_some hb3
    rcases hb3 with ⟨hc3, hb3⟩ | ⟨hc3, hb3⟩
    ·
     obtain rfl := hbb3.trans hc3
     refine cw_true Z (cw_seq (cw_region (lw_op Z Z Z (ow_assign Z Z (lw_nil (ew_then (cw_ret (ew_blockR (ew_thenR (ew_thenR (ew_blockR (ew_brkR (ew_thenR ?_)))))))))))))
     have e2 := hR1 _ (Option.some.inj hb3).symm
     subst e2
     obtain rfl := Option.some.inj h
     exact ew_ret (res1 Z (.tmp Z)) ⟨_, Z, ((vbool _)), hC4.bx⟩
    ·
     obtain rfl := hbb3.trans hc3
     exact cw_false Z (cw_skip (ew_blockN (ew_then (cw_region (lw_op Z Z Z (ow_add Z Z Z (lw_op Z Z Z (ow_move Z Z (lw_nil (ew_nxt (W (k1 + 1)) hb3 fun a ha => ⟨M1, (ha.sub ⟨Z, Z, trivial⟩), (hl3.trans hl4), hC4⟩))))))))))
  ·
   obtain rfl := hbb1.trans hc1
   exact cw_false Z (cw_exit (ew_thenX (ew_thenX (ew_blockX (ew_brk k1 hb3 fun a ha => ⟨M1, (ha.sub ⟨Z, Z, trivial⟩), hl3, hC3⟩)))))
 ·
  rintro k2 a w5 hlr2 ⟨M2, hF2, hl5, hC5⟩
  subst hlr2
  refine ew_at (E := [(6, v2), (7, (.int .i64 k2))]) hF2 (ew_then (cw_seq (cw_region (lw_op Z Z Z (ow_assign Z Z (lw_nil (ew_then (cw_ret ?_))))))))
  obtain rfl := Option.some.inj h
  exact ew_ret (res1 Z (.tmp Z)) ⟨_, Z, ((vbool _)), hC5.bx⟩

theorem w_impl_Test_holds {w : World} {M : Nat → Prop} (hG : ARep (RArr 4 RShape) w M shapes ⟨0, 0, none⟩) (hO : ∀ b, M b → b < w.heap.size) {v0p : Value} {a_t : Test} (h0 : VRep RTest w M a_t v0p) {v1p : Value} {a_p : Packet} (h1 : VRep RPacket w M a_p v1p) {r : Bool} (h : F.impl_Test_holds a_t a_p = some r) :
  Calls Tryd.prog 97 [v0p, v1p].toArray w fun e w' => ∃ v, e = .returned v ∧ VRep RBool w' M r v ∧ BX No w w' := by
 have hC : Cx No w M w M := Cx.start hO (fun _ e => e.elim)
 refine walk (N := 26) Tryd.func97 Z Tryd.ntmps97 Z (cw_seq (cw_region (lw_op Z Z Z (ow_box (R := RTest) Z Z h0 hC fun p1 w1 hp1 hb1 hl1 hC1 => lw_op Z Z Z (ow_box (R := RPacket) Z Z (VRep.mono hl1 h1) hC1 fun p2 w2 hp2 hb2 hl2 hC2 => lw_op Z Z Z (ow_assign Z Z (lw_nil (ew_then (cw_seq ?_)))))))))
 replace h := bind_some h
 obtain ⟨x1, hx1, h⟩ := h
 have lz1 := (hl1.trans hl2)
 refine cw_sub (E' := [(2, (.pointer (some p1))), (3, (.pointer (some p2))), (4, (.bool false))]) ⟨Z, Z, Z, trivial⟩ (cw_drawQ 4 [PV RPacket M a_p, PV (RArr 4 RInt) M x1, PA RInt M a_t.Field, PEq (.int .i64 a_t.Field)] (by kernel_rfl) Z (by kernel_rfl) ⟨PV.mono _ _ _, PV.mono _ _ _, PA.mono _ _ _, PEq.mono _, trivial⟩ ⟨?_, ?_, ?_, ?_, trivial⟩ ?_)
 ·
  intro w4 D hS1 hd1
  have hl4 := Le.no M hS1
  exact dg_sub (E' := [(3, (.pointer (some p2)))]) ⟨Z, trivial⟩ (dg_plain Z (ow_load (R := RPacket) Z Z (ARep.mono hl4 hp2) (Tryd.sizeOf38 _) (Tryd.isAgg38 _) fun v4 hv4 => ⟨BX.refl _ _, hv4⟩))
 ·
  intro w5 D hS2 hd2
  have hl5 := Le.no M hS2
  have hC5 := hC2.no hS2
  have d1 : PV RPacket M a_p (D 0) w5 := dpA hd2 0 Z
  generalize hq1 : (D 0) = v5 at d1
  refine dg_sub (E' := [(7, v5)]) ⟨(congrArg some hq1), trivial⟩ (dg_plain Z (ow_call Z Z Tryd.call92 (w_impl_Packet_fields (hG.mono (lz1.trans hl5)) hC5.old d1 hx1) fun v6 w6 hv6 => ?_))
  obtain ⟨hv6, hb4⟩ := hv6
  exact ⟨hb4, hv6⟩
 ·
  intro w7 D hS3 hd3
  have hl7 := Le.no M hS3
  exact dg_sub (E' := [(2, (.pointer (some p1)))]) ⟨Z, trivial⟩ (dg_plain Z (ow_fieldAddr Z Z Tryd.underlying31 Z (Tryd.sizeOf3 _) ⟨BX.refl _ _, ⟨_, Z, (ARep.mono (hl2.trans hl7) (hp1.fld fld_Test_Field))⟩⟩))
 ·
  intro w8 D hS4 hd4
  have d2 : PA RInt M a_t.Field (D 2) w8 := dpA hd4 2 Z
  obtain ⟨p3, e1, ha1⟩ := d2
  refine dg_sub (E' := [(9, (.pointer (some p3)))]) ⟨(congrArg some e1), trivial⟩ (dg_plain Z (ow_load (R := RInt) Z Z ha1 (Tryd.sizeOf3 _) (Tryd.isAgg3 _) fun v7 hv7 => ?_))
  obtain rfl := vint_eq hv7
  exact ⟨BX.refl _ _, Z⟩
 ·
  intro w9 D hS5 hd5
  have d4 : PV (RArr 4 RInt) M x1 (D 1) w9 := dpA hd5 1 Z
  have hl9 := Le.no M hS5
  have hC9 := hC2.no hS5
  generalize hq2 : (D 1) = v8 at d4
  refine lw_sub (E' := [(8, v8), (10, (.int .i64 a_t.Field)), (2, (.pointer (some p1))), (3, (.pointer (some p2))), (4, (.bool false))]) ⟨(congrArg some hq2), (dpE hd5 3 Z Z), Z, Z, Z, trivial⟩ ?_
  replace h := bind_some h
  obtain ⟨x2, hx2, h⟩ := h
  refine lw_op Z Z Z (ow_index (R := RInt) Z Z Z d4 Tryd.underlying119 (Tryd.sizeOf3 _) (Tryd.isAgg3 _) hx2 fun v9 hv9 => ?_)
  obtain rfl := vint_eq hv9
  refine lw_op Z Z Z (ow_assign Z Z (lw_nil (ew_then (cw_seq (cw_region (lw_op Z Z Z (ow_fieldAddr Z Z Tryd.underlying31 Z (Tryd.sizeOf3 _) (lw_op Z Z Z (ow_load (R := RInt) Z Z (ARep.mono (hl2.trans hl9) (hp1.fld fld_Test_Lo)) (Tryd.sizeOf3 _) (Tryd.isAgg3 _) fun v10 hv10 => ?_)))))))))
  obtain rfl := vint_eq hv10
  refine lw_op Z Z Z (ow_move Z Z (lw_op Z Z Z (ow_leq Z Z Z fun bb1 hbb1 => lw_op Z Z Z (ow_move Z Z ?_))))
  replace h := cond_some h
  rcases h with ⟨hc1, h⟩ | ⟨hc1, h⟩
  ·
   obtain rfl := hbb1.trans hc1
   refine lw_on Z Z Z Z Z Z (ow_move Z Z (lw_on Z Z Z Z Z Z (ow_fieldAddr Z Z Tryd.underlying31 Z (Tryd.sizeOf3 _) (lw_on Z Z Z Z Z Z (ow_load (R := RInt) Z Z (ARep.mono (hl2.trans hl9) (hp1.fld fld_Test_Hi)) (Tryd.sizeOf3 _) (Tryd.isAgg3 _) fun v11 hv11 => ?_)))))
   obtain rfl := vint_eq hv11
   refine lw_on Z Z Z Z Z Z (ow_leq Z Z Z fun bb2 hbb2 => lw_op Z Z Z (ow_pickT Z Z Z (lw_op Z Z Z (ow_assign Z Z (lw_nil (ew_then (cw_seq (cw_region (lw_op Z Z Z (ow_move Z Z (lw_op Z Z Z (ow_fieldAddr Z Z Tryd.underlying31 Z (Tryd.sizeOf4 _) (lw_op Z Z Z (ow_load (R := RBool) Z Z (ARep.mono (hl2.trans hl9) (hp1.fld fld_Test_Not)) (Tryd.sizeOf4 _) (Tryd.isAgg4 _) fun v12 hv12 => ?_))))))))))))))
   obtain ⟨bb3, hbb3, rfl⟩ := vbool_ex hv12
   refine lw_op Z Z Z (ow_neqB Z Z Z Tryd.underlying4 fun bb4 hbb4 => ?_)
   have hbb4' : bb4 = ((decide (x2 ≤ a_t.Hi)) != a_t.Not) := hbb4.trans (by rw [hbb2, hbb3])
   refine lw_op Z Z Z (ow_assign Z Z (lw_nil (ew_then (cw_ret ?_))))
   obtain rfl := Option.some.inj h
   exact ew_ret (res1 Z (.tmp Z)) ⟨_, Z, ((vbool_of hbb4')), hC9.bx⟩
  ·
   obtain rfl := hbb1.trans hc1
   refine lw_off Z Z Z Z Z Z (lw_off Z Z Z Z Z Z (lw_off Z Z Z Z Z Z (lw_off Z Z Z Z Z Z (lw_op Z Z Z (ow_pickF Z Z Z (lw_op Z Z Z (ow_assign Z Z (lw_nil (ew_then (cw_seq (cw_region (lw_op Z Z Z (ow_move Z Z (lw_op Z Z Z (ow_fieldAddr Z Z Tryd.underlying31 Z (Tryd.sizeOf4 _) (lw_op Z Z Z (ow_load (R := RBool) Z Z (ARep.mono (hl2.trans hl9) (hp1.fld fld_Test_Not)) (Tryd.sizeOf4 _) (Tryd.isAgg4 _) fun v13 hv13 => ?_)))))))))))))))))
   obtain ⟨bb5, hbb5, rfl⟩ := vbool_ex hv13
   refine lw_op Z Z Z (ow_neqB Z Z Z Tryd.underlying4 fun bb6 hbb6 => ?_)
   have hbb6' : bb6 = (false != a_t.Not) := hbb6.trans (by rw [hbb5])
   refine lw_op Z Z Z (ow_assign Z Z (lw_nil (ew_then (cw_ret ?_))))
   obtain rfl := Option.some.inj h
   exact ew_ret (res1 Z (.tmp Z)) ⟨_, Z, ((vbool_of hbb6')), hC9.bx⟩

theorem w_impl_allHold {w : World} {M : Nat → Prop} (hG : ARep (RArr 4 RShape) w M shapes ⟨0, 0, none⟩) (hO : ∀ b, M b → b < w.heap.size) {v0p : Value} {a_list : List Test} (h0 : VRep (RSlice RTest) w M a_list v0p) {v1p : Value} {a_p : Packet} (h1 : VRep RPacket w M a_p v1p) {r : Bool} (h : F.impl_allHold a_list a_p = some r) :
  Calls Tryd.prog 77 [v0p, v1p].toArray w fun e w' => ∃ v, e = .returned v ∧ VRep RBool w' M r v ∧ BX No w w' := by
 have hC : Cx No w M w M := Cx.start hO (fun _ e => e.elim)
 refine walk (N := 18) Tryd.func77 Z Tryd.ntmps77 Z (cw_seq (cw_region (lw_op Z Z Z (ow_box (R := RPacket) Z Z h1 hC fun p1 w1 hp1 hb1 hl1 hC1 => lw_op Z Z Z (ow_assign Z Z (lw_nil (ew_then (cw_seq (cw_seq (cw_region (lw_op Z Z Z (ow_move Z Z (lw_op Z Z Z (ow_len Z Z (VRep.mono hl1 h0) Tryd.underlying27 Z (lw_op Z Z Z (ow_move Z Z (lw_nil (ew_then ?_))))))))))))))))))
 replace h := bind_some h
 obtain ⟨lr1, hlr1, h⟩ := h
 refine cw_for hlr1 (fun s a w' => ∃ (M' : Nat → Prop), Fits 18 [(3, (.pointer (some p1))), (7, v0p), (8, (.int .i64 (a_list.length : Int))), (9, (.int .i64 s))] a ∧ Le w1 M w' M' ∧ Cx No w M w' M') ?_ ?_ ?_
 ·
  intro a ha
  exact ⟨M, ha.sub ⟨Z, Z, Z, Z, trivial⟩, Le.refl _ _, hC1⟩
 ·
  rintro k1 a w2 sr1 ⟨M1, hF1, hl2, hC2⟩ hb2 hR1
  refine cw_at (E := [(3, (.pointer (some p1))), (7, v0p), (8, (.int .i64 (a_list.length : Int))), (9, (.int .i64 k1))]) hF1 (cw_seq (cw_region (lw_op Z Z Z (ow_lss Z Z Z fun bb1 hbb1 => lw_nil (ew_then (cw_seq ?_))))))
  replace hb2 := cond_some hb2
  rcases hb2 with ⟨hc1, hb2⟩ | ⟨hc1, hb2⟩
  ·
   obtain rfl := hbb1.trans hc1
   refine cw_true Z (cw_skip (ew_then (cw_seq (cw_block (cw_seq (cw_region ?_))))))
   replace hb2 := bind_some hb2
   obtain ⟨x1, hx1, hb2⟩ := hb2
   refine lw_op Z Z Z (ow_indexSlice (R := RTest) Z Z Z (VRep.mono (hl1.trans hl2) h0) Tryd.underlying27 (Tryd.sizeOf31 _) hx1 fun p2 hp2 => lw_op Z Z Z (ow_load (R := RTest) Z Z hp2 (Tryd.sizeOf31 _) (Tryd.isAgg31 _) fun v2 hv2 => lw_allocStore (R := RTest) Z Z Z Z Z Z Z Tryd.zeroValue31 Tryd.sizeOf31 Z Z Z (by simp) hv2 hC2 fun p3 w3 hp3 hb3 hl3 hC3 => lw_nil (ew_then (cw_seq (cw_region (lw_op Z Z Z (ow_load (R := RTest) Z Z hp3 (Tryd.sizeOf31 _) (Tryd.isAgg31 _) fun v3 hv3 => lw_op Z Z Z (ow_load (R := RPacket) Z Z (ARep.mono (hl2.trans hl3) hp1) (Tryd.sizeOf38 _) (Tryd.isAgg38 _) fun v4 hv4 => ?_))))))))
   replace hb2 := bind_some hb2
   obtain ⟨x2, hx2, hb2⟩ := hb2
   have lz1 := ((hl1.trans hl2).trans hl3)
   refine lw_op Z Z Z (ow_call Z Z Tryd.call97 (w_impl_Test_holds (hG.mono lz1) hC3.old hv3 hv4 hx2) fun v5 w4 hv5 => ?_)
   obtain ⟨hv5, hb4⟩ := hv5
   have hl4 := Le.no M1 hb4
   have hC4 := hC3.no hb4
   obtain rfl := vbool_eq hv5
   refine lw_op Z Z Z (ow_not Z Z (lw_nil (ew_then ?_)))
   replace hb2 := cond_some hb2
   rcases hb2 with ⟨hc2, hb2⟩ | ⟨hc2, hb2⟩
   ·
    subst hc2
    refine cw_false Z (cw_skip (ew_blockN (ew_then (cw_region (lw_op Z Z Z (ow_add Z Z Z (lw_op Z Z Z (ow_move Z Z (lw_nil ?_)))))))))
    have lz2 := ((hl2.trans hl3).trans hl4)
    exact ew_nxt (W (k1 + 1)) hb2 fun a ha => ⟨M1, (ha.sub ⟨Z, Z, Z, Z, trivial⟩), lz2, hC4⟩
   ·
    subst hc2
    refine cw_true Z (cw_seq (cw_region (lw_op Z Z Z (ow_assign Z Z (lw_nil (ew_then (cw_ret (ew_blockR (ew_thenR (ew_thenR (ew_blockR (ew_brkR (ew_thenR ?_)))))))))))))
    have e1 := hR1 _ (Option.some.inj hb2).symm
    subst e1
    obtain rfl := Option.some.inj h
    exact ew_ret (res1 Z (.tmp Z)) ⟨_, Z, ((vbool _)), hC4.bx⟩
  ·
   obtain rfl := hbb1.trans hc1
   exact cw_false Z (cw_exit (ew_thenX (ew_thenX (ew_blockX (ew_brk k1 hb2 fun a ha => ⟨M1, (ha.sub ⟨Z, Z, Z, Z, trivial⟩), hl2, hC2⟩)))))
 ·
  rintro k2 a w5 hlr2 ⟨M2, hF2, hl5, hC5⟩
  subst hlr2
  refine ew_at (E := [(3, (.pointer (some p1))), (7, v0p), (8, (.int .i64 (a_list.length : Int))), (9, (.int .i64 k2))]) hF2 (ew_then (cw_seq (cw_region (lw_op Z Z Z (ow_assign Z Z (lw_nil (ew_then (cw_ret ?_))))))))
  obtain rfl := Option.some.inj h
  exact ew_ret (res1 Z (.tmp Z)) ⟨_, Z, ((vbool _)), hC5.bx⟩

theorem w_impl_walk_leave {w : World} {M : Nat → Prop} (_hG : ARep (RArr 4 RShape) w M shapes ⟨0, 0, none⟩) (hO : ∀ b, M b → b < w.heap.size) {vs0 : Value} {a_0c : List Place} (hr0p : OwnRow RPlace 0 123 w M a_0c vs0) {vs1 : Value} {a_1c : List Visit} (hr1p : OwnRow RVisit 0 60 w M a_1c vs1) {a_2c : Int} {g : Nat} (hown : Own w g 103 #[vs0, vs1, (.int .i64 a_2c)]) (hgM : M g) {r : (List Place) × (List Visit) × Int} (h : F.impl_walk_leave a_0c a_1c a_2c = some r) :
  Calls Tryd.prog 95 [(.pointer (some ⟨g, 0, none⟩))].toArray w fun e w' => ∃ v, e = .returned v ∧ v = .tuple #[] ∧ ∃ (M' : Nat → Prop) (u0 : Value) (u1 : Value), Own w' g 103 #[u0, u1, .int .i64 r.2.2] ∧ OwnRow RPlace 0 123 w' M' r.1 u0 ∧ OwnRow RVisit 0 60 w' M' r.2.1 u1 ∧ Cx (fun b => b = g ∨ vs0.ownBlock = some b ∨ vs1.ownBlock = some b) w M w' M' ∧ (∀ b, u0.ownBlock = some b → w.heap.size ≤ b ∨ (fun b => b = g ∨ vs0.ownBlock = some b ∨ vs1.ownBlock = some b) b) ∧ (∀ b, u1.ownBlock = some b → w.heap.size ≤ b ∨ (fun b => b = g ∨ vs0.ownBlock = some b ∨ vs1.ownBlock = some b) b) := by
 have hX : ∀ b, (fun b => b = g ∨ vs0.ownBlock = some b ∨ vs1.ownBlock = some b) b → M b := fun b e => (e.elim (fun e => by rw [show b = g from e]; exact hgM) (fun e => (e.elim (fun e => hr0p.mem b e) (fun e => (hr1p.mem b e)))))
 have hC : Cx (fun b => b = g ∨ vs0.ownBlock = some b ∨ vs1.ownBlock = some b) w M w M := Cx.start hO hX
 have hge0p : ∀ b, vs0.ownBlock = some b → w.heap.size ≤ b ∨ (fun b => b = g ∨ vs0.ownBlock = some b ∨ vs1.ownBlock = some b) b := fun b e => .inr (.inr (.inl e))
 have hge1p : ∀ b, vs1.ownBlock = some b → w.heap.size ≤ b ∨ (fun b => b = g ∨ vs0.ownBlock = some b ∨ vs1.ownBlock = some b) b := fun b e => .inr (.inr (.inr e))
 clear _hG
 refine walk (N := 16) Tryd.func95 Z Tryd.ntmps95 Z ?_
 replace h := bind_some h
 obtain ⟨y1, hy1, h⟩ := h
 refine cw_sub (E' := [(0, (.pointer (some ⟨g, 0, none⟩)))]) ⟨Z, trivial⟩ (cw_drawQ 12 [PEq (.pointer (some ⟨g, 0, none⟩)), PEq (.pointer (some ⟨g, 0, none⟩)), PEq (.pointer (some ⟨g, 0, none⟩)), PEq (.pointer (some ⟨g, 0, none⟩)), PEq vs0, PEq (.pointer (some ⟨g, 0, none⟩)), PEq (.pointer (some ⟨g, 0, none⟩)), PEq (.pointer (some ⟨g, 0, none⟩)), PEq vs0, PEq (.int .i64 (a_0c.length : Int)), PEq (.int .i64 (W ((a_0c.length : Int) - 1))), PRow RPlace 0 123 M y1 vs0] (by kernel_rfl) Z (by kernel_rfl) ⟨PEq.mono _, PEq.mono _, PEq.mono _, PEq.mono _, PEq.mono _, PEq.mono _, PEq.mono _, PEq.mono _, PEq.mono _, PEq.mono _, PEq.mono _, PRow.mono _ _ _ _ _ _, trivial⟩ ⟨?_, ?_, ?_, ?_, ?_, ?_, ?_, ?_, ?_, ?_, ?_, ?_, trivial⟩ ?_)
 ·
  intro w1 D hS1 hd1
  exact dg_sub (E' := [(0, (.pointer (some ⟨g, 0, none⟩)))]) ⟨Z, trivial⟩ (dg_plain Z (ow_move Z Z ⟨BX.refl _ _, Z⟩))
 ·
  intro w2 D hS2 hd2
  exact dg_sub (E' := [(0, (.pointer (some ⟨g, 0, none⟩)))]) ⟨Z, trivial⟩ (dg_plain Z (ow_move Z Z ⟨BX.refl _ _, Z⟩))
 ·
  intro w3 D hS3 hd3
  exact dg_sub (E' := [(3, (.pointer (some ⟨g, 0, none⟩)))]) ⟨(dpE hd3 1 Z Z), trivial⟩ (dg_plain Z (ow_nilCheck Z Z ⟨BX.refl _ _, Z⟩))
 ·
  intro w4 D hS4 hd4
  exact dg_sub (E' := [(4, (.pointer (some ⟨g, 0, none⟩)))]) ⟨(dpE hd4 2 Z Z), trivial⟩ (dg_plain Z (ow_fieldAddr Z Z Tryd.underlying103 Z (Tryd.sizeOf101 _) ⟨BX.refl _ _, Z⟩))
 ·
  intro w5 D hS5 hd5
  have ho5 := hown.no hS5
  exact dg_sub (E' := [(5, (.pointer (some ⟨g, 0, none⟩)))]) ⟨(dpE hd5 3 Z Z), trivial⟩ (dg_plain Z (ow_loadOwn1 Z Z Z ho5 (Tryd.isAgg101 _) Z ⟨BX.refl _ _, Z⟩))
 ·
  intro w6 D hS6 hd6
  exact dg_sub (E' := [(0, (.pointer (some ⟨g, 0, none⟩)))]) ⟨Z, trivial⟩ (dg_plain Z (ow_move Z Z ⟨BX.refl _ _, Z⟩))
 ·
  intro w7 D hS7 hd7
  exact dg_sub (E' := [(7, (.pointer (some ⟨g, 0, none⟩)))]) ⟨(dpE hd7 5 Z Z), trivial⟩ (dg_plain Z (ow_nilCheck Z Z ⟨BX.refl _ _, Z⟩))
 ·
  intro w8 D hS8 hd8
  exact dg_sub (E' := [(8, (.pointer (some ⟨g, 0, none⟩)))]) ⟨(dpE hd8 6 Z Z), trivial⟩ (dg_plain Z (ow_fieldAddr Z Z Tryd.underlying103 Z (Tryd.sizeOf101 _) ⟨BX.refl _ _, Z⟩))
 ·
  intro w9 D hS9 hd9
  have ho9 := hown.no hS9
  exact dg_sub (E' := [(9, (.pointer (some ⟨g, 0, none⟩)))]) ⟨(dpE hd9 7 Z Z), trivial⟩ (dg_plain Z (ow_loadOwn1 Z Z Z ho9 (Tryd.isAgg101 _) Z ⟨BX.refl _ _, Z⟩))
 ·
  intro w10 D hS10 hd10
  have hr19 := hr0p.no hS10
  exact dg_sub (E' := [(10, vs0)]) ⟨(dpE hd10 8 Z Z), trivial⟩ (dg_plain Z (ow_lenOwn Z Z hr19 Tryd.underlying101 ⟨BX.refl _ _, Z⟩))
 ·
  intro w11 D hS11 hd11
  exact dg_sub (E' := [(11, (.int .i64 (a_0c.length : Int)))]) ⟨(dpE hd11 9 Z Z), trivial⟩ (dg_plain Z (ow_sub Z Z Z ⟨BX.refl _ _, Z⟩))
 ·
  intro w12 D hS12 hd12
  have hr23 := hr0p.no hS12
  refine dg_sub (E' := [(6, vs0), (12, (.int .i64 (W ((a_0c.length : Int) - 1))))]) ⟨(dpE hd12 4 Z Z), (dpE hd12 10 Z Z), trivial⟩ (dg_plain Z (ow_sliceToRow (R := RPlace) Z Z Z hr23 Tryd.underlying101 (Tryd.sizeOf123 _) (takeF_some hy1).2 fun v2 hv2 hub2 => ?_))
  rw [← (takeF_some hy1).1] at hv2
  exact ⟨BX.refl _ _, ⟨hv2, hub2⟩⟩
 ·
  intro w13 D hS13 hd13
  have d22 : PRow RPlace 0 123 M y1 vs0 (D 11) w13 := dpA hd13 11 Z
  have hC13 := hC.no hS13
  have ho13 := hown.no hS13
  have hr26 := hr1p.no hS13
  generalize hq1 : (D 11) = v3 at d22
  obtain ⟨hr27, hub3⟩ := d22
  have hge3 : ∀ b, v3.ownBlock = some b → w.heap.size ≤ b ∨ (fun b => b = g ∨ vs0.ownBlock = some b ∨ vs1.ownBlock = some b) b := fun b e => hge0p b (by rw [← hub3]; exact e)
  refine lw_sub (E' := [(2, (.pointer (some ⟨g, 0, none⟩))), (13, v3), (0, (.pointer (some ⟨g, 0, none⟩)))]) ⟨(dpE hd13 0 Z Z), (congrArg some hq1), Z, trivial⟩ (lw_op Z Z Z (ow_nilCheck Z Z (lw_op Z Z Z (ow_fieldAddr Z Z Tryd.underlying103 Z (Tryd.sizeOf101 _) ?_))))
  obtain ⟨A1, c1, rfl⟩ := hr27.len
  refine lw_op0 Z Z (ow_store (X := (fun b => b = g ∨ vs0.ownBlock = some b ∨ vs1.ownBlock = some b)) (us := [(.slice A1 y1.length c1)]) (cs' := #[(.slice A1 y1.length c1), vs1, (.int .i64 a_2c)]) Z Z Z Z ho13 (Tryd.sizeOf101 _) Z Z Z Z hgM (.inr (.inl Z)) Z hC13 fun w14 ho14 hb1 hl14 hC14 => ?_)
  have hr28 := hr26.go hb1 (fun k hk e => (orow_ne hr26 ho13 (by decide)) (hk.trans (congrArg some e))) hl14 (fun _ h => h)
  have hr29 := hr27.go hb1 (fun k hk e => (orow_ne hr27 ho13 (by decide)) (hk.trans (congrArg some e))) hl14 (fun _ h => h)
  refine lw_nil ?_
  obtain rfl := Option.some.inj h
  exact ew_end (res0 Z) ⟨_, Z, Z, M, (.slice A1 y1.length c1), vs1, ho14, hr29, hr28, hC14, hge3, hge1p⟩

theorem w_impl_actionOf {w : World} {M : Nat → Prop} (_hG : ARep (RArr 4 RShape) w M shapes ⟨0, 0, none⟩) (hO : ∀ b, M b → b < w.heap.size) {v0p : Value} {a_r : Rule} (h0 : VRep RRule w M a_r v0p) {r : Act_} (h : F.impl_actionOf a_r = some r) :
  Calls Tryd.prog 96 [v0p].toArray w fun e w' => ∃ v, e = .returned v ∧ v = actV r ∧ BX No w w' := by
 have hC : Cx No w M w M := Cx.start hO (fun _ e => e.elim)
 clear _hG
 refine walk (N := 25) Tryd.func96 Z Tryd.ntmps96 Z (cw_seq (cw_region (lw_op Z Z Z (ow_box (R := RRule) Z Z h0 hC fun p1 w1 hp1 hb1 hl1 hC1 => lw_op Z Z Z (ow_assign Z Z (lw_nil (ew_then (cw_seq (cw_seq (cw_region (lw_op Z Z Z (ow_fieldAddr Z Z Tryd.underlying42 Z (Tryd.sizeOf3 _) (lw_op Z Z Z (ow_load (R := RInt) Z Z (hp1.fld fld_Rule_Action) (Tryd.sizeOf3 _) (Tryd.isAgg3 _) fun v1 hv1 => ?_))))))))))))))
 obtain rfl := vint_eq hv1
 refine lw_nil (ew_then (cw_block (cw_seq (cw_region (lw_op Z Z Z (ow_eqlI Z Z Z fun bb1 hbb1 => lw_op Z Z Z (ow_assign Z Z (lw_nil (ew_then ?_)))))))))
 replace h := cond_some h
 rcases h with ⟨hc1, h⟩ | ⟨hc1, h⟩
 ·
  obtain rfl := hbb1.trans hc1
  refine cw_true Z (cw_seq (cw_region (lw_op Z Z Z (ow_build (v := .agg #[(.bool true)]) Z Z (by kernel_rfl) (lw_op Z Z Z (ow_makeIface (u := .iface 139 (.agg #[(.bool true)])) Z Z (by kernel_rfl) (lw_op Z Z Z (ow_assign Z Z (lw_nil (ew_then (cw_ret (ew_blockR (ew_thenR ?_)))))))))))))
  obtain rfl := Option.some.inj h
  exact ew_ret (res1 Z (.tmp Z)) ⟨_, Z, Z, hC1.bx⟩
 ·
  obtain rfl := hbb1.trans hc1
  refine cw_false Z (cw_seq (cw_region (lw_op Z Z Z (ow_eqlI Z Z Z fun bb2 hbb2 => lw_op Z Z Z (ow_assign Z Z (lw_nil (ew_then ?_)))))))
  replace h := cond_some h
  rcases h with ⟨hc2, h⟩ | ⟨hc2, h⟩
  ·
   obtain rfl := hbb2.trans hc2
   refine cw_true Z (cw_seq (cw_region (lw_op Z Z Z (ow_build (v := .agg #[(.bool false)]) Z Z (by kernel_rfl) (lw_op Z Z Z (ow_makeIface (u := .iface 139 (.agg #[(.bool false)])) Z Z (by kernel_rfl) (lw_op Z Z Z (ow_assign Z Z (lw_nil (ew_then (cw_ret (ew_blockR (ew_thenR ?_)))))))))))))
   obtain rfl := Option.some.inj h
   exact ew_ret (res1 Z (.tmp Z)) ⟨_, Z, Z, hC1.bx⟩
  ·
   obtain rfl := hbb2.trans hc2
   refine cw_false Z (cw_seq (cw_region (lw_op Z Z Z (ow_eqlI Z Z Z fun bb3 hbb3 => lw_op Z Z Z (ow_assign Z Z (lw_nil (ew_then ?_)))))))
   replace h := cond_some h
   rcases h with ⟨hc3, h⟩ | ⟨hc3, h⟩
   ·
    obtain rfl := hbb3.trans hc3
    refine cw_true Z (cw_seq (cw_region (lw_op Z Z Z (ow_fieldAddr Z Z Tryd.underlying42 Z (Tryd.sizeOf3 _) (lw_op Z Z Z (ow_load (R := RInt) Z Z (hp1.fld fld_Rule_Chain) (Tryd.sizeOf3 _) (Tryd.isAgg3 _) fun v2 hv2 => ?_))))))
    obtain rfl := vint_eq hv2
    refine lw_op Z Z Z (ow_build (v := .agg #[(.int .i64 a_r.Chain)]) Z Z (by kernel_rfl) (lw_op Z Z Z (ow_makeIface (u := .iface 141 (.agg #[(.int .i64 a_r.Chain)])) Z Z (by kernel_rfl) (lw_op Z Z Z (ow_assign Z Z (lw_nil (ew_then (cw_ret (ew_blockR (ew_thenR ?_))))))))))
    obtain rfl := Option.some.inj h
    exact ew_ret (res1 Z (.tmp Z)) ⟨_, Z, Z, hC1.bx⟩
   ·
    obtain rfl := hbb3.trans hc3
    refine cw_false Z (cw_seq (cw_region (lw_op Z Z Z (ow_eqlI Z Z Z fun bb4 hbb4 => lw_op Z Z Z (ow_assign Z Z (lw_nil (ew_then ?_)))))))
    replace h := cond_some h
    rcases h with ⟨hc4, h⟩ | ⟨hc4, h⟩
    ·
     obtain rfl := hbb4.trans hc4
     refine cw_true Z (cw_seq (cw_region (lw_op Z Z Z (ow_build (v := .agg #[]) Z Z (by kernel_rfl) (lw_op Z Z Z (ow_makeIface (u := .iface 143 (.agg #[])) Z Z (by kernel_rfl) (lw_op Z Z Z (ow_assign Z Z (lw_nil (ew_then (cw_ret (ew_blockR (ew_thenR ?_)))))))))))))
     obtain rfl := Option.some.inj h
     exact ew_ret (res1 Z (.tmp Z)) ⟨_, Z, Z, hC1.bx⟩
    ·
     obtain rfl := hbb4.trans hc4
     refine cw_false Z (cw_skip (ew_blockN (ew_then (cw_seq (cw_region (lw_op Z Z Z (ow_build (v := .agg #[]) Z Z (by kernel_rfl) (lw_op Z Z Z (ow_makeIface (u := .iface 144 (.agg #[])) Z Z (by kernel_rfl) (lw_op Z Z Z (ow_assign Z Z (lw_nil (ew_then (cw_ret ?_))))))))))))))
     obtain rfl := Option.some.inj h
     exact ew_ret (res1 Z (.tmp Z)) ⟨_, Z, Z, hC1.bx⟩

theorem w_impl_deciding_walk {w : World} {M : Nat → Prop} (_hG : ARep (RArr 4 RShape) w M shapes ⟨0, 0, none⟩) (hO : ∀ b, M b → b < w.heap.size) {v0p : Value} {a_d : deciding} (h0 : VRep Rdeciding w M a_d v0p) {vs0 : Value} {a_0c : List Place} (hr0p : OwnRow RPlace 0 123 w M a_0c vs0) {vs1 : Value} {a_1c : List Visit} (hr1p : OwnRow RVisit 0 60 w M a_1c vs1) {a_2c : Int} {g : Nat} (hown : Own w g 103 #[vs0, vs1, (.int .i64 a_2c)]) (hgM : M g) {r : (List Place) × (List Visit) × Int} (h : F.impl_deciding_walk a_d a_0c a_1c a_2c = some r) :
  Calls Tryd.prog 133 [v0p, (.pointer (some ⟨g, 0, none⟩))].toArray w fun e w' => ∃ v, e = .returned v ∧ v = .tuple #[] ∧ ∃ (M' : Nat → Prop) (u0 : Value) (u1 : Value), Own w' g 103 #[u0, u1, .int .i64 r.2.2] ∧ OwnRow RPlace 0 123 w' M' r.1 u0 ∧ OwnRow RVisit 0 60 w' M' r.2.1 u1 ∧ Cx (fun b => b = g ∨ vs0.ownBlock = some b ∨ vs1.ownBlock = some b) w M w' M' ∧ (∀ b, u0.ownBlock = some b → w.heap.size ≤ b ∨ (fun b => b = g ∨ vs0.ownBlock = some b ∨ vs1.ownBlock = some b) b) ∧ (∀ b, u1.ownBlock = some b → w.heap.size ≤ b ∨ (fun b => b = g ∨ vs0.ownBlock = some b ∨ vs1.ownBlock = some b) b) := by
 have hX : ∀ b, (fun b => b = g ∨ vs0.ownBlock = some b ∨ vs1.ownBlock = some b) b → M b := fun b e => (e.elim (fun e => by rw [show b = g from e]; exact hgM) (fun e => (e.elim (fun e => hr0p.mem b e) (fun e => (hr1p.mem b e)))))
 have hC : Cx (fun b => b = g ∨ vs0.ownBlock = some b ∨ vs1.ownBlock = some b) w M w M := Cx.start hO hX
 have hge0p : ∀ b, vs0.ownBlock = some b → w.heap.size ≤ b ∨ (fun b => b = g ∨ vs0.ownBlock = some b ∨ vs1.ownBlock = some b) b := fun b e => .inr (.inr (.inl e))
 have hge1p : ∀ b, vs1.ownBlock = some b → w.heap.size ≤ b ∨ (fun b => b = g ∨ vs0.ownBlock = some b ∨ vs1.ownBlock = some b) b := fun b e => .inr (.inr (.inr e))
 clear _hG
 refine walk (N := 12) Tryd.func133 Z Tryd.ntmps133 Z (cw_seq (cw_region (lw_op Z Z Z (ow_box (R := Rdeciding) Z Z h0 hC fun p1 w1 hp1 hb1 hl1 hC1 => ?_))))
 have ho1 := hown.no hb1
 have hr1 := hr0p.no hb1
 have hr2 := hr1p.no hb1
 refine lw_nil (ew_then (cw_seq (cw_region (lw_op Z Z Z (ow_fieldAddr Z Z Tryd.underlying139 Z (Tryd.sizeOf4 _) (lw_op Z Z Z (ow_load (R := RBool) Z Z (hp1.fld fld_deciding_accept) (Tryd.sizeOf4 _) (Tryd.isAgg4 _) fun v1 hv1 => ?_)))))))
 obtain ⟨bb1, hbb1, rfl⟩ := vbool_ex hv1
 refine lw_nil (ew_then ?_)
 replace h := cond_some h
 rcases h with ⟨hc1, h⟩ | ⟨hc1, h⟩
 ·
  obtain rfl := hbb1.trans hc1
  refine cw_true Z (cw_region (lw_op Z Z Z (ow_move Z Z (lw_op Z Z Z (ow_nilCheck Z Z (lw_op Z Z Z (ow_fieldAddr Z Z Tryd.underlying103 Z (Tryd.sizeOf3 _) (lw_op0 Z Z (ow_store (X := (fun b => b = g ∨ vs0.ownBlock = some b ∨ vs1.ownBlock = some b)) (us := [(.int .i64 1)]) (cs' := #[vs0, vs1, (.int .i64 1)]) Z Z Z Z ho1 (Tryd.sizeOf3 _) Z Z Z Z hgM (.inr (.inl Z)) Z hC1 fun w2 ho2 hb2 hl2 hC2 => ?_)))))))))
  have hr3 := hr1.go hb2 (fun k hk e => (orow_ne hr1 ho1 (by decide)) (hk.trans (congrArg some e))) hl2 (fun _ h => h)
  have hr4 := hr2.go hb2 (fun k hk e => (orow_ne hr2 ho1 (by decide)) (hk.trans (congrArg some e))) hl2 (fun _ h => h)
  refine lw_nil ?_
  obtain rfl := Option.some.inj h
  exact ew_end (res0 Z) ⟨_, Z, Z, M, vs0, vs1, ho2, hr3, hr4, hC2, hge0p, hge1p⟩
 ·
  obtain rfl := hbb1.trans hc1
  refine cw_false Z (cw_region (lw_op Z Z Z (ow_move Z Z (lw_op Z Z Z (ow_nilCheck Z Z (lw_op Z Z Z (ow_fieldAddr Z Z Tryd.underlying103 Z (Tryd.sizeOf3 _) (lw_op0 Z Z (ow_store (X := (fun b => b = g ∨ vs0.ownBlock = some b ∨ vs1.ownBlock = some b)) (us := [(.int .i64 2)]) (cs' := #[vs0, vs1, (.int .i64 2)]) Z Z Z Z ho1 (Tryd.sizeOf3 _) Z Z Z Z hgM (.inr (.inl Z)) Z hC1 fun w3 ho3 hb3 hl3 hC3 => ?_)))))))))
  have hr5 := hr1.go hb3 (fun k hk e => (orow_ne hr1 ho1 (by decide)) (hk.trans (congrArg some e))) hl3 (fun _ h => h)
  have hr6 := hr2.go hb3 (fun k hk e => (orow_ne hr2 ho1 (by decide)) (hk.trans (congrArg some e))) hl3 (fun _ h => h)
  refine lw_nil ?_
  obtain rfl := Option.some.inj h
  exact ew_end (res0 Z) ⟨_, Z, Z, M, vs0, vs1, ho3, hr5, hr6, hC3, hge0p, hge1p⟩

theorem w_impl_calling_walk {w : World} {M : Nat → Prop} (_hG : ARep (RArr 4 RShape) w M shapes ⟨0, 0, none⟩) (hO : ∀ b, M b → b < w.heap.size) {v0p : Value} {a_c : calling} (h0 : VRep Rcalling w M a_c v0p) {vs0 : Value} {a_0c : List Place} (hr0p : OwnRow RPlace 0 123 w M a_0c vs0) {vs1 : Value} {a_1c : List Visit} (hr1p : OwnRow RVisit 0 60 w M a_1c vs1) {a_2c : Int} {g : Nat} (hown : Own w g 103 #[vs0, vs1, (.int .i64 a_2c)]) (hgM : M g) {r : (List Place) × (List Visit) × Int} (h : F.impl_calling_walk a_c a_0c a_1c a_2c = some r) :
  Calls Tryd.prog 136 [v0p, (.pointer (some ⟨g, 0, none⟩))].toArray w fun e w' => ∃ v, e = .returned v ∧ v = .tuple #[] ∧ ∃ (M' : Nat → Prop) (u0 : Value) (u1 : Value), Own w' g 103 #[u0, u1, .int .i64 r.2.2] ∧ OwnRow RPlace 0 123 w' M' r.1 u0 ∧ OwnRow RVisit 0 60 w' M' r.2.1 u1 ∧ Cx (fun b => b = g ∨ vs0.ownBlock = some b ∨ vs1.ownBlock = some b) w M w' M' ∧ (∀ b, u0.ownBlock = some b → w.heap.size ≤ b ∨ (fun b => b = g ∨ vs0.ownBlock = some b ∨ vs1.ownBlock = some b) b) ∧ (∀ b, u1.ownBlock = some b → w.heap.size ≤ b ∨ (fun b => b = g ∨ vs0.ownBlock = some b ∨ vs1.ownBlock = some b) b) := by
 obtain ⟨i123, hi123, hz123, hs123, hy123⟩ := info123
 have hX : ∀ b, (fun b => b = g ∨ vs0.ownBlock = some b ∨ vs1.ownBlock = some b) b → M b := fun b e => (e.elim (fun e => by rw [show b = g from e]; exact hgM) (fun e => (e.elim (fun e => hr0p.mem b e) (fun e => (hr1p.mem b e)))))
 have hC : Cx (fun b => b = g ∨ vs0.ownBlock = some b ∨ vs1.ownBlock = some b) w M w M := Cx.start hO hX
 have hge0p : ∀ b, vs0.ownBlock = some b → w.heap.size ≤ b ∨ (fun b => b = g ∨ vs0.ownBlock = some b ∨ vs1.ownBlock = some b) b := fun b e => .inr (.inr (.inl e))
 have hge1p : ∀ b, vs1.ownBlock = some b → w.heap.size ≤ b ∨ (fun b => b = g ∨ vs0.ownBlock = some b ∨ vs1.ownBlock = some b) b := fun b e => .inr (.inr (.inr e))
 clear _hG
 refine walk (N := 16) Tryd.func136 Z Tryd.ntmps136 Z (cw_seq (cw_region (lw_op Z Z Z (ow_box (R := Rcalling) Z Z h0 hC fun p1 w1 hp1 hb1 hl1 hC1 => ?_))))
 have ho1 := hown.no hb1
 have hr1 := hr0p.no hb1
 have hr2 := hr1p.no hb1
 refine lw_nil (ew_then ?_)
 replace h := bind_some h
 obtain ⟨z1, hz1, h⟩ := h
 refine cw_sub (E' := [(1, (.pointer (some ⟨g, 0, none⟩))), (2, (.pointer (some p1)))]) ⟨Z, Z, trivial⟩ (cw_drawR 10 [none, none, none, none, none, none, none, none, none, some 0] [PEq (.pointer (some ⟨g, 0, none⟩)), PEq (.pointer (some ⟨g, 0, none⟩)), PEq (.pointer (some ⟨g, 0, none⟩)), PEq (.pointer (some ⟨g, 0, none⟩)), PEq vs0, PA RInt M a_c.chain, PEq (.int .i64 a_c.chain), PV RPlace M ({ chain := a_c.chain, next := 0 } : Place), PV (RSlice RPlace) M [({ chain := a_c.chain, next := 0 } : Place)], PApp RPlace 0 123 (fun b => b = g ∨ vs0.ownBlock = some b ∨ vs1.ownBlock = some b) w M w1 M vs0 z1] (by kernel_rfl) Z (by kernel_rfl) (by kernel_rfl) hr1 ⟨(PEq.monoR _), (PEq.monoR _), (PEq.monoR _), (PEq.monoR _), (PEq.monoR _), (PA.monoR hr1.mem _ _), (PEq.monoR _), (PV.monoR hr1.mem _ _), (PV.monoR hr1.mem _ _), PApp.mono _ _ _ _ _ _ _ _ _ _, trivial⟩ ⟨?_, ?_, ?_, ?_, ?_, ?_, ?_, ?_, ?_, ?_, trivial⟩ ?_)
 ·
  intro w4 D hS1 hd1
  exact dg_sub (E' := [(1, (.pointer (some ⟨g, 0, none⟩)))]) ⟨Z, trivial⟩ (dg_plain Z (ow_move Z Z ⟨BX.refl _ _, Z⟩))
 ·
  intro w5 D hS2 hd2
  exact dg_sub (E' := [(1, (.pointer (some ⟨g, 0, none⟩)))]) ⟨Z, trivial⟩ (dg_plain Z (ow_move Z Z ⟨BX.refl _ _, Z⟩))
 ·
  intro w6 D hS3 hd3
  exact dg_sub (E' := [(5, (.pointer (some ⟨g, 0, none⟩)))]) ⟨(dpE hd3 1 Z Z), trivial⟩ (dg_plain Z (ow_nilCheck Z Z ⟨BX.refl _ _, Z⟩))
 ·
  intro w7 D hS4 hd4
  exact dg_sub (E' := [(6, (.pointer (some ⟨g, 0, none⟩)))]) ⟨(dpE hd4 2 Z Z), trivial⟩ (dg_plain Z (ow_fieldAddr Z Z Tryd.underlying103 Z (Tryd.sizeOf101 _) ⟨BX.refl _ _, Z⟩))
 ·
  intro w8 D hS5 hd5
  have ho8 := ho1.go hS5 (fun e => (orow_ne hr1 ho1 (by decide)) e)
  exact dg_sub (E' := [(7, (.pointer (some ⟨g, 0, none⟩)))]) ⟨(dpE hd5 3 Z Z), trivial⟩ (dg_plain Z (ow_loadOwn1 Z Z Z ho8 (Tryd.isAgg101 _) Z ⟨BX.refl _ _, Z⟩))
 ·
  intro w9 D hS6 hd6
  have hl9 := leR hr1 hS6
  exact dg_sub (E' := [(2, (.pointer (some p1)))]) ⟨Z, trivial⟩ (dg_plain Z (ow_fieldAddr Z Z Tryd.underlying141 Z (Tryd.sizeOf3 _) ⟨BX.refl _ _, ⟨_, Z, (ARep.mono hl9 (hp1.fld fld_calling_chain))⟩⟩))
 ·
  intro w10 D hS7 hd7
  have d4 : PA RInt M a_c.chain (D 5) w10 := dpA hd7 5 Z
  obtain ⟨p3, e1, ha1⟩ := d4
  refine dg_sub (E' := [(9, (.pointer (some p3)))]) ⟨(congrArg some e1), trivial⟩ (dg_plain Z (ow_load (R := RInt) Z Z ha1 (Tryd.sizeOf3 _) (Tryd.isAgg3 _) fun v3 hv3 => ?_))
  obtain rfl := vint_eq hv3
  exact ⟨BX.refl _ _, Z⟩
 ·
  intro w11 D hS8 hd8
  refine dg_sub (E' := [(10, (.int .i64 a_c.chain))]) ⟨(dpE hd8 6 Z Z), trivial⟩ (dg_plain Z (ow_build (v := .agg #[(.int .i64 a_c.chain), (.int .i64 0)]) Z Z (by kernel_rfl) ?_))
  have hw3 : VRep RPlace w11 M ({ chain := a_c.chain, next := 0 } : Place) (.agg #[(.int .i64 a_c.chain), (.int .i64 0)]) := shut_Place
  exact ⟨BX.refl _ _, hw3⟩
 ·
  intro w12 D hS9 hd9
  have hC12 := hC1.go hS9 hge0p
  have d6 : PV RPlace M ({ chain := a_c.chain, next := 0 } : Place) (D 7) w12 := dpA hd9 7 Z
  generalize hq1 : (D 7) = v4 at d6
  refine dg_sub (E' := [(11, v4)]) ⟨(congrArg some hq1), trivial⟩ ?_
  obtain rfl := open_Place d6
  exact dg_plain Z (ow_buildSlice (R := RPlace) (xs := [({ chain := a_c.chain, next := 0 } : Place)]) (cs := #[(.int .i64 ({ chain := a_c.chain, next := 0 } : Place).chain), (.int .i64 ({ chain := a_c.chain, next := 0 } : Place).next)]) (e := 123) Z Z (by kernel_rfl) Z Z ⟨_, _, Z, d6.cells, Z⟩ hC12 fun p4 w13 hw4 hb4 hl13 hC13 => ⟨hb4, hw4⟩)
 ·
  intro w14 D hS10 hd10
  obtain ⟨hS10, ho14⟩ := hS10
  have ho14 := ho14 Z
  have hl14 := leR hr1 hS10
  have hC14 := hC1.go hS10 hge0p
  have d8 : PV (RSlice RPlace) M [({ chain := a_c.chain, next := 0 } : Place)] (D 8) w14 := dpA hd10 8 Z
  generalize hq2 : (D 8) = v5 at d8
  exact dg_sub (E' := [(8, vs0), (12, v5)]) ⟨(dpE hd10 4 Z Z), (congrArg some hq2), trivial⟩ (dg_plain Z (ow_appendX (R := RPlace) (B := 0) Z Z Z Z Tryd.underlying101 hi123 hz123 hs123 hy123 Z Z Z Z ho14 d8 hz1 hC14 (Nat.zero_le _) hge0p fun v6 w15 M2 hr18 hb5 hl15 hC15 hM2 hat2 => ⟨⟨⟨hS10.trans hb5, fun h => absurd h (by decide)⟩, hb5⟩, M2, hr18, hS10.trans hb5, hl14.trans hl15, hC15, hM2, fun b e => hat2.elim (fun h => .inl (h ▸ e)) (fun h => .inr (by rw [h] at e; rw [← Option.some.inj e]; exact hS10.size))⟩))
 ·
  intro w16 D hS11 hd11
  have d18 : PApp RPlace 0 123 (fun b => b = g ∨ vs0.ownBlock = some b ∨ vs1.ownBlock = some b) w M w1 M vs0 z1 (D 9) w16 := dpA hd11 9 Z
  obtain ⟨M3, hr20, hb6, hl16, hC16, hM3, hat3⟩ := d18
  obtain ⟨v7, hq3⟩ : ∃ v, (D 9) = v := ⟨_, rfl⟩
  rw [hq3] at hr20 hat3
  have ho17 := ho1.go hb6 (fun e => (orow_ne hr1 ho1 (by decide)) e)
  have hm3 := hM3 _ hgM
  have hr21 := hr2.go hb6 (fun _ hk hu => orow_row_ne hr2 hr1 (by decide) hk hu) hl16 hM3
  have hge3 : ∀ b, v7.ownBlock = some b → w.heap.size ≤ b ∨ (fun b => b = g ∨ vs0.ownBlock = some b ∨ vs1.ownBlock = some b) b := fun b e => (hat3 b e).elim (fun h => hge0p b h) (fun h => .inl (Nat.le_trans hC1.bx.size h))
  refine lw_sub (E' := [(13, v7), (4, (.pointer (some ⟨g, 0, none⟩))), (1, (.pointer (some ⟨g, 0, none⟩))), (2, (.pointer (some p1)))]) ⟨(congrArg some hq3), (dpE hd11 0 Z Z), Z, Z, trivial⟩ (lw_op Z Z Z (ow_nilCheck Z Z (lw_op Z Z Z (ow_fieldAddr Z Z Tryd.underlying103 Z (Tryd.sizeOf101 _) ?_))))
  obtain ⟨A1, c1, rfl⟩ := hr20.len
  refine lw_op0 Z Z (ow_store (X := (fun b => b = g ∨ vs0.ownBlock = some b ∨ vs1.ownBlock = some b)) (us := [(.slice A1 z1.length c1)]) (cs' := #[(.slice A1 z1.length c1), vs1, (.int .i64 a_2c)]) Z Z Z Z ho17 (Tryd.sizeOf101 _) Z Z Z Z hm3 (.inr (.inl Z)) Z hC16 fun w17 ho18 hb7 hl17 hC17 => ?_)
  have hr22 := hr21.go hb7 (fun k hk e => (orow_ne hr21 ho17 (by decide)) (hk.trans (congrArg some e))) hl17 (fun _ h => h)
  have hr23 := hr20.go hb7 (fun k hk e => (orow_ne hr20 ho17 (by decide)) (hk.trans (congrArg some e))) hl17 (fun _ h => h)
  refine lw_nil ?_
  obtain rfl := Option.some.inj h
  exact ew_end (res0 Z) ⟨_, Z, Z, M3, (.slice A1 z1.length c1), vs1, ho18, hr23, hr22, hC17, hge3, hge1p⟩

theorem w_impl_returning_walk {w : World} {M : Nat → Prop} (hG : ARep (RArr 4 RShape) w M shapes ⟨0, 0, none⟩) (hO : ∀ b, M b → b < w.heap.size) {vs0 : Value} {a_0c : List Place} (hr0p : OwnRow RPlace 0 123 w M a_0c vs0) {vs1 : Value} {a_1c : List Visit} (hr1p : OwnRow RVisit 0 60 w M a_1c vs1) {a_2c : Int} {g : Nat} (hown : Own w g 103 #[vs0, vs1, (.int .i64 a_2c)]) (hgM : M g) {r : (List Place) × (List Visit) × Int} (h : F.impl_returning_walk a_0c a_1c a_2c = some r) :
  Calls Tryd.prog 139 [(.agg #[]), (.pointer (some ⟨g, 0, none⟩))].toArray w fun e w' => ∃ v, e = .returned v ∧ v = .tuple #[] ∧ ∃ (M' : Nat → Prop) (u0 : Value) (u1 : Value), Own w' g 103 #[u0, u1, .int .i64 r.2.2] ∧ OwnRow RPlace 0 123 w' M' r.1 u0 ∧ OwnRow RVisit 0 60 w' M' r.2.1 u1 ∧ Cx (fun b => b = g ∨ vs0.ownBlock = some b ∨ vs1.ownBlock = some b) w M w' M' ∧ (∀ b, u0.ownBlock = some b → w.heap.size ≤ b ∨ (fun b => b = g ∨ vs0.ownBlock = some b ∨ vs1.ownBlock = some b) b) ∧ (∀ b, u1.ownBlock = some b → w.heap.size ≤ b ∨ (fun b => b = g ∨ vs0.ownBlock = some b ∨ vs1.ownBlock = some b) b) := by
 have hX : ∀ b, (fun b => b = g ∨ vs0.ownBlock = some b ∨ vs1.ownBlock = some b) b → M b := fun b e => (e.elim (fun e => by rw [show b = g from e]; exact hgM) (fun e => (e.elim (fun e => hr0p.mem b e) (fun e => (hr1p.mem b e)))))
 have hC : Cx (fun b => b = g ∨ vs0.ownBlock = some b ∨ vs1.ownBlock = some b) w M w M := Cx.start hO hX
 have hge0p : ∀ b, vs0.ownBlock = some b → w.heap.size ≤ b ∨ (fun b => b = g ∨ vs0.ownBlock = some b ∨ vs1.ownBlock = some b) b := fun b e => .inr (.inr (.inl e))
 have hge1p : ∀ b, vs1.ownBlock = some b → w.heap.size ≤ b ∨ (fun b => b = g ∨ vs0.ownBlock = some b ∨ vs1.ownBlock = some b) b := fun b e => .inr (.inr (.inr e))
 refine walk (N := 6) Tryd.func139 Z Tryd.ntmps139 Z (cw_seq (cw_region (lw_op Z Z Z (ow_box (R := REmpty) (d := ()) Z Z vempty hC fun p1 w1 hp1 hb1 hl1 hC1 => ?_))))
 have ho1 := hown.no hb1
 have hr1 := hr0p.no hb1
 have hr2 := hr1p.no hb1
 refine lw_nil (ew_then (cw_region (lw_op Z Z Z (ow_move Z Z ?_))))
 replace h := bind_some h
 obtain ⟨x1, hx1, h⟩ := h
 refine lw_op Z Z Z (ow_call Z Z Tryd.call95 (w_impl_walk_leave (hG.mono hl1) hC1.old (hr1.base (Nat.zero_le _)) (hr2.base (Nat.zero_le _)) ho1 hgM hx1) fun v1 w2 hv1 => ?_)
 obtain ⟨hw1, M1, v2, v3, ho2, hr3, hr4, hk1, hge1, hge2⟩ := hv1
 have hY1 : ∀ b, (fun b => b = g ∨ (Value.ownBlock vs0) = some b ∨ (Value.ownBlock vs1) = some b) b → w.heap.size ≤ b ∨ (fun b => b = g ∨ vs0.ownBlock = some b ∨ vs1.ownBlock = some b) b := fun b e => (e.elim (fun e => by rw [show b = g from e]; exact (.inr (.inl Z))) (fun e => (e.elim (fun e => hge0p b e) (fun e => (hge1p b e)))))
 have hC2 := hC1.trans2 hk1 hY1
 have hge3 : ∀ b, (Value.ownBlock v2) = some b → w.heap.size ≤ b ∨ (fun b => b = g ∨ vs0.ownBlock = some b ∨ vs1.ownBlock = some b) b := fun b e => (hge1 b e).elim (fun h => .inl (Nat.le_trans hC1.bx.size h)) (hY1 b)
 have hge4 : ∀ b, (Value.ownBlock v3) = some b → w.heap.size ≤ b ∨ (fun b => b = g ∨ vs0.ownBlock = some b ∨ vs1.ownBlock = some b) b := fun b e => (hge2 b e).elim (fun h => .inl (Nat.le_trans hC1.bx.size h)) (hY1 b)
 subst hw1
 refine lw_nil ?_
 obtain rfl := Option.some.inj h
 exact ew_end (res0 Z) ⟨_, Z, Z, M1, v2, v3, ho2, hr3, hr4, hC2, hge3, hge4⟩

theorem w_impl_passing_walk {w : World} {M : Nat → Prop} (_hG : ARep (RArr 4 RShape) w M shapes ⟨0, 0, none⟩) (hO : ∀ b, M b → b < w.heap.size) {vs0 : Value} {a_0c : List Place} (hr0p : OwnRow RPlace 0 123 w M a_0c vs0) {vs1 : Value} {a_1c : List Visit} (hr1p : OwnRow RVisit 0 60 w M a_1c vs1) {a_2c : Int} {g : Nat} (hown : Own w g 103 #[vs0, vs1, (.int .i64 a_2c)]) (hgM : M g) {r : (List Place) × (List Visit) × Int} (h : F.impl_passing_walk a_0c a_1c a_2c = some r) :
  Calls Tryd.prog 142 [(.agg #[]), (.pointer (some ⟨g, 0, none⟩))].toArray w fun e w' => ∃ v, e = .returned v ∧ v = .tuple #[] ∧ ∃ (M' : Nat → Prop) (u0 : Value) (u1 : Value), Own w' g 103 #[u0, u1, .int .i64 r.2.2] ∧ OwnRow RPlace 0 123 w' M' r.1 u0 ∧ OwnRow RVisit 0 60 w' M' r.2.1 u1 ∧ Cx (fun b => b = g ∨ vs0.ownBlock = some b ∨ vs1.ownBlock = some b) w M w' M' ∧ (∀ b, u0.ownBlock = some b → w.heap.size ≤ b ∨ (fun b => b = g ∨ vs0.ownBlock = some b ∨ vs1.ownBlock = some b) b) ∧ (∀ b, u1.ownBlock = some b → w.heap.size ≤ b ∨ (fun b => b = g ∨ vs0.ownBlock = some b ∨ vs1.ownBlock = some b) b) := by
 have hX : ∀ b, (fun b => b = g ∨ vs0.ownBlock = some b ∨ vs1.ownBlock = some b) b → M b := fun b e => (e.elim (fun e => by rw [show b = g from e]; exact hgM) (fun e => (e.elim (fun e => hr0p.mem b e) (fun e => (hr1p.mem b e)))))
 have hC : Cx (fun b => b = g ∨ vs0.ownBlock = some b ∨ vs1.ownBlock = some b) w M w M := Cx.start hO hX
 have hge0p : ∀ b, vs0.ownBlock = some b → w.heap.size ≤ b ∨ (fun b => b = g ∨ vs0.ownBlock = some b ∨ vs1.ownBlock = some b) b := fun b e => .inr (.inr (.inl e))
 have hge1p : ∀ b, vs1.ownBlock = some b → w.heap.size ≤ b ∨ (fun b => b = g ∨ vs0.ownBlock = some b ∨ vs1.ownBlock = some b) b := fun b e => .inr (.inr (.inr e))
 clear _hG
 refine walk (N := 4) Tryd.func142 Z Tryd.ntmps142 Z (cw_region (lw_op Z Z Z (ow_box (R := REmpty) (d := ()) Z Z vempty hC fun p1 w1 hp1 hb1 hl1 hC1 => ?_)))
 have ho1 := hown.no hb1
 have hr1 := hr0p.no hb1
 have hr2 := hr1p.no hb1
 refine lw_nil ?_
 obtain rfl := Option.some.inj h
 exact ew_end (res0 Z) ⟨_, Z, Z, M, vs0, vs1, ho1, hr1, hr2, hC1, hge0p, hge1p⟩

theorem inv_walk {w : World} {M : Nat → Prop} (hG : ARep (RArr 4 RShape) w M shapes ⟨0, 0, none⟩) (hO : ∀ b, M b → b < w.heap.size) {vs0 : Value} {a_0c : List Place} (hr0p : OwnRow RPlace 0 123 w M a_0c vs0) {vs1 : Value} {a_1c : List Visit} (hr1p : OwnRow RVisit 0 60 w M a_1c vs1) {a_2c : Int} {g : Nat} (hown : Own w g 103 #[vs0, vs1, .int .i64 a_2c]) (hgM : M g) {act : Act_} {r : (List Place) × (List Visit) × Int} (h : F.invoke_walk act a_0c a_1c a_2c = some r) :
  ∃ (f : FuncId) (us : List Value), (callMethod (actV act) "loop.example/packetfilter/impl.walk" [(.pointer (some ⟨g, 0, none⟩))].toArray).run Tryd.prog w = .ok (.enter f us.toArray) w ∧ Calls Tryd.prog f us.toArray w fun e w' => ∃ v, e = .returned v ∧ v = .tuple #[] ∧ ∃ (M' : Nat → Prop) (u0 : Value) (u1 : Value), Own w' g 103 #[u0, u1, .int .i64 r.2.2] ∧ OwnRow RPlace 0 123 w' M' r.1 u0 ∧ OwnRow RVisit 0 60 w' M' r.2.1 u1 ∧ Cx (fun b => b = g ∨ vs0.ownBlock = some b ∨ vs1.ownBlock = some b) w M w' M' ∧ (∀ b, u0.ownBlock = some b → w.heap.size ≤ b ∨ (fun b => b = g ∨ vs0.ownBlock = some b ∨ vs1.ownBlock = some b) b) ∧ (∀ b, u1.ownBlock = some b → w.heap.size ≤ b ∨ (fun b => b = g ∨ vs0.ownBlock = some b ∨ vs1.ownBlock = some b) b) := by
 cases act with
 | deciding b => exact ⟨133, [(.agg #[.bool b]), (.pointer (some ⟨g, 0, none⟩))], by kernel_rfl, w_impl_deciding_walk hG hO shut_deciding hr0p hr1p hown hgM h⟩
 | calling b => exact ⟨136, [(.agg #[.int .i64 b]), (.pointer (some ⟨g, 0, none⟩))], by kernel_rfl, w_impl_calling_walk hG hO shut_calling hr0p hr1p hown hgM h⟩
 | returning => exact ⟨139, [(.agg #[]), (.pointer (some ⟨g, 0, none⟩))], by kernel_rfl, w_impl_returning_walk hG hO hr0p hr1p hown hgM h⟩
 | passing => exact ⟨142, [(.agg #[]), (.pointer (some ⟨g, 0, none⟩))], by kernel_rfl, w_impl_passing_walk hG hO hr0p hr1p hown hgM h⟩

theorem w_impl_walkThrough {w : World} {M : Nat → Prop} (hG : ARep (RArr 4 RShape) w M shapes ⟨0, 0, none⟩) (hO : ∀ b, M b → b < w.heap.size) {v0p : Value} {a_s : Ruleset} (h0 : VRep RRuleset w M a_s v0p) {v1p : Value} {a_p : Packet} (h1 : VRep RPacket w M a_p v1p) {r : Walk} (h : F.impl_walkThrough a_s a_p = some r) :
  Calls Tryd.prog 74 [v0p, v1p].toArray w fun e w' => ∃ v, e = .returned v ∧ (∃ p, v = .pointer (some p) ∧ ARep RWalk w' M r p) ∧ BX No w w' := by
 obtain ⟨i60, hi60, hz60, hs60, hy60⟩ := info60
 have hC : Cx No w M w M := Cx.start hO (fun _ e => e.elim)
 refine walk (N := 102) Tryd.func74 Z Tryd.ntmps74 Z (cw_seq (cw_region (lw_op Z Z Z (ow_box (R := RRuleset) Z Z h0 hC fun p1 w1 hp1 hb1 hl1 hC1 => lw_op Z Z Z (ow_box (R := RPacket) Z Z (VRep.mono hl1 h1) hC1 fun p2 w2 hp2 hb2 hl2 hC2 => lw_op Z Z Z (ow_assign Z Z (lw_nil (ew_then (cw_seq (cw_region (lw_op Z Z Z (ow_build (v := .agg #[(.int .i64 0), (.int .i64 0)]) Z Z (by kernel_rfl) ?_))))))))))))
 have hw1 : VRep RPlace w2 M ({ chain := 0, next := 0 } : Place) (.agg #[(.int .i64 0), (.int .i64 0)]) := shut_Place
 refine lw_op Z Z Z (ow_buildSliceOwn (R := RPlace) (xs := [({ chain := 0, next := 0 } : Place)]) (cs := #[(.int .i64 0), (.int .i64 0)]) (e := 123) Z Z (by kernel_rfl) Z Z ⟨_, _, Z, hw1.cells, Z⟩ hC2 fun p3 w3 M1 hr1 hb3 hl3 hC3 hM1 hat1 => lw_op Z Z Z (ow_build (v := .agg #[(.slice (some p3) 1 1), (.slice none 0 0), (.int .i64 5)]) Z Z (by kernel_rfl) (lw_op Z Z Z (ow_boxOwn Z Z hC3 fun g1 w4 hg1 hg2 ho1 hb4 hl4 hC4 => ?_))))
 have hr2 := hr1.add hb4 hg1
 have hm1 : (Add g1 M1) g1 := .inl Z
 refine lw_op Z Z Z (ow_assign Z Z (lw_nil (ew_then (cw_seq ?_))))
 have hr3 : OwnRow RVisit w.heap.size 60 w4 (Add g1 M1) ([] : List Visit) (.slice none 0 0) := ownrow_nil
 replace h := bind_some h
 obtain ⟨lr1, hlr1, h⟩ := h
 refine cw_for hlr1 (fun s a w' => ∃ (M' : Nat → Prop) (v0c : Value) (v1c : Value), Fits 102 [(2, (.pointer (some p1))), (3, (.pointer (some p2))), (5, (.pointer (some ⟨g1, 0, none⟩)))] a ∧ Le w4 (Add g1 M1) w' M' ∧ Cx No w M w' M' ∧ OwnRow RPlace w.heap.size 123 w' M' s.1 v0c ∧ OwnRow RVisit w.heap.size 60 w' M' s.2.1 v1c ∧ Own w' g1 103 #[v0c, v1c, (.int .i64 s.2.2)] ∧ M' g1) ?_ ?_ ?_
 ·
  intro a ha
  exact ⟨(Add g1 M1), (.slice (some p3) 1 1), (.slice none 0 0), ha.sub ⟨Z, Z, Z, trivial⟩, Le.refl _ _, hC4, hr2, hr3, ho1, hm1⟩
 ·
  rintro ⟨y1, y2, k1⟩ a w5 sr1 ⟨M2, v1, v2, hF1, hl5, hC5, hw2, hw3, ho2, hm2⟩ hb5 hR1
  refine cw_at (E := [(2, (.pointer (some p1))), (3, (.pointer (some p2))), (5, (.pointer (some ⟨g1, 0, none⟩)))]) hF1 (cw_seq (cw_seq (cw_region (lw_op Z Z Z (ow_move Z Z (lw_op Z Z Z (ow_nilCheck Z Z (lw_op Z Z Z (ow_fieldAddr Z Z Tryd.underlying103 Z (Tryd.sizeOf101 _) (lw_op Z Z Z (ow_loadOwn1 Z Z Z ho2 (Tryd.isAgg101 _) Z (lw_op Z Z Z (ow_lenOwn Z Z hw2 Tryd.underlying101 (lw_op Z Z Z (ow_gtr Z Z Z fun bb1 hbb1 => lw_op Z Z Z (ow_move Z Z ?_))))))))))))))))
  replace hb5 := cond_some hb5
  rcases hb5 with ⟨hc1, hb5⟩ | ⟨hc1, hb5⟩
  ·
   obtain rfl := hbb1.trans hc1
   refine lw_on Z Z Z Z Z Z (ow_move Z Z (lw_on Z Z Z Z Z Z (ow_nilCheck Z Z (lw_on Z Z Z Z Z Z (ow_fieldAddr Z Z Tryd.underlying103 Z (Tryd.sizeOf3 _) (lw_on Z Z Z Z Z Z (ow_loadOwn1 Z Z Z ho2 (Tryd.isAgg3 _) Z (lw_on Z Z Z Z Z Z (ow_eqlI Z Z Z fun bb2 hbb2 => lw_op Z Z Z (ow_pickT Z Z Z (lw_nil (ew_then ?_))))))))))))
   replace hb5 := cond_some hb5
   rcases hb5 with ⟨hc2, hb5⟩ | ⟨hc2, hb5⟩
   ·
    obtain rfl := hbb2.trans hc2
    refine cw_true Z (cw_skip (ew_then (cw_block (cw_seq ?_))))
    have lz1 := ((((hl1.trans hl2).trans hl3).trans hl4).trans hl5)
    have lz2 := (((hl2.trans hl3).trans hl4).trans hl5)
    have lz3 := ((hl3.trans hl4).trans hl5)
    refine cw_sub (E' := [(2, (.pointer (some p1))), (3, (.pointer (some p2))), (5, (.pointer (some ⟨g1, 0, none⟩)))]) ⟨Z, Z, Z, trivial⟩ (cw_drawQ 10 [PEq (.pointer (some ⟨g1, 0, none⟩)), PEq (.pointer (some ⟨g1, 0, none⟩)), PEq (.pointer (some ⟨g1, 0, none⟩)), PEq v1, PEq (.pointer (some ⟨g1, 0, none⟩)), PEq (.pointer (some ⟨g1, 0, none⟩)), PEq (.pointer (some ⟨g1, 0, none⟩)), PEq v1, PEq (.int .i64 (y1.length : Int)), PEq (.int .i64 (W ((y1.length : Int) - 1)))] (by kernel_rfl) Z (by kernel_rfl) ⟨PEq.mono _, PEq.mono _, PEq.mono _, PEq.mono _, PEq.mono _, PEq.mono _, PEq.mono _, PEq.mono _, PEq.mono _, PEq.mono _, trivial⟩ ⟨?_, ?_, ?_, ?_, ?_, ?_, ?_, ?_, ?_, ?_, trivial⟩ ?_)
    ·
     intro w6 D hS1 hd1
     exact dg_sub (E' := [(5, (.pointer (some ⟨g1, 0, none⟩)))]) ⟨Z, trivial⟩ (dg_plain Z (ow_move Z Z ⟨BX.refl _ _, Z⟩))
    ·
     intro w7 D hS2 hd2
     exact dg_sub (E' := [(26, (.pointer (some ⟨g1, 0, none⟩)))]) ⟨(dpE hd2 0 Z Z), trivial⟩ (dg_plain Z (ow_nilCheck Z Z ⟨BX.refl _ _, Z⟩))
    ·
     intro w8 D hS3 hd3
     exact dg_sub (E' := [(27, (.pointer (some ⟨g1, 0, none⟩)))]) ⟨(dpE hd3 1 Z Z), trivial⟩ (dg_plain Z (ow_fieldAddr Z Z Tryd.underlying103 Z (Tryd.sizeOf101 _) ⟨BX.refl _ _, Z⟩))
    ·
     intro w9 D hS4 hd4
     have ho6 := ho2.no hS4
     exact dg_sub (E' := [(28, (.pointer (some ⟨g1, 0, none⟩)))]) ⟨(dpE hd4 2 Z Z), trivial⟩ (dg_plain Z (ow_loadOwn1 Z Z Z ho6 (Tryd.isAgg101 _) Z ⟨BX.refl _ _, Z⟩))
    ·
     intro w10 D hS5 hd5
     exact dg_sub (E' := [(5, (.pointer (some ⟨g1, 0, none⟩)))]) ⟨Z, trivial⟩ (dg_plain Z (ow_move Z Z ⟨BX.refl _ _, Z⟩))
    ·
     intro w11 D hS6 hd6
     exact dg_sub (E' := [(30, (.pointer (some ⟨g1, 0, none⟩)))]) ⟨(dpE hd6 4 Z Z), trivial⟩ (dg_plain Z (ow_nilCheck Z Z ⟨BX.refl _ _, Z⟩))
    ·
     intro w12 D hS7 hd7
     exact dg_sub (E' := [(31, (.pointer (some ⟨g1, 0, none⟩)))]) ⟨(dpE hd7 5 Z Z), trivial⟩ (dg_plain Z (ow_fieldAddr Z Z Tryd.underlying103 Z (Tryd.sizeOf101 _) ⟨BX.refl _ _, Z⟩))
    ·
     intro w13 D hS8 hd8
     have ho10 := ho2.no hS8
     exact dg_sub (E' := [(32, (.pointer (some ⟨g1, 0, none⟩)))]) ⟨(dpE hd8 6 Z Z), trivial⟩ (dg_plain Z (ow_loadOwn1 Z Z Z ho10 (Tryd.isAgg101 _) Z ⟨BX.refl _ _, Z⟩))
    ·
     intro w14 D hS9 hd9
     have hr20 := hw2.no hS9
     exact dg_sub (E' := [(33, v1)]) ⟨(dpE hd9 7 Z Z), trivial⟩ (dg_plain Z (ow_lenOwn Z Z hr20 Tryd.underlying101 ⟨BX.refl _ _, Z⟩))
    ·
     intro w15 D hS10 hd10
     exact dg_sub (E' := [(34, (.int .i64 (y1.length : Int)))]) ⟨(dpE hd10 8 Z Z), trivial⟩ (dg_plain Z (ow_sub Z Z Z ⟨BX.refl _ _, Z⟩))
    ·
     intro w16 D hS11 hd11
     have hl16 := Le.no M2 hS11
     have hC16 := hC5.no hS11
     have ho13 := ho2.no hS11
     have hr24 := hw2.no hS11
     have hr25 := hw3.no hS11
     refine lw_sub (E' := [(29, v1), (35, (.int .i64 (W ((y1.length : Int) - 1)))), (2, (.pointer (some p1))), (3, (.pointer (some p2))), (5, (.pointer (some ⟨g1, 0, none⟩)))]) ⟨(dpE hd11 3 Z Z), (dpE hd11 9 Z Z), Z, Z, Z, trivial⟩ ?_
     replace hb5 := bind_some hb5
     obtain ⟨x1, hx1, hb5⟩ := hb5
     refine lw_op Z Z Z (ow_indexRow (R := RPlace) Z Z Z hr24 Tryd.underlying101 (Tryd.sizeOf123 _) hx1 (lw_op Z Z Z (ow_assign Z Z (lw_nil (ew_then (cw_seq ?_))))))
     have lz4 := (lz1.trans hl16)
     have lz5 := (lz2.trans hl16)
     have lz6 := (lz3.trans hl16)
     refine cw_sub (E' := [(2, (.pointer (some p1))), (3, (.pointer (some p2))), (5, (.pointer (some ⟨g1, 0, none⟩))), (6, (.pointer (some ⟨blk v1, ((W ((y1.length : Int) - 1)) : Int).toNat * RPlace.size + 0, none⟩)))]) ⟨Z, Z, Z, Z, trivial⟩ (cw_drawQ 6 [PA (RSlice (RSlice RRule)) M2 a_s.Chains, PV (RSlice (RSlice RRule)) M2 a_s.Chains, PEq (.pointer (some ⟨blk v1, ((W ((y1.length : Int) - 1)) : Int).toNat * RPlace.size + 0, none⟩)), PEq (.pointer (some ⟨blk v1, ((W ((y1.length : Int) - 1)) : Int).toNat * RPlace.size + 0, none⟩)), PEq (.pointer (some ⟨blk v1, ((W ((y1.length : Int) - 1)) : Int).toNat * RPlace.size + 0, none⟩)), PEq (.int .i64 x1.chain)] (by kernel_rfl) Z (by kernel_rfl) ⟨PA.mono _ _ _, PV.mono _ _ _, PEq.mono _, PEq.mono _, PEq.mono _, PEq.mono _, trivial⟩ ⟨?_, ?_, ?_, ?_, ?_, ?_, trivial⟩ ?_)
     ·
      intro w17 D hS12 hd12
      have hl17 := Le.no M2 hS12
      exact dg_sub (E' := [(2, (.pointer (some p1)))]) ⟨Z, trivial⟩ (dg_plain Z (ow_fieldAddr Z Z Tryd.underlying45 Z (Tryd.sizeOf43 _) ⟨BX.refl _ _, ⟨_, Z, (ARep.mono (lz5.trans hl17) (hp1.fld fld_Ruleset_Chains))⟩⟩))
     ·
      intro w18 D hS13 hd13
      have d19 : PA (RSlice (RSlice RRule)) M2 a_s.Chains (D 0) w18 := dpA hd13 0 Z
      obtain ⟨p4, e1, ha1⟩ := d19
      exact dg_sub (E' := [(37, (.pointer (some p4)))]) ⟨(congrArg some e1), trivial⟩ (dg_plain Z (ow_load (R := (RSlice (RSlice RRule))) Z Z ha1 (Tryd.sizeOf43 _) (Tryd.isAgg43 _) fun v6 hv6 => ⟨BX.refl _ _, hv6⟩))
     ·
      intro w19 D hS14 hd14
      exact dg_sub (E' := [(6, (.pointer (some ⟨blk v1, ((W ((y1.length : Int) - 1)) : Int).toNat * RPlace.size + 0, none⟩)))]) ⟨Z, trivial⟩ (dg_plain Z (ow_move Z Z ⟨BX.refl _ _, Z⟩))
     ·
      intro w20 D hS15 hd15
      exact dg_sub (E' := [(39, (.pointer (some ⟨blk v1, ((W ((y1.length : Int) - 1)) : Int).toNat * RPlace.size + 0, none⟩)))]) ⟨(dpE hd15 2 Z Z), trivial⟩ (dg_plain Z (ow_nilCheck Z Z ⟨BX.refl _ _, Z⟩))
     ·
      intro w21 D hS16 hd16
      exact dg_sub (E' := [(40, (.pointer (some ⟨blk v1, ((W ((y1.length : Int) - 1)) : Int).toNat * RPlace.size + 0, none⟩)))]) ⟨(dpE hd16 3 Z Z), trivial⟩ (dg_plain Z (ow_fieldAddr Z Z Tryd.underlying123 Z (Tryd.sizeOf3 _) ⟨BX.refl _ _, Z⟩))
     ·
      intro w22 D hS17 hd17
      have hr36 := hr24.no hS17
      refine dg_sub (E' := [(41, (.pointer (some ⟨blk v1, ((W ((y1.length : Int) - 1)) : Int).toNat * RPlace.size + 0, none⟩)))]) ⟨(dpE hd17 4 Z Z), trivial⟩ (dg_plain Z (ow_loadElRow (R := RPlace) (S := RInt) Z Z Z hr36 (orow_blk hr36 hx1) hx1 fld_Place_chain (Tryd.sizeOf3 _) (Tryd.isAgg3 _) fun v7 hv7 => ?_))
      obtain rfl := vint_eq hv7
      exact ⟨BX.refl _ _, Z⟩
     ·
      intro w23 D hS18 hd18
      have d24 : PV (RSlice (RSlice RRule)) M2 a_s.Chains (D 1) w23 := dpA hd18 1 Z
      have hl23 := Le.no M2 hS18
      have hC23 := hC16.no hS18
      have ho20 := ho13.no hS18
      have hr38 := hr24.no hS18
      have hr39 := hr25.no hS18
      generalize hq1 : (D 1) = v8 at d24
      refine lw_sub (E' := [(38, v8), (42, (.int .i64 x1.chain)), (2, (.pointer (some p1))), (3, (.pointer (some p2))), (5, (.pointer (some ⟨g1, 0, none⟩))), (6, (.pointer (some ⟨blk v1, ((W ((y1.length : Int) - 1)) : Int).toNat * RPlace.size + 0, none⟩)))]) ⟨(congrArg some hq1), (dpE hd18 5 Z Z), Z, Z, Z, Z, trivial⟩ ?_
      replace hb5 := bind_some hb5
      obtain ⟨x2, hx2, hb5⟩ := hb5
      refine lw_op Z Z Z (ow_indexSlice (R := (RSlice RRule)) Z Z Z d24 Tryd.underlying43 (Tryd.sizeOf36 _) hx2 fun p5 hp5 => lw_op Z Z Z (ow_load (R := (RSlice RRule)) Z Z hp5 (Tryd.sizeOf36 _) (Tryd.isAgg36 _) fun v9 hv9 => lw_op Z Z Z (ow_assign Z Z (lw_nil (ew_then (cw_seq (cw_seq (cw_region (lw_op Z Z Z (ow_move Z Z (lw_op Z Z Z (ow_nilCheck Z Z (lw_op Z Z Z (ow_fieldAddr Z Z Tryd.underlying123 Z (Tryd.sizeOf3 _) (lw_op Z Z Z (ow_loadElRow (R := RPlace) (S := RInt) Z Z Z hr38 (orow_blk hr38 hx1) hx1 fld_Place_next (Tryd.sizeOf3 _) (Tryd.isAgg3 _) fun v10 hv10 => ?_))))))))))))))))
      obtain rfl := vint_eq hv10
      refine lw_op Z Z Z (ow_move Z Z (lw_op Z Z Z (ow_len Z Z hv9 Tryd.underlying36 Z (lw_op Z Z Z (ow_eqlI Z Z Z fun bb3 hbb3 => lw_nil (ew_then ?_))))))
      replace hb5 := cond_some hb5
      rcases hb5 with ⟨hc3, hb5⟩ | ⟨hc3, hb5⟩
      ·
       obtain rfl := hbb3.trans hc3
       refine cw_true Z (cw_seq (cw_region (lw_op Z Z Z (ow_move Z Z ?_))))
       replace hb5 := bind_some hb5
       obtain ⟨x3, hx3, hb5⟩ := hb5
       refine lw_op Z Z Z (ow_call Z Z Tryd.call95 (w_impl_walk_leave (hG.mono (lz4.trans hl23)) hC23.old (hr38.base (Nat.zero_le _)) (hr39.base (Nat.zero_le _)) ho20 hm2 hx3) fun v11 w24 hv11 => ?_)
       obtain ⟨hw4, M3, v12, v13, ho21, hr40, hr41, hk1, hge1, hge2⟩ := hv11
       have hY1 : ∀ b, (fun b => b = g1 ∨ (Value.ownBlock v1) = some b ∨ (Value.ownBlock v2) = some b) b → w.heap.size ≤ b ∨ No b := fun b e => (e.elim (fun e => by rw [show b = g1 from e]; exact (.inl hg2)) (fun e => (e.elim (fun e => (fun b e => .inl (hr38.block e).1) b e) (fun e => ((fun b e => .inl (hr39.block e).1) b e)))))
       have hl24 := hk1.leY (fun b e => (e.elim (fun e => by rw [show b = g1 from e]; exact hm2) (fun e => (e.elim (fun e => hr38.mem b e) (fun e => (hr39.mem b e))))))
       have hC24 := hC23.trans2 hk1 hY1
       have hr42 := hr40.raise (B' := w.heap.size) (fun b e => (hge1 b e).elim (fun h => Nat.le_trans hC23.bx.size h) (fun e => (e.elim (fun e => by rw [show b = g1 from e]; exact hg2) (fun e => (e.elim (fun e => (hr38.block e).1) (fun e => ((hr39.block e).1)))))))
       have hr43 := hr41.raise (B' := w.heap.size) (fun b e => (hge2 b e).elim (fun h => Nat.le_trans hC23.bx.size h) (fun e => (e.elim (fun e => by rw [show b = g1 from e]; exact hg2) (fun e => (e.elim (fun e => (hr38.block e).1) (fun e => ((hr39.block e).1)))))))
       have hm3 := hk1.sup _ hm2
       subst hw4
       refine lw_nil (ew_then (cw_exit (ew_thenX (ew_blockX ?_))))
       have lz7 := (((hl5.trans hl16).trans hl23).trans hl24)
       exact ew_nxt (x3.1, x3.2.1, x3.2.2) hb5 fun a ha => ⟨M3, v12, v13, (ha.sub ⟨Z, Z, Z, trivial⟩), lz7, hC24, hr42, hr43, ho21, hm3⟩
      ·
       obtain rfl := hbb3.trans hc3
       refine cw_false Z (cw_skip (ew_then (cw_seq (cw_region (lw_op Z Z Z (ow_move Z Z (lw_op Z Z Z (ow_nilCheck Z Z (lw_op Z Z Z (ow_fieldAddr Z Z Tryd.underlying123 Z (Tryd.sizeOf3 _) (lw_op Z Z Z (ow_loadElRow (R := RPlace) (S := RInt) Z Z Z hr38 (orow_blk hr38 hx1) hx1 fld_Place_next (Tryd.sizeOf3 _) (Tryd.isAgg3 _) fun v14 hv14 => ?_))))))))))))
       obtain rfl := vint_eq hv14
       refine lw_op Z Z Z (ow_assign Z Z (lw_nil (ew_then (cw_seq (cw_region (lw_op Z Z Z (ow_move Z Z (lw_op Z Z Z (ow_nilCheck Z Z (lw_op Z Z Z (ow_fieldAddr Z Z Tryd.underlying123 Z (Tryd.sizeOf3 _) (lw_op Z Z Z (ow_loadElRow (R := RPlace) (S := RInt) Z Z Z hr38 (orow_blk hr38 hx1) hx1 fld_Place_next (Tryd.sizeOf3 _) (Tryd.isAgg3 _) fun v15 hv15 => ?_)))))))))))))
       obtain rfl := vint_eq hv15
       refine lw_op Z Z Z (ow_add Z Z Z (lw_op Z Z Z (ow_nilCheck Z Z (lw_op Z Z Z (ow_fieldAddr Z Z Tryd.underlying123 Z (Tryd.sizeOf3 _) (lw_op0 Z Z (ow_storeElRow (X := No) (R := RPlace) (S := RInt) Z Z Z Z hr38 (orow_blk hr38 hx1) hx1 set_Place_next (Tryd.sizeOf3 _) (vint _) (Nat.le_refl _) hC23 fun w25 ho22 hb8 hl25 hC25 => ?_)))))))
       have ho23 := ho20.go hb8 (fun e => (orow_ne hr38 ho20 (by decide)) (by rw [orow_blk hr38 hx1]; exact congrArg some e.symm))
       have hr44 := hr39.go hb8 (fun k hk e => orow_row_ne hr39 hr38 (by decide) hk (by rw [orow_blk hr38 hx1]; exact congrArg some e.symm)) hl25 (fun _ h => h)
       refine lw_nil (ew_then (cw_seq (cw_seq ?_)))
       replace hb5 := bind_some hb5
       obtain ⟨x4, hx4, hb5⟩ := hb5
       have lz8 := ((lz4.trans hl23).trans hl25)
       have lz10 := ((lz6.trans hl23).trans hl25)
       refine cw_sub (E' := [(2, (.pointer (some p1))), (3, (.pointer (some p2))), (5, (.pointer (some ⟨g1, 0, none⟩))), (6, (.pointer (some ⟨blk v1, ((W ((y1.length : Int) - 1)) : Int).toNat * RPlace.size + 0, none⟩))), (7, v9), (8, (.int .i64 x1.next))]) ⟨Z, Z, Z, Z, Z, Z, trivial⟩ (cw_drawQ 6 [PV (RSlice RRule) M2 x2, PEq (.int .i64 x1.next), PA RRule M2 x4, PA (RSlice RTest) M2 x4.Tests, PV (RSlice RTest) M2 x4.Tests, PV RPacket M2 a_p] (by kernel_rfl) Z (by kernel_rfl) ⟨PV.mono _ _ _, PEq.mono _, PA.mono _ _ _, PA.mono _ _ _, PV.mono _ _ _, PV.mono _ _ _, trivial⟩ ⟨?_, ?_, ?_, ?_, ?_, ?_, trivial⟩ ?_)
       ·
        intro w26 D hS19 hd19
        have hl26 := Le.no M2 hS19
        exact dg_sub (E' := [(7, v9)]) ⟨Z, trivial⟩ (dg_plain Z (ow_move Z Z ⟨BX.refl _ _, (VRep.mono (hl25.trans hl26) hv9)⟩))
       ·
        intro w27 D hS20 hd20
        exact dg_sub (E' := [(8, (.int .i64 x1.next))]) ⟨Z, trivial⟩ (dg_plain Z (ow_move Z Z ⟨BX.refl _ _, Z⟩))
       ·
        intro w28 D hS21 hd21
        have d29 : PV (RSlice RRule) M2 x2 (D 0) w28 := dpA hd21 0 Z
        generalize hq2 : (D 0) = v18 at d29
        exact dg_sub (E' := [(65, v18), (66, (.int .i64 x1.next))]) ⟨(congrArg some hq2), (dpE hd21 1 Z Z), trivial⟩ (dg_plain Z (ow_indexSlice (R := RRule) Z Z Z d29 Tryd.underlying36 (Tryd.sizeOf42 _) hx4 fun p7 hp7 => ⟨BX.refl _ _, ⟨_, Z, hp7⟩⟩))
       ·
        intro w29 D hS22 hd22
        have d31 : PA RRule M2 x4 (D 2) w29 := dpA hd22 2 Z
        obtain ⟨p8, e2, ha2⟩ := d31
        exact dg_sub (E' := [(67, (.pointer (some p8)))]) ⟨(congrArg some e2), trivial⟩ (dg_plain Z (ow_fieldAddr Z Z Tryd.underlying42 Z (Tryd.sizeOf27 _) ⟨BX.refl _ _, ⟨_, Z, (ha2.fld fld_Rule_Tests)⟩⟩))
       ·
        intro w30 D hS23 hd23
        have d32 : PA (RSlice RTest) M2 x4.Tests (D 3) w30 := dpA hd23 3 Z
        obtain ⟨p9, e3, ha3⟩ := d32
        exact dg_sub (E' := [(68, (.pointer (some p9)))]) ⟨(congrArg some e3), trivial⟩ (dg_plain Z (ow_load (R := (RSlice RTest)) Z Z ha3 (Tryd.sizeOf27 _) (Tryd.isAgg27 _) fun v19 hv19 => ⟨BX.refl _ _, hv19⟩))
       ·
        intro w31 D hS24 hd24
        have hl31 := Le.no M2 hS24
        exact dg_sub (E' := [(3, (.pointer (some p2)))]) ⟨Z, trivial⟩ (dg_plain Z (ow_load (R := RPacket) Z Z (ARep.mono (lz10.trans hl31) hp2) (Tryd.sizeOf38 _) (Tryd.isAgg38 _) fun v20 hv20 => ⟨BX.refl _ _, hv20⟩))
       ·
        intro w32 D hS25 hd25
        have d37 : PV (RSlice RTest) M2 x4.Tests (D 4) w32 := dpA hd25 4 Z
        have d38 : PV RPacket M2 a_p (D 5) w32 := dpA hd25 5 Z
        have hl32 := Le.no M2 hS25
        have hC32 := hC25.no hS25
        have ho30 := ho23.no hS25
        have hr57 := ho22.no hS25
        have hr58 := hr44.no hS25
        generalize hq3 : (D 4) = v21 at d37
        generalize hq4 : (D 5) = v22 at d38
        refine lw_sub (E' := [(69, v21), (70, v22), (2, (.pointer (some p1))), (3, (.pointer (some p2))), (5, (.pointer (some ⟨g1, 0, none⟩))), (6, (.pointer (some ⟨blk v1, ((W ((y1.length : Int) - 1)) : Int).toNat * RPlace.size + 0, none⟩))), (7, v9), (8, (.int .i64 x1.next))]) ⟨(congrArg some hq3), (congrArg some hq4), Z, Z, Z, Z, Z, Z, trivial⟩ ?_
        replace hb5 := bind_some hb5
        obtain ⟨x5, hx5, hb5⟩ := hb5
        refine lw_op Z Z Z (ow_call Z Z Tryd.call77 (w_impl_allHold (hG.mono (lz8.trans hl32)) hC32.old d37 d38 hx5) fun v23 w33 hv23 => ?_)
        obtain ⟨hv23, hb9⟩ := hv23
        have hl33 := Le.no M2 hb9
        have hC33 := hC32.no hb9
        have ho31 := ho30.no hb9
        have hr59 := hr57.no hb9
        have hr60 := hr58.no hb9
        obtain rfl := vbool_eq hv23
        refine lw_op Z Z Z (ow_not Z Z (lw_nil (ew_then ?_)))
        replace hb5 := cond_some hb5
        rcases hb5 with ⟨hc4, hb5⟩ | ⟨hc4, hb5⟩
        ·
         subst hc4
         refine cw_false Z (cw_skip (ew_then (cw_seq (cw_seq (cw_region (lw_op Z Z Z (ow_move Z Z (lw_op Z Z Z (ow_nilCheck Z Z (lw_op Z Z Z (ow_fieldAddr Z Z Tryd.underlying103 Z (Tryd.sizeOf57 _) (lw_op Z Z Z (ow_loadOwn1 Z Z Z ho31 (Tryd.isAgg57 _) Z (lw_op Z Z Z (ow_lenOwn Z Z hr60 Tryd.underlying57 (lw_op Z Z Z (ow_lss Z Z Z fun bb4 hbb4 => lw_nil (ew_then ?_))))))))))))))))))
         replace hb5 := cond_some hb5
         rcases hb5 with ⟨hc5, hb5⟩ | ⟨hc5, hb5⟩
         ·
          obtain rfl := hbb4.trans hc5
          refine cw_true Z ?_
          replace hb5 := bind_some hb5
          obtain ⟨x6, hx6, hb5⟩ := hb5
          replace hb5 := bind_some hb5
          obtain ⟨z1, hz1, hb5⟩ := hb5
          have lz11 := ((lz8.trans hl32).trans hl33)
          have lz14 := ((hl25.trans hl32).trans hl33)
          refine cw_sub (E' := [(2, (.pointer (some p1))), (3, (.pointer (some p2))), (5, (.pointer (some ⟨g1, 0, none⟩))), (6, (.pointer (some ⟨blk v1, ((W ((y1.length : Int) - 1)) : Int).toNat * RPlace.size + 0, none⟩))), (7, v9), (8, (.int .i64 x1.next))]) ⟨Z, Z, Z, Z, Z, Z, trivial⟩ (cw_drawR 13 [none, none, none, none, none, none, none, none, none, none, none, none, some 0] [PEq (.pointer (some ⟨g1, 0, none⟩)), PEq (.pointer (some ⟨g1, 0, none⟩)), PEq (.pointer (some ⟨g1, 0, none⟩)), PEq (.pointer (some ⟨g1, 1, none⟩)), PEq v2, PEq (.pointer (some ⟨blk v1, ((W ((y1.length : Int) - 1)) : Int).toNat * RPlace.size + 0, none⟩)), PEq (.pointer (some ⟨blk v1, ((W ((y1.length : Int) - 1)) : Int).toNat * RPlace.size + 0, none⟩)), PEq (.pointer (some ⟨blk v1, ((W ((y1.length : Int) - 1)) : Int).toNat * RPlace.size + 0, none⟩)), PEq (.int .i64 x6.chain), PEq (.int .i64 x1.next), PV RVisit M2 ({ Chain := x6.chain, Place := x1.next } : Visit), PV (RSlice RVisit) M2 [({ Chain := x6.chain, Place := x1.next } : Visit)], PApp RVisit w.heap.size 60 No w M w33 M2 v2 z1] (by kernel_rfl) Z (by kernel_rfl) (by kernel_rfl) hr60 ⟨(PEq.monoR _), (PEq.monoR _), (PEq.monoR _), (PEq.monoR _), (PEq.monoR _), (PEq.monoR _), (PEq.monoR _), (PEq.monoR _), (PEq.monoR _), (PEq.monoR _), (PV.monoR hr60.mem _ _), (PV.monoR hr60.mem _ _), PApp.mono _ _ _ _ _ _ _ _ _ _, trivial⟩ ⟨?_, ?_, ?_, ?_, ?_, ?_, ?_, ?_, ?_, ?_, ?_, ?_, ?_, trivial⟩ ?_)
          ·
           intro w36 D hS26 hd26
           exact dg_sub (E' := [(5, (.pointer (some ⟨g1, 0, none⟩)))]) ⟨Z, trivial⟩ (dg_plain Z (ow_move Z Z ⟨BX.refl _ _, Z⟩))
          ·
           intro w37 D hS27 hd27
           exact dg_sub (E' := [(5, (.pointer (some ⟨g1, 0, none⟩)))]) ⟨Z, trivial⟩ (dg_plain Z (ow_move Z Z ⟨BX.refl _ _, Z⟩))
          ·
           intro w38 D hS28 hd28
           exact dg_sub (E' := [(80, (.pointer (some ⟨g1, 0, none⟩)))]) ⟨(dpE hd28 1 Z Z), trivial⟩ (dg_plain Z (ow_nilCheck Z Z ⟨BX.refl _ _, Z⟩))
          ·
           intro w39 D hS29 hd29
           exact dg_sub (E' := [(81, (.pointer (some ⟨g1, 0, none⟩)))]) ⟨(dpE hd29 2 Z Z), trivial⟩ (dg_plain Z (ow_fieldAddr Z Z Tryd.underlying103 Z (Tryd.sizeOf57 _) ⟨BX.refl _ _, Z⟩))
          ·
           intro w40 D hS30 hd30
           have ho38 := ho31.go hS30 (fun e => (orow_ne hr60 ho31 (by decide)) e)
           exact dg_sub (E' := [(82, (.pointer (some ⟨g1, 1, none⟩)))]) ⟨(dpE hd30 3 Z Z), trivial⟩ (dg_plain Z (ow_loadOwn1 Z Z Z ho38 (Tryd.isAgg57 _) Z ⟨BX.refl _ _, Z⟩))
          ·
           intro w41 D hS31 hd31
           exact dg_sub (E' := [(6, (.pointer (some ⟨blk v1, ((W ((y1.length : Int) - 1)) : Int).toNat * RPlace.size + 0, none⟩)))]) ⟨Z, trivial⟩ (dg_plain Z (ow_move Z Z ⟨BX.refl _ _, Z⟩))
          ·
           intro w42 D hS32 hd32
           exact dg_sub (E' := [(84, (.pointer (some ⟨blk v1, ((W ((y1.length : Int) - 1)) : Int).toNat * RPlace.size + 0, none⟩)))]) ⟨(dpE hd32 5 Z Z), trivial⟩ (dg_plain Z (ow_nilCheck Z Z ⟨BX.refl _ _, Z⟩))
          ·
           intro w43 D hS33 hd33
           exact dg_sub (E' := [(85, (.pointer (some ⟨blk v1, ((W ((y1.length : Int) - 1)) : Int).toNat * RPlace.size + 0, none⟩)))]) ⟨(dpE hd33 6 Z Z), trivial⟩ (dg_plain Z (ow_fieldAddr Z Z Tryd.underlying123 Z (Tryd.sizeOf3 _) ⟨BX.refl _ _, Z⟩))
          ·
           intro w44 D hS34 hd34
           have hl44 := leR hr60 hS34
           have hr73 := hr59.go hS34 (fun _ hk hu => orow_row_ne hr59 hr60 (by decide) hk hu) hl44 (fun _ h => h)
           refine dg_sub (E' := [(86, (.pointer (some ⟨blk v1, ((W ((y1.length : Int) - 1)) : Int).toNat * RPlace.size + 0, none⟩)))]) ⟨(dpE hd34 7 Z Z), trivial⟩ (dg_plain Z (ow_loadElRow (R := RPlace) (S := RInt) Z Z Z hr73 (orow_blk hr73 hx6) hx6 fld_Place_chain (Tryd.sizeOf3 _) (Tryd.isAgg3 _) fun v26 hv26 => ?_))
           obtain rfl := vint_eq hv26
           exact ⟨BX.refl _ _, Z⟩
          ·
           intro w45 D hS35 hd35
           exact dg_sub (E' := [(8, (.int .i64 x1.next))]) ⟨Z, trivial⟩ (dg_plain Z (ow_move Z Z ⟨BX.refl _ _, Z⟩))
          ·
           intro w46 D hS36 hd36
           refine dg_sub (E' := [(87, (.int .i64 x6.chain)), (88, (.int .i64 x1.next))]) ⟨(dpE hd36 8 Z Z), (dpE hd36 9 Z Z), trivial⟩ (dg_plain Z (ow_build (v := .agg #[(.int .i64 x6.chain), (.int .i64 x1.next)]) Z Z (by kernel_rfl) ?_))
           have hw7 : VRep RVisit w46 M2 ({ Chain := x6.chain, Place := x1.next } : Visit) (.agg #[(.int .i64 x6.chain), (.int .i64 x1.next)]) := shut_Visit
           exact ⟨BX.refl _ _, hw7⟩
          ·
           intro w47 D hS37 hd37
           have hC47 := hC33.go hS37 (fun b e => .inl (hr60.block e).1)
           have d47 : PV RVisit M2 ({ Chain := x6.chain, Place := x1.next } : Visit) (D 10) w47 := dpA hd37 10 Z
           generalize hq5 : (D 10) = v27 at d47
           refine dg_sub (E' := [(89, v27)]) ⟨(congrArg some hq5), trivial⟩ ?_
           obtain rfl := open_Visit d47
           exact dg_plain Z (ow_buildSlice (R := RVisit) (xs := [({ Chain := x6.chain, Place := x1.next } : Visit)]) (cs := #[(.int .i64 ({ Chain := x6.chain, Place := x1.next } : Visit).Chain), (.int .i64 ({ Chain := x6.chain, Place := x1.next } : Visit).Place)]) (e := 60) Z Z (by kernel_rfl) Z Z ⟨_, _, Z, d47.cells, Z⟩ hC47 fun p11 w48 hw8 hb12 hl48 hC48 => ⟨hb12, hw8⟩)
          ·
           intro w49 D hS38 hd38
           obtain ⟨hS38, ho47⟩ := hS38
           have ho47 := ho47 Z
           have hl49 := leR hr60 hS38
           have hC49 := hC33.go hS38 (fun b e => .inl (hr60.block e).1)
           have d49 : PV (RSlice RVisit) M2 [({ Chain := x6.chain, Place := x1.next } : Visit)] (D 11) w49 := dpA hd38 11 Z
           generalize hq6 : (D 11) = v28 at d49
           exact dg_sub (E' := [(83, v2), (90, v28)]) ⟨(dpE hd38 4 Z Z), (congrArg some hq6), trivial⟩ (dg_plain Z (ow_append (R := RVisit) Z Z Z Z Tryd.underlying57 hi60 hz60 hs60 hy60 Z Z Z Z ho47 d49 hz1 hC49 fun v29 w50 M5 hr79 hb13 hl50 hC50 hM3 hat3 => ⟨⟨⟨hS38.trans hb13, fun h => absurd h (by decide)⟩, hb13⟩, M5, hr79, hS38.trans hb13, hl49.trans hl50, hC50, hM3, fun b e => hat3.elim (fun h => .inl (h ▸ e)) (fun h => .inr (by rw [h] at e; rw [← Option.some.inj e]; exact hS38.size))⟩))
          ·
           intro w51 D hS39 hd39
           have d62 : PApp RVisit w.heap.size 60 No w M w33 M2 v2 z1 (D 12) w51 := dpA hd39 12 Z
           obtain ⟨M6, hr81, hb14, hl51, hC51, hM4, hat4⟩ := d62
           obtain ⟨v30, hq7⟩ : ∃ v, (D 12) = v := ⟨_, rfl⟩
           rw [hq7] at hr81 hat4
           have ho50 := ho31.go hb14 (fun e => (orow_ne hr60 ho31 (by decide)) e)
           have hm6 := hM4 _ hm2
           have hr82 := hr59.go hb14 (fun _ hk hu => orow_row_ne hr59 hr60 (by decide) hk hu) hl51 hM4
           refine lw_sub (E' := [(91, v30), (79, (.pointer (some ⟨g1, 0, none⟩))), (2, (.pointer (some p1))), (3, (.pointer (some p2))), (5, (.pointer (some ⟨g1, 0, none⟩))), (6, (.pointer (some ⟨blk v1, ((W ((y1.length : Int) - 1)) : Int).toNat * RPlace.size + 0, none⟩))), (7, v9), (8, (.int .i64 x1.next))]) ⟨(congrArg some hq7), (dpE hd39 0 Z Z), Z, Z, Z, Z, Z, Z, trivial⟩ (lw_op Z Z Z (ow_nilCheck Z Z (lw_op Z Z Z (ow_fieldAddr Z Z Tryd.underlying103 Z (Tryd.sizeOf57 _) ?_))))
           obtain ⟨A1, c1, rfl⟩ := hr81.len
           refine lw_op0 Z Z (ow_store (X := No) (us := [(.slice A1 z1.length c1)]) (cs' := #[v1, (.slice A1 z1.length c1), (.int .i64 k1)]) Z Z Z Z ho50 (Tryd.sizeOf57 _) Z Z Z Z hm6 (.inl hg2) Z hC51 fun w52 ho51 hb15 hl52 hC52 => ?_)
           have hr83 := hr82.go hb15 (fun k hk e => (orow_ne hr82 ho50 (by decide)) (hk.trans (congrArg some e))) hl52 (fun _ h => h)
           have hr84 := hr81.go hb15 (fun k hk e => (orow_ne hr81 ho50 (by decide)) (hk.trans (congrArg some e))) hl52 (fun _ h => h)
           refine lw_nil (ew_then (cw_region (lw_op Z Z Z (ow_move Z Z (lw_op Z Z Z (ow_move Z Z ?_))))))
           have lz15 := ((lz14.trans hl51).trans hl52)
           refine lw_op Z Z Z (ow_indexSlice (R := RRule) Z Z Z (VRep.mono lz15 hv9) Tryd.underlying36 (Tryd.sizeOf42 _) hx4 fun p12 hp12 => lw_op Z Z Z (ow_load (R := RRule) Z Z hp12 (Tryd.sizeOf42 _) (Tryd.isAgg42 _) fun v31 hv31 => ?_))
           replace hb5 := bind_some hb5
           obtain ⟨x7, hx7, hb5⟩ := hb5
           have lz16 := ((lz11.trans hl51).trans hl52)
           refine lw_op Z Z Z (ow_call Z Z Tryd.call96 (w_impl_actionOf (hG.mono lz16) hC52.old hv31 hx7) fun v32 w53 hv32 => ?_)
           obtain ⟨rfl, hb16⟩ := hv32
           have hl53 := Le.no M6 hb16
           have hC53 := hC52.no hb16
           have ho52 := ho51.no hb16
           have hr85 := hr83.no hb16
           have hr86 := hr84.no hb16
           refine lw_op Z Z Z (ow_move Z Z ?_)
           replace hb5 := bind_some hb5
           obtain ⟨x8, hx8, hb5⟩ := hb5
           obtain ⟨mf1, mu1, hm7, hcl1⟩ := inv_walk (hG.mono (lz16.trans hl53)) hC53.old (hr85.base (Nat.zero_le _)) (hr86.base (Nat.zero_le _)) ho52 hm6 hx8
           refine lw_op Z Z Z (ow_invoke Z Z Z hm7 hcl1 fun v33 w54 hv1 => ?_)
           obtain ⟨hw9, M7, v34, v35, ho53, hr87, hr88, hk2, hge3, hge4⟩ := hv1
           have hY2 : ∀ b, (fun b => b = g1 ∨ (Value.ownBlock v1) = some b ∨ (Value.ownBlock (.slice A1 z1.length c1)) = some b) b → w.heap.size ≤ b ∨ No b := fun b e => (e.elim (fun e => by rw [show b = g1 from e]; exact (.inl hg2)) (fun e => (e.elim (fun e => (fun b e => .inl (hr85.block e).1) b e) (fun e => ((fun b e => .inl (hr86.block e).1) b e)))))
           have hl54 := hk2.leY (fun b e => (e.elim (fun e => by rw [show b = g1 from e]; exact hm6) (fun e => (e.elim (fun e => hr85.mem b e) (fun e => (hr86.mem b e))))))
           have hC54 := hC53.trans2 hk2 hY2
           have hr89 := hr87.raise (B' := w.heap.size) (fun b e => (hge3 b e).elim (fun h => Nat.le_trans hC53.bx.size h) (fun e => (e.elim (fun e => by rw [show b = g1 from e]; exact hg2) (fun e => (e.elim (fun e => (hr85.block e).1) (fun e => ((hr86.block e).1)))))))
           have hr90 := hr88.raise (B' := w.heap.size) (fun b e => (hge4 b e).elim (fun h => Nat.le_trans hC53.bx.size h) (fun e => (e.elim (fun e => by rw [show b = g1 from e]; exact hg2) (fun e => (e.elim (fun e => (hr85.block e).1) (fun e => ((hr86.block e).1)))))))
           have hm8 := hk2.sup _ hm6
           subst hw9
           refine lw_nil (ew_blockN ?_)
           have lz17 := (((((((((hl5.trans hl16).trans hl23).trans hl25).trans hl32).trans hl33).trans hl51).trans hl52).trans hl53).trans hl54)
           exact ew_nxt (x8.1, x8.2.1, x8.2.2) hb5 fun a ha => ⟨M7, v34, v35, (ha.sub ⟨Z, Z, Z, trivial⟩), lz17, hC54, hr89, hr90, ho53, hm8⟩
         ·
          obtain rfl := hbb4.trans hc5
          refine cw_false Z (cw_skip (ew_then (cw_region (lw_op Z Z Z (ow_move Z Z (lw_op Z Z Z (ow_move Z Z ?_)))))))
          have lz18 := ((hl25.trans hl32).trans hl33)
          refine lw_op Z Z Z (ow_indexSlice (R := RRule) Z Z Z (VRep.mono lz18 hv9) Tryd.underlying36 (Tryd.sizeOf42 _) hx4 fun p13 hp13 => lw_op Z Z Z (ow_load (R := RRule) Z Z hp13 (Tryd.sizeOf42 _) (Tryd.isAgg42 _) fun v36 hv36 => ?_))
          replace hb5 := bind_some hb5
          obtain ⟨x9, hx9, hb5⟩ := hb5
          have lz19 := ((lz8.trans hl32).trans hl33)
          refine lw_op Z Z Z (ow_call Z Z Tryd.call96 (w_impl_actionOf (hG.mono lz19) hC33.old hv36 hx9) fun v37 w55 hv37 => ?_)
          obtain ⟨rfl, hb18⟩ := hv37
          have hl55 := Le.no M2 hb18
          have hC55 := hC33.no hb18
          have ho54 := ho31.no hb18
          have hr91 := hr59.no hb18
          have hr92 := hr60.no hb18
          refine lw_op Z Z Z (ow_move Z Z ?_)
          replace hb5 := bind_some hb5
          obtain ⟨x10, hx10, hb5⟩ := hb5
          obtain ⟨mf2, mu2, hm9, hcl2⟩ := inv_walk (hG.mono (lz19.trans hl55)) hC55.old (hr91.base (Nat.zero_le _)) (hr92.base (Nat.zero_le _)) ho54 hm2 hx10
          refine lw_op Z Z Z (ow_invoke Z Z Z hm9 hcl2 fun v38 w56 hv2 => ?_)
          obtain ⟨hw10, M8, v39, v40, ho55, hr93, hr94, hk3, hge5, hge6⟩ := hv2
          have hY3 : ∀ b, (fun b => b = g1 ∨ (Value.ownBlock v1) = some b ∨ (Value.ownBlock v2) = some b) b → w.heap.size ≤ b ∨ No b := fun b e => (e.elim (fun e => by rw [show b = g1 from e]; exact (.inl hg2)) (fun e => (e.elim (fun e => (fun b e => .inl (hr91.block e).1) b e) (fun e => ((fun b e => .inl (hr92.block e).1) b e)))))
          have hl56 := hk3.leY (fun b e => (e.elim (fun e => by rw [show b = g1 from e]; exact hm2) (fun e => (e.elim (fun e => hr91.mem b e) (fun e => (hr92.mem b e))))))
          have hC56 := hC55.trans2 hk3 hY3
          have hr95 := hr93.raise (B' := w.heap.size) (fun b e => (hge5 b e).elim (fun h => Nat.le_trans hC55.bx.size h) (fun e => (e.elim (fun e => by rw [show b = g1 from e]; exact hg2) (fun e => (e.elim (fun e => (hr91.block e).1) (fun e => ((hr92.block e).1)))))))
          have hr96 := hr94.raise (B' := w.heap.size) (fun b e => (hge6 b e).elim (fun h => Nat.le_trans hC55.bx.size h) (fun e => (e.elim (fun e => by rw [show b = g1 from e]; exact hg2) (fun e => (e.elim (fun e => (hr91.block e).1) (fun e => ((hr92.block e).1)))))))
          have hm10 := hk3.sup _ hm2
          subst hw10
          refine lw_nil (ew_blockN ?_)
          have lz20 := (((((((hl5.trans hl16).trans hl23).trans hl25).trans hl32).trans hl33).trans hl55).trans hl56)
          exact ew_nxt (x10.1, x10.2.1, x10.2.2) hb5 fun a ha => ⟨M8, v39, v40, (ha.sub ⟨Z, Z, Z, trivial⟩), lz20, hC56, hr95, hr96, ho55, hm10⟩
        ·
         subst hc4
         refine cw_true Z (cw_exit (ew_thenX (ew_blockX ?_)))
         have lz21 := (((((hl5.trans hl16).trans hl23).trans hl25).trans hl32).trans hl33)
         exact ew_nxt ((List.set y1 ((W ((y1.length : Int) - 1)) : Int).toNat { x1 with next := (W (x1.next + 1)) }), y2, k1) hb5 fun a ha => ⟨M2, v1, v2, (ha.sub ⟨Z, Z, Z, trivial⟩), lz21, hC33, hr59, hr60, ho31, hm2⟩
   ·
    obtain rfl := hbb2.trans hc2
    exact cw_false Z (cw_exit (ew_thenX (ew_thenX (ew_blockX (ew_brk (y1, y2, k1) hb5 fun a ha => ⟨M2, v1, v2, (ha.sub ⟨Z, Z, Z, trivial⟩), hl5, hC5, hw2, hw3, ho2, hm2⟩)))))
  ·
   obtain rfl := hbb1.trans hc1
   exact lw_off Z Z Z Z Z Z (lw_off Z Z Z Z Z Z (lw_off Z Z Z Z Z Z (lw_off Z Z Z Z Z Z (lw_off Z Z Z Z Z Z (lw_op Z Z Z (ow_pickF Z Z Z (lw_nil (ew_then (cw_false Z (cw_exit (ew_thenX (ew_thenX (ew_blockX (ew_brk (y1, y2, k1) hb5 fun a ha => ⟨M2, v1, v2, (ha.sub ⟨Z, Z, Z, trivial⟩), hl5, hC5, hw2, hw3, ho2, hm2⟩))))))))))))))
 ·
  rintro ⟨y3, y4, k2⟩ a w57 hlr2 ⟨M9, v41, v42, hF2, hl57, hC57, hw11, hw12, ho56, hm11⟩
  subst hlr2
  refine ew_at (E := [(2, (.pointer (some p1))), (3, (.pointer (some p2))), (5, (.pointer (some ⟨g1, 0, none⟩)))]) hF2 (ew_then (cw_seq (cw_region (lw_op Z Z Z (ow_move Z Z (lw_op Z Z Z (ow_assign Z Z (lw_nil (ew_then (cw_ret ?_))))))))))
  have hw13 := hw11.freezeDel
  have hC58 := hw11.cxDel hC57 (fun _ e => e.elim) hO
  have hr97 := hw12.goDel hw11 (by decide)
  have hw14 := hr97.freezeDel
  have hC59 := hr97.cxDel hC58 (fun _ e => e.elim) hO
  have hl59 := Le.del w57 (Del v41 M9) v42
  obtain ⟨A2, c2, rfl, -⟩ := vslice_shape hw13
  obtain ⟨A3, c3, rfl, -⟩ := vslice_shape hw14
  have hw15 : VRep RWalk w57 (Del (.slice A3 y4.length c3) (Del (.slice A2 y3.length c2) M9)) ({ stack := y3, visits := y4, decision := k2 } : Walk) (.agg #[(.slice A2 y3.length c2), (.slice A3 y4.length c3), (.int .i64 k2)]) := shut_Walk (VRep.mono hl59 hw13) hw14
  obtain rfl := Option.some.inj h
  exact ew_ret (res1 Z (.tmp Z)) ⟨_, Z, ⟨_, Z, Own.arep ho56 (hw15.mono hC59.back).cells (fun h => Nat.lt_irrefl _ (Nat.lt_of_lt_of_le (hO _ h) hg2))⟩, hC59.bx⟩

theorem w_impl_JudgeTrace {w : World} {M : Nat → Prop} (hG : ARep (RArr 4 RShape) w M shapes ⟨0, 0, none⟩) (hO : ∀ b, M b → b < w.heap.size) {v0p : Value} {a_s : Ruleset} (h0 : VRep RRuleset w M a_s v0p) {v1p : Value} {a_p : Packet} (h1 : VRep RPacket w M a_p v1p) {r : (List Visit)} (h : F.impl_JudgeTrace a_s a_p = some r) :
  Calls Tryd.prog 37 [v0p, v1p].toArray w fun e w' => ∃ v, e = .returned v ∧ VRep (RSlice RVisit) w' M r v ∧ BX No w w' := by
 have hC : Cx No w M w M := Cx.start hO (fun _ e => e.elim)
 refine walk (N := 21) Tryd.func37 Z Tryd.ntmps37 Z (cw_seq (cw_region (lw_op Z Z Z (ow_box (R := RRuleset) Z Z h0 hC fun p1 w1 hp1 hb1 hl1 hC1 => lw_op Z Z Z (ow_box (R := RPacket) Z Z (VRep.mono hl1 h1) hC1 fun p2 w2 hp2 hb2 hl2 hC2 => lw_op Z Z Z (ow_assign Z Z (lw_nil (ew_then (cw_seq (cw_seq (cw_region (lw_op Z Z Z (ow_load (R := RRuleset) Z Z (ARep.mono hl2 hp1) (Tryd.sizeOf45 _) (Tryd.isAgg45 _) fun v1 hv1 => ?_)))))))))))))
 replace h := bind_some h
 obtain ⟨x1, hx1, h⟩ := h
 refine lw_op Z Z Z (ow_call Z Z Tryd.call25 (w_impl_RulesetValid (hG.mono (hl1.trans hl2)) hC2.old hv1 hx1) fun v2 w3 hv2 => ?_)
 obtain ⟨hv2, hb3⟩ := hv2
 have hl3 := Le.no M hb3
 have hC3 := hC2.no hb3
 obtain rfl := vbool_eq hv2
 refine lw_op Z Z Z (ow_not Z Z (lw_op Z Z Z (ow_move Z Z ?_)))
 replace h := cond_some h
 rcases h with ⟨hc1, h⟩ | ⟨hc1, h⟩
 ·
  subst hc1
  refine lw_on Z Z Z Z Z Z (ow_load (R := RPacket) Z Z (ARep.mono hl3 hp2) (Tryd.sizeOf38 _) (Tryd.isAgg38 _) fun v3 hv3 => ?_)
  replace h := bind_some h
  obtain ⟨x2, hx2, h⟩ := h
  have lz1 := ((hl1.trans hl2).trans hl3)
  refine lw_on Z Z Z Z Z Z (ow_call Z Z Tryd.call62 (w_impl_PacketValid (hG.mono lz1) hC3.old hv3 hx2) fun v4 w4 hv4 => ?_)
  obtain ⟨hv4, hb4⟩ := hv4
  have hl4 := Le.no M hb4
  have hC4 := hC3.no hb4
  obtain rfl := vbool_eq hv4
  refine lw_on Z Z Z Z Z Z (ow_not Z Z (lw_op Z Z Z (ow_pickF Z Z Z (lw_nil (ew_then ?_)))))
  replace h := cond_some h
  rcases h with ⟨hc2, h⟩ | ⟨hc2, h⟩
  ·
   subst hc2
   refine cw_false Z (cw_skip (ew_then (cw_seq (cw_region ?_))))
   have lz2 := ((hl2.trans hl3).trans hl4)
   refine lw_op Z Z Z (ow_load (R := RRuleset) Z Z (ARep.mono lz2 hp1) (Tryd.sizeOf45 _) (Tryd.isAgg45 _) fun v5 hv5 => lw_op Z Z Z (ow_load (R := RPacket) Z Z (ARep.mono (hl3.trans hl4) hp2) (Tryd.sizeOf38 _) (Tryd.isAgg38 _) fun v6 hv6 => ?_))
   replace h := bind_some h
   obtain ⟨x3, hx3, h⟩ := h
   refine lw_op Z Z Z (ow_call Z Z Tryd.call74 (w_impl_walkThrough (hG.mono (lz1.trans hl4)) hC4.old hv5 hv6 hx3) fun v7 w5 hv7 => ?_)
   obtain ⟨⟨p3, rfl, hpw1⟩, hb5⟩ := hv7
   have hC5 := hC4.no hb5
   refine lw_op Z Z Z (ow_assign Z Z (lw_nil (ew_then (cw_seq (cw_region (lw_op Z Z Z (ow_move Z Z (lw_op Z Z Z (ow_nilCheck Z Z (lw_op Z Z Z (ow_fieldAddr Z Z Tryd.underlying103 Z (Tryd.sizeOf57 _) (lw_op Z Z Z (ow_load (R := (RSlice RVisit)) Z Z (hpw1.fld fld_Walk_visits) (Tryd.sizeOf57 _) (Tryd.isAgg57 _) fun v8 hv8 => lw_op Z Z Z (ow_assign Z Z (lw_nil (ew_then (cw_ret ?_)))))))))))))))))
   obtain rfl := Option.some.inj h
   exact ew_ret (res1 Z (.tmp Z)) ⟨_, Z, (VRep.mono hC5.back hv8), hC5.bx⟩
  ·
   subst hc2
   refine cw_true Z (cw_seq (cw_region (lw_op Z Z Z (ow_assign Z Z (lw_nil (ew_then (cw_ret (ew_thenR ?_))))))))
   obtain rfl := Option.some.inj h
   exact ew_ret (res1 Z (.tmp Z)) ⟨_, Z, (VRep.mono hC4.back (vslice_nil (R := RVisit) (w := w4) (M := M))), hC4.bx⟩
 ·
  subst hc1
  refine lw_off Z Z Z Z Z Z (lw_off Z Z Z Z Z Z (lw_off Z Z Z Z Z Z (lw_op Z Z Z (ow_pickT Z Z Z (lw_nil (ew_then (cw_true Z (cw_seq (cw_region (lw_op Z Z Z (ow_assign Z Z (lw_nil (ew_then (cw_ret (ew_thenR ?_)))))))))))))))
  obtain rfl := Option.some.inj h
  exact ew_ret (res1 Z (.tmp Z)) ⟨_, Z, (VRep.mono hC3.back (vslice_nil (R := RVisit) (w := w3) (M := M))), hC3.bx⟩

theorem w_laws_FnChainsUsed {w : World} {M : Nat → Prop} (hG : ARep (RArr 4 RShape) w M shapes ⟨0, 0, none⟩) (hO : ∀ b, M b → b < w.heap.size) {v0p : Value} {a_code : List Int} (h0 : VRep (RSlice RU8) w M a_code v0p) {r : Bool} (h : F.laws_FnChainsUsed a_code = some r) :
  Calls Tryd.prog 8 [v0p].toArray w fun e w' => ∃ v, e = .returned v ∧ VRep RBool w' M r v ∧ BX No w w' := by
 obtain ⟨i4, hi4, hz4, hs4, hy4⟩ := info4
 have hC : Cx No w M w M := Cx.start hO (fun _ e => e.elim)
 refine walk (N := 138) Tryd.func8 Z Tryd.ntmps8 Z (cw_seq (cw_region (lw_op Z Z Z (ow_assign Z Z (lw_nil (ew_then (cw_seq (cw_seq (cw_region (lw_op Z Z Z (ow_move Z Z (lw_op Z Z Z (ow_len Z Z h0 Tryd.underlying22 Z (lw_op Z Z Z (ow_gtr Z Z Z fun bb1 hbb1 => lw_nil (ew_then ?_))))))))))))))))
 replace h := cond_some h
 rcases h with ⟨hc1, h⟩ | ⟨hc1, h⟩
 ·
  obtain rfl := hbb1.trans hc1
  refine cw_true Z (cw_seq (cw_region (lw_op Z Z Z (ow_assign Z Z (lw_nil (ew_then (cw_ret (ew_thenR ?_))))))))
  obtain rfl := Option.some.inj h
  exact ew_ret (res1 Z (.tmp Z)) ⟨_, Z, ((vbool _)), hC.bx⟩
 ·
  obtain rfl := hbb1.trans hc1
  refine cw_false Z (cw_skip (ew_then (cw_seq (cw_region (lw_op Z Z Z (ow_move Z Z ?_))))))
  replace h := bind_some h
  obtain ⟨x1, hx1, h⟩ := h
  refine lw_op Z Z Z (ow_call Z Z Tryd.call34 (w_spec_DrawChainsUsed hG hC.old h0 hx1) fun v1 w1 hv1 => ?_)
  obtain ⟨hv1, hb1⟩ := hv1
  have hl1 := Le.no M hb1
  have hC1 := hC.no hb1
  refine lw_allocStore (R := RRuleset) Z Z Z Z Z Z Z Tryd.zeroValue45 Tryd.sizeOf45 Z Z Z (by simp) hv1 hC1 fun p1 w2 hp1 hb2 hl2 hC2 => lw_nil (ew_then (cw_seq (cw_region (lw_op Z Z Z (ow_load (R := RRuleset) Z Z hp1 (Tryd.sizeOf45 _) (Tryd.isAgg45 _) fun v2 hv2 => ?_)))))
  replace h := bind_some h
  obtain ⟨x2, hx2, h⟩ := h
  refine lw_op Z Z Z (ow_call Z Z Tryd.call35 (w_impl_ChainsUsed (hG.mono (hl1.trans hl2)) hC2.old hv2 hx2) fun v3 w3 hv3 => ?_)
  obtain ⟨hv3, hb3⟩ := hv3
  have hl3 := Le.no M hb3
  have hC3 := hC2.no hb3
  refine lw_op Z Z Z (ow_assign Z Z (lw_nil (ew_then (cw_seq (cw_seq (cw_region (lw_op Z Z Z (ow_move Z Z (lw_op Z Z Z (ow_load (R := RRuleset) Z Z (ARep.mono hl3 hp1) (Tryd.sizeOf45 _) (Tryd.isAgg45 _) fun v4 hv4 => ?_))))))))))
  replace h := bind_some h
  obtain ⟨x3, hx3, h⟩ := h
  have lz1 := ((hl1.trans hl2).trans hl3)
  refine lw_op Z Z Z (ow_call Z Z Tryd.call36 (w_spec_ChainsUsed (hG.mono lz1) hC3.old hv4 hx3) fun v5 w4 hv5 => ?_)
  obtain ⟨hv5, hb4⟩ := hv5
  have hl4 := Le.no M hb4
  have hC4 := hC3.no hb4
  replace h := bind_some h
  obtain ⟨x4, hx4, h⟩ := h
  refine lw_op Z Z Z (ow_call Z Z Tryd.call32 (w_laws_sameInts (hG.mono (lz1.trans hl4)) hC4.old (VRep.mono hl4 hv3) hv5 hx4) fun v6 w5 hv6 => ?_)
  obtain ⟨hv6, hb5⟩ := hv6
  have hl5 := Le.no M hb5
  have hC5 := hC4.no hb5
  obtain rfl := vbool_eq hv6
  refine lw_op Z Z Z (ow_not Z Z (lw_nil (ew_then ?_)))
  replace h := cond_some h
  rcases h with ⟨hc2, h⟩ | ⟨hc2, h⟩
  ·
   subst hc2
   refine cw_false Z (cw_skip (ew_then (cw_seq (cw_seq (cw_region (lw_op Z Z Z (ow_move Z Z (lw_op Z Z Z (ow_len Z Z (VRep.mono (hl4.trans hl5) hv3) Tryd.underlying52 Z (lw_op Z Z Z (ow_eqlI Z Z Z fun bb2 hbb2 => lw_nil (ew_then ?_))))))))))))
   replace h := cond_some h
   rcases h with ⟨hc3, h⟩ | ⟨hc3, h⟩
   ·
    obtain rfl := hbb2.trans hc3
    refine cw_true Z (cw_seq (cw_region ?_))
    have lz2 := ((hl3.trans hl4).trans hl5)
    refine lw_op Z Z Z (ow_load (R := RRuleset) Z Z (ARep.mono lz2 hp1) (Tryd.sizeOf45 _) (Tryd.isAgg45 _) fun v7 hv7 => ?_)
    replace h := bind_some h
    obtain ⟨x5, hx5, h⟩ := h
    have lz3 := ((lz1.trans hl4).trans hl5)
    refine lw_op Z Z Z (ow_call Z Z Tryd.call26 (w_spec_RulesetValid (hG.mono lz3) hC5.old hv7 hx5) fun v8 w6 hv8 => ?_)
    obtain ⟨hv8, hb6⟩ := hv8
    have hl6 := Le.no M hb6
    have hC6 := hC5.no hb6
    obtain rfl := vbool_eq hv8
    refine lw_op Z Z Z (ow_not Z Z (lw_op Z Z Z (ow_move Z Z ?_)))
    replace h := cond_some h
    rcases h with ⟨hc4, h⟩ | ⟨hc4, h⟩
    ·
     subst hc4
     refine lw_off Z Z Z Z Z Z (lw_op Z Z Z (ow_pickF Z Z Z (lw_op Z Z Z (ow_assign Z Z (lw_nil (ew_then (cw_ret (ew_thenR ?_))))))))
     obtain rfl := Option.some.inj h
     exact ew_ret (res1 Z (.tmp Z)) ⟨_, Z, ((vbool _)), hC6.bx⟩
    ·
     subst hc4
     replace h := bind_some h
     obtain ⟨x6, hx6, h⟩ := h
     refine lw_on Z Z Z Z Z Z (ow_call Z Z Tryd.call18 (w_laws_alive (hG.mono (lz3.trans hl6)) hC6.old hx6) fun v9 w7 hv9 => ?_)
     obtain ⟨hv9, hb7⟩ := hv9
     have hC7 := hC6.no hb7
     obtain rfl := vbool_eq hv9
     refine lw_op Z Z Z (ow_pickT Z Z Z (lw_op Z Z Z (ow_assign Z Z (lw_nil (ew_then (cw_ret (ew_thenR ?_)))))))
     obtain rfl := Option.some.inj h
     exact ew_ret (res1 Z (.tmp Z)) ⟨_, Z, ((vbool _)), hC7.bx⟩
   ·
    obtain rfl := hbb2.trans hc3
    refine cw_false Z (cw_skip (ew_then (cw_seq (cw_region ?_))))
    replace h := bind_some h
    obtain ⟨mk1, hmk1, h⟩ := h
    refine lw_op Z Z Z (ow_make (R := RBool) Z Z Z Tryd.underlying56 hi4 hz4 hs4 hy4 Z Z (vbool false) hmk1 hC5 fun v10 w8 M1 hr1 hb8 hl8 hC8 hM1 hat1 => lw_op Z Z Z (ow_assign Z Z (lw_nil (ew_then (cw_seq (cw_seq (cw_region (lw_op Z Z Z (ow_assign Z Z (lw_nil (ew_then ?_)))))))))))
    replace h := bind_some h
    obtain ⟨lr1, hlr1, h⟩ := h
    refine cw_for hlr1 (fun s a w' => ∃ (M' : Nat → Prop), Fits 138 [(3, (.pointer (some p1))), (4, v3), (5, v10), (6, (.int .i64 s.1))] a ∧ Le w8 M1 w' M' ∧ Cx No w M w' M' ∧ OwnRow RBool w.heap.size 4 w' M' s.2 v10) ?_ ?_ ?_
    ·
     intro a ha
     exact ⟨M1, ha.sub ⟨Z, Z, Z, Z, trivial⟩, Le.refl _ _, hC8, hr1⟩
    ·
     rintro ⟨k1, y1⟩ a w9 sr1 ⟨M2, hF1, hl9, hC9, hw1⟩ hb9 hR1
     refine cw_at (E := [(3, (.pointer (some p1))), (4, v3), (5, v10), (6, (.int .i64 k1))]) hF1 (cw_seq (cw_seq (cw_region (lw_op Z Z Z (ow_move Z Z (lw_op Z Z Z (ow_move Z Z ?_)))))))
     have lz4 := (((hl4.trans hl5).trans hl8).trans hl9)
     refine lw_op Z Z Z (ow_len Z Z (VRep.mono lz4 hv3) Tryd.underlying52 Z (lw_op Z Z Z (ow_lss Z Z Z fun bb3 hbb3 => lw_nil (ew_then ?_))))
     replace hb9 := cond_some hb9
     rcases hb9 with ⟨hc5, hb9⟩ | ⟨hc5, hb9⟩
     ·
      obtain rfl := hbb3.trans hc5
      refine cw_true Z (cw_skip (ew_then (cw_seq (cw_block (cw_seq (cw_seq ?_))))))
      replace hb9 := bind_some hb9
      obtain ⟨x7, hx7, hb9⟩ := hb9
      replace hb9 := cond_some hb9
      rcases hb9 with ⟨hc6, hb9⟩ | ⟨hc6, hb9⟩
      ·
       refine cw_sub (E' := [(3, (.pointer (some p1))), (4, v3), (5, v10), (6, (.int .i64 k1))]) ⟨Z, Z, Z, Z, trivial⟩ (cw_drawQ 13 [PV (RSlice RInt) M2 x2, PEq (.int .i64 k1), PA RInt M2 x7, PEq (.int .i64 x7), PEq (.bool true), PEq (.bool true), PEq undef, PEq undef, PEq undef, PEq undef, PEq undef, PEq undef, PEq undef] (by kernel_rfl) Z (by kernel_rfl) ⟨PV.mono _ _ _, PEq.mono _, PA.mono _ _ _, PEq.mono _, PEq.mono _, PEq.mono _, PEq.mono _, PEq.mono _, PEq.mono _, PEq.mono _, PEq.mono _, PEq.mono _, PEq.mono _, trivial⟩ ⟨?_, ?_, ?_, ?_, ?_, ?_, ?_, ?_, ?_, ?_, ?_, ?_, ?_, trivial⟩ ?_)
       ·
        intro w10 D hS1 hd1
        have hl10 := Le.no M2 hS1
        exact dg_sub (E' := [(4, v3)]) ⟨Z, trivial⟩ (dg_plain Z (ow_move Z Z ⟨BX.refl _ _, (VRep.mono (lz4.trans hl10) hv3)⟩))
       ·
        intro w11 D hS2 hd2
        exact dg_sub (E' := [(6, (.int .i64 k1))]) ⟨Z, trivial⟩ (dg_plain Z (ow_move Z Z ⟨BX.refl _ _, Z⟩))
       ·
        intro w12 D hS3 hd3
        have d1 : PV (RSlice RInt) M2 x2 (D 0) w12 := dpA hd3 0 Z
        generalize hq1 : (D 0) = v14 at d1
        exact dg_sub (E' := [(40, v14), (41, (.int .i64 k1))]) ⟨(congrArg some hq1), (dpE hd3 1 Z Z), trivial⟩ (dg_plain Z (ow_indexSlice (R := RInt) Z Z Z d1 Tryd.underlying52 (Tryd.sizeOf3 _) hx7 fun p3 hp3 => ⟨BX.refl _ _, ⟨_, Z, hp3⟩⟩))
       ·
        intro w13 D hS4 hd4
        have d3 : PA RInt M2 x7 (D 2) w13 := dpA hd4 2 Z
        obtain ⟨p4, e1, ha1⟩ := d3
        refine dg_sub (E' := [(42, (.pointer (some p4)))]) ⟨(congrArg some e1), trivial⟩ (dg_plain Z (ow_load (R := RInt) Z Z ha1 (Tryd.sizeOf3 _) (Tryd.isAgg3 _) fun v15 hv15 => ?_))
        obtain rfl := vint_eq hv15
        exact ⟨BX.refl _ _, Z⟩
       ·
        intro w14 D hS5 hd5
        refine dg_sub (E' := [(43, (.int .i64 x7))]) ⟨(dpE hd5 3 Z Z), trivial⟩ (dg_plain Z (ow_lss Z Z Z fun bb5 hbb5 => ?_))
        obtain rfl := hbb5.trans hc6
        exact ⟨BX.refl _ _, Z⟩
       ·
        intro w15 D hS6 hd6
        exact dg_sub (E' := [(44, (.bool true))]) ⟨(dpE hd6 4 Z Z), trivial⟩ (dg_plain Z (ow_move Z Z ⟨BX.refl _ _, Z⟩))
       ·
        intro w16 D hS7 hd7
        exact dg_sub (E' := [(45, (.bool true)), (4, v3)]) ⟨(dpE hd7 5 Z Z), Z, trivial⟩ (dg_off Z Z Z Z ⟨BX.refl _ _, Z⟩)
       ·
        intro w17 D hS8 hd8
        exact dg_sub (E' := [(45, (.bool true)), (6, (.int .i64 k1))]) ⟨(dpE hd8 5 Z Z), Z, trivial⟩ (dg_off Z Z Z Z ⟨BX.refl _ _, Z⟩)
       ·
        intro w18 D hS9 hd9
        exact dg_sub (E' := [(46, undef), (47, undef), (45, (.bool true))]) ⟨(dpE hd9 6 Z Z), (dpE hd9 7 Z Z), (dpE hd9 5 Z Z), trivial⟩ (dg_off Z Z Z Z ⟨BX.refl _ _, Z⟩)
       ·
        intro w19 D hS10 hd10
        exact dg_sub (E' := [(48, undef), (45, (.bool true))]) ⟨(dpE hd10 8 Z Z), (dpE hd10 5 Z Z), trivial⟩ (dg_off Z Z Z Z ⟨BX.refl _ _, Z⟩)
       ·
        intro w20 D hS11 hd11
        exact dg_sub (E' := [(45, (.bool true)), (3, (.pointer (some p1)))]) ⟨(dpE hd11 5 Z Z), Z, trivial⟩ (dg_off Z Z Z Z ⟨BX.refl _ _, Z⟩)
       ·
        intro w21 D hS12 hd12
        exact dg_sub (E' := [(50, undef), (45, (.bool true))]) ⟨(dpE hd12 10 Z Z), (dpE hd12 5 Z Z), trivial⟩ (dg_off Z Z Z Z ⟨BX.refl _ _, Z⟩)
       ·
        intro w22 D hS13 hd13
        exact dg_sub (E' := [(51, undef), (45, (.bool true))]) ⟨(dpE hd13 11 Z Z), (dpE hd13 5 Z Z), trivial⟩ (dg_off Z Z Z Z ⟨BX.refl _ _, Z⟩)
       ·
        intro w23 D hS14 hd14
        have hC23 := hC9.no hS14
        refine lw_sub (E' := [(45, (.bool true)), (49, undef), (52, undef), (3, (.pointer (some p1))), (4, v3), (5, v10), (6, (.int .i64 k1))]) ⟨(dpE hd14 5 Z Z), (dpE hd14 9 Z Z), (dpE hd14 12 Z Z), Z, Z, Z, Z, trivial⟩ (lw_off Z Z Z Z Z Z (lw_op Z Z Z (ow_pickT Z Z Z (lw_nil (ew_then (cw_true Z (cw_seq (cw_region (lw_op Z Z Z (ow_assign Z Z (lw_nil (ew_then (cw_ret (ew_thenR (ew_blockR (ew_thenR (ew_thenR (ew_blockR (ew_brkR (ew_thenR ?_))))))))))))))))))))
        have e2 := hR1 _ (Option.some.inj hb9).symm
        subst e2
        obtain rfl := Option.some.inj h
        exact ew_ret (res1 Z (.tmp Z)) ⟨_, Z, ((vbool _)), hC23.bx⟩
      ·
       have lz8 := ((((hl3.trans hl4).trans hl5).trans hl8).trans hl9)
       refine cw_sub (E' := [(3, (.pointer (some p1))), (4, v3), (5, v10), (6, (.int .i64 k1))]) ⟨Z, Z, Z, Z, trivial⟩ (cw_drawQ 13 [PV (RSlice RInt) M2 x2, PEq (.int .i64 k1), PA RInt M2 x7, PEq (.int .i64 x7), PEq (.bool false), PEq (.bool false), PV (RSlice RInt) M2 x2, PEq (.int .i64 k1), PA RInt M2 x7, PEq (.int .i64 x7), PA (RSlice (RSlice RRule)) M2 x1.Chains, PV (RSlice (RSlice RRule)) M2 x1.Chains, PEq (.int .i64 (x1.Chains.length : Int))] (by kernel_rfl) Z (by kernel_rfl) ⟨PV.mono _ _ _, PEq.mono _, PA.mono _ _ _, PEq.mono _, PEq.mono _, PEq.mono _, PV.mono _ _ _, PEq.mono _, PA.mono _ _ _, PEq.mono _, PA.mono _ _ _, PV.mono _ _ _, PEq.mono _, trivial⟩ ⟨?_, ?_, ?_, ?_, ?_, ?_, ?_, ?_, ?_, ?_, ?_, ?_, ?_, trivial⟩ ?_)
       ·
        intro w24 D hS15 hd15
        have hl24 := Le.no M2 hS15
        exact dg_sub (E' := [(4, v3)]) ⟨Z, trivial⟩ (dg_plain Z (ow_move Z Z ⟨BX.refl _ _, (VRep.mono (lz4.trans hl24) hv3)⟩))
       ·
        intro w25 D hS16 hd16
        exact dg_sub (E' := [(6, (.int .i64 k1))]) ⟨Z, trivial⟩ (dg_plain Z (ow_move Z Z ⟨BX.refl _ _, Z⟩))
       ·
        intro w26 D hS17 hd17
        have d31 : PV (RSlice RInt) M2 x2 (D 0) w26 := dpA hd17 0 Z
        generalize hq2 : (D 0) = v18 at d31
        exact dg_sub (E' := [(40, v18), (41, (.int .i64 k1))]) ⟨(congrArg some hq2), (dpE hd17 1 Z Z), trivial⟩ (dg_plain Z (ow_indexSlice (R := RInt) Z Z Z d31 Tryd.underlying52 (Tryd.sizeOf3 _) hx7 fun p6 hp6 => ⟨BX.refl _ _, ⟨_, Z, hp6⟩⟩))
       ·
        intro w27 D hS18 hd18
        have d33 : PA RInt M2 x7 (D 2) w27 := dpA hd18 2 Z
        obtain ⟨p7, e3, ha2⟩ := d33
        refine dg_sub (E' := [(42, (.pointer (some p7)))]) ⟨(congrArg some e3), trivial⟩ (dg_plain Z (ow_load (R := RInt) Z Z ha2 (Tryd.sizeOf3 _) (Tryd.isAgg3 _) fun v19 hv19 => ?_))
        obtain rfl := vint_eq hv19
        exact ⟨BX.refl _ _, Z⟩
       ·
        intro w28 D hS19 hd19
        refine dg_sub (E' := [(43, (.int .i64 x7))]) ⟨(dpE hd19 3 Z Z), trivial⟩ (dg_plain Z (ow_lss Z Z Z fun bb6 hbb6 => ?_))
        obtain rfl := hbb6.trans hc6
        exact ⟨BX.refl _ _, Z⟩
       ·
        intro w29 D hS20 hd20
        exact dg_sub (E' := [(44, (.bool false))]) ⟨(dpE hd20 4 Z Z), trivial⟩ (dg_plain Z (ow_move Z Z ⟨BX.refl _ _, Z⟩))
       ·
        intro w30 D hS21 hd21
        have hl30 := Le.no M2 hS21
        exact dg_sub (E' := [(45, (.bool false)), (4, v3)]) ⟨(dpE hd21 5 Z Z), Z, trivial⟩ (dg_on Z Z Z Z (ow_move Z Z ⟨BX.refl _ _, (VRep.mono (lz4.trans hl30) hv3)⟩))
       ·
        intro w31 D hS22 hd22
        exact dg_sub (E' := [(45, (.bool false)), (6, (.int .i64 k1))]) ⟨(dpE hd22 5 Z Z), Z, trivial⟩ (dg_on Z Z Z Z (ow_move Z Z ⟨BX.refl _ _, Z⟩))
       ·
        intro w32 D hS23 hd23
        have d38 : PV (RSlice RInt) M2 x2 (D 6) w32 := dpA hd23 6 Z
        generalize hq3 : (D 6) = v20 at d38
        exact dg_sub (E' := [(46, v20), (47, (.int .i64 k1)), (45, (.bool false))]) ⟨(congrArg some hq3), (dpE hd23 7 Z Z), (dpE hd23 5 Z Z), trivial⟩ (dg_on Z Z Z Z (ow_indexSlice (R := RInt) Z Z Z d38 Tryd.underlying52 (Tryd.sizeOf3 _) hx7 fun p8 hp8 => ⟨BX.refl _ _, ⟨_, Z, hp8⟩⟩))
       ·
        intro w33 D hS24 hd24
        have d41 : PA RInt M2 x7 (D 8) w33 := dpA hd24 8 Z
        obtain ⟨p9, e4, ha3⟩ := d41
        refine dg_sub (E' := [(48, (.pointer (some p9))), (45, (.bool false))]) ⟨(congrArg some e4), (dpE hd24 5 Z Z), trivial⟩ (dg_on Z Z Z Z (ow_load (R := RInt) Z Z ha3 (Tryd.sizeOf3 _) (Tryd.isAgg3 _) fun v21 hv21 => ?_))
        obtain rfl := vint_eq hv21
        exact ⟨BX.refl _ _, Z⟩
       ·
        intro w34 D hS25 hd25
        have hl34 := Le.no M2 hS25
        exact dg_sub (E' := [(45, (.bool false)), (3, (.pointer (some p1)))]) ⟨(dpE hd25 5 Z Z), Z, trivial⟩ (dg_on Z Z Z Z (ow_fieldAddr Z Z Tryd.underlying45 Z (Tryd.sizeOf43 _) ⟨BX.refl _ _, ⟨_, Z, (ARep.mono (lz8.trans hl34) (hp1.fld fld_Ruleset_Chains))⟩⟩))
       ·
        intro w35 D hS26 hd26
        have d44 : PA (RSlice (RSlice RRule)) M2 x1.Chains (D 10) w35 := dpA hd26 10 Z
        obtain ⟨p10, e5, ha4⟩ := d44
        exact dg_sub (E' := [(50, (.pointer (some p10))), (45, (.bool false))]) ⟨(congrArg some e5), (dpE hd26 5 Z Z), trivial⟩ (dg_on Z Z Z Z (ow_load (R := (RSlice (RSlice RRule))) Z Z ha4 (Tryd.sizeOf43 _) (Tryd.isAgg43 _) fun v22 hv22 => ⟨BX.refl _ _, hv22⟩))
       ·
        intro w36 D hS27 hd27
        have d46 : PV (RSlice (RSlice RRule)) M2 x1.Chains (D 11) w36 := dpA hd27 11 Z
        generalize hq4 : (D 11) = v23 at d46
        exact dg_sub (E' := [(51, v23), (45, (.bool false))]) ⟨(congrArg some hq4), (dpE hd27 5 Z Z), trivial⟩ (dg_on Z Z Z Z (ow_len Z Z d46 Tryd.underlying43 Z ⟨BX.refl _ _, Z⟩))
       ·
        intro w37 D hS28 hd28
        have hl37 := Le.no M2 hS28
        have hC37 := hC9.no hS28
        have hr29 := hw1.no hS28
        refine lw_sub (E' := [(45, (.bool false)), (49, (.int .i64 x7)), (52, (.int .i64 (x1.Chains.length : Int))), (3, (.pointer (some p1))), (4, v3), (5, v10), (6, (.int .i64 k1))]) ⟨(dpE hd28 5 Z Z), (dpE hd28 9 Z Z), (dpE hd28 12 Z Z), Z, Z, Z, Z, trivial⟩ (lw_on Z Z Z Z Z Z (ow_geq Z Z Z fun bb7 hbb7 => lw_op Z Z Z (ow_pickF Z Z Z (lw_nil (ew_then ?_)))))
        replace hb9 := cond_some hb9
        rcases hb9 with ⟨hc7, hb9⟩ | ⟨hc7, hb9⟩
        ·
         obtain rfl := hbb7.trans hc7
         refine cw_true Z (cw_seq (cw_region (lw_op Z Z Z (ow_assign Z Z (lw_nil (ew_then (cw_ret (ew_thenR (ew_blockR (ew_thenR (ew_thenR (ew_blockR (ew_brkR (ew_thenR ?_))))))))))))))
         have e6 := hR1 _ (Option.some.inj hb9).symm
         subst e6
         obtain rfl := Option.some.inj h
         exact ew_ret (res1 Z (.tmp Z)) ⟨_, Z, ((vbool _)), hC37.bx⟩
        ·
         obtain rfl := hbb7.trans hc7
         refine cw_false Z (cw_skip (ew_then (cw_region (lw_op Z Z Z (ow_move Z Z (lw_op Z Z Z (ow_move Z Z (lw_op Z Z Z (ow_move Z Z (lw_op Z Z Z (ow_indexSlice (R := RInt) Z Z Z (VRep.mono (lz4.trans hl37) hv3) Tryd.underlying52 (Tryd.sizeOf3 _) hx7 fun p11 hp11 => lw_op Z Z Z (ow_load (R := RInt) Z Z hp11 (Tryd.sizeOf3 _) (Tryd.isAgg3 _) fun v24 hv24 => ?_))))))))))))
         obtain rfl := vint_eq hv24
         replace hb9 := bind_some hb9
         obtain ⟨x8, hx8, hb9⟩ := hb9
         refine lw_op Z Z Z (ow_indexRow (R := RBool) Z Z Z hr29 Tryd.underlying56 (Tryd.sizeOf4 _) hx8 (lw_op0 Z Z (ow_storeElRow (X := No) (R := RBool) (S := RBool) Z Z Z Z hr29 (orow_blk hr29 hx8) hx8 (FldSet.whole RBool) (Tryd.sizeOf4 _) (vbool _) (Nat.le_refl _) hC37 fun w38 ho1 hb10 hl38 hC38 => lw_nil (ew_blockN (ew_then (cw_region (lw_op Z Z Z (ow_move Z Z (lw_op Z Z Z (ow_add Z Z Z (lw_op Z Z Z (ow_assign Z Z (lw_nil ?_)))))))))))))
         have lz9 := ((hl9.trans hl37).trans hl38)
         exact ew_nxt ((W (k1 + 1)), (List.set y1 (x7 : Int).toNat true)) hb9 fun a ha => ⟨M2, (ha.sub ⟨Z, Z, Z, Z, trivial⟩), lz9, hC38, ho1⟩
     ·
      obtain rfl := hbb3.trans hc5
      exact cw_false Z (cw_exit (ew_thenX (ew_thenX (ew_blockX (ew_brk (k1, y1) hb9 fun a ha => ⟨M2, (ha.sub ⟨Z, Z, Z, Z, trivial⟩), hl9, hC9, hw1⟩)))))
    ·
     rintro ⟨k2, y2⟩ a w39 hlr2 ⟨M3, hF2, hl39, hC39, hw2⟩
     subst hlr2
     refine ew_at (E := [(3, (.pointer (some p1))), (4, v3), (5, v10), (6, (.int .i64 k2))]) hF2 (ew_then (cw_seq (cw_seq (cw_region (lw_op Z Z Z (ow_assign Z Z (lw_nil (ew_then ?_))))))))
     replace h := bind_some h
     obtain ⟨lr2, hlr3, h⟩ := h
     refine cw_for hlr3 (fun s a w' => ∃ (M' : Nat → Prop), Fits 138 [(3, (.pointer (some p1))), (4, v3), (5, v10), (7, (.int .i64 s.1))] a ∧ Le w39 M3 w' M' ∧ Cx No w M w' M' ∧ OwnRow RBool w.heap.size 4 w' M' s.2 v10) ?_ ?_ ?_
     ·
      intro a ha
      exact ⟨M3, ha.sub ⟨Z, Z, Z, Z, trivial⟩, Le.refl _ _, hC39, hw2⟩
     ·
      rintro ⟨k3, y3⟩ a w40 sr2 ⟨M4, hF3, hl40, hC40, hw3⟩ hb11 hR2
      refine cw_at (E := [(3, (.pointer (some p1))), (4, v3), (5, v10), (7, (.int .i64 k3))]) hF3 (cw_seq (cw_seq (cw_region (lw_op Z Z Z (ow_move Z Z (lw_op Z Z Z (ow_move Z Z ?_)))))))
      have lz10 := ((((hl4.trans hl5).trans hl8).trans hl39).trans hl40)
      refine lw_op Z Z Z (ow_len Z Z (VRep.mono lz10 hv3) Tryd.underlying52 Z (lw_op Z Z Z (ow_lss Z Z Z fun bb8 hbb8 => lw_nil (ew_then ?_))))
      replace hb11 := cond_some hb11
      rcases hb11 with ⟨hc8, hb11⟩ | ⟨hc8, hb11⟩
      ·
       obtain rfl := hbb8.trans hc8
       refine cw_true Z (cw_skip (ew_then (cw_seq (cw_block (cw_seq ?_)))))
       replace hb11 := bind_some hb11
       obtain ⟨x9, hx9, hb11⟩ := hb11
       have lz11 := (((((lz1.trans hl4).trans hl5).trans hl8).trans hl39).trans hl40)
       have lz12 := (((((hl3.trans hl4).trans hl5).trans hl8).trans hl39).trans hl40)
       refine cw_sub (E' := [(3, (.pointer (some p1))), (4, v3), (5, v10), (7, (.int .i64 k3))]) ⟨Z, Z, Z, Z, trivial⟩ (cw_drawQ 5 [PV RRuleset M4 x1, PV (RSlice RInt) M4 x2, PEq (.int .i64 k3), PA RInt M4 x9, PEq (.int .i64 x9)] (by kernel_rfl) Z (by kernel_rfl) ⟨PV.mono _ _ _, PV.mono _ _ _, PEq.mono _, PA.mono _ _ _, PEq.mono _, trivial⟩ ⟨?_, ?_, ?_, ?_, ?_, trivial⟩ ?_)
       ·
        intro w41 D hS29 hd29
        have hl41 := Le.no M4 hS29
        exact dg_sub (E' := [(3, (.pointer (some p1)))]) ⟨Z, trivial⟩ (dg_plain Z (ow_load (R := RRuleset) Z Z (ARep.mono (lz12.trans hl41) hp1) (Tryd.sizeOf45 _) (Tryd.isAgg45 _) fun v31 hv31 => ⟨BX.refl _ _, hv31⟩))
       ·
        intro w42 D hS30 hd30
        have hl42 := Le.no M4 hS30
        exact dg_sub (E' := [(4, v3)]) ⟨Z, trivial⟩ (dg_plain Z (ow_move Z Z ⟨BX.refl _ _, (VRep.mono (lz10.trans hl42) hv3)⟩))
       ·
        intro w43 D hS31 hd31
        exact dg_sub (E' := [(7, (.int .i64 k3))]) ⟨Z, trivial⟩ (dg_plain Z (ow_move Z Z ⟨BX.refl _ _, Z⟩))
       ·
        intro w44 D hS32 hd32
        have d61 : PV (RSlice RInt) M4 x2 (D 1) w44 := dpA hd32 1 Z
        generalize hq5 : (D 1) = v32 at d61
        exact dg_sub (E' := [(68, v32), (69, (.int .i64 k3))]) ⟨(congrArg some hq5), (dpE hd32 2 Z Z), trivial⟩ (dg_plain Z (ow_indexSlice (R := RInt) Z Z Z d61 Tryd.underlying52 (Tryd.sizeOf3 _) hx9 fun p13 hp13 => ⟨BX.refl _ _, ⟨_, Z, hp13⟩⟩))
       ·
        intro w45 D hS33 hd33
        have d63 : PA RInt M4 x9 (D 3) w45 := dpA hd33 3 Z
        obtain ⟨p14, e7, ha5⟩ := d63
        refine dg_sub (E' := [(70, (.pointer (some p14)))]) ⟨(congrArg some e7), trivial⟩ (dg_plain Z (ow_load (R := RInt) Z Z ha5 (Tryd.sizeOf3 _) (Tryd.isAgg3 _) fun v33 hv33 => ?_))
        obtain rfl := vint_eq hv33
        exact ⟨BX.refl _ _, Z⟩
       ·
        intro w46 D hS34 hd34
        have d64 : PV RRuleset M4 x1 (D 0) w46 := dpA hd34 0 Z
        have hl46 := Le.no M4 hS34
        have hC46 := hC40.no hS34
        have hr35 := hw3.no hS34
        generalize hq6 : (D 0) = v34 at d64
        refine lw_sub (E' := [(67, v34), (71, (.int .i64 x9)), (3, (.pointer (some p1))), (4, v3), (5, v10), (7, (.int .i64 k3))]) ⟨(congrArg some hq6), (dpE hd34 4 Z Z), Z, Z, Z, Z, trivial⟩ ?_
        replace hb11 := bind_some hb11
        obtain ⟨x10, hx10, hb11⟩ := hb11
        refine lw_op Z Z Z (ow_call Z Z Tryd.call30 (w_impl_CallsOf (hG.mono (lz11.trans hl46)) hC46.old d64 hx10) fun v35 w47 hv35 => ?_)
        obtain ⟨hv35, hb12⟩ := hv35
        have hl47 := Le.no M4 hb12
        have hC47 := hC46.no hb12
        have hr36 := hr35.no hb12
        refine lw_op Z Z Z (ow_assign Z Z (lw_nil (ew_then (cw_seq (cw_region (lw_op Z Z Z (ow_assign Z Z (lw_nil (ew_then ?_)))))))))
        replace hb11 := bind_some hb11
        obtain ⟨lr3, hlr4, hb11⟩ := hb11
        refine cw_for hlr4 (fun s a w' => ∃ (M' : Nat → Prop), Fits 138 [(3, (.pointer (some p1))), (4, v3), (5, v10), (7, (.int .i64 k3)), (8, v35), (9, (.int .i64 s.1))] a ∧ Le w47 M4 w' M' ∧ Cx No w M w' M' ∧ OwnRow RBool w.heap.size 4 w' M' s.2 v10) ?_ ?_ ?_
        ·
         intro a ha
         exact ⟨M4, ha.sub ⟨Z, Z, Z, Z, Z, Z, trivial⟩, Le.refl _ _, hC47, hr36⟩
        ·
         rintro ⟨k4, y4⟩ a w48 sr3 ⟨M5, hF4, hl48, hC48, hw4⟩ hb13 hR3
         refine cw_at (E := [(3, (.pointer (some p1))), (4, v3), (5, v10), (7, (.int .i64 k3)), (8, v35), (9, (.int .i64 k4))]) hF4 (cw_seq (cw_seq (cw_region (lw_op Z Z Z (ow_move Z Z (lw_op Z Z Z (ow_move Z Z (lw_op Z Z Z (ow_len Z Z (VRep.mono hl48 hv35) Tryd.underlying52 Z (lw_op Z Z Z (ow_lss Z Z Z fun bb9 hbb9 => lw_nil (ew_then ?_))))))))))))
         replace hb13 := cond_some hb13
         rcases hb13 with ⟨hc9, hb13⟩ | ⟨hc9, hb13⟩
         ·
          obtain rfl := hbb9.trans hc9
          refine cw_true Z (cw_skip (ew_then (cw_seq (cw_block (cw_seq (cw_region (lw_op Z Z Z (ow_move Z Z (lw_op Z Z Z (ow_move Z Z ?_))))))))))
          replace hb13 := bind_some hb13
          obtain ⟨x11, hx11, hb13⟩ := hb13
          refine lw_op Z Z Z (ow_indexSlice (R := RInt) Z Z Z (VRep.mono hl48 hv35) Tryd.underlying52 (Tryd.sizeOf3 _) hx11 fun p15 hp15 => lw_op Z Z Z (ow_load (R := RInt) Z Z hp15 (Tryd.sizeOf3 _) (Tryd.isAgg3 _) fun v38 hv38 => ?_))
          obtain rfl := vint_eq hv38
          refine lw_op Z Z Z (ow_lss Z Z Z fun bb10 hbb10 => lw_op Z Z Z (ow_move Z Z ?_))
          replace hb13 := cond_some hb13
          rcases hb13 with ⟨hc10, hb13⟩ | ⟨hc10, hb13⟩
          ·
           obtain rfl := hbb10.trans hc10
           refine lw_off Z Z Z Z Z Z (lw_off Z Z Z Z Z Z (lw_off Z Z Z Z Z Z (lw_off Z Z Z Z Z Z (lw_off Z Z Z Z Z Z (lw_op Z Z Z (ow_pickT Z Z Z (lw_op Z Z Z (ow_move Z Z (lw_off Z Z Z Z Z Z (lw_off Z Z Z Z Z Z (lw_off Z Z Z Z Z Z (lw_off Z Z Z Z Z Z (lw_off Z Z Z Z Z Z (lw_off Z Z Z Z Z Z (lw_off Z Z Z Z Z Z (lw_off Z Z Z Z Z Z (lw_op Z Z Z (ow_pickT Z Z Z (lw_nil (ew_then (cw_true Z (cw_seq (cw_region (lw_op Z Z Z (ow_assign Z Z (lw_nil (ew_then (cw_ret ?_))))))))))))))))))))))))))))
           refine ew_blockR (ew_thenR (ew_thenR (ew_blockR (ew_brkR (ew_blockR (ew_thenR (ew_thenR (ew_blockR (ew_brkR (ew_thenR ?_))))))))))
           have e8 := hR3 _ (Option.some.inj hb13).symm
           subst e8
           have e9 := hR2 _ (Option.some.inj hb11).symm
           subst e9
           obtain rfl := Option.some.inj h
           exact ew_ret (res1 Z (.tmp Z)) ⟨_, Z, ((vbool _)), hC48.bx⟩
          ·
           obtain rfl := hbb10.trans hc10
           refine lw_on Z Z Z Z Z Z (ow_move Z Z (lw_on Z Z Z Z Z Z (ow_move Z Z (lw_on Z Z Z Z Z Z (ow_indexSlice (R := RInt) Z Z Z (VRep.mono hl48 hv35) Tryd.underlying52 (Tryd.sizeOf3 _) hx11 fun p16 hp16 => lw_on Z Z Z Z Z Z (ow_load (R := RInt) Z Z hp16 (Tryd.sizeOf3 _) (Tryd.isAgg3 _) fun v39 hv39 => ?_))))))
           obtain rfl := vint_eq hv39
           refine lw_on Z Z Z Z Z Z (ow_geq Z Z Z fun bb11 hbb11 => lw_op Z Z Z (ow_pickF Z Z Z (lw_op Z Z Z (ow_move Z Z ?_))))
           replace hb13 := cond_some hb13
           rcases hb13 with ⟨hc11, hb13⟩ | ⟨hc11, hb13⟩
           ·
            obtain rfl := hbb11.trans hc11
            refine lw_off Z Z Z Z Z Z (lw_off Z Z Z Z Z Z (lw_off Z Z Z Z Z Z (lw_off Z Z Z Z Z Z (lw_off Z Z Z Z Z Z (lw_off Z Z Z Z Z Z (lw_off Z Z Z Z Z Z (lw_off Z Z Z Z Z Z (lw_op Z Z Z (ow_pickT Z Z Z (lw_nil (ew_then (cw_true Z (cw_seq (cw_region (lw_op Z Z Z (ow_assign Z Z (lw_nil (ew_then (cw_ret (ew_blockR (ew_thenR (ew_thenR (ew_blockR (ew_brkR (ew_blockR (ew_thenR ?_))))))))))))))))))))))))))
            refine ew_thenR (ew_blockR (ew_brkR (ew_thenR ?_)))
            have e10 := hR3 _ (Option.some.inj hb13).symm
            subst e10
            have e11 := hR2 _ (Option.some.inj hb11).symm
            subst e11
            obtain rfl := Option.some.inj h
            exact ew_ret (res1 Z (.tmp Z)) ⟨_, Z, ((vbool _)), hC48.bx⟩
           ·
            obtain rfl := hbb11.trans hc11
            refine lw_on Z Z Z Z Z Z (ow_move Z Z (lw_on Z Z Z Z Z Z (ow_move Z Z (lw_on Z Z Z Z Z Z (ow_move Z Z (lw_on Z Z Z Z Z Z (ow_indexSlice (R := RInt) Z Z Z (VRep.mono hl48 hv35) Tryd.underlying52 (Tryd.sizeOf3 _) hx11 fun p17 hp17 => lw_on Z Z Z Z Z Z (ow_load (R := RInt) Z Z hp17 (Tryd.sizeOf3 _) (Tryd.isAgg3 _) fun v40 hv40 => ?_))))))))
            obtain rfl := vint_eq hv40
            replace hb13 := bind_some hb13
            obtain ⟨x12, hx12, hb13⟩ := hb13
            refine lw_on Z Z Z Z Z Z (ow_indexRow (R := RBool) Z Z Z hw4 Tryd.underlying56 (Tryd.sizeOf4 _) hx12 (lw_on Z Z Z Z Z Z (ow_loadElRow (R := RBool) (S := RBool) Z Z Z hw4 (orow_blk hw4 hx12) hx12 (Fld.whole RBool) (Tryd.sizeOf4 _) (Tryd.isAgg4 _) fun v41 hv41 => ?_)))
            obtain rfl := vbool_eq hv41
            refine lw_on Z Z Z Z Z Z (ow_not Z Z (lw_op Z Z Z (ow_pickF Z Z Z (lw_nil (ew_then ?_)))))
            replace hb13 := cond_some hb13
            rcases hb13 with ⟨hc12, hb13⟩ | ⟨hc12, hb13⟩
            ·
             subst hc12
             exact cw_false Z (cw_skip (ew_blockN (ew_then (cw_region (lw_op Z Z Z (ow_move Z Z (lw_op Z Z Z (ow_add Z Z Z (lw_op Z Z Z (ow_assign Z Z (lw_nil (ew_nxt ((W (k4 + 1)), y4) hb13 fun a ha => ⟨M5, (ha.sub ⟨Z, Z, Z, Z, Z, Z, trivial⟩), hl48, hC48, hw4⟩))))))))))))
            ·
             subst hc12
             refine cw_true Z (cw_seq (cw_region (lw_op Z Z Z (ow_assign Z Z (lw_nil (ew_then (cw_ret (ew_blockR (ew_thenR (ew_thenR (ew_blockR (ew_brkR (ew_blockR (ew_thenR (ew_thenR (ew_blockR (ew_brkR (ew_thenR ?_))))))))))))))))))
             have e12 := hR3 _ (Option.some.inj hb13).symm
             subst e12
             have e13 := hR2 _ (Option.some.inj hb11).symm
             subst e13
             obtain rfl := Option.some.inj h
             exact ew_ret (res1 Z (.tmp Z)) ⟨_, Z, ((vbool _)), hC48.bx⟩
         ·
          obtain rfl := hbb9.trans hc9
          exact cw_false Z (cw_exit (ew_thenX (ew_thenX (ew_blockX (ew_brk (k4, y4) hb13 fun a ha => ⟨M5, (ha.sub ⟨Z, Z, Z, Z, Z, Z, trivial⟩), hl48, hC48, hw4⟩)))))
        ·
         rintro ⟨k5, y5⟩ a w49 hlr5 ⟨M6, hF5, hl49, hC49, hw5⟩
         subst hlr5
         refine ew_at (E := [(3, (.pointer (some p1))), (4, v3), (5, v10), (7, (.int .i64 k3)), (8, v35), (9, (.int .i64 k5))]) hF5 (ew_blockN (ew_then (cw_region (lw_op Z Z Z (ow_move Z Z (lw_op Z Z Z (ow_add Z Z Z (lw_op Z Z Z (ow_assign Z Z (lw_nil ?_))))))))))
         have lz13 := (((hl40.trans hl46).trans hl47).trans hl49)
         exact ew_nxt ((W (k3 + 1)), y5) hb11 fun a ha => ⟨M6, (ha.sub ⟨Z, Z, Z, Z, trivial⟩), lz13, hC49, hw5⟩
      ·
       obtain rfl := hbb8.trans hc8
       exact cw_false Z (cw_exit (ew_thenX (ew_thenX (ew_blockX (ew_brk (k3, y3) hb11 fun a ha => ⟨M4, (ha.sub ⟨Z, Z, Z, Z, trivial⟩), hl40, hC40, hw3⟩)))))
     ·
      rintro ⟨k6, y6⟩ a w50 hlr6 ⟨M7, hF6, hl50, hC50, hw6⟩
      subst hlr6
      refine ew_at (E := [(3, (.pointer (some p1))), (4, v3), (5, v10), (7, (.int .i64 k6))]) hF6 (ew_then (cw_seq (cw_region ?_)))
      have lz14 := (((((hl3.trans hl4).trans hl5).trans hl8).trans hl39).trans hl50)
      refine lw_op Z Z Z (ow_load (R := RRuleset) Z Z (ARep.mono lz14 hp1) (Tryd.sizeOf45 _) (Tryd.isAgg45 _) fun v46 hv46 => lw_op Z Z Z (ow_build (v := .agg #[(.int .i64 3), (.int .i64 5), (.int .i64 0), (.int .i64 0)]) Z Z (by kernel_rfl) ?_))
      have hw7 : VRep RPacket w50 M7 ({ From := 3, To := 5, Port := 0, Proto := 0 } : Packet) (.agg #[(.int .i64 3), (.int .i64 5), (.int .i64 0), (.int .i64 0)]) := shut_Packet
      replace h := bind_some h
      obtain ⟨x13, hx13, h⟩ := h
      have lz15 := (((((lz1.trans hl4).trans hl5).trans hl8).trans hl39).trans hl50)
      refine lw_op Z Z Z (ow_call Z Z Tryd.call37 (w_impl_JudgeTrace (hG.mono lz15) hC50.old hv46 hw7 hx13) fun v47 w51 hv47 => ?_)
      obtain ⟨hv47, hb14⟩ := hv47
      have hC51 := hC50.no hb14
      have hr37 := hw6.no hb14
      refine lw_op Z Z Z (ow_assign Z Z (lw_nil (ew_then (cw_seq (cw_seq (cw_region (lw_op Z Z Z (ow_assign Z Z (lw_nil (ew_then ?_))))))))))
      replace h := bind_some h
      obtain ⟨lr4, hlr7, h⟩ := h
      refine cw_for hlr7 (fun s a w' => ∃ (M' : Nat → Prop), Fits 138 [(5, v10), (10, v47), (11, (.int .i64 s.1))] a ∧ Le w51 M7 w' M' ∧ Cx No w M w' M' ∧ OwnRow RBool w.heap.size 4 w' M' s.2 v10) ?_ ?_ ?_
      ·
       intro a ha
       exact ⟨M7, ha.sub ⟨Z, Z, Z, trivial⟩, Le.refl _ _, hC51, hr37⟩
      ·
       rintro ⟨k7, y7⟩ a w52 sr4 ⟨M8, hF7, hl52, hC52, hw8⟩ hb15 hR4
       refine cw_at (E := [(5, v10), (10, v47), (11, (.int .i64 k7))]) hF7 (cw_seq (cw_seq (cw_region (lw_op Z Z Z (ow_move Z Z (lw_op Z Z Z (ow_move Z Z (lw_op Z Z Z (ow_len Z Z (VRep.mono hl52 hv47) Tryd.underlying57 Z (lw_op Z Z Z (ow_lss Z Z Z fun bb12 hbb12 => lw_nil (ew_then ?_))))))))))))
       replace hb15 := cond_some hb15
       rcases hb15 with ⟨hc13, hb15⟩ | ⟨hc13, hb15⟩
       ·
        obtain rfl := hbb12.trans hc13
        refine cw_true Z (cw_skip (ew_then (cw_seq (cw_block (cw_seq (cw_region (lw_op Z Z Z (ow_move Z Z (lw_op Z Z Z (ow_move Z Z ?_))))))))))
        replace hb15 := bind_some hb15
        obtain ⟨x14, hx14, hb15⟩ := hb15
        refine lw_op Z Z Z (ow_indexSlice (R := RVisit) Z Z Z (VRep.mono hl52 hv47) Tryd.underlying57 (Tryd.sizeOf60 _) hx14 fun p18 hp18 => lw_op Z Z Z (ow_fieldAddr Z Z Tryd.underlying60 Z (Tryd.sizeOf3 _) (lw_op Z Z Z (ow_load (R := RInt) Z Z (hp18.fld fld_Visit_Chain) (Tryd.sizeOf3 _) (Tryd.isAgg3 _) fun v50 hv50 => ?_))))
        obtain rfl := vint_eq hv50
        refine lw_op Z Z Z (ow_lss Z Z Z fun bb13 hbb13 => lw_op Z Z Z (ow_move Z Z ?_))
        replace hb15 := cond_some hb15
        rcases hb15 with ⟨hc14, hb15⟩ | ⟨hc14, hb15⟩
        ·
         obtain rfl := hbb13.trans hc14
         refine lw_off Z Z Z Z Z Z (lw_off Z Z Z Z Z Z (lw_off Z Z Z Z Z Z (lw_off Z Z Z Z Z Z (lw_off Z Z Z Z Z Z (lw_off Z Z Z Z Z Z (lw_op Z Z Z (ow_pickT Z Z Z (lw_op Z Z Z (ow_move Z Z (lw_off Z Z Z Z Z Z (lw_off Z Z Z Z Z Z (lw_off Z Z Z Z Z Z (lw_off Z Z Z Z Z Z (lw_off Z Z Z Z Z Z (lw_off Z Z Z Z Z Z (lw_off Z Z Z Z Z Z (lw_off Z Z Z Z Z Z (lw_off Z Z Z Z Z Z (lw_op Z Z Z (ow_pickT Z Z Z (lw_nil (ew_then (cw_true Z (cw_seq (cw_region (lw_op Z Z Z (ow_assign Z Z (lw_nil ?_))))))))))))))))))))))))))))
         refine ew_then (cw_ret (ew_blockR (ew_thenR (ew_thenR (ew_blockR (ew_brkR (ew_thenR ?_)))))))
         have e14 := hR4 _ (Option.some.inj hb15).symm
         subst e14
         obtain rfl := Option.some.inj h
         exact ew_ret (res1 Z (.tmp Z)) ⟨_, Z, ((vbool _)), hC52.bx⟩
        ·
         obtain rfl := hbb13.trans hc14
         refine lw_on Z Z Z Z Z Z (ow_move Z Z (lw_on Z Z Z Z Z Z (ow_move Z Z (lw_on Z Z Z Z Z Z (ow_indexSlice (R := RVisit) Z Z Z (VRep.mono hl52 hv47) Tryd.underlying57 (Tryd.sizeOf60 _) hx14 fun p19 hp19 => lw_on Z Z Z Z Z Z (ow_fieldAddr Z Z Tryd.underlying60 Z (Tryd.sizeOf3 _) (lw_on Z Z Z Z Z Z (ow_load (R := RInt) Z Z (hp19.fld fld_Visit_Chain) (Tryd.sizeOf3 _) (Tryd.isAgg3 _) fun v51 hv51 => ?_))))))))
         obtain rfl := vint_eq hv51
         refine lw_on Z Z Z Z Z Z (ow_geq Z Z Z fun bb14 hbb14 => lw_op Z Z Z (ow_pickF Z Z Z (lw_op Z Z Z (ow_move Z Z ?_))))
         replace hb15 := cond_some hb15
         rcases hb15 with ⟨hc15, hb15⟩ | ⟨hc15, hb15⟩
         ·
          obtain rfl := hbb14.trans hc15
          refine lw_off Z Z Z Z Z Z (lw_off Z Z Z Z Z Z (lw_off Z Z Z Z Z Z (lw_off Z Z Z Z Z Z (lw_off Z Z Z Z Z Z (lw_off Z Z Z Z Z Z (lw_off Z Z Z Z Z Z (lw_off Z Z Z Z Z Z (lw_off Z Z Z Z Z Z (lw_op Z Z Z (ow_pickT Z Z Z (lw_nil (ew_then (cw_true Z (cw_seq (cw_region (lw_op Z Z Z (ow_assign Z Z (lw_nil (ew_then (cw_ret (ew_blockR (ew_thenR (ew_thenR (ew_blockR (ew_brkR (ew_thenR ?_))))))))))))))))))))))))))
          have e15 := hR4 _ (Option.some.inj hb15).symm
          subst e15
          obtain rfl := Option.some.inj h
          exact ew_ret (res1 Z (.tmp Z)) ⟨_, Z, ((vbool _)), hC52.bx⟩
         ·
          obtain rfl := hbb14.trans hc15
          refine lw_on Z Z Z Z Z Z (ow_move Z Z (lw_on Z Z Z Z Z Z (ow_move Z Z (lw_on Z Z Z Z Z Z (ow_move Z Z (lw_on Z Z Z Z Z Z (ow_indexSlice (R := RVisit) Z Z Z (VRep.mono hl52 hv47) Tryd.underlying57 (Tryd.sizeOf60 _) hx14 fun p20 hp20 => lw_on Z Z Z Z Z Z (ow_fieldAddr Z Z Tryd.underlying60 Z (Tryd.sizeOf3 _) (lw_on Z Z Z Z Z Z (ow_load (R := RInt) Z Z (hp20.fld fld_Visit_Chain) (Tryd.sizeOf3 _) (Tryd.isAgg3 _) fun v52 hv52 => ?_))))))))))
          obtain rfl := vint_eq hv52
          replace hb15 := bind_some hb15
          obtain ⟨x15, hx15, hb15⟩ := hb15
          refine lw_on Z Z Z Z Z Z (ow_indexRow (R := RBool) Z Z Z hw8 Tryd.underlying56 (Tryd.sizeOf4 _) hx15 (lw_on Z Z Z Z Z Z (ow_loadElRow (R := RBool) (S := RBool) Z Z Z hw8 (orow_blk hw8 hx15) hx15 (Fld.whole RBool) (Tryd.sizeOf4 _) (Tryd.isAgg4 _) fun v53 hv53 => ?_)))
          obtain rfl := vbool_eq hv53
          refine lw_on Z Z Z Z Z Z (ow_not Z Z (lw_op Z Z Z (ow_pickF Z Z Z (lw_nil (ew_then ?_)))))
          replace hb15 := cond_some hb15
          rcases hb15 with ⟨hc16, hb15⟩ | ⟨hc16, hb15⟩
          ·
           subst hc16
           exact cw_false Z (cw_skip (ew_blockN (ew_then (cw_region (lw_op Z Z Z (ow_move Z Z (lw_op Z Z Z (ow_add Z Z Z (lw_op Z Z Z (ow_assign Z Z (lw_nil (ew_nxt ((W (k7 + 1)), y7) hb15 fun a ha => ⟨M8, (ha.sub ⟨Z, Z, Z, trivial⟩), hl52, hC52, hw8⟩))))))))))))
          ·
           subst hc16
           refine cw_true Z (cw_seq (cw_region (lw_op Z Z Z (ow_assign Z Z (lw_nil (ew_then (cw_ret (ew_blockR (ew_thenR (ew_thenR (ew_blockR (ew_brkR (ew_thenR ?_)))))))))))))
           have e16 := hR4 _ (Option.some.inj hb15).symm
           subst e16
           obtain rfl := Option.some.inj h
           exact ew_ret (res1 Z (.tmp Z)) ⟨_, Z, ((vbool _)), hC52.bx⟩
       ·
        obtain rfl := hbb12.trans hc13
        exact cw_false Z (cw_exit (ew_thenX (ew_thenX (ew_blockX (ew_brk (k7, y7) hb15 fun a ha => ⟨M8, (ha.sub ⟨Z, Z, Z, trivial⟩), hl52, hC52, hw8⟩)))))
      ·
       rintro ⟨k8, y8⟩ a w53 hlr8 ⟨M9, hF8, hl53, hC53, hw9⟩
       subst hlr8
       refine ew_at (E := [(5, v10), (10, v47), (11, (.int .i64 k8))]) hF8 (ew_then (cw_seq (cw_region (lw_op Z Z Z (ow_move Z Z ?_)))))
       replace h := bind_some h
       obtain ⟨x16, hx16, h⟩ := h
       refine lw_op Z Z Z (ow_indexRow (R := RBool) Z Z Z hw9 Tryd.underlying56 (Tryd.sizeOf4 _) hx16 (lw_op Z Z Z (ow_loadElRow (R := RBool) (S := RBool) Z Z Z hw9 (orow_blk hw9 hx16) hx16 (Fld.whole RBool) (Tryd.sizeOf4 _) (Tryd.isAgg4 _) fun v56 hv56 => ?_)))
       obtain rfl := vbool_eq hv56
       refine lw_op Z Z Z (ow_assign Z Z (lw_nil (ew_then (cw_ret ?_))))
       obtain rfl := Option.some.inj h
       exact ew_ret (res1 Z (.tmp Z)) ⟨_, Z, ((vbool _)), hC53.bx⟩
  ·
   subst hc2
   refine cw_true Z (cw_seq (cw_region (lw_op Z Z Z (ow_assign Z Z (lw_nil (ew_then (cw_ret (ew_thenR ?_))))))))
   obtain rfl := Option.some.inj h
   exact ew_ret (res1 Z (.tmp Z)) ⟨_, Z, ((vbool _)), hC5.bx⟩


end Go.PF
