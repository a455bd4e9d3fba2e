/- The walks; no condition. -/
import Derived.Test.YtgglogmjjaahhaaDoorProg
import Derived.Test.YtgglogmjjaahhaaDoorWk2
import Derived.Test.YtgglogmjjaahhaaDoorPFFresh
set_option maxRecDepth 100000
set_option maxHeartbeats 4000000
namespace Go.PF
open Go Go.RowKit Go.Proofs

theorem wo_spec_l20Rules {w : World} {M : Nat → Prop} (hG : ARep (RArr 4 RShape) w M shapes ⟨0, 0, none⟩) (hO : ∀ b, M b → b < w.heap.size) {g : Nat} {Ax : Option Addr} {cx : Nat} {a_xs : List Int} {a_pos : Int} (hxs : VRep (RSlice RU8) w M a_xs (.slice Ax a_xs.length cx)) (hown : Own w g 111 #[.slice Ax a_xs.length cx, .int .i64 a_pos]) (hgM : M g) {a_first : Int} {a_chains : Int} {a_n : Int} {r : ((List Rule)) × Int} (h : F.spec_l20Rules a_xs a_pos a_first a_chains a_n = some r) :
  Calls Tryd.prog 59 [(.pointer (some ⟨g, 0, none⟩)), (.int .i64 a_first), (.int .i64 a_chains), (.int .i64 a_n)].toArray w fun e w' => ∃ v, e = .returned v ∧ ((∃ M', OwnRow RRule w.heap.size 42 w' M' r.1 v ∧ Cx (One g) w M w' M') ∧ Own w' g 111 #[.slice Ax a_xs.length cx, .int .i64 r.2]) ∧ BX (One g) w w' := by
 obtain ⟨i42, hi42, hz42, hs42, hy42⟩ := info42
 have hX : ∀ b, (One g) b → M b := fun b e => e ▸ hgM
 have hC : Cx (One g) w M w M := Cx.start hO hX
 refine walk (N := 46) Tryd.func59 Z Tryd.ntmps59 Z (cw_seq (cw_region (lw_op Z Z Z (ow_assign Z Z (lw_nil (ew_then (cw_seq (cw_region (lw_op Z Z Z (ow_buildSlice0 (R := RRule) (e := 42) Z (by kernel_rfl) hC fun p1 w1 M1 hr1 hb1 hl1 hC1 hM1 hat1 => ?_))))))))))
 have ho1 := hown.no hb1
 have hm1 := hM1 _ hgM
 refine lw_op Z Z Z (ow_assign Z Z (lw_nil (ew_then (cw_seq (cw_seq (cw_region (lw_op Z Z Z (ow_move Z Z ?_))))))))
 replace h := bind_some h
 obtain ⟨x1, hx1, h⟩ := h
 refine lw_op Z Z Z (ow_call Z Z Tryd.call60 (w_spec_l20Rd_pick (hG.mono hl1) hC1.old (VRep.mono hl1 hxs) ho1 hm1 hx1) fun v1 w2 hv1 => ?_)
 obtain ⟨⟨hv1, ho2⟩, hb2⟩ := hv1
 have hl2 := Le.of_bx M1 hb2 (fun b e => (by rw [show b = g from e]; exact hm1))
 have hC2 := hC1.go hb2 (fun b e => Or.inr e)
 have hr2 := hr1.go hb2 (fun k hk e => (orow_ne hr1 ho1 (by decide)) (hk.trans (congrArg some e))) hl2 (fun _ h => h)
 obtain rfl := vint_eq hv1
 refine lw_op Z Z Z (ow_assign Z Z (lw_nil (ew_then ?_)))
 replace h := bind_some h
 obtain ⟨lr1, hlr1, h⟩ := h
 refine cw_for hlr1 (fun s a w' => ∃ (M' : Nat → Prop) (v0c : Value), Fits 46 [(0, (.pointer (some ⟨g, 0, none⟩))), (1, (.int .i64 a_first)), (2, (.int .i64 a_chains)), (3, (.int .i64 a_n)), (9, v0c), (10, (.int .i64 s.2.1))] a ∧ Le w2 M1 w' M' ∧ Cx (One g) w M w' M' ∧ OwnRow RRule w.heap.size 42 w' M' s.1 v0c ∧ Own w' g 111 #[(.slice Ax a_xs.length cx), (.int .i64 s.2.2)] ∧ M' g) ?_ ?_ ?_
 ·
  intro a ha
  exact ⟨M1, (.slice (some p1) 0 0), ha.sub ⟨Z, Z, Z, Z, Z, Z, trivial⟩, Le.refl _ _, hC2, hr2, ho2, hm1⟩
 ·
  rintro ⟨y1, k1, k2⟩ a w3 sr1 ⟨M2, v2, hF1, hl3, hC3, hw1, ho3, hm2⟩ hb3 hR1
  refine cw_at (E := [(0, (.pointer (some ⟨g, 0, none⟩))), (1, (.int .i64 a_first)), (2, (.int .i64 a_chains)), (3, (.int .i64 a_n)), (9, v2), (10, (.int .i64 k1))]) hF1 (cw_seq (cw_seq (cw_region (lw_op Z Z Z (ow_move Z Z (lw_op Z Z Z (ow_gtr Z Z Z fun bb1 hbb1 => lw_nil (ew_then ?_))))))))
  replace hb3 := cond_some hb3
  rcases hb3 with ⟨hc1, hb3⟩ | ⟨hc1, hb3⟩
  ·
   obtain rfl := hbb1.trans hc1
   refine cw_true Z (cw_skip (ew_then (cw_seq (cw_block (cw_region (lw_op Z Z Z (ow_move Z Z (lw_op Z Z Z (ow_move Z Z (lw_op Z Z Z (ow_move Z Z (lw_op Z Z Z (ow_move Z Z ?_)))))))))))))
   have lz1 := ((hl1.trans hl2).trans hl3)
   replace hb3 := bind_some hb3
   obtain ⟨x2, hx2, hb3⟩ := hb3
   refine lw_op Z Z Z (ow_call Z Z Tryd.call89 (w_spec_l20Rule (hG.mono lz1) hC3.old (VRep.mono lz1 hxs) ho3 hm2 hx2) fun v5 w4 hv5 => ?_)
   obtain ⟨⟨hv5, ho4⟩, hb4⟩ := hv5
   have hl4 := Le.of_bx M2 hb4 (fun b e => (by rw [show b = g from e]; exact hm2))
   have hC4 := hC3.go hb4 (fun b e => Or.inr e)
   have hr3 := hw1.go hb4 (fun k hk e => (orow_ne hw1 ho3 (by decide)) (hk.trans (congrArg some e))) hl4 (fun _ h => h)
   obtain ⟨A1, c1, rfl, hw2⟩ := open_Rule hv5
   refine lw_op Z Z Z (ow_buildSlice (R := RRule) (xs := [x2.1]) (cs := #[(.slice A1 x2.1.Tests.length c1), (.int .i64 x2.1.Action), (.int .i64 x2.1.Chain)]) (e := 42) Z Z (by kernel_rfl) Z Z ⟨_, _, Z, hv5.cells, Z⟩ hC4 fun p2 w5 hw3 hb5 hl5 hC5 => ?_)
   have ho5 := ho4.no hb5
   have hr4 := hr3.no hb5
   replace hb3 := bind_some hb3
   obtain ⟨z1, hz1, hb3⟩ := hb3
   refine lw_op Z Z Z (ow_append (R := RRule) Z Z Z Z Tryd.underlying36 hi42 hz42 hs42 hy42 Z Z Z Z hr4 hw3 hz1 hC5 fun v6 w6 M3 hr5 hb6 hl6 hC6 hM2 hat2 => ?_)
   have ho6 := ho5.go hb6 (fun e => (orow_ne hr4 ho5 (by decide)) e)
   have hm3 := hM2 _ hm2
   refine lw_op Z Z Z (ow_assign Z Z (lw_nil (ew_blockN (ew_then (cw_region (lw_op Z Z Z (ow_move Z Z (lw_op Z Z Z (ow_sub Z Z Z (lw_op Z Z Z (ow_assign Z Z (lw_nil ?_))))))))))))
   have lz2 := (((hl3.trans hl4).trans hl5).trans hl6)
   exact ew_nxt (z1, (W (k1 - 1)), x2.2) hb3 fun a ha => ⟨M3, v6, (ha.sub ⟨Z, Z, Z, Z, Z, Z, trivial⟩), lz2, hC6, hr5, ho6, hm3⟩
  ·
   obtain rfl := hbb1.trans hc1
   exact cw_false Z (cw_exit (ew_thenX (ew_thenX (ew_blockX (ew_brk (y1, k1, k2) hb3 fun a ha => ⟨M2, v2, (ha.sub ⟨Z, Z, Z, Z, Z, Z, trivial⟩), hl3, hC3, hw1, ho3, hm2⟩)))))
 ·
  rintro ⟨y2, k3, k4⟩ a w7 hlr2 ⟨M4, v7, hF2, hl7, hC7, hw4, ho7, hm4⟩
  subst hlr2
  refine ew_at (E := [(0, (.pointer (some ⟨g, 0, none⟩))), (1, (.int .i64 a_first)), (2, (.int .i64 a_chains)), (3, (.int .i64 a_n)), (9, v7), (10, (.int .i64 k3))]) hF2 (ew_then (cw_seq (cw_seq (cw_region (lw_op Z Z Z (ow_move Z Z (lw_op Z Z Z (ow_move Z Z ?_))))))))
  have lz3 := ((hl1.trans hl2).trans hl7)
  replace h := bind_some h
  obtain ⟨x3, hx3, h⟩ := h
  refine lw_op Z Z Z (ow_call Z Z Tryd.call81 (w_spec_l20Rd_odd (hG.mono lz3) hC7.old (VRep.mono lz3 hxs) ho7 hm4 hx3) fun v10 w8 hv10 => ?_)
  obtain ⟨⟨hv10, ho8⟩, hb7⟩ := hv10
  have hl8 := Le.of_bx M4 hb7 (fun b e => (by rw [show b = g from e]; exact hm4))
  have hC8 := hC7.go hb7 (fun b e => Or.inr e)
  have hr6 := hw4.go hb7 (fun k hk e => (orow_ne hw4 ho7 (by decide)) (hk.trans (congrArg some e))) hl8 (fun _ h => h)
  obtain ⟨bb2, hbb2, rfl⟩ := vbool_ex hv10
  refine lw_nil (ew_then ?_)
  replace h := cond_some h
  rcases h with ⟨hc2, h⟩ | ⟨hc2, h⟩
  ·
   obtain rfl := hbb2.trans hc2
   refine cw_true Z (cw_seq (cw_region (lw_op Z Z Z (ow_move Z Z ?_))))
   replace h := bind_some h
   obtain ⟨x4, hx4, h⟩ := h
   refine lw_op Z Z Z (ow_call Z Z Tryd.call60 (w_spec_l20Rd_pick (hG.mono (lz3.trans hl8)) hC8.old (VRep.mono (lz3.trans hl8) hxs) ho8 hm4 hx4) fun v11 w9 hv11 => ?_)
   obtain ⟨⟨hv11, ho9⟩, hb8⟩ := hv11
   have hl9 := Le.of_bx M4 hb8 (fun b e => (by rw [show b = g from e]; exact hm4))
   have hC9 := hC8.go hb8 (fun b e => Or.inr e)
   have hr7 := hr6.go hb8 (fun k hk e => (orow_ne hr6 ho8 (by decide)) (hk.trans (congrArg some e))) hl9 (fun _ h => h)
   obtain rfl := vint_eq hv11
   refine lw_op Z Z Z (ow_eqlI Z Z Z fun bb3 hbb3 => lw_nil (ew_then ?_))
   replace h := cond_some h
   rcases h with ⟨hc3, h⟩ | ⟨hc3, h⟩
   ·
    obtain rfl := hbb3.trans hc3
    refine cw_true Z (cw_region (lw_op Z Z Z (ow_move Z Z (lw_op Z Z Z (ow_move Z Z (lw_op Z Z Z (ow_move Z Z (lw_op Z Z Z (ow_move Z Z ?_)))))))))
    have lz4 := ((lz3.trans hl8).trans hl9)
    replace h := bind_some h
    obtain ⟨x5, hx5, h⟩ := h
    refine lw_op Z Z Z (ow_call Z Z Tryd.call89 (w_spec_l20Rule (hG.mono lz4) hC9.old (VRep.mono lz4 hxs) ho9 hm4 hx5) fun v12 w10 hv12 => ?_)
    obtain ⟨⟨hv12, ho10⟩, hb9⟩ := hv12
    have hl10 := Le.of_bx M4 hb9 (fun b e => (by rw [show b = g from e]; exact hm4))
    have hC10 := hC9.go hb9 (fun b e => Or.inr e)
    have hr8 := hr7.go hb9 (fun k hk e => (orow_ne hr7 ho9 (by decide)) (hk.trans (congrArg some e))) hl10 (fun _ h => h)
    obtain ⟨A2, c2, rfl, hw5⟩ := open_Rule hv12
    refine lw_op Z Z Z (ow_buildSlice (R := RRule) (xs := [x5.1]) (cs := #[(.slice A2 x5.1.Tests.length c2), (.int .i64 x5.1.Action), (.int .i64 x5.1.Chain)]) (e := 42) Z Z (by kernel_rfl) Z Z ⟨_, _, Z, hv12.cells, Z⟩ hC10 fun p3 w11 hw6 hb10 hl11 hC11 => ?_)
    have ho11 := ho10.no hb10
    have hr9 := hr8.no hb10
    replace h := bind_some h
    obtain ⟨z2, hz2, h⟩ := h
    refine lw_op Z Z Z (ow_append (R := RRule) Z Z Z Z Tryd.underlying36 hi42 hz42 hs42 hy42 Z Z Z Z hr9 hw6 hz2 hC11 fun v13 w12 M5 hr10 hb11 hl12 hC12 hM3 hat3 => ?_)
    have ho12 := ho11.go hb11 (fun e => (orow_ne hr9 ho11 (by decide)) e)
    refine lw_op Z Z Z (ow_assign Z Z (lw_nil (ew_then (cw_seq (cw_region (lw_op Z Z Z (ow_move Z Z (lw_op Z Z Z (ow_assign Z Z (lw_nil (ew_then (cw_ret ?_))))))))))))
    obtain rfl := Option.some.inj h
    exact ew_ret (res1 Z (.tmp Z)) ⟨_, Z, ⟨⟨M5, hr10, hC12⟩, ho12⟩, hC12.bx⟩
   ·
    obtain rfl := hbb3.trans hc3
    refine cw_false Z ?_
    replace h := bind_some h
    obtain ⟨lr2, hlr3, h⟩ := h
    refine cw_for hlr3 (fun s a w' => ∃ (M' : Nat → Prop) (v0c : Value), Fits 46 [(9, v0c)] a ∧ Le w9 M4 w' M' ∧ Cx (One g) w M w' M' ∧ OwnRow RRule w.heap.size 42 w' M' s v0c ∧ Own w' g 111 #[(.slice Ax a_xs.length cx), (.int .i64 x4.2)] ∧ M' g) ?_ ?_ ?_
    ·
     intro a ha
     exact ⟨M4, v7, ha.sub ⟨Z, trivial⟩, Le.refl _ _, hC9, hr7, ho9, hm4⟩
    ·
     rintro y3 a w13 sr2 ⟨M6, v14, hF3, hl13, hC13, hw7, ho13, hm6⟩ hb12 hR2
     refine cw_at (E := [(9, v14)]) hF3 (cw_seq (cw_seq (cw_region (lw_op Z Z Z (ow_move Z Z (lw_op Z Z Z (ow_lenOwn Z Z hw7 Tryd.underlying36 (lw_op Z Z Z (ow_leq Z Z Z fun bb4 hbb4 => lw_nil (ew_then ?_))))))))))
     replace hb12 := cond_some hb12
     rcases hb12 with ⟨hc4, hb12⟩ | ⟨hc4, hb12⟩
     ·
      obtain rfl := hbb4.trans hc4
      refine cw_true Z (cw_skip (ew_then (cw_block (cw_region (lw_op Z Z Z (ow_move Z Z (lw_op Z Z Z (ow_build (v := .agg #[(.slice none 0 0), (.int .i64 5), (.int .i64 0)]) Z Z (by kernel_rfl) ?_))))))))
      have hw8 : VRep RRule w13 M6 ({ Tests := ([] : List Test), Action := 5, Chain := 0 } : Rule) (.agg #[(.slice none 0 0), (.int .i64 5), (.int .i64 0)]) := shut_Rule (vslice_nil (R := RTest) (w := w13) (M := M6))
      refine lw_op Z Z Z (ow_buildSlice (R := RRule) (xs := [({ Tests := ([] : List Test), Action := 5, Chain := 0 } : Rule)]) (cs := #[(.slice none 0 0), (.int .i64 5), (.int .i64 0)]) (e := 42) Z Z (by kernel_rfl) Z Z ⟨_, _, Z, hw8.cells, Z⟩ hC13 fun p4 w14 hw9 hb13 hl14 hC14 => ?_)
      have ho14 := ho13.no hb13
      have hr11 := hw7.no hb13
      replace hb12 := bind_some hb12
      obtain ⟨z3, hz3, hb12⟩ := hb12
      refine lw_op Z Z Z (ow_append (R := RRule) Z Z Z Z Tryd.underlying36 hi42 hz42 hs42 hy42 Z Z Z Z hr11 hw9 hz3 hC14 fun v15 w15 M7 hr12 hb14 hl15 hC15 hM4 hat4 => ?_)
      have ho15 := ho14.go hb14 (fun e => (orow_ne hr11 ho14 (by decide)) e)
      have hm7 := hM4 _ hm6
      refine lw_op Z Z Z (ow_assign Z Z (lw_nil (ew_blockN ?_)))
      have lz5 := ((hl13.trans hl14).trans hl15)
      exact ew_nxt z3 hb12 fun a ha => ⟨M7, v15, (ha.sub ⟨Z, trivial⟩), lz5, hC15, hr12, ho15, hm7⟩
     ·
      obtain rfl := hbb4.trans hc4
      exact cw_false Z (cw_exit (ew_thenX (ew_thenX (ew_blockX (ew_brk y3 hb12 fun a ha => ⟨M6, v14, (ha.sub ⟨Z, trivial⟩), hl13, hC13, hw7, ho13, hm6⟩)))))
    ·
     rintro y4 a w16 hlr4 ⟨M8, v16, hF4, hl16, hC16, hw10, ho16, hm8⟩
     subst hlr4
     refine ew_at (E := [(9, v16)]) hF4 (ew_then (cw_seq (cw_region (lw_op Z Z Z (ow_move Z Z (lw_op Z Z Z (ow_assign Z Z (lw_nil (ew_then (cw_ret ?_))))))))))
     obtain rfl := Option.some.inj h
     exact ew_ret (res1 Z (.tmp Z)) ⟨_, Z, ⟨⟨M8, hw10, hC16⟩, ho16⟩, hC16.bx⟩
  ·
   obtain rfl := hbb2.trans hc2
   refine cw_false Z (cw_skip (ew_then (cw_seq (cw_region (lw_op Z Z Z (ow_move Z Z (lw_op Z Z Z (ow_assign Z Z (lw_nil (ew_then (cw_ret ?_)))))))))))
   obtain rfl := Option.some.inj h
   exact ew_ret (res1 Z (.tmp Z)) ⟨_, Z, ⟨⟨M4, hr6, hC8⟩, ho8⟩, hC8.bx⟩

theorem w_spec_l20Ruleset {w : World} {M : Nat → Prop} (hG : ARep (RArr 4 RShape) w M shapes ⟨0, 0, none⟩) (hO : ∀ b, M b → b < w.heap.size) {g : Nat} {Ax : Option Addr} {cx : Nat} {a_xs : List Int} {a_pos : Int} (hxs : VRep (RSlice RU8) w M a_xs (.slice Ax a_xs.length cx)) (hown : Own w g 111 #[.slice Ax a_xs.length cx, .int .i64 a_pos]) (hgM : M g) {a_n : Int} {r : Ruleset × Int} (h : F.spec_l20Ruleset a_xs a_pos a_n = some r) :
  Calls Tryd.prog 65 [(.pointer (some ⟨g, 0, none⟩)), (.int .i64 a_n)].toArray w fun e w' => ∃ v, e = .returned v ∧ (VRep RRuleset w' M r.1 v ∧ Own w' g 111 #[.slice Ax a_xs.length cx, .int .i64 r.2]) ∧ BX (One g) w w' := by
 obtain ⟨i36, hi36, hz36, hs36, hy36⟩ := info36
 obtain ⟨i42, hi42, hz42, hs42, hy42⟩ := info42
 have hX : ∀ b, (One g) b → M b := fun b e => e ▸ hgM
 have hC : Cx (One g) w M w M := Cx.start hO hX
 refine walk (N := 80) Tryd.func65 Z Tryd.ntmps65 Z (cw_seq (cw_region (lw_op Z Z Z (ow_alloc Z (Tryd.zeroValue45 _) hC fun g1 w1 hg1 hg2 ho1 hb1 hl1 hC1 => ?_))))
 have hn1 := Nat.ne_of_lt (Nat.lt_of_lt_of_le hown.lt hg1)
 have ho2 := hown.no hb1
 have hm1 : (Add g1 M) g := .inr hgM
 have hm2 : (Add g1 M) g1 := .inl Z
 refine lw_nil (ew_then (cw_seq (cw_region (lw_op Z Z Z (ow_move Z Z ?_)))))
 replace h := bind_some h
 obtain ⟨x1, hx1, h⟩ := h
 refine lw_op Z Z Z (ow_call Z Z Tryd.call60 (w_spec_l20Rd_pick (hG.mono hl1) hC1.old (VRep.mono hl1 hxs) ho2 hm1 hx1) fun v1 w2 hv1 => ?_)
 obtain ⟨⟨hv1, ho3⟩, hb2⟩ := hv1
 have hl2 := Le.of_bx (Add g1 M) hb2 (fun b e => (by rw [show b = g from e]; exact hm1))
 have hC2 := hC1.go hb2 (fun b e => Or.inr e)
 have ho4 := ho1.go hb2 (fun e => hn1 e.symm)
 obtain rfl := vint_eq hv1
 refine lw_op Z Z Z (ow_eqlI Z Z Z fun bb1 hbb1 => lw_op Z Z Z (ow_build (v := .agg #[(.slice none 0 0), (.bool bb1)]) Z Z (by kernel_rfl) (lw_op Z Z Z (ow_alloc Z (Tryd.zeroValue45 _) hC2 fun g2 w3 hg3 hg4 ho5 hb3 hl3 hC3 => ?_))))
 have hn2 := Nat.ne_of_lt (Nat.lt_of_lt_of_le ho3.lt hg3)
 have ho6 := ho3.no hb3
 have hm3 : (Add g2 (Add g1 M)) g := .inr hm1
 have hn3 := Nat.ne_of_lt (Nat.lt_of_lt_of_le ho4.lt hg3)
 have ho7 := ho4.no hb3
 have hm4 : (Add g2 (Add g1 M)) g1 := .inr hm2
 have hm5 : (Add g2 (Add g1 M)) g2 := .inl Z
 refine lw_op0 Z Z (ow_store (X := (One g)) (us := [(.slice none 0 0), (.bool bb1)]) (cs' := #[(.slice none 0 0), (.bool bb1)]) Z Z Z Z ho5 (Tryd.sizeOf45 _) Z Z Z Z hm5 (.inl hg4) Z hC3 fun w4 ho8 hb4 hl4 hC4 => ?_)
 have ho9 := ho6.go hb4 (fun e => hn2 e)
 have ho10 := ho7.go hb4 (fun e => hn3 e)
 refine lw_nil (ew_then (cw_seq (cw_region (lw_op Z Z Z (ow_move Z Z ?_)))))
 have lz1 := (((hl1.trans hl2).trans hl3).trans hl4)
 replace h := bind_some h
 obtain ⟨x2, hx2, h⟩ := h
 refine lw_op Z Z Z (ow_call Z Z Tryd.call60 (w_spec_l20Rd_pick (hG.mono lz1) hC4.old (VRep.mono lz1 hxs) ho9 hm3 hx2) fun v2 w5 hv2 => ?_)
 obtain ⟨⟨hv2, ho11⟩, hb5⟩ := hv2
 have hl5 := Le.of_bx (Add g2 (Add g1 M)) hb5 (fun b e => (by rw [show b = g from e]; exact hm3))
 have hC5 := hC4.go hb5 (fun b e => Or.inr e)
 have ho12 := ho10.go hb5 (fun e => hn1 e.symm)
 have ho13 := ho8.go hb5 (fun e => hn2 e.symm)
 obtain rfl := vint_eq hv2
 refine lw_op Z Z Z (ow_add Z Z Z (lw_op Z Z Z (ow_assign Z Z (lw_nil (ew_then (cw_seq (cw_seq (cw_region (lw_op Z Z Z (ow_assign Z Z (lw_nil (ew_then ?_))))))))))))
 have hr1 : HRow RRule w.heap.size 36 42 w5 (Add g2 (Add g1 M)) ([] : List (List Rule)) (.slice none 0 0) := hrow_nil
 replace h := bind_some h
 obtain ⟨lr1, hlr1, h⟩ := h
 refine cw_for hlr1 (fun s a w' => ∃ (M' : Nat → Prop) (v2c : Value), Fits 80 [(0, (.pointer (some ⟨g, 0, none⟩))), (1, (.int .i64 a_n)), (4, (.pointer (some ⟨g1, 0, none⟩))), (5, (.pointer (some ⟨g2, 0, none⟩))), (6, (.int .i64 (W (1 + x2.1)))), (7, (.int .i64 s.1))] a ∧ Le w5 (Add g2 (Add g1 M)) w' M' ∧ Cx (One g) w M w' M' ∧ HRow RRule w.heap.size 36 42 w' M' s.2.2 v2c ∧ Own w' g 111 #[(.slice Ax a_xs.length cx), (.int .i64 s.2.1)] ∧ M' g ∧ Own w' g1 45 #[(.slice none 0 0), (.bool false)] ∧ M' g1 ∧ Own w' g2 45 #[v2c, (.bool bb1)] ∧ M' g2) ?_ ?_ ?_
 ·
  intro a ha
  exact ⟨(Add g2 (Add g1 M)), (.slice none 0 0), ha.sub ⟨Z, Z, Z, Z, Z, Z, trivial⟩, Le.refl _ _, hC5, hr1, ho11, hm3, ho12, hm4, ho13, hm5⟩
 ·
  rintro ⟨k1, k2, y1⟩ a w6 sr1 ⟨M1, v5, hF1, hl6, hC6, hw2, ho14, hm6, ho15, hm7, ho16, hm8⟩ hb6 hR1
  refine cw_at (E := [(0, (.pointer (some ⟨g, 0, none⟩))), (1, (.int .i64 a_n)), (4, (.pointer (some ⟨g1, 0, none⟩))), (5, (.pointer (some ⟨g2, 0, none⟩))), (6, (.int .i64 (W (1 + x2.1)))), (7, (.int .i64 k1))]) hF1 (cw_seq (cw_seq (cw_region (lw_op Z Z Z (ow_move Z Z (lw_op Z Z Z (ow_move Z Z (lw_op Z Z Z (ow_lss Z Z Z fun bb2 hbb2 => lw_nil (ew_then ?_))))))))))
  replace hb6 := cond_some hb6
  rcases hb6 with ⟨hc1, hb6⟩ | ⟨hc1, hb6⟩
  ·
   obtain rfl := hbb2.trans hc1
   refine cw_true Z (cw_skip (ew_then (cw_seq (cw_block ?_))))
   have lz2 := ((lz1.trans hl5).trans hl6)
   replace hb6 := bind_some hb6
   obtain ⟨x3, hx3, hb6⟩ := hb6
   replace hb6 := bind_some hb6
   obtain ⟨z1, hz1, hb6⟩ := hb6
   refine cw_sub (E' := [(0, (.pointer (some ⟨g, 0, none⟩))), (1, (.int .i64 a_n)), (4, (.pointer (some ⟨g1, 0, none⟩))), (5, (.pointer (some ⟨g2, 0, none⟩))), (6, (.int .i64 (W (1 + x2.1)))), (7, (.int .i64 k1))]) ⟨Z, Z, Z, Z, Z, Z, trivial⟩ (cw_drawC (g := g) (T := 111) 8 1 [none, none, none, none, none, none, some 0, none] [#[(.slice Ax a_xs.length cx), (.int .i64 k2)], #[(.slice Ax a_xs.length cx), (.int .i64 x3.2)]] [PEq (.pointer (some ⟨g2, 0, none⟩)), PEq v5, PEq (.pointer (some ⟨g, 0, none⟩)), PEq (.int .i64 k1), PEq (.int .i64 (W (k1 + 1))), PEq (.int .i64 (W (1 + x2.1))), PNR RRule w.heap.size 42 (One g) w M w6 M1 x3.1, PNL RRule w.heap.size 42 (One g) w M w6 M1 x3.1] (by kernel_rfl) Z (by kernel_rfl) (by kernel_rfl) ho14 ⟨(PEq.monoY hm6 _), (PEq.monoY hm6 _), (PEq.monoY hm6 _), (PEq.monoY hm6 _), (PEq.monoY hm6 _), (PEq.monoY hm6 _), (PNR.monoY hm6 ho14.lt (.inr Z)), (PNL.monoY hm6 ho14.lt (.inr Z)), trivial⟩ ⟨?_, ?_, ?_, ?_, ?_, ?_, ?_, ?_, trivial⟩ ?_)
   ·
    intro wa D hSa hda
    exact dg_sub (E' := [(5, (.pointer (some ⟨g2, 0, none⟩)))]) ⟨Z, trivial⟩ (dg_plain Z (ow_fieldAddr Z Z Tryd.underlying45 Z (Tryd.sizeOf43 _) ⟨BX.refl _ _, Z⟩))
   ·
    intro wa D hSa hda
    exact dg_sub (E' := [(20, (.pointer (some ⟨g2, 0, none⟩)))]) ⟨dpE hda 0 Z Z, trivial⟩ (dg_plain Z (ow_loadOwn1 Z Z Z (ho16.go hSa (fun e => hn2 e.symm)) (Tryd.isAgg43 _) Z ⟨BX.refl _ _, Z⟩))
   ·
    intro wa D hSa hda
    exact dg_sub (E' := [(0, (.pointer (some ⟨g, 0, none⟩)))]) ⟨Z, trivial⟩ (dg_plain Z (ow_move Z Z ⟨BX.refl _ _, Z⟩))
   ·
    intro wa D hSa hda
    exact dg_sub (E' := [(7, (.int .i64 k1))]) ⟨Z, trivial⟩ (dg_plain Z (ow_move Z Z ⟨BX.refl _ _, Z⟩))
   ·
    intro wa D hSa hda
    exact dg_sub (E' := [(23, (.int .i64 k1))]) ⟨dpE hda 3 Z Z, trivial⟩ (dg_plain Z (ow_add Z Z Z ⟨BX.refl _ _, Z⟩))
   ·
    intro wa D hSa hda
    exact dg_sub (E' := [(6, (.int .i64 (W (1 + x2.1))))]) ⟨Z, trivial⟩ (dg_plain Z (ow_move Z Z ⟨BX.refl _ _, Z⟩))
   ·
    intro wa D hSa hda
    obtain ⟨hSa, hOa⟩ := hSa
    have hOa : Own wa g 111 #[(.slice Ax a_xs.length cx), (.int .i64 k2)] := hOa
    have hla := leY hm6 hSa
    have hCa := hC6.go hSa (fun b e => Or.inr e)
    refine dg_sub (E' := [(22, (.pointer (some ⟨g, 0, none⟩))), (24, (.int .i64 (W (k1 + 1)))), (25, (.int .i64 (W (1 + x2.1))))]) ⟨dpE hda 2 Z Z, dpE hda 4 Z Z, dpE hda 5 Z Z, trivial⟩ (dg_plain Z (ow_call Z Z Tryd.call59 (wo_spec_l20Rules (hG.mono (lz2.trans hla)) hCa.old (VRep.mono hla (VRep.mono lz2 hxs)) hOa hm6 hx3) fun va wb hva => ?_))
    obtain ⟨⟨⟨Mb, hrb, hkb⟩, hOb⟩, hbb⟩ := hva
    exact ⟨⟨⟨hSa.trans hbb, hOb⟩, hbb⟩, Mb, hrb.base hCa.bx.size, hla.trans (hkb.leY (fun b e => by rw [show b = g from e]; exact hm6)), hCa.trans2 hkb (fun b e => .inr e), hkb.sup, fun b e => Nat.le_trans hSa.size (hrb.block e).1⟩
   ·
    intro wa D hSa hda
    have hd6 : PNR RRule w.heap.size 42 (One g) w M w6 M1 x3.1 (D 6) wa := dpA hda 6 Z
    obtain ⟨Mb, hrb, hlb, hCb, hmb, hgb⟩ := hd6
    generalize hqb : (D 6) = va at hrb hgb
    obtain ⟨Ab, cb, rfl⟩ := hrb.len
    exact dg_sub (E' := [(26, .slice Ab x3.1.length cb)]) ⟨congrArg some hqb, trivial⟩ (dg_plain Z (ow_buildSlice (R := RHd) (xs := [.slice Ab x3.1.length cb]) (cs := #[.slice Ab x3.1.length cb]) (e := 36) Z Z (by kernel_rfl) Z Z ⟨_, _, Z, ⟨Z, Z⟩, Z⟩ hCb fun pb wc hwc hbc hlc hCc => ⟨hbc, _, Mb, hwc, hrb.no hbc, hlb.trans hlc, hCc, hmb, hgb⟩))
   ·
    intro w7 D hS1 hd1
    obtain ⟨hS1, ho17⟩ := hS1
    have ho17 : Own w7 g 111 #[(.slice Ax a_xs.length cx), (.int .i64 x3.2)] := ho17
    have d1 : PNL RRule w.heap.size 42 (One g) w M w6 M1 x3.1 (D 7) w7 := dpA hd1 7 Z
    obtain ⟨v6, M2, hw3, hr2, hl7, hC7, hk1, hge1⟩ := d1
    generalize hq1 : (D 7) = v7 at hw3
    have hm9 := hk1 _ hm6
    have hm10 := hk1 _ hm7
    have ho18 := ho15.go hS1 (fun e => hn1 e.symm)
    have hm11 := hk1 _ hm8
    have ho19 := ho16.go hS1 (fun e => hn2 e.symm)
    refine lw_sub (E' := [(27, v7), (21, v5), (0, (.pointer (some ⟨g, 0, none⟩))), (1, (.int .i64 a_n)), (4, (.pointer (some ⟨g1, 0, none⟩))), (5, (.pointer (some ⟨g2, 0, none⟩))), (6, (.int .i64 (W (1 + x2.1)))), (7, (.int .i64 k1))]) ⟨(congrArg some hq1), dpE hd1 1 Z Z, Z, Z, Z, Z, Z, Z, trivial⟩ (lw_op Z Z Z (ow_appendH Z Z Z Z Tryd.underlying43 hi36 hz36 hs36 hy36 Z Z Z Z hw2 hS1 ho14 (by decide) (by decide) (by decide) hw3 hr2 hl7 hk1 hge1 hz1 hC7 hX hO fun v8 w8 M3 hr3 hb7 hl8 hC8 hk2 => ?_))
    have hm12 := (hk2 _ _ _ ho17 (by decide) (by decide)).2 hm9
    have ho20 := ho17.go hb7 (fun e => (hk2 _ _ _ ho17 (by decide) (by decide)).1 e)
    have hm13 := (hk2 _ _ _ ho18 (by decide) (by decide)).2 hm10
    have ho21 := ho18.go hb7 (fun e => (hk2 _ _ _ ho18 (by decide) (by decide)).1 e)
    have hm14 := (hk2 _ _ _ ho19 (by decide) (by decide)).2 hm11
    have ho22 := ho19.go hb7 (fun e => (hk2 _ _ _ ho19 (by decide) (by decide)).1 e)
    refine lw_op Z Z Z (ow_fieldAddr Z Z Tryd.underlying45 Z (Tryd.sizeOf43 _) ?_)
    obtain ⟨A1, c1, rfl⟩ := hr3.len
    refine lw_op0 Z Z (ow_store (X := (One g)) (us := [(.slice A1 z1.length c1)]) (cs' := #[(.slice A1 z1.length c1), (.bool bb1)]) Z Z Z Z ho22 (Tryd.sizeOf43 _) Z Z Z Z hm14 (.inl hg4) Z hC8 fun w9 ho23 hb8 hl9 hC9 => ?_)
    have ho24 := ho20.go hb8 (fun e => hn2 e)
    have ho25 := ho21.go hb8 (fun e => hn3 e)
    have hr4 := HRow.goOwn hr3 hb8 ho22 hl9 (by decide) (by decide)
    refine lw_nil (ew_blockN (ew_then (cw_region (lw_op Z Z Z (ow_move Z Z (lw_op Z Z Z (ow_add Z Z Z (lw_op Z Z Z (ow_assign Z Z (lw_nil ?_))))))))))
    have lz3 := (((hl6.trans hl7).trans hl8).trans hl9)
    exact ew_nxt ((W (k1 + 1)), x3.2, z1) hb6 fun a ha => ⟨M3, (.slice A1 z1.length c1), (ha.sub ⟨Z, Z, Z, Z, Z, Z, trivial⟩), lz3, hC9, hr4, ho24, hm12, ho25, hm13, ho23, hm14⟩
  ·
   obtain rfl := hbb2.trans hc1
   exact cw_false Z (cw_exit (ew_thenX (ew_thenX (ew_blockX (ew_brk (k1, k2, y1) hb6 fun a ha => ⟨M1, v5, (ha.sub ⟨Z, Z, Z, Z, Z, Z, trivial⟩), hl6, hC6, hw2, ho14, hm6, ho15, hm7, ho16, hm8⟩)))))
 ·
  rintro ⟨k3, k4, y2⟩ a w10 hlr2 ⟨M4, v11, hF2, hl10, hC10, hw4, ho26, hm15, ho27, hm16, ho28, hm17⟩
  subst hlr2
  refine ew_at (E := [(0, (.pointer (some ⟨g, 0, none⟩))), (1, (.int .i64 a_n)), (4, (.pointer (some ⟨g1, 0, none⟩))), (5, (.pointer (some ⟨g2, 0, none⟩))), (6, (.int .i64 (W (1 + x2.1)))), (7, (.int .i64 k3))]) hF2 (ew_then (cw_seq (cw_seq (cw_region (lw_op Z Z Z (ow_move Z Z (lw_op Z Z Z (ow_move Z Z ?_))))))))
  have lz4 := ((lz1.trans hl5).trans hl10)
  replace h := bind_some h
  obtain ⟨x4, hx4, h⟩ := h
  refine lw_op Z Z Z (ow_call Z Z Tryd.call81 (w_spec_l20Rd_odd (hG.mono lz4) hC10.old (VRep.mono lz4 hxs) ho26 hm15 hx4) fun v12 w11 hv12 => ?_)
  obtain ⟨⟨hv12, ho29⟩, hb9⟩ := hv12
  have hl11 := Le.of_bx M4 hb9 (fun b e => (by rw [show b = g from e]; exact hm15))
  have hC11 := hC10.go hb9 (fun b e => Or.inr e)
  have ho30 := ho27.go hb9 (fun e => hn1 e.symm)
  have ho31 := ho28.go hb9 (fun e => hn2 e.symm)
  have hr5 := HRow.goOwn hw4 hb9 ho26 hl11 (by decide) (by decide)
  obtain ⟨bb3, hbb3, rfl⟩ := vbool_ex hv12
  refine lw_nil (ew_then ?_)
  replace h := cond_some h
  rcases h with ⟨hc2, h⟩ | ⟨hc2, h⟩
  ·
   obtain rfl := hbb3.trans hc2
   refine cw_true Z (cw_seq (cw_region (lw_op Z Z Z (ow_move Z Z ?_))))
   replace h := bind_some h
   obtain ⟨x5, hx5, h⟩ := h
   refine lw_op Z Z Z (ow_call Z Z Tryd.call60 (w_spec_l20Rd_pick (hG.mono (lz4.trans hl11)) hC11.old (VRep.mono (lz4.trans hl11) hxs) ho29 hm15 hx5) fun v13 w12 hv13 => ?_)
   obtain ⟨⟨hv13, ho32⟩, hb10⟩ := hv13
   have hl12 := Le.of_bx M4 hb10 (fun b e => (by rw [show b = g from e]; exact hm15))
   have hC12 := hC11.go hb10 (fun b e => Or.inr e)
   have ho33 := ho30.go hb10 (fun e => hn1 e.symm)
   have ho34 := ho31.go hb10 (fun e => hn2 e.symm)
   have hr6 := HRow.goOwn hr5 hb10 ho29 hl12 (by decide) (by decide)
   obtain rfl := vint_eq hv13
   refine lw_nil (ew_then (cw_block (cw_seq (cw_region (lw_op Z Z Z (ow_eqlI Z Z Z fun bb4 hbb4 => lw_op Z Z Z (ow_assign Z Z (lw_nil (ew_then ?_)))))))))
   replace h := cond_some h
   rcases h with ⟨hc3, h⟩ | ⟨hc3, h⟩
   ·
    obtain rfl := hbb4.trans hc3
    refine cw_true Z ?_
    obtain ⟨M5, hr7, hl13, hC13, hk3⟩ := HRow.flat hr6 hC12 hX hO (by decide)
    have hm19 : M5 g1 := hk3 _ _ _ ho33 (by decide) hm16
    have hm20 : M5 g2 := hk3 _ _ _ ho34 (by decide) hm17
    refine cw_region (lw_op Z Z Z (ow_buildSlice0 (R := (RSlice RRule)) (e := 36) Z (by kernel_rfl) hC13 fun p1 w13 M6 hr8 hb11 hl14 hC14 hM1 hat1 => ?_))
    have ho35 := ho32.no hb11
    have ho36 := ho33.no hb11
    have hm22 := hM1 _ hm19
    have ho37 := ho34.no hb11
    have hm23 := hM1 _ hm20
    refine lw_op Z Z Z (ow_fieldAddr Z Z Tryd.underlying45 Z (Tryd.sizeOf43 _) (lw_op0 Z Z (ow_store (X := (One g)) (us := [(.slice (some p1) 0 0)]) (cs' := #[(.slice (some p1) 0 0), (.bool bb1)]) Z Z Z Z ho37 (Tryd.sizeOf43 _) Z Z Z Z hm23 (.inl hg4) Z hC14 fun w14 ho38 hb12 hl15 hC15 => ?_)))
    have ho39 := ho35.go hb12 (fun e => hn2 e)
    have ho40 := ho36.go hb12 (fun e => hn3 e)
    refine lw_nil (ew_blockN (ew_then (cw_seq (cw_region (lw_op Z Z Z (ow_loadOwnA Z Z Z ho38 (Tryd.isAgg45 _) (Tryd.sizeOf45 _) Z (lw_op0 Z Z (ow_store (X := (One g)) (us := [(.slice (some p1) 0 0), (.bool bb1)]) (cs' := #[(.slice (some p1) 0 0), (.bool bb1)]) Z Z Z Z ho40 (Tryd.sizeOf45 _) Z Z Z Z hm22 (.inl hg2) Z hC15 fun w15 ho41 hb13 hl16 hC16 => ?_))))))))
    have ho42 := ho39.go hb13 (fun e => hn1 e)
    refine lw_nil (ew_then (cw_ret ?_))
    have hw6 : VRep RRuleset w15 M6 ({ Chains := ([] : List (List Rule)), Accept := (x1.1 == 0) } : Ruleset) (.agg #[(.slice (some p1) 0 0), (.bool bb1)]) := by subst hbb1; exact shut_Ruleset (VRep.mono hl16 vslice_nil)
    obtain rfl := Option.some.inj h
    exact ew_ret (res1 Z (.cell Z (own_loadVarA ho41 (Tryd.isAgg45 _) (Tryd.sizeOf45 _) Z))) ⟨_, Z, ⟨(hw6.mono hC16.back), ho42⟩, hC16.bx⟩
   ·
    obtain rfl := hbb4.trans hc3
    refine cw_false Z (cw_seq (cw_region (lw_op Z Z Z (ow_eqlI Z Z Z fun bb5 hbb5 => lw_op Z Z Z (ow_assign Z Z (lw_nil (ew_then ?_)))))))
    replace h := cond_some h
    rcases h with ⟨hc4, h⟩ | ⟨hc4, h⟩
    ·
     obtain rfl := hbb5.trans hc4
     refine cw_true Z ?_
     have lz5 := ((lz4.trans hl11).trans hl12)
     replace h := bind_some h
     obtain ⟨x6, hx6, h⟩ := h
     replace h := bind_some h
     obtain ⟨x7, hx7, h⟩ := h
     replace h := bind_some h
     obtain ⟨x8, hx8, h⟩ := h
     replace h := bind_some h
     obtain ⟨z2, hz2, h⟩ := h
     obtain ⟨v14, v15, v16, hq2, hr13, hr14, hw7⟩ := HRow.cons hr6 hx6
     have hq2 : y2 = x6 :: v16 := hq2
     obtain ⟨A2, c2, rfl⟩ := hr14.len
     have hY4 : ¬ (OrRow g (.slice A2 x6.length c2)) g1 := fun e => e.elim (fun e => (fun e => hn1 e.symm) e) (fun e => orow_ne hr14 ho33 (by decide) e)
     have hY5 : ¬ (OrRow g (.slice A2 x6.length c2)) g2 := fun e => e.elim (fun e => (fun e => hn2 e.symm) e) (fun e => orow_ne hr14 ho34 (by decide) e)
     have hY1 : ∀ b, (OrRow g (.slice A2 x6.length c2)) b → M4 b := fun b e => e.elim (fun e => by rw [show b = g from e]; exact hm15) (fun e => hr14.mem b e)
     have hY2 : ∀ b, (OrRow g (.slice A2 x6.length c2)) b → w.heap.size ≤ b ∨ (One g) b := fun b e => e.elim (fun e => .inr e) (fun e => .inl (hr14.block e).1)
     have hY3 : ∀ b, (Value.ownBlock v11) = some b → ¬ (OrRow g (.slice A2 x6.length c2)) b := fun b hb e => e.elim (fun e => orow_ne hr13 ho32 (by decide) (hb.trans (congrArg some e))) (fun e => orow_row_ne hr13 hr14 (by decide) hb e)
     refine cw_sub (E' := [(0, (.pointer (some ⟨g, 0, none⟩))), (4, (.pointer (some ⟨g1, 0, none⟩))), (5, (.pointer (some ⟨g2, 0, none⟩))), (6, (.int .i64 (W (1 + x2.1))))]) ⟨Z, Z, Z, Z, trivial⟩ (cw_drawCR (g := g) (Tg := 111) (R := RRule) (B := w.heap.size) (e := 42) (M := M4) (xs := x6) (v := (.slice A2 x6.length c2)) 15 2 [none, none, none, none, none, none, none, none, none, some 0, none, none, none, none, some 1] [#[(.slice Ax a_xs.length cx), (.int .i64 x5.2)], #[(.slice Ax a_xs.length cx), (.int .i64 x7.2)], #[(.slice Ax a_xs.length cx), (.int .i64 x7.2)]] [PEq (.pointer (some ⟨g2, 0, none⟩)), PEq v11, PEq (.pointer (some ⟨g2, 0, none⟩)), PEq v11, PEq (.pointer (some ⟨blk v11, (0 : Int).toNat * RHd.size, none⟩)), PEq (.slice A2 x6.length c2), PEq (.int .i64 (W (1 + x2.1))), PV (RSlice RInt) M4 [0, (W (1 + x2.1))], PEq (.pointer (some ⟨g, 0, none⟩)), PEq (.int .i64 x7.1), PA RInt M4 x8, PEq (.int .i64 x8), PV RRule M4 ({ Tests := ([] : List Test), Action := 3, Chain := x8 } : Rule), PV (RSlice RRule) M4 [({ Tests := ([] : List Test), Action := 3, Chain := x8 } : Rule)], PApp2 RRule w.heap.size 42 (One g) w M w12 M4 z2] (by kernel_rfl) Z (by kernel_rfl) (by kernel_rfl) ho32 hr14 ⟨(PEq.monoR _), (PEq.monoR _), (PEq.monoR _), (PEq.monoR _), (PEq.monoR _), (PEq.monoR _), (PEq.monoR _), (PV.monoR hY1 _ _), (PEq.monoR _), (PEq.monoR _), (PA.monoR hY1 _ _), (PEq.monoR _), (PV.monoR hY1 _ _), (PV.monoR hY1 _ _), PApp2.mono, trivial⟩ ⟨?_, ?_, ?_, ?_, ?_, ?_, ?_, ?_, ?_, ?_, ?_, ?_, ?_, ?_, ?_, trivial⟩ ?_)
     ·
      intro wa D hSa hda
      exact dg_sub (E' := [(5, (.pointer (some ⟨g2, 0, none⟩)))]) ⟨Z, trivial⟩ (dg_plain Z (ow_fieldAddr Z Z Tryd.underlying45 Z (Tryd.sizeOf43 _) ⟨BX.refl _ _, Z⟩))
     ·
      intro wa D hSa hda
      exact dg_sub (E' := [(47, (.pointer (some ⟨g2, 0, none⟩)))]) ⟨dpE hda 0 Z Z, trivial⟩ (dg_plain Z (ow_loadOwn1 Z Z Z (ho34.go hSa hY5) (Tryd.isAgg43 _) Z ⟨BX.refl _ _, Z⟩))
     ·
      intro wa D hSa hda
      exact dg_sub (E' := [(5, (.pointer (some ⟨g2, 0, none⟩)))]) ⟨Z, trivial⟩ (dg_plain Z (ow_fieldAddr Z Z Tryd.underlying45 Z (Tryd.sizeOf43 _) ⟨BX.refl _ _, Z⟩))
     ·
      intro wa D hSa hda
      exact dg_sub (E' := [(49, (.pointer (some ⟨g2, 0, none⟩)))]) ⟨dpE hda 2 Z Z, trivial⟩ (dg_plain Z (ow_loadOwn1 Z Z Z (ho34.go hSa hY5) (Tryd.isAgg43 _) Z ⟨BX.refl _ _, Z⟩))
     ·
      intro wa D hSa hda
      have hra := hr13.go hSa hY3 (Le.of_bx M4 hSa hY1) (fun _ h => h)
      exact dg_sub (E' := [(50, v11)]) ⟨dpE hda 3 Z Z, trivial⟩ (dg_plain Z (ow_indexRow (R := RHd) (j := 0) Z Z Z hra Tryd.underlying43 (Tryd.sizeOf36 _) Z ⟨BX.refl _ _, Z⟩))
     ·
      intro wa D hSa hda
      have hra := hr13.go hSa hY3 (Le.of_bx M4 hSa hY1) (fun _ h => h)
      exact dg_sub (E' := [(51, (.pointer (some ⟨blk v11, (0 : Int).toNat * RHd.size, none⟩)))]) ⟨dpE hda 4 Z Z, trivial⟩ (dg_plain Z (ow_loadElRow (R := RHd) (S := RHd) (j := 0) (y := (.slice A2 x6.length c2)) Z Z Z hra (orow_blk (j := 0) (y := (.slice A2 x6.length c2)) hra Z) Z (Fld.whole RHd) (Tryd.sizeOf36 _) (Tryd.isAgg36 _) fun va hva => ⟨BX.refl _ _, rhd_eq hva⟩))
     ·
      intro wa D hSa hda
      exact dg_sub (E' := [(6, (.int .i64 (W (1 + x2.1))))]) ⟨Z, trivial⟩ (dg_plain Z (ow_move Z Z ⟨BX.refl _ _, Z⟩))
     ·
      intro wa D hSa hda
      have hCa := hC12.go hSa hY2
      exact dg_sub (E' := [(53, (.int .i64 (W (1 + x2.1))))]) ⟨dpE hda 6 Z Z, trivial⟩ (dg_plain Z (ow_buildSlice (R := RInt) (xs := [0, (W (1 + x2.1))]) (cs := #[.int .i64 0, .int .i64 (W (1 + x2.1))]) (e := 3) Z Z (by kernel_rfl) Z Z ⟨_, _, Z, (vint _).cells, _, _, Z, (vint _).cells, Z⟩ hCa fun pb wc hwc hbc hlc hCc => ⟨hbc, hwc⟩))
     ·
      intro wa D hSa hda
      exact dg_sub (E' := [(0, (.pointer (some ⟨g, 0, none⟩)))]) ⟨Z, trivial⟩ (dg_plain Z (ow_move Z Z ⟨BX.refl _ _, Z⟩))
     ·
      intro wa D hSa hda
      obtain ⟨hSa, hOa, hRa⟩ := hSa
      have hOa : Own wa g 111 #[(.slice Ax a_xs.length cx), (.int .i64 x5.2)] := hOa
      have hRa := hRa (by decide)
      have hla := Le.of_bx M4 hSa hY1
      have hCa := hC12.go hSa hY2
      refine dg_sub (E' := [(55, (.pointer (some ⟨g, 0, none⟩)))]) ⟨dpE hda 8 Z Z, trivial⟩ (dg_plain Z (ow_call Z Z Tryd.call60 (w_spec_l20Rd_pick (hG.mono (lz5.trans hla)) hCa.old (VRep.mono hla (VRep.mono lz5 hxs)) hOa hm15 hx7) fun va wb hva => ?_))
      obtain ⟨⟨hva, hOb⟩, hbb⟩ := hva
      obtain rfl := vint_eq hva
      exact ⟨⟨⟨hSa.trans (hbb.mono fun _ _ e => .inl e), hOb, fun _ => hRa.go hbb (fun b hb e => orow_ne hRa hOa (by decide) (hb.trans (congrArg some e))) (leY hm15 hbb) (fun _ h => h)⟩, hbb.mono fun _ _ e => .inl e⟩, Z⟩
     ·
      intro wa D hSa hda
      have d7a : PV (RSlice RInt) M4 [0, (W (1 + x2.1))] (D 7) wa := dpA hda 7 Z
      generalize hqa : (D 7) = va at d7a
      exact dg_sub (E' := [(54, va), (56, (.int .i64 x7.1))]) ⟨congrArg some hqa, dpE hda 9 Z Z, trivial⟩ (dg_plain Z (ow_indexSlice (R := RInt) Z Z Z d7a Tryd.underlying52 (Tryd.sizeOf3 _) hx8 fun pa hpa => ⟨BX.refl _ _, _, Z, hpa⟩))
     ·
      intro wa D hSa hda
      have d10a : PA RInt M4 x8 (D 10) wa := dpA hda 10 Z
      obtain ⟨pa, hqa, hpa⟩ := d10a
      refine dg_sub (E' := [(57, .pointer (some pa))]) ⟨congrArg some hqa, trivial⟩ (dg_plain Z (ow_load (R := RInt) Z Z hpa (Tryd.sizeOf3 _) (Tryd.isAgg3 _) fun va hva => ?_))
      obtain rfl := vint_eq hva
      exact ⟨BX.refl _ _, Z⟩
     ·
      intro wa D hSa hda
      exact dg_sub (E' := [(58, (.int .i64 x8))]) ⟨dpE hda 11 Z Z, trivial⟩ (dg_plain Z (ow_build (v := .agg #[.slice none 0 0, .int .i64 3, .int .i64 x8]) Z Z (by kernel_rfl) ⟨BX.refl _ _, shut_Rule vslice_nil⟩))
     ·
      intro wa D hSa hda
      have hCa := hC12.go hSa hY2
      have d12a : PV RRule M4 ({ Tests := ([] : List Test), Action := 3, Chain := x8 } : Rule) (D 12) wa := dpA hda 12 Z
      generalize hqa : (D 12) = va at d12a
      obtain ⟨Aq, cq, rfl, hwq⟩ := open_Rule d12a
      exact dg_sub (E' := [(59, .agg #[.slice Aq ([] : List Test).length cq, .int .i64 3, .int .i64 x8])]) ⟨congrArg some hqa, trivial⟩ (dg_plain Z (ow_buildSlice (R := RRule) (xs := [({ Tests := ([] : List Test), Action := 3, Chain := x8 } : Rule)]) (cs := #[.slice Aq ([] : List Test).length cq, .int .i64 3, .int .i64 x8]) (e := 42) Z Z (by kernel_rfl) Z Z ⟨_, _, Z, d12a.cells, Z⟩ hCa fun pb wc hwc hbc hlc hCc => ⟨hbc, hwc⟩))
     ·
      intro wa D hSa hda
      obtain ⟨hSa, hOa, hRa⟩ := hSa
      have hOa : Own wa g 111 #[(.slice Ax a_xs.length cx), (.int .i64 x7.2)] := hOa
      have hRa := hRa (by decide)
      have hla := Le.of_bx M4 hSa hY1
      have hCa := hC12.go hSa hY2
      have d13a : PV (RSlice RRule) M4 [({ Tests := ([] : List Test), Action := 3, Chain := x8 } : Rule)] (D 13) wa := dpA hda 13 Z
      generalize hqa : (D 13) = ua at d13a
      exact dg_sub (E' := [(52, (.slice A2 x6.length c2)), (60, ua)]) ⟨dpE hda 5 Z Z, congrArg some hqa, trivial⟩ (dg_plain Z (ow_append (R := RRule) Z Z Z Z Tryd.underlying36 hi42 hz42 hs42 hy42 Z Z Z Z hRa d13a hz2 hCa fun vb wb Mb hrb hbb hlb hCb hMb hatb => ⟨⟨⟨hSa.trans (hbb.mono fun _ _ e => .inr e), hOa.go hbb (fun e => orow_ne hRa hOa (by decide) e), fun h => absurd h (by decide)⟩, hbb.mono fun _ _ e => .inr e⟩, Mb, hrb, hla.trans hlb, hCb, hMb⟩))
     ·
      intro w16 D hS2 hd2
      obtain ⟨hS2, ho44⟩ := hS2
      have ho44 : Own w16 g 111 #[(.slice Ax a_xs.length cx), (.int .i64 x7.2)] := ho44
      have d2 : PApp2 RRule w.heap.size 42 (One g) w M w12 M4 z2 (D 14) w16 := dpA hd2 14 Z
      obtain ⟨M7, hr15, hl17, hC17, hk4⟩ := d2
      generalize hq3 : (D 14) = v17 at hr15
      obtain ⟨A3, c3, rfl⟩ := hr15.len
      have hr16 := hr13.go hS2 hY3 hl17 hk4
      have hw8 := hw7.mono hl17
      have hm25 := hk4 _ hm16
      have ho45 := ho33.go hS2 hY4
      have ho46 := ho34.go hS2 hY5
      refine lw_sub (E' := [(61, (.slice A3 z2.length c3)), (48, v11), (0, (.pointer (some ⟨g, 0, none⟩))), (4, (.pointer (some ⟨g1, 0, none⟩))), (5, (.pointer (some ⟨g2, 0, none⟩))), (6, (.int .i64 (W (1 + x2.1))))]) ⟨(congrArg some hq3), dpE hd2 1 Z Z, Z, Z, Z, Z, trivial⟩ (lw_op Z Z Z (ow_indexRow (R := RHd) (j := 0) Z Z Z hr16 Tryd.underlying43 (Tryd.sizeOf36 _) Z ?_))
      have hq4 := orow_blk (j := 0) (y := (.slice A2 x6.length c2)) hr16 Z
      refine lw_op0 Z Z (ow_storeElRow (X := (One g)) (R := RHd) (S := RHd) (j := 0) (y := (.slice A2 x6.length c2)) Z Z Z Z hr16 hq4 Z (FldSet.whole RHd) (Tryd.sizeOf36 _) (rhd Z) (Nat.le_refl _) hC17 fun w17 hr17 hb14 hl18 hC18 => ?_)
      have ho47 := ho44.go hb14 (fun e => orow_ne hr16 ho44 (by decide) (by rw [hq4]; exact congrArg some e.symm))
      have ho48 := ho45.go hb14 (fun e => orow_ne hr16 ho45 (by decide) (by rw [hq4]; exact congrArg some e.symm))
      have ho49 := ho46.go hb14 (fun e => orow_ne hr16 ho46 (by decide) (by rw [hq4]; exact congrArg some e.symm))
      have hr18 := hr15.go hb14 (fun k hk e => orow_row_ne hr15 hr16 (by decide) hk (by rw [hq4]; exact congrArg some e.symm)) hl18 (fun _ h => h)
      have hr19 : HRow RRule w.heap.size 36 42 w17 M7 (List.set y2 (0 : Int).toNat z2) v11 := by rw [hq2]; exact ⟨(.slice A3 z2.length c3) :: v15, hr17, hr18, hw8.mono hl18⟩
      refine lw_nil (ew_blockN (ew_then (cw_seq ?_)))
      obtain ⟨M8, hr20, hl19, hC19, hk5⟩ := HRow.flat hr19 hC18 hX hO (by decide)
      have hm28 : M8 g1 := hk5 _ _ _ ho48 (by decide) hm25
      refine cw_region (lw_op Z Z Z (ow_loadOwnA Z Z Z ho49 (Tryd.isAgg45 _) (Tryd.sizeOf45 _) Z ?_))
      have hw9 := hr20.freezeDel
      have hC20 := hr20.cxDel hC19 hX hO
      have hm31 : (Del v11 M8) g1 := ⟨hm28, fun e => (orow_ne hr20 ho48 (by decide)) e⟩
      obtain ⟨A4, c4, rfl, -⟩ := vslice_shape hw9
      refine lw_op0 Z Z (ow_store (X := (One g)) (us := [(.slice A4 (List.set y2 (0 : Int).toNat z2).length c4), (.bool bb1)]) (cs' := #[(.slice A4 (List.set y2 (0 : Int).toNat z2).length c4), (.bool bb1)]) Z Z Z Z ho48 (Tryd.sizeOf45 _) Z Z Z Z hm31 (.inl hg2) Z hC20 fun w18 ho50 hb15 hl21 hC21 => ?_)
      have ho51 := ho47.go hb15 (fun e => hn1 e)
      refine lw_nil (ew_then (cw_ret ?_))
      have hw11 : VRep RRuleset w18 (Del (.slice A4 (List.set y2 (0 : Int).toNat z2).length c4) M8) ({ Chains := (List.set y2 (0 : Int).toNat z2), Accept := (x1.1 == 0) } : Ruleset) (.agg #[(.slice A4 (List.set y2 (0 : Int).toNat z2).length c4), (.bool bb1)]) := by subst hbb1; exact shut_Ruleset (VRep.mono hl21 hw9)
      obtain rfl := Option.some.inj h
      exact ew_ret (res1 Z (.cell Z (own_loadVarA ho50 (Tryd.isAgg45 _) (Tryd.sizeOf45 _) Z))) ⟨_, Z, ⟨(hw11.mono hC21.back), ho51⟩, hC21.bx⟩
    ·
     obtain rfl := hbb5.trans hc4
     refine cw_false Z (cw_seq (cw_region (lw_op Z Z Z (ow_eqlI Z Z Z fun bb6 hbb6 => lw_op Z Z Z (ow_assign Z Z (lw_nil (ew_then ?_)))))))
     replace h := cond_some h
     rcases h with ⟨hc5, h⟩ | ⟨hc5, h⟩
     ·
      obtain rfl := hbb6.trans hc5
      refine cw_true Z (cw_seq ?_)
      obtain ⟨M9, hr21, hl22, hC22, hk6⟩ := HRow.flat hr6 hC12 hX hO (by decide)
      have hm34 : M9 g1 := hk6 _ _ _ ho33 (by decide) hm16
      refine cw_region (lw_op Z Z Z (ow_fieldAddr Z Z Tryd.underlying45 Z (Tryd.sizeOf43 _) (lw_op Z Z Z (ow_loadOwn1 Z Z Z ho34 (Tryd.isAgg43 _) Z (lw_op Z Z Z (ow_move Z Z (lw_op Z Z Z (ow_sub Z Z Z (lw_op Z Z Z (ow_build (v := .agg #[(.slice none 0 0), (.int .i64 3), (.int .i64 0)]) Z Z (by kernel_rfl) ?_))))))))))
      have hw12 : VRep RRule w12 M9 ({ Tests := ([] : List Test), Action := 3, Chain := 0 } : Rule) (.agg #[(.slice none 0 0), (.int .i64 3), (.int .i64 0)]) := shut_Rule (vslice_nil (R := RTest) (w := w12) (M := M9))
      refine lw_op Z Z Z (ow_buildSlice (R := RRule) (xs := [({ Tests := ([] : List Test), Action := 3, Chain := 0 } : Rule)]) (cs := #[(.slice none 0 0), (.int .i64 3), (.int .i64 0)]) (e := 42) Z Z (by kernel_rfl) Z Z ⟨_, _, Z, hw12.cells, Z⟩ hC22 fun p2 w19 hw13 hb16 hl23 hC23 => ?_)
      have ho53 := ho32.no hb16
      have ho54 := ho33.no hb16
      have ho55 := ho34.no hb16
      have hr22 := hr21.no hb16
      replace h := bind_some h
      obtain ⟨x9, hx9, h⟩ := h
      refine lw_op Z Z Z (ow_indexRow (R := (RSlice RRule)) Z Z Z hr22 Tryd.underlying43 (Tryd.sizeOf36 _) hx9 (lw_op0 Z Z (ow_storeElRow (X := (One g)) (R := (RSlice RRule)) (S := (RSlice RRule)) Z Z Z Z hr22 (orow_blk hr22 hx9) hx9 (FldSet.whole (RSlice RRule)) (Tryd.sizeOf36 _) hw13 (Nat.le_refl _) hC23 fun w20 ho56 hb17 hl24 hC24 => ?_)))
      have ho57 := ho53.go hb17 (fun e => (orow_ne hr22 ho53 (by decide)) (by rw [orow_blk hr22 hx9]; exact congrArg some e.symm))
      have ho58 := ho54.go hb17 (fun e => (orow_ne hr22 ho54 (by decide)) (by rw [orow_blk hr22 hx9]; exact congrArg some e.symm))
      have ho59 := ho55.go hb17 (fun e => (orow_ne hr22 ho55 (by decide)) (by rw [orow_blk hr22 hx9]; exact congrArg some e.symm))
      refine lw_nil (ew_then (cw_region (lw_op Z Z Z (ow_fieldAddr Z Z Tryd.underlying45 Z (Tryd.sizeOf43 _) (lw_op Z Z Z (ow_loadOwn1 Z Z Z ho59 (Tryd.isAgg43 _) Z (lw_op Z Z Z (ow_move Z Z (lw_op Z Z Z (ow_sub Z Z Z (lw_op Z Z Z (ow_build (v := .agg #[(.slice none 0 0), (.int .i64 3), (.int .i64 (W ((W (1 + x2.1)) - 1)))]) Z Z (by kernel_rfl) ?_))))))))))))
      have hw14 : VRep RRule w20 M9 ({ Tests := ([] : List Test), Action := 3, Chain := (W ((W (1 + x2.1)) - 1)) } : Rule) (.agg #[(.slice none 0 0), (.int .i64 3), (.int .i64 (W ((W (1 + x2.1)) - 1)))]) := shut_Rule (vslice_nil (R := RTest) (w := w20) (M := M9))
      refine lw_op Z Z Z (ow_buildSlice (R := RRule) (xs := [({ Tests := ([] : List Test), Action := 3, Chain := (W ((W (1 + x2.1)) - 1)) } : Rule)]) (cs := #[(.slice none 0 0), (.int .i64 3), (.int .i64 (W ((W (1 + x2.1)) - 1)))]) (e := 42) Z Z (by kernel_rfl) Z Z ⟨_, _, Z, hw14.cells, Z⟩ hC24 fun p3 w21 hw15 hb18 hl25 hC25 => ?_)
      have ho60 := ho57.no hb18
      have ho61 := ho58.no hb18
      have ho62 := ho59.no hb18
      have hr23 := ho56.no hb18
      replace h := bind_some h
      obtain ⟨x10, hx10, h⟩ := h
      refine lw_op Z Z Z (ow_indexRow (R := (RSlice RRule)) Z Z Z hr23 Tryd.underlying43 (Tryd.sizeOf36 _) hx10 (lw_op0 Z Z (ow_storeElRow (X := (One g)) (R := (RSlice RRule)) (S := (RSlice RRule)) Z Z Z Z hr23 (orow_blk hr23 hx10) hx10 (FldSet.whole (RSlice RRule)) (Tryd.sizeOf36 _) hw15 (Nat.le_refl _) hC25 fun w22 ho63 hb19 hl26 hC26 => ?_)))
      have ho64 := ho60.go hb19 (fun e => (orow_ne hr23 ho60 (by decide)) (by rw [orow_blk hr23 hx10]; exact congrArg some e.symm))
      have ho65 := ho61.go hb19 (fun e => (orow_ne hr23 ho61 (by decide)) (by rw [orow_blk hr23 hx10]; exact congrArg some e.symm))
      have ho66 := ho62.go hb19 (fun e => (orow_ne hr23 ho62 (by decide)) (by rw [orow_blk hr23 hx10]; exact congrArg some e.symm))
      refine lw_nil (ew_blockN (ew_then (cw_seq (cw_region (lw_op Z Z Z (ow_loadOwnA Z Z Z ho66 (Tryd.isAgg45 _) (Tryd.sizeOf45 _) Z ?_))))))
      have hw16 := ho63.freezeDel
      have hC27 := ho63.cxDel hC26 hX hO
      have hm37 : (Del v11 M9) g1 := ⟨hm34, fun e => (orow_ne ho63 ho65 (by decide)) e⟩
      obtain ⟨A5, c5, rfl, -⟩ := vslice_shape hw16
      refine lw_op0 Z Z (ow_store (X := (One g)) (us := [(.slice A5 (List.set (List.set y2 ((W ((W (1 + x2.1)) - 1)) : Int).toNat [({ Tests := ([] : List Test), Action := 3, Chain := 0 } : Rule)]) (0 : Int).toNat [({ Tests := ([] : List Test), Action := 3, Chain := (W ((W (1 + x2.1)) - 1)) } : Rule)]).length c5), (.bool bb1)]) (cs' := #[(.slice A5 (List.set (List.set y2 ((W ((W (1 + x2.1)) - 1)) : Int).toNat [({ Tests := ([] : List Test), Action := 3, Chain := 0 } : Rule)]) (0 : Int).toNat [({ Tests := ([] : List Test), Action := 3, Chain := (W ((W (1 + x2.1)) - 1)) } : Rule)]).length c5), (.bool bb1)]) Z Z Z Z ho65 (Tryd.sizeOf45 _) Z Z Z Z hm37 (.inl hg2) Z hC27 fun w23 ho67 hb20 hl28 hC28 => ?_)
      have ho68 := ho64.go hb20 (fun e => hn1 e)
      refine lw_nil (ew_then (cw_ret ?_))
      have hw18 : VRep RRuleset w23 (Del (.slice A5 (List.set (List.set y2 ((W ((W (1 + x2.1)) - 1)) : Int).toNat [({ Tests := ([] : List Test), Action := 3, Chain := 0 } : Rule)]) (0 : Int).toNat [({ Tests := ([] : List Test), Action := 3, Chain := (W ((W (1 + x2.1)) - 1)) } : Rule)]).length c5) M9) ({ Chains := (List.set (List.set y2 ((W ((W (1 + x2.1)) - 1)) : Int).toNat [({ Tests := ([] : List Test), Action := 3, Chain := 0 } : Rule)]) (0 : Int).toNat [({ Tests := ([] : List Test), Action := 3, Chain := (W ((W (1 + x2.1)) - 1)) } : Rule)]), Accept := (x1.1 == 0) } : Ruleset) (.agg #[(.slice A5 (List.set (List.set y2 ((W ((W (1 + x2.1)) - 1)) : Int).toNat [({ Tests := ([] : List Test), Action := 3, Chain := 0 } : Rule)]) (0 : Int).toNat [({ Tests := ([] : List Test), Action := 3, Chain := (W ((W (1 + x2.1)) - 1)) } : Rule)]).length c5), (.bool bb1)]) := by subst hbb1; exact shut_Ruleset (VRep.mono hl28 hw16)
      obtain rfl := Option.some.inj h
      exact ew_ret (res1 Z (.cell Z (own_loadVarA ho67 (Tryd.isAgg45 _) (Tryd.sizeOf45 _) Z))) ⟨_, Z, ⟨(hw18.mono hC28.back), ho68⟩, hC28.bx⟩
     ·
      obtain rfl := hbb6.trans hc5
      refine cw_false Z ?_
      obtain ⟨M10, hr24, hl29, hC29, hk7⟩ := HRow.flat hr6 hC12 hX hO (by decide)
      have hm39 : M10 g := hk7 _ _ _ ho32 (by decide) hm15
      have hm40 : M10 g1 := hk7 _ _ _ ho33 (by decide) hm16
      replace h := bind_some h
      obtain ⟨x11, hx11, h⟩ := h
      have lz6 := (((lz4.trans hl11).trans hl12).trans hl29)
      refine cw_sub (E' := [(0, (.pointer (some ⟨g, 0, none⟩))), (4, (.pointer (some ⟨g1, 0, none⟩))), (5, (.pointer (some ⟨g2, 0, none⟩))), (6, (.int .i64 (W (1 + x2.1))))]) ⟨Z, Z, Z, Z, trivial⟩ (cw_drawC (g := g) (T := 111) 5 1 [none, none, none, none, some 0] [#[(.slice Ax a_xs.length cx), (.int .i64 x5.2)], #[(.slice Ax a_xs.length cx), (.int .i64 x11.2)]] [PEq (.pointer (some ⟨g2, 0, none⟩)), PEq v11, PEq (.pointer (some ⟨g, 0, none⟩)), PEq (.int .i64 (W (1 + x2.1))), PV (RSlice RRule) M10 x11.1] (by kernel_rfl) Z (by kernel_rfl) (by kernel_rfl) ho32 ⟨(PEq.monoY hm39 _), (PEq.monoY hm39 _), (PEq.monoY hm39 _), (PEq.monoY hm39 _), (PV.monoY hm39 _ _), trivial⟩ ⟨?_, ?_, ?_, ?_, ?_, trivial⟩ ?_)
      ·
       intro w25 D hS3 hd3
       exact dg_sub (E' := [(5, (.pointer (some ⟨g2, 0, none⟩)))]) ⟨Z, trivial⟩ (dg_plain Z (ow_fieldAddr Z Z Tryd.underlying45 Z (Tryd.sizeOf43 _) ⟨BX.refl _ _, Z⟩))
      ·
       intro w26 D hS4 hd4
       have ho76 := ho34.go hS4 (fun e => hn2 e.symm)
       exact dg_sub (E' := [(35, (.pointer (some ⟨g2, 0, none⟩)))]) ⟨(dpE hd4 0 Z Z), trivial⟩ (dg_plain Z (ow_loadOwn1 Z Z Z ho76 (Tryd.isAgg43 _) Z ⟨BX.refl _ _, Z⟩))
      ·
       intro w27 D hS5 hd5
       exact dg_sub (E' := [(0, (.pointer (some ⟨g, 0, none⟩)))]) ⟨Z, trivial⟩ (dg_plain Z (ow_move Z Z ⟨BX.refl _ _, Z⟩))
      ·
       intro w28 D hS6 hd6
       exact dg_sub (E' := [(6, (.int .i64 (W (1 + x2.1))))]) ⟨Z, trivial⟩ (dg_plain Z (ow_move Z Z ⟨BX.refl _ _, Z⟩))
      ·
       intro w29 D hS7 hd7
       obtain ⟨hS7, ho81⟩ := hS7
       have ho81 : Own w29 g 111 #[(.slice Ax a_xs.length cx), (.int .i64 x5.2)] := ho81
       have hl35 := leY hm39 hS7
       have hC35 := hC29.go hS7 (fun b e => Or.inr e)
       refine dg_sub (E' := [(37, (.pointer (some ⟨g, 0, none⟩))), (38, (.int .i64 (W (1 + x2.1))))]) ⟨(dpE hd7 2 Z Z), (dpE hd7 3 Z Z), trivial⟩ (dg_plain Z (ow_call Z Z Tryd.call59 (w_spec_l20Rules (hG.mono (lz6.trans hl35)) hC35.old (VRep.mono (lz6.trans hl35) hxs) ho81 hm39 hx11) fun v19 w30 hv19 => ?_))
       obtain ⟨⟨hv19, ho84⟩, hb22⟩ := hv19
       exact ⟨⟨⟨hS7.trans hb22, ho84⟩, hb22⟩, hv19⟩
      ·
       intro w31 D hS8 hd8
       have d10 : PV (RSlice RRule) M10 x11.1 (D 4) w31 := dpA hd8 4 Z
       obtain ⟨hS8, ho87⟩ := hS8
       have ho87 : Own w31 g 111 #[(.slice Ax a_xs.length cx), (.int .i64 x11.2)] := ho87
       have hl37 := leY hm39 hS8
       have hC37 := hC29.go hS8 (fun b e => Or.inr e)
       have ho88 := ho33.go hS8 (fun e => hn1 e.symm)
       have ho89 := ho34.go hS8 (fun e => hn2 e.symm)
       have hr32 := hr24.go hS8 (fun k hk e => (orow_ne hr24 ho32 (by decide)) (hk.trans (congrArg some e))) hl37 (fun _ h => h)
       generalize hq5 : (D 4) = v20 at d10
       refine lw_sub (E' := [(36, v11), (39, v20), (0, (.pointer (some ⟨g, 0, none⟩))), (4, (.pointer (some ⟨g1, 0, none⟩))), (5, (.pointer (some ⟨g2, 0, none⟩))), (6, (.int .i64 (W (1 + x2.1))))]) ⟨(dpE hd8 1 Z Z), (congrArg some hq5), Z, Z, Z, Z, trivial⟩ ?_
       replace h := bind_some h
       obtain ⟨x12, hx12, h⟩ := h
       refine lw_op Z Z Z (ow_indexRow (R := (RSlice RRule)) Z Z Z hr32 Tryd.underlying43 (Tryd.sizeOf36 _) hx12 (lw_op0 Z Z (ow_storeElRow (X := (One g)) (R := (RSlice RRule)) (S := (RSlice RRule)) Z Z Z Z hr32 (orow_blk hr32 hx12) hx12 (FldSet.whole (RSlice RRule)) (Tryd.sizeOf36 _) d10 (Nat.le_refl _) hC37 fun w32 ho90 hb23 hl38 hC38 => ?_)))
       have ho91 := ho87.go hb23 (fun e => (orow_ne hr32 ho87 (by decide)) (by rw [orow_blk hr32 hx12]; exact congrArg some e.symm))
       have ho92 := ho88.go hb23 (fun e => (orow_ne hr32 ho88 (by decide)) (by rw [orow_blk hr32 hx12]; exact congrArg some e.symm))
       have ho93 := ho89.go hb23 (fun e => (orow_ne hr32 ho89 (by decide)) (by rw [orow_blk hr32 hx12]; exact congrArg some e.symm))
       refine lw_nil (ew_blockN (ew_then (cw_seq (cw_region (lw_op Z Z Z (ow_loadOwnA Z Z Z ho93 (Tryd.isAgg45 _) (Tryd.sizeOf45 _) Z ?_))))))
       have hw19 := ho90.freezeDel
       have hC39 := ho90.cxDel hC38 hX hO
       have hm43 : (Del v11 M10) g1 := ⟨hm40, fun e => (orow_ne ho90 ho92 (by decide)) e⟩
       obtain ⟨A6, c6, rfl, -⟩ := vslice_shape hw19
       refine lw_op0 Z Z (ow_store (X := (One g)) (us := [(.slice A6 (List.set y2 (0 : Int).toNat x11.1).length c6), (.bool bb1)]) (cs' := #[(.slice A6 (List.set y2 (0 : Int).toNat x11.1).length c6), (.bool bb1)]) Z Z Z Z ho92 (Tryd.sizeOf45 _) Z Z Z Z hm43 (.inl hg2) Z hC39 fun w33 ho94 hb24 hl40 hC40 => ?_)
       have ho95 := ho91.go hb24 (fun e => hn1 e)
       refine lw_nil (ew_then (cw_ret ?_))
       have hw21 : VRep RRuleset w33 (Del (.slice A6 (List.set y2 (0 : Int).toNat x11.1).length c6) M10) ({ Chains := (List.set y2 (0 : Int).toNat x11.1), Accept := (x1.1 == 0) } : Ruleset) (.agg #[(.slice A6 (List.set y2 (0 : Int).toNat x11.1).length c6), (.bool bb1)]) := by subst hbb1; exact shut_Ruleset (VRep.mono hl40 hw19)
       obtain rfl := Option.some.inj h
       exact ew_ret (res1 Z (.cell Z (own_loadVarA ho94 (Tryd.isAgg45 _) (Tryd.sizeOf45 _) Z))) ⟨_, Z, ⟨(hw21.mono hC40.back), ho95⟩, hC40.bx⟩
  ·
   obtain rfl := hbb3.trans hc2
   refine cw_false Z (cw_skip (ew_then (cw_seq ?_)))
   obtain ⟨M11, hr33, hl41, hC41, hk8⟩ := HRow.flat hr5 hC11 hX hO (by decide)
   have hm46 : M11 g1 := hk8 _ _ _ ho30 (by decide) hm16
   refine cw_region (lw_op Z Z Z (ow_loadOwnA Z Z Z ho31 (Tryd.isAgg45 _) (Tryd.sizeOf45 _) Z ?_))
   have hw22 := hr33.freezeDel
   have hC42 := hr33.cxDel hC41 hX hO
   have hm49 : (Del v11 M11) g1 := ⟨hm46, fun e => (orow_ne hr33 ho30 (by decide)) e⟩
   obtain ⟨A7, c7, rfl, -⟩ := vslice_shape hw22
   refine lw_op0 Z Z (ow_store (X := (One g)) (us := [(.slice A7 y2.length c7), (.bool bb1)]) (cs' := #[(.slice A7 y2.length c7), (.bool bb1)]) Z Z Z Z ho30 (Tryd.sizeOf45 _) Z Z Z Z hm49 (.inl hg2) Z hC42 fun w34 ho97 hb25 hl43 hC43 => ?_)
   have ho98 := ho29.go hb25 (fun e => hn1 e)
   refine lw_nil (ew_then (cw_ret ?_))
   have hw24 : VRep RRuleset w34 (Del (.slice A7 y2.length c7) M11) ({ Chains := y2, Accept := (x1.1 == 0) } : Ruleset) (.agg #[(.slice A7 y2.length c7), (.bool bb1)]) := by subst hbb1; exact shut_Ruleset (VRep.mono hl43 hw22)
   obtain rfl := Option.some.inj h
   exact ew_ret (res1 Z (.cell Z (own_loadVarA ho97 (Tryd.isAgg45 _) (Tryd.sizeOf45 _) Z))) ⟨_, Z, ⟨(hw24.mono hC43.back), ho98⟩, hC43.bx⟩

theorem w_spec_l20Case {w : World} {M : Nat → Prop} (hG : ARep (RArr 4 RShape) w M shapes ⟨0, 0, none⟩) (hO : ∀ b, M b → b < w.heap.size) {g : Nat} {Ax : Option Addr} {cx : Nat} {a_xs : List Int} {a_pos : Int} (hxs : VRep (RSlice RU8) w M a_xs (.slice Ax a_xs.length cx)) (hown : Own w g 111 #[.slice Ax a_xs.length cx, .int .i64 a_pos]) (hgM : M g) {a_n : Int} {r : Ruleset × Packet × Int} (h : F.spec_l20Case a_xs a_pos a_n = some r) :
  Calls Tryd.prog 75 [(.pointer (some ⟨g, 0, none⟩)), (.int .i64 a_n)].toArray w fun e w' => ∃ v, e = .returned v ∧ ((∃ u0 u1, v = .tuple #[u0, u1] ∧ VRep RRuleset w' M r.1 u0 ∧ VRep RPacket w' M r.2.1 u1) ∧ Own w' g 111 #[.slice Ax a_xs.length cx, .int .i64 r.2.2]) ∧ BX (One g) w w' := by
 obtain ⟨i31, hi31, hz31, hs31, hy31⟩ := info31
 have hX : ∀ b, (One g) b → M b := fun b e => e ▸ hgM
 have hC : Cx (One g) w M w M := Cx.start hO hX
 refine walk (N := 50) Tryd.func75 Z Tryd.ntmps75 Z (cw_seq (cw_region (lw_op Z Z Z (ow_alloc Z (Tryd.zeroValue45 _) hC fun g1 w1 hg1 hg2 ho1 hb1 hl1 hC1 => ?_))))
 have hn1 := Nat.ne_of_lt (Nat.lt_of_lt_of_le hown.lt hg1)
 have ho2 := hown.no hb1
 have hm1 : (Add g1 M) g := .inr hgM
 have hm2 : (Add g1 M) g1 := .inl Z
 refine lw_op Z Z Z (ow_alloc Z (Tryd.zeroValue38 _) hC1 fun g2 w2 hg3 hg4 ho3 hb2 hl2 hC2 => ?_)
 have hn2 := Nat.ne_of_lt (Nat.lt_of_lt_of_le ho2.lt hg3)
 have ho4 := ho2.no hb2
 have hm3 : (Add g2 (Add g1 M)) g := .inr hm1
 have hn3 := Nat.ne_of_lt (Nat.lt_of_lt_of_le ho1.lt hg3)
 have ho5 := ho1.no hb2
 have hm4 : (Add g2 (Add g1 M)) g1 := .inr hm2
 have hm5 : (Add g2 (Add g1 M)) g2 := .inl Z
 refine lw_nil (ew_then (cw_seq (cw_region (lw_op Z Z Z (ow_move Z Z (lw_op Z Z Z (ow_move Z Z ?_)))))))
 replace h := bind_some h
 obtain ⟨x1, hx1, h⟩ := h
 refine lw_op Z Z Z (ow_call Z Z Tryd.call65 (w_spec_l20Ruleset (hG.mono (hl1.trans hl2)) hC2.old (VRep.mono (hl1.trans hl2) hxs) ho4 hm3 hx1) fun v1 w3 hv1 => ?_)
 obtain ⟨⟨hv1, ho6⟩, hb3⟩ := hv1
 have hl3 := Le.of_bx (Add g2 (Add g1 M)) hb3 (fun b e => (by rw [show b = g from e]; exact hm3))
 have hC3 := hC2.go hb3 (fun b e => Or.inr e)
 have ho7 := ho5.go hb3 (fun e => hn1 e.symm)
 have ho8 := ho3.go hb3 (fun e => hn2 e.symm)
 refine lw_allocStore (R := RRuleset) Z Z Z Z Z Z Z Tryd.zeroValue45 Tryd.sizeOf45 Z Z Z (by simp) hv1 hC3 fun p1 w4 hp1 hb4 hl4 hC4 => ?_
 have ho9 := ho6.no hb4
 have ho10 := ho7.no hb4
 have ho11 := ho8.no hb4
 refine lw_nil (ew_then (cw_seq (cw_region (lw_op Z Z Z (ow_buildSlice0 (R := RTest) (e := 31) Z (by kernel_rfl) hC4 fun p2 w5 M1 hr1 hb5 hl5 hC5 hM1 hat1 => ?_)))))
 have ho12 := ho9.no hb5
 have hm6 := hM1 _ hm3
 have ho13 := ho10.no hb5
 have hm7 := hM1 _ hm4
 have ho14 := ho11.no hb5
 have hm8 := hM1 _ hm5
 refine lw_op Z Z Z (ow_assign Z Z (lw_nil (ew_then (cw_seq (cw_seq (cw_region (lw_op Z Z Z (ow_assign Z Z (lw_nil (ew_then ?_))))))))))
 replace h := bind_some h
 obtain ⟨lr1, hlr1, h⟩ := h
 refine cw_for hlr1 (fun s a w' => ∃ (M' : Nat → Prop) (v0c : Value), Fits 50 [(0, (.pointer (some ⟨g, 0, none⟩))), (1, (.int .i64 a_n)), (4, (.pointer (some ⟨g1, 0, none⟩))), (5, (.pointer (some ⟨g2, 0, none⟩))), (6, (.pointer (some p1))), (7, v0c), (8, (.int .i64 s.2.1))] a ∧ Le w5 M1 w' M' ∧ Cx (One g) w M w' M' ∧ OwnRow RTest w.heap.size 31 w' M' s.1 v0c ∧ Own w' g 111 #[(.slice Ax a_xs.length cx), (.int .i64 s.2.2)] ∧ M' g ∧ Own w' g1 45 #[(.slice none 0 0), (.bool false)] ∧ M' g1 ∧ Own w' g2 38 #[(.int .i64 0), (.int .i64 0), (.int .i64 0), (.int .i64 0)] ∧ M' g2) ?_ ?_ ?_
 ·
  intro a ha
  exact ⟨M1, (.slice (some p2) 0 0), ha.sub ⟨Z, Z, Z, Z, Z, Z, Z, trivial⟩, Le.refl _ _, hC5, hr1, ho12, hm6, ho13, hm7, ho14, hm8⟩
 ·
  rintro ⟨y1, k1, k2⟩ a w6 sr1 ⟨M2, v2, hF1, hl6, hC6, hw1, ho15, hm9, ho16, hm10, ho17, hm11⟩ hb6 hR1
  refine cw_at (E := [(0, (.pointer (some ⟨g, 0, none⟩))), (1, (.int .i64 a_n)), (4, (.pointer (some ⟨g1, 0, none⟩))), (5, (.pointer (some ⟨g2, 0, none⟩))), (6, (.pointer (some p1))), (7, v2), (8, (.int .i64 k1))]) hF1 (cw_seq (cw_seq (cw_region (lw_op Z Z Z (ow_move Z Z (lw_op Z Z Z (ow_fieldAddr Z Z Tryd.underlying45 Z (Tryd.sizeOf43 _) (lw_op Z Z Z (ow_load (R := (RSlice (RSlice RRule))) Z Z (ARep.mono (hl5.trans hl6) (hp1.fld fld_Ruleset_Chains)) (Tryd.sizeOf43 _) (Tryd.isAgg43 _) fun v5 hv5 => lw_op Z Z Z (ow_len Z Z hv5 Tryd.underlying43 Z (lw_op Z Z Z (ow_lss Z Z Z fun bb1 hbb1 => lw_nil (ew_then ?_)))))))))))))
  replace hb6 := cond_some hb6
  rcases hb6 with ⟨hc1, hb6⟩ | ⟨hc1, hb6⟩
  ·
   obtain rfl := hbb1.trans hc1
   refine cw_true Z (cw_skip (ew_then (cw_seq (cw_block (cw_seq (cw_region (lw_op Z Z Z (ow_assign Z Z (lw_nil (ew_then ?_))))))))))
   replace hb6 := bind_some hb6
   obtain ⟨lr2, hlr2, hb6⟩ := hb6
   refine cw_for hlr2 (fun s a w' => ∃ (M' : Nat → Prop) (v0c : Value), Fits 50 [(0, (.pointer (some ⟨g, 0, none⟩))), (1, (.int .i64 a_n)), (4, (.pointer (some ⟨g1, 0, none⟩))), (5, (.pointer (some ⟨g2, 0, none⟩))), (6, (.pointer (some p1))), (7, v0c), (8, (.int .i64 k1)), (9, (.int .i64 s.2.1))] a ∧ Le w6 M2 w' M' ∧ Cx (One g) w M w' M' ∧ OwnRow RTest w.heap.size 31 w' M' s.1 v0c ∧ Own w' g 111 #[(.slice Ax a_xs.length cx), (.int .i64 s.2.2)] ∧ M' g ∧ Own w' g1 45 #[(.slice none 0 0), (.bool false)] ∧ M' g1 ∧ Own w' g2 38 #[(.int .i64 0), (.int .i64 0), (.int .i64 0), (.int .i64 0)] ∧ M' g2) ?_ ?_ ?_
   ·
    intro a ha
    exact ⟨M2, v2, ha.sub ⟨Z, Z, Z, Z, Z, Z, Z, Z, trivial⟩, Le.refl _ _, hC6, hw1, ho15, hm9, ho16, hm10, ho17, hm11⟩
   ·
    rintro ⟨y2, k3, k4⟩ a w7 sr2 ⟨M3, v6, hF2, hl7, hC7, hw2, ho18, hm12, ho19, hm13, ho20, hm14⟩ hb7 hR2
    refine cw_at (E := [(0, (.pointer (some ⟨g, 0, none⟩))), (1, (.int .i64 a_n)), (4, (.pointer (some ⟨g1, 0, none⟩))), (5, (.pointer (some ⟨g2, 0, none⟩))), (6, (.pointer (some p1))), (7, v6), (8, (.int .i64 k1)), (9, (.int .i64 k3))]) hF2 (cw_seq (cw_seq (cw_region (lw_op Z Z Z (ow_move Z Z (lw_op Z Z Z (ow_fieldAddr Z Z Tryd.underlying45 Z (Tryd.sizeOf43 _) ?_)))))))
    have lz1 := ((hl5.trans hl6).trans hl7)
    refine lw_op Z Z Z (ow_load (R := (RSlice (RSlice RRule))) Z Z (ARep.mono lz1 (hp1.fld fld_Ruleset_Chains)) (Tryd.sizeOf43 _) (Tryd.isAgg43 _) fun v9 hv9 => lw_op Z Z Z (ow_move Z Z ?_))
    replace hb7 := bind_some hb7
    obtain ⟨x2, hx2, hb7⟩ := hb7
    refine lw_op Z Z Z (ow_indexSlice (R := (RSlice RRule)) Z Z Z hv9 Tryd.underlying43 (Tryd.sizeOf36 _) hx2 fun p3 hp3 => lw_op Z Z Z (ow_load (R := (RSlice RRule)) Z Z hp3 (Tryd.sizeOf36 _) (Tryd.isAgg36 _) fun v10 hv10 => lw_op Z Z Z (ow_len Z Z hv10 Tryd.underlying36 Z (lw_op Z Z Z (ow_lss Z Z Z fun bb2 hbb2 => lw_nil (ew_then ?_))))))
    replace hb7 := cond_some hb7
    rcases hb7 with ⟨hc2, hb7⟩ | ⟨hc2, hb7⟩
    ·
     obtain rfl := hbb2.trans hc2
     refine cw_true Z (cw_skip (ew_then (cw_seq (cw_block (cw_seq (cw_region (lw_op Z Z Z (ow_move Z Z ?_))))))))
     have lz2 := ((((((hl1.trans hl2).trans hl3).trans hl4).trans hl5).trans hl6).trans hl7)
     replace hb7 := bind_some hb7
     obtain ⟨x3, hx3, hb7⟩ := hb7
     refine lw_op Z Z Z (ow_call Z Z Tryd.call60 (w_spec_l20Rd_pick (hG.mono lz2) hC7.old (VRep.mono lz2 hxs) ho18 hm12 hx3) fun v11 w8 hv11 => ?_)
     obtain ⟨⟨hv11, ho21⟩, hb8⟩ := hv11
     have hl8 := Le.of_bx M3 hb8 (fun b e => (by rw [show b = g from e]; exact hm12))
     have hC8 := hC7.go hb8 (fun b e => Or.inr e)
     have ho22 := ho19.go hb8 (fun e => hn1 e.symm)
     have ho23 := ho20.go hb8 (fun e => hn2 e.symm)
     have hr2 := hw2.go hb8 (fun k hk e => (orow_ne hw2 ho18 (by decide)) (hk.trans (congrArg some e))) hl8 (fun _ h => h)
     obtain rfl := vint_eq hv11
     refine lw_op Z Z Z (ow_eqlI Z Z Z fun bb3 hbb3 => lw_nil (ew_then ?_))
     replace hb7 := cond_some hb7
     rcases hb7 with ⟨hc3, hb7⟩ | ⟨hc3, hb7⟩
     ·
      obtain rfl := hbb3.trans hc3
      refine cw_true Z (cw_region (lw_op Z Z Z (ow_move Z Z (lw_op Z Z Z (ow_fieldAddr Z Z Tryd.underlying45 Z (Tryd.sizeOf43 _) (lw_op Z Z Z (ow_load (R := (RSlice (RSlice RRule))) Z Z (ARep.mono (lz1.trans hl8) (hp1.fld fld_Ruleset_Chains)) (Tryd.sizeOf43 _) (Tryd.isAgg43 _) fun v12 hv12 => lw_op Z Z Z (ow_move Z Z (lw_op Z Z Z (ow_indexSlice (R := (RSlice RRule)) Z Z Z hv12 Tryd.underlying43 (Tryd.sizeOf36 _) hx2 fun p4 hp4 => lw_op Z Z Z (ow_load (R := (RSlice RRule)) Z Z hp4 (Tryd.sizeOf36 _) (Tryd.isAgg36 _) fun v13 hv13 => lw_op Z Z Z (ow_move Z Z ?_))))))))))))
      replace hb7 := bind_some hb7
      obtain ⟨x4, hx4, hb7⟩ := hb7
      refine lw_op Z Z Z (ow_indexSlice (R := RRule) Z Z Z hv13 Tryd.underlying36 (Tryd.sizeOf42 _) hx4 fun p5 hp5 => lw_op Z Z Z (ow_fieldAddr Z Z Tryd.underlying42 Z (Tryd.sizeOf27 _) (lw_op Z Z Z (ow_load (R := (RSlice RTest)) Z Z (hp5.fld fld_Rule_Tests) (Tryd.sizeOf27 _) (Tryd.isAgg27 _) fun v14 hv14 => ?_))))
      replace hb7 := bind_some hb7
      obtain ⟨z1, hz1, hb7⟩ := hb7
      refine lw_op Z Z Z (ow_append (R := RTest) Z Z Z Z Tryd.underlying27 hi31 hz31 hs31 hy31 Z Z Z Z hr2 hv14 hz1 hC8 fun v15 w9 M4 hr3 hb9 hl9 hC9 hM2 hat2 => ?_)
      have ho24 := ho21.go hb9 (fun e => (orow_ne hr2 ho21 (by decide)) e)
      have hm15 := hM2 _ hm12
      have ho25 := ho22.go hb9 (fun e => (orow_ne hr2 ho22 (by decide)) e)
      have hm16 := hM2 _ hm13
      have ho26 := ho23.go hb9 (fun e => (orow_ne hr2 ho23 (by decide)) e)
      have hm17 := hM2 _ hm14
      refine lw_op Z Z Z (ow_assign Z Z (lw_nil (ew_blockN (ew_then (cw_region (lw_op Z Z Z (ow_move Z Z (lw_op Z Z Z (ow_add Z Z Z (lw_op Z Z Z (ow_assign Z Z (lw_nil ?_))))))))))))
      have lz3 := ((hl7.trans hl8).trans hl9)
      exact ew_nxt (z1, (W (k3 + 1)), x3.2) hb7 fun a ha => ⟨M4, v15, (ha.sub ⟨Z, Z, Z, Z, Z, Z, Z, Z, trivial⟩), lz3, hC9, hr3, ho24, hm15, ho25, hm16, ho26, hm17⟩
     ·
      obtain rfl := hbb3.trans hc3
      exact cw_false Z (cw_skip (ew_blockN (ew_then (cw_region (lw_op Z Z Z (ow_move Z Z (lw_op Z Z Z (ow_add Z Z Z (lw_op Z Z Z (ow_assign Z Z (lw_nil (ew_nxt (y2, (W (k3 + 1)), x3.2) hb7 fun a ha => ⟨M3, v6, (ha.sub ⟨Z, Z, Z, Z, Z, Z, Z, Z, trivial⟩), (hl7.trans hl8), hC8, hr2, ho21, hm12, ho22, hm13, ho23, hm14⟩))))))))))))
    ·
     obtain rfl := hbb2.trans hc2
     exact cw_false Z (cw_exit (ew_thenX (ew_thenX (ew_blockX (ew_brk (y2, k3, k4) hb7 fun a ha => ⟨M3, v6, (ha.sub ⟨Z, Z, Z, Z, Z, Z, Z, Z, trivial⟩), hl7, hC7, hw2, ho18, hm12, ho19, hm13, ho20, hm14⟩)))))
   ·
    rintro ⟨y3, k5, k6⟩ a w10 hlr3 ⟨M5, v16, hF3, hl10, hC10, hw3, ho27, hm18, ho28, hm19, ho29, hm20⟩
    subst hlr3
    exact ew_at (E := [(0, (.pointer (some ⟨g, 0, none⟩))), (1, (.int .i64 a_n)), (4, (.pointer (some ⟨g1, 0, none⟩))), (5, (.pointer (some ⟨g2, 0, none⟩))), (6, (.pointer (some p1))), (7, v16), (8, (.int .i64 k1)), (9, (.int .i64 k5))]) hF3 (ew_blockN (ew_then (cw_region (lw_op Z Z Z (ow_move Z Z (lw_op Z Z Z (ow_add Z Z Z (lw_op Z Z Z (ow_assign Z Z (lw_nil (ew_nxt (y3, (W (k1 + 1)), k6) hb6 fun a ha => ⟨M5, v16, (ha.sub ⟨Z, Z, Z, Z, Z, Z, Z, trivial⟩), (hl6.trans hl10), hC10, hw3, ho27, hm18, ho28, hm19, ho29, hm20⟩)))))))))))
  ·
   obtain rfl := hbb1.trans hc1
   exact cw_false Z (cw_exit (ew_thenX (ew_thenX (ew_blockX (ew_brk (y1, k1, k2) hb6 fun a ha => ⟨M2, v2, (ha.sub ⟨Z, Z, Z, Z, Z, Z, Z, trivial⟩), hl6, hC6, hw1, ho15, hm9, ho16, hm10, ho17, hm11⟩)))))
 ·
  rintro ⟨y4, k7, k8⟩ a w11 hlr4 ⟨M6, v19, hF4, hl11, hC11, hw4, ho30, hm21, ho31, hm22, ho32, hm23⟩
  subst hlr4
  refine ew_at (E := [(0, (.pointer (some ⟨g, 0, none⟩))), (1, (.int .i64 a_n)), (4, (.pointer (some ⟨g1, 0, none⟩))), (5, (.pointer (some ⟨g2, 0, none⟩))), (6, (.pointer (some p1))), (7, v19), (8, (.int .i64 k7))]) hF4 (ew_then (cw_seq ?_))
  replace h := bind_some h
  obtain ⟨x5, hx5, h⟩ := h
  have lz4 := (((((hl1.trans hl2).trans hl3).trans hl4).trans hl5).trans hl11)
  have lz5 := (hl5.trans hl11)
  have hw6 := hw4.freezeDel
  have hC14 := hw4.cxDel hC11 hX hO
  have hl14 := Le.del w11 M6 v19
  have hm27 : (Del v19 M6) g := ⟨hm21, fun e => (orow_ne hw4 ho30 (by decide)) e⟩
  have hm28 : (Del v19 M6) g1 := ⟨hm22, fun e => (orow_ne hw4 ho31 (by decide)) e⟩
  have hm29 : (Del v19 M6) g2 := ⟨hm23, fun e => (orow_ne hw4 ho32 (by decide)) e⟩
  refine cw_sub (E' := [(0, (.pointer (some ⟨g, 0, none⟩))), (1, (.int .i64 a_n)), (4, (.pointer (some ⟨g1, 0, none⟩))), (5, (.pointer (some ⟨g2, 0, none⟩))), (6, (.pointer (some p1))), (7, v19)]) ⟨Z, Z, Z, Z, Z, Z, trivial⟩ (cw_drawC (g := g) (T := 111) 5 1 [none, none, none, none, some 0] [#[(.slice Ax a_xs.length cx), (.int .i64 k8)], #[(.slice Ax a_xs.length cx), (.int .i64 x5.2)]] [PV RRuleset (Del v19 M6) x1.1, PEq (.pointer (some ⟨g, 0, none⟩)), PV (RSlice RTest) (Del v19 M6) y4, PEq (.int .i64 a_n), PV RPacket (Del v19 M6) x5.1] (by kernel_rfl) Z (by kernel_rfl) (by kernel_rfl) ho30 ⟨(PV.monoY hm27 _ _), (PEq.monoY hm27 _), (PV.monoY hm27 _ _), (PEq.monoY hm27 _), (PV.monoY hm27 _ _), trivial⟩ ⟨?_, ?_, ?_, ?_, ?_, trivial⟩ ?_)
  ·
   intro w13 D hS1 hd1
   have hl15 := leY hm27 hS1
   refine dg_sub (E' := [(6, (.pointer (some p1)))]) ⟨Z, trivial⟩ ?_
   have lz6 := ((lz5.trans hl14).trans hl15)
   exact dg_plain Z (ow_load (R := RRuleset) Z Z (ARep.mono lz6 hp1) (Tryd.sizeOf45 _) (Tryd.isAgg45 _) fun v24 hv24 => ⟨BX.refl _ _, hv24⟩)
  ·
   intro w14 D hS2 hd2
   exact dg_sub (E' := [(0, (.pointer (some ⟨g, 0, none⟩)))]) ⟨Z, trivial⟩ (dg_plain Z (ow_move Z Z ⟨BX.refl _ _, Z⟩))
  ·
   intro w15 D hS3 hd3
   have hl17 := leY hm27 hS3
   exact dg_sub (E' := [(7, v19)]) ⟨Z, trivial⟩ (dg_plain Z (ow_move Z Z ⟨BX.refl _ _, (VRep.mono hl17 hw6)⟩))
  ·
   intro w16 D hS4 hd4
   exact dg_sub (E' := [(1, (.int .i64 a_n))]) ⟨Z, trivial⟩ (dg_plain Z (ow_move Z Z ⟨BX.refl _ _, Z⟩))
  ·
   intro w17 D hS5 hd5
   obtain ⟨hS5, ho44⟩ := hS5
   have ho44 : Own w17 g 111 #[(.slice Ax a_xs.length cx), (.int .i64 k8)] := ho44
   have hl19 := leY hm27 hS5
   have hC19 := hC14.go hS5 (fun b e => Or.inr e)
   have d2 : PV (RSlice RTest) (Del v19 M6) y4 (D 2) w17 := dpA hd5 2 Z
   generalize hq1 : (D 2) = v25 at d2
   refine dg_sub (E' := [(46, (.pointer (some ⟨g, 0, none⟩))), (47, v25), (48, (.int .i64 a_n))]) ⟨(dpE hd5 1 Z Z), (congrArg some hq1), (dpE hd5 3 Z Z), trivial⟩ ?_
   have lz7 := ((lz4.trans hl14).trans hl19)
   refine dg_plain Z (ow_call Z Z Tryd.call61 (w_spec_l20Near (hG.mono lz7) hC19.old (VRep.mono lz7 hxs) ho44 hm27 d2 hx5) fun v26 w18 hv26 => ?_)
   obtain ⟨⟨hv26, ho47⟩, hb11⟩ := hv26
   exact ⟨⟨⟨hS5.trans hb11, ho47⟩, hb11⟩, hv26⟩
  ·
   intro w19 D hS6 hd6
   have d4 : PV RRuleset (Del v19 M6) x1.1 (D 0) w19 := dpA hd6 0 Z
   have d8 : PV RPacket (Del v19 M6) x5.1 (D 4) w19 := dpA hd6 4 Z
   obtain ⟨hS6, ho50⟩ := hS6
   have ho50 : Own w19 g 111 #[(.slice Ax a_xs.length cx), (.int .i64 x5.2)] := ho50
   have hC21 := hC14.go hS6 (fun b e => Or.inr e)
   have ho51 := ho31.go hS6 (fun e => hn1 e.symm)
   have ho52 := ho32.go hS6 (fun e => hn2 e.symm)
   generalize hq2 : (D 0) = v27 at d4
   generalize hq3 : (D 4) = v28 at d8
   refine lw_sub (E' := [(45, v27), (49, v28), (0, (.pointer (some ⟨g, 0, none⟩))), (1, (.int .i64 a_n)), (4, (.pointer (some ⟨g1, 0, none⟩))), (5, (.pointer (some ⟨g2, 0, none⟩))), (6, (.pointer (some p1))), (7, v19)]) ⟨(congrArg some hq2), (congrArg some hq3), Z, Z, Z, Z, Z, Z, trivial⟩ ?_
   obtain ⟨A1, c1, rfl, hw7⟩ := open_Ruleset d4
   refine lw_op0 Z Z (ow_store (X := (One g)) (us := [(.slice A1 x1.1.Chains.length c1), (.bool x1.1.Accept)]) (cs' := #[(.slice A1 x1.1.Chains.length c1), (.bool x1.1.Accept)]) Z Z Z Z ho51 (Tryd.sizeOf45 _) Z Z Z Z hm28 (.inl hg2) Z hC21 fun w20 ho53 hb12 hl22 hC22 => ?_)
   have ho54 := ho50.go hb12 (fun e => hn1 e)
   have ho55 := ho52.go hb12 (fun e => hn3 e.symm)
   obtain rfl := open_Packet d8
   refine lw_op0 Z Z (ow_store (X := (One g)) (us := [(.int .i64 x5.1.From), (.int .i64 x5.1.To), (.int .i64 x5.1.Port), (.int .i64 x5.1.Proto)]) (cs' := #[(.int .i64 x5.1.From), (.int .i64 x5.1.To), (.int .i64 x5.1.Port), (.int .i64 x5.1.Proto)]) Z Z Z Z ho55 (Tryd.sizeOf38 _) Z Z Z Z hm29 (.inl hg4) Z hC22 fun w21 ho56 hb13 hl23 hC23 => ?_)
   have ho57 := ho54.go hb13 (fun e => hn2 e)
   have ho58 := ho53.go hb13 (fun e => hn3 e)
   refine lw_nil (ew_then (cw_ret ?_))
   have hw8 : VRep RRuleset w21 (Del v19 M6) ({ Chains := x1.1.Chains, Accept := x1.1.Accept } : Ruleset) (.agg #[(.slice A1 x1.1.Chains.length c1), (.bool x1.1.Accept)]) := shut_Ruleset (VRep.mono (hl22.trans hl23) hw7)
   have hw9 : VRep RPacket w21 (Del v19 M6) ({ From := x5.1.From, To := x5.1.To, Port := x5.1.Port, Proto := x5.1.Proto } : Packet) (.agg #[(.int .i64 x5.1.From), (.int .i64 x5.1.To), (.int .i64 x5.1.Port), (.int .i64 x5.1.Proto)]) := shut_Packet
   obtain rfl := Option.some.inj h
   exact ew_ret (res2 Z (.cell Z (own_loadVarA ho58 (Tryd.isAgg45 _) (Tryd.sizeOf45 _) Z)) (.cell Z (own_loadVarA ho56 (Tryd.isAgg38 _) (Tryd.sizeOf38 _) Z))) ⟨_, Z, ⟨⟨_, _, Z, (hw8.mono hC23.back), (hw9.mono hC23.back)⟩, ho57⟩, hC23.bx⟩

theorem w_spec_DrawJudge {w : World} {M : Nat → Prop} (hG : ARep (RArr 4 RShape) w M shapes ⟨0, 0, none⟩) (hO : ∀ b, M b → b < w.heap.size) {v0p : Value} {a_code : List Int} (h0 : VRep (RSlice RU8) w M a_code v0p) {r : Ruleset × Packet} (h : F.spec_DrawJudge a_code = some r) :
  Calls Tryd.prog 42 [v0p].toArray w fun e w' => ∃ v, e = .returned v ∧ (∃ u0 u1, v = .tuple #[u0, u1] ∧ VRep RRuleset w' M r.1 u0 ∧ VRep RPacket w' M r.2 u1) ∧ BX No w w' := by
 have hC : Cx No w M w M := Cx.start hO (fun _ e => e.elim)
 refine walk (N := 9) Tryd.func42 Z Tryd.ntmps42 Z (cw_seq (cw_region (lw_op Z Z Z (ow_alloc Z (Tryd.zeroValue45 _) hC fun g1 w1 hg1 hg2 ho1 hb1 hl1 hC1 => ?_))))
 have hm1 : (Add g1 M) g1 := .inl Z
 refine lw_op Z Z Z (ow_alloc Z (Tryd.zeroValue38 _) hC1 fun g2 w2 hg3 hg4 ho2 hb2 hl2 hC2 => ?_)
 have hn1 := Nat.ne_of_lt (Nat.lt_of_lt_of_le ho1.lt hg3)
 have ho3 := ho1.no hb2
 have hm2 : (Add g2 (Add g1 M)) g1 := .inr hm1
 have hm3 : (Add g2 (Add g1 M)) g2 := .inl Z
 refine lw_nil (ew_then (cw_seq (cw_region (lw_op Z Z Z (ow_move Z Z ?_)))))
 replace h := bind_some h
 obtain ⟨x1, hx1, h⟩ := h
 refine lw_op Z Z Z (ow_call Z Z Tryd.call47 (w_spec_l20Open (hG.mono (hl1.trans hl2)) hC2.old (VRep.mono (hl1.trans hl2) h0) hx1) fun v1 w3 hv1 => ?_)
 obtain ⟨⟨g3, A1, c1, rfl, hg5, ho4, hw1⟩, hb3⟩ := hv1
 have hl3 := (Le.no (Add g2 (Add g1 M)) hb3).add hg5
 have hg6 := Nat.le_trans hC2.bx.size hg5
 have hC3 := (hC2.no hb3).add ho4.lt hg6
 have hn2 := Nat.ne_of_lt (Nat.lt_of_lt_of_le ho3.lt hg5)
 have ho5 := ho3.no hb3
 have hm4 : (Add g3 (Add g2 (Add g1 M))) g1 := .inr hm2
 have hn3 := Nat.ne_of_lt (Nat.lt_of_lt_of_le ho2.lt hg5)
 have ho6 := ho2.no hb3
 have hm5 : (Add g3 (Add g2 (Add g1 M))) g2 := .inr hm3
 have hm6 : (Add g3 (Add g2 (Add g1 M))) g3 := .inl Z
 replace h := bind_some h
 obtain ⟨x2, hx2, h⟩ := h
 have lz1 := ((hl1.trans hl2).trans hl3)
 refine lw_op Z Z Z (ow_call Z Z Tryd.call75 (w_spec_l20Case (hG.mono lz1) hC3.old hw1 ho4 hm6 hx2) fun v2 w4 hv2 => ?_)
 obtain ⟨⟨⟨v3, v4, rfl, hv3, hv4⟩, ho7⟩, hb4⟩ := hv2
 have hC4 := hC3.go hb4 (fun b e => (by rw [show b = g3 from e]; exact (.inl hg6)))
 have ho8 := ho5.go hb4 (fun e => hn2 e)
 have ho9 := ho6.go hb4 (fun e => hn3 e)
 refine lw_op Z Z Z (ow_extract Z Z Z (lw_op Z Z Z (ow_extract Z Z Z ?_)))
 obtain ⟨A2, c2, rfl, hw2⟩ := open_Ruleset hv3
 refine lw_op0 Z Z (ow_store (X := No) (us := [(.slice A2 x2.1.Chains.length c2), (.bool x2.1.Accept)]) (cs' := #[(.slice A2 x2.1.Chains.length c2), (.bool x2.1.Accept)]) Z Z Z Z ho8 (Tryd.sizeOf45 _) Z Z Z Z hm4 (.inl hg2) Z hC4 fun w5 ho10 hb5 hl5 hC5 => ?_)
 have ho11 := ho9.go hb5 (fun e => hn1 e.symm)
 obtain rfl := open_Packet hv4
 refine lw_op0 Z Z (ow_store (X := No) (us := [(.int .i64 x2.2.1.From), (.int .i64 x2.2.1.To), (.int .i64 x2.2.1.Port), (.int .i64 x2.2.1.Proto)]) (cs' := #[(.int .i64 x2.2.1.From), (.int .i64 x2.2.1.To), (.int .i64 x2.2.1.Port), (.int .i64 x2.2.1.Proto)]) Z Z Z Z ho11 (Tryd.sizeOf38 _) Z Z Z Z hm5 (.inl hg4) Z hC5 fun w6 ho13 hb6 hl6 hC6 => ?_)
 have ho14 := ho10.go hb6 (fun e => hn1 e)
 refine lw_nil (ew_then (cw_ret ?_))
 have hw3 : VRep RRuleset w6 (Add g3 (Add g2 (Add g1 M))) ({ Chains := x2.1.Chains, Accept := x2.1.Accept } : Ruleset) (.agg #[(.slice A2 x2.1.Chains.length c2), (.bool x2.1.Accept)]) := shut_Ruleset (VRep.mono (hl5.trans hl6) hw2)
 have hw4 : VRep RPacket w6 (Add g3 (Add g2 (Add g1 M))) ({ From := x2.2.1.From, To := x2.2.1.To, Port := x2.2.1.Port, Proto := x2.2.1.Proto } : Packet) (.agg #[(.int .i64 x2.2.1.From), (.int .i64 x2.2.1.To), (.int .i64 x2.2.1.Port), (.int .i64 x2.2.1.Proto)]) := shut_Packet
 obtain rfl := Option.some.inj h
 exact ew_ret (res2 Z (.cell Z (own_loadVarA ho14 (Tryd.isAgg45 _) (Tryd.sizeOf45 _) Z)) (.cell Z (own_loadVarA ho13 (Tryd.isAgg38 _) (Tryd.sizeOf38 _) Z))) ⟨_, Z, ⟨_, _, Z, (hw3.mono hC6.back), (hw4.mono hC6.back)⟩, hC6.bx⟩

theorem w_laws_FnJudgeMirror {w : World} {M : Nat → Prop} (hG : ARep (RArr 4 RShape) w M shapes ⟨0, 0, none⟩) (hO : ∀ b, M b → b < w.heap.size) {v0p : Value} {a_code : List Int} (h0 : VRep (RSlice RU8) w M a_code v0p) {r : Bool} (h : F.laws_FnJudgeMirror a_code = some r) :
  Calls Tryd.prog 10 [v0p].toArray w fun e w' => ∃ v, e = .returned v ∧ VRep RBool w' M r v ∧ BX No w w' := by
 obtain ⟨i36, hi36, hz36, hs36, hy36⟩ := info36
 obtain ⟨i42, hi42, hz42, hs42, hy42⟩ := info42
 have hC : Cx No w M w M := Cx.start hO (fun _ e => e.elim)
 refine walk (N := 91) Tryd.func10 Z Tryd.ntmps10 Z (cw_seq (cw_region (lw_op Z Z Z (ow_assign Z Z (lw_nil (ew_then (cw_seq (cw_seq (cw_region (lw_op Z Z Z (ow_move Z Z (lw_op Z Z Z (ow_len Z Z h0 Tryd.underlying22 Z (lw_op Z Z Z (ow_gtr Z Z Z fun bb1 hbb1 => lw_nil (ew_then ?_))))))))))))))))
 replace h := cond_some h
 rcases h with ⟨hc1, h⟩ | ⟨hc1, h⟩
 ·
  obtain rfl := hbb1.trans hc1
  refine cw_true Z (cw_seq (cw_region (lw_op Z Z Z (ow_assign Z Z (lw_nil (ew_then (cw_ret (ew_thenR ?_))))))))
  obtain rfl := Option.some.inj h
  exact ew_ret (res1 Z (.tmp Z)) ⟨_, Z, ((vbool _)), hC.bx⟩
 ·
  obtain rfl := hbb1.trans hc1
  refine cw_false Z (cw_skip (ew_then (cw_seq (cw_region (lw_op Z Z Z (ow_move Z Z ?_))))))
  replace h := bind_some h
  obtain ⟨x1, hx1, h⟩ := h
  refine lw_op Z Z Z (ow_call Z Z Tryd.call42 (w_spec_DrawJudge hG hC.old h0 hx1) fun v1 w1 hv1 => ?_)
  obtain ⟨⟨v2, v3, rfl, hv2, hv3⟩, hb1⟩ := hv1
  have hl1 := Le.no M hb1
  have hC1 := hC.no hb1
  refine lw_op Z Z Z (ow_move Z Z (lw_op Z Z Z (ow_extract Z Z Z (lw_op Z Z Z (ow_extract Z Z Z (lw_op Z Z Z (ow_alloc Z (Tryd.zeroValue45 _) hC1 fun g1 w2 hg1 hg2 ho1 hb2 hl2 hC2 => ?_)))))))
  have hm1 : (Add g1 M) g1 := .inl Z
  refine lw_op Z Z Z (ow_alloc Z (Tryd.zeroValue38 _) hC2 fun g2 w3 hg3 hg4 ho2 hb3 hl3 hC3 => ?_)
  have hn1 := Nat.ne_of_lt (Nat.lt_of_lt_of_le ho1.lt hg3)
  have ho3 := ho1.no hb3
  have hm2 : (Add g2 (Add g1 M)) g1 := .inr hm1
  have hm3 : (Add g2 (Add g1 M)) g2 := .inl Z
  obtain ⟨A1, c1, rfl, hw1⟩ := open_Ruleset hv2
  refine lw_op0 Z Z (ow_store (X := No) (us := [(.slice A1 x1.1.Chains.length c1), (.bool x1.1.Accept)]) (cs' := #[(.slice A1 x1.1.Chains.length c1), (.bool x1.1.Accept)]) Z Z Z Z ho3 (Tryd.sizeOf45 _) Z Z Z Z hm2 (.inl hg2) Z hC3 fun w4 ho4 hb4 hl4 hC4 => ?_)
  have ho5 := ho2.go hb4 (fun e => hn1 e.symm)
  obtain rfl := open_Packet hv3
  refine lw_op0 Z Z (ow_store (X := No) (us := [(.int .i64 x1.2.From), (.int .i64 x1.2.To), (.int .i64 x1.2.Port), (.int .i64 x1.2.Proto)]) (cs' := #[(.int .i64 x1.2.From), (.int .i64 x1.2.To), (.int .i64 x1.2.Port), (.int .i64 x1.2.Proto)]) Z Z Z Z ho5 (Tryd.sizeOf38 _) Z Z Z Z hm3 (.inl hg4) Z hC4 fun w5 ho6 hb5 hl5 hC5 => ?_)
  have ho7 := ho4.go hb5 (fun e => hn1 e)
  refine lw_nil (ew_then (cw_seq (cw_region (lw_op Z Z Z (ow_loadOwnA Z Z Z ho7 (Tryd.isAgg45 _) (Tryd.sizeOf45 _) Z ?_)))))
  have lz1 := (((hl2.trans hl3).trans hl4).trans hl5)
  have hw2 : VRep RRuleset w5 (Add g2 (Add g1 M)) ({ Chains := x1.1.Chains, Accept := x1.1.Accept } : Ruleset) (.agg #[(.slice A1 x1.1.Chains.length c1), (.bool x1.1.Accept)]) := shut_Ruleset (VRep.mono lz1 hw1)
  refine lw_op Z Z Z (ow_loadOwnA Z Z Z ho6 (Tryd.isAgg38 _) (Tryd.sizeOf38 _) Z ?_)
  have hw3 : VRep RPacket w5 (Add g2 (Add g1 M)) ({ From := x1.2.From, To := x1.2.To, Port := x1.2.Port, Proto := x1.2.Proto } : Packet) (.agg #[(.int .i64 x1.2.From), (.int .i64 x1.2.To), (.int .i64 x1.2.Port), (.int .i64 x1.2.Proto)]) := shut_Packet
  replace h := bind_some h
  obtain ⟨x2, hx2, h⟩ := h
  have lz2 := ((((hl1.trans hl2).trans hl3).trans hl4).trans hl5)
  refine lw_op Z Z Z (ow_call Z Z Tryd.call22 (w_impl_Judge (hG.mono lz2) hC5.old hw2 hw3 hx2) fun v4 w6 hv4 => ?_)
  obtain ⟨hv4, hb6⟩ := hv4
  have hl6 := Le.no (Add g2 (Add g1 M)) hb6
  have hC6 := hC5.no hb6
  have ho8 := ho7.no hb6
  have ho9 := ho6.no hb6
  obtain rfl := vbool_eq hv4
  refine lw_op Z Z Z (ow_assign Z Z (lw_nil (ew_then (cw_seq (cw_seq (cw_region (lw_op Z Z Z (ow_move Z Z (lw_op Z Z Z (ow_loadOwnA Z Z Z ho8 (Tryd.isAgg45 _) (Tryd.sizeOf45 _) Z ?_))))))))))
  have hw4 : VRep RRuleset w6 (Add g2 (Add g1 M)) ({ Chains := x1.1.Chains, Accept := x1.1.Accept } : Ruleset) (.agg #[(.slice A1 x1.1.Chains.length c1), (.bool x1.1.Accept)]) := shut_Ruleset (VRep.mono (lz1.trans hl6) hw1)
  refine lw_op Z Z Z (ow_loadOwnA Z Z Z ho9 (Tryd.isAgg38 _) (Tryd.sizeOf38 _) Z ?_)
  have hw5 : VRep RPacket w6 (Add g2 (Add g1 M)) ({ From := x1.2.From, To := x1.2.To, Port := x1.2.Port, Proto := x1.2.Proto } : Packet) (.agg #[(.int .i64 x1.2.From), (.int .i64 x1.2.To), (.int .i64 x1.2.Port), (.int .i64 x1.2.Proto)]) := shut_Packet
  replace h := bind_some h
  obtain ⟨x3, hx3, h⟩ := h
  refine lw_op Z Z Z (ow_call Z Z Tryd.call23 (w_spec_Judge (hG.mono (lz2.trans hl6)) hC6.old hw4 hw5 hx3) fun v5 w7 hv5 => ?_)
  obtain ⟨hv5, hb7⟩ := hv5
  have hl7 := Le.no (Add g2 (Add g1 M)) hb7
  have hC7 := hC6.no hb7
  have ho10 := ho8.no hb7
  have ho11 := ho9.no hb7
  obtain rfl := vbool_eq hv5
  refine lw_op Z Z Z (ow_neqB Z Z Z Tryd.underlying4 fun bb2 hbb2 => lw_nil (ew_then ?_))
  replace h := cond_some h
  rcases h with ⟨hc2, h⟩ | ⟨hc2, h⟩
  ·
   obtain rfl := hbb2.trans hc2
   refine cw_true Z (cw_seq (cw_region (lw_op Z Z Z (ow_assign Z Z (lw_nil (ew_then (cw_ret (ew_thenR ?_))))))))
   obtain rfl := Option.some.inj h
   exact ew_ret (res1 Z (.tmp Z)) ⟨_, Z, ((vbool _)), hC7.bx⟩
  ·
   obtain rfl := hbb2.trans hc2
   refine cw_false Z (cw_skip (ew_then (cw_seq (cw_seq (cw_region (lw_op Z Z Z (ow_loadOwnA Z Z Z ho10 (Tryd.isAgg45 _) (Tryd.sizeOf45 _) Z ?_)))))))
   have lz3 := ((lz1.trans hl6).trans hl7)
   have hw6 : VRep RRuleset w7 (Add g2 (Add g1 M)) ({ Chains := x1.1.Chains, Accept := x1.1.Accept } : Ruleset) (.agg #[(.slice A1 x1.1.Chains.length c1), (.bool x1.1.Accept)]) := shut_Ruleset (VRep.mono lz3 hw1)
   replace h := bind_some h
   obtain ⟨x4, hx4, h⟩ := h
   have lz4 := ((lz2.trans hl6).trans hl7)
   refine lw_op Z Z Z (ow_call Z Z Tryd.call26 (w_spec_RulesetValid (hG.mono lz4) hC7.old hw6 hx4) fun v6 w8 hv6 => ?_)
   obtain ⟨hv6, hb8⟩ := hv6
   have hl8 := Le.no (Add g2 (Add g1 M)) hb8
   have hC8 := hC7.no hb8
   have ho12 := ho10.no hb8
   have ho13 := ho11.no hb8
   obtain rfl := vbool_eq hv6
   refine lw_op Z Z Z (ow_not Z Z (lw_op Z Z Z (ow_move Z Z ?_)))
   replace h := cond_some h
   rcases h with ⟨hc3, h⟩ | ⟨hc3, h⟩
   ·
    subst hc3
    refine lw_on Z Z Z Z Z Z (ow_loadOwnA Z Z Z ho13 (Tryd.isAgg38 _) (Tryd.sizeOf38 _) Z ?_)
    have hw7 : VRep RPacket w8 (Add g2 (Add g1 M)) ({ From := x1.2.From, To := x1.2.To, Port := x1.2.Port, Proto := x1.2.Proto } : Packet) (.agg #[(.int .i64 x1.2.From), (.int .i64 x1.2.To), (.int .i64 x1.2.Port), (.int .i64 x1.2.Proto)]) := shut_Packet
    replace h := bind_some h
    obtain ⟨x5, hx5, h⟩ := h
    refine lw_on Z Z Z Z Z Z (ow_call Z Z Tryd.call41 (w_spec_PacketValid (hG.mono (lz4.trans hl8)) hC8.old hw7 hx5) fun v7 w9 hv7 => ?_)
    obtain ⟨hv7, hb9⟩ := hv7
    have hl9 := Le.no (Add g2 (Add g1 M)) hb9
    have hC9 := hC8.no hb9
    have ho14 := ho12.no hb9
    have ho15 := ho13.no hb9
    obtain rfl := vbool_eq hv7
    refine lw_on Z Z Z Z Z Z (ow_not Z Z (lw_op Z Z Z (ow_pickF Z Z Z (lw_nil (ew_then ?_)))))
    replace h := cond_some h
    rcases h with ⟨hc4, h⟩ | ⟨hc4, h⟩
    ·
     subst hc4
     refine cw_false Z (cw_skip (ew_then (cw_seq (cw_region (lw_op Z Z Z (ow_fieldAddr Z Z Tryd.underlying45 Z (Tryd.sizeOf4 _) (lw_op Z Z Z (ow_loadOwn1 Z Z Z ho14 (Tryd.isAgg4 _) Z (lw_op Z Z Z (ow_not Z Z (lw_op Z Z Z (ow_build (v := .agg #[(.slice none 0 0), (.bool (!x1.1.Accept))]) Z Z (by kernel_rfl) (lw_op Z Z Z (ow_alloc Z (Tryd.zeroValue45 _) hC9 fun g3 w10 hg5 hg6 ho16 hb10 hl10 hC10 => ?_))))))))))))))
     have hn2 := Nat.ne_of_lt (Nat.lt_of_lt_of_le ho14.lt hg5)
     have ho17 := ho14.no hb10
     have hm4 : (Add g3 (Add g2 (Add g1 M))) g1 := .inr hm2
     have hn3 := Nat.ne_of_lt (Nat.lt_of_lt_of_le ho15.lt hg5)
     have ho18 := ho15.no hb10
     have hm5 : (Add g3 (Add g2 (Add g1 M))) g2 := .inr hm3
     have hm6 : (Add g3 (Add g2 (Add g1 M))) g3 := .inl Z
     refine lw_op0 Z Z (ow_store (X := No) (us := [(.slice none 0 0), (.bool (!x1.1.Accept))]) (cs' := #[(.slice none 0 0), (.bool (!x1.1.Accept))]) Z Z Z Z ho16 (Tryd.sizeOf45 _) Z Z Z Z hm6 (.inl hg6) Z hC10 fun w11 ho19 hb11 hl11 hC11 => ?_)
     have ho20 := ho17.go hb11 (fun e => hn2 e)
     have ho21 := ho18.go hb11 (fun e => hn3 e)
     refine lw_nil (ew_then (cw_seq (cw_seq (cw_region (lw_op Z Z Z (ow_assign Z Z (lw_nil (ew_then ?_))))))))
     have hr1 : OwnRow (RSlice RRule) w.heap.size 36 w11 (Add g3 (Add g2 (Add g1 M))) ([] : List (List Rule)) (.slice none 0 0) := ownrow_nil
     replace h := bind_some h
     obtain ⟨lr1, hlr1, h⟩ := h
     refine cw_for hlr1 (fun s a w' => ∃ (M' : Nat → Prop) (v1c : Value), Fits 91 [(3, (.pointer (some ⟨g1, 0, none⟩))), (4, (.pointer (some ⟨g2, 0, none⟩))), (5, (.bool x2)), (6, (.pointer (some ⟨g3, 0, none⟩))), (7, (.int .i64 s.1))] a ∧ Le w11 (Add g3 (Add g2 (Add g1 M))) w' M' ∧ Cx No w M w' M' ∧ OwnRow (RSlice RRule) w.heap.size 36 w' M' s.2 v1c ∧ Own w' g1 45 #[(.slice A1 x1.1.Chains.length c1), (.bool x1.1.Accept)] ∧ M' g1 ∧ Own w' g2 38 #[(.int .i64 x1.2.From), (.int .i64 x1.2.To), (.int .i64 x1.2.Port), (.int .i64 x1.2.Proto)] ∧ M' g2 ∧ Own w' g3 45 #[v1c, (.bool (!x1.1.Accept))] ∧ M' g3) ?_ ?_ ?_
     ·
      intro a ha
      exact ⟨(Add g3 (Add g2 (Add g1 M))), (.slice none 0 0), ha.sub ⟨Z, Z, Z, Z, Z, trivial⟩, Le.refl _ _, hC11, hr1, ho20, hm4, ho21, hm5, ho19, hm6⟩
     ·
      rintro ⟨k1, y1⟩ a w12 sr1 ⟨M1, v9, hF1, hl12, hC12, hw9, ho22, hm7, ho23, hm8, ho24, hm9⟩ hb12 hR1
      refine cw_at (E := [(3, (.pointer (some ⟨g1, 0, none⟩))), (4, (.pointer (some ⟨g2, 0, none⟩))), (5, (.bool x2)), (6, (.pointer (some ⟨g3, 0, none⟩))), (7, (.int .i64 k1))]) hF1 (cw_seq (cw_seq (cw_region (lw_op Z Z Z (ow_move Z Z (lw_op Z Z Z (ow_fieldAddr Z Z Tryd.underlying45 Z (Tryd.sizeOf43 _) (lw_op Z Z Z (ow_loadOwn1 Z Z Z ho22 (Tryd.isAgg43 _) Z ?_)))))))))
      have lz5 := (((((lz3.trans hl8).trans hl9).trans hl10).trans hl11).trans hl12)
      refine lw_op Z Z Z (ow_len Z Z (VRep.mono lz5 hw1) Tryd.underlying43 Z (lw_op Z Z Z (ow_lss Z Z Z fun bb3 hbb3 => lw_nil (ew_then ?_))))
      replace hb12 := cond_some hb12
      rcases hb12 with ⟨hc5, hb12⟩ | ⟨hc5, hb12⟩
      ·
       obtain rfl := hbb3.trans hc5
       refine cw_true Z (cw_skip (ew_then (cw_seq (cw_block (cw_seq (cw_region (lw_op Z Z Z (ow_buildSlice0 (R := RRule) (e := 42) Z (by kernel_rfl) hC12 fun p1 w13 M2 hr2 hb13 hl13 hC13 hM1 hat1 => ?_))))))))
       have ho25 := ho22.no hb13
       have hm10 := hM1 _ hm7
       have ho26 := ho23.no hb13
       have hm11 := hM1 _ hm8
       have ho27 := ho24.no hb13
       have hm12 := hM1 _ hm9
       have hr3 := hw9.go hb13 (fun _ _ e => e) hl13 hM1
       refine lw_op Z Z Z (ow_fieldAddr Z Z Tryd.underlying45 Z (Tryd.sizeOf43 _) (lw_op Z Z Z (ow_loadOwn1 Z Z Z ho25 (Tryd.isAgg43 _) Z (lw_op Z Z Z (ow_move Z Z ?_)))))
       replace hb12 := bind_some hb12
       obtain ⟨x6, hx6, hb12⟩ := hb12
       refine lw_op Z Z Z (ow_indexSlice (R := (RSlice RRule)) Z Z Z (VRep.mono (lz5.trans hl13) hw1) Tryd.underlying43 (Tryd.sizeOf36 _) hx6 fun p2 hp2 => lw_op Z Z Z (ow_load (R := (RSlice RRule)) Z Z hp2 (Tryd.sizeOf36 _) (Tryd.isAgg36 _) fun v10 hv10 => ?_))
       replace hb12 := bind_some hb12
       obtain ⟨z1, hz1, hb12⟩ := hb12
       refine lw_op Z Z Z (ow_append (R := RRule) Z Z Z Z Tryd.underlying36 hi42 hz42 hs42 hy42 Z Z Z Z hr2 hv10 hz1 hC13 fun v11 w14 M3 hr4 hb14 hl14 hC14 hM2 hat2 => ?_)
       have ho28 := ho25.go hb14 (fun e => (orow_ne hr2 ho25 (by decide)) e)
       have hm13 := hM2 _ hm10
       have ho29 := ho26.go hb14 (fun e => (orow_ne hr2 ho26 (by decide)) e)
       have hm14 := hM2 _ hm11
       have ho30 := ho27.go hb14 (fun e => (orow_ne hr2 ho27 (by decide)) e)
       have hm15 := hM2 _ hm12
       have hr5 := hr3.goRow hr2 hb14 hl14 hM2 (by decide)
       refine lw_op Z Z Z (ow_assign Z Z (lw_nil (ew_then (cw_seq (cw_seq (cw_region (lw_op Z Z Z (ow_assign Z Z (lw_nil (ew_then ?_))))))))))
       replace hb12 := bind_some hb12
       obtain ⟨lr2, hlr2, hb12⟩ := hb12
       refine cw_for hlr2 (fun s a w' => ∃ (M' : Nat → Prop), Fits 91 [(3, (.pointer (some ⟨g1, 0, none⟩))), (4, (.pointer (some ⟨g2, 0, none⟩))), (5, (.bool x2)), (6, (.pointer (some ⟨g3, 0, none⟩))), (7, (.int .i64 k1)), (8, v11), (9, (.int .i64 s.1))] a ∧ Le w14 M3 w' M' ∧ Cx No w M w' M' ∧ OwnRow RRule w.heap.size 42 w' M' s.2.1 v11 ∧ OwnRow (RSlice RRule) w.heap.size 36 w' M' s.2.2 v9 ∧ Own w' g1 45 #[(.slice A1 x1.1.Chains.length c1), (.bool x1.1.Accept)] ∧ M' g1 ∧ Own w' g2 38 #[(.int .i64 x1.2.From), (.int .i64 x1.2.To), (.int .i64 x1.2.Port), (.int .i64 x1.2.Proto)] ∧ M' g2 ∧ Own w' g3 45 #[v9, (.bool (!x1.1.Accept))] ∧ M' g3) ?_ ?_ ?_
       ·
        intro a ha
        exact ⟨M3, ha.sub ⟨Z, Z, Z, Z, Z, Z, Z, trivial⟩, Le.refl _ _, hC14, hr4, hr5, ho28, hm13, ho29, hm14, ho30, hm15⟩
       ·
        rintro ⟨k2, y2, y3⟩ a w15 sr2 ⟨M4, hF2, hl15, hC15, hw10, hw11, ho31, hm16, ho32, hm17, ho33, hm18⟩ hb15 hR2
        refine cw_at (E := [(3, (.pointer (some ⟨g1, 0, none⟩))), (4, (.pointer (some ⟨g2, 0, none⟩))), (5, (.bool x2)), (6, (.pointer (some ⟨g3, 0, none⟩))), (7, (.int .i64 k1)), (8, v11), (9, (.int .i64 k2))]) hF2 (cw_seq (cw_seq (cw_region (lw_op Z Z Z (ow_move Z Z (lw_op Z Z Z (ow_move Z Z (lw_op Z Z Z (ow_lenOwn Z Z hw10 Tryd.underlying36 (lw_op Z Z Z (ow_lss Z Z Z fun bb4 hbb4 => lw_nil (ew_then ?_))))))))))))
        replace hb15 := cond_some hb15
        rcases hb15 with ⟨hc6, hb15⟩ | ⟨hc6, hb15⟩
        ·
         obtain rfl := hbb4.trans hc6
         refine cw_true Z (cw_skip (ew_then (cw_seq (cw_block (cw_seq (cw_region (lw_op Z Z Z (ow_move Z Z (lw_op Z Z Z (ow_move Z Z ?_))))))))))
         replace hb15 := bind_some hb15
         obtain ⟨x7, hx7, hb15⟩ := hb15
         refine lw_op Z Z Z (ow_indexRow (R := RRule) Z Z Z hw10 Tryd.underlying36 (Tryd.sizeOf42 _) hx7 (lw_op Z Z Z (ow_fieldAddr Z Z Tryd.underlying42 Z (Tryd.sizeOf3 _) (lw_op Z Z Z (ow_loadElRow (R := RRule) (S := RInt) Z Z Z hw10 (orow_blk hw10 hx7) hx7 fld_Rule_Action (Tryd.sizeOf3 _) (Tryd.isAgg3 _) fun v15 hv15 => ?_)))))
         obtain rfl := vint_eq hv15
         refine lw_op Z Z Z (ow_leq Z Z Z fun bb5 hbb5 => lw_nil (ew_then ?_))
         replace hb15 := cond_some hb15
         rcases hb15 with ⟨hc7, hb15⟩ | ⟨hc7, hb15⟩
         ·
          obtain rfl := hbb5.trans hc7
          refine cw_true Z (cw_region (lw_op Z Z Z (ow_move Z Z (lw_op Z Z Z (ow_move Z Z (lw_op Z Z Z (ow_move Z Z (lw_op Z Z Z (ow_move Z Z (lw_op Z Z Z (ow_indexRow (R := RRule) Z Z Z hw10 Tryd.underlying36 (Tryd.sizeOf42 _) hx7 (lw_op Z Z Z (ow_fieldAddr Z Z Tryd.underlying42 Z (Tryd.sizeOf3 _) (lw_op Z Z Z (ow_loadElRow (R := RRule) (S := RInt) Z Z Z hw10 (orow_blk hw10 hx7) hx7 fld_Rule_Action (Tryd.sizeOf3 _) (Tryd.isAgg3 _) fun v16 hv16 => ?_)))))))))))))))
          obtain rfl := vint_eq hv16
          refine lw_op Z Z Z (ow_sub Z Z Z (lw_op Z Z Z (ow_indexRow (R := RRule) Z Z Z hw10 Tryd.underlying36 (Tryd.sizeOf42 _) hx7 (lw_op Z Z Z (ow_fieldAddr Z Z Tryd.underlying42 Z (Tryd.sizeOf3 _) (lw_op0 Z Z (ow_storeElRow (X := No) (R := RRule) (S := RInt) Z Z Z Z hw10 (orow_blk hw10 hx7) hx7 set_Rule_Action (Tryd.sizeOf3 _) (vint _) (Nat.le_refl _) hC15 fun w16 ho34 hb16 hl16 hC16 => ?_)))))))
          have ho35 := ho31.go hb16 (fun e => (orow_ne hw10 ho31 (by decide)) (by rw [orow_blk hw10 hx7]; exact congrArg some e.symm))
          have ho36 := ho32.go hb16 (fun e => (orow_ne hw10 ho32 (by decide)) (by rw [orow_blk hw10 hx7]; exact congrArg some e.symm))
          have ho37 := ho33.go hb16 (fun e => (orow_ne hw10 ho33 (by decide)) (by rw [orow_blk hw10 hx7]; exact congrArg some e.symm))
          have hr6 := hw11.go hb16 (fun k hk e => orow_row_ne hw11 hw10 (by decide) hk (by rw [orow_blk hw10 hx7]; exact congrArg some e.symm)) hl16 (fun _ h => h)
          exact lw_nil (ew_blockN (ew_then (cw_region (lw_op Z Z Z (ow_move Z Z (lw_op Z Z Z (ow_add Z Z Z (lw_op Z Z Z (ow_assign Z Z (lw_nil (ew_nxt ((W (k2 + 1)), (List.set y2 (k2 : Int).toNat { x7 with Action := (W (3 - x7.Action)) }), y3) hb15 fun a ha => ⟨M4, (ha.sub ⟨Z, Z, Z, Z, Z, Z, Z, trivial⟩), (hl15.trans hl16), hC16, ho34, hr6, ho35, hm16, ho36, hm17, ho37, hm18⟩)))))))))))
         ·
          obtain rfl := hbb5.trans hc7
          exact cw_false Z (cw_skip (ew_blockN (ew_then (cw_region (lw_op Z Z Z (ow_move Z Z (lw_op Z Z Z (ow_add Z Z Z (lw_op Z Z Z (ow_assign Z Z (lw_nil (ew_nxt ((W (k2 + 1)), y2, y3) hb15 fun a ha => ⟨M4, (ha.sub ⟨Z, Z, Z, Z, Z, Z, Z, trivial⟩), hl15, hC15, hw10, hw11, ho31, hm16, ho32, hm17, ho33, hm18⟩))))))))))))
        ·
         obtain rfl := hbb4.trans hc6
         exact cw_false Z (cw_exit (ew_thenX (ew_thenX (ew_blockX (ew_brk (k2, y2, y3) hb15 fun a ha => ⟨M4, (ha.sub ⟨Z, Z, Z, Z, Z, Z, Z, trivial⟩), hl15, hC15, hw10, hw11, ho31, hm16, ho32, hm17, ho33, hm18⟩)))))
       ·
        rintro ⟨k3, y4, y5⟩ a w17 hlr3 ⟨M5, hF3, hl17, hC17, hw12, hw13, ho38, hm19, ho39, hm20, ho40, hm21⟩
        subst hlr3
        refine ew_at (E := [(3, (.pointer (some ⟨g1, 0, none⟩))), (4, (.pointer (some ⟨g2, 0, none⟩))), (5, (.bool x2)), (6, (.pointer (some ⟨g3, 0, none⟩))), (7, (.int .i64 k1)), (8, v11), (9, (.int .i64 k3))]) hF3 (ew_then (cw_region (lw_op Z Z Z (ow_fieldAddr Z Z Tryd.underlying45 Z (Tryd.sizeOf43 _) (lw_op Z Z Z (ow_loadOwn1 Z Z Z ho40 (Tryd.isAgg43 _) Z (lw_op Z Z Z (ow_move Z Z ?_))))))))
        have hw14 := hw12.freezeDel
        have hC18 := hw12.cxDel hC17 (fun _ e => e.elim) hO
        have hl18 := Le.del w17 M5 v11
        have hm22 : (Del v11 M5) g1 := ⟨hm19, fun e => (orow_ne hw12 ho38 (by decide)) e⟩
        have hm23 : (Del v11 M5) g2 := ⟨hm20, fun e => (orow_ne hw12 ho39 (by decide)) e⟩
        have hm24 : (Del v11 M5) g3 := ⟨hm21, fun e => (orow_ne hw12 ho40 (by decide)) e⟩
        have hr7 := hw13.goDel hw12 (by decide)
        obtain ⟨A2, c2, rfl, -⟩ := vslice_shape hw14
        refine lw_op Z Z Z (ow_buildSlice (R := (RSlice RRule)) (xs := [y4]) (cs := #[(.slice A2 y4.length c2)]) (e := 36) Z Z (by kernel_rfl) Z Z ⟨_, _, Z, hw14.cells, Z⟩ hC18 fun p3 w18 hw15 hb17 hl19 hC19 => ?_)
        have ho41 := ho38.no hb17
        have ho42 := ho39.no hb17
        have ho43 := ho40.no hb17
        have hr8 := hr7.no hb17
        replace hb12 := bind_some hb12
        obtain ⟨z2, hz2, hb12⟩ := hb12
        refine lw_op Z Z Z (ow_append (R := (RSlice RRule)) Z Z Z Z Tryd.underlying43 hi36 hz36 hs36 hy36 Z Z Z Z hr8 hw15 hz2 hC19 fun v20 w19 M6 hr9 hb18 hl20 hC20 hM3 hat3 => ?_)
        have ho44 := ho41.go hb18 (fun e => (orow_ne hr8 ho41 (by decide)) e)
        have hm25 := hM3 _ hm22
        have ho45 := ho42.go hb18 (fun e => (orow_ne hr8 ho42 (by decide)) e)
        have hm26 := hM3 _ hm23
        have ho46 := ho43.go hb18 (fun e => (orow_ne hr8 ho43 (by decide)) e)
        have hm27 := hM3 _ hm24
        refine lw_op Z Z Z (ow_fieldAddr Z Z Tryd.underlying45 Z (Tryd.sizeOf43 _) ?_)
        obtain ⟨A3, c3, rfl⟩ := hr9.len
        refine lw_op0 Z Z (ow_store (X := No) (us := [(.slice A3 z2.length c3)]) (cs' := #[(.slice A3 z2.length c3), (.bool (!x1.1.Accept))]) Z Z Z Z ho46 (Tryd.sizeOf43 _) Z Z Z Z hm27 (.inl hg6) Z hC20 fun w20 ho47 hb19 hl21 hC21 => ?_)
        have ho48 := ho44.go hb19 (fun e => hn2 e)
        have ho49 := ho45.go hb19 (fun e => hn3 e)
        have hr10 := hr9.go hb19 (fun k hk e => (orow_ne hr9 ho46 (by decide)) (hk.trans (congrArg some e))) hl21 (fun _ h => h)
        refine lw_nil (ew_blockN (ew_then (cw_region (lw_op Z Z Z (ow_move Z Z (lw_op Z Z Z (ow_add Z Z Z (lw_op Z Z Z (ow_assign Z Z (lw_nil ?_))))))))))
        have lz6 := (((((((hl12.trans hl13).trans hl14).trans hl17).trans hl18).trans hl19).trans hl20).trans hl21)
        exact ew_nxt ((W (k1 + 1)), z2) hb12 fun a ha => ⟨M6, (.slice A3 z2.length c3), (ha.sub ⟨Z, Z, Z, Z, Z, trivial⟩), lz6, hC21, hr10, ho48, hm25, ho49, hm26, ho47, hm27⟩
      ·
       obtain rfl := hbb3.trans hc5
       exact cw_false Z (cw_exit (ew_thenX (ew_thenX (ew_blockX (ew_brk (k1, y1) hb12 fun a ha => ⟨M1, v9, (ha.sub ⟨Z, Z, Z, Z, Z, trivial⟩), hl12, hC12, hw9, ho22, hm7, ho23, hm8, ho24, hm9⟩)))))
     ·
      rintro ⟨k4, y6⟩ a w21 hlr4 ⟨M7, v22, hF4, hl22, hC22, hw16, ho50, hm28, ho51, hm29, ho52, hm30⟩
      subst hlr4
      refine ew_at (E := [(3, (.pointer (some ⟨g1, 0, none⟩))), (4, (.pointer (some ⟨g2, 0, none⟩))), (5, (.bool x2)), (6, (.pointer (some ⟨g3, 0, none⟩))), (7, (.int .i64 k4))]) hF4 (ew_then (cw_seq (cw_region (lw_op Z Z Z (ow_loadOwnA Z Z Z ho52 (Tryd.isAgg45 _) (Tryd.sizeOf45 _) Z ?_)))))
      have hw17 := hw16.freezeDel
      have hC23 := hw16.cxDel hC22 (fun _ e => e.elim) hO
      have hl23 := Le.del w21 M7 v22
      obtain ⟨A4, c4, rfl, -⟩ := vslice_shape hw17
      have hw18 : VRep RRuleset w21 (Del (.slice A4 y6.length c4) M7) ({ Chains := y6, Accept := (!x1.1.Accept) } : Ruleset) (.agg #[(.slice A4 y6.length c4), (.bool (!x1.1.Accept))]) := shut_Ruleset hw17
      refine lw_op Z Z Z (ow_loadOwnA Z Z Z ho51 (Tryd.isAgg38 _) (Tryd.sizeOf38 _) Z ?_)
      have hw19 : VRep RPacket w21 (Del (.slice A4 y6.length c4) M7) ({ From := x1.2.From, To := x1.2.To, Port := x1.2.Port, Proto := x1.2.Proto } : Packet) (.agg #[(.int .i64 x1.2.From), (.int .i64 x1.2.To), (.int .i64 x1.2.Port), (.int .i64 x1.2.Proto)]) := shut_Packet
      replace h := bind_some h
      obtain ⟨x8, hx8, h⟩ := h
      have lz7 := ((((((lz4.trans hl8).trans hl9).trans hl10).trans hl11).trans hl22).trans hl23)
      refine lw_op Z Z Z (ow_call Z Z Tryd.call22 (w_impl_Judge (hG.mono lz7) hC23.old hw18 hw19 hx8) fun v23 w22 hv23 => ?_)
      obtain ⟨hv23, hb20⟩ := hv23
      have hC24 := hC23.no hb20
      obtain rfl := vbool_eq hv23
      refine lw_op Z Z Z (ow_move Z Z (lw_op Z Z Z (ow_not Z Z (lw_op Z Z Z (ow_eqlB Z Z Z Tryd.underlying4 fun bb6 hbb6 => lw_op Z Z Z (ow_assign Z Z (lw_nil (ew_then (cw_ret ?_)))))))))
      obtain rfl := Option.some.inj h
      exact ew_ret (res1 Z (.tmp Z)) ⟨_, Z, ((vbool_of hbb6)), hC24.bx⟩
    ·
     subst hc4
     refine cw_true Z (cw_seq (cw_region (lw_op Z Z Z (ow_move Z Z (lw_op Z Z Z (ow_not Z Z (lw_op Z Z Z (ow_move Z Z ?_))))))))
     replace h := cond_some h
     rcases h with ⟨hc8, h⟩ | ⟨hc8, h⟩
     ·
      subst hc8
      refine lw_off Z Z Z Z Z Z (lw_op Z Z Z (ow_pickF Z Z Z (lw_op Z Z Z (ow_assign Z Z (lw_nil (ew_then (cw_ret (ew_thenR ?_))))))))
      obtain rfl := Option.some.inj h
      exact ew_ret (res1 Z (.tmp Z)) ⟨_, Z, ((vbool _)), hC9.bx⟩
     ·
      subst hc8
      replace h := bind_some h
      obtain ⟨x9, hx9, h⟩ := h
      have lz8 := ((lz4.trans hl8).trans hl9)
      refine lw_on Z Z Z Z Z Z (ow_call Z Z Tryd.call18 (w_laws_alive (hG.mono lz8) hC9.old hx9) fun v24 w23 hv24 => ?_)
      obtain ⟨hv24, hb21⟩ := hv24
      have hC25 := hC9.no hb21
      obtain rfl := vbool_eq hv24
      refine lw_op Z Z Z (ow_pickT Z Z Z (lw_op Z Z Z (ow_assign Z Z (lw_nil (ew_then (cw_ret (ew_thenR ?_)))))))
      obtain rfl := Option.some.inj h
      exact ew_ret (res1 Z (.tmp Z)) ⟨_, Z, ((vbool _)), hC25.bx⟩
   ·
    subst hc3
    refine lw_off Z Z Z Z Z Z (lw_off Z Z Z Z Z Z (lw_off Z Z Z Z Z Z (lw_op Z Z Z (ow_pickT Z Z Z (lw_nil (ew_then (cw_true Z (cw_seq (cw_region (lw_op Z Z Z (ow_move Z Z (lw_op Z Z Z (ow_not Z Z (lw_op Z Z Z (ow_move Z Z ?_)))))))))))))))
    replace h := cond_some h
    rcases h with ⟨hc9, h⟩ | ⟨hc9, h⟩
    ·
     subst hc9
     refine lw_off Z Z Z Z Z Z (lw_op Z Z Z (ow_pickF Z Z Z (lw_op Z Z Z (ow_assign Z Z (lw_nil (ew_then (cw_ret (ew_thenR ?_))))))))
     obtain rfl := Option.some.inj h
     exact ew_ret (res1 Z (.tmp Z)) ⟨_, Z, ((vbool _)), hC8.bx⟩
    ·
     subst hc9
     replace h := bind_some h
     obtain ⟨x10, hx10, h⟩ := h
     refine lw_on Z Z Z Z Z Z (ow_call Z Z Tryd.call18 (w_laws_alive (hG.mono (lz4.trans hl8)) hC8.old hx10) fun v25 w24 hv25 => ?_)
     obtain ⟨hv25, hb22⟩ := hv25
     have hC26 := hC8.no hb22
     obtain rfl := vbool_eq hv25
     refine lw_op Z Z Z (ow_pickT Z Z Z (lw_op Z Z Z (ow_assign Z Z (lw_nil (ew_then (cw_ret (ew_thenR ?_)))))))
     obtain rfl := Option.some.inj h
     exact ew_ret (res1 Z (.tmp Z)) ⟨_, Z, ((vbool _)), hC26.bx⟩


end Go.PF
