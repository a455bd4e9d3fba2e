/- The walks; no condition. -/
import Derived.Test.YtfoodjhnagclfaaDoorProg
import Derived.Test.YtfoodjhnagclfaaDoorWk2
import Derived.Test.YtfoodjhnagclfaaDoorPFChain
set_option maxRecDepth 100000
set_option maxHeartbeats 4000000
namespace Go.PF
open Go Go.RowKit Go.Proofs

theorem w_spec_l20Rules {w : World} {M : Nat → Prop} (hG : ARep (RArr 4 RShape) w M shapes ⟨0, 0, none⟩) (hO : ∀ b, M b → b < w.heap.size) {g : Nat} {Ax : Option Addr} {cx : Nat} {a_xs : List Int} {a_pos : Int} (hxs : VRep (RSlice RU8) w M a_xs (.slice Ax a_xs.length cx)) (hown : Own w g 180 #[.slice Ax a_xs.length cx, .int .i64 a_pos]) (hgM : M g) {a_first : Int} {a_chains : Int} {a_n : Int} {r : ((List Rule)) × Int} (h : F.spec_l20Rules a_xs a_pos a_first a_chains a_n = some r) :
    Calls Tryd.prog 110 [(.pointer (some ⟨g, 0, none⟩)), (.int .i64 a_first), (.int .i64 a_chains), (.int .i64 a_n)].toArray w fun e w' => ∃ v, e = .returned v ∧ (VRep (RSlice RRule) w' M r.1 v ∧ Own w' g 180 #[.slice Ax a_xs.length cx, .int .i64 r.2]) ∧ BX (One g) w w' := by
  obtain ⟨i76, hi76, hz76, hs76, hy76⟩ := info76
  have hX : ∀ b, (One g) b → M b := fun b e => e ▸ hgM
  have hC : Cx (One g) w M w M := Cx.start hO hX
  refine walk (N := 46) Tryd.func110 rfl Tryd.ntmps110 rfl ?_
  refine cw_seq ?_
  refine cw_region ?_
  refine lw_op rfl rfl rfl (ow_assign rfl rfl ?_)
  refine lw_nil ?_
  refine ew_then ?_
  refine cw_seq ?_
  refine cw_region ?_
  refine lw_op rfl rfl rfl (ow_buildSlice0 (R := RRule) (e := 76) rfl (by kernel_rfl) hC fun p1 w1 M1 hr1 hb1 hl1 hC1 hM1 hat1 => ?_)
  have ho1 := hown.no hb1
  have hm1 := hM1 _ hgM
  refine lw_op rfl rfl rfl (ow_assign rfl rfl ?_)
  refine lw_nil ?_
  refine ew_then ?_
  refine cw_seq ?_
  refine cw_seq ?_
  refine cw_region ?_
  refine lw_op rfl rfl rfl (ow_move rfl rfl ?_)
  replace h := bind_some h
  obtain ⟨x1, hx1, h⟩ := h
  refine lw_op rfl rfl rfl (ow_call rfl rfl Tryd.call111 (w_spec_l20Rd_pick (hG.mono hl1) hC1.old (VRep.mono hl1 hxs) ho1 hm1 hx1) fun v1 w2 hv1 => ?_)
  obtain ⟨⟨hv1, ho2⟩, hb2⟩ := hv1
  have hl2 := Le.of_bx M1 hb2 (fun b e => (by rw [show b = g from e]; exact hm1))
  have hC2 := hC1.go hb2 (fun b e => Or.inr e)
  have hr2 := hr1.go hb2 (fun k hk e => (orow_ne hr1 ho1 (by decide)) (hk.trans (congrArg some e))) hl2 (fun _ h => h)
  obtain rfl := vint_eq hv1
  refine lw_op rfl rfl rfl (ow_assign rfl rfl ?_)
  refine lw_nil ?_
  refine ew_then ?_
  replace h := bind_some h
  obtain ⟨lr1, hlr1, h⟩ := h
  refine cw_for hlr1 (fun s a w' => ∃ (M' : Nat → Prop) (v0c : Value), Fits 46 [(0, (.pointer (some ⟨g, 0, none⟩))), (1, (.int .i64 a_first)), (2, (.int .i64 a_chains)), (3, (.int .i64 a_n)), (9, v0c), (10, (.int .i64 s.2.1))] a ∧ Le w2 M1 w' M' ∧ Cx (One g) w M w' M' ∧ OwnRow RRule w.heap.size 76 w' M' s.1 v0c ∧ Own w' g 180 #[(.slice Ax a_xs.length cx), (.int .i64 s.2.2)] ∧ M' g) ?_ ?_ ?_
  · intro a ha
    exact ⟨M1, (.slice (some p1) 0 0), ha.sub ⟨rfl, rfl, rfl, rfl, rfl, rfl, trivial⟩, Le.refl _ _, hC2, hr2, ho2, hm1⟩
  · rintro ⟨y1, k1, k2⟩ a w3 sr1 ⟨M2, v2, hF1, hl3, hC3, hw1, ho3, hm2⟩ hb3 hR1
    refine cw_at (E := [(0, (.pointer (some ⟨g, 0, none⟩))), (1, (.int .i64 a_first)), (2, (.int .i64 a_chains)), (3, (.int .i64 a_n)), (9, v2), (10, (.int .i64 k1))]) hF1 ?_
    refine cw_seq ?_
    refine cw_seq ?_
    refine cw_region ?_
    refine lw_op rfl rfl rfl (ow_move rfl rfl ?_)
    refine lw_op rfl rfl rfl (ow_gtr rfl rfl rfl fun bb1 hbb1 => ?_)
    refine lw_nil ?_
    refine ew_then ?_
    replace hb3 := cond_some hb3
    rcases hb3 with ⟨hc1, hb3⟩ | ⟨hc1, hb3⟩
    · obtain rfl := hbb1.trans hc1
      refine cw_true rfl ?_
      refine cw_skip ?_
      refine ew_then ?_
      refine cw_seq ?_
      refine cw_block ?_
      refine cw_region ?_
      refine lw_op rfl rfl rfl (ow_move rfl rfl ?_)
      refine lw_op rfl rfl rfl (ow_move rfl rfl ?_)
      refine lw_op rfl rfl rfl (ow_move rfl rfl ?_)
      refine lw_op rfl rfl rfl (ow_move rfl rfl ?_)
      replace hb3 := bind_some hb3
      obtain ⟨x2, hx2, hb3⟩ := hb3
      refine lw_op rfl rfl rfl (ow_call rfl rfl Tryd.call97 (w_spec_l20Rule (hG.mono ((hl1.trans hl2).trans hl3)) hC3.old (VRep.mono ((hl1.trans hl2).trans hl3) hxs) ho3 hm2 hx2) fun v5 w4 hv5 => ?_)
      obtain ⟨⟨hv5, ho4⟩, hb4⟩ := hv5
      have hl4 := Le.of_bx M2 hb4 (fun b e => (by rw [show b = g from e]; exact hm2))
      have hC4 := hC3.go hb4 (fun b e => Or.inr e)
      have hr3 := hw1.go hb4 (fun k hk e => (orow_ne hw1 ho3 (by decide)) (hk.trans (congrArg some e))) hl4 (fun _ h => h)
      obtain ⟨A1, c1, rfl, hw2⟩ := open_Rule hv5
      refine lw_op rfl rfl rfl (ow_buildSlice (R := RRule) (xs := [x2.1]) (cs := #[(.slice A1 x2.1.Tests.length c1), (.int .i64 x2.1.Action), (.int .i64 x2.1.Chain)]) (e := 76) rfl rfl (by kernel_rfl) rfl rfl ⟨_, _, rfl, hv5.cells, rfl⟩ hC4 fun p2 w5 hw3 hb5 hl5 hC5 => ?_)
      have ho5 := ho4.no hb5
      have hr4 := hr3.no hb5
      replace hb3 := bind_some hb3
      obtain ⟨z1, hz1, hb3⟩ := hb3
      refine lw_op rfl rfl rfl (ow_append (R := RRule) rfl rfl rfl rfl Tryd.underlying86 hi76 hz76 hs76 hy76 rfl rfl rfl rfl hr4 hw3 hz1 hC5 fun v6 w6 M3 hr5 hb6 hl6 hC6 hM2 hat2 => ?_)
      have ho6 := ho5.go hb6 (fun e => (orow_ne hr4 ho5 (by decide)) e)
      have hm3 := hM2 _ hm2
      refine lw_op rfl rfl rfl (ow_assign rfl rfl ?_)
      refine lw_nil ?_
      refine ew_blockN ?_
      refine ew_then ?_
      refine cw_region ?_
      refine lw_op rfl rfl rfl (ow_move rfl rfl ?_)
      refine lw_op rfl rfl rfl (ow_sub rfl rfl rfl ?_)
      refine lw_op rfl rfl rfl (ow_assign rfl rfl ?_)
      refine lw_nil ?_
      refine ew_nxt (z1, (W (k1 - 1)), x2.2) hb3 fun a ha => ⟨M3, v6, ?_, (((hl3.trans hl4).trans hl5).trans hl6), hC6, hr5, ho6, hm3⟩
      exact ha.sub ⟨rfl, rfl, rfl, rfl, rfl, rfl, trivial⟩
    · obtain rfl := hbb1.trans hc1
      refine cw_false rfl ?_
      refine cw_exit ?_
      refine ew_thenX ?_
      refine ew_thenX ?_
      refine ew_blockX ?_
      refine ew_brk (y1, k1, k2) hb3 fun a ha => ⟨M2, v2, ?_, hl3, hC3, hw1, ho3, hm2⟩
      exact ha.sub ⟨rfl, rfl, rfl, rfl, rfl, rfl, trivial⟩
  · rintro ⟨y2, k3, k4⟩ a w7 hlr2 ⟨M4, v7, hF2, hl7, hC7, hw4, ho7, hm4⟩
    subst hlr2
    refine ew_at (E := [(0, (.pointer (some ⟨g, 0, none⟩))), (1, (.int .i64 a_first)), (2, (.int .i64 a_chains)), (3, (.int .i64 a_n)), (9, v7), (10, (.int .i64 k3))]) hF2 ?_
    refine ew_then ?_
    refine cw_seq ?_
    refine cw_seq ?_
    refine cw_region ?_
    refine lw_op rfl rfl rfl (ow_move rfl rfl ?_)
    refine lw_op rfl rfl rfl (ow_move rfl rfl ?_)
    replace h := bind_some h
    obtain ⟨x3, hx3, h⟩ := h
    refine lw_op rfl rfl rfl (ow_call rfl rfl Tryd.call136 (w_spec_l20Rd_odd (hG.mono ((hl1.trans hl2).trans hl7)) hC7.old (VRep.mono ((hl1.trans hl2).trans hl7) hxs) ho7 hm4 hx3) fun v10 w8 hv10 => ?_)
    obtain ⟨⟨hv10, ho8⟩, hb7⟩ := hv10
    have hl8 := Le.of_bx M4 hb7 (fun b e => (by rw [show b = g from e]; exact hm4))
    have hC8 := hC7.go hb7 (fun b e => Or.inr e)
    have hr6 := hw4.go hb7 (fun k hk e => (orow_ne hw4 ho7 (by decide)) (hk.trans (congrArg some e))) hl8 (fun _ h => h)
    obtain ⟨bb2, hbb2, rfl⟩ := vbool_ex hv10
    refine lw_nil ?_
    refine ew_then ?_
    replace h := cond_some h
    rcases h with ⟨hc2, h⟩ | ⟨hc2, h⟩
    · obtain rfl := hbb2.trans hc2
      refine cw_true rfl ?_
      refine cw_seq ?_
      refine cw_region ?_
      refine lw_op rfl rfl rfl (ow_move rfl rfl ?_)
      replace h := bind_some h
      obtain ⟨x4, hx4, h⟩ := h
      refine lw_op rfl rfl rfl (ow_call rfl rfl Tryd.call111 (w_spec_l20Rd_pick (hG.mono (((hl1.trans hl2).trans hl7).trans hl8)) hC8.old (VRep.mono (((hl1.trans hl2).trans hl7).trans hl8) hxs) ho8 hm4 hx4) fun v11 w9 hv11 => ?_)
      obtain ⟨⟨hv11, ho9⟩, hb8⟩ := hv11
      have hl9 := Le.of_bx M4 hb8 (fun b e => (by rw [show b = g from e]; exact hm4))
      have hC9 := hC8.go hb8 (fun b e => Or.inr e)
      have hr7 := hr6.go hb8 (fun k hk e => (orow_ne hr6 ho8 (by decide)) (hk.trans (congrArg some e))) hl9 (fun _ h => h)
      obtain rfl := vint_eq hv11
      refine lw_op rfl rfl rfl (ow_eqlI rfl rfl rfl fun bb3 hbb3 => ?_)
      refine lw_nil ?_
      refine ew_then ?_
      replace h := cond_some h
      rcases h with ⟨hc3, h⟩ | ⟨hc3, h⟩
      · obtain rfl := hbb3.trans hc3
        refine cw_true rfl ?_
        refine cw_region ?_
        refine lw_op rfl rfl rfl (ow_move rfl rfl ?_)
        refine lw_op rfl rfl rfl (ow_move rfl rfl ?_)
        refine lw_op rfl rfl rfl (ow_move rfl rfl ?_)
        refine lw_op rfl rfl rfl (ow_move rfl rfl ?_)
        replace h := bind_some h
        obtain ⟨x5, hx5, h⟩ := h
        refine lw_op rfl rfl rfl (ow_call rfl rfl Tryd.call97 (w_spec_l20Rule (hG.mono ((((hl1.trans hl2).trans hl7).trans hl8).trans hl9)) hC9.old (VRep.mono ((((hl1.trans hl2).trans hl7).trans hl8).trans hl9) hxs) ho9 hm4 hx5) fun v12 w10 hv12 => ?_)
        obtain ⟨⟨hv12, ho10⟩, hb9⟩ := hv12
        have hl10 := Le.of_bx M4 hb9 (fun b e => (by rw [show b = g from e]; exact hm4))
        have hC10 := hC9.go hb9 (fun b e => Or.inr e)
        have hr8 := hr7.go hb9 (fun k hk e => (orow_ne hr7 ho9 (by decide)) (hk.trans (congrArg some e))) hl10 (fun _ h => h)
        obtain ⟨A2, c2, rfl, hw5⟩ := open_Rule hv12
        refine lw_op rfl rfl rfl (ow_buildSlice (R := RRule) (xs := [x5.1]) (cs := #[(.slice A2 x5.1.Tests.length c2), (.int .i64 x5.1.Action), (.int .i64 x5.1.Chain)]) (e := 76) rfl rfl (by kernel_rfl) rfl rfl ⟨_, _, rfl, hv12.cells, rfl⟩ hC10 fun p3 w11 hw6 hb10 hl11 hC11 => ?_)
        have ho11 := ho10.no hb10
        have hr9 := hr8.no hb10
        replace h := bind_some h
        obtain ⟨z2, hz2, h⟩ := h
        refine lw_op rfl rfl rfl (ow_append (R := RRule) rfl rfl rfl rfl Tryd.underlying86 hi76 hz76 hs76 hy76 rfl rfl rfl rfl hr9 hw6 hz2 hC11 fun v13 w12 M5 hr10 hb11 hl12 hC12 hM3 hat3 => ?_)
        have ho12 := ho11.go hb11 (fun e => (orow_ne hr9 ho11 (by decide)) e)
        have hm5 := hM3 _ hm4
        refine lw_op rfl rfl rfl (ow_assign rfl rfl ?_)
        refine lw_nil ?_
        refine ew_then ?_
        refine cw_seq ?_
        refine cw_region ?_
        refine lw_op rfl rfl rfl (ow_move rfl rfl ?_)
        refine lw_op rfl rfl rfl (ow_assign rfl rfl ?_)
        refine lw_nil ?_
        refine ew_then ?_
        refine cw_ret ?_
        obtain rfl := Option.some.inj h
        exact ew_ret (res1 rfl (.tmp rfl)) ⟨_, rfl, ⟨(hr10.freezeBack hC12 hO), ho12⟩, hC12.bx⟩
      · obtain rfl := hbb3.trans hc3
        refine cw_false rfl ?_
        replace h := bind_some h
        obtain ⟨lr2, hlr3, h⟩ := h
        refine cw_for hlr3 (fun s a w' => ∃ (M' : Nat → Prop) (v0c : Value), Fits 46 [(9, v0c)] a ∧ Le w9 M4 w' M' ∧ Cx (One g) w M w' M' ∧ OwnRow RRule w.heap.size 76 w' M' s v0c ∧ Own w' g 180 #[(.slice Ax a_xs.length cx), (.int .i64 x4.2)] ∧ M' g) ?_ ?_ ?_
        · intro a ha
          exact ⟨M4, v7, ha.sub ⟨rfl, trivial⟩, Le.refl _ _, hC9, hr7, ho9, hm4⟩
        · rintro y3 a w13 sr2 ⟨M6, v14, hF3, hl13, hC13, hw7, ho13, hm6⟩ hb12 hR2
          refine cw_at (E := [(9, v14)]) hF3 ?_
          refine cw_seq ?_
          refine cw_seq ?_
          refine cw_region ?_
          refine lw_op rfl rfl rfl (ow_move rfl rfl ?_)
          refine lw_op rfl rfl rfl (ow_lenOwn rfl rfl hw7 Tryd.underlying86 ?_)
          refine lw_op rfl rfl rfl (ow_leq rfl rfl rfl fun bb4 hbb4 => ?_)
          refine lw_nil ?_
          refine ew_then ?_
          replace hb12 := cond_some hb12
          rcases hb12 with ⟨hc4, hb12⟩ | ⟨hc4, hb12⟩
          · obtain rfl := hbb4.trans hc4
            refine cw_true rfl ?_
            refine cw_skip ?_
            refine ew_then ?_
            refine cw_block ?_
            refine cw_region ?_
            refine lw_op rfl rfl rfl (ow_move rfl rfl ?_)
            refine lw_op rfl rfl rfl (ow_build (v := .agg #[(.slice none 0 0), (.int .i64 5), (.int .i64 0)]) rfl rfl (by kernel_rfl) ?_)
            have hw8 : VRep RRule w13 M6 ({ Tests := ([] : List Test), Action := 5, Chain := 0 } : Rule) (.agg #[(.slice none 0 0), (.int .i64 5), (.int .i64 0)]) := shut_Rule (vslice_nil (R := RTest) (w := w13) (M := M6))
            refine lw_op rfl rfl rfl (ow_buildSlice (R := RRule) (xs := [({ Tests := ([] : List Test), Action := 5, Chain := 0 } : Rule)]) (cs := #[(.slice none 0 0), (.int .i64 5), (.int .i64 0)]) (e := 76) rfl rfl (by kernel_rfl) rfl rfl ⟨_, _, rfl, hw8.cells, rfl⟩ hC13 fun p4 w14 hw9 hb13 hl14 hC14 => ?_)
            have ho14 := ho13.no hb13
            have hr11 := hw7.no hb13
            replace hb12 := bind_some hb12
            obtain ⟨z3, hz3, hb12⟩ := hb12
            refine lw_op rfl rfl rfl (ow_append (R := RRule) rfl rfl rfl rfl Tryd.underlying86 hi76 hz76 hs76 hy76 rfl rfl rfl rfl hr11 hw9 hz3 hC14 fun v15 w15 M7 hr12 hb14 hl15 hC15 hM4 hat4 => ?_)
            have ho15 := ho14.go hb14 (fun e => (orow_ne hr11 ho14 (by decide)) e)
            have hm7 := hM4 _ hm6
            refine lw_op rfl rfl rfl (ow_assign rfl rfl ?_)
            refine lw_nil ?_
            refine ew_blockN ?_
            refine ew_nxt z3 hb12 fun a ha => ⟨M7, v15, ?_, ((hl13.trans hl14).trans hl15), hC15, hr12, ho15, hm7⟩
            exact ha.sub ⟨rfl, trivial⟩
          · obtain rfl := hbb4.trans hc4
            refine cw_false rfl ?_
            refine cw_exit ?_
            refine ew_thenX ?_
            refine ew_thenX ?_
            refine ew_blockX ?_
            refine ew_brk y3 hb12 fun a ha => ⟨M6, v14, ?_, hl13, hC13, hw7, ho13, hm6⟩
            exact ha.sub ⟨rfl, trivial⟩
        · rintro y4 a w16 hlr4 ⟨M8, v16, hF4, hl16, hC16, hw10, ho16, hm8⟩
          subst hlr4
          refine ew_at (E := [(9, v16)]) hF4 ?_
          refine ew_then ?_
          refine cw_seq ?_
          refine cw_region ?_
          refine lw_op rfl rfl rfl (ow_move rfl rfl ?_)
          refine lw_op rfl rfl rfl (ow_assign rfl rfl ?_)
          refine lw_nil ?_
          refine ew_then ?_
          refine cw_ret ?_
          obtain rfl := Option.some.inj h
          exact ew_ret (res1 rfl (.tmp rfl)) ⟨_, rfl, ⟨(hw10.freezeBack hC16 hO), ho16⟩, hC16.bx⟩
    · obtain rfl := hbb2.trans hc2
      refine cw_false rfl ?_
      refine cw_skip ?_
      refine ew_then ?_
      refine cw_seq ?_
      refine cw_region ?_
      refine lw_op rfl rfl rfl (ow_move rfl rfl ?_)
      refine lw_op rfl rfl rfl (ow_assign rfl rfl ?_)
      refine lw_nil ?_
      refine ew_then ?_
      refine cw_ret ?_
      obtain rfl := Option.some.inj h
      exact ew_ret (res1 rfl (.tmp rfl)) ⟨_, rfl, ⟨(hr6.freezeBack hC8 hO), ho8⟩, hC8.bx⟩

theorem w_spec_DrawFirstFit {w : World} {M : Nat → Prop} (hG : ARep (RArr 4 RShape) w M shapes ⟨0, 0, none⟩) (hO : ∀ b, M b → b < w.heap.size) {v0p : Value} {a_code : List Int} (h0 : VRep (RSlice RU8) w M a_code v0p) {r : (List Rule) × Int × Packet} (h : F.spec_DrawFirstFit a_code = some r) :
    Calls Tryd.prog 58 [v0p].toArray w fun e w' => ∃ v, e = .returned v ∧ (∃ u0 u1 u2, v = .tuple #[u0, u1, u2] ∧ VRep (RSlice RRule) w' M r.1 u0 ∧ VRep RInt w' M r.2.1 u1 ∧ VRep RPacket w' M r.2.2 u2) ∧ BX No w w' := by
  obtain ⟨i186, hi186, hz186, hs186, hy186⟩ := info186
  have hC : Cx No w M w M := Cx.start hO (fun _ e => e.elim)
  refine walk (N := 40) Tryd.func58 rfl Tryd.ntmps58 rfl ?_
  refine cw_seq ?_
  refine cw_region ?_
  refine lw_op rfl rfl rfl (ow_assign rfl rfl ?_)
  refine lw_op rfl rfl rfl (ow_assign rfl rfl ?_)
  refine lw_op rfl rfl rfl (ow_alloc rfl (Tryd.zeroValue39 _) hC fun g1 w1 hg1 hg2 ho1 hb1 hl1 hC1 => ?_)
  have hm1 : (Add g1 M) g1 := .inl rfl
  refine lw_nil ?_
  refine ew_then ?_
  refine cw_seq ?_
  refine cw_region ?_
  refine lw_op rfl rfl rfl (ow_move rfl rfl ?_)
  replace h := bind_some h
  obtain ⟨x1, hx1, h⟩ := h
  refine lw_op rfl rfl rfl (ow_call rfl rfl Tryd.call96 (w_spec_l20Open (hG.mono hl1) hC1.old (VRep.mono hl1 h0) hx1) fun v1 w2 hv1 => ?_)
  obtain ⟨⟨g2, A1, c1, rfl, hg3, ho2, hw1⟩, hb2⟩ := hv1
  have hl2 := (Le.no (Add g1 M) hb2).add hg3
  have hg4 := Nat.le_trans hC1.bx.size hg3
  have hC2 := (hC1.no hb2).add ho2.lt hg4
  have hn1 := Nat.ne_of_lt (Nat.lt_of_lt_of_le ho1.lt hg3)
  have ho3 := ho1.no hb2
  have hm2 : (Add g2 (Add g1 M)) g1 := .inr hm1
  have hm3 : (Add g2 (Add g1 M)) g2 := .inl rfl
  refine lw_op rfl rfl rfl (ow_assign rfl rfl ?_)
  refine lw_nil ?_
  refine ew_then ?_
  refine cw_seq ?_
  refine cw_region ?_
  refine lw_op rfl rfl rfl (ow_move rfl rfl ?_)
  replace h := bind_some h
  obtain ⟨x2, hx2, h⟩ := h
  refine lw_op rfl rfl rfl (ow_call rfl rfl Tryd.call110 (w_spec_l20Rules (hG.mono (hl1.trans hl2)) hC2.old hw1 ho2 hm3 hx2) fun v2 w3 hv2 => ?_)
  obtain ⟨⟨hv2, ho4⟩, hb3⟩ := hv2
  have hl3 := Le.of_bx (Add g2 (Add g1 M)) hb3 (fun b e => (by rw [show b = g2 from e]; exact hm3))
  have hC3 := hC2.go hb3 (fun b e => Or.inl (by rw [show b = g2 from e]; exact hg4))
  have ho5 := ho3.go hb3 (fun e => hn1 e)
  refine lw_op rfl rfl rfl (ow_assign rfl rfl ?_)
  refine lw_nil ?_
  refine ew_then ?_
  refine cw_seq ?_
  refine cw_region ?_
  refine lw_op rfl rfl rfl (ow_buildSlice0 (R := RTest) (e := 186) rfl (by kernel_rfl) hC3 fun p1 w4 M1 hr1 hb4 hl4 hC4 hM1 hat1 => ?_)
  have ho6 := ho5.no hb4
  have hm4 := hM1 _ hm2
  have ho7 := ho4.no hb4
  have hm5 := hM1 _ hm3
  refine lw_op rfl rfl rfl (ow_assign rfl rfl ?_)
  refine lw_nil ?_
  refine ew_then ?_
  refine cw_seq ?_
  refine cw_seq ?_
  refine cw_region ?_
  refine lw_op rfl rfl rfl (ow_assign rfl rfl ?_)
  refine lw_nil ?_
  refine ew_then ?_
  replace h := bind_some h
  obtain ⟨lr1, hlr1, h⟩ := h
  refine cw_for hlr1 (fun s a w' => ∃ (M' : Nat → Prop) (v0c : Value), Fits 40 [(4, (.pointer (some ⟨g1, 0, none⟩))), (5, (.pointer (some ⟨g2, 0, none⟩))), (6, v2), (7, v0c), (8, (.int .i64 s.2.1))] a ∧ Le w4 M1 w' M' ∧ Cx No w M w' M' ∧ OwnRow RTest w.heap.size 186 w' M' s.1 v0c ∧ Own w' g1 39 #[(.int .i64 0), (.int .i64 0), (.int .i64 0), (.int .i64 0)] ∧ M' g1 ∧ Own w' g2 180 #[(.slice A1 x1.1.length c1), (.int .i64 s.2.2)] ∧ M' g2) ?_ ?_ ?_
  · intro a ha
    exact ⟨M1, (.slice (some p1) 0 0), ha.sub ⟨rfl, rfl, rfl, rfl, rfl, trivial⟩, Le.refl _ _, hC4, hr1, ho6, hm4, ho7, hm5⟩
  · rintro ⟨y1, k1, k2⟩ a w5 sr1 ⟨M2, v3, hF1, hl5, hC5, hw2, ho8, hm6, ho9, hm7⟩ hb5 hR1
    refine cw_at (E := [(4, (.pointer (some ⟨g1, 0, none⟩))), (5, (.pointer (some ⟨g2, 0, none⟩))), (6, v2), (7, v3), (8, (.int .i64 k1))]) hF1 ?_
    refine cw_seq ?_
    refine cw_seq ?_
    refine cw_region ?_
    refine lw_op rfl rfl rfl (ow_move rfl rfl ?_)
    refine lw_op rfl rfl rfl (ow_move rfl rfl ?_)
    refine lw_op rfl rfl rfl (ow_len rfl rfl (VRep.mono (hl4.trans hl5) hv2) Tryd.underlying86 rfl ?_)
    refine lw_op rfl rfl rfl (ow_lss rfl rfl rfl fun bb1 hbb1 => ?_)
    refine lw_nil ?_
    refine ew_then ?_
    replace hb5 := cond_some hb5
    rcases hb5 with ⟨hc1, hb5⟩ | ⟨hc1, hb5⟩
    · obtain rfl := hbb1.trans hc1
      refine cw_true rfl ?_
      refine cw_skip ?_
      refine ew_then ?_
      refine cw_seq ?_
      refine cw_block ?_
      refine cw_seq ?_
      refine cw_region ?_
      refine lw_op rfl rfl rfl (ow_move rfl rfl ?_)
      replace hb5 := bind_some hb5
      obtain ⟨x3, hx3, hb5⟩ := hb5
      refine lw_op rfl rfl rfl (ow_call rfl rfl Tryd.call111 (w_spec_l20Rd_pick (hG.mono ((((hl1.trans hl2).trans hl3).trans hl4).trans hl5)) hC5.old (VRep.mono ((hl3.trans hl4).trans hl5) hw1) ho9 hm7 hx3) fun v6 w6 hv6 => ?_)
      obtain ⟨⟨hv6, ho10⟩, hb6⟩ := hv6
      have hl6 := Le.of_bx M2 hb6 (fun b e => (by rw [show b = g2 from e]; exact hm7))
      have hC6 := hC5.go hb6 (fun b e => Or.inl (by rw [show b = g2 from e]; exact hg4))
      have ho11 := ho8.go hb6 (fun e => hn1 e)
      have hr2 := hw2.go hb6 (fun k hk e => (orow_ne hw2 ho9 (by decide)) (hk.trans (congrArg some e))) hl6 (fun _ h => h)
      obtain rfl := vint_eq hv6
      refine lw_op rfl rfl rfl (ow_eqlI rfl rfl rfl fun bb2 hbb2 => ?_)
      refine lw_nil ?_
      refine ew_then ?_
      replace hb5 := cond_some hb5
      rcases hb5 with ⟨hc2, hb5⟩ | ⟨hc2, hb5⟩
      · obtain rfl := hbb2.trans hc2
        refine cw_true rfl ?_
        refine cw_region ?_
        refine lw_op rfl rfl rfl (ow_move rfl rfl ?_)
        refine lw_op rfl rfl rfl (ow_move rfl rfl ?_)
        refine lw_op rfl rfl rfl (ow_move rfl rfl ?_)
        replace hb5 := bind_some hb5
        obtain ⟨x4, hx4, hb5⟩ := hb5
        refine lw_op rfl rfl rfl (ow_indexSlice (R := RRule) rfl rfl rfl (VRep.mono ((hl4.trans hl5).trans hl6) hv2) Tryd.underlying86 (Tryd.sizeOf76 _) hx4 fun p2 hp2 => ?_)
        refine lw_op rfl rfl rfl (ow_fieldAddr rfl rfl Tryd.underlying76 rfl (Tryd.sizeOf74 _) ?_)
        refine lw_op rfl rfl rfl (ow_load (R := (RSlice RTest)) rfl rfl (hp2.fld fld_Rule_Tests) (Tryd.sizeOf74 _) (Tryd.isAgg74 _) fun v7 hv7 => ?_)
        replace hb5 := bind_some hb5
        obtain ⟨z1, hz1, hb5⟩ := hb5
        refine lw_op rfl rfl rfl (ow_append (R := RTest) rfl rfl rfl rfl Tryd.underlying74 hi186 hz186 hs186 hy186 rfl rfl rfl rfl hr2 hv7 hz1 hC6 fun v8 w7 M3 hr3 hb7 hl7 hC7 hM2 hat2 => ?_)
        have ho12 := ho11.go hb7 (fun e => (orow_ne hr2 ho11 (by decide)) e)
        have hm8 := hM2 _ hm6
        have ho13 := ho10.go hb7 (fun e => (orow_ne hr2 ho10 (by decide)) e)
        have hm9 := hM2 _ hm7
        refine lw_op rfl rfl rfl (ow_assign rfl rfl ?_)
        refine lw_nil ?_
        refine ew_blockN ?_
        refine ew_then ?_
        refine cw_region ?_
        refine lw_op rfl rfl rfl (ow_move rfl rfl ?_)
        refine lw_op rfl rfl rfl (ow_add rfl rfl rfl ?_)
        refine lw_op rfl rfl rfl (ow_assign rfl rfl ?_)
        refine lw_nil ?_
        refine ew_nxt (z1, (W (k1 + 1)), x3.2) hb5 fun a ha => ⟨M3, v8, ?_, ((hl5.trans hl6).trans hl7), hC7, hr3, ho12, hm8, ho13, hm9⟩
        exact ha.sub ⟨rfl, rfl, rfl, rfl, rfl, trivial⟩
      · obtain rfl := hbb2.trans hc2
        refine cw_false rfl ?_
        refine cw_skip ?_
        refine ew_blockN ?_
        refine ew_then ?_
        refine cw_region ?_
        refine lw_op rfl rfl rfl (ow_move rfl rfl ?_)
        refine lw_op rfl rfl rfl (ow_add rfl rfl rfl ?_)
        refine lw_op rfl rfl rfl (ow_assign rfl rfl ?_)
        refine lw_nil ?_
        refine ew_nxt (y1, (W (k1 + 1)), x3.2) hb5 fun a ha => ⟨M2, v3, ?_, (hl5.trans hl6), hC6, hr2, ho11, hm6, ho10, hm7⟩
        exact ha.sub ⟨rfl, rfl, rfl, rfl, rfl, trivial⟩
    · obtain rfl := hbb1.trans hc1
      refine cw_false rfl ?_
      refine cw_exit ?_
      refine ew_thenX ?_
      refine ew_thenX ?_
      refine ew_blockX ?_
      refine ew_brk (y1, k1, k2) hb5 fun a ha => ⟨M2, v3, ?_, hl5, hC5, hw2, ho8, hm6, ho9, hm7⟩
      exact ha.sub ⟨rfl, rfl, rfl, rfl, rfl, trivial⟩
  · rintro ⟨y2, k3, k4⟩ a w8 hlr2 ⟨M4, v9, hF2, hl8, hC8, hw3, ho14, hm10, ho15, hm11⟩
    subst hlr2
    refine ew_at (E := [(4, (.pointer (some ⟨g1, 0, none⟩))), (5, (.pointer (some ⟨g2, 0, none⟩))), (6, v2), (7, v9), (8, (.int .i64 k3))]) hF2 ?_
    refine ew_then ?_
    refine cw_seq ?_
    refine cw_region ?_
    refine lw_op rfl rfl rfl (ow_move rfl rfl ?_)
    refine lw_op rfl rfl rfl (ow_move rfl rfl ?_)
    replace h := bind_some h
    obtain ⟨x5, hx5, h⟩ := h
    refine lw_op rfl rfl rfl (ow_call rfl rfl Tryd.call111 (w_spec_l20Rd_pick (hG.mono ((((hl1.trans hl2).trans hl3).trans hl4).trans hl8)) hC8.old (VRep.mono ((hl3.trans hl4).trans hl8) hw1) ho15 hm11 hx5) fun v12 w9 hv12 => ?_)
    obtain ⟨⟨hv12, ho16⟩, hb8⟩ := hv12
    have hl9 := Le.of_bx M4 hb8 (fun b e => (by rw [show b = g2 from e]; exact hm11))
    have hC9 := hC8.go hb8 (fun b e => Or.inl (by rw [show b = g2 from e]; exact hg4))
    have ho17 := ho14.go hb8 (fun e => hn1 e)
    have hr4 := hw3.go hb8 (fun k hk e => (orow_ne hw3 ho15 (by decide)) (hk.trans (congrArg some e))) hl9 (fun _ h => h)
    obtain rfl := vint_eq hv12
    refine lw_op rfl rfl rfl (ow_move rfl rfl ?_)
    replace h := bind_some h
    obtain ⟨x6, hx6, h⟩ := h
    refine lw_op rfl rfl rfl (ow_call rfl rfl Tryd.call111 (w_spec_l20Rd_pick (hG.mono (((((hl1.trans hl2).trans hl3).trans hl4).trans hl8).trans hl9)) hC9.old (VRep.mono (((hl3.trans hl4).trans hl8).trans hl9) hw1) ho16 hm11 hx6) fun v13 w10 hv13 => ?_)
    obtain ⟨⟨hv13, ho18⟩, hb9⟩ := hv13
    have hl10 := Le.of_bx M4 hb9 (fun b e => (by rw [show b = g2 from e]; exact hm11))
    have hC10 := hC9.go hb9 (fun b e => Or.inl (by rw [show b = g2 from e]; exact hg4))
    have ho19 := ho17.go hb9 (fun e => hn1 e)
    have hr5 := hr4.go hb9 (fun k hk e => (orow_ne hr4 ho16 (by decide)) (hk.trans (congrArg some e))) hl10 (fun _ h => h)
    obtain rfl := vint_eq hv13
    refine lw_op rfl rfl rfl (ow_quo rfl rfl rfl (by decide) ?_)
    refine lw_op rfl rfl rfl (ow_sub rfl rfl rfl ?_)
    refine lw_op rfl rfl rfl (ow_move rfl rfl ?_)
    refine lw_op rfl rfl rfl (ow_move rfl rfl ?_)
    have hw4 := hr5.freezeDel
    have hC11 := hr5.cxDel hC10 (fun _ e => e.elim) hO
    have hl11 := Le.del w10 M4 v9
    have hm12 : (Del v9 M4) g1 := ⟨hm10, fun e => (orow_ne hr5 ho19 (by decide)) e⟩
    have hm13 : (Del v9 M4) g2 := ⟨hm11, fun e => (orow_ne hr5 ho18 (by decide)) e⟩
    replace h := bind_some h
    obtain ⟨x7, hx7, h⟩ := h
    refine lw_op rfl rfl rfl (ow_call rfl rfl Tryd.call98 (w_spec_l20Near (hG.mono (((((((hl1.trans hl2).trans hl3).trans hl4).trans hl8).trans hl9).trans hl10).trans hl11)) hC11.old (VRep.mono (((((hl3.trans hl4).trans hl8).trans hl9).trans hl10).trans hl11) hw1) ho18 hm13 hw4 hx7) fun v14 w11 hv14 => ?_)
    obtain ⟨⟨hv14, ho20⟩, hb10⟩ := hv14
    have hl12 := Le.of_bx (Del v9 M4) hb10 (fun b e => (by rw [show b = g2 from e]; exact hm13))
    have hC12 := hC11.go hb10 (fun b e => Or.inl (by rw [show b = g2 from e]; exact hg4))
    have ho21 := ho19.go hb10 (fun e => hn1 e)
    refine lw_op rfl rfl rfl (ow_assign rfl rfl ?_)
    refine lw_op rfl rfl rfl (ow_assign rfl rfl ?_)
    obtain rfl := open_Packet hv14
    refine lw_op0 rfl rfl (ow_store (X := No) (us := [(.int .i64 x7.1.From), (.int .i64 x7.1.To), (.int .i64 x7.1.Port), (.int .i64 x7.1.Proto)]) (cs' := #[(.int .i64 x7.1.From), (.int .i64 x7.1.To), (.int .i64 x7.1.Port), (.int .i64 x7.1.Proto)]) rfl rfl rfl rfl ho21 (Tryd.sizeOf39 _) rfl rfl rfl rfl hm12 (.inl hg2) rfl hC12 fun w12 ho22 hb11 hl13 hC13 => ?_)
    have ho23 := ho20.go hb11 (fun e => hn1 e.symm)
    refine lw_nil ?_
    refine ew_then ?_
    refine cw_ret ?_
    have hw5 : VRep RPacket w12 (Del v9 M4) ({ From := x7.1.From, To := x7.1.To, Port := x7.1.Port, Proto := x7.1.Proto } : Packet) (.agg #[(.int .i64 x7.1.From), (.int .i64 x7.1.To), (.int .i64 x7.1.Port), (.int .i64 x7.1.Proto)]) := shut_Packet
    obtain rfl := Option.some.inj h
    exact ew_ret (res3 rfl (.tmp rfl) (.tmp rfl) (.cell rfl (own_loadVarA ho22 (Tryd.isAgg39 _) (Tryd.sizeOf39 _) rfl))) ⟨_, rfl, ⟨_, _, _, rfl, (VRep.mono hC13.back (VRep.mono ((((((hl4.trans hl8).trans hl9).trans hl10).trans hl11).trans hl12).trans hl13) hv2)), ((vint _)), (hw5.mono hC13.back)⟩, hC13.bx⟩

theorem w_impl_RulesValid {w : World} {M : Nat → Prop} (hG : ARep (RArr 4 RShape) w M shapes ⟨0, 0, none⟩) (hO : ∀ b, M b → b < w.heap.size) {v0p : Value} {a_list : List Rule} (h0 : VRep (RSlice RRule) w M a_list v0p) {r : Bool} (h : F.impl_RulesValid a_list = some r) :
    Calls Tryd.prog 86 [v0p].toArray w fun e w' => ∃ v, e = .returned v ∧ VRep RBool w' M r v ∧ BX No w w' := by
  have hC : Cx No w M w M := Cx.start hO (fun _ e => e.elim)
  refine walk (N := 18) Tryd.func86 rfl Tryd.ntmps86 rfl ?_
  refine cw_seq ?_
  refine cw_region ?_
  refine lw_op rfl rfl rfl (ow_assign rfl rfl ?_)
  refine lw_nil ?_
  refine ew_then ?_
  refine cw_seq ?_
  refine cw_seq ?_
  refine cw_region ?_
  refine lw_op rfl rfl rfl (ow_move rfl rfl ?_)
  refine lw_op rfl rfl rfl (ow_len rfl rfl h0 Tryd.underlying86 rfl ?_)
  refine lw_op rfl rfl rfl (ow_gtr rfl rfl rfl fun bb1 hbb1 => ?_)
  refine lw_nil ?_
  refine ew_then ?_
  replace h := cond_some h
  rcases h with ⟨hc1, h⟩ | ⟨hc1, h⟩
  · obtain rfl := hbb1.trans hc1
    refine cw_true rfl ?_
    refine cw_seq ?_
    refine cw_region ?_
    refine lw_op rfl rfl rfl (ow_assign rfl rfl ?_)
    refine lw_nil ?_
    refine ew_then ?_
    refine cw_ret ?_
    refine ew_thenR ?_
    obtain rfl := Option.some.inj h
    exact ew_ret (res1 rfl (.tmp rfl)) ⟨_, rfl, ((vbool _)), hC.bx⟩
  · obtain rfl := hbb1.trans hc1
    refine cw_false rfl ?_
    refine cw_skip ?_
    refine ew_then ?_
    refine cw_seq ?_
    refine cw_seq ?_
    refine cw_region ?_
    refine lw_op rfl rfl rfl (ow_move rfl rfl ?_)
    refine lw_op rfl rfl rfl (ow_len rfl rfl h0 Tryd.underlying86 rfl ?_)
    refine lw_op rfl rfl rfl (ow_move rfl rfl ?_)
    refine lw_nil ?_
    refine ew_then ?_
    replace h := bind_some h
    obtain ⟨lr1, hlr1, h⟩ := h
    refine cw_for hlr1 (fun s a w' => ∃ (M' : Nat → Prop), Fits 18 [(8, v0p), (9, (.int .i64 (a_list.length : Int))), (10, (.int .i64 s))] a ∧ Le w M w' M' ∧ Cx No w M w' M') ?_ ?_ ?_
    · intro a ha
      exact ⟨M, ha.sub ⟨rfl, rfl, rfl, trivial⟩, Le.refl _ _, hC⟩
    · rintro k1 a w1 sr1 ⟨M1, hF1, hl1, hC1⟩ hb1 hR1
      refine cw_at (E := [(8, v0p), (9, (.int .i64 (a_list.length : Int))), (10, (.int .i64 k1))]) hF1 ?_
      refine cw_seq ?_
      refine cw_region ?_
      refine lw_op rfl rfl rfl (ow_lss rfl rfl rfl fun bb2 hbb2 => ?_)
      refine lw_nil ?_
      refine ew_then ?_
      refine cw_seq ?_
      replace hb1 := cond_some hb1
      rcases hb1 with ⟨hc2, hb1⟩ | ⟨hc2, hb1⟩
      · obtain rfl := hbb2.trans hc2
        refine cw_true rfl ?_
        refine cw_skip ?_
        refine ew_then ?_
        refine cw_seq ?_
        refine cw_block ?_
        refine cw_seq ?_
        refine cw_region ?_
        replace hb1 := bind_some hb1
        obtain ⟨x1, hx1, hb1⟩ := hb1
        refine lw_op rfl rfl rfl (ow_indexSlice (R := RRule) rfl rfl rfl (VRep.mono hl1 h0) Tryd.underlying86 (Tryd.sizeOf76 _) hx1 fun p1 hp1 => ?_)
        refine lw_op rfl rfl rfl (ow_load (R := RRule) rfl rfl hp1 (Tryd.sizeOf76 _) (Tryd.isAgg76 _) fun v2 hv2 => ?_)
        refine lw_allocStore (R := RRule) rfl rfl rfl rfl rfl rfl rfl Tryd.zeroValue76 Tryd.sizeOf76 rfl rfl rfl (by simp) hv2 hC1 fun p2 w2 hp2 hb2 hl2 hC2 => ?_
        refine lw_nil ?_
        refine ew_then ?_
        refine cw_seq ?_
        refine cw_region ?_
        refine lw_op rfl rfl rfl (ow_load (R := RRule) rfl rfl hp2 (Tryd.sizeOf76 _) (Tryd.isAgg76 _) fun v3 hv3 => ?_)
        replace hb1 := bind_some hb1
        obtain ⟨x2, hx2, hb1⟩ := hb1
        refine lw_op rfl rfl rfl (ow_call rfl rfl Tryd.call99 (w_impl_RuleValid (hG.mono (hl1.trans hl2)) hC2.old hv3 hx2) fun v4 w3 hv4 => ?_)
        obtain ⟨hv4, hb3⟩ := hv4
        have hl3 := Le.no M1 hb3
        have hC3 := hC2.no hb3
        obtain rfl := vbool_eq hv4
        refine lw_op rfl rfl rfl (ow_not rfl rfl ?_)
        refine lw_nil ?_
        refine ew_then ?_
        replace hb1 := cond_some hb1
        rcases hb1 with ⟨hc3, hb1⟩ | ⟨hc3, hb1⟩
        · subst hc3
          refine cw_false rfl ?_
          refine cw_skip ?_
          refine ew_blockN ?_
          refine ew_then ?_
          refine cw_region ?_
          refine lw_op rfl rfl rfl (ow_add rfl rfl rfl ?_)
          refine lw_op rfl rfl rfl (ow_move rfl rfl ?_)
          refine lw_nil ?_
          refine ew_nxt (W (k1 + 1)) hb1 fun a ha => ⟨M1, ?_, ((hl1.trans hl2).trans hl3), hC3⟩
          exact ha.sub ⟨rfl, rfl, rfl, trivial⟩
        · subst hc3
          refine cw_true rfl ?_
          refine cw_seq ?_
          refine cw_region ?_
          refine lw_op rfl rfl rfl (ow_assign rfl rfl ?_)
          refine lw_nil ?_
          refine ew_then ?_
          refine cw_ret ?_
          refine ew_blockR ?_
          refine ew_thenR ?_
          refine ew_thenR ?_
          refine ew_blockR ?_
          refine ew_brkR ?_
          refine ew_thenR ?_
          have e1 := hR1 _ (Option.some.inj hb1).symm
          subst e1
          obtain rfl := Option.some.inj h
          exact ew_ret (res1 rfl (.tmp rfl)) ⟨_, rfl, ((vbool _)), hC3.bx⟩
      · obtain rfl := hbb2.trans hc2
        refine cw_false rfl ?_
        refine cw_exit ?_
        refine ew_thenX ?_
        refine ew_thenX ?_
        refine ew_blockX ?_
        refine ew_brk k1 hb1 fun a ha => ⟨M1, ?_, hl1, hC1⟩
        exact ha.sub ⟨rfl, rfl, rfl, trivial⟩
    · rintro k2 a w4 hlr2 ⟨M2, hF2, hl4, hC4⟩
      subst hlr2
      refine ew_at (E := [(8, v0p), (9, (.int .i64 (a_list.length : Int))), (10, (.int .i64 k2))]) hF2 ?_
      refine ew_then ?_
      refine cw_seq ?_
      refine cw_region ?_
      refine lw_op rfl rfl rfl (ow_assign rfl rfl ?_)
      refine lw_nil ?_
      refine ew_then ?_
      refine cw_ret ?_
      obtain rfl := Option.some.inj h
      exact ew_ret (res1 rfl (.tmp rfl)) ⟨_, rfl, ((vbool _)), hC4.bx⟩

theorem w_impl_FirstFit {w : World} {M : Nat → Prop} (hG : ARep (RArr 4 RShape) w M shapes ⟨0, 0, none⟩) (hO : ∀ b, M b → b < w.heap.size) {v0p : Value} {a_list : List Rule} (h0 : VRep (RSlice RRule) w M a_list v0p) {a_n : Int} {v2p : Value} {a_p : Packet} (h2 : VRep RPacket w M a_p v2p) {r : Int} (h : F.impl_FirstFit a_list a_n a_p = some r) :
    Calls Tryd.prog 59 [v0p, (.int .i64 a_n), v2p].toArray w fun e w' => ∃ v, e = .returned v ∧ VRep RInt w' M r v ∧ BX No w w' := by
  have hC : Cx No w M w M := Cx.start hO (fun _ e => e.elim)
  refine walk (N := 35) Tryd.func59 rfl Tryd.ntmps59 rfl ?_
  refine cw_seq ?_
  refine cw_region ?_
  refine lw_op rfl rfl rfl (ow_box (R := RPacket) rfl rfl h2 hC fun p1 w1 hp1 hb1 hl1 hC1 => ?_)
  refine lw_op rfl rfl rfl (ow_assign rfl rfl ?_)
  refine lw_nil ?_
  refine ew_then ?_
  refine cw_seq ?_
  refine cw_seq ?_
  refine cw_region ?_
  refine lw_op rfl rfl rfl (ow_move rfl rfl ?_)
  refine lw_op rfl rfl rfl (ow_lss rfl rfl rfl fun bb1 hbb1 => ?_)
  refine lw_op rfl rfl rfl (ow_move rfl rfl ?_)
  replace h := cond_some h
  rcases h with ⟨hc1, h⟩ | ⟨hc1, h⟩
  · obtain rfl := hbb1.trans hc1
    refine lw_off rfl rfl rfl rfl rfl rfl ?_
    refine lw_off rfl rfl rfl rfl rfl rfl ?_
    refine lw_off rfl rfl rfl rfl rfl rfl ?_
    refine lw_op rfl rfl rfl (ow_pickT rfl rfl rfl ?_)
    refine lw_op rfl rfl rfl (ow_move rfl rfl ?_)
    refine lw_off rfl rfl rfl rfl rfl rfl ?_
    refine lw_off rfl rfl rfl rfl rfl rfl ?_
    refine lw_off rfl rfl rfl rfl rfl rfl ?_
    refine lw_op rfl rfl rfl (ow_pickT rfl rfl rfl ?_)
    refine lw_nil ?_
    refine ew_then ?_
    refine cw_true rfl ?_
    refine cw_seq ?_
    refine cw_region ?_
    refine lw_op rfl rfl rfl (ow_assign rfl rfl ?_)
    refine lw_nil ?_
    refine ew_then ?_
    refine cw_ret ?_
    refine ew_thenR ?_
    obtain rfl := Option.some.inj h
    exact ew_ret (res1 rfl (.tmp rfl)) ⟨_, rfl, ((vint _)), hC1.bx⟩
  · obtain rfl := hbb1.trans hc1
    refine lw_on rfl rfl rfl rfl rfl rfl (ow_move rfl rfl ?_)
    replace h := bind_some h
    obtain ⟨x1, hx1, h⟩ := h
    refine lw_on rfl rfl rfl rfl rfl rfl (ow_call rfl rfl Tryd.call86 (w_impl_RulesValid (hG.mono hl1) hC1.old (VRep.mono hl1 h0) hx1) fun v1 w2 hv1 => ?_)
    obtain ⟨hv1, hb2⟩ := hv1
    have hl2 := Le.no M hb2
    have hC2 := hC1.no hb2
    obtain rfl := vbool_eq hv1
    refine lw_on rfl rfl rfl rfl rfl rfl (ow_not rfl rfl ?_)
    refine lw_op rfl rfl rfl (ow_pickF rfl rfl rfl ?_)
    refine lw_op rfl rfl rfl (ow_move rfl rfl ?_)
    replace h := cond_some h
    rcases h with ⟨hc2, h⟩ | ⟨hc2, h⟩
    · subst hc2
      refine lw_on rfl rfl rfl rfl rfl rfl (ow_load (R := RPacket) rfl rfl (ARep.mono hl2 hp1) (Tryd.sizeOf39 _) (Tryd.isAgg39 _) fun v2 hv2 => ?_)
      replace h := bind_some h
      obtain ⟨x2, hx2, h⟩ := h
      refine lw_on rfl rfl rfl rfl rfl rfl (ow_call rfl rfl Tryd.call70 (w_impl_PacketValid (hG.mono (hl1.trans hl2)) hC2.old hv2 hx2) fun v3 w3 hv3 => ?_)
      obtain ⟨hv3, hb3⟩ := hv3
      have hl3 := Le.no M hb3
      have hC3 := hC2.no hb3
      obtain rfl := vbool_eq hv3
      refine lw_on rfl rfl rfl rfl rfl rfl (ow_not rfl rfl ?_)
      refine lw_op rfl rfl rfl (ow_pickF rfl rfl rfl ?_)
      refine lw_nil ?_
      refine ew_then ?_
      replace h := cond_some h
      rcases h with ⟨hc3, h⟩ | ⟨hc3, h⟩
      · subst hc3
        refine cw_false rfl ?_
        refine cw_skip ?_
        refine ew_then ?_
        refine cw_seq ?_
        refine cw_seq ?_
        refine cw_region ?_
        refine lw_op rfl rfl rfl (ow_move rfl rfl ?_)
        refine lw_op rfl rfl rfl (ow_assign rfl rfl ?_)
        refine lw_nil ?_
        refine ew_then ?_
        replace h := bind_some h
        obtain ⟨lr1, hlr1, h⟩ := h
        refine cw_for hlr1 (fun s a w' => ∃ (M' : Nat → Prop), Fits 35 [(0, v0p), (5, (.pointer (some p1))), (7, (.int .i64 s))] a ∧ Le w3 M w' M' ∧ Cx No w M w' M') ?_ ?_ ?_
        · intro a ha
          exact ⟨M, ha.sub ⟨rfl, rfl, rfl, trivial⟩, Le.refl _ _, hC3⟩
        · rintro k1 a w4 sr1 ⟨M1, hF1, hl4, hC4⟩ hb4 hR1
          refine cw_at (E := [(0, v0p), (5, (.pointer (some p1))), (7, (.int .i64 k1))]) hF1 ?_
          refine cw_seq ?_
          refine cw_seq ?_
          refine cw_region ?_
          refine lw_op rfl rfl rfl (ow_move rfl rfl ?_)
          refine lw_op rfl rfl rfl (ow_move rfl rfl ?_)
          refine lw_op rfl rfl rfl (ow_len rfl rfl (VRep.mono (((hl1.trans hl2).trans hl3).trans hl4) h0) Tryd.underlying86 rfl ?_)
          refine lw_op rfl rfl rfl (ow_lss rfl rfl rfl fun bb2 hbb2 => ?_)
          refine lw_nil ?_
          refine ew_then ?_
          replace hb4 := cond_some hb4
          rcases hb4 with ⟨hc4, hb4⟩ | ⟨hc4, hb4⟩
          · obtain rfl := hbb2.trans hc4
            refine cw_true rfl ?_
            refine cw_skip ?_
            refine ew_then ?_
            refine cw_seq ?_
            refine cw_block ?_
            refine cw_seq ?_
            replace hb4 := bind_some hb4
            obtain ⟨x3, hx3, hb4⟩ := hb4
            refine cw_sub (E' := [(0, v0p), (5, (.pointer (some p1))), (7, (.int .i64 k1))]) ⟨rfl, rfl, rfl, trivial⟩ ?_
            refine cw_drawQ 6 [PV (RSlice RRule) M1 a_list, PEq (.int .i64 k1), PA RRule M1 x3, PA (RSlice RTest) M1 x3.Tests, PV (RSlice RTest) M1 x3.Tests, PV RPacket M1 a_p] (by kernel_rfl) rfl (by kernel_rfl) ⟨PV.mono _ _ _, PEq.mono _, PA.mono _ _ _, PA.mono _ _ _, PV.mono _ _ _, PV.mono _ _ _, trivial⟩ ⟨?_, ?_, ?_, ?_, ?_, ?_, trivial⟩ ?_
            · intro w5 D hS1 hd1
              have hl5 := Le.no M1 hS1
              have hC5 := hC4.no hS1
              refine dg_sub (E' := [(0, v0p)]) ⟨rfl, trivial⟩ ?_
              refine dg_plain rfl (ow_move rfl rfl ?_)
              exact ⟨BX.refl _ _, (VRep.mono ((((hl1.trans hl2).trans hl3).trans hl4).trans hl5) h0)⟩
            · intro w6 D hS2 hd2
              have hl6 := Le.no M1 hS2
              have hC6 := hC4.no hS2
              refine dg_sub (E' := [(7, (.int .i64 k1))]) ⟨rfl, trivial⟩ ?_
              refine dg_plain rfl (ow_move rfl rfl ?_)
              exact ⟨BX.refl _ _, rfl⟩
            · intro w7 D hS3 hd3
              have hl7 := Le.no M1 hS3
              have hC7 := hC4.no hS3
              have hd3 : PV (RSlice RRule) M1 a_list (D 0) w7 ∧ PEq (.int .i64 k1) (D 1) w7 ∧ True := hd3
              obtain ⟨d1, d2, -⟩ := hd3
              obtain ⟨v7, hq1⟩ : ∃ v, (D 0) = v := ⟨_, rfl⟩
              rw [hq1] at d1
              refine dg_sub (E' := [(27, v7), (28, (.int .i64 k1))]) ⟨(congrArg some hq1), (congrArg some d2), trivial⟩ ?_
              refine dg_plain rfl (ow_indexSlice (R := RRule) rfl rfl rfl d1 Tryd.underlying86 (Tryd.sizeOf76 _) hx3 fun p3 hp3 => ?_)
              exact ⟨BX.refl _ _, ⟨_, rfl, hp3⟩⟩
            · intro w8 D hS4 hd4
              have hl8 := Le.no M1 hS4
              have hC8 := hC4.no hS4
              have hd4 : PA RRule M1 x3 (D 2) w8 ∧ True := hd4
              obtain ⟨d3, -⟩ := hd4
              obtain ⟨p4, e1, ha1⟩ := d3
              refine dg_sub (E' := [(29, (.pointer (some p4)))]) ⟨(congrArg some e1), trivial⟩ ?_
              refine dg_plain rfl (ow_fieldAddr rfl rfl Tryd.underlying76 rfl (Tryd.sizeOf74 _) ?_)
              exact ⟨BX.refl _ _, ⟨_, rfl, (ha1.fld fld_Rule_Tests)⟩⟩
            · intro w9 D hS5 hd5
              have hl9 := Le.no M1 hS5
              have hC9 := hC4.no hS5
              have hd5 : PA (RSlice RTest) M1 x3.Tests (D 3) w9 ∧ True := hd5
              obtain ⟨d4, -⟩ := hd5
              obtain ⟨p5, e2, ha2⟩ := d4
              refine dg_sub (E' := [(30, (.pointer (some p5)))]) ⟨(congrArg some e2), trivial⟩ ?_
              refine dg_plain rfl (ow_load (R := (RSlice RTest)) rfl rfl ha2 (Tryd.sizeOf74 _) (Tryd.isAgg74 _) fun v8 hv8 => ?_)
              exact ⟨BX.refl _ _, hv8⟩
            · intro w10 D hS6 hd6
              have hl10 := Le.no M1 hS6
              have hC10 := hC4.no hS6
              refine dg_sub (E' := [(5, (.pointer (some p1)))]) ⟨rfl, trivial⟩ ?_
              refine dg_plain rfl (ow_load (R := RPacket) rfl rfl (ARep.mono (((hl2.trans hl3).trans hl4).trans hl10) hp1) (Tryd.sizeOf39 _) (Tryd.isAgg39 _) fun v9 hv9 => ?_)
              exact ⟨BX.refl _ _, hv9⟩
            · intro w11 D hS7 hd7
              have hl11 := Le.no M1 hS7
              have hC11 := hC4.no hS7
              have hd7 : PV (RSlice RRule) M1 a_list (D 0) w11 ∧ PEq (.int .i64 k1) (D 1) w11 ∧ PA RRule M1 x3 (D 2) w11 ∧ PA (RSlice RTest) M1 x3.Tests (D 3) w11 ∧ PV (RSlice RTest) M1 x3.Tests (D 4) w11 ∧ PV RPacket M1 a_p (D 5) w11 ∧ True := hd7
              obtain ⟨-, -, -, -, d9, d10, -⟩ := hd7
              obtain ⟨v10, hq2⟩ : ∃ v, (D 4) = v := ⟨_, rfl⟩
              rw [hq2] at d9
              obtain ⟨v11, hq3⟩ : ∃ v, (D 5) = v := ⟨_, rfl⟩
              rw [hq3] at d10
              refine lw_sub (E' := [(31, v10), (32, v11), (0, v0p), (5, (.pointer (some p1))), (7, (.int .i64 k1))]) ⟨(congrArg some hq2), (congrArg some hq3), rfl, rfl, rfl, trivial⟩ ?_
              replace hb4 := bind_some hb4
              obtain ⟨x4, hx4, hb4⟩ := hb4
              refine lw_op rfl rfl rfl (ow_call rfl rfl Tryd.call100 (w_impl_allHold (hG.mono ((((hl1.trans hl2).trans hl3).trans hl4).trans hl11)) hC11.old d9 d10 hx4) fun v12 w12 hv12 => ?_)
              obtain ⟨hv12, hb5⟩ := hv12
              have hl12 := Le.no M1 hb5
              have hC12 := hC11.no hb5
              obtain rfl := vbool_eq hv12
              refine lw_nil ?_
              refine ew_then ?_
              replace hb4 := cond_some hb4
              rcases hb4 with ⟨hc5, hb4⟩ | ⟨hc5, hb4⟩
              · subst hc5
                refine cw_true rfl ?_
                refine cw_seq ?_
                refine cw_region ?_
                refine lw_op rfl rfl rfl (ow_move rfl rfl ?_)
                refine lw_op rfl rfl rfl (ow_assign rfl rfl ?_)
                refine lw_nil ?_
                refine ew_then ?_
                refine cw_ret ?_
                refine ew_blockR ?_
                refine ew_thenR ?_
                refine ew_thenR ?_
                refine ew_blockR ?_
                refine ew_brkR ?_
                refine ew_thenR ?_
                have e3 := hR1 _ (Option.some.inj hb4).symm
                subst e3
                obtain rfl := Option.some.inj h
                exact ew_ret (res1 rfl (.tmp rfl)) ⟨_, rfl, ((vint _)), hC12.bx⟩
              · subst hc5
                refine cw_false rfl ?_
                refine cw_skip ?_
                refine ew_blockN ?_
                refine ew_then ?_
                refine cw_region ?_
                refine lw_op rfl rfl rfl (ow_move rfl rfl ?_)
                refine lw_op rfl rfl rfl (ow_add rfl rfl rfl ?_)
                refine lw_op rfl rfl rfl (ow_assign rfl rfl ?_)
                refine lw_nil ?_
                refine ew_nxt (W (k1 + 1)) hb4 fun a ha => ⟨M1, ?_, ((hl4.trans hl11).trans hl12), hC12⟩
                exact ha.sub ⟨rfl, rfl, rfl, trivial⟩
          · obtain rfl := hbb2.trans hc4
            refine cw_false rfl ?_
            refine cw_exit ?_
            refine ew_thenX ?_
            refine ew_thenX ?_
            refine ew_blockX ?_
            refine ew_brk k1 hb4 fun a ha => ⟨M1, ?_, hl4, hC4⟩
            exact ha.sub ⟨rfl, rfl, rfl, trivial⟩
        · rintro k2 a w13 hlr2 ⟨M2, hF2, hl13, hC13⟩
          subst hlr2
          refine ew_at (E := [(0, v0p), (5, (.pointer (some p1))), (7, (.int .i64 k2))]) hF2 ?_
          refine ew_then ?_
          refine cw_seq ?_
          refine cw_region ?_
          refine lw_op rfl rfl rfl (ow_assign rfl rfl ?_)
          refine lw_nil ?_
          refine ew_then ?_
          refine cw_ret ?_
          obtain rfl := Option.some.inj h
          exact ew_ret (res1 rfl (.tmp rfl)) ⟨_, rfl, ((vint _)), hC13.bx⟩
      · subst hc3
        refine cw_true rfl ?_
        refine cw_seq ?_
        refine cw_region ?_
        refine lw_op rfl rfl rfl (ow_assign rfl rfl ?_)
        refine lw_nil ?_
        refine ew_then ?_
        refine cw_ret ?_
        refine ew_thenR ?_
        obtain rfl := Option.some.inj h
        exact ew_ret (res1 rfl (.tmp rfl)) ⟨_, rfl, ((vint _)), hC3.bx⟩
    · subst hc2
      refine lw_off rfl rfl rfl rfl rfl rfl ?_
      refine lw_off rfl rfl rfl rfl rfl rfl ?_
      refine lw_off rfl rfl rfl rfl rfl rfl ?_
      refine lw_op rfl rfl rfl (ow_pickT rfl rfl rfl ?_)
      refine lw_nil ?_
      refine ew_then ?_
      refine cw_true rfl ?_
      refine cw_seq ?_
      refine cw_region ?_
      refine lw_op rfl rfl rfl (ow_assign rfl rfl ?_)
      refine lw_nil ?_
      refine ew_then ?_
      refine cw_ret ?_
      refine ew_thenR ?_
      obtain rfl := Option.some.inj h
      exact ew_ret (res1 rfl (.tmp rfl)) ⟨_, rfl, ((vint _)), hC2.bx⟩

theorem w_spec_TestsValid {w : World} {M : Nat → Prop} (hG : ARep (RArr 4 RShape) w M shapes ⟨0, 0, none⟩) (hO : ∀ b, M b → b < w.heap.size) {v0p : Value} {a_list : List Test} (h0 : VRep (RSlice RTest) w M a_list v0p) {r : Bool} (h : F.spec_TestsValid a_list = some r) :
    Calls Tryd.prog 102 [v0p].toArray w fun e w' => ∃ v, e = .returned v ∧ VRep RBool w' M r v ∧ BX No w w' := by
  have hC : Cx No w M w M := Cx.start hO (fun _ e => e.elim)
  refine walk (N := 19) Tryd.func102 rfl Tryd.ntmps102 rfl ?_
  refine cw_seq ?_
  refine cw_region ?_
  refine lw_op rfl rfl rfl (ow_assign rfl rfl ?_)
  refine lw_nil ?_
  refine ew_then ?_
  refine cw_seq ?_
  refine cw_seq ?_
  refine cw_region ?_
  refine lw_op rfl rfl rfl (ow_assign rfl rfl ?_)
  refine lw_nil ?_
  refine ew_then ?_
  replace h := bind_some h
  obtain ⟨lr1, hlr1, h⟩ := h
  refine cw_for hlr1 (fun s a w' => ∃ (M' : Nat → Prop), Fits 19 [(0, v0p), (3, (.int .i64 s))] a ∧ Le w M w' M' ∧ Cx No w M w' M') ?_ ?_ ?_
  · intro a ha
    exact ⟨M, ha.sub ⟨rfl, rfl, trivial⟩, Le.refl _ _, hC⟩
  · rintro k1 a w1 sr1 ⟨M1, hF1, hl1, hC1⟩ hb1 hR1
    refine cw_at (E := [(0, v0p), (3, (.int .i64 k1))]) hF1 ?_
    refine cw_seq ?_
    refine cw_seq ?_
    refine cw_region ?_
    refine lw_op rfl rfl rfl (ow_move rfl rfl ?_)
    refine lw_op rfl rfl rfl (ow_move rfl rfl ?_)
    refine lw_op rfl rfl rfl (ow_len rfl rfl (VRep.mono hl1 h0) Tryd.underlying74 rfl ?_)
    refine lw_op rfl rfl rfl (ow_lss rfl rfl rfl fun bb1 hbb1 => ?_)
    refine lw_nil ?_
    refine ew_then ?_
    replace hb1 := cond_some hb1
    rcases hb1 with ⟨hc1, hb1⟩ | ⟨hc1, hb1⟩
    · obtain rfl := hbb1.trans hc1
      refine cw_true rfl ?_
      refine cw_skip ?_
      refine ew_then ?_
      refine cw_seq ?_
      refine cw_block ?_
      refine cw_seq ?_
      refine cw_region ?_
      refine lw_op rfl rfl rfl (ow_move rfl rfl ?_)
      refine lw_op rfl rfl rfl (ow_move rfl rfl ?_)
      replace hb1 := bind_some hb1
      obtain ⟨x1, hx1, hb1⟩ := hb1
      refine lw_op rfl rfl rfl (ow_indexSlice (R := RTest) rfl rfl rfl (VRep.mono hl1 h0) Tryd.underlying74 (Tryd.sizeOf186 _) hx1 fun p1 hp1 => ?_)
      refine lw_op rfl rfl rfl (ow_load (R := RTest) rfl rfl hp1 (Tryd.sizeOf186 _) (Tryd.isAgg186 _) fun v2 hv2 => ?_)
      replace hb1 := bind_some hb1
      obtain ⟨x2, hx2, hb1⟩ := hb1
      refine lw_op rfl rfl rfl (ow_call rfl rfl Tryd.call138 (w_spec_TestValid (hG.mono hl1) hC1.old hv2 hx2) fun v3 w2 hv3 => ?_)
      obtain ⟨hv3, hb2⟩ := hv3
      have hl2 := Le.no M1 hb2
      have hC2 := hC1.no hb2
      obtain rfl := vbool_eq hv3
      refine lw_op rfl rfl rfl (ow_not rfl rfl ?_)
      refine lw_nil ?_
      refine ew_then ?_
      replace hb1 := cond_some hb1
      rcases hb1 with ⟨hc2, hb1⟩ | ⟨hc2, hb1⟩
      · subst hc2
        refine cw_false rfl ?_
        refine cw_skip ?_
        refine ew_blockN ?_
        refine ew_then ?_
        refine cw_region ?_
        refine lw_op rfl rfl rfl (ow_move rfl rfl ?_)
        refine lw_op rfl rfl rfl (ow_add rfl rfl rfl ?_)
        refine lw_op rfl rfl rfl (ow_assign rfl rfl ?_)
        refine lw_nil ?_
        refine ew_nxt (W (k1 + 1)) hb1 fun a ha => ⟨M1, ?_, (hl1.trans hl2), hC2⟩
        exact ha.sub ⟨rfl, rfl, trivial⟩
      · subst hc2
        refine cw_true rfl ?_
        refine cw_seq ?_
        refine cw_region ?_
        refine lw_op rfl rfl rfl (ow_assign rfl rfl ?_)
        refine lw_nil ?_
        refine ew_then ?_
        refine cw_ret ?_
        refine ew_blockR ?_
        refine ew_thenR ?_
        refine ew_thenR ?_
        refine ew_blockR ?_
        refine ew_brkR ?_
        refine ew_thenR ?_
        have e1 := hR1 _ (Option.some.inj hb1).symm
        subst e1
        obtain rfl := Option.some.inj h
        exact ew_ret (res1 rfl (.tmp rfl)) ⟨_, rfl, ((vbool _)), hC2.bx⟩
    · obtain rfl := hbb1.trans hc1
      refine cw_false rfl ?_
      refine cw_exit ?_
      refine ew_thenX ?_
      refine ew_thenX ?_
      refine ew_blockX ?_
      refine ew_brk k1 hb1 fun a ha => ⟨M1, ?_, hl1, hC1⟩
      exact ha.sub ⟨rfl, rfl, trivial⟩
  · rintro k2 a w3 hlr2 ⟨M2, hF2, hl3, hC3⟩
    subst hlr2
    refine ew_at (E := [(0, v0p), (3, (.int .i64 k2))]) hF2 ?_
    refine ew_then ?_
    refine cw_seq ?_
    refine cw_region ?_
    refine lw_op rfl rfl rfl (ow_move rfl rfl ?_)
    refine lw_op rfl rfl rfl (ow_len rfl rfl (VRep.mono hl3 h0) Tryd.underlying74 rfl ?_)
    refine lw_op rfl rfl rfl (ow_leq rfl rfl rfl fun bb2 hbb2 => ?_)
    refine lw_op rfl rfl rfl (ow_assign rfl rfl ?_)
    refine lw_nil ?_
    refine ew_then ?_
    refine cw_ret ?_
    obtain rfl := Option.some.inj h
    exact ew_ret (res1 rfl (.tmp rfl)) ⟨_, rfl, ((vbool_of hbb2)), hC3.bx⟩

theorem w_spec_RuleValid {w : World} {M : Nat → Prop} (hG : ARep (RArr 4 RShape) w M shapes ⟨0, 0, none⟩) (hO : ∀ b, M b → b < w.heap.size) {v0p : Value} {a_r : Rule} (h0 : VRep RRule w M a_r v0p) {r : Bool} (h : F.spec_RuleValid a_r = some r) :
    Calls Tryd.prog 52 [v0p].toArray w fun e w' => ∃ v, e = .returned v ∧ VRep RBool w' M r v ∧ BX No w w' := by
  have hC : Cx No w M w M := Cx.start hO (fun _ e => e.elim)
  refine walk (N := 31) Tryd.func52 rfl Tryd.ntmps52 rfl ?_
  refine cw_seq ?_
  refine cw_region ?_
  refine lw_op rfl rfl rfl (ow_box (R := RRule) rfl rfl h0 hC fun p1 w1 hp1 hb1 hl1 hC1 => ?_)
  refine lw_op rfl rfl rfl (ow_assign rfl rfl ?_)
  refine lw_nil ?_
  refine ew_then ?_
  refine cw_seq ?_
  refine cw_region ?_
  refine lw_op rfl rfl rfl (ow_fieldAddr rfl rfl Tryd.underlying76 rfl (Tryd.sizeOf74 _) ?_)
  refine lw_op rfl rfl rfl (ow_load (R := (RSlice RTest)) rfl rfl (hp1.fld fld_Rule_Tests) (Tryd.sizeOf74 _) (Tryd.isAgg74 _) fun v1 hv1 => ?_)
  replace h := bind_some h
  obtain ⟨x1, hx1, h⟩ := h
  refine lw_op rfl rfl rfl (ow_call rfl rfl Tryd.call102 (w_spec_TestsValid (hG.mono hl1) hC1.old hv1 hx1) fun v2 w2 hv2 => ?_)
  obtain ⟨hv2, hb2⟩ := hv2
  have hl2 := Le.no M hb2
  have hC2 := hC1.no hb2
  obtain rfl := vbool_eq hv2
  refine lw_op rfl rfl rfl (ow_move rfl rfl ?_)
  replace h := cond_some h
  rcases h with ⟨hc1, h⟩ | ⟨hc1, h⟩
  · subst hc1
    refine lw_on rfl rfl rfl rfl rfl rfl (ow_fieldAddr rfl rfl Tryd.underlying76 rfl (Tryd.sizeOf3 _) ?_)
    refine lw_on rfl rfl rfl rfl rfl rfl (ow_load (R := RInt) rfl rfl (ARep.mono hl2 (hp1.fld fld_Rule_Action)) (Tryd.sizeOf3 _) (Tryd.isAgg3 _) fun v3 hv3 => ?_)
    obtain rfl := vint_eq hv3
    replace h := bind_some h
    obtain ⟨x2, hx2, h⟩ := h
    refine lw_on rfl rfl rfl rfl rfl rfl (ow_call rfl rfl Tryd.call83 (w_spec_l1In (hG.mono (hl1.trans hl2)) hC2.old hx2) fun v4 w3 hv4 => ?_)
    obtain ⟨hv4, hb3⟩ := hv4
    have hl3 := Le.no M hb3
    have hC3 := hC2.no hb3
    obtain rfl := vbool_eq hv4
    refine lw_op rfl rfl rfl (ow_pickT rfl rfl rfl ?_)
    refine lw_op rfl rfl rfl (ow_move rfl rfl ?_)
    replace h := cond_some h
    rcases h with ⟨hc2, h⟩ | ⟨hc2, h⟩
    · subst hc2
      refine lw_on rfl rfl rfl rfl rfl rfl (ow_fieldAddr rfl rfl Tryd.underlying76 rfl (Tryd.sizeOf3 _) ?_)
      refine lw_on rfl rfl rfl rfl rfl rfl (ow_load (R := RInt) rfl rfl (ARep.mono (hl2.trans hl3) (hp1.fld fld_Rule_Action)) (Tryd.sizeOf3 _) (Tryd.isAgg3 _) fun v5 hv5 => ?_)
      obtain rfl := vint_eq hv5
      refine lw_on rfl rfl rfl rfl rfl rfl (ow_eqlI rfl rfl rfl fun bb1 hbb1 => ?_)
      refine lw_on rfl rfl rfl rfl rfl rfl (ow_move rfl rfl ?_)
      replace h := cond_some h
      rcases h with ⟨hc3, h⟩ | ⟨hc3, h⟩
      · obtain rfl := hbb1.trans hc3
        refine lw_on rfl rfl rfl rfl rfl rfl (ow_fieldAddr rfl rfl Tryd.underlying76 rfl (Tryd.sizeOf3 _) ?_)
        refine lw_on rfl rfl rfl rfl rfl rfl (ow_load (R := RInt) rfl rfl (ARep.mono (hl2.trans hl3) (hp1.fld fld_Rule_Chain)) (Tryd.sizeOf3 _) (Tryd.isAgg3 _) fun v6 hv6 => ?_)
        obtain rfl := vint_eq hv6
        replace h := bind_some h
        obtain ⟨x3, hx3, h⟩ := h
        refine lw_on rfl rfl rfl rfl rfl rfl (ow_call rfl rfl Tryd.call83 (w_spec_l1In (hG.mono ((hl1.trans hl2).trans hl3)) hC3.old hx3) fun v7 w4 hv7 => ?_)
        obtain ⟨hv7, hb4⟩ := hv7
        have hl4 := Le.no M hb4
        have hC4 := hC3.no hb4
        obtain rfl := vbool_eq hv7
        refine lw_on rfl rfl rfl rfl rfl rfl (ow_pickT rfl rfl rfl ?_)
        refine lw_on rfl rfl rfl rfl rfl rfl (ow_move rfl rfl ?_)
        replace h := cond_some h
        rcases h with ⟨hc4, h⟩ | ⟨hc4, h⟩
        · subst hc4
          refine lw_off rfl rfl rfl rfl rfl rfl ?_
          refine lw_off rfl rfl rfl rfl rfl rfl ?_
          refine lw_off rfl rfl rfl rfl rfl rfl ?_
          refine lw_off rfl rfl rfl rfl rfl rfl ?_
          refine lw_off' rfl rfl rfl rfl rfl rfl ?_
          refine lw_off' rfl rfl rfl rfl rfl rfl ?_
          refine lw_off' rfl rfl rfl rfl rfl rfl ?_
          refine lw_off rfl rfl rfl rfl rfl rfl ?_
          refine lw_on rfl rfl rfl rfl rfl rfl (ow_pickT rfl rfl rfl ?_)
          refine lw_op rfl rfl rfl (ow_pickT rfl rfl rfl ?_)
          refine lw_op rfl rfl rfl (ow_assign rfl rfl ?_)
          refine lw_nil ?_
          refine ew_then ?_
          refine cw_ret ?_
          obtain rfl := Option.some.inj h
          exact ew_ret (res1 rfl (.tmp rfl)) ⟨_, rfl, ((vbool _)), hC4.bx⟩
        · subst hc4
          refine lw_on rfl rfl rfl rfl rfl rfl (ow_fieldAddr rfl rfl Tryd.underlying76 rfl (Tryd.sizeOf3 _) ?_)
          refine lw_on rfl rfl rfl rfl rfl rfl (ow_load (R := RInt) rfl rfl (ARep.mono ((hl2.trans hl3).trans hl4) (hp1.fld fld_Rule_Action)) (Tryd.sizeOf3 _) (Tryd.isAgg3 _) fun v8 hv8 => ?_)
          obtain rfl := vint_eq hv8
          refine lw_on rfl rfl rfl rfl rfl rfl (ow_neqI rfl rfl rfl fun bb2 hbb2 => ?_)
          refine lw_on rfl rfl rfl rfl rfl rfl (ow_move rfl rfl ?_)
          replace h := cond_some h
          rcases h with ⟨hc5, h⟩ | ⟨hc5, h⟩
          · obtain rfl := hbb2.trans hc5
            refine lw_on rfl rfl rfl rfl rfl rfl (ow_fieldAddr rfl rfl Tryd.underlying76 rfl (Tryd.sizeOf3 _) ?_)
            refine lw_on rfl rfl rfl rfl rfl rfl (ow_load (R := RInt) rfl rfl (ARep.mono ((hl2.trans hl3).trans hl4) (hp1.fld fld_Rule_Chain)) (Tryd.sizeOf3 _) (Tryd.isAgg3 _) fun v9 hv9 => ?_)
            obtain rfl := vint_eq hv9
            refine lw_on rfl rfl rfl rfl rfl rfl (ow_eqlI rfl rfl rfl fun bb3 hbb3 => ?_)
            refine lw_on rfl rfl rfl rfl rfl rfl (ow_pickT rfl rfl rfl ?_)
            refine lw_on rfl rfl rfl rfl rfl rfl (ow_pickF rfl rfl rfl ?_)
            refine lw_op rfl rfl rfl (ow_pickT rfl rfl rfl ?_)
            refine lw_op rfl rfl rfl (ow_assign rfl rfl ?_)
            refine lw_nil ?_
            refine ew_then ?_
            refine cw_ret ?_
            obtain rfl := Option.some.inj h
            exact ew_ret (res1 rfl (.tmp rfl)) ⟨_, rfl, ((vbool_of hbb3)), hC4.bx⟩
          · obtain rfl := hbb2.trans hc5
            refine lw_off rfl rfl rfl rfl rfl rfl ?_
            refine lw_off rfl rfl rfl rfl rfl rfl ?_
            refine lw_off rfl rfl rfl rfl rfl rfl ?_
            refine lw_on rfl rfl rfl rfl rfl rfl (ow_pickF rfl rfl rfl ?_)
            refine lw_on rfl rfl rfl rfl rfl rfl (ow_pickF rfl rfl rfl ?_)
            refine lw_op rfl rfl rfl (ow_pickT rfl rfl rfl ?_)
            refine lw_op rfl rfl rfl (ow_assign rfl rfl ?_)
            refine lw_nil ?_
            refine ew_then ?_
            refine cw_ret ?_
            obtain rfl := Option.some.inj h
            exact ew_ret (res1 rfl (.tmp rfl)) ⟨_, rfl, ((vbool _)), hC4.bx⟩
      · obtain rfl := hbb1.trans hc3
        refine lw_off rfl rfl rfl rfl rfl rfl ?_
        refine lw_off rfl rfl rfl rfl rfl rfl ?_
        refine lw_off rfl rfl rfl rfl rfl rfl ?_
        refine lw_on rfl rfl rfl rfl rfl rfl (ow_pickF rfl rfl rfl ?_)
        refine lw_on rfl rfl rfl rfl rfl rfl (ow_move rfl rfl ?_)
        refine lw_on rfl rfl rfl rfl rfl rfl (ow_fieldAddr rfl rfl Tryd.underlying76 rfl (Tryd.sizeOf3 _) ?_)
        refine lw_on rfl rfl rfl rfl rfl rfl (ow_load (R := RInt) rfl rfl (ARep.mono (hl2.trans hl3) (hp1.fld fld_Rule_Action)) (Tryd.sizeOf3 _) (Tryd.isAgg3 _) fun v10 hv10 => ?_)
        obtain rfl := vint_eq hv10
        refine lw_on rfl rfl rfl rfl rfl rfl (ow_neqI rfl rfl rfl fun bb4 hbb4 => ?_)
        refine lw_on rfl rfl rfl rfl rfl rfl (ow_move rfl rfl ?_)
        replace h := cond_some h
        rcases h with ⟨hc6, h⟩ | ⟨hc6, h⟩
        · obtain rfl := hbb4.trans hc6
          refine lw_on rfl rfl rfl rfl rfl rfl (ow_fieldAddr rfl rfl Tryd.underlying76 rfl (Tryd.sizeOf3 _) ?_)
          refine lw_on rfl rfl rfl rfl rfl rfl (ow_load (R := RInt) rfl rfl (ARep.mono (hl2.trans hl3) (hp1.fld fld_Rule_Chain)) (Tryd.sizeOf3 _) (Tryd.isAgg3 _) fun v11 hv11 => ?_)
          obtain rfl := vint_eq hv11
          refine lw_on rfl rfl rfl rfl rfl rfl (ow_eqlI rfl rfl rfl fun bb5 hbb5 => ?_)
          refine lw_on rfl rfl rfl rfl rfl rfl (ow_pickT rfl rfl rfl ?_)
          refine lw_on rfl rfl rfl rfl rfl rfl (ow_pickF rfl rfl rfl ?_)
          refine lw_op rfl rfl rfl (ow_pickT rfl rfl rfl ?_)
          refine lw_op rfl rfl rfl (ow_assign rfl rfl ?_)
          refine lw_nil ?_
          refine ew_then ?_
          refine cw_ret ?_
          obtain rfl := Option.some.inj h
          exact ew_ret (res1 rfl (.tmp rfl)) ⟨_, rfl, ((vbool_of hbb5)), hC3.bx⟩
        · obtain rfl := hbb4.trans hc6
          refine lw_off rfl rfl rfl rfl rfl rfl ?_
          refine lw_off rfl rfl rfl rfl rfl rfl ?_
          refine lw_off rfl rfl rfl rfl rfl rfl ?_
          refine lw_on rfl rfl rfl rfl rfl rfl (ow_pickF rfl rfl rfl ?_)
          refine lw_on rfl rfl rfl rfl rfl rfl (ow_pickF rfl rfl rfl ?_)
          refine lw_op rfl rfl rfl (ow_pickT rfl rfl rfl ?_)
          refine lw_op rfl rfl rfl (ow_assign rfl rfl ?_)
          refine lw_nil ?_
          refine ew_then ?_
          refine cw_ret ?_
          obtain rfl := Option.some.inj h
          exact ew_ret (res1 rfl (.tmp rfl)) ⟨_, rfl, ((vbool _)), hC3.bx⟩
    · subst hc2
      refine lw_off rfl rfl rfl rfl rfl rfl ?_
      refine lw_off rfl rfl rfl rfl rfl rfl ?_
      refine lw_off rfl rfl rfl rfl rfl rfl ?_
      refine lw_off rfl rfl rfl rfl rfl rfl ?_
      refine lw_off' rfl rfl rfl rfl rfl rfl ?_
      refine lw_off' rfl rfl rfl rfl rfl rfl ?_
      refine lw_off' rfl rfl rfl rfl rfl rfl ?_
      refine lw_off rfl rfl rfl rfl rfl rfl ?_
      refine lw_off rfl rfl rfl rfl rfl rfl ?_
      refine lw_off' rfl rfl rfl rfl rfl rfl ?_
      refine lw_off' rfl rfl rfl rfl rfl rfl ?_
      refine lw_off' rfl rfl rfl rfl rfl rfl ?_
      refine lw_off' rfl rfl rfl rfl rfl rfl ?_
      refine lw_off' rfl rfl rfl rfl rfl rfl ?_
      refine lw_off' rfl rfl rfl rfl rfl rfl ?_
      refine lw_off' rfl rfl rfl rfl rfl rfl ?_
      refine lw_off' rfl rfl rfl rfl rfl rfl ?_
      refine lw_off rfl rfl rfl rfl rfl rfl ?_
      refine lw_op rfl rfl rfl (ow_pickF rfl rfl rfl ?_)
      refine lw_op rfl rfl rfl (ow_assign rfl rfl ?_)
      refine lw_nil ?_
      refine ew_then ?_
      refine cw_ret ?_
      obtain rfl := Option.some.inj h
      exact ew_ret (res1 rfl (.tmp rfl)) ⟨_, rfl, ((vbool _)), hC3.bx⟩
  · subst hc1
    refine lw_off rfl rfl rfl rfl rfl rfl ?_
    refine lw_off rfl rfl rfl rfl rfl rfl ?_
    refine lw_off rfl rfl rfl rfl rfl rfl ?_
    refine lw_op rfl rfl rfl (ow_pickF rfl rfl rfl ?_)
    refine lw_op rfl rfl rfl (ow_move rfl rfl ?_)
    refine lw_off rfl rfl rfl rfl rfl rfl ?_
    refine lw_off rfl rfl rfl rfl rfl rfl ?_
    refine lw_off rfl rfl rfl rfl rfl rfl ?_
    refine lw_off rfl rfl rfl rfl rfl rfl ?_
    refine lw_off' rfl rfl rfl rfl rfl rfl ?_
    refine lw_off' rfl rfl rfl rfl rfl rfl ?_
    refine lw_off' rfl rfl rfl rfl rfl rfl ?_
    refine lw_off rfl rfl rfl rfl rfl rfl ?_
    refine lw_off rfl rfl rfl rfl rfl rfl ?_
    refine lw_off' rfl rfl rfl rfl rfl rfl ?_
    refine lw_off' rfl rfl rfl rfl rfl rfl ?_
    refine lw_off' rfl rfl rfl rfl rfl rfl ?_
    refine lw_off' rfl rfl rfl rfl rfl rfl ?_
    refine lw_off' rfl rfl rfl rfl rfl rfl ?_
    refine lw_off' rfl rfl rfl rfl rfl rfl ?_
    refine lw_off' rfl rfl rfl rfl rfl rfl ?_
    refine lw_off' rfl rfl rfl rfl rfl rfl ?_
    refine lw_off rfl rfl rfl rfl rfl rfl ?_
    refine lw_op rfl rfl rfl (ow_pickF rfl rfl rfl ?_)
    refine lw_op rfl rfl rfl (ow_assign rfl rfl ?_)
    refine lw_nil ?_
    refine ew_then ?_
    refine cw_ret ?_
    obtain rfl := Option.some.inj h
    exact ew_ret (res1 rfl (.tmp rfl)) ⟨_, rfl, ((vbool _)), hC2.bx⟩

theorem w_spec_PacketValid {w : World} {M : Nat → Prop} (hG : ARep (RArr 4 RShape) w M shapes ⟨0, 0, none⟩) (hO : ∀ b, M b → b < w.heap.size) {v0p : Value} {a_p : Packet} (h0 : VRep RPacket w M a_p v0p) {r : Bool} (h : F.spec_PacketValid a_p = some r) :
    Calls Tryd.prog 76 [v0p].toArray w fun e w' => ∃ v, e = .returned v ∧ VRep RBool w' M r v ∧ BX No w w' := by
  have hC : Cx No w M w M := Cx.start hO (fun _ e => e.elim)
  refine walk (N := 21) Tryd.func76 rfl Tryd.ntmps76 rfl ?_
  refine cw_seq ?_
  refine cw_region ?_
  refine lw_op rfl rfl rfl (ow_box (R := RPacket) rfl rfl h0 hC fun p1 w1 hp1 hb1 hl1 hC1 => ?_)
  refine lw_op rfl rfl rfl (ow_assign rfl rfl ?_)
  refine lw_nil ?_
  refine ew_then ?_
  refine cw_seq ?_
  refine cw_region ?_
  refine lw_op rfl rfl rfl (ow_fieldAddr rfl rfl Tryd.underlying39 rfl (Tryd.sizeOf3 _) ?_)
  refine lw_op rfl rfl rfl (ow_load (R := RInt) rfl rfl (hp1.fld fld_Packet_From) (Tryd.sizeOf3 _) (Tryd.isAgg3 _) fun v1 hv1 => ?_)
  obtain rfl := vint_eq hv1
  replace h := bind_some h
  obtain ⟨x1, hx1, h⟩ := h
  refine lw_op rfl rfl rfl (ow_call rfl rfl Tryd.call83 (w_spec_l1In (hG.mono hl1) hC1.old hx1) fun v2 w2 hv2 => ?_)
  obtain ⟨hv2, hb2⟩ := hv2
  have hl2 := Le.no M hb2
  have hC2 := hC1.no hb2
  obtain rfl := vbool_eq hv2
  refine lw_op rfl rfl rfl (ow_move rfl rfl ?_)
  replace h := cond_some h
  rcases h with ⟨hc1, h⟩ | ⟨hc1, h⟩
  · subst hc1
    refine lw_on rfl rfl rfl rfl rfl rfl (ow_fieldAddr rfl rfl Tryd.underlying39 rfl (Tryd.sizeOf3 _) ?_)
    refine lw_on rfl rfl rfl rfl rfl rfl (ow_load (R := RInt) rfl rfl (ARep.mono hl2 (hp1.fld fld_Packet_To)) (Tryd.sizeOf3 _) (Tryd.isAgg3 _) fun v3 hv3 => ?_)
    obtain rfl := vint_eq hv3
    replace h := bind_some h
    obtain ⟨x2, hx2, h⟩ := h
    refine lw_on rfl rfl rfl rfl rfl rfl (ow_call rfl rfl Tryd.call83 (w_spec_l1In (hG.mono (hl1.trans hl2)) hC2.old hx2) fun v4 w3 hv4 => ?_)
    obtain ⟨hv4, hb3⟩ := hv4
    have hl3 := Le.no M hb3
    have hC3 := hC2.no hb3
    obtain rfl := vbool_eq hv4
    refine lw_op rfl rfl rfl (ow_pickT rfl rfl rfl ?_)
    refine lw_op rfl rfl rfl (ow_move rfl rfl ?_)
    replace h := cond_some h
    rcases h with ⟨hc2, h⟩ | ⟨hc2, h⟩
    · subst hc2
      refine lw_on rfl rfl rfl rfl rfl rfl (ow_fieldAddr rfl rfl Tryd.underlying39 rfl (Tryd.sizeOf3 _) ?_)
      refine lw_on rfl rfl rfl rfl rfl rfl (ow_load (R := RInt) rfl rfl (ARep.mono (hl2.trans hl3) (hp1.fld fld_Packet_Port)) (Tryd.sizeOf3 _) (Tryd.isAgg3 _) fun v5 hv5 => ?_)
      obtain rfl := vint_eq hv5
      replace h := bind_some h
      obtain ⟨x3, hx3, h⟩ := h
      refine lw_on rfl rfl rfl rfl rfl rfl (ow_call rfl rfl Tryd.call83 (w_spec_l1In (hG.mono ((hl1.trans hl2).trans hl3)) hC3.old hx3) fun v6 w4 hv6 => ?_)
      obtain ⟨hv6, hb4⟩ := hv6
      have hl4 := Le.no M hb4
      have hC4 := hC3.no hb4
      obtain rfl := vbool_eq hv6
      refine lw_op rfl rfl rfl (ow_pickT rfl rfl rfl ?_)
      refine lw_op rfl rfl rfl (ow_move rfl rfl ?_)
      replace h := cond_some h
      rcases h with ⟨hc3, h⟩ | ⟨hc3, h⟩
      · subst hc3
        refine lw_on rfl rfl rfl rfl rfl rfl (ow_fieldAddr rfl rfl Tryd.underlying39 rfl (Tryd.sizeOf3 _) ?_)
        refine lw_on rfl rfl rfl rfl rfl rfl (ow_load (R := RInt) rfl rfl (ARep.mono ((hl2.trans hl3).trans hl4) (hp1.fld fld_Packet_Proto)) (Tryd.sizeOf3 _) (Tryd.isAgg3 _) fun v7 hv7 => ?_)
        obtain rfl := vint_eq hv7
        replace h := bind_some h
        obtain ⟨x4, hx4, h⟩ := h
        refine lw_on rfl rfl rfl rfl rfl rfl (ow_call rfl rfl Tryd.call83 (w_spec_l1In (hG.mono (((hl1.trans hl2).trans hl3).trans hl4)) hC4.old hx4) fun v8 w5 hv8 => ?_)
        obtain ⟨hv8, hb5⟩ := hv8
        have hl5 := Le.no M hb5
        have hC5 := hC4.no hb5
        obtain rfl := vbool_eq hv8
        refine lw_op rfl rfl rfl (ow_pickT rfl rfl rfl ?_)
        refine lw_op rfl rfl rfl (ow_assign rfl rfl ?_)
        refine lw_nil ?_
        refine ew_then ?_
        refine cw_ret ?_
        obtain rfl := Option.some.inj h
        exact ew_ret (res1 rfl (.tmp rfl)) ⟨_, rfl, ((vbool _)), hC5.bx⟩
      · subst hc3
        refine lw_off rfl rfl rfl rfl rfl rfl ?_
        refine lw_off rfl rfl rfl rfl rfl rfl ?_
        refine lw_off rfl rfl rfl rfl rfl rfl ?_
        refine lw_op rfl rfl rfl (ow_pickF rfl rfl rfl ?_)
        refine lw_op rfl rfl rfl (ow_assign rfl rfl ?_)
        refine lw_nil ?_
        refine ew_then ?_
        refine cw_ret ?_
        obtain rfl := Option.some.inj h
        exact ew_ret (res1 rfl (.tmp rfl)) ⟨_, rfl, ((vbool _)), hC4.bx⟩
    · subst hc2
      refine lw_off rfl rfl rfl rfl rfl rfl ?_
      refine lw_off rfl rfl rfl rfl rfl rfl ?_
      refine lw_off rfl rfl rfl rfl rfl rfl ?_
      refine lw_op rfl rfl rfl (ow_pickF rfl rfl rfl ?_)
      refine lw_op rfl rfl rfl (ow_move rfl rfl ?_)
      refine lw_off rfl rfl rfl rfl rfl rfl ?_
      refine lw_off rfl rfl rfl rfl rfl rfl ?_
      refine lw_off rfl rfl rfl rfl rfl rfl ?_
      refine lw_op rfl rfl rfl (ow_pickF rfl rfl rfl ?_)
      refine lw_op rfl rfl rfl (ow_assign rfl rfl ?_)
      refine lw_nil ?_
      refine ew_then ?_
      refine cw_ret ?_
      obtain rfl := Option.some.inj h
      exact ew_ret (res1 rfl (.tmp rfl)) ⟨_, rfl, ((vbool _)), hC3.bx⟩
  · subst hc1
    refine lw_off rfl rfl rfl rfl rfl rfl ?_
    refine lw_off rfl rfl rfl rfl rfl rfl ?_
    refine lw_off rfl rfl rfl rfl rfl rfl ?_
    refine lw_op rfl rfl rfl (ow_pickF rfl rfl rfl ?_)
    refine lw_op rfl rfl rfl (ow_move rfl rfl ?_)
    refine lw_off rfl rfl rfl rfl rfl rfl ?_
    refine lw_off rfl rfl rfl rfl rfl rfl ?_
    refine lw_off rfl rfl rfl rfl rfl rfl ?_
    refine lw_op rfl rfl rfl (ow_pickF rfl rfl rfl ?_)
    refine lw_op rfl rfl rfl (ow_move rfl rfl ?_)
    refine lw_off rfl rfl rfl rfl rfl rfl ?_
    refine lw_off rfl rfl rfl rfl rfl rfl ?_
    refine lw_off rfl rfl rfl rfl rfl rfl ?_
    refine lw_op rfl rfl rfl (ow_pickF rfl rfl rfl ?_)
    refine lw_op rfl rfl rfl (ow_assign rfl rfl ?_)
    refine lw_nil ?_
    refine ew_then ?_
    refine cw_ret ?_
    obtain rfl := Option.some.inj h
    exact ew_ret (res1 rfl (.tmp rfl)) ⟨_, rfl, ((vbool _)), hC2.bx⟩

theorem w_spec_PacketField {w : World} {M : Nat → Prop} (hG : ARep (RArr 4 RShape) w M shapes ⟨0, 0, none⟩) (hO : ∀ b, M b → b < w.heap.size) {v0p : Value} {a_p : Packet} (h0 : VRep RPacket w M a_p v0p) {a_n : Int} {r : Int} (h : F.spec_PacketField a_p a_n = some r) :
    Calls Tryd.prog 118 [v0p, (.int .i64 a_n)].toArray w fun e w' => ∃ v, e = .returned v ∧ VRep RInt w' M r v ∧ BX No w w' := by
  have hC : Cx No w M w M := Cx.start hO (fun _ e => e.elim)
  refine walk (N := 25) Tryd.func118 rfl Tryd.ntmps118 rfl ?_
  refine cw_seq ?_
  refine cw_region ?_
  refine lw_op rfl rfl rfl (ow_box (R := RPacket) rfl rfl h0 hC fun p1 w1 hp1 hb1 hl1 hC1 => ?_)
  refine lw_op rfl rfl rfl (ow_assign rfl rfl ?_)
  refine lw_nil ?_
  refine ew_then ?_
  refine cw_seq ?_
  refine cw_seq ?_
  refine cw_region ?_
  refine lw_op rfl rfl rfl (ow_load (R := RPacket) rfl rfl hp1 (Tryd.sizeOf39 _) (Tryd.isAgg39 _) fun v1 hv1 => ?_)
  replace h := bind_some h
  obtain ⟨x1, hx1, h⟩ := h
  refine lw_op rfl rfl rfl (ow_call rfl rfl Tryd.call76 (w_spec_PacketValid (hG.mono hl1) hC1.old hv1 hx1) fun v2 w2 hv2 => ?_)
  obtain ⟨hv2, hb2⟩ := hv2
  have hl2 := Le.no M hb2
  have hC2 := hC1.no hb2
  obtain rfl := vbool_eq hv2
  refine lw_op rfl rfl rfl (ow_not rfl rfl ?_)
  refine lw_op rfl rfl rfl (ow_move rfl rfl ?_)
  replace h := cond_some h
  rcases h with ⟨hc1, h⟩ | ⟨hc1, h⟩
  · subst hc1
    refine lw_on rfl rfl rfl rfl rfl rfl (ow_move rfl rfl ?_)
    replace h := bind_some h
    obtain ⟨x2, hx2, h⟩ := h
    refine lw_on rfl rfl rfl rfl rfl rfl (ow_call rfl rfl Tryd.call83 (w_spec_l1In (hG.mono (hl1.trans hl2)) hC2.old hx2) fun v3 w3 hv3 => ?_)
    obtain ⟨hv3, hb3⟩ := hv3
    have hl3 := Le.no M hb3
    have hC3 := hC2.no hb3
    obtain rfl := vbool_eq hv3
    refine lw_on rfl rfl rfl rfl rfl rfl (ow_not rfl rfl ?_)
    refine lw_op rfl rfl rfl (ow_pickF rfl rfl rfl ?_)
    refine lw_nil ?_
    refine ew_then ?_
    replace h := cond_some h
    rcases h with ⟨hc2, h⟩ | ⟨hc2, h⟩
    · subst hc2
      refine cw_false rfl ?_
      refine cw_skip ?_
      refine ew_then ?_
      refine cw_seq ?_
      refine cw_region ?_
      refine lw_op rfl rfl rfl (ow_fieldAddr rfl rfl Tryd.underlying39 rfl (Tryd.sizeOf3 _) ?_)
      refine lw_op rfl rfl rfl (ow_load (R := RInt) rfl rfl (ARep.mono (hl2.trans hl3) (hp1.fld fld_Packet_From)) (Tryd.sizeOf3 _) (Tryd.isAgg3 _) fun v4 hv4 => ?_)
      obtain rfl := vint_eq hv4
      refine lw_op rfl rfl rfl (ow_fieldAddr rfl rfl Tryd.underlying39 rfl (Tryd.sizeOf3 _) ?_)
      refine lw_op rfl rfl rfl (ow_load (R := RInt) rfl rfl (ARep.mono (hl2.trans hl3) (hp1.fld fld_Packet_To)) (Tryd.sizeOf3 _) (Tryd.isAgg3 _) fun v5 hv5 => ?_)
      obtain rfl := vint_eq hv5
      refine lw_op rfl rfl rfl (ow_fieldAddr rfl rfl Tryd.underlying39 rfl (Tryd.sizeOf3 _) ?_)
      refine lw_op rfl rfl rfl (ow_load (R := RInt) rfl rfl (ARep.mono (hl2.trans hl3) (hp1.fld fld_Packet_Port)) (Tryd.sizeOf3 _) (Tryd.isAgg3 _) fun v6 hv6 => ?_)
      obtain rfl := vint_eq hv6
      refine lw_op rfl rfl rfl (ow_fieldAddr rfl rfl Tryd.underlying39 rfl (Tryd.sizeOf3 _) ?_)
      refine lw_op rfl rfl rfl (ow_load (R := RInt) rfl rfl (ARep.mono (hl2.trans hl3) (hp1.fld fld_Packet_Proto)) (Tryd.sizeOf3 _) (Tryd.isAgg3 _) fun v7 hv7 => ?_)
      obtain rfl := vint_eq hv7
      refine lw_op rfl rfl rfl (ow_buildSlice (R := RInt) (xs := [a_p.From, a_p.To, a_p.Port, a_p.Proto]) (cs := #[(.int .i64 a_p.From), (.int .i64 a_p.To), (.int .i64 a_p.Port), (.int .i64 a_p.Proto)]) (e := 3) rfl rfl (by kernel_rfl) rfl rfl ⟨_, _, rfl, (vint _).cells, _, _, rfl, (vint _).cells, _, _, rfl, (vint _).cells, _, _, rfl, (vint _).cells, rfl⟩ hC3 fun p2 w4 hw1 hb4 hl4 hC4 => ?_)
      refine lw_op rfl rfl rfl (ow_move rfl rfl ?_)
      replace h := bind_some h
      obtain ⟨x3, hx3, h⟩ := h
      refine lw_op rfl rfl rfl (ow_indexSlice (R := RInt) rfl rfl rfl hw1 Tryd.underlying116 (Tryd.sizeOf3 _) hx3 fun p3 hp3 => ?_)
      refine lw_op rfl rfl rfl (ow_load (R := RInt) rfl rfl hp3 (Tryd.sizeOf3 _) (Tryd.isAgg3 _) fun v8 hv8 => ?_)
      obtain rfl := vint_eq hv8
      refine lw_op rfl rfl rfl (ow_assign rfl rfl ?_)
      refine lw_nil ?_
      refine ew_then ?_
      refine cw_ret ?_
      obtain rfl := Option.some.inj h
      exact ew_ret (res1 rfl (.tmp rfl)) ⟨_, rfl, ((vint _)), hC4.bx⟩
    · subst hc2
      refine cw_true rfl ?_
      refine cw_seq ?_
      refine cw_region ?_
      refine lw_op rfl rfl rfl (ow_assign rfl rfl ?_)
      refine lw_nil ?_
      refine ew_then ?_
      refine cw_ret ?_
      refine ew_thenR ?_
      obtain rfl := Option.some.inj h
      exact ew_ret (res1 rfl (.tmp rfl)) ⟨_, rfl, ((vint _)), hC3.bx⟩
  · subst hc1
    refine lw_off rfl rfl rfl rfl rfl rfl ?_
    refine lw_off rfl rfl rfl rfl rfl rfl ?_
    refine lw_off rfl rfl rfl rfl rfl rfl ?_
    refine lw_op rfl rfl rfl (ow_pickT rfl rfl rfl ?_)
    refine lw_nil ?_
    refine ew_then ?_
    refine cw_true rfl ?_
    refine cw_seq ?_
    refine cw_region ?_
    refine lw_op rfl rfl rfl (ow_assign rfl rfl ?_)
    refine lw_nil ?_
    refine ew_then ?_
    refine cw_ret ?_
    refine ew_thenR ?_
    obtain rfl := Option.some.inj h
    exact ew_ret (res1 rfl (.tmp rfl)) ⟨_, rfl, ((vint _)), hC2.bx⟩

theorem w_spec_TestHolds {w : World} {M : Nat → Prop} (hG : ARep (RArr 4 RShape) w M shapes ⟨0, 0, none⟩) (hO : ∀ b, M b → b < w.heap.size) {v0p : Value} {a_t : Test} (h0 : VRep RTest w M a_t v0p) {v1p : Value} {a_p : Packet} (h1 : VRep RPacket w M a_p v1p) {r : Bool} (h : F.spec_TestHolds a_t a_p = some r) :
    Calls Tryd.prog 140 [v0p, v1p].toArray w fun e w' => ∃ v, e = .returned v ∧ VRep RBool w' M r v ∧ BX No w w' := by
  have hC : Cx No w M w M := Cx.start hO (fun _ e => e.elim)
  refine walk (N := 25) Tryd.func140 rfl Tryd.ntmps140 rfl ?_
  refine cw_seq ?_
  refine cw_region ?_
  refine lw_op rfl rfl rfl (ow_box (R := RTest) rfl rfl h0 hC fun p1 w1 hp1 hb1 hl1 hC1 => ?_)
  refine lw_op rfl rfl rfl (ow_box (R := RPacket) rfl rfl (VRep.mono hl1 h1) hC1 fun p2 w2 hp2 hb2 hl2 hC2 => ?_)
  refine lw_op rfl rfl rfl (ow_assign rfl rfl ?_)
  refine lw_nil ?_
  refine ew_then ?_
  refine cw_seq ?_
  replace h := bind_some h
  obtain ⟨x1, hx1, h⟩ := h
  replace h := cond_some h
  rcases h with ⟨hc1, h⟩ | ⟨hc1, h⟩
  · subst hc1
    replace h := bind_some h
    obtain ⟨x2, hx2, h⟩ := h
    replace h := cond_some h
    rcases h with ⟨hc2, h⟩ | ⟨hc2, h⟩
    · subst hc2
      replace h := bind_some h
      obtain ⟨x3, hx3, h⟩ := h
      replace h := bind_some h
      obtain ⟨x4, hx4, h⟩ := h
      refine cw_sub (E' := [(2, (.pointer (some p1))), (3, (.pointer (some p2))), (4, (.bool false))]) ⟨rfl, rfl, rfl, trivial⟩ ?_
      refine cw_drawQ 18 [PV RTest M a_t, PEq (.bool true), PEq (.bool true), PV RPacket M a_p, PEq (.bool true), PEq (.bool true), PEq (.bool true), PV RPacket M a_p, PA RInt M a_t.Field, PEq (.int .i64 a_t.Field), PEq (.int .i64 x3), PA RInt M a_t.Lo, PEq (.int .i64 a_t.Lo), PA RInt M a_t.Hi, PEq (.int .i64 a_t.Hi), PEq (.bool x4), PA RBool M a_t.Not, PEq (.bool a_t.Not)] (by kernel_rfl) rfl (by kernel_rfl) ⟨PV.mono _ _ _, PEq.mono _, PEq.mono _, PV.mono _ _ _, PEq.mono _, PEq.mono _, PEq.mono _, PV.mono _ _ _, PA.mono _ _ _, PEq.mono _, PEq.mono _, PA.mono _ _ _, PEq.mono _, PA.mono _ _ _, PEq.mono _, PEq.mono _, PA.mono _ _ _, PEq.mono _, trivial⟩ ⟨?_, ?_, ?_, ?_, ?_, ?_, ?_, ?_, ?_, ?_, ?_, ?_, ?_, ?_, ?_, ?_, ?_, ?_, trivial⟩ ?_
      · intro w7 D hS1 hd1
        have hl7 := Le.no M hS1
        have hC7 := hC2.no hS1
        refine dg_sub (E' := [(2, (.pointer (some p1)))]) ⟨rfl, trivial⟩ ?_
        refine dg_plain rfl (ow_load (R := RTest) rfl rfl (ARep.mono (hl2.trans hl7) hp1) (Tryd.sizeOf186 _) (Tryd.isAgg186 _) fun v12 hv12 => ?_)
        exact ⟨BX.refl _ _, hv12⟩
      · intro w8 D hS2 hd2
        have hl8 := Le.no M hS2
        have hC8 := hC2.no hS2
        have hd2 : PV RTest M a_t (D 0) w8 ∧ True := hd2
        obtain ⟨d1, -⟩ := hd2
        obtain ⟨v13, hq1⟩ : ∃ v, (D 0) = v := ⟨_, rfl⟩
        rw [hq1] at d1
        refine dg_sub (E' := [(5, v13)]) ⟨(congrArg some hq1), trivial⟩ ?_
        refine dg_plain rfl (ow_call rfl rfl Tryd.call138 (w_spec_TestValid (hG.mono ((hl1.trans hl2).trans hl8)) hC8.old d1 hx1) fun v14 w9 hv14 => ?_)
        obtain ⟨hv14, hb7⟩ := hv14
        have hl9 := Le.no M hb7
        have hC9 := hC8.no hb7
        obtain rfl := vbool_eq hv14
        exact ⟨hb7, rfl⟩
      · intro w10 D hS3 hd3
        have hl10 := Le.no M hS3
        have hC10 := hC2.no hS3
        have hd3 : PEq (.bool true) (D 1) w10 ∧ PEq (.bool true) (D 1) w10 ∧ True := hd3
        obtain ⟨d2, d3, -⟩ := hd3
        refine dg_sub (E' := [(6, (.bool true))]) ⟨(congrArg some d2), trivial⟩ ?_
        refine dg_plain rfl (ow_move rfl rfl ?_)
        exact ⟨BX.refl _ _, rfl⟩
      · intro w11 D hS4 hd4
        have hl11 := Le.no M hS4
        have hC11 := hC2.no hS4
        have hd4 : PEq (.bool true) (D 2) w11 ∧ True := hd4
        obtain ⟨d4, -⟩ := hd4
        refine dg_sub (E' := [(7, (.bool true)), (3, (.pointer (some p2)))]) ⟨(congrArg some d4), rfl, trivial⟩ ?_
        refine dg_on rfl rfl rfl rfl (ow_load (R := RPacket) rfl rfl (ARep.mono hl11 hp2) (Tryd.sizeOf39 _) (Tryd.isAgg39 _) fun v15 hv15 => ?_)
        exact ⟨BX.refl _ _, hv15⟩
      · intro w12 D hS5 hd5
        have hl12 := Le.no M hS5
        have hC12 := hC2.no hS5
        have hd5 : PV RPacket M a_p (D 3) w12 ∧ PEq (.bool true) (D 2) w12 ∧ PEq (.bool true) (D 2) w12 ∧ True := hd5
        obtain ⟨d5, d6, d7, -⟩ := hd5
        obtain ⟨v16, hq2⟩ : ∃ v, (D 3) = v := ⟨_, rfl⟩
        rw [hq2] at d5
        refine dg_sub (E' := [(8, v16), (7, (.bool true))]) ⟨(congrArg some hq2), (congrArg some d6), trivial⟩ ?_
        refine dg_on rfl rfl rfl rfl (ow_call rfl rfl Tryd.call76 (w_spec_PacketValid (hG.mono ((hl1.trans hl2).trans hl12)) hC12.old d5 hx2) fun v17 w13 hv17 => ?_)
        obtain ⟨hv17, hb8⟩ := hv17
        have hl13 := Le.no M hb8
        have hC13 := hC12.no hb8
        obtain rfl := vbool_eq hv17
        exact ⟨hb8, rfl⟩
      · intro w14 D hS6 hd6
        have hl14 := Le.no M hS6
        have hC14 := hC2.no hS6
        have hd6 : PEq (.bool true) (D 2) w14 ∧ PEq (.bool true) (D 4) w14 ∧ True := hd6
        obtain ⟨d8, d9, -⟩ := hd6
        refine dg_sub (E' := [(7, (.bool true)), (9, (.bool true))]) ⟨(congrArg some d8), (congrArg some d9), trivial⟩ ?_
        refine dg_plain rfl (ow_pickT rfl rfl rfl ?_)
        exact ⟨BX.refl _ _, rfl⟩
      · intro w15 D hS7 hd7
        have hl15 := Le.no M hS7
        have hC15 := hC2.no hS7
        have hd7 : PEq (.bool true) (D 5) w15 ∧ PEq (.bool true) (D 4) w15 ∧ True := hd7
        obtain ⟨d10, d11, -⟩ := hd7
        refine dg_sub (E' := [(10, (.bool true))]) ⟨(congrArg some d10), trivial⟩ ?_
        refine dg_plain rfl (ow_move rfl rfl ?_)
        exact ⟨BX.refl _ _, rfl⟩
      · intro w16 D hS8 hd8
        have hl16 := Le.no M hS8
        have hC16 := hC2.no hS8
        have hd8 : PEq (.bool true) (D 6) w16 ∧ True := hd8
        obtain ⟨d12, -⟩ := hd8
        refine dg_sub (E' := [(11, (.bool true)), (3, (.pointer (some p2)))]) ⟨(congrArg some d12), rfl, trivial⟩ ?_
        refine dg_on rfl rfl rfl rfl (ow_load (R := RPacket) rfl rfl (ARep.mono hl16 hp2) (Tryd.sizeOf39 _) (Tryd.isAgg39 _) fun v18 hv18 => ?_)
        exact ⟨BX.refl _ _, hv18⟩
      · intro w17 D hS9 hd9
        have hl17 := Le.no M hS9
        have hC17 := hC2.no hS9
        have hd9 : PEq (.bool true) (D 6) w17 ∧ True := hd9
        obtain ⟨d13, -⟩ := hd9
        refine dg_sub (E' := [(11, (.bool true)), (2, (.pointer (some p1)))]) ⟨(congrArg some d13), rfl, trivial⟩ ?_
        refine dg_on rfl rfl rfl rfl (ow_fieldAddr rfl rfl Tryd.underlying186 rfl (Tryd.sizeOf3 _) ?_)
        exact ⟨BX.refl _ _, ⟨_, rfl, (ARep.mono (hl2.trans hl17) (hp1.fld fld_Test_Field))⟩⟩
      · intro w18 D hS10 hd10
        have hl18 := Le.no M hS10
        have hC18 := hC2.no hS10
        have hd10 : PA RInt M a_t.Field (D 8) w18 ∧ PEq (.bool true) (D 6) w18 ∧ True := hd10
        obtain ⟨d14, d15, -⟩ := hd10
        obtain ⟨p3, e1, ha1⟩ := d14
        refine dg_sub (E' := [(13, (.pointer (some p3))), (11, (.bool true))]) ⟨(congrArg some e1), (congrArg some d15), trivial⟩ ?_
        refine dg_on rfl rfl rfl rfl (ow_load (R := RInt) rfl rfl ha1 (Tryd.sizeOf3 _) (Tryd.isAgg3 _) fun v19 hv19 => ?_)
        obtain rfl := vint_eq hv19
        exact ⟨BX.refl _ _, rfl⟩
      · intro w19 D hS11 hd11
        have hl19 := Le.no M hS11
        have hC19 := hC2.no hS11
        have hd11 : PV RPacket M a_p (D 7) w19 ∧ PEq (.int .i64 a_t.Field) (D 9) w19 ∧ PEq (.bool true) (D 6) w19 ∧ PEq (.bool true) (D 6) w19 ∧ True := hd11
        obtain ⟨d16, d17, d18, d19, -⟩ := hd11
        obtain ⟨v20, hq3⟩ : ∃ v, (D 7) = v := ⟨_, rfl⟩
        rw [hq3] at d16
        refine dg_sub (E' := [(12, v20), (14, (.int .i64 a_t.Field)), (11, (.bool true))]) ⟨(congrArg some hq3), (congrArg some d17), (congrArg some d18), trivial⟩ ?_
        refine dg_on rfl rfl rfl rfl (ow_call rfl rfl Tryd.call118 (w_spec_PacketField (hG.mono ((hl1.trans hl2).trans hl19)) hC19.old d16 hx3) fun v21 w20 hv21 => ?_)
        obtain ⟨hv21, hb9⟩ := hv21
        have hl20 := Le.no M hb9
        have hC20 := hC19.no hb9
        obtain rfl := vint_eq hv21
        exact ⟨hb9, rfl⟩
      · intro w21 D hS12 hd12
        have hl21 := Le.no M hS12
        have hC21 := hC2.no hS12
        have hd12 : PEq (.bool true) (D 6) w21 ∧ True := hd12
        obtain ⟨d20, -⟩ := hd12
        refine dg_sub (E' := [(11, (.bool true)), (2, (.pointer (some p1)))]) ⟨(congrArg some d20), rfl, trivial⟩ ?_
        refine dg_on rfl rfl rfl rfl (ow_fieldAddr rfl rfl Tryd.underlying186 rfl (Tryd.sizeOf3 _) ?_)
        exact ⟨BX.refl _ _, ⟨_, rfl, (ARep.mono (hl2.trans hl21) (hp1.fld fld_Test_Lo))⟩⟩
      · intro w22 D hS13 hd13
        have hl22 := Le.no M hS13
        have hC22 := hC2.no hS13
        have hd13 : PA RInt M a_t.Lo (D 11) w22 ∧ PEq (.bool true) (D 6) w22 ∧ True := hd13
        obtain ⟨d21, d22, -⟩ := hd13
        obtain ⟨p4, e2, ha2⟩ := d21
        refine dg_sub (E' := [(16, (.pointer (some p4))), (11, (.bool true))]) ⟨(congrArg some e2), (congrArg some d22), trivial⟩ ?_
        refine dg_on rfl rfl rfl rfl (ow_load (R := RInt) rfl rfl ha2 (Tryd.sizeOf3 _) (Tryd.isAgg3 _) fun v22 hv22 => ?_)
        obtain rfl := vint_eq hv22
        exact ⟨BX.refl _ _, rfl⟩
      · intro w23 D hS14 hd14
        have hl23 := Le.no M hS14
        have hC23 := hC2.no hS14
        have hd14 : PEq (.bool true) (D 6) w23 ∧ True := hd14
        obtain ⟨d23, -⟩ := hd14
        refine dg_sub (E' := [(11, (.bool true)), (2, (.pointer (some p1)))]) ⟨(congrArg some d23), rfl, trivial⟩ ?_
        refine dg_on rfl rfl rfl rfl (ow_fieldAddr rfl rfl Tryd.underlying186 rfl (Tryd.sizeOf3 _) ?_)
        exact ⟨BX.refl _ _, ⟨_, rfl, (ARep.mono (hl2.trans hl23) (hp1.fld fld_Test_Hi))⟩⟩
      · intro w24 D hS15 hd15
        have hl24 := Le.no M hS15
        have hC24 := hC2.no hS15
        have hd15 : PA RInt M a_t.Hi (D 13) w24 ∧ PEq (.bool true) (D 6) w24 ∧ True := hd15
        obtain ⟨d24, d25, -⟩ := hd15
        obtain ⟨p5, e3, ha3⟩ := d24
        refine dg_sub (E' := [(18, (.pointer (some p5))), (11, (.bool true))]) ⟨(congrArg some e3), (congrArg some d25), trivial⟩ ?_
        refine dg_on rfl rfl rfl rfl (ow_load (R := RInt) rfl rfl ha3 (Tryd.sizeOf3 _) (Tryd.isAgg3 _) fun v23 hv23 => ?_)
        obtain rfl := vint_eq hv23
        exact ⟨BX.refl _ _, rfl⟩
      · intro w25 D hS16 hd16
        have hl25 := Le.no M hS16
        have hC25 := hC2.no hS16
        have hd16 : PEq (.int .i64 x3) (D 10) w25 ∧ PEq (.int .i64 a_t.Lo) (D 12) w25 ∧ PEq (.int .i64 a_t.Hi) (D 14) w25 ∧ PEq (.int .i64 x3) (D 10) w25 ∧ PEq (.bool true) (D 6) w25 ∧ True := hd16
        obtain ⟨d26, d27, d28, d29, d30, -⟩ := hd16
        refine dg_sub (E' := [(15, (.int .i64 x3)), (17, (.int .i64 a_t.Lo)), (19, (.int .i64 a_t.Hi)), (11, (.bool true))]) ⟨(congrArg some d26), (congrArg some d27), (congrArg some d28), (congrArg some d30), trivial⟩ ?_
        refine dg_on rfl rfl rfl rfl (ow_call rfl rfl Tryd.call83 (w_spec_l1In (hG.mono ((hl1.trans hl2).trans hl25)) hC25.old hx4) fun v24 w26 hv24 => ?_)
        obtain ⟨hv24, hb10⟩ := hv24
        have hl26 := Le.no M hb10
        have hC26 := hC25.no hb10
        obtain rfl := vbool_eq hv24
        exact ⟨hb10, rfl⟩
      · intro w27 D hS17 hd17
        have hl27 := Le.no M hS17
        have hC27 := hC2.no hS17
        have hd17 : PEq (.bool true) (D 6) w27 ∧ True := hd17
        obtain ⟨d31, -⟩ := hd17
        refine dg_sub (E' := [(11, (.bool true)), (2, (.pointer (some p1)))]) ⟨(congrArg some d31), rfl, trivial⟩ ?_
        refine dg_on rfl rfl rfl rfl (ow_fieldAddr rfl rfl Tryd.underlying186 rfl (Tryd.sizeOf4 _) ?_)
        exact ⟨BX.refl _ _, ⟨_, rfl, (ARep.mono (hl2.trans hl27) (hp1.fld fld_Test_Not))⟩⟩
      · intro w28 D hS18 hd18
        have hl28 := Le.no M hS18
        have hC28 := hC2.no hS18
        have hd18 : PA RBool M a_t.Not (D 16) w28 ∧ PEq (.bool true) (D 6) w28 ∧ True := hd18
        obtain ⟨d32, d33, -⟩ := hd18
        obtain ⟨p6, e4, ha4⟩ := d32
        refine dg_sub (E' := [(21, (.pointer (some p6))), (11, (.bool true))]) ⟨(congrArg some e4), (congrArg some d33), trivial⟩ ?_
        refine dg_on rfl rfl rfl rfl (ow_load (R := RBool) rfl rfl ha4 (Tryd.sizeOf4 _) (Tryd.isAgg4 _) fun v25 hv25 => ?_)
        obtain ⟨bb2, hbb2, rfl⟩ := vbool_ex hv25
        exact ⟨BX.refl _ _, (congrArg Value.bool hbb2)⟩
      · intro w29 D hS19 hd19
        have hl29 := Le.no M hS19
        have hC29 := hC2.no hS19
        have hd19 : PV RTest M a_t (D 0) w29 ∧ PEq (.bool true) (D 1) w29 ∧ PEq (.bool true) (D 2) w29 ∧ PV RPacket M a_p (D 3) w29 ∧ PEq (.bool true) (D 4) w29 ∧ PEq (.bool true) (D 5) w29 ∧ PEq (.bool true) (D 6) w29 ∧ PV RPacket M a_p (D 7) w29 ∧ PA RInt M a_t.Field (D 8) w29 ∧ PEq (.int .i64 a_t.Field) (D 9) w29 ∧ PEq (.int .i64 x3) (D 10) w29 ∧ PA RInt M a_t.Lo (D 11) w29 ∧ PEq (.int .i64 a_t.Lo) (D 12) w29 ∧ PA RInt M a_t.Hi (D 13) w29 ∧ PEq (.int .i64 a_t.Hi) (D 14) w29 ∧ PEq (.bool x4) (D 15) w29 ∧ PA RBool M a_t.Not (D 16) w29 ∧ PEq (.bool a_t.Not) (D 17) w29 ∧ True := hd19
        obtain ⟨-, -, -, -, -, -, d40, -, -, -, -, -, -, -, -, d49, -, d51, -⟩ := hd19
        obtain ⟨bb3, hq4, hq5⟩ : ∃ b, b = x4 ∧ (D 15) = .bool b := ⟨_, rfl, d49⟩
        obtain ⟨bb4, hq6, hq7⟩ : ∃ b, b = a_t.Not ∧ (D 17) = .bool b := ⟨_, rfl, d51⟩
        refine lw_sub (E' := [(11, (.bool true)), (20, (.bool bb3)), (22, (.bool bb4)), (2, (.pointer (some p1))), (3, (.pointer (some p2))), (4, (.bool false))]) ⟨(congrArg some d40), (congrArg some hq5), (congrArg some hq7), rfl, rfl, rfl, trivial⟩ ?_
        refine lw_on rfl rfl rfl rfl rfl rfl (ow_neqB rfl rfl rfl Tryd.underlying4 fun bb5 hbb5 => ?_)
        have hbb5' : bb5 = (x4 != a_t.Not) := hbb5.trans (by rw [hq4, hq6])
        refine lw_op rfl rfl rfl (ow_pickT rfl rfl rfl ?_)
        refine lw_op rfl rfl rfl (ow_assign rfl rfl ?_)
        refine lw_nil ?_
        refine ew_then ?_
        refine cw_ret ?_
        obtain rfl := Option.some.inj h
        exact ew_ret (res1 rfl (.tmp rfl)) ⟨_, rfl, ((vbool_of hbb5')), hC29.bx⟩
    · subst hc2
      refine cw_sub (E' := [(2, (.pointer (some p1))), (3, (.pointer (some p2))), (4, (.bool false))]) ⟨rfl, rfl, rfl, trivial⟩ ?_
      refine cw_drawQ 18 [PV RTest M a_t, PEq (.bool true), PEq (.bool true), PV RPacket M a_p, PEq (.bool false), PEq (.bool false), PEq (.bool false), PEq undef, PEq undef, PEq undef, PEq undef, PEq undef, PEq undef, PEq undef, PEq undef, PEq undef, PEq undef, PEq undef] (by kernel_rfl) rfl (by kernel_rfl) ⟨PV.mono _ _ _, PEq.mono _, PEq.mono _, PV.mono _ _ _, PEq.mono _, PEq.mono _, PEq.mono _, PEq.mono _, PEq.mono _, PEq.mono _, PEq.mono _, PEq.mono _, PEq.mono _, PEq.mono _, PEq.mono _, PEq.mono _, PEq.mono _, PEq.mono _, trivial⟩ ⟨?_, ?_, ?_, ?_, ?_, ?_, ?_, ?_, ?_, ?_, ?_, ?_, ?_, ?_, ?_, ?_, ?_, ?_, trivial⟩ ?_
      · intro w30 D hS20 hd20
        have hl30 := Le.no M hS20
        have hC30 := hC2.no hS20
        refine dg_sub (E' := [(2, (.pointer (some p1)))]) ⟨rfl, trivial⟩ ?_
        refine dg_plain rfl (ow_load (R := RTest) rfl rfl (ARep.mono (hl2.trans hl30) hp1) (Tryd.sizeOf186 _) (Tryd.isAgg186 _) fun v26 hv26 => ?_)
        exact ⟨BX.refl _ _, hv26⟩
      · intro w31 D hS21 hd21
        have hl31 := Le.no M hS21
        have hC31 := hC2.no hS21
        have hd21 : PV RTest M a_t (D 0) w31 ∧ True := hd21
        obtain ⟨d52, -⟩ := hd21
        obtain ⟨v27, hq8⟩ : ∃ v, (D 0) = v := ⟨_, rfl⟩
        rw [hq8] at d52
        refine dg_sub (E' := [(5, v27)]) ⟨(congrArg some hq8), trivial⟩ ?_
        refine dg_plain rfl (ow_call rfl rfl Tryd.call138 (w_spec_TestValid (hG.mono ((hl1.trans hl2).trans hl31)) hC31.old d52 hx1) fun v28 w32 hv28 => ?_)
        obtain ⟨hv28, hb11⟩ := hv28
        have hl32 := Le.no M hb11
        have hC32 := hC31.no hb11
        obtain rfl := vbool_eq hv28
        exact ⟨hb11, rfl⟩
      · intro w33 D hS22 hd22
        have hl33 := Le.no M hS22
        have hC33 := hC2.no hS22
        have hd22 : PEq (.bool true) (D 1) w33 ∧ PEq (.bool true) (D 1) w33 ∧ True := hd22
        obtain ⟨d53, d54, -⟩ := hd22
        refine dg_sub (E' := [(6, (.bool true))]) ⟨(congrArg some d53), trivial⟩ ?_
        refine dg_plain rfl (ow_move rfl rfl ?_)
        exact ⟨BX.refl _ _, rfl⟩
      · intro w34 D hS23 hd23
        have hl34 := Le.no M hS23
        have hC34 := hC2.no hS23
        have hd23 : PEq (.bool true) (D 2) w34 ∧ True := hd23
        obtain ⟨d55, -⟩ := hd23
        refine dg_sub (E' := [(7, (.bool true)), (3, (.pointer (some p2)))]) ⟨(congrArg some d55), rfl, trivial⟩ ?_
        refine dg_on rfl rfl rfl rfl (ow_load (R := RPacket) rfl rfl (ARep.mono hl34 hp2) (Tryd.sizeOf39 _) (Tryd.isAgg39 _) fun v29 hv29 => ?_)
        exact ⟨BX.refl _ _, hv29⟩
      · intro w35 D hS24 hd24
        have hl35 := Le.no M hS24
        have hC35 := hC2.no hS24
        have hd24 : PV RPacket M a_p (D 3) w35 ∧ PEq (.bool true) (D 2) w35 ∧ PEq (.bool true) (D 2) w35 ∧ True := hd24
        obtain ⟨d56, d57, d58, -⟩ := hd24
        obtain ⟨v30, hq9⟩ : ∃ v, (D 3) = v := ⟨_, rfl⟩
        rw [hq9] at d56
        refine dg_sub (E' := [(8, v30), (7, (.bool true))]) ⟨(congrArg some hq9), (congrArg some d57), trivial⟩ ?_
        refine dg_on rfl rfl rfl rfl (ow_call rfl rfl Tryd.call76 (w_spec_PacketValid (hG.mono ((hl1.trans hl2).trans hl35)) hC35.old d56 hx2) fun v31 w36 hv31 => ?_)
        obtain ⟨hv31, hb12⟩ := hv31
        have hl36 := Le.no M hb12
        have hC36 := hC35.no hb12
        obtain rfl := vbool_eq hv31
        exact ⟨hb12, rfl⟩
      · intro w37 D hS25 hd25
        have hl37 := Le.no M hS25
        have hC37 := hC2.no hS25
        have hd25 : PEq (.bool true) (D 2) w37 ∧ PEq (.bool false) (D 4) w37 ∧ True := hd25
        obtain ⟨d59, d60, -⟩ := hd25
        refine dg_sub (E' := [(7, (.bool true)), (9, (.bool false))]) ⟨(congrArg some d59), (congrArg some d60), trivial⟩ ?_
        refine dg_plain rfl (ow_pickT rfl rfl rfl ?_)
        exact ⟨BX.refl _ _, rfl⟩
      · intro w38 D hS26 hd26
        have hl38 := Le.no M hS26
        have hC38 := hC2.no hS26
        have hd26 : PEq (.bool false) (D 5) w38 ∧ PEq (.bool false) (D 4) w38 ∧ True := hd26
        obtain ⟨d61, d62, -⟩ := hd26
        refine dg_sub (E' := [(10, (.bool false))]) ⟨(congrArg some d61), trivial⟩ ?_
        refine dg_plain rfl (ow_move rfl rfl ?_)
        exact ⟨BX.refl _ _, rfl⟩
      · intro w39 D hS27 hd27
        have hl39 := Le.no M hS27
        have hC39 := hC2.no hS27
        have hd27 : PEq (.bool false) (D 6) w39 ∧ True := hd27
        obtain ⟨d63, -⟩ := hd27
        refine dg_sub (E' := [(11, (.bool false)), (3, (.pointer (some p2)))]) ⟨(congrArg some d63), rfl, trivial⟩ ?_
        exact dg_off rfl rfl rfl rfl ⟨BX.refl _ _, rfl⟩
      · intro w40 D hS28 hd28
        have hl40 := Le.no M hS28
        have hC40 := hC2.no hS28
        have hd28 : PEq (.bool false) (D 6) w40 ∧ True := hd28
        obtain ⟨d64, -⟩ := hd28
        refine dg_sub (E' := [(11, (.bool false)), (2, (.pointer (some p1)))]) ⟨(congrArg some d64), rfl, trivial⟩ ?_
        exact dg_off rfl rfl rfl rfl ⟨BX.refl _ _, rfl⟩
      · intro w41 D hS29 hd29
        have hl41 := Le.no M hS29
        have hC41 := hC2.no hS29
        have hd29 : PEq undef (D 8) w41 ∧ PEq (.bool false) (D 6) w41 ∧ True := hd29
        obtain ⟨d65, d66, -⟩ := hd29
        refine dg_sub (E' := [(13, undef), (11, (.bool false))]) ⟨(congrArg some d65), (congrArg some d66), trivial⟩ ?_
        exact dg_off rfl rfl rfl rfl ⟨BX.refl _ _, rfl⟩
      · intro w42 D hS30 hd30
        have hl42 := Le.no M hS30
        have hC42 := hC2.no hS30
        have hd30 : PEq undef (D 7) w42 ∧ PEq undef (D 9) w42 ∧ PEq (.bool false) (D 6) w42 ∧ PEq (.bool false) (D 6) w42 ∧ True := hd30
        obtain ⟨d67, d68, d69, d70, -⟩ := hd30
        refine dg_sub (E' := [(12, undef), (14, undef), (11, (.bool false))]) ⟨(congrArg some d67), (congrArg some d68), (congrArg some d69), trivial⟩ ?_
        exact dg_off rfl rfl rfl rfl ⟨BX.refl _ _, rfl⟩
      · intro w43 D hS31 hd31
        have hl43 := Le.no M hS31
        have hC43 := hC2.no hS31
        have hd31 : PEq (.bool false) (D 6) w43 ∧ True := hd31
        obtain ⟨d71, -⟩ := hd31
        refine dg_sub (E' := [(11, (.bool false)), (2, (.pointer (some p1)))]) ⟨(congrArg some d71), rfl, trivial⟩ ?_
        exact dg_off rfl rfl rfl rfl ⟨BX.refl _ _, rfl⟩
      · intro w44 D hS32 hd32
        have hl44 := Le.no M hS32
        have hC44 := hC2.no hS32
        have hd32 : PEq undef (D 11) w44 ∧ PEq (.bool false) (D 6) w44 ∧ True := hd32
        obtain ⟨d72, d73, -⟩ := hd32
        refine dg_sub (E' := [(16, undef), (11, (.bool false))]) ⟨(congrArg some d72), (congrArg some d73), trivial⟩ ?_
        exact dg_off rfl rfl rfl rfl ⟨BX.refl _ _, rfl⟩
      · intro w45 D hS33 hd33
        have hl45 := Le.no M hS33
        have hC45 := hC2.no hS33
        have hd33 : PEq (.bool false) (D 6) w45 ∧ True := hd33
        obtain ⟨d74, -⟩ := hd33
        refine dg_sub (E' := [(11, (.bool false)), (2, (.pointer (some p1)))]) ⟨(congrArg some d74), rfl, trivial⟩ ?_
        exact dg_off rfl rfl rfl rfl ⟨BX.refl _ _, rfl⟩
      · intro w46 D hS34 hd34
        have hl46 := Le.no M hS34
        have hC46 := hC2.no hS34
        have hd34 : PEq undef (D 13) w46 ∧ PEq (.bool false) (D 6) w46 ∧ True := hd34
        obtain ⟨d75, d76, -⟩ := hd34
        refine dg_sub (E' := [(18, undef), (11, (.bool false))]) ⟨(congrArg some d75), (congrArg some d76), trivial⟩ ?_
        exact dg_off rfl rfl rfl rfl ⟨BX.refl _ _, rfl⟩
      · intro w47 D hS35 hd35
        have hl47 := Le.no M hS35
        have hC47 := hC2.no hS35
        have hd35 : PEq undef (D 10) w47 ∧ PEq undef (D 12) w47 ∧ PEq undef (D 14) w47 ∧ PEq undef (D 10) w47 ∧ PEq (.bool false) (D 6) w47 ∧ True := hd35
        obtain ⟨d77, d78, d79, d80, d81, -⟩ := hd35
        refine dg_sub (E' := [(15, undef), (17, undef), (19, undef), (11, (.bool false))]) ⟨(congrArg some d77), (congrArg some d78), (congrArg some d79), (congrArg some d81), trivial⟩ ?_
        exact dg_off rfl rfl rfl rfl ⟨BX.refl _ _, rfl⟩
      · intro w48 D hS36 hd36
        have hl48 := Le.no M hS36
        have hC48 := hC2.no hS36
        have hd36 : PEq (.bool false) (D 6) w48 ∧ True := hd36
        obtain ⟨d82, -⟩ := hd36
        refine dg_sub (E' := [(11, (.bool false)), (2, (.pointer (some p1)))]) ⟨(congrArg some d82), rfl, trivial⟩ ?_
        exact dg_off rfl rfl rfl rfl ⟨BX.refl _ _, rfl⟩
      · intro w49 D hS37 hd37
        have hl49 := Le.no M hS37
        have hC49 := hC2.no hS37
        have hd37 : PEq undef (D 16) w49 ∧ PEq (.bool false) (D 6) w49 ∧ True := hd37
        obtain ⟨d83, d84, -⟩ := hd37
        refine dg_sub (E' := [(21, undef), (11, (.bool false))]) ⟨(congrArg some d83), (congrArg some d84), trivial⟩ ?_
        exact dg_off rfl rfl rfl rfl ⟨BX.refl _ _, rfl⟩
      · intro w50 D hS38 hd38
        have hl50 := Le.no M hS38
        have hC50 := hC2.no hS38
        have hd38 : PV RTest M a_t (D 0) w50 ∧ PEq (.bool true) (D 1) w50 ∧ PEq (.bool true) (D 2) w50 ∧ PV RPacket M a_p (D 3) w50 ∧ PEq (.bool false) (D 4) w50 ∧ PEq (.bool false) (D 5) w50 ∧ PEq (.bool false) (D 6) w50 ∧ PEq undef (D 7) w50 ∧ PEq undef (D 8) w50 ∧ PEq undef (D 9) w50 ∧ PEq undef (D 10) w50 ∧ PEq undef (D 11) w50 ∧ PEq undef (D 12) w50 ∧ PEq undef (D 13) w50 ∧ PEq undef (D 14) w50 ∧ PEq undef (D 15) w50 ∧ PEq undef (D 16) w50 ∧ PEq undef (D 17) w50 ∧ True := hd38
        obtain ⟨-, -, -, -, -, -, d91, -, -, -, -, -, -, -, -, d100, -, d102, -⟩ := hd38
        refine lw_sub (E' := [(11, (.bool false)), (20, undef), (22, undef), (2, (.pointer (some p1))), (3, (.pointer (some p2))), (4, (.bool false))]) ⟨(congrArg some d91), (congrArg some d100), (congrArg some d102), rfl, rfl, rfl, trivial⟩ ?_
        refine lw_off rfl rfl rfl rfl rfl rfl ?_
        refine lw_op rfl rfl rfl (ow_pickF rfl rfl rfl ?_)
        refine lw_op rfl rfl rfl (ow_assign rfl rfl ?_)
        refine lw_nil ?_
        refine ew_then ?_
        refine cw_ret ?_
        obtain rfl := Option.some.inj h
        exact ew_ret (res1 rfl (.tmp rfl)) ⟨_, rfl, ((vbool _)), hC50.bx⟩
  · subst hc1
    refine cw_sub (E' := [(2, (.pointer (some p1))), (3, (.pointer (some p2))), (4, (.bool false))]) ⟨rfl, rfl, rfl, trivial⟩ ?_
    refine cw_drawQ 18 [PV RTest M a_t, PEq (.bool false), PEq (.bool false), PEq undef, PEq undef, PEq (.bool false), PEq (.bool false), PEq undef, PEq undef, PEq undef, PEq undef, PEq undef, PEq undef, PEq undef, PEq undef, PEq undef, PEq undef, PEq undef] (by kernel_rfl) rfl (by kernel_rfl) ⟨PV.mono _ _ _, PEq.mono _, PEq.mono _, PEq.mono _, PEq.mono _, PEq.mono _, PEq.mono _, PEq.mono _, PEq.mono _, PEq.mono _, PEq.mono _, PEq.mono _, PEq.mono _, PEq.mono _, PEq.mono _, PEq.mono _, PEq.mono _, PEq.mono _, trivial⟩ ⟨?_, ?_, ?_, ?_, ?_, ?_, ?_, ?_, ?_, ?_, ?_, ?_, ?_, ?_, ?_, ?_, ?_, ?_, trivial⟩ ?_
    · intro w51 D hS39 hd39
      have hl51 := Le.no M hS39
      have hC51 := hC2.no hS39
      refine dg_sub (E' := [(2, (.pointer (some p1)))]) ⟨rfl, trivial⟩ ?_
      refine dg_plain rfl (ow_load (R := RTest) rfl rfl (ARep.mono (hl2.trans hl51) hp1) (Tryd.sizeOf186 _) (Tryd.isAgg186 _) fun v32 hv32 => ?_)
      exact ⟨BX.refl _ _, hv32⟩
    · intro w52 D hS40 hd40
      have hl52 := Le.no M hS40
      have hC52 := hC2.no hS40
      have hd40 : PV RTest M a_t (D 0) w52 ∧ True := hd40
      obtain ⟨d103, -⟩ := hd40
      obtain ⟨v33, hq10⟩ : ∃ v, (D 0) = v := ⟨_, rfl⟩
      rw [hq10] at d103
      refine dg_sub (E' := [(5, v33)]) ⟨(congrArg some hq10), trivial⟩ ?_
      refine dg_plain rfl (ow_call rfl rfl Tryd.call138 (w_spec_TestValid (hG.mono ((hl1.trans hl2).trans hl52)) hC52.old d103 hx1) fun v34 w53 hv34 => ?_)
      obtain ⟨hv34, hb13⟩ := hv34
      have hl53 := Le.no M hb13
      have hC53 := hC52.no hb13
      obtain rfl := vbool_eq hv34
      exact ⟨hb13, rfl⟩
    · intro w54 D hS41 hd41
      have hl54 := Le.no M hS41
      have hC54 := hC2.no hS41
      have hd41 : PEq (.bool false) (D 1) w54 ∧ PEq (.bool false) (D 1) w54 ∧ True := hd41
      obtain ⟨d104, d105, -⟩ := hd41
      refine dg_sub (E' := [(6, (.bool false))]) ⟨(congrArg some d104), trivial⟩ ?_
      refine dg_plain rfl (ow_move rfl rfl ?_)
      exact ⟨BX.refl _ _, rfl⟩
    · intro w55 D hS42 hd42
      have hl55 := Le.no M hS42
      have hC55 := hC2.no hS42
      have hd42 : PEq (.bool false) (D 2) w55 ∧ True := hd42
      obtain ⟨d106, -⟩ := hd42
      refine dg_sub (E' := [(7, (.bool false)), (3, (.pointer (some p2)))]) ⟨(congrArg some d106), rfl, trivial⟩ ?_
      exact dg_off rfl rfl rfl rfl ⟨BX.refl _ _, rfl⟩
    · intro w56 D hS43 hd43
      have hl56 := Le.no M hS43
      have hC56 := hC2.no hS43
      have hd43 : PEq undef (D 3) w56 ∧ PEq (.bool false) (D 2) w56 ∧ PEq (.bool false) (D 2) w56 ∧ True := hd43
      obtain ⟨d107, d108, d109, -⟩ := hd43
      refine dg_sub (E' := [(8, undef), (7, (.bool false))]) ⟨(congrArg some d107), (congrArg some d108), trivial⟩ ?_
      exact dg_off rfl rfl rfl rfl ⟨BX.refl _ _, rfl⟩
    · intro w57 D hS44 hd44
      have hl57 := Le.no M hS44
      have hC57 := hC2.no hS44
      have hd44 : PEq (.bool false) (D 2) w57 ∧ PEq undef (D 4) w57 ∧ True := hd44
      obtain ⟨d110, d111, -⟩ := hd44
      refine dg_sub (E' := [(7, (.bool false)), (9, undef)]) ⟨(congrArg some d110), (congrArg some d111), trivial⟩ ?_
      refine dg_plain rfl (ow_pickF rfl rfl rfl ?_)
      exact ⟨BX.refl _ _, rfl⟩
    · intro w58 D hS45 hd45
      have hl58 := Le.no M hS45
      have hC58 := hC2.no hS45
      have hd45 : PEq (.bool false) (D 5) w58 ∧ PEq undef (D 4) w58 ∧ True := hd45
      obtain ⟨d112, d113, -⟩ := hd45
      refine dg_sub (E' := [(10, (.bool false))]) ⟨(congrArg some d112), trivial⟩ ?_
      refine dg_plain rfl (ow_move rfl rfl ?_)
      exact ⟨BX.refl _ _, rfl⟩
    · intro w59 D hS46 hd46
      have hl59 := Le.no M hS46
      have hC59 := hC2.no hS46
      have hd46 : PEq (.bool false) (D 6) w59 ∧ True := hd46
      obtain ⟨d114, -⟩ := hd46
      refine dg_sub (E' := [(11, (.bool false)), (3, (.pointer (some p2)))]) ⟨(congrArg some d114), rfl, trivial⟩ ?_
      exact dg_off rfl rfl rfl rfl ⟨BX.refl _ _, rfl⟩
    · intro w60 D hS47 hd47
      have hl60 := Le.no M hS47
      have hC60 := hC2.no hS47
      have hd47 : PEq (.bool false) (D 6) w60 ∧ True := hd47
      obtain ⟨d115, -⟩ := hd47
      refine dg_sub (E' := [(11, (.bool false)), (2, (.pointer (some p1)))]) ⟨(congrArg some d115), rfl, trivial⟩ ?_
      exact dg_off rfl rfl rfl rfl ⟨BX.refl _ _, rfl⟩
    · intro w61 D hS48 hd48
      have hl61 := Le.no M hS48
      have hC61 := hC2.no hS48
      have hd48 : PEq undef (D 8) w61 ∧ PEq (.bool false) (D 6) w61 ∧ True := hd48
      obtain ⟨d116, d117, -⟩ := hd48
      refine dg_sub (E' := [(13, undef), (11, (.bool false))]) ⟨(congrArg some d116), (congrArg some d117), trivial⟩ ?_
      exact dg_off rfl rfl rfl rfl ⟨BX.refl _ _, rfl⟩
    · intro w62 D hS49 hd49
      have hl62 := Le.no M hS49
      have hC62 := hC2.no hS49
      have hd49 : PEq undef (D 7) w62 ∧ PEq undef (D 9) w62 ∧ PEq (.bool false) (D 6) w62 ∧ PEq (.bool false) (D 6) w62 ∧ True := hd49
      obtain ⟨d118, d119, d120, d121, -⟩ := hd49
      refine dg_sub (E' := [(12, undef), (14, undef), (11, (.bool false))]) ⟨(congrArg some d118), (congrArg some d119), (congrArg some d120), trivial⟩ ?_
      exact dg_off rfl rfl rfl rfl ⟨BX.refl _ _, rfl⟩
    · intro w63 D hS50 hd50
      have hl63 := Le.no M hS50
      have hC63 := hC2.no hS50
      have hd50 : PEq (.bool false) (D 6) w63 ∧ True := hd50
      obtain ⟨d122, -⟩ := hd50
      refine dg_sub (E' := [(11, (.bool false)), (2, (.pointer (some p1)))]) ⟨(congrArg some d122), rfl, trivial⟩ ?_
      exact dg_off rfl rfl rfl rfl ⟨BX.refl _ _, rfl⟩
    · intro w64 D hS51 hd51
      have hl64 := Le.no M hS51
      have hC64 := hC2.no hS51
      have hd51 : PEq undef (D 11) w64 ∧ PEq (.bool false) (D 6) w64 ∧ True := hd51
      obtain ⟨d123, d124, -⟩ := hd51
      refine dg_sub (E' := [(16, undef), (11, (.bool false))]) ⟨(congrArg some d123), (congrArg some d124), trivial⟩ ?_
      exact dg_off rfl rfl rfl rfl ⟨BX.refl _ _, rfl⟩
    · intro w65 D hS52 hd52
      have hl65 := Le.no M hS52
      have hC65 := hC2.no hS52
      have hd52 : PEq (.bool false) (D 6) w65 ∧ True := hd52
      obtain ⟨d125, -⟩ := hd52
      refine dg_sub (E' := [(11, (.bool false)), (2, (.pointer (some p1)))]) ⟨(congrArg some d125), rfl, trivial⟩ ?_
      exact dg_off rfl rfl rfl rfl ⟨BX.refl _ _, rfl⟩
    · intro w66 D hS53 hd53
      have hl66 := Le.no M hS53
      have hC66 := hC2.no hS53
      have hd53 : PEq undef (D 13) w66 ∧ PEq (.bool false) (D 6) w66 ∧ True := hd53
      obtain ⟨d126, d127, -⟩ := hd53
      refine dg_sub (E' := [(18, undef), (11, (.bool false))]) ⟨(congrArg some d126), (congrArg some d127), trivial⟩ ?_
      exact dg_off rfl rfl rfl rfl ⟨BX.refl _ _, rfl⟩
    · intro w67 D hS54 hd54
      have hl67 := Le.no M hS54
      have hC67 := hC2.no hS54
      have hd54 : PEq undef (D 10) w67 ∧ PEq undef (D 12) w67 ∧ PEq undef (D 14) w67 ∧ PEq undef (D 10) w67 ∧ PEq (.bool false) (D 6) w67 ∧ True := hd54
      obtain ⟨d128, d129, d130, d131, d132, -⟩ := hd54
      refine dg_sub (E' := [(15, undef), (17, undef), (19, undef), (11, (.bool false))]) ⟨(congrArg some d128), (congrArg some d129), (congrArg some d130), (congrArg some d132), trivial⟩ ?_
      exact dg_off rfl rfl rfl rfl ⟨BX.refl _ _, rfl⟩
    · intro w68 D hS55 hd55
      have hl68 := Le.no M hS55
      have hC68 := hC2.no hS55
      have hd55 : PEq (.bool false) (D 6) w68 ∧ True := hd55
      obtain ⟨d133, -⟩ := hd55
      refine dg_sub (E' := [(11, (.bool false)), (2, (.pointer (some p1)))]) ⟨(congrArg some d133), rfl, trivial⟩ ?_
      exact dg_off rfl rfl rfl rfl ⟨BX.refl _ _, rfl⟩
    · intro w69 D hS56 hd56
      have hl69 := Le.no M hS56
      have hC69 := hC2.no hS56
      have hd56 : PEq undef (D 16) w69 ∧ PEq (.bool false) (D 6) w69 ∧ True := hd56
      obtain ⟨d134, d135, -⟩ := hd56
      refine dg_sub (E' := [(21, undef), (11, (.bool false))]) ⟨(congrArg some d134), (congrArg some d135), trivial⟩ ?_
      exact dg_off rfl rfl rfl rfl ⟨BX.refl _ _, rfl⟩
    · intro w70 D hS57 hd57
      have hl70 := Le.no M hS57
      have hC70 := hC2.no hS57
      have hd57 : PV RTest M a_t (D 0) w70 ∧ PEq (.bool false) (D 1) w70 ∧ PEq (.bool false) (D 2) w70 ∧ PEq undef (D 3) w70 ∧ PEq undef (D 4) w70 ∧ PEq (.bool false) (D 5) w70 ∧ PEq (.bool false) (D 6) w70 ∧ PEq undef (D 7) w70 ∧ PEq undef (D 8) w70 ∧ PEq undef (D 9) w70 ∧ PEq undef (D 10) w70 ∧ PEq undef (D 11) w70 ∧ PEq undef (D 12) w70 ∧ PEq undef (D 13) w70 ∧ PEq undef (D 14) w70 ∧ PEq undef (D 15) w70 ∧ PEq undef (D 16) w70 ∧ PEq undef (D 17) w70 ∧ True := hd57
      obtain ⟨-, -, -, -, -, -, d142, -, -, -, -, -, -, -, -, d151, -, d153, -⟩ := hd57
      refine lw_sub (E' := [(11, (.bool false)), (20, undef), (22, undef), (2, (.pointer (some p1))), (3, (.pointer (some p2))), (4, (.bool false))]) ⟨(congrArg some d142), (congrArg some d151), (congrArg some d153), rfl, rfl, rfl, trivial⟩ ?_
      refine lw_off rfl rfl rfl rfl rfl rfl ?_
      refine lw_op rfl rfl rfl (ow_pickF rfl rfl rfl ?_)
      refine lw_op rfl rfl rfl (ow_assign rfl rfl ?_)
      refine lw_nil ?_
      refine ew_then ?_
      refine cw_ret ?_
      obtain rfl := Option.some.inj h
      exact ew_ret (res1 rfl (.tmp rfl)) ⟨_, rfl, ((vbool _)), hC70.bx⟩

theorem w_spec_TestsHold {w : World} {M : Nat → Prop} (hG : ARep (RArr 4 RShape) w M shapes ⟨0, 0, none⟩) (hO : ∀ b, M b → b < w.heap.size) {v0p : Value} {a_list : List Test} (h0 : VRep (RSlice RTest) w M a_list v0p) {v1p : Value} {a_p : Packet} (h1 : VRep RPacket w M a_p v1p) {r : Bool} (h : F.spec_TestsHold a_list a_p = some r) :
    Calls Tryd.prog 101 [v0p, v1p].toArray w fun e w' => ∃ v, e = .returned v ∧ VRep RBool w' M r v ∧ BX No w w' := by
  have hC : Cx No w M w M := Cx.start hO (fun _ e => e.elim)
  refine walk (N := 25) Tryd.func101 rfl Tryd.ntmps101 rfl ?_
  refine cw_seq ?_
  refine cw_region ?_
  refine lw_op rfl rfl rfl (ow_box (R := RPacket) rfl rfl h1 hC fun p1 w1 hp1 hb1 hl1 hC1 => ?_)
  refine lw_op rfl rfl rfl (ow_assign rfl rfl ?_)
  refine lw_nil ?_
  refine ew_then ?_
  refine cw_seq ?_
  refine cw_seq ?_
  refine cw_region ?_
  refine lw_op rfl rfl rfl (ow_assign rfl rfl ?_)
  refine lw_nil ?_
  refine ew_then ?_
  replace h := bind_some h
  obtain ⟨lr1, hlr1, h⟩ := h
  refine cw_for hlr1 (fun s a w' => ∃ (M' : Nat → Prop), Fits 25 [(0, v0p), (3, (.pointer (some p1))), (5, (.int .i64 s))] a ∧ Le w1 M w' M' ∧ Cx No w M w' M') ?_ ?_ ?_
  · intro a ha
    exact ⟨M, ha.sub ⟨rfl, rfl, rfl, trivial⟩, Le.refl _ _, hC1⟩
  · rintro k1 a w2 sr1 ⟨M1, hF1, hl2, hC2⟩ hb2 hR1
    refine cw_at (E := [(0, v0p), (3, (.pointer (some p1))), (5, (.int .i64 k1))]) hF1 ?_
    refine cw_seq ?_
    refine cw_seq ?_
    refine cw_region ?_
    refine lw_op rfl rfl rfl (ow_move rfl rfl ?_)
    refine lw_op rfl rfl rfl (ow_move rfl rfl ?_)
    refine lw_op rfl rfl rfl (ow_len rfl rfl (VRep.mono (hl1.trans hl2) h0) Tryd.underlying74 rfl ?_)
    refine lw_op rfl rfl rfl (ow_lss rfl rfl rfl fun bb1 hbb1 => ?_)
    refine lw_nil ?_
    refine ew_then ?_
    replace hb2 := cond_some hb2
    rcases hb2 with ⟨hc1, hb2⟩ | ⟨hc1, hb2⟩
    · obtain rfl := hbb1.trans hc1
      refine cw_true rfl ?_
      refine cw_skip ?_
      refine ew_then ?_
      refine cw_seq ?_
      refine cw_block ?_
      refine cw_seq ?_
      replace hb2 := bind_some hb2
      obtain ⟨x1, hx1, hb2⟩ := hb2
      refine cw_sub (E' := [(0, v0p), (3, (.pointer (some p1))), (5, (.int .i64 k1))]) ⟨rfl, rfl, rfl, trivial⟩ ?_
      refine cw_drawQ 5 [PV (RSlice RTest) M1 a_list, PEq (.int .i64 k1), PA RTest M1 x1, PV RTest M1 x1, PV RPacket M1 a_p] (by kernel_rfl) rfl (by kernel_rfl) ⟨PV.mono _ _ _, PEq.mono _, PA.mono _ _ _, PV.mono _ _ _, PV.mono _ _ _, trivial⟩ ⟨?_, ?_, ?_, ?_, ?_, trivial⟩ ?_
      · intro w3 D hS1 hd1
        have hl3 := Le.no M1 hS1
        have hC3 := hC2.no hS1
        refine dg_sub (E' := [(0, v0p)]) ⟨rfl, trivial⟩ ?_
        refine dg_plain rfl (ow_move rfl rfl ?_)
        exact ⟨BX.refl _ _, (VRep.mono ((hl1.trans hl2).trans hl3) h0)⟩
      · intro w4 D hS2 hd2
        have hl4 := Le.no M1 hS2
        have hC4 := hC2.no hS2
        refine dg_sub (E' := [(5, (.int .i64 k1))]) ⟨rfl, trivial⟩ ?_
        refine dg_plain rfl (ow_move rfl rfl ?_)
        exact ⟨BX.refl _ _, rfl⟩
      · intro w5 D hS3 hd3
        have hl5 := Le.no M1 hS3
        have hC5 := hC2.no hS3
        have hd3 : PV (RSlice RTest) M1 a_list (D 0) w5 ∧ PEq (.int .i64 k1) (D 1) w5 ∧ True := hd3
        obtain ⟨d1, d2, -⟩ := hd3
        obtain ⟨v4, hq1⟩ : ∃ v, (D 0) = v := ⟨_, rfl⟩
        rw [hq1] at d1
        refine dg_sub (E' := [(12, v4), (13, (.int .i64 k1))]) ⟨(congrArg some hq1), (congrArg some d2), trivial⟩ ?_
        refine dg_plain rfl (ow_indexSlice (R := RTest) rfl rfl rfl d1 Tryd.underlying74 (Tryd.sizeOf186 _) hx1 fun p3 hp3 => ?_)
        exact ⟨BX.refl _ _, ⟨_, rfl, hp3⟩⟩
      · intro w6 D hS4 hd4
        have hl6 := Le.no M1 hS4
        have hC6 := hC2.no hS4
        have hd4 : PA RTest M1 x1 (D 2) w6 ∧ True := hd4
        obtain ⟨d3, -⟩ := hd4
        obtain ⟨p4, e1, ha1⟩ := d3
        refine dg_sub (E' := [(14, (.pointer (some p4)))]) ⟨(congrArg some e1), trivial⟩ ?_
        refine dg_plain rfl (ow_load (R := RTest) rfl rfl ha1 (Tryd.sizeOf186 _) (Tryd.isAgg186 _) fun v5 hv5 => ?_)
        exact ⟨BX.refl _ _, hv5⟩
      · intro w7 D hS5 hd5
        have hl7 := Le.no M1 hS5
        have hC7 := hC2.no hS5
        refine dg_sub (E' := [(3, (.pointer (some p1)))]) ⟨rfl, trivial⟩ ?_
        refine dg_plain rfl (ow_load (R := RPacket) rfl rfl (ARep.mono (hl2.trans hl7) hp1) (Tryd.sizeOf39 _) (Tryd.isAgg39 _) fun v6 hv6 => ?_)
        exact ⟨BX.refl _ _, hv6⟩
      · intro w8 D hS6 hd6
        have hl8 := Le.no M1 hS6
        have hC8 := hC2.no hS6
        have hd6 : PV (RSlice RTest) M1 a_list (D 0) w8 ∧ PEq (.int .i64 k1) (D 1) w8 ∧ PA RTest M1 x1 (D 2) w8 ∧ PV RTest M1 x1 (D 3) w8 ∧ PV RPacket M1 a_p (D 4) w8 ∧ True := hd6
        obtain ⟨-, -, -, d7, d8, -⟩ := hd6
        obtain ⟨v7, hq2⟩ : ∃ v, (D 3) = v := ⟨_, rfl⟩
        rw [hq2] at d7
        obtain ⟨v8, hq3⟩ : ∃ v, (D 4) = v := ⟨_, rfl⟩
        rw [hq3] at d8
        refine lw_sub (E' := [(15, v7), (16, v8), (0, v0p), (3, (.pointer (some p1))), (5, (.int .i64 k1))]) ⟨(congrArg some hq2), (congrArg some hq3), rfl, rfl, rfl, trivial⟩ ?_
        replace hb2 := bind_some hb2
        obtain ⟨x2, hx2, hb2⟩ := hb2
        refine lw_op rfl rfl rfl (ow_call rfl rfl Tryd.call140 (w_spec_TestHolds (hG.mono ((hl1.trans hl2).trans hl8)) hC8.old d7 d8 hx2) fun v9 w9 hv9 => ?_)
        obtain ⟨hv9, hb3⟩ := hv9
        have hl9 := Le.no M1 hb3
        have hC9 := hC8.no hb3
        obtain rfl := vbool_eq hv9
        refine lw_op rfl rfl rfl (ow_not rfl rfl ?_)
        refine lw_nil ?_
        refine ew_then ?_
        replace hb2 := cond_some hb2
        rcases hb2 with ⟨hc2, hb2⟩ | ⟨hc2, hb2⟩
        · subst hc2
          refine cw_false rfl ?_
          refine cw_skip ?_
          refine ew_blockN ?_
          refine ew_then ?_
          refine cw_region ?_
          refine lw_op rfl rfl rfl (ow_move rfl rfl ?_)
          refine lw_op rfl rfl rfl (ow_add rfl rfl rfl ?_)
          refine lw_op rfl rfl rfl (ow_assign rfl rfl ?_)
          refine lw_nil ?_
          refine ew_nxt (W (k1 + 1)) hb2 fun a ha => ⟨M1, ?_, ((hl2.trans hl8).trans hl9), hC9⟩
          exact ha.sub ⟨rfl, rfl, rfl, trivial⟩
        · subst hc2
          refine cw_true rfl ?_
          refine cw_seq ?_
          refine cw_region ?_
          refine lw_op rfl rfl rfl (ow_assign rfl rfl ?_)
          refine lw_nil ?_
          refine ew_then ?_
          refine cw_ret ?_
          refine ew_blockR ?_
          refine ew_thenR ?_
          refine ew_thenR ?_
          refine ew_blockR ?_
          refine ew_brkR ?_
          refine ew_thenR ?_
          have e2 := hR1 _ (Option.some.inj hb2).symm
          subst e2
          obtain rfl := Option.some.inj h
          exact ew_ret (res1 rfl (.tmp rfl)) ⟨_, rfl, ((vbool _)), hC9.bx⟩
    · obtain rfl := hbb1.trans hc1
      refine cw_false rfl ?_
      refine cw_exit ?_
      refine ew_thenX ?_
      refine ew_thenX ?_
      refine ew_blockX ?_
      refine ew_brk k1 hb2 fun a ha => ⟨M1, ?_, hl2, hC2⟩
      exact ha.sub ⟨rfl, rfl, rfl, trivial⟩
  · rintro k2 a w10 hlr2 ⟨M2, hF2, hl10, hC10⟩
    subst hlr2
    refine ew_at (E := [(0, v0p), (3, (.pointer (some p1))), (5, (.int .i64 k2))]) hF2 ?_
    refine ew_then ?_
    refine cw_seq ?_
    refine cw_region ?_
    refine lw_op rfl rfl rfl (ow_move rfl rfl ?_)
    replace h := bind_some h
    obtain ⟨x3, hx3, h⟩ := h
    refine lw_op rfl rfl rfl (ow_call rfl rfl Tryd.call102 (w_spec_TestsValid (hG.mono (hl1.trans hl10)) hC10.old (VRep.mono (hl1.trans hl10) h0) hx3) fun v11 w11 hv11 => ?_)
    obtain ⟨hv11, hb4⟩ := hv11
    have hl11 := Le.no M2 hb4
    have hC11 := hC10.no hb4
    obtain rfl := vbool_eq hv11
    refine lw_op rfl rfl rfl (ow_move rfl rfl ?_)
    replace h := cond_some h
    rcases h with ⟨hc3, h⟩ | ⟨hc3, h⟩
    · subst hc3
      refine lw_on rfl rfl rfl rfl rfl rfl (ow_load (R := RPacket) rfl rfl (ARep.mono (hl10.trans hl11) hp1) (Tryd.sizeOf39 _) (Tryd.isAgg39 _) fun v12 hv12 => ?_)
      replace h := bind_some h
      obtain ⟨x4, hx4, h⟩ := h
      refine lw_on rfl rfl rfl rfl rfl rfl (ow_call rfl rfl Tryd.call76 (w_spec_PacketValid (hG.mono ((hl1.trans hl10).trans hl11)) hC11.old hv12 hx4) fun v13 w12 hv13 => ?_)
      obtain ⟨hv13, hb5⟩ := hv13
      have hl12 := Le.no M2 hb5
      have hC12 := hC11.no hb5
      obtain rfl := vbool_eq hv13
      refine lw_op rfl rfl rfl (ow_pickT rfl rfl rfl ?_)
      refine lw_op rfl rfl rfl (ow_assign rfl rfl ?_)
      refine lw_nil ?_
      refine ew_then ?_
      refine cw_ret ?_
      obtain rfl := Option.some.inj h
      exact ew_ret (res1 rfl (.tmp rfl)) ⟨_, rfl, ((vbool _)), hC12.bx⟩
    · subst hc3
      refine lw_off rfl rfl rfl rfl rfl rfl ?_
      refine lw_off rfl rfl rfl rfl rfl rfl ?_
      refine lw_op rfl rfl rfl (ow_pickF rfl rfl rfl ?_)
      refine lw_op rfl rfl rfl (ow_assign rfl rfl ?_)
      refine lw_nil ?_
      refine ew_then ?_
      refine cw_ret ?_
      obtain rfl := Option.some.inj h
      exact ew_ret (res1 rfl (.tmp rfl)) ⟨_, rfl, ((vbool _)), hC11.bx⟩

theorem w_spec_RuleFits {w : World} {M : Nat → Prop} (hG : ARep (RArr 4 RShape) w M shapes ⟨0, 0, none⟩) (hO : ∀ b, M b → b < w.heap.size) {v0p : Value} {a_r : Rule} (h0 : VRep RRule w M a_r v0p) {v1p : Value} {a_p : Packet} (h1 : VRep RPacket w M a_p v1p) {r : Bool} (h : F.spec_RuleFits a_r a_p = some r) :
    Calls Tryd.prog 51 [v0p, v1p].toArray w fun e w' => ∃ v, e = .returned v ∧ VRep RBool w' M r v ∧ BX No w w' := by
  have hC : Cx No w M w M := Cx.start hO (fun _ e => e.elim)
  refine walk (N := 13) Tryd.func51 rfl Tryd.ntmps51 rfl ?_
  refine cw_seq ?_
  refine cw_region ?_
  refine lw_op rfl rfl rfl (ow_box (R := RRule) rfl rfl h0 hC fun p1 w1 hp1 hb1 hl1 hC1 => ?_)
  refine lw_op rfl rfl rfl (ow_box (R := RPacket) rfl rfl (VRep.mono hl1 h1) hC1 fun p2 w2 hp2 hb2 hl2 hC2 => ?_)
  refine lw_op rfl rfl rfl (ow_assign rfl rfl ?_)
  refine lw_nil ?_
  refine ew_then ?_
  refine cw_seq ?_
  refine cw_region ?_
  refine lw_op rfl rfl rfl (ow_load (R := RRule) rfl rfl (ARep.mono hl2 hp1) (Tryd.sizeOf76 _) (Tryd.isAgg76 _) fun v1 hv1 => ?_)
  replace h := bind_some h
  obtain ⟨x1, hx1, h⟩ := h
  refine lw_op rfl rfl rfl (ow_call rfl rfl Tryd.call52 (w_spec_RuleValid (hG.mono (hl1.trans hl2)) hC2.old hv1 hx1) fun v2 w3 hv2 => ?_)
  obtain ⟨hv2, hb3⟩ := hv2
  have hl3 := Le.no M hb3
  have hC3 := hC2.no hb3
  obtain rfl := vbool_eq hv2
  refine lw_op rfl rfl rfl (ow_move rfl rfl ?_)
  replace h := cond_some h
  rcases h with ⟨hc1, h⟩ | ⟨hc1, h⟩
  · subst hc1
    refine lw_on rfl rfl rfl rfl rfl rfl (ow_fieldAddr rfl rfl Tryd.underlying76 rfl (Tryd.sizeOf74 _) ?_)
    refine lw_on rfl rfl rfl rfl rfl rfl (ow_load (R := (RSlice RTest)) rfl rfl (ARep.mono (hl2.trans hl3) (hp1.fld fld_Rule_Tests)) (Tryd.sizeOf74 _) (Tryd.isAgg74 _) fun v3 hv3 => ?_)
    refine lw_on rfl rfl rfl rfl rfl rfl (ow_load (R := RPacket) rfl rfl (ARep.mono hl3 hp2) (Tryd.sizeOf39 _) (Tryd.isAgg39 _) fun v4 hv4 => ?_)
    replace h := bind_some h
    obtain ⟨x2, hx2, h⟩ := h
    refine lw_on rfl rfl rfl rfl rfl rfl (ow_call rfl rfl Tryd.call101 (w_spec_TestsHold (hG.mono ((hl1.trans hl2).trans hl3)) hC3.old hv3 hv4 hx2) fun v5 w4 hv5 => ?_)
    obtain ⟨hv5, hb4⟩ := hv5
    have hl4 := Le.no M hb4
    have hC4 := hC3.no hb4
    obtain rfl := vbool_eq hv5
    refine lw_op rfl rfl rfl (ow_pickT rfl rfl rfl ?_)
    refine lw_op rfl rfl rfl (ow_assign rfl rfl ?_)
    refine lw_nil ?_
    refine ew_then ?_
    refine cw_ret ?_
    obtain rfl := Option.some.inj h
    exact ew_ret (res1 rfl (.tmp rfl)) ⟨_, rfl, ((vbool _)), hC4.bx⟩
  · subst hc1
    refine lw_off rfl rfl rfl rfl rfl rfl ?_
    refine lw_off rfl rfl rfl rfl rfl rfl ?_
    refine lw_off rfl rfl rfl rfl rfl rfl ?_
    refine lw_off rfl rfl rfl rfl rfl rfl ?_
    refine lw_op rfl rfl rfl (ow_pickF rfl rfl rfl ?_)
    refine lw_op rfl rfl rfl (ow_assign rfl rfl ?_)
    refine lw_nil ?_
    refine ew_then ?_
    refine cw_ret ?_
    obtain rfl := Option.some.inj h
    exact ew_ret (res1 rfl (.tmp rfl)) ⟨_, rfl, ((vbool _)), hC3.bx⟩

theorem w_spec_RulesValid {w : World} {M : Nat → Prop} (hG : ARep (RArr 4 RShape) w M shapes ⟨0, 0, none⟩) (hO : ∀ b, M b → b < w.heap.size) {v0p : Value} {a_list : List Rule} (h0 : VRep (RSlice RRule) w M a_list v0p) {r : Bool} (h : F.spec_RulesValid a_list = some r) :
    Calls Tryd.prog 61 [v0p].toArray w fun e w' => ∃ v, e = .returned v ∧ VRep RBool w' M r v ∧ BX No w w' := by
  have hC : Cx No w M w M := Cx.start hO (fun _ e => e.elim)
  refine walk (N := 19) Tryd.func61 rfl Tryd.ntmps61 rfl ?_
  refine cw_seq ?_
  refine cw_region ?_
  refine lw_op rfl rfl rfl (ow_assign rfl rfl ?_)
  refine lw_nil ?_
  refine ew_then ?_
  refine cw_seq ?_
  refine cw_seq ?_
  refine cw_region ?_
  refine lw_op rfl rfl rfl (ow_assign rfl rfl ?_)
  refine lw_nil ?_
  refine ew_then ?_
  replace h := bind_some h
  obtain ⟨lr1, hlr1, h⟩ := h
  refine cw_for hlr1 (fun s a w' => ∃ (M' : Nat → Prop), Fits 19 [(0, v0p), (3, (.int .i64 s))] a ∧ Le w M w' M' ∧ Cx No w M w' M') ?_ ?_ ?_
  · intro a ha
    exact ⟨M, ha.sub ⟨rfl, rfl, trivial⟩, Le.refl _ _, hC⟩
  · rintro k1 a w1 sr1 ⟨M1, hF1, hl1, hC1⟩ hb1 hR1
    refine cw_at (E := [(0, v0p), (3, (.int .i64 k1))]) hF1 ?_
    refine cw_seq ?_
    refine cw_seq ?_
    refine cw_region ?_
    refine lw_op rfl rfl rfl (ow_move rfl rfl ?_)
    refine lw_op rfl rfl rfl (ow_move rfl rfl ?_)
    refine lw_op rfl rfl rfl (ow_len rfl rfl (VRep.mono hl1 h0) Tryd.underlying86 rfl ?_)
    refine lw_op rfl rfl rfl (ow_lss rfl rfl rfl fun bb1 hbb1 => ?_)
    refine lw_nil ?_
    refine ew_then ?_
    replace hb1 := cond_some hb1
    rcases hb1 with ⟨hc1, hb1⟩ | ⟨hc1, hb1⟩
    · obtain rfl := hbb1.trans hc1
      refine cw_true rfl ?_
      refine cw_skip ?_
      refine ew_then ?_
      refine cw_seq ?_
      refine cw_block ?_
      refine cw_seq ?_
      refine cw_region ?_
      refine lw_op rfl rfl rfl (ow_move rfl rfl ?_)
      refine lw_op rfl rfl rfl (ow_move rfl rfl ?_)
      replace hb1 := bind_some hb1
      obtain ⟨x1, hx1, hb1⟩ := hb1
      refine lw_op rfl rfl rfl (ow_indexSlice (R := RRule) rfl rfl rfl (VRep.mono hl1 h0) Tryd.underlying86 (Tryd.sizeOf76 _) hx1 fun p1 hp1 => ?_)
      refine lw_op rfl rfl rfl (ow_load (R := RRule) rfl rfl hp1 (Tryd.sizeOf76 _) (Tryd.isAgg76 _) fun v2 hv2 => ?_)
      replace hb1 := bind_some hb1
      obtain ⟨x2, hx2, hb1⟩ := hb1
      refine lw_op rfl rfl rfl (ow_call rfl rfl Tryd.call52 (w_spec_RuleValid (hG.mono hl1) hC1.old hv2 hx2) fun v3 w2 hv3 => ?_)
      obtain ⟨hv3, hb2⟩ := hv3
      have hl2 := Le.no M1 hb2
      have hC2 := hC1.no hb2
      obtain rfl := vbool_eq hv3
      refine lw_op rfl rfl rfl (ow_not rfl rfl ?_)
      refine lw_nil ?_
      refine ew_then ?_
      replace hb1 := cond_some hb1
      rcases hb1 with ⟨hc2, hb1⟩ | ⟨hc2, hb1⟩
      · subst hc2
        refine cw_false rfl ?_
        refine cw_skip ?_
        refine ew_blockN ?_
        refine ew_then ?_
        refine cw_region ?_
        refine lw_op rfl rfl rfl (ow_move rfl rfl ?_)
        refine lw_op rfl rfl rfl (ow_add rfl rfl rfl ?_)
        refine lw_op rfl rfl rfl (ow_assign rfl rfl ?_)
        refine lw_nil ?_
        refine ew_nxt (W (k1 + 1)) hb1 fun a ha => ⟨M1, ?_, (hl1.trans hl2), hC2⟩
        exact ha.sub ⟨rfl, rfl, trivial⟩
      · subst hc2
        refine cw_true rfl ?_
        refine cw_seq ?_
        refine cw_region ?_
        refine lw_op rfl rfl rfl (ow_assign rfl rfl ?_)
        refine lw_nil ?_
        refine ew_then ?_
        refine cw_ret ?_
        refine ew_blockR ?_
        refine ew_thenR ?_
        refine ew_thenR ?_
        refine ew_blockR ?_
        refine ew_brkR ?_
        refine ew_thenR ?_
        have e1 := hR1 _ (Option.some.inj hb1).symm
        subst e1
        obtain rfl := Option.some.inj h
        exact ew_ret (res1 rfl (.tmp rfl)) ⟨_, rfl, ((vbool _)), hC2.bx⟩
    · obtain rfl := hbb1.trans hc1
      refine cw_false rfl ?_
      refine cw_exit ?_
      refine ew_thenX ?_
      refine ew_thenX ?_
      refine ew_blockX ?_
      refine ew_brk k1 hb1 fun a ha => ⟨M1, ?_, hl1, hC1⟩
      exact ha.sub ⟨rfl, rfl, trivial⟩
  · rintro k2 a w3 hlr2 ⟨M2, hF2, hl3, hC3⟩
    subst hlr2
    refine ew_at (E := [(0, v0p), (3, (.int .i64 k2))]) hF2 ?_
    refine ew_then ?_
    refine cw_seq ?_
    refine cw_region ?_
    refine lw_op rfl rfl rfl (ow_move rfl rfl ?_)
    refine lw_op rfl rfl rfl (ow_len rfl rfl (VRep.mono hl3 h0) Tryd.underlying86 rfl ?_)
    refine lw_op rfl rfl rfl (ow_leq rfl rfl rfl fun bb2 hbb2 => ?_)
    refine lw_op rfl rfl rfl (ow_assign rfl rfl ?_)
    refine lw_nil ?_
    refine ew_then ?_
    refine cw_ret ?_
    obtain rfl := Option.some.inj h
    exact ew_ret (res1 rfl (.tmp rfl)) ⟨_, rfl, ((vbool_of hbb2)), hC3.bx⟩

theorem w_spec_FirstFit {w : World} {M : Nat → Prop} (hG : ARep (RArr 4 RShape) w M shapes ⟨0, 0, none⟩) (hO : ∀ b, M b → b < w.heap.size) {v0p : Value} {a_list : List Rule} (h0 : VRep (RSlice RRule) w M a_list v0p) {a_n : Int} {v2p : Value} {a_p : Packet} (h2 : VRep RPacket w M a_p v2p) {r : Int} (h : F.spec_FirstFit a_list a_n a_p = some r) :
    Calls Tryd.prog 60 [v0p, (.int .i64 a_n), v2p].toArray w fun e w' => ∃ v, e = .returned v ∧ VRep RInt w' M r v ∧ BX No w w' := by
  have hC : Cx No w M w M := Cx.start hO (fun _ e => e.elim)
  refine walk (N := 30) Tryd.func60 rfl Tryd.ntmps60 rfl ?_
  refine cw_seq ?_
  refine cw_region ?_
  refine lw_op rfl rfl rfl (ow_box (R := RPacket) rfl rfl h2 hC fun p1 w1 hp1 hb1 hl1 hC1 => ?_)
  refine lw_op rfl rfl rfl (ow_assign rfl rfl ?_)
  refine lw_nil ?_
  refine ew_then ?_
  refine cw_seq ?_
  refine cw_seq ?_
  refine cw_region ?_
  refine lw_op rfl rfl rfl (ow_move rfl rfl ?_)
  refine lw_op rfl rfl rfl (ow_assign rfl rfl ?_)
  refine lw_nil ?_
  refine ew_then ?_
  replace h := bind_some h
  obtain ⟨lr1, hlr1, h⟩ := h
  refine cw_for hlr1 (fun s a w' => ∃ (M' : Nat → Prop), Fits 30 [(0, v0p), (5, (.pointer (some p1))), (7, (.int .i64 s))] a ∧ Le w1 M w' M' ∧ Cx No w M w' M') ?_ ?_ ?_
  · intro a ha
    exact ⟨M, ha.sub ⟨rfl, rfl, rfl, trivial⟩, Le.refl _ _, hC1⟩
  · rintro k1 a w2 sr1 ⟨M1, hF1, hl2, hC2⟩ hb2 hR1
    refine cw_at (E := [(0, v0p), (5, (.pointer (some p1))), (7, (.int .i64 k1))]) hF1 ?_
    refine cw_seq ?_
    refine cw_seq ?_
    refine cw_region ?_
    refine lw_op rfl rfl rfl (ow_move rfl rfl ?_)
    refine lw_op rfl rfl rfl (ow_geq rfl rfl rfl fun bb1 hbb1 => ?_)
    refine lw_op rfl rfl rfl (ow_move rfl rfl ?_)
    replace hb2 := cond_some hb2
    rcases hb2 with ⟨hc1, hb2⟩ | ⟨hc1, hb2⟩
    · obtain rfl := hbb1.trans hc1
      refine lw_on rfl rfl rfl rfl rfl rfl (ow_move rfl rfl ?_)
      refine lw_on rfl rfl rfl rfl rfl rfl (ow_move rfl rfl ?_)
      refine lw_on rfl rfl rfl rfl rfl rfl (ow_len rfl rfl (VRep.mono (hl1.trans hl2) h0) Tryd.underlying86 rfl ?_)
      refine lw_on rfl rfl rfl rfl rfl rfl (ow_lss rfl rfl rfl fun bb2 hbb2 => ?_)
      refine lw_op rfl rfl rfl (ow_pickT rfl rfl rfl ?_)
      refine lw_op rfl rfl rfl (ow_move rfl rfl ?_)
      replace hb2 := cond_some hb2
      rcases hb2 with ⟨hc2, hb2⟩ | ⟨hc2, hb2⟩
      · obtain rfl := hbb2.trans hc2
        refine lw_on rfl rfl rfl rfl rfl rfl (ow_move rfl rfl ?_)
        replace hb2 := bind_some hb2
        obtain ⟨x1, hx1, hb2⟩ := hb2
        refine lw_on rfl rfl rfl rfl rfl rfl (ow_call rfl rfl Tryd.call61 (w_spec_RulesValid (hG.mono (hl1.trans hl2)) hC2.old (VRep.mono (hl1.trans hl2) h0) hx1) fun v2 w3 hv2 => ?_)
        obtain ⟨hv2, hb3⟩ := hv2
        have hl3 := Le.no M1 hb3
        have hC3 := hC2.no hb3
        obtain rfl := vbool_eq hv2
        refine lw_op rfl rfl rfl (ow_pickT rfl rfl rfl ?_)
        refine lw_nil ?_
        refine ew_then ?_
        replace hb2 := cond_some hb2
        rcases hb2 with ⟨hc3, hb2⟩ | ⟨hc3, hb2⟩
        · subst hc3
          refine cw_true rfl ?_
          refine cw_skip ?_
          refine ew_then ?_
          refine cw_seq ?_
          refine cw_block ?_
          refine cw_seq ?_
          replace hb2 := bind_some hb2
          obtain ⟨x2, hx2, hb2⟩ := hb2
          refine cw_sub (E' := [(0, v0p), (5, (.pointer (some p1))), (7, (.int .i64 k1))]) ⟨rfl, rfl, rfl, trivial⟩ ?_
          refine cw_drawQ 5 [PV (RSlice RRule) M1 a_list, PEq (.int .i64 k1), PA RRule M1 x2, PV RRule M1 x2, PV RPacket M1 a_p] (by kernel_rfl) rfl (by kernel_rfl) ⟨PV.mono _ _ _, PEq.mono _, PA.mono _ _ _, PV.mono _ _ _, PV.mono _ _ _, trivial⟩ ⟨?_, ?_, ?_, ?_, ?_, trivial⟩ ?_
          · intro w4 D hS1 hd1
            have hl4 := Le.no M1 hS1
            have hC4 := hC3.no hS1
            refine dg_sub (E' := [(0, v0p)]) ⟨rfl, trivial⟩ ?_
            refine dg_plain rfl (ow_move rfl rfl ?_)
            exact ⟨BX.refl _ _, (VRep.mono (((hl1.trans hl2).trans hl3).trans hl4) h0)⟩
          · intro w5 D hS2 hd2
            have hl5 := Le.no M1 hS2
            have hC5 := hC3.no hS2
            refine dg_sub (E' := [(7, (.int .i64 k1))]) ⟨rfl, trivial⟩ ?_
            refine dg_plain rfl (ow_move rfl rfl ?_)
            exact ⟨BX.refl _ _, rfl⟩
          · intro w6 D hS3 hd3
            have hl6 := Le.no M1 hS3
            have hC6 := hC3.no hS3
            have hd3 : PV (RSlice RRule) M1 a_list (D 0) w6 ∧ PEq (.int .i64 k1) (D 1) w6 ∧ True := hd3
            obtain ⟨d1, d2, -⟩ := hd3
            obtain ⟨v5, hq1⟩ : ∃ v, (D 0) = v := ⟨_, rfl⟩
            rw [hq1] at d1
            refine dg_sub (E' := [(23, v5), (24, (.int .i64 k1))]) ⟨(congrArg some hq1), (congrArg some d2), trivial⟩ ?_
            refine dg_plain rfl (ow_indexSlice (R := RRule) rfl rfl rfl d1 Tryd.underlying86 (Tryd.sizeOf76 _) hx2 fun p3 hp3 => ?_)
            exact ⟨BX.refl _ _, ⟨_, rfl, hp3⟩⟩
          · intro w7 D hS4 hd4
            have hl7 := Le.no M1 hS4
            have hC7 := hC3.no hS4
            have hd4 : PA RRule M1 x2 (D 2) w7 ∧ True := hd4
            obtain ⟨d3, -⟩ := hd4
            obtain ⟨p4, e1, ha1⟩ := d3
            refine dg_sub (E' := [(25, (.pointer (some p4)))]) ⟨(congrArg some e1), trivial⟩ ?_
            refine dg_plain rfl (ow_load (R := RRule) rfl rfl ha1 (Tryd.sizeOf76 _) (Tryd.isAgg76 _) fun v6 hv6 => ?_)
            exact ⟨BX.refl _ _, hv6⟩
          · intro w8 D hS5 hd5
            have hl8 := Le.no M1 hS5
            have hC8 := hC3.no hS5
            refine dg_sub (E' := [(5, (.pointer (some p1)))]) ⟨rfl, trivial⟩ ?_
            refine dg_plain rfl (ow_load (R := RPacket) rfl rfl (ARep.mono ((hl2.trans hl3).trans hl8) hp1) (Tryd.sizeOf39 _) (Tryd.isAgg39 _) fun v7 hv7 => ?_)
            exact ⟨BX.refl _ _, hv7⟩
          · intro w9 D hS6 hd6
            have hl9 := Le.no M1 hS6
            have hC9 := hC3.no hS6
            have hd6 : PV (RSlice RRule) M1 a_list (D 0) w9 ∧ PEq (.int .i64 k1) (D 1) w9 ∧ PA RRule M1 x2 (D 2) w9 ∧ PV RRule M1 x2 (D 3) w9 ∧ PV RPacket M1 a_p (D 4) w9 ∧ True := hd6
            obtain ⟨-, -, -, d7, d8, -⟩ := hd6
            obtain ⟨v8, hq2⟩ : ∃ v, (D 3) = v := ⟨_, rfl⟩
            rw [hq2] at d7
            obtain ⟨v9, hq3⟩ : ∃ v, (D 4) = v := ⟨_, rfl⟩
            rw [hq3] at d8
            refine lw_sub (E' := [(26, v8), (27, v9), (0, v0p), (5, (.pointer (some p1))), (7, (.int .i64 k1))]) ⟨(congrArg some hq2), (congrArg some hq3), rfl, rfl, rfl, trivial⟩ ?_
            replace hb2 := bind_some hb2
            obtain ⟨x3, hx3, hb2⟩ := hb2
            refine lw_op rfl rfl rfl (ow_call rfl rfl Tryd.call51 (w_spec_RuleFits (hG.mono (((hl1.trans hl2).trans hl3).trans hl9)) hC9.old d7 d8 hx3) fun v10 w10 hv10 => ?_)
            obtain ⟨hv10, hb4⟩ := hv10
            have hl10 := Le.no M1 hb4
            have hC10 := hC9.no hb4
            obtain rfl := vbool_eq hv10
            refine lw_nil ?_
            refine ew_then ?_
            replace hb2 := cond_some hb2
            rcases hb2 with ⟨hc4, hb2⟩ | ⟨hc4, hb2⟩
            · subst hc4
              refine cw_true rfl ?_
              refine cw_seq ?_
              refine cw_region ?_
              refine lw_op rfl rfl rfl (ow_move rfl rfl ?_)
              refine lw_op rfl rfl rfl (ow_assign rfl rfl ?_)
              refine lw_nil ?_
              refine ew_then ?_
              refine cw_ret ?_
              refine ew_blockR ?_
              refine ew_thenR ?_
              refine ew_thenR ?_
              refine ew_blockR ?_
              refine ew_brkR ?_
              refine ew_thenR ?_
              have e2 := hR1 _ (Option.some.inj hb2).symm
              subst e2
              obtain rfl := Option.some.inj h
              exact ew_ret (res1 rfl (.tmp rfl)) ⟨_, rfl, ((vint _)), hC10.bx⟩
            · subst hc4
              refine cw_false rfl ?_
              refine cw_skip ?_
              refine ew_blockN ?_
              refine ew_then ?_
              refine cw_region ?_
              refine lw_op rfl rfl rfl (ow_move rfl rfl ?_)
              refine lw_op rfl rfl rfl (ow_add rfl rfl rfl ?_)
              refine lw_op rfl rfl rfl (ow_assign rfl rfl ?_)
              refine lw_nil ?_
              refine ew_nxt (W (k1 + 1)) hb2 fun a ha => ⟨M1, ?_, (((hl2.trans hl3).trans hl9).trans hl10), hC10⟩
              exact ha.sub ⟨rfl, rfl, rfl, trivial⟩
        · subst hc3
          refine cw_false rfl ?_
          refine cw_exit ?_
          refine ew_thenX ?_
          refine ew_thenX ?_
          refine ew_blockX ?_
          refine ew_brk k1 hb2 fun a ha => ⟨M1, ?_, (hl2.trans hl3), hC3⟩
          exact ha.sub ⟨rfl, rfl, rfl, trivial⟩
      · obtain rfl := hbb2.trans hc2
        refine lw_off rfl rfl rfl rfl rfl rfl ?_
        refine lw_off rfl rfl rfl rfl rfl rfl ?_
        refine lw_op rfl rfl rfl (ow_pickF rfl rfl rfl ?_)
        refine lw_nil ?_
        refine ew_then ?_
        refine cw_false rfl ?_
        refine cw_exit ?_
        refine ew_thenX ?_
        refine ew_thenX ?_
        refine ew_blockX ?_
        refine ew_brk k1 hb2 fun a ha => ⟨M1, ?_, hl2, hC2⟩
        exact ha.sub ⟨rfl, rfl, rfl, trivial⟩
    · obtain rfl := hbb1.trans hc1
      refine lw_off rfl rfl rfl rfl rfl rfl ?_
      refine lw_off rfl rfl rfl rfl rfl rfl ?_
      refine lw_off rfl rfl rfl rfl rfl rfl ?_
      refine lw_off rfl rfl rfl rfl rfl rfl ?_
      refine lw_op rfl rfl rfl (ow_pickF rfl rfl rfl ?_)
      refine lw_op rfl rfl rfl (ow_move rfl rfl ?_)
      refine lw_off rfl rfl rfl rfl rfl rfl ?_
      refine lw_off rfl rfl rfl rfl rfl rfl ?_
      refine lw_op rfl rfl rfl (ow_pickF rfl rfl rfl ?_)
      refine lw_nil ?_
      refine ew_then ?_
      refine cw_false rfl ?_
      refine cw_exit ?_
      refine ew_thenX ?_
      refine ew_thenX ?_
      refine ew_blockX ?_
      refine ew_brk k1 hb2 fun a ha => ⟨M1, ?_, hl2, hC2⟩
      exact ha.sub ⟨rfl, rfl, rfl, trivial⟩
  · rintro k2 a w11 hlr2 ⟨M2, hF2, hl11, hC11⟩
    subst hlr2
    refine ew_at (E := [(0, v0p), (5, (.pointer (some p1))), (7, (.int .i64 k2))]) hF2 ?_
    refine ew_then ?_
    refine cw_seq ?_
    refine cw_region ?_
    refine lw_op rfl rfl rfl (ow_assign rfl rfl ?_)
    refine lw_nil ?_
    refine ew_then ?_
    refine cw_ret ?_
    obtain rfl := Option.some.inj h
    exact ew_ret (res1 rfl (.tmp rfl)) ⟨_, rfl, ((vint _)), hC11.bx⟩

theorem w_laws_FnFirstFit {w : World} {M : Nat → Prop} (hG : ARep (RArr 4 RShape) w M shapes ⟨0, 0, none⟩) (hO : ∀ b, M b → b < w.heap.size) {v0p : Value} {a_code : List Int} (h0 : VRep (RSlice RU8) w M a_code v0p) {r : Bool} (h : F.laws_FnFirstFit a_code = some r) :
    Calls Tryd.prog 14 [v0p].toArray w fun e w' => ∃ v, e = .returned v ∧ VRep RBool w' M r v ∧ BX No w w' := by
  have hC : Cx No w M w M := Cx.start hO (fun _ e => e.elim)
  refine walk (N := 57) Tryd.func14 rfl Tryd.ntmps14 rfl ?_
  refine cw_seq ?_
  refine cw_region ?_
  refine lw_op rfl rfl rfl (ow_assign rfl rfl ?_)
  refine lw_nil ?_
  refine ew_then ?_
  refine cw_seq ?_
  refine cw_seq ?_
  refine cw_region ?_
  refine lw_op rfl rfl rfl (ow_move rfl rfl ?_)
  refine lw_op rfl rfl rfl (ow_len rfl rfl h0 Tryd.underlying73 rfl ?_)
  refine lw_op rfl rfl rfl (ow_gtr rfl rfl rfl fun bb1 hbb1 => ?_)
  refine lw_nil ?_
  refine ew_then ?_
  replace h := cond_some h
  rcases h with ⟨hc1, h⟩ | ⟨hc1, h⟩
  · obtain rfl := hbb1.trans hc1
    refine cw_true rfl ?_
    refine cw_seq ?_
    refine cw_region ?_
    refine lw_op rfl rfl rfl (ow_assign rfl rfl ?_)
    refine lw_nil ?_
    refine ew_then ?_
    refine cw_ret ?_
    refine ew_thenR ?_
    obtain rfl := Option.some.inj h
    exact ew_ret (res1 rfl (.tmp rfl)) ⟨_, rfl, ((vbool _)), hC.bx⟩
  · obtain rfl := hbb1.trans hc1
    refine cw_false rfl ?_
    refine cw_skip ?_
    refine ew_then ?_
    refine cw_seq ?_
    refine cw_region ?_
    refine lw_op rfl rfl rfl (ow_move rfl rfl ?_)
    replace h := bind_some h
    obtain ⟨x1, hx1, h⟩ := h
    refine lw_op rfl rfl rfl (ow_call rfl rfl Tryd.call58 (w_spec_DrawFirstFit hG hC.old h0 hx1) fun v1 w1 hv1 => ?_)
    obtain ⟨⟨v2, v3, v4, rfl, hv2, hv3, hv4⟩, hb1⟩ := hv1
    have hl1 := Le.no M hb1
    have hC1 := hC.no hb1
    obtain rfl := vint_eq hv3
    refine lw_op rfl rfl rfl (ow_move rfl rfl ?_)
    refine lw_op rfl rfl rfl (ow_extract rfl rfl rfl ?_)
    refine lw_op rfl rfl rfl (ow_extract rfl rfl rfl ?_)
    refine lw_op rfl rfl rfl (ow_extract rfl rfl rfl ?_)
    refine lw_op rfl rfl rfl (ow_alloc rfl (Tryd.zeroValue39 _) hC1 fun g1 w2 hg1 hg2 ho1 hb2 hl2 hC2 => ?_)
    have hm1 : (Add g1 M) g1 := .inl rfl
    refine lw_op rfl rfl rfl (ow_assign rfl rfl ?_)
    refine lw_op rfl rfl rfl (ow_assign rfl rfl ?_)
    obtain rfl := open_Packet hv4
    refine lw_op0 rfl rfl (ow_store (X := No) (us := [(.int .i64 x1.2.2.From), (.int .i64 x1.2.2.To), (.int .i64 x1.2.2.Port), (.int .i64 x1.2.2.Proto)]) (cs' := #[(.int .i64 x1.2.2.From), (.int .i64 x1.2.2.To), (.int .i64 x1.2.2.Port), (.int .i64 x1.2.2.Proto)]) rfl rfl rfl rfl ho1 (Tryd.sizeOf39 _) rfl rfl rfl rfl hm1 (.inl hg2) rfl hC2 fun w3 ho2 hb3 hl3 hC3 => ?_)
    refine lw_nil ?_
    refine ew_then ?_
    refine cw_seq ?_
    refine cw_region ?_
    refine lw_op rfl rfl rfl (ow_move rfl rfl ?_)
    refine lw_op rfl rfl rfl (ow_move rfl rfl ?_)
    refine lw_op rfl rfl rfl (ow_loadOwnA rfl rfl rfl ho2 (Tryd.isAgg39 _) (Tryd.sizeOf39 _) rfl ?_)
    have hw1 : VRep RPacket w3 (Add g1 M) ({ From := x1.2.2.From, To := x1.2.2.To, Port := x1.2.2.Port, Proto := x1.2.2.Proto } : Packet) (.agg #[(.int .i64 x1.2.2.From), (.int .i64 x1.2.2.To), (.int .i64 x1.2.2.Port), (.int .i64 x1.2.2.Proto)]) := shut_Packet
    replace h := bind_some h
    obtain ⟨x2, hx2, h⟩ := h
    refine lw_op rfl rfl rfl (ow_call rfl rfl Tryd.call59 (w_impl_FirstFit (hG.mono ((hl1.trans hl2).trans hl3)) hC3.old (VRep.mono (hl2.trans hl3) hv2) hw1 hx2) fun v5 w4 hv5 => ?_)
    obtain ⟨hv5, hb4⟩ := hv5
    have hl4 := Le.no (Add g1 M) hb4
    have hC4 := hC3.no hb4
    have ho3 := ho2.no hb4
    obtain rfl := vint_eq hv5
    refine lw_op rfl rfl rfl (ow_assign rfl rfl ?_)
    refine lw_nil ?_
    refine ew_then ?_
    refine cw_seq ?_
    refine cw_seq ?_
    refine cw_region ?_
    refine lw_op rfl rfl rfl (ow_move rfl rfl ?_)
    refine lw_op rfl rfl rfl (ow_move rfl rfl ?_)
    refine lw_op rfl rfl rfl (ow_move rfl rfl ?_)
    refine lw_op rfl rfl rfl (ow_loadOwnA rfl rfl rfl ho3 (Tryd.isAgg39 _) (Tryd.sizeOf39 _) rfl ?_)
    have hw2 : VRep RPacket w4 (Add g1 M) ({ From := x1.2.2.From, To := x1.2.2.To, Port := x1.2.2.Port, Proto := x1.2.2.Proto } : Packet) (.agg #[(.int .i64 x1.2.2.From), (.int .i64 x1.2.2.To), (.int .i64 x1.2.2.Port), (.int .i64 x1.2.2.Proto)]) := shut_Packet
    replace h := bind_some h
    obtain ⟨x3, hx3, h⟩ := h
    refine lw_op rfl rfl rfl (ow_call rfl rfl Tryd.call60 (w_spec_FirstFit (hG.mono (((hl1.trans hl2).trans hl3).trans hl4)) hC4.old (VRep.mono ((hl2.trans hl3).trans hl4) hv2) hw2 hx3) fun v6 w5 hv6 => ?_)
    obtain ⟨hv6, hb5⟩ := hv6
    have hl5 := Le.no (Add g1 M) hb5
    have hC5 := hC4.no hb5
    have ho4 := ho3.no hb5
    obtain rfl := vint_eq hv6
    refine lw_op rfl rfl rfl (ow_neqI rfl rfl rfl fun bb2 hbb2 => ?_)
    refine lw_nil ?_
    refine ew_then ?_
    replace h := cond_some h
    rcases h with ⟨hc2, h⟩ | ⟨hc2, h⟩
    · obtain rfl := hbb2.trans hc2
      refine cw_true rfl ?_
      refine cw_seq ?_
      refine cw_region ?_
      refine lw_op rfl rfl rfl (ow_assign rfl rfl ?_)
      refine lw_nil ?_
      refine ew_then ?_
      refine cw_ret ?_
      refine ew_thenR ?_
      obtain rfl := Option.some.inj h
      exact ew_ret (res1 rfl (.tmp rfl)) ⟨_, rfl, ((vbool _)), hC5.bx⟩
    · obtain rfl := hbb2.trans hc2
      refine cw_false rfl ?_
      refine cw_skip ?_
      refine ew_then ?_
      refine cw_seq ?_
      refine cw_seq ?_
      refine cw_region ?_
      refine lw_op rfl rfl rfl (ow_move rfl rfl ?_)
      refine lw_op rfl rfl rfl (ow_lss rfl rfl rfl fun bb3 hbb3 => ?_)
      refine lw_op rfl rfl rfl (ow_move rfl rfl ?_)
      replace h := cond_some h
      rcases h with ⟨hc3, h⟩ | ⟨hc3, h⟩
      · obtain rfl := hbb3.trans hc3
        refine lw_off rfl rfl rfl rfl rfl rfl ?_
        refine lw_off rfl rfl rfl rfl rfl rfl ?_
        refine lw_off rfl rfl rfl rfl rfl rfl ?_
        refine lw_op rfl rfl rfl (ow_pickT rfl rfl rfl ?_)
        refine lw_nil ?_
        refine ew_then ?_
        refine cw_true rfl ?_
        refine cw_seq ?_
        refine cw_region ?_
        refine lw_op rfl rfl rfl (ow_move rfl rfl ?_)
        refine lw_op rfl rfl rfl (ow_eqlI rfl rfl rfl fun bb4 hbb4 => ?_)
        refine lw_op rfl rfl rfl (ow_move rfl rfl ?_)
        replace h := cond_some h
        rcases h with ⟨hc4, h⟩ | ⟨hc4, h⟩
        · obtain rfl := hbb4.trans hc4
          replace h := bind_some h
          obtain ⟨x4, hx4, h⟩ := h
          refine lw_on rfl rfl rfl rfl rfl rfl (ow_call rfl rfl Tryd.call53 (w_laws_alive (hG.mono ((((hl1.trans hl2).trans hl3).trans hl4).trans hl5)) hC5.old hx4) fun v7 w6 hv7 => ?_)
          obtain ⟨hv7, hb6⟩ := hv7
          have hl6 := Le.no (Add g1 M) hb6
          have hC6 := hC5.no hb6
          have ho5 := ho4.no hb6
          obtain rfl := vbool_eq hv7
          refine lw_op rfl rfl rfl (ow_pickT rfl rfl rfl ?_)
          refine lw_op rfl rfl rfl (ow_assign rfl rfl ?_)
          refine lw_nil ?_
          refine ew_then ?_
          refine cw_ret ?_
          refine ew_thenR ?_
          obtain rfl := Option.some.inj h
          exact ew_ret (res1 rfl (.tmp rfl)) ⟨_, rfl, ((vbool _)), hC6.bx⟩
        · obtain rfl := hbb4.trans hc4
          refine lw_off rfl rfl rfl rfl rfl rfl ?_
          refine lw_op rfl rfl rfl (ow_pickF rfl rfl rfl ?_)
          refine lw_op rfl rfl rfl (ow_assign rfl rfl ?_)
          refine lw_nil ?_
          refine ew_then ?_
          refine cw_ret ?_
          refine ew_thenR ?_
          obtain rfl := Option.some.inj h
          exact ew_ret (res1 rfl (.tmp rfl)) ⟨_, rfl, ((vbool _)), hC5.bx⟩
      · obtain rfl := hbb3.trans hc3
        refine lw_on rfl rfl rfl rfl rfl rfl (ow_move rfl rfl ?_)
        replace h := bind_some h
        obtain ⟨x5, hx5, h⟩ := h
        refine lw_on rfl rfl rfl rfl rfl rfl (ow_call rfl rfl Tryd.call61 (w_spec_RulesValid (hG.mono ((((hl1.trans hl2).trans hl3).trans hl4).trans hl5)) hC5.old (VRep.mono (((hl2.trans hl3).trans hl4).trans hl5) hv2) hx5) fun v8 w7 hv8 => ?_)
        obtain ⟨hv8, hb7⟩ := hv8
        have hl7 := Le.no (Add g1 M) hb7
        have hC7 := hC5.no hb7
        have ho6 := ho4.no hb7
        obtain rfl := vbool_eq hv8
        refine lw_on rfl rfl rfl rfl rfl rfl (ow_not rfl rfl ?_)
        refine lw_op rfl rfl rfl (ow_pickF rfl rfl rfl ?_)
        refine lw_nil ?_
        refine ew_then ?_
        replace h := cond_some h
        rcases h with ⟨hc5, h⟩ | ⟨hc5, h⟩
        · subst hc5
          refine cw_false rfl ?_
          refine cw_skip ?_
          refine ew_then ?_
          refine cw_seq ?_
          refine cw_seq ?_
          refine cw_region ?_
          refine lw_op rfl rfl rfl (ow_move rfl rfl ?_)
          refine lw_op rfl rfl rfl (ow_assign rfl rfl ?_)
          refine lw_nil ?_
          refine ew_then ?_
          replace h := bind_some h
          obtain ⟨lr1, hlr1, h⟩ := h
          refine cw_for hlr1 (fun s a w' => ∃ (M' : Nat → Prop), Fits 57 [(3, v2), (5, (.pointer (some ⟨g1, 0, none⟩))), (6, (.int .i64 x2)), (7, (.int .i64 s))] a ∧ Le w7 (Add g1 M) w' M' ∧ Cx No w M w' M' ∧ Own w' g1 39 #[(.int .i64 x1.2.2.From), (.int .i64 x1.2.2.To), (.int .i64 x1.2.2.Port), (.int .i64 x1.2.2.Proto)] ∧ M' g1) ?_ ?_ ?_
          · intro a ha
            exact ⟨(Add g1 M), ha.sub ⟨rfl, rfl, rfl, rfl, trivial⟩, Le.refl _ _, hC7, ho6, hm1⟩
          · rintro k1 a w8 sr1 ⟨M1, hF1, hl8, hC8, ho7, hm2⟩ hb8 hR1
            refine cw_at (E := [(3, v2), (5, (.pointer (some ⟨g1, 0, none⟩))), (6, (.int .i64 x2)), (7, (.int .i64 k1))]) hF1 ?_
            refine cw_seq ?_
            refine cw_seq ?_
            refine cw_region ?_
            refine lw_op rfl rfl rfl (ow_move rfl rfl ?_)
            refine lw_op rfl rfl rfl (ow_move rfl rfl ?_)
            refine lw_op rfl rfl rfl (ow_len rfl rfl (VRep.mono (((((hl2.trans hl3).trans hl4).trans hl5).trans hl7).trans hl8) hv2) Tryd.underlying86 rfl ?_)
            refine lw_op rfl rfl rfl (ow_lss rfl rfl rfl fun bb5 hbb5 => ?_)
            refine lw_nil ?_
            refine ew_then ?_
            replace hb8 := cond_some hb8
            rcases hb8 with ⟨hc6, hb8⟩ | ⟨hc6, hb8⟩
            · obtain rfl := hbb5.trans hc6
              refine cw_true rfl ?_
              refine cw_skip ?_
              refine ew_then ?_
              refine cw_seq ?_
              refine cw_block ?_
              refine cw_seq ?_
              replace hb8 := bind_some hb8
              obtain ⟨x6, hx6, hb8⟩ := hb8
              refine cw_sub (E' := [(3, v2), (5, (.pointer (some ⟨g1, 0, none⟩))), (6, (.int .i64 x2)), (7, (.int .i64 k1))]) ⟨rfl, rfl, rfl, rfl, trivial⟩ ?_
              refine cw_drawQ 5 [PV (RSlice RRule) M1 x1.1, PEq (.int .i64 k1), PA RRule M1 x6, PV RRule M1 x6, PV RPacket M1 ({ From := x1.2.2.From, To := x1.2.2.To, Port := x1.2.2.Port, Proto := x1.2.2.Proto } : Packet)] (by kernel_rfl) rfl (by kernel_rfl) ⟨PV.mono _ _ _, PEq.mono _, PA.mono _ _ _, PV.mono _ _ _, PV.mono _ _ _, trivial⟩ ⟨?_, ?_, ?_, ?_, ?_, trivial⟩ ?_
              · intro w9 D hS1 hd1
                have hl9 := Le.no M1 hS1
                have hC9 := hC8.no hS1
                have ho8 := ho7.no hS1
                refine dg_sub (E' := [(3, v2)]) ⟨rfl, trivial⟩ ?_
                refine dg_plain rfl (ow_move rfl rfl ?_)
                exact ⟨BX.refl _ _, (VRep.mono ((((((hl2.trans hl3).trans hl4).trans hl5).trans hl7).trans hl8).trans hl9) hv2)⟩
              · intro w10 D hS2 hd2
                have hl10 := Le.no M1 hS2
                have hC10 := hC8.no hS2
                have ho9 := ho7.no hS2
                refine dg_sub (E' := [(7, (.int .i64 k1))]) ⟨rfl, trivial⟩ ?_
                refine dg_plain rfl (ow_move rfl rfl ?_)
                exact ⟨BX.refl _ _, rfl⟩
              · intro w11 D hS3 hd3
                have hl11 := Le.no M1 hS3
                have hC11 := hC8.no hS3
                have ho10 := ho7.no hS3
                have hd3 : PV (RSlice RRule) M1 x1.1 (D 0) w11 ∧ PEq (.int .i64 k1) (D 1) w11 ∧ True := hd3
                obtain ⟨d1, d2, -⟩ := hd3
                obtain ⟨v11, hq1⟩ : ∃ v, (D 0) = v := ⟨_, rfl⟩
                rw [hq1] at d1
                refine dg_sub (E' := [(46, v11), (47, (.int .i64 k1))]) ⟨(congrArg some hq1), (congrArg some d2), trivial⟩ ?_
                refine dg_plain rfl (ow_indexSlice (R := RRule) rfl rfl rfl d1 Tryd.underlying86 (Tryd.sizeOf76 _) hx6 fun p2 hp2 => ?_)
                exact ⟨BX.refl _ _, ⟨_, rfl, hp2⟩⟩
              · intro w12 D hS4 hd4
                have hl12 := Le.no M1 hS4
                have hC12 := hC8.no hS4
                have ho11 := ho7.no hS4
                have hd4 : PA RRule M1 x6 (D 2) w12 ∧ True := hd4
                obtain ⟨d3, -⟩ := hd4
                obtain ⟨p3, e1, ha1⟩ := d3
                refine dg_sub (E' := [(48, (.pointer (some p3)))]) ⟨(congrArg some e1), trivial⟩ ?_
                refine dg_plain rfl (ow_load (R := RRule) rfl rfl ha1 (Tryd.sizeOf76 _) (Tryd.isAgg76 _) fun v12 hv12 => ?_)
                exact ⟨BX.refl _ _, hv12⟩
              · intro w13 D hS5 hd5
                have hl13 := Le.no M1 hS5
                have hC13 := hC8.no hS5
                have ho12 := ho7.no hS5
                refine dg_sub (E' := [(5, (.pointer (some ⟨g1, 0, none⟩)))]) ⟨rfl, trivial⟩ ?_
                refine dg_plain rfl (ow_loadOwnA rfl rfl rfl ho12 (Tryd.isAgg39 _) (Tryd.sizeOf39 _) rfl ?_)
                have hw4 : VRep RPacket w13 M1 ({ From := x1.2.2.From, To := x1.2.2.To, Port := x1.2.2.Port, Proto := x1.2.2.Proto } : Packet) (.agg #[(.int .i64 x1.2.2.From), (.int .i64 x1.2.2.To), (.int .i64 x1.2.2.Port), (.int .i64 x1.2.2.Proto)]) := shut_Packet
                exact ⟨BX.refl _ _, hw4⟩
              · intro w14 D hS6 hd6
                have hl14 := Le.no M1 hS6
                have hC14 := hC8.no hS6
                have ho13 := ho7.no hS6
                have hd6 : PV (RSlice RRule) M1 x1.1 (D 0) w14 ∧ PEq (.int .i64 k1) (D 1) w14 ∧ PA RRule M1 x6 (D 2) w14 ∧ PV RRule M1 x6 (D 3) w14 ∧ PV RPacket M1 ({ From := x1.2.2.From, To := x1.2.2.To, Port := x1.2.2.Port, Proto := x1.2.2.Proto } : Packet) (D 4) w14 ∧ True := hd6
                obtain ⟨-, -, -, d7, d8, -⟩ := hd6
                obtain ⟨v13, hq2⟩ : ∃ v, (D 3) = v := ⟨_, rfl⟩
                rw [hq2] at d7
                obtain ⟨v14, hq3⟩ : ∃ v, (D 4) = v := ⟨_, rfl⟩
                rw [hq3] at d8
                refine lw_sub (E' := [(49, v13), (50, v14), (3, v2), (5, (.pointer (some ⟨g1, 0, none⟩))), (6, (.int .i64 x2)), (7, (.int .i64 k1))]) ⟨(congrArg some hq2), (congrArg some hq3), rfl, rfl, rfl, rfl, trivial⟩ ?_
                replace hb8 := bind_some hb8
                obtain ⟨x7, hx7, hb8⟩ := hb8
                refine lw_op rfl rfl rfl (ow_call rfl rfl Tryd.call50 (w_impl_RuleFits (hG.mono (((((((hl1.trans hl2).trans hl3).trans hl4).trans hl5).trans hl7).trans hl8).trans hl14)) hC14.old d7 d8 hx7) fun v15 w15 hv15 => ?_)
                obtain ⟨hv15, hb9⟩ := hv15
                have hl15 := Le.no M1 hb9
                have hC15 := hC14.no hb9
                have ho14 := ho13.no hb9
                obtain rfl := vbool_eq hv15
                refine lw_nil ?_
                refine ew_then ?_
                replace hb8 := cond_some hb8
                rcases hb8 with ⟨hc7, hb8⟩ | ⟨hc7, hb8⟩
                · subst hc7
                  refine cw_true rfl ?_
                  refine cw_seq ?_
                  refine cw_region ?_
                  refine lw_op rfl rfl rfl (ow_move rfl rfl ?_)
                  refine lw_op rfl rfl rfl (ow_move rfl rfl ?_)
                  refine lw_op rfl rfl rfl (ow_eqlI rfl rfl rfl fun bb6 hbb6 => ?_)
                  refine lw_op rfl rfl rfl (ow_assign rfl rfl ?_)
                  refine lw_nil ?_
                  refine ew_then ?_
                  refine cw_ret ?_
                  refine ew_blockR ?_
                  refine ew_thenR ?_
                  refine ew_thenR ?_
                  refine ew_blockR ?_
                  refine ew_brkR ?_
                  refine ew_thenR ?_
                  have e2 := hR1 _ (Option.some.inj hb8).symm
                  subst e2
                  obtain rfl := Option.some.inj h
                  exact ew_ret (res1 rfl (.tmp rfl)) ⟨_, rfl, ((vbool_of hbb6)), hC15.bx⟩
                · subst hc7
                  refine cw_false rfl ?_
                  refine cw_skip ?_
                  refine ew_blockN ?_
                  refine ew_then ?_
                  refine cw_region ?_
                  refine lw_op rfl rfl rfl (ow_move rfl rfl ?_)
                  refine lw_op rfl rfl rfl (ow_add rfl rfl rfl ?_)
                  refine lw_op rfl rfl rfl (ow_assign rfl rfl ?_)
                  refine lw_nil ?_
                  refine ew_nxt (W (k1 + 1)) hb8 fun a ha => ⟨M1, ?_, ((hl8.trans hl14).trans hl15), hC15, ho14, hm2⟩
                  exact ha.sub ⟨rfl, rfl, rfl, rfl, trivial⟩
            · obtain rfl := hbb5.trans hc6
              refine cw_false rfl ?_
              refine cw_exit ?_
              refine ew_thenX ?_
              refine ew_thenX ?_
              refine ew_blockX ?_
              refine ew_brk k1 hb8 fun a ha => ⟨M1, ?_, hl8, hC8, ho7, hm2⟩
              exact ha.sub ⟨rfl, rfl, rfl, rfl, trivial⟩
          · rintro k2 a w16 hlr2 ⟨M2, hF2, hl16, hC16, ho15, hm3⟩
            subst hlr2
            refine ew_at (E := [(3, v2), (5, (.pointer (some ⟨g1, 0, none⟩))), (6, (.int .i64 x2)), (7, (.int .i64 k2))]) hF2 ?_
            refine ew_then ?_
            refine cw_seq ?_
            refine cw_region ?_
            refine lw_op rfl rfl rfl (ow_move rfl rfl ?_)
            refine lw_op rfl rfl rfl (ow_eqlI rfl rfl rfl fun bb7 hbb7 => ?_)
            refine lw_op rfl rfl rfl (ow_assign rfl rfl ?_)
            refine lw_nil ?_
            refine ew_then ?_
            refine cw_ret ?_
            obtain rfl := Option.some.inj h
            exact ew_ret (res1 rfl (.tmp rfl)) ⟨_, rfl, ((vbool_of hbb7)), hC16.bx⟩
        · subst hc5
          refine cw_true rfl ?_
          refine cw_seq ?_
          refine cw_region ?_
          refine lw_op rfl rfl rfl (ow_move rfl rfl ?_)
          refine lw_op rfl rfl rfl (ow_eqlI rfl rfl rfl fun bb8 hbb8 => ?_)
          refine lw_op rfl rfl rfl (ow_move rfl rfl ?_)
          replace h := cond_some h
          rcases h with ⟨hc8, h⟩ | ⟨hc8, h⟩
          · obtain rfl := hbb8.trans hc8
            replace h := bind_some h
            obtain ⟨x8, hx8, h⟩ := h
            refine lw_on rfl rfl rfl rfl rfl rfl (ow_call rfl rfl Tryd.call53 (w_laws_alive (hG.mono (((((hl1.trans hl2).trans hl3).trans hl4).trans hl5).trans hl7)) hC7.old hx8) fun v17 w17 hv17 => ?_)
            obtain ⟨hv17, hb10⟩ := hv17
            have hl17 := Le.no (Add g1 M) hb10
            have hC17 := hC7.no hb10
            have ho16 := ho6.no hb10
            obtain rfl := vbool_eq hv17
            refine lw_op rfl rfl rfl (ow_pickT rfl rfl rfl ?_)
            refine lw_op rfl rfl rfl (ow_assign rfl rfl ?_)
            refine lw_nil ?_
            refine ew_then ?_
            refine cw_ret ?_
            refine ew_thenR ?_
            obtain rfl := Option.some.inj h
            exact ew_ret (res1 rfl (.tmp rfl)) ⟨_, rfl, ((vbool _)), hC17.bx⟩
          · obtain rfl := hbb8.trans hc8
            refine lw_off rfl rfl rfl rfl rfl rfl ?_
            refine lw_op rfl rfl rfl (ow_pickF rfl rfl rfl ?_)
            refine lw_op rfl rfl rfl (ow_assign rfl rfl ?_)
            refine lw_nil ?_
            refine ew_then ?_
            refine cw_ret ?_
            refine ew_thenR ?_
            obtain rfl := Option.some.inj h
            exact ew_ret (res1 rfl (.tmp rfl)) ⟨_, rfl, ((vbool _)), hC7.bx⟩


end Go.PF
