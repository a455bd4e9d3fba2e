/- The walks; no condition. -/
import Derived.Test.YtbnndochnkkllaaDoorProg
import Derived.Test.YtbnndochnkkllaaDoorWk0
import Derived.Test.YtbnndochnkkllaaDoorPFMark
import Derived.Test.YtbnndochnkkllaaDoorPFWild
import Derived.Test.YtbnndochnkkllaaDoorPFTree
set_option maxRecDepth 100000
set_option maxHeartbeats 4000000
namespace Go.PF
open Go Go.RowKit Go.Proofs

theorem wt_impl_sides_box {w : World} {M : Nat → Prop} (_hG : ARep (RArr 4 RShape) w M shapes ⟨0, 0, none⟩) (hO : ∀ b, M b → b < w.heap.size) {Y : Nat → Prop} (hY : ∀ b, w.heap.size ≤ b → Y b) {v0p : Value} {a_s : List (List Span)} (h0 : VRep (RArr 4 (RSlice RSpan)) w M a_s v0p) {r : Box} (h : F.impl_sides_box a_s = some r) :
    Calls Tryd.prog 99 [v0p].toArray w fun e w' => ∃ v, e = .returned v ∧ VRep (RBoxT Y 120) w' M r v ∧ BX No w w' := by
  obtain ⟨i120, hi120, hz120, hs120, hy120⟩ := info120
  obtain ⟨i121, hi121, hz121, hs121, hy121⟩ := info121
  have hC : Cx No w M w M := Cx.start hO (fun _ e => e.elim)
  clear _hG
  refine walk (N := 21) Tryd.func99 rfl Tryd.ntmps99 rfl ?_
  refine cw_seq ?_
  refine cw_region ?_
  refine lw_op rfl rfl rfl (ow_box (R := (RArr 4 (RSlice RSpan))) rfl rfl h0 hC fun p1 w1 hp1 hb1 hl1 hC1 => ?_)
  refine lw_op rfl rfl rfl (ow_alloc rfl (Tryd.zeroValue48 _) hC1 fun g1 w2 hg1 hg2 ho1 hb2 hl2 hC2 => ?_)
  have hm1 : (Add g1 M) g1 := .inl rfl
  refine lw_nil ?_
  refine ew_then ?_
  refine cw_seq ?_
  refine cw_region ?_
  replace h := bind_some h
  obtain ⟨mk1, hmk1, h⟩ := h
  refine lw_op rfl rfl rfl (ow_make (R := RTg (RSpR 120)) rfl rfl rfl Tryd.underlying46 hi121 hz121 hs121 hy121 rfl rfl vtg_nil (makeF_tag hmk1) hC2 fun v1 w3 M1 hr1 hb3 hl3 hC3 hM1 hat1 => ?_)
  have ho2 := ho1.no hb3
  have hm2 := hM1 _ hm1
  obtain ⟨A1, c1, rfl⟩ : ∃ A c, v1 = .slice A mk1.length c := by
    obtain ⟨A, c, e⟩ := hr1.len
    exact ⟨A, c, by rw [e, List.length_map]⟩
  refine lw_op rfl rfl rfl (ow_build (v := .agg #[(.slice A1 mk1.length c1)]) rfl rfl (by kernel_rfl) ?_)
  refine lw_op rfl rfl rfl (ow_alloc rfl (Tryd.zeroValue48 _) hC3 fun g2 w4 hg3 hg4 ho3 hb4 hl4 hC4 => ?_)
  have hn1 := Nat.ne_of_lt (Nat.lt_of_lt_of_le ho2.lt hg3)
  have ho4 := ho2.no hb4
  have hm3 : (Add g2 M1) g1 := .inr hm2
  have hr2 := hr1.add hb4 hg3
  have hm4 : (Add g2 M1) g2 := .inl rfl
  refine lw_op0 rfl rfl (ow_store (X := No) (us := [(.slice A1 mk1.length c1)]) (cs' := #[(.slice A1 mk1.length c1)]) rfl rfl rfl rfl ho3 (Tryd.sizeOf48 _) rfl rfl rfl rfl hm4 (.inl hg4) rfl hC4 fun w5 ho5 hb5 hl5 hC5 => ?_)
  have ho6 := ho4.go hb5 (fun e => hn1 e)
  have hr3 := hr2.go hb5 (fun k hk e => (orow_ne hr2 ho3 (by decide)) (hk.trans (congrArg some e))) hl5 (fun _ h => h)
  refine lw_nil ?_
  refine ew_then ?_
  refine cw_seq ?_
  refine cw_seq ?_
  refine cw_region ?_
  have lz1 := (((hl2.trans hl3).trans hl4).trans hl5)
  refine lw_op rfl rfl rfl (ow_load (R := (RArr 4 (RSlice RSpan))) rfl rfl (ARep.mono lz1 hp1) (Tryd.sizeOf131 _) (Tryd.isAgg131 _) fun v2 hv2 => ?_)
  refine lw_op rfl rfl rfl (ow_move rfl rfl ?_)
  refine lw_nil ?_
  refine ew_then ?_
  replace h := bind_some h
  obtain ⟨lr1, hlr1, h⟩ := h
  refine cw_for hlr1 (fun s a w' => ∃ (M' : Nat → Prop) (gs : List (Tag × List Span)), Fits 21 [(2, (.pointer (some ⟨g1, 0, none⟩))), (3, (.pointer (some ⟨g2, 0, none⟩))), (8, v2), (9, (.int .i64 s.1))] a ∧ Le w5 (Add g2 M1) w' M' ∧ Cx No w M w' M' ∧ (gs.map (·.2) = s.2 ∧ TagOk w.heap.size gs w') ∧ OwnRow (RTg (RSpR 120)) w.heap.size 121 w' M' gs (.slice A1 mk1.length c1) ∧ Own w' g1 48 #[(.slice none 0 0)] ∧ M' g1 ∧ Own w' g2 48 #[(.slice A1 mk1.length c1)] ∧ M' g2) ?_ ?_ ?_
  · intro a ha
    exact ⟨(Add g2 M1), _, ha.sub ⟨rfl, rfl, rfl, rfl, trivial⟩, Le.refl _ _, hC5, ⟨tag_snd, TagOk.zero⟩, hr3, ho6, hm3, ho5, hm4⟩
  · rintro ⟨k1, y1⟩ a w6 sr1 ⟨M2, gs, hF1, hl6, hC6, ⟨hgs, hgt⟩, hw1, ho7, hm5, ho8, hm6⟩ hb6 hR1
    refine cw_at (E := [(2, (.pointer (some ⟨g1, 0, none⟩))), (3, (.pointer (some ⟨g2, 0, none⟩))), (8, v2), (9, (.int .i64 k1))]) hF1 ?_
    refine cw_seq ?_
    refine cw_region ?_
    refine lw_op rfl rfl rfl (ow_lss rfl rfl rfl fun bb1 hbb1 => ?_)
    refine lw_nil ?_
    refine ew_then ?_
    refine cw_seq ?_
    replace hb6 := cond_some hb6
    rcases hb6 with ⟨hc1, hb6⟩ | ⟨hc1, hb6⟩
    · obtain rfl := hbb1.trans hc1
      refine cw_true rfl ?_
      refine cw_skip ?_
      refine ew_then ?_
      refine cw_seq ?_
      refine cw_block ?_
      refine cw_seq ?_
      refine cw_region ?_
      refine lw_op rfl rfl rfl (ow_move rfl rfl ?_)
      replace hb6 := bind_some hb6
      obtain ⟨x1, hx1, hb6⟩ := hb6
      refine lw_op rfl rfl rfl (ow_index (R := (RSlice RSpan)) rfl rfl rfl (VRep.mono hl6 hv2) Tryd.underlying131 (Tryd.sizeOf121 _) (Tryd.isAgg121 _) hx1 fun v5 hv5 => ?_)
      refine lw_op rfl rfl rfl (ow_assign rfl rfl ?_)
      refine lw_op rfl rfl rfl (ow_assign rfl rfl ?_)
      refine lw_nil ?_
      refine ew_then ?_
      replace hb6 := bind_some hb6
      obtain ⟨z1, hz1, hb6⟩ := hb6
      have lz2 := (((((hl1.trans hl2).trans hl3).trans hl4).trans hl5).trans hl6)
      refine cw_sub (E' := [(2, (.pointer (some ⟨g1, 0, none⟩))), (3, (.pointer (some ⟨g2, 0, none⟩))), (4, (.int .i64 k1)), (5, v5), (8, v2), (9, (.int .i64 k1))]) ⟨rfl, rfl, rfl, rfl, rfl, rfl, trivial⟩ ?_
      refine cw_drawQ 5 [PEq (.pointer (some ⟨g2, 0, none⟩)), PEq (.slice A1 mk1.length c1), PEq (.int .i64 k1), PV (RSlice RSpan) M2 x1, PV (RSpR 120) (fun b => M2 b ∨ b < w6.heap.size) z1] (by kernel_rfl) rfl (by kernel_rfl) ⟨PEq.mono _, PEq.mono _, PEq.mono _, PV.mono _ _ _, PV.mono _ _ _, trivial⟩ ⟨?_, ?_, ?_, ?_, ?_, trivial⟩ ?_
      · intro w8 D hS1 hd1
        have hl8 := Le.no M2 hS1
        have hC8 := hC6.no hS1
        have ho11 := ho7.no hS1
        have ho12 := ho8.no hS1
        have hr5 := hw1.no hS1
        refine dg_sub (E' := [(3, (.pointer (some ⟨g2, 0, none⟩)))]) ⟨rfl, trivial⟩ ?_
        refine dg_plain rfl (ow_fieldAddr rfl rfl Tryd.underlying48 rfl (Tryd.sizeOf46 _) ?_)
        exact ⟨BX.refl _ _, rfl⟩
      · intro w9 D hS2 hd2
        have hl9 := Le.no M2 hS2
        have hC9 := hC6.no hS2
        have ho13 := ho7.no hS2
        have ho14 := ho8.no hS2
        have hr6 := hw1.no hS2
        have d1 : PEq (.pointer (some ⟨g2, 0, none⟩)) (D 0) w9 := dpA hd2 0 rfl
        refine dg_sub (E' := [(13, (.pointer (some ⟨g2, 0, none⟩)))]) ⟨(congrArg some d1), trivial⟩ ?_
        refine dg_plain rfl (ow_loadOwn1 rfl rfl rfl ho14 (Tryd.isAgg46 _) rfl ?_)
        exact ⟨BX.refl _ _, rfl⟩
      · intro w10 D hS3 hd3
        have hl10 := Le.no M2 hS3
        have hC10 := hC6.no hS3
        have ho15 := ho7.no hS3
        have ho16 := ho8.no hS3
        have hr7 := hw1.no hS3
        refine dg_sub (E' := [(4, (.int .i64 k1))]) ⟨rfl, trivial⟩ ?_
        refine dg_plain rfl (ow_move rfl rfl ?_)
        exact ⟨BX.refl _ _, rfl⟩
      · intro w11 D hS4 hd4
        have hl11 := Le.no M2 hS4
        have hC11 := hC6.no hS4
        have ho17 := ho7.no hS4
        have ho18 := ho8.no hS4
        have hr8 := hw1.no hS4
        refine dg_sub (E' := [(5, v5)]) ⟨rfl, trivial⟩ ?_
        refine dg_plain rfl (ow_move rfl rfl ?_)
        exact ⟨BX.refl _ _, (VRep.mono hl11 hv5)⟩
      · intro w12 D hS5 hd5
        have hl12 := Le.no M2 hS5
        have hC12 := hC6.no hS5
        have ho19 := ho7.no hS5
        have ho20 := ho8.no hS5
        have hr9 := hw1.no hS5
        have d2 : PV (RSlice RSpan) M2 x1 (D 3) w12 := dpA hd5 3 rfl
        generalize hq1 : (D 3) = v7 at d2
        refine dg_sub (E' := [(16, v7)]) ⟨(congrArg some hq1), trivial⟩ ?_
        refine dg_plain rfl (ow_append (R := RSpan) (xs := []) (v := .slice none 0 0) rfl rfl rfl rfl Tryd.underlying121 hi120 hz120 hs120 hy120 rfl rfl rfl rfl ownrow_nil d2 hz1 hC12 fun v8 w13 M13 hr13 hb8 hl13 hC13 hM13 hat13 => ?_)
        replace hb8 : BX No w12 w13 := hb8.mono (fun b _ e => by cases e)
        have ho21 := ho19.no hb8
        have ho22 := ho20.no hb8
        have hr10 := hr9.no hb8
        exact ⟨hb8, hr13.spr (app_fresh hat13 hC12.old hS5.size)⟩
      · intro w14 D hS6 hd6
        have d4 : PEq (.slice A1 mk1.length c1) (D 1) w14 := dpA hd6 1 rfl
        have d5 : PEq (.int .i64 k1) (D 2) w14 := dpA hd6 2 rfl
        have d7 : PV (RSpR 120) (fun b => M2 b ∨ b < w6.heap.size) z1 (D 4) w14 := dpA hd6 4 rfl
        have hl14 := Le.no M2 hS6
        have hC14 := hC6.no hS6
        have ho23 := ho7.no hS6
        have ho24 := ho8.no hS6
        have hr11 := hw1.no hS6
        generalize hq2 : (D 4) = v9 at d7
        refine lw_sub (E' := [(14, (.slice A1 mk1.length c1)), (15, (.int .i64 k1)), (17, v9), (2, (.pointer (some ⟨g1, 0, none⟩))), (3, (.pointer (some ⟨g2, 0, none⟩))), (4, (.int .i64 k1)), (5, v5), (8, v2), (9, (.int .i64 k1))]) ⟨(congrArg some d4), (congrArg some d5), (congrArg some hq2), rfl, rfl, rfl, rfl, rfl, rfl, trivial⟩ ?_
        replace hb6 := bind_some hb6
        obtain ⟨x2, hx2, hb6⟩ := hb6
        obtain ⟨y2t, hx2t⟩ := idx_tag (show idx (gs.map (·.2)) k1 = some x2 by rw [hgs]; exact hx2)
        refine lw_op rfl rfl rfl (ow_indexRow (R := RTg (RSpR 120)) rfl rfl rfl hr11 Tryd.underlying46 (Tryd.sizeOf121 _) hx2t ?_)
        refine lw_op0 rfl rfl (ow_storeElRow (X := No) (R := RTg (RSpR 120)) (S := RTg (RSpR 120)) rfl rfl rfl rfl hr11 (orow_blk hr11 hx2t) hx2t (FldSet.whole (RTg (RSpR 120))) (Tryd.sizeOf121 _) (spr_tag d7) (Nat.le_refl _) hC14 fun w15 ho25 hb9 hl15 hC15 => ?_)
        have ho26 := ho23.go hb9 (fun e => (orow_ne hr11 ho23 (by decide)) (by rw [orow_blk hr11 hx2t]; exact congrArg some e.symm))
        have ho27 := ho24.go hb9 (fun e => (orow_ne hr11 ho24 (by decide)) (by rw [orow_blk hr11 hx2t]; exact congrArg some e.symm))
        refine lw_nil ?_
        refine ew_blockN ?_
        refine ew_then ?_
        refine cw_region ?_
        refine lw_op rfl rfl rfl (ow_add rfl rfl rfl ?_)
        refine lw_op rfl rfl rfl (ow_move rfl rfl ?_)
        refine lw_nil ?_
        have lz3 := ((hl6.trans hl14).trans hl15)
        refine ew_nxt ((W (k1 + 1)), (List.set y1 (k1 : Int).toNat z1)) hb6 fun a ha => ⟨M2, _, ?_, lz3, hC15, ⟨by show List.map _ (List.set _ _ _) = List.set y1 _ z1; rw [List.map_set, hgs], hgt.set (Nat.le_refl _) hC6.bx.size hb9.size (Nat.le_trans hS6.size hb9.size) _ _⟩, ho25, ho26, hm5, ho27, hm6⟩
        exact ha.sub ⟨rfl, rfl, rfl, rfl, trivial⟩
    · obtain rfl := hbb1.trans hc1
      refine cw_false rfl ?_
      refine cw_exit ?_
      refine ew_thenX ?_
      refine ew_thenX ?_
      refine ew_blockX ?_
      refine ew_brk (k1, y1) hb6 fun a ha => ⟨M2, gs, ?_, hl6, hC6, ⟨hgs, hgt⟩, hw1, ho7, hm5, ho8, hm6⟩
      exact ha.sub ⟨rfl, rfl, rfl, rfl, trivial⟩
  · rintro ⟨k2, y2⟩ a w16 hlr2 ⟨M3, gs, hF2, hl16, hC16, ⟨hgs, hgt⟩, hw4, ho28, hm7, ho29, hm8⟩
    subst hlr2
    refine ew_at (E := [(2, (.pointer (some ⟨g1, 0, none⟩))), (3, (.pointer (some ⟨g2, 0, none⟩))), (8, v2), (9, (.int .i64 k2))]) hF2 ?_
    refine ew_then ?_
    refine cw_seq ?_
    refine cw_region ?_
    refine lw_op rfl rfl rfl (ow_loadOwnA rfl rfl rfl ho29 (Tryd.isAgg48 _) (Tryd.sizeOf48 _) rfl ?_)
    refine lw_op0 rfl rfl (ow_store (X := No) (us := [(.slice A1 mk1.length c1)]) (cs' := #[(.slice A1 mk1.length c1)]) rfl rfl rfl rfl ho28 (Tryd.sizeOf48 _) rfl rfl rfl rfl hm7 (.inl hg2) rfl hC16 fun w17 ho30 hb10 hl18 hC18 => ?_)
    have ho31 := ho29.go hb10 (fun e => hn1 e.symm)
    refine lw_nil ?_
    refine ew_then ?_
    refine cw_ret ?_
    have hr17 := hw4.go hb10 (fun k hk e => (orow_ne hw4 ho28 (by decide)) (hk.trans (congrArg some e))) hl18 (fun _ h => h)
    have hbt := hr17.freezeT (hgt.le hb10.size) hC18 hO hY rfl
    rw [show gs.map (·.2) = y2 from hgs] at hbt
    obtain rfl := Option.some.inj h
    exact ew_ret (res1 rfl (.cell rfl (own_loadVarA ho30 (Tryd.isAgg48 _) (Tryd.sizeOf48 _) rfl))) ⟨_, rfl, shutT_Box hbt, hC18.bx⟩

theorem wt_impl_BoxMeet {w : World} {M : Nat → Prop} (hG : ARep (RArr 4 RShape) w M shapes ⟨0, 0, none⟩) (hO : ∀ b, M b → b < w.heap.size) {Y : Nat → Prop} (hY : ∀ b, w.heap.size ≤ b → Y b) {v0p : Value} {a_a : Box} (h0 : VRep RBox w M a_a v0p) {v1p : Value} {a_b : Box} (h1 : VRep RBox w M a_b v1p) {r : Box} (h : F.impl_BoxMeet a_a a_b = some r) :
    Calls Tryd.prog 31 [v0p, v1p].toArray w fun e w' => ∃ v, e = .returned v ∧ VRep (RBoxT Y 120) w' M r v ∧ BX No w w' := by
  have hC : Cx No w M w M := Cx.start hO (fun _ e => e.elim)
  refine walk (N := 29) Tryd.func31 rfl Tryd.ntmps31 rfl ?_
  refine cw_seq ?_
  refine cw_region ?_
  refine lw_op rfl rfl rfl (ow_box (R := RBox) rfl rfl h0 hC fun p1 w1 hp1 hb1 hl1 hC1 => ?_)
  refine lw_op rfl rfl rfl (ow_box (R := RBox) rfl rfl (VRep.mono hl1 h1) hC1 fun p2 w2 hp2 hb2 hl2 hC2 => ?_)
  refine lw_op rfl rfl rfl (ow_alloc rfl (Tryd.zeroValue48 _) hC2 fun g1 w3 hg1 hg2 ho1 hb3 hl3 hC3 => ?_)
  have hm1 : (Add g1 M) g1 := .inl rfl
  refine lw_nil ?_
  refine ew_then ?_
  refine cw_seq ?_
  refine cw_seq ?_
  refine cw_region ?_
  refine lw_op rfl rfl rfl (ow_load (R := RBox) rfl rfl (ARep.mono (hl2.trans hl3) hp1) (Tryd.sizeOf48 _) (Tryd.isAgg48 _) fun v1 hv1 => ?_)
  replace h := bind_some h
  obtain ⟨x1, hx1, h⟩ := h
  have lz1 := ((hl1.trans hl2).trans hl3)
  refine lw_op rfl rfl rfl (ow_call rfl rfl Tryd.call90 (w_impl_BoxValid (hG.mono lz1) hC3.old hv1 hx1) fun v2 w4 hv2 => ?_)
  obtain ⟨hv2, hb4⟩ := hv2
  have hl4 := Le.no (Add g1 M) hb4
  have hC4 := hC3.no hb4
  have ho2 := ho1.no hb4
  obtain rfl := vbool_eq hv2
  refine lw_op rfl rfl rfl (ow_not rfl rfl ?_)
  refine lw_op rfl rfl rfl (ow_move rfl rfl ?_)
  replace h := cond_some h
  rcases h with ⟨hc1, h⟩ | ⟨hc1, h⟩
  · subst hc1
    refine lw_on rfl rfl rfl rfl rfl rfl (ow_load (R := RBox) rfl rfl (ARep.mono (hl3.trans hl4) hp2) (Tryd.sizeOf48 _) (Tryd.isAgg48 _) fun v3 hv3 => ?_)
    replace h := bind_some h
    obtain ⟨x2, hx2, h⟩ := h
    refine lw_on rfl rfl rfl rfl rfl rfl (ow_call rfl rfl Tryd.call90 (w_impl_BoxValid (hG.mono (lz1.trans hl4)) hC4.old hv3 hx2) fun v4 w5 hv4 => ?_)
    obtain ⟨hv4, hb5⟩ := hv4
    have hl5 := Le.no (Add g1 M) hb5
    have hC5 := hC4.no hb5
    have ho3 := ho2.no hb5
    obtain rfl := vbool_eq hv4
    refine lw_on rfl rfl rfl rfl rfl rfl (ow_not rfl rfl ?_)
    refine lw_op rfl rfl rfl (ow_pickF rfl rfl rfl ?_)
    refine lw_nil ?_
    refine ew_then ?_
    replace h := cond_some h
    rcases h with ⟨hc2, h⟩ | ⟨hc2, h⟩
    · subst hc2
      refine cw_false rfl ?_
      refine cw_skip ?_
      refine ew_then ?_
      refine cw_seq ?_
      replace h := bind_some h
      obtain ⟨x3, hx3, h⟩ := h
      replace h := bind_some h
      obtain ⟨x4, hx4, h⟩ := h
      replace h := bind_some h
      obtain ⟨x5, hx5, h⟩ := h
      have lz2 := ((lz1.trans hl4).trans hl5)
      have lz3 := (((hl2.trans hl3).trans hl4).trans hl5)
      have lz4 := ((hl3.trans hl4).trans hl5)
      have lz5 := (hl4.trans hl5)
      refine cw_sub (E' := [(2, (.pointer (some p1))), (3, (.pointer (some p2))), (4, (.pointer (some ⟨g1, 0, none⟩)))]) ⟨rfl, rfl, rfl, trivial⟩ ?_
      refine cw_drawL 9 7 5 23 16 [PV RBox (Add g1 M) a_a, PV (RArr 4 (RSlice RSpan)) (Add g1 M) x3, PV RBox (Add g1 M) a_b, PV (RArr 4 (RSlice RSpan)) (Add g1 M) x4, PT2 (PV (RArr 4 (RSlice RSpan)) (Add g1 M) x5.1) (PEq (.bool x5.2)), PT2 (PV (RArr 4 (RSlice RSpan)) (Add g1 M) x5.1) (PEq (.bool x5.2)), PV (RArr 4 (RSlice RSpan)) (Add g1 M) x5.1, PEq (.bool x5.2), PNew w5 131 #[(.slice none 0 0), (.slice none 0 0), (.slice none 0 0), (.slice none 0 0)]] (by kernel_rfl) rfl (by kernel_rfl) rfl rfl rfl rfl rfl rfl rfl ⟨PV.mono _ _ _, PV.mono _ _ _, PV.mono _ _ _, PV.mono _ _ _, (PT2.mono (PV.mono _ _ _) (PEq.mono _)), (PT2.mono (PV.mono _ _ _) (PEq.mono _)), PV.mono _ _ _, PEq.mono _, PNew.mono _ _ _, trivial⟩ (fun v w h => by obtain ⟨a, b, rfl, ha, hb⟩ := h; exact ⟨b, hb, fun w' => ow_extract rfl rfl rfl ⟨rfl, rfl⟩⟩) ⟨?_, ?_, ?_, ?_, ?_, ?_, ?_, ?_, ?_, trivial⟩ ?_
      · intro w10 D hS1 hd1
        have hl10 := Le.no (Add g1 M) hS1
        have hC10 := hC5.no hS1
        have ho10 := ho3.no hS1
        refine dg_sub (E' := [(2, (.pointer (some p1)))]) ⟨rfl, trivial⟩ ?_
        refine dg_plain rfl (ow_load (R := RBox) rfl rfl (ARep.mono (lz3.trans hl10) hp1) (Tryd.sizeOf48 _) (Tryd.isAgg48 _) fun v12 hv12 => ?_)
        exact ⟨BX.refl _ _, hv12⟩
      · intro w11 D hS2 hd2
        have hl11 := Le.no (Add g1 M) hS2
        have hC11 := hC5.no hS2
        have ho11 := ho3.no hS2
        have d1 : PV RBox (Add g1 M) a_a (D 0) w11 := dpA hd2 0 rfl
        generalize hq1 : (D 0) = v13 at d1
        refine dg_sub (E' := [(17, v13)]) ⟨(congrArg some hq1), trivial⟩ ?_
        refine dg_plain rfl (ow_call rfl rfl Tryd.call91 (w_impl_sidesOf (hG.mono (lz2.trans hl11)) hC11.old d1 hx3) fun v14 w12 hv14 => ?_)
        obtain ⟨hv14, hb10⟩ := hv14
        have hl12 := Le.no (Add g1 M) hb10
        have hC12 := hC11.no hb10
        have ho12 := ho11.no hb10
        exact ⟨hb10, hv14⟩
      · intro w13 D hS3 hd3
        have hl13 := Le.no (Add g1 M) hS3
        have hC13 := hC5.no hS3
        have ho13 := ho3.no hS3
        refine dg_sub (E' := [(3, (.pointer (some p2)))]) ⟨rfl, trivial⟩ ?_
        refine dg_plain rfl (ow_load (R := RBox) rfl rfl (ARep.mono (lz4.trans hl13) hp2) (Tryd.sizeOf48 _) (Tryd.isAgg48 _) fun v15 hv15 => ?_)
        exact ⟨BX.refl _ _, hv15⟩
      · intro w14 D hS4 hd4
        have hl14 := Le.no (Add g1 M) hS4
        have hC14 := hC5.no hS4
        have ho14 := ho3.no hS4
        have d2 : PV RBox (Add g1 M) a_b (D 2) w14 := dpA hd4 2 rfl
        have d3 : PV (RArr 4 (RSlice RSpan)) (Add g1 M) x3 (D 1) w14 := dpA hd4 1 rfl
        generalize hq2 : (D 2) = v16 at d2
        refine dg_sub (E' := [(19, v16)]) ⟨(congrArg some hq2), trivial⟩ ?_
        refine dg_plain rfl (ow_call rfl rfl Tryd.call91 (w_impl_sidesOf (hG.mono (lz2.trans hl14)) hC14.old d2 hx4) fun v17 w15 hv17 => ?_)
        obtain ⟨hv17, hb11⟩ := hv17
        have hl15 := Le.no (Add g1 M) hb11
        have hC15 := hC14.no hb11
        have ho15 := ho14.no hb11
        exact ⟨hb11, hv17⟩
      · intro w16 D hS5 hd5
        have hl16 := Le.no (Add g1 M) hS5
        have hC16 := hC5.no hS5
        have ho16 := ho3.no hS5
        have d4 : PV (RArr 4 (RSlice RSpan)) (Add g1 M) x3 (D 1) w16 := dpA hd5 1 rfl
        have d5 : PV (RArr 4 (RSlice RSpan)) (Add g1 M) x4 (D 3) w16 := dpA hd5 3 rfl
        have d6 : PV (RArr 4 (RSlice RSpan)) (Add g1 M) x4 (D 3) w16 := dpA hd5 3 rfl
        generalize hq3 : (D 1) = v18 at d4
        generalize hq4 : (D 3) = v19 at d5
        refine dg_sub (E' := [(18, v18), (20, v19)]) ⟨(congrArg some hq3), (congrArg some hq4), trivial⟩ ?_
        refine dg_plain rfl (ow_call rfl rfl Tryd.call98 (w_impl_sides_meet (hG.mono (lz2.trans hl16)) hC16.old d4 d5 hx5) fun v20 w17 hv20 => ?_)
        obtain ⟨⟨v21, v22, rfl, hv21, hv22⟩, hb12⟩ := hv20
        have hl17 := Le.no (Add g1 M) hb12
        have hC17 := hC16.no hb12
        have ho17 := ho16.no hb12
        obtain ⟨bb2, hbb2, rfl⟩ := vbool_ex hv22
        exact ⟨hb12, ⟨_, _, rfl, hv21, (congrArg Value.bool hbb2)⟩⟩
      · intro w18 D hS6 hd6
        have hl18 := Le.no (Add g1 M) hS6
        have hC18 := hC5.no hS6
        have ho18 := ho3.no hS6
        have d7 : PT2 (PV (RArr 4 (RSlice RSpan)) (Add g1 M) x5.1) (PEq (.bool x5.2)) (D 4) w18 := dpA hd6 4 rfl
        obtain ⟨v23, v24, e1, hd7, hd8⟩ := d7
        obtain ⟨bb3, hq5, rfl⟩ : ∃ b, b = x5.2 ∧ v24 = .bool b := ⟨_, rfl, hd8⟩
        refine dg_sub (E' := [(21, (.tuple #[v23, (.bool bb3)]))]) ⟨(congrArg some e1), trivial⟩ ?_
        refine dg_plain rfl (ow_move rfl rfl ?_)
        exact ⟨BX.refl _ _, ⟨_, _, rfl, hd7, (congrArg Value.bool hq5)⟩⟩
      · intro w19 D hS7 hd9
        have hl19 := Le.no (Add g1 M) hS7
        have hC19 := hC5.no hS7
        have ho19 := ho3.no hS7
        have d8 : PT2 (PV (RArr 4 (RSlice RSpan)) (Add g1 M) x5.1) (PEq (.bool x5.2)) (D 5) w19 := dpA hd9 5 rfl
        obtain ⟨v25, v26, e2, hd10, hd11⟩ := d8
        obtain ⟨bb4, hq6, rfl⟩ : ∃ b, b = x5.2 ∧ v26 = .bool b := ⟨_, rfl, hd11⟩
        refine dg_sub (E' := [(16, (.tuple #[v25, (.bool bb4)]))]) ⟨(congrArg some e2), trivial⟩ ?_
        refine dg_plain rfl (ow_extract rfl rfl rfl ?_)
        exact ⟨BX.refl _ _, hd10⟩
      · intro w20 D hS8 hd12
        have hl20 := Le.no (Add g1 M) hS8
        have hC20 := hC5.no hS8
        have ho20 := ho3.no hS8
        have d9 : PT2 (PV (RArr 4 (RSlice RSpan)) (Add g1 M) x5.1) (PEq (.bool x5.2)) (D 5) w20 := dpA hd12 5 rfl
        obtain ⟨v27, v28, e3, hd13, hd14⟩ := d9
        obtain ⟨bb5, hq7, rfl⟩ : ∃ b, b = x5.2 ∧ v28 = .bool b := ⟨_, rfl, hd14⟩
        refine dg_sub (E' := [(16, (.tuple #[v27, (.bool bb5)]))]) ⟨(congrArg some e3), trivial⟩ ?_
        refine dg_plain rfl (ow_extract rfl rfl rfl ?_)
        exact ⟨BX.refl _ _, (congrArg Value.bool hq7)⟩
      · intro w21 D hS9 hd15
        have hl21 := Le.no (Add g1 M) hS9
        have hC21 := hC5.no hS9
        have ho21 := ho3.no hS9
        refine dg_sub (E' := []) trivial ?_
        refine dg_plain rfl (ow_alloc rfl (Tryd.zeroValue131 _) hC21 fun g3 w22 hg5 hg6 ho22 hb13 hl22 hC22 => ?_)
        have hn2 := Nat.ne_of_lt (Nat.lt_of_lt_of_le ho21.lt hg5)
        have ho23 := ho21.no hb13
        have hm4 : (Add g3 (Add g1 M)) g1 := .inr hm1
        have hm5 : (Add g3 (Add g1 M)) g3 := .inl rfl
        have ho24 : OwnA (RArr 4 (RSlice RSpan)) w22 (Add g3 (Add g1 M)) g3 131 [([] : List Span), ([] : List Span), ([] : List Span), ([] : List Span)] := OwnA.of ho22 ⟨rfl, ⟨_, _, rfl, (vslice_nil (R := RSpan) (w := w22) (M := (Add g3 (Add g1 M)))).cells, _, _, rfl, (vslice_nil (R := RSpan) (w := w22) (M := (Add g3 (Add g1 M)))).cells, _, _, rfl, (vslice_nil (R := RSpan) (w := w22) (M := (Add g3 (Add g1 M)))).cells, _, _, rfl, (vslice_nil (R := RSpan) (w := w22) (M := (Add g3 (Add g1 M)))).cells, rfl⟩⟩
        exact ⟨hb13, ⟨_, rfl, Nat.le_trans hS9.size hg5, ho22⟩⟩
      · intro w23 D hS10 hd16
        have d16 : PV (RArr 4 (RSlice RSpan)) (Add g1 M) x5.1 (D 6) w23 := dpA hd16 6 rfl
        have d17 : PEq (.bool x5.2) (D 7) w23 := dpA hd16 7 rfl
        have d18 : PNew w5 131 #[(.slice none 0 0), (.slice none 0 0), (.slice none 0 0), (.slice none 0 0)] (D 8) w23 := dpA hd16 8 rfl
        obtain ⟨g4, hq8, hg7, ho25⟩ := d18
        have hg8 := Nat.le_trans hC5.bx.size hg7
        have hl23 := (Le.no (Add g1 M) hS10).add hg7
        have hC23 := (hC5.no hS10).add ho25.lt hg8
        have hn3 := Nat.ne_of_lt (Nat.lt_of_lt_of_le ho3.lt hg7)
        have ho26 := ho3.no hS10
        have hm6 : (Add g4 (Add g1 M)) g1 := .inr hm1
        have hm7 : (Add g4 (Add g1 M)) g4 := .inl rfl
        have ho27 : OwnA (RArr 4 (RSlice RSpan)) w23 (Add g4 (Add g1 M)) g4 131 [([] : List Span), ([] : List Span), ([] : List Span), ([] : List Span)] := OwnA.of ho25 ⟨rfl, ⟨_, _, rfl, (vslice_nil (R := RSpan) (w := w23) (M := (Add g4 (Add g1 M)))).cells, _, _, rfl, (vslice_nil (R := RSpan) (w := w23) (M := (Add g4 (Add g1 M)))).cells, _, _, rfl, (vslice_nil (R := RSpan) (w := w23) (M := (Add g4 (Add g1 M)))).cells, _, _, rfl, (vslice_nil (R := RSpan) (w := w23) (M := (Add g4 (Add g1 M)))).cells, rfl⟩⟩
        have d19 : VRep (RArr 4 (RSlice RSpan)) w23 (Add g4 (Add g1 M)) x5.1 (D 6) := sides_free ho25 nil4 d16
        generalize hq9 : (D 6) = v29 at d19
        obtain ⟨bb6, hq10, hq11⟩ : ∃ b, b = x5.2 ∧ (D 7) = .bool b := ⟨_, rfl, d17⟩
        refine ls_sub (E' := [(5, (.pointer (some ⟨g4, 0, none⟩))), (22, v29), (2, (.pointer (some p1))), (3, (.pointer (some p2))), (4, (.pointer (some ⟨g1, 0, none⟩)))]) ⟨(congrArg some hq8), (congrArg some hq9), rfl, rfl, rfl, trivial⟩ ?_
        obtain ⟨cs1, h1, h2⟩ := ho27.own
        refine ls_op0 (by kernel_rfl) rfl rfl (ow_storeA (X := No) (R := (RArr 4 (RSlice RSpan))) rfl rfl rfl rfl h1 h2 (Tryd.sizeOf131 _) d19 hm7 (.inl hg8) hC23 fun w24 ho28 hb14 hl24 hC24 => ?_)
        have ho29 := ho26.go hb14 (fun e => hn3 e)
        refine ls_hang (by kernel_rfl) ?_
        refine lw_sub (E' := [(23, (.bool bb6)), (5, (.pointer (some ⟨g4, 0, none⟩))), (22, v29), (2, (.pointer (some p1))), (3, (.pointer (some p2))), (4, (.pointer (some ⟨g1, 0, none⟩)))]) ⟨(congrArg some hq11), rfl, rfl, rfl, rfl, rfl, trivial⟩ ?_
        refine lw_op rfl rfl rfl (ow_assign rfl rfl ?_)
        refine lw_nil ?_
        refine ew_then ?_
        refine cw_seq ?_
        refine cw_seq ?_
        refine cw_region ?_
        refine lw_op rfl rfl rfl (ow_move rfl rfl ?_)
        refine lw_op rfl rfl rfl (ow_not rfl rfl ?_)
        refine lw_nil ?_
        refine ew_then ?_
        replace h := cond_some h
        rcases h with ⟨hc3, h⟩ | ⟨hc3, h⟩
        · obtain rfl := hq10.trans hc3
          refine cw_false rfl ?_
          refine cw_skip ?_
          refine ew_then ?_
          refine cw_seq ?_
          refine cw_region ?_
          refine lw_op rfl rfl rfl (ow_loadA (R := (RArr 4 (RSlice RSpan))) rfl rfl rfl ho28 (Tryd.sizeOf131 _) (Tryd.isAgg131 _) fun v30 hv30 => ?_)
          replace h := bind_some h
          obtain ⟨x6, hx6, h⟩ := h
          have lz6 := ((lz2.trans hl23).trans hl24)
          refine lw_op rfl rfl rfl (ow_call rfl rfl Tryd.call99 (wt_impl_sides_box (hG.mono lz6) hC24.old (fun b hb => hY b (Nat.le_trans hC24.bx.size hb)) hv30 hx6) fun v31 w25 hv31 => ?_)
          obtain ⟨hv31, hb15⟩ := hv31
          have hl25 := Le.no (Add g4 (Add g1 M)) hb15
          have hC25 := hC24.no hb15
          have ho30 := ho29.no hb15
          have ho31 := ho28.no hb15 hl25
          obtain ⟨A1, c1, rfl, hw1⟩ := openT_Box hv31
          refine lw_op0 rfl rfl (ow_store (X := No) (us := [(.slice A1 x6.Sides.length c1)]) (cs' := #[(.slice A1 x6.Sides.length c1)]) rfl rfl rfl rfl ho30 (Tryd.sizeOf48 _) rfl rfl rfl rfl hm6 (.inl hg2) rfl hC25 fun w26 ho32 hb16 hl26 hC26 => ?_)
          have ho33 := ho31.go hb16 (fun e => hn3 e.symm) hl26
          refine lw_nil ?_
          refine ew_then ?_
          refine cw_ret ?_
          have hw2 : VRep (RBoxT Y 120) w26 (Add g4 (Add g1 M)) ({ Sides := x6.Sides } : Box) (.agg #[(.slice A1 x6.Sides.length c1)]) := shutT_Box (VRep.mono hl26 hw1)
          obtain rfl := Option.some.inj h
          exact ew_ret (res1 rfl (.cell rfl (own_loadVarA ho32 (Tryd.isAgg48 _) (Tryd.sizeOf48 _) rfl))) ⟨_, rfl, (hw2.mono hC26.back), hC26.bx⟩
        · obtain rfl := hq10.trans hc3
          refine cw_true rfl ?_
          refine cw_seq ?_
          refine cw_region ?_
          refine lw_op rfl rfl rfl (ow_build (v := .agg #[(.slice none 0 0)]) rfl rfl (by kernel_rfl) ?_)
          have hw3 : VRep (RBoxT Y 120) w24 (Add g4 (Add g1 M)) ({ Sides := ([] : List (List Span)) } : Box) (.agg #[(.slice none 0 0)]) := shutT_Box (vsliceT_nil (Y := Y) (R := RSpR 120) (w := w24) (M := (Add g4 (Add g1 M))))
          refine lw_op0 rfl rfl (ow_store (X := No) (us := [(.slice none 0 0)]) (cs' := #[(.slice none 0 0)]) rfl rfl rfl rfl ho29 (Tryd.sizeOf48 _) rfl rfl rfl rfl hm6 (.inl hg2) rfl hC24 fun w27 ho34 hb17 hl27 hC27 => ?_)
          have ho35 := ho28.go hb17 (fun e => hn3 e.symm) hl27
          refine lw_nil ?_
          refine ew_then ?_
          refine cw_ret ?_
          refine ew_thenR ?_
          have hw4 : VRep (RBoxT Y 120) w27 (Add g4 (Add g1 M)) ({ Sides := ([] : List (List Span)) } : Box) (.agg #[(.slice none 0 0)]) := shutT_Box (VRep.mono hl27 (vsliceT_nil (Y := Y) (R := RSpR 120) (w := w24) (M := (Add g4 (Add g1 M)))))
          obtain rfl := Option.some.inj h
          exact ew_ret (res1 rfl (.cell rfl (own_loadVarA ho34 (Tryd.isAgg48 _) (Tryd.sizeOf48 _) rfl))) ⟨_, rfl, (hw4.mono hC27.back), hC27.bx⟩
    · subst hc2
      refine cw_true rfl ?_
      refine cw_seq ?_
      refine cw_region ?_
      refine lw_op rfl rfl rfl (ow_build (v := .agg #[(.slice none 0 0)]) rfl rfl (by kernel_rfl) ?_)
      have hw5 : VRep (RBoxT Y 120) w5 (Add g1 M) ({ Sides := ([] : List (List Span)) } : Box) (.agg #[(.slice none 0 0)]) := shutT_Box (vsliceT_nil (Y := Y) (R := RSpR 120) (w := w5) (M := (Add g1 M)))
      refine lw_op0 rfl rfl (ow_store (X := No) (us := [(.slice none 0 0)]) (cs' := #[(.slice none 0 0)]) rfl rfl rfl rfl ho3 (Tryd.sizeOf48 _) rfl rfl rfl rfl hm1 (.inl hg2) rfl hC5 fun w28 ho36 hb18 hl28 hC28 => ?_)
      refine lw_nil ?_
      refine ew_then ?_
      refine cw_ret ?_
      refine ew_thenR ?_
      have hw6 : VRep (RBoxT Y 120) w28 (Add g1 M) ({ Sides := ([] : List (List Span)) } : Box) (.agg #[(.slice none 0 0)]) := shutT_Box (VRep.mono hl28 (vsliceT_nil (Y := Y) (R := RSpR 120) (w := w5) (M := (Add g1 M))))
      obtain rfl := Option.some.inj h
      exact ew_ret (res1 rfl (.cell rfl (own_loadVarA ho36 (Tryd.isAgg48 _) (Tryd.sizeOf48 _) rfl))) ⟨_, rfl, (hw6.mono hC28.back), hC28.bx⟩
  · subst hc1
    refine lw_off rfl rfl rfl rfl rfl rfl ?_
    refine lw_off rfl rfl rfl rfl rfl rfl ?_
    refine lw_off rfl rfl rfl rfl rfl rfl ?_
    refine lw_op rfl rfl rfl (ow_pickT rfl rfl rfl ?_)
    refine lw_nil ?_
    refine ew_then ?_
    refine cw_true rfl ?_
    refine cw_seq ?_
    refine cw_region ?_
    refine lw_op rfl rfl rfl (ow_build (v := .agg #[(.slice none 0 0)]) rfl rfl (by kernel_rfl) ?_)
    have hw7 : VRep (RBoxT Y 120) w4 (Add g1 M) ({ Sides := ([] : List (List Span)) } : Box) (.agg #[(.slice none 0 0)]) := shutT_Box (vsliceT_nil (Y := Y) (R := RSpR 120) (w := w4) (M := (Add g1 M)))
    refine lw_op0 rfl rfl (ow_store (X := No) (us := [(.slice none 0 0)]) (cs' := #[(.slice none 0 0)]) rfl rfl rfl rfl ho2 (Tryd.sizeOf48 _) rfl rfl rfl rfl hm1 (.inl hg2) rfl hC4 fun w29 ho37 hb19 hl29 hC29 => ?_)
    refine lw_nil ?_
    refine ew_then ?_
    refine cw_ret ?_
    refine ew_thenR ?_
    have hw8 : VRep (RBoxT Y 120) w29 (Add g1 M) ({ Sides := ([] : List (List Span)) } : Box) (.agg #[(.slice none 0 0)]) := shutT_Box (VRep.mono hl29 (vsliceT_nil (Y := Y) (R := RSpR 120) (w := w4) (M := (Add g1 M))))
    obtain rfl := Option.some.inj h
    exact ew_ret (res1 rfl (.cell rfl (own_loadVarA ho37 (Tryd.isAgg48 _) (Tryd.sizeOf48 _) rfl))) ⟨_, rfl, (hw8.mono hC29.back), hC29.bx⟩

theorem w_laws_heldSpanS {w : World} {M : Nat → Prop} (_hG : ARep (RArr 4 RShape) w M shapes ⟨0, 0, none⟩) (hO : ∀ b, M b → b < w.heap.size) {v0p : Value} {a_a : List Span} (h0 : VRep (RSlice RSpan) w M a_a v0p) {a_k : Int} {r : Int} (h : F.laws_heldSpanS a_a a_k = some r) :
  Calls Tryd.prog 156 [v0p, (.int .i64 a_k)].toArray w fun e w' => ∃ v, e = .returned v ∧ VRep RInt w' M r v ∧ BX No w w' := by
 have hC : Cx No w M w M := Cx.start hO (fun _ e => e.elim)
 clear _hG
 refine walk (N := 31) Tryd.func156 Z Tryd.ntmps156 Z (cw_seq (cw_region (lw_op Z Z Z (ow_assign Z Z (lw_nil (ew_then (cw_seq (cw_seq (cw_region (lw_op Z Z Z (ow_assign Z Z (lw_nil (ew_then ?_)))))))))))))
 replace h := bind_some h
 obtain ⟨lr1, hlr1, h⟩ := h
 refine cw_for hlr1 (fun s a w' => ∃ (M' : Nat → Prop), Fits 31 [(0, v0p), (1, (Zv s.1)), (5, (Zv s.2))] a ∧ Le w M w' M' ∧ Cx No w M w' M') ?_ ?_ ?_
 · exact fun a ha => ⟨M, ha.sub ⟨Z, Z, Z, Zt⟩, Le.refl _ _, hC⟩
 ·
  rintro ⟨k1, k2⟩ a w1 sr1 ⟨M1, hF1, hl1, hC1⟩ hb1 hR1
  refine cw_at (E := [(0, v0p), (1, (Zv k1)), (5, (Zv k2))]) hF1 (cw_seq (cw_seq (cw_region (lw_op Z Z Z (ow_move Z Z (lw_op Z Z Z (ow_move Z Z (lw_op Z Z Z (ow_len Z Z (VRep.mono hl1 h0) Tryd.underlying121 Z (lw_op Z Z Z (ow_lss Z Z Z fun bb1 hbb1 => lw_nil (ew_then ?_))))))))))))
  replace hb1 := cond_some hb1
  rcases hb1 with ⟨hc1, hb1⟩ | ⟨hc1, hb1⟩
  ·
   obtain rfl := hbb1.trans hc1
   refine cw_true Z (cw_skip (ew_then (cw_seq (cw_block (cw_seq (cw_seq (cw_region (lw_op Z Z Z (ow_move Z Z (lw_op Z Z Z (ow_move Z Z ?_)))))))))))
   replace hb1 := bind_some hb1
   obtain ⟨x1, hx1, hb1⟩ := hb1
   refine lw_op Z Z Z (ow_indexSlice (R := RSpan) Z Z Z (VRep.mono hl1 h0) Tryd.underlying121 (Tryd.sizeOf120 _) hx1 fun p1 hp1 => lw_op Z Z Z (ow_fieldAddr Z Z Tryd.underlying120 Z (Tryd.sizeOf3 _) (lw_op Z Z Z (ow_load (R := RInt) Z Z (hp1.fld fld_Span_Lo) (Tryd.sizeOf3 _) (Tryd.isAgg3 _) fun v3 hv3 => ?_))))
   obtain rfl := vint_eq hv3
   refine lw_op Z Z Z (ow_move Z Z (lw_op Z Z Z (ow_neqI Z Z Z fun bb2 hbb2 => lw_nil (ew_then ?_))))
   replace hb1 := cond_some hb1
   rcases hb1 with ⟨hc2, hb1⟩ | ⟨hc2, hb1⟩
   ·
    obtain rfl := hbb2.trans hc2
    refine cw_true Z (cw_seq (cw_region (lw_op Z Z Z (ow_assign Z Z (lw_nil (ew_then (cw_ret (ew_thenR (ew_blockR (ew_thenR (ew_thenR (ew_blockR (ew_brkR (ew_thenR ?_))))))))))))))
    have e1 := hR1 _ (sj hb1).symm
    subst e1
    obtain rfl := sj h
    exact ew_ret (res1 Z (.tmp Z)) ⟨_, Z, ((vint _)), hC1.bx⟩
   ·
    obtain rfl := hbb2.trans hc2
    refine cw_false Z (cw_skip (ew_then (cw_seq (cw_region (lw_op Z Z Z (ow_move Z Z (lw_op Z Z Z (ow_add Z Z Z (lw_op Z Z Z (ow_assign Z Z (lw_nil (ew_then (cw_seq (cw_seq (cw_region (lw_op Z Z Z (ow_move Z Z (lw_op Z Z Z (ow_move Z Z (lw_op Z Z Z (ow_indexSlice (R := RSpan) Z Z Z (VRep.mono hl1 h0) Tryd.underlying121 (Tryd.sizeOf120 _) hx1 fun p2 hp2 => lw_op Z Z Z (ow_fieldAddr Z Z Tryd.underlying120 Z (Tryd.sizeOf3 _) (lw_op Z Z Z (ow_load (R := RInt) Z Z (hp2.fld fld_Span_Hi) (Tryd.sizeOf3 _) (Tryd.isAgg3 _) fun v4 hv4 => ?_))))))))))))))))))))))))
    obtain rfl := vint_eq hv4
    refine lw_op Z Z Z (ow_move Z Z (lw_op Z Z Z (ow_neqI Z Z Z fun bb3 hbb3 => lw_nil (ew_then ?_))))
    replace hb1 := cond_some hb1
    rcases hb1 with ⟨hc3, hb1⟩ | ⟨hc3, hb1⟩
    ·
     obtain rfl := hbb3.trans hc3
     refine cw_true Z (cw_seq (cw_region (lw_op Z Z Z (ow_assign Z Z (lw_nil (ew_then (cw_ret (ew_thenR (ew_blockR (ew_thenR (ew_thenR (ew_blockR (ew_brkR (ew_thenR ?_))))))))))))))
     have e2 := hR1 _ (sj hb1).symm
     subst e2
     obtain rfl := sj h
     exact ew_ret (res1 Z (.tmp Z)) ⟨_, Z, ((vint _)), hC1.bx⟩
    ·
     obtain rfl := hbb3.trans hc3
     exact cw_false Z (cw_skip (ew_then (cw_region (lw_op Z Z Z (ow_move Z Z (lw_op Z Z Z (ow_add Z Z Z (lw_op Z Z Z (ow_assign Z Z (lw_nil (ew_blockN (ew_then (cw_region (lw_op Z Z Z (ow_move Z Z (lw_op Z Z Z (ow_add Z Z Z (lw_op Z Z Z (ow_assign Z Z (lw_nil (ew_nxt ((W ((W (k1 + 1)) + 1)), (W (k2 + 1))) hb1 fun a ha => ⟨M1, (ha.sub ⟨Z, Z, Z, Zt⟩), hl1, hC1⟩)))))))))))))))))))))
  ·
   obtain rfl := hbb1.trans hc1
   exact cw_false Z (cw_exit (ew_thenX (ew_thenX (ew_blockX (ew_brk (k1, k2) hb1 fun a ha => ⟨M1, (ha.sub ⟨Z, Z, Z, Zt⟩), hl1, hC1⟩)))))
 ·
  rintro ⟨k3, k4⟩ a w2 hlr2 ⟨M2, hF2, hl2, hC2⟩
  subst hlr2
  refine ew_at (E := [(0, v0p), (1, (Zv k3)), (5, (Zv k4))]) hF2 (ew_then (cw_seq (cw_region (lw_op Z Z Z (ow_move Z Z (lw_op Z Z Z (ow_assign Z Z (lw_nil (ew_then (cw_ret ?_))))))))))
  obtain rfl := sj h
  exact ew_ret (res1 Z (.tmp Z)) ⟨_, Z, ((vint _)), hC2.bx⟩

theorem w_laws_heldSpanSS {w : World} {M : Nat → Prop} (hG : ARep (RArr 4 RShape) w M shapes ⟨0, 0, none⟩) (hO : ∀ b, M b → b < w.heap.size) {v0p : Value} {a_a : List (List Span)} (h0 : VRep (RSlice (RSlice RSpan)) w M a_a v0p) {a_k : Int} {r : Int} (h : F.laws_heldSpanSS a_a a_k = some r) :
  Calls Tryd.prog 100 [v0p, (.int .i64 a_k)].toArray w fun e w' => ∃ v, e = .returned v ∧ VRep RInt w' M r v ∧ BX No w w' := by
 have hC : Cx No w M w M := Cx.start hO (fun _ e => e.elim)
 refine walk (N := 21) Tryd.func100 Z Tryd.ntmps100 Z (cw_seq (cw_region (lw_op Z Z Z (ow_assign Z Z (lw_nil (ew_then (cw_seq (cw_seq (cw_region (lw_op Z Z Z (ow_assign Z Z (lw_nil (ew_then ?_)))))))))))))
 replace h := bind_some h
 obtain ⟨lr1, hlr1, h⟩ := h
 refine cw_for hlr1 (fun s a w' => ∃ (M' : Nat → Prop), Fits 21 [(0, v0p), (1, (Zv s.1)), (5, (Zv s.2))] a ∧ Le w M w' M' ∧ Cx No w M w' M') ?_ ?_ ?_
 · exact fun a ha => ⟨M, ha.sub ⟨Z, Z, Z, Zt⟩, Le.refl _ _, hC⟩
 ·
  rintro ⟨k1, k2⟩ a w1 sr1 ⟨M1, hF1, hl1, hC1⟩ hb1 hR1
  refine cw_at (E := [(0, v0p), (1, (Zv k1)), (5, (Zv k2))]) hF1 (cw_seq (cw_seq (cw_region (lw_op Z Z Z (ow_move Z Z (lw_op Z Z Z (ow_move Z Z (lw_op Z Z Z (ow_len Z Z (VRep.mono hl1 h0) Tryd.underlying46 Z (lw_op Z Z Z (ow_lss Z Z Z fun bb1 hbb1 => lw_nil (ew_then ?_))))))))))))
  replace hb1 := cond_some hb1
  rcases hb1 with ⟨hc1, hb1⟩ | ⟨hc1, hb1⟩
  ·
   obtain rfl := hbb1.trans hc1
   refine cw_true Z (cw_skip (ew_then (cw_seq (cw_block (cw_seq (cw_region (lw_op Z Z Z (ow_move Z Z (lw_op Z Z Z (ow_move Z Z ?_))))))))))
   replace hb1 := bind_some hb1
   obtain ⟨x1, hx1, hb1⟩ := hb1
   refine lw_op Z Z Z (ow_indexSlice (R := (RSlice RSpan)) Z Z Z (VRep.mono hl1 h0) Tryd.underlying46 (Tryd.sizeOf121 _) hx1 fun p1 hp1 => lw_op Z Z Z (ow_load (R := (RSlice RSpan)) Z Z hp1 (Tryd.sizeOf121 _) (Tryd.isAgg121 _) fun v3 hv3 => lw_op Z Z Z (ow_move Z Z ?_)))
   replace hb1 := bind_some hb1
   obtain ⟨x2, hx2, hb1⟩ := hb1
   refine lw_op Z Z Z (ow_call Z Z Tryd.call156 (w_laws_heldSpanS (hG.mono hl1) hC1.old hv3 hx2) fun v4 w2 hv4 => ?_)
   obtain ⟨hv4, hb2⟩ := hv4
   have hl2 := Le.no M1 hb2
   have hC2 := hC1.no hb2
   obtain rfl := vint_eq hv4
   refine lw_op Z Z Z (ow_assign Z Z (lw_nil (ew_then (cw_seq (cw_region (lw_op Z Z Z (ow_move Z Z (lw_op Z Z Z (ow_lss Z Z Z fun bb2 hbb2 => lw_nil (ew_then ?_))))))))))
   replace hb1 := cond_some hb1
   rcases hb1 with ⟨hc2, hb1⟩ | ⟨hc2, hb1⟩
   ·
    obtain rfl := hbb2.trans hc2
    refine cw_true Z (cw_seq (cw_region (lw_op Z Z Z (ow_assign Z Z (lw_nil (ew_then (cw_ret (ew_blockR (ew_thenR (ew_thenR (ew_blockR (ew_brkR (ew_thenR ?_)))))))))))))
    have e1 := hR1 _ (sj hb1).symm
    subst e1
    obtain rfl := sj h
    exact ew_ret (res1 Z (.tmp Z)) ⟨_, Z, ((vint _)), hC2.bx⟩
   ·
    obtain rfl := hbb2.trans hc2
    exact cw_false Z (cw_skip (ew_blockN (ew_then (cw_region (lw_op Z Z Z (ow_move Z Z (lw_op Z Z Z (ow_add Z Z Z (lw_op Z Z Z (ow_assign Z Z (lw_nil (ew_nxt (x2, (W (k2 + 1))) hb1 fun a ha => ⟨M1, (ha.sub ⟨Z, Z, Z, Zt⟩), (hl1.trans hl2), hC2⟩))))))))))))
  ·
   obtain rfl := hbb1.trans hc1
   exact cw_false Z (cw_exit (ew_thenX (ew_thenX (ew_blockX (ew_brk (k1, k2) hb1 fun a ha => ⟨M1, (ha.sub ⟨Z, Z, Z, Zt⟩), hl1, hC1⟩)))))
 ·
  rintro ⟨k3, k4⟩ a w3 hlr2 ⟨M2, hF2, hl3, hC3⟩
  subst hlr2
  refine ew_at (E := [(0, v0p), (1, (Zv k3)), (5, (Zv k4))]) hF2 (ew_then (cw_seq (cw_region (lw_op Z Z Z (ow_move Z Z (lw_op Z Z Z (ow_assign Z Z (lw_nil (ew_then (cw_ret ?_))))))))))
  obtain rfl := sj h
  exact ew_ret (res1 Z (.tmp Z)) ⟨_, Z, ((vint _)), hC3.bx⟩

theorem w_laws_heldBox {w : World} {M : Nat → Prop} (hG : ARep (RArr 4 RShape) w M shapes ⟨0, 0, none⟩) (hO : ∀ b, M b → b < w.heap.size) {v0p : Value} {a_a : Box} (h0 : VRep RBox w M a_a v0p) {a_k : Int} {r : Int} (h : F.laws_heldBox a_a a_k = some r) :
  Calls Tryd.prog 32 [v0p, (.int .i64 a_k)].toArray w fun e w' => ∃ v, e = .returned v ∧ VRep RInt w' M r v ∧ BX No w w' := by
 have hC : Cx No w M w M := Cx.start hO (fun _ e => e.elim)
 refine walk (N := 12) Tryd.func32 Z Tryd.ntmps32 Z (cw_seq (cw_region (lw_op Z Z Z (ow_box (R := RBox) Z Z h0 hC fun p1 w1 hp1 hb1 hl1 hC1 => lw_op Z Z Z (ow_assign Z Z (lw_nil (ew_then (cw_seq (cw_region (lw_op Z Z Z (ow_fieldAddr Z Z Tryd.underlying48 Z (Tryd.sizeOf46 _) (lw_op Z Z Z (ow_load (R := (RSlice (RSlice RSpan))) Z Z (hp1.fld fld_Box_Sides) (Tryd.sizeOf46 _) (Tryd.isAgg46 _) fun v1 hv1 => lw_op Z Z Z (ow_move Z Z ?_))))))))))))))
 replace h := bind_some h
 obtain ⟨x1, hx1, h⟩ := h
 refine lw_op Z Z Z (ow_call Z Z Tryd.call100 (w_laws_heldSpanSS (hG.mono hl1) hC1.old hv1 hx1) fun v2 w2 hv2 => ?_)
 obtain ⟨hv2, hb2⟩ := hv2
 have hC2 := hC1.no hb2
 obtain rfl := vint_eq hv2
 refine lw_op Z Z Z (ow_assign Z Z (lw_nil (ew_then (cw_seq (cw_seq (cw_region (lw_op Z Z Z (ow_move Z Z (lw_op Z Z Z (ow_lss Z Z Z fun bb1 hbb1 => lw_nil (ew_then ?_)))))))))))
 replace h := cond_some h
 rcases h with ⟨hc1, h⟩ | ⟨hc1, h⟩
 ·
  obtain rfl := hbb1.trans hc1
  refine cw_true Z (cw_seq (cw_region (lw_op Z Z Z (ow_assign Z Z (lw_nil (ew_then (cw_ret (ew_thenR ?_))))))))
  obtain rfl := sj h
  exact ew_ret (res1 Z (.tmp Z)) ⟨_, Z, ((vint _)), hC2.bx⟩
 ·
  obtain rfl := hbb1.trans hc1
  refine cw_false Z (cw_skip (ew_then (cw_seq (cw_region (lw_op Z Z Z (ow_move Z Z (lw_op Z Z Z (ow_assign Z Z (lw_nil (ew_then (cw_ret ?_)))))))))))
  obtain rfl := sj h
  exact ew_ret (res1 Z (.tmp Z)) ⟨_, Z, ((vint _)), hC2.bx⟩

theorem w_laws_FnExactBoxMeet {w : World} {M : Nat → Prop} (hG : ARep (RArr 4 RShape) w M shapes ⟨0, 0, none⟩) (hO : ∀ b, M b → b < w.heap.size) {v0p : Value} {a_aA : Box} (h0 : VRep RBox w M a_aA v0p) {v1p : Value} {a_aB : Box} (h1 : VRep RBox w M a_aB v1p) {r : Bool} (h : F.laws_FnExactBoxMeet a_aA a_aB = some r) :
  Calls Tryd.prog 6 [v0p, v1p].toArray w fun e w' => ∃ v, e = .returned v ∧ VRep RBool w' M r v ∧ BX No w w' := by
 have hC : Cx No w M w M := Cx.start hO (fun _ e => e.elim)
 refine walk (N := 92) Tryd.func6 Z Tryd.ntmps6 Z (cw_seq (cw_region (lw_op Z Z Z (ow_box (R := RBox) Z Z h0 hC fun p1 w1 hp1 hb1 hl1 hC1 => lw_op Z Z Z (ow_box (R := RBox) Z Z (VRep.mono hl1 h1) hC1 fun p2 w2 hp2 hb2 hl2 hC2 => lw_op Z Z Z (ow_assign Z Z (lw_nil (ew_then (cw_seq (cw_region (lw_op Z Z Z (ow_assign Z Z (lw_nil (ew_then (cw_seq (cw_region (lw_op Z Z Z (ow_load (R := RBox) Z Z (ARep.mono hl2 hp1) (Tryd.sizeOf42 _) (Tryd.isAgg42 _) fun v1 hv1 => lw_op Z Z Z (ow_move Z Z ?_)))))))))))))))))))
 replace h := bind_some h
 obtain ⟨x1, hx1, h⟩ := h
 refine lw_op Z Z Z (ow_call Z Z Tryd.call21 (w_laws_szBox (hG.mono (hl1.trans hl2)) hC2.old hv1 hx1) fun v2 w3 hv2 => ?_)
 obtain ⟨hv2, hb3⟩ := hv2
 have hl3 := Le.no M hb3
 have hC3 := hC2.no hb3
 obtain rfl := vint_eq hv2
 refine lw_op Z Z Z (ow_assign Z Z (lw_nil (ew_then (cw_seq (cw_seq (cw_region (lw_op Z Z Z (ow_move Z Z (lw_op Z Z Z (ow_lss Z Z Z fun bb1 hbb1 => lw_nil (ew_then ?_)))))))))))
 replace h := cond_some h
 rcases h with ⟨hc1, h⟩ | ⟨hc1, h⟩
 ·
  obtain rfl := hbb1.trans hc1
  refine cw_true Z (cw_seq (cw_region (lw_op Z Z Z (ow_assign Z Z (lw_nil (ew_then (cw_ret (ew_thenR ?_))))))))
  obtain rfl := sj h
  exact ew_ret (res1 Z (.tmp Z)) ⟨_, Z, ((vbool _)), hC3.bx⟩
 ·
  obtain rfl := hbb1.trans hc1
  refine cw_false Z (cw_skip (ew_then (cw_seq (cw_region (lw_op Z Z Z (ow_load (R := RBox) Z Z (ARep.mono hl3 hp2) (Tryd.sizeOf42 _) (Tryd.isAgg42 _) fun v3 hv3 => lw_op Z Z Z (ow_move Z Z ?_)))))))
  replace h := bind_some h
  obtain ⟨x2, hx2, h⟩ := h
  have lz1 := ((hl1.trans hl2).trans hl3)
  refine lw_op Z Z Z (ow_call Z Z Tryd.call21 (w_laws_szBox (hG.mono lz1) hC3.old hv3 hx2) fun v4 w4 hv4 => ?_)
  obtain ⟨hv4, hb4⟩ := hv4
  have hl4 := Le.no M hb4
  have hC4 := hC3.no hb4
  obtain rfl := vint_eq hv4
  refine lw_op Z Z Z (ow_assign Z Z (lw_nil (ew_then (cw_seq (cw_seq (cw_region (lw_op Z Z Z (ow_move Z Z (lw_op Z Z Z (ow_lss Z Z Z fun bb2 hbb2 => lw_nil (ew_then ?_)))))))))))
  replace h := cond_some h
  rcases h with ⟨hc2, h⟩ | ⟨hc2, h⟩
  ·
   obtain rfl := hbb2.trans hc2
   refine cw_true Z (cw_seq (cw_region (lw_op Z Z Z (ow_assign Z Z (lw_nil (ew_then (cw_ret (ew_thenR ?_))))))))
   obtain rfl := sj h
   exact ew_ret (res1 Z (.tmp Z)) ⟨_, Z, ((vbool _)), hC4.bx⟩
  ·
   obtain rfl := hbb2.trans hc2
   refine cw_false Z (cw_skip (ew_then (cw_seq ?_)))
   replace h := bind_some h
   obtain ⟨x3, hx3, h⟩ := h
   replace h := bind_some h
   obtain ⟨x4, hx4, h⟩ := h
   replace h := bind_some h
   obtain ⟨x5, hx5, h⟩ := h
   have lz2 := (lz1.trans hl4)
   have lz3 := ((hl2.trans hl3).trans hl4)
   have lz4 := (hl3.trans hl4)
   refine cw_sub (E' := [(2, (.pointer (some p1))), (3, (.pointer (some p2))), (4, (.bool false))]) ⟨Z, Z, Z, Zt⟩ (cw_drawQ 6 [PV RBox M a_aA, PV RBox M x3, PV RBox M a_aB, PV RBox M x4, PV RBox M x5, PNew w4 48 #[(.slice none 0 0)]] (by kernel_rfl) Z (by kernel_rfl) ⟨PV.mono _ _ _, PV.mono _ _ _, PV.mono _ _ _, PV.mono _ _ _, PV.mono _ _ _, PNew.mono _ _ _, Zt⟩ ⟨?_, ?_, ?_, ?_, ?_, ?_, Zt⟩ ?_)
   ·
    intro w9 D hS1 hd1
    have hl9 := Le.no M hS1
    exact dg_sub (E' := [(2, (.pointer (some p1)))]) ⟨Z, Zt⟩ (dg_plain Z (ow_load (R := RBox) Z Z (ARep.mono (lz3.trans hl9) hp1) (Tryd.sizeOf42 _) (Tryd.isAgg42 _) fun v10 hv10 => ⟨BX.refl _ _, hv10⟩))
   ·
    intro w10 D hS2 hd2
    have hl10 := Le.no M hS2
    have hC10 := hC4.no hS2
    have d1 : PV RBox M a_aA (D 0) w10 := dpA hd2 0 Z
    generalize hq1 : (D 0) = v11 at d1
    refine dg_sub (E' := [(24, v11)]) ⟨congrArg some hq1, Zt⟩ (dg_plain Z (ow_call Z Z Tryd.call23 (wu_laws_toBox (hG.mono (lz2.trans hl10)) hC10.old (Y := (fun b => w10.heap.size ≤ b)) (fun _ hb => hb) d1 hx3) fun v12 w11 hv12 => ?_))
    obtain ⟨hv12, hb9⟩ := hv12
    have hw3 := Fg.vrep fg_Box hv12
    exact ⟨hb9, hw3⟩
   ·
    intro w12 D hS3 hd3
    have hl12 := Le.no M hS3
    exact dg_sub (E' := [(3, (.pointer (some p2)))]) ⟨Z, Zt⟩ (dg_plain Z (ow_load (R := RBox) Z Z (ARep.mono (lz4.trans hl12) hp2) (Tryd.sizeOf42 _) (Tryd.isAgg42 _) fun v13 hv13 => ⟨BX.refl _ _, hv13⟩))
   ·
    intro w13 D hS4 hd4
    have hl13 := Le.no M hS4
    have hC13 := hC4.no hS4
    have d2 : PV RBox M a_aB (D 2) w13 := dpA hd4 2 Z
    generalize hq2 : (D 2) = v14 at d2
    refine dg_sub (E' := [(26, v14)]) ⟨congrArg some hq2, Zt⟩ (dg_plain Z (ow_call Z Z Tryd.call23 (wu_laws_toBox (hG.mono (lz2.trans hl13)) hC13.old (Y := (fun b => w13.heap.size ≤ b)) (fun _ hb => hb) d2 hx4) fun v15 w14 hv15 => ?_))
    obtain ⟨hv15, hb10⟩ := hv15
    have hw4 := Fg.vrep fg_Box hv15
    exact ⟨hb10, hw4⟩
   ·
    intro w15 D hS5 hd5
    have hl15 := Le.no M hS5
    have hC15 := hC4.no hS5
    have d4 : PV RBox M x3 (D 1) w15 := dpA hd5 1 Z
    have d5 : PV RBox M x4 (D 3) w15 := dpA hd5 3 Z
    generalize hq3 : (D 1) = v16 at d4
    generalize hq4 : (D 3) = v17 at d5
    refine dg_sub (E' := [(25, v16), (27, v17)]) ⟨congrArg some hq3, congrArg some hq4, Zt⟩ (dg_plain Z (ow_call Z Z Tryd.call30 (w_spec_BoxMeet (hG.mono (lz2.trans hl15)) hC15.old d4 d5 hx5) fun v18 w16 hv18 => ?_))
    obtain ⟨hv18, hb11⟩ := hv18
    exact ⟨hb11, hv18⟩
   ·
    intro w17 D hS6 hd6
    have hC17 := hC4.no hS6
    exact dg_sub (E' := []) trivial (dg_plain Z (ow_alloc Z (Tryd.zeroValue48 _) hC17 fun g2 w18 hg3 hg4 ho2 hb12 hl18 hC18 => ⟨hb12, ⟨_, Z, Nat.le_trans hS6.size hg3, ho2⟩⟩))
   ·
    intro w19 D hS7 hd7
    have d11 : PV RBox M x5 (D 4) w19 := dpA hd7 4 Z
    have d12 : PNew w4 48 #[(.slice none 0 0)] (D 5) w19 := dpA hd7 5 Z
    obtain ⟨g3, hq5, hg5, ho3⟩ := d12
    have hg6 := Nat.le_trans hC4.bx.size hg5
    have hl19 := (Le.no M hS7).add hg5
    have hC19 := (hC4.no hS7).add ho3.lt hg6
    have hm3 : (Add g3 M) g3 := .inl Z
    have d13 : VRep RBox w19 (Add g3 M) x5 (D 4) := box_free ho3 (F.meet_ne hx5) d11
    generalize hq6 : (D 4) = v19 at d13
    refine lw_sub (E' := [(6, (Zw g3 0)), (28, v19), (2, (.pointer (some p1))), (3, (.pointer (some p2))), (4, (.bool false))]) ⟨congrArg some hq5, congrArg some hq6, Z, Z, Z, Zt⟩ ?_
    obtain ⟨A1, c1, rfl, hw5⟩ := open_Box d13
    refine lw_op0 Z Z (ow_store (X := No) (us := [(.slice A1 x5.Sides.length c1)]) (cs' := #[(.slice A1 x5.Sides.length c1)]) Z Z Z Z ho3 (Tryd.sizeOf48 _) Z Z Z Z hm3 (.inl hg6) Z hC19 fun w20 ho4 hb13 hl20 hC20 => lw_nil (ew_then (cw_seq (cw_region ?_))))
    have lz5 := ((lz3.trans hl19).trans hl20)
    refine lw_op Z Z Z (ow_load (R := RBox) Z Z (ARep.mono lz5 hp1) (Tryd.sizeOf42 _) (Tryd.isAgg42 _) fun v20 hv20 => ?_)
    have lz6 := ((lz2.trans hl19).trans hl20)
    refine lw_op Z Z Z (ow_call Z Z Tryd.call23 (wu_laws_toBox (hG.mono lz6) hC20.old (Y := (fun b => w20.heap.size ≤ b)) (fun _ hb => hb) hv20 hx3) fun v21 w21 hv21 => ?_)
    obtain ⟨hv21, hb14⟩ := hv21
    have hl21 := Le.no (Add g3 M) hb14
    have hC21 := hC20.no hb14
    have ho5 := ho4.no hb14
    have hw6 := Fg.vrep fg_Box hv21
    have hw7 := Wd.vrep wd_Box hv21
    have hu1 := UFz.yf (fun b => w20.heap.size ≤ b) w21
    have hs1 : w20.heap.size ≤ w20.heap.size := Nat.le_refl _
    have hy1 := fun (h : (YF (fun b => w20.heap.size ≤ b) w21) g3) => Nat.lt_irrefl _ (Nat.lt_of_lt_of_le ho4.lt h.1)
    refine lw_op Z Z Z (ow_alloc Z (Tryd.zeroValue48 _) hC21 fun g4 w22 hg7 hg8 ho6 hb15 hl22 hC22 => ?_)
    have hy2 := fun (h : (YF (fun b => w20.heap.size ≤ b) w21) g4) => Nat.lt_irrefl _ (Nat.lt_of_lt_of_le (hu1 _ h).1 hg7)
    have hw8 := VRep.mono (Le.no _ hb15) hw7
    have hu2 := UFz.no hu1 hb15
    have hn1 := Nat.ne_of_lt (Nat.lt_of_lt_of_le ho5.lt hg7)
    have ho7 := ho5.no hb15
    have hm5 : (Add g4 (Add g3 M)) g4 := .inl Z
    obtain ⟨A2, c2, rfl, hw9⟩ := open_Box hw6
    refine lw_op0 Z Z (ow_store (X := No) (us := [(.slice A2 x3.Sides.length c2)]) (cs' := #[(.slice A2 x3.Sides.length c2)]) Z Z Z Z ho6 (Tryd.sizeOf48 _) Z Z Z Z hm5 (.inl hg8) Z hC22 fun w23 ho8 hb16 hl23 hC23 => ?_)
    have hw10 := VRep.other hw8 hb16 (fun b e h => hy2 ((show b = g4 from e) ▸ h))
    have hu3 := UFz.other hu2 hb16 (fun b e h => hy2 ((show b = g4 from e) ▸ h))
    have ho9 := ho7.go hb16 (fun e => hn1 e)
    refine lw_nil (ew_then (cw_seq (cw_region ?_)))
    have lz7 := (((((lz4.trans hl19).trans hl20).trans hl21).trans hl22).trans hl23)
    refine lw_op Z Z Z (ow_load (R := RBox) Z Z (ARep.mono lz7 hp2) (Tryd.sizeOf42 _) (Tryd.isAgg42 _) fun v22 hv22 => ?_)
    have lz8 := (((lz6.trans hl21).trans hl22).trans hl23)
    refine lw_op Z Z Z (ow_call Z Z Tryd.call23 (wu_laws_toBox (hG.mono lz8) hC23.old (Y := (fun b => w23.heap.size ≤ b)) (fun _ hb => hb) hv22 hx4) fun v23 w24 hv23 => ?_)
    obtain ⟨hv23, hb17⟩ := hv23
    have hl24 := Le.no (Add g4 (Add g3 M)) hb17
    have hC24 := hC23.no hb17
    have hw11 := VRep.mono (Le.no _ hb17) hw10
    have hu4 := UFz.no hu3 hb17
    have ho10 := ho9.no hb17
    have ho11 := ho8.no hb17
    have hw12 := Fg.vrep fg_Box hv23
    have hw13 := Wd.vrep wd_Box hv23
    have hu5 := UFz.yf (fun b => w23.heap.size ≤ b) w24
    have hs2 : w21.heap.size ≤ w23.heap.size := (hl22.trans hl23).size
    have hs3 : w20.heap.size ≤ w23.heap.size := ((hl21.trans hl22).trans hl23).size
    have hy3 := fun (h : (YF (fun b => w23.heap.size ≤ b) w24) g3) => Nat.lt_irrefl _ (Nat.lt_of_lt_of_le ho9.lt h.1)
    refine lw_op Z Z Z (ow_alloc Z (Tryd.zeroValue48 _) hC24 fun g5 w25 hg9 hg10 ho12 hb18 hl25 hC25 => ?_)
    have hy5 := fun (h : (YF (fun b => w20.heap.size ≤ b) w21) g5) => Nat.lt_irrefl _ (Nat.lt_of_lt_of_le (hu4 _ h).1 hg9)
    have hy6 := fun (h : (YF (fun b => w23.heap.size ≤ b) w24) g5) => Nat.lt_irrefl _ (Nat.lt_of_lt_of_le (hu5 _ h).1 hg9)
    have hw14 := VRep.mono (Le.no _ hb18) hw11
    have hu6 := UFz.no hu4 hb18
    have hw15 := VRep.mono (Le.no _ hb18) hw13
    have hu7 := UFz.no hu5 hb18
    have hn2 := Nat.ne_of_lt (Nat.lt_of_lt_of_le ho10.lt hg9)
    have ho13 := ho10.no hb18
    have hn3 := Nat.ne_of_lt (Nat.lt_of_lt_of_le ho11.lt hg9)
    have ho14 := ho11.no hb18
    have hm8 : (Add g5 (Add g4 (Add g3 M))) g5 := .inl Z
    obtain ⟨A3, c3, rfl, hw16⟩ := open_Box hw12
    refine lw_op0 Z Z (ow_store (X := No) (us := [(.slice A3 x4.Sides.length c3)]) (cs' := #[(.slice A3 x4.Sides.length c3)]) Z Z Z Z ho12 (Tryd.sizeOf48 _) Z Z Z Z hm8 (.inl hg10) Z hC25 fun w26 ho15 hb19 hl26 hC26 => ?_)
    have hw17 := VRep.other hw14 hb19 (fun b e h => hy5 ((show b = g5 from e) ▸ h))
    have hu8 := UFz.other hu6 hb19 (fun b e h => hy5 ((show b = g5 from e) ▸ h))
    have hw18 := VRep.other hw15 hb19 (fun b e h => hy6 ((show b = g5 from e) ▸ h))
    have hu9 := UFz.other hu7 hb19 (fun b e h => hy6 ((show b = g5 from e) ▸ h))
    have ho16 := ho13.go hb19 (fun e => hn2 e)
    have ho17 := ho14.go hb19 (fun e => hn3 e)
    refine lw_nil (ew_then (cw_seq (cw_region (lw_op Z Z Z (ow_loadOwnA Z Z Z ho17 (Tryd.isAgg48 _) (Tryd.sizeOf48 _) Z ?_)))))
    have lz9 := ((((hl22.trans hl23).trans hl24).trans hl25).trans hl26)
    have hw19 : VRep RBox w26 (Add g5 (Add g4 (Add g3 M))) ({ Sides := x3.Sides } : Box) (.agg #[(.slice A2 x3.Sides.length c2)]) := shut_Box (VRep.mono lz9 hw9)
    refine lw_op Z Z Z (ow_loadOwnA Z Z Z ho15 (Tryd.isAgg48 _) (Tryd.sizeOf48 _) Z ?_)
    have hw20 : VRep RBox w26 (Add g5 (Add g4 (Add g3 M))) ({ Sides := x4.Sides } : Box) (.agg #[(.slice A3 x4.Sides.length c3)]) := shut_Box (VRep.mono (hl25.trans hl26) hw16)
    replace h := bind_some h
    obtain ⟨x6, hx6, h⟩ := h
    have lz10 := (((lz8.trans hl24).trans hl25).trans hl26)
    refine lw_op Z Z Z (ow_call Z Z Tryd.call31 (wt_impl_BoxMeet (hG.mono lz10) hC26.old (Y := (fun b => w26.heap.size ≤ b)) (fun _ hb => hb) hw19 hw20 hx6) fun v24 w27 hv24 => ?_)
    obtain ⟨hv24, hb20⟩ := hv24
    have hl27 := Le.no (Add g5 (Add g4 (Add g3 M))) hb20
    have hC27 := hC26.no hb20
    have hw21 := VRep.mono (Le.no _ hb20) hw17
    have hu10 := UFz.no hu8 hb20
    have hw22 := VRep.mono (Le.no _ hb20) hw18
    have hu11 := UFz.no hu9 hb20
    have ho18 := ho16.no hb20
    have ho19 := ho17.no hb20
    have ho20 := ho15.no hb20
    have hw23 := Fg.vrep (Fg.in_ fgBoxS) hv24
    have hw24 := RIn.yb bdBoxS hv24
    have hs4 : w21.heap.size ≤ w26.heap.size := ((((hl22.trans hl23).trans hl24).trans hl25).trans hl26).size
    have hs5 : w24.heap.size ≤ w26.heap.size := (hl25.trans hl26).size
    have hs6 : w20.heap.size ≤ w26.heap.size := (((((hl21.trans hl22).trans hl23).trans hl24).trans hl25).trans hl26).size
    have hy7 := fun (h : (YB (fun b => w26.heap.size ≤ b) w27) g3) => Nat.lt_irrefl _ (Nat.lt_of_lt_of_le ho16.lt h.1)
    refine lw_op Z Z Z (ow_alloc Z (Tryd.zeroValue48 _) hC27 fun g6 w28 hg11 hg12 ho21 hb21 hl28 hC28 => ?_)
    have hy10 := fun (h : (YF (fun b => w20.heap.size ≤ b) w21) g6) => Nat.lt_irrefl _ (Nat.lt_of_lt_of_le (hu10 _ h).1 hg11)
    have hy11 := fun (h : (YF (fun b => w23.heap.size ≤ b) w24) g6) => Nat.lt_irrefl _ (Nat.lt_of_lt_of_le (hu11 _ h).1 hg11)
    have hy12 := fun (h : (YB (fun b => w26.heap.size ≤ b) w27) g6) => Nat.lt_irrefl _ (Nat.lt_of_lt_of_le h.2 (Nat.le_trans (Nat.le_refl _) hg11))
    have hw25 := VRep.mono (Le.no _ hb21) hw21
    have hu12 := UFz.no hu10 hb21
    have hw26 := VRep.mono (Le.no _ hb21) hw22
    have hu13 := UFz.no hu11 hb21
    have hw27 := VRep.mono (Le.no _ hb21) hw24
    have hs7 := Nat.le_trans (Nat.le_refl _) hb21.size
    have hn4 := Nat.ne_of_lt (Nat.lt_of_lt_of_le ho18.lt hg11)
    have ho22 := ho18.no hb21
    have hn5 := Nat.ne_of_lt (Nat.lt_of_lt_of_le ho19.lt hg11)
    have ho23 := ho19.no hb21
    have hn6 := Nat.ne_of_lt (Nat.lt_of_lt_of_le ho20.lt hg11)
    have ho24 := ho20.no hb21
    have hm12 : (Add g6 (Add g5 (Add g4 (Add g3 M)))) g6 := .inl Z
    obtain ⟨A4, c4, rfl, hw28⟩ := open_Box hw23
    refine lw_op0 Z Z (ow_store (X := No) (us := [(.slice A4 x6.Sides.length c4)]) (cs' := #[(.slice A4 x6.Sides.length c4)]) Z Z Z Z ho21 (Tryd.sizeOf48 _) Z Z Z Z hm12 (.inl hg12) Z hC28 fun w29 ho25 hb22 hl29 hC29 => ?_)
    have hw29 := VRep.other hw25 hb22 (fun b e h => hy10 ((show b = g6 from e) ▸ h))
    have hu14 := UFz.other hu12 hb22 (fun b e h => hy10 ((show b = g6 from e) ▸ h))
    have hw30 := VRep.other hw26 hb22 (fun b e h => hy11 ((show b = g6 from e) ▸ h))
    have hu15 := UFz.other hu13 hb22 (fun b e h => hy11 ((show b = g6 from e) ▸ h))
    have hw31 := VRep.other hw27 hb22 (fun b e h => hy12 ((show b = g6 from e) ▸ h))
    have hs8 := Nat.le_trans hs7 hb22.size
    have ho26 := ho22.go hb22 (fun e => hn4 e)
    have ho27 := ho23.go hb22 (fun e => hn5 e)
    have ho28 := ho24.go hb22 (fun e => hn6 e)
    refine lw_nil (ew_then (cw_seq (cw_seq (cw_region (lw_op Z Z Z (ow_loadOwnA Z Z Z ho25 (Tryd.isAgg48 _) (Tryd.sizeOf48 _) Z ?_))))))
    have hw32 : VRep RBox w29 (Add g6 (Add g5 (Add g4 (Add g3 M)))) ({ Sides := x6.Sides } : Box) (.agg #[(.slice A4 x6.Sides.length c4)]) := shut_Box (VRep.mono (hl28.trans hl29) hw28)
    refine lw_op Z Z Z (ow_loadOwnA Z Z Z ho26 (Tryd.isAgg48 _) (Tryd.sizeOf48 _) Z ?_)
    have lz11 := (((((((((hl20.trans hl21).trans hl22).trans hl23).trans hl24).trans hl25).trans hl26).trans hl27).trans hl28).trans hl29)
    have hw33 : VRep RBox w29 (Add g6 (Add g5 (Add g4 (Add g3 M)))) ({ Sides := x5.Sides } : Box) (.agg #[(.slice A1 x5.Sides.length c1)]) := shut_Box (VRep.mono lz11 hw5)
    replace h := bind_some h
    obtain ⟨x7, hx7, h⟩ := h
    have lz12 := (((lz10.trans hl27).trans hl28).trans hl29)
    refine lw_op Z Z Z (ow_call Z Z Tryd.call26 (w_laws_eqBox (hG.mono lz12) hC29.old hw32 hw33 hx7) fun v25 w30 hv25 => ?_)
    obtain ⟨hv25, hb23⟩ := hv25
    have hl30 := Le.no (Add g6 (Add g5 (Add g4 (Add g3 M)))) hb23
    have hC30 := hC29.no hb23
    have hw34 := VRep.mono (Le.no _ hb23) hw29
    have hu16 := UFz.no hu14 hb23
    have hw35 := VRep.mono (Le.no _ hb23) hw30
    have hu17 := UFz.no hu15 hb23
    have hw36 := VRep.mono (Le.no _ hb23) hw31
    have hs9 := Nat.le_trans hs8 hb23.size
    have ho29 := ho26.no hb23
    have ho30 := ho27.no hb23
    have ho31 := ho28.no hb23
    have ho32 := ho25.no hb23
    obtain rfl := vbool_eq hv25
    refine lw_op Z Z Z (ow_not Z Z (lw_nil (ew_then ?_)))
    replace h := cond_some h
    rcases h with ⟨hc3, h⟩ | ⟨hc3, h⟩
    ·
     subst hc3
     refine cw_false Z (cw_skip (ew_then (cw_seq (cw_seq ?_))))
     have lz13 := (lz12.trans hl30)
     have lz14 := ((((((((((lz5.trans hl21).trans hl22).trans hl23).trans hl24).trans hl25).trans hl26).trans hl27).trans hl28).trans hl29).trans hl30)
     have lz15 := (((((((lz7.trans hl24).trans hl25).trans hl26).trans hl27).trans hl28).trans hl29).trans hl30)
     have lz18 := ((((lz9.trans hl27).trans hl28).trans hl29).trans hl30)
     have lz20 := (((((hl25.trans hl26).trans hl27).trans hl28).trans hl29).trans hl30)
     refine cw_sub (E' := [(2, (.pointer (some p1))), (3, (.pointer (some p2))), (4, (.bool false)), (6, (Zw g3 0)), (7, (Zw g4 0)), (8, (Zw g5 0)), (9, (Zw g6 0))]) ⟨Z, Z, Z, Z, Z, Z, Z, Zt⟩ (cw_drawQ 3 [PV RBox (Add g6 (Add g5 (Add g4 (Add g3 M)))) ({ Sides := x3.Sides } : Box), PV RBox (Add g6 (Add g5 (Add g4 (Add g3 M)))) a_aA, PV RBox (Add g6 (Add g5 (Add g4 (Add g3 M)))) x3] (by kernel_rfl) Z (by kernel_rfl) ⟨PV.mono _ _ _, PV.mono _ _ _, PV.mono _ _ _, Zt⟩ ⟨?_, ?_, ?_, Zt⟩ ?_)
     ·
      intro w32 D hS8 hd8
      have hl32 := Le.no (Add g6 (Add g5 (Add g4 (Add g3 M)))) hS8
      have ho38 := ho30.no hS8
      refine dg_sub (E' := [(7, (Zw g4 0))]) ⟨Z, Zt⟩ (dg_plain Z (ow_loadOwnA Z Z Z ho38 (Tryd.isAgg48 _) (Tryd.sizeOf48 _) Z ?_))
      have hw45 : VRep RBox w32 (Add g6 (Add g5 (Add g4 (Add g3 M)))) ({ Sides := x3.Sides } : Box) (.agg #[(.slice A2 x3.Sides.length c2)]) := shut_Box (VRep.mono (lz18.trans hl32) hw9)
      exact ⟨BX.refl _ _, hw45⟩
     ·
      intro w33 D hS9 hd9
      have hl33 := Le.no (Add g6 (Add g5 (Add g4 (Add g3 M)))) hS9
      exact dg_sub (E' := [(2, (.pointer (some p1)))]) ⟨Z, Zt⟩ (dg_plain Z (ow_load (R := RBox) Z Z (ARep.mono (lz14.trans hl33) hp1) (Tryd.sizeOf42 _) (Tryd.isAgg42 _) fun v28 hv28 => ⟨BX.refl _ _, hv28⟩))
     ·
      intro w34 D hS10 hd10
      have hl34 := Le.no (Add g6 (Add g5 (Add g4 (Add g3 M)))) hS10
      have hC34 := hC30.no hS10
      have d14 : PV RBox (Add g6 (Add g5 (Add g4 (Add g3 M)))) a_aA (D 1) w34 := dpA hd10 1 Z
      generalize hq7 : (D 1) = v29 at d14
      refine dg_sub (E' := [(41, v29)]) ⟨congrArg some hq7, Zt⟩ (dg_plain Z (ow_call Z Z Tryd.call23 (wu_laws_toBox (hG.mono (lz13.trans hl34)) hC34.old (Y := (fun b => w34.heap.size ≤ b)) (fun _ hb => hb) d14 hx3) fun v30 w35 hv30 => ?_))
      obtain ⟨hv30, hb25⟩ := hv30
      have hw55 := Fg.vrep fg_Box hv30
      exact ⟨hb25, hw55⟩
     ·
      intro w36 D hS11 hd11
      have d15 : PV RBox (Add g6 (Add g5 (Add g4 (Add g3 M)))) ({ Sides := x3.Sides } : Box) (D 0) w36 := dpA hd11 0 Z
      have d17 : PV RBox (Add g6 (Add g5 (Add g4 (Add g3 M)))) x3 (D 2) w36 := dpA hd11 2 Z
      have hl36 := Le.no (Add g6 (Add g5 (Add g4 (Add g3 M)))) hS11
      have hC36 := hC30.no hS11
      have hw56 := VRep.mono (Le.no _ hS11) hw34
      have hu28 := UFz.no hu16 hS11
      have hw57 := VRep.mono (Le.no _ hS11) hw35
      have hu29 := UFz.no hu17 hS11
      have hw58 := VRep.mono (Le.no _ hS11) hw36
      have hs15 := Nat.le_trans hs9 hS11.size
      have ho53 := ho29.no hS11
      have ho54 := ho30.no hS11
      have ho55 := ho31.no hS11
      have ho56 := ho32.no hS11
      generalize hq8 : (D 0) = v31 at d15
      generalize hq9 : (D 2) = v32 at d17
      refine lw_sub (E' := [(40, v31), (42, v32), (2, (.pointer (some p1))), (3, (.pointer (some p2))), (4, (.bool false)), (6, (Zw g3 0)), (7, (Zw g4 0)), (8, (Zw g5 0)), (9, (Zw g6 0))]) ⟨congrArg some hq8, congrArg some hq9, Z, Z, Z, Z, Z, Z, Z, Zt⟩ ?_
      replace h := bind_some h
      obtain ⟨x8, hx8, h⟩ := h
      refine lw_op Z Z Z (ow_call Z Z Tryd.call26 (w_laws_eqBox (hG.mono (lz13.trans hl36)) hC36.old d15 d17 hx8) fun v33 w37 hv33 => ?_)
      obtain ⟨hv33, hb26⟩ := hv33
      have hl37 := Le.no (Add g6 (Add g5 (Add g4 (Add g3 M)))) hb26
      have hC37 := hC36.no hb26
      have hw59 := VRep.mono (Le.no _ hb26) hw56
      have hu30 := UFz.no hu28 hb26
      have hw60 := VRep.mono (Le.no _ hb26) hw57
      have hu31 := UFz.no hu29 hb26
      have hw61 := VRep.mono (Le.no _ hb26) hw58
      have hs16 := Nat.le_trans hs15 hb26.size
      have ho57 := ho53.no hb26
      have ho58 := ho54.no hb26
      have ho59 := ho55.no hb26
      have ho60 := ho56.no hb26
      obtain rfl := vbool_eq hv33
      refine lw_op Z Z Z (ow_not Z Z (lw_nil (ew_then ?_)))
      replace h := cond_some h
      rcases h with ⟨hc4, h⟩ | ⟨hc4, h⟩
      ·
       subst hc4
       refine cw_false Z (cw_skip (ew_then (cw_seq (cw_seq ?_))))
       have lz23 := ((lz13.trans hl36).trans hl37)
       have lz25 := ((lz15.trans hl36).trans hl37)
       have lz28 := ((lz20.trans hl36).trans hl37)
       refine cw_sub (E' := [(2, (.pointer (some p1))), (3, (.pointer (some p2))), (4, (.bool false)), (6, (Zw g3 0)), (7, (Zw g4 0)), (8, (Zw g5 0)), (9, (Zw g6 0))]) ⟨Z, Z, Z, Z, Z, Z, Z, Zt⟩ (cw_drawQ 3 [PV RBox (Add g6 (Add g5 (Add g4 (Add g3 M)))) ({ Sides := x4.Sides } : Box), PV RBox (Add g6 (Add g5 (Add g4 (Add g3 M)))) a_aB, PV RBox (Add g6 (Add g5 (Add g4 (Add g3 M)))) x4] (by kernel_rfl) Z (by kernel_rfl) ⟨PV.mono _ _ _, PV.mono _ _ _, PV.mono _ _ _, Zt⟩ ⟨?_, ?_, ?_, Zt⟩ ?_)
       ·
        intro w39 D hS12 hd12
        have hl39 := Le.no (Add g6 (Add g5 (Add g4 (Add g3 M)))) hS12
        have ho67 := ho59.no hS12
        refine dg_sub (E' := [(8, (Zw g5 0))]) ⟨Z, Zt⟩ (dg_plain Z (ow_loadOwnA Z Z Z ho67 (Tryd.isAgg48 _) (Tryd.sizeOf48 _) Z ?_))
        have hw70 : VRep RBox w39 (Add g6 (Add g5 (Add g4 (Add g3 M)))) ({ Sides := x4.Sides } : Box) (.agg #[(.slice A3 x4.Sides.length c3)]) := shut_Box (VRep.mono (lz28.trans hl39) hw16)
        exact ⟨BX.refl _ _, hw70⟩
       ·
        intro w40 D hS13 hd13
        have hl40 := Le.no (Add g6 (Add g5 (Add g4 (Add g3 M)))) hS13
        exact dg_sub (E' := [(3, (.pointer (some p2)))]) ⟨Z, Zt⟩ (dg_plain Z (ow_load (R := RBox) Z Z (ARep.mono (lz25.trans hl40) hp2) (Tryd.sizeOf42 _) (Tryd.isAgg42 _) fun v36 hv36 => ⟨BX.refl _ _, hv36⟩))
       ·
        intro w41 D hS14 hd14
        have hl41 := Le.no (Add g6 (Add g5 (Add g4 (Add g3 M)))) hS14
        have hC41 := hC37.no hS14
        have d18 : PV RBox (Add g6 (Add g5 (Add g4 (Add g3 M)))) a_aB (D 1) w41 := dpA hd14 1 Z
        generalize hq10 : (D 1) = v37 at d18
        refine dg_sub (E' := [(46, v37)]) ⟨congrArg some hq10, Zt⟩ (dg_plain Z (ow_call Z Z Tryd.call23 (wu_laws_toBox (hG.mono (lz23.trans hl41)) hC41.old (Y := (fun b => w41.heap.size ≤ b)) (fun _ hb => hb) d18 hx4) fun v38 w42 hv38 => ?_))
        obtain ⟨hv38, hb28⟩ := hv38
        have hw80 := Fg.vrep fg_Box hv38
        exact ⟨hb28, hw80⟩
       ·
        intro w43 D hS15 hd15
        have d19 : PV RBox (Add g6 (Add g5 (Add g4 (Add g3 M)))) ({ Sides := x4.Sides } : Box) (D 0) w43 := dpA hd15 0 Z
        have d21 : PV RBox (Add g6 (Add g5 (Add g4 (Add g3 M)))) x4 (D 2) w43 := dpA hd15 2 Z
        have hl43 := Le.no (Add g6 (Add g5 (Add g4 (Add g3 M)))) hS15
        have hC43 := hC37.no hS15
        have hw81 := VRep.mono (Le.no _ hS15) hw59
        have hu42 := UFz.no hu30 hS15
        have hw82 := VRep.mono (Le.no _ hS15) hw60
        have hu43 := UFz.no hu31 hS15
        have hw83 := VRep.mono (Le.no _ hS15) hw61
        have hs22 := Nat.le_trans hs16 hS15.size
        have ho81 := ho57.no hS15
        have ho82 := ho58.no hS15
        have ho83 := ho59.no hS15
        have ho84 := ho60.no hS15
        generalize hq11 : (D 0) = v39 at d19
        generalize hq12 : (D 2) = v40 at d21
        refine lw_sub (E' := [(45, v39), (47, v40), (2, (.pointer (some p1))), (3, (.pointer (some p2))), (4, (.bool false)), (6, (Zw g3 0)), (7, (Zw g4 0)), (8, (Zw g5 0)), (9, (Zw g6 0))]) ⟨congrArg some hq11, congrArg some hq12, Z, Z, Z, Z, Z, Z, Z, Zt⟩ ?_
        replace h := bind_some h
        obtain ⟨x9, hx9, h⟩ := h
        refine lw_op Z Z Z (ow_call Z Z Tryd.call26 (w_laws_eqBox (hG.mono (lz23.trans hl43)) hC43.old d19 d21 hx9) fun v41 w44 hv41 => ?_)
        obtain ⟨hv41, hb29⟩ := hv41
        have hl44 := Le.no (Add g6 (Add g5 (Add g4 (Add g3 M)))) hb29
        have hC44 := hC43.no hb29
        have hw84 := VRep.mono (Le.no _ hb29) hw81
        have hu44 := UFz.no hu42 hb29
        have hw85 := VRep.mono (Le.no _ hb29) hw82
        have hu45 := UFz.no hu43 hb29
        have hw86 := VRep.mono (Le.no _ hb29) hw83
        have hs23 := Nat.le_trans hs22 hb29.size
        have ho85 := ho81.no hb29
        have ho86 := ho82.no hb29
        have ho87 := ho83.no hb29
        have ho88 := ho84.no hb29
        obtain rfl := vbool_eq hv41
        refine lw_op Z Z Z (ow_not Z Z (lw_nil (ew_then ?_)))
        replace h := cond_some h
        rcases h with ⟨hc5, h⟩ | ⟨hc5, h⟩
        ·
         subst hc5
         refine cw_false Z (cw_skip (ew_then (cw_seq (cw_region (lw_op Z Z Z (ow_assign Z Z (lw_nil (ew_then (cw_seq (cw_region (lw_op Z Z Z (ow_loadOwnA Z Z Z ho86 (Tryd.isAgg48 _) (Tryd.sizeOf48 _) Z (lw_op Z Z Z (ow_move Z Z ?_))))))))))))))
         replace h := bind_some h
         obtain ⟨x10, hx10, h⟩ := h
         refine lw_op Z Z Z (ow_call Z Z Tryd.call27 (wm_laws_markBox hu44 hw84 hx10) fun v42 w45 hv42 => ?_)
         obtain ⟨rfl, hmk1⟩ := hv42
         have hl45 := Le.reset (((((((((((((hl21.trans hl22).trans hl23).trans hl24).trans hl25).trans hl26).trans hl27).trans hl28).trans hl29).trans hl30).trans hl36).trans hl37).trans hl43).trans hl44) hmk1.bx (fun b h => Nat.le_trans hs1 h.1)
         have hC45 := Cx.reset hC20 hC44 hmk1.bx (fun b h => Nat.le_trans hC20.bx.size h.1) (Nat.le_trans (((((((((((((hl21.trans hl22).trans hl23).trans hl24).trans hl25).trans hl26).trans hl27).trans hl28).trans hl29).trans hl30).trans hl36).trans hl37).trans hl43).trans hl44).size hmk1.bx.size)
         have ho89 := ho85.go hmk1.bx hy1
         have ho91 := ho87.go hmk1.bx hy5
         have ho92 := ho88.go hmk1.bx hy10
         have hw88 := VRep.other hw85 hmk1.bx (fun b h1 h2 => Nat.lt_irrefl _ (Nat.lt_of_lt_of_le h1.2.1 (Nat.le_trans hs2 h2.1)))
         have hu46 := UFz.other hu45 hmk1.bx (fun b h1 h2 => Nat.lt_irrefl _ (Nat.lt_of_lt_of_le h1.2.1 (Nat.le_trans hs2 h2.1)))
         have hw89 := VRep.other hw86 hmk1.bx (fun b h1 h2 => Nat.lt_irrefl _ (Nat.lt_of_lt_of_le h1.2.1 (Nat.le_trans hs4 h2.1)))
         have hs24 := Nat.le_trans hs23 hmk1.bx.size
         refine lw_op Z Z Z (ow_assign Z Z (lw_nil (ew_then (cw_seq (cw_region (lw_op Z Z Z (ow_loadOwnA Z Z Z ho91 (Tryd.isAgg48 _) (Tryd.sizeOf48 _) Z (lw_op Z Z Z (ow_move Z Z ?_)))))))))
         replace h := bind_some h
         obtain ⟨x11, hx11, h⟩ := h
         refine lw_op Z Z Z (ow_call Z Z Tryd.call27 (wm_laws_markBox hu46 hw88 hx11) fun v43 w46 hv43 => ?_)
         obtain ⟨rfl, hmk2⟩ := hv43
         have hl46 := Le.reset hl45 hmk2.bx (fun b h => Nat.le_trans hs3 h.1)
         have hC46 := Cx.reset hC20 hC45 hmk2.bx (fun b h => Nat.le_trans hC23.bx.size h.1) (Nat.le_trans hl45.size hmk2.bx.size)
         have ho93 := ho89.go hmk2.bx hy3
         have ho96 := ho92.go hmk2.bx hy11
         have hw91 := VRep.other hw89 hmk2.bx (fun b h1 h2 => Nat.lt_irrefl _ (Nat.lt_of_lt_of_le h1.2.1 (Nat.le_trans hs5 h2.1)))
         have hs25 := Nat.le_trans hs24 hmk2.bx.size
         have hw92 := VRep.mono (Le.sub _ (show ∀ b, (Add g3 M) b → NotY (YB (fun b => w26.heap.size ≤ b) w27) b from fun b h1 h2 => Nat.lt_irrefl _ (Nat.lt_of_lt_of_le (hC20.old b h1) (Nat.le_trans hs6 h2.1)))) (Fg.vrep fgSSS (sidesS hw91))
         refine lw_op Z Z Z (ow_assign Z Z (lw_nil (ew_then (cw_seq (cw_seq (cw_region (lw_op Z Z Z (ow_move Z Z (lw_op Z Z Z (ow_lss Z Z Z fun bb3 hbb3 => lw_op Z Z Z (ow_move Z Z ?_)))))))))))
         replace h := cond_some h
         rcases h with ⟨hc6, h⟩ | ⟨hc6, h⟩
         ·
          obtain rfl := hbb3.trans hc6
          refine lw_off Z Z Z Z Z Z (lw_off Z Z Z Z Z Z (lw_off Z Z Z Z Z Z (lw_off Z Z Z Z Z Z (lw_op Z Z Z (ow_pickT Z Z Z (lw_nil (ew_then (cw_true Z (cw_seq (cw_region (lw_op Z Z Z (ow_assign Z Z (lw_nil (ew_then (cw_ret (ew_thenR ?_))))))))))))))))
          obtain rfl := sj h
          exact ew_ret (res1 Z (.tmp Z)) ⟨_, Z, ((vbool _)), hC46.bx⟩
         ·
          obtain rfl := hbb3.trans hc6
          refine lw_on Z Z Z Z Z Z (ow_loadOwnA Z Z Z ho96 (Tryd.isAgg48 _) (Tryd.sizeOf48 _) Z ?_)
          have hw93 : VRep RBox w46 (Add g3 M) ({ Sides := x6.Sides } : Box) (.agg #[(.slice A4 x6.Sides.length c4)]) := shut_Box hw92
          refine lw_on Z Z Z Z Z Z (ow_loadOwnA Z Z Z ho93 (Tryd.isAgg48 _) (Tryd.sizeOf48 _) Z ?_)
          have hw94 : VRep RBox w46 (Add g3 M) ({ Sides := x5.Sides } : Box) (.agg #[(.slice A1 x5.Sides.length c1)]) := shut_Box (VRep.mono (hl20.trans hl46) hw5)
          have lz31 := ((((((hl1.trans hl2).trans hl3).trans hl4).trans hl19).trans hl20).trans hl46)
          refine lw_on Z Z Z Z Z Z (ow_call Z Z Tryd.call26 (w_laws_eqBox (hG.mono lz31) hC46.old hw93 hw94 hx7) fun v44 w47 hv44 => ?_)
          obtain ⟨hv44, hb30⟩ := hv44
          have hl47 := Le.no (Add g3 M) hb30
          have hC47 := hC46.no hb30
          have hw95 := VRep.mono (Le.no _ hb30) hw91
          have hs26 := Nat.le_trans hs25 hb30.size
          have ho97 := ho93.no hb30
          have ho100 := ho96.no hb30
          obtain rfl := vbool_eq hv44
          refine lw_on Z Z Z Z Z Z (ow_not Z Z (lw_op Z Z Z (ow_pickF Z Z Z (lw_nil (ew_then (cw_false Z (cw_skip (ew_then (cw_seq (cw_region (lw_op Z Z Z (ow_assign Z Z (lw_nil (ew_then (cw_seq (cw_region (lw_op Z Z Z (ow_loadOwnA Z Z Z ho100 (Tryd.isAgg48 _) (Tryd.sizeOf48 _) Z (lw_op Z Z Z (ow_move Z Z ?_))))))))))))))))))))
          replace h := bind_some h
          obtain ⟨x12, hx12, h⟩ := h
          refine lw_op Z Z Z (ow_call Z Z Tryd.call27 (we_laws_markBox (fun b e => Nat.lt_of_lt_of_le e.2 hs26) hw95 hx12) fun v45 w48 hv45 => ?_)
          obtain ⟨rfl, hw97, hb31⟩ := hv45
          have hl48 := Le.reset (hl46.trans hl47) hb31 (fun b h => Nat.le_trans hs6 h.1)
          have hC48 := Cx.reset hC20 hC47 hb31 (fun b h => Nat.le_trans hC26.bx.size h.1) (Nat.le_trans (hl46.trans hl47).size hb31.size)
          have ho101 := ho97.go hb31 hy7
          have ho104 := ho100.go hb31 hy12
          have hw98 := VRep.mono (Le.sub _ (show ∀ b, (Add g3 M) b → NotY (YB (fun b => w26.heap.size ≤ b) w27) b from fun b h1 h2 => Nat.lt_irrefl _ (Nat.lt_of_lt_of_le (hC20.old b h1) (Nat.le_trans hs6 h2.1)))) (Fg.vrep fgSSS (sidesS hw97))
          refine lw_op Z Z Z (ow_assign Z Z (lw_nil (ew_then (cw_seq (cw_region (lw_op Z Z Z (ow_assign Z Z (lw_nil (ew_then (cw_seq (cw_region (lw_op Z Z Z (ow_loadOwnA Z Z Z ho104 (Tryd.isAgg48 _) (Tryd.sizeOf48 _) Z ?_)))))))))))))
          have hw99 : VRep RBox w48 (Add g3 M) ({ Sides := x12.2.Sides } : Box) (.agg #[(.slice A4 x6.Sides.length c4)]) := shut_Box hw98
          refine lw_op Z Z Z (ow_move Z Z ?_)
          replace h := bind_some h
          obtain ⟨x13, hx13, h⟩ := h
          have lz32 := ((((((hl1.trans hl2).trans hl3).trans hl4).trans hl19).trans hl20).trans hl48)
          refine lw_op Z Z Z (ow_call Z Z Tryd.call32 (w_laws_heldBox (hG.mono lz32) hC48.old hw99 hx13) fun v46 w49 hv46 => ?_)
          obtain ⟨hv46, hb32⟩ := hv46
          have hl49 := Le.no (Add g3 M) hb32
          have hC49 := hC48.no hb32
          have ho105 := ho101.no hb32
          have ho108 := ho104.no hb32
          obtain rfl := vint_eq hv46
          refine lw_op Z Z Z (ow_assign Z Z (lw_nil (ew_then (cw_seq (cw_seq (cw_region (lw_op Z Z Z (ow_move Z Z (lw_op Z Z Z (ow_lss Z Z Z fun bb4 hbb4 => lw_nil (ew_then ?_)))))))))))
          replace h := cond_some h
          rcases h with ⟨hc7, h⟩ | ⟨hc7, h⟩
          ·
           obtain rfl := hbb4.trans hc7
           refine cw_true Z (cw_seq (cw_region (lw_op Z Z Z (ow_assign Z Z (lw_nil (ew_then (cw_ret (ew_thenR ?_))))))))
           obtain rfl := sj h
           exact ew_ret (res1 Z (.tmp Z)) ⟨_, Z, ((vbool _)), hC49.bx⟩
          ·
           obtain rfl := hbb4.trans hc7
           refine cw_false Z (cw_skip (ew_then (cw_seq (cw_seq (cw_region (lw_op Z Z Z (ow_move Z Z (lw_op Z Z Z (ow_move Z Z (lw_op Z Z Z (ow_neqI Z Z Z fun bb5 hbb5 => lw_nil (ew_then ?_))))))))))))
           replace h := cond_some h
           rcases h with ⟨hc8, h⟩ | ⟨hc8, h⟩
           ·
            obtain rfl := hbb5.trans hc8
            refine cw_true Z (cw_seq (cw_region (lw_op Z Z Z (ow_assign Z Z (lw_nil (ew_then (cw_ret (ew_thenR ?_))))))))
            obtain rfl := sj h
            exact ew_ret (res1 Z (.tmp Z)) ⟨_, Z, ((vbool _)), hC49.bx⟩
           ·
            obtain rfl := hbb5.trans hc8
            refine cw_false Z (cw_skip (ew_then (cw_seq ?_)))
            replace h := bind_some h
            obtain ⟨x14, hx14, h⟩ := h
            have lz33 := (lz32.trans hl49)
            have lz34 := ((((((hl2.trans hl3).trans hl4).trans hl19).trans hl20).trans hl48).trans hl49)
            have lz35 := (((((hl3.trans hl4).trans hl19).trans hl20).trans hl48).trans hl49)
            have lz36 := ((hl20.trans hl48).trans hl49)
            refine cw_sub (E' := [(2, (.pointer (some p1))), (3, (.pointer (some p2))), (4, (.bool false)), (6, (Zw g3 0)), (9, (Zw g6 0)), (11, (Zv x12.1))]) ⟨Z, Z, Z, Z, Z, Z, Zt⟩ (cw_drawQ 6 [PV RBox (Add g3 M) a_aA, PV RBox (Add g3 M) x3, PV RBox (Add g3 M) a_aB, PV RBox (Add g3 M) x4, PV RBox (Add g3 M) x14, PNew w49 48 #[(.slice none 0 0)]] (by kernel_rfl) Z (by kernel_rfl) ⟨PV.mono _ _ _, PV.mono _ _ _, PV.mono _ _ _, PV.mono _ _ _, PV.mono _ _ _, PNew.mono _ _ _, Zt⟩ ⟨?_, ?_, ?_, ?_, ?_, ?_, Zt⟩ ?_)
            ·
             intro w54 D hS16 hd16
             have hl54 := Le.no (Add g3 M) hS16
             exact dg_sub (E' := [(2, (.pointer (some p1)))]) ⟨Z, Zt⟩ (dg_plain Z (ow_load (R := RBox) Z Z (ARep.mono (lz34.trans hl54) hp1) (Tryd.sizeOf42 _) (Tryd.isAgg42 _) fun v52 hv52 => ⟨BX.refl _ _, hv52⟩))
            ·
             intro w55 D hS17 hd17
             have hl55 := Le.no (Add g3 M) hS17
             have hC55 := hC49.no hS17
             have d22 : PV RBox (Add g3 M) a_aA (D 0) w55 := dpA hd17 0 Z
             generalize hq13 : (D 0) = v53 at d22
             refine dg_sub (E' := [(75, v53)]) ⟨congrArg some hq13, Zt⟩ (dg_plain Z (ow_call Z Z Tryd.call23 (wu_laws_toBox (hG.mono (lz33.trans hl55)) hC55.old (Y := (fun b => w55.heap.size ≤ b)) (fun _ hb => hb) d22 hx3) fun v54 w56 hv54 => ?_))
             obtain ⟨hv54, hb37⟩ := hv54
             have hw103 := Fg.vrep fg_Box hv54
             exact ⟨hb37, hw103⟩
            ·
             intro w57 D hS18 hd18
             have hl57 := Le.no (Add g3 M) hS18
             exact dg_sub (E' := [(3, (.pointer (some p2)))]) ⟨Z, Zt⟩ (dg_plain Z (ow_load (R := RBox) Z Z (ARep.mono (lz35.trans hl57) hp2) (Tryd.sizeOf42 _) (Tryd.isAgg42 _) fun v55 hv55 => ⟨BX.refl _ _, hv55⟩))
            ·
             intro w58 D hS19 hd19
             have hl58 := Le.no (Add g3 M) hS19
             have hC58 := hC49.no hS19
             have d23 : PV RBox (Add g3 M) a_aB (D 2) w58 := dpA hd19 2 Z
             generalize hq14 : (D 2) = v56 at d23
             refine dg_sub (E' := [(77, v56)]) ⟨congrArg some hq14, Zt⟩ (dg_plain Z (ow_call Z Z Tryd.call23 (wu_laws_toBox (hG.mono (lz33.trans hl58)) hC58.old (Y := (fun b => w58.heap.size ≤ b)) (fun _ hb => hb) d23 hx4) fun v57 w59 hv57 => ?_))
             obtain ⟨hv57, hb38⟩ := hv57
             have hw104 := Fg.vrep fg_Box hv57
             exact ⟨hb38, hw104⟩
            ·
             intro w60 D hS20 hd20
             have hl60 := Le.no (Add g3 M) hS20
             have hC60 := hC49.no hS20
             have d25 : PV RBox (Add g3 M) x3 (D 1) w60 := dpA hd20 1 Z
             have d26 : PV RBox (Add g3 M) x4 (D 3) w60 := dpA hd20 3 Z
             generalize hq15 : (D 1) = v58 at d25
             generalize hq16 : (D 3) = v59 at d26
             refine dg_sub (E' := [(76, v58), (78, v59)]) ⟨congrArg some hq15, congrArg some hq16, Zt⟩ (dg_plain Z (ow_call Z Z Tryd.call31 (wt_impl_BoxMeet (hG.mono (lz33.trans hl60)) hC60.old (Y := (fun b => w60.heap.size ≤ b)) (fun _ hb => hb) d25 d26 hx14) fun v60 w61 hv60 => ?_))
             obtain ⟨hv60, hb39⟩ := hv60
             have hw105 := Fg.vrep (Fg.in_ fgBoxS) hv60
             exact ⟨hb39, hw105⟩
            ·
             intro w62 D hS21 hd21
             have hC62 := hC49.no hS21
             exact dg_sub (E' := []) trivial (dg_plain Z (ow_alloc Z (Tryd.zeroValue48 _) hC62 fun g8 w63 hg15 hg16 ho162 hb40 hl63 hC63 => ⟨hb40, ⟨_, Z, Nat.le_trans hS21.size hg15, ho162⟩⟩))
            ·
             intro w64 D hS22 hd22
             have d32 : PV RBox (Add g3 M) x14 (D 4) w64 := dpA hd22 4 Z
             have d33 : PNew w49 48 #[(.slice none 0 0)] (D 5) w64 := dpA hd22 5 Z
             obtain ⟨g9, hq17, hg17, ho167⟩ := d33
             have hg18 := Nat.le_trans hC49.bx.size hg17
             have hl64 := (Le.no (Add g3 M) hS22).add hg17
             have hC64 := (hC49.no hS22).add ho167.lt hg18
             have hn15 := Nat.ne_of_lt (Nat.lt_of_lt_of_le ho105.lt hg17)
             have ho168 := ho105.no hS22
             have hn18 := Nat.ne_of_lt (Nat.lt_of_lt_of_le ho108.lt hg17)
             have ho171 := ho108.no hS22
             have hm27 : (Add g9 (Add g3 M)) g9 := .inl Z
             have d34 : VRep RBox w64 (Add g9 (Add g3 M)) x14 (D 4) := box_free ho167 (F.imeet_ne hx14) d32
             generalize hq18 : (D 4) = v61 at d34
             refine lw_sub (E' := [(13, (Zw g9 0)), (79, v61), (2, (.pointer (some p1))), (3, (.pointer (some p2))), (4, (.bool false)), (6, (Zw g3 0)), (9, (Zw g6 0)), (11, (Zv x12.1))]) ⟨congrArg some hq17, congrArg some hq18, Z, Z, Z, Z, Z, Z, Zt⟩ ?_
             obtain ⟨A5, c5, rfl, hw106⟩ := open_Box d34
             refine lw_op0 Z Z (ow_store (X := No) (us := [(.slice A5 x14.Sides.length c5)]) (cs' := #[(.slice A5 x14.Sides.length c5)]) Z Z Z Z ho167 (Tryd.sizeOf48 _) Z Z Z Z hm27 (.inl hg18) Z hC64 fun w65 ho172 hb41 hl65 hC65 => ?_)
             have ho173 := ho168.go hb41 (fun e => hn15 e)
             have ho176 := ho171.go hb41 (fun e => hn18 e)
             refine lw_nil (ew_then (cw_seq (cw_seq (cw_region (lw_op Z Z Z (ow_loadOwnA Z Z Z ho172 (Tryd.isAgg48 _) (Tryd.sizeOf48 _) Z ?_))))))
             have hw107 : VRep RBox w65 (Add g9 (Add g3 M)) ({ Sides := x14.Sides } : Box) (.agg #[(.slice A5 x14.Sides.length c5)]) := shut_Box (VRep.mono hl65 hw106)
             refine lw_op Z Z Z (ow_loadOwnA Z Z Z ho173 (Tryd.isAgg48 _) (Tryd.sizeOf48 _) Z ?_)
             have lz37 := ((lz36.trans hl64).trans hl65)
             have hw108 : VRep RBox w65 (Add g9 (Add g3 M)) ({ Sides := x5.Sides } : Box) (.agg #[(.slice A1 x5.Sides.length c1)]) := shut_Box (VRep.mono lz37 hw5)
             replace h := bind_some h
             obtain ⟨x15, hx15, h⟩ := h
             have lz38 := ((lz33.trans hl64).trans hl65)
             refine lw_op Z Z Z (ow_call Z Z Tryd.call26 (w_laws_eqBox (hG.mono lz38) hC65.old hw107 hw108 hx15) fun v62 w66 hv62 => ?_)
             obtain ⟨hv62, hb42⟩ := hv62
             have hl66 := Le.no (Add g9 (Add g3 M)) hb42
             have hC66 := hC65.no hb42
             have ho180 := ho176.no hb42
             obtain rfl := vbool_eq hv62
             refine lw_op Z Z Z (ow_not Z Z (lw_nil (ew_then ?_)))
             replace h := cond_some h
             rcases h with ⟨hc9, h⟩ | ⟨hc9, h⟩
             ·
              subst hc9
              refine cw_false Z (cw_skip (ew_then (cw_seq (cw_region (lw_op Z Z Z (ow_assign Z Z (lw_nil (ew_then (cw_seq (cw_region (lw_op Z Z Z (ow_loadOwnA Z Z Z ho180 (Tryd.isAgg48 _) (Tryd.sizeOf48 _) Z ?_))))))))))))
              have lz39 := (((hl49.trans hl64).trans hl65).trans hl66)
              have hw109 : VRep RBox w66 (Add g9 (Add g3 M)) ({ Sides := x12.2.Sides } : Box) (.agg #[(.slice A4 x6.Sides.length c4)]) := shut_Box (VRep.mono lz39 hw98)
              refine lw_op Z Z Z (ow_move Z Z (lw_op Z Z Z (ow_call Z Z Tryd.call32 (w_laws_heldBox (hG.mono (lz38.trans hl66)) hC66.old hw109 hx13) fun v63 w67 hv63 => ?_)))
              obtain ⟨hv63, hb43⟩ := hv63
              have hC67 := hC66.no hb43
              obtain rfl := vint_eq hv63
              refine lw_op Z Z Z (ow_assign Z Z (lw_nil (ew_then (cw_seq (cw_seq (cw_region (lw_op Z Z Z (ow_move Z Z (lw_op Z Z Z (ow_lss Z Z Z fun bb6 hbb6 => ?_))))))))))
              obtain rfl := hbb6.trans hc7
              refine lw_nil (ew_then (cw_false Z (cw_skip (ew_then (cw_seq (cw_seq (cw_region (lw_op Z Z Z (ow_move Z Z (lw_op Z Z Z (ow_move Z Z (lw_op Z Z Z (ow_neqI Z Z Z fun bb7 hbb7 => ?_)))))))))))))
              obtain rfl := hbb7.trans hc8
              refine lw_nil (ew_then (cw_false Z (cw_skip (ew_then (cw_seq (cw_region (lw_op Z Z Z (ow_assign Z Z (lw_nil (ew_then (cw_ret ?_)))))))))))
              obtain rfl := sj h
              exact ew_ret (res1 Z (.tmp Z)) ⟨_, Z, ((vbool _)), hC67.bx⟩
             ·
              subst hc9
              refine cw_true Z (cw_seq (cw_region (lw_op Z Z Z (ow_assign Z Z (lw_nil (ew_then (cw_ret (ew_thenR ?_))))))))
              obtain rfl := sj h
              exact ew_ret (res1 Z (.tmp Z)) ⟨_, Z, ((vbool _)), hC66.bx⟩
        ·
         subst hc5
         refine cw_true Z (cw_seq (cw_region (lw_op Z Z Z (ow_assign Z Z (lw_nil (ew_then (cw_ret (ew_thenR ?_))))))))
         obtain rfl := sj h
         exact ew_ret (res1 Z (.tmp Z)) ⟨_, Z, ((vbool _)), hC44.bx⟩
      ·
       subst hc4
       refine cw_true Z (cw_seq (cw_region (lw_op Z Z Z (ow_assign Z Z (lw_nil (ew_then (cw_ret (ew_thenR ?_))))))))
       obtain rfl := sj h
       exact ew_ret (res1 Z (.tmp Z)) ⟨_, Z, ((vbool _)), hC37.bx⟩
    ·
     subst hc3
     refine cw_true Z (cw_seq (cw_region (lw_op Z Z Z (ow_assign Z Z (lw_nil (ew_then (cw_ret (ew_thenR ?_))))))))
     obtain rfl := sj h
     exact ew_ret (res1 Z (.tmp Z)) ⟨_, Z, ((vbool _)), hC30.bx⟩


end Go.PF
