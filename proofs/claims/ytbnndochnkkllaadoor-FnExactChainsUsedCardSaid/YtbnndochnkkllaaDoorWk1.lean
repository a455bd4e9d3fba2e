/- The walks; no condition. -/
import Derived.Test.YtbnndochnkkllaaDoorProg
import Derived.Test.YtbnndochnkkllaaDoorWk0
import Derived.Test.YtbnndochnkkllaaDoorPFMark
import Derived.Test.YtbnndochnkkllaaDoorPFWild
set_option maxRecDepth 100000
set_option maxHeartbeats 4000000
namespace Go.PF
open Go Go.RowKit Go.Proofs

theorem w_spec_l8Order {w : World} {M : Nat → Prop} (_hG : ARep (RArr 4 RShape) w M shapes ⟨0, 0, none⟩) (hO : ∀ b, M b → b < w.heap.size) {v0p : Value} {a_s : Ruleset} (h0 : VRep RRuleset w M a_s v0p) {r : (List Int)} (h : F.spec_l8Order a_s = some r) :
  Calls Tryd.prog 144 [v0p].toArray w fun e w' => ∃ v, e = .returned v ∧ VRep (RSlice RInt) w' M r v ∧ BX No w w' := by
 obtain ⟨i3, hi3, hz3, hs3, hy3⟩ := info3
 obtain ⟨i4, hi4, hz4, hs4, hy4⟩ := info4
 have hC : Cx No w M w M := Cx.start hO (fun _ e => e.elim)
 clear _hG
 refine walk (N := 74) Tryd.func144 Z Tryd.ntmps144 Z (cw_seq (cw_region (lw_op Z Z Z (ow_box (R := RRuleset) Z Z h0 hC fun p1 w1 hp1 hb1 hl1 hC1 => lw_op Z Z Z (ow_assign Z Z (lw_nil (ew_then (cw_seq (cw_region (lw_op Z Z Z (ow_fieldAddr Z Z Tryd.underlying25 Z (Tryd.sizeOf23 _) (lw_op Z Z Z (ow_load (R := (RSlice (RSlice RRule))) Z Z (hp1.fld fld_Ruleset_Chains) (Tryd.sizeOf23 _) (Tryd.isAgg23 _) fun v1 hv1 => lw_op Z Z Z (ow_len Z Z hv1 Tryd.underlying23 Z ?_))))))))))))))
 replace h := bind_some h
 obtain ⟨mk1, hmk1, h⟩ := h
 refine lw_op Z Z Z (ow_make (R := RBool) Z Z Z Tryd.underlying168 hi4 hz4 hs4 hy4 Z Z (vbool false) hmk1 hC1 fun v2 w2 M1 hr1 hb2 hl2 hC2 hM1 hat1 => lw_op Z Z Z (ow_assign Z Z (lw_nil (ew_then (cw_seq (cw_region (lw_op Z Z Z (ow_buildSlice0 (R := RInt) (e := 3) Z (by kernel_rfl) hC2 fun p2 w3 M2 hr2 hb3 hl3 hC3 hM2 hat2 => ?_))))))))
 have hr3 := hr1.go hb3 (fun _ _ e => e) hl3 hM2
 refine lw_op Z Z Z (ow_assign Z Z (lw_nil (ew_then (cw_seq (cw_seq (cw_region (lw_op Z Z Z (ow_assign Z Z (lw_nil (ew_then ?_))))))))))
 replace h := bind_some h
 obtain ⟨lr1, hlr1, h⟩ := h
 refine cw_for hlr1 (fun s a w' => ∃ (M' : Nat → Prop) (v0c : Value), Fits 74 [(1, (.pointer (some p1))), (3, v2), (4, v0c), (5, (Zv s.2.1))] a ∧ Le w3 M2 w' M' ∧ Cx No w M w' M' ∧ OwnRow RInt w.heap.size 3 w' M' s.1 v0c ∧ OwnRow RBool w.heap.size 4 w' M' s.2.2 v2) ?_ ?_ ?_
 · exact fun a ha => ⟨M2, (.slice (some p2) 0 0), ha.sub ⟨Z, Z, Z, Z, Zt⟩, Le.refl _ _, hC3, hr2, hr3⟩
 ·
  rintro ⟨y1, k1, y2⟩ a w4 sr1 ⟨M3, v3, hF1, hl4, hC4, hw1, hw2⟩ hb4 hR1
  refine cw_at (E := [(1, (.pointer (some p1))), (3, v2), (4, v3), (5, (Zv k1))]) hF1 (cw_seq (cw_seq (cw_region (lw_op Z Z Z (ow_move Z Z (lw_op Z Z Z (ow_fieldAddr Z Z Tryd.underlying25 Z (Tryd.sizeOf23 _) ?_)))))))
  have lz1 := ((hl2.trans hl3).trans hl4)
  refine lw_op Z Z Z (ow_load (R := (RSlice (RSlice RRule))) Z Z (ARep.mono lz1 (hp1.fld fld_Ruleset_Chains)) (Tryd.sizeOf23 _) (Tryd.isAgg23 _) fun v6 hv6 => lw_op Z Z Z (ow_len Z Z hv6 Tryd.underlying23 Z (lw_op Z Z Z (ow_lss Z Z Z fun bb1 hbb1 => lw_nil (ew_then ?_)))))
  replace hb4 := cond_some hb4
  rcases hb4 with ⟨hc1, hb4⟩ | ⟨hc1, hb4⟩
  ·
   obtain rfl := hbb1.trans hc1
   refine cw_true Z (cw_skip (ew_then (cw_seq (cw_block (cw_seq (cw_region (lw_op Z Z Z (ow_assign Z Z (lw_nil (ew_then ?_))))))))))
   replace hb4 := bind_some hb4
   obtain ⟨lr2, hlr2, hb4⟩ := hb4
   refine cw_for hlr2 (fun s a w' => ∃ (M' : Nat → Prop) (v0c : Value), Fits 74 [(1, (.pointer (some p1))), (3, v2), (4, v0c), (5, (Zv k1)), (6, (Zv s.2.1))] a ∧ Le w4 M3 w' M' ∧ Cx No w M w' M' ∧ OwnRow RInt w.heap.size 3 w' M' s.1 v0c ∧ OwnRow RBool w.heap.size 4 w' M' s.2.2 v2) ?_ ?_ ?_
   · exact fun a ha => ⟨M3, v3, ha.sub ⟨Z, Z, Z, Z, Z, Zt⟩, Le.refl _ _, hC4, hw1, hw2⟩
   ·
    rintro ⟨y3, k2, y4⟩ a w5 sr2 ⟨M4, v7, hF2, hl5, hC5, hw3, hw4⟩ hb5 hR2
    refine cw_at (E := [(1, (.pointer (some p1))), (3, v2), (4, v7), (5, (Zv k1)), (6, (Zv k2))]) hF2 (cw_seq (cw_seq (cw_region (lw_op Z Z Z (ow_move Z Z (lw_op Z Z Z (ow_fieldAddr Z Z Tryd.underlying25 Z (Tryd.sizeOf23 _) (lw_op Z Z Z (ow_load (R := (RSlice (RSlice RRule))) Z Z (ARep.mono (lz1.trans hl5) (hp1.fld fld_Ruleset_Chains)) (Tryd.sizeOf23 _) (Tryd.isAgg23 _) fun v10 hv10 => lw_op Z Z Z (ow_len Z Z hv10 Tryd.underlying23 Z (lw_op Z Z Z (ow_lss Z Z Z fun bb2 hbb2 => lw_nil (ew_then ?_)))))))))))))
    replace hb5 := cond_some hb5
    rcases hb5 with ⟨hc2, hb5⟩ | ⟨hc2, hb5⟩
    ·
     obtain rfl := hbb2.trans hc2
     refine cw_true Z (cw_skip (ew_then (cw_seq (cw_block (cw_seq (cw_region (lw_op Z Z Z (ow_move Z Z (lw_op Z Z Z (ow_move Z Z ?_))))))))))
     replace hb5 := bind_some hb5
     obtain ⟨x1, hx1, hb5⟩ := hb5
     refine lw_op Z Z Z (ow_indexRow (R := RBool) Z Z Z hw4 Tryd.underlying168 (Tryd.sizeOf4 _) hx1 (lw_op Z Z Z (ow_loadElRow (R := RBool) (S := RBool) Z Z Z hw4 (orow_blk hw4 hx1) hx1 (Fld.whole RBool) (Tryd.sizeOf4 _) (Tryd.isAgg4 _) fun v11 hv11 => ?_)))
     obtain rfl := vbool_eq hv11
     refine lw_op Z Z Z (ow_not Z Z (lw_op Z Z Z (ow_assign Z Z (lw_nil (ew_then (cw_seq (cw_seq (cw_region (lw_op Z Z Z (ow_assign Z Z (lw_nil (ew_then ?_))))))))))))
     replace hb5 := bind_some hb5
     obtain ⟨lr3, hlr3, hb5⟩ := hb5
     refine cw_for hlr3 (fun s a w' => ∃ (M' : Nat → Prop), Fits 74 [(1, (.pointer (some p1))), (3, v2), (4, v7), (5, (Zv k1)), (6, (Zv k2)), (7, (.bool s.1)), (8, (Zv s.2.1))] a ∧ Le w5 M4 w' M' ∧ Cx No w M w' M' ∧ OwnRow RBool w.heap.size 4 w' M' s.2.2.1 v2 ∧ OwnRow RInt w.heap.size 3 w' M' s.2.2.2 v7) ?_ ?_ ?_
     · exact fun a ha => ⟨M4, ha.sub ⟨Z, Z, Z, Z, Z, Z, Z, Zt⟩, Le.refl _ _, hC5, hw4, hw3⟩
     ·
      rintro ⟨y5, k3, y6, y7⟩ a w6 sr3 ⟨M5, hF3, hl6, hC6, hw5, hw6⟩ hb6 hR3
      refine cw_at (E := [(1, (.pointer (some p1))), (3, v2), (4, v7), (5, (Zv k1)), (6, (Zv k2)), (7, (.bool y5)), (8, (Zv k3))]) hF3 (cw_seq (cw_seq (cw_region (lw_op Z Z Z (ow_move Z Z (lw_op Z Z Z (ow_fieldAddr Z Z Tryd.underlying25 Z (Tryd.sizeOf23 _) ?_)))))))
      have lz2 := ((lz1.trans hl5).trans hl6)
      refine lw_op Z Z Z (ow_load (R := (RSlice (RSlice RRule))) Z Z (ARep.mono lz2 (hp1.fld fld_Ruleset_Chains)) (Tryd.sizeOf23 _) (Tryd.isAgg23 _) fun v16 hv16 => lw_op Z Z Z (ow_move Z Z ?_))
      replace hb6 := bind_some hb6
      obtain ⟨x2, hx2, hb6⟩ := hb6
      refine lw_op Z Z Z (ow_indexSlice (R := (RSlice RRule)) Z Z Z hv16 Tryd.underlying23 (Tryd.sizeOf39 _) hx2 fun p3 hp3 => lw_op Z Z Z (ow_load (R := (RSlice RRule)) Z Z hp3 (Tryd.sizeOf39 _) (Tryd.isAgg39 _) fun v17 hv17 => lw_op Z Z Z (ow_len Z Z hv17 Tryd.underlying39 Z (lw_op Z Z Z (ow_lss Z Z Z fun bb3 hbb3 => lw_nil (ew_then ?_))))))
      replace hb6 := cond_some hb6
      rcases hb6 with ⟨hc3, hb6⟩ | ⟨hc3, hb6⟩
      ·
       obtain rfl := hbb3.trans hc3
       refine cw_true Z (cw_skip (ew_then (cw_seq (cw_block (cw_seq (cw_region (lw_op Z Z Z (ow_fieldAddr Z Z Tryd.underlying25 Z (Tryd.sizeOf23 _) (lw_op Z Z Z (ow_load (R := (RSlice (RSlice RRule))) Z Z (ARep.mono lz2 (hp1.fld fld_Ruleset_Chains)) (Tryd.sizeOf23 _) (Tryd.isAgg23 _) fun v18 hv18 => lw_op Z Z Z (ow_move Z Z (lw_op Z Z Z (ow_indexSlice (R := (RSlice RRule)) Z Z Z hv18 Tryd.underlying23 (Tryd.sizeOf39 _) hx2 fun p4 hp4 => lw_op Z Z Z (ow_load (R := (RSlice RRule)) Z Z hp4 (Tryd.sizeOf39 _) (Tryd.isAgg39 _) fun v19 hv19 => lw_op Z Z Z (ow_move Z Z ?_)))))))))))))))
       replace hb6 := bind_some hb6
       obtain ⟨x3, hx3, hb6⟩ := hb6
       refine lw_op Z Z Z (ow_indexSlice (R := RRule) Z Z Z hv19 Tryd.underlying39 (Tryd.sizeOf38 _) hx3 fun p5 hp5 => lw_op Z Z Z (ow_load (R := RRule) Z Z hp5 (Tryd.sizeOf38 _) (Tryd.isAgg38 _) fun v20 hv20 => lw_allocStore (R := RRule) Z Z Z Z Z Z Z Tryd.zeroValue38 Tryd.sizeOf38 Z Z Z (by simp) hv20 hC6 fun p6 w7 hp6 hb7 hl7 hC7 => ?_))
       have hr4 := hw5.no hb7
       have hr5 := hw6.no hb7
       refine lw_nil (ew_then (cw_region (lw_op Z Z Z (ow_move Z Z (lw_op Z Z Z (ow_move Z Z ?_))))))
       replace hb6 := cond_some hb6
       rcases hb6 with ⟨hc4, hb6⟩ | ⟨hc4, hb6⟩
       ·
        subst hc4
        refine lw_on Z Z Z Z Z Z (ow_fieldAddr Z Z Tryd.underlying38 Z (Tryd.sizeOf3 _) (lw_on Z Z Z Z Z Z (ow_load (R := RInt) Z Z (hp6.fld fld_Rule_Action) (Tryd.sizeOf3 _) (Tryd.isAgg3 _) fun v21 hv21 => ?_)))
        obtain rfl := vint_eq hv21
        refine lw_on Z Z Z Z Z Z (ow_neqI Z Z Z fun bb4 hbb4 => lw_on Z Z Z Z Z Z (ow_move Z Z ?_))
        replace hb6 := cond_some hb6
        rcases hb6 with ⟨hc5, hb6⟩ | ⟨hc5, hb6⟩
        ·
         obtain rfl := hbb4.trans hc5
         exact lw_off Z Z Z Z Z Z (lw_off Z Z Z Z Z Z (lw_off Z Z Z Z Z Z (lw_off Z Z Z Z Z Z (lw_off Z Z Z Z Z Z (lw_on Z Z Z Z Z Z (ow_pickT Z Z Z (lw_op Z Z Z (ow_pickT Z Z Z (lw_op Z Z Z (ow_assign Z Z (lw_nil (ew_blockN (ew_then (cw_region (lw_op Z Z Z (ow_move Z Z (lw_op Z Z Z (ow_add Z Z Z (lw_op Z Z Z (ow_assign Z Z (lw_nil (ew_nxt (true, (W (k3 + 1)), y6, y7) hb6 fun a ha => ⟨M5, (ha.sub ⟨Z, Z, Z, Z, Z, Z, Z, Zt⟩), (hl6.trans hl7), hC7, hr4, hr5⟩))))))))))))))))))))))
        ·
         obtain rfl := hbb4.trans hc5
         refine lw_on Z Z Z Z Z Z (ow_move Z Z (lw_on Z Z Z Z Z Z (ow_fieldAddr Z Z Tryd.underlying38 Z (Tryd.sizeOf3 _) (lw_on Z Z Z Z Z Z (ow_load (R := RInt) Z Z (hp6.fld fld_Rule_Chain) (Tryd.sizeOf3 _) (Tryd.isAgg3 _) fun v22 hv22 => ?_)))))
         obtain rfl := vint_eq hv22
         replace hb6 := bind_some hb6
         obtain ⟨x4, hx4, hb6⟩ := hb6
         refine lw_on Z Z Z Z Z Z (ow_indexRow (R := RBool) Z Z Z hr4 Tryd.underlying168 (Tryd.sizeOf4 _) hx4 (lw_on Z Z Z Z Z Z (ow_loadElRow (R := RBool) (S := RBool) Z Z Z hr4 (orow_blk hr4 hx4) hx4 (Fld.whole RBool) (Tryd.sizeOf4 _) (Tryd.isAgg4 _) fun v23 hv23 => ?_)))
         obtain rfl := vbool_eq hv23
         exact lw_on Z Z Z Z Z Z (ow_pickF Z Z Z (lw_op Z Z Z (ow_pickT Z Z Z (lw_op Z Z Z (ow_assign Z Z (lw_nil (ew_blockN (ew_then (cw_region (lw_op Z Z Z (ow_move Z Z (lw_op Z Z Z (ow_add Z Z Z (lw_op Z Z Z (ow_assign Z Z (lw_nil (ew_nxt (x4, (W (k3 + 1)), y6, y7) hb6 fun a ha => ⟨M5, (ha.sub ⟨Z, Z, Z, Z, Z, Z, Z, Zt⟩), (hl6.trans hl7), hC7, hr4, hr5⟩)))))))))))))))))
       ·
        subst hc4
        exact lw_off Z Z Z Z Z Z (lw_off Z Z Z Z Z Z (lw_off Z Z Z Z Z Z (lw_off Z Z Z Z Z Z (lw_off' Z Z Z Z Z Z (lw_off' Z Z Z Z Z Z (lw_off' Z Z Z Z Z Z (lw_off' Z Z Z Z Z Z (lw_off' Z Z Z Z Z Z (lw_off Z Z Z Z Z Z (lw_op Z Z Z (ow_pickF Z Z Z (lw_op Z Z Z (ow_assign Z Z (lw_nil (ew_blockN (ew_then (cw_region (lw_op Z Z Z (ow_move Z Z (lw_op Z Z Z (ow_add Z Z Z (lw_op Z Z Z (ow_assign Z Z (lw_nil (ew_nxt (false, (W (k3 + 1)), y6, y7) hb6 fun a ha => ⟨M5, (ha.sub ⟨Z, Z, Z, Z, Z, Z, Z, Zt⟩), (hl6.trans hl7), hC7, hr4, hr5⟩)))))))))))))))))))))))))
      ·
       obtain rfl := hbb3.trans hc3
       exact cw_false Z (cw_exit (ew_thenX (ew_thenX (ew_blockX (ew_brk (y5, k3, y6, y7) hb6 fun a ha => ⟨M5, (ha.sub ⟨Z, Z, Z, Z, Z, Z, Z, Zt⟩), hl6, hC6, hw5, hw6⟩)))))
     ·
      rintro ⟨y8, k4, y9, y10⟩ a w8 hlr4 ⟨M6, hF4, hl8, hC8, hw7, hw8⟩
      subst hlr4
      refine ew_at (E := [(1, (.pointer (some p1))), (3, v2), (4, v7), (5, (Zv k1)), (6, (Zv k2)), (7, (.bool y8)), (8, (Zv k4))]) hF4 (ew_then (cw_seq (cw_region (lw_op Z Z Z (ow_move Z Z (lw_nil (ew_then ?_)))))))
      replace hb5 := cond_some hb5
      rcases hb5 with ⟨hc6, hb5⟩ | ⟨hc6, hb5⟩
      ·
       subst hc6
       refine cw_true Z (cw_seq (cw_region (lw_op Z Z Z (ow_move Z Z (lw_op Z Z Z (ow_move Z Z ?_))))))
       replace hb5 := bind_some hb5
       obtain ⟨x5, hx5, hb5⟩ := hb5
       refine lw_op Z Z Z (ow_indexRow (R := RBool) Z Z Z hw7 Tryd.underlying168 (Tryd.sizeOf4 _) hx5 (lw_op0 Z Z (ow_storeElRow (X := No) (R := RBool) (S := RBool) Z Z Z Z hw7 (orow_blk hw7 hx5) hx5 (FldSet.whole RBool) (Tryd.sizeOf4 _) (vbool _) (Nat.le_refl _) hC8 fun w9 ho1 hb8 hl9 hC9 => ?_)))
       have hr6 := hw8.go hb8 (fun k hk e => orow_row_ne hw8 hw7 (by decide) hk (by rw [orow_blk hw7 hx5]; exact congrArg some e.symm)) hl9 (fun _ h => h)
       refine lw_nil (ew_then (cw_region (lw_op Z Z Z (ow_move Z Z (lw_op Z Z Z (ow_move Z Z (lw_op Z Z Z (ow_buildSlice (R := RInt) (xs := [k2]) (cs := #[(Zv k2)]) (e := 3) Z Z (by kernel_rfl) Z Z ⟨_, _, Z, (vint _).cells, Z⟩ hC9 fun p7 w10 hw9 hb9 hl10 hC10 => ?_))))))))
       have hr7 := ho1.no hb9
       have hr8 := hr6.no hb9
       replace hb5 := bind_some hb5
       obtain ⟨z1, hz1, hb5⟩ := hb5
       refine lw_op Z Z Z (ow_append (R := RInt) Z Z Z Z Tryd.underlying34 hi3 hz3 hs3 hy3 Z Z Z Z hr8 hw9 hz1 hC10 fun v28 w11 M7 hr9 hb10 hl11 hC11 hM3 hat3 => ?_)
       have hr10 := hr7.goRow hr8 hb10 hl11 hM3 (by decide)
       refine lw_op Z Z Z (ow_assign Z Z (lw_nil (ew_blockN (ew_then (cw_region (lw_op Z Z Z (ow_move Z Z (lw_op Z Z Z (ow_add Z Z Z (lw_op Z Z Z (ow_assign Z Z (lw_nil ?_))))))))))))
       have lz3 := ((((hl5.trans hl8).trans hl9).trans hl10).trans hl11)
       exact ew_nxt (z1, (W (k2 + 1)), (List.set y9 (k2 : Int).toNat true)) hb5 fun a ha => ⟨M7, v28, (ha.sub ⟨Z, Z, Z, Z, Z, Zt⟩), lz3, hC11, hr9, hr10⟩
      ·
       subst hc6
       exact cw_false Z (cw_skip (ew_blockN (ew_then (cw_region (lw_op Z Z Z (ow_move Z Z (lw_op Z Z Z (ow_add Z Z Z (lw_op Z Z Z (ow_assign Z Z (lw_nil (ew_nxt (y10, (W (k2 + 1)), y9) hb5 fun a ha => ⟨M6, v7, (ha.sub ⟨Z, Z, Z, Z, Z, Zt⟩), (hl5.trans hl8), hC8, hw8, hw7⟩))))))))))))
    ·
     obtain rfl := hbb2.trans hc2
     exact cw_false Z (cw_exit (ew_thenX (ew_thenX (ew_blockX (ew_brk (y3, k2, y4) hb5 fun a ha => ⟨M4, v7, (ha.sub ⟨Z, Z, Z, Z, Z, Zt⟩), hl5, hC5, hw3, hw4⟩)))))
   ·
    rintro ⟨y11, k5, y12⟩ a w12 hlr5 ⟨M8, v29, hF5, hl12, hC12, hw10, hw11⟩
    subst hlr5
    exact ew_at (E := [(1, (.pointer (some p1))), (3, v2), (4, v29), (5, (Zv k1)), (6, (Zv k5))]) hF5 (ew_blockN (ew_then (cw_region (lw_op Z Z Z (ow_move Z Z (lw_op Z Z Z (ow_add Z Z Z (lw_op Z Z Z (ow_assign Z Z (lw_nil (ew_nxt (y11, (W (k1 + 1)), y12) hb4 fun a ha => ⟨M8, v29, (ha.sub ⟨Z, Z, Z, Z, Zt⟩), (hl4.trans hl12), hC12, hw10, hw11⟩)))))))))))
  ·
   obtain rfl := hbb1.trans hc1
   exact cw_false Z (cw_exit (ew_thenX (ew_thenX (ew_blockX (ew_brk (y1, k1, y2) hb4 fun a ha => ⟨M3, v3, (ha.sub ⟨Z, Z, Z, Z, Zt⟩), hl4, hC4, hw1, hw2⟩)))))
 ·
  rintro ⟨y13, k6, y14⟩ a w13 hlr6 ⟨M9, v32, hF6, hl13, hC13, hw12, hw13⟩
  subst hlr6
  refine ew_at (E := [(1, (.pointer (some p1))), (3, v2), (4, v32), (5, (Zv k6))]) hF6 (ew_then (cw_seq (cw_region (lw_op Z Z Z (ow_move Z Z (lw_op Z Z Z (ow_assign Z Z (lw_nil (ew_then (cw_ret ?_))))))))))
  obtain rfl := sj h
  exact ew_ret (res1 Z (.tmp Z)) ⟨_, Z, (hw12.freezeBack hC13 hO), hC13.bx⟩

theorem w_spec_RulesetValid {w : World} {M : Nat → Prop} (hG : ARep (RArr 4 RShape) w M shapes ⟨0, 0, none⟩) (hO : ∀ b, M b → b < w.heap.size) {v0p : Value} {a_s : Ruleset} (h0 : VRep RRuleset w M a_s v0p) {r : Bool} (h : F.spec_RulesetValid a_s = some r) :
  Calls Tryd.prog 80 [v0p].toArray w fun e w' => ∃ v, e = .returned v ∧ VRep RBool w' M r v ∧ BX No w w' := by
 have hC : Cx No w M w M := Cx.start hO (fun _ e => e.elim)
 refine walk (N := 55) Tryd.func80 Z Tryd.ntmps80 Z (cw_seq (cw_region (lw_op Z Z Z (ow_box (R := RRuleset) Z Z h0 hC fun p1 w1 hp1 hb1 hl1 hC1 => lw_op Z Z Z (ow_assign Z Z (lw_nil (ew_then (cw_seq (cw_seq (cw_region (lw_op Z Z Z (ow_assign Z Z (lw_nil (ew_then ?_))))))))))))))
 replace h := bind_some h
 obtain ⟨lr1, hlr1, h⟩ := h
 refine cw_for hlr1 (fun s a w' => ∃ (M' : Nat → Prop), Fits 55 [(1, (.pointer (some p1))), (3, (Zv s))] a ∧ Le w1 M w' M' ∧ Cx No w M w' M') ?_ ?_ ?_
 · exact fun a ha => ⟨M, ha.sub ⟨Z, Z, Zt⟩, Le.refl _ _, hC1⟩
 ·
  rintro k1 a w2 sr1 ⟨M1, hF1, hl2, hC2⟩ hb2 hR1
  refine cw_at (E := [(1, (.pointer (some p1))), (3, (Zv k1))]) hF1 (cw_seq (cw_seq (cw_region (lw_op Z Z Z (ow_move Z Z (lw_op Z Z Z (ow_fieldAddr Z Z Tryd.underlying25 Z (Tryd.sizeOf23 _) (lw_op Z Z Z (ow_load (R := (RSlice (RSlice RRule))) Z Z (ARep.mono hl2 (hp1.fld fld_Ruleset_Chains)) (Tryd.sizeOf23 _) (Tryd.isAgg23 _) fun v2 hv2 => lw_op Z Z Z (ow_len Z Z hv2 Tryd.underlying23 Z (lw_op Z Z Z (ow_lss Z Z Z fun bb1 hbb1 => lw_nil (ew_then ?_)))))))))))))
  replace hb2 := cond_some hb2
  rcases hb2 with ⟨hc1, hb2⟩ | ⟨hc1, hb2⟩
  ·
   obtain rfl := hbb1.trans hc1
   refine cw_true Z (cw_skip (ew_then (cw_seq (cw_block (cw_seq (cw_seq (cw_region (lw_op Z Z Z (ow_fieldAddr Z Z Tryd.underlying25 Z (Tryd.sizeOf23 _) (lw_op Z Z Z (ow_load (R := (RSlice (RSlice RRule))) Z Z (ARep.mono hl2 (hp1.fld fld_Ruleset_Chains)) (Tryd.sizeOf23 _) (Tryd.isAgg23 _) fun v3 hv3 => lw_op Z Z Z (ow_move Z Z ?_))))))))))))
   replace hb2 := bind_some hb2
   obtain ⟨x1, hx1, hb2⟩ := hb2
   refine lw_op Z Z Z (ow_indexSlice (R := (RSlice RRule)) Z Z Z hv3 Tryd.underlying23 (Tryd.sizeOf39 _) hx1 fun p2 hp2 => lw_op Z Z Z (ow_load (R := (RSlice RRule)) Z Z hp2 (Tryd.sizeOf39 _) (Tryd.isAgg39 _) fun v4 hv4 => ?_))
   replace hb2 := bind_some hb2
   obtain ⟨x2, hx2, hb2⟩ := hb2
   refine lw_op Z Z Z (ow_call Z Z Tryd.call143 (w_spec_RulesValid (hG.mono (hl1.trans hl2)) hC2.old hv4 hx2) fun v5 w3 hv5 => ?_)
   obtain ⟨hv5, hb3⟩ := hv5
   have hl3 := Le.no M1 hb3
   have hC3 := hC2.no hb3
   obtain rfl := vbool_eq hv5
   refine lw_op Z Z Z (ow_not Z Z (lw_nil (ew_then ?_)))
   replace hb2 := cond_some hb2
   rcases hb2 with ⟨hc2, hb2⟩ | ⟨hc2, hb2⟩
   ·
    subst hc2
    refine cw_false Z (cw_skip (ew_then (cw_seq (cw_region (lw_op Z Z Z (ow_assign Z Z (lw_nil (ew_then ?_))))))))
    replace hb2 := bind_some hb2
    obtain ⟨lr2, hlr2, hb2⟩ := hb2
    refine cw_for hlr2 (fun s a w' => ∃ (M' : Nat → Prop), Fits 55 [(1, (.pointer (some p1))), (3, (Zv k1)), (4, (Zv s))] a ∧ Le w3 M1 w' M' ∧ Cx No w M w' M') ?_ ?_ ?_
    · exact fun a ha => ⟨M1, ha.sub ⟨Z, Z, Z, Zt⟩, Le.refl _ _, hC3⟩
    ·
     rintro k2 a w4 sr2 ⟨M2, hF2, hl4, hC4⟩ hb4 hR2
     refine cw_at (E := [(1, (.pointer (some p1))), (3, (Zv k1)), (4, (Zv k2))]) hF2 (cw_seq (cw_seq (cw_region (lw_op Z Z Z (ow_move Z Z (lw_op Z Z Z (ow_fieldAddr Z Z Tryd.underlying25 Z (Tryd.sizeOf23 _) ?_)))))))
     have lz1 := ((hl2.trans hl3).trans hl4)
     refine lw_op Z Z Z (ow_load (R := (RSlice (RSlice RRule))) Z Z (ARep.mono lz1 (hp1.fld fld_Ruleset_Chains)) (Tryd.sizeOf23 _) (Tryd.isAgg23 _) fun v7 hv7 => lw_op Z Z Z (ow_move Z Z (lw_op Z Z Z (ow_indexSlice (R := (RSlice RRule)) Z Z Z hv7 Tryd.underlying23 (Tryd.sizeOf39 _) hx1 fun p3 hp3 => lw_op Z Z Z (ow_load (R := (RSlice RRule)) Z Z hp3 (Tryd.sizeOf39 _) (Tryd.isAgg39 _) fun v8 hv8 => lw_op Z Z Z (ow_len Z Z hv8 Tryd.underlying39 Z (lw_op Z Z Z (ow_lss Z Z Z fun bb2 hbb2 => lw_nil (ew_then ?_)))))))))
     replace hb4 := cond_some hb4
     rcases hb4 with ⟨hc3, hb4⟩ | ⟨hc3, hb4⟩
     ·
      obtain rfl := hbb2.trans hc3
      refine cw_true Z (cw_skip (ew_then (cw_seq (cw_block (cw_seq ?_)))))
      replace hb4 := bind_some hb4
      obtain ⟨x3, hx3, hb4⟩ := hb4
      refine cw_sub (E' := [(1, (.pointer (some p1))), (3, (Zv k1)), (4, (Zv k2))]) ⟨Z, Z, Z, Zt⟩ (cw_drawQ 12 [PA (RSlice (RSlice RRule)) M2 a_s.Chains, PV (RSlice (RSlice RRule)) M2 a_s.Chains, PEq (Zv k1), PA (RSlice RRule) M2 x1, PV (RSlice RRule) M2 x1, PEq (Zv k2), PA RRule M2 x3, PA RInt M2 x3.Chain, PEq (Zv x3.Chain), PA (RSlice (RSlice RRule)) M2 a_s.Chains, PV (RSlice (RSlice RRule)) M2 a_s.Chains, PEq (Zv (a_s.Chains.length : Int))] (by kernel_rfl) Z (by kernel_rfl) ⟨PA.mono _ _ _, PV.mono _ _ _, Zq, PA.mono _ _ _, PV.mono _ _ _, Zq, PA.mono _ _ _, PA.mono _ _ _, Zq, PA.mono _ _ _, PV.mono _ _ _, Zq, Zt⟩ ⟨?_, ?_, ?_, ?_, ?_, ?_, ?_, ?_, ?_, ?_, ?_, ?_, Zt⟩ ?_)
      ·
       intro w5 D hS1 hd1
       have hl5 := Le.no M2 hS1
       exact dg_sub (E' := [(1, (.pointer (some p1)))]) ⟨Z, Zt⟩ (dg_plain Z (ow_fieldAddr Z Z Tryd.underlying25 Z (Tryd.sizeOf23 _) ⟨BX.refl _ _, ⟨_, Z, (ARep.mono (lz1.trans hl5) (hp1.fld fld_Ruleset_Chains))⟩⟩))
      ·
       intro w6 D hS2 hd2
       have d1 : PA (RSlice (RSlice RRule)) M2 a_s.Chains (D 0) w6 := dpA hd2 0 Z
       obtain ⟨p6, e1, ha1⟩ := d1
       exact dg_sub (E' := [(29, (.pointer (some p6)))]) ⟨congrArg some e1, Zt⟩ (dg_plain Z (ow_load (R := (RSlice (RSlice RRule))) Z Z ha1 (Tryd.sizeOf23 _) (Tryd.isAgg23 _) fun v13 hv13 => ⟨BX.refl _ _, hv13⟩))
      · exact fun w7 D hS3 hd3 => dg_sub (E' := [(3, (Zv k1))]) ⟨Z, Zt⟩ (dg_plain Z (ow_move Z Z Zb))
      ·
       intro w8 D hS4 hd4
       have d2 : PV (RSlice (RSlice RRule)) M2 a_s.Chains (D 1) w8 := dpA hd4 1 Z
       generalize hq1 : (D 1) = v14 at d2
       exact dg_sub (E' := [(30, v14), (31, (Zv k1))]) ⟨congrArg some hq1, dpE hd4 2 Z Z, Zt⟩ (dg_plain Z (ow_indexSlice (R := (RSlice RRule)) Z Z Z d2 Tryd.underlying23 (Tryd.sizeOf39 _) hx1 fun p7 hp7 => ⟨BX.refl _ _, ⟨_, Z, hp7⟩⟩))
      ·
       intro w9 D hS5 hd5
       have d4 : PA (RSlice RRule) M2 x1 (D 3) w9 := dpA hd5 3 Z
       obtain ⟨p8, e2, ha2⟩ := d4
       exact dg_sub (E' := [(32, (.pointer (some p8)))]) ⟨congrArg some e2, Zt⟩ (dg_plain Z (ow_load (R := (RSlice RRule)) Z Z ha2 (Tryd.sizeOf39 _) (Tryd.isAgg39 _) fun v15 hv15 => ⟨BX.refl _ _, hv15⟩))
      · exact fun w10 D hS6 hd6 => dg_sub (E' := [(4, (Zv k2))]) ⟨Z, Zt⟩ (dg_plain Z (ow_move Z Z Zb))
      ·
       intro w11 D hS7 hd7
       have d5 : PV (RSlice RRule) M2 x1 (D 4) w11 := dpA hd7 4 Z
       generalize hq2 : (D 4) = v16 at d5
       exact dg_sub (E' := [(33, v16), (34, (Zv k2))]) ⟨congrArg some hq2, dpE hd7 5 Z Z, Zt⟩ (dg_plain Z (ow_indexSlice (R := RRule) Z Z Z d5 Tryd.underlying39 (Tryd.sizeOf38 _) hx3 fun p9 hp9 => ⟨BX.refl _ _, ⟨_, Z, hp9⟩⟩))
      ·
       intro w12 D hS8 hd8
       have d7 : PA RRule M2 x3 (D 6) w12 := dpA hd8 6 Z
       obtain ⟨p10, e3, ha3⟩ := d7
       exact dg_sub (E' := [(35, (.pointer (some p10)))]) ⟨congrArg some e3, Zt⟩ (dg_plain Z (ow_fieldAddr Z Z Tryd.underlying38 Z (Tryd.sizeOf3 _) ⟨BX.refl _ _, ⟨_, Z, (ha3.fld fld_Rule_Chain)⟩⟩))
      ·
       intro w13 D hS9 hd9
       have d8 : PA RInt M2 x3.Chain (D 7) w13 := dpA hd9 7 Z
       obtain ⟨p11, e4, ha4⟩ := d8
       refine dg_sub (E' := [(36, (.pointer (some p11)))]) ⟨congrArg some e4, Zt⟩ (dg_plain Z (ow_load (R := RInt) Z Z ha4 (Tryd.sizeOf3 _) (Tryd.isAgg3 _) fun v17 hv17 => ?_))
       obtain rfl := vint_eq hv17
       exact Zb
      ·
       intro w14 D hS10 hd10
       have hl14 := Le.no M2 hS10
       exact dg_sub (E' := [(1, (.pointer (some p1)))]) ⟨Z, Zt⟩ (dg_plain Z (ow_fieldAddr Z Z Tryd.underlying25 Z (Tryd.sizeOf23 _) ⟨BX.refl _ _, ⟨_, Z, (ARep.mono (lz1.trans hl14) (hp1.fld fld_Ruleset_Chains))⟩⟩))
      ·
       intro w15 D hS11 hd11
       have d9 : PA (RSlice (RSlice RRule)) M2 a_s.Chains (D 9) w15 := dpA hd11 9 Z
       obtain ⟨p12, e5, ha5⟩ := d9
       exact dg_sub (E' := [(38, (.pointer (some p12)))]) ⟨congrArg some e5, Zt⟩ (dg_plain Z (ow_load (R := (RSlice (RSlice RRule))) Z Z ha5 (Tryd.sizeOf23 _) (Tryd.isAgg23 _) fun v18 hv18 => ⟨BX.refl _ _, hv18⟩))
      ·
       intro w16 D hS12 hd12
       have d10 : PV (RSlice (RSlice RRule)) M2 a_s.Chains (D 10) w16 := dpA hd12 10 Z
       generalize hq3 : (D 10) = v19 at d10
       exact dg_sub (E' := [(39, v19)]) ⟨congrArg some hq3, Zt⟩ (dg_plain Z (ow_len Z Z d10 Tryd.underlying23 Z Zb))
      ·
       intro w17 D hS13 hd13
       have hl17 := Le.no M2 hS13
       have hC17 := hC4.no hS13
       refine lw_sub (E' := [(37, (Zv x3.Chain)), (40, (Zv (a_s.Chains.length : Int))), (1, (.pointer (some p1))), (3, (Zv k1)), (4, (Zv k2))]) ⟨dpE hd13 8 Z Z, dpE hd13 11 Z Z, Z, Z, Z, Zt⟩ (lw_op Z Z Z (ow_geq Z Z Z fun bb3 hbb3 => lw_nil (ew_then ?_)))
       replace hb4 := cond_some hb4
       rcases hb4 with ⟨hc4, hb4⟩ | ⟨hc4, hb4⟩
       ·
        obtain rfl := hbb3.trans hc4
        refine cw_true Z (cw_seq (cw_region (lw_op Z Z Z (ow_assign Z Z (lw_nil (ew_then (cw_ret (ew_blockR (ew_thenR (ew_thenR (ew_blockR (ew_brkR (ew_blockR (ew_thenR (ew_thenR (ew_blockR (ew_brkR (ew_thenR ?_))))))))))))))))))
        have e6 := hR2 _ (sj hb4).symm
        subst e6
        have e7 := hR1 _ (sj hb2).symm
        subst e7
        obtain rfl := sj h
        exact ew_ret (res1 Z (.tmp Z)) ⟨_, Z, ((vbool _)), hC17.bx⟩
       ·
        obtain rfl := hbb3.trans hc4
        exact cw_false Z (cw_skip (ew_blockN (ew_then (cw_region (lw_op Z Z Z (ow_move Z Z (lw_op Z Z Z (ow_add Z Z Z (lw_op Z Z Z (ow_assign Z Z (lw_nil (ew_nxt (W (k2 + 1)) hb4 fun a ha => ⟨M2, (ha.sub ⟨Z, Z, Z, Zt⟩), (hl4.trans hl17), hC17⟩))))))))))))
     ·
      obtain rfl := hbb2.trans hc3
      exact cw_false Z (cw_exit (ew_thenX (ew_thenX (ew_blockX (ew_brk k2 hb4 fun a ha => ⟨M2, (ha.sub ⟨Z, Z, Z, Zt⟩), hl4, hC4⟩)))))
    ·
     rintro k3 a w18 hlr3 ⟨M3, hF3, hl18, hC18⟩
     subst hlr3
     refine ew_at (E := [(1, (.pointer (some p1))), (3, (Zv k1)), (4, (Zv k3))]) hF3 (ew_blockN (ew_then (cw_region (lw_op Z Z Z (ow_move Z Z (lw_op Z Z Z (ow_add Z Z Z (lw_op Z Z Z (ow_assign Z Z (lw_nil ?_))))))))))
     have lz3 := ((hl2.trans hl3).trans hl18)
     exact ew_nxt (W (k1 + 1)) hb2 fun a ha => ⟨M3, (ha.sub ⟨Z, Z, Zt⟩), lz3, hC18⟩
   ·
    subst hc2
    refine cw_true Z (cw_seq (cw_region (lw_op Z Z Z (ow_assign Z Z (lw_nil (ew_then (cw_ret (ew_thenR (ew_blockR (ew_thenR (ew_thenR (ew_blockR (ew_brkR (ew_thenR ?_))))))))))))))
    have e8 := hR1 _ (sj hb2).symm
    subst e8
    obtain rfl := sj h
    exact ew_ret (res1 Z (.tmp Z)) ⟨_, Z, ((vbool _)), hC3.bx⟩
  ·
   obtain rfl := hbb1.trans hc1
   exact cw_false Z (cw_exit (ew_thenX (ew_thenX (ew_blockX (ew_brk k1 hb2 fun a ha => ⟨M1, (ha.sub ⟨Z, Z, Zt⟩), hl2, hC2⟩)))))
 ·
  rintro k4 a w19 hlr4 ⟨M4, hF4, hl19, hC19⟩
  subst hlr4
  refine ew_at (E := [(1, (.pointer (some p1))), (3, (Zv k4))]) hF4 (ew_then (cw_seq ?_))
  replace h := bind_some h
  obtain ⟨x4, hx4, h⟩ := h
  replace h := cond_some h
  rcases h with ⟨hc5, h⟩ | ⟨hc5, h⟩
  ·
   subst hc5
   replace h := bind_some h
   obtain ⟨x5, hx5, h⟩ := h
   have lz4 := (hl1.trans hl19)
   refine cw_sub (E' := [(1, (.pointer (some p1)))]) ⟨Z, Zt⟩ (cw_drawQ 11 [PA (RSlice (RSlice RRule)) M4 a_s.Chains, PV (RSlice (RSlice RRule)) M4 a_s.Chains, PEq (Zv (a_s.Chains.length : Int)), PEq (.bool true), PEq (.bool true), PV RRuleset M4 a_s, PV (RSlice RInt) M4 x5, PEq (Zv (x5.length : Int)), PA (RSlice (RSlice RRule)) M4 a_s.Chains, PV (RSlice (RSlice RRule)) M4 a_s.Chains, PEq (Zv (a_s.Chains.length : Int))] (by kernel_rfl) Z (by kernel_rfl) ⟨PA.mono _ _ _, PV.mono _ _ _, Zq, Zq, Zq, PV.mono _ _ _, PV.mono _ _ _, Zq, PA.mono _ _ _, PV.mono _ _ _, Zq, Zt⟩ ⟨?_, ?_, ?_, ?_, ?_, ?_, ?_, ?_, ?_, ?_, ?_, Zt⟩ ?_)
   ·
    intro w22 D hS14 hd14
    have hl22 := Le.no M4 hS14
    exact dg_sub (E' := [(1, (.pointer (some p1)))]) ⟨Z, Zt⟩ (dg_plain Z (ow_fieldAddr Z Z Tryd.underlying25 Z (Tryd.sizeOf23 _) ⟨BX.refl _ _, ⟨_, Z, (ARep.mono (hl19.trans hl22) (hp1.fld fld_Ruleset_Chains))⟩⟩))
   ·
    intro w23 D hS15 hd15
    have d23 : PA (RSlice (RSlice RRule)) M4 a_s.Chains (D 0) w23 := dpA hd15 0 Z
    obtain ⟨p13, e9, ha6⟩ := d23
    exact dg_sub (E' := [(42, (.pointer (some p13)))]) ⟨congrArg some e9, Zt⟩ (dg_plain Z (ow_load (R := (RSlice (RSlice RRule))) Z Z ha6 (Tryd.sizeOf23 _) (Tryd.isAgg23 _) fun v27 hv27 => ⟨BX.refl _ _, hv27⟩))
   ·
    intro w24 D hS16 hd16
    have d24 : PV (RSlice (RSlice RRule)) M4 a_s.Chains (D 1) w24 := dpA hd16 1 Z
    generalize hq4 : (D 1) = v28 at d24
    exact dg_sub (E' := [(43, v28)]) ⟨congrArg some hq4, Zt⟩ (dg_plain Z (ow_len Z Z d24 Tryd.underlying23 Z Zb))
   ·
    intro w25 D hS17 hd17
    have hl25 := Le.no M4 hS17
    have hC25 := hC19.no hS17
    refine dg_sub (E' := [(44, (Zv (a_s.Chains.length : Int)))]) ⟨dpE hd17 2 Z Z, Zt⟩ (dg_plain Z (ow_call Z Z Tryd.call118 (w_spec_l1In (hG.mono (lz4.trans hl25)) hC25.old hx4) fun v29 w26 hv29 => ?_))
    obtain ⟨hv29, hb7⟩ := hv29
    obtain rfl := vbool_eq hv29
    exact ⟨hb7, Z⟩
   · exact fun w27 D hS18 hd18 => dg_sub (E' := [(45, (.bool true))]) ⟨dpE hd18 3 Z Z, Zt⟩ (dg_plain Z (ow_move Z Z Zb))
   ·
    intro w28 D hS19 hd19
    have hl28 := Le.no M4 hS19
    exact dg_sub (E' := [(46, (.bool true)), (1, (.pointer (some p1)))]) ⟨dpE hd19 4 Z Z, Z, Zt⟩ (dg_on Z Z Z Z (ow_load (R := RRuleset) Z Z (ARep.mono (hl19.trans hl28) hp1) (Tryd.sizeOf25 _) (Tryd.isAgg25 _) fun v30 hv30 => ⟨BX.refl _ _, hv30⟩))
   ·
    intro w29 D hS20 hd20
    have hl29 := Le.no M4 hS20
    have hC29 := hC19.no hS20
    have d29 : PV RRuleset M4 a_s (D 5) w29 := dpA hd20 5 Z
    generalize hq5 : (D 5) = v31 at d29
    refine dg_sub (E' := [(47, v31), (46, (.bool true))]) ⟨congrArg some hq5, dpE hd20 4 Z Z, Zt⟩ (dg_on Z Z Z Z (ow_call Z Z Tryd.call144 (w_spec_l8Order (hG.mono (lz4.trans hl29)) hC29.old d29 hx5) fun v32 w30 hv32 => ?_))
    obtain ⟨hv32, hb8⟩ := hv32
    exact ⟨hb8, hv32⟩
   ·
    intro w31 D hS21 hd21
    have d32 : PV (RSlice RInt) M4 x5 (D 6) w31 := dpA hd21 6 Z
    generalize hq6 : (D 6) = v33 at d32
    exact dg_sub (E' := [(48, v33), (46, (.bool true))]) ⟨congrArg some hq6, dpE hd21 4 Z Z, Zt⟩ (dg_on Z Z Z Z (ow_len Z Z d32 Tryd.underlying34 Z Zb))
   ·
    intro w32 D hS22 hd22
    have hl32 := Le.no M4 hS22
    exact dg_sub (E' := [(46, (.bool true)), (1, (.pointer (some p1)))]) ⟨dpE hd22 4 Z Z, Z, Zt⟩ (dg_on Z Z Z Z (ow_fieldAddr Z Z Tryd.underlying25 Z (Tryd.sizeOf23 _) ⟨BX.refl _ _, ⟨_, Z, (ARep.mono (hl19.trans hl32) (hp1.fld fld_Ruleset_Chains))⟩⟩))
   ·
    intro w33 D hS23 hd23
    have d35 : PA (RSlice (RSlice RRule)) M4 a_s.Chains (D 8) w33 := dpA hd23 8 Z
    obtain ⟨p14, e10, ha7⟩ := d35
    exact dg_sub (E' := [(50, (.pointer (some p14))), (46, (.bool true))]) ⟨congrArg some e10, dpE hd23 4 Z Z, Zt⟩ (dg_on Z Z Z Z (ow_load (R := (RSlice (RSlice RRule))) Z Z ha7 (Tryd.sizeOf23 _) (Tryd.isAgg23 _) fun v34 hv34 => ⟨BX.refl _ _, hv34⟩))
   ·
    intro w34 D hS24 hd24
    have d37 : PV (RSlice (RSlice RRule)) M4 a_s.Chains (D 9) w34 := dpA hd24 9 Z
    generalize hq7 : (D 9) = v35 at d37
    exact dg_sub (E' := [(51, v35), (46, (.bool true))]) ⟨congrArg some hq7, dpE hd24 4 Z Z, Zt⟩ (dg_on Z Z Z Z (ow_len Z Z d37 Tryd.underlying23 Z Zb))
   ·
    intro w35 D hS25 hd25
    have hC35 := hC19.no hS25
    refine lw_sub (E' := [(46, (.bool true)), (49, (Zv (x5.length : Int))), (52, (Zv (a_s.Chains.length : Int))), (1, (.pointer (some p1)))]) ⟨dpE hd25 4 Z Z, dpE hd25 7 Z Z, dpE hd25 10 Z Z, Z, Zt⟩ (lw_on Z Z Z Z Z Z (ow_eqlI Z Z Z fun bb4 hbb4 => lw_op Z Z Z (ow_pickT Z Z Z (lw_op Z Z Z (ow_assign Z Z (lw_nil (ew_then (cw_ret ?_))))))))
    obtain rfl := sj h
    exact ew_ret (res1 Z (.tmp Z)) ⟨_, Z, ((vbool_of hbb4)), hC35.bx⟩
  ·
   subst hc5
   have lz5 := (hl1.trans hl19)
   refine cw_sub (E' := [(1, (.pointer (some p1)))]) ⟨Z, Zt⟩ (cw_drawQ 11 [PA (RSlice (RSlice RRule)) M4 a_s.Chains, PV (RSlice (RSlice RRule)) M4 a_s.Chains, PEq (Zv (a_s.Chains.length : Int)), PEq (.bool false), PEq (.bool false), PEq undef, PEq undef, PEq undef, PEq undef, PEq undef, PEq undef] (by kernel_rfl) Z (by kernel_rfl) ⟨PA.mono _ _ _, PV.mono _ _ _, Zq, Zq, Zq, Zq, Zq, Zq, Zq, Zq, Zq, Zt⟩ ⟨?_, ?_, ?_, ?_, ?_, ?_, ?_, ?_, ?_, ?_, ?_, Zt⟩ ?_)
   ·
    intro w36 D hS26 hd26
    have hl36 := Le.no M4 hS26
    exact dg_sub (E' := [(1, (.pointer (some p1)))]) ⟨Z, Zt⟩ (dg_plain Z (ow_fieldAddr Z Z Tryd.underlying25 Z (Tryd.sizeOf23 _) ⟨BX.refl _ _, ⟨_, Z, (ARep.mono (hl19.trans hl36) (hp1.fld fld_Ruleset_Chains))⟩⟩))
   ·
    intro w37 D hS27 hd27
    have d50 : PA (RSlice (RSlice RRule)) M4 a_s.Chains (D 0) w37 := dpA hd27 0 Z
    obtain ⟨p15, e11, ha8⟩ := d50
    exact dg_sub (E' := [(42, (.pointer (some p15)))]) ⟨congrArg some e11, Zt⟩ (dg_plain Z (ow_load (R := (RSlice (RSlice RRule))) Z Z ha8 (Tryd.sizeOf23 _) (Tryd.isAgg23 _) fun v36 hv36 => ⟨BX.refl _ _, hv36⟩))
   ·
    intro w38 D hS28 hd28
    have d51 : PV (RSlice (RSlice RRule)) M4 a_s.Chains (D 1) w38 := dpA hd28 1 Z
    generalize hq8 : (D 1) = v37 at d51
    exact dg_sub (E' := [(43, v37)]) ⟨congrArg some hq8, Zt⟩ (dg_plain Z (ow_len Z Z d51 Tryd.underlying23 Z Zb))
   ·
    intro w39 D hS29 hd29
    have hl39 := Le.no M4 hS29
    have hC39 := hC19.no hS29
    refine dg_sub (E' := [(44, (Zv (a_s.Chains.length : Int)))]) ⟨dpE hd29 2 Z Z, Zt⟩ (dg_plain Z (ow_call Z Z Tryd.call118 (w_spec_l1In (hG.mono (lz5.trans hl39)) hC39.old hx4) fun v38 w40 hv38 => ?_))
    obtain ⟨hv38, hb9⟩ := hv38
    obtain rfl := vbool_eq hv38
    exact ⟨hb9, Z⟩
   · exact fun w41 D hS30 hd30 => dg_sub (E' := [(45, (.bool false))]) ⟨dpE hd30 3 Z Z, Zt⟩ (dg_plain Z (ow_move Z Z Zb))
   · exact fun w42 D hS31 hd31 => dg_sub (E' := [(46, (.bool false)), (1, (.pointer (some p1)))]) ⟨dpE hd31 4 Z Z, Z, Zt⟩ (dg_off Z Z Z Z Zb)
   · exact fun w43 D hS32 hd32 => dg_sub (E' := [(47, undef), (46, (.bool false))]) ⟨dpE hd32 5 Z Z, dpE hd32 4 Z Z, Zt⟩ (dg_off Z Z Z Z Zb)
   · exact fun w44 D hS33 hd33 => dg_sub (E' := [(48, undef), (46, (.bool false))]) ⟨dpE hd33 6 Z Z, dpE hd33 4 Z Z, Zt⟩ (dg_off Z Z Z Z Zb)
   · exact fun w45 D hS34 hd34 => dg_sub (E' := [(46, (.bool false)), (1, (.pointer (some p1)))]) ⟨dpE hd34 4 Z Z, Z, Zt⟩ (dg_off Z Z Z Z Zb)
   · exact fun w46 D hS35 hd35 => dg_sub (E' := [(50, undef), (46, (.bool false))]) ⟨dpE hd35 8 Z Z, dpE hd35 4 Z Z, Zt⟩ (dg_off Z Z Z Z Zb)
   · exact fun w47 D hS36 hd36 => dg_sub (E' := [(51, undef), (46, (.bool false))]) ⟨dpE hd36 9 Z Z, dpE hd36 4 Z Z, Zt⟩ (dg_off Z Z Z Z Zb)
   ·
    intro w48 D hS37 hd37
    have hC48 := hC19.no hS37
    refine lw_sub (E' := [(46, (.bool false)), (49, undef), (52, undef), (1, (.pointer (some p1)))]) ⟨dpE hd37 4 Z Z, dpE hd37 7 Z Z, dpE hd37 10 Z Z, Z, Zt⟩ (lw_off Z Z Z Z Z Z (lw_op Z Z Z (ow_pickF Z Z Z (lw_op Z Z Z (ow_assign Z Z (lw_nil (ew_then (cw_ret ?_))))))))
    obtain rfl := sj h
    exact ew_ret (res1 Z (.tmp Z)) ⟨_, Z, ((vbool _)), hC48.bx⟩

theorem w_spec_ChainsUsed {w : World} {M : Nat → Prop} (hG : ARep (RArr 4 RShape) w M shapes ⟨0, 0, none⟩) (hO : ∀ b, M b → b < w.heap.size) {v0p : Value} {a_s : Ruleset} (h0 : VRep RRuleset w M a_s v0p) {r : (List Int)} (h : F.spec_ChainsUsed a_s = some r) :
  Calls Tryd.prog 55 [v0p].toArray w fun e w' => ∃ v, e = .returned v ∧ VRep (RSlice RInt) w' M r v ∧ BX No w w' := by
 obtain ⟨i3, hi3, hz3, hs3, hy3⟩ := info3
 obtain ⟨i4, hi4, hz4, hs4, hy4⟩ := info4
 have hC : Cx No w M w M := Cx.start hO (fun _ e => e.elim)
 refine walk (N := 87) Tryd.func55 Z Tryd.ntmps55 Z (cw_seq (cw_region (lw_op Z Z Z (ow_box (R := RRuleset) Z Z h0 hC fun p1 w1 hp1 hb1 hl1 hC1 => lw_op Z Z Z (ow_assign Z Z (lw_nil (ew_then (cw_seq (cw_region (lw_op Z Z Z (ow_buildSlice0 (R := RInt) (e := 3) Z (by kernel_rfl) hC1 fun p2 w2 M1 hr1 hb2 hl2 hC2 hM1 hat1 => lw_op Z Z Z (ow_assign Z Z (lw_nil (ew_then (cw_seq (cw_seq (cw_region (lw_op Z Z Z (ow_load (R := RRuleset) Z Z (ARep.mono hl2 hp1) (Tryd.sizeOf25 _) (Tryd.isAgg25 _) fun v1 hv1 => ?_)))))))))))))))))))
 replace h := bind_some h
 obtain ⟨x1, hx1, h⟩ := h
 refine lw_op Z Z Z (ow_call Z Z Tryd.call80 (w_spec_RulesetValid (hG.mono (hl1.trans hl2)) hC2.old hv1 hx1) fun v2 w3 hv2 => ?_)
 obtain ⟨hv2, hb3⟩ := hv2
 have hl3 := Le.no M1 hb3
 have hC3 := hC2.no hb3
 have hr2 := hr1.no hb3
 obtain rfl := vbool_eq hv2
 refine lw_op Z Z Z (ow_not Z Z (lw_nil (ew_then ?_)))
 replace h := cond_some h
 rcases h with ⟨hc1, h⟩ | ⟨hc1, h⟩
 ·
  subst hc1
  refine cw_false Z (cw_skip (ew_then (cw_seq (cw_region (lw_op Z Z Z (ow_fieldAddr Z Z Tryd.underlying25 Z (Tryd.sizeOf23 _) (lw_op Z Z Z (ow_load (R := (RSlice (RSlice RRule))) Z Z (ARep.mono (hl2.trans hl3) (hp1.fld fld_Ruleset_Chains)) (Tryd.sizeOf23 _) (Tryd.isAgg23 _) fun v3 hv3 => lw_op Z Z Z (ow_len Z Z hv3 Tryd.underlying23 Z ?_)))))))))
  replace h := bind_some h
  obtain ⟨mk1, hmk1, h⟩ := h
  refine lw_op Z Z Z (ow_make (R := RBool) Z Z Z Tryd.underlying168 hi4 hz4 hs4 hy4 Z Z (vbool false) hmk1 hC3 fun v4 w4 M2 hr3 hb4 hl4 hC4 hM2 hat2 => ?_)
  have hr4 := hr2.go hb4 (fun _ _ e => e) hl4 hM2
  refine lw_op Z Z Z (ow_assign Z Z (lw_nil (ew_then (cw_seq (cw_region (lw_op Z Z Z (ow_move Z Z ?_)))))))
  replace h := bind_some h
  obtain ⟨x2, hx2, h⟩ := h
  refine lw_op Z Z Z (ow_indexRow (R := RBool) Z Z Z hr3 Tryd.underlying168 (Tryd.sizeOf4 _) hx2 (lw_op0 Z Z (ow_storeElRow (X := No) (R := RBool) (S := RBool) Z Z Z Z hr3 (orow_blk hr3 hx2) hx2 (FldSet.whole RBool) (Tryd.sizeOf4 _) (vbool _) (Nat.le_refl _) hC4 fun w5 ho1 hb5 hl5 hC5 => ?_)))
  have hr5 := hr4.go hb5 (fun k hk e => orow_row_ne hr4 hr3 (by decide) hk (by rw [orow_blk hr3 hx2]; exact congrArg some e.symm)) hl5 (fun _ h => h)
  refine lw_nil (ew_then (cw_seq (cw_seq (cw_region (lw_op Z Z Z (ow_assign Z Z (lw_nil (ew_then ?_))))))))
  replace h := bind_some h
  obtain ⟨lr1, hlr1, h⟩ := h
  refine cw_for hlr1 (fun s a w' => ∃ (M' : Nat → Prop), Fits 87 [(1, (.pointer (some p1))), (3, (.slice (some p2) 0 0)), (4, v4), (5, (Zv s.1))] a ∧ Le w5 M2 w' M' ∧ Cx No w M w' M' ∧ OwnRow RInt w.heap.size 3 w' M' s.2.1 (.slice (some p2) 0 0) ∧ OwnRow RBool w.heap.size 4 w' M' s.2.2 v4) ?_ ?_ ?_
  · exact fun a ha => ⟨M2, ha.sub ⟨Z, Z, Z, Z, Zt⟩, Le.refl _ _, hC5, hr5, ho1⟩
  ·
   rintro ⟨k1, y1, y2⟩ a w6 sr1 ⟨M3, hF1, hl6, hC6, hw1, hw2⟩ hb6 hR1
   refine cw_at (E := [(1, (.pointer (some p1))), (3, (.slice (some p2) 0 0)), (4, v4), (5, (Zv k1))]) hF1 (cw_seq (cw_seq (cw_region (lw_op Z Z Z (ow_move Z Z (lw_op Z Z Z (ow_fieldAddr Z Z Tryd.underlying25 Z (Tryd.sizeOf23 _) ?_)))))))
   have lz1 := ((((hl2.trans hl3).trans hl4).trans hl5).trans hl6)
   refine lw_op Z Z Z (ow_load (R := (RSlice (RSlice RRule))) Z Z (ARep.mono lz1 (hp1.fld fld_Ruleset_Chains)) (Tryd.sizeOf23 _) (Tryd.isAgg23 _) fun v8 hv8 => lw_op Z Z Z (ow_len Z Z hv8 Tryd.underlying23 Z (lw_op Z Z Z (ow_lss Z Z Z fun bb1 hbb1 => lw_nil (ew_then ?_)))))
   replace hb6 := cond_some hb6
   rcases hb6 with ⟨hc2, hb6⟩ | ⟨hc2, hb6⟩
   ·
    obtain rfl := hbb1.trans hc2
    refine cw_true Z (cw_skip (ew_then (cw_seq (cw_block (cw_seq (cw_region (lw_op Z Z Z (ow_assign Z Z (lw_nil (ew_then ?_))))))))))
    replace hb6 := bind_some hb6
    obtain ⟨lr2, hlr2, hb6⟩ := hb6
    refine cw_for hlr2 (fun s a w' => ∃ (M' : Nat → Prop), Fits 87 [(1, (.pointer (some p1))), (3, (.slice (some p2) 0 0)), (4, v4), (5, (Zv k1)), (6, (Zv s.1))] a ∧ Le w6 M3 w' M' ∧ Cx No w M w' M' ∧ OwnRow RInt w.heap.size 3 w' M' s.2.1 (.slice (some p2) 0 0) ∧ OwnRow RBool w.heap.size 4 w' M' s.2.2 v4) ?_ ?_ ?_
    · exact fun a ha => ⟨M3, ha.sub ⟨Z, Z, Z, Z, Z, Zt⟩, Le.refl _ _, hC6, hw1, hw2⟩
    ·
     rintro ⟨k2, y3, y4⟩ a w7 sr2 ⟨M4, hF2, hl7, hC7, hw3, hw4⟩ hb7 hR2
     refine cw_at (E := [(1, (.pointer (some p1))), (3, (.slice (some p2) 0 0)), (4, v4), (5, (Zv k1)), (6, (Zv k2))]) hF2 (cw_seq (cw_seq (cw_region (lw_op Z Z Z (ow_move Z Z (lw_op Z Z Z (ow_fieldAddr Z Z Tryd.underlying25 Z (Tryd.sizeOf23 _) (lw_op Z Z Z (ow_load (R := (RSlice (RSlice RRule))) Z Z (ARep.mono (lz1.trans hl7) (hp1.fld fld_Ruleset_Chains)) (Tryd.sizeOf23 _) (Tryd.isAgg23 _) fun v12 hv12 => lw_op Z Z Z (ow_len Z Z hv12 Tryd.underlying23 Z (lw_op Z Z Z (ow_lss Z Z Z fun bb2 hbb2 => lw_nil (ew_then ?_)))))))))))))
     replace hb7 := cond_some hb7
     rcases hb7 with ⟨hc3, hb7⟩ | ⟨hc3, hb7⟩
     ·
      obtain rfl := hbb2.trans hc3
      refine cw_true Z (cw_skip (ew_then (cw_seq (cw_block (cw_seq (cw_region (lw_op Z Z Z (ow_assign Z Z (lw_nil (ew_then ?_))))))))))
      replace hb7 := bind_some hb7
      obtain ⟨lr3, hlr3, hb7⟩ := hb7
      refine cw_for hlr3 (fun s a w' => ∃ (M' : Nat → Prop), Fits 87 [(1, (.pointer (some p1))), (3, (.slice (some p2) 0 0)), (4, v4), (5, (Zv k1)), (6, (Zv k2)), (7, (Zv s.1))] a ∧ Le w7 M4 w' M' ∧ Cx No w M w' M' ∧ OwnRow RInt w.heap.size 3 w' M' s.2.1 (.slice (some p2) 0 0) ∧ OwnRow RBool w.heap.size 4 w' M' s.2.2 v4) ?_ ?_ ?_
      · exact fun a ha => ⟨M4, ha.sub ⟨Z, Z, Z, Z, Z, Z, Zt⟩, Le.refl _ _, hC7, hw3, hw4⟩
      ·
       rintro ⟨k3, y5, y6⟩ a w8 sr3 ⟨M5, hF3, hl8, hC8, hw5, hw6⟩ hb8 hR3
       refine cw_at (E := [(1, (.pointer (some p1))), (3, (.slice (some p2) 0 0)), (4, v4), (5, (Zv k1)), (6, (Zv k2)), (7, (Zv k3))]) hF3 (cw_seq (cw_seq (cw_region (lw_op Z Z Z (ow_move Z Z (lw_op Z Z Z (ow_fieldAddr Z Z Tryd.underlying25 Z (Tryd.sizeOf23 _) ?_)))))))
       have lz2 := ((lz1.trans hl7).trans hl8)
       refine lw_op Z Z Z (ow_load (R := (RSlice (RSlice RRule))) Z Z (ARep.mono lz2 (hp1.fld fld_Ruleset_Chains)) (Tryd.sizeOf23 _) (Tryd.isAgg23 _) fun v16 hv16 => lw_op Z Z Z (ow_move Z Z ?_))
       replace hb8 := bind_some hb8
       obtain ⟨x3, hx3, hb8⟩ := hb8
       refine lw_op Z Z Z (ow_indexSlice (R := (RSlice RRule)) Z Z Z hv16 Tryd.underlying23 (Tryd.sizeOf39 _) hx3 fun p3 hp3 => lw_op Z Z Z (ow_load (R := (RSlice RRule)) Z Z hp3 (Tryd.sizeOf39 _) (Tryd.isAgg39 _) fun v17 hv17 => lw_op Z Z Z (ow_len Z Z hv17 Tryd.underlying39 Z (lw_op Z Z Z (ow_lss Z Z Z fun bb3 hbb3 => lw_op Z Z Z (ow_move Z Z ?_))))))
       replace hb8 := cond_some hb8
       rcases hb8 with ⟨hc4, hb8⟩ | ⟨hc4, hb8⟩
       ·
        obtain rfl := hbb3.trans hc4
        refine lw_on Z Z Z Z Z Z (ow_move Z Z (lw_on Z Z Z Z Z Z (ow_move Z Z ?_)))
        replace hb8 := bind_some hb8
        obtain ⟨x4, hx4, hb8⟩ := hb8
        refine lw_on Z Z Z Z Z Z (ow_indexRow (R := RBool) Z Z Z hw6 Tryd.underlying168 (Tryd.sizeOf4 _) hx4 (lw_on Z Z Z Z Z Z (ow_loadElRow (R := RBool) (S := RBool) Z Z Z hw6 (orow_blk hw6 hx4) hx4 (Fld.whole RBool) (Tryd.sizeOf4 _) (Tryd.isAgg4 _) fun v18 hv18 => ?_)))
        obtain rfl := vbool_eq hv18
        refine lw_op Z Z Z (ow_pickT Z Z Z (lw_nil (ew_then ?_)))
        replace hb8 := cond_some hb8
        rcases hb8 with ⟨hc5, hb8⟩ | ⟨hc5, hb8⟩
        ·
         subst hc5
         refine cw_true Z (cw_skip (ew_then (cw_seq (cw_block (cw_seq (cw_region (lw_op Z Z Z (ow_fieldAddr Z Z Tryd.underlying25 Z (Tryd.sizeOf23 _) (lw_op Z Z Z (ow_load (R := (RSlice (RSlice RRule))) Z Z (ARep.mono lz2 (hp1.fld fld_Ruleset_Chains)) (Tryd.sizeOf23 _) (Tryd.isAgg23 _) fun v19 hv19 => lw_op Z Z Z (ow_move Z Z (lw_op Z Z Z (ow_indexSlice (R := (RSlice RRule)) Z Z Z hv19 Tryd.underlying23 (Tryd.sizeOf39 _) hx3 fun p4 hp4 => lw_op Z Z Z (ow_load (R := (RSlice RRule)) Z Z hp4 (Tryd.sizeOf39 _) (Tryd.isAgg39 _) fun v20 hv20 => lw_op Z Z Z (ow_move Z Z ?_)))))))))))))))
         replace hb8 := bind_some hb8
         obtain ⟨x5, hx5, hb8⟩ := hb8
         refine lw_op Z Z Z (ow_indexSlice (R := RRule) Z Z Z hv20 Tryd.underlying39 (Tryd.sizeOf38 _) hx5 fun p5 hp5 => lw_op Z Z Z (ow_fieldAddr Z Z Tryd.underlying38 Z (Tryd.sizeOf3 _) (lw_op Z Z Z (ow_load (R := RInt) Z Z (hp5.fld fld_Rule_Action) (Tryd.sizeOf3 _) (Tryd.isAgg3 _) fun v21 hv21 => ?_))))
         obtain rfl := vint_eq hv21
         refine lw_op Z Z Z (ow_eqlI Z Z Z fun bb4 hbb4 => lw_nil (ew_then ?_))
         replace hb8 := cond_some hb8
         rcases hb8 with ⟨hc6, hb8⟩ | ⟨hc6, hb8⟩
         ·
          obtain rfl := hbb4.trans hc6
          refine cw_true Z (cw_region (lw_op Z Z Z (ow_move Z Z (lw_op Z Z Z (ow_fieldAddr Z Z Tryd.underlying25 Z (Tryd.sizeOf23 _) (lw_op Z Z Z (ow_load (R := (RSlice (RSlice RRule))) Z Z (ARep.mono lz2 (hp1.fld fld_Ruleset_Chains)) (Tryd.sizeOf23 _) (Tryd.isAgg23 _) fun v22 hv22 => lw_op Z Z Z (ow_move Z Z (lw_op Z Z Z (ow_indexSlice (R := (RSlice RRule)) Z Z Z hv22 Tryd.underlying23 (Tryd.sizeOf39 _) hx3 fun p6 hp6 => lw_op Z Z Z (ow_load (R := (RSlice RRule)) Z Z hp6 (Tryd.sizeOf39 _) (Tryd.isAgg39 _) fun v23 hv23 => lw_op Z Z Z (ow_move Z Z (lw_op Z Z Z (ow_indexSlice (R := RRule) Z Z Z hv23 Tryd.underlying39 (Tryd.sizeOf38 _) hx5 fun p7 hp7 => lw_op Z Z Z (ow_fieldAddr Z Z Tryd.underlying38 Z (Tryd.sizeOf3 _) (lw_op Z Z Z (ow_load (R := RInt) Z Z (hp7.fld fld_Rule_Chain) (Tryd.sizeOf3 _) (Tryd.isAgg3 _) fun v24 hv24 => ?_)))))))))))))))))
          obtain rfl := vint_eq hv24
          replace hb8 := bind_some hb8
          obtain ⟨x6, hx6, hb8⟩ := hb8
          refine lw_op Z Z Z (ow_indexRow (R := RBool) Z Z Z hw6 Tryd.underlying168 (Tryd.sizeOf4 _) hx6 (lw_op0 Z Z (ow_storeElRow (X := No) (R := RBool) (S := RBool) Z Z Z Z hw6 (orow_blk hw6 hx6) hx6 (FldSet.whole RBool) (Tryd.sizeOf4 _) (vbool _) (Nat.le_refl _) hC8 fun w9 ho2 hb9 hl9 hC9 => ?_)))
          have hr6 := hw5.go hb9 (fun k hk e => orow_row_ne hw5 hw6 (by decide) hk (by rw [orow_blk hw6 hx6]; exact congrArg some e.symm)) hl9 (fun _ h => h)
          exact lw_nil (ew_blockN (ew_then (cw_region (lw_op Z Z Z (ow_move Z Z (lw_op Z Z Z (ow_add Z Z Z (lw_op Z Z Z (ow_assign Z Z (lw_nil (ew_nxt ((W (k3 + 1)), y5, (List.set y6 (x5.Chain : Int).toNat true)) hb8 fun a ha => ⟨M5, (ha.sub ⟨Z, Z, Z, Z, Z, Z, Zt⟩), (hl8.trans hl9), hC9, hr6, ho2⟩)))))))))))
         ·
          obtain rfl := hbb4.trans hc6
          exact cw_false Z (cw_skip (ew_blockN (ew_then (cw_region (lw_op Z Z Z (ow_move Z Z (lw_op Z Z Z (ow_add Z Z Z (lw_op Z Z Z (ow_assign Z Z (lw_nil (ew_nxt ((W (k3 + 1)), y5, y6) hb8 fun a ha => ⟨M5, (ha.sub ⟨Z, Z, Z, Z, Z, Z, Zt⟩), hl8, hC8, hw5, hw6⟩))))))))))))
        ·
         subst hc5
         exact cw_false Z (cw_exit (ew_thenX (ew_thenX (ew_blockX (ew_brk (k3, y5, y6) hb8 fun a ha => ⟨M5, (ha.sub ⟨Z, Z, Z, Z, Z, Z, Zt⟩), hl8, hC8, hw5, hw6⟩)))))
       ·
        obtain rfl := hbb3.trans hc4
        exact lw_off Z Z Z Z Z Z (lw_off Z Z Z Z Z Z (lw_off Z Z Z Z Z Z (lw_off Z Z Z Z Z Z (lw_op Z Z Z (ow_pickF Z Z Z (lw_nil (ew_then (cw_false Z (cw_exit (ew_thenX (ew_thenX (ew_blockX (ew_brk (k3, y5, y6) hb8 fun a ha => ⟨M5, (ha.sub ⟨Z, Z, Z, Z, Z, Z, Zt⟩), hl8, hC8, hw5, hw6⟩)))))))))))))
      ·
       rintro ⟨k4, y7, y8⟩ a w10 hlr4 ⟨M6, hF4, hl10, hC10, hw7, hw8⟩
       subst hlr4
       exact ew_at (E := [(1, (.pointer (some p1))), (3, (.slice (some p2) 0 0)), (4, v4), (5, (Zv k1)), (6, (Zv k2)), (7, (Zv k4))]) hF4 (ew_blockN (ew_then (cw_region (lw_op Z Z Z (ow_move Z Z (lw_op Z Z Z (ow_add Z Z Z (lw_op Z Z Z (ow_assign Z Z (lw_nil (ew_nxt ((W (k2 + 1)), y7, y8) hb7 fun a ha => ⟨M6, (ha.sub ⟨Z, Z, Z, Z, Z, Zt⟩), (hl7.trans hl10), hC10, hw7, hw8⟩)))))))))))
     ·
      obtain rfl := hbb2.trans hc3
      exact cw_false Z (cw_exit (ew_thenX (ew_thenX (ew_blockX (ew_brk (k2, y3, y4) hb7 fun a ha => ⟨M4, (ha.sub ⟨Z, Z, Z, Z, Z, Zt⟩), hl7, hC7, hw3, hw4⟩)))))
    ·
     rintro ⟨k5, y9, y10⟩ a w11 hlr5 ⟨M7, hF5, hl11, hC11, hw9, hw10⟩
     subst hlr5
     exact ew_at (E := [(1, (.pointer (some p1))), (3, (.slice (some p2) 0 0)), (4, v4), (5, (Zv k1)), (6, (Zv k5))]) hF5 (ew_blockN (ew_then (cw_region (lw_op Z Z Z (ow_move Z Z (lw_op Z Z Z (ow_add Z Z Z (lw_op Z Z Z (ow_assign Z Z (lw_nil (ew_nxt ((W (k1 + 1)), y9, y10) hb6 fun a ha => ⟨M7, (ha.sub ⟨Z, Z, Z, Z, Zt⟩), (hl6.trans hl11), hC11, hw9, hw10⟩)))))))))))
   ·
    obtain rfl := hbb1.trans hc2
    exact cw_false Z (cw_exit (ew_thenX (ew_thenX (ew_blockX (ew_brk (k1, y1, y2) hb6 fun a ha => ⟨M3, (ha.sub ⟨Z, Z, Z, Z, Zt⟩), hl6, hC6, hw1, hw2⟩)))))
  ·
   rintro ⟨k6, y11, y12⟩ a w12 hlr6 ⟨M8, hF6, hl12, hC12, hw11, hw12⟩
   subst hlr6
   refine ew_at (E := [(1, (.pointer (some p1))), (3, (.slice (some p2) 0 0)), (4, v4), (5, (Zv k6))]) hF6 (ew_then (cw_seq (cw_seq (cw_region (lw_op Z Z Z (ow_assign Z Z (lw_nil (ew_then ?_))))))))
   replace h := bind_some h
   obtain ⟨lr4, hlr7, h⟩ := h
   refine cw_for hlr7 (fun s a w' => ∃ (M' : Nat → Prop) (v0c : Value), Fits 87 [(1, (.pointer (some p1))), (3, v0c), (4, v4), (8, (Zv s.2.1))] a ∧ Le w12 M8 w' M' ∧ Cx No w M w' M' ∧ OwnRow RInt w.heap.size 3 w' M' s.1 v0c ∧ OwnRow RBool w.heap.size 4 w' M' s.2.2 v4) ?_ ?_ ?_
   · exact fun a ha => ⟨M8, (.slice (some p2) 0 0), ha.sub ⟨Z, Z, Z, Z, Zt⟩, Le.refl _ _, hC12, hw11, hw12⟩
   ·
    rintro ⟨y13, k7, y14⟩ a w13 sr4 ⟨M9, v34, hF7, hl13, hC13, hw13, hw14⟩ hb10 hR4
    refine cw_at (E := [(1, (.pointer (some p1))), (3, v34), (4, v4), (8, (Zv k7))]) hF7 (cw_seq (cw_seq (cw_region (lw_op Z Z Z (ow_move Z Z (lw_op Z Z Z (ow_fieldAddr Z Z Tryd.underlying25 Z (Tryd.sizeOf23 _) ?_)))))))
    have lz3 := (((((hl2.trans hl3).trans hl4).trans hl5).trans hl12).trans hl13)
    refine lw_op Z Z Z (ow_load (R := (RSlice (RSlice RRule))) Z Z (ARep.mono lz3 (hp1.fld fld_Ruleset_Chains)) (Tryd.sizeOf23 _) (Tryd.isAgg23 _) fun v37 hv37 => lw_op Z Z Z (ow_len Z Z hv37 Tryd.underlying23 Z (lw_op Z Z Z (ow_lss Z Z Z fun bb5 hbb5 => lw_nil (ew_then ?_)))))
    replace hb10 := cond_some hb10
    rcases hb10 with ⟨hc7, hb10⟩ | ⟨hc7, hb10⟩
    ·
     obtain rfl := hbb5.trans hc7
     refine cw_true Z (cw_skip (ew_then (cw_seq (cw_block (cw_seq (cw_region (lw_op Z Z Z (ow_move Z Z (lw_op Z Z Z (ow_move Z Z ?_))))))))))
     replace hb10 := bind_some hb10
     obtain ⟨x7, hx7, hb10⟩ := hb10
     refine lw_op Z Z Z (ow_indexRow (R := RBool) Z Z Z hw14 Tryd.underlying168 (Tryd.sizeOf4 _) hx7 (lw_op Z Z Z (ow_loadElRow (R := RBool) (S := RBool) Z Z Z hw14 (orow_blk hw14 hx7) hx7 (Fld.whole RBool) (Tryd.sizeOf4 _) (Tryd.isAgg4 _) fun v38 hv38 => ?_)))
     obtain rfl := vbool_eq hv38
     refine lw_nil (ew_then ?_)
     replace hb10 := cond_some hb10
     rcases hb10 with ⟨hc8, hb10⟩ | ⟨hc8, hb10⟩
     ·
      subst hc8
      refine cw_true Z (cw_region (lw_op Z Z Z (ow_move Z Z (lw_op Z Z Z (ow_move Z Z (lw_op Z Z Z (ow_buildSlice (R := RInt) (xs := [k7]) (cs := #[(Zv k7)]) (e := 3) Z Z (by kernel_rfl) Z Z ⟨_, _, Z, (vint _).cells, Z⟩ hC13 fun p8 w14 hw15 hb11 hl14 hC14 => ?_)))))))
      have hr7 := hw13.no hb11
      have hr8 := hw14.no hb11
      replace hb10 := bind_some hb10
      obtain ⟨z1, hz1, hb10⟩ := hb10
      refine lw_op Z Z Z (ow_append (R := RInt) Z Z Z Z Tryd.underlying34 hi3 hz3 hs3 hy3 Z Z Z Z hr7 hw15 hz1 hC14 fun v39 w15 M10 hr9 hb12 hl15 hC15 hM3 hat3 => ?_)
      have hr10 := hr8.goRow hr7 hb12 hl15 hM3 (by decide)
      refine lw_op Z Z Z (ow_assign Z Z (lw_nil (ew_blockN (ew_then (cw_region (lw_op Z Z Z (ow_move Z Z (lw_op Z Z Z (ow_add Z Z Z (lw_op Z Z Z (ow_assign Z Z (lw_nil ?_))))))))))))
      have lz4 := ((hl13.trans hl14).trans hl15)
      exact ew_nxt (z1, (W (k7 + 1)), y14) hb10 fun a ha => ⟨M10, v39, (ha.sub ⟨Z, Z, Z, Z, Zt⟩), lz4, hC15, hr9, hr10⟩
     ·
      subst hc8
      exact cw_false Z (cw_skip (ew_blockN (ew_then (cw_region (lw_op Z Z Z (ow_move Z Z (lw_op Z Z Z (ow_add Z Z Z (lw_op Z Z Z (ow_assign Z Z (lw_nil (ew_nxt (y13, (W (k7 + 1)), y14) hb10 fun a ha => ⟨M9, v34, (ha.sub ⟨Z, Z, Z, Z, Zt⟩), hl13, hC13, hw13, hw14⟩))))))))))))
    ·
     obtain rfl := hbb5.trans hc7
     exact cw_false Z (cw_exit (ew_thenX (ew_thenX (ew_blockX (ew_brk (y13, k7, y14) hb10 fun a ha => ⟨M9, v34, (ha.sub ⟨Z, Z, Z, Z, Zt⟩), hl13, hC13, hw13, hw14⟩)))))
   ·
    rintro ⟨y15, k8, y16⟩ a w16 hlr8 ⟨M11, v40, hF8, hl16, hC16, hw16, hw17⟩
    subst hlr8
    refine ew_at (E := [(1, (.pointer (some p1))), (3, v40), (4, v4), (8, (Zv k8))]) hF8 (ew_then (cw_seq (cw_region (lw_op Z Z Z (ow_move Z Z (lw_op Z Z Z (ow_assign Z Z (lw_nil (ew_then (cw_ret ?_))))))))))
    obtain rfl := sj h
    exact ew_ret (res1 Z (.tmp Z)) ⟨_, Z, (hw16.freezeBack hC16 hO), hC16.bx⟩
 ·
  subst hc1
  refine cw_true Z (cw_seq (cw_region (lw_op Z Z Z (ow_move Z Z (lw_op Z Z Z (ow_assign Z Z (lw_nil (ew_then (cw_ret (ew_thenR ?_))))))))))
  obtain rfl := sj h
  exact ew_ret (res1 Z (.tmp Z)) ⟨_, Z, (hr2.freezeBack hC3 hO), hC3.bx⟩

theorem w_laws_FnExactChainsUsed {w : World} {M : Nat → Prop} (hG : ARep (RArr 4 RShape) w M shapes ⟨0, 0, none⟩) (hO : ∀ b, M b → b < w.heap.size) {v0p : Value} {a_aS : Ruleset} (h0 : VRep RRuleset w M a_aS v0p) {r : Bool} (h : F.laws_FnExactChainsUsed a_aS = some r) :
  Calls Tryd.prog 10 [v0p].toArray w fun e w' => ∃ v, e = .returned v ∧ VRep RBool w' M r v ∧ BX No w w' := by
 have hC : Cx No w M w M := Cx.start hO (fun _ e => e.elim)
 refine walk (N := 69) Tryd.func10 Z Tryd.ntmps10 Z (cw_seq (cw_region (lw_op Z Z Z (ow_box (R := RRuleset) Z Z h0 hC fun p1 w1 hp1 hb1 hl1 hC1 => lw_op Z Z Z (ow_assign Z Z (lw_nil (ew_then (cw_seq (cw_region (lw_op Z Z Z (ow_assign Z Z (lw_nil (ew_then (cw_seq (cw_region (lw_op Z Z Z (ow_load (R := RRuleset) Z Z hp1 (Tryd.sizeOf75 _) (Tryd.isAgg75 _) fun v1 hv1 => lw_op Z Z Z (ow_move Z Z ?_))))))))))))))))))
 replace h := bind_some h
 obtain ⟨x1, hx1, h⟩ := h
 refine lw_op Z Z Z (ow_call Z Z Tryd.call46 (w_laws_szRuleset (hG.mono hl1) hC1.old hv1 hx1) fun v2 w2 hv2 => ?_)
 obtain ⟨hv2, hb2⟩ := hv2
 have hl2 := Le.no M hb2
 have hC2 := hC1.no hb2
 obtain rfl := vint_eq hv2
 refine lw_op Z Z Z (ow_assign Z Z (lw_nil (ew_then (cw_seq (cw_seq (cw_region (lw_op Z Z Z (ow_move Z Z (lw_op Z Z Z (ow_lss Z Z Z fun bb1 hbb1 => lw_nil (ew_then ?_)))))))))))
 replace h := cond_some h
 rcases h with ⟨hc1, h⟩ | ⟨hc1, h⟩
 ·
  obtain rfl := hbb1.trans hc1
  refine cw_true Z (cw_seq (cw_region (lw_op Z Z Z (ow_assign Z Z (lw_nil (ew_then (cw_ret (ew_thenR ?_))))))))
  obtain rfl := sj h
  exact ew_ret (res1 Z (.tmp Z)) ⟨_, Z, ((vbool _)), hC2.bx⟩
 ·
  obtain rfl := hbb1.trans hc1
  refine cw_false Z (cw_skip (ew_then (cw_seq (cw_region (lw_op Z Z Z (ow_load (R := RRuleset) Z Z (ARep.mono hl2 hp1) (Tryd.sizeOf75 _) (Tryd.isAgg75 _) fun v3 hv3 => ?_))))))
  replace h := bind_some h
  obtain ⟨x2, hx2, h⟩ := h
  refine lw_op Z Z Z (ow_call Z Z Tryd.call48 (wu_laws_toRuleset (hG.mono (hl1.trans hl2)) hC2.old (Y := (fun b => w2.heap.size ≤ b)) (fun _ hb => hb) hv3 hx2) fun v4 w3 hv4 => ?_)
  obtain ⟨hv4, hb3⟩ := hv4
  have hl3 := Le.no M hb3
  have hC3 := hC2.no hb3
  have hw1 := Fg.vrep fg_Ruleset hv4
  replace h := bind_some h
  obtain ⟨x3, hx3, h⟩ := h
  have lz1 := ((hl1.trans hl2).trans hl3)
  refine lw_op Z Z Z (ow_call Z Z Tryd.call55 (w_spec_ChainsUsed (hG.mono lz1) hC3.old hw1 hx3) fun v5 w4 hv5 => ?_)
  obtain ⟨hv5, hb4⟩ := hv5
  have hl4 := Le.no M hb4
  have hC4 := hC3.no hb4
  refine lw_op Z Z Z (ow_assign Z Z (lw_nil (ew_then (cw_seq (cw_region ?_)))))
  have lz2 := ((hl2.trans hl3).trans hl4)
  refine lw_op Z Z Z (ow_load (R := RRuleset) Z Z (ARep.mono lz2 hp1) (Tryd.sizeOf75 _) (Tryd.isAgg75 _) fun v6 hv6 => lw_op Z Z Z (ow_call Z Z Tryd.call48 (wu_laws_toRuleset (hG.mono (lz1.trans hl4)) hC4.old (Y := (fun b => w4.heap.size ≤ b)) (fun _ hb => hb) hv6 hx2) fun v7 w5 hv7 => ?_))
  obtain ⟨hv7, hb5⟩ := hv7
  have hl5 := Le.no M hb5
  have hC5 := hC4.no hb5
  have hw2 := Fg.vrep fg_Ruleset hv7
  have hw3 := Wd.vrep wd_Ruleset hv7
  have hu1 := UFz.yf (fun b => w4.heap.size ≤ b) w5
  refine lw_op Z Z Z (ow_alloc Z (Tryd.zeroValue25 _) hC5 fun g1 w6 hg1 hg2 ho1 hb6 hl6 hC6 => ?_)
  have hy1 := fun (h : (YF (fun b => w4.heap.size ≤ b) w5) g1) => Nat.lt_irrefl _ (Nat.lt_of_lt_of_le (hu1 _ h).1 hg1)
  have hw4 := VRep.mono (Le.no _ hb6) hw3
  have hu2 := UFz.no hu1 hb6
  have hm1 : (Add g1 M) g1 := .inl Z
  obtain ⟨A1, c1, rfl, hw5⟩ := open_Ruleset hw2
  refine lw_op0 Z Z (ow_store (X := No) (us := [(.slice A1 x2.Chains.length c1), (.bool x2.Accept)]) (cs' := #[(.slice A1 x2.Chains.length c1), (.bool x2.Accept)]) Z Z Z Z ho1 (Tryd.sizeOf25 _) Z Z Z Z hm1 (.inl hg2) Z hC6 fun w7 ho2 hb7 hl7 hC7 => ?_)
  have hw6 := VRep.other hw4 hb7 (fun b e h => hy1 ((show b = g1 from e) ▸ h))
  have hu3 := UFz.other hu2 hb7 (fun b e h => hy1 ((show b = g1 from e) ▸ h))
  refine lw_nil (ew_then (cw_seq (cw_region (lw_op Z Z Z (ow_loadOwnA Z Z Z ho2 (Tryd.isAgg25 _) (Tryd.sizeOf25 _) Z ?_)))))
  have hw7 : VRep RRuleset w7 (Add g1 M) ({ Chains := x2.Chains, Accept := x2.Accept } : Ruleset) (.agg #[(.slice A1 x2.Chains.length c1), (.bool x2.Accept)]) := shut_Ruleset (VRep.mono (hl6.trans hl7) hw5)
  replace h := bind_some h
  obtain ⟨x4, hx4, h⟩ := h
  have lz3 := ((((lz1.trans hl4).trans hl5).trans hl6).trans hl7)
  refine lw_op Z Z Z (ow_call Z Z Tryd.call20 (wo_impl_ChainsUsed (hG.mono lz3) hC7.old hw7 hx4) fun v8 w8 hv8 => ?_)
  obtain ⟨⟨M1, hr1, hk1⟩, hb8⟩ := hv8
  have hy2 := fun b (e : (Value.ownBlock v8) = some b) (h : (YF (fun b => w4.heap.size ≤ b) w5) b) => Nat.lt_irrefl _ (Nat.lt_of_lt_of_le (hu3 _ h).1 (hr1.block e).1)
  replace hr1 := hr1.base hC7.bx.size
  have hl8 := hk1.le
  have hC8 := hC7.trans hk1
  have hw8 := VRep.mono (Le.no _ hb8) hw6
  have hu4 := UFz.no hu3 hb8
  have ho3 := ho2.no hb8
  refine lw_op Z Z Z (ow_assign Z Z (lw_nil (ew_then (cw_seq (cw_seq (cw_region (lw_op Z Z Z (ow_move Z Z (lw_op Z Z Z (ow_move Z Z ?_))))))))))
  have lz4 := (((hl5.trans hl6).trans hl7).trans hl8)
  replace h := bind_some h
  obtain ⟨x5, hx5, h⟩ := h
  refine lw_op Z Z Z (ow_call Z Z Tryd.call50 (w_laws_eqIntS (ARep.mono (Le.del w8 M1 v8) (hG.mono (lz3.trans hl8))) (hr1.cxDel hC8 (fun _ e => e.elim) hO).old hr1.freezeDel (VRep.mono (Le.del w8 M1 v8) (VRep.mono lz4 hv5)) hx5) fun v9 w9 hv9 => ?_)
  obtain ⟨hv9, hb9⟩ := hv9
  have hl9 := Le.no M1 hb9
  have hC9 := hC8.no hb9
  have hw9 := VRep.mono (Le.no _ hb9) hw8
  have hu5 := UFz.no hu4 hb9
  have ho4 := ho3.no hb9
  have hr2 := hr1.no hb9
  obtain rfl := vbool_eq hv9
  refine lw_op Z Z Z (ow_not Z Z (lw_nil (ew_then ?_)))
  replace h := cond_some h
  rcases h with ⟨hc2, h⟩ | ⟨hc2, h⟩
  ·
   subst hc2
   refine cw_false Z (cw_skip (ew_then (cw_seq (cw_seq ?_))))
   have lz5 := ((lz3.trans hl8).trans hl9)
   have lz6 := (((((lz2.trans hl5).trans hl6).trans hl7).trans hl8).trans hl9)
   have lz10 := (((hl6.trans hl7).trans hl8).trans hl9)
   refine cw_sub (E' := [(1, (.pointer (some p1))), (2, (.bool false)), (4, v5), (5, (Zw g1 0)), (6, v8)]) ⟨Z, Z, Z, Z, Z, Zt⟩ (cw_drawQ 3 [PV RRuleset M1 ({ Chains := x2.Chains, Accept := x2.Accept } : Ruleset), PV RRuleset M1 a_aS, PV RRuleset M1 x2] (by kernel_rfl) Z (by kernel_rfl) ⟨PV.mono _ _ _, PV.mono _ _ _, PV.mono _ _ _, Zt⟩ ⟨?_, ?_, ?_, Zt⟩ ?_)
   ·
    intro w11 D hS1 hd1
    have hl11 := Le.no M1 hS1
    have ho6 := ho4.no hS1
    refine dg_sub (E' := [(5, (Zw g1 0))]) ⟨Z, Zt⟩ (dg_plain Z (ow_loadOwnA Z Z Z ho6 (Tryd.isAgg25 _) (Tryd.sizeOf25 _) Z ?_))
    have hw14 : VRep RRuleset w11 M1 ({ Chains := x2.Chains, Accept := x2.Accept } : Ruleset) (.agg #[(.slice A1 x2.Chains.length c1), (.bool x2.Accept)]) := shut_Ruleset (VRep.mono (lz10.trans hl11) hw5)
    exact ⟨BX.refl _ _, hw14⟩
   ·
    intro w12 D hS2 hd2
    have hl12 := Le.no M1 hS2
    exact dg_sub (E' := [(1, (.pointer (some p1)))]) ⟨Z, Zt⟩ (dg_plain Z (ow_load (R := RRuleset) Z Z (ARep.mono (lz6.trans hl12) hp1) (Tryd.sizeOf75 _) (Tryd.isAgg75 _) fun v12 hv12 => ⟨BX.refl _ _, hv12⟩))
   ·
    intro w13 D hS3 hd3
    have hl13 := Le.no M1 hS3
    have hC13 := hC9.no hS3
    have d1 : PV RRuleset M1 a_aS (D 1) w13 := dpA hd3 1 Z
    generalize hq1 : (D 1) = v13 at d1
    refine dg_sub (E' := [(28, v13)]) ⟨congrArg some hq1, Zt⟩ (dg_plain Z (ow_call Z Z Tryd.call48 (wu_laws_toRuleset (hG.mono (lz5.trans hl13)) hC13.old (Y := (fun b => w13.heap.size ≤ b)) (fun _ hb => hb) d1 hx2) fun v14 w14 hv14 => ?_))
    obtain ⟨hv14, hb11⟩ := hv14
    have hw18 := Fg.vrep fg_Ruleset hv14
    exact ⟨hb11, hw18⟩
   ·
    intro w15 D hS4 hd4
    have d2 : PV RRuleset M1 ({ Chains := x2.Chains, Accept := x2.Accept } : Ruleset) (D 0) w15 := dpA hd4 0 Z
    have d4 : PV RRuleset M1 x2 (D 2) w15 := dpA hd4 2 Z
    have hl15 := Le.no M1 hS4
    have hC15 := hC9.no hS4
    have hw19 := VRep.mono (Le.no _ hS4) hw9
    have hu11 := UFz.no hu5 hS4
    have ho10 := ho4.no hS4
    have hr8 := hr2.no hS4
    generalize hq2 : (D 0) = v15 at d2
    generalize hq3 : (D 2) = v16 at d4
    refine lw_sub (E' := [(27, v15), (29, v16), (1, (.pointer (some p1))), (2, (.bool false)), (4, v5), (5, (Zw g1 0)), (6, v8)]) ⟨congrArg some hq2, congrArg some hq3, Z, Z, Z, Z, Z, Zt⟩ ?_
    replace h := bind_some h
    obtain ⟨x6, hx6, h⟩ := h
    refine lw_op Z Z Z (ow_call Z Z Tryd.call51 (w_laws_eqRuleset (hG.mono (lz5.trans hl15)) hC15.old d2 d4 hx6) fun v17 w16 hv17 => ?_)
    obtain ⟨hv17, hb12⟩ := hv17
    have hl16 := Le.no M1 hb12
    have hC16 := hC15.no hb12
    have hw20 := VRep.mono (Le.no _ hb12) hw19
    have hu12 := UFz.no hu11 hb12
    have ho11 := ho10.no hb12
    have hr9 := hr8.no hb12
    obtain rfl := vbool_eq hv17
    refine lw_op Z Z Z (ow_not Z Z (lw_nil (ew_then ?_)))
    replace h := cond_some h
    rcases h with ⟨hc3, h⟩ | ⟨hc3, h⟩
    ·
     subst hc3
     refine cw_false Z (cw_skip (ew_then (cw_seq (cw_region (lw_op Z Z Z (ow_assign Z Z (lw_nil (ew_then (cw_seq (cw_region (lw_op Z Z Z (ow_loadOwnA Z Z Z ho11 (Tryd.isAgg25 _) (Tryd.sizeOf25 _) Z (lw_op Z Z Z (ow_move Z Z ?_))))))))))))))
     replace h := bind_some h
     obtain ⟨x7, hx7, h⟩ := h
     refine lw_op Z Z Z (ow_call Z Z Tryd.call52 (wm_laws_markRuleset hu12 hw20 hx7) fun v18 w17 hv18 => ?_)
     obtain ⟨rfl, hmk1⟩ := hv18
     have hl17 := Le.mark ((((((hl5.trans hl6).trans hl7).trans hl8).trans hl9).trans hl15).trans hl16) hmk1.bx (fun b h => h.1)
     have hC17 := hC16.mark hmk1.bx hu12 (fun b h => Nat.le_trans hC4.bx.size h.1)
     have hr10 := hr9.mark (fun _ _ _ _ _ _ h => h) hmk1.bx hy2
     refine lw_op Z Z Z (ow_assign Z Z (lw_nil (ew_then (cw_seq (cw_seq (cw_region (lw_op Z Z Z (ow_move Z Z (lw_op Z Z Z (ow_lss Z Z Z fun bb2 hbb2 => lw_op Z Z Z (ow_move Z Z ?_)))))))))))
     replace h := cond_some h
     rcases h with ⟨hc4, h⟩ | ⟨hc4, h⟩
     ·
      obtain rfl := hbb2.trans hc4
      refine lw_off Z Z Z Z Z Z (lw_off Z Z Z Z Z Z (lw_off Z Z Z Z Z Z (lw_off Z Z Z Z Z Z (lw_op Z Z Z (ow_pickT Z Z Z (lw_nil (ew_then (cw_true Z (cw_seq (cw_region (lw_op Z Z Z (ow_assign Z Z (lw_nil (ew_then (cw_ret (ew_thenR ?_))))))))))))))))
      obtain rfl := sj h
      exact ew_ret (res1 Z (.tmp Z)) ⟨_, Z, ((vbool _)), hC17.bx⟩
     ·
      obtain rfl := hbb2.trans hc4
      refine lw_on Z Z Z Z Z Z (ow_move Z Z (lw_on Z Z Z Z Z Z (ow_move Z Z ?_)))
      have lz13 := ((((hl1.trans hl2).trans hl3).trans hl4).trans hl17)
      refine lw_on Z Z Z Z Z Z (ow_call Z Z Tryd.call50 (w_laws_eqIntS (ARep.mono (Le.del w17 (MY M1 (YF (fun b => w4.heap.size ≤ b) w5)) v8) (hG.mono lz13)) (hr10.cxDel hC17 (fun _ e => e.elim) hO).old hr10.freezeDel (VRep.mono (Le.del w17 (MY M1 (YF (fun b => w4.heap.size ≤ b) w5)) v8) (VRep.mono hl17 hv5)) hx5) fun v19 w18 hv19 => ?_)
      obtain ⟨hv19, hb13⟩ := hv19
      have hl18 := Le.no (MY M1 (YF (fun b => w4.heap.size ≤ b) w5)) hb13
      have hC18 := hC17.no hb13
      have hr11 := hr10.no hb13
      obtain rfl := vbool_eq hv19
      refine lw_on Z Z Z Z Z Z (ow_not Z Z (lw_op Z Z Z (ow_pickF Z Z Z (lw_nil (ew_then (cw_false Z (cw_skip (ew_then (cw_seq (cw_region (lw_op Z Z Z (ow_assign Z Z (lw_nil (ew_then (cw_seq (cw_region (lw_op Z Z Z (ow_move Z Z (lw_op Z Z Z (ow_move Z Z ?_))))))))))))))))))))
      replace h := bind_some h
      obtain ⟨x8, hx8, h⟩ := h
      refine lw_op Z Z Z (ow_call Z Z Tryd.call53 (wr_laws_markIntS (hG.mono (lz13.trans hl18)) hC18.old hr11 hx8) fun v20 w19 hv20 => ?_)
      obtain ⟨hv20, M2, hr12, hk2⟩ := hv20
      obtain rfl := vint_eq hv20
      have hl19 := hk2.leY (fun b e => hr11.mem b e)
      have hC19 := hC18.trans2 hk2 (fun b e => .inl (hr11.block e).1)
      refine lw_op Z Z Z (ow_assign Z Z (lw_nil (ew_then (cw_seq (cw_region (lw_op Z Z Z (ow_assign Z Z (lw_nil (ew_then (cw_seq (cw_region (lw_op Z Z Z (ow_move Z Z (lw_op Z Z Z (ow_move Z Z ?_)))))))))))))))
      replace h := bind_some h
      obtain ⟨x9, hx9, h⟩ := h
      have lz14 := ((lz13.trans hl18).trans hl19)
      refine lw_op Z Z Z (ow_call Z Z Tryd.call54 (w_laws_heldIntS (ARep.mono (Le.del w19 M2 v8) (hG.mono lz14)) (hr12.cxDel hC19 (fun _ e => e.elim) hO).old hr12.freezeDel hx9) fun v21 w20 hv21 => ?_)
      obtain ⟨hv21, hb14⟩ := hv21
      have hl20 := Le.no M2 hb14
      have hC20 := hC19.no hb14
      have hr13 := hr12.no hb14
      obtain rfl := vint_eq hv21
      refine lw_op Z Z Z (ow_assign Z Z (lw_nil (ew_then (cw_seq (cw_seq (cw_region (lw_op Z Z Z (ow_move Z Z (lw_op Z Z Z (ow_lss Z Z Z fun bb3 hbb3 => lw_nil (ew_then ?_)))))))))))
      replace h := cond_some h
      rcases h with ⟨hc5, h⟩ | ⟨hc5, h⟩
      ·
       obtain rfl := hbb3.trans hc5
       refine cw_true Z (cw_seq (cw_region (lw_op Z Z Z (ow_assign Z Z (lw_nil (ew_then (cw_ret (ew_thenR ?_))))))))
       obtain rfl := sj h
       exact ew_ret (res1 Z (.tmp Z)) ⟨_, Z, ((vbool _)), hC20.bx⟩
      ·
       obtain rfl := hbb3.trans hc5
       refine cw_false Z (cw_skip (ew_then (cw_seq (cw_seq (cw_region (lw_op Z Z Z (ow_move Z Z (lw_op Z Z Z (ow_move Z Z (lw_op Z Z Z (ow_neqI Z Z Z fun bb4 hbb4 => lw_nil (ew_then ?_))))))))))))
       replace h := cond_some h
       rcases h with ⟨hc6, h⟩ | ⟨hc6, h⟩
       ·
        obtain rfl := hbb4.trans hc6
        refine cw_true Z (cw_seq (cw_region (lw_op Z Z Z (ow_assign Z Z (lw_nil (ew_then (cw_ret (ew_thenR ?_))))))))
        obtain rfl := sj h
        exact ew_ret (res1 Z (.tmp Z)) ⟨_, Z, ((vbool _)), hC20.bx⟩
       ·
        obtain rfl := hbb4.trans hc6
        refine cw_false Z (cw_skip (ew_then (cw_seq (cw_region ?_))))
        have lz15 := ((((((hl2.trans hl3).trans hl4).trans hl17).trans hl18).trans hl19).trans hl20)
        refine lw_op Z Z Z (ow_load (R := RRuleset) Z Z (ARep.mono lz15 hp1) (Tryd.sizeOf75 _) (Tryd.isAgg75 _) fun v22 hv22 => lw_op Z Z Z (ow_call Z Z Tryd.call48 (wu_laws_toRuleset (hG.mono (lz14.trans hl20)) hC20.old (Y := (fun b => w20.heap.size ≤ b)) (fun _ hb => hb) hv22 hx2) fun v23 w21 hv23 => ?_))
        obtain ⟨hv23, hb15⟩ := hv23
        have hl21 := Le.no M2 hb15
        have hC21 := hC20.no hb15
        have hr14 := hr13.no hb15
        have hw22 := Fg.vrep fg_Ruleset hv23
        replace h := bind_some h
        obtain ⟨x10, hx10, h⟩ := h
        have lz16 := ((lz14.trans hl20).trans hl21)
        refine lw_op Z Z Z (ow_call Z Z Tryd.call20 (w_impl_ChainsUsed (hG.mono lz16) hC21.old hw22 hx10) fun v24 w22 hv24 => ?_)
        obtain ⟨hv24, hb16⟩ := hv24
        have hl22 := Le.no M2 hb16
        have hC22 := hC21.no hb16
        have hr15 := hr14.no hb16
        refine lw_op Z Z Z (ow_assign Z Z (lw_nil (ew_then (cw_seq (cw_seq (cw_region (lw_op Z Z Z (ow_move Z Z (lw_op Z Z Z (ow_move Z Z ?_))))))))))
        have lz17 := (((((hl17.trans hl18).trans hl19).trans hl20).trans hl21).trans hl22)
        replace h := bind_some h
        obtain ⟨x11, hx11, h⟩ := h
        refine lw_op Z Z Z (ow_call Z Z Tryd.call50 (w_laws_eqIntS (hG.mono (lz16.trans hl22)) hC22.old hv24 (VRep.mono lz17 hv5) hx11) fun v25 w23 hv25 => ?_)
        obtain ⟨hv25, hb17⟩ := hv25
        have hl23 := Le.no M2 hb17
        have hC23 := hC22.no hb17
        have hr16 := hr15.no hb17
        obtain rfl := vbool_eq hv25
        refine lw_op Z Z Z (ow_not Z Z (lw_nil (ew_then ?_)))
        replace h := cond_some h
        rcases h with ⟨hc7, h⟩ | ⟨hc7, h⟩
        ·
         subst hc7
         refine cw_false Z (cw_skip (ew_then (cw_seq (cw_region (lw_op Z Z Z (ow_assign Z Z (lw_nil (ew_then (cw_seq (cw_region (lw_op Z Z Z (ow_move Z Z (lw_op Z Z Z (ow_move Z Z ?_))))))))))))))
         have lz18 := ((lz16.trans hl22).trans hl23)
         refine lw_op Z Z Z (ow_call Z Z Tryd.call54 (w_laws_heldIntS (ARep.mono (Le.del w23 M2 v8) (hG.mono lz18)) (hr16.cxDel hC23 (fun _ e => e.elim) hO).old hr16.freezeDel hx9) fun v26 w24 hv26 => ?_)
         obtain ⟨hv26, hb18⟩ := hv26
         have hC24 := hC23.no hb18
         obtain rfl := vint_eq hv26
         refine lw_op Z Z Z (ow_assign Z Z (lw_nil (ew_then (cw_seq (cw_seq (cw_region (lw_op Z Z Z (ow_move Z Z (lw_op Z Z Z (ow_lss Z Z Z fun bb5 hbb5 => ?_))))))))))
         obtain rfl := hbb5.trans hc5
         refine lw_nil (ew_then (cw_false Z (cw_skip (ew_then (cw_seq (cw_seq (cw_region (lw_op Z Z Z (ow_move Z Z (lw_op Z Z Z (ow_move Z Z (lw_op Z Z Z (ow_neqI Z Z Z fun bb6 hbb6 => ?_)))))))))))))
         obtain rfl := hbb6.trans hc6
         refine lw_nil (ew_then (cw_false Z (cw_skip (ew_then (cw_seq (cw_region (lw_op Z Z Z (ow_assign Z Z (lw_nil (ew_then (cw_ret ?_)))))))))))
         obtain rfl := sj h
         exact ew_ret (res1 Z (.tmp Z)) ⟨_, Z, ((vbool _)), hC24.bx⟩
        ·
         subst hc7
         refine cw_true Z (cw_seq (cw_region (lw_op Z Z Z (ow_assign Z Z (lw_nil (ew_then (cw_ret (ew_thenR ?_))))))))
         obtain rfl := sj h
         exact ew_ret (res1 Z (.tmp Z)) ⟨_, Z, ((vbool _)), hC23.bx⟩
    ·
     subst hc3
     refine cw_true Z (cw_seq (cw_region (lw_op Z Z Z (ow_assign Z Z (lw_nil (ew_then (cw_ret (ew_thenR ?_))))))))
     obtain rfl := sj h
     exact ew_ret (res1 Z (.tmp Z)) ⟨_, Z, ((vbool _)), hC16.bx⟩
  ·
   subst hc2
   refine cw_true Z (cw_seq (cw_region (lw_op Z Z Z (ow_assign Z Z (lw_nil (ew_then (cw_ret (ew_thenR ?_))))))))
   obtain rfl := sj h
   exact ew_ret (res1 Z (.tmp Z)) ⟨_, Z, ((vbool _)), hC9.bx⟩


end Go.PF
