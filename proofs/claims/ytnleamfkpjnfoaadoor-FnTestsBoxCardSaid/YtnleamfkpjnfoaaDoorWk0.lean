/- The walks; no condition. -/
import Derived.Test.YtnleamfkpjnfoaaDoorProg
import Derived.Test.YtnleamfkpjnfoaaDoorFun
import Derived.Test.YtnleamfkpjnfoaaDoorPFNew
set_option maxRecDepth 100000
set_option maxHeartbeats 4000000
namespace Go.PF
open Go Go.RowKit Go.Proofs

theorem info31 : ∃ i, Tryd.prog.info? 31 = some i ∧ i.zero = some (.agg #[.int .i64 0, .int .i64 0, .int .i64 0, .bool false]) ∧ i.size = 4 ∧ i.bytes = 32 := info_parts (by kernel_rfl)
theorem info58 : ∃ i, Tryd.prog.info? 58 = some i ∧ i.zero = some (.slice none 0 0) ∧ i.size = 1 ∧ i.bytes = 24 := info_parts (by kernel_rfl)
theorem info76 : ∃ i, Tryd.prog.info? 76 = some i ∧ i.zero = some (.agg #[.int .i64 0, .int .i64 0]) ∧ i.size = 2 ∧ i.bytes = 16 := info_parts (by kernel_rfl)
theorem eqS76 {x y : Span} (w : World) : (Op.equalIn 10000 76 (.agg #[.int .i64 x.Lo, .int .i64 x.Hi]) (.agg #[.int .i64 y.Lo, .int .i64 y.Hi])).run Tryd.prog w = .ok (decide (x = y)) w := by
 obtain ⟨a0, a1⟩ := x
 obtain ⟨b0, b1⟩ := y
 rw [run_equalIn_struct w 9999 76 _ _ rfl Tryd.stoodInHeld76]
 simp only [Program.fieldsOf, Tryd.underlying76]
 by_cases h0 : a0 = b0 <;> by_cases h1 : a1 = b1 <;> simp [Op.eqFields, part, Tryd.isAgg3, run_equalIn_int, Tryd.underlying3, h0, h1]
theorem w_spec_l20Rd_pick {w : World} {M : Nat → Prop} (_hG : ARep (RArr 4 RShape) w M shapes ⟨0, 0, none⟩) (hO : ∀ b, M b → b < w.heap.size) {g : Nat} {Ax : Option Addr} {cx : Nat} {a_xs : List Int} {a_pos : Int} (hxs : VRep (RSlice RU8) w M a_xs (.slice Ax a_xs.length cx)) (hown : Own w g 98 #[.slice Ax a_xs.length cx, .int .i64 a_pos]) (hgM : M g) {a_n : Int} {r : Int × Int} (h : F.spec_l20Rd_pick a_xs a_pos a_n = some r) :
  Calls Tryd.prog 87 [(.pointer (some ⟨g, 0, none⟩)), (.int .i64 a_n)].toArray w fun e w' => ∃ v, e = .returned v ∧ (VRep RInt w' M r.1 v ∧ Own w' g 98 #[.slice Ax a_xs.length cx, .int .i64 r.2]) ∧ BX (One g) w w' := by
 have hX : ∀ b, (One g) b → M b := fun b e => e ▸ hgM
 have hC : Cx (One g) w M w M := Cx.start hO hX
 clear _hG
 refine walk (N := 99) Tryd.func87 rfl Tryd.ntmps87 rfl ?_
 refine cw_seq (cw_region (lw_op rfl rfl rfl (ow_assign rfl rfl ?_)))
 refine lw_nil (ew_then (cw_seq (cw_region (lw_op rfl rfl rfl (ow_move rfl rfl ?_)))))
 refine lw_op rfl rfl rfl (ow_move rfl rfl ?_)
 refine lw_op rfl rfl rfl (ow_nilCheck rfl rfl ?_)
 refine lw_op rfl rfl rfl (ow_fieldAddr rfl rfl Tryd.underlying98 rfl (Tryd.sizeOf3 _) ?_)
 refine lw_op rfl rfl rfl (ow_loadOwn1 rfl rfl rfl hown (Tryd.isAgg3 _) rfl ?_)
 refine lw_op rfl rfl rfl (ow_add rfl rfl rfl ?_)
 refine lw_op rfl rfl rfl (ow_nilCheck rfl rfl ?_)
 refine lw_op rfl rfl rfl (ow_fieldAddr rfl rfl Tryd.underlying98 rfl (Tryd.sizeOf3 _) ?_)
 refine lw_op0 rfl rfl (ow_store (X := (One g)) (us := [(.int .i64 (W (a_pos + 1)))]) (cs' := #[(.slice Ax a_xs.length cx), (.int .i64 (W (a_pos + 1)))]) rfl rfl rfl rfl hown (Tryd.sizeOf3 _) rfl rfl rfl rfl hgM (.inr rfl) rfl hC fun w1 ho1 hb1 hl1 hC1 => ?_)
 refine lw_nil (ew_then (cw_seq (cw_seq (cw_region (lw_op rfl rfl rfl (ow_move rfl rfl ?_))))))
 refine lw_op rfl rfl rfl (ow_lss rfl rfl rfl fun bb1 hbb1 => ?_)
 refine lw_op rfl rfl rfl (ow_move rfl rfl ?_)
 replace h := cond_some h
 rcases h with ⟨hc1, h⟩ | ⟨hc1, h⟩
 ·
  obtain rfl := hbb1.trans hc1
  refine lw_off rfl rfl rfl rfl rfl rfl ?_
  refine lw_off rfl rfl rfl rfl rfl rfl ?_
  refine lw_off rfl rfl rfl rfl rfl rfl ?_
  refine lw_off rfl rfl rfl rfl rfl rfl ?_
  refine lw_off rfl rfl rfl rfl rfl rfl ?_
  refine lw_off rfl rfl rfl rfl rfl rfl ?_
  refine lw_op rfl rfl rfl (ow_pickT rfl rfl rfl ?_)
  refine lw_nil (ew_then (cw_true rfl ?_))
  refine cw_seq (cw_region (lw_op rfl rfl rfl (ow_assign rfl rfl ?_)))
  refine lw_nil (ew_then (cw_ret (ew_thenR ?_)))
  obtain rfl := Option.some.inj h
  exact ew_ret (res1 rfl (.tmp rfl)) ⟨_, rfl, ⟨((vint _)), ho1⟩, hC1.bx⟩
 ·
  obtain rfl := hbb1.trans hc1
  refine lw_on rfl rfl rfl rfl rfl rfl (ow_move rfl rfl ?_)
  refine lw_on rfl rfl rfl rfl rfl rfl (ow_nilCheck rfl rfl ?_)
  refine lw_on rfl rfl rfl rfl rfl rfl (ow_fieldAddr rfl rfl Tryd.underlying98 rfl (Tryd.sizeOf22 _) ?_)
  refine lw_on rfl rfl rfl rfl rfl rfl (ow_loadOwn1 rfl rfl rfl ho1 (Tryd.isAgg22 _) rfl ?_)
  refine lw_on rfl rfl rfl rfl rfl rfl (ow_len rfl rfl (VRep.mono hl1 hxs) Tryd.underlying22 rfl ?_)
  refine lw_on rfl rfl rfl rfl rfl rfl (ow_eqlI rfl rfl rfl fun bb2 hbb2 => ?_)
  refine lw_op rfl rfl rfl (ow_pickF rfl rfl rfl ?_)
  refine lw_nil (ew_then ?_)
  replace h := cond_some h
  rcases h with ⟨hc2, h⟩ | ⟨hc2, h⟩
  ·
   obtain rfl := hbb2.trans hc2
   refine cw_true rfl ?_
   refine cw_seq (cw_region (lw_op rfl rfl rfl (ow_assign rfl rfl ?_)))
   refine lw_nil (ew_then (cw_ret (ew_thenR ?_)))
   obtain rfl := Option.some.inj h
   exact ew_ret (res1 rfl (.tmp rfl)) ⟨_, rfl, ⟨((vint _)), ho1⟩, hC1.bx⟩
  ·
   obtain rfl := hbb2.trans hc2
   refine cw_false rfl ?_
   refine cw_skip (ew_then (cw_seq (cw_region (lw_op rfl rfl rfl (ow_move rfl rfl ?_)))))
   refine lw_op rfl rfl rfl (ow_nilCheck rfl rfl ?_)
   refine lw_op rfl rfl rfl (ow_fieldAddr rfl rfl Tryd.underlying98 rfl (Tryd.sizeOf3 _) ?_)
   refine lw_op rfl rfl rfl (ow_loadOwn1 rfl rfl rfl ho1 (Tryd.isAgg3 _) rfl ?_)
   refine lw_op rfl rfl rfl (ow_sub rfl rfl rfl ?_)
   refine lw_op rfl rfl rfl (ow_assign rfl rfl ?_)
   refine lw_nil (ew_then (cw_seq (cw_seq (cw_region (lw_op rfl rfl rfl (ow_move rfl rfl ?_))))))
   refine lw_op rfl rfl rfl (ow_move rfl rfl ?_)
   refine lw_op rfl rfl rfl (ow_nilCheck rfl rfl ?_)
   refine lw_op rfl rfl rfl (ow_fieldAddr rfl rfl Tryd.underlying98 rfl (Tryd.sizeOf22 _) ?_)
   refine lw_op rfl rfl rfl (ow_loadOwn1 rfl rfl rfl ho1 (Tryd.isAgg22 _) rfl ?_)
   refine lw_op rfl rfl rfl (ow_len rfl rfl (VRep.mono hl1 hxs) Tryd.underlying22 rfl ?_)
   refine lw_op rfl rfl rfl (ow_lss rfl rfl rfl fun bb3 hbb3 => ?_)
   refine lw_nil (ew_then ?_)
   replace h := cond_some h
   rcases h with ⟨hc3, h⟩ | ⟨hc3, h⟩
   ·
    obtain rfl := hbb3.trans hc3
    refine cw_true rfl ?_
    refine cw_seq (cw_region (lw_op rfl rfl rfl (ow_move rfl rfl ?_)))
    refine lw_op rfl rfl rfl (ow_nilCheck rfl rfl ?_)
    refine lw_op rfl rfl rfl (ow_fieldAddr rfl rfl Tryd.underlying98 rfl (Tryd.sizeOf22 _) ?_)
    refine lw_op rfl rfl rfl (ow_loadOwn1 rfl rfl rfl ho1 (Tryd.isAgg22 _) rfl ?_)
    refine lw_op rfl rfl rfl (ow_move rfl rfl ?_)
    replace h := bind_some h
    obtain ⟨x1, hx1, h⟩ := h
    refine lw_op rfl rfl rfl (ow_indexSlice (R := RU8) rfl rfl rfl (VRep.mono hl1 hxs) Tryd.underlying22 (Tryd.sizeOf5 _) hx1 fun p1 hp1 => ?_)
    refine lw_op rfl rfl rfl (ow_load (R := RU8) rfl rfl hp1 (Tryd.sizeOf5 _) (Tryd.isAgg5 _) fun v1 hv1 => ?_)
    obtain rfl := vu8_eq hv1
    refine lw_op rfl rfl rfl (ow_u8int rfl rfl (by kernel_rfl) ?_)
    refine lw_op rfl rfl rfl (ow_move rfl rfl ?_)
    replace h := bind_some h
    obtain ⟨u1, hu1, h⟩ := h
    refine lw_op rfl rfl rfl (ow_rem rfl rfl rfl (nzF_some hu1) ?_)
    refine lw_op rfl rfl rfl (ow_assign rfl rfl ?_)
    refine lw_nil (ew_then (cw_ret (ew_thenR ?_)))
    obtain rfl := Option.some.inj h
    exact ew_ret (res1 rfl (.tmp rfl)) ⟨_, rfl, ⟨((vint _)), ho1⟩, hC1.bx⟩
   ·
    obtain rfl := hbb3.trans hc3
    refine cw_false rfl ?_
    refine cw_skip (ew_then (cw_seq ?_))
    replace h := bind_some h
    obtain ⟨u2, hu2, h⟩ := h
    replace h := bind_some h
    obtain ⟨x2, hx2, h⟩ := h
    replace h := bind_some h
    obtain ⟨x3, hx3, h⟩ := h
    refine cw_sub (E' := [(0, (.pointer (some ⟨g, 0, none⟩))), (1, (.int .i64 a_n)), (4, (.int .i64 0)), (5, (.int .i64 (W ((W (a_pos + 1)) - 1))))]) ⟨rfl, rfl, rfl, rfl, trivial⟩ ?_
    refine cw_drawQ 44 [PEq (.pointer (some ⟨g, 0, none⟩)), PEq (.pointer (some ⟨g, 0, none⟩)), PEq (.pointer (some ⟨g, 0, none⟩)), PV (RSlice RU8) M a_xs, PEq (.int .i64 (W ((W (a_pos + 1)) - 1))), PEq (.pointer (some ⟨g, 0, none⟩)), PEq (.pointer (some ⟨g, 0, none⟩)), PEq (.pointer (some ⟨g, 0, none⟩)), PV (RSlice RU8) M a_xs, PEq (.int .i64 (a_xs.length : Int)), PEq (.int .i64 (((W ((W (a_pos + 1)) - 1))).tmod (a_xs.length : Int))), PA RU8 M x2, PEq (.int .u8 x2), PEq (.int .i64 (W x2)), PEq (.int .i64 (W ((W x2) * 131))), PEq (.pointer (some ⟨g, 0, none⟩)), PEq (.pointer (some ⟨g, 0, none⟩)), PEq (.pointer (some ⟨g, 0, none⟩)), PV (RSlice RU8) M a_xs, PEq (.int .i64 (W ((W (a_pos + 1)) - 1))), PEq (.int .i64 (W ((W ((W (a_pos + 1)) - 1)) * 7))), PEq (.int .i64 (W ((W ((W ((W (a_pos + 1)) - 1)) * 7)) + 3))), PEq (.pointer (some ⟨g, 0, none⟩)), PEq (.pointer (some ⟨g, 0, none⟩)), PEq (.pointer (some ⟨g, 0, none⟩)), PV (RSlice RU8) M a_xs, PEq (.int .i64 (a_xs.length : Int)), PEq (.int .i64 (((W ((W ((W ((W (a_pos + 1)) - 1)) * 7)) + 3))).tmod (a_xs.length : Int))), PA RU8 M x3, PEq (.int .u8 x3), PEq (.int .i64 (W x3)), PEq (.int .i64 (W ((W x3) * 1117))), PEq (.int .i64 (W ((W ((W x2) * 131)) + (W ((W x3) * 1117))))), PEq (.int .i64 (W ((W (a_pos + 1)) - 1))), PEq (.int .i64 (W ((W ((W (a_pos + 1)) - 1)) * 29))), PEq (.int .i64 (W ((W ((W ((W x2) * 131)) + (W ((W x3) * 1117)))) + (W ((W ((W (a_pos + 1)) - 1)) * 29))))), PEq (.int .i64 (W ((W (a_pos + 1)) - 1))), PEq (.pointer (some ⟨g, 0, none⟩)), PEq (.pointer (some ⟨g, 0, none⟩)), PEq (.pointer (some ⟨g, 0, none⟩)), PV (RSlice RU8) M a_xs, PEq (.int .i64 (a_xs.length : Int)), PEq (.int .i64 (W (((W ((W (a_pos + 1)) - 1))).tdiv (a_xs.length : Int)))), PEq (.int .i64 (W ((W (((W ((W (a_pos + 1)) - 1))).tdiv (a_xs.length : Int))) * 53)))] (by kernel_rfl) rfl (by kernel_rfl) ⟨PEq.mono _, PEq.mono _, PEq.mono _, PV.mono _ _ _, PEq.mono _, PEq.mono _, PEq.mono _, PEq.mono _, PV.mono _ _ _, PEq.mono _, PEq.mono _, PA.mono _ _ _, PEq.mono _, PEq.mono _, PEq.mono _, PEq.mono _, PEq.mono _, PEq.mono _, PV.mono _ _ _, PEq.mono _, PEq.mono _, PEq.mono _, PEq.mono _, PEq.mono _, PEq.mono _, PV.mono _ _ _, PEq.mono _, PEq.mono _, PA.mono _ _ _, PEq.mono _, PEq.mono _, PEq.mono _, PEq.mono _, PEq.mono _, PEq.mono _, PEq.mono _, PEq.mono _, PEq.mono _, PEq.mono _, PEq.mono _, PV.mono _ _ _, PEq.mono _, PEq.mono _, PEq.mono _, trivial⟩ ⟨?_, ?_, ?_, ?_, ?_, ?_, ?_, ?_, ?_, ?_, ?_, ?_, ?_, ?_, ?_, ?_, ?_, ?_, ?_, ?_, ?_, ?_, ?_, ?_, ?_, ?_, ?_, ?_, ?_, ?_, ?_, ?_, ?_, ?_, ?_, ?_, ?_, ?_, ?_, ?_, ?_, ?_, ?_, ?_, trivial⟩ ?_
    ·
     intro w2 D hS1 hd1
     have hl2 := Le.no M hS1
     have hC2 := hC1.no hS1
     have ho2 := ho1.no hS1
     refine dg_sub (E' := [(0, (.pointer (some ⟨g, 0, none⟩)))]) ⟨rfl, trivial⟩ ?_
     refine dg_plain rfl (ow_move rfl rfl ?_)
     exact ⟨BX.refl _ _, rfl⟩
    ·
     intro w3 D hS2 hd2
     have hl3 := Le.no M hS2
     have hC3 := hC1.no hS2
     have ho3 := ho1.no hS2
     have hd2 : PEq (.pointer (some ⟨g, 0, none⟩)) (D 0) w3 ∧ True := hd2
     obtain ⟨d1, -⟩ := hd2
     refine dg_sub (E' := [(47, (.pointer (some ⟨g, 0, none⟩)))]) ⟨(congrArg some d1), trivial⟩ ?_
     refine dg_plain rfl (ow_nilCheck rfl rfl ?_)
     exact ⟨BX.refl _ _, rfl⟩
    ·
     intro w4 D hS3 hd3
     have hl4 := Le.no M hS3
     have hC4 := hC1.no hS3
     have ho4 := ho1.no hS3
     have hd3 : PEq (.pointer (some ⟨g, 0, none⟩)) (D 1) w4 ∧ True := hd3
     obtain ⟨d2, -⟩ := hd3
     refine dg_sub (E' := [(48, (.pointer (some ⟨g, 0, none⟩)))]) ⟨(congrArg some d2), trivial⟩ ?_
     refine dg_plain rfl (ow_fieldAddr rfl rfl Tryd.underlying98 rfl (Tryd.sizeOf22 _) ?_)
     exact ⟨BX.refl _ _, rfl⟩
    ·
     intro w5 D hS4 hd4
     have hl5 := Le.no M hS4
     have hC5 := hC1.no hS4
     have ho5 := ho1.no hS4
     have hd4 : PEq (.pointer (some ⟨g, 0, none⟩)) (D 2) w5 ∧ True := hd4
     obtain ⟨d3, -⟩ := hd4
     refine dg_sub (E' := [(49, (.pointer (some ⟨g, 0, none⟩)))]) ⟨(congrArg some d3), trivial⟩ ?_
     refine dg_plain rfl (ow_loadOwn1 rfl rfl rfl ho5 (Tryd.isAgg22 _) rfl ?_)
     exact ⟨BX.refl _ _, (VRep.mono (hl1.trans hl5) hxs)⟩
    ·
     intro w6 D hS5 hd5
     have hl6 := Le.no M hS5
     have hC6 := hC1.no hS5
     have ho6 := ho1.no hS5
     refine dg_sub (E' := [(5, (.int .i64 (W ((W (a_pos + 1)) - 1))))]) ⟨rfl, trivial⟩ ?_
     refine dg_plain rfl (ow_move rfl rfl ?_)
     exact ⟨BX.refl _ _, rfl⟩
    ·
     intro w7 D hS6 hd6
     have hl7 := Le.no M hS6
     have hC7 := hC1.no hS6
     have ho7 := ho1.no hS6
     refine dg_sub (E' := [(0, (.pointer (some ⟨g, 0, none⟩)))]) ⟨rfl, trivial⟩ ?_
     refine dg_plain rfl (ow_move rfl rfl ?_)
     exact ⟨BX.refl _ _, rfl⟩
    ·
     intro w8 D hS7 hd7
     have hl8 := Le.no M hS7
     have hC8 := hC1.no hS7
     have ho8 := ho1.no hS7
     have hd7 : PEq (.pointer (some ⟨g, 0, none⟩)) (D 5) w8 ∧ True := hd7
     obtain ⟨d4, -⟩ := hd7
     refine dg_sub (E' := [(52, (.pointer (some ⟨g, 0, none⟩)))]) ⟨(congrArg some d4), trivial⟩ ?_
     refine dg_plain rfl (ow_nilCheck rfl rfl ?_)
     exact ⟨BX.refl _ _, rfl⟩
    ·
     intro w9 D hS8 hd8
     have hl9 := Le.no M hS8
     have hC9 := hC1.no hS8
     have ho9 := ho1.no hS8
     have hd8 : PEq (.pointer (some ⟨g, 0, none⟩)) (D 6) w9 ∧ True := hd8
     obtain ⟨d5, -⟩ := hd8
     refine dg_sub (E' := [(53, (.pointer (some ⟨g, 0, none⟩)))]) ⟨(congrArg some d5), trivial⟩ ?_
     refine dg_plain rfl (ow_fieldAddr rfl rfl Tryd.underlying98 rfl (Tryd.sizeOf22 _) ?_)
     exact ⟨BX.refl _ _, rfl⟩
    ·
     intro w10 D hS9 hd9
     have hl10 := Le.no M hS9
     have hC10 := hC1.no hS9
     have ho10 := ho1.no hS9
     have hd9 : PEq (.pointer (some ⟨g, 0, none⟩)) (D 7) w10 ∧ True := hd9
     obtain ⟨d6, -⟩ := hd9
     refine dg_sub (E' := [(54, (.pointer (some ⟨g, 0, none⟩)))]) ⟨(congrArg some d6), trivial⟩ ?_
     refine dg_plain rfl (ow_loadOwn1 rfl rfl rfl ho10 (Tryd.isAgg22 _) rfl ?_)
     exact ⟨BX.refl _ _, (VRep.mono (hl1.trans hl10) hxs)⟩
    ·
     intro w11 D hS10 hd10
     have hl11 := Le.no M hS10
     have hC11 := hC1.no hS10
     have ho11 := ho1.no hS10
     have hd10 : PV (RSlice RU8) M a_xs (D 8) w11 ∧ True := hd10
     obtain ⟨d7, -⟩ := hd10
     obtain ⟨v4, hq1⟩ : ∃ v, (D 8) = v := ⟨_, rfl⟩
     rw [hq1] at d7
     refine dg_sub (E' := [(55, v4)]) ⟨(congrArg some hq1), trivial⟩ ?_
     refine dg_plain rfl (ow_len rfl rfl d7 Tryd.underlying22 rfl ?_)
     exact ⟨BX.refl _ _, rfl⟩
    ·
     intro w12 D hS11 hd11
     have hl12 := Le.no M hS11
     have hC12 := hC1.no hS11
     have ho12 := ho1.no hS11
     have hd11 : PEq (.int .i64 (W ((W (a_pos + 1)) - 1))) (D 4) w12 ∧ PEq (.int .i64 (a_xs.length : Int)) (D 9) w12 ∧ True := hd11
     obtain ⟨d8, d9, -⟩ := hd11
     refine dg_sub (E' := [(51, (.int .i64 (W ((W (a_pos + 1)) - 1)))), (56, (.int .i64 (a_xs.length : Int)))]) ⟨(congrArg some d8), (congrArg some d9), trivial⟩ ?_
     refine dg_plain rfl (ow_rem rfl rfl rfl (nzF_some hu2) ?_)
     exact ⟨BX.refl _ _, rfl⟩
    ·
     intro w13 D hS12 hd12
     have hl13 := Le.no M hS12
     have hC13 := hC1.no hS12
     have ho13 := ho1.no hS12
     have hd12 : PV (RSlice RU8) M a_xs (D 3) w13 ∧ PEq (.int .i64 (((W ((W (a_pos + 1)) - 1))).tmod (a_xs.length : Int))) (D 10) w13 ∧ True := hd12
     obtain ⟨d10, d11, -⟩ := hd12
     obtain ⟨v5, hq2⟩ : ∃ v, (D 3) = v := ⟨_, rfl⟩
     rw [hq2] at d10
     refine dg_sub (E' := [(50, v5), (57, (.int .i64 (((W ((W (a_pos + 1)) - 1))).tmod (a_xs.length : Int))))]) ⟨(congrArg some hq2), (congrArg some d11), trivial⟩ ?_
     refine dg_plain rfl (ow_indexSlice (R := RU8) rfl rfl rfl d10 Tryd.underlying22 (Tryd.sizeOf5 _) hx2 fun p4 hp4 => ?_)
     exact ⟨BX.refl _ _, ⟨_, rfl, hp4⟩⟩
    ·
     intro w14 D hS13 hd13
     have hl14 := Le.no M hS13
     have hC14 := hC1.no hS13
     have ho14 := ho1.no hS13
     have hd13 : PA RU8 M x2 (D 11) w14 ∧ True := hd13
     obtain ⟨d12, -⟩ := hd13
     obtain ⟨p5, e1, ha1⟩ := d12
     refine dg_sub (E' := [(58, (.pointer (some p5)))]) ⟨(congrArg some e1), trivial⟩ ?_
     refine dg_plain rfl (ow_load (R := RU8) rfl rfl ha1 (Tryd.sizeOf5 _) (Tryd.isAgg5 _) fun v6 hv6 => ?_)
     obtain rfl := vu8_eq hv6
     exact ⟨BX.refl _ _, rfl⟩
    ·
     intro w15 D hS14 hd14
     have hl15 := Le.no M hS14
     have hC15 := hC1.no hS14
     have ho15 := ho1.no hS14
     have hd14 : PEq (.int .u8 x2) (D 12) w15 ∧ True := hd14
     obtain ⟨d13, -⟩ := hd14
     refine dg_sub (E' := [(59, (.int .u8 x2))]) ⟨(congrArg some d13), trivial⟩ ?_
     refine dg_plain rfl (ow_u8int rfl rfl (by kernel_rfl) ?_)
     exact ⟨BX.refl _ _, rfl⟩
    ·
     intro w16 D hS15 hd15
     have hl16 := Le.no M hS15
     have hC16 := hC1.no hS15
     have ho16 := ho1.no hS15
     have hd15 : PEq (.int .i64 (W x2)) (D 13) w16 ∧ True := hd15
     obtain ⟨d14, -⟩ := hd15
     refine dg_sub (E' := [(60, (.int .i64 (W x2)))]) ⟨(congrArg some d14), trivial⟩ ?_
     refine dg_plain rfl (ow_mul rfl rfl rfl ?_)
     exact ⟨BX.refl _ _, rfl⟩
    ·
     intro w17 D hS16 hd16
     have hl17 := Le.no M hS16
     have hC17 := hC1.no hS16
     have ho17 := ho1.no hS16
     refine dg_sub (E' := [(0, (.pointer (some ⟨g, 0, none⟩)))]) ⟨rfl, trivial⟩ ?_
     refine dg_plain rfl (ow_move rfl rfl ?_)
     exact ⟨BX.refl _ _, rfl⟩
    ·
     intro w18 D hS17 hd17
     have hl18 := Le.no M hS17
     have hC18 := hC1.no hS17
     have ho18 := ho1.no hS17
     have hd17 : PEq (.pointer (some ⟨g, 0, none⟩)) (D 15) w18 ∧ True := hd17
     obtain ⟨d15, -⟩ := hd17
     refine dg_sub (E' := [(62, (.pointer (some ⟨g, 0, none⟩)))]) ⟨(congrArg some d15), trivial⟩ ?_
     refine dg_plain rfl (ow_nilCheck rfl rfl ?_)
     exact ⟨BX.refl _ _, rfl⟩
    ·
     intro w19 D hS18 hd18
     have hl19 := Le.no M hS18
     have hC19 := hC1.no hS18
     have ho19 := ho1.no hS18
     have hd18 : PEq (.pointer (some ⟨g, 0, none⟩)) (D 16) w19 ∧ True := hd18
     obtain ⟨d16, -⟩ := hd18
     refine dg_sub (E' := [(63, (.pointer (some ⟨g, 0, none⟩)))]) ⟨(congrArg some d16), trivial⟩ ?_
     refine dg_plain rfl (ow_fieldAddr rfl rfl Tryd.underlying98 rfl (Tryd.sizeOf22 _) ?_)
     exact ⟨BX.refl _ _, rfl⟩
    ·
     intro w20 D hS19 hd19
     have hl20 := Le.no M hS19
     have hC20 := hC1.no hS19
     have ho20 := ho1.no hS19
     have hd19 : PEq (.pointer (some ⟨g, 0, none⟩)) (D 17) w20 ∧ True := hd19
     obtain ⟨d17, -⟩ := hd19
     refine dg_sub (E' := [(64, (.pointer (some ⟨g, 0, none⟩)))]) ⟨(congrArg some d17), trivial⟩ ?_
     refine dg_plain rfl (ow_loadOwn1 rfl rfl rfl ho20 (Tryd.isAgg22 _) rfl ?_)
     exact ⟨BX.refl _ _, (VRep.mono (hl1.trans hl20) hxs)⟩
    ·
     intro w21 D hS20 hd20
     have hl21 := Le.no M hS20
     have hC21 := hC1.no hS20
     have ho21 := ho1.no hS20
     refine dg_sub (E' := [(5, (.int .i64 (W ((W (a_pos + 1)) - 1))))]) ⟨rfl, trivial⟩ ?_
     refine dg_plain rfl (ow_move rfl rfl ?_)
     exact ⟨BX.refl _ _, rfl⟩
    ·
     intro w22 D hS21 hd21
     have hl22 := Le.no M hS21
     have hC22 := hC1.no hS21
     have ho22 := ho1.no hS21
     have hd21 : PEq (.int .i64 (W ((W (a_pos + 1)) - 1))) (D 19) w22 ∧ True := hd21
     obtain ⟨d18, -⟩ := hd21
     refine dg_sub (E' := [(66, (.int .i64 (W ((W (a_pos + 1)) - 1))))]) ⟨(congrArg some d18), trivial⟩ ?_
     refine dg_plain rfl (ow_mul rfl rfl rfl ?_)
     exact ⟨BX.refl _ _, rfl⟩
    ·
     intro w23 D hS22 hd22
     have hl23 := Le.no M hS22
     have hC23 := hC1.no hS22
     have ho23 := ho1.no hS22
     have hd22 : PEq (.int .i64 (W ((W ((W (a_pos + 1)) - 1)) * 7))) (D 20) w23 ∧ True := hd22
     obtain ⟨d19, -⟩ := hd22
     refine dg_sub (E' := [(67, (.int .i64 (W ((W ((W (a_pos + 1)) - 1)) * 7))))]) ⟨(congrArg some d19), trivial⟩ ?_
     refine dg_plain rfl (ow_add rfl rfl rfl ?_)
     exact ⟨BX.refl _ _, rfl⟩
    ·
     intro w24 D hS23 hd23
     have hl24 := Le.no M hS23
     have hC24 := hC1.no hS23
     have ho24 := ho1.no hS23
     refine dg_sub (E' := [(0, (.pointer (some ⟨g, 0, none⟩)))]) ⟨rfl, trivial⟩ ?_
     refine dg_plain rfl (ow_move rfl rfl ?_)
     exact ⟨BX.refl _ _, rfl⟩
    ·
     intro w25 D hS24 hd24
     have hl25 := Le.no M hS24
     have hC25 := hC1.no hS24
     have ho25 := ho1.no hS24
     have hd24 : PEq (.pointer (some ⟨g, 0, none⟩)) (D 22) w25 ∧ True := hd24
     obtain ⟨d20, -⟩ := hd24
     refine dg_sub (E' := [(69, (.pointer (some ⟨g, 0, none⟩)))]) ⟨(congrArg some d20), trivial⟩ ?_
     refine dg_plain rfl (ow_nilCheck rfl rfl ?_)
     exact ⟨BX.refl _ _, rfl⟩
    ·
     intro w26 D hS25 hd25
     have hl26 := Le.no M hS25
     have hC26 := hC1.no hS25
     have ho26 := ho1.no hS25
     have hd25 : PEq (.pointer (some ⟨g, 0, none⟩)) (D 23) w26 ∧ True := hd25
     obtain ⟨d21, -⟩ := hd25
     refine dg_sub (E' := [(70, (.pointer (some ⟨g, 0, none⟩)))]) ⟨(congrArg some d21), trivial⟩ ?_
     refine dg_plain rfl (ow_fieldAddr rfl rfl Tryd.underlying98 rfl (Tryd.sizeOf22 _) ?_)
     exact ⟨BX.refl _ _, rfl⟩
    ·
     intro w27 D hS26 hd26
     have hl27 := Le.no M hS26
     have hC27 := hC1.no hS26
     have ho27 := ho1.no hS26
     have hd26 : PEq (.pointer (some ⟨g, 0, none⟩)) (D 24) w27 ∧ True := hd26
     obtain ⟨d22, -⟩ := hd26
     refine dg_sub (E' := [(71, (.pointer (some ⟨g, 0, none⟩)))]) ⟨(congrArg some d22), trivial⟩ ?_
     refine dg_plain rfl (ow_loadOwn1 rfl rfl rfl ho27 (Tryd.isAgg22 _) rfl ?_)
     exact ⟨BX.refl _ _, (VRep.mono (hl1.trans hl27) hxs)⟩
    ·
     intro w28 D hS27 hd27
     have hl28 := Le.no M hS27
     have hC28 := hC1.no hS27
     have ho28 := ho1.no hS27
     have hd27 : PV (RSlice RU8) M a_xs (D 25) w28 ∧ True := hd27
     obtain ⟨d23, -⟩ := hd27
     obtain ⟨v7, hq3⟩ : ∃ v, (D 25) = v := ⟨_, rfl⟩
     rw [hq3] at d23
     refine dg_sub (E' := [(72, v7)]) ⟨(congrArg some hq3), trivial⟩ ?_
     refine dg_plain rfl (ow_len rfl rfl d23 Tryd.underlying22 rfl ?_)
     exact ⟨BX.refl _ _, rfl⟩
    ·
     intro w29 D hS28 hd28
     have hl29 := Le.no M hS28
     have hC29 := hC1.no hS28
     have ho29 := ho1.no hS28
     have hd28 : PEq (.int .i64 (W ((W ((W ((W (a_pos + 1)) - 1)) * 7)) + 3))) (D 21) w29 ∧ PEq (.int .i64 (a_xs.length : Int)) (D 26) w29 ∧ True := hd28
     obtain ⟨d24, d25, -⟩ := hd28
     refine dg_sub (E' := [(68, (.int .i64 (W ((W ((W ((W (a_pos + 1)) - 1)) * 7)) + 3)))), (73, (.int .i64 (a_xs.length : Int)))]) ⟨(congrArg some d24), (congrArg some d25), trivial⟩ ?_
     refine dg_plain rfl (ow_rem rfl rfl rfl (nzF_some hu2) ?_)
     exact ⟨BX.refl _ _, rfl⟩
    ·
     intro w30 D hS29 hd29
     have hl30 := Le.no M hS29
     have hC30 := hC1.no hS29
     have ho30 := ho1.no hS29
     have hd29 : PV (RSlice RU8) M a_xs (D 18) w30 ∧ PEq (.int .i64 (((W ((W ((W ((W (a_pos + 1)) - 1)) * 7)) + 3))).tmod (a_xs.length : Int))) (D 27) w30 ∧ True := hd29
     obtain ⟨d26, d27, -⟩ := hd29
     obtain ⟨v8, hq4⟩ : ∃ v, (D 18) = v := ⟨_, rfl⟩
     rw [hq4] at d26
     refine dg_sub (E' := [(65, v8), (74, (.int .i64 (((W ((W ((W ((W (a_pos + 1)) - 1)) * 7)) + 3))).tmod (a_xs.length : Int))))]) ⟨(congrArg some hq4), (congrArg some d27), trivial⟩ ?_
     refine dg_plain rfl (ow_indexSlice (R := RU8) rfl rfl rfl d26 Tryd.underlying22 (Tryd.sizeOf5 _) hx3 fun p6 hp6 => ?_)
     exact ⟨BX.refl _ _, ⟨_, rfl, hp6⟩⟩
    ·
     intro w31 D hS30 hd30
     have hl31 := Le.no M hS30
     have hC31 := hC1.no hS30
     have ho31 := ho1.no hS30
     have hd30 : PA RU8 M x3 (D 28) w31 ∧ True := hd30
     obtain ⟨d28, -⟩ := hd30
     obtain ⟨p7, e2, ha2⟩ := d28
     refine dg_sub (E' := [(75, (.pointer (some p7)))]) ⟨(congrArg some e2), trivial⟩ ?_
     refine dg_plain rfl (ow_load (R := RU8) rfl rfl ha2 (Tryd.sizeOf5 _) (Tryd.isAgg5 _) fun v9 hv9 => ?_)
     obtain rfl := vu8_eq hv9
     exact ⟨BX.refl _ _, rfl⟩
    ·
     intro w32 D hS31 hd31
     have hl32 := Le.no M hS31
     have hC32 := hC1.no hS31
     have ho32 := ho1.no hS31
     have hd31 : PEq (.int .u8 x3) (D 29) w32 ∧ True := hd31
     obtain ⟨d29, -⟩ := hd31
     refine dg_sub (E' := [(76, (.int .u8 x3))]) ⟨(congrArg some d29), trivial⟩ ?_
     refine dg_plain rfl (ow_u8int rfl rfl (by kernel_rfl) ?_)
     exact ⟨BX.refl _ _, rfl⟩
    ·
     intro w33 D hS32 hd32
     have hl33 := Le.no M hS32
     have hC33 := hC1.no hS32
     have ho33 := ho1.no hS32
     have hd32 : PEq (.int .i64 (W x3)) (D 30) w33 ∧ True := hd32
     obtain ⟨d30, -⟩ := hd32
     refine dg_sub (E' := [(77, (.int .i64 (W x3)))]) ⟨(congrArg some d30), trivial⟩ ?_
     refine dg_plain rfl (ow_mul rfl rfl rfl ?_)
     exact ⟨BX.refl _ _, rfl⟩
    ·
     intro w34 D hS33 hd33
     have hl34 := Le.no M hS33
     have hC34 := hC1.no hS33
     have ho34 := ho1.no hS33
     have hd33 : PEq (.int .i64 (W ((W x2) * 131))) (D 14) w34 ∧ PEq (.int .i64 (W ((W x3) * 1117))) (D 31) w34 ∧ True := hd33
     obtain ⟨d31, d32, -⟩ := hd33
     refine dg_sub (E' := [(61, (.int .i64 (W ((W x2) * 131)))), (78, (.int .i64 (W ((W x3) * 1117))))]) ⟨(congrArg some d31), (congrArg some d32), trivial⟩ ?_
     refine dg_plain rfl (ow_add rfl rfl rfl ?_)
     exact ⟨BX.refl _ _, rfl⟩
    ·
     intro w35 D hS34 hd34
     have hl35 := Le.no M hS34
     have hC35 := hC1.no hS34
     have ho35 := ho1.no hS34
     refine dg_sub (E' := [(5, (.int .i64 (W ((W (a_pos + 1)) - 1))))]) ⟨rfl, trivial⟩ ?_
     refine dg_plain rfl (ow_move rfl rfl ?_)
     exact ⟨BX.refl _ _, rfl⟩
    ·
     intro w36 D hS35 hd35
     have hl36 := Le.no M hS35
     have hC36 := hC1.no hS35
     have ho36 := ho1.no hS35
     have hd35 : PEq (.int .i64 (W ((W (a_pos + 1)) - 1))) (D 33) w36 ∧ True := hd35
     obtain ⟨d33, -⟩ := hd35
     refine dg_sub (E' := [(80, (.int .i64 (W ((W (a_pos + 1)) - 1))))]) ⟨(congrArg some d33), trivial⟩ ?_
     refine dg_plain rfl (ow_mul rfl rfl rfl ?_)
     exact ⟨BX.refl _ _, rfl⟩
    ·
     intro w37 D hS36 hd36
     have hl37 := Le.no M hS36
     have hC37 := hC1.no hS36
     have ho37 := ho1.no hS36
     have hd36 : PEq (.int .i64 (W ((W ((W x2) * 131)) + (W ((W x3) * 1117))))) (D 32) w37 ∧ PEq (.int .i64 (W ((W ((W (a_pos + 1)) - 1)) * 29))) (D 34) w37 ∧ True := hd36
     obtain ⟨d34, d35, -⟩ := hd36
     refine dg_sub (E' := [(79, (.int .i64 (W ((W ((W x2) * 131)) + (W ((W x3) * 1117)))))), (81, (.int .i64 (W ((W ((W (a_pos + 1)) - 1)) * 29))))]) ⟨(congrArg some d34), (congrArg some d35), trivial⟩ ?_
     refine dg_plain rfl (ow_add rfl rfl rfl ?_)
     exact ⟨BX.refl _ _, rfl⟩
    ·
     intro w38 D hS37 hd37
     have hl38 := Le.no M hS37
     have hC38 := hC1.no hS37
     have ho38 := ho1.no hS37
     refine dg_sub (E' := [(5, (.int .i64 (W ((W (a_pos + 1)) - 1))))]) ⟨rfl, trivial⟩ ?_
     refine dg_plain rfl (ow_move rfl rfl ?_)
     exact ⟨BX.refl _ _, rfl⟩
    ·
     intro w39 D hS38 hd38
     have hl39 := Le.no M hS38
     have hC39 := hC1.no hS38
     have ho39 := ho1.no hS38
     refine dg_sub (E' := [(0, (.pointer (some ⟨g, 0, none⟩)))]) ⟨rfl, trivial⟩ ?_
     refine dg_plain rfl (ow_move rfl rfl ?_)
     exact ⟨BX.refl _ _, rfl⟩
    ·
     intro w40 D hS39 hd39
     have hl40 := Le.no M hS39
     have hC40 := hC1.no hS39
     have ho40 := ho1.no hS39
     have hd39 : PEq (.pointer (some ⟨g, 0, none⟩)) (D 37) w40 ∧ True := hd39
     obtain ⟨d36, -⟩ := hd39
     refine dg_sub (E' := [(84, (.pointer (some ⟨g, 0, none⟩)))]) ⟨(congrArg some d36), trivial⟩ ?_
     refine dg_plain rfl (ow_nilCheck rfl rfl ?_)
     exact ⟨BX.refl _ _, rfl⟩
    ·
     intro w41 D hS40 hd40
     have hl41 := Le.no M hS40
     have hC41 := hC1.no hS40
     have ho41 := ho1.no hS40
     have hd40 : PEq (.pointer (some ⟨g, 0, none⟩)) (D 38) w41 ∧ True := hd40
     obtain ⟨d37, -⟩ := hd40
     refine dg_sub (E' := [(85, (.pointer (some ⟨g, 0, none⟩)))]) ⟨(congrArg some d37), trivial⟩ ?_
     refine dg_plain rfl (ow_fieldAddr rfl rfl Tryd.underlying98 rfl (Tryd.sizeOf22 _) ?_)
     exact ⟨BX.refl _ _, rfl⟩
    ·
     intro w42 D hS41 hd41
     have hl42 := Le.no M hS41
     have hC42 := hC1.no hS41
     have ho42 := ho1.no hS41
     have hd41 : PEq (.pointer (some ⟨g, 0, none⟩)) (D 39) w42 ∧ True := hd41
     obtain ⟨d38, -⟩ := hd41
     refine dg_sub (E' := [(86, (.pointer (some ⟨g, 0, none⟩)))]) ⟨(congrArg some d38), trivial⟩ ?_
     refine dg_plain rfl (ow_loadOwn1 rfl rfl rfl ho42 (Tryd.isAgg22 _) rfl ?_)
     exact ⟨BX.refl _ _, (VRep.mono (hl1.trans hl42) hxs)⟩
    ·
     intro w43 D hS42 hd42
     have hl43 := Le.no M hS42
     have hC43 := hC1.no hS42
     have ho43 := ho1.no hS42
     have hd42 : PV (RSlice RU8) M a_xs (D 40) w43 ∧ True := hd42
     obtain ⟨d39, -⟩ := hd42
     obtain ⟨v10, hq5⟩ : ∃ v, (D 40) = v := ⟨_, rfl⟩
     rw [hq5] at d39
     refine dg_sub (E' := [(87, v10)]) ⟨(congrArg some hq5), trivial⟩ ?_
     refine dg_plain rfl (ow_len rfl rfl d39 Tryd.underlying22 rfl ?_)
     exact ⟨BX.refl _ _, rfl⟩
    ·
     intro w44 D hS43 hd43
     have hl44 := Le.no M hS43
     have hC44 := hC1.no hS43
     have ho44 := ho1.no hS43
     have hd43 : PEq (.int .i64 (W ((W (a_pos + 1)) - 1))) (D 36) w44 ∧ PEq (.int .i64 (a_xs.length : Int)) (D 41) w44 ∧ True := hd43
     obtain ⟨d40, d41, -⟩ := hd43
     refine dg_sub (E' := [(83, (.int .i64 (W ((W (a_pos + 1)) - 1)))), (88, (.int .i64 (a_xs.length : Int)))]) ⟨(congrArg some d40), (congrArg some d41), trivial⟩ ?_
     refine dg_plain rfl (ow_quo rfl rfl rfl (nzF_some hu2) ?_)
     exact ⟨BX.refl _ _, rfl⟩
    ·
     intro w45 D hS44 hd44
     have hl45 := Le.no M hS44
     have hC45 := hC1.no hS44
     have ho45 := ho1.no hS44
     have hd44 : PEq (.int .i64 (W (((W ((W (a_pos + 1)) - 1))).tdiv (a_xs.length : Int)))) (D 42) w45 ∧ True := hd44
     obtain ⟨d42, -⟩ := hd44
     refine dg_sub (E' := [(89, (.int .i64 (W (((W ((W (a_pos + 1)) - 1))).tdiv (a_xs.length : Int)))))]) ⟨(congrArg some d42), trivial⟩ ?_
     refine dg_plain rfl (ow_mul rfl rfl rfl ?_)
     exact ⟨BX.refl _ _, rfl⟩
    ·
     intro w46 D hS45 hd45
     have hd45 : PEq (.pointer (some ⟨g, 0, none⟩)) (D 0) w46 ∧ PEq (.pointer (some ⟨g, 0, none⟩)) (D 1) w46 ∧ PEq (.pointer (some ⟨g, 0, none⟩)) (D 2) w46 ∧ PV (RSlice RU8) M a_xs (D 3) w46 ∧ PEq (.int .i64 (W ((W (a_pos + 1)) - 1))) (D 4) w46 ∧ PEq (.pointer (some ⟨g, 0, none⟩)) (D 5) w46 ∧ PEq (.pointer (some ⟨g, 0, none⟩)) (D 6) w46 ∧ PEq (.pointer (some ⟨g, 0, none⟩)) (D 7) w46 ∧ PV (RSlice RU8) M a_xs (D 8) w46 ∧ PEq (.int .i64 (a_xs.length : Int)) (D 9) w46 ∧ PEq (.int .i64 (((W ((W (a_pos + 1)) - 1))).tmod (a_xs.length : Int))) (D 10) w46 ∧ PA RU8 M x2 (D 11) w46 ∧ PEq (.int .u8 x2) (D 12) w46 ∧ PEq (.int .i64 (W x2)) (D 13) w46 ∧ PEq (.int .i64 (W ((W x2) * 131))) (D 14) w46 ∧ PEq (.pointer (some ⟨g, 0, none⟩)) (D 15) w46 ∧ PEq (.pointer (some ⟨g, 0, none⟩)) (D 16) w46 ∧ PEq (.pointer (some ⟨g, 0, none⟩)) (D 17) w46 ∧ PV (RSlice RU8) M a_xs (D 18) w46 ∧ PEq (.int .i64 (W ((W (a_pos + 1)) - 1))) (D 19) w46 ∧ PEq (.int .i64 (W ((W ((W (a_pos + 1)) - 1)) * 7))) (D 20) w46 ∧ PEq (.int .i64 (W ((W ((W ((W (a_pos + 1)) - 1)) * 7)) + 3))) (D 21) w46 ∧ PEq (.pointer (some ⟨g, 0, none⟩)) (D 22) w46 ∧ PEq (.pointer (some ⟨g, 0, none⟩)) (D 23) w46 ∧ PEq (.pointer (some ⟨g, 0, none⟩)) (D 24) w46 ∧ PV (RSlice RU8) M a_xs (D 25) w46 ∧ PEq (.int .i64 (a_xs.length : Int)) (D 26) w46 ∧ PEq (.int .i64 (((W ((W ((W ((W (a_pos + 1)) - 1)) * 7)) + 3))).tmod (a_xs.length : Int))) (D 27) w46 ∧ PA RU8 M x3 (D 28) w46 ∧ PEq (.int .u8 x3) (D 29) w46 ∧ PEq (.int .i64 (W x3)) (D 30) w46 ∧ PEq (.int .i64 (W ((W x3) * 1117))) (D 31) w46 ∧ PEq (.int .i64 (W ((W ((W x2) * 131)) + (W ((W x3) * 1117))))) (D 32) w46 ∧ PEq (.int .i64 (W ((W (a_pos + 1)) - 1))) (D 33) w46 ∧ PEq (.int .i64 (W ((W ((W (a_pos + 1)) - 1)) * 29))) (D 34) w46 ∧ PEq (.int .i64 (W ((W ((W ((W x2) * 131)) + (W ((W x3) * 1117)))) + (W ((W ((W (a_pos + 1)) - 1)) * 29))))) (D 35) w46 ∧ PEq (.int .i64 (W ((W (a_pos + 1)) - 1))) (D 36) w46 ∧ PEq (.pointer (some ⟨g, 0, none⟩)) (D 37) w46 ∧ PEq (.pointer (some ⟨g, 0, none⟩)) (D 38) w46 ∧ PEq (.pointer (some ⟨g, 0, none⟩)) (D 39) w46 ∧ PV (RSlice RU8) M a_xs (D 40) w46 ∧ PEq (.int .i64 (a_xs.length : Int)) (D 41) w46 ∧ PEq (.int .i64 (W (((W ((W (a_pos + 1)) - 1))).tdiv (a_xs.length : Int)))) (D 42) w46 ∧ PEq (.int .i64 (W ((W (((W ((W (a_pos + 1)) - 1))).tdiv (a_xs.length : Int))) * 53))) (D 43) w46 ∧ True := hd45
     obtain ⟨-, -, -, -, -, -, -, -, -, -, -, -, -, -, -, -, -, -, -, -, -, -, -, -, -, -, -, -, -, -, -, -, -, -, -, d78, -, -, -, -, -, -, -, d86, -⟩ := hd45
     have hl46 := Le.no M hS45
     have hC46 := hC1.no hS45
     have ho46 := ho1.no hS45
     refine lw_sub (E' := [(82, (.int .i64 (W ((W ((W ((W x2) * 131)) + (W ((W x3) * 1117)))) + (W ((W ((W (a_pos + 1)) - 1)) * 29)))))), (90, (.int .i64 (W ((W (((W ((W (a_pos + 1)) - 1))).tdiv (a_xs.length : Int))) * 53)))), (0, (.pointer (some ⟨g, 0, none⟩))), (1, (.int .i64 a_n)), (4, (.int .i64 0)), (5, (.int .i64 (W ((W (a_pos + 1)) - 1))))]) ⟨(congrArg some d78), (congrArg some d86), rfl, rfl, rfl, rfl, trivial⟩ ?_
     refine lw_op rfl rfl rfl (ow_add rfl rfl rfl ?_)
     refine lw_op rfl rfl rfl (ow_assign rfl rfl ?_)
     refine lw_nil (ew_then (cw_seq (cw_region (lw_op rfl rfl rfl (ow_move rfl rfl ?_)))))
     refine lw_op rfl rfl rfl (ow_move rfl rfl ?_)
     refine lw_op rfl rfl rfl (ow_quo rfl rfl rfl (by decide) ?_)
     refine lw_op rfl rfl rfl (ow_xor rfl rfl rfl ?_)
     refine lw_op rfl rfl rfl (ow_assign rfl rfl ?_)
     refine lw_nil (ew_then (cw_seq (cw_region (lw_op rfl rfl rfl (ow_move rfl rfl ?_)))))
     refine lw_op rfl rfl rfl (ow_move rfl rfl ?_)
     replace h := bind_some h
     obtain ⟨u3, hu3, h⟩ := h
     refine lw_op rfl rfl rfl (ow_rem rfl rfl rfl (nzF_some hu3) ?_)
     refine lw_op rfl rfl rfl (ow_assign rfl rfl ?_)
     refine lw_nil (ew_then (cw_ret ?_))
     obtain rfl := Option.some.inj h
     exact ew_ret (res1 rfl (.tmp rfl)) ⟨_, rfl, ⟨((vint _)), ho46⟩, hC46.bx⟩

theorem w_spec_l20Rd_odd {w : World} {M : Nat → Prop} (hG : ARep (RArr 4 RShape) w M shapes ⟨0, 0, none⟩) (hO : ∀ b, M b → b < w.heap.size) {g : Nat} {Ax : Option Addr} {cx : Nat} {a_xs : List Int} {a_pos : Int} (hxs : VRep (RSlice RU8) w M a_xs (.slice Ax a_xs.length cx)) (hown : Own w g 98 #[.slice Ax a_xs.length cx, .int .i64 a_pos]) (hgM : M g) {a_n : Int} {r : Bool × Int} (h : F.spec_l20Rd_odd a_xs a_pos a_n = some r) :
  Calls Tryd.prog 92 [(.pointer (some ⟨g, 0, none⟩)), (.int .i64 a_n)].toArray w fun e w' => ∃ v, e = .returned v ∧ (VRep RBool w' M r.1 v ∧ Own w' g 98 #[.slice Ax a_xs.length cx, .int .i64 r.2]) ∧ BX (One g) w w' := by
 have hX : ∀ b, (One g) b → M b := fun b e => e ▸ hgM
 have hC : Cx (One g) w M w M := Cx.start hO hX
 refine walk (N := 15) Tryd.func92 rfl Tryd.ntmps92 rfl ?_
 refine cw_seq (cw_region (lw_op rfl rfl rfl (ow_assign rfl rfl ?_)))
 refine lw_nil (ew_then (cw_seq (cw_region (lw_op rfl rfl rfl (ow_move rfl rfl ?_)))))
 refine lw_op rfl rfl rfl (ow_gtr rfl rfl rfl fun bb1 hbb1 => ?_)
 refine lw_op rfl rfl rfl (ow_move rfl rfl ?_)
 replace h := cond_some h
 rcases h with ⟨hc1, h⟩ | ⟨hc1, h⟩
 ·
  obtain rfl := hbb1.trans hc1
  refine lw_on rfl rfl rfl rfl rfl rfl (ow_move rfl rfl ?_)
  refine lw_on rfl rfl rfl rfl rfl rfl (ow_move rfl rfl ?_)
  replace h := bind_some h
  obtain ⟨x1, hx1, h⟩ := h
  refine lw_on rfl rfl rfl rfl rfl rfl (ow_call rfl rfl Tryd.call87 (w_spec_l20Rd_pick hG hC.old hxs hown hgM hx1) fun v1 w1 hv1 => ?_)
  obtain ⟨⟨hv1, ho1⟩, hb1⟩ := hv1
  have hl1 := Le.of_bx M hb1 (fun b e => (by rw [show b = g from e]; exact hgM))
  have hC1 := hC.go hb1 (fun b e => Or.inr e)
  obtain rfl := vint_eq hv1
  refine lw_on rfl rfl rfl rfl rfl rfl (ow_move rfl rfl ?_)
  refine lw_on rfl rfl rfl rfl rfl rfl (ow_sub rfl rfl rfl ?_)
  refine lw_on rfl rfl rfl rfl rfl rfl (ow_eqlI rfl rfl rfl fun bb2 hbb2 => ?_)
  refine lw_op rfl rfl rfl (ow_pickT rfl rfl rfl ?_)
  refine lw_op rfl rfl rfl (ow_assign rfl rfl ?_)
  refine lw_nil (ew_then (cw_ret ?_))
  obtain rfl := Option.some.inj h
  exact ew_ret (res1 rfl (.tmp rfl)) ⟨_, rfl, ⟨((vbool_of hbb2)), ho1⟩, hC1.bx⟩
 ·
  obtain rfl := hbb1.trans hc1
  refine lw_off rfl rfl rfl rfl rfl rfl ?_
  refine lw_off rfl rfl rfl rfl rfl rfl ?_
  refine lw_off rfl rfl rfl rfl rfl rfl ?_
  refine lw_off rfl rfl rfl rfl rfl rfl ?_
  refine lw_off rfl rfl rfl rfl rfl rfl ?_
  refine lw_off rfl rfl rfl rfl rfl rfl ?_
  refine lw_op rfl rfl rfl (ow_pickF rfl rfl rfl ?_)
  refine lw_op rfl rfl rfl (ow_assign rfl rfl ?_)
  refine lw_nil (ew_then (cw_ret ?_))
  obtain rfl := Option.some.inj h
  exact ew_ret (res1 rfl (.tmp rfl)) ⟨_, rfl, ⟨((vbool _)), hown⟩, hC.bx⟩

theorem w_spec_l20Span {w : World} {M : Nat → Prop} (hG : ARep (RArr 4 RShape) w M shapes ⟨0, 0, none⟩) (hO : ∀ b, M b → b < w.heap.size) {g : Nat} {Ax : Option Addr} {cx : Nat} {a_xs : List Int} {a_pos : Int} (hxs : VRep (RSlice RU8) w M a_xs (.slice Ax a_xs.length cx)) (hown : Own w g 98 #[.slice Ax a_xs.length cx, .int .i64 a_pos]) (hgM : M g) {a_top : Int} {a_n : Int} {r : Span × Int} (h : F.spec_l20Span a_xs a_pos a_top a_n = some r) :
  Calls Tryd.prog 109 [(.pointer (some ⟨g, 0, none⟩)), (.int .i64 a_top), (.int .i64 a_n)].toArray w fun e w' => ∃ v, e = .returned v ∧ (VRep RSpan w' M r.1 v ∧ Own w' g 98 #[.slice Ax a_xs.length cx, .int .i64 r.2]) ∧ BX (One g) w w' := by
 have hX : ∀ b, (One g) b → M b := fun b e => e ▸ hgM
 have hC : Cx (One g) w M w M := Cx.start hO hX
 refine walk (N := 68) Tryd.func109 rfl Tryd.ntmps109 rfl ?_
 refine cw_seq (cw_region (lw_op rfl rfl rfl (ow_alloc rfl (Tryd.zeroValue76 _) hC fun g1 w1 hg1 hg2 ho1 hb1 hl1 hC1 => ?_)))
 have hn1 := Nat.ne_of_lt (Nat.lt_of_lt_of_le hown.lt hg1)
 have ho2 := hown.no hb1
 have hm1 : (Add g1 M) g := .inr hgM
 have hm2 : (Add g1 M) g1 := .inl rfl
 refine lw_nil (ew_then (cw_seq (cw_region (lw_op rfl rfl rfl (ow_move rfl rfl ?_)))))
 refine lw_op rfl rfl rfl (ow_move rfl rfl ?_)
 refine lw_op rfl rfl rfl (ow_add rfl rfl rfl ?_)
 refine lw_op rfl rfl rfl (ow_min rfl rfl rfl ?_)
 replace h := bind_some h
 obtain ⟨x1, hx1, h⟩ := h
 refine lw_op rfl rfl rfl (ow_call rfl rfl Tryd.call87 (w_spec_l20Rd_pick (hG.mono hl1) hC1.old (VRep.mono hl1 hxs) ho2 hm1 hx1) fun v1 w2 hv1 => ?_)
 obtain ⟨⟨hv1, ho3⟩, hb2⟩ := hv1
 have hl2 := Le.of_bx (Add g1 M) hb2 (fun b e => (by rw [show b = g from e]; exact hm1))
 have hC2 := hC1.go hb2 (fun b e => Or.inr e)
 have ho4 := ho1.go hb2 (fun e => hn1 e.symm)
 obtain rfl := vint_eq hv1
 refine lw_op rfl rfl rfl (ow_build (v := .agg #[(.int .i64 x1.1), (.int .i64 0)]) rfl rfl (by kernel_rfl) ?_)
 have hw1 : VRep RSpan w2 (Add g1 M) ({ Lo := x1.1, Hi := 0 } : Span) (.agg #[(.int .i64 x1.1), (.int .i64 0)]) := shut_Span
 refine lw_op rfl rfl rfl (ow_alloc rfl (Tryd.zeroValue76 _) hC2 fun g2 w3 hg3 hg4 ho5 hb3 hl3 hC3 => ?_)
 have hn2 := Nat.ne_of_lt (Nat.lt_of_lt_of_le ho3.lt hg3)
 have ho6 := ho3.no hb3
 have hm3 : (Add g2 (Add g1 M)) g := .inr hm1
 have hn3 := Nat.ne_of_lt (Nat.lt_of_lt_of_le ho4.lt hg3)
 have ho7 := ho4.no hb3
 have hm4 : (Add g2 (Add g1 M)) g1 := .inr hm2
 have hm5 : (Add g2 (Add g1 M)) g2 := .inl rfl
 refine lw_op0 rfl rfl (ow_store (X := (One g)) (us := [(.int .i64 x1.1), (.int .i64 0)]) (cs' := #[(.int .i64 x1.1), (.int .i64 0)]) rfl rfl rfl rfl ho5 (Tryd.sizeOf76 _) rfl rfl rfl rfl hm5 (.inl hg4) rfl hC3 fun w4 ho8 hb4 hl4 hC4 => ?_)
 have ho9 := ho6.go hb4 (fun e => hn2 e)
 have ho10 := ho7.go hb4 (fun e => hn3 e)
 refine lw_nil (ew_then (cw_seq (cw_seq (cw_region (lw_op rfl rfl rfl (ow_move rfl rfl ?_))))))
 refine lw_op rfl rfl rfl (ow_gtr rfl rfl rfl fun bb1 hbb1 => ?_)
 refine lw_op rfl rfl rfl (ow_move rfl rfl ?_)
 replace h := cond_some h
 rcases h with ⟨hc1, h⟩ | ⟨hc1, h⟩
 ·
  obtain rfl := hbb1.trans hc1
  refine lw_on rfl rfl rfl rfl rfl rfl (ow_move rfl rfl ?_)
  replace h := bind_some h
  obtain ⟨x2, hx2, h⟩ := h
  refine lw_on rfl rfl rfl rfl rfl rfl (ow_call rfl rfl Tryd.call87 (w_spec_l20Rd_pick (hG.mono (((hl1.trans hl2).trans hl3).trans hl4)) hC4.old (VRep.mono (((hl1.trans hl2).trans hl3).trans hl4) hxs) ho9 hm3 hx2) fun v2 w5 hv2 => ?_)
  obtain ⟨⟨hv2, ho11⟩, hb5⟩ := hv2
  have hl5 := Le.of_bx (Add g2 (Add g1 M)) hb5 (fun b e => (by rw [show b = g from e]; exact hm3))
  have hC5 := hC4.go hb5 (fun b e => Or.inr e)
  have ho12 := ho10.go hb5 (fun e => hn1 e.symm)
  have ho13 := ho8.go hb5 (fun e => hn2 e.symm)
  obtain rfl := vint_eq hv2
  refine lw_on rfl rfl rfl rfl rfl rfl (ow_eqlI rfl rfl rfl fun bb2 hbb2 => ?_)
  refine lw_op rfl rfl rfl (ow_pickT rfl rfl rfl ?_)
  refine lw_nil (ew_then ?_)
  replace h := cond_some h
  rcases h with ⟨hc2, h⟩ | ⟨hc2, h⟩
  ·
   obtain rfl := hbb2.trans hc2
   refine cw_true rfl ?_
   replace h := bind_some h
   obtain ⟨x3, hx3, h⟩ := h
   refine cw_sub (E' := [(0, (.pointer (some ⟨g, 0, none⟩))), (1, (.int .i64 a_top)), (2, (.int .i64 a_n)), (6, (.pointer (some ⟨g1, 0, none⟩))), (7, (.pointer (some ⟨g2, 0, none⟩)))]) ⟨rfl, rfl, rfl, rfl, rfl, trivial⟩ ?_
   refine cw_drawC (g := g) (T := 98) 7 1 [none, none, none, none, none, some 0, none] [#[(.slice Ax a_xs.length cx), (.int .i64 x2.2)], #[(.slice Ax a_xs.length cx), (.int .i64 x3.2)]] [PEq (.int .i64 a_top), PEq (.pointer (some ⟨g2, 0, none⟩)), PEq (.int .i64 x1.1), PEq (.int .i64 (W (x1.1 * 256))), PEq (.pointer (some ⟨g, 0, none⟩)), PEq (.int .i64 x3.1), PEq (.int .i64 (W ((W (x1.1 * 256)) + x3.1)))] (by kernel_rfl) rfl (by kernel_rfl) (by kernel_rfl) ho11 ⟨(PEq.monoY hm3 _), (PEq.monoY hm3 _), (PEq.monoY hm3 _), (PEq.monoY hm3 _), (PEq.monoY hm3 _), (PEq.monoY hm3 _), (PEq.monoY hm3 _), trivial⟩ ⟨?_, ?_, ?_, ?_, ?_, ?_, ?_, trivial⟩ ?_
   ·
    intro w7 D hS1 hd1
    have hl7 := leY hm3 hS1
    have hC7 := hC5.go hS1 (fun b e => Or.inr e)
    have ho17 := ho12.go hS1 (fun e => hn1 e.symm)
    have ho18 := ho13.go hS1 (fun e => hn2 e.symm)
    refine dg_sub (E' := [(1, (.int .i64 a_top))]) ⟨rfl, trivial⟩ ?_
    refine dg_plain rfl (ow_move rfl rfl ?_)
    exact ⟨BX.refl _ _, rfl⟩
   ·
    intro w8 D hS2 hd2
    have hl8 := leY hm3 hS2
    have hC8 := hC5.go hS2 (fun b e => Or.inr e)
    have ho19 := ho12.go hS2 (fun e => hn1 e.symm)
    have ho20 := ho13.go hS2 (fun e => hn2 e.symm)
    refine dg_sub (E' := [(7, (.pointer (some ⟨g2, 0, none⟩)))]) ⟨rfl, trivial⟩ ?_
    refine dg_plain rfl (ow_fieldAddr rfl rfl Tryd.underlying76 rfl (Tryd.sizeOf3 _) ?_)
    exact ⟨BX.refl _ _, rfl⟩
   ·
    intro w9 D hS3 hd3
    have hl9 := leY hm3 hS3
    have hC9 := hC5.go hS3 (fun b e => Or.inr e)
    have ho21 := ho12.go hS3 (fun e => hn1 e.symm)
    have ho22 := ho13.go hS3 (fun e => hn2 e.symm)
    have hd3 : PEq (.pointer (some ⟨g2, 0, none⟩)) (D 1) w9 ∧ True := hd3
    obtain ⟨d1, -⟩ := hd3
    refine dg_sub (E' := [(22, (.pointer (some ⟨g2, 0, none⟩)))]) ⟨(congrArg some d1), trivial⟩ ?_
    refine dg_plain rfl (ow_loadOwn1 rfl rfl rfl ho22 (Tryd.isAgg3 _) rfl ?_)
    exact ⟨BX.refl _ _, rfl⟩
   ·
    intro w10 D hS4 hd4
    have hl10 := leY hm3 hS4
    have hC10 := hC5.go hS4 (fun b e => Or.inr e)
    have ho23 := ho12.go hS4 (fun e => hn1 e.symm)
    have ho24 := ho13.go hS4 (fun e => hn2 e.symm)
    have hd4 : PEq (.int .i64 x1.1) (D 2) w10 ∧ True := hd4
    obtain ⟨d2, -⟩ := hd4
    refine dg_sub (E' := [(23, (.int .i64 x1.1))]) ⟨(congrArg some d2), trivial⟩ ?_
    refine dg_plain rfl (ow_mul rfl rfl rfl ?_)
    exact ⟨BX.refl _ _, rfl⟩
   ·
    intro w11 D hS5 hd5
    have hl11 := leY hm3 hS5
    have hC11 := hC5.go hS5 (fun b e => Or.inr e)
    have ho25 := ho12.go hS5 (fun e => hn1 e.symm)
    have ho26 := ho13.go hS5 (fun e => hn2 e.symm)
    refine dg_sub (E' := [(0, (.pointer (some ⟨g, 0, none⟩)))]) ⟨rfl, trivial⟩ ?_
    refine dg_plain rfl (ow_move rfl rfl ?_)
    exact ⟨BX.refl _ _, rfl⟩
   ·
    intro w12 D hS6 hd6
    obtain ⟨hS6, ho27⟩ := hS6
    have ho27 : Own w12 g 98 #[(.slice Ax a_xs.length cx), (.int .i64 x2.2)] := ho27
    have hl12 := leY hm3 hS6
    have hC12 := hC5.go hS6 (fun b e => Or.inr e)
    have ho28 := ho12.go hS6 (fun e => hn1 e.symm)
    have ho29 := ho13.go hS6 (fun e => hn2 e.symm)
    have hd6 : PEq (.pointer (some ⟨g, 0, none⟩)) (D 4) w12 ∧ True := hd6
    obtain ⟨d3, -⟩ := hd6
    refine dg_sub (E' := [(25, (.pointer (some ⟨g, 0, none⟩)))]) ⟨(congrArg some d3), trivial⟩ ?_
    refine dg_plain rfl (ow_call rfl rfl Tryd.call87 (w_spec_l20Rd_pick (hG.mono (((((hl1.trans hl2).trans hl3).trans hl4).trans hl5).trans hl12)) hC12.old (VRep.mono (((((hl1.trans hl2).trans hl3).trans hl4).trans hl5).trans hl12) hxs) ho27 hm3 hx3) fun v4 w13 hv4 => ?_)
    obtain ⟨⟨hv4, ho30⟩, hb7⟩ := hv4
    have hl13 := Le.of_bx (Add g2 (Add g1 M)) hb7 (fun b e => (by rw [show b = g from e]; exact hm3))
    have hC13 := hC12.go hb7 (fun b e => Or.inr e)
    have ho31 := ho28.go hb7 (fun e => hn1 e.symm)
    have ho32 := ho29.go hb7 (fun e => hn2 e.symm)
    obtain rfl := vint_eq hv4
    exact ⟨⟨⟨hS6.trans hb7, ho30⟩, hb7⟩, rfl⟩
   ·
    intro w14 D hS7 hd7
    have hl14 := leY hm3 hS7
    have hC14 := hC5.go hS7 (fun b e => Or.inr e)
    have ho33 := ho12.go hS7 (fun e => hn1 e.symm)
    have ho34 := ho13.go hS7 (fun e => hn2 e.symm)
    have hd7 : PEq (.int .i64 (W (x1.1 * 256))) (D 3) w14 ∧ PEq (.int .i64 x3.1) (D 5) w14 ∧ True := hd7
    obtain ⟨d4, d5, -⟩ := hd7
    refine dg_sub (E' := [(24, (.int .i64 (W (x1.1 * 256)))), (26, (.int .i64 x3.1))]) ⟨(congrArg some d4), (congrArg some d5), trivial⟩ ?_
    refine dg_plain rfl (ow_add rfl rfl rfl ?_)
    exact ⟨BX.refl _ _, rfl⟩
   ·
    intro w15 D hS8 hd8
    have hd8 : PEq (.int .i64 a_top) (D 0) w15 ∧ PEq (.pointer (some ⟨g2, 0, none⟩)) (D 1) w15 ∧ PEq (.int .i64 x1.1) (D 2) w15 ∧ PEq (.int .i64 (W (x1.1 * 256))) (D 3) w15 ∧ PEq (.pointer (some ⟨g, 0, none⟩)) (D 4) w15 ∧ PEq (.int .i64 x3.1) (D 5) w15 ∧ PEq (.int .i64 (W ((W (x1.1 * 256)) + x3.1))) (D 6) w15 ∧ True := hd8
    obtain ⟨d6, -, -, -, -, -, d12, -⟩ := hd8
    obtain ⟨hS8, ho35⟩ := hS8
    have ho35 : Own w15 g 98 #[(.slice Ax a_xs.length cx), (.int .i64 x3.2)] := ho35
    have hl15 := leY hm3 hS8
    have hC15 := hC5.go hS8 (fun b e => Or.inr e)
    have ho36 := ho12.go hS8 (fun e => hn1 e.symm)
    have ho37 := ho13.go hS8 (fun e => hn2 e.symm)
    refine lw_sub (E' := [(21, (.int .i64 a_top)), (27, (.int .i64 (W ((W (x1.1 * 256)) + x3.1)))), (0, (.pointer (some ⟨g, 0, none⟩))), (1, (.int .i64 a_top)), (2, (.int .i64 a_n)), (6, (.pointer (some ⟨g1, 0, none⟩))), (7, (.pointer (some ⟨g2, 0, none⟩)))]) ⟨(congrArg some d6), (congrArg some d12), rfl, rfl, rfl, rfl, rfl, trivial⟩ ?_
    refine lw_op rfl rfl rfl (ow_min rfl rfl rfl ?_)
    refine lw_op rfl rfl rfl (ow_fieldAddr rfl rfl Tryd.underlying76 rfl (Tryd.sizeOf3 _) ?_)
    refine lw_op0 rfl rfl (ow_store (X := (One g)) (us := [(.int .i64 (imin a_top (W ((W (x1.1 * 256)) + x3.1))))]) (cs' := #[(.int .i64 (imin a_top (W ((W (x1.1 * 256)) + x3.1)))), (.int .i64 0)]) rfl rfl rfl rfl ho37 (Tryd.sizeOf3 _) rfl rfl rfl rfl hm5 (.inl hg4) rfl hC15 fun w16 ho38 hb8 hl16 hC16 => ?_)
    have ho39 := ho35.go hb8 (fun e => hn2 e)
    have ho40 := ho36.go hb8 (fun e => hn3 e)
    refine lw_nil (ew_then (cw_seq ?_))
    replace h := bind_some h
    obtain ⟨x4, hx4, h⟩ := h
    replace h := bind_some h
    obtain ⟨x5, hx5, h⟩ := h
    replace h := bind_some h
    obtain ⟨x6, hx6, h⟩ := h
    replace h := bind_some h
    obtain ⟨x7, hx7, h⟩ := h
    refine cw_sub (E' := [(0, (.pointer (some ⟨g, 0, none⟩))), (1, (.int .i64 a_top)), (2, (.int .i64 a_n)), (6, (.pointer (some ⟨g1, 0, none⟩))), (7, (.pointer (some ⟨g2, 0, none⟩)))]) ⟨rfl, rfl, rfl, rfl, rfl, trivial⟩ ?_
    refine cw_drawC (g := g) (T := 98) 13 3 [none, none, none, none, some 0, none, some 1, none, none, some 2, none, none, none] [#[(.slice Ax a_xs.length cx), (.int .i64 x3.2)], #[(.slice Ax a_xs.length cx), (.int .i64 x4.2)], #[(.slice Ax a_xs.length cx), (.int .i64 x5.2)], #[(.slice Ax a_xs.length cx), (.int .i64 x6.2)]] [PEq (.int .i64 a_top), PEq (.pointer (some ⟨g2, 0, none⟩)), PEq (.int .i64 (imin a_top (W ((W (x1.1 * 256)) + x3.1)))), PEq (.pointer (some ⟨g, 0, none⟩)), PEq (.int .i64 x4.1), PEq (.pointer (some ⟨g, 0, none⟩)), PEq (.int .i64 x5.1), PV (RSlice RInt) (Add g2 (Add g1 M)) [0, x4.1, x5.1, 4096], PEq (.pointer (some ⟨g, 0, none⟩)), PEq (.int .i64 x6.1), PA RInt (Add g2 (Add g1 M)) x7, PEq (.int .i64 x7), PEq (.int .i64 (W ((imin a_top (W ((W (x1.1 * 256)) + x3.1))) + x7)))] (by kernel_rfl) rfl (by kernel_rfl) (by kernel_rfl) ho39 ⟨(PEq.monoY hm3 _), (PEq.monoY hm3 _), (PEq.monoY hm3 _), (PEq.monoY hm3 _), (PEq.monoY hm3 _), (PEq.monoY hm3 _), (PEq.monoY hm3 _), (PV.monoY hm3 _ _), (PEq.monoY hm3 _), (PEq.monoY hm3 _), (PA.monoY hm3 _ _), (PEq.monoY hm3 _), (PEq.monoY hm3 _), trivial⟩ ⟨?_, ?_, ?_, ?_, ?_, ?_, ?_, ?_, ?_, ?_, ?_, ?_, ?_, trivial⟩ ?_
    ·
     intro w21 D hS9 hd9
     have hl21 := leY hm3 hS9
     have hC21 := hC16.go hS9 (fun b e => Or.inr e)
     have ho53 := ho40.go hS9 (fun e => hn1 e.symm)
     have ho54 := ho38.go hS9 (fun e => hn2 e.symm)
     refine dg_sub (E' := [(1, (.int .i64 a_top))]) ⟨rfl, trivial⟩ ?_
     refine dg_plain rfl (ow_move rfl rfl ?_)
     exact ⟨BX.refl _ _, rfl⟩
    ·
     intro w22 D hS10 hd10
     have hl22 := leY hm3 hS10
     have hC22 := hC16.go hS10 (fun b e => Or.inr e)
     have ho55 := ho40.go hS10 (fun e => hn1 e.symm)
     have ho56 := ho38.go hS10 (fun e => hn2 e.symm)
     refine dg_sub (E' := [(7, (.pointer (some ⟨g2, 0, none⟩)))]) ⟨rfl, trivial⟩ ?_
     refine dg_plain rfl (ow_fieldAddr rfl rfl Tryd.underlying76 rfl (Tryd.sizeOf3 _) ?_)
     exact ⟨BX.refl _ _, rfl⟩
    ·
     intro w23 D hS11 hd11
     have hl23 := leY hm3 hS11
     have hC23 := hC16.go hS11 (fun b e => Or.inr e)
     have ho57 := ho40.go hS11 (fun e => hn1 e.symm)
     have ho58 := ho38.go hS11 (fun e => hn2 e.symm)
     have hd11 : PEq (.pointer (some ⟨g2, 0, none⟩)) (D 1) w23 ∧ True := hd11
     obtain ⟨d13, -⟩ := hd11
     refine dg_sub (E' := [(31, (.pointer (some ⟨g2, 0, none⟩)))]) ⟨(congrArg some d13), trivial⟩ ?_
     refine dg_plain rfl (ow_loadOwn1 rfl rfl rfl ho58 (Tryd.isAgg3 _) rfl ?_)
     exact ⟨BX.refl _ _, rfl⟩
    ·
     intro w24 D hS12 hd12
     have hl24 := leY hm3 hS12
     have hC24 := hC16.go hS12 (fun b e => Or.inr e)
     have ho59 := ho40.go hS12 (fun e => hn1 e.symm)
     have ho60 := ho38.go hS12 (fun e => hn2 e.symm)
     refine dg_sub (E' := [(0, (.pointer (some ⟨g, 0, none⟩)))]) ⟨rfl, trivial⟩ ?_
     refine dg_plain rfl (ow_move rfl rfl ?_)
     exact ⟨BX.refl _ _, rfl⟩
    ·
     intro w25 D hS13 hd13
     obtain ⟨hS13, ho61⟩ := hS13
     have ho61 : Own w25 g 98 #[(.slice Ax a_xs.length cx), (.int .i64 x3.2)] := ho61
     have hl25 := leY hm3 hS13
     have hC25 := hC16.go hS13 (fun b e => Or.inr e)
     have ho62 := ho40.go hS13 (fun e => hn1 e.symm)
     have ho63 := ho38.go hS13 (fun e => hn2 e.symm)
     have hd13 : PEq (.pointer (some ⟨g, 0, none⟩)) (D 3) w25 ∧ True := hd13
     obtain ⟨d14, -⟩ := hd13
     refine dg_sub (E' := [(33, (.pointer (some ⟨g, 0, none⟩)))]) ⟨(congrArg some d14), trivial⟩ ?_
     refine dg_plain rfl (ow_call rfl rfl Tryd.call87 (w_spec_l20Rd_pick (hG.mono (((((((hl1.trans hl2).trans hl3).trans hl4).trans hl5).trans hl15).trans hl16).trans hl25)) hC25.old (VRep.mono (((((((hl1.trans hl2).trans hl3).trans hl4).trans hl5).trans hl15).trans hl16).trans hl25) hxs) ho61 hm3 hx4) fun v9 w26 hv9 => ?_)
     obtain ⟨⟨hv9, ho64⟩, hb13⟩ := hv9
     have hl26 := Le.of_bx (Add g2 (Add g1 M)) hb13 (fun b e => (by rw [show b = g from e]; exact hm3))
     have hC26 := hC25.go hb13 (fun b e => Or.inr e)
     have ho65 := ho62.go hb13 (fun e => hn1 e.symm)
     have ho66 := ho63.go hb13 (fun e => hn2 e.symm)
     obtain rfl := vint_eq hv9
     exact ⟨⟨⟨hS13.trans hb13, ho64⟩, hb13⟩, rfl⟩
    ·
     intro w27 D hS14 hd14
     have hl27 := leY hm3 hS14
     have hC27 := hC16.go hS14 (fun b e => Or.inr e)
     have ho67 := ho40.go hS14 (fun e => hn1 e.symm)
     have ho68 := ho38.go hS14 (fun e => hn2 e.symm)
     refine dg_sub (E' := [(0, (.pointer (some ⟨g, 0, none⟩)))]) ⟨rfl, trivial⟩ ?_
     refine dg_plain rfl (ow_move rfl rfl ?_)
     exact ⟨BX.refl _ _, rfl⟩
    ·
     intro w28 D hS15 hd15
     obtain ⟨hS15, ho69⟩ := hS15
     have ho69 : Own w28 g 98 #[(.slice Ax a_xs.length cx), (.int .i64 x4.2)] := ho69
     have hl28 := leY hm3 hS15
     have hC28 := hC16.go hS15 (fun b e => Or.inr e)
     have ho70 := ho40.go hS15 (fun e => hn1 e.symm)
     have ho71 := ho38.go hS15 (fun e => hn2 e.symm)
     have hd15 : PEq (.pointer (some ⟨g, 0, none⟩)) (D 5) w28 ∧ PEq (.int .i64 x4.1) (D 4) w28 ∧ True := hd15
     obtain ⟨d15, d16, -⟩ := hd15
     refine dg_sub (E' := [(35, (.pointer (some ⟨g, 0, none⟩)))]) ⟨(congrArg some d15), trivial⟩ ?_
     refine dg_plain rfl (ow_call rfl rfl Tryd.call87 (w_spec_l20Rd_pick (hG.mono (((((((hl1.trans hl2).trans hl3).trans hl4).trans hl5).trans hl15).trans hl16).trans hl28)) hC28.old (VRep.mono (((((((hl1.trans hl2).trans hl3).trans hl4).trans hl5).trans hl15).trans hl16).trans hl28) hxs) ho69 hm3 hx5) fun v10 w29 hv10 => ?_)
     obtain ⟨⟨hv10, ho72⟩, hb14⟩ := hv10
     have hl29 := Le.of_bx (Add g2 (Add g1 M)) hb14 (fun b e => (by rw [show b = g from e]; exact hm3))
     have hC29 := hC28.go hb14 (fun b e => Or.inr e)
     have ho73 := ho70.go hb14 (fun e => hn1 e.symm)
     have ho74 := ho71.go hb14 (fun e => hn2 e.symm)
     obtain rfl := vint_eq hv10
     exact ⟨⟨⟨hS15.trans hb14, ho72⟩, hb14⟩, rfl⟩
    ·
     intro w30 D hS16 hd16
     have hl30 := leY hm3 hS16
     have hC30 := hC16.go hS16 (fun b e => Or.inr e)
     have ho75 := ho40.go hS16 (fun e => hn1 e.symm)
     have ho76 := ho38.go hS16 (fun e => hn2 e.symm)
     have hd16 : PEq (.int .i64 x4.1) (D 4) w30 ∧ PEq (.int .i64 x5.1) (D 6) w30 ∧ True := hd16
     obtain ⟨d17, d18, -⟩ := hd16
     refine dg_sub (E' := [(34, (.int .i64 x4.1)), (36, (.int .i64 x5.1))]) ⟨(congrArg some d17), (congrArg some d18), trivial⟩ ?_
     refine dg_plain rfl (ow_buildSlice (R := RInt) (xs := [0, x4.1, x5.1, 4096]) (cs := #[(.int .i64 0), (.int .i64 x4.1), (.int .i64 x5.1), (.int .i64 4096)]) (e := 3) rfl rfl (by kernel_rfl) rfl rfl ⟨_, _, rfl, (vint _).cells, _, _, rfl, (vint _).cells, _, _, rfl, (vint _).cells, _, _, rfl, (vint _).cells, rfl⟩ hC30 fun p3 w31 hw3 hb15 hl31 hC31 => ?_)
     have ho77 := ho75.no hb15
     have ho78 := ho76.no hb15
     exact ⟨hb15, hw3⟩
    ·
     intro w32 D hS17 hd17
     have hl32 := leY hm3 hS17
     have hC32 := hC16.go hS17 (fun b e => Or.inr e)
     have ho79 := ho40.go hS17 (fun e => hn1 e.symm)
     have ho80 := ho38.go hS17 (fun e => hn2 e.symm)
     refine dg_sub (E' := [(0, (.pointer (some ⟨g, 0, none⟩)))]) ⟨rfl, trivial⟩ ?_
     refine dg_plain rfl (ow_move rfl rfl ?_)
     exact ⟨BX.refl _ _, rfl⟩
    ·
     intro w33 D hS18 hd18
     obtain ⟨hS18, ho81⟩ := hS18
     have ho81 : Own w33 g 98 #[(.slice Ax a_xs.length cx), (.int .i64 x5.2)] := ho81
     have hl33 := leY hm3 hS18
     have hC33 := hC16.go hS18 (fun b e => Or.inr e)
     have ho82 := ho40.go hS18 (fun e => hn1 e.symm)
     have ho83 := ho38.go hS18 (fun e => hn2 e.symm)
     have hd18 : PEq (.pointer (some ⟨g, 0, none⟩)) (D 8) w33 ∧ PEq (.int .i64 x5.1) (D 6) w33 ∧ True := hd18
     obtain ⟨d19, d20, -⟩ := hd18
     refine dg_sub (E' := [(38, (.pointer (some ⟨g, 0, none⟩)))]) ⟨(congrArg some d19), trivial⟩ ?_
     refine dg_plain rfl (ow_call rfl rfl Tryd.call87 (w_spec_l20Rd_pick (hG.mono (((((((hl1.trans hl2).trans hl3).trans hl4).trans hl5).trans hl15).trans hl16).trans hl33)) hC33.old (VRep.mono (((((((hl1.trans hl2).trans hl3).trans hl4).trans hl5).trans hl15).trans hl16).trans hl33) hxs) ho81 hm3 hx6) fun v11 w34 hv11 => ?_)
     obtain ⟨⟨hv11, ho84⟩, hb16⟩ := hv11
     have hl34 := Le.of_bx (Add g2 (Add g1 M)) hb16 (fun b e => (by rw [show b = g from e]; exact hm3))
     have hC34 := hC33.go hb16 (fun b e => Or.inr e)
     have ho85 := ho82.go hb16 (fun e => hn1 e.symm)
     have ho86 := ho83.go hb16 (fun e => hn2 e.symm)
     obtain rfl := vint_eq hv11
     exact ⟨⟨⟨hS18.trans hb16, ho84⟩, hb16⟩, rfl⟩
    ·
     intro w35 D hS19 hd19
     have hl35 := leY hm3 hS19
     have hC35 := hC16.go hS19 (fun b e => Or.inr e)
     have ho87 := ho40.go hS19 (fun e => hn1 e.symm)
     have ho88 := ho38.go hS19 (fun e => hn2 e.symm)
     have hd19 : PV (RSlice RInt) (Add g2 (Add g1 M)) [0, x4.1, x5.1, 4096] (D 7) w35 ∧ PEq (.int .i64 x6.1) (D 9) w35 ∧ True := hd19
     obtain ⟨d21, d22, -⟩ := hd19
     obtain ⟨v12, hq1⟩ : ∃ v, (D 7) = v := ⟨_, rfl⟩
     rw [hq1] at d21
     refine dg_sub (E' := [(37, v12), (39, (.int .i64 x6.1))]) ⟨(congrArg some hq1), (congrArg some d22), trivial⟩ ?_
     refine dg_plain rfl (ow_indexSlice (R := RInt) rfl rfl rfl d21 Tryd.underlying84 (Tryd.sizeOf3 _) hx7 fun p4 hp4 => ?_)
     exact ⟨BX.refl _ _, ⟨_, rfl, hp4⟩⟩
    ·
     intro w36 D hS20 hd20
     have hl36 := leY hm3 hS20
     have hC36 := hC16.go hS20 (fun b e => Or.inr e)
     have ho89 := ho40.go hS20 (fun e => hn1 e.symm)
     have ho90 := ho38.go hS20 (fun e => hn2 e.symm)
     have hd20 : PA RInt (Add g2 (Add g1 M)) x7 (D 10) w36 ∧ True := hd20
     obtain ⟨d23, -⟩ := hd20
     obtain ⟨p5, e1, ha1⟩ := d23
     refine dg_sub (E' := [(40, (.pointer (some p5)))]) ⟨(congrArg some e1), trivial⟩ ?_
     refine dg_plain rfl (ow_load (R := RInt) rfl rfl ha1 (Tryd.sizeOf3 _) (Tryd.isAgg3 _) fun v13 hv13 => ?_)
     obtain rfl := vint_eq hv13
     exact ⟨BX.refl _ _, rfl⟩
    ·
     intro w37 D hS21 hd21
     have hl37 := leY hm3 hS21
     have hC37 := hC16.go hS21 (fun b e => Or.inr e)
     have ho91 := ho40.go hS21 (fun e => hn1 e.symm)
     have ho92 := ho38.go hS21 (fun e => hn2 e.symm)
     have hd21 : PEq (.int .i64 (imin a_top (W ((W (x1.1 * 256)) + x3.1)))) (D 2) w37 ∧ PEq (.int .i64 x7) (D 11) w37 ∧ True := hd21
     obtain ⟨d24, d25, -⟩ := hd21
     refine dg_sub (E' := [(32, (.int .i64 (imin a_top (W ((W (x1.1 * 256)) + x3.1))))), (41, (.int .i64 x7))]) ⟨(congrArg some d24), (congrArg some d25), trivial⟩ ?_
     refine dg_plain rfl (ow_add rfl rfl rfl ?_)
     exact ⟨BX.refl _ _, rfl⟩
    ·
     intro w38 D hS22 hd22
     have hd22 : PEq (.int .i64 a_top) (D 0) w38 ∧ PEq (.pointer (some ⟨g2, 0, none⟩)) (D 1) w38 ∧ PEq (.int .i64 (imin a_top (W ((W (x1.1 * 256)) + x3.1)))) (D 2) w38 ∧ PEq (.pointer (some ⟨g, 0, none⟩)) (D 3) w38 ∧ PEq (.int .i64 x4.1) (D 4) w38 ∧ PEq (.pointer (some ⟨g, 0, none⟩)) (D 5) w38 ∧ PEq (.int .i64 x5.1) (D 6) w38 ∧ PV (RSlice RInt) (Add g2 (Add g1 M)) [0, x4.1, x5.1, 4096] (D 7) w38 ∧ PEq (.pointer (some ⟨g, 0, none⟩)) (D 8) w38 ∧ PEq (.int .i64 x6.1) (D 9) w38 ∧ PA RInt (Add g2 (Add g1 M)) x7 (D 10) w38 ∧ PEq (.int .i64 x7) (D 11) w38 ∧ PEq (.int .i64 (W ((imin a_top (W ((W (x1.1 * 256)) + x3.1))) + x7))) (D 12) w38 ∧ True := hd22
     obtain ⟨d26, -, -, -, -, -, -, -, -, -, -, -, d38, -⟩ := hd22
     obtain ⟨hS22, ho93⟩ := hS22
     have ho93 : Own w38 g 98 #[(.slice Ax a_xs.length cx), (.int .i64 x6.2)] := ho93
     have hl38 := leY hm3 hS22
     have hC38 := hC16.go hS22 (fun b e => Or.inr e)
     have ho94 := ho40.go hS22 (fun e => hn1 e.symm)
     have ho95 := ho38.go hS22 (fun e => hn2 e.symm)
     refine lw_sub (E' := [(30, (.int .i64 a_top)), (42, (.int .i64 (W ((imin a_top (W ((W (x1.1 * 256)) + x3.1))) + x7)))), (0, (.pointer (some ⟨g, 0, none⟩))), (1, (.int .i64 a_top)), (2, (.int .i64 a_n)), (6, (.pointer (some ⟨g1, 0, none⟩))), (7, (.pointer (some ⟨g2, 0, none⟩)))]) ⟨(congrArg some d26), (congrArg some d38), rfl, rfl, rfl, rfl, rfl, trivial⟩ ?_
     refine lw_op rfl rfl rfl (ow_min rfl rfl rfl ?_)
     refine lw_op rfl rfl rfl (ow_fieldAddr rfl rfl Tryd.underlying76 rfl (Tryd.sizeOf3 _) ?_)
     refine lw_op0 rfl rfl (ow_store (X := (One g)) (us := [(.int .i64 (imin a_top (W ((imin a_top (W ((W (x1.1 * 256)) + x3.1))) + x7))))]) (cs' := #[(.int .i64 (imin a_top (W ((W (x1.1 * 256)) + x3.1)))), (.int .i64 (imin a_top (W ((imin a_top (W ((W (x1.1 * 256)) + x3.1))) + x7))))]) rfl rfl rfl rfl ho95 (Tryd.sizeOf3 _) rfl rfl rfl rfl hm5 (.inl hg4) rfl hC38 fun w39 ho96 hb17 hl39 hC39 => ?_)
     have ho97 := ho93.go hb17 (fun e => hn2 e)
     have ho98 := ho94.go hb17 (fun e => hn3 e)
     refine lw_nil (ew_then (cw_seq (cw_seq (cw_region (lw_op rfl rfl rfl (ow_move rfl rfl ?_))))))
     refine lw_op rfl rfl rfl (ow_move rfl rfl ?_)
     replace h := bind_some h
     obtain ⟨x8, hx8, h⟩ := h
     refine lw_op rfl rfl rfl (ow_call rfl rfl Tryd.call92 (w_spec_l20Rd_odd (hG.mono ((((((((hl1.trans hl2).trans hl3).trans hl4).trans hl5).trans hl15).trans hl16).trans hl38).trans hl39)) hC39.old (VRep.mono ((((((((hl1.trans hl2).trans hl3).trans hl4).trans hl5).trans hl15).trans hl16).trans hl38).trans hl39) hxs) ho97 hm3 hx8) fun v14 w40 hv14 => ?_)
     obtain ⟨⟨hv14, ho99⟩, hb18⟩ := hv14
     have hl40 := Le.of_bx (Add g2 (Add g1 M)) hb18 (fun b e => (by rw [show b = g from e]; exact hm3))
     have hC40 := hC39.go hb18 (fun b e => Or.inr e)
     have ho100 := ho98.go hb18 (fun e => hn1 e.symm)
     have ho101 := ho96.go hb18 (fun e => hn2 e.symm)
     obtain ⟨bb3, hbb3, rfl⟩ := vbool_ex hv14
     refine lw_nil (ew_then ?_)
     replace h := cond_some h
     rcases h with ⟨hc3, h⟩ | ⟨hc3, h⟩
     ·
      obtain rfl := hbb3.trans hc3
      refine cw_true rfl ?_
      refine cw_seq ?_
      replace h := bind_some h
      obtain ⟨x9, hx9, h⟩ := h
      refine cw_sub (E' := [(0, (.pointer (some ⟨g, 0, none⟩))), (1, (.int .i64 a_top)), (6, (.pointer (some ⟨g1, 0, none⟩))), (7, (.pointer (some ⟨g2, 0, none⟩)))]) ⟨rfl, rfl, rfl, rfl, trivial⟩ ?_
      refine cw_drawC (g := g) (T := 98) 17 1 [none, none, none, none, none, none, none, none, none, none, none, none, none, none, none, none, some 0] [#[(.slice Ax a_xs.length cx), (.int .i64 x8.2)], #[(.slice Ax a_xs.length cx), (.int .i64 x9.2)]] [PEq (.pointer (some ⟨g2, 1, none⟩)), PEq (.int .i64 (imin a_top (W ((imin a_top (W ((W (x1.1 * 256)) + x3.1))) + x7)))), PEq (.int .i64 (W ((imin a_top (W ((imin a_top (W ((W (x1.1 * 256)) + x3.1))) + x7))) + 1))), PEq (.pointer (some ⟨g2, 1, none⟩)), PEq (.int .i64 (imin a_top (W ((imin a_top (W ((W (x1.1 * 256)) + x3.1))) + x7)))), PV RSpan (Add g2 (Add g1 M)) ({ Lo := (W ((imin a_top (W ((imin a_top (W ((W (x1.1 * 256)) + x3.1))) + x7))) + 1)), Hi := (imin a_top (W ((imin a_top (W ((W (x1.1 * 256)) + x3.1))) + x7))) } : Span), PEq (.pointer (some ⟨g2, 1, none⟩)), PEq (.int .i64 (imin a_top (W ((imin a_top (W ((W (x1.1 * 256)) + x3.1))) + x7)))), PV RSpan (Add g2 (Add g1 M)) ({ Lo := (-1), Hi := (imin a_top (W ((imin a_top (W ((W (x1.1 * 256)) + x3.1))) + x7))) } : Span), PEq (.pointer (some ⟨g2, 0, none⟩)), PEq (.int .i64 (imin a_top (W ((W (x1.1 * 256)) + x3.1)))), PEq (.int .i64 a_top), PEq (.int .i64 (W (a_top + 1))), PV RSpan (Add g2 (Add g1 M)) ({ Lo := (imin a_top (W ((W (x1.1 * 256)) + x3.1))), Hi := (W (a_top + 1)) } : Span), PV (RSlice RSpan) (Add g2 (Add g1 M)) [({ Lo := (W ((imin a_top (W ((imin a_top (W ((W (x1.1 * 256)) + x3.1))) + x7))) + 1)), Hi := (imin a_top (W ((imin a_top (W ((W (x1.1 * 256)) + x3.1))) + x7))) } : Span), ({ Lo := (-1), Hi := (imin a_top (W ((imin a_top (W ((W (x1.1 * 256)) + x3.1))) + x7))) } : Span), ({ Lo := (imin a_top (W ((W (x1.1 * 256)) + x3.1))), Hi := (W (a_top + 1)) } : Span)], PEq (.pointer (some ⟨g, 0, none⟩)), PEq (.int .i64 x9.1)] (by kernel_rfl) rfl (by kernel_rfl) (by kernel_rfl) ho99 ⟨(PEq.monoY hm3 _), (PEq.monoY hm3 _), (PEq.monoY hm3 _), (PEq.monoY hm3 _), (PEq.monoY hm3 _), (PV.monoY hm3 _ _), (PEq.monoY hm3 _), (PEq.monoY hm3 _), (PV.monoY hm3 _ _), (PEq.monoY hm3 _), (PEq.monoY hm3 _), (PEq.monoY hm3 _), (PEq.monoY hm3 _), (PV.monoY hm3 _ _), (PV.monoY hm3 _ _), (PEq.monoY hm3 _), (PEq.monoY hm3 _), trivial⟩ ⟨?_, ?_, ?_, ?_, ?_, ?_, ?_, ?_, ?_, ?_, ?_, ?_, ?_, ?_, ?_, ?_, ?_, trivial⟩ ?_
      ·
       intro w43 D hS23 hd23
       have hl43 := leY hm3 hS23
       have hC43 := hC40.go hS23 (fun b e => Or.inr e)
       have ho108 := ho100.go hS23 (fun e => hn1 e.symm)
       have ho109 := ho101.go hS23 (fun e => hn2 e.symm)
       refine dg_sub (E' := [(7, (.pointer (some ⟨g2, 0, none⟩)))]) ⟨rfl, trivial⟩ ?_
       refine dg_plain rfl (ow_fieldAddr rfl rfl Tryd.underlying76 rfl (Tryd.sizeOf3 _) ?_)
       exact ⟨BX.refl _ _, rfl⟩
      ·
       intro w44 D hS24 hd24
       have hl44 := leY hm3 hS24
       have hC44 := hC40.go hS24 (fun b e => Or.inr e)
       have ho110 := ho100.go hS24 (fun e => hn1 e.symm)
       have ho111 := ho101.go hS24 (fun e => hn2 e.symm)
       have hd24 : PEq (.pointer (some ⟨g2, 1, none⟩)) (D 0) w44 ∧ True := hd24
       obtain ⟨d39, -⟩ := hd24
       refine dg_sub (E' := [(48, (.pointer (some ⟨g2, 1, none⟩)))]) ⟨(congrArg some d39), trivial⟩ ?_
       refine dg_plain rfl (ow_loadOwn1 rfl rfl rfl ho111 (Tryd.isAgg3 _) rfl ?_)
       exact ⟨BX.refl _ _, rfl⟩
      ·
       intro w45 D hS25 hd25
       have hl45 := leY hm3 hS25
       have hC45 := hC40.go hS25 (fun b e => Or.inr e)
       have ho112 := ho100.go hS25 (fun e => hn1 e.symm)
       have ho113 := ho101.go hS25 (fun e => hn2 e.symm)
       have hd25 : PEq (.int .i64 (imin a_top (W ((imin a_top (W ((W (x1.1 * 256)) + x3.1))) + x7)))) (D 1) w45 ∧ True := hd25
       obtain ⟨d40, -⟩ := hd25
       refine dg_sub (E' := [(49, (.int .i64 (imin a_top (W ((imin a_top (W ((W (x1.1 * 256)) + x3.1))) + x7)))))]) ⟨(congrArg some d40), trivial⟩ ?_
       refine dg_plain rfl (ow_add rfl rfl rfl ?_)
       exact ⟨BX.refl _ _, rfl⟩
      ·
       intro w46 D hS26 hd26
       have hl46 := leY hm3 hS26
       have hC46 := hC40.go hS26 (fun b e => Or.inr e)
       have ho114 := ho100.go hS26 (fun e => hn1 e.symm)
       have ho115 := ho101.go hS26 (fun e => hn2 e.symm)
       refine dg_sub (E' := [(7, (.pointer (some ⟨g2, 0, none⟩)))]) ⟨rfl, trivial⟩ ?_
       refine dg_plain rfl (ow_fieldAddr rfl rfl Tryd.underlying76 rfl (Tryd.sizeOf3 _) ?_)
       exact ⟨BX.refl _ _, rfl⟩
      ·
       intro w47 D hS27 hd27
       have hl47 := leY hm3 hS27
       have hC47 := hC40.go hS27 (fun b e => Or.inr e)
       have ho116 := ho100.go hS27 (fun e => hn1 e.symm)
       have ho117 := ho101.go hS27 (fun e => hn2 e.symm)
       have hd27 : PEq (.pointer (some ⟨g2, 1, none⟩)) (D 3) w47 ∧ True := hd27
       obtain ⟨d41, -⟩ := hd27
       refine dg_sub (E' := [(51, (.pointer (some ⟨g2, 1, none⟩)))]) ⟨(congrArg some d41), trivial⟩ ?_
       refine dg_plain rfl (ow_loadOwn1 rfl rfl rfl ho117 (Tryd.isAgg3 _) rfl ?_)
       exact ⟨BX.refl _ _, rfl⟩
      ·
       intro w48 D hS28 hd28
       have hl48 := leY hm3 hS28
       have hC48 := hC40.go hS28 (fun b e => Or.inr e)
       have ho118 := ho100.go hS28 (fun e => hn1 e.symm)
       have ho119 := ho101.go hS28 (fun e => hn2 e.symm)
       have hd28 : PEq (.int .i64 (W ((imin a_top (W ((imin a_top (W ((W (x1.1 * 256)) + x3.1))) + x7))) + 1))) (D 2) w48 ∧ PEq (.int .i64 (imin a_top (W ((imin a_top (W ((W (x1.1 * 256)) + x3.1))) + x7)))) (D 4) w48 ∧ True := hd28
       obtain ⟨d42, d43, -⟩ := hd28
       refine dg_sub (E' := [(50, (.int .i64 (W ((imin a_top (W ((imin a_top (W ((W (x1.1 * 256)) + x3.1))) + x7))) + 1)))), (52, (.int .i64 (imin a_top (W ((imin a_top (W ((W (x1.1 * 256)) + x3.1))) + x7)))))]) ⟨(congrArg some d42), (congrArg some d43), trivial⟩ ?_
       refine dg_plain rfl (ow_build (v := .agg #[(.int .i64 (W ((imin a_top (W ((imin a_top (W ((W (x1.1 * 256)) + x3.1))) + x7))) + 1))), (.int .i64 (imin a_top (W ((imin a_top (W ((W (x1.1 * 256)) + x3.1))) + x7))))]) rfl rfl (by kernel_rfl) ?_)
       have hw8 : VRep RSpan w48 (Add g2 (Add g1 M)) ({ Lo := (W ((imin a_top (W ((imin a_top (W ((W (x1.1 * 256)) + x3.1))) + x7))) + 1)), Hi := (imin a_top (W ((imin a_top (W ((W (x1.1 * 256)) + x3.1))) + x7))) } : Span) (.agg #[(.int .i64 (W ((imin a_top (W ((imin a_top (W ((W (x1.1 * 256)) + x3.1))) + x7))) + 1))), (.int .i64 (imin a_top (W ((imin a_top (W ((W (x1.1 * 256)) + x3.1))) + x7))))]) := shut_Span
       exact ⟨BX.refl _ _, hw8⟩
      ·
       intro w49 D hS29 hd29
       have hl49 := leY hm3 hS29
       have hC49 := hC40.go hS29 (fun b e => Or.inr e)
       have ho120 := ho100.go hS29 (fun e => hn1 e.symm)
       have ho121 := ho101.go hS29 (fun e => hn2 e.symm)
       refine dg_sub (E' := [(7, (.pointer (some ⟨g2, 0, none⟩)))]) ⟨rfl, trivial⟩ ?_
       refine dg_plain rfl (ow_fieldAddr rfl rfl Tryd.underlying76 rfl (Tryd.sizeOf3 _) ?_)
       exact ⟨BX.refl _ _, rfl⟩
      ·
       intro w50 D hS30 hd30
       have hl50 := leY hm3 hS30
       have hC50 := hC40.go hS30 (fun b e => Or.inr e)
       have ho122 := ho100.go hS30 (fun e => hn1 e.symm)
       have ho123 := ho101.go hS30 (fun e => hn2 e.symm)
       have hd30 : PEq (.pointer (some ⟨g2, 1, none⟩)) (D 6) w50 ∧ True := hd30
       obtain ⟨d44, -⟩ := hd30
       refine dg_sub (E' := [(54, (.pointer (some ⟨g2, 1, none⟩)))]) ⟨(congrArg some d44), trivial⟩ ?_
       refine dg_plain rfl (ow_loadOwn1 rfl rfl rfl ho123 (Tryd.isAgg3 _) rfl ?_)
       exact ⟨BX.refl _ _, rfl⟩
      ·
       intro w51 D hS31 hd31
       have hl51 := leY hm3 hS31
       have hC51 := hC40.go hS31 (fun b e => Or.inr e)
       have ho124 := ho100.go hS31 (fun e => hn1 e.symm)
       have ho125 := ho101.go hS31 (fun e => hn2 e.symm)
       have hd31 : PEq (.int .i64 (imin a_top (W ((imin a_top (W ((W (x1.1 * 256)) + x3.1))) + x7)))) (D 7) w51 ∧ True := hd31
       obtain ⟨d45, -⟩ := hd31
       refine dg_sub (E' := [(55, (.int .i64 (imin a_top (W ((imin a_top (W ((W (x1.1 * 256)) + x3.1))) + x7)))))]) ⟨(congrArg some d45), trivial⟩ ?_
       refine dg_plain rfl (ow_build (v := .agg #[(.int .i64 (-1)), (.int .i64 (imin a_top (W ((imin a_top (W ((W (x1.1 * 256)) + x3.1))) + x7))))]) rfl rfl (by kernel_rfl) ?_)
       have hw9 : VRep RSpan w51 (Add g2 (Add g1 M)) ({ Lo := (-1), Hi := (imin a_top (W ((imin a_top (W ((W (x1.1 * 256)) + x3.1))) + x7))) } : Span) (.agg #[(.int .i64 (-1)), (.int .i64 (imin a_top (W ((imin a_top (W ((W (x1.1 * 256)) + x3.1))) + x7))))]) := shut_Span
       exact ⟨BX.refl _ _, hw9⟩
      ·
       intro w52 D hS32 hd32
       have hl52 := leY hm3 hS32
       have hC52 := hC40.go hS32 (fun b e => Or.inr e)
       have ho126 := ho100.go hS32 (fun e => hn1 e.symm)
       have ho127 := ho101.go hS32 (fun e => hn2 e.symm)
       refine dg_sub (E' := [(7, (.pointer (some ⟨g2, 0, none⟩)))]) ⟨rfl, trivial⟩ ?_
       refine dg_plain rfl (ow_fieldAddr rfl rfl Tryd.underlying76 rfl (Tryd.sizeOf3 _) ?_)
       exact ⟨BX.refl _ _, rfl⟩
      ·
       intro w53 D hS33 hd33
       have hl53 := leY hm3 hS33
       have hC53 := hC40.go hS33 (fun b e => Or.inr e)
       have ho128 := ho100.go hS33 (fun e => hn1 e.symm)
       have ho129 := ho101.go hS33 (fun e => hn2 e.symm)
       have hd33 : PEq (.pointer (some ⟨g2, 0, none⟩)) (D 9) w53 ∧ True := hd33
       obtain ⟨d46, -⟩ := hd33
       refine dg_sub (E' := [(57, (.pointer (some ⟨g2, 0, none⟩)))]) ⟨(congrArg some d46), trivial⟩ ?_
       refine dg_plain rfl (ow_loadOwn1 rfl rfl rfl ho129 (Tryd.isAgg3 _) rfl ?_)
       exact ⟨BX.refl _ _, rfl⟩
      ·
       intro w54 D hS34 hd34
       have hl54 := leY hm3 hS34
       have hC54 := hC40.go hS34 (fun b e => Or.inr e)
       have ho130 := ho100.go hS34 (fun e => hn1 e.symm)
       have ho131 := ho101.go hS34 (fun e => hn2 e.symm)
       refine dg_sub (E' := [(1, (.int .i64 a_top))]) ⟨rfl, trivial⟩ ?_
       refine dg_plain rfl (ow_move rfl rfl ?_)
       exact ⟨BX.refl _ _, rfl⟩
      ·
       intro w55 D hS35 hd35
       have hl55 := leY hm3 hS35
       have hC55 := hC40.go hS35 (fun b e => Or.inr e)
       have ho132 := ho100.go hS35 (fun e => hn1 e.symm)
       have ho133 := ho101.go hS35 (fun e => hn2 e.symm)
       have hd35 : PEq (.int .i64 a_top) (D 11) w55 ∧ True := hd35
       obtain ⟨d47, -⟩ := hd35
       refine dg_sub (E' := [(59, (.int .i64 a_top))]) ⟨(congrArg some d47), trivial⟩ ?_
       refine dg_plain rfl (ow_add rfl rfl rfl ?_)
       exact ⟨BX.refl _ _, rfl⟩
      ·
       intro w56 D hS36 hd36
       have hl56 := leY hm3 hS36
       have hC56 := hC40.go hS36 (fun b e => Or.inr e)
       have ho134 := ho100.go hS36 (fun e => hn1 e.symm)
       have ho135 := ho101.go hS36 (fun e => hn2 e.symm)
       have hd36 : PEq (.int .i64 (imin a_top (W ((W (x1.1 * 256)) + x3.1)))) (D 10) w56 ∧ PEq (.int .i64 (W (a_top + 1))) (D 12) w56 ∧ True := hd36
       obtain ⟨d48, d49, -⟩ := hd36
       refine dg_sub (E' := [(58, (.int .i64 (imin a_top (W ((W (x1.1 * 256)) + x3.1))))), (60, (.int .i64 (W (a_top + 1))))]) ⟨(congrArg some d48), (congrArg some d49), trivial⟩ ?_
       refine dg_plain rfl (ow_build (v := .agg #[(.int .i64 (imin a_top (W ((W (x1.1 * 256)) + x3.1)))), (.int .i64 (W (a_top + 1)))]) rfl rfl (by kernel_rfl) ?_)
       have hw10 : VRep RSpan w56 (Add g2 (Add g1 M)) ({ Lo := (imin a_top (W ((W (x1.1 * 256)) + x3.1))), Hi := (W (a_top + 1)) } : Span) (.agg #[(.int .i64 (imin a_top (W ((W (x1.1 * 256)) + x3.1)))), (.int .i64 (W (a_top + 1)))]) := shut_Span
       exact ⟨BX.refl _ _, hw10⟩
      ·
       intro w57 D hS37 hd37
       have hl57 := leY hm3 hS37
       have hC57 := hC40.go hS37 (fun b e => Or.inr e)
       have ho136 := ho100.go hS37 (fun e => hn1 e.symm)
       have ho137 := ho101.go hS37 (fun e => hn2 e.symm)
       have hd37 : PV RSpan (Add g2 (Add g1 M)) ({ Lo := (W ((imin a_top (W ((imin a_top (W ((W (x1.1 * 256)) + x3.1))) + x7))) + 1)), Hi := (imin a_top (W ((imin a_top (W ((W (x1.1 * 256)) + x3.1))) + x7))) } : Span) (D 5) w57 ∧ PV RSpan (Add g2 (Add g1 M)) ({ Lo := (-1), Hi := (imin a_top (W ((imin a_top (W ((W (x1.1 * 256)) + x3.1))) + x7))) } : Span) (D 8) w57 ∧ PV RSpan (Add g2 (Add g1 M)) ({ Lo := (imin a_top (W ((W (x1.1 * 256)) + x3.1))), Hi := (W (a_top + 1)) } : Span) (D 13) w57 ∧ True := hd37
       obtain ⟨d50, d51, d52, -⟩ := hd37
       obtain ⟨v16, hq2⟩ : ∃ v, (D 5) = v := ⟨_, rfl⟩
       rw [hq2] at d50
       obtain ⟨v17, hq3⟩ : ∃ v, (D 8) = v := ⟨_, rfl⟩
       rw [hq3] at d51
       obtain ⟨v18, hq4⟩ : ∃ v, (D 13) = v := ⟨_, rfl⟩
       rw [hq4] at d52
       refine dg_sub (E' := [(53, v16), (56, v17), (61, v18)]) ⟨(congrArg some hq2), (congrArg some hq3), (congrArg some hq4), trivial⟩ ?_
       obtain rfl := open_Span d50
       obtain rfl := open_Span d51
       obtain rfl := open_Span d52
       refine dg_plain rfl (ow_buildSlice (R := RSpan) (xs := [({ Lo := (W ((imin a_top (W ((imin a_top (W ((W (x1.1 * 256)) + x3.1))) + x7))) + 1)), Hi := (imin a_top (W ((imin a_top (W ((W (x1.1 * 256)) + x3.1))) + x7))) } : Span), ({ Lo := (-1), Hi := (imin a_top (W ((imin a_top (W ((W (x1.1 * 256)) + x3.1))) + x7))) } : Span), ({ Lo := (imin a_top (W ((W (x1.1 * 256)) + x3.1))), Hi := (W (a_top + 1)) } : Span)]) (cs := #[(.int .i64 ({ Lo := (W ((imin a_top (W ((imin a_top (W ((W (x1.1 * 256)) + x3.1))) + x7))) + 1)), Hi := (imin a_top (W ((imin a_top (W ((W (x1.1 * 256)) + x3.1))) + x7))) } : Span).Lo), (.int .i64 ({ Lo := (W ((imin a_top (W ((imin a_top (W ((W (x1.1 * 256)) + x3.1))) + x7))) + 1)), Hi := (imin a_top (W ((imin a_top (W ((W (x1.1 * 256)) + x3.1))) + x7))) } : Span).Hi), (.int .i64 ({ Lo := (-1), Hi := (imin a_top (W ((imin a_top (W ((W (x1.1 * 256)) + x3.1))) + x7))) } : Span).Lo), (.int .i64 ({ Lo := (-1), Hi := (imin a_top (W ((imin a_top (W ((W (x1.1 * 256)) + x3.1))) + x7))) } : Span).Hi), (.int .i64 ({ Lo := (imin a_top (W ((W (x1.1 * 256)) + x3.1))), Hi := (W (a_top + 1)) } : Span).Lo), (.int .i64 ({ Lo := (imin a_top (W ((W (x1.1 * 256)) + x3.1))), Hi := (W (a_top + 1)) } : Span).Hi)]) (e := 76) rfl rfl (by kernel_rfl) rfl rfl ⟨_, _, rfl, d50.cells, _, _, rfl, d51.cells, _, _, rfl, d52.cells, rfl⟩ hC57 fun p7 w58 hw11 hb21 hl58 hC58 => ?_)
       have ho138 := ho136.no hb21
       have ho139 := ho137.no hb21
       exact ⟨hb21, hw11⟩
      ·
       intro w59 D hS38 hd38
       have hl59 := leY hm3 hS38
       have hC59 := hC40.go hS38 (fun b e => Or.inr e)
       have ho140 := ho100.go hS38 (fun e => hn1 e.symm)
       have ho141 := ho101.go hS38 (fun e => hn2 e.symm)
       refine dg_sub (E' := [(0, (.pointer (some ⟨g, 0, none⟩)))]) ⟨rfl, trivial⟩ ?_
       refine dg_plain rfl (ow_move rfl rfl ?_)
       exact ⟨BX.refl _ _, rfl⟩
      ·
       intro w60 D hS39 hd39
       obtain ⟨hS39, ho142⟩ := hS39
       have ho142 : Own w60 g 98 #[(.slice Ax a_xs.length cx), (.int .i64 x8.2)] := ho142
       have hl60 := leY hm3 hS39
       have hC60 := hC40.go hS39 (fun b e => Or.inr e)
       have ho143 := ho100.go hS39 (fun e => hn1 e.symm)
       have ho144 := ho101.go hS39 (fun e => hn2 e.symm)
       have hd39 : PEq (.pointer (some ⟨g, 0, none⟩)) (D 15) w60 ∧ True := hd39
       obtain ⟨d53, -⟩ := hd39
       refine dg_sub (E' := [(63, (.pointer (some ⟨g, 0, none⟩)))]) ⟨(congrArg some d53), trivial⟩ ?_
       refine dg_plain rfl (ow_call rfl rfl Tryd.call87 (w_spec_l20Rd_pick (hG.mono ((((((((((hl1.trans hl2).trans hl3).trans hl4).trans hl5).trans hl15).trans hl16).trans hl38).trans hl39).trans hl40).trans hl60)) hC60.old (VRep.mono ((((((((((hl1.trans hl2).trans hl3).trans hl4).trans hl5).trans hl15).trans hl16).trans hl38).trans hl39).trans hl40).trans hl60) hxs) ho142 hm3 hx9) fun v19 w61 hv19 => ?_)
       obtain ⟨⟨hv19, ho145⟩, hb22⟩ := hv19
       have hl61 := Le.of_bx (Add g2 (Add g1 M)) hb22 (fun b e => (by rw [show b = g from e]; exact hm3))
       have hC61 := hC60.go hb22 (fun b e => Or.inr e)
       have ho146 := ho143.go hb22 (fun e => hn1 e.symm)
       have ho147 := ho144.go hb22 (fun e => hn2 e.symm)
       obtain rfl := vint_eq hv19
       exact ⟨⟨⟨hS39.trans hb22, ho145⟩, hb22⟩, rfl⟩
      ·
       intro w62 D hS40 hd40
       have hd40 : PEq (.pointer (some ⟨g2, 1, none⟩)) (D 0) w62 ∧ PEq (.int .i64 (imin a_top (W ((imin a_top (W ((W (x1.1 * 256)) + x3.1))) + x7)))) (D 1) w62 ∧ PEq (.int .i64 (W ((imin a_top (W ((imin a_top (W ((W (x1.1 * 256)) + x3.1))) + x7))) + 1))) (D 2) w62 ∧ PEq (.pointer (some ⟨g2, 1, none⟩)) (D 3) w62 ∧ PEq (.int .i64 (imin a_top (W ((imin a_top (W ((W (x1.1 * 256)) + x3.1))) + x7)))) (D 4) w62 ∧ PV RSpan (Add g2 (Add g1 M)) ({ Lo := (W ((imin a_top (W ((imin a_top (W ((W (x1.1 * 256)) + x3.1))) + x7))) + 1)), Hi := (imin a_top (W ((imin a_top (W ((W (x1.1 * 256)) + x3.1))) + x7))) } : Span) (D 5) w62 ∧ PEq (.pointer (some ⟨g2, 1, none⟩)) (D 6) w62 ∧ PEq (.int .i64 (imin a_top (W ((imin a_top (W ((W (x1.1 * 256)) + x3.1))) + x7)))) (D 7) w62 ∧ PV RSpan (Add g2 (Add g1 M)) ({ Lo := (-1), Hi := (imin a_top (W ((imin a_top (W ((W (x1.1 * 256)) + x3.1))) + x7))) } : Span) (D 8) w62 ∧ PEq (.pointer (some ⟨g2, 0, none⟩)) (D 9) w62 ∧ PEq (.int .i64 (imin a_top (W ((W (x1.1 * 256)) + x3.1)))) (D 10) w62 ∧ PEq (.int .i64 a_top) (D 11) w62 ∧ PEq (.int .i64 (W (a_top + 1))) (D 12) w62 ∧ PV RSpan (Add g2 (Add g1 M)) ({ Lo := (imin a_top (W ((W (x1.1 * 256)) + x3.1))), Hi := (W (a_top + 1)) } : Span) (D 13) w62 ∧ PV (RSlice RSpan) (Add g2 (Add g1 M)) [({ Lo := (W ((imin a_top (W ((imin a_top (W ((W (x1.1 * 256)) + x3.1))) + x7))) + 1)), Hi := (imin a_top (W ((imin a_top (W ((W (x1.1 * 256)) + x3.1))) + x7))) } : Span), ({ Lo := (-1), Hi := (imin a_top (W ((imin a_top (W ((W (x1.1 * 256)) + x3.1))) + x7))) } : Span), ({ Lo := (imin a_top (W ((W (x1.1 * 256)) + x3.1))), Hi := (W (a_top + 1)) } : Span)] (D 14) w62 ∧ PEq (.pointer (some ⟨g, 0, none⟩)) (D 15) w62 ∧ PEq (.int .i64 x9.1) (D 16) w62 ∧ True := hd40
       obtain ⟨-, -, -, -, -, -, -, -, -, -, -, -, -, -, d68, -, d70, -⟩ := hd40
       obtain ⟨hS40, ho148⟩ := hS40
       have ho148 : Own w62 g 98 #[(.slice Ax a_xs.length cx), (.int .i64 x9.2)] := ho148
       have hl62 := leY hm3 hS40
       have hC62 := hC40.go hS40 (fun b e => Or.inr e)
       have ho149 := ho100.go hS40 (fun e => hn1 e.symm)
       have ho150 := ho101.go hS40 (fun e => hn2 e.symm)
       obtain ⟨v20, hq5⟩ : ∃ v, (D 14) = v := ⟨_, rfl⟩
       rw [hq5] at d68
       refine lw_sub (E' := [(62, v20), (64, (.int .i64 x9.1)), (0, (.pointer (some ⟨g, 0, none⟩))), (1, (.int .i64 a_top)), (6, (.pointer (some ⟨g1, 0, none⟩))), (7, (.pointer (some ⟨g2, 0, none⟩)))]) ⟨(congrArg some hq5), (congrArg some d70), rfl, rfl, rfl, rfl, trivial⟩ ?_
       replace h := bind_some h
       obtain ⟨x10, hx10, h⟩ := h
       refine lw_op rfl rfl rfl (ow_indexSlice (R := RSpan) rfl rfl rfl d68 Tryd.underlying58 (Tryd.sizeOf76 _) hx10 fun p8 hp8 => ?_)
       refine lw_op rfl rfl rfl (ow_load (R := RSpan) rfl rfl hp8 (Tryd.sizeOf76 _) (Tryd.isAgg76 _) fun v21 hv21 => ?_)
       obtain rfl := open_Span hv21
       refine lw_op0 rfl rfl (ow_store (X := (One g)) (us := [(.int .i64 x10.Lo), (.int .i64 x10.Hi)]) (cs' := #[(.int .i64 x10.Lo), (.int .i64 x10.Hi)]) rfl rfl rfl rfl ho149 (Tryd.sizeOf76 _) rfl rfl rfl rfl hm4 (.inl hg2) rfl hC62 fun w63 ho151 hb23 hl63 hC63 => ?_)
       have ho152 := ho148.go hb23 (fun e => hn1 e)
       have ho153 := ho150.go hb23 (fun e => hn3 e.symm)
       refine lw_nil (ew_then (cw_ret (ew_thenR ?_)))
       have hw12 : VRep RSpan w63 (Add g2 (Add g1 M)) ({ Lo := x10.Lo, Hi := x10.Hi } : Span) (.agg #[(.int .i64 x10.Lo), (.int .i64 x10.Hi)]) := shut_Span
       obtain rfl := Option.some.inj h
       exact ew_ret (res1 rfl (.cell rfl (own_loadVarA ho151 (Tryd.isAgg76 _) (Tryd.sizeOf76 _) rfl))) ⟨_, rfl, ⟨(hw12.mono hC63.back), ho152⟩, hC63.bx⟩
     ·
      obtain rfl := hbb3.trans hc3
      refine cw_false rfl ?_
      refine cw_skip (ew_then (cw_seq (cw_region (lw_op rfl rfl rfl (ow_loadOwnA rfl rfl rfl ho101 (Tryd.isAgg76 _) (Tryd.sizeOf76 _) rfl ?_)))))
      have hw13 : VRep RSpan w40 (Add g2 (Add g1 M)) ({ Lo := (imin a_top (W ((W (x1.1 * 256)) + x3.1))), Hi := (imin a_top (W ((imin a_top (W ((W (x1.1 * 256)) + x3.1))) + x7))) } : Span) (.agg #[(.int .i64 (imin a_top (W ((W (x1.1 * 256)) + x3.1)))), (.int .i64 (imin a_top (W ((imin a_top (W ((W (x1.1 * 256)) + x3.1))) + x7))))]) := shut_Span
      refine lw_op0 rfl rfl (ow_store (X := (One g)) (us := [(.int .i64 (imin a_top (W ((W (x1.1 * 256)) + x3.1)))), (.int .i64 (imin a_top (W ((imin a_top (W ((W (x1.1 * 256)) + x3.1))) + x7))))]) (cs' := #[(.int .i64 (imin a_top (W ((W (x1.1 * 256)) + x3.1)))), (.int .i64 (imin a_top (W ((imin a_top (W ((W (x1.1 * 256)) + x3.1))) + x7))))]) rfl rfl rfl rfl ho100 (Tryd.sizeOf76 _) rfl rfl rfl rfl hm4 (.inl hg2) rfl hC40 fun w64 ho154 hb24 hl64 hC64 => ?_)
      have ho155 := ho99.go hb24 (fun e => hn1 e)
      have ho156 := ho101.go hb24 (fun e => hn3 e.symm)
      refine lw_nil (ew_then (cw_ret ?_))
      have hw14 : VRep RSpan w64 (Add g2 (Add g1 M)) ({ Lo := (imin a_top (W ((W (x1.1 * 256)) + x3.1))), Hi := (imin a_top (W ((imin a_top (W ((W (x1.1 * 256)) + x3.1))) + x7))) } : Span) (.agg #[(.int .i64 (imin a_top (W ((W (x1.1 * 256)) + x3.1)))), (.int .i64 (imin a_top (W ((imin a_top (W ((W (x1.1 * 256)) + x3.1))) + x7))))]) := shut_Span
      obtain rfl := Option.some.inj h
      exact ew_ret (res1 rfl (.cell rfl (own_loadVarA ho154 (Tryd.isAgg76 _) (Tryd.sizeOf76 _) rfl))) ⟨_, rfl, ⟨(hw14.mono hC64.back), ho155⟩, hC64.bx⟩
  ·
   obtain rfl := hbb2.trans hc2
   refine cw_false rfl ?_
   refine cw_skip (ew_then (cw_seq ?_))
   replace h := bind_some h
   obtain ⟨x11, hx11, h⟩ := h
   replace h := bind_some h
   obtain ⟨x12, hx12, h⟩ := h
   replace h := bind_some h
   obtain ⟨x13, hx13, h⟩ := h
   replace h := bind_some h
   obtain ⟨x14, hx14, h⟩ := h
   refine cw_sub (E' := [(0, (.pointer (some ⟨g, 0, none⟩))), (1, (.int .i64 a_top)), (2, (.int .i64 a_n)), (6, (.pointer (some ⟨g1, 0, none⟩))), (7, (.pointer (some ⟨g2, 0, none⟩)))]) ⟨rfl, rfl, rfl, rfl, rfl, trivial⟩ ?_
   refine cw_drawC (g := g) (T := 98) 13 3 [none, none, none, none, some 0, none, some 1, none, none, some 2, none, none, none] [#[(.slice Ax a_xs.length cx), (.int .i64 x2.2)], #[(.slice Ax a_xs.length cx), (.int .i64 x11.2)], #[(.slice Ax a_xs.length cx), (.int .i64 x12.2)], #[(.slice Ax a_xs.length cx), (.int .i64 x13.2)]] [PEq (.int .i64 a_top), PEq (.pointer (some ⟨g2, 0, none⟩)), PEq (.int .i64 x1.1), PEq (.pointer (some ⟨g, 0, none⟩)), PEq (.int .i64 x11.1), PEq (.pointer (some ⟨g, 0, none⟩)), PEq (.int .i64 x12.1), PV (RSlice RInt) (Add g2 (Add g1 M)) [0, x11.1, x12.1, 4096], PEq (.pointer (some ⟨g, 0, none⟩)), PEq (.int .i64 x13.1), PA RInt (Add g2 (Add g1 M)) x14, PEq (.int .i64 x14), PEq (.int .i64 (W (x1.1 + x14)))] (by kernel_rfl) rfl (by kernel_rfl) (by kernel_rfl) ho11 ⟨(PEq.monoY hm3 _), (PEq.monoY hm3 _), (PEq.monoY hm3 _), (PEq.monoY hm3 _), (PEq.monoY hm3 _), (PEq.monoY hm3 _), (PEq.monoY hm3 _), (PV.monoY hm3 _ _), (PEq.monoY hm3 _), (PEq.monoY hm3 _), (PA.monoY hm3 _ _), (PEq.monoY hm3 _), (PEq.monoY hm3 _), trivial⟩ ⟨?_, ?_, ?_, ?_, ?_, ?_, ?_, ?_, ?_, ?_, ?_, ?_, ?_, trivial⟩ ?_
   ·
    intro w69 D hS41 hd41
    have hl69 := leY hm3 hS41
    have hC69 := hC5.go hS41 (fun b e => Or.inr e)
    have ho169 := ho12.go hS41 (fun e => hn1 e.symm)
    have ho170 := ho13.go hS41 (fun e => hn2 e.symm)
    refine dg_sub (E' := [(1, (.int .i64 a_top))]) ⟨rfl, trivial⟩ ?_
    refine dg_plain rfl (ow_move rfl rfl ?_)
    exact ⟨BX.refl _ _, rfl⟩
   ·
    intro w70 D hS42 hd42
    have hl70 := leY hm3 hS42
    have hC70 := hC5.go hS42 (fun b e => Or.inr e)
    have ho171 := ho12.go hS42 (fun e => hn1 e.symm)
    have ho172 := ho13.go hS42 (fun e => hn2 e.symm)
    refine dg_sub (E' := [(7, (.pointer (some ⟨g2, 0, none⟩)))]) ⟨rfl, trivial⟩ ?_
    refine dg_plain rfl (ow_fieldAddr rfl rfl Tryd.underlying76 rfl (Tryd.sizeOf3 _) ?_)
    exact ⟨BX.refl _ _, rfl⟩
   ·
    intro w71 D hS43 hd43
    have hl71 := leY hm3 hS43
    have hC71 := hC5.go hS43 (fun b e => Or.inr e)
    have ho173 := ho12.go hS43 (fun e => hn1 e.symm)
    have ho174 := ho13.go hS43 (fun e => hn2 e.symm)
    have hd43 : PEq (.pointer (some ⟨g2, 0, none⟩)) (D 1) w71 ∧ True := hd43
    obtain ⟨d71, -⟩ := hd43
    refine dg_sub (E' := [(31, (.pointer (some ⟨g2, 0, none⟩)))]) ⟨(congrArg some d71), trivial⟩ ?_
    refine dg_plain rfl (ow_loadOwn1 rfl rfl rfl ho174 (Tryd.isAgg3 _) rfl ?_)
    exact ⟨BX.refl _ _, rfl⟩
   ·
    intro w72 D hS44 hd44
    have hl72 := leY hm3 hS44
    have hC72 := hC5.go hS44 (fun b e => Or.inr e)
    have ho175 := ho12.go hS44 (fun e => hn1 e.symm)
    have ho176 := ho13.go hS44 (fun e => hn2 e.symm)
    refine dg_sub (E' := [(0, (.pointer (some ⟨g, 0, none⟩)))]) ⟨rfl, trivial⟩ ?_
    refine dg_plain rfl (ow_move rfl rfl ?_)
    exact ⟨BX.refl _ _, rfl⟩
   ·
    intro w73 D hS45 hd45
    obtain ⟨hS45, ho177⟩ := hS45
    have ho177 : Own w73 g 98 #[(.slice Ax a_xs.length cx), (.int .i64 x2.2)] := ho177
    have hl73 := leY hm3 hS45
    have hC73 := hC5.go hS45 (fun b e => Or.inr e)
    have ho178 := ho12.go hS45 (fun e => hn1 e.symm)
    have ho179 := ho13.go hS45 (fun e => hn2 e.symm)
    have hd45 : PEq (.pointer (some ⟨g, 0, none⟩)) (D 3) w73 ∧ True := hd45
    obtain ⟨d72, -⟩ := hd45
    refine dg_sub (E' := [(33, (.pointer (some ⟨g, 0, none⟩)))]) ⟨(congrArg some d72), trivial⟩ ?_
    refine dg_plain rfl (ow_call rfl rfl Tryd.call87 (w_spec_l20Rd_pick (hG.mono (((((hl1.trans hl2).trans hl3).trans hl4).trans hl5).trans hl73)) hC73.old (VRep.mono (((((hl1.trans hl2).trans hl3).trans hl4).trans hl5).trans hl73) hxs) ho177 hm3 hx11) fun v26 w74 hv26 => ?_)
    obtain ⟨⟨hv26, ho180⟩, hb29⟩ := hv26
    have hl74 := Le.of_bx (Add g2 (Add g1 M)) hb29 (fun b e => (by rw [show b = g from e]; exact hm3))
    have hC74 := hC73.go hb29 (fun b e => Or.inr e)
    have ho181 := ho178.go hb29 (fun e => hn1 e.symm)
    have ho182 := ho179.go hb29 (fun e => hn2 e.symm)
    obtain rfl := vint_eq hv26
    exact ⟨⟨⟨hS45.trans hb29, ho180⟩, hb29⟩, rfl⟩
   ·
    intro w75 D hS46 hd46
    have hl75 := leY hm3 hS46
    have hC75 := hC5.go hS46 (fun b e => Or.inr e)
    have ho183 := ho12.go hS46 (fun e => hn1 e.symm)
    have ho184 := ho13.go hS46 (fun e => hn2 e.symm)
    refine dg_sub (E' := [(0, (.pointer (some ⟨g, 0, none⟩)))]) ⟨rfl, trivial⟩ ?_
    refine dg_plain rfl (ow_move rfl rfl ?_)
    exact ⟨BX.refl _ _, rfl⟩
   ·
    intro w76 D hS47 hd47
    obtain ⟨hS47, ho185⟩ := hS47
    have ho185 : Own w76 g 98 #[(.slice Ax a_xs.length cx), (.int .i64 x11.2)] := ho185
    have hl76 := leY hm3 hS47
    have hC76 := hC5.go hS47 (fun b e => Or.inr e)
    have ho186 := ho12.go hS47 (fun e => hn1 e.symm)
    have ho187 := ho13.go hS47 (fun e => hn2 e.symm)
    have hd47 : PEq (.pointer (some ⟨g, 0, none⟩)) (D 5) w76 ∧ PEq (.int .i64 x11.1) (D 4) w76 ∧ True := hd47
    obtain ⟨d73, d74, -⟩ := hd47
    refine dg_sub (E' := [(35, (.pointer (some ⟨g, 0, none⟩)))]) ⟨(congrArg some d73), trivial⟩ ?_
    refine dg_plain rfl (ow_call rfl rfl Tryd.call87 (w_spec_l20Rd_pick (hG.mono (((((hl1.trans hl2).trans hl3).trans hl4).trans hl5).trans hl76)) hC76.old (VRep.mono (((((hl1.trans hl2).trans hl3).trans hl4).trans hl5).trans hl76) hxs) ho185 hm3 hx12) fun v27 w77 hv27 => ?_)
    obtain ⟨⟨hv27, ho188⟩, hb30⟩ := hv27
    have hl77 := Le.of_bx (Add g2 (Add g1 M)) hb30 (fun b e => (by rw [show b = g from e]; exact hm3))
    have hC77 := hC76.go hb30 (fun b e => Or.inr e)
    have ho189 := ho186.go hb30 (fun e => hn1 e.symm)
    have ho190 := ho187.go hb30 (fun e => hn2 e.symm)
    obtain rfl := vint_eq hv27
    exact ⟨⟨⟨hS47.trans hb30, ho188⟩, hb30⟩, rfl⟩
   ·
    intro w78 D hS48 hd48
    have hl78 := leY hm3 hS48
    have hC78 := hC5.go hS48 (fun b e => Or.inr e)
    have ho191 := ho12.go hS48 (fun e => hn1 e.symm)
    have ho192 := ho13.go hS48 (fun e => hn2 e.symm)
    have hd48 : PEq (.int .i64 x11.1) (D 4) w78 ∧ PEq (.int .i64 x12.1) (D 6) w78 ∧ True := hd48
    obtain ⟨d75, d76, -⟩ := hd48
    refine dg_sub (E' := [(34, (.int .i64 x11.1)), (36, (.int .i64 x12.1))]) ⟨(congrArg some d75), (congrArg some d76), trivial⟩ ?_
    refine dg_plain rfl (ow_buildSlice (R := RInt) (xs := [0, x11.1, x12.1, 4096]) (cs := #[(.int .i64 0), (.int .i64 x11.1), (.int .i64 x12.1), (.int .i64 4096)]) (e := 3) rfl rfl (by kernel_rfl) rfl rfl ⟨_, _, rfl, (vint _).cells, _, _, rfl, (vint _).cells, _, _, rfl, (vint _).cells, _, _, rfl, (vint _).cells, rfl⟩ hC78 fun p11 w79 hw16 hb31 hl79 hC79 => ?_)
    have ho193 := ho191.no hb31
    have ho194 := ho192.no hb31
    exact ⟨hb31, hw16⟩
   ·
    intro w80 D hS49 hd49
    have hl80 := leY hm3 hS49
    have hC80 := hC5.go hS49 (fun b e => Or.inr e)
    have ho195 := ho12.go hS49 (fun e => hn1 e.symm)
    have ho196 := ho13.go hS49 (fun e => hn2 e.symm)
    refine dg_sub (E' := [(0, (.pointer (some ⟨g, 0, none⟩)))]) ⟨rfl, trivial⟩ ?_
    refine dg_plain rfl (ow_move rfl rfl ?_)
    exact ⟨BX.refl _ _, rfl⟩
   ·
    intro w81 D hS50 hd50
    obtain ⟨hS50, ho197⟩ := hS50
    have ho197 : Own w81 g 98 #[(.slice Ax a_xs.length cx), (.int .i64 x12.2)] := ho197
    have hl81 := leY hm3 hS50
    have hC81 := hC5.go hS50 (fun b e => Or.inr e)
    have ho198 := ho12.go hS50 (fun e => hn1 e.symm)
    have ho199 := ho13.go hS50 (fun e => hn2 e.symm)
    have hd50 : PEq (.pointer (some ⟨g, 0, none⟩)) (D 8) w81 ∧ PEq (.int .i64 x12.1) (D 6) w81 ∧ True := hd50
    obtain ⟨d77, d78, -⟩ := hd50
    refine dg_sub (E' := [(38, (.pointer (some ⟨g, 0, none⟩)))]) ⟨(congrArg some d77), trivial⟩ ?_
    refine dg_plain rfl (ow_call rfl rfl Tryd.call87 (w_spec_l20Rd_pick (hG.mono (((((hl1.trans hl2).trans hl3).trans hl4).trans hl5).trans hl81)) hC81.old (VRep.mono (((((hl1.trans hl2).trans hl3).trans hl4).trans hl5).trans hl81) hxs) ho197 hm3 hx13) fun v28 w82 hv28 => ?_)
    obtain ⟨⟨hv28, ho200⟩, hb32⟩ := hv28
    have hl82 := Le.of_bx (Add g2 (Add g1 M)) hb32 (fun b e => (by rw [show b = g from e]; exact hm3))
    have hC82 := hC81.go hb32 (fun b e => Or.inr e)
    have ho201 := ho198.go hb32 (fun e => hn1 e.symm)
    have ho202 := ho199.go hb32 (fun e => hn2 e.symm)
    obtain rfl := vint_eq hv28
    exact ⟨⟨⟨hS50.trans hb32, ho200⟩, hb32⟩, rfl⟩
   ·
    intro w83 D hS51 hd51
    have hl83 := leY hm3 hS51
    have hC83 := hC5.go hS51 (fun b e => Or.inr e)
    have ho203 := ho12.go hS51 (fun e => hn1 e.symm)
    have ho204 := ho13.go hS51 (fun e => hn2 e.symm)
    have hd51 : PV (RSlice RInt) (Add g2 (Add g1 M)) [0, x11.1, x12.1, 4096] (D 7) w83 ∧ PEq (.int .i64 x13.1) (D 9) w83 ∧ True := hd51
    obtain ⟨d79, d80, -⟩ := hd51
    obtain ⟨v29, hq6⟩ : ∃ v, (D 7) = v := ⟨_, rfl⟩
    rw [hq6] at d79
    refine dg_sub (E' := [(37, v29), (39, (.int .i64 x13.1))]) ⟨(congrArg some hq6), (congrArg some d80), trivial⟩ ?_
    refine dg_plain rfl (ow_indexSlice (R := RInt) rfl rfl rfl d79 Tryd.underlying84 (Tryd.sizeOf3 _) hx14 fun p12 hp12 => ?_)
    exact ⟨BX.refl _ _, ⟨_, rfl, hp12⟩⟩
   ·
    intro w84 D hS52 hd52
    have hl84 := leY hm3 hS52
    have hC84 := hC5.go hS52 (fun b e => Or.inr e)
    have ho205 := ho12.go hS52 (fun e => hn1 e.symm)
    have ho206 := ho13.go hS52 (fun e => hn2 e.symm)
    have hd52 : PA RInt (Add g2 (Add g1 M)) x14 (D 10) w84 ∧ True := hd52
    obtain ⟨d81, -⟩ := hd52
    obtain ⟨p13, e2, ha2⟩ := d81
    refine dg_sub (E' := [(40, (.pointer (some p13)))]) ⟨(congrArg some e2), trivial⟩ ?_
    refine dg_plain rfl (ow_load (R := RInt) rfl rfl ha2 (Tryd.sizeOf3 _) (Tryd.isAgg3 _) fun v30 hv30 => ?_)
    obtain rfl := vint_eq hv30
    exact ⟨BX.refl _ _, rfl⟩
   ·
    intro w85 D hS53 hd53
    have hl85 := leY hm3 hS53
    have hC85 := hC5.go hS53 (fun b e => Or.inr e)
    have ho207 := ho12.go hS53 (fun e => hn1 e.symm)
    have ho208 := ho13.go hS53 (fun e => hn2 e.symm)
    have hd53 : PEq (.int .i64 x1.1) (D 2) w85 ∧ PEq (.int .i64 x14) (D 11) w85 ∧ True := hd53
    obtain ⟨d82, d83, -⟩ := hd53
    refine dg_sub (E' := [(32, (.int .i64 x1.1)), (41, (.int .i64 x14))]) ⟨(congrArg some d82), (congrArg some d83), trivial⟩ ?_
    refine dg_plain rfl (ow_add rfl rfl rfl ?_)
    exact ⟨BX.refl _ _, rfl⟩
   ·
    intro w86 D hS54 hd54
    have hd54 : PEq (.int .i64 a_top) (D 0) w86 ∧ PEq (.pointer (some ⟨g2, 0, none⟩)) (D 1) w86 ∧ PEq (.int .i64 x1.1) (D 2) w86 ∧ PEq (.pointer (some ⟨g, 0, none⟩)) (D 3) w86 ∧ PEq (.int .i64 x11.1) (D 4) w86 ∧ PEq (.pointer (some ⟨g, 0, none⟩)) (D 5) w86 ∧ PEq (.int .i64 x12.1) (D 6) w86 ∧ PV (RSlice RInt) (Add g2 (Add g1 M)) [0, x11.1, x12.1, 4096] (D 7) w86 ∧ PEq (.pointer (some ⟨g, 0, none⟩)) (D 8) w86 ∧ PEq (.int .i64 x13.1) (D 9) w86 ∧ PA RInt (Add g2 (Add g1 M)) x14 (D 10) w86 ∧ PEq (.int .i64 x14) (D 11) w86 ∧ PEq (.int .i64 (W (x1.1 + x14))) (D 12) w86 ∧ True := hd54
    obtain ⟨d84, -, -, -, -, -, -, -, -, -, -, -, d96, -⟩ := hd54
    obtain ⟨hS54, ho209⟩ := hS54
    have ho209 : Own w86 g 98 #[(.slice Ax a_xs.length cx), (.int .i64 x13.2)] := ho209
    have hl86 := leY hm3 hS54
    have hC86 := hC5.go hS54 (fun b e => Or.inr e)
    have ho210 := ho12.go hS54 (fun e => hn1 e.symm)
    have ho211 := ho13.go hS54 (fun e => hn2 e.symm)
    refine lw_sub (E' := [(30, (.int .i64 a_top)), (42, (.int .i64 (W (x1.1 + x14)))), (0, (.pointer (some ⟨g, 0, none⟩))), (1, (.int .i64 a_top)), (2, (.int .i64 a_n)), (6, (.pointer (some ⟨g1, 0, none⟩))), (7, (.pointer (some ⟨g2, 0, none⟩)))]) ⟨(congrArg some d84), (congrArg some d96), rfl, rfl, rfl, rfl, rfl, trivial⟩ ?_
    refine lw_op rfl rfl rfl (ow_min rfl rfl rfl ?_)
    refine lw_op rfl rfl rfl (ow_fieldAddr rfl rfl Tryd.underlying76 rfl (Tryd.sizeOf3 _) ?_)
    refine lw_op0 rfl rfl (ow_store (X := (One g)) (us := [(.int .i64 (imin a_top (W (x1.1 + x14))))]) (cs' := #[(.int .i64 x1.1), (.int .i64 (imin a_top (W (x1.1 + x14))))]) rfl rfl rfl rfl ho211 (Tryd.sizeOf3 _) rfl rfl rfl rfl hm5 (.inl hg4) rfl hC86 fun w87 ho212 hb33 hl87 hC87 => ?_)
    have ho213 := ho209.go hb33 (fun e => hn2 e)
    have ho214 := ho210.go hb33 (fun e => hn3 e)
    refine lw_nil (ew_then (cw_seq (cw_seq (cw_region (lw_op rfl rfl rfl (ow_move rfl rfl ?_))))))
    refine lw_op rfl rfl rfl (ow_move rfl rfl ?_)
    replace h := bind_some h
    obtain ⟨x15, hx15, h⟩ := h
    refine lw_op rfl rfl rfl (ow_call rfl rfl Tryd.call92 (w_spec_l20Rd_odd (hG.mono ((((((hl1.trans hl2).trans hl3).trans hl4).trans hl5).trans hl86).trans hl87)) hC87.old (VRep.mono ((((((hl1.trans hl2).trans hl3).trans hl4).trans hl5).trans hl86).trans hl87) hxs) ho213 hm3 hx15) fun v31 w88 hv31 => ?_)
    obtain ⟨⟨hv31, ho215⟩, hb34⟩ := hv31
    have hl88 := Le.of_bx (Add g2 (Add g1 M)) hb34 (fun b e => (by rw [show b = g from e]; exact hm3))
    have hC88 := hC87.go hb34 (fun b e => Or.inr e)
    have ho216 := ho214.go hb34 (fun e => hn1 e.symm)
    have ho217 := ho212.go hb34 (fun e => hn2 e.symm)
    obtain ⟨bb4, hbb4, rfl⟩ := vbool_ex hv31
    refine lw_nil (ew_then ?_)
    replace h := cond_some h
    rcases h with ⟨hc4, h⟩ | ⟨hc4, h⟩
    ·
     obtain rfl := hbb4.trans hc4
     refine cw_true rfl ?_
     refine cw_seq ?_
     replace h := bind_some h
     obtain ⟨x16, hx16, h⟩ := h
     refine cw_sub (E' := [(0, (.pointer (some ⟨g, 0, none⟩))), (1, (.int .i64 a_top)), (6, (.pointer (some ⟨g1, 0, none⟩))), (7, (.pointer (some ⟨g2, 0, none⟩)))]) ⟨rfl, rfl, rfl, rfl, trivial⟩ ?_
     refine cw_drawC (g := g) (T := 98) 17 1 [none, none, none, none, none, none, none, none, none, none, none, none, none, none, none, none, some 0] [#[(.slice Ax a_xs.length cx), (.int .i64 x15.2)], #[(.slice Ax a_xs.length cx), (.int .i64 x16.2)]] [PEq (.pointer (some ⟨g2, 1, none⟩)), PEq (.int .i64 (imin a_top (W (x1.1 + x14)))), PEq (.int .i64 (W ((imin a_top (W (x1.1 + x14))) + 1))), PEq (.pointer (some ⟨g2, 1, none⟩)), PEq (.int .i64 (imin a_top (W (x1.1 + x14)))), PV RSpan (Add g2 (Add g1 M)) ({ Lo := (W ((imin a_top (W (x1.1 + x14))) + 1)), Hi := (imin a_top (W (x1.1 + x14))) } : Span), PEq (.pointer (some ⟨g2, 1, none⟩)), PEq (.int .i64 (imin a_top (W (x1.1 + x14)))), PV RSpan (Add g2 (Add g1 M)) ({ Lo := (-1), Hi := (imin a_top (W (x1.1 + x14))) } : Span), PEq (.pointer (some ⟨g2, 0, none⟩)), PEq (.int .i64 x1.1), PEq (.int .i64 a_top), PEq (.int .i64 (W (a_top + 1))), PV RSpan (Add g2 (Add g1 M)) ({ Lo := x1.1, Hi := (W (a_top + 1)) } : Span), PV (RSlice RSpan) (Add g2 (Add g1 M)) [({ Lo := (W ((imin a_top (W (x1.1 + x14))) + 1)), Hi := (imin a_top (W (x1.1 + x14))) } : Span), ({ Lo := (-1), Hi := (imin a_top (W (x1.1 + x14))) } : Span), ({ Lo := x1.1, Hi := (W (a_top + 1)) } : Span)], PEq (.pointer (some ⟨g, 0, none⟩)), PEq (.int .i64 x16.1)] (by kernel_rfl) rfl (by kernel_rfl) (by kernel_rfl) ho215 ⟨(PEq.monoY hm3 _), (PEq.monoY hm3 _), (PEq.monoY hm3 _), (PEq.monoY hm3 _), (PEq.monoY hm3 _), (PV.monoY hm3 _ _), (PEq.monoY hm3 _), (PEq.monoY hm3 _), (PV.monoY hm3 _ _), (PEq.monoY hm3 _), (PEq.monoY hm3 _), (PEq.monoY hm3 _), (PEq.monoY hm3 _), (PV.monoY hm3 _ _), (PV.monoY hm3 _ _), (PEq.monoY hm3 _), (PEq.monoY hm3 _), trivial⟩ ⟨?_, ?_, ?_, ?_, ?_, ?_, ?_, ?_, ?_, ?_, ?_, ?_, ?_, ?_, ?_, ?_, ?_, trivial⟩ ?_
     ·
      intro w91 D hS55 hd55
      have hl91 := leY hm3 hS55
      have hC91 := hC88.go hS55 (fun b e => Or.inr e)
      have ho224 := ho216.go hS55 (fun e => hn1 e.symm)
      have ho225 := ho217.go hS55 (fun e => hn2 e.symm)
      refine dg_sub (E' := [(7, (.pointer (some ⟨g2, 0, none⟩)))]) ⟨rfl, trivial⟩ ?_
      refine dg_plain rfl (ow_fieldAddr rfl rfl Tryd.underlying76 rfl (Tryd.sizeOf3 _) ?_)
      exact ⟨BX.refl _ _, rfl⟩
     ·
      intro w92 D hS56 hd56
      have hl92 := leY hm3 hS56
      have hC92 := hC88.go hS56 (fun b e => Or.inr e)
      have ho226 := ho216.go hS56 (fun e => hn1 e.symm)
      have ho227 := ho217.go hS56 (fun e => hn2 e.symm)
      have hd56 : PEq (.pointer (some ⟨g2, 1, none⟩)) (D 0) w92 ∧ True := hd56
      obtain ⟨d97, -⟩ := hd56
      refine dg_sub (E' := [(48, (.pointer (some ⟨g2, 1, none⟩)))]) ⟨(congrArg some d97), trivial⟩ ?_
      refine dg_plain rfl (ow_loadOwn1 rfl rfl rfl ho227 (Tryd.isAgg3 _) rfl ?_)
      exact ⟨BX.refl _ _, rfl⟩
     ·
      intro w93 D hS57 hd57
      have hl93 := leY hm3 hS57
      have hC93 := hC88.go hS57 (fun b e => Or.inr e)
      have ho228 := ho216.go hS57 (fun e => hn1 e.symm)
      have ho229 := ho217.go hS57 (fun e => hn2 e.symm)
      have hd57 : PEq (.int .i64 (imin a_top (W (x1.1 + x14)))) (D 1) w93 ∧ True := hd57
      obtain ⟨d98, -⟩ := hd57
      refine dg_sub (E' := [(49, (.int .i64 (imin a_top (W (x1.1 + x14)))))]) ⟨(congrArg some d98), trivial⟩ ?_
      refine dg_plain rfl (ow_add rfl rfl rfl ?_)
      exact ⟨BX.refl _ _, rfl⟩
     ·
      intro w94 D hS58 hd58
      have hl94 := leY hm3 hS58
      have hC94 := hC88.go hS58 (fun b e => Or.inr e)
      have ho230 := ho216.go hS58 (fun e => hn1 e.symm)
      have ho231 := ho217.go hS58 (fun e => hn2 e.symm)
      refine dg_sub (E' := [(7, (.pointer (some ⟨g2, 0, none⟩)))]) ⟨rfl, trivial⟩ ?_
      refine dg_plain rfl (ow_fieldAddr rfl rfl Tryd.underlying76 rfl (Tryd.sizeOf3 _) ?_)
      exact ⟨BX.refl _ _, rfl⟩
     ·
      intro w95 D hS59 hd59
      have hl95 := leY hm3 hS59
      have hC95 := hC88.go hS59 (fun b e => Or.inr e)
      have ho232 := ho216.go hS59 (fun e => hn1 e.symm)
      have ho233 := ho217.go hS59 (fun e => hn2 e.symm)
      have hd59 : PEq (.pointer (some ⟨g2, 1, none⟩)) (D 3) w95 ∧ True := hd59
      obtain ⟨d99, -⟩ := hd59
      refine dg_sub (E' := [(51, (.pointer (some ⟨g2, 1, none⟩)))]) ⟨(congrArg some d99), trivial⟩ ?_
      refine dg_plain rfl (ow_loadOwn1 rfl rfl rfl ho233 (Tryd.isAgg3 _) rfl ?_)
      exact ⟨BX.refl _ _, rfl⟩
     ·
      intro w96 D hS60 hd60
      have hl96 := leY hm3 hS60
      have hC96 := hC88.go hS60 (fun b e => Or.inr e)
      have ho234 := ho216.go hS60 (fun e => hn1 e.symm)
      have ho235 := ho217.go hS60 (fun e => hn2 e.symm)
      have hd60 : PEq (.int .i64 (W ((imin a_top (W (x1.1 + x14))) + 1))) (D 2) w96 ∧ PEq (.int .i64 (imin a_top (W (x1.1 + x14)))) (D 4) w96 ∧ True := hd60
      obtain ⟨d100, d101, -⟩ := hd60
      refine dg_sub (E' := [(50, (.int .i64 (W ((imin a_top (W (x1.1 + x14))) + 1)))), (52, (.int .i64 (imin a_top (W (x1.1 + x14)))))]) ⟨(congrArg some d100), (congrArg some d101), trivial⟩ ?_
      refine dg_plain rfl (ow_build (v := .agg #[(.int .i64 (W ((imin a_top (W (x1.1 + x14))) + 1))), (.int .i64 (imin a_top (W (x1.1 + x14))))]) rfl rfl (by kernel_rfl) ?_)
      have hw21 : VRep RSpan w96 (Add g2 (Add g1 M)) ({ Lo := (W ((imin a_top (W (x1.1 + x14))) + 1)), Hi := (imin a_top (W (x1.1 + x14))) } : Span) (.agg #[(.int .i64 (W ((imin a_top (W (x1.1 + x14))) + 1))), (.int .i64 (imin a_top (W (x1.1 + x14))))]) := shut_Span
      exact ⟨BX.refl _ _, hw21⟩
     ·
      intro w97 D hS61 hd61
      have hl97 := leY hm3 hS61
      have hC97 := hC88.go hS61 (fun b e => Or.inr e)
      have ho236 := ho216.go hS61 (fun e => hn1 e.symm)
      have ho237 := ho217.go hS61 (fun e => hn2 e.symm)
      refine dg_sub (E' := [(7, (.pointer (some ⟨g2, 0, none⟩)))]) ⟨rfl, trivial⟩ ?_
      refine dg_plain rfl (ow_fieldAddr rfl rfl Tryd.underlying76 rfl (Tryd.sizeOf3 _) ?_)
      exact ⟨BX.refl _ _, rfl⟩
     ·
      intro w98 D hS62 hd62
      have hl98 := leY hm3 hS62
      have hC98 := hC88.go hS62 (fun b e => Or.inr e)
      have ho238 := ho216.go hS62 (fun e => hn1 e.symm)
      have ho239 := ho217.go hS62 (fun e => hn2 e.symm)
      have hd62 : PEq (.pointer (some ⟨g2, 1, none⟩)) (D 6) w98 ∧ True := hd62
      obtain ⟨d102, -⟩ := hd62
      refine dg_sub (E' := [(54, (.pointer (some ⟨g2, 1, none⟩)))]) ⟨(congrArg some d102), trivial⟩ ?_
      refine dg_plain rfl (ow_loadOwn1 rfl rfl rfl ho239 (Tryd.isAgg3 _) rfl ?_)
      exact ⟨BX.refl _ _, rfl⟩
     ·
      intro w99 D hS63 hd63
      have hl99 := leY hm3 hS63
      have hC99 := hC88.go hS63 (fun b e => Or.inr e)
      have ho240 := ho216.go hS63 (fun e => hn1 e.symm)
      have ho241 := ho217.go hS63 (fun e => hn2 e.symm)
      have hd63 : PEq (.int .i64 (imin a_top (W (x1.1 + x14)))) (D 7) w99 ∧ True := hd63
      obtain ⟨d103, -⟩ := hd63
      refine dg_sub (E' := [(55, (.int .i64 (imin a_top (W (x1.1 + x14)))))]) ⟨(congrArg some d103), trivial⟩ ?_
      refine dg_plain rfl (ow_build (v := .agg #[(.int .i64 (-1)), (.int .i64 (imin a_top (W (x1.1 + x14))))]) rfl rfl (by kernel_rfl) ?_)
      have hw22 : VRep RSpan w99 (Add g2 (Add g1 M)) ({ Lo := (-1), Hi := (imin a_top (W (x1.1 + x14))) } : Span) (.agg #[(.int .i64 (-1)), (.int .i64 (imin a_top (W (x1.1 + x14))))]) := shut_Span
      exact ⟨BX.refl _ _, hw22⟩
     ·
      intro w100 D hS64 hd64
      have hl100 := leY hm3 hS64
      have hC100 := hC88.go hS64 (fun b e => Or.inr e)
      have ho242 := ho216.go hS64 (fun e => hn1 e.symm)
      have ho243 := ho217.go hS64 (fun e => hn2 e.symm)
      refine dg_sub (E' := [(7, (.pointer (some ⟨g2, 0, none⟩)))]) ⟨rfl, trivial⟩ ?_
      refine dg_plain rfl (ow_fieldAddr rfl rfl Tryd.underlying76 rfl (Tryd.sizeOf3 _) ?_)
      exact ⟨BX.refl _ _, rfl⟩
     ·
      intro w101 D hS65 hd65
      have hl101 := leY hm3 hS65
      have hC101 := hC88.go hS65 (fun b e => Or.inr e)
      have ho244 := ho216.go hS65 (fun e => hn1 e.symm)
      have ho245 := ho217.go hS65 (fun e => hn2 e.symm)
      have hd65 : PEq (.pointer (some ⟨g2, 0, none⟩)) (D 9) w101 ∧ True := hd65
      obtain ⟨d104, -⟩ := hd65
      refine dg_sub (E' := [(57, (.pointer (some ⟨g2, 0, none⟩)))]) ⟨(congrArg some d104), trivial⟩ ?_
      refine dg_plain rfl (ow_loadOwn1 rfl rfl rfl ho245 (Tryd.isAgg3 _) rfl ?_)
      exact ⟨BX.refl _ _, rfl⟩
     ·
      intro w102 D hS66 hd66
      have hl102 := leY hm3 hS66
      have hC102 := hC88.go hS66 (fun b e => Or.inr e)
      have ho246 := ho216.go hS66 (fun e => hn1 e.symm)
      have ho247 := ho217.go hS66 (fun e => hn2 e.symm)
      refine dg_sub (E' := [(1, (.int .i64 a_top))]) ⟨rfl, trivial⟩ ?_
      refine dg_plain rfl (ow_move rfl rfl ?_)
      exact ⟨BX.refl _ _, rfl⟩
     ·
      intro w103 D hS67 hd67
      have hl103 := leY hm3 hS67
      have hC103 := hC88.go hS67 (fun b e => Or.inr e)
      have ho248 := ho216.go hS67 (fun e => hn1 e.symm)
      have ho249 := ho217.go hS67 (fun e => hn2 e.symm)
      have hd67 : PEq (.int .i64 a_top) (D 11) w103 ∧ True := hd67
      obtain ⟨d105, -⟩ := hd67
      refine dg_sub (E' := [(59, (.int .i64 a_top))]) ⟨(congrArg some d105), trivial⟩ ?_
      refine dg_plain rfl (ow_add rfl rfl rfl ?_)
      exact ⟨BX.refl _ _, rfl⟩
     ·
      intro w104 D hS68 hd68
      have hl104 := leY hm3 hS68
      have hC104 := hC88.go hS68 (fun b e => Or.inr e)
      have ho250 := ho216.go hS68 (fun e => hn1 e.symm)
      have ho251 := ho217.go hS68 (fun e => hn2 e.symm)
      have hd68 : PEq (.int .i64 x1.1) (D 10) w104 ∧ PEq (.int .i64 (W (a_top + 1))) (D 12) w104 ∧ True := hd68
      obtain ⟨d106, d107, -⟩ := hd68
      refine dg_sub (E' := [(58, (.int .i64 x1.1)), (60, (.int .i64 (W (a_top + 1))))]) ⟨(congrArg some d106), (congrArg some d107), trivial⟩ ?_
      refine dg_plain rfl (ow_build (v := .agg #[(.int .i64 x1.1), (.int .i64 (W (a_top + 1)))]) rfl rfl (by kernel_rfl) ?_)
      have hw23 : VRep RSpan w104 (Add g2 (Add g1 M)) ({ Lo := x1.1, Hi := (W (a_top + 1)) } : Span) (.agg #[(.int .i64 x1.1), (.int .i64 (W (a_top + 1)))]) := shut_Span
      exact ⟨BX.refl _ _, hw23⟩
     ·
      intro w105 D hS69 hd69
      have hl105 := leY hm3 hS69
      have hC105 := hC88.go hS69 (fun b e => Or.inr e)
      have ho252 := ho216.go hS69 (fun e => hn1 e.symm)
      have ho253 := ho217.go hS69 (fun e => hn2 e.symm)
      have hd69 : PV RSpan (Add g2 (Add g1 M)) ({ Lo := (W ((imin a_top (W (x1.1 + x14))) + 1)), Hi := (imin a_top (W (x1.1 + x14))) } : Span) (D 5) w105 ∧ PV RSpan (Add g2 (Add g1 M)) ({ Lo := (-1), Hi := (imin a_top (W (x1.1 + x14))) } : Span) (D 8) w105 ∧ PV RSpan (Add g2 (Add g1 M)) ({ Lo := x1.1, Hi := (W (a_top + 1)) } : Span) (D 13) w105 ∧ True := hd69
      obtain ⟨d108, d109, d110, -⟩ := hd69
      obtain ⟨v33, hq7⟩ : ∃ v, (D 5) = v := ⟨_, rfl⟩
      rw [hq7] at d108
      obtain ⟨v34, hq8⟩ : ∃ v, (D 8) = v := ⟨_, rfl⟩
      rw [hq8] at d109
      obtain ⟨v35, hq9⟩ : ∃ v, (D 13) = v := ⟨_, rfl⟩
      rw [hq9] at d110
      refine dg_sub (E' := [(53, v33), (56, v34), (61, v35)]) ⟨(congrArg some hq7), (congrArg some hq8), (congrArg some hq9), trivial⟩ ?_
      obtain rfl := open_Span d108
      obtain rfl := open_Span d109
      obtain rfl := open_Span d110
      refine dg_plain rfl (ow_buildSlice (R := RSpan) (xs := [({ Lo := (W ((imin a_top (W (x1.1 + x14))) + 1)), Hi := (imin a_top (W (x1.1 + x14))) } : Span), ({ Lo := (-1), Hi := (imin a_top (W (x1.1 + x14))) } : Span), ({ Lo := x1.1, Hi := (W (a_top + 1)) } : Span)]) (cs := #[(.int .i64 ({ Lo := (W ((imin a_top (W (x1.1 + x14))) + 1)), Hi := (imin a_top (W (x1.1 + x14))) } : Span).Lo), (.int .i64 ({ Lo := (W ((imin a_top (W (x1.1 + x14))) + 1)), Hi := (imin a_top (W (x1.1 + x14))) } : Span).Hi), (.int .i64 ({ Lo := (-1), Hi := (imin a_top (W (x1.1 + x14))) } : Span).Lo), (.int .i64 ({ Lo := (-1), Hi := (imin a_top (W (x1.1 + x14))) } : Span).Hi), (.int .i64 ({ Lo := x1.1, Hi := (W (a_top + 1)) } : Span).Lo), (.int .i64 ({ Lo := x1.1, Hi := (W (a_top + 1)) } : Span).Hi)]) (e := 76) rfl rfl (by kernel_rfl) rfl rfl ⟨_, _, rfl, d108.cells, _, _, rfl, d109.cells, _, _, rfl, d110.cells, rfl⟩ hC105 fun p15 w106 hw24 hb37 hl106 hC106 => ?_)
      have ho254 := ho252.no hb37
      have ho255 := ho253.no hb37
      exact ⟨hb37, hw24⟩
     ·
      intro w107 D hS70 hd70
      have hl107 := leY hm3 hS70
      have hC107 := hC88.go hS70 (fun b e => Or.inr e)
      have ho256 := ho216.go hS70 (fun e => hn1 e.symm)
      have ho257 := ho217.go hS70 (fun e => hn2 e.symm)
      refine dg_sub (E' := [(0, (.pointer (some ⟨g, 0, none⟩)))]) ⟨rfl, trivial⟩ ?_
      refine dg_plain rfl (ow_move rfl rfl ?_)
      exact ⟨BX.refl _ _, rfl⟩
     ·
      intro w108 D hS71 hd71
      obtain ⟨hS71, ho258⟩ := hS71
      have ho258 : Own w108 g 98 #[(.slice Ax a_xs.length cx), (.int .i64 x15.2)] := ho258
      have hl108 := leY hm3 hS71
      have hC108 := hC88.go hS71 (fun b e => Or.inr e)
      have ho259 := ho216.go hS71 (fun e => hn1 e.symm)
      have ho260 := ho217.go hS71 (fun e => hn2 e.symm)
      have hd71 : PEq (.pointer (some ⟨g, 0, none⟩)) (D 15) w108 ∧ True := hd71
      obtain ⟨d111, -⟩ := hd71
      refine dg_sub (E' := [(63, (.pointer (some ⟨g, 0, none⟩)))]) ⟨(congrArg some d111), trivial⟩ ?_
      refine dg_plain rfl (ow_call rfl rfl Tryd.call87 (w_spec_l20Rd_pick (hG.mono ((((((((hl1.trans hl2).trans hl3).trans hl4).trans hl5).trans hl86).trans hl87).trans hl88).trans hl108)) hC108.old (VRep.mono ((((((((hl1.trans hl2).trans hl3).trans hl4).trans hl5).trans hl86).trans hl87).trans hl88).trans hl108) hxs) ho258 hm3 hx16) fun v36 w109 hv36 => ?_)
      obtain ⟨⟨hv36, ho261⟩, hb38⟩ := hv36
      have hl109 := Le.of_bx (Add g2 (Add g1 M)) hb38 (fun b e => (by rw [show b = g from e]; exact hm3))
      have hC109 := hC108.go hb38 (fun b e => Or.inr e)
      have ho262 := ho259.go hb38 (fun e => hn1 e.symm)
      have ho263 := ho260.go hb38 (fun e => hn2 e.symm)
      obtain rfl := vint_eq hv36
      exact ⟨⟨⟨hS71.trans hb38, ho261⟩, hb38⟩, rfl⟩
     ·
      intro w110 D hS72 hd72
      have hd72 : PEq (.pointer (some ⟨g2, 1, none⟩)) (D 0) w110 ∧ PEq (.int .i64 (imin a_top (W (x1.1 + x14)))) (D 1) w110 ∧ PEq (.int .i64 (W ((imin a_top (W (x1.1 + x14))) + 1))) (D 2) w110 ∧ PEq (.pointer (some ⟨g2, 1, none⟩)) (D 3) w110 ∧ PEq (.int .i64 (imin a_top (W (x1.1 + x14)))) (D 4) w110 ∧ PV RSpan (Add g2 (Add g1 M)) ({ Lo := (W ((imin a_top (W (x1.1 + x14))) + 1)), Hi := (imin a_top (W (x1.1 + x14))) } : Span) (D 5) w110 ∧ PEq (.pointer (some ⟨g2, 1, none⟩)) (D 6) w110 ∧ PEq (.int .i64 (imin a_top (W (x1.1 + x14)))) (D 7) w110 ∧ PV RSpan (Add g2 (Add g1 M)) ({ Lo := (-1), Hi := (imin a_top (W (x1.1 + x14))) } : Span) (D 8) w110 ∧ PEq (.pointer (some ⟨g2, 0, none⟩)) (D 9) w110 ∧ PEq (.int .i64 x1.1) (D 10) w110 ∧ PEq (.int .i64 a_top) (D 11) w110 ∧ PEq (.int .i64 (W (a_top + 1))) (D 12) w110 ∧ PV RSpan (Add g2 (Add g1 M)) ({ Lo := x1.1, Hi := (W (a_top + 1)) } : Span) (D 13) w110 ∧ PV (RSlice RSpan) (Add g2 (Add g1 M)) [({ Lo := (W ((imin a_top (W (x1.1 + x14))) + 1)), Hi := (imin a_top (W (x1.1 + x14))) } : Span), ({ Lo := (-1), Hi := (imin a_top (W (x1.1 + x14))) } : Span), ({ Lo := x1.1, Hi := (W (a_top + 1)) } : Span)] (D 14) w110 ∧ PEq (.pointer (some ⟨g, 0, none⟩)) (D 15) w110 ∧ PEq (.int .i64 x16.1) (D 16) w110 ∧ True := hd72
      obtain ⟨-, -, -, -, -, -, -, -, -, -, -, -, -, -, d126, -, d128, -⟩ := hd72
      obtain ⟨hS72, ho264⟩ := hS72
      have ho264 : Own w110 g 98 #[(.slice Ax a_xs.length cx), (.int .i64 x16.2)] := ho264
      have hl110 := leY hm3 hS72
      have hC110 := hC88.go hS72 (fun b e => Or.inr e)
      have ho265 := ho216.go hS72 (fun e => hn1 e.symm)
      have ho266 := ho217.go hS72 (fun e => hn2 e.symm)
      obtain ⟨v37, hq10⟩ : ∃ v, (D 14) = v := ⟨_, rfl⟩
      rw [hq10] at d126
      refine lw_sub (E' := [(62, v37), (64, (.int .i64 x16.1)), (0, (.pointer (some ⟨g, 0, none⟩))), (1, (.int .i64 a_top)), (6, (.pointer (some ⟨g1, 0, none⟩))), (7, (.pointer (some ⟨g2, 0, none⟩)))]) ⟨(congrArg some hq10), (congrArg some d128), rfl, rfl, rfl, rfl, trivial⟩ ?_
      replace h := bind_some h
      obtain ⟨x17, hx17, h⟩ := h
      refine lw_op rfl rfl rfl (ow_indexSlice (R := RSpan) rfl rfl rfl d126 Tryd.underlying58 (Tryd.sizeOf76 _) hx17 fun p16 hp16 => ?_)
      refine lw_op rfl rfl rfl (ow_load (R := RSpan) rfl rfl hp16 (Tryd.sizeOf76 _) (Tryd.isAgg76 _) fun v38 hv38 => ?_)
      obtain rfl := open_Span hv38
      refine lw_op0 rfl rfl (ow_store (X := (One g)) (us := [(.int .i64 x17.Lo), (.int .i64 x17.Hi)]) (cs' := #[(.int .i64 x17.Lo), (.int .i64 x17.Hi)]) rfl rfl rfl rfl ho265 (Tryd.sizeOf76 _) rfl rfl rfl rfl hm4 (.inl hg2) rfl hC110 fun w111 ho267 hb39 hl111 hC111 => ?_)
      have ho268 := ho264.go hb39 (fun e => hn1 e)
      have ho269 := ho266.go hb39 (fun e => hn3 e.symm)
      refine lw_nil (ew_then (cw_ret (ew_thenR ?_)))
      have hw25 : VRep RSpan w111 (Add g2 (Add g1 M)) ({ Lo := x17.Lo, Hi := x17.Hi } : Span) (.agg #[(.int .i64 x17.Lo), (.int .i64 x17.Hi)]) := shut_Span
      obtain rfl := Option.some.inj h
      exact ew_ret (res1 rfl (.cell rfl (own_loadVarA ho267 (Tryd.isAgg76 _) (Tryd.sizeOf76 _) rfl))) ⟨_, rfl, ⟨(hw25.mono hC111.back), ho268⟩, hC111.bx⟩
    ·
     obtain rfl := hbb4.trans hc4
     refine cw_false rfl ?_
     refine cw_skip (ew_then (cw_seq (cw_region (lw_op rfl rfl rfl (ow_loadOwnA rfl rfl rfl ho217 (Tryd.isAgg76 _) (Tryd.sizeOf76 _) rfl ?_)))))
     have hw26 : VRep RSpan w88 (Add g2 (Add g1 M)) ({ Lo := x1.1, Hi := (imin a_top (W (x1.1 + x14))) } : Span) (.agg #[(.int .i64 x1.1), (.int .i64 (imin a_top (W (x1.1 + x14))))]) := shut_Span
     refine lw_op0 rfl rfl (ow_store (X := (One g)) (us := [(.int .i64 x1.1), (.int .i64 (imin a_top (W (x1.1 + x14))))]) (cs' := #[(.int .i64 x1.1), (.int .i64 (imin a_top (W (x1.1 + x14))))]) rfl rfl rfl rfl ho216 (Tryd.sizeOf76 _) rfl rfl rfl rfl hm4 (.inl hg2) rfl hC88 fun w112 ho270 hb40 hl112 hC112 => ?_)
     have ho271 := ho215.go hb40 (fun e => hn1 e)
     have ho272 := ho217.go hb40 (fun e => hn3 e.symm)
     refine lw_nil (ew_then (cw_ret ?_))
     have hw27 : VRep RSpan w112 (Add g2 (Add g1 M)) ({ Lo := x1.1, Hi := (imin a_top (W (x1.1 + x14))) } : Span) (.agg #[(.int .i64 x1.1), (.int .i64 (imin a_top (W (x1.1 + x14))))]) := shut_Span
     obtain rfl := Option.some.inj h
     exact ew_ret (res1 rfl (.cell rfl (own_loadVarA ho270 (Tryd.isAgg76 _) (Tryd.sizeOf76 _) rfl))) ⟨_, rfl, ⟨(hw27.mono hC112.back), ho271⟩, hC112.bx⟩
 ·
  obtain rfl := hbb1.trans hc1
  refine lw_off rfl rfl rfl rfl rfl rfl ?_
  refine lw_off rfl rfl rfl rfl rfl rfl ?_
  refine lw_off rfl rfl rfl rfl rfl rfl ?_
  refine lw_op rfl rfl rfl (ow_pickF rfl rfl rfl ?_)
  refine lw_nil (ew_then (cw_false rfl ?_))
  refine cw_skip (ew_then (cw_seq ?_))
  replace h := bind_some h
  obtain ⟨x18, hx18, h⟩ := h
  replace h := bind_some h
  obtain ⟨x19, hx19, h⟩ := h
  replace h := bind_some h
  obtain ⟨x20, hx20, h⟩ := h
  replace h := bind_some h
  obtain ⟨x21, hx21, h⟩ := h
  refine cw_sub (E' := [(0, (.pointer (some ⟨g, 0, none⟩))), (1, (.int .i64 a_top)), (2, (.int .i64 a_n)), (6, (.pointer (some ⟨g1, 0, none⟩))), (7, (.pointer (some ⟨g2, 0, none⟩)))]) ⟨rfl, rfl, rfl, rfl, rfl, trivial⟩ ?_
  refine cw_drawC (g := g) (T := 98) 13 3 [none, none, none, none, some 0, none, some 1, none, none, some 2, none, none, none] [#[(.slice Ax a_xs.length cx), (.int .i64 x1.2)], #[(.slice Ax a_xs.length cx), (.int .i64 x18.2)], #[(.slice Ax a_xs.length cx), (.int .i64 x19.2)], #[(.slice Ax a_xs.length cx), (.int .i64 x20.2)]] [PEq (.int .i64 a_top), PEq (.pointer (some ⟨g2, 0, none⟩)), PEq (.int .i64 x1.1), PEq (.pointer (some ⟨g, 0, none⟩)), PEq (.int .i64 x18.1), PEq (.pointer (some ⟨g, 0, none⟩)), PEq (.int .i64 x19.1), PV (RSlice RInt) (Add g2 (Add g1 M)) [0, x18.1, x19.1, 4096], PEq (.pointer (some ⟨g, 0, none⟩)), PEq (.int .i64 x20.1), PA RInt (Add g2 (Add g1 M)) x21, PEq (.int .i64 x21), PEq (.int .i64 (W (x1.1 + x21)))] (by kernel_rfl) rfl (by kernel_rfl) (by kernel_rfl) ho9 ⟨(PEq.monoY hm3 _), (PEq.monoY hm3 _), (PEq.monoY hm3 _), (PEq.monoY hm3 _), (PEq.monoY hm3 _), (PEq.monoY hm3 _), (PEq.monoY hm3 _), (PV.monoY hm3 _ _), (PEq.monoY hm3 _), (PEq.monoY hm3 _), (PA.monoY hm3 _ _), (PEq.monoY hm3 _), (PEq.monoY hm3 _), trivial⟩ ⟨?_, ?_, ?_, ?_, ?_, ?_, ?_, ?_, ?_, ?_, ?_, ?_, ?_, trivial⟩ ?_
  ·
   intro w117 D hS73 hd73
   have hl117 := leY hm3 hS73
   have hC117 := hC4.go hS73 (fun b e => Or.inr e)
   have ho285 := ho10.go hS73 (fun e => hn1 e.symm)
   have ho286 := ho8.go hS73 (fun e => hn2 e.symm)
   refine dg_sub (E' := [(1, (.int .i64 a_top))]) ⟨rfl, trivial⟩ ?_
   refine dg_plain rfl (ow_move rfl rfl ?_)
   exact ⟨BX.refl _ _, rfl⟩
  ·
   intro w118 D hS74 hd74
   have hl118 := leY hm3 hS74
   have hC118 := hC4.go hS74 (fun b e => Or.inr e)
   have ho287 := ho10.go hS74 (fun e => hn1 e.symm)
   have ho288 := ho8.go hS74 (fun e => hn2 e.symm)
   refine dg_sub (E' := [(7, (.pointer (some ⟨g2, 0, none⟩)))]) ⟨rfl, trivial⟩ ?_
   refine dg_plain rfl (ow_fieldAddr rfl rfl Tryd.underlying76 rfl (Tryd.sizeOf3 _) ?_)
   exact ⟨BX.refl _ _, rfl⟩
  ·
   intro w119 D hS75 hd75
   have hl119 := leY hm3 hS75
   have hC119 := hC4.go hS75 (fun b e => Or.inr e)
   have ho289 := ho10.go hS75 (fun e => hn1 e.symm)
   have ho290 := ho8.go hS75 (fun e => hn2 e.symm)
   have hd75 : PEq (.pointer (some ⟨g2, 0, none⟩)) (D 1) w119 ∧ True := hd75
   obtain ⟨d129, -⟩ := hd75
   refine dg_sub (E' := [(31, (.pointer (some ⟨g2, 0, none⟩)))]) ⟨(congrArg some d129), trivial⟩ ?_
   refine dg_plain rfl (ow_loadOwn1 rfl rfl rfl ho290 (Tryd.isAgg3 _) rfl ?_)
   exact ⟨BX.refl _ _, rfl⟩
  ·
   intro w120 D hS76 hd76
   have hl120 := leY hm3 hS76
   have hC120 := hC4.go hS76 (fun b e => Or.inr e)
   have ho291 := ho10.go hS76 (fun e => hn1 e.symm)
   have ho292 := ho8.go hS76 (fun e => hn2 e.symm)
   refine dg_sub (E' := [(0, (.pointer (some ⟨g, 0, none⟩)))]) ⟨rfl, trivial⟩ ?_
   refine dg_plain rfl (ow_move rfl rfl ?_)
   exact ⟨BX.refl _ _, rfl⟩
  ·
   intro w121 D hS77 hd77
   obtain ⟨hS77, ho293⟩ := hS77
   have ho293 : Own w121 g 98 #[(.slice Ax a_xs.length cx), (.int .i64 x1.2)] := ho293
   have hl121 := leY hm3 hS77
   have hC121 := hC4.go hS77 (fun b e => Or.inr e)
   have ho294 := ho10.go hS77 (fun e => hn1 e.symm)
   have ho295 := ho8.go hS77 (fun e => hn2 e.symm)
   have hd77 : PEq (.pointer (some ⟨g, 0, none⟩)) (D 3) w121 ∧ True := hd77
   obtain ⟨d130, -⟩ := hd77
   refine dg_sub (E' := [(33, (.pointer (some ⟨g, 0, none⟩)))]) ⟨(congrArg some d130), trivial⟩ ?_
   refine dg_plain rfl (ow_call rfl rfl Tryd.call87 (w_spec_l20Rd_pick (hG.mono ((((hl1.trans hl2).trans hl3).trans hl4).trans hl121)) hC121.old (VRep.mono ((((hl1.trans hl2).trans hl3).trans hl4).trans hl121) hxs) ho293 hm3 hx18) fun v43 w122 hv43 => ?_)
   obtain ⟨⟨hv43, ho296⟩, hb45⟩ := hv43
   have hl122 := Le.of_bx (Add g2 (Add g1 M)) hb45 (fun b e => (by rw [show b = g from e]; exact hm3))
   have hC122 := hC121.go hb45 (fun b e => Or.inr e)
   have ho297 := ho294.go hb45 (fun e => hn1 e.symm)
   have ho298 := ho295.go hb45 (fun e => hn2 e.symm)
   obtain rfl := vint_eq hv43
   exact ⟨⟨⟨hS77.trans hb45, ho296⟩, hb45⟩, rfl⟩
  ·
   intro w123 D hS78 hd78
   have hl123 := leY hm3 hS78
   have hC123 := hC4.go hS78 (fun b e => Or.inr e)
   have ho299 := ho10.go hS78 (fun e => hn1 e.symm)
   have ho300 := ho8.go hS78 (fun e => hn2 e.symm)
   refine dg_sub (E' := [(0, (.pointer (some ⟨g, 0, none⟩)))]) ⟨rfl, trivial⟩ ?_
   refine dg_plain rfl (ow_move rfl rfl ?_)
   exact ⟨BX.refl _ _, rfl⟩
  ·
   intro w124 D hS79 hd79
   obtain ⟨hS79, ho301⟩ := hS79
   have ho301 : Own w124 g 98 #[(.slice Ax a_xs.length cx), (.int .i64 x18.2)] := ho301
   have hl124 := leY hm3 hS79
   have hC124 := hC4.go hS79 (fun b e => Or.inr e)
   have ho302 := ho10.go hS79 (fun e => hn1 e.symm)
   have ho303 := ho8.go hS79 (fun e => hn2 e.symm)
   have hd79 : PEq (.pointer (some ⟨g, 0, none⟩)) (D 5) w124 ∧ PEq (.int .i64 x18.1) (D 4) w124 ∧ True := hd79
   obtain ⟨d131, d132, -⟩ := hd79
   refine dg_sub (E' := [(35, (.pointer (some ⟨g, 0, none⟩)))]) ⟨(congrArg some d131), trivial⟩ ?_
   refine dg_plain rfl (ow_call rfl rfl Tryd.call87 (w_spec_l20Rd_pick (hG.mono ((((hl1.trans hl2).trans hl3).trans hl4).trans hl124)) hC124.old (VRep.mono ((((hl1.trans hl2).trans hl3).trans hl4).trans hl124) hxs) ho301 hm3 hx19) fun v44 w125 hv44 => ?_)
   obtain ⟨⟨hv44, ho304⟩, hb46⟩ := hv44
   have hl125 := Le.of_bx (Add g2 (Add g1 M)) hb46 (fun b e => (by rw [show b = g from e]; exact hm3))
   have hC125 := hC124.go hb46 (fun b e => Or.inr e)
   have ho305 := ho302.go hb46 (fun e => hn1 e.symm)
   have ho306 := ho303.go hb46 (fun e => hn2 e.symm)
   obtain rfl := vint_eq hv44
   exact ⟨⟨⟨hS79.trans hb46, ho304⟩, hb46⟩, rfl⟩
  ·
   intro w126 D hS80 hd80
   have hl126 := leY hm3 hS80
   have hC126 := hC4.go hS80 (fun b e => Or.inr e)
   have ho307 := ho10.go hS80 (fun e => hn1 e.symm)
   have ho308 := ho8.go hS80 (fun e => hn2 e.symm)
   have hd80 : PEq (.int .i64 x18.1) (D 4) w126 ∧ PEq (.int .i64 x19.1) (D 6) w126 ∧ True := hd80
   obtain ⟨d133, d134, -⟩ := hd80
   refine dg_sub (E' := [(34, (.int .i64 x18.1)), (36, (.int .i64 x19.1))]) ⟨(congrArg some d133), (congrArg some d134), trivial⟩ ?_
   refine dg_plain rfl (ow_buildSlice (R := RInt) (xs := [0, x18.1, x19.1, 4096]) (cs := #[(.int .i64 0), (.int .i64 x18.1), (.int .i64 x19.1), (.int .i64 4096)]) (e := 3) rfl rfl (by kernel_rfl) rfl rfl ⟨_, _, rfl, (vint _).cells, _, _, rfl, (vint _).cells, _, _, rfl, (vint _).cells, _, _, rfl, (vint _).cells, rfl⟩ hC126 fun p19 w127 hw29 hb47 hl127 hC127 => ?_)
   have ho309 := ho307.no hb47
   have ho310 := ho308.no hb47
   exact ⟨hb47, hw29⟩
  ·
   intro w128 D hS81 hd81
   have hl128 := leY hm3 hS81
   have hC128 := hC4.go hS81 (fun b e => Or.inr e)
   have ho311 := ho10.go hS81 (fun e => hn1 e.symm)
   have ho312 := ho8.go hS81 (fun e => hn2 e.symm)
   refine dg_sub (E' := [(0, (.pointer (some ⟨g, 0, none⟩)))]) ⟨rfl, trivial⟩ ?_
   refine dg_plain rfl (ow_move rfl rfl ?_)
   exact ⟨BX.refl _ _, rfl⟩
  ·
   intro w129 D hS82 hd82
   obtain ⟨hS82, ho313⟩ := hS82
   have ho313 : Own w129 g 98 #[(.slice Ax a_xs.length cx), (.int .i64 x19.2)] := ho313
   have hl129 := leY hm3 hS82
   have hC129 := hC4.go hS82 (fun b e => Or.inr e)
   have ho314 := ho10.go hS82 (fun e => hn1 e.symm)
   have ho315 := ho8.go hS82 (fun e => hn2 e.symm)
   have hd82 : PEq (.pointer (some ⟨g, 0, none⟩)) (D 8) w129 ∧ PEq (.int .i64 x19.1) (D 6) w129 ∧ True := hd82
   obtain ⟨d135, d136, -⟩ := hd82
   refine dg_sub (E' := [(38, (.pointer (some ⟨g, 0, none⟩)))]) ⟨(congrArg some d135), trivial⟩ ?_
   refine dg_plain rfl (ow_call rfl rfl Tryd.call87 (w_spec_l20Rd_pick (hG.mono ((((hl1.trans hl2).trans hl3).trans hl4).trans hl129)) hC129.old (VRep.mono ((((hl1.trans hl2).trans hl3).trans hl4).trans hl129) hxs) ho313 hm3 hx20) fun v45 w130 hv45 => ?_)
   obtain ⟨⟨hv45, ho316⟩, hb48⟩ := hv45
   have hl130 := Le.of_bx (Add g2 (Add g1 M)) hb48 (fun b e => (by rw [show b = g from e]; exact hm3))
   have hC130 := hC129.go hb48 (fun b e => Or.inr e)
   have ho317 := ho314.go hb48 (fun e => hn1 e.symm)
   have ho318 := ho315.go hb48 (fun e => hn2 e.symm)
   obtain rfl := vint_eq hv45
   exact ⟨⟨⟨hS82.trans hb48, ho316⟩, hb48⟩, rfl⟩
  ·
   intro w131 D hS83 hd83
   have hl131 := leY hm3 hS83
   have hC131 := hC4.go hS83 (fun b e => Or.inr e)
   have ho319 := ho10.go hS83 (fun e => hn1 e.symm)
   have ho320 := ho8.go hS83 (fun e => hn2 e.symm)
   have hd83 : PV (RSlice RInt) (Add g2 (Add g1 M)) [0, x18.1, x19.1, 4096] (D 7) w131 ∧ PEq (.int .i64 x20.1) (D 9) w131 ∧ True := hd83
   obtain ⟨d137, d138, -⟩ := hd83
   obtain ⟨v46, hq11⟩ : ∃ v, (D 7) = v := ⟨_, rfl⟩
   rw [hq11] at d137
   refine dg_sub (E' := [(37, v46), (39, (.int .i64 x20.1))]) ⟨(congrArg some hq11), (congrArg some d138), trivial⟩ ?_
   refine dg_plain rfl (ow_indexSlice (R := RInt) rfl rfl rfl d137 Tryd.underlying84 (Tryd.sizeOf3 _) hx21 fun p20 hp20 => ?_)
   exact ⟨BX.refl _ _, ⟨_, rfl, hp20⟩⟩
  ·
   intro w132 D hS84 hd84
   have hl132 := leY hm3 hS84
   have hC132 := hC4.go hS84 (fun b e => Or.inr e)
   have ho321 := ho10.go hS84 (fun e => hn1 e.symm)
   have ho322 := ho8.go hS84 (fun e => hn2 e.symm)
   have hd84 : PA RInt (Add g2 (Add g1 M)) x21 (D 10) w132 ∧ True := hd84
   obtain ⟨d139, -⟩ := hd84
   obtain ⟨p21, e3, ha3⟩ := d139
   refine dg_sub (E' := [(40, (.pointer (some p21)))]) ⟨(congrArg some e3), trivial⟩ ?_
   refine dg_plain rfl (ow_load (R := RInt) rfl rfl ha3 (Tryd.sizeOf3 _) (Tryd.isAgg3 _) fun v47 hv47 => ?_)
   obtain rfl := vint_eq hv47
   exact ⟨BX.refl _ _, rfl⟩
  ·
   intro w133 D hS85 hd85
   have hl133 := leY hm3 hS85
   have hC133 := hC4.go hS85 (fun b e => Or.inr e)
   have ho323 := ho10.go hS85 (fun e => hn1 e.symm)
   have ho324 := ho8.go hS85 (fun e => hn2 e.symm)
   have hd85 : PEq (.int .i64 x1.1) (D 2) w133 ∧ PEq (.int .i64 x21) (D 11) w133 ∧ True := hd85
   obtain ⟨d140, d141, -⟩ := hd85
   refine dg_sub (E' := [(32, (.int .i64 x1.1)), (41, (.int .i64 x21))]) ⟨(congrArg some d140), (congrArg some d141), trivial⟩ ?_
   refine dg_plain rfl (ow_add rfl rfl rfl ?_)
   exact ⟨BX.refl _ _, rfl⟩
  ·
   intro w134 D hS86 hd86
   have hd86 : PEq (.int .i64 a_top) (D 0) w134 ∧ PEq (.pointer (some ⟨g2, 0, none⟩)) (D 1) w134 ∧ PEq (.int .i64 x1.1) (D 2) w134 ∧ PEq (.pointer (some ⟨g, 0, none⟩)) (D 3) w134 ∧ PEq (.int .i64 x18.1) (D 4) w134 ∧ PEq (.pointer (some ⟨g, 0, none⟩)) (D 5) w134 ∧ PEq (.int .i64 x19.1) (D 6) w134 ∧ PV (RSlice RInt) (Add g2 (Add g1 M)) [0, x18.1, x19.1, 4096] (D 7) w134 ∧ PEq (.pointer (some ⟨g, 0, none⟩)) (D 8) w134 ∧ PEq (.int .i64 x20.1) (D 9) w134 ∧ PA RInt (Add g2 (Add g1 M)) x21 (D 10) w134 ∧ PEq (.int .i64 x21) (D 11) w134 ∧ PEq (.int .i64 (W (x1.1 + x21))) (D 12) w134 ∧ True := hd86
   obtain ⟨d142, -, -, -, -, -, -, -, -, -, -, -, d154, -⟩ := hd86
   obtain ⟨hS86, ho325⟩ := hS86
   have ho325 : Own w134 g 98 #[(.slice Ax a_xs.length cx), (.int .i64 x20.2)] := ho325
   have hl134 := leY hm3 hS86
   have hC134 := hC4.go hS86 (fun b e => Or.inr e)
   have ho326 := ho10.go hS86 (fun e => hn1 e.symm)
   have ho327 := ho8.go hS86 (fun e => hn2 e.symm)
   refine lw_sub (E' := [(30, (.int .i64 a_top)), (42, (.int .i64 (W (x1.1 + x21)))), (0, (.pointer (some ⟨g, 0, none⟩))), (1, (.int .i64 a_top)), (2, (.int .i64 a_n)), (6, (.pointer (some ⟨g1, 0, none⟩))), (7, (.pointer (some ⟨g2, 0, none⟩)))]) ⟨(congrArg some d142), (congrArg some d154), rfl, rfl, rfl, rfl, rfl, trivial⟩ ?_
   refine lw_op rfl rfl rfl (ow_min rfl rfl rfl ?_)
   refine lw_op rfl rfl rfl (ow_fieldAddr rfl rfl Tryd.underlying76 rfl (Tryd.sizeOf3 _) ?_)
   refine lw_op0 rfl rfl (ow_store (X := (One g)) (us := [(.int .i64 (imin a_top (W (x1.1 + x21))))]) (cs' := #[(.int .i64 x1.1), (.int .i64 (imin a_top (W (x1.1 + x21))))]) rfl rfl rfl rfl ho327 (Tryd.sizeOf3 _) rfl rfl rfl rfl hm5 (.inl hg4) rfl hC134 fun w135 ho328 hb49 hl135 hC135 => ?_)
   have ho329 := ho325.go hb49 (fun e => hn2 e)
   have ho330 := ho326.go hb49 (fun e => hn3 e)
   refine lw_nil (ew_then (cw_seq (cw_seq (cw_region (lw_op rfl rfl rfl (ow_move rfl rfl ?_))))))
   refine lw_op rfl rfl rfl (ow_move rfl rfl ?_)
   replace h := bind_some h
   obtain ⟨x22, hx22, h⟩ := h
   refine lw_op rfl rfl rfl (ow_call rfl rfl Tryd.call92 (w_spec_l20Rd_odd (hG.mono (((((hl1.trans hl2).trans hl3).trans hl4).trans hl134).trans hl135)) hC135.old (VRep.mono (((((hl1.trans hl2).trans hl3).trans hl4).trans hl134).trans hl135) hxs) ho329 hm3 hx22) fun v48 w136 hv48 => ?_)
   obtain ⟨⟨hv48, ho331⟩, hb50⟩ := hv48
   have hl136 := Le.of_bx (Add g2 (Add g1 M)) hb50 (fun b e => (by rw [show b = g from e]; exact hm3))
   have hC136 := hC135.go hb50 (fun b e => Or.inr e)
   have ho332 := ho330.go hb50 (fun e => hn1 e.symm)
   have ho333 := ho328.go hb50 (fun e => hn2 e.symm)
   obtain ⟨bb5, hbb5, rfl⟩ := vbool_ex hv48
   refine lw_nil (ew_then ?_)
   replace h := cond_some h
   rcases h with ⟨hc5, h⟩ | ⟨hc5, h⟩
   ·
    obtain rfl := hbb5.trans hc5
    refine cw_true rfl ?_
    refine cw_seq ?_
    replace h := bind_some h
    obtain ⟨x23, hx23, h⟩ := h
    refine cw_sub (E' := [(0, (.pointer (some ⟨g, 0, none⟩))), (1, (.int .i64 a_top)), (6, (.pointer (some ⟨g1, 0, none⟩))), (7, (.pointer (some ⟨g2, 0, none⟩)))]) ⟨rfl, rfl, rfl, rfl, trivial⟩ ?_
    refine cw_drawC (g := g) (T := 98) 17 1 [none, none, none, none, none, none, none, none, none, none, none, none, none, none, none, none, some 0] [#[(.slice Ax a_xs.length cx), (.int .i64 x22.2)], #[(.slice Ax a_xs.length cx), (.int .i64 x23.2)]] [PEq (.pointer (some ⟨g2, 1, none⟩)), PEq (.int .i64 (imin a_top (W (x1.1 + x21)))), PEq (.int .i64 (W ((imin a_top (W (x1.1 + x21))) + 1))), PEq (.pointer (some ⟨g2, 1, none⟩)), PEq (.int .i64 (imin a_top (W (x1.1 + x21)))), PV RSpan (Add g2 (Add g1 M)) ({ Lo := (W ((imin a_top (W (x1.1 + x21))) + 1)), Hi := (imin a_top (W (x1.1 + x21))) } : Span), PEq (.pointer (some ⟨g2, 1, none⟩)), PEq (.int .i64 (imin a_top (W (x1.1 + x21)))), PV RSpan (Add g2 (Add g1 M)) ({ Lo := (-1), Hi := (imin a_top (W (x1.1 + x21))) } : Span), PEq (.pointer (some ⟨g2, 0, none⟩)), PEq (.int .i64 x1.1), PEq (.int .i64 a_top), PEq (.int .i64 (W (a_top + 1))), PV RSpan (Add g2 (Add g1 M)) ({ Lo := x1.1, Hi := (W (a_top + 1)) } : Span), PV (RSlice RSpan) (Add g2 (Add g1 M)) [({ Lo := (W ((imin a_top (W (x1.1 + x21))) + 1)), Hi := (imin a_top (W (x1.1 + x21))) } : Span), ({ Lo := (-1), Hi := (imin a_top (W (x1.1 + x21))) } : Span), ({ Lo := x1.1, Hi := (W (a_top + 1)) } : Span)], PEq (.pointer (some ⟨g, 0, none⟩)), PEq (.int .i64 x23.1)] (by kernel_rfl) rfl (by kernel_rfl) (by kernel_rfl) ho331 ⟨(PEq.monoY hm3 _), (PEq.monoY hm3 _), (PEq.monoY hm3 _), (PEq.monoY hm3 _), (PEq.monoY hm3 _), (PV.monoY hm3 _ _), (PEq.monoY hm3 _), (PEq.monoY hm3 _), (PV.monoY hm3 _ _), (PEq.monoY hm3 _), (PEq.monoY hm3 _), (PEq.monoY hm3 _), (PEq.monoY hm3 _), (PV.monoY hm3 _ _), (PV.monoY hm3 _ _), (PEq.monoY hm3 _), (PEq.monoY hm3 _), trivial⟩ ⟨?_, ?_, ?_, ?_, ?_, ?_, ?_, ?_, ?_, ?_, ?_, ?_, ?_, ?_, ?_, ?_, ?_, trivial⟩ ?_
    ·
     intro w139 D hS87 hd87
     have hl139 := leY hm3 hS87
     have hC139 := hC136.go hS87 (fun b e => Or.inr e)
     have ho340 := ho332.go hS87 (fun e => hn1 e.symm)
     have ho341 := ho333.go hS87 (fun e => hn2 e.symm)
     refine dg_sub (E' := [(7, (.pointer (some ⟨g2, 0, none⟩)))]) ⟨rfl, trivial⟩ ?_
     refine dg_plain rfl (ow_fieldAddr rfl rfl Tryd.underlying76 rfl (Tryd.sizeOf3 _) ?_)
     exact ⟨BX.refl _ _, rfl⟩
    ·
     intro w140 D hS88 hd88
     have hl140 := leY hm3 hS88
     have hC140 := hC136.go hS88 (fun b e => Or.inr e)
     have ho342 := ho332.go hS88 (fun e => hn1 e.symm)
     have ho343 := ho333.go hS88 (fun e => hn2 e.symm)
     have hd88 : PEq (.pointer (some ⟨g2, 1, none⟩)) (D 0) w140 ∧ True := hd88
     obtain ⟨d155, -⟩ := hd88
     refine dg_sub (E' := [(48, (.pointer (some ⟨g2, 1, none⟩)))]) ⟨(congrArg some d155), trivial⟩ ?_
     refine dg_plain rfl (ow_loadOwn1 rfl rfl rfl ho343 (Tryd.isAgg3 _) rfl ?_)
     exact ⟨BX.refl _ _, rfl⟩
    ·
     intro w141 D hS89 hd89
     have hl141 := leY hm3 hS89
     have hC141 := hC136.go hS89 (fun b e => Or.inr e)
     have ho344 := ho332.go hS89 (fun e => hn1 e.symm)
     have ho345 := ho333.go hS89 (fun e => hn2 e.symm)
     have hd89 : PEq (.int .i64 (imin a_top (W (x1.1 + x21)))) (D 1) w141 ∧ True := hd89
     obtain ⟨d156, -⟩ := hd89
     refine dg_sub (E' := [(49, (.int .i64 (imin a_top (W (x1.1 + x21)))))]) ⟨(congrArg some d156), trivial⟩ ?_
     refine dg_plain rfl (ow_add rfl rfl rfl ?_)
     exact ⟨BX.refl _ _, rfl⟩
    ·
     intro w142 D hS90 hd90
     have hl142 := leY hm3 hS90
     have hC142 := hC136.go hS90 (fun b e => Or.inr e)
     have ho346 := ho332.go hS90 (fun e => hn1 e.symm)
     have ho347 := ho333.go hS90 (fun e => hn2 e.symm)
     refine dg_sub (E' := [(7, (.pointer (some ⟨g2, 0, none⟩)))]) ⟨rfl, trivial⟩ ?_
     refine dg_plain rfl (ow_fieldAddr rfl rfl Tryd.underlying76 rfl (Tryd.sizeOf3 _) ?_)
     exact ⟨BX.refl _ _, rfl⟩
    ·
     intro w143 D hS91 hd91
     have hl143 := leY hm3 hS91
     have hC143 := hC136.go hS91 (fun b e => Or.inr e)
     have ho348 := ho332.go hS91 (fun e => hn1 e.symm)
     have ho349 := ho333.go hS91 (fun e => hn2 e.symm)
     have hd91 : PEq (.pointer (some ⟨g2, 1, none⟩)) (D 3) w143 ∧ True := hd91
     obtain ⟨d157, -⟩ := hd91
     refine dg_sub (E' := [(51, (.pointer (some ⟨g2, 1, none⟩)))]) ⟨(congrArg some d157), trivial⟩ ?_
     refine dg_plain rfl (ow_loadOwn1 rfl rfl rfl ho349 (Tryd.isAgg3 _) rfl ?_)
     exact ⟨BX.refl _ _, rfl⟩
    ·
     intro w144 D hS92 hd92
     have hl144 := leY hm3 hS92
     have hC144 := hC136.go hS92 (fun b e => Or.inr e)
     have ho350 := ho332.go hS92 (fun e => hn1 e.symm)
     have ho351 := ho333.go hS92 (fun e => hn2 e.symm)
     have hd92 : PEq (.int .i64 (W ((imin a_top (W (x1.1 + x21))) + 1))) (D 2) w144 ∧ PEq (.int .i64 (imin a_top (W (x1.1 + x21)))) (D 4) w144 ∧ True := hd92
     obtain ⟨d158, d159, -⟩ := hd92
     refine dg_sub (E' := [(50, (.int .i64 (W ((imin a_top (W (x1.1 + x21))) + 1)))), (52, (.int .i64 (imin a_top (W (x1.1 + x21)))))]) ⟨(congrArg some d158), (congrArg some d159), trivial⟩ ?_
     refine dg_plain rfl (ow_build (v := .agg #[(.int .i64 (W ((imin a_top (W (x1.1 + x21))) + 1))), (.int .i64 (imin a_top (W (x1.1 + x21))))]) rfl rfl (by kernel_rfl) ?_)
     have hw34 : VRep RSpan w144 (Add g2 (Add g1 M)) ({ Lo := (W ((imin a_top (W (x1.1 + x21))) + 1)), Hi := (imin a_top (W (x1.1 + x21))) } : Span) (.agg #[(.int .i64 (W ((imin a_top (W (x1.1 + x21))) + 1))), (.int .i64 (imin a_top (W (x1.1 + x21))))]) := shut_Span
     exact ⟨BX.refl _ _, hw34⟩
    ·
     intro w145 D hS93 hd93
     have hl145 := leY hm3 hS93
     have hC145 := hC136.go hS93 (fun b e => Or.inr e)
     have ho352 := ho332.go hS93 (fun e => hn1 e.symm)
     have ho353 := ho333.go hS93 (fun e => hn2 e.symm)
     refine dg_sub (E' := [(7, (.pointer (some ⟨g2, 0, none⟩)))]) ⟨rfl, trivial⟩ ?_
     refine dg_plain rfl (ow_fieldAddr rfl rfl Tryd.underlying76 rfl (Tryd.sizeOf3 _) ?_)
     exact ⟨BX.refl _ _, rfl⟩
    ·
     intro w146 D hS94 hd94
     have hl146 := leY hm3 hS94
     have hC146 := hC136.go hS94 (fun b e => Or.inr e)
     have ho354 := ho332.go hS94 (fun e => hn1 e.symm)
     have ho355 := ho333.go hS94 (fun e => hn2 e.symm)
     have hd94 : PEq (.pointer (some ⟨g2, 1, none⟩)) (D 6) w146 ∧ True := hd94
     obtain ⟨d160, -⟩ := hd94
     refine dg_sub (E' := [(54, (.pointer (some ⟨g2, 1, none⟩)))]) ⟨(congrArg some d160), trivial⟩ ?_
     refine dg_plain rfl (ow_loadOwn1 rfl rfl rfl ho355 (Tryd.isAgg3 _) rfl ?_)
     exact ⟨BX.refl _ _, rfl⟩
    ·
     intro w147 D hS95 hd95
     have hl147 := leY hm3 hS95
     have hC147 := hC136.go hS95 (fun b e => Or.inr e)
     have ho356 := ho332.go hS95 (fun e => hn1 e.symm)
     have ho357 := ho333.go hS95 (fun e => hn2 e.symm)
     have hd95 : PEq (.int .i64 (imin a_top (W (x1.1 + x21)))) (D 7) w147 ∧ True := hd95
     obtain ⟨d161, -⟩ := hd95
     refine dg_sub (E' := [(55, (.int .i64 (imin a_top (W (x1.1 + x21)))))]) ⟨(congrArg some d161), trivial⟩ ?_
     refine dg_plain rfl (ow_build (v := .agg #[(.int .i64 (-1)), (.int .i64 (imin a_top (W (x1.1 + x21))))]) rfl rfl (by kernel_rfl) ?_)
     have hw35 : VRep RSpan w147 (Add g2 (Add g1 M)) ({ Lo := (-1), Hi := (imin a_top (W (x1.1 + x21))) } : Span) (.agg #[(.int .i64 (-1)), (.int .i64 (imin a_top (W (x1.1 + x21))))]) := shut_Span
     exact ⟨BX.refl _ _, hw35⟩
    ·
     intro w148 D hS96 hd96
     have hl148 := leY hm3 hS96
     have hC148 := hC136.go hS96 (fun b e => Or.inr e)
     have ho358 := ho332.go hS96 (fun e => hn1 e.symm)
     have ho359 := ho333.go hS96 (fun e => hn2 e.symm)
     refine dg_sub (E' := [(7, (.pointer (some ⟨g2, 0, none⟩)))]) ⟨rfl, trivial⟩ ?_
     refine dg_plain rfl (ow_fieldAddr rfl rfl Tryd.underlying76 rfl (Tryd.sizeOf3 _) ?_)
     exact ⟨BX.refl _ _, rfl⟩
    ·
     intro w149 D hS97 hd97
     have hl149 := leY hm3 hS97
     have hC149 := hC136.go hS97 (fun b e => Or.inr e)
     have ho360 := ho332.go hS97 (fun e => hn1 e.symm)
     have ho361 := ho333.go hS97 (fun e => hn2 e.symm)
     have hd97 : PEq (.pointer (some ⟨g2, 0, none⟩)) (D 9) w149 ∧ True := hd97
     obtain ⟨d162, -⟩ := hd97
     refine dg_sub (E' := [(57, (.pointer (some ⟨g2, 0, none⟩)))]) ⟨(congrArg some d162), trivial⟩ ?_
     refine dg_plain rfl (ow_loadOwn1 rfl rfl rfl ho361 (Tryd.isAgg3 _) rfl ?_)
     exact ⟨BX.refl _ _, rfl⟩
    ·
     intro w150 D hS98 hd98
     have hl150 := leY hm3 hS98
     have hC150 := hC136.go hS98 (fun b e => Or.inr e)
     have ho362 := ho332.go hS98 (fun e => hn1 e.symm)
     have ho363 := ho333.go hS98 (fun e => hn2 e.symm)
     refine dg_sub (E' := [(1, (.int .i64 a_top))]) ⟨rfl, trivial⟩ ?_
     refine dg_plain rfl (ow_move rfl rfl ?_)
     exact ⟨BX.refl _ _, rfl⟩
    ·
     intro w151 D hS99 hd99
     have hl151 := leY hm3 hS99
     have hC151 := hC136.go hS99 (fun b e => Or.inr e)
     have ho364 := ho332.go hS99 (fun e => hn1 e.symm)
     have ho365 := ho333.go hS99 (fun e => hn2 e.symm)
     have hd99 : PEq (.int .i64 a_top) (D 11) w151 ∧ True := hd99
     obtain ⟨d163, -⟩ := hd99
     refine dg_sub (E' := [(59, (.int .i64 a_top))]) ⟨(congrArg some d163), trivial⟩ ?_
     refine dg_plain rfl (ow_add rfl rfl rfl ?_)
     exact ⟨BX.refl _ _, rfl⟩
    ·
     intro w152 D hS100 hd100
     have hl152 := leY hm3 hS100
     have hC152 := hC136.go hS100 (fun b e => Or.inr e)
     have ho366 := ho332.go hS100 (fun e => hn1 e.symm)
     have ho367 := ho333.go hS100 (fun e => hn2 e.symm)
     have hd100 : PEq (.int .i64 x1.1) (D 10) w152 ∧ PEq (.int .i64 (W (a_top + 1))) (D 12) w152 ∧ True := hd100
     obtain ⟨d164, d165, -⟩ := hd100
     refine dg_sub (E' := [(58, (.int .i64 x1.1)), (60, (.int .i64 (W (a_top + 1))))]) ⟨(congrArg some d164), (congrArg some d165), trivial⟩ ?_
     refine dg_plain rfl (ow_build (v := .agg #[(.int .i64 x1.1), (.int .i64 (W (a_top + 1)))]) rfl rfl (by kernel_rfl) ?_)
     have hw36 : VRep RSpan w152 (Add g2 (Add g1 M)) ({ Lo := x1.1, Hi := (W (a_top + 1)) } : Span) (.agg #[(.int .i64 x1.1), (.int .i64 (W (a_top + 1)))]) := shut_Span
     exact ⟨BX.refl _ _, hw36⟩
    ·
     intro w153 D hS101 hd101
     have hl153 := leY hm3 hS101
     have hC153 := hC136.go hS101 (fun b e => Or.inr e)
     have ho368 := ho332.go hS101 (fun e => hn1 e.symm)
     have ho369 := ho333.go hS101 (fun e => hn2 e.symm)
     have hd101 : PV RSpan (Add g2 (Add g1 M)) ({ Lo := (W ((imin a_top (W (x1.1 + x21))) + 1)), Hi := (imin a_top (W (x1.1 + x21))) } : Span) (D 5) w153 ∧ PV RSpan (Add g2 (Add g1 M)) ({ Lo := (-1), Hi := (imin a_top (W (x1.1 + x21))) } : Span) (D 8) w153 ∧ PV RSpan (Add g2 (Add g1 M)) ({ Lo := x1.1, Hi := (W (a_top + 1)) } : Span) (D 13) w153 ∧ True := hd101
     obtain ⟨d166, d167, d168, -⟩ := hd101
     obtain ⟨v50, hq12⟩ : ∃ v, (D 5) = v := ⟨_, rfl⟩
     rw [hq12] at d166
     obtain ⟨v51, hq13⟩ : ∃ v, (D 8) = v := ⟨_, rfl⟩
     rw [hq13] at d167
     obtain ⟨v52, hq14⟩ : ∃ v, (D 13) = v := ⟨_, rfl⟩
     rw [hq14] at d168
     refine dg_sub (E' := [(53, v50), (56, v51), (61, v52)]) ⟨(congrArg some hq12), (congrArg some hq13), (congrArg some hq14), trivial⟩ ?_
     obtain rfl := open_Span d166
     obtain rfl := open_Span d167
     obtain rfl := open_Span d168
     refine dg_plain rfl (ow_buildSlice (R := RSpan) (xs := [({ Lo := (W ((imin a_top (W (x1.1 + x21))) + 1)), Hi := (imin a_top (W (x1.1 + x21))) } : Span), ({ Lo := (-1), Hi := (imin a_top (W (x1.1 + x21))) } : Span), ({ Lo := x1.1, Hi := (W (a_top + 1)) } : Span)]) (cs := #[(.int .i64 ({ Lo := (W ((imin a_top (W (x1.1 + x21))) + 1)), Hi := (imin a_top (W (x1.1 + x21))) } : Span).Lo), (.int .i64 ({ Lo := (W ((imin a_top (W (x1.1 + x21))) + 1)), Hi := (imin a_top (W (x1.1 + x21))) } : Span).Hi), (.int .i64 ({ Lo := (-1), Hi := (imin a_top (W (x1.1 + x21))) } : Span).Lo), (.int .i64 ({ Lo := (-1), Hi := (imin a_top (W (x1.1 + x21))) } : Span).Hi), (.int .i64 ({ Lo := x1.1, Hi := (W (a_top + 1)) } : Span).Lo), (.int .i64 ({ Lo := x1.1, Hi := (W (a_top + 1)) } : Span).Hi)]) (e := 76) rfl rfl (by kernel_rfl) rfl rfl ⟨_, _, rfl, d166.cells, _, _, rfl, d167.cells, _, _, rfl, d168.cells, rfl⟩ hC153 fun p23 w154 hw37 hb53 hl154 hC154 => ?_)
     have ho370 := ho368.no hb53
     have ho371 := ho369.no hb53
     exact ⟨hb53, hw37⟩
    ·
     intro w155 D hS102 hd102
     have hl155 := leY hm3 hS102
     have hC155 := hC136.go hS102 (fun b e => Or.inr e)
     have ho372 := ho332.go hS102 (fun e => hn1 e.symm)
     have ho373 := ho333.go hS102 (fun e => hn2 e.symm)
     refine dg_sub (E' := [(0, (.pointer (some ⟨g, 0, none⟩)))]) ⟨rfl, trivial⟩ ?_
     refine dg_plain rfl (ow_move rfl rfl ?_)
     exact ⟨BX.refl _ _, rfl⟩
    ·
     intro w156 D hS103 hd103
     obtain ⟨hS103, ho374⟩ := hS103
     have ho374 : Own w156 g 98 #[(.slice Ax a_xs.length cx), (.int .i64 x22.2)] := ho374
     have hl156 := leY hm3 hS103
     have hC156 := hC136.go hS103 (fun b e => Or.inr e)
     have ho375 := ho332.go hS103 (fun e => hn1 e.symm)
     have ho376 := ho333.go hS103 (fun e => hn2 e.symm)
     have hd103 : PEq (.pointer (some ⟨g, 0, none⟩)) (D 15) w156 ∧ True := hd103
     obtain ⟨d169, -⟩ := hd103
     refine dg_sub (E' := [(63, (.pointer (some ⟨g, 0, none⟩)))]) ⟨(congrArg some d169), trivial⟩ ?_
     refine dg_plain rfl (ow_call rfl rfl Tryd.call87 (w_spec_l20Rd_pick (hG.mono (((((((hl1.trans hl2).trans hl3).trans hl4).trans hl134).trans hl135).trans hl136).trans hl156)) hC156.old (VRep.mono (((((((hl1.trans hl2).trans hl3).trans hl4).trans hl134).trans hl135).trans hl136).trans hl156) hxs) ho374 hm3 hx23) fun v53 w157 hv53 => ?_)
     obtain ⟨⟨hv53, ho377⟩, hb54⟩ := hv53
     have hl157 := Le.of_bx (Add g2 (Add g1 M)) hb54 (fun b e => (by rw [show b = g from e]; exact hm3))
     have hC157 := hC156.go hb54 (fun b e => Or.inr e)
     have ho378 := ho375.go hb54 (fun e => hn1 e.symm)
     have ho379 := ho376.go hb54 (fun e => hn2 e.symm)
     obtain rfl := vint_eq hv53
     exact ⟨⟨⟨hS103.trans hb54, ho377⟩, hb54⟩, rfl⟩
    ·
     intro w158 D hS104 hd104
     have hd104 : PEq (.pointer (some ⟨g2, 1, none⟩)) (D 0) w158 ∧ PEq (.int .i64 (imin a_top (W (x1.1 + x21)))) (D 1) w158 ∧ PEq (.int .i64 (W ((imin a_top (W (x1.1 + x21))) + 1))) (D 2) w158 ∧ PEq (.pointer (some ⟨g2, 1, none⟩)) (D 3) w158 ∧ PEq (.int .i64 (imin a_top (W (x1.1 + x21)))) (D 4) w158 ∧ PV RSpan (Add g2 (Add g1 M)) ({ Lo := (W ((imin a_top (W (x1.1 + x21))) + 1)), Hi := (imin a_top (W (x1.1 + x21))) } : Span) (D 5) w158 ∧ PEq (.pointer (some ⟨g2, 1, none⟩)) (D 6) w158 ∧ PEq (.int .i64 (imin a_top (W (x1.1 + x21)))) (D 7) w158 ∧ PV RSpan (Add g2 (Add g1 M)) ({ Lo := (-1), Hi := (imin a_top (W (x1.1 + x21))) } : Span) (D 8) w158 ∧ PEq (.pointer (some ⟨g2, 0, none⟩)) (D 9) w158 ∧ PEq (.int .i64 x1.1) (D 10) w158 ∧ PEq (.int .i64 a_top) (D 11) w158 ∧ PEq (.int .i64 (W (a_top + 1))) (D 12) w158 ∧ PV RSpan (Add g2 (Add g1 M)) ({ Lo := x1.1, Hi := (W (a_top + 1)) } : Span) (D 13) w158 ∧ PV (RSlice RSpan) (Add g2 (Add g1 M)) [({ Lo := (W ((imin a_top (W (x1.1 + x21))) + 1)), Hi := (imin a_top (W (x1.1 + x21))) } : Span), ({ Lo := (-1), Hi := (imin a_top (W (x1.1 + x21))) } : Span), ({ Lo := x1.1, Hi := (W (a_top + 1)) } : Span)] (D 14) w158 ∧ PEq (.pointer (some ⟨g, 0, none⟩)) (D 15) w158 ∧ PEq (.int .i64 x23.1) (D 16) w158 ∧ True := hd104
     obtain ⟨-, -, -, -, -, -, -, -, -, -, -, -, -, -, d184, -, d186, -⟩ := hd104
     obtain ⟨hS104, ho380⟩ := hS104
     have ho380 : Own w158 g 98 #[(.slice Ax a_xs.length cx), (.int .i64 x23.2)] := ho380
     have hl158 := leY hm3 hS104
     have hC158 := hC136.go hS104 (fun b e => Or.inr e)
     have ho381 := ho332.go hS104 (fun e => hn1 e.symm)
     have ho382 := ho333.go hS104 (fun e => hn2 e.symm)
     obtain ⟨v54, hq15⟩ : ∃ v, (D 14) = v := ⟨_, rfl⟩
     rw [hq15] at d184
     refine lw_sub (E' := [(62, v54), (64, (.int .i64 x23.1)), (0, (.pointer (some ⟨g, 0, none⟩))), (1, (.int .i64 a_top)), (6, (.pointer (some ⟨g1, 0, none⟩))), (7, (.pointer (some ⟨g2, 0, none⟩)))]) ⟨(congrArg some hq15), (congrArg some d186), rfl, rfl, rfl, rfl, trivial⟩ ?_
     replace h := bind_some h
     obtain ⟨x24, hx24, h⟩ := h
     refine lw_op rfl rfl rfl (ow_indexSlice (R := RSpan) rfl rfl rfl d184 Tryd.underlying58 (Tryd.sizeOf76 _) hx24 fun p24 hp24 => ?_)
     refine lw_op rfl rfl rfl (ow_load (R := RSpan) rfl rfl hp24 (Tryd.sizeOf76 _) (Tryd.isAgg76 _) fun v55 hv55 => ?_)
     obtain rfl := open_Span hv55
     refine lw_op0 rfl rfl (ow_store (X := (One g)) (us := [(.int .i64 x24.Lo), (.int .i64 x24.Hi)]) (cs' := #[(.int .i64 x24.Lo), (.int .i64 x24.Hi)]) rfl rfl rfl rfl ho381 (Tryd.sizeOf76 _) rfl rfl rfl rfl hm4 (.inl hg2) rfl hC158 fun w159 ho383 hb55 hl159 hC159 => ?_)
     have ho384 := ho380.go hb55 (fun e => hn1 e)
     have ho385 := ho382.go hb55 (fun e => hn3 e.symm)
     refine lw_nil (ew_then (cw_ret (ew_thenR ?_)))
     have hw38 : VRep RSpan w159 (Add g2 (Add g1 M)) ({ Lo := x24.Lo, Hi := x24.Hi } : Span) (.agg #[(.int .i64 x24.Lo), (.int .i64 x24.Hi)]) := shut_Span
     obtain rfl := Option.some.inj h
     exact ew_ret (res1 rfl (.cell rfl (own_loadVarA ho383 (Tryd.isAgg76 _) (Tryd.sizeOf76 _) rfl))) ⟨_, rfl, ⟨(hw38.mono hC159.back), ho384⟩, hC159.bx⟩
   ·
    obtain rfl := hbb5.trans hc5
    refine cw_false rfl ?_
    refine cw_skip (ew_then (cw_seq (cw_region (lw_op rfl rfl rfl (ow_loadOwnA rfl rfl rfl ho333 (Tryd.isAgg76 _) (Tryd.sizeOf76 _) rfl ?_)))))
    have hw39 : VRep RSpan w136 (Add g2 (Add g1 M)) ({ Lo := x1.1, Hi := (imin a_top (W (x1.1 + x21))) } : Span) (.agg #[(.int .i64 x1.1), (.int .i64 (imin a_top (W (x1.1 + x21))))]) := shut_Span
    refine lw_op0 rfl rfl (ow_store (X := (One g)) (us := [(.int .i64 x1.1), (.int .i64 (imin a_top (W (x1.1 + x21))))]) (cs' := #[(.int .i64 x1.1), (.int .i64 (imin a_top (W (x1.1 + x21))))]) rfl rfl rfl rfl ho332 (Tryd.sizeOf76 _) rfl rfl rfl rfl hm4 (.inl hg2) rfl hC136 fun w160 ho386 hb56 hl160 hC160 => ?_)
    have ho387 := ho331.go hb56 (fun e => hn1 e)
    have ho388 := ho333.go hb56 (fun e => hn3 e.symm)
    refine lw_nil (ew_then (cw_ret ?_))
    have hw40 : VRep RSpan w160 (Add g2 (Add g1 M)) ({ Lo := x1.1, Hi := (imin a_top (W (x1.1 + x21))) } : Span) (.agg #[(.int .i64 x1.1), (.int .i64 (imin a_top (W (x1.1 + x21))))]) := shut_Span
    obtain rfl := Option.some.inj h
    exact ew_ret (res1 rfl (.cell rfl (own_loadVarA ho386 (Tryd.isAgg76 _) (Tryd.sizeOf76 _) rfl))) ⟨_, rfl, ⟨(hw40.mono hC160.back), ho387⟩, hC160.bx⟩

theorem w_spec_FieldTop {w : World} {M : Nat → Prop} (_hG : ARep (RArr 4 RShape) w M shapes ⟨0, 0, none⟩) (hO : ∀ b, M b → b < w.heap.size) {a_n : Int} {r : Int} (h : F.spec_FieldTop a_n = some r) :
  Calls Tryd.prog 81 [(.int .i64 a_n)].toArray w fun e w' => ∃ v, e = .returned v ∧ VRep RInt w' M r v ∧ BX No w w' := by
 have hC : Cx No w M w M := Cx.start hO (fun _ e => e.elim)
 clear _hG
 refine walk (N := 11) Tryd.func81 rfl Tryd.ntmps81 rfl ?_
 refine cw_seq (cw_region (lw_op rfl rfl rfl (ow_assign rfl rfl ?_)))
 refine lw_nil (ew_then (cw_seq (cw_seq (cw_region (lw_op rfl rfl rfl (ow_move rfl rfl ?_))))))
 refine lw_nil (ew_then (cw_block ?_))
 refine cw_seq (cw_seq (cw_region (lw_op rfl rfl rfl (ow_eqlI rfl rfl rfl fun bb1 hbb1 => ?_))))
 refine lw_op rfl rfl rfl (ow_assign rfl rfl ?_)
 refine lw_nil (ew_then ?_)
 replace h := cond_some h
 rcases h with ⟨hc1, h⟩ | ⟨hc1, h⟩
 ·
  obtain rfl := hbb1.trans hc1
  refine cw_true rfl ?_
  refine cw_skip (ew_then (cw_true rfl ?_))
  refine cw_seq (cw_region (lw_op rfl rfl rfl (ow_assign rfl rfl ?_)))
  refine lw_nil (ew_then (cw_ret (ew_blockR ?_)))
  refine ew_thenR ?_
  obtain rfl := Option.some.inj h
  exact ew_ret (res1 rfl (.tmp rfl)) ⟨_, rfl, ((vint _)), hC.bx⟩
 ·
  obtain rfl := hbb1.trans hc1
  refine cw_false rfl ?_
  refine cw_region (lw_op rfl rfl rfl (ow_eqlI rfl rfl rfl fun bb2 hbb2 => ?_))
  refine lw_op rfl rfl rfl (ow_assign rfl rfl ?_)
  refine lw_nil (ew_then ?_)
  replace h := cond_some h
  rcases h with ⟨hc2, h⟩ | ⟨hc2, h⟩
  ·
   obtain rfl := hbb2.trans hc2
   refine cw_true rfl ?_
   refine cw_seq (cw_region (lw_op rfl rfl rfl (ow_assign rfl rfl ?_)))
   refine lw_nil (ew_then (cw_ret (ew_blockR ?_)))
   refine ew_thenR ?_
   obtain rfl := Option.some.inj h
   exact ew_ret (res1 rfl (.tmp rfl)) ⟨_, rfl, ((vint _)), hC.bx⟩
  ·
   obtain rfl := hbb2.trans hc2
   refine cw_false rfl ?_
   refine cw_seq (cw_region (lw_op rfl rfl rfl (ow_eqlI rfl rfl rfl fun bb3 hbb3 => ?_)))
   refine lw_op rfl rfl rfl (ow_assign rfl rfl ?_)
   refine lw_nil (ew_then ?_)
   replace h := cond_some h
   rcases h with ⟨hc3, h⟩ | ⟨hc3, h⟩
   ·
    obtain rfl := hbb3.trans hc3
    refine cw_true rfl ?_
    refine cw_seq (cw_region (lw_op rfl rfl rfl (ow_assign rfl rfl ?_)))
    refine lw_nil (ew_then (cw_ret (ew_blockR ?_)))
    refine ew_thenR ?_
    obtain rfl := Option.some.inj h
    exact ew_ret (res1 rfl (.tmp rfl)) ⟨_, rfl, ((vint _)), hC.bx⟩
   ·
    obtain rfl := hbb3.trans hc3
    refine cw_false rfl ?_
    refine cw_seq (cw_region (lw_op rfl rfl rfl (ow_eqlI rfl rfl rfl fun bb4 hbb4 => ?_)))
    refine lw_op rfl rfl rfl (ow_assign rfl rfl ?_)
    refine lw_nil (ew_then ?_)
    replace h := cond_some h
    rcases h with ⟨hc4, h⟩ | ⟨hc4, h⟩
    ·
     obtain rfl := hbb4.trans hc4
     refine cw_true rfl ?_
     refine cw_seq (cw_region (lw_op rfl rfl rfl (ow_assign rfl rfl ?_)))
     refine lw_nil (ew_then (cw_ret (ew_blockR ?_)))
     refine ew_thenR ?_
     obtain rfl := Option.some.inj h
     exact ew_ret (res1 rfl (.tmp rfl)) ⟨_, rfl, ((vint _)), hC.bx⟩
    ·
     obtain rfl := hbb4.trans hc4
     refine cw_false rfl ?_
     refine cw_skip (ew_blockN ?_)
     refine ew_then (cw_seq (cw_region (lw_op rfl rfl rfl (ow_assign rfl rfl ?_))))
     refine lw_nil (ew_then (cw_ret ?_))
     obtain rfl := Option.some.inj h
     exact ew_ret (res1 rfl (.tmp rfl)) ⟨_, rfl, ((vint _)), hC.bx⟩


end Go.PF
