/- For every input the law laws.FnExactFirstFit returns true, and its arguments read as they did. Conditions: none but the row's own: the listed variable reads as the program's text lays it (tied). -/
import Derived.Test.YtggckckjmhhdhaaDoorTop
import Derived.Test.YtggckckjmhhdhaaDoorWk1
import Derived.Test.YtggckckjmhhdhaaDoorPlE
namespace Go.Proofs.YtggckckjmhhdhaaDoor
open Go Go.PF Go.RowKit Go.ChangeShapes Go.WideShapes
set_option maxRecDepth 100000
theorem o_3 : Opens Tryd.prog RInt GInt 3 := opens_int Tryd.underlying3 (by kernel_rfl)
theorem o_4 : Opens Tryd.prog RBool GAny 4 := opens_bool Tryd.underlying4 (by kernel_rfl)
theorem o_150 : Opens Tryd.prog RTest F.G_Test 150 :=
  opens_struct4 (mk := fun a b c d => ⟨a, b, c, d⟩) (t := 150) (by exact Tryd.underlying150) (by kernel_rfl) o_3 o_3 o_3 o_4 rfl rfl rfl rfl (fun _ _ _ _ => rfl) (fun a b c d h0 h1 h2 h3 => (show F.G_Test ⟨a, b, c, d⟩ from ⟨h0, h1, h2, h3⟩))
theorem o_43 : Opens Tryd.prog (RSlice RTest) (GAll F.G_Test) 43 := opens_slice Tryd.underlying43 (by kernel_rfl) o_150 (by decide)
theorem o_45 : Opens Tryd.prog RRule F.G_Rule 45 :=
  opens_struct3 (mk := fun a b c => ⟨a, b, c⟩) (t := 45) (by exact Tryd.underlying45) (by kernel_rfl) o_43 o_3 o_3 rfl rfl rfl (fun _ _ _ => rfl) (fun a b c h0 h1 h2 => (show F.G_Rule ⟨a, b, c⟩ from ⟨h0, h1, h2⟩))
theorem o_84 : Opens Tryd.prog (RSlice RRule) (GAll F.G_Rule) 84 := opens_slice Tryd.underlying84 (by kernel_rfl) o_45 (by decide)
theorem o_46 : Opens Tryd.prog RPacket F.G_Packet 46 :=
  opens_struct4 (mk := fun a b c d => ⟨a, b, c, d⟩) (t := 46) (by exact Tryd.underlying46) (by kernel_rfl) o_3 o_3 o_3 o_3 rfl rfl rfl rfl (fun _ _ _ _ => rfl) (fun a b c d h0 h1 h2 h3 => (show F.G_Packet ⟨a, b, c, d⟩ from ⟨h0, h1, h2, h3⟩))

theorem lifted_FnExactFirstFit (os : Os) (started : os.Started) (H : Type) (enc : TypeId × Value → H) :
    ReturnsInHanded {} Tryd.checked os 14 .any (fun w args => (Rows.fnExactFirstFitSpec.pre enc Tryd.prog Tryd.f14 [] false w args ∧ laidMetH Tryd.prog laidRows w) ∧ sizedMet enc Tryd.prog Tryd.f14 (OpenSpec.ofChange Rows.fnExactFirstFitSpec) false w args)
      (Rows.fnExactFirstFitSpec.post enc Tryd.prog Tryd.f14 false true false false) := by
  refine returnsInHanded_of_change_and (C := Tryd.checked) (X := fun w _ => laidMetH Tryd.prog laidRows w) (fun _ _ _ hh h => h.of_heap hh) own started (by kernel_rfl) Tryd.func14
    (ChangeSpec.witness_shaped (enc := enc) (C := Tryd.checked) (os := os) (X := fun w _ => laidMetH Tryd.prog laidRows w) false (World.doorLaid Tryd.prog 400 os) #[.slice none 0 0, .int .i64 0, .agg #[.int .i64 0, .int .i64 0, .int .i64 0, .int .i64 0]] 8 rfl (World.shaped_of_RefB (by kernel_rfl) (by kernel_rfl)) (by kernel_rfl) (by kernel_rfl) (by kernel_rfl) (door_met os _)) ?_
  intro W base args ds gs before hval0 hW _ _ hL _
  have hval : ∀ (j : Nat) t v, Tryd.f14.params[j]? = some t → args[j]? = some v → Value.okWide Tryd.prog W .any base t v := hval0
  have hW' := hW
  obtain ⟨p, q, hA0, hV, rfl, hfz, hnd⟩ := hW
  have hA : DataW.TrodAll enc Tryd.prog W 0 (fun _ => true) true Tryd.f14.params.toList args.toList ds p := hA0
  rw [Tryd.params14] at hA hval
  obtain ⟨v0, v1, v2, d0, d1, d2, p0, p1, p2, rfl, rfl, rfl, h0, h1, h2⟩ := trodAll_three hA
  obtain ⟨a0, r0, g0⟩ := o_84.slice rfl Tryd.underlying84 (hval 0 84 v0 rfl rfl) h0
  obtain ⟨a1, r1, g1⟩ := o_3.int  Tryd.underlying3 (hval 1 3 v1 rfl rfl) h1
  obtain rfl := vint_eq r1
  obtain ⟨a2, r2, g2⟩ := o_46.arg rfl Tryd.underlying46 (hval 2 46 v2 rfl rfl) h2
  clear hA0 hval0
  refine (w_laws_FnExactFirstFit (shapes_of_laid hL) (fun b h => h.elim) r0 r2 (Go.PF.F.plain_FnExactFirstFit a0 a1 a2 g0 g1 g2)).mono fun e W' ⟨v, he, hv, hb⟩ => ?_
  subst he
  refine ⟨_, rfl, post_true (n := "loop.example/packetfilter/impl.fieldShapes") (tb := 4) laidOut rfl ?_ ?_ hW' hb.below (by kernel_rfl) Tryd.underlying4 (vbool_eq hv) ?_⟩
  · intro t ht
    rw [show Tryd.checked.prog = Tryd.prog from rfl] at *
    have hm : t ∈ [84, 3, 46] := by simpa [Tryd.params14] using ht
    have hall : ([84, 3, 46].all fun t => Tryd.prog.readableRec t && decide (t < Tryd.prog.types.size)) = true := by kernel_rfl
    have := List.all_eq_true.1 hall t hm
    simpa using this
  · intro g t hg ht
    obtain rfl := Option.some.inj (gShapes.symm.trans hg)
    obtain rfl := Option.some.inj (tShapes.symm.trans ht)
    exact ⟨by kernel_rfl, of_decide_eq_true (by kernel_rfl)⟩
  · rintro g rfl
    rfl

theorem holds_FnExactFirstFit : Rows.FnExactFirstFitSaid :=
  OpenClaim.holds_of_wide 14 Tryd.f14 rfl rfl rfl rfl rfl rfl rfl ⟨rfl, rfl, rfl, rfl, rfl⟩ rfl rfl rfl rfl rfl (by kernel_rfl) Tryd.func14 (by kernel_rfl)
    (of_decide_eq_true (by kernel_rfl)) (by unfold Func.isWrapper; first | (rw [if_pos (by decide +kernel)]; kernel_rfl) | (rw [if_neg (by decide +kernel)]; exact ⟨rfl, rfl⟩))
    (fun os started H enc _ => lifted_FnExactFirstFit os started H enc)

theorem card_FnExactFirstFit : Rows.FnExactFirstFitCardSaid :=
  Claim7.holds_tied_plain_at .later [] [.data] true (true, "0e802e976b8506e24131a0461791812f3c731afb1ff2caa43d232662c8c2c3af") false
    holds_FnExactFirstFit (fun _ h => by cases h) (by kernel_rfl) (fun _ h => by cases h) fnExactFirstFit_row_tie rfl ⟨rfl, rfl⟩ (by kernel_rfl) rfl
    (fun f fn hf hfn => by
      obtain rfl : f = 14 := Option.some.inj ((show Tryd.prog.funcNamed "loop.example/packetfilter/laws.FnExactFirstFit" = some 14 by kernel_rfl).symm.trans hf) |>.symm
      obtain rfl : fn = Tryd.f14 := (Option.some.inj (Tryd.func14.symm.trans hfn)).symm
      exact ⟨by kernel_rfl, fun j t ht => by
        rw [Tryd.params14] at ht
        have hm : t ∈ [84, 3, 46] := by simpa using Array.mem_of_getElem? ht
        have hall : ([84, 3, 46].all fun u => !Tryd.prog.wantsStandIn u) = true := by kernel_rfl
        exact (show Tryd.prog.wantsStandIn t = false by simpa using List.all_eq_true.1 hall t hm)⟩)
    (by kernel_rfl)
#print axioms card_FnExactFirstFit
end Go.Proofs.YtggckckjmhhdhaaDoor
