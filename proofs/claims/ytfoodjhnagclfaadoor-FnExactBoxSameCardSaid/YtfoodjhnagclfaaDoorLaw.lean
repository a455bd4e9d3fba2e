/- For every input the law laws.FnExactBoxSame returns true, and its arguments read as they did. Conditions: none but the row's own: the listed variable reads as the program's text lays it (tied). -/
import Derived.Test.YtfoodjhnagclfaaDoorTop
import Derived.Test.YtfoodjhnagclfaaDoorWk1
import Derived.Test.YtfoodjhnagclfaaDoorPlJ
namespace Go.Proofs.YtfoodjhnagclfaaDoor
open Go Go.PF Go.RowKit Go.ChangeShapes Go.WideShapes
set_option maxRecDepth 100000
theorem o_3 : Opens Tryd.prog RInt GInt 3 := opens_int Tryd.underlying3 (by kernel_rfl)
theorem o_194 : Opens Tryd.prog RSpan F.G_Span 194 :=
  opens_struct2 (mk := fun a b => ⟨a, b⟩) (t := 194) (by exact Tryd.underlying194) (by kernel_rfl) o_3 o_3 rfl rfl (fun _ _ => rfl) (fun a b h0 h1 => (show F.G_Span ⟨a, b⟩ from ⟨h0, h1⟩))
theorem o_145 : Opens Tryd.prog (RSlice RSpan) (GAll F.G_Span) 145 := opens_slice Tryd.underlying145 (by kernel_rfl) o_194 (by decide)
theorem o_22 : Opens Tryd.prog (RSlice (RSlice RSpan)) (GAll (GAll F.G_Span)) 22 := opens_slice Tryd.underlying22 (by kernel_rfl) o_145 (by decide)
theorem o_24 : Opens Tryd.prog RBox F.G_Box 24 :=
  opens_struct1 (mk := fun a => ⟨a⟩) (t := 24) (by exact Tryd.underlying24) (by kernel_rfl) o_22 rfl (fun _ => rfl) (fun a h0 => (show F.G_Box ⟨a⟩ from h0))

theorem lifted_FnExactBoxSame (os : Os) (started : os.Started) (H : Type) (enc : TypeId × Value → H) :
    ReturnsInHanded {} Tryd.checked os 3 .any (fun w args => (Rows.fnExactBoxSameSpec.pre enc Tryd.prog Tryd.f3 [] false w args ∧ laidMetH Tryd.prog laidRows w) ∧ sizedMet enc Tryd.prog Tryd.f3 (OpenSpec.ofChange Rows.fnExactBoxSameSpec) false w args)
      (Rows.fnExactBoxSameSpec.post enc Tryd.prog Tryd.f3 false true false false) := by
  refine returnsInHanded_of_change_and (C := Tryd.checked) (X := fun w _ => laidMetH Tryd.prog laidRows w) (fun _ _ _ hh h => h.of_heap hh) own started (by kernel_rfl) Tryd.func3
    (ChangeSpec.witness_shaped (enc := enc) (C := Tryd.checked) (os := os) (X := fun w _ => laidMetH Tryd.prog laidRows w) false (World.doorLaid Tryd.prog 400 os) #[.agg #[.slice none 0 0], .agg #[.slice none 0 0]] 8 rfl (World.shaped_of_RefB (by kernel_rfl) (by kernel_rfl)) (by kernel_rfl) (by kernel_rfl) (by kernel_rfl) (door_met os _)) ?_
  intro W base args ds gs before hval0 hW _ _ hL _
  have hval : ∀ (j : Nat) t v, Tryd.f3.params[j]? = some t → args[j]? = some v → Value.okWide Tryd.prog W .any base t v := hval0
  have hW' := hW
  obtain ⟨p, q, hA0, hV, rfl, hfz, hnd⟩ := hW
  have hA : DataW.TrodAll enc Tryd.prog W 0 (fun _ => true) true Tryd.f3.params.toList args.toList ds p := hA0
  rw [Tryd.params3] at hA hval
  obtain ⟨v0, v1, d0, d1, p0, p1, rfl, rfl, rfl, h0, h1⟩ := trodAll_two hA
  obtain ⟨a0, r0, g0⟩ := o_24.arg rfl Tryd.underlying24 (hval 0 24 v0 rfl rfl) h0
  obtain ⟨a1, r1, g1⟩ := o_24.arg rfl Tryd.underlying24 (hval 1 24 v1 rfl rfl) h1
  clear hA0 hval0
  refine (w_laws_FnExactBoxSame (shapes_of_laid hL) (fun b h => h.elim) r0 r1 (Go.PF.F.plain_FnExactBoxSame a0 a1 g0 g1)).mono fun e W' ⟨v, he, hv, hb⟩ => ?_
  subst he
  refine ⟨_, rfl, post_true (n := "loop.example/packetfilter/impl.fieldShapes") (tb := 4) laidOut rfl ?_ ?_ hW' hb.below (by kernel_rfl) Tryd.underlying4 (vbool_eq hv) ?_⟩
  · intro t ht
    rw [show Tryd.checked.prog = Tryd.prog from rfl] at *
    have hm : t ∈ [24, 24] := by simpa [Tryd.params3] using ht
    have hall : ([24, 24].all fun t => Tryd.prog.readableRec t && decide (t < Tryd.prog.types.size)) = true := by kernel_rfl
    have := List.all_eq_true.1 hall t hm
    simpa using this
  · intro g t hg ht
    obtain rfl := Option.some.inj (gShapes.symm.trans hg)
    obtain rfl := Option.some.inj (tShapes.symm.trans ht)
    exact ⟨by kernel_rfl, of_decide_eq_true (by kernel_rfl)⟩
  · rintro g rfl
    rfl

theorem closed_FnExactBoxSame : joinedFacts Tryd.prog 3 Tryd.f3 Rows.fnExactBoxSameSpec Rows.fnExactBoxSameRow = true := by
  unfold joinedFacts
  exact and_i (and_i (and_i (and_i (and_i (and_i (and_i (and_i (and_i (and_i (and_i (and_i (and_i (and_i (and_i (and_i (and_i (and_i (and_i (and_i (and_i (and_i (and_i (and_i (and_i (and_i (and_i (and_i (and_i (and_i (and_i (by kernel_rfl) laidOut) mapsRowed_is) (by kernel_rfl)) (by kernel_rfl)) (by kernel_rfl)) stops_is) (by kernel_rfl)) stopKnobs_is) (by kernel_rfl)) (by kernel_rfl)) (by kernel_rfl)) (by kernel_rfl)) (by kernel_rfl)) (by kernel_rfl)) (by kernel_rfl)) (by kernel_rfl)) (by kernel_rfl)) (by kernel_rfl)) (by kernel_rfl)) (by kernel_rfl)) (by kernel_rfl)) plainKeys_is) (by kernel_rfl)) stopsHeard_is) mayEnter_is) lifted_is) make_is) (by kernel_rfl)) (by kernel_rfl)) (by kernel_rfl)) (by kernel_rfl)
theorem holds_FnExactBoxSame : Rows.FnExactBoxSameSaid :=
  OpenClaim.holds_of_wide 3 Tryd.f3 rfl rfl rfl rfl rfl rfl rfl ⟨rfl, rfl, rfl, rfl, rfl⟩ rfl rfl rfl rfl rfl (by kernel_rfl) Tryd.func3 closed_FnExactBoxSame
    (of_decide_eq_true (by kernel_rfl)) (by unfold Func.isWrapper; first | (rw [if_pos (by decide +kernel)]; kernel_rfl) | (rw [if_neg (by decide +kernel)]; exact ⟨rfl, rfl⟩))
    (fun os started H enc _ => lifted_FnExactBoxSame os started H enc)

theorem card_FnExactBoxSame : Rows.FnExactBoxSameCardSaid :=
  Claim7.holds_tied_plain_at .later [] [.data] true (true, "9976dee8b10b711281df93cc308efbd28a95e4d091973e76995f8e2623e71d10") false
    holds_FnExactBoxSame (fun _ h => by cases h) (by kernel_rfl) (fun _ h => by cases h) fnExactBoxSame_row_tie rfl ⟨rfl, rfl⟩ (by kernel_rfl) rfl
    (fun f fn hf hfn => by
      obtain rfl : f = 3 := Option.some.inj ((show Tryd.prog.funcNamed "loop.example/packetfilter/laws.FnExactBoxSame" = some 3 by kernel_rfl).symm.trans hf) |>.symm
      obtain rfl : fn = Tryd.f3 := (Option.some.inj (Tryd.func3.symm.trans hfn)).symm
      exact ⟨by kernel_rfl, fun j t ht => by
        rw [Tryd.params3] at ht
        have hm : t ∈ [24, 24] := by simpa using Array.mem_of_getElem? ht
        have hall : ([24, 24].all fun u => !Tryd.prog.wantsStandIn u) = true := by kernel_rfl
        exact (show Tryd.prog.wantsStandIn t = false by simpa using List.all_eq_true.1 hall t hm)⟩)
    (by kernel_rfl)
#print axioms card_FnExactBoxSame
end Go.Proofs.YtfoodjhnagclfaaDoor
