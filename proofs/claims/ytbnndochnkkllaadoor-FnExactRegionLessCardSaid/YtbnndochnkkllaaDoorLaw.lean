/- For every input the law laws.FnExactRegionLess returns true, and its arguments read as they did. Conditions: none but the row's own: the listed variable reads as the program's text lays it (tied). -/
import Derived.Test.YtbnndochnkkllaaDoorTop
import Derived.Test.YtbnndochnkkllaaDoorWk2
import Derived.Test.YtbnndochnkkllaaDoorPlAU
import Derived.Test.YtbnndochnkkllaaDoorMn
import Derived.Test.YtbnndochnkkllaaDoorGb
namespace Go.Proofs.YtbnndochnkkllaaDoor
open Go Go.PF Go.RowKit Go.ChangeShapes Go.WideShapes
set_option maxRecDepth 100000
theorem o_3 : Opens Tryd.prog RInt GInt 3 := opens_int Tryd.underlying3 (by kernel_rfl)
theorem o_236 : Opens Tryd.prog RSpan F.G_Span 236 :=
  opens_struct2 (mk := fun a b => ⟨a, b⟩) (t := 236) (by exact Tryd.underlying236) (by kernel_rfl) o_3 o_3 rfl rfl (fun _ _ => rfl) (fun a b h0 h1 => (show F.G_Span ⟨a, b⟩ from ⟨h0, h1⟩))
theorem o_197 : Opens Tryd.prog (RSlice RSpan) (GAll F.G_Span) 197 := opens_slice Tryd.underlying197 (by kernel_rfl) o_236 (by decide)
theorem o_40 : Opens Tryd.prog (RSlice (RSlice RSpan)) (GAll (GAll F.G_Span)) 40 := opens_slice Tryd.underlying40 (by kernel_rfl) o_197 (by decide)
theorem o_42 : Opens Tryd.prog RBox F.G_Box 42 :=
  opens_struct1 (mk := fun a => ⟨a⟩) (t := 42) (by exact Tryd.underlying42) (by kernel_rfl) o_40 rfl (fun _ => rfl) (fun a h0 => (show F.G_Box ⟨a⟩ from h0))
theorem o_93 : Opens Tryd.prog (RSlice RBox) (GAll F.G_Box) 93 := opens_slice Tryd.underlying93 (by kernel_rfl) o_42 (by decide)

theorem lifted_FnExactRegionLess (os : Os) (started : os.Started) (H : Type) (enc : TypeId × Value → H) :
    ReturnsInHanded {} Tryd.checked os 13 .any (fun w args => (Rows.fnExactRegionLessSpec.pre enc Tryd.prog Tryd.f13 [] false w args ∧ laidMetH Tryd.prog laidRows w) ∧ sizedMet enc Tryd.prog Tryd.f13 (OpenSpec.ofChange Rows.fnExactRegionLessSpec) false w args)
      (Rows.fnExactRegionLessSpec.post enc Tryd.prog Tryd.f13 false true false false) := by
  refine returnsInHanded_of_change_and (C := Tryd.checked) (X := fun w _ => laidMetH Tryd.prog laidRows w) (fun _ _ _ hh h => h.of_heap hh) own started (by kernel_rfl) Tryd.func13
    (ChangeSpec.witness_shaped (enc := enc) (C := Tryd.checked) (os := os) (X := fun w _ => laidMetH Tryd.prog laidRows w) false (World.doorLaid Tryd.prog 400 os) #[.agg #[.slice none 0 0], .slice none 0 0] 8 rfl (World.shaped_of_RefB (by kernel_rfl) (by kernel_rfl)) (by kernel_rfl) (by kernel_rfl) (by kernel_rfl) (door_met os _)) ?_
  intro W base args ds gs before hval0 hW _ _ hL _
  have hval : ∀ (j : Nat) t v, Tryd.f13.params[j]? = some t → args[j]? = some v → Value.okWide Tryd.prog W .any base t v := hval0
  have hW' := hW
  obtain ⟨p, q, hA0, hV, rfl, hfz, hnd⟩ := hW
  have hA : DataW.TrodAll enc Tryd.prog W 0 (fun _ => true) true Tryd.f13.params.toList args.toList ds p := hA0
  rw [Tryd.params13] at hA hval
  obtain ⟨v0, v1, d0, d1, p0, p1, rfl, rfl, rfl, h0, h1⟩ := trodAll_two hA
  obtain ⟨a0, r0, g0⟩ := o_42.arg rfl Tryd.underlying42 (hval 0 42 v0 rfl rfl) h0
  obtain ⟨a1, r1, g1⟩ := o_93.slice rfl Tryd.underlying93 (hval 1 93 v1 rfl rfl) h1
  clear hA0 hval0
  refine (w_laws_FnExactRegionLess (shapes_of_laid hL) (fun b h => h.elim) r0 r1 (Go.PF.F.plain_FnExactRegionLess a0 a1 g0 g1)).mono fun e W' ⟨v, he, hv, hb⟩ => ?_
  subst he
  refine ⟨_, rfl, post_true (n := "loop.example/packetfilter/impl.fieldShapes") (tb := 4) laidOut rfl ?_ ?_ hW' hb.below (by kernel_rfl) Tryd.underlying4 (vbool_eq hv) ?_⟩
  · intro t ht
    rw [show Tryd.checked.prog = Tryd.prog from rfl] at *
    have hm : t ∈ [42, 93] := by simpa [Tryd.params13] using ht
    have hall : ([42, 93].all fun t => Tryd.prog.readableRec t && decide (t < Tryd.prog.types.size)) = true := by kernel_rfl
    have := List.all_eq_true.1 hall t hm
    simpa using this
  · intro g t hg ht
    obtain rfl := Option.some.inj (gShapes.symm.trans hg)
    obtain rfl := Option.some.inj (tShapes.symm.trans ht)
    exact ⟨by kernel_rfl, of_decide_eq_true (by kernel_rfl)⟩
  · rintro g rfl
    rfl

theorem closed_FnExactRegionLess : joinedFacts Tryd.prog 13 Tryd.f13 Rows.fnExactRegionLessSpec Rows.fnExactRegionLessRow = true := by
  unfold joinedFacts
  exact and_i (and_i (and_i (and_i (and_i (and_i (and_i (and_i (and_i (and_i (and_i (and_i (and_i (and_i (and_i (and_i (and_i (and_i (and_i (and_i (and_i (and_i (and_i (and_i (and_i (and_i (and_i (and_i (and_i (and_i (and_i (by kernel_rfl) laidOut) mapsRowed_is) (by kernel_rfl)) (by kernel_rfl)) (by kernel_rfl)) stops_is) (by kernel_rfl)) stopKnobs_is) (by kernel_rfl)) (by kernel_rfl)) (by kernel_rfl)) (by kernel_rfl)) (by kernel_rfl)) (by kernel_rfl)) (by kernel_rfl)) (by kernel_rfl)) (by kernel_rfl)) (by kernel_rfl)) (by kernel_rfl)) (by kernel_rfl)) (by kernel_rfl)) plainKeys_is) (by kernel_rfl)) stopsHeard_is) mayEnter_is) lifted_is) make_is) (by kernel_rfl)) (by kernel_rfl)) (by kernel_rfl)) (by kernel_rfl)
theorem holds_FnExactRegionLess : Rows.FnExactRegionLessSaid :=
  OpenClaim.holds_of_wide 13 Tryd.f13 rfl rfl rfl rfl rfl rfl rfl ⟨rfl, rfl, rfl, rfl, rfl⟩ rfl rfl rfl rfl rfl (by kernel_rfl) Tryd.func13 closed_FnExactRegionLess
    (of_decide_eq_true (by kernel_rfl)) (by unfold Func.isWrapper; first | (rw [if_pos (by decide +kernel)]; kernel_rfl) | (rw [if_neg (by decide +kernel)]; exact ⟨rfl, rfl⟩))
    (fun os started H enc _ => lifted_FnExactRegionLess os started H enc)

theorem card_FnExactRegionLess : Rows.FnExactRegionLessCardSaid :=
  Claim7.holds_tied_plain_at .later [] [.data] true (true, "64c432969ee5cb7c0e5aaaf703873408fd1b233c1e05e0ebde8e920e729a22df") false
    holds_FnExactRegionLess (fun _ h => by cases h) (by kernel_rfl) (fun _ h => by cases h) fnExactRegionLess_row_tie rfl ⟨rfl, rfl⟩ main_is rfl
    (fun f fn hf hfn => by
      obtain rfl : f = 13 := Option.some.inj (named_is.symm.trans hf) |>.symm
      obtain rfl : fn = Tryd.f13 := (Option.some.inj (Tryd.func13.symm.trans hfn)).symm
      exact ⟨looks_is, fun j t ht => by
        rw [Tryd.params13] at ht
        have hm : t ∈ [42, 93] := by simpa using Array.mem_of_getElem? ht
        have hall : ([42, 93].all fun u => !Tryd.prog.wantsStandIn u) = true := by kernel_rfl
        exact (show Tryd.prog.wantsStandIn t = false by simpa using List.all_eq_true.1 hall t hm)⟩)
    goes_is
#print axioms card_FnExactRegionLess
end Go.Proofs.YtbnndochnkkllaaDoor
