/- For every input the law laws.FnBoxCut returns true, and its arguments read as they did. Conditions: none but the row's own: the listed variable reads as the program's text lays it (tied). -/
import Derived.Test.YtadlmencjbangaaDoorTop
import Derived.Test.YtadlmencjbangaaDoorWk4
import Derived.Test.YtadlmencjbangaaDoorPlAQ
import Derived.Test.YtadlmencjbangaaDoorMn
import Derived.Test.YtadlmencjbangaaDoorGb
namespace Go.Proofs.YtadlmencjbangaaDoor
open Go Go.PF Go.RowKit Go.ChangeShapes Go.WideShapes
set_option maxRecDepth 100000
theorem o_5 : Opens Tryd.prog RU8 GU8 5 := opens_u8 Tryd.underlying5 (by kernel_rfl)
theorem o_22 : Opens Tryd.prog (RSlice RU8) (GAll GU8) 22 := opens_slice Tryd.underlying22 (by kernel_rfl) o_5 (by decide)
theorem o_3 : Opens Tryd.prog RInt GInt 3 := opens_int Tryd.underlying3 (by kernel_rfl)

theorem lifted_FnBoxCut (os : Os) (started : os.Started) (H : Type) (enc : TypeId × Value → H) :
    ReturnsInHanded {} Tryd.checked os 3 .any (fun w args => (Rows.fnBoxCutSpec.pre enc Tryd.prog Tryd.f3 [] false w args ∧ laidMetH Tryd.prog laidRows w) ∧ sizedMet enc Tryd.prog Tryd.f3 (OpenSpec.ofChange Rows.fnBoxCutSpec) false w args)
      (Rows.fnBoxCutSpec.post enc Tryd.prog Tryd.f3 false true false false) := by
  refine returnsInHanded_of_change_and (C := Tryd.checked) (X := fun w _ => laidMetH Tryd.prog laidRows w) (fun _ _ _ hh h => h.of_heap hh) own started (by kernel_rfl) Tryd.func3
    (ChangeSpec.witness_shaped (enc := enc) (C := Tryd.checked) (os := os) (X := fun w _ => laidMetH Tryd.prog laidRows w) false (World.doorLaid Tryd.prog 400 os) #[.slice none 0 0, .slice none 0 0] 8 rfl (World.shaped_of_RefB (by kernel_rfl) (by kernel_rfl)) (by kernel_rfl) (by kernel_rfl) (by kernel_rfl) (door_met os _)) ?_
  intro W base args ds gs before hval0 hW _ _ hL _
  have hval : ∀ (j : Nat) t v, Tryd.f3.params[j]? = some t → args[j]? = some v → Value.okWide Tryd.prog W .any base t v := hval0
  have hW' := hW
  obtain ⟨p, q, hA0, hV, rfl, hfz, hnd⟩ := hW
  have hA : DataW.TrodAll enc Tryd.prog W 0 (fun _ => true) true Tryd.f3.params.toList args.toList ds p := hA0
  rw [Tryd.params3] at hA hval
  obtain ⟨v0, v1, d0, d1, p0, p1, rfl, rfl, rfl, h0, h1⟩ := trodAll_two hA
  obtain ⟨a0, r0, g0⟩ := o_22.slice rfl Tryd.underlying22 (hval 0 22 v0 rfl rfl) h0
  obtain ⟨a1, r1, g1⟩ := o_22.slice rfl Tryd.underlying22 (hval 1 22 v1 rfl rfl) h1
  clear hA0 hval0
  refine (w_laws_FnBoxCut (shapes_of_laid hL) (fun b h => h.elim) r0 r1 (Go.PF.F.plain_FnBoxCut a0 a1 g0 g1)).mono fun e W' ⟨v, he, hv, hb⟩ => ?_
  subst he
  refine ⟨_, rfl, post_true (n := "loop.example/packetfilter/impl.fieldShapes") (tb := 4) laidOut rfl ?_ ?_ hW' hb.below (by kernel_rfl) Tryd.underlying4 (vbool_eq hv) ?_⟩
  · intro t ht
    rw [show Tryd.checked.prog = Tryd.prog from rfl] at *
    have hm : t ∈ [22, 22] := by simpa [Tryd.params3] using ht
    have hall : ([22, 22].all fun t => Tryd.prog.readableRec t && decide (t < Tryd.prog.types.size)) = true := by kernel_rfl
    have := List.all_eq_true.1 hall t hm
    simpa using this
  · intro g t hg ht
    obtain rfl := Option.some.inj (gShapes.symm.trans hg)
    obtain rfl := Option.some.inj (tShapes.symm.trans ht)
    exact ⟨by kernel_rfl, of_decide_eq_true (by kernel_rfl)⟩
  · rintro g rfl
    rfl

theorem closed_FnBoxCut : joinedFacts Tryd.prog 3 Tryd.f3 Rows.fnBoxCutSpec Rows.fnBoxCutRow = true := by
  unfold joinedFacts
  exact and_i (and_i (and_i (and_i (and_i (and_i (and_i (and_i (and_i (and_i (and_i (and_i (and_i (and_i (and_i (and_i (and_i (and_i (and_i (and_i (and_i (and_i (and_i (and_i (and_i (and_i (and_i (and_i (and_i (and_i (and_i (by kernel_rfl) laidOut) mapsRowed_is) (by kernel_rfl)) (by kernel_rfl)) (by kernel_rfl)) stops_is) (by kernel_rfl)) stopKnobs_is) (by kernel_rfl)) (by kernel_rfl)) (by kernel_rfl)) (by kernel_rfl)) (by kernel_rfl)) (by kernel_rfl)) (by kernel_rfl)) (by kernel_rfl)) (by kernel_rfl)) (by kernel_rfl)) (by kernel_rfl)) (by kernel_rfl)) (by kernel_rfl)) plainKeys_is) (by kernel_rfl)) stopsHeard_is) mayEnter_is) lifted_is) make_is) (by kernel_rfl)) (by kernel_rfl)) (by kernel_rfl)) (by kernel_rfl)
theorem holds_FnBoxCut : Rows.FnBoxCutSaid :=
  OpenClaim.holds_of_wide 3 Tryd.f3 rfl rfl rfl rfl rfl rfl rfl ⟨rfl, rfl, rfl, rfl, rfl⟩ rfl rfl rfl rfl rfl (by kernel_rfl) Tryd.func3 closed_FnBoxCut
    (of_decide_eq_true (by kernel_rfl)) (by unfold Func.isWrapper; first | (rw [if_pos (by decide +kernel)]; kernel_rfl) | (rw [if_neg (by decide +kernel)]; exact ⟨rfl, rfl⟩))
    (fun os started H enc _ => lifted_FnBoxCut os started H enc)

theorem card_FnBoxCut : Rows.FnBoxCutCardSaid :=
  Claim7.holds_tied_plain_at .later [] [.data] true (true, "66add90f175d5f2066b0f54f792405a42e2a2ad9be0eb91f0aa6c877a4da5197") false
    holds_FnBoxCut (fun _ h => by cases h) (by kernel_rfl) (fun _ h => by cases h) fnBoxCut_row_tie rfl ⟨rfl, rfl⟩ main_is rfl
    (fun f fn hf hfn => by
      obtain rfl : f = 3 := Option.some.inj (named_is.symm.trans hf) |>.symm
      obtain rfl : fn = Tryd.f3 := (Option.some.inj (Tryd.func3.symm.trans hfn)).symm
      exact ⟨looks_is, fun j t ht => by
        rw [Tryd.params3] at ht
        have hm : t ∈ [22, 22] := by simpa using Array.mem_of_getElem? ht
        have hall : ([22, 22].all fun u => !Tryd.prog.wantsStandIn u) = true := by kernel_rfl
        exact (show Tryd.prog.wantsStandIn t = false by simpa using List.all_eq_true.1 hall t hm)⟩)
    goes_is
#print axioms card_FnBoxCut
end Go.Proofs.YtadlmencjbangaaDoor
