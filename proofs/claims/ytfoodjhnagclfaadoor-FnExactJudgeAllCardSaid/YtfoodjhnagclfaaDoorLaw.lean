/- For every input the law laws.FnExactJudgeAll returns true, and its arguments read as they did. Conditions: none but the row's own: the listed variable reads as the program's text lays it (tied). -/
import Derived.Test.YtfoodjhnagclfaaDoorTop
import Derived.Test.YtfoodjhnagclfaaDoorWk2
import Derived.Test.YtfoodjhnagclfaaDoorPlU
namespace Go.Proofs.YtfoodjhnagclfaaDoor
open Go Go.PF Go.RowKit Go.ChangeShapes Go.WideShapes
set_option maxRecDepth 100000
theorem o_3 : Opens Tryd.prog RInt GInt 3 := opens_int Tryd.underlying3 (by kernel_rfl)
theorem o_4 : Opens Tryd.prog RBool GAny 4 := opens_bool Tryd.underlying4 (by kernel_rfl)
theorem o_220 : Opens Tryd.prog RTest F.G_Test 220 :=
  opens_struct4 (mk := fun a b c d => ⟨a, b, c, d⟩) (t := 220) (by exact Tryd.underlying220) (by kernel_rfl) o_3 o_3 o_3 o_4 rfl rfl rfl rfl (fun _ _ _ _ => rfl) (fun a b c d h0 h1 h2 h3 => (show F.G_Test ⟨a, b, c, d⟩ from ⟨h0, h1, h2, h3⟩))
theorem o_199 : Opens Tryd.prog (RSlice RTest) (GAll F.G_Test) 199 := opens_slice Tryd.underlying199 (by kernel_rfl) o_220 (by decide)
theorem o_201 : Opens Tryd.prog RRule F.G_Rule 201 :=
  opens_struct3 (mk := fun a b c => ⟨a, b, c⟩) (t := 201) (by exact Tryd.underlying201) (by kernel_rfl) o_199 o_3 o_3 rfl rfl rfl (fun _ _ _ => rfl) (fun a b c h0 h1 h2 => (show F.G_Rule ⟨a, b, c⟩ from ⟨h0, h1, h2⟩))
theorem o_162 : Opens Tryd.prog (RSlice RRule) (GAll F.G_Rule) 162 := opens_slice Tryd.underlying162 (by kernel_rfl) o_201 (by decide)
theorem o_50 : Opens Tryd.prog (RSlice (RSlice RRule)) (GAll (GAll F.G_Rule)) 50 := opens_slice Tryd.underlying50 (by kernel_rfl) o_162 (by decide)
theorem o_52 : Opens Tryd.prog RRuleset F.G_Ruleset 52 :=
  opens_struct2 (mk := fun a b => ⟨a, b⟩) (t := 52) (by exact Tryd.underlying52) (by kernel_rfl) o_50 o_4 rfl rfl (fun _ _ => rfl) (fun a b h0 h1 => (show F.G_Ruleset ⟨a, b⟩ from ⟨h0, h1⟩))
theorem o_34 : Opens Tryd.prog RPacket F.G_Packet 34 :=
  opens_struct4 (mk := fun a b c d => ⟨a, b, c, d⟩) (t := 34) (by exact Tryd.underlying34) (by kernel_rfl) o_3 o_3 o_3 o_3 rfl rfl rfl rfl (fun _ _ _ _ => rfl) (fun a b c d h0 h1 h2 h3 => (show F.G_Packet ⟨a, b, c, d⟩ from ⟨h0, h1, h2, h3⟩))
theorem o_66 : Opens Tryd.prog (RSlice RPacket) (GAll F.G_Packet) 66 := opens_slice Tryd.underlying66 (by kernel_rfl) o_34 (by decide)

theorem lifted_FnExactJudgeAll (os : Os) (started : os.Started) (H : Type) (enc : TypeId × Value → H) :
    ReturnsInHanded {} Tryd.checked os 11 .any (fun w args => (Rows.fnExactJudgeAllSpec.pre enc Tryd.prog Tryd.f11 [] false w args ∧ laidMetH Tryd.prog laidRows w) ∧ sizedMet enc Tryd.prog Tryd.f11 (OpenSpec.ofChange Rows.fnExactJudgeAllSpec) false w args)
      (Rows.fnExactJudgeAllSpec.post enc Tryd.prog Tryd.f11 false true false false) := by
  refine returnsInHanded_of_change_and (C := Tryd.checked) (X := fun w _ => laidMetH Tryd.prog laidRows w) (fun _ _ _ hh h => h.of_heap hh) own started (by kernel_rfl) Tryd.func11
    (ChangeSpec.witness_shaped (enc := enc) (C := Tryd.checked) (os := os) (X := fun w _ => laidMetH Tryd.prog laidRows w) false (World.doorLaid Tryd.prog 400 os) #[.agg #[.slice none 0 0, .bool false], .slice none 0 0] 8 rfl (World.shaped_of_RefB (by kernel_rfl) (by kernel_rfl)) (by kernel_rfl) (by kernel_rfl) (by kernel_rfl) (door_met os _)) ?_
  intro W base args ds gs before hval0 hW _ _ hL _
  have hval : ∀ (j : Nat) t v, Tryd.f11.params[j]? = some t → args[j]? = some v → Value.okWide Tryd.prog W .any base t v := hval0
  have hW' := hW
  obtain ⟨p, q, hA0, hV, rfl, hfz, hnd⟩ := hW
  have hA : DataW.TrodAll enc Tryd.prog W 0 (fun _ => true) true Tryd.f11.params.toList args.toList ds p := hA0
  rw [Tryd.params11] at hA hval
  obtain ⟨v0, v1, d0, d1, p0, p1, rfl, rfl, rfl, h0, h1⟩ := trodAll_two hA
  obtain ⟨a0, r0, g0⟩ := o_52.arg rfl Tryd.underlying52 (hval 0 52 v0 rfl rfl) h0
  obtain ⟨a1, r1, g1⟩ := o_66.slice rfl Tryd.underlying66 (hval 1 66 v1 rfl rfl) h1
  clear hA0 hval0
  refine (w_laws_FnExactJudgeAll (shapes_of_laid hL) (fun b h => h.elim) r0 r1 (Go.PF.F.plain_FnExactJudgeAll a0 a1 g0 g1)).mono fun e W' ⟨v, he, hv, hb⟩ => ?_
  subst he
  refine ⟨_, rfl, post_true (n := "loop.example/packetfilter/impl.fieldShapes") (tb := 4) laidOut rfl ?_ ?_ hW' hb.below (by kernel_rfl) Tryd.underlying4 (vbool_eq hv) ?_⟩
  · intro t ht
    rw [show Tryd.checked.prog = Tryd.prog from rfl] at *
    have hm : t ∈ [52, 66] := by simpa [Tryd.params11] using ht
    have hall : ([52, 66].all fun t => Tryd.prog.readableRec t && decide (t < Tryd.prog.types.size)) = true := by kernel_rfl
    have := List.all_eq_true.1 hall t hm
    simpa using this
  · intro g t hg ht
    obtain rfl := Option.some.inj (gShapes.symm.trans hg)
    obtain rfl := Option.some.inj (tShapes.symm.trans ht)
    exact ⟨by kernel_rfl, of_decide_eq_true (by kernel_rfl)⟩
  · rintro g rfl
    rfl

theorem closed_FnExactJudgeAll : joinedFacts Tryd.prog 11 Tryd.f11 Rows.fnExactJudgeAllSpec Rows.fnExactJudgeAllRow = true := by
  unfold joinedFacts
  exact and_i (and_i (and_i (and_i (and_i (and_i (and_i (and_i (and_i (and_i (and_i (and_i (and_i (and_i (and_i (and_i (and_i (and_i (and_i (and_i (and_i (and_i (and_i (and_i (and_i (and_i (and_i (and_i (and_i (and_i (and_i (by kernel_rfl) laidOut) mapsRowed_is) (by kernel_rfl)) (by kernel_rfl)) (by kernel_rfl)) stops_is) (by kernel_rfl)) stopKnobs_is) (by kernel_rfl)) (by kernel_rfl)) (by kernel_rfl)) (by kernel_rfl)) (by kernel_rfl)) (by kernel_rfl)) (by kernel_rfl)) (by kernel_rfl)) (by kernel_rfl)) (by kernel_rfl)) (by kernel_rfl)) (by kernel_rfl)) (by kernel_rfl)) plainKeys_is) (by kernel_rfl)) stopsHeard_is) mayEnter_is) lifted_is) make_is) (by kernel_rfl)) (by kernel_rfl)) (by kernel_rfl)) (by kernel_rfl)
theorem holds_FnExactJudgeAll : Rows.FnExactJudgeAllSaid :=
  OpenClaim.holds_of_wide 11 Tryd.f11 rfl rfl rfl rfl rfl rfl rfl ⟨rfl, rfl, rfl, rfl, rfl⟩ rfl rfl rfl rfl rfl (by kernel_rfl) Tryd.func11 closed_FnExactJudgeAll
    (of_decide_eq_true (by kernel_rfl)) (by unfold Func.isWrapper; first | (rw [if_pos (by decide +kernel)]; kernel_rfl) | (rw [if_neg (by decide +kernel)]; exact ⟨rfl, rfl⟩))
    (fun os started H enc _ => lifted_FnExactJudgeAll os started H enc)

theorem card_FnExactJudgeAll : Rows.FnExactJudgeAllCardSaid :=
  Claim7.holds_tied_plain_at .later [] [.data] true (true, "9976dee8b10b711281df93cc308efbd28a95e4d091973e76995f8e2623e71d10") false
    holds_FnExactJudgeAll (fun _ h => by cases h) (by kernel_rfl) (fun _ h => by cases h) fnExactJudgeAll_row_tie rfl ⟨rfl, rfl⟩ (by kernel_rfl) rfl
    (fun f fn hf hfn => by
      obtain rfl : f = 11 := Option.some.inj ((show Tryd.prog.funcNamed "loop.example/packetfilter/laws.FnExactJudgeAll" = some 11 by kernel_rfl).symm.trans hf) |>.symm
      obtain rfl : fn = Tryd.f11 := (Option.some.inj (Tryd.func11.symm.trans hfn)).symm
      exact ⟨by kernel_rfl, fun j t ht => by
        rw [Tryd.params11] at ht
        have hm : t ∈ [52, 66] := by simpa using Array.mem_of_getElem? ht
        have hall : ([52, 66].all fun u => !Tryd.prog.wantsStandIn u) = true := by kernel_rfl
        exact (show Tryd.prog.wantsStandIn t = false by simpa using List.all_eq_true.1 hall t hm)⟩)
    (by kernel_rfl)
#print axioms card_FnExactJudgeAll
end Go.Proofs.YtfoodjhnagclfaaDoor
