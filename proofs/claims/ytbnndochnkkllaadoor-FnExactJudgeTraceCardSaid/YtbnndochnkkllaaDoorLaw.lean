/- For every input the law laws.FnExactJudgeTrace returns true, and its arguments read as they did. Conditions: none but the row's own: the listed variable reads as the program's text lays it (tied). -/
import Derived.Test.YtbnndochnkkllaaDoorTop
import Derived.Test.YtbnndochnkkllaaDoorWk1
import Derived.Test.YtbnndochnkkllaaDoorPlAV
import Derived.Test.YtbnndochnkkllaaDoorMn
import Derived.Test.YtbnndochnkkllaaDoorGb
namespace Go.Proofs.YtbnndochnkkllaaDoor
open Go Go.PF Go.RowKit Go.ChangeShapes Go.WideShapes
set_option maxRecDepth 100000
theorem o_3 : Opens Tryd.prog RInt GInt 3 := opens_int Tryd.underlying3 (by kernel_rfl)
theorem o_4 : Opens Tryd.prog RBool GAny 4 := opens_bool Tryd.underlying4 (by kernel_rfl)
theorem o_146 : Opens Tryd.prog RTest F.G_Test 146 :=
  opens_struct4 (mk := fun a b c d => ⟨a, b, c, d⟩) (t := 146) (by exact Tryd.underlying146) (by kernel_rfl) o_3 o_3 o_3 o_4 rfl rfl rfl rfl (fun _ _ _ _ => rfl) (fun a b c d h0 h1 h2 h3 => (show F.G_Test ⟨a, b, c, d⟩ from ⟨h0, h1, h2, h3⟩))
theorem o_57 : Opens Tryd.prog (RSlice RTest) (GAll F.G_Test) 57 := opens_slice Tryd.underlying57 (by kernel_rfl) o_146 (by decide)
theorem o_241 : Opens Tryd.prog RRule F.G_Rule 241 :=
  opens_struct3 (mk := fun a b c => ⟨a, b, c⟩) (t := 241) (by exact Tryd.underlying241) (by kernel_rfl) o_57 o_3 o_3 rfl rfl rfl (fun _ _ _ => rfl) (fun a b c h0 h1 h2 => (show F.G_Rule ⟨a, b, c⟩ from ⟨h0, h1, h2⟩))
theorem o_211 : Opens Tryd.prog (RSlice RRule) (GAll F.G_Rule) 211 := opens_slice Tryd.underlying211 (by kernel_rfl) o_241 (by decide)
theorem o_73 : Opens Tryd.prog (RSlice (RSlice RRule)) (GAll (GAll F.G_Rule)) 73 := opens_slice Tryd.underlying73 (by kernel_rfl) o_211 (by decide)
theorem o_75 : Opens Tryd.prog RRuleset F.G_Ruleset 75 :=
  opens_struct2 (mk := fun a b => ⟨a, b⟩) (t := 75) (by exact Tryd.underlying75) (by kernel_rfl) o_73 o_4 rfl rfl (fun _ _ => rfl) (fun a b h0 h1 => (show F.G_Ruleset ⟨a, b⟩ from ⟨h0, h1⟩))
theorem o_85 : Opens Tryd.prog RPacket F.G_Packet 85 :=
  opens_struct4 (mk := fun a b c d => ⟨a, b, c, d⟩) (t := 85) (by exact Tryd.underlying85) (by kernel_rfl) o_3 o_3 o_3 o_3 rfl rfl rfl rfl (fun _ _ _ _ => rfl) (fun a b c d h0 h1 h2 h3 => (show F.G_Packet ⟨a, b, c, d⟩ from ⟨h0, h1, h2, h3⟩))

theorem lifted_FnExactJudgeTrace (os : Os) (started : os.Started) (H : Type) (enc : TypeId × Value → H) :
    ReturnsInHanded {} Tryd.checked os 11 .any (fun w args => (Rows.fnExactJudgeTraceSpec.pre enc Tryd.prog Tryd.f11 [] false w args ∧ laidMetH Tryd.prog laidRows w) ∧ sizedMet enc Tryd.prog Tryd.f11 (OpenSpec.ofChange Rows.fnExactJudgeTraceSpec) false w args)
      (Rows.fnExactJudgeTraceSpec.post enc Tryd.prog Tryd.f11 false true false false) := by
  refine returnsInHanded_of_change_and (C := Tryd.checked) (X := fun w _ => laidMetH Tryd.prog laidRows w) (fun _ _ _ hh h => h.of_heap hh) own started (by kernel_rfl) Tryd.func11
    (ChangeSpec.witness_shaped (enc := enc) (C := Tryd.checked) (os := os) (X := fun w _ => laidMetH Tryd.prog laidRows w) false (World.doorLaid Tryd.prog 400 os) #[.agg #[.slice none 0 0, .bool false], .agg #[.int .i64 0, .int .i64 0, .int .i64 0, .int .i64 0]] 8 rfl (World.shaped_of_RefB (by kernel_rfl) (by kernel_rfl)) (by kernel_rfl) (by kernel_rfl) (by kernel_rfl) (door_met os _)) ?_
  intro W base args ds gs before hval0 hW _ _ hL _
  have hval : ∀ (j : Nat) t v, Tryd.f11.params[j]? = some t → args[j]? = some v → Value.okWide Tryd.prog W .any base t v := hval0
  have hW' := hW
  obtain ⟨p, q, hA0, hV, rfl, hfz, hnd⟩ := hW
  have hA : DataW.TrodAll enc Tryd.prog W 0 (fun _ => true) true Tryd.f11.params.toList args.toList ds p := hA0
  rw [Tryd.params11] at hA hval
  obtain ⟨v0, v1, d0, d1, p0, p1, rfl, rfl, rfl, h0, h1⟩ := trodAll_two hA
  obtain ⟨a0, r0, g0⟩ := o_75.arg rfl Tryd.underlying75 (hval 0 75 v0 rfl rfl) h0
  obtain ⟨a1, r1, g1⟩ := o_85.arg rfl Tryd.underlying85 (hval 1 85 v1 rfl rfl) h1
  clear hA0 hval0
  refine (w_laws_FnExactJudgeTrace (shapes_of_laid hL) (fun b h => h.elim) r0 r1 (Go.PF.F.plain_FnExactJudgeTrace a0 a1 g0 g1)).mono fun e W' ⟨v, he, hv, hb⟩ => ?_
  subst he
  refine ⟨_, rfl, post_true (n := "loop.example/packetfilter/impl.fieldShapes") (tb := 4) laidOut rfl ?_ ?_ hW' hb.below (by kernel_rfl) Tryd.underlying4 (vbool_eq hv) ?_⟩
  · intro t ht
    rw [show Tryd.checked.prog = Tryd.prog from rfl] at *
    have hm : t ∈ [75, 85] := by simpa [Tryd.params11] using ht
    have hall : ([75, 85].all fun t => Tryd.prog.readableRec t && decide (t < Tryd.prog.types.size)) = true := by kernel_rfl
    have := List.all_eq_true.1 hall t hm
    simpa using this
  · intro g t hg ht
    obtain rfl := Option.some.inj (gShapes.symm.trans hg)
    obtain rfl := Option.some.inj (tShapes.symm.trans ht)
    exact ⟨by kernel_rfl, of_decide_eq_true (by kernel_rfl)⟩
  · rintro g rfl
    rfl

theorem closed_FnExactJudgeTrace : joinedFacts Tryd.prog 11 Tryd.f11 Rows.fnExactJudgeTraceSpec Rows.fnExactJudgeTraceRow = true := by
  unfold joinedFacts
  exact and_i (and_i (and_i (and_i (and_i (and_i (and_i (and_i (and_i (and_i (and_i (and_i (and_i (and_i (and_i (and_i (and_i (and_i (and_i (and_i (and_i (and_i (and_i (and_i (and_i (and_i (and_i (and_i (and_i (and_i (and_i (by kernel_rfl) laidOut) mapsRowed_is) (by kernel_rfl)) (by kernel_rfl)) (by kernel_rfl)) stops_is) (by kernel_rfl)) stopKnobs_is) (by kernel_rfl)) (by kernel_rfl)) (by kernel_rfl)) (by kernel_rfl)) (by kernel_rfl)) (by kernel_rfl)) (by kernel_rfl)) (by kernel_rfl)) (by kernel_rfl)) (by kernel_rfl)) (by kernel_rfl)) (by kernel_rfl)) (by kernel_rfl)) plainKeys_is) (by kernel_rfl)) stopsHeard_is) mayEnter_is) lifted_is) make_is) (by kernel_rfl)) (by kernel_rfl)) (by kernel_rfl)) (by kernel_rfl)
theorem holds_FnExactJudgeTrace : Rows.FnExactJudgeTraceSaid :=
  OpenClaim.holds_of_wide 11 Tryd.f11 rfl rfl rfl rfl rfl rfl rfl ⟨rfl, rfl, rfl, rfl, rfl⟩ rfl rfl rfl rfl rfl (by kernel_rfl) Tryd.func11 closed_FnExactJudgeTrace
    (of_decide_eq_true (by kernel_rfl)) (by unfold Func.isWrapper; first | (rw [if_pos (by decide +kernel)]; kernel_rfl) | (rw [if_neg (by decide +kernel)]; exact ⟨rfl, rfl⟩))
    (fun os started H enc _ => lifted_FnExactJudgeTrace os started H enc)

theorem card_FnExactJudgeTrace : Rows.FnExactJudgeTraceCardSaid :=
  Claim7.holds_tied_plain_at .later [] [.data] true (true, "64c432969ee5cb7c0e5aaaf703873408fd1b233c1e05e0ebde8e920e729a22df") false
    holds_FnExactJudgeTrace (fun _ h => by cases h) (by kernel_rfl) (fun _ h => by cases h) fnExactJudgeTrace_row_tie rfl ⟨rfl, rfl⟩ main_is rfl
    (fun f fn hf hfn => by
      obtain rfl : f = 11 := Option.some.inj (named_is.symm.trans hf) |>.symm
      obtain rfl : fn = Tryd.f11 := (Option.some.inj (Tryd.func11.symm.trans hfn)).symm
      exact ⟨looks_is, fun j t ht => by
        rw [Tryd.params11] at ht
        have hm : t ∈ [75, 85] := by simpa using Array.mem_of_getElem? ht
        have hall : ([75, 85].all fun u => !Tryd.prog.wantsStandIn u) = true := by kernel_rfl
        exact (show Tryd.prog.wantsStandIn t = false by simpa using List.all_eq_true.1 hall t hm)⟩)
    goes_is
#print axioms card_FnExactJudgeTrace
end Go.Proofs.YtbnndochnkkllaaDoor
