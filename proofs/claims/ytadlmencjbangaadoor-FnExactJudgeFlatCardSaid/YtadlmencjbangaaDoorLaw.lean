/- For every input the law laws.FnExactJudgeFlat returns true, and its arguments read as they did. Conditions: none but the row's own: the listed variable reads as the program's text lays it (tied). -/
import Derived.Test.YtadlmencjbangaaDoorTop
import Derived.Test.YtadlmencjbangaaDoorWk0
import Derived.Test.YtadlmencjbangaaDoorPlAW
import Derived.Test.YtadlmencjbangaaDoorMn
import Derived.Test.YtadlmencjbangaaDoorGb
namespace Go.Proofs.YtadlmencjbangaaDoor
open Go Go.PF Go.RowKit Go.ChangeShapes Go.WideShapes
set_option maxRecDepth 100000
theorem o_3 : Opens Tryd.prog RInt GInt 3 := opens_int Tryd.underlying3 (by kernel_rfl)
theorem o_150 : Opens Tryd.prog RSpan F.G_Span 150 :=
  opens_struct2 (mk := fun a b => ⟨a, b⟩) (t := 150) (by exact Tryd.underlying150) (by kernel_rfl) o_3 o_3 rfl rfl (fun _ _ => rfl) (fun a b h0 h1 => (show F.G_Span ⟨a, b⟩ from ⟨h0, h1⟩))
theorem o_144 : Opens Tryd.prog (RSlice RSpan) (GAll F.G_Span) 144 := opens_slice Tryd.underlying144 (by kernel_rfl) o_150 (by decide)
theorem o_82 : Opens Tryd.prog (RSlice (RSlice RSpan)) (GAll (GAll F.G_Span)) 82 := opens_slice Tryd.underlying82 (by kernel_rfl) o_144 (by decide)
theorem o_84 : Opens Tryd.prog RBox F.G_Box 84 :=
  opens_struct1 (mk := fun a => ⟨a⟩) (t := 84) (by exact Tryd.underlying84) (by kernel_rfl) o_82 rfl (fun _ => rfl) (fun a h0 => (show F.G_Box ⟨a⟩ from h0))
theorem o_4 : Opens Tryd.prog RBool GAny 4 := opens_bool Tryd.underlying4 (by kernel_rfl)
theorem o_86 : Opens Tryd.prog RFlat F.G_Flat 86 :=
  opens_struct2 (mk := fun a b => ⟨a, b⟩) (t := 86) (by exact Tryd.underlying86) (by kernel_rfl) o_84 o_4 rfl rfl (fun _ _ => rfl) (fun a b h0 h1 => (show F.G_Flat ⟨a, b⟩ from ⟨h0, h1⟩))
theorem o_45 : Opens Tryd.prog (RSlice RFlat) (GAll F.G_Flat) 45 := opens_slice Tryd.underlying45 (by kernel_rfl) o_86 (by decide)
theorem o_46 : Opens Tryd.prog RPacket F.G_Packet 46 :=
  opens_struct4 (mk := fun a b c d => ⟨a, b, c, d⟩) (t := 46) (by exact Tryd.underlying46) (by kernel_rfl) o_3 o_3 o_3 o_3 rfl rfl rfl rfl (fun _ _ _ _ => rfl) (fun a b c d h0 h1 h2 h3 => (show F.G_Packet ⟨a, b, c, d⟩ from ⟨h0, h1, h2, h3⟩))

theorem lifted_FnExactJudgeFlat (os : Os) (started : os.Started) (H : Type) (enc : TypeId × Value → H) :
    ReturnsInHanded {} Tryd.checked os 7 .any (fun w args => (Rows.fnExactJudgeFlatSpec.pre enc Tryd.prog Tryd.f7 [] false w args ∧ laidMetH Tryd.prog laidRows w) ∧ sizedMet enc Tryd.prog Tryd.f7 (OpenSpec.ofChange Rows.fnExactJudgeFlatSpec) false w args)
      (Rows.fnExactJudgeFlatSpec.post enc Tryd.prog Tryd.f7 false true false false) := by
  refine returnsInHanded_of_change_and (C := Tryd.checked) (X := fun w _ => laidMetH Tryd.prog laidRows w) (fun _ _ _ hh h => h.of_heap hh) own started (by kernel_rfl) Tryd.func7
    (ChangeSpec.witness_shaped (enc := enc) (C := Tryd.checked) (os := os) (X := fun w _ => laidMetH Tryd.prog laidRows w) false (World.doorLaid Tryd.prog 400 os) #[.slice none 0 0, .bool false, .agg #[.int .i64 0, .int .i64 0, .int .i64 0, .int .i64 0]] 8 rfl (World.shaped_of_RefB (by kernel_rfl) (by kernel_rfl)) (by kernel_rfl) (by kernel_rfl) (by kernel_rfl) (door_met os _)) ?_
  intro W base args ds gs before hval0 hW _ _ hL _
  have hval : ∀ (j : Nat) t v, Tryd.f7.params[j]? = some t → args[j]? = some v → Value.okWide Tryd.prog W .any base t v := hval0
  have hW' := hW
  obtain ⟨p, q, hA0, hV, rfl, hfz, hnd⟩ := hW
  have hA : DataW.TrodAll enc Tryd.prog W 0 (fun _ => true) true Tryd.f7.params.toList args.toList ds p := hA0
  rw [Tryd.params7] at hA hval
  obtain ⟨v0, v1, v2, d0, d1, d2, p0, p1, p2, rfl, rfl, rfl, h0, h1, h2⟩ := trodAll_three hA
  obtain ⟨a0, r0, g0⟩ := o_45.slice rfl Tryd.underlying45 (hval 0 45 v0 rfl rfl) h0
  obtain ⟨a1, r1, g1⟩ := o_4.bool  Tryd.underlying4 (hval 1 4 v1 rfl rfl) h1
  obtain rfl := vbool_eq r1
  obtain ⟨a2, r2, g2⟩ := o_46.arg rfl Tryd.underlying46 (hval 2 46 v2 rfl rfl) h2
  clear hA0 hval0
  refine (w_laws_FnExactJudgeFlat (shapes_of_laid hL) (fun b h => h.elim) r0 rfl r2 (Go.PF.F.plain_FnExactJudgeFlat a0 a1 a2 g0 g1 g2)).mono fun e W' ⟨v, he, hv, hb⟩ => ?_
  subst he
  refine ⟨_, rfl, post_true (n := "loop.example/packetfilter/impl.fieldShapes") (tb := 4) laidOut rfl ?_ ?_ hW' hb.below (by kernel_rfl) Tryd.underlying4 (vbool_eq hv) ?_⟩
  · intro t ht
    rw [show Tryd.checked.prog = Tryd.prog from rfl] at *
    have hm : t ∈ [45, 4, 46] := by simpa [Tryd.params7] using ht
    have hall : ([45, 4, 46].all fun t => Tryd.prog.readableRec t && decide (t < Tryd.prog.types.size)) = true := by kernel_rfl
    have := List.all_eq_true.1 hall t hm
    simpa using this
  · intro g t hg ht
    obtain rfl := Option.some.inj (gShapes.symm.trans hg)
    obtain rfl := Option.some.inj (tShapes.symm.trans ht)
    exact ⟨by kernel_rfl, of_decide_eq_true (by kernel_rfl)⟩
  · rintro g rfl
    rfl

theorem closed_FnExactJudgeFlat : joinedFacts Tryd.prog 7 Tryd.f7 Rows.fnExactJudgeFlatSpec Rows.fnExactJudgeFlatRow = true := by
  unfold joinedFacts
  exact and_i (and_i (and_i (and_i (and_i (and_i (and_i (and_i (and_i (and_i (and_i (and_i (and_i (and_i (and_i (and_i (and_i (and_i (and_i (and_i (and_i (and_i (and_i (and_i (and_i (and_i (and_i (and_i (and_i (and_i (and_i (by kernel_rfl) laidOut) mapsRowed_is) (by kernel_rfl)) (by kernel_rfl)) (by kernel_rfl)) stops_is) (by kernel_rfl)) stopKnobs_is) (by kernel_rfl)) (by kernel_rfl)) (by kernel_rfl)) (by kernel_rfl)) (by kernel_rfl)) (by kernel_rfl)) (by kernel_rfl)) (by kernel_rfl)) (by kernel_rfl)) (by kernel_rfl)) (by kernel_rfl)) (by kernel_rfl)) (by kernel_rfl)) plainKeys_is) (by kernel_rfl)) stopsHeard_is) mayEnter_is) lifted_is) make_is) (by kernel_rfl)) (by kernel_rfl)) (by kernel_rfl)) (by kernel_rfl)
theorem holds_FnExactJudgeFlat : Rows.FnExactJudgeFlatSaid :=
  OpenClaim.holds_of_wide 7 Tryd.f7 rfl rfl rfl rfl rfl rfl rfl ⟨rfl, rfl, rfl, rfl, rfl⟩ rfl rfl rfl rfl rfl (by kernel_rfl) Tryd.func7 closed_FnExactJudgeFlat
    (of_decide_eq_true (by kernel_rfl)) (by unfold Func.isWrapper; first | (rw [if_pos (by decide +kernel)]; kernel_rfl) | (rw [if_neg (by decide +kernel)]; exact ⟨rfl, rfl⟩))
    (fun os started H enc _ => lifted_FnExactJudgeFlat os started H enc)

theorem card_FnExactJudgeFlat : Rows.FnExactJudgeFlatCardSaid :=
  Claim7.holds_tied_plain_at .later [] [.data] true (true, "66add90f175d5f2066b0f54f792405a42e2a2ad9be0eb91f0aa6c877a4da5197") false
    holds_FnExactJudgeFlat (fun _ h => by cases h) (by kernel_rfl) (fun _ h => by cases h) fnExactJudgeFlat_row_tie rfl ⟨rfl, rfl⟩ main_is rfl
    (fun f fn hf hfn => by
      obtain rfl : f = 7 := Option.some.inj (named_is.symm.trans hf) |>.symm
      obtain rfl : fn = Tryd.f7 := (Option.some.inj (Tryd.func7.symm.trans hfn)).symm
      exact ⟨looks_is, fun j t ht => by
        rw [Tryd.params7] at ht
        have hm : t ∈ [45, 4, 46] := by simpa using Array.mem_of_getElem? ht
        have hall : ([45, 4, 46].all fun u => !Tryd.prog.wantsStandIn u) = true := by kernel_rfl
        exact (show Tryd.prog.wantsStandIn t = false by simpa using List.all_eq_true.1 hall t hm)⟩)
    goes_is
#print axioms card_FnExactJudgeFlat
end Go.Proofs.YtadlmencjbangaaDoor
