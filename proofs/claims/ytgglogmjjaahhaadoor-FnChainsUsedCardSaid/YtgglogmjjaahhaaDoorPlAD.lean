/- Plain laws: laws of drawn rulesets. -/
import Derived.Test.YtgglogmjjaahhaaDoorPlAC
namespace Go.PF.F
open Go Go.PF

theorem draw_chainsused {code : List Int} (h : GAll GU8 code) : ∃ s : Ruleset, spec_DrawChainsUsed code = some s ∧ RsSm s := by
  obtain ⟨s, p, xs, e0, hx, e, hs, _⟩ := draw_ruleset h 9
  refine ⟨s, ?_, hs⟩
  unfold spec_DrawChainsUsed
  rw [e0, Option.bind_some]
  simp only [e, Option.bind_some]
/-! Decisions. -/
/-! Traces. -/
theorem trace_is {s : Ruleset} (hs : OkRs s) (p : Packet) : ∃ t, spec_JudgeTrace s p = some t ∧ impl_JudgeTrace s p = some t ∧ (RSV s → PV p → t = (judge s p).2) ∧ (¬ (RSV s ∧ PV p) → t = []) := by
  obtain ⟨v, e1, e2, hv⟩ := (spec_ruleset hs).same (impl_ruleset hs)
  obtain ⟨q, e3, e4, hq⟩ := (spec_packet p).same (impl_packet p)
  unfold spec_JudgeTrace impl_JudgeTrace
  rw [e1, e2, Option.bind_some, Option.bind_some, e3, e4]
  cases v with
  | false => exact ⟨[], rfl, rfl, fun h => by simpa using hv.2 h, fun _ => rfl⟩
  | true =>
    cases q with
    | false => exact ⟨[], rfl, rfl, fun _ h => by simpa using hq.2 h, fun _ => rfl⟩
    | true =>
      obtain ⟨stk, e5⟩ := impl_judge (hv.1 rfl) p
      refine ⟨(judge s p).2, ?_, ?_, fun _ _ => rfl, fun h => absurd ⟨hv.1 rfl, hq.1 rfl⟩ h⟩
      · simp only [cond_true, Option.bind_some, spec_judge (hv.1 rfl) (hq.1 rfl)]
      · simp only [cond_true, Option.bind_some, e5]
/-! A ruleset that is changed. -/
end Go.PF.F
