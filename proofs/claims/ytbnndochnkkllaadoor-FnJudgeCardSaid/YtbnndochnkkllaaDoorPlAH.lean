/- Plain laws: judging decides, unused chains do not matter. -/
import Derived.Test.YtbnndochnkkllaaDoorPlAG
namespace Go.PF.F
open Go Go.PF

theorem plain_FnJudge (code : List Int) (g : GAll GU8 code) : laws_FnJudge code = some true := by
  unfold laws_FnJudge
  refine draw_guard fun _ => ?_
  obtain ⟨s, q, e, hs⟩ := draw_case g
  obtain ⟨r, e1, e2, h1, h2⟩ := judge_is hs.ok q
  obtain ⟨b, e3, e4, h3, h4⟩ := judged_is hs.ok q
  obtain ⟨o, _, e5, h5, _⟩ := judge_is (s := ⟨s.Chains, !s.Accept⟩) hs.ok q
  rw [e]
  simp only [Option.bind_some, e1, e2, bne_self_eq_false, cond_false, e4, e5, alive_is]
  by_cases hall : RSV s ∧ PV q
  · have hb := h3 hall.1 hall.2
    have hr := h1 hall.1 hall.2
    have ho := h5 hall.1 hall.2
    rw [judgeB_wa] at hr ho
    rw [judge_act] at hb
    simp only at ho
    rcases wa_ok s.Chains q 5 0 with h | h | h
    · rw [h] at hb hr ho
      subst hb hr ho
      rfl
    · rw [h] at hb hr ho
      subst hb hr ho
      rfl
    · rw [h] at hb hr ho
      subst hb hr ho
      cases s.Accept <;> rfl
  · rw [h4 hall, h2 hall]; rfl
end Go.PF.F
