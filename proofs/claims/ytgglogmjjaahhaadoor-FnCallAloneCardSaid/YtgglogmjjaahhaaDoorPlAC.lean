/- Plain laws: draws of rulesets. -/
import Derived.Test.YtgglogmjjaahhaaDoorPlAB
import Derived.Test.YtgglogmjjaahhaaDoorPlM
namespace Go.PF.F
open Go Go.PF

/-- A ruleset of a draw. -/
def RsSm (s : Ruleset) : Prop := s.Chains.length ≤ 3 ∧ ∀ rs ∈ s.Chains, rs.length ≤ 11 ∧ ∀ r ∈ rs, r.Tests.length ≤ 7
theorem RsSm.ok {s : Ruleset} (h : RsSm s) : OkRs s := ⟨by have := h.1; omega, fun rs hrs => ⟨by have := (h.2 rs hrs).1; omega, fun r hr => by have := (h.2 rs hrs).2 r hr; omega⟩⟩
theorem RulesSm.w {rs : List Rule} (h : RulesSm rs) : rs.length ≤ 11 ∧ ∀ r ∈ rs, r.Tests.length ≤ 7 := ⟨by have := h.1; omega, h.2⟩
end Go.PF.F
