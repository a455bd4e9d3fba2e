/- Plain laws: laws of drawn arguments: boxes, rules. -/
import Derived.Test.YtbnndochnkkllaaDoorPlL
namespace Go.PF.F
open Go Go.PF

theorem alive_is : laws_alive = some true := rfl
theorem draw_guard {c : Prop} [Decidable c] {k : Option Bool} (h : ¬ c → k = some true) : (bif decide c then some true else k) = some true := by
  by_cases hc : c
  · rw [decide_eq_true hc]; rfl
  · rw [decide_eq_false hc]; exact h hc
theorem draw_open {code : List Int} (h : GAll GU8 code) {α : Type} {K : List Int × Int → Option α} {R : Option α → Prop} (hk : ∀ xs, Bytes xs → R (K (xs, 0))) : R ((spec_l20Open code).bind K) := by
  obtain ⟨xs, e, hx⟩ := open_ok h
  rw [e]; exact hk xs hx
theorem full_BV : BV ⟨fullS⟩ := BV_iff.2 ⟨full_B4, full_few⟩
theorem full_ok : OkBox ⟨fullS⟩ := B4.ok (b := ⟨fullS⟩) full_B4
theorem BH_iff {b : Box} (h : b.Sides.length = 4) {p : Packet} : BH b p ↔ ∀ k, k < 4 → has (sd b.Sides k) (pf p k) = true := by
  unfold BH
  constructor
  · intro hh k hk
    obtain ⟨xs, e, hs⟩ := hh k hk
    rw [sd_get h hk] at e
    rw [has_iff, Option.some.inj e]; exact hs
  · intro hh k hk
    exact ⟨_, sd_get h hk, has_iff.1 (hh k hk)⟩
/-! Rules. -/
theorem RulesSm.ok {rs : List Rule} (h : RulesSm rs) : rs.length ≤ 9223372036854775807 ∧ ∀ r ∈ rs, r.Tests.length ≤ 9223372036854775807 := ⟨by have := h.1; omega, fun r hr => by have := h.2 r hr; omega⟩
/-! First fits. -/
end Go.PF.F
