/- Plain laws: rulesets with one rule more, rulesets turned round. -/
import Derived.Test.YtbnndochnkkllaaDoorPlAE
namespace Go.PF.F
open Go Go.PF

theorem rsv_set {cs : List (List Rule)} {a : Bool} (h : RSV ⟨cs, a⟩) {i : Nat} (hi : i < cs.length) {rs : List Rule} (hv : RsV rs) (hl : ∀ r ∈ rs, r.Chain < (cs.length : Int)) (hc : ∀ d, called rs d = true → called (ch cs i) d = true) (b : Bool) : RSV ⟨cs.set i rs, b⟩ := by
  refine ⟨h.1.set hv hl, fun c hcl => ?_⟩
  rw [List.length_set] at hcl
  refine ends_sub (fun c d hd => ?_) (h.2 c hcl)
  have hd : called (ch (cs.set i rs) c) d = true := hd
  rw [ch_set hi] at hd
  show called (ch cs c) d = true
  split at hd
  · rename_i e; rw [e]; exact hc d hd
  · exact hd
theorem ok_set {s : Ruleset} (hs : RsSm s) {i : Nat} {rs : List Rule} (hl : rs.length ≤ 1000) (ht : ∀ r ∈ rs, r.Tests.length ≤ 1000) (b : Bool) : OkRs ⟨s.Chains.set i rs, b⟩ := by
  refine ⟨by simp only [List.length_set]; have := hs.1; omega, fun x hx => ?_⟩
  rcases List.mem_or_eq_of_mem_set hx with h | rfl
  · exact hs.ok.2 x h
  · exact ⟨by omega, fun r hr => by have := ht r hr; omega⟩
/-! Turned round. -/
end Go.PF.F
