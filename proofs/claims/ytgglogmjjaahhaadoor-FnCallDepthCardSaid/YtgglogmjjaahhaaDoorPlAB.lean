/- Plain laws: what changes of a ruleset do to judging. -/
import Derived.Test.YtgglogmjjaahhaaDoorPlAA
namespace Go.PF.F
open Go Go.PF

/-! The action alone. -/
def waL (p : Packet) (rec : Nat → Int) : List Rule → Int
  | [] => 5
  | r :: rs =>
    if holdB p r then
      if r.Action = 1 then 1
      else if r.Action = 2 then 2
      else if r.Action = 4 then 5
      else if r.Action = 3 then
        if rec r.Chain.toNat = 5 then waL p rec rs else rec r.Chain.toNat
      else waL p rec rs
    else waL p rec rs
def wa (cs : List (List Rule)) (p : Packet) : Nat → Nat → Int
  | 0, _ => 5
  | f + 1, c => waL p (wa cs p f) (ch cs c)
/-! Chains that are changed. -/
theorem CB.set {cs : List (List Rule)} (hb : CB cs) {i : Nat} {rs : List Rule} (hv : RsV rs) (hl : ∀ r ∈ rs, r.Chain < (cs.length : Int)) : CB (cs.set i rs) := by
  refine ⟨by rw [List.length_set]; exact hb.n1, by rw [List.length_set]; exact hb.n5, fun x hx => ?_, fun x hx r hr => ?_⟩
  · rcases List.mem_or_eq_of_mem_set hx with h | rfl
    · exact hb.rv x h
    · exact hv
  · rw [List.length_set]
    rcases List.mem_or_eq_of_mem_set hx with h | rfl
    · exact hb.lt x h r hr
    · exact hl r hr
theorem CB.map {cs : List (List Rule)} (hb : CB cs) {g : List Rule → List Rule} (hv : ∀ rs ∈ cs, RsV (g rs)) (hl : ∀ rs ∈ cs, ∀ r ∈ g rs, r.Chain < (cs.length : Int)) : CB (cs.map g) := by
  refine ⟨by rw [List.length_map]; exact hb.n1, by rw [List.length_map]; exact hb.n5, fun x hx => ?_, fun x hx r hr => ?_⟩
  · obtain ⟨y, hy, rfl⟩ := List.mem_map.1 hx
    exact hv y hy
  · rw [List.length_map]
    obtain ⟨y, hy, rfl⟩ := List.mem_map.1 hx
    exact hl y hy r hr
/-! What a walk visits. -/
end Go.PF.F
