/- Plain laws: laws of drawn arguments: boxes, rules. -/
import Derived.Test.YtadlmencjbangaaDoorPlL
namespace Go.PF.F
open Go Go.PF

theorem same_spans (xs ys : List Span) (h : xs.length ≤ 9223372036854775807) : laws_sameSpans xs ys = some (decide (xs = ys)) := by
  refine eq_list (f := fun x y => some (decide (x = y))) (body := laws_sameSpans_L0 xs ys) xs ys h (fun _ _ _ _ => rfl) (fun k => ?_)
  unfold laws_sameSpans_L0
  congr 1
  cases idx xs k with
  | none => rfl
  | some x =>
    cases idx ys k with
    | none => rfl
    | some y => simp only [Option.bind_some]; cases decide (x = y) <;> rfl
theorem same_box (a b : Box) (h : OkBox a) : laws_sameBox a b = some (decide (a = b)) := by
  obtain ⟨xs⟩ := a
  obtain ⟨ys⟩ := b
  have := eq_list (f := laws_sameSpans) (body := laws_sameBox_L0 ⟨xs⟩ ⟨ys⟩) xs ys h.1 (fun x hx y _ => same_spans x y (h.2 x hx)) (fun k => rfl)
  unfold laws_sameBox
  rw [this]
  simp
theorem same_boxes (xs ys : List Box) (h : xs.length ≤ 9223372036854775807) (hs : ∀ x ∈ xs, OkBox x) : laws_sameBoxes xs ys = some (decide (xs = ys)) :=
  eq_list (f := laws_sameBox) (body := laws_sameBoxes_L0 xs ys) xs ys h (fun x hx y _ => same_box x y (hs x hx)) (fun _ => rfl)
theorem draw_guard {c : Prop} [Decidable c] {k : Option Bool} (h : ¬ c → k = some true) : (bif decide c then some true else k) = some true := by
  by_cases hc : c
  · rw [decide_eq_true hc]; rfl
  · rw [decide_eq_false hc]; exact h hc
theorem draw_open {code : List Int} (h : GAll GU8 code) {α : Type} {K : List Int × Int → Option α} {R : Option α → Prop} (hk : ∀ xs, Bytes xs → R (K (xs, 0))) : R ((spec_l20Open code).bind K) := by
  obtain ⟨xs, e, hx⟩ := open_ok h
  rw [e]; exact hk xs hx
theorem BH_iff {b : Box} (h : b.Sides.length = 4) {p : Packet} : BH b p ↔ ∀ k, k < 4 → has (sd b.Sides k) (pf p k) = true := by
  unfold BH
  constructor
  · intro hh k hk
    obtain ⟨xs, e, hs⟩ := hh k hk
    rw [sd_get h hk] at e
    rw [has_iff, Option.some.inj e]; exact hs
  · intro hh k hk
    exact ⟨_, sd_get h hk, has_iff.1 (hh k hk)⟩
theorem impl_emptyb {b : Box} (hb : OkBox b) : Dec (impl_BoxEmpty b) (BV b ∧ emptyS b.Sides) :=
  (impl_box hb).and fun hv => by
    rw [impl_sides hv.1, Option.bind_some]
    exact Dec.ret (impl_emp hv.1)
/-! Rules. -/
theorem RulesSm.ok {rs : List Rule} (h : RulesSm rs) : rs.length ≤ 9223372036854775807 ∧ ∀ r ∈ rs, r.Tests.length ≤ 9223372036854775807 := ⟨by have := h.1; omega, fun r hr => by have := h.2 r hr; omega⟩
/-! First fits. -/
end Go.PF.F
