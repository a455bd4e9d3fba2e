/- Plain laws: laws of drawn arguments: boxes, rules. -/
import Derived.Test.YtnleamfkpjnfoaaDoorPlL
namespace Go.PF.F
open Go Go.PF

theorem alive_is : laws_alive = some true := rfl
theorem draw_guard {c : Prop} [Decidable c] {k : Option Bool} (h : ¬ c → k = some true) : (bif decide c then some true else k) = some true := by
  by_cases hc : c
  · rw [decide_eq_true hc]; rfl
  · rw [decide_eq_false hc]; exact h hc
theorem draw_open {code : List Int} (h : GAll GU8 code) {α : Type} {K : List Int × Int → Option α} {R : Option α → Prop} (hk : ∀ xs, Bytes xs → R (K (xs, 0))) : R ((spec_l20Open code).bind K) := by
  obtain ⟨xs, e, hx⟩ := open_ok h
  rw [e]; exact hk xs hx
/-! Rules. -/
theorem RulesSm.ok {rs : List Rule} (h : RulesSm rs) : rs.length ≤ 9223372036854775807 ∧ ∀ r ∈ rs, r.Tests.length ≤ 9223372036854775807 := ⟨by have := h.1; omega, fun r hr => by have := h.2 r hr; omega⟩
theorem half_is (n : Nat) (h : n ≤ 4294967296) : W ((n : Int).tdiv 2) = ((n / 2 : Nat) : Int) := by
  have : (n : Int).tdiv 2 = ((n / 2 : Nat) : Int) := by rw [Int.tdiv_eq_ediv_of_nonneg (by omega)]; omega
  rw [this, W_of (by omega) (by omega)]
theorem take_half {α : Type} {xs : List α} (h : xs.length ≤ 4294967296) : takeF xs (W ((xs.length : Int).tdiv 2)) = some (xs.take (xs.length / 2)) := by
  rw [half_is _ h]
  unfold takeF
  rw [if_pos ⟨by omega, by omega⟩]; rfl
/-- The law of a validity whose parts are valid. -/
theorem valid_law {α : Type} {f : List α → Option Bool} {g : List α → Option Bool} {xs : List α} {bad : α} {V : List α → Prop} (hl : xs.length ≤ 1000) (hf : ∀ ys, (∀ y ∈ ys, y ∈ xs ∨ y = bad) → ys.length ≤ 2000 → Dec (f ys) (V ys)) (hg : Dec (g xs) (V xs))
    (hpart : V xs → V (xs.take (xs.length / 2))) (hbad : ¬ V (xs ++ [bad])) :
    ((f xs).bind fun x2 => (g xs).bind fun x3 => bif (x2 != x3) then some false else bif x2 then (takeF xs (W (((xs.length : Int)).tdiv 2))).bind fun y1 => (f y1).bind fun x4 => bif x4 then (appF ([] : List α) xs).bind fun z1 => (appF z1 [bad]).bind fun z2 => (f z2).bind fun x5 => bif x5 then some false else laws_alive.bind fun x6 => some x6 else some false
      else (appF ([] : List α) xs).bind fun z3 => (appF z3 [bad]).bind fun z4 => (f z4).bind fun x7 => bif x7 then some false else laws_alive.bind fun x8 => some x8) = some true := by
  obtain ⟨r, e1, e2, hr⟩ := (hf xs (fun y hy => .inl hy) (by omega)).same hg
  obtain ⟨q, e3, hq⟩ := hf (xs.take (xs.length / 2)) (fun y hy => .inl (List.mem_of_mem_take hy)) (by simp; omega)
  obtain ⟨b, e4, hb⟩ := hf (xs ++ [bad]) (fun y hy => by
    rcases List.mem_append.1 hy with h | h
    · exact .inl h
    · exact .inr (List.mem_singleton.1 h)) (by simp; omega)
  have hb : b = false := by rw [Bool.eq_false_iff]; exact fun h => hbad (hb.1 h)
  rw [e1, e2, take_half (by omega), app_nil (by omega)]
  simp only [Option.bind_some, e3, app_ok (show xs.length + [bad].length ≤ 4294967296 by simp; omega), e4, hb, alive_is]
  cases r with
  | false => simp
  | true => rw [hq.2 (hpart (hr.1 rfl))]; simp
/-! First fits. -/
end Go.PF.F
