import Derived.Test.YtbnndochnkkllaaDoorPlK
import Derived.Test.YtbnndochnkkllaaDoorPlAB
/- Plain laws: what the draws give. -/
namespace Go.PF.F
open Go Go.PF

/-- A draw from position pos on that reads at most C bytes. -/
def Dr {α : Type} (m : Option (α × Int)) (pos C : Int) (Q : α → Prop) : Prop := 0 ≤ pos → pos + C ≤ 1000000 → ∃ a p, m = some (a, p) ∧ Q a ∧ pos ≤ p ∧ p ≤ pos + C
def Bytes (xs : List Int) : Prop := ∀ x ∈ xs, 0 ≤ x ∧ x ≤ 255
section
variable {α β γ : Type} {pos c C : Int} {P : α → Prop} {Q : β → Prop}
theorem Dr.bind {m : Option (α × Int)} {f : α × Int → Option (β × Int)} (hm : Dr m pos c P) (hc : 0 ≤ c ∧ c ≤ C) (hf : ∀ a p, P a → Dr (f (a, p)) p (C - c) Q) : Dr (m.bind f) pos C Q := by
  intro h0 h1
  obtain ⟨a, p, e, ha, l, u⟩ := hm h0 (by omega)
  obtain ⟨b, p', e', hb, l', u'⟩ := hf a p ha (by omega) (by omega)
  exact ⟨b, p', by rw [e]; exact e', hb, by omega, by omega⟩
theorem Dr.some {b : β} (hq : Q b) (hc : 0 ≤ C) : Dr (some (b, pos)) pos C Q := fun _ _ => ⟨b, pos, rfl, hq, Int.le_refl _, by omega⟩
/-- The draw is made. -/
theorem Dr.run {m : Option (α × Int)} {K : α × Int → Option γ} {R : Option γ → Prop} (hm : Dr m pos C P) (h0 : 0 ≤ pos) (h1 : pos + C ≤ 1000000) (hk : ∀ a p, P a → pos ≤ p → p ≤ pos + C → R (K (a, p))) : R (m.bind K) := by
  obtain ⟨a, p, e, ha, l, u⟩ := hm h0 h1
  rw [e]; exact hk a p ha l u
end
theorem tmod_range {x n : Int} (hx : 0 ≤ x) (hn : 1 ≤ n) : 0 ≤ x.tmod n ∧ x.tmod n < n := ⟨Int.tmod_nonneg n hx, Int.tmod_lt_of_pos x (by omega)⟩
theorem xor_nonneg {i j : Int} (hi : 0 ≤ i) (hi2 : i < 4611686018427387904) (hj : 0 ≤ j) (hj2 : j < 4611686018427387904) : 0 ≤ xorF i j := by
  unfold xorF
  have e1 : (i % 2 ^ 64).toNat = i.toNat := by rw [Int.emod_eq_of_lt hi (by omega)]
  have e2 : (j % 2 ^ 64).toNat = j.toNat := by rw [Int.emod_eq_of_lt hj (by omega)]
  rw [e1, e2]
  have : i.toNat ^^^ j.toNat < 2 ^ 62 := Nat.xor_lt_two_pow (by omega) (by omega)
  rw [W_of (by omega) (by omega)]
  omega
theorem Dr.pick {xs : List Int} (hx : Bytes xs) {pos n : Int} (hn : 1 ≤ n) : Dr (spec_l20Rd_pick xs pos n) pos 1 (fun r => 0 ≤ r ∧ r < n) := by
  intro h0 h1
  have hnz : nzF n = Option.some () := by unfold nzF; rw [if_neg (by simp; omega)]
  unfold spec_l20Rd_pick
  rw [lt_false (show (1 : Int) ≤ n by omega), cond_false]
  have hp : W (pos + 1) = pos + 1 := W_of (by omega) (by omega)
  have hk : W (W (pos + 1) - 1) = pos := by rw [hp, W_of (by omega) (by omega)]; omega
  by_cases hl : xs.length = 0
  · rw [show (((xs.length : Int)) == 0) = true from by simp; exact List.eq_nil_of_length_eq_zero hl, cond_true]
    exact ⟨0, pos + 1, by rw [hp], ⟨by omega, by omega⟩, by omega, by omega⟩
  · rw [show (((xs.length : Int)) == 0) = false from by simp; exact fun e => hl (by rw [e]; rfl), cond_false, hk]
    have hw : ∀ x ∈ xs, W x = x := fun x hm => W_of (by have := hx x hm; omega) (by have := hx x hm; omega)
    by_cases hlt : pos < (xs.length : Int)
    · rw [lt_true hlt, cond_true]
      obtain ⟨k, rfl⟩ := Int.eq_ofNat_of_zero_le h0
      have hkl : k < xs.length := by omega
      rw [idx_get hkl, Option.bind_some, hnz, Option.bind_some, hw _ (List.getElem_mem hkl)]
      exact ⟨_, _, by rw [hp], tmod_range (hx _ (List.getElem_mem hkl)).1 hn, by omega, by omega⟩
    · rw [decide_eq_false hlt, cond_false, show nzF (xs.length : Int) = Option.some () from by unfold nzF; rw [if_neg (by simp; exact fun e => hl (by rw [e]; rfl))], Option.bind_some]
      have hi : ∀ i : Int, 0 ≤ i → ∃ x, idx xs (i.tmod (xs.length : Int)) = Option.some x ∧ 0 ≤ x ∧ x ≤ 255 ∧ W x = x := by
        intro i hi
        have hr := tmod_range (n := (xs.length : Int)) hi (by omega)
        obtain ⟨k, hk⟩ := Int.eq_ofNat_of_zero_le hr.1
        rw [hk] at hr ⊢
        have hkl : k < xs.length := by omega
        have := hx _ (List.getElem_mem hkl)
        exact ⟨xs[k], idx_get hkl, this.1, this.2, hw _ (List.getElem_mem hkl)⟩
      obtain ⟨a, ea, ha0, ha1, hwa⟩ := hi pos h0
      have e7 : W (W (pos * 7) + 3) = pos * 7 + 3 := by rw [W_of (x := pos * 7) (by omega) (by omega), W_of (by omega) (by omega)]
      obtain ⟨b, eb, hb0, hb1, hwb⟩ := hi (pos * 7 + 3) (by omega)
      rw [ea, Option.bind_some, e7, eb, Option.bind_some, hnz, Option.bind_some, hwa, hwb]
      have hd0 : 0 ≤ pos.tdiv (xs.length : Int) := Int.tdiv_nonneg h0 (by omega)
      have hd1 : pos.tdiv (xs.length : Int) ≤ pos := by
        rw [Int.tdiv_eq_ediv_of_nonneg h0]
        exact Int.ediv_le_self _ h0
      have eX : W (W (W (W (a * 131) + W (b * 1117)) + W (pos * 29)) + W (W (pos.tdiv (xs.length : Int)) * 53)) = a * 131 + b * 1117 + pos * 29 + pos.tdiv (xs.length : Int) * 53 := by
        generalize pos.tdiv (xs.length : Int) = d at hd0 hd1
        rw [W_of (x := a * 131) (by omega) (by omega), W_of (x := b * 1117) (by omega) (by omega), W_of (x := a * 131 + b * 1117) (by omega) (by omega), W_of (x := pos * 29) (by omega) (by omega), W_of (x := a * 131 + b * 1117 + pos * 29) (by omega) (by omega), W_of (x := d) (by omega) (by omega), W_of (x := d * 53) (by omega) (by omega), W_of (by omega) (by omega)]
      rw [eX]
      generalize hX : a * 131 + b * 1117 + pos * 29 + pos.tdiv (xs.length : Int) * 53 = X
      have hX0 : 0 ≤ X := by
        generalize pos.tdiv (xs.length : Int) = d at hd0 hd1 hX
        omega
      have hX1 : X < 4611686018427387904 := by
        generalize pos.tdiv (xs.length : Int) = d at hd0 hd1 hX
        omega
      have hY0 : 0 ≤ X.tdiv 64 := Int.tdiv_nonneg hX0 (by omega)
      have hY1 : X.tdiv 64 ≤ X := by rw [Int.tdiv_eq_ediv_of_nonneg hX0]; exact Int.ediv_le_self _ hX0
      rw [W_of (x := X.tdiv 64) (by omega) (by omega)]
      exact ⟨_, _, by rw [hp], tmod_range (xor_nonneg hX0 hX1 hY0 (by omega)) hn, by omega, by omega⟩
/-- A loop of draws. -/
theorem draw_loop {β ρ : Type} {gen : Int → Option (β × Int)} {body : (List β) × Int × Int → Option (SR ((List β) × Int × Int) ρ)} {c : Int} {Q : β → Prop} (hc : 0 ≤ c) (hg : ∀ p, Dr (gen p) p c Q)
    (hb : ∀ y k p, body (y, k, p) = bif (decide (0 < k)) then (gen p).bind fun x => (appF y [x.1]).bind fun z => some (.nxt (z, W (k - 1), x.2)) else some (.brk (y, k, p))) :
    ∀ (n : Nat) (y : List β) (p : Int), n ≤ 1000 → y.length + n ≤ 1000000 → (∀ x ∈ y, Q x) → 0 ≤ p → p + n * c ≤ 1000000 →
      ∃ y' p', loopF body n.succ (y, (n : Int), p) = some (.brk (y', 0, p')) ∧ (∀ x ∈ y', Q x) ∧ y'.length = y.length + n ∧ p ≤ p' ∧ p' ≤ p + n * c := by
  intro n
  induction n with
  | zero =>
    intro y p _ _ hq h0 _
    refine ⟨y, p, ?_, hq, rfl, Int.le_refl _, by omega⟩
    unfold loopF
    rw [hb, lt_false (by omega)]; rfl
  | succ n ih =>
    intro y p hn hl hq h0 h1
    have e : ((n + 1 : Nat) : Int) * c = n * c + c := by rw [Int.natCast_add, Int.add_mul]; omega
    rw [e] at h1 ⊢
    have hnc : 0 ≤ (n : Int) * c := Int.mul_nonneg (by omega) hc
    obtain ⟨x, p1, ex, hx, l, u⟩ := hg p h0 (by omega)
    obtain ⟨y', p', e', hq', hl', l', u'⟩ := ih (y ++ [x]) p1 (by omega) (by simp; omega) (fun z hz => by
      rcases List.mem_append.1 hz with hz | hz
      · exact hq z hz
      · rw [List.mem_singleton.1 hz]; exact hx) (by omega) (by omega)
    refine ⟨y', p', ?_, hq', by rw [hl']; simp; omega, by omega, by omega⟩
    unfold loopF
    rw [hb, lt_true (by omega), cond_true, ex, Option.bind_some, app_ok (by simp; omega), Option.bind_some, show W (((n + 1 : Nat) : Int) - 1) = (n : Int) from by rw [W_of (by omega) (by omega)]; omega]
    exact e'
/-- A draw of a list. -/
theorem Dr.list {β γ : Type} {gen : Int → Option (β × Int)} {body : (List β) × Int × Int → Option (SR ((List β) × Int × Int) (γ × Int))} {c C k pos : Int} {N : Nat} {Q : β → Prop} {R : γ → Prop} {f : (List β) × Int × Int → Option (γ × Int)} (hk : 0 ≤ k ∧ k < N) (hN : N ≤ 100) (hc : 0 ≤ c) (hC : N * c ≤ C)
    (hg : ∀ p, Dr (gen p) p c Q)
    (hb : ∀ y k p, body (y, k, p) = bif (decide (0 < k)) then (gen p).bind fun x => (appF y [x.1]).bind fun z => Option.some (.nxt (z, W (k - 1), x.2)) else Option.some (.brk (y, k, p)))
    (hf : ∀ y p, (∀ x ∈ y, Q x) → y.length < N → Dr (f (y, 0, p)) p (C - N * c) R) :
    Dr ((loopF body (k : Int).toNat.succ (([] : List β), k, pos)).bind fun lr => lr.on f (fun r => Option.some r)) pos C R := by
  intro h0 h1
  obtain ⟨n, rfl⟩ := Int.eq_ofNat_of_zero_le hk.1
  have hnN : (n : Int) * c ≤ N * c := Int.mul_le_mul_of_nonneg_right (by omega) hc
  have hn0 : 0 ≤ (n : Int) * c := Int.mul_nonneg (by omega) hc
  obtain ⟨y, p, e, hq, hl, l, u⟩ := draw_loop hc hg hb n [] pos (by omega) (by simp; omega) (by simp) h0 (by omega)
  rw [Int.toNat_natCast, e]
  obtain ⟨r, p', e', hr, l', u'⟩ := hf y p hq (by rw [hl]; simp; omega) (by omega) (by omega)
  exact ⟨r, p', e', hr, by omega, by omega⟩

/-! The draws. -/
/-- Rules of a draw. -/
def RulesSm (rs : List Rule) : Prop := rs.length ≤ 10 ∧ ∀ r ∈ rs, r.Tests.length ≤ 7
/-- A box of a draw. -/
def OkB (b : Box) : Prop := b.Sides.length ≤ 5 ∧ ∀ x ∈ b.Sides, x.length ≤ 40
theorem OkB.ok {b : Box} (h : OkB b) : OkBox b := ⟨by have := h.1; omega, fun x hx => by have := h.2 x hx; omega⟩
theorem OkB.of {s : List (List Span)} (h : B4 s) (hf : Few s) : OkB ⟨s⟩ := ⟨by show s.length ≤ 5; rw [h.1]; decide, fun x hx => by
  obtain ⟨i, hi, rfl⟩ := List.getElem_of_mem hx
  have h4 : i < 4 := by have := h.1; simp only at hi; omega
  have := sd_get h.1 h4
  rw [List.getElem?_eq_getElem hi] at this
  rw [Option.some.inj this]
  exact hf i h4⟩
theorem Few.set {s : List (List Span)} (hl : s.length = 4) (h : Few s) {k : Nat} (hk : k < 4) {x : List Span} (hx : x.length ≤ 40) : Few (s.set k x) := fun j hj => by
  rw [sd_set hl hk]
  split
  · exact hx
  · exact h j hj
end Go.PF.F

/- Plain laws: laws of drawn arguments: boxes, rules. -/
namespace Go.PF.F
open Go Go.PF

/-! Rules. -/
theorem RulesSm.ok {rs : List Rule} (h : RulesSm rs) : rs.length ≤ 9223372036854775807 ∧ ∀ r ∈ rs, r.Tests.length ≤ 9223372036854775807 := ⟨by have := h.1; omega, fun r hr => by have := h.2 r hr; omega⟩
/-! First fits. -/
end Go.PF.F

/- Plain laws: draws of rulesets. -/
namespace Go.PF.F
open Go Go.PF

/-- A ruleset of a draw. -/
def RsSm (s : Ruleset) : Prop := s.Chains.length ≤ 3 ∧ ∀ rs ∈ s.Chains, rs.length ≤ 11 ∧ ∀ r ∈ rs, r.Tests.length ≤ 7
theorem RsSm.ok {s : Ruleset} (h : RsSm s) : OkRs s := ⟨by have := h.1; omega, fun rs hrs => ⟨by have := (h.2 rs hrs).1; omega, fun r hr => by have := (h.2 rs hrs).2 r hr; omega⟩⟩
theorem RulesSm.w {rs : List Rule} (h : RulesSm rs) : rs.length ≤ 11 ∧ ∀ r ∈ rs, r.Tests.length ≤ 7 := ⟨by have := h.1; omega, h.2⟩
end Go.PF.F

/- Plain laws: laws of drawn rulesets. -/
namespace Go.PF.F
open Go Go.PF

/-! Decisions. -/
/-! Traces. -/
theorem trace_is {s : Ruleset} (hs : OkRs s) (p : Packet) : ∃ t, spec_JudgeTrace s p = some t ∧ impl_JudgeTrace s p = some t ∧ (RSV s → PV p → t = (judge s p).2) ∧ (¬ (RSV s ∧ PV p) → t = []) := by
  obtain ⟨v, e1, e2, hv⟩ := (spec_ruleset hs).same (impl_ruleset hs)
  obtain ⟨q, e3, e4, hq⟩ := (spec_packet p).same (impl_packet p)
  unfold spec_JudgeTrace impl_JudgeTrace
  rw [e1, e2, Option.bind_some, Option.bind_some, e3, e4]
  cases v with
  | false => exact ⟨[], rfl, rfl, fun h => by simpa using hv.2 h, fun _ => rfl⟩
  | true =>
    cases q with
    | false => exact ⟨[], rfl, rfl, fun _ h => by simpa using hq.2 h, fun _ => rfl⟩
    | true =>
      obtain ⟨stk, e5⟩ := impl_judge (hv.1 rfl) p
      refine ⟨(judge s p).2, ?_, ?_, fun _ _ => rfl, fun h => absurd ⟨hv.1 rfl, hq.1 rfl⟩ h⟩
      · simp only [cond_true, Option.bind_some, spec_judge (hv.1 rfl) (hq.1 rfl)]
      · simp only [cond_true, Option.bind_some, e5]
/-! A ruleset that is changed. -/
end Go.PF.F

/- Plain laws: called chains, used chains. -/
namespace Go.PF.F
open Go Go.PF

/-! Called chains. -/
/-! Used chains. -/
end Go.PF.F
