/- Plain laws: validity. -/
import Derived.Test.YtbnndochnkkllaaDoorPlA
namespace Go.PF.F
open Go Go.PF

/-- The answer is whether P. -/
def Dec (o : Option Bool) (P : Prop) : Prop := ∃ r, o = some r ∧ (r = true ↔ P)
theorem Dec.same {o o' : Option Bool} {P : Prop} (h : Dec o P) (k : Dec o' P) : ∃ r, o = some r ∧ o' = some r ∧ (r = true ↔ P) := by
  obtain ⟨r, e, hr⟩ := h
  obtain ⟨r', e', hr'⟩ := k
  have : r = r' := by
    cases r <;> cases r' <;> simp_all
  exact ⟨r, e, this ▸ e', hr⟩
theorem Dec.mk {b : Bool} {P : Prop} (h : b = true ↔ P) : Dec (some b) P := ⟨b, rfl, h⟩
theorem Dec.no {P : Prop} (h : ¬ P) : Dec (some false) P := ⟨false, rfl, by simp [h]⟩
theorem Dec.yes {P : Prop} (h : P) : Dec (some true) P := ⟨true, rfl, by simp [h]⟩

/-- The spans lie in [0, top], in order, apart. -/
def SV (xs : List Span) (top : Int) (n : Nat) : Prop := ∀ (i : Nat) (x : Span), i < n → xs[i]? = some x → 0 ≤ x.Lo ∧ x.Lo ≤ x.Hi ∧ x.Hi ≤ top ∧ ∀ p, 0 < i → xs[i - 1]? = some p → p.Hi + 2 ≤ x.Lo
def SVP (xs : List Span) (top : Int) : Prop := (0 ≤ top ∧ top ≤ 65535) ∧ xs.length ≤ 40 ∧ SV xs top xs.length
theorem SV.succ {xs : List Span} {top : Int} {k : Nat} (h : SV xs top k) {x : Span} (hx : xs[k]? = some x) (h1 : 0 ≤ x.Lo ∧ x.Lo ≤ x.Hi ∧ x.Hi ≤ top) (h2 : ∀ p, 0 < k → xs[k - 1]? = some p → p.Hi + 2 ≤ x.Lo) : SV xs top (k + 1) := by
  intro i y hi hy
  by_cases e : i = k
  · subst e
    obtain rfl : x = y := Option.some.inj (hx.symm.trans hy)
    exact ⟨h1.1, h1.2.1, h1.2.2, h2⟩
  · exact h i y (by omega) hy

theorem in_dec (n lo hi : Int) : spec_l1In n lo hi = some (decide (lo ≤ n ∧ n ≤ hi)) := by
  unfold spec_l1In
  by_cases h : lo ≤ n <;> by_cases h2 : n ≤ hi <;> simp [h, h2]
theorem top_dec (n : Int) : impl_topValid n = some (decide (0 ≤ n ∧ n ≤ 65535)) := by
  unfold impl_topValid
  by_cases h : 0 ≤ n <;> by_cases h2 : n ≤ 65535 <;> simp [h, h2]

theorem spec_spans (xs : List Span) (top : Int) (hn : xs.length ≤ 9223372036854775807) : Dec (spec_SpansValid xs top) (SVP xs top) := by
  unfold spec_SpansValid
  obtain ⟨o, ho, hq⟩ := loop_idx (body := spec_SpansValid_L0 xs top) xs.length (fun k s => s = (k : Int) ∧ ((0 ≤ top ∧ top ≤ 65535) → SV xs top k))
    (fun o => (∃ k, o = .brk k ∧ ((0 ≤ top ∧ top ≤ 65535) → SV xs top xs.length)) ∨ (o = .ret false ∧ ¬ SVP xs top)) (s := 0) ⟨rfl, fun _ i x h => by omega⟩
    (fun k s hk ⟨h1, h2⟩ => by
      subst h1
      have e1 : ((k : Int) < (xs.length : Int)) := by omega
      have hx : xs[k]? = some xs[k] := List.getElem?_eq_getElem hk
      unfold spec_SpansValid_L0
      simp only [decide_eq_true e1, cond_true, idx_get hk, Option.bind_some, in_dec]
      by_cases a1 : 0 ≤ xs[k].Lo ∧ xs[k].Lo ≤ xs[k].Hi
      · simp only [decide_eq_true a1, cond_true]
        by_cases a2 : 0 ≤ xs[k].Hi ∧ xs[k].Hi ≤ top
        · simp only [decide_eq_true a2, cond_true]
          by_cases hk0 : 0 < k
          · have e2 : (0 : Int) < (k : Int) := by omega
            have hk1 : k - 1 < xs.length := by omega
            have e3 : W ((k : Int) - 1) = ((k - 1 : Nat) : Int) := by rw [W_of (by omega) (by omega)]; omega
            simp only [decide_eq_true e2, cond_true, e3, idx_get hk1, Option.bind_some]
            by_cases ht : 0 ≤ top ∧ top ≤ 65535
            · have hp := h2 ht (k - 1) xs[k - 1] (by omega) (List.getElem?_eq_getElem hk1)
              rw [W_of (by omega) (by omega)]
              by_cases a3 : xs[k].Lo < xs[k - 1].Hi + 2
              · rw [decide_eq_true a3]
                refine .inr (.inl ⟨false, rfl, .inr ⟨rfl, fun hs => ?_⟩⟩)
                have := (hs.2.2 k _ hk hx).2.2.2 xs[k - 1] hk0 (List.getElem?_eq_getElem hk1)
                omega
              · rw [decide_eq_false a3]
                refine .inl ⟨_, by rw [cond_false, W_succ (by omega)], rfl, fun ht => (h2 ht).succ hx ⟨a1.1, a1.2, a2.2⟩ fun p _ hp => ?_⟩
                rw [List.getElem?_eq_getElem hk1] at hp
                obtain rfl := Option.some.inj hp
                omega
            · cases decide (xs[k].Lo < W (xs[k - 1].Hi + 2))
              · exact .inl ⟨_, by rw [cond_false, W_succ (by omega)], rfl, fun h => absurd h ht⟩
              · exact .inr (.inl ⟨false, rfl, .inr ⟨rfl, fun hs => ht hs.1⟩⟩)
          · have e2 : ¬ (0 : Int) < (k : Int) := by omega
            rw [decide_eq_false e2]
            exact .inl ⟨_, by rw [cond_false, W_succ (by omega)], rfl, fun ht => (h2 ht).succ hx ⟨a1.1, a1.2, a2.2⟩ fun p h => absurd h hk0⟩
        · rw [decide_eq_false a2]
          refine .inr (.inl ⟨false, rfl, .inr ⟨rfl, fun hs => a2 ?_⟩⟩)
          have := hs.2.2 k _ hk hx
          omega
      · rw [decide_eq_false a1]
        refine .inr (.inl ⟨false, rfl, .inr ⟨rfl, fun hs => a1 ?_⟩⟩)
        have := hs.2.2 k _ hk hx
        omega)
    (fun s ⟨h1, h2⟩ => by
      subst h1
      refine .inl ⟨(xs.length : Int), ?_, .inl ⟨_, rfl, h2⟩⟩
      unfold spec_SpansValid_L0
      rw [decide_eq_false (by omega)]; rfl)
  rw [ho]
  rcases hq with ⟨k, rfl, h⟩ | ⟨rfl, h⟩
  · simp only [Option.bind_some, LR.on, in_dec]
    by_cases ht : 0 ≤ top ∧ top ≤ 65535
    · rw [decide_eq_true ht, cond_true]
      refine Dec.mk ?_
      have := h ht
      simp only [decide_eq_true_eq, SVP]
      exact ⟨fun hl => ⟨ht, by omega, this⟩, fun hs => by have := hs.2.1; omega⟩
    · rw [decide_eq_false ht, cond_false]
      exact Dec.no fun hs => ht hs.1
  · exact Dec.no h

theorem impl_spans (xs : List Span) (top : Int) (hn : xs.length ≤ 9223372036854775807) : Dec (impl_SpansValid xs top) (SVP xs top) := by
  unfold impl_SpansValid
  rw [top_dec]
  simp only [Option.bind_some]
  by_cases ht : 0 ≤ top ∧ top ≤ 65535
  · rw [decide_eq_true ht, cond_true]
    by_cases hl : (40 : Int) < (xs.length : Int)
    · rw [decide_eq_true hl]
      exact Dec.no fun hs => by have := hs.2.1; omega
    · rw [decide_eq_false hl, cond_false]
      obtain ⟨o, ho, hq⟩ := loop_idx (body := impl_SpansValid_L0 xs top) xs.length (fun k s => s.2 = (k : Int) ∧ (k = 0 → s.1 = -2) ∧ (∀ p, 0 < k → xs[k - 1]? = some p → s.1 = p.Hi) ∧ SV xs top k)
        (fun o => (∃ k, o = .brk k ∧ SV xs top xs.length) ∨ (o = .ret false ∧ ¬ SVP xs top)) (s := (-2, 0)) ⟨rfl, fun _ => rfl, fun _ h => by omega, fun i x h => by omega⟩
        (fun k s hk ⟨h1, h0, hp, h2⟩ => by
          obtain ⟨a, b⟩ := s
          simp only at h1 h0 hp
          subst h1
          have e1 : ((k : Int) < (xs.length : Int)) := by omega
          have hx : xs[k]? = some xs[k] := List.getElem?_eq_getElem hk
          have ha : -2 ≤ a ∧ a ≤ 65535 ∧ (0 < k → 0 ≤ a) := by
            by_cases hk0 : 0 < k
            · have hk1 : k - 1 < xs.length := by omega
              have e := hp xs[k - 1] hk0 (List.getElem?_eq_getElem hk1)
              have := h2 (k - 1) xs[k - 1] (by omega) (List.getElem?_eq_getElem hk1)
              omega
            · have := h0 (by omega); omega
          unfold impl_SpansValid_L0
          simp only [decide_eq_true e1, cond_true, idx_get hk, Option.bind_some]
          rw [W_of (by omega) (by omega)]
          have hfalse : ∀ (hb : ¬ (0 ≤ xs[k].Lo ∧ xs[k].Lo ≤ xs[k].Hi ∧ xs[k].Hi ≤ top ∧ a + 2 ≤ xs[k].Lo)), ¬ SVP xs top := fun hb hs => hb (by
            have hh := hs.2.2 k _ hk hx
            refine ⟨hh.1, hh.2.1, hh.2.2.1, ?_⟩
            by_cases hk0 : 0 < k
            · have hk1 : k - 1 < xs.length := by omega
              have e := hp xs[k - 1] hk0 (List.getElem?_eq_getElem hk1)
              have := hh.2.2.2 xs[k - 1] hk0 (List.getElem?_eq_getElem hk1)
              omega
            · have := h0 (by omega); omega)
          by_cases a1 : xs[k].Lo ≤ a + 1
          · rw [decide_eq_true a1]
            exact .inr (.inl ⟨false, rfl, .inr ⟨rfl, hfalse (by omega)⟩⟩)
          · rw [decide_eq_false a1, cond_false]
            by_cases a2 : xs[k].Hi < xs[k].Lo
            · rw [decide_eq_true a2]
              exact .inr (.inl ⟨false, rfl, .inr ⟨rfl, hfalse (by omega)⟩⟩)
            · rw [decide_eq_false a2, cond_false]
              by_cases a3 : top < xs[k].Hi
              · rw [decide_eq_true a3]
                exact .inr (.inl ⟨false, rfl, .inr ⟨rfl, hfalse (by omega)⟩⟩)
              · rw [decide_eq_false a3, cond_false]
                refine .inl ⟨_, by rw [W_succ (by omega)], rfl, by omega, fun p _ hpp => ?_, h2.succ hx ⟨by omega, by omega, by omega⟩ fun p hk0 hpp => ?_⟩
                · rw [Nat.add_sub_cancel, hx] at hpp
                  obtain rfl := Option.some.inj hpp
                  rfl
                · have := hp p hk0 hpp
                  omega)
        (fun s ⟨h1, h0, hp, h2⟩ => by
          obtain ⟨a, b⟩ := s
          simp only at h1
          subst h1
          refine .inl ⟨(a, (xs.length : Int)), ?_, .inl ⟨_, rfl, h2⟩⟩
          unfold impl_SpansValid_L0
          simp only
          rw [decide_eq_false (by omega)]; rfl)
      rw [ho]
      rcases hq with ⟨k, rfl, h⟩ | ⟨rfl, h⟩
      · exact Dec.yes ⟨ht, by omega, h⟩
      · exact Dec.no h
  · rw [decide_eq_false ht]
    exact Dec.no fun hs => ht hs.1

/-- The highest value of field number i. -/
def topOf (i : Nat) : Int := if i = 0 then 65535 else if i = 1 then 65535 else if i = 2 then 255 else if i = 3 then 7 else -1
theorem spec_top (k : Nat) : spec_FieldTop (k : Int) = some (topOf k) := by
  unfold spec_FieldTop topOf
  by_cases h0 : k = 0
  · subst h0; rfl
  by_cases h1 : k = 1
  · subst h1; rfl
  by_cases h2 : k = 2
  · subst h2; rfl
  by_cases h3 : k = 3
  · subst h3; rfl
  rw [if_neg h0, if_neg h1, if_neg h2, if_neg h3]
  rw [(by simp; omega : ((k : Int) == 0) = false), (by simp; omega : ((k : Int) == 1) = false), (by simp; omega : ((k : Int) == 2) = false), (by simp; omega : ((k : Int) == 3) = false)]; rfl
theorem impl_top (k : Nat) : impl_FieldTop (k : Int) = some (topOf k) := by
  unfold impl_FieldTop topOf
  by_cases h0 : k = 0
  · subst h0; rfl
  by_cases h1 : k = 1
  · subst h1; rfl
  by_cases h2 : k = 2
  · subst h2; rfl
  by_cases h3 : k = 3
  · subst h3; rfl
  rw [if_neg h0, if_neg h1, if_neg h2, if_neg h3]
  rw [decide_eq_false (by omega : ¬ (k : Int) < 0), decide_eq_true (by omega : (4 : Int) ≤ (k : Int))]; rfl

/-- The box is valid. -/
def BV (b : Box) : Prop := b.Sides.length = 4 ∧ ∀ (i : Nat) xs, b.Sides[i]? = some xs → SVP xs (topOf i)
theorem spec_box {b : Box} (hb : OkBox b) : Dec (spec_BoxValid b) (BV b) := by
  unfold spec_BoxValid
  have hl := hb.1
  obtain ⟨o, ho, hq⟩ := loop_idx (body := spec_BoxValid_L0 b) b.Sides.length (fun k s => s = (k : Int) ∧ ∀ (i : Nat) xs, i < k → b.Sides[i]? = some xs → SVP xs (topOf i))
    (fun o => (∃ k, o = .brk k ∧ ∀ (i : Nat) xs, b.Sides[i]? = some xs → SVP xs (topOf i)) ∨ (o = .ret false ∧ ¬ BV b)) (s := 0) ⟨rfl, fun i xs h => by omega⟩
    (fun k s hk ⟨h1, h2⟩ => by
      subst h1
      have e1 : ((k : Int) < (b.Sides.length : Int)) := by omega
      have hx : b.Sides[k]? = some b.Sides[k] := List.getElem?_eq_getElem hk
      unfold spec_BoxValid_L0
      by_cases h4 : (4 : Int) ≤ (k : Int)
      · simp only [decide_eq_true e1, decide_eq_true h4, cond_true]
        exact .inr (.inl ⟨false, rfl, .inr ⟨rfl, fun h => by have := h.1; omega⟩⟩)
      · simp only [decide_eq_true e1, decide_eq_false h4, cond_true, cond_false, idx_get hk, Option.bind_some, spec_top]
        obtain ⟨r, hr, hi⟩ := spec_spans b.Sides[k] (topOf k) (hb.2 _ (List.getElem_mem hk))
        rw [hr]
        cases r with
        | true =>
          refine .inl ⟨_, by rw [Option.bind_some, cond_true, W_succ (by omega)], rfl, fun i xs h hxs => ?_⟩
          by_cases e : i = k
          · subst e
            obtain rfl := Option.some.inj (hx.symm.trans hxs)
            exact hi.1 rfl
          · exact h2 i xs (by omega) hxs
        | false => exact .inr (.inl ⟨false, rfl, .inr ⟨rfl, fun h => by simpa using hi.2 (h.2 k _ hx)⟩⟩))
    (fun s ⟨h1, h2⟩ => by
      subst h1
      refine .inl ⟨_, ?_, .inl ⟨(b.Sides.length : Int), rfl, fun i xs hxs => h2 i xs (List.getElem?_eq_some_iff.1 hxs).1 hxs⟩⟩
      unfold spec_BoxValid_L0
      rw [decide_eq_false (by omega)]; rfl)
  rw [ho]
  rcases hq with ⟨k, rfl, h⟩ | ⟨rfl, h⟩
  · refine Dec.mk ?_
    simp only [beq_iff_eq, BV]
    exact ⟨fun e => ⟨by omega, h⟩, fun e => by have := e.1; omega⟩
  · exact Dec.no h
theorem impl_box {b : Box} (hb : OkBox b) : Dec (impl_BoxValid b) (BV b) := by
  unfold impl_BoxValid
  have hl := hb.1
  by_cases hl4 : b.Sides.length = 4
  · rw [(by simp; omega : ((b.Sides.length : Int) != 4) = false), cond_false]
    obtain ⟨o, ho, hq⟩ := loop_idx (body := impl_BoxValid_L0 b) b.Sides.length (fun k s => s = (k : Int) ∧ ∀ (i : Nat) xs, i < k → b.Sides[i]? = some xs → SVP xs (topOf i))
      (fun o => (∃ k, o = .brk k ∧ ∀ (i : Nat) xs, b.Sides[i]? = some xs → SVP xs (topOf i)) ∨ (o = .ret false ∧ ¬ BV b)) (s := 0) ⟨rfl, fun i xs h => by omega⟩
      (fun k s hk ⟨h1, h2⟩ => by
        subst h1
        have e1 : ((k : Int) < (b.Sides.length : Int)) := by omega
        have hx : b.Sides[k]? = some b.Sides[k] := List.getElem?_eq_getElem hk
        unfold impl_BoxValid_L0
        simp only [decide_eq_true e1, cond_true, idx_get hk, Option.bind_some, impl_top]
        obtain ⟨r, hr, hi⟩ := impl_spans b.Sides[k] (topOf k) (hb.2 _ (List.getElem_mem hk))
        rw [hr]
        cases r with
        | true =>
          refine .inl ⟨_, by rw [Option.bind_some, cond_true, W_succ (by omega)], rfl, fun i xs h hxs => ?_⟩
          by_cases e : i = k
          · subst e
            obtain rfl := Option.some.inj (hx.symm.trans hxs)
            exact hi.1 rfl
          · exact h2 i xs (by omega) hxs
        | false => exact .inr (.inl ⟨false, rfl, .inr ⟨rfl, fun h => by simpa using hi.2 (h.2 k _ hx)⟩⟩))
      (fun s ⟨h1, h2⟩ => by
        subst h1
        refine .inl ⟨_, ?_, .inl ⟨(b.Sides.length : Int), rfl, fun i xs hxs => h2 i xs (List.getElem?_eq_some_iff.1 hxs).1 hxs⟩⟩
        unfold impl_BoxValid_L0
        rw [decide_eq_false (by omega)]; rfl)
    rw [ho]
    rcases hq with ⟨k, rfl, h⟩ | ⟨rfl, h⟩
    · exact Dec.yes ⟨hl4, h⟩
    · exact Dec.no h
  · rw [(by simp; omega : ((b.Sides.length : Int) != 4) = true), cond_true]
    exact Dec.no fun h => hl4 h.1

theorem left_neg {n : Nat} (h : ¬ n ≤ 1048576) : decide (leftOf 1048576 n < 0) = true := by
  unfold leftOf; rw [if_pos (by omega)]; rfl
theorem left_pos {n : Nat} (h : n ≤ 1048576) : decide (leftOf 1048576 n < 0) = false := by
  unfold leftOf; rw [if_neg (by omega)]; exact decide_eq_false (by omega)
theorem ok_of_sm {b : Box} (h : SmBox b) : OkBox b := ⟨Nat.le_trans h.1 (by decide), fun x hx => Nat.le_trans (h.2 x hx) (by decide)⟩

theorem plain_FnExactBoxValid (a : Box) (ga : G_Box a) : laws_FnExactBoxValid a = some true := by
  have ha := ok_of_G ga
  unfold laws_FnExactBoxValid
  rw [sz_Box (by decide) (by decide) ha, Option.bind_some]
  by_cases hs : wBox a ≤ 1048576
  · have hm := sm_Box hs
    obtain ⟨r, e1, e2, _⟩ := (spec_box ha).same (impl_box ha)
    rw [left_pos hs, to_Box hm]
    simp only [cond_false, Option.bind_some, e1, e2, eq_Box _ _ ha]
    simp
  · rw [left_neg hs]; rfl
end Go.PF.F
