import Derived.Test.YtbnndochnkkllaaDoorPFPlain
import Derived.Test.YtbnndochnkkllaaDoorFun
/- Plain laws of the program's small functions. -/
namespace Go.PF.F
open Go Go.PF

/-! What an argument is, whatever it is. -/
def G_Span (x : Span) : Prop := GInt x.Lo ∧ GInt x.Hi
def G_Box (x : Box) : Prop := GAll (GAll G_Span) x.Sides
/-! Sizes are counted. -/
def wSpanS (xs : List Span) : Nat := xs.length
def wSpanSS (xs : List (List Span)) : Nat := wtL wSpanS xs
def wBox (b : Box) : Nat := wSpanSS b.Sides
def wBoxS (xs : List Box) : Nat := wtL wBox xs
theorem sz_SpanS {l : Int} (h0 : 0 ≤ l) (h1 : l ≤ 1048576) {xs : List Span} (h : xs.length ≤ 9223372036854775807) : laws_szSpanS xs l = some (leftOf l (wSpanS xs)) := sz_leaf xs l h0 h1 h
theorem sz_SpanSS {l : Int} (h0 : 0 ≤ l) (h1 : l ≤ 1048576) {xs : List (List Span)} (h : xs.length ≤ 9223372036854775807) (hs : ∀ x ∈ xs, x.length ≤ 9223372036854775807) : laws_szSpanSS xs l = some (leftOf l (wSpanSS xs)) :=
  sz_list (body := laws_szSpanSS_L0 xs) xs l h0 h1 h (fun x hx _ a b => sz_SpanS a b (hs x hx)) (fun _ _ => rfl)
def OkBox (b : Box) : Prop := b.Sides.length ≤ 9223372036854775807 ∧ ∀ x ∈ b.Sides, x.length ≤ 9223372036854775807
theorem sz_Box {l : Int} (h0 : 0 ≤ l) (h1 : l ≤ 1048576) {b : Box} (h : OkBox b) : laws_szBox b l = some (leftOf l (wBox b)) := by
  unfold laws_szBox
  rw [sz_SpanSS h0 h1 h.1 h.2]
  exact sz_wrap
theorem sz_BoxS {l : Int} (h0 : 0 ≤ l) (h1 : l ≤ 1048576) {xs : List Box} (h : xs.length ≤ 9223372036854775807) (hs : ∀ x ∈ xs, OkBox x) : laws_szBoxS xs l = some (leftOf l (wBoxS xs)) :=
  sz_list (body := laws_szBoxS_L0 xs) xs l h0 h1 h (fun x hx _ a b => sz_Box a b (hs x hx)) (fun _ _ => rfl)
/-! A copy is what it copies. -/
theorem make_len {α : Type} {z : α} {n : Nat} (h : n ≤ 4294967296) : makeF z (n : Int) = some (List.replicate n z) := by
  unfold makeF
  rw [if_pos (by omega)]; rfl
theorem to_Span (x : Span) : laws_toSpan x = some x := rfl
theorem to_SpanS {xs : List Span} (h : xs.length ≤ 4294967296) : laws_toSpanS xs = some xs := by
  unfold laws_toSpanS
  rw [make_len h]
  simp only [Option.bind_some]
  rw [loop_copy (f := laws_toSpan) (body := laws_toSpanS_L0 xs) xs _ (by simp) (by omega) (fun x _ => to_Span x) (fun _ _ => rfl)]; rfl
theorem to_SpanSS {xs : List (List Span)} (h : xs.length ≤ 4294967296) (hs : ∀ x ∈ xs, x.length ≤ 4294967296) : laws_toSpanSS xs = some xs := by
  unfold laws_toSpanSS
  rw [make_len h]
  simp only [Option.bind_some]
  rw [loop_copy (f := laws_toSpanS) (body := laws_toSpanSS_L0 xs) xs _ (by simp) (by omega) (fun x hx => to_SpanS (hs x hx)) (fun _ _ => rfl)]; rfl
theorem ok_of_G {b : Box} (h : G_Box b) : OkBox b := ⟨h.1, fun x hx => (h.2 x hx).1⟩
/-- A box that has been counted. -/
def SmBox (b : Box) : Prop := b.Sides.length ≤ 1048576 ∧ ∀ x ∈ b.Sides, x.length ≤ 1048576
theorem to_Box {b : Box} (h : SmBox b) : laws_toBox b = some b := by
  unfold laws_toBox
  rw [to_SpanSS (Nat.le_trans h.1 (by decide)) (fun x hx => Nat.le_trans (h.2 x hx) (by decide))]; rfl
theorem to_BoxS {xs : List Box} (h : xs.length ≤ 1048576) (hs : ∀ x ∈ xs, SmBox x) : laws_toBoxS xs = some xs := by
  unfold laws_toBoxS
  rw [make_len (Nat.le_trans h (by decide))]
  simp only [Option.bind_some]
  rw [loop_copy (f := laws_toBox) (body := laws_toBoxS_L0 xs) xs _ (by simp) (by omega) (fun x hx => to_Box (hs x hx)) (fun _ _ => rfl)]; rfl
/-- What is counted is small. -/
theorem sm_Box {b : Box} (h : wBox b ≤ 1048576) : SmBox b := by
  unfold wBox wSpanSS wtL at h
  exact ⟨by omega, fun x hx => by have := mem_sum_le wSpanS hx; unfold wSpanS at *; omega⟩

/-! Equality. -/
theorem bne_dec {α : Type} [DecidableEq α] [BEq α] [LawfulBEq α] (a b : α) : (a != b) = !decide (a = b) := by
  by_cases h : a = b
  · rw [decide_eq_true h, h]; simp
  · rw [decide_eq_false h]; simp [h]
theorem eq_Span (x y : Span) : laws_eqSpan x y = some (decide (x = y)) := by
  obtain ⟨a, b⟩ := x
  obtain ⟨c, d⟩ := y
  unfold laws_eqSpan
  simp only [Span.mk.injEq]
  by_cases h1 : a = c <;> by_cases h2 : b = d <;> simp [bne_dec, h1, h2]
theorem eq_list {α : Type} [DecidableEq α] {f : α → α → Option Bool} {body : Int → Option (SR Int Bool)} (xs ys : List α) (hn : xs.length ≤ 9223372036854775807) (hf : ∀ x ∈ xs, ∀ y ∈ ys, f x y = some (decide (x = y)))
    (hb : ∀ k, body k = bif (decide (k < (xs.length : Int))) then (idx xs k).bind fun x1 => (idx ys k).bind fun x2 => (f x1 x2).bind fun x3 => bif x3 then some (.nxt (W (k + 1))) else some (.ret false) else some (.brk k)) :
    (bif ((xs.length : Int) != (ys.length : Int)) then some false else (loopF body (((xs.length : Int)) - 0).toNat.succ 0).bind (fun lr => lr.on (fun _ => some true) (fun r => some r))) = some (decide (xs = ys)) := by
  by_cases h : ys.length = xs.length
  · rw [loop_eq xs ys h hn hf hb]
    simp [h]
  · have : xs ≠ ys := fun e => h (by rw [e])
    have h' : ((xs.length : Int) != (ys.length : Int)) = true := by simp; omega
    rw [h', decide_eq_false this]; rfl
theorem eq_SpanS (xs ys : List Span) (h : xs.length ≤ 9223372036854775807) : laws_eqSpanS xs ys = some (decide (xs = ys)) :=
  eq_list (body := laws_eqSpanS_L0 xs ys) xs ys h (fun x _ y _ => eq_Span x y) (fun _ => rfl)
theorem eq_SpanSS (xs ys : List (List Span)) (h : xs.length ≤ 9223372036854775807) (hs : ∀ x ∈ xs, x.length ≤ 9223372036854775807) : laws_eqSpanSS xs ys = some (decide (xs = ys)) :=
  eq_list (body := laws_eqSpanSS_L0 xs ys) xs ys h (fun x hx y _ => eq_SpanS x y (hs x hx)) (fun _ => rfl)
theorem eq_Box (x y : Box) (h : OkBox x) : laws_eqBox x y = some (decide (x = y)) := by
  obtain ⟨xs⟩ := x
  obtain ⟨ys⟩ := y
  unfold laws_eqBox
  rw [eq_SpanSS _ _ h.1 h.2]
  simp only [Box.mk.injEq, Option.bind_some]
  by_cases e : xs = ys <;> simp [e]
theorem eq_BoxS (xs ys : List Box) (h : xs.length ≤ 9223372036854775807) (hs : ∀ x ∈ xs, OkBox x) : laws_eqBoxS xs ys = some (decide (xs = ys)) :=
  eq_list (body := laws_eqBoxS_L0 xs ys) xs ys h (fun x hx y _ => eq_Box x y (hs x hx)) (fun _ => rfl)
end Go.PF.F

/- Plain laws: validity. -/
namespace Go.PF.F
open Go Go.PF

/-- The answer is whether P. -/
def Dec (o : Option Bool) (P : Prop) : Prop := ∃ r, o = some r ∧ (r = true ↔ P)
theorem Dec.same {o o' : Option Bool} {P : Prop} (h : Dec o P) (k : Dec o' P) : ∃ r, o = some r ∧ o' = some r ∧ (r = true ↔ P) := by
  obtain ⟨r, e, hr⟩ := h
  obtain ⟨r', e', hr'⟩ := k
  have : r = r' := by
    cases r <;> cases r' <;> simp_all
  exact ⟨r, e, this ▸ e', hr⟩
theorem Dec.mk {b : Bool} {P : Prop} (h : b = true ↔ P) : Dec (some b) P := ⟨b, rfl, h⟩
theorem Dec.no {P : Prop} (h : ¬ P) : Dec (some false) P := ⟨false, rfl, by simp [h]⟩
theorem Dec.yes {P : Prop} (h : P) : Dec (some true) P := ⟨true, rfl, by simp [h]⟩

/-- The spans lie in [0, top], in order, apart. -/
def SV (xs : List Span) (top : Int) (n : Nat) : Prop := ∀ (i : Nat) (x : Span), i < n → xs[i]? = some x → 0 ≤ x.Lo ∧ x.Lo ≤ x.Hi ∧ x.Hi ≤ top ∧ ∀ p, 0 < i → xs[i - 1]? = some p → p.Hi + 2 ≤ x.Lo
def SVP (xs : List Span) (top : Int) : Prop := (0 ≤ top ∧ top ≤ 65535) ∧ xs.length ≤ 40 ∧ SV xs top xs.length
theorem SV.succ {xs : List Span} {top : Int} {k : Nat} (h : SV xs top k) {x : Span} (hx : xs[k]? = some x) (h1 : 0 ≤ x.Lo ∧ x.Lo ≤ x.Hi ∧ x.Hi ≤ top) (h2 : ∀ p, 0 < k → xs[k - 1]? = some p → p.Hi + 2 ≤ x.Lo) : SV xs top (k + 1) := by
  intro i y hi hy
  by_cases e : i = k
  · subst e
    obtain rfl : x = y := Option.some.inj (hx.symm.trans hy)
    exact ⟨h1.1, h1.2.1, h1.2.2, h2⟩
  · exact h i y (by omega) hy

theorem in_dec (n lo hi : Int) : spec_l1In n lo hi = some (decide (lo ≤ n ∧ n ≤ hi)) := by
  unfold spec_l1In
  by_cases h : lo ≤ n <;> by_cases h2 : n ≤ hi <;> simp [h, h2]
theorem top_dec (n : Int) : impl_topValid n = some (decide (0 ≤ n ∧ n ≤ 65535)) := by
  unfold impl_topValid
  by_cases h : 0 ≤ n <;> by_cases h2 : n ≤ 65535 <;> simp [h, h2]

theorem spec_spans (xs : List Span) (top : Int) (hn : xs.length ≤ 9223372036854775807) : Dec (spec_SpansValid xs top) (SVP xs top) := by
  unfold spec_SpansValid
  obtain ⟨o, ho, hq⟩ := loop_idx (body := spec_SpansValid_L0 xs top) xs.length (fun k s => s = (k : Int) ∧ ((0 ≤ top ∧ top ≤ 65535) → SV xs top k))
    (fun o => (∃ k, o = .brk k ∧ ((0 ≤ top ∧ top ≤ 65535) → SV xs top xs.length)) ∨ (o = .ret false ∧ ¬ SVP xs top)) (s := 0) ⟨rfl, fun _ i x h => by omega⟩
    (fun k s hk ⟨h1, h2⟩ => by
      subst h1
      have e1 : ((k : Int) < (xs.length : Int)) := by omega
      have hx : xs[k]? = some xs[k] := List.getElem?_eq_getElem hk
      unfold spec_SpansValid_L0
      simp only [decide_eq_true e1, cond_true, idx_get hk, Option.bind_some, in_dec]
      by_cases a1 : 0 ≤ xs[k].Lo ∧ xs[k].Lo ≤ xs[k].Hi
      · simp only [decide_eq_true a1, cond_true]
        by_cases a2 : 0 ≤ xs[k].Hi ∧ xs[k].Hi ≤ top
        · simp only [decide_eq_true a2, cond_true]
          by_cases hk0 : 0 < k
          · have e2 : (0 : Int) < (k : Int) := by omega
            have hk1 : k - 1 < xs.length := by omega
            have e3 : W ((k : Int) - 1) = ((k - 1 : Nat) : Int) := by rw [W_of (by omega) (by omega)]; omega
            simp only [decide_eq_true e2, cond_true, e3, idx_get hk1, Option.bind_some]
            by_cases ht : 0 ≤ top ∧ top ≤ 65535
            · have hp := h2 ht (k - 1) xs[k - 1] (by omega) (List.getElem?_eq_getElem hk1)
              rw [W_of (by omega) (by omega)]
              by_cases a3 : xs[k].Lo < xs[k - 1].Hi + 2
              · rw [decide_eq_true a3]
                refine .inr (.inl ⟨false, rfl, .inr ⟨rfl, fun hs => ?_⟩⟩)
                have := (hs.2.2 k _ hk hx).2.2.2 xs[k - 1] hk0 (List.getElem?_eq_getElem hk1)
                omega
              · rw [decide_eq_false a3]
                refine .inl ⟨_, by rw [cond_false, W_succ (by omega)], rfl, fun ht => (h2 ht).succ hx ⟨a1.1, a1.2, a2.2⟩ fun p _ hp => ?_⟩
                rw [List.getElem?_eq_getElem hk1] at hp
                obtain rfl := Option.some.inj hp
                omega
            · cases decide (xs[k].Lo < W (xs[k - 1].Hi + 2))
              · exact .inl ⟨_, by rw [cond_false, W_succ (by omega)], rfl, fun h => absurd h ht⟩
              · exact .inr (.inl ⟨false, rfl, .inr ⟨rfl, fun hs => ht hs.1⟩⟩)
          · have e2 : ¬ (0 : Int) < (k : Int) := by omega
            rw [decide_eq_false e2]
            exact .inl ⟨_, by rw [cond_false, W_succ (by omega)], rfl, fun ht => (h2 ht).succ hx ⟨a1.1, a1.2, a2.2⟩ fun p h => absurd h hk0⟩
        · rw [decide_eq_false a2]
          refine .inr (.inl ⟨false, rfl, .inr ⟨rfl, fun hs => a2 ?_⟩⟩)
          have := hs.2.2 k _ hk hx
          omega
      · rw [decide_eq_false a1]
        refine .inr (.inl ⟨false, rfl, .inr ⟨rfl, fun hs => a1 ?_⟩⟩)
        have := hs.2.2 k _ hk hx
        omega)
    (fun s ⟨h1, h2⟩ => by
      subst h1
      refine .inl ⟨(xs.length : Int), ?_, .inl ⟨_, rfl, h2⟩⟩
      unfold spec_SpansValid_L0
      rw [decide_eq_false (by omega)]; rfl)
  rw [ho]
  rcases hq with ⟨k, rfl, h⟩ | ⟨rfl, h⟩
  · simp only [Option.bind_some, LR.on, in_dec]
    by_cases ht : 0 ≤ top ∧ top ≤ 65535
    · rw [decide_eq_true ht, cond_true]
      refine Dec.mk ?_
      have := h ht
      simp only [decide_eq_true_eq, SVP]
      exact ⟨fun hl => ⟨ht, by omega, this⟩, fun hs => by have := hs.2.1; omega⟩
    · rw [decide_eq_false ht, cond_false]
      exact Dec.no fun hs => ht hs.1
  · exact Dec.no h

theorem impl_spans (xs : List Span) (top : Int) (hn : xs.length ≤ 9223372036854775807) : Dec (impl_SpansValid xs top) (SVP xs top) := by
  unfold impl_SpansValid
  rw [top_dec]
  simp only [Option.bind_some]
  by_cases ht : 0 ≤ top ∧ top ≤ 65535
  · rw [decide_eq_true ht, cond_true]
    by_cases hl : (40 : Int) < (xs.length : Int)
    · rw [decide_eq_true hl]
      exact Dec.no fun hs => by have := hs.2.1; omega
    · rw [decide_eq_false hl, cond_false]
      obtain ⟨o, ho, hq⟩ := loop_idx (body := impl_SpansValid_L0 xs top) xs.length (fun k s => s.2 = (k : Int) ∧ (k = 0 → s.1 = -2) ∧ (∀ p, 0 < k → xs[k - 1]? = some p → s.1 = p.Hi) ∧ SV xs top k)
        (fun o => (∃ k, o = .brk k ∧ SV xs top xs.length) ∨ (o = .ret false ∧ ¬ SVP xs top)) (s := (-2, 0)) ⟨rfl, fun _ => rfl, fun _ h => by omega, fun i x h => by omega⟩
        (fun k s hk ⟨h1, h0, hp, h2⟩ => by
          obtain ⟨a, b⟩ := s
          simp only at h1 h0 hp
          subst h1
          have e1 : ((k : Int) < (xs.length : Int)) := by omega
          have hx : xs[k]? = some xs[k] := List.getElem?_eq_getElem hk
          have ha : -2 ≤ a ∧ a ≤ 65535 ∧ (0 < k → 0 ≤ a) := by
            by_cases hk0 : 0 < k
            · have hk1 : k - 1 < xs.length := by omega
              have e := hp xs[k - 1] hk0 (List.getElem?_eq_getElem hk1)
              have := h2 (k - 1) xs[k - 1] (by omega) (List.getElem?_eq_getElem hk1)
              omega
            · have := h0 (by omega); omega
          unfold impl_SpansValid_L0
          simp only [decide_eq_true e1, cond_true, idx_get hk, Option.bind_some]
          rw [W_of (by omega) (by omega)]
          have hfalse : ∀ (hb : ¬ (0 ≤ xs[k].Lo ∧ xs[k].Lo ≤ xs[k].Hi ∧ xs[k].Hi ≤ top ∧ a + 2 ≤ xs[k].Lo)), ¬ SVP xs top := fun hb hs => hb (by
            have hh := hs.2.2 k _ hk hx
            refine ⟨hh.1, hh.2.1, hh.2.2.1, ?_⟩
            by_cases hk0 : 0 < k
            · have hk1 : k - 1 < xs.length := by omega
              have e := hp xs[k - 1] hk0 (List.getElem?_eq_getElem hk1)
              have := hh.2.2.2 xs[k - 1] hk0 (List.getElem?_eq_getElem hk1)
              omega
            · have := h0 (by omega); omega)
          by_cases a1 : xs[k].Lo ≤ a + 1
          · rw [decide_eq_true a1]
            exact .inr (.inl ⟨false, rfl, .inr ⟨rfl, hfalse (by omega)⟩⟩)
          · rw [decide_eq_false a1, cond_false]
            by_cases a2 : xs[k].Hi < xs[k].Lo
            · rw [decide_eq_true a2]
              exact .inr (.inl ⟨false, rfl, .inr ⟨rfl, hfalse (by omega)⟩⟩)
            · rw [decide_eq_false a2, cond_false]
              by_cases a3 : top < xs[k].Hi
              · rw [decide_eq_true a3]
                exact .inr (.inl ⟨false, rfl, .inr ⟨rfl, hfalse (by omega)⟩⟩)
              · rw [decide_eq_false a3, cond_false]
                refine .inl ⟨_, by rw [W_succ (by omega)], rfl, by omega, fun p _ hpp => ?_, h2.succ hx ⟨by omega, by omega, by omega⟩ fun p hk0 hpp => ?_⟩
                · rw [Nat.add_sub_cancel, hx] at hpp
                  obtain rfl := Option.some.inj hpp
                  rfl
                · have := hp p hk0 hpp
                  omega)
        (fun s ⟨h1, h0, hp, h2⟩ => by
          obtain ⟨a, b⟩ := s
          simp only at h1
          subst h1
          refine .inl ⟨(a, (xs.length : Int)), ?_, .inl ⟨_, rfl, h2⟩⟩
          unfold impl_SpansValid_L0
          simp only
          rw [decide_eq_false (by omega)]; rfl)
      rw [ho]
      rcases hq with ⟨k, rfl, h⟩ | ⟨rfl, h⟩
      · exact Dec.yes ⟨ht, by omega, h⟩
      · exact Dec.no h
  · rw [decide_eq_false ht]
    exact Dec.no fun hs => ht hs.1

/-- The highest value of field number i. -/
def topOf (i : Nat) : Int := if i = 0 then 65535 else if i = 1 then 65535 else if i = 2 then 255 else if i = 3 then 7 else -1
theorem spec_top (k : Nat) : spec_FieldTop (k : Int) = some (topOf k) := by
  unfold spec_FieldTop topOf
  by_cases h0 : k = 0
  · subst h0; rfl
  by_cases h1 : k = 1
  · subst h1; rfl
  by_cases h2 : k = 2
  · subst h2; rfl
  by_cases h3 : k = 3
  · subst h3; rfl
  rw [if_neg h0, if_neg h1, if_neg h2, if_neg h3]
  rw [(by simp; omega : ((k : Int) == 0) = false), (by simp; omega : ((k : Int) == 1) = false), (by simp; omega : ((k : Int) == 2) = false), (by simp; omega : ((k : Int) == 3) = false)]; rfl
theorem impl_top (k : Nat) : impl_FieldTop (k : Int) = some (topOf k) := by
  unfold impl_FieldTop topOf
  by_cases h0 : k = 0
  · subst h0; rfl
  by_cases h1 : k = 1
  · subst h1; rfl
  by_cases h2 : k = 2
  · subst h2; rfl
  by_cases h3 : k = 3
  · subst h3; rfl
  rw [if_neg h0, if_neg h1, if_neg h2, if_neg h3]
  rw [decide_eq_false (by omega : ¬ (k : Int) < 0), decide_eq_true (by omega : (4 : Int) ≤ (k : Int))]; rfl

/-- The box is valid. -/
def BV (b : Box) : Prop := b.Sides.length = 4 ∧ ∀ (i : Nat) xs, b.Sides[i]? = some xs → SVP xs (topOf i)
theorem spec_box {b : Box} (hb : OkBox b) : Dec (spec_BoxValid b) (BV b) := by
  unfold spec_BoxValid
  have hl := hb.1
  obtain ⟨o, ho, hq⟩ := loop_idx (body := spec_BoxValid_L0 b) b.Sides.length (fun k s => s = (k : Int) ∧ ∀ (i : Nat) xs, i < k → b.Sides[i]? = some xs → SVP xs (topOf i))
    (fun o => (∃ k, o = .brk k ∧ ∀ (i : Nat) xs, b.Sides[i]? = some xs → SVP xs (topOf i)) ∨ (o = .ret false ∧ ¬ BV b)) (s := 0) ⟨rfl, fun i xs h => by omega⟩
    (fun k s hk ⟨h1, h2⟩ => by
      subst h1
      have e1 : ((k : Int) < (b.Sides.length : Int)) := by omega
      have hx : b.Sides[k]? = some b.Sides[k] := List.getElem?_eq_getElem hk
      unfold spec_BoxValid_L0
      by_cases h4 : (4 : Int) ≤ (k : Int)
      · simp only [decide_eq_true e1, decide_eq_true h4, cond_true]
        exact .inr (.inl ⟨false, rfl, .inr ⟨rfl, fun h => by have := h.1; omega⟩⟩)
      · simp only [decide_eq_true e1, decide_eq_false h4, cond_true, cond_false, idx_get hk, Option.bind_some, spec_top]
        obtain ⟨r, hr, hi⟩ := spec_spans b.Sides[k] (topOf k) (hb.2 _ (List.getElem_mem hk))
        rw [hr]
        cases r with
        | true =>
          refine .inl ⟨_, by rw [Option.bind_some, cond_true, W_succ (by omega)], rfl, fun i xs h hxs => ?_⟩
          by_cases e : i = k
          · subst e
            obtain rfl := Option.some.inj (hx.symm.trans hxs)
            exact hi.1 rfl
          · exact h2 i xs (by omega) hxs
        | false => exact .inr (.inl ⟨false, rfl, .inr ⟨rfl, fun h => by simpa using hi.2 (h.2 k _ hx)⟩⟩))
    (fun s ⟨h1, h2⟩ => by
      subst h1
      refine .inl ⟨_, ?_, .inl ⟨(b.Sides.length : Int), rfl, fun i xs hxs => h2 i xs (List.getElem?_eq_some_iff.1 hxs).1 hxs⟩⟩
      unfold spec_BoxValid_L0
      rw [decide_eq_false (by omega)]; rfl)
  rw [ho]
  rcases hq with ⟨k, rfl, h⟩ | ⟨rfl, h⟩
  · refine Dec.mk ?_
    simp only [beq_iff_eq, BV]
    exact ⟨fun e => ⟨by omega, h⟩, fun e => by have := e.1; omega⟩
  · exact Dec.no h
theorem impl_box {b : Box} (hb : OkBox b) : Dec (impl_BoxValid b) (BV b) := by
  unfold impl_BoxValid
  have hl := hb.1
  by_cases hl4 : b.Sides.length = 4
  · rw [(by simp; omega : ((b.Sides.length : Int) != 4) = false), cond_false]
    obtain ⟨o, ho, hq⟩ := loop_idx (body := impl_BoxValid_L0 b) b.Sides.length (fun k s => s = (k : Int) ∧ ∀ (i : Nat) xs, i < k → b.Sides[i]? = some xs → SVP xs (topOf i))
      (fun o => (∃ k, o = .brk k ∧ ∀ (i : Nat) xs, b.Sides[i]? = some xs → SVP xs (topOf i)) ∨ (o = .ret false ∧ ¬ BV b)) (s := 0) ⟨rfl, fun i xs h => by omega⟩
      (fun k s hk ⟨h1, h2⟩ => by
        subst h1
        have e1 : ((k : Int) < (b.Sides.length : Int)) := by omega
        have hx : b.Sides[k]? = some b.Sides[k] := List.getElem?_eq_getElem hk
        unfold impl_BoxValid_L0
        simp only [decide_eq_true e1, cond_true, idx_get hk, Option.bind_some, impl_top]
        obtain ⟨r, hr, hi⟩ := impl_spans b.Sides[k] (topOf k) (hb.2 _ (List.getElem_mem hk))
        rw [hr]
        cases r with
        | true =>
          refine .inl ⟨_, by rw [Option.bind_some, cond_true, W_succ (by omega)], rfl, fun i xs h hxs => ?_⟩
          by_cases e : i = k
          · subst e
            obtain rfl := Option.some.inj (hx.symm.trans hxs)
            exact hi.1 rfl
          · exact h2 i xs (by omega) hxs
        | false => exact .inr (.inl ⟨false, rfl, .inr ⟨rfl, fun h => by simpa using hi.2 (h.2 k _ hx)⟩⟩))
      (fun s ⟨h1, h2⟩ => by
        subst h1
        refine .inl ⟨_, ?_, .inl ⟨(b.Sides.length : Int), rfl, fun i xs hxs => h2 i xs (List.getElem?_eq_some_iff.1 hxs).1 hxs⟩⟩
        unfold impl_BoxValid_L0
        rw [decide_eq_false (by omega)]; rfl)
    rw [ho]
    rcases hq with ⟨k, rfl, h⟩ | ⟨rfl, h⟩
    · exact Dec.yes ⟨hl4, h⟩
    · exact Dec.no h
  · rw [(by simp; omega : ((b.Sides.length : Int) != 4) = true), cond_true]
    exact Dec.no fun h => hl4 h.1

theorem ok_of_sm {b : Box} (h : SmBox b) : OkBox b := ⟨Nat.le_trans h.1 (by decide), fun x hx => Nat.le_trans (h.2 x hx) (by decide)⟩

end Go.PF.F

/- Plain laws: lists of valid things; packets; tests. -/
namespace Go.PF.F
open Go Go.PF

theorem Dec.and {m k : Option Bool} {P Q : Prop} (h : Dec m P) (hk : P → Dec k Q) : Dec (m.bind fun r => bif r then k else some false) (P ∧ Q) := by
  obtain ⟨r, rfl, hr⟩ := h
  cases r with
  | true =>
    obtain ⟨q, e, hq⟩ := hk (hr.1 rfl)
    exact ⟨q, by simpa using e, by rw [hq]; exact ⟨fun h => ⟨hr.1 rfl, h⟩, fun h => h.2⟩⟩
  | false => exact ⟨false, rfl, by simp; intro hp; exact absurd (hr.2 hp) (by simp)⟩
theorem Dec.ret {m : Option Bool} {P : Prop} (h : Dec m P) : Dec (m.bind fun x => some x) P := by
  obtain ⟨r, rfl, hr⟩ := h
  exact ⟨r, rfl, hr⟩
theorem Dec.iff {m : Option Bool} {P Q : Prop} (h : Dec m P) (e : P ↔ Q) : Dec m Q := by
  obtain ⟨r, rfl, hr⟩ := h
  exact ⟨r, rfl, hr.trans e⟩
theorem Dec.dec {P : Prop} [Decidable P] : Dec (some (decide P)) P := ⟨_, rfl, by simp⟩
theorem Dec.band {b : Bool} {k : Option Bool} {P Q : Prop} (h : b = true ↔ P) (hk : P → Dec k Q) : Dec (bif b then k else some false) (P ∧ Q) := Dec.and (m := some b) ⟨b, rfl, h⟩ hk
theorem Dec.dand {k : Option Bool} {P Q : Prop} [Decidable P] (hk : P → Dec k Q) : Dec (bif decide P then k else some false) (P ∧ Q) := Dec.band (by simp) hk

/-- Every element. -/
theorem Dec.all {α : Type} {xs : List α} {g : α → Option Bool} {P : α → Prop} {K : Option Bool} {Q : Prop} {body : Int → Option (SR Int Bool)} (hn : xs.length ≤ 9223372036854775807)
    (hg : ∀ x ∈ xs, Dec (g x) (P x)) (hK : (∀ x ∈ xs, P x) → Dec K Q)
    (hb : ∀ k, body k = bif (decide (k < (xs.length : Int))) then (idx xs k).bind fun x1 => (g x1).bind fun x2 => bif x2 then some (.nxt (W (k + 1))) else some (.ret false) else some (.brk k)) :
    Dec ((loopF body (((xs.length : Int)) - 0).toNat.succ 0).bind fun lr => lr.on (fun _ => K) (fun r => some r)) ((∀ x ∈ xs, P x) ∧ Q) := by
  obtain ⟨o, ho, hq⟩ := loop_idx (body := body) xs.length (fun k s => s = (k : Int) ∧ ∀ x ∈ xs.take k, P x)
    (fun o => (∃ k, o = .brk k ∧ ∀ x ∈ xs, P x) ∨ (o = .ret false ∧ ¬ ∀ x ∈ xs, P x)) (s := 0) ⟨rfl, by simp⟩
    (fun k s hk ⟨h1, h2⟩ => by
      subst h1
      have e1 : ((k : Int) < (xs.length : Int)) := by omega
      obtain ⟨r, hr, hi⟩ := hg xs[k] (List.getElem_mem hk)
      rw [hb, decide_eq_true e1, idx_get hk]
      simp only [cond_true, Option.bind_some, hr]
      cases r with
      | true =>
        refine .inl ⟨_, by rw [cond_true, W_succ (by omega)], rfl, fun x hx => ?_⟩
        rw [List.take_add_one, List.getElem?_eq_getElem hk] at hx
        rcases List.mem_append.1 hx with h | h
        · exact h2 x h
        · simp at h; subst h; exact hi.1 rfl
      | false => exact .inr (.inl ⟨false, rfl, .inr ⟨rfl, fun h => by simpa using hi.2 (h _ (List.getElem_mem hk))⟩⟩))
    (fun s ⟨h1, h2⟩ => by
      subst h1
      rw [List.take_of_length_le (Nat.le_refl _)] at h2
      refine .inl ⟨(xs.length : Int), ?_, .inl ⟨_, rfl, h2⟩⟩
      rw [hb, decide_eq_false (by omega)]; rfl)
  rw [ho]
  rcases hq with ⟨k, rfl, h⟩ | ⟨rfl, h⟩
  · obtain ⟨q, e, hq⟩ := hK h
    exact ⟨q, by simpa [LR.on] using e, by rw [hq]; exact ⟨fun x => ⟨h, x⟩, fun x => x.2⟩⟩
  · exact Dec.no fun x => h x.1
/-- The spec's way: every element, and then not too many. -/
theorem Dec.all_le {α : Type} {xs : List α} {g : α → Option Bool} {P : α → Prop} {c : Int} {body : Int → Option (SR Int Bool)} (hn : xs.length ≤ 9223372036854775807)
    (hg : ∀ x ∈ xs, Dec (g x) (P x))
    (hb : ∀ k, body k = bif (decide (k < (xs.length : Int))) then (idx xs k).bind fun x1 => (g x1).bind fun x2 => bif x2 then some (.nxt (W (k + 1))) else some (.ret false) else some (.brk k)) :
    Dec ((loopF body (((xs.length : Int)) - 0).toNat.succ 0).bind fun lr => lr.on (fun _ => some (decide ((xs.length : Int) ≤ c))) (fun r => some r)) ((∀ x ∈ xs, P x) ∧ (xs.length : Int) ≤ c) :=
  Dec.all hn hg (fun _ => Dec.dec) hb
/-- The program's way: not too many, and then every element. -/
theorem Dec.le_all {α : Type} {xs : List α} {g : α → Option Bool} {P : α → Prop} {c : Int} {body : Int → Option (SR Int Bool)} (hn : xs.length ≤ 9223372036854775807)
    (hg : ∀ x ∈ xs, Dec (g x) (P x))
    (hb : ∀ k, body k = bif (decide (k < (xs.length : Int))) then (idx xs k).bind fun x1 => (g x1).bind fun x2 => bif x2 then some (.nxt (W (k + 1))) else some (.ret false) else some (.brk k)) :
    Dec (bif decide (c < (xs.length : Int)) then some false else (loopF body (((xs.length : Int)) - 0).toNat.succ 0).bind fun lr => lr.on (fun _ => some true) (fun r => some r)) ((∀ x ∈ xs, P x) ∧ (xs.length : Int) ≤ c) := by
  by_cases h : c < (xs.length : Int)
  · rw [decide_eq_true h]
    exact Dec.no fun x => by omega
  · rw [decide_eq_false h, cond_false]
    exact (Dec.all hn hg (fun _ => Dec.yes trivial) hb).iff ⟨fun x => ⟨x.1, by omega⟩, fun x => ⟨x.1, trivial⟩⟩

/-! Regions and flats. -/
def RV (xs : List Box) : Prop := (∀ x ∈ xs, BV x) ∧ (xs.length : Int) ≤ 400
theorem spec_region {xs : List Box} (h : xs.length ≤ 9223372036854775807) (hs : ∀ x ∈ xs, OkBox x) : Dec (spec_RegionValid xs) (RV xs) :=
  Dec.all_le (body := spec_RegionValid_L0 xs) h (fun x hx => spec_box (hs x hx)) (fun _ => rfl)
theorem impl_region {xs : List Box} (h : xs.length ≤ 9223372036854775807) (hs : ∀ x ∈ xs, OkBox x) : Dec (impl_RegionValid xs) (RV xs) :=
  Dec.le_all (body := impl_RegionValid_L0 xs) h (fun x hx => impl_box (hs x hx)) (fun _ => rfl)
theorem wtL_small {α : Type} {wt : α → Nat} {xs : List α} (h : wtL wt xs ≤ 1048576) : xs.length ≤ 1048576 ∧ ∀ x ∈ xs, wt x ≤ 1048576 := by
  unfold wtL at h
  exact ⟨by omega, fun x hx => by have := mem_sum_le wt hx; omega⟩
/-! An empty box. -/
def BE (xss : List (List Span)) : Prop := ∃ x ∈ xss, x = []
theorem empty_gen {xss : List (List Span)} {body : Int → Option (SR Int Bool)} (n : Int) (hl : n = xss.length) (hn : xss.length ≤ 9223372036854775807)
    (hb : ∀ k, body k = bif (decide (k < n)) then (idx xss k).bind fun x1 => bif ((x1.length : Int) == 0) then some (.ret true) else some (.nxt (W (k + 1))) else some (.brk k)) :
    Dec ((loopF body (n - 0).toNat.succ 0).bind fun lr => lr.on (fun _ => some false) (fun r => some r)) (BE xss) := by
  subst hl
  obtain ⟨o, ho, hq⟩ := loop_idx (body := body) xss.length (fun k s => s = (k : Int) ∧ ∀ x ∈ xss.take k, x ≠ [])
    (fun o => (∃ k, o = .brk k ∧ ¬ BE xss) ∨ (o = .ret true ∧ BE xss)) (s := 0) ⟨rfl, by simp⟩
    (fun k s hk ⟨h1, h2⟩ => by
      subst h1
      have e1 : ((k : Int) < (xss.length : Int)) := by omega
      rw [hb, decide_eq_true e1, idx_get hk]
      simp only [cond_true, Option.bind_some]
      by_cases e : xss[k] = []
      · exact .inr (.inl ⟨true, by rw [e]; rfl, .inr ⟨rfl, _, List.getElem_mem hk, e⟩⟩)
      · have : 0 < xss[k].length := List.length_pos_iff.2 e
        refine .inl ⟨_, by rw [(by simp; omega : ((xss[k].length : Int) == 0) = false), cond_false, W_succ (by omega)], rfl, fun x hx => ?_⟩
        rw [List.take_add_one, List.getElem?_eq_getElem hk] at hx
        rcases List.mem_append.1 hx with h | h
        · exact h2 x h
        · simp at h; subst h; exact e)
    (fun s ⟨h1, h2⟩ => by
      subst h1
      rw [List.take_of_length_le (Nat.le_refl _)] at h2
      refine .inl ⟨(xss.length : Int), ?_, .inl ⟨_, rfl, fun ⟨x, hx, e⟩ => h2 x hx e⟩⟩
      rw [hb, decide_eq_false (by omega)]; rfl)
  rw [ho]
  rcases hq with ⟨k, rfl, h⟩ | ⟨rfl, h⟩
  · exact Dec.no h
  · exact Dec.yes h
theorem spec_empty {b : Box} (hb : OkBox b) : Dec (spec_l10Empty b) (BE b.Sides) := empty_gen (body := spec_l10Empty_L0 b) _ rfl hb.1 (fun _ => rfl)
theorem impl_sides {b : Box} (h : b.Sides.length = 4) : impl_sidesOf b = some b.Sides := by
  unfold impl_sidesOf arrF
  rw [if_pos h]; rfl
theorem impl_empty {xss : List (List Span)} (h : xss.length = 4) : Dec (impl_sides_empty xss) (BE xss) := empty_gen (body := impl_sides_empty_L0 xss) 4 (by omega) (by omega) (fun _ => rfl)
/-! Packets. -/
def PV (p : Packet) : Prop := (0 ≤ p.From ∧ p.From ≤ 65535) ∧ (0 ≤ p.To ∧ p.To ≤ 65535) ∧ (0 ≤ p.Port ∧ p.Port ≤ 255) ∧ 0 ≤ p.Proto ∧ p.Proto ≤ 7
theorem in_Dec (n lo hi : Int) : Dec (spec_l1In n lo hi) (lo ≤ n ∧ n ≤ hi) := by rw [in_dec]; exact Dec.dec
end Go.PF.F

/- Plain laws: tests, rules, packets in boxes. -/
namespace Go.PF.F
open Go Go.PF

/-- Some element. -/
theorem Dec.any {α : Type} {xs : List α} {P : α → Prop} {body : Int → Option (SR Int Bool)} (hn : xs.length ≤ 9223372036854775807)
    (hb : ∀ (k : Nat) (h : k < xs.length), ∃ r, body (k : Int) = some (bif r then .ret true else .nxt (W ((k : Int) + 1))) ∧ (r = true ↔ P xs[k]))
    (he : body (xs.length : Int) = some (.brk (xs.length : Int))) :
    Dec ((loopF body (((xs.length : Int)) - 0).toNat.succ 0).bind fun lr => lr.on (fun _ => some false) (fun r => some r)) (∃ x ∈ xs, P x) := by
  obtain ⟨o, ho, hq⟩ := loop_idx (body := body) xs.length (fun k s => s = (k : Int) ∧ ∀ x ∈ xs.take k, ¬ P x)
    (fun o => (∃ k, o = .brk k ∧ ¬ ∃ x ∈ xs, P x) ∨ (o = .ret true ∧ ∃ x ∈ xs, P x)) (s := 0) ⟨rfl, by simp⟩
    (fun k s hk ⟨h1, h2⟩ => by
      subst h1
      obtain ⟨r, hr, hi⟩ := hb k hk
      rw [hr]
      cases r with
      | true => exact .inr (.inl ⟨true, rfl, .inr ⟨rfl, _, List.getElem_mem hk, hi.1 rfl⟩⟩)
      | false =>
        refine .inl ⟨_, by rw [cond_false, W_succ (by omega)], rfl, fun x hx => ?_⟩
        rw [List.take_add_one, List.getElem?_eq_getElem hk] at hx
        rcases List.mem_append.1 hx with h | h
        · exact h2 x h
        · simp at h; subst h; exact fun hp => by simpa using hi.2 hp)
    (fun s ⟨h1, h2⟩ => by
      subst h1
      rw [List.take_of_length_le (Nat.le_refl _)] at h2
      exact .inl ⟨_, he, .inl ⟨_, rfl, fun ⟨x, hx, hp⟩ => h2 x hx hp⟩⟩)
  rw [ho]
  rcases hq with ⟨k, rfl, h⟩ | ⟨rfl, h⟩
  · exact Dec.no h
  · exact Dec.yes h
/-! Tests. -/
def TV (t : Test) : Prop := (0 ≤ t.Field ∧ t.Field ≤ 3) ∧ (0 ≤ t.Lo ∧ t.Lo ≤ t.Hi) ∧ t.Hi ≤ topOf t.Field.toNat
theorem spec_test (t : Test) : Dec (spec_TestValid t) (TV t) :=
  (in_Dec _ _ _).and fun h => (in_Dec _ _ _).and fun _ => by
    obtain ⟨n, hn⟩ := Int.eq_ofNat_of_zero_le h.1
    rw [hn, spec_top, Int.toNat_natCast]
    exact Dec.dec
theorem impl_test (t : Test) : Dec (impl_TestValid t) (TV t) := by
  refine Dec.iff (Dec.dand (P := 0 ≤ t.Field) (Q := t.Field < 4 ∧ 0 ≤ t.Lo ∧ t.Lo ≤ t.Hi ∧ t.Hi ≤ topOf t.Field.toNat) fun h => Dec.dand fun _ => Dec.dand fun _ => Dec.dand fun _ => ?_) ?_
  · obtain ⟨n, hn⟩ := Int.eq_ofNat_of_zero_le h
    rw [hn, impl_top, Int.toNat_natCast]
    exact Dec.dec
  · unfold TV
    constructor
    · intro h; omega
    · intro h; omega
def TsV (ts : List Test) : Prop := (∀ t ∈ ts, TV t) ∧ (ts.length : Int) ≤ 6
theorem spec_tests {xs : List Test} (h : xs.length ≤ 9223372036854775807) : Dec (spec_TestsValid xs) (TsV xs) :=
  Dec.all_le (body := spec_TestsValid_L0 xs) h (fun x _ => spec_test x) (fun _ => rfl)
theorem impl_tests {xs : List Test} (h : xs.length ≤ 9223372036854775807) : Dec (impl_TestsValid xs) (TsV xs) :=
  Dec.le_all (body := impl_TestsValid_L0 xs) h (fun x _ => impl_test x) (fun _ => rfl)

/-- Field number i of a packet. -/
def pf (p : Packet) (i : Nat) : Int := if i = 0 then p.From else if i = 1 then p.To else if i = 2 then p.Port else p.Proto
/-- A valid test at a packet. -/
def TH (t : Test) (p : Packet) : Prop := (decide (t.Lo ≤ pf p t.Field.toNat ∧ pf p t.Field.toNat ≤ t.Hi) != t.Not) = true
/-! Rules. -/
def RuV (r : Rule) : Prop := TsV r.Tests ∧ (1 ≤ r.Action ∧ r.Action ≤ 5) ∧ ((r.Action = 3 ∧ 0 ≤ r.Chain ∧ r.Chain ≤ 4) ∨ (r.Action ≠ 3 ∧ r.Chain = 0))
def RsV (rs : List Rule) : Prop := (∀ r ∈ rs, RuV r) ∧ (rs.length : Int) ≤ 8
/-- The rule fits the packet. -/
def RF (r : Rule) (p : Packet) : Prop := RuV r ∧ PV p ∧ ∀ t ∈ r.Tests, TH t p
/-! The first rule that fits. -/
def Fit (xs : List Rule) (p : Packet) (k : Nat) : Prop := RsV xs ∧ ∃ r, xs[k]? = some r ∧ RF r p
def First (xs : List Rule) (p : Packet) (m : Nat) (r : Int) : Prop := (∃ k : Nat, r = k ∧ m ≤ k ∧ Fit xs p k ∧ ∀ j, m ≤ j → j < k → ¬ Fit xs p j) ∨ (r = -1 ∧ ∀ j, m ≤ j → ¬ Fit xs p j)
theorem First.same {xs : List Rule} {p : Packet} {m : Nat} {r r' : Int} (h : First xs p m r) (h' : First xs p m r') : r = r' := by
  rcases h with ⟨k, rfl, h1, h2, h3⟩ | ⟨rfl, h1⟩ <;> rcases h' with ⟨k', rfl, h1', h2', h3'⟩ | ⟨rfl, h1'⟩
  · have a : ¬ k < k' := fun hlt => h3' k h1 hlt h2
    have b : ¬ k' < k := fun hlt => h3 k' h1' hlt h2'
    omega
  · exact absurd h2 (h1' k h1)
  · exact absurd h2' (h1 k' h1')
  · rfl
/-! A packet in a box. -/
def SH (xs : List Span) (v : Int) : Prop := ∃ x ∈ xs, x.Lo ≤ v ∧ v ≤ x.Hi
end Go.PF.F

/- Plain laws: a box's first packet. -/
namespace Go.PF.F
open Go Go.PF

theorem w12 : W ((1 : Int) + 1) = 2 := rfl
theorem w23 : W ((2 : Int) + 1) = 3 := rfl
theorem w34 : W ((3 : Int) + 1) = 4 := rfl
theorem four {α : Type} {xs : List α} (h : xs.length = 4) : ∃ a b c d, xs = [a, b, c, d] := by
  match xs, h with
  | [a, b, c, d], _ => exact ⟨a, b, c, d, rfl⟩
end Go.PF.F

/- Plain laws: loops whose rounds are known; lists by their parts. -/
namespace Go.PF.F
open Go Go.PF

/-- A loop that comes nearer to its end with each round. -/
theorem loop_wf {σ ρ : Type} {body : σ → Option (SR σ ρ)} (I : σ → Prop) (μ : σ → Nat) (Q : LR σ ρ → Prop)
    (step : ∀ s, I s → (∃ s', body s = some (.nxt s') ∧ I s' ∧ μ s' < μ s) ∨ (∃ s', body s = some (.brk s') ∧ Q (.brk s')) ∨ ∃ r, body s = some (.ret r) ∧ Q (.ret r)) :
    ∀ (fuel : Nat) (s : σ), I s → μ s < fuel → ∃ o, loopF body fuel s = some o ∧ Q o := by
  intro fuel
  induction fuel with
  | zero => intro s _ h; omega
  | succ n ih =>
    intro s hI hm
    unfold loopF
    rcases step s hI with ⟨s', hb, hi, hl⟩ | ⟨s', hb, hq⟩ | ⟨r, hb, hq⟩
    · rw [hb]; exact ih s' hi (by omega)
    · exact ⟨.brk s', by rw [hb]; rfl, hq⟩
    · exact ⟨.ret r, by rw [hb]; rfl, hq⟩
theorem loop_gets {σ ρ : Type} {body : σ → Option (SR σ ρ)} (m : Nat) (st : Nat → σ) (hs : ∀ k, k < m → body (st k) = some (.nxt (st (k + 1)))) {fuel : Nat} (hf : m < fuel) :
    ∃ f, loopF body fuel (st 0) = (body (st m)).bind (SR.after (loopF body f)) := by
  induction m generalizing st fuel with
  | zero =>
    obtain ⟨f, rfl⟩ : ∃ f, fuel = f + 1 := ⟨fuel - 1, by omega⟩
    exact ⟨f, rfl⟩
  | succ m ih =>
    obtain ⟨f, rfl⟩ : ∃ f, fuel = f + 1 := ⟨fuel - 1, by omega⟩
    obtain ⟨f', e⟩ := ih (fun k => st (k + 1)) (fun k hk => hs (k + 1) (by omega)) (fuel := f) (by omega)
    refine ⟨f', ?_⟩
    unfold loopF
    rw [hs 0 (by omega)]
    exact e
theorem loop_brk {σ ρ : Type} {body : σ → Option (SR σ ρ)} (m : Nat) (st : Nat → σ) (s : σ) (hs : ∀ k, k < m → body (st k) = some (.nxt (st (k + 1)))) (he : body (st m) = some (.brk s)) {fuel : Nat} (hf : m < fuel) :
    loopF body fuel (st 0) = some (.brk s) := by
  obtain ⟨f, e⟩ := loop_gets m st hs hf
  rw [e, he]; rfl
theorem drop_cases {α : Type} (a : List α) (k : Nat) (h : k ≤ a.length) :
    (a.drop k = [] ∧ k = a.length) ∨ ∃ x t, a.drop k = x :: t ∧ k < a.length ∧ idx a (k : Int) = some x ∧ a.drop (k + 1) = t := by
  rcases Nat.lt_or_ge k a.length with hl | hl
  · refine .inr ⟨a[k], a.drop (k + 1), List.drop_eq_getElem_cons hl, hl, idx_get hl, rfl⟩
  · exact .inl ⟨List.drop_eq_nil_iff.2 hl, by omega⟩
theorem lt_true {a b : Int} (h : a < b) : decide (a < b) = true := decide_eq_true h
theorem lt_false {a b : Int} (h : b ≤ a) : decide (a < b) = false := decide_eq_false (by omega)
theorem le_true {a b : Int} (h : a ≤ b) : decide (a ≤ b) = true := decide_eq_true h
theorem app_ok {α : Type} {xs ys : List α} (h : xs.length + ys.length ≤ 4294967296) : appF xs ys = some (xs ++ ys) := by
  unfold appF; rw [if_pos h]
theorem app_nil {α : Type} {ys : List α} (h : ys.length ≤ 4294967296) : appF [] ys = some ys := by
  rw [app_ok (by simpa using h)]; rfl
theorem take_snoc {α : Type} {a : List α} {k : Nat} {x : α} (h : a[k]? = some x) : a.take (k + 1) = a.take k ++ [x] := by
  rw [List.take_add_one, h]; rfl

/-- A loop over a list that gathers. The state at element k is mk (g of the first k) k. -/
theorem loop_each {α β σ ρ : Type} {body : σ → Option (SR σ ρ)} (a : List α) (mk : β → Int → σ) (g : β → α → β) (b : β) (fin : β → σ) {fuel : Nat} (hf : a.length < fuel)
    (hs : ∀ k x, (h : k < a.length) → a[k]? = some x → body (mk ((a.take k).foldl g b) (k : Int)) = some (.nxt (mk (g ((a.take k).foldl g b) x) ((k + 1 : Nat) : Int))))
    (he : body (mk (a.foldl g b) (a.length : Int)) = some (.brk (fin (a.foldl g b)))) :
    loopF body fuel (mk b 0) = some (.brk (fin (a.foldl g b))) := by
  refine loop_brk a.length (fun k => mk ((a.take k).foldl g b) (k : Int)) _ (fun k hk => ?_) ?_ hf
  · have hx : a[k]? = some a[k] := List.getElem?_eq_getElem hk
    rw [hs k a[k] hk hx, take_snoc hx, List.foldl_append]; rfl
  · simp only [List.take_of_length_le (Nat.le_refl _)]; exact he
end Go.PF.F

/- Plain laws: which chains call which; orders of chains. -/
namespace Go.PF.F
open Go Go.PF

theorem loop_brk0 {σ ρ : Type} {body : σ → Option (SR σ ρ)} (m : Nat) (st : Nat → σ) {s0 s : σ} (h0 : s0 = st 0) (hs : ∀ k, k < m → body (st k) = some (.nxt (st (k + 1)))) (he : body (st m) = some (.brk s)) {fuel : Nat} (hf : m < fuel) :
    loopF body fuel s0 = some (.brk s) := by
  rw [h0]; exact loop_brk m st s hs he hf
/-- The rules call chain d. -/
def called (rs : List Rule) (d : Nat) : Bool := rs.any fun r => r.Action == 3 && r.Chain == (d : Int)
/-- The rules of chain c. -/
def ch (cs : List (List Rule)) (c : Nat) : List Rule := cs[c]?.getD []
theorem ch_get {cs : List (List Rule)} {c : Nat} (h : c < cs.length) : cs[c]? = some (ch cs c) := by
  unfold ch; rw [List.getElem?_eq_getElem h]; rfl
theorem ch_mem {cs : List (List Rule)} {c : Nat} (h : c < cs.length) : ch cs c ∈ cs := List.mem_of_getElem? (ch_get h)
/-- Chain c calls chain d. -/
def Calls (cs : List (List Rule)) (c d : Nat) : Prop := called (ch cs c) d = true
theorem called_app (xs : List Rule) (r : Rule) (d : Nat) : called (xs ++ [r]) d = (called xs d || (r.Action == 3 && r.Chain == (d : Int))) := by
  unfold called; rw [List.any_append]; simp
theorem called_mem {rs : List Rule} {d : Nat} : called rs d = true ↔ ∃ r ∈ rs, r.Action = 3 ∧ r.Chain = (d : Int) := by
  unfold called; simp [List.any_eq_true]
/-- Chains that stay below their number, and at most five. -/
structure CB (cs : List (List Rule)) : Prop where
  n1 : 1 ≤ cs.length
  n5 : cs.length ≤ 5
  rv : ∀ rs ∈ cs, RsV rs
  lt : ∀ rs ∈ cs, ∀ r ∈ rs, r.Chain < (cs.length : Int)
/-- No way from a chain leads on for ever. -/
def Ends (cs : List (List Rule)) (c : Nat) : Prop := Acc (fun d c => Calls cs c d) c
/-- Every chain has a rank above what it calls. -/
def Rank (cs : List (List Rule)) (ρ : Nat → Nat) : Prop := (∀ c, c < cs.length → ρ c < cs.length) ∧ ∀ c d, c < cs.length → Calls cs c d → d < cs.length ∧ ρ d < ρ c
theorem CB.callee {cs : List (List Rule)} (h : CB cs) {c d : Nat} (hc : c < cs.length) (e : Calls cs c d) : d < cs.length := by
  obtain ⟨r, hr, _, hd⟩ := called_mem.1 e
  have := h.lt _ (ch_mem hc) r hr
  omega

/-! Orders. -/
def rdy (rs : List Rule) (o : List Nat) : Bool := rs.all fun r => r.Action != 3 || o.contains r.Chain.toNat
def stepO (cs : List (List Rule)) (o : List Nat) (c : Nat) : List Nat := if !o.contains c && rdy (ch cs c) o then o ++ [c] else o
def roundO (cs : List (List Rule)) (o : List Nat) : List Nat := (List.range cs.length).foldl (stepO cs) o
def roundsO (cs : List (List Rule)) (k : Nat) : List Nat := (List.range k).foldl (fun o _ => roundO cs o) []
theorem rdy_iff {rs : List Rule} {o : List Nat} (h : ∀ r ∈ rs, r.Action = 3 → 0 ≤ r.Chain) : rdy rs o = true ↔ ∀ d, called rs d = true → d ∈ o := by
  unfold rdy
  rw [List.all_eq_true]
  constructor
  · intro hh d hd
    obtain ⟨r, hr, ha, hc⟩ := called_mem.1 hd
    have := hh r hr
    rw [ha, hc] at this
    simpa using this
  · intro hh r hr
    by_cases ha : r.Action = 3
    · have h0 := h r hr ha
      have := hh r.Chain.toNat (called_mem.2 ⟨r, hr, ha, by omega⟩)
      simp [this]
    · simp [ha]
theorem RsV.chain {rs : List Rule} (h : RsV rs) {r : Rule} (hr : r ∈ rs) : 0 ≤ r.Chain ∧ r.Chain ≤ 4 := by
  have := (h.1 r hr).2.2; omega
theorem CB.rdy {cs : List (List Rule)} (h : CB cs) {c : Nat} (hc : c < cs.length) {o : List Nat} : rdy (ch cs c) o = true ↔ ∀ d, Calls cs c d → d ∈ o :=
  rdy_iff fun _ hr _ => ((h.rv _ (ch_mem hc)).chain hr).1
/-- An order: behind what they call, once. -/
def Topo (cs : List (List Rule)) (o : List Nat) : Prop := ∀ (i c : Nat), o[i]? = some c → c < cs.length ∧ rdy (ch cs c) (o.take i) = true ∧ c ∉ o.take i
theorem Topo.step {cs : List (List Rule)} {o : List Nat} (h : Topo cs o) {c : Nat} (hc : c < cs.length) : Topo cs (stepO cs o c) := by
  unfold stepO
  split
  · rename_i hh
    simp only [Bool.and_eq_true, Bool.not_eq_true', List.contains_eq_mem, decide_eq_false_iff_not] at hh
    intro i x hx
    rw [List.getElem?_append] at hx
    split at hx
    · rename_i hi
      rw [List.take_append_of_le_length (by omega)]
      exact h i x hx
    · rename_i hi
      have : i = o.length := by
        have := (List.getElem?_eq_some_iff.1 hx).1
        simp at this; omega
      subst this
      simp only [Nat.sub_self, List.getElem?_cons_zero, Option.some.injEq] at hx
      subst hx
      rw [List.take_append_of_le_length (by omega), List.take_length]
      exact ⟨hc, hh.2, hh.1⟩
  · exact h
theorem Topo.fold {cs : List (List Rule)} (l : List Nat) (hl : ∀ c ∈ l, c < cs.length) : ∀ {o : List Nat}, Topo cs o → Topo cs (l.foldl (stepO cs) o) := by
  induction l with
  | nil => intro o h; exact h
  | cons a t ih => intro o h; exact ih (fun c hc => hl c (List.mem_cons_of_mem _ hc)) (h.step (hl a (List.mem_cons_self ..)))
theorem Topo.round {cs : List (List Rule)} {o : List Nat} (h : Topo cs o) : Topo cs (roundO cs o) := h.fold _ fun _c hc => List.mem_range.1 hc
theorem rounds_succ (cs : List (List Rule)) (k : Nat) : roundsO cs (k + 1) = roundO cs (roundsO cs k) := by
  unfold roundsO; rw [List.range_succ, List.foldl_append]; rfl
theorem Topo.rounds (cs : List (List Rule)) : ∀ k, Topo cs (roundsO cs k)
  | 0 => fun i c h => by simp [roundsO] at h
  | k + 1 => by rw [rounds_succ]; exact (Topo.rounds cs k).round
/-- How many of the first m lie in the order. -/
theorem count_snoc (o : List Nat) (c : Nat) (h : c ∉ o) : ∀ m, (List.range m).countP (fun x => decide (x ∈ o ++ [c])) = (List.range m).countP (fun x => decide (x ∈ o)) + if c < m then 1 else 0
  | 0 => rfl
  | m + 1 => by
    rw [List.range_succ, List.countP_append, List.countP_append, count_snoc o c h m]
    by_cases hm : m = c
    · subst hm
      simp [h]
    · by_cases hc : c < m
      · rw [if_pos hc, if_pos (by omega)]
        simp [hm]; omega
      · rw [if_neg hc, if_neg (by omega)]
        simp [hm]
theorem Topo.count {cs : List (List Rule)} : ∀ (n : Nat) (o : List Nat), o.length = n → Topo cs o → (List.range cs.length).countP (fun x => decide (x ∈ o)) = n := by
  intro n
  induction n with
  | zero =>
    intro o h _
    rw [List.length_eq_zero_iff.1 h]
    simp
  | succ n ih =>
    intro o h ht
    obtain ⟨o', c, rfl⟩ : ∃ o' c, o = o' ++ [c] := by
      rcases List.eq_nil_or_concat o with e | ⟨a, b, e⟩
      · rw [e] at h; cases h
      · exact ⟨a, b, by rw [e, List.concat_eq_append]⟩
    have hl : o'.length = n := by simpa using h
    have hc := ht o'.length c (by simp)
    rw [List.take_append_of_le_length (by omega), List.take_length] at hc
    rw [count_snoc o' c hc.2.2, if_pos hc.1, ih o' hl]
    intro i x hx
    have hi := (List.getElem?_eq_some_iff.1 hx).1
    have := ht i x (by rw [List.getElem?_append, if_pos hi]; exact hx)
    rwa [List.take_append_of_le_length (by omega)] at this
theorem Topo.le {cs : List (List Rule)} {o : List Nat} (h : Topo cs o) : o.length ≤ cs.length := by
  have := h.count _ o rfl
  have h2 := List.countP_le_length (p := fun x => decide (x ∈ o)) (l := List.range cs.length)
  rw [List.length_range] at h2
  omega
theorem Topo.full {cs : List (List Rule)} {o : List Nat} (h : Topo cs o) : o.length = cs.length ↔ ∀ c, c < cs.length → c ∈ o := by
  have := h.count _ o rfl
  constructor
  · intro hl c hc
    have h2 : (List.range cs.length).countP (fun x => decide (x ∈ o)) = (List.range cs.length).length := by rw [this, List.length_range, hl]
    simpa using List.countP_eq_length.1 h2 c (List.mem_range.2 hc)
  · intro ha
    rw [← this, ← List.length_range (n := cs.length)]
    rw [List.length_range]
    refine (List.countP_eq_length.2 fun c hc => ?_).trans List.length_range
    simpa using ha c (List.mem_range.1 hc)
theorem Topo.ends {cs : List (List Rule)} (hb : CB cs) {o : List Nat} (h : Topo cs o) : ∀ (i c : Nat), o[i]? = some c → Ends cs c := by
  intro i
  induction i using Nat.strongRecOn with
  | ind i ih =>
    intro c hc
    have ht := h i c hc
    refine Acc.intro _ fun d hd => ?_
    obtain ⟨j, hj, e⟩ := List.mem_take_iff_getElem.1 ((hb.rdy ht.1).1 ht.2.1 d hd)
    exact ih j (by omega) d (by rw [List.getElem?_eq_getElem (by omega), e])
theorem Topo.once {cs : List (List Rule)} {o : List Nat} (h : Topo cs o) {i j c : Nat} (hi : o[i]? = some c) (hj : o[j]? = some c) : i = j := by
  rcases Nat.lt_trichotomy i j with hlt | rfl | hlt
  · exact absurd (List.mem_take_iff_getElem.2 ⟨i, by have := (List.getElem?_eq_some_iff.1 hi).1; omega, (List.getElem?_eq_some_iff.1 hi).2⟩) (h j c hj).2.2
  · rfl
  · exact absurd (List.mem_take_iff_getElem.2 ⟨j, by have := (List.getElem?_eq_some_iff.1 hj).1; omega, (List.getElem?_eq_some_iff.1 hj).2⟩) (h i c hi).2.2
end Go.PF.F
