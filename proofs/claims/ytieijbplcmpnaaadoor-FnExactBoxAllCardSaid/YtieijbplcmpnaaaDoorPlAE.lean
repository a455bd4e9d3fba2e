import Derived.Test.YtieijbplcmpnaaaDoorPlK
import Derived.Test.YtieijbplcmpnaaaDoorPlAB
/- Plain laws: what the draws give. -/
namespace Go.PF.F
open Go Go.PF

/-- A draw from position pos on that reads at most C bytes. -/
def Dr {α : Type} (m : Option (α × Int)) (pos C : Int) (Q : α → Prop) : Prop := 0 ≤ pos → pos + C ≤ 1000000 → ∃ a p, m = some (a, p) ∧ Q a ∧ pos ≤ p ∧ p ≤ pos + C
def Bytes (xs : List Int) : Prop := ∀ x ∈ xs, 0 ≤ x ∧ x ≤ 255
section
variable {α β γ : Type} {pos c C : Int} {P : α → Prop} {Q : β → Prop}
theorem Dr.bind {m : Option (α × Int)} {f : α × Int → Option (β × Int)} (hm : Dr m pos c P) (hc : 0 ≤ c ∧ c ≤ C) (hf : ∀ a p, P a → Dr (f (a, p)) p (C - c) Q) : Dr (m.bind f) pos C Q := by
  intro h0 h1
  obtain ⟨a, p, e, ha, l, u⟩ := hm h0 (by omega)
  obtain ⟨b, p', e', hb, l', u'⟩ := hf a p ha (by omega) (by omega)
  exact ⟨b, p', by rw [e]; exact e', hb, by omega, by omega⟩
theorem Dr.pure {m : Option γ} {f : γ → Option (β × Int)} {R : γ → Prop} (hm : ∃ x, m = some x ∧ R x) (hf : ∀ x, R x → Dr (f x) pos C Q) : Dr (m.bind f) pos C Q := by
  obtain ⟨x, e, h⟩ := hm
  rw [e]; exact hf x h
theorem Dr.ite {b : Bool} {A B : Option (β × Int)} (h1 : b = true → Dr A pos C Q) (h2 : b = false → Dr B pos C Q) : Dr (bif b then A else B) pos C Q := by
  cases b
  · exact h2 rfl
  · exact h1 rfl
theorem Dr.some {b : β} (hq : Q b) (hc : 0 ≤ C) : Dr (some (b, pos)) pos C Q := fun _ _ => ⟨b, pos, rfl, hq, Int.le_refl _, by omega⟩
theorem Dr.weak {m : Option (β × Int)} {Q' : β → Prop} (h : Dr m pos C Q) (hq : ∀ b, Q b → Q' b) : Dr m pos C Q' := fun h0 h1 =>
  let ⟨a, p, e, ha, l⟩ := h h0 h1; ⟨a, p, e, hq a ha, l⟩
/-- The draw is made. -/
theorem Dr.run {m : Option (α × Int)} {K : α × Int → Option γ} {R : Option γ → Prop} (hm : Dr m pos C P) (h0 : 0 ≤ pos) (h1 : pos + C ≤ 1000000) (hk : ∀ a p, P a → pos ≤ p → p ≤ pos + C → R (K (a, p))) : R (m.bind K) := by
  obtain ⟨a, p, e, ha, l, u⟩ := hm h0 h1
  rw [e]; exact hk a p ha l u
end
theorem tmod_range {x n : Int} (hx : 0 ≤ x) (hn : 1 ≤ n) : 0 ≤ x.tmod n ∧ x.tmod n < n := ⟨Int.tmod_nonneg n hx, Int.tmod_lt_of_pos x (by omega)⟩
theorem xor_nonneg {i j : Int} (hi : 0 ≤ i) (hi2 : i < 4611686018427387904) (hj : 0 ≤ j) (hj2 : j < 4611686018427387904) : 0 ≤ xorF i j := by
  unfold xorF
  have e1 : (i % 2 ^ 64).toNat = i.toNat := by rw [Int.emod_eq_of_lt hi (by omega)]
  have e2 : (j % 2 ^ 64).toNat = j.toNat := by rw [Int.emod_eq_of_lt hj (by omega)]
  rw [e1, e2]
  have : i.toNat ^^^ j.toNat < 2 ^ 62 := Nat.xor_lt_two_pow (by omega) (by omega)
  rw [W_of (by omega) (by omega)]
  omega
theorem Dr.pick {xs : List Int} (hx : Bytes xs) {pos n : Int} (hn : 1 ≤ n) : Dr (spec_l20Rd_pick xs pos n) pos 1 (fun r => 0 ≤ r ∧ r < n) := by
  intro h0 h1
  have hnz : nzF n = Option.some () := by unfold nzF; rw [if_neg (by simp; omega)]
  unfold spec_l20Rd_pick
  rw [lt_false (show (1 : Int) ≤ n by omega), cond_false]
  have hp : W (pos + 1) = pos + 1 := W_of (by omega) (by omega)
  have hk : W (W (pos + 1) - 1) = pos := by rw [hp, W_of (by omega) (by omega)]; omega
  by_cases hl : xs.length = 0
  · rw [show (((xs.length : Int)) == 0) = true from by simp; exact List.eq_nil_of_length_eq_zero hl, cond_true]
    exact ⟨0, pos + 1, by rw [hp], ⟨by omega, by omega⟩, by omega, by omega⟩
  · rw [show (((xs.length : Int)) == 0) = false from by simp; exact fun e => hl (by rw [e]; rfl), cond_false, hk]
    have hw : ∀ x ∈ xs, W x = x := fun x hm => W_of (by have := hx x hm; omega) (by have := hx x hm; omega)
    by_cases hlt : pos < (xs.length : Int)
    · rw [lt_true hlt, cond_true]
      obtain ⟨k, rfl⟩ := Int.eq_ofNat_of_zero_le h0
      have hkl : k < xs.length := by omega
      rw [idx_get hkl, Option.bind_some, hnz, Option.bind_some, hw _ (List.getElem_mem hkl)]
      exact ⟨_, _, by rw [hp], tmod_range (hx _ (List.getElem_mem hkl)).1 hn, by omega, by omega⟩
    · rw [decide_eq_false hlt, cond_false, show nzF (xs.length : Int) = Option.some () from by unfold nzF; rw [if_neg (by simp; exact fun e => hl (by rw [e]; rfl))], Option.bind_some]
      have hi : ∀ i : Int, 0 ≤ i → ∃ x, idx xs (i.tmod (xs.length : Int)) = Option.some x ∧ 0 ≤ x ∧ x ≤ 255 ∧ W x = x := by
        intro i hi
        have hr := tmod_range (n := (xs.length : Int)) hi (by omega)
        obtain ⟨k, hk⟩ := Int.eq_ofNat_of_zero_le hr.1
        rw [hk] at hr ⊢
        have hkl : k < xs.length := by omega
        have := hx _ (List.getElem_mem hkl)
        exact ⟨xs[k], idx_get hkl, this.1, this.2, hw _ (List.getElem_mem hkl)⟩
      obtain ⟨a, ea, ha0, ha1, hwa⟩ := hi pos h0
      have e7 : W (W (pos * 7) + 3) = pos * 7 + 3 := by rw [W_of (x := pos * 7) (by omega) (by omega), W_of (by omega) (by omega)]
      obtain ⟨b, eb, hb0, hb1, hwb⟩ := hi (pos * 7 + 3) (by omega)
      rw [ea, Option.bind_some, e7, eb, Option.bind_some, hnz, Option.bind_some, hwa, hwb]
      have hd0 : 0 ≤ pos.tdiv (xs.length : Int) := Int.tdiv_nonneg h0 (by omega)
      have hd1 : pos.tdiv (xs.length : Int) ≤ pos := by
        rw [Int.tdiv_eq_ediv_of_nonneg h0]
        exact Int.ediv_le_self _ h0
      have eX : W (W (W (W (a * 131) + W (b * 1117)) + W (pos * 29)) + W (W (pos.tdiv (xs.length : Int)) * 53)) = a * 131 + b * 1117 + pos * 29 + pos.tdiv (xs.length : Int) * 53 := by
        generalize pos.tdiv (xs.length : Int) = d at hd0 hd1
        rw [W_of (x := a * 131) (by omega) (by omega), W_of (x := b * 1117) (by omega) (by omega), W_of (x := a * 131 + b * 1117) (by omega) (by omega), W_of (x := pos * 29) (by omega) (by omega), W_of (x := a * 131 + b * 1117 + pos * 29) (by omega) (by omega), W_of (x := d) (by omega) (by omega), W_of (x := d * 53) (by omega) (by omega), W_of (by omega) (by omega)]
      rw [eX]
      generalize hX : a * 131 + b * 1117 + pos * 29 + pos.tdiv (xs.length : Int) * 53 = X
      have hX0 : 0 ≤ X := by
        generalize pos.tdiv (xs.length : Int) = d at hd0 hd1 hX
        omega
      have hX1 : X < 4611686018427387904 := by
        generalize pos.tdiv (xs.length : Int) = d at hd0 hd1 hX
        omega
      have hY0 : 0 ≤ X.tdiv 64 := Int.tdiv_nonneg hX0 (by omega)
      have hY1 : X.tdiv 64 ≤ X := by rw [Int.tdiv_eq_ediv_of_nonneg hX0]; exact Int.ediv_le_self _ hX0
      rw [W_of (x := X.tdiv 64) (by omega) (by omega)]
      exact ⟨_, _, by rw [hp], tmod_range (xor_nonneg hX0 hX1 hY0 (by omega)) hn, by omega, by omega⟩
theorem Dr.odd {xs : List Int} (hx : Bytes xs) {pos n : Int} : Dr (spec_l20Rd_odd xs pos n) pos 1 (fun r => n ≤ 0 → r = false) := by
  unfold spec_l20Rd_odd
  refine Dr.ite (fun h => Dr.bind (Dr.pick hx (by have := of_decide_eq_true h; omega)) (by decide) fun a p _ => Dr.some (fun h' => absurd (of_decide_eq_true h) (by omega)) (by decide)) (fun h => Dr.some (fun _ => rfl) (by decide))
theorem idx_ok {α : Type} {xs : List α} {i n : Int} (h : 0 ≤ i ∧ i < n) (hn : (xs.length : Int) = n) : ∃ x, idx xs i = some x ∧ x ∈ xs := by
  obtain ⟨k, rfl⟩ := Int.eq_ofNat_of_zero_le h.1
  have hk : k < xs.length := by omega
  exact ⟨_, idx_get hk, List.getElem_mem hk⟩
theorem open_ok {code : List Int} (h : GAll GU8 code) : ∃ xs, spec_l20Open code = some (xs, 0) ∧ Bytes xs := by
  unfold spec_l20Open
  by_cases hl : (2000 : Int) < (code.length : Int)
  · refine ⟨code.take 2000, ?_, fun x hx => h.2 x (List.mem_of_mem_take hx)⟩
    rw [lt_true hl, cond_true]
    unfold takeF
    rw [if_pos ⟨by omega, by omega⟩]; rfl
  · exact ⟨code, by rw [decide_eq_false hl]; rfl, h.2⟩
/-- A loop of draws. -/
theorem draw_loop {β ρ : Type} {gen : Int → Option (β × Int)} {body : (List β) × Int × Int → Option (SR ((List β) × Int × Int) ρ)} {c : Int} {Q : β → Prop} (hc : 0 ≤ c) (hg : ∀ p, Dr (gen p) p c Q)
    (hb : ∀ y k p, body (y, k, p) = bif (decide (0 < k)) then (gen p).bind fun x => (appF y [x.1]).bind fun z => some (.nxt (z, W (k - 1), x.2)) else some (.brk (y, k, p))) :
    ∀ (n : Nat) (y : List β) (p : Int), n ≤ 1000 → y.length + n ≤ 1000000 → (∀ x ∈ y, Q x) → 0 ≤ p → p + n * c ≤ 1000000 →
      ∃ y' p', loopF body n.succ (y, (n : Int), p) = some (.brk (y', 0, p')) ∧ (∀ x ∈ y', Q x) ∧ y'.length = y.length + n ∧ p ≤ p' ∧ p' ≤ p + n * c := by
  intro n
  induction n with
  | zero =>
    intro y p _ _ hq h0 _
    refine ⟨y, p, ?_, hq, rfl, Int.le_refl _, by omega⟩
    unfold loopF
    rw [hb, lt_false (by omega)]; rfl
  | succ n ih =>
    intro y p hn hl hq h0 h1
    have e : ((n + 1 : Nat) : Int) * c = n * c + c := by rw [Int.natCast_add, Int.add_mul]; omega
    rw [e] at h1 ⊢
    have hnc : 0 ≤ (n : Int) * c := Int.mul_nonneg (by omega) hc
    obtain ⟨x, p1, ex, hx, l, u⟩ := hg p h0 (by omega)
    obtain ⟨y', p', e', hq', hl', l', u'⟩ := ih (y ++ [x]) p1 (by omega) (by simp; omega) (fun z hz => by
      rcases List.mem_append.1 hz with hz | hz
      · exact hq z hz
      · rw [List.mem_singleton.1 hz]; exact hx) (by omega) (by omega)
    refine ⟨y', p', ?_, hq', by rw [hl']; simp; omega, by omega, by omega⟩
    unfold loopF
    rw [hb, lt_true (by omega), cond_true, ex, Option.bind_some, app_ok (by simp; omega), Option.bind_some, show W (((n + 1 : Nat) : Int) - 1) = (n : Int) from by rw [W_of (by omega) (by omega)]; omega]
    exact e'
/-- A draw of a list. -/
theorem Dr.list {β γ : Type} {gen : Int → Option (β × Int)} {body : (List β) × Int × Int → Option (SR ((List β) × Int × Int) (γ × Int))} {c C k pos : Int} {N : Nat} {Q : β → Prop} {R : γ → Prop} {f : (List β) × Int × Int → Option (γ × Int)} (hk : 0 ≤ k ∧ k < N) (hN : N ≤ 100) (hc : 0 ≤ c) (hC : N * c ≤ C)
    (hg : ∀ p, Dr (gen p) p c Q)
    (hb : ∀ y k p, body (y, k, p) = bif (decide (0 < k)) then (gen p).bind fun x => (appF y [x.1]).bind fun z => Option.some (.nxt (z, W (k - 1), x.2)) else Option.some (.brk (y, k, p)))
    (hf : ∀ y p, (∀ x ∈ y, Q x) → y.length < N → Dr (f (y, 0, p)) p (C - N * c) R) :
    Dr ((loopF body (k : Int).toNat.succ (([] : List β), k, pos)).bind fun lr => lr.on f (fun r => Option.some r)) pos C R := by
  intro h0 h1
  obtain ⟨n, rfl⟩ := Int.eq_ofNat_of_zero_le hk.1
  have hnN : (n : Int) * c ≤ N * c := Int.mul_le_mul_of_nonneg_right (by omega) hc
  have hn0 : 0 ≤ (n : Int) * c := Int.mul_nonneg (by omega) hc
  obtain ⟨y, p, e, hq, hl, l, u⟩ := draw_loop hc hg hb n [] pos (by omega) (by simp; omega) (by simp) h0 (by omega)
  rw [Int.toNat_natCast, e]
  obtain ⟨r, p', e', hr, l', u'⟩ := hf y p hq (by rw [hl]; simp; omega) (by omega) (by omega)
  exact ⟨r, p', e', hr, by omega, by omega⟩

/-! The draws. -/
theorem dr_packet {xs : List Int} (hx : Bytes xs) (pos n : Int) : Dr (spec_l20Packet xs pos n) pos 20 (fun _ => True) := by
  unfold spec_l20Packet
  repeat' first
    | exact Dr.some trivial (by decide)
    | refine Dr.bind (Dr.pick hx (by decide)) (by decide) fun a p h => ?_
    | refine Dr.bind (Dr.odd hx) (by decide) fun a p h => ?_
    | refine Dr.ite (fun _ => ?_) (fun _ => ?_)
    | refine Dr.pure (idx_ok (by assumption) rfl) fun x _ => ?_
theorem dr_near {xs : List Int} (hx : Bytes xs) {ts : List Test} (hl : ts.length ≤ 1000) (pos n : Int) : Dr (spec_l20Near xs pos ts n) pos (20 + 2 * ts.length) (fun _ => True) := by
  unfold spec_l20Near
  refine Dr.bind (dr_packet hx pos n) (by omega) fun q p _ => ?_
  intro h0 h1
  obtain ⟨o, ho, ⟨k, p', a, b, c, d⟩, rfl, l, u⟩ := loop_wf (body := spec_l20Near_L0 xs ts)
    (fun s => ∃ k : Nat, s.1 = (k : Int) ∧ k ≤ ts.length ∧ p ≤ s.2.1 ∧ s.2.1 ≤ p + 2 * k) (fun s => ts.length - s.1.toNat)
    (fun o => ∃ s : Int × Int × Int × Int × Int × Int, o = .brk s ∧ p ≤ s.2.1 ∧ s.2.1 ≤ p + 2 * ts.length)
    (fun s ⟨k, e1, hk, l, u⟩ => by
      obtain ⟨i, p1, a, b, c, d⟩ := s
      simp only at e1 l u
      subst e1
      unfold spec_l20Near_L0
      rcases drop_cases ts k hk with ⟨e, rfl⟩ | ⟨t, _, e, hk', ht, _⟩
      · refine .inr (.inl ⟨_, by simp only [lt_false (Int.le_refl _), cond_false]; rfl, _, rfl, l, by simp only; omega⟩)
      · refine .inl ?_
        simp only [lt_true (show (k : Int) < (ts.length : Int) by omega), cond_true, ht, Option.bind_some, W_succ (show k < 9223372036854775807 by omega)]
        obtain ⟨r, er, hr⟩ := spec_test t
        rw [er, Option.bind_some]
        have fin : ∀ p2 a b c d, p1 ≤ p2 → p2 ≤ p1 + 2 → (∃ k' : Nat, (((k + 1 : Nat) : Int), p2, a, b, c, d).1 = (k' : Int) ∧ k' ≤ ts.length ∧ p ≤ (((k + 1 : Nat) : Int), p2, a, b, c, d).2.1 ∧ (((k + 1 : Nat) : Int), p2, a, b, c, d).2.1 ≤ p + 2 * k') ∧ ts.length - (((k + 1 : Nat) : Int), p2, (a : Int), (b : Int), (c : Int), (d : Int)).1.toNat < ts.length - ((k : Int), p1, a, b, c, d).1.toNat :=
          fun p2 a b c d h1 h2 => ⟨⟨k + 1, rfl, hk', by simp only; omega, by simp only; omega⟩, by simp only [Int.toNat_natCast]; omega⟩
        cases r with
        | false => exact ⟨_, rfl, (fin p1 a b c d (by omega) (by omega)).1, (fin p1 a b c d (by omega) (by omega)).2⟩
        | true =>
          have hv := hr.1 rfl
          obtain ⟨r4, p2, e4, _, l4, u4⟩ := Dr.pick hx (pos := p1) (n := 3) (by decide) (by omega) (by omega)
          rw [cond_true, e4, Option.bind_some]
          by_cases c4 : (r4 == 0) = true
          · simp only [c4, cond_true]
            exact ⟨_, rfl, (fin p2 a b c d (by omega) (by omega)).1, (fin p2 a b c d (by omega) (by omega)).2⟩
          · simp only [Bool.eq_false_iff.2 c4, cond_false]
            rw [hv.field.1, spec_top, Option.bind_some]
            obtain ⟨r6, p3, e6, h6, l6, u6⟩ := Dr.pick hx (pos := p2) (n := 4) (by decide) (by omega) (by omega)
            obtain ⟨z, ez, _⟩ := idx_ok (xs := [t.Lo, t.Hi, imax 0 (W (t.Lo - 1)), imin (topOf t.Field.toNat) (W (t.Hi + 1))]) h6 rfl
            rw [e6, Option.bind_some]
            simp only [ez, Option.bind_some]
            by_cases f0 : (((t.Field.toNat : Nat) : Int) == 0) = true
            · simp only [f0, cond_true]; exact ⟨_, rfl, (fin p3 z b c d (by omega) (by omega)).1, (fin p3 z b c d (by omega) (by omega)).2⟩
            · simp only [Bool.eq_false_iff.2 f0, cond_false]
              by_cases f1 : (((t.Field.toNat : Nat) : Int) == 1) = true
              · simp only [f1, cond_true]; exact ⟨_, rfl, (fin p3 a z c d (by omega) (by omega)).1, (fin p3 a z c d (by omega) (by omega)).2⟩
              · simp only [Bool.eq_false_iff.2 f1, cond_false]
                by_cases f2 : (((t.Field.toNat : Nat) : Int) == 2) = true
                · simp only [f2, cond_true]; exact ⟨_, rfl, (fin p3 a b z d (by omega) (by omega)).1, (fin p3 a b z d (by omega) (by omega)).2⟩
                · simp only [Bool.eq_false_iff.2 f2, cond_false]; exact ⟨_, rfl, (fin p3 a b c z (by omega) (by omega)).1, (fin p3 a b c z (by omega) (by omega)).2⟩)
    ((((ts.length : Int)) : Int) - 0).toNat.succ (0, p, q.From, q.To, q.Port, q.Proto) ⟨0, rfl, Nat.zero_le _, by simp, by simp⟩ (by simp)
  refine ⟨⟨a, b, c, d⟩, p', ?_, trivial, l, by simp only at u ⊢; omega⟩
  rw [ho]; rfl
def Sp (top : Int) (s : Span) : Prop := 0 ≤ s.Lo ∧ s.Lo ≤ s.Hi ∧ s.Hi ≤ top
theorem imin_cases (a b : Int) : (imin a b = a ∧ a ≤ b) ∨ (imin a b = b ∧ b < a) := by unfold imin; split <;> omega
theorem dr_span {xs : List Int} (hx : Bytes xs) {top : Int} (h0 : 0 ≤ top) (h1 : top ≤ 65535) (pos : Int) : Dr (spec_l20Span xs pos top 0) pos 7 (Sp top) := by
  have hodd : ∀ p, spec_l20Rd_odd xs p 0 = some (false, p) := fun _ => rfl
  have fin : ∀ {lo d : Int}, 0 ≤ lo → lo ≤ top → 0 ≤ d → d ≤ 5000 → Sp top ⟨lo, imin top (W (lo + d))⟩ := by
    intro lo d a b c e
    rw [W_of (by omega) (by omega)]
    refine ⟨a, le_imin.2 ⟨b, ?_⟩, imin_le.2 (.inl (Int.le_refl _))⟩
    show lo ≤ lo + d
    omega
  have pick4 : ∀ {x4 x5 i x : Int}, 0 ≤ x4 ∧ x4 < 4 → 0 ≤ x5 ∧ x5 < 256 → x ∈ [0, x4, x5, 4096] → 0 ≤ x ∧ x ≤ 5000 := by
    intro x4 x5 i x a b hm
    simp only [List.mem_cons, List.not_mem_nil, or_false] at hm
    omega
  unfold spec_l20Span
  have hn : 1 ≤ imin 256 (W (top + 1)) := by rw [W_of (by omega) (by omega)]; exact le_imin.2 ⟨by omega, by omega⟩
  have hm : imin 256 (W (top + 1)) ≤ top + 1 := by rw [W_of (by omega) (by omega)]; exact imin_le.2 (.inr (Int.le_refl _))
  have hm2 : imin 256 (W (top + 1)) ≤ 256 := imin_le.2 (.inl (Int.le_refl _))
  refine Dr.bind (Dr.pick hx hn) (by decide) fun x1 p1 a1 => ?_
  simp only [hodd, Option.bind_some, cond_false]
  refine Dr.ite (fun ht => ?_) (fun _ => ?_)
  · refine Dr.bind (Dr.pick hx (by decide)) (by decide) fun x2 p2 a2 => ?_
    refine Dr.ite (fun _ => ?_) (fun _ => ?_)
    · refine Dr.bind (Dr.pick hx (by decide)) (by decide) fun x3 p3 a3 => ?_
      refine Dr.bind (Dr.pick hx (by decide)) (by decide) fun x4 p4 a4 => ?_
      refine Dr.bind (Dr.pick hx (by decide)) (by decide) fun x5 p5 a5 => ?_
      refine Dr.bind (Dr.pick hx (by decide)) (by decide) fun x6 p6 a6 => ?_
      refine Dr.pure (idx_ok a6 rfl) fun x7 a7 => ?_
      have b7 := pick4 (i := 0) a4 a5 a7
      have e : W (W (x1 * 256) + x3) = x1 * 256 + x3 := by rw [W_of (x := x1 * 256) (by omega) (by omega), W_of (by omega) (by omega)]
      refine Dr.some ?_ (by decide)
      simp only [e]
      have c := imin_cases top (x1 * 256 + x3)
      exact fin (by omega) (by omega) b7.1 b7.2
    · refine Dr.bind (Dr.pick hx (by decide)) (by decide) fun x4 p4 a4 => ?_
      refine Dr.bind (Dr.pick hx (by decide)) (by decide) fun x5 p5 a5 => ?_
      refine Dr.bind (Dr.pick hx (by decide)) (by decide) fun x6 p6 a6 => ?_
      refine Dr.pure (idx_ok a6 rfl) fun x7 a7 => ?_
      have b7 := pick4 (i := 0) a4 a5 a7
      exact Dr.some (fin a1.1 (by omega) b7.1 b7.2) (by decide)
  · refine Dr.bind (Dr.pick hx (by decide)) (by decide) fun x4 p4 a4 => ?_
    refine Dr.bind (Dr.pick hx (by decide)) (by decide) fun x5 p5 a5 => ?_
    refine Dr.bind (Dr.pick hx (by decide)) (by decide) fun x6 p6 a6 => ?_
    refine Dr.pure (idx_ok a6 rfl) fun x7 a7 => ?_
    have b7 := pick4 (i := 0) a4 a5 a7
    exact Dr.some (fin a1.1 (by omega) b7.1 b7.2) (by decide)
theorem dr_raw {xs : List Int} (hx : Bytes xs) {top : Int} (h0 : 0 ≤ top) (h1 : top ≤ 65535) (pos : Int) : Dr (spec_l20Raw xs pos top 0) pos 43 (fun s => RawOk top s ∧ s.length ≤ 5) := by
  unfold spec_l20Raw
  refine Dr.bind (Dr.pick hx (by decide)) (by decide) fun x1 p1 a1 => ?_
  exact Dr.list (N := 6) (c := 7) a1 (by decide) (by decide) (by decide) (fun p => dr_span hx h0 h1 p) (fun _ _ _ => rfl) fun y p hy hl => Dr.some ⟨hy, by omega⟩ (by decide)
theorem dr_set {xs : List Int} (hx : Bytes xs) {top : Int} (h0 : 0 ≤ top) (h1 : top ≤ 65535) (pos : Int) : Dr (spec_l20Set xs pos top 0) pos 50 (fun s => Set0 top s ∧ s.length ≤ 5) := by
  unfold spec_l20Set
  have hodd : ∀ p, spec_l20Rd_odd xs p 0 = some (false, p) := fun _ => rfl
  refine Dr.bind (dr_raw hx h0 h1 pos) (by decide) fun x1 p1 a1 => ?_
  have hs := setOf_ok h0 h1 x1 [] a1.1 (.nil h0 h1)
  simp only [spec_setOf h0 h1 (show x1.length ≤ 40 by omega) a1.1, Option.bind_some, hodd, cond_false]
  exact Dr.some ⟨hs.1, by have := hs.2; simp only [List.length_nil] at this; unfold setOf; omega⟩ (by decide)
theorem test_tail {xs : List Int} (hx : Bytes xs) {pos n : Int} {f : Nat} {no : Bool} {s : Span} (hf : f < 4) (hs : Sp (topOf f) s) {C : Int} (hC : 3 ≤ C) :
    Dr ((spec_l20Rd_odd xs pos n).bind fun x11 => bif x11.1 then (spec_l20Rd_pick xs x11.2 3).bind fun x12 => bif (x12.1 == 0) then (spec_l20Rd_pick xs x12.2 2).bind fun x13 => (idx [(-1), 4] x13.1).bind fun x14 => some (({ Field := x14, Lo := s.Lo, Hi := s.Hi, Not := no } : Test), x13.2)
      else bif (x12.1 == 1) then some (({ Field := (f : Int), Lo := (W (s.Hi + 1)), Hi := s.Hi, Not := no } : Test), x12.2) else some (({ Field := (f : Int), Lo := s.Lo, Hi := (W (topOf f + 1)), Not := no } : Test), x12.2)
      else some (({ Field := (f : Int), Lo := s.Lo, Hi := s.Hi, Not := no } : Test), x11.2)) pos C (fun t => n ≤ 0 → TV t) := by
  refine Dr.bind (Dr.odd hx) ⟨by decide, by omega⟩ fun x11 p11 a11 => ?_
  refine Dr.ite (fun h => ?_) (fun h => ?_)
  · have no' : ∀ t : Test, n ≤ 0 → TV t := fun t hn => by have := a11 hn; simp only at h; rw [h] at this; cases this
    refine Dr.bind (Dr.pick hx (by decide)) ⟨by decide, by omega⟩ fun x12 p12 a12 => ?_
    refine Dr.ite (fun _ => ?_) (fun _ => Dr.ite (fun _ => Dr.some (no' _) (by omega)) (fun _ => Dr.some (no' _) (by omega)))
    refine Dr.bind (Dr.pick hx (by decide)) ⟨by decide, by omega⟩ fun x13 p13 a13 => ?_
    exact Dr.pure (idx_ok a13 rfl) fun x14 _ => Dr.some (no' _) (by omega)
  · exact Dr.some (fun _ => ⟨⟨by simp only; omega, by simp only; omega⟩, ⟨hs.1, hs.2.1⟩, by simp only [Int.toNat_natCast]; exact hs.2.2⟩) (by omega)
theorem dr_test {xs : List Int} (hx : Bytes xs) (pos n : Int) : Dr (spec_l20Test xs pos n) pos 20 (fun t => n ≤ 0 → TV t) := by
  unfold spec_l20Test
  refine Dr.bind (Dr.pick hx (by decide)) (by decide) fun x1 p1 a1 => ?_
  refine Dr.bind (Dr.pick hx (by decide)) (by decide) fun x2 p2 a2 => ?_
  obtain ⟨f, rfl⟩ := Int.eq_ofNat_of_zero_le a1.1
  have hf : f < 4 := by omega
  have ht := top_pos hf
  simp only [spec_top, Option.bind_some]
  have sub : ∀ {s0 s : Span}, Sp (topOf f) s0 → s ∈ [(⟨0, topOf f⟩ : Span), ⟨0, s0.Hi⟩, ⟨s0.Lo, topOf f⟩] → Sp (topOf f) s := by
    intro s0 s h0 hm
    simp only [List.mem_cons, List.not_mem_nil, or_false] at hm
    unfold Sp at h0 ⊢
    rcases hm with rfl | rfl | rfl <;> simp only <;> omega
  refine Dr.bind (dr_span hx ht.1 ht.2 p2) (by decide) fun x4 p4 a4 => ?_
  refine Dr.ite (fun hlt => ?_) (fun _ => ?_)
  · have hlt := of_decide_eq_true hlt
    have htop : topOf f = 65535 := by
      match f, hlt with
      | 0, _ => rfl
      | 1, _ => rfl
    refine Dr.bind (Dr.pick hx (by decide)) (by decide) fun x5 p5 a5 => ?_
    refine Dr.ite (fun _ => ?_) (fun _ => ?_)
    · refine Dr.bind (Dr.pick hx (by decide)) (by decide) fun x6 p6 a6 => ?_
      refine Dr.bind (Dr.pick hx (by decide)) (by decide) fun x7 p7 a7 => ?_
      refine Dr.bind (Dr.pick hx (by decide)) (by decide) fun x8 p8 a8 => ?_
      have hw : W (x6 + x7) = x6 + x7 := W_of (by omega) (by omega)
      have hs : Sp (topOf f) ⟨x6, W (x6 + x7)⟩ := by rw [hw, htop]; exact ⟨a6.1, by simp only; omega, by simp only; omega⟩
      refine Dr.ite (fun _ => ?_) (fun _ => ?_)
      · refine Dr.bind (Dr.pick hx (by decide)) (by decide) fun x9 p9 a9 => ?_
        exact Dr.pure (idx_ok a9 rfl) fun x10 h10 => test_tail hx (s := x10) hf (sub hs h10) (by decide)
      · exact test_tail hx (s := ⟨x6, W (x6 + x7)⟩) hf hs (by decide)
    · refine Dr.bind (Dr.pick hx (by decide)) (by decide) fun x8 p8 a8 => ?_
      refine Dr.ite (fun _ => ?_) (fun _ => ?_)
      · refine Dr.bind (Dr.pick hx (by decide)) (by decide) fun x9 p9 a9 => ?_
        exact Dr.pure (idx_ok a9 rfl) fun x10 h10 => test_tail hx (s := x10) hf (sub a4 h10) (by decide)
      · exact test_tail hx (s := x4) hf a4 (by decide)
  · refine Dr.bind (Dr.pick hx (by decide)) (by decide) fun x8 p8 a8 => ?_
    refine Dr.ite (fun _ => ?_) (fun _ => ?_)
    · refine Dr.bind (Dr.pick hx (by decide)) (by decide) fun x9 p9 a9 => ?_
      exact Dr.pure (idx_ok a9 rfl) fun x10 h10 => test_tail hx (s := x10) hf (sub a4 h10) (by decide)
    · exact test_tail hx (s := x4) hf a4 (by decide)
theorem dr_tests {xs : List Int} (hx : Bytes xs) (pos n : Int) : Dr (spec_l20Tests xs pos n) pos 110 (fun ts => ts.length ≤ 7 ∧ (n ≤ 0 → TsV ts ∧ ts.length ≤ 3)) := by
  unfold spec_l20Tests
  refine Dr.bind (Dr.pick hx (by decide)) (by decide) fun x1 p1 a1 => ?_
  refine Dr.list (N := 4) (c := 20) (Q := TV) a1 (by decide) (by decide) (by decide) (fun p => (dr_test hx p 0).weak fun t h => h (Int.le_refl _)) (fun _ _ _ => rfl) fun y p hy hl => ?_
  refine Dr.bind (Dr.odd hx) (by decide) fun x3 p3 a3 => ?_
  refine Dr.ite (fun h => ?_) (fun h => ?_)
  · have no' : ∀ ts : List Test, n ≤ 0 → TsV ts ∧ ts.length ≤ 3 := fun t hn => by have := a3 hn; simp only at h; rw [h] at this; cases this
    refine Dr.bind (Dr.pick hx (by decide)) (by decide) fun x4 p4 a4 => ?_
    refine Dr.ite (fun _ => ?_) (fun _ => ?_)
    · refine Dr.bind (dr_test hx _ 1) (by decide) fun x5 p5 a5 => ?_
      rw [app_ok (by simp; omega)]
      exact Dr.some ⟨by simp; omega, no' _⟩ (by decide)
    · exact Dr.some ⟨by simp, no' _⟩ (by decide)
  · exact Dr.some ⟨by omega, fun _ => ⟨⟨hy, by omega⟩, by omega⟩⟩ (by decide)
theorem dr_rule {xs : List Int} (hx : Bytes xs) (pos first chains n : Int) (hb : -1000 ≤ first ∧ chains ≤ 1000) : Dr (spec_l20Rule xs pos first chains n) pos 230 (fun r => r.Tests.length ≤ 7) := by
  unfold spec_l20Rule
  refine Dr.bind (dr_tests hx _ 0) (by decide) fun x1 p1 a1 => ?_
  have l1 := a1.1
  refine Dr.bind (Dr.pick hx (by decide)) (by decide) fun x2 p2 a2 => ?_
  refine Dr.pure (idx_ok a2 rfl) fun x3 _ => ?_
  refine Dr.ite (fun _ => Dr.ite (fun _ => ?_) (fun hc => ?_)) (fun _ => ?_)
  · repeat' first
      | exact Dr.some l1 (by decide)
      | refine Dr.bind (Dr.pick hx (by decide)) (by decide) fun a p h => ?_
      | refine Dr.bind (Dr.odd hx) (by decide) fun a p h => ?_
      | refine Dr.bind (dr_tests hx _ 1) (by decide) fun a p h => Dr.some h.1 (by decide)
      | refine Dr.ite (fun _ => ?_) (fun _ => ?_)
      | refine Dr.pure (idx_ok (by assumption) rfl) fun x _ => ?_
  · have hc := of_decide_eq_false hc
    refine Dr.bind (Dr.pick hx (by
      by_cases h : chains - first ≤ 9223372036854775807
      · rw [W_of (by omega) h]; omega
      · omega)) (by decide) fun x11 p11 a11 => ?_
    repeat' first
      | exact Dr.some l1 (by decide)
      | refine Dr.bind (Dr.pick hx (by decide)) (by decide) fun a p h => ?_
      | refine Dr.bind (Dr.odd hx) (by decide) fun a p h => ?_
      | refine Dr.bind (dr_tests hx _ 1) (by decide) fun a p h => Dr.some h.1 (by decide)
      | refine Dr.ite (fun _ => ?_) (fun _ => ?_)
      | refine Dr.pure (idx_ok (by assumption) rfl) fun x _ => ?_
  · repeat' first
      | exact Dr.some l1 (by decide)
      | refine Dr.bind (Dr.pick hx (by decide)) (by decide) fun a p h => ?_
      | refine Dr.bind (Dr.odd hx) (by decide) fun a p h => ?_
      | refine Dr.bind (dr_tests hx _ 1) (by decide) fun a p h => Dr.some h.1 (by decide)
      | refine Dr.ite (fun _ => ?_) (fun _ => ?_)
      | refine Dr.pure (idx_ok (by assumption) rfl) fun x _ => ?_
/-- Rules of a draw. -/
def RulesSm (rs : List Rule) : Prop := rs.length ≤ 10 ∧ ∀ r ∈ rs, r.Tests.length ≤ 7
theorem dr_rules {xs : List Int} (hx : Bytes xs) (pos first chains n : Int) (hb : -1000 ≤ first ∧ chains ≤ 1000) : Dr (spec_l20Rules xs pos first chains n) pos 1400 RulesSm := by
  unfold spec_l20Rules
  refine Dr.bind (Dr.pick hx (by decide)) (by decide) fun x1 p1 a1 => ?_
  refine Dr.list (N := 5) (c := 230) (Q := fun r => r.Tests.length ≤ 7) a1 (by decide) (by decide) (by decide) (fun p => dr_rule hx p _ _ 0 hb) (fun _ _ _ => rfl) fun y p hy hl => ?_
  refine Dr.bind (Dr.odd hx) (by decide) fun x3 p3 _ => ?_
  refine Dr.ite (fun _ => ?_) (fun _ => Dr.some ⟨by omega, hy⟩ (by decide))
  refine Dr.bind (Dr.pick hx (by decide)) (by decide) fun x4 p4 a4 => ?_
  refine Dr.ite (fun _ => ?_) (fun _ => ?_)
  · refine Dr.bind (dr_rule hx _ _ _ 1 hb) (by decide) fun x5 p5 a5 => ?_
    rw [app_ok (by simp; omega)]
    refine Dr.some ⟨by simp; omega, fun r hr => ?_⟩ (by decide)
    rcases List.mem_append.1 hr with hr | hr
    · exact hy r hr
    · rw [List.mem_singleton.1 hr]; exact a5
  · obtain ⟨o, ho, z, rfl, hz1, hz2⟩ := loop_wf (body := spec_l20Rules_L1) (fun y => y.length ≤ 9 ∧ ∀ r ∈ y, r.Tests.length ≤ 7) (fun y => 9 - y.length) (fun o => ∃ y, o = .brk y ∧ y.length ≤ 9 ∧ ∀ r ∈ y, r.Tests.length ≤ 7)
      (fun y ⟨h1, h2⟩ => by
        unfold spec_l20Rules_L1
        by_cases h : (y.length : Int) ≤ 8
        · rw [le_true h, cond_true, app_ok (by simp; omega)]
          refine .inl ⟨_, rfl, ⟨by simp; omega, fun r hr => ?_⟩, by simp; omega⟩
          rcases List.mem_append.1 hr with hr | hr
          · exact h2 r hr
          · rw [List.mem_singleton.1 hr]; simp
        · rw [decide_eq_false h, cond_false]
          exact .inr (.inl ⟨_, rfl, _, rfl, h1, h2⟩)) 10 y ⟨by omega, hy⟩ (by omega)
    rw [ho]
    exact Dr.some ⟨by omega, hz2⟩ (by decide)
/-- A box of a draw. -/
def OkB (b : Box) : Prop := b.Sides.length ≤ 5 ∧ ∀ x ∈ b.Sides, x.length ≤ 40
theorem OkB.ok {b : Box} (h : OkB b) : OkBox b := ⟨by have := h.1; omega, fun x hx => by have := h.2 x hx; omega⟩
theorem OkB.of {s : List (List Span)} (h : B4 s) (hf : Few s) : OkB ⟨s⟩ := ⟨by show s.length ≤ 5; rw [h.1]; decide, fun x hx => by
  obtain ⟨i, hi, rfl⟩ := List.getElem_of_mem hx
  have h4 : i < 4 := by have := h.1; simp only at hi; omega
  have := sd_get h.1 h4
  rw [List.getElem?_eq_getElem hi] at this
  rw [Option.some.inj this]
  exact hf i h4⟩
theorem Few.set {s : List (List Span)} (hl : s.length = 4) (h : Few s) {k : Nat} (hk : k < 4) {x : List Span} (hx : x.length ≤ 40) : Few (s.set k x) := fun j hj => by
  rw [sd_set hl hk]
  split
  · exact hx
  · exact h j hj
theorem dr_box {xs : List Int} (hx : Bytes xs) (pos n : Int) : Dr (spec_l20Box xs pos n) pos 180 (fun b => OkB b ∧ (n ≤ 0 → BV b)) := by
  unfold spec_l20Box
  refine Dr.bind (dr_tests hx _ 0) (by decide) fun ts p1 a1 => ?_
  have hv := (a1.2 (Int.le_refl _)).1
  simp only [spec_testsBox hv, Option.bind_some]
  have hs := testsS_B4 hv.1
  have hsf := testsS_few hv
  generalize testsS ts = s at hs hsf
  -- what is done to a valid box
  have tail : ∀ (s : List (List Span)) (p : Int), B4 s → Few s → Dr ((spec_l20Rd_odd xs p n).bind fun x8 => bif x8.1 then (spec_l20Rd_pick xs x8.2 3).bind fun x9 => bif (x9.1 == 0) then (dropF s 1).bind fun y1 => some (({ Sides := y1 } : Box), x9.2)
      else bif (x9.1 == 1) then (idx s 3).bind fun _x10 => some (({ Sides := (List.set s (3 : Int).toNat [({ Lo := 0, Hi := 8 } : Span)]) } : Box), x9.2) else (appF s [([] : List Span)]).bind fun z1 => some (({ Sides := z1 } : Box), x9.2)
      else some (({ Sides := s } : Box), x8.2)) p 3 (fun b => OkB b ∧ (n ≤ 0 → BV b)) := by
    intro s p h4 hf
    have hok := OkB.of h4 hf
    refine Dr.bind (Dr.odd hx) (by decide) fun x8 p8 a8 => ?_
    refine Dr.ite (fun h => ?_) (fun _ => Dr.some ⟨hok, fun _ => BV_iff.2 ⟨h4, hf⟩⟩ (by decide))
    have no' : ∀ b : Box, n ≤ 0 → BV b := fun t hn => by have := a8 hn; simp only at h; rw [h] at this; cases this
    refine Dr.bind (Dr.pick hx (by decide)) (by decide) fun x9 p9 a9 => ?_
    refine Dr.ite (fun _ => ?_) (fun _ => Dr.ite (fun _ => ?_) (fun _ => ?_))
    · refine Dr.pure (R := fun y => y = s.drop 1) ⟨_, by unfold dropF; rw [if_pos ⟨by omega, by rw [h4.1]; decide⟩]; rfl, rfl⟩ fun y hy => ?_
      subst hy
      exact Dr.some ⟨⟨by simp [h4.1], fun x hx => hok.2 x (List.mem_of_mem_drop hx)⟩, no' _⟩ (by decide)
    · refine Dr.pure (R := fun _ => True) ⟨_, sd_idx h4.1 (k := 3) (by decide), trivial⟩ fun _ _ => ?_
      refine Dr.some ⟨⟨by simp [h4.1], fun x hx => ?_⟩, no' _⟩ (by decide)
      rcases List.mem_or_eq_of_mem_set hx with h | h
      · exact hok.2 x h
      · rw [h]; simp
    · refine Dr.pure (R := fun z => z = s ++ [[]]) ⟨_, app_ok (by rw [h4.1]; decide), rfl⟩ fun z hz => ?_
      subst hz
      refine Dr.some ⟨⟨by simp [h4.1], fun x hx => ?_⟩, no' _⟩ (by decide)
      rcases List.mem_append.1 hx with h | h
      · exact hok.2 x h
      · rw [List.mem_singleton.1 h]; simp
  refine Dr.bind (Dr.pick hx (by decide)) (by decide) fun x3 p3 a3 => ?_
  refine Dr.ite (fun _ => ?_) (fun _ => ?_)
  · refine Dr.bind (Dr.pick hx (by decide)) (by decide) fun x4 p4 a4 => ?_
    obtain ⟨k, rfl⟩ := Int.eq_ofNat_of_zero_le a4.1
    have hk : k < 4 := by omega
    have ht := top_pos hk
    simp only [spec_top, Option.bind_some]
    refine Dr.bind (dr_set hx ht.1 ht.2 _) (by decide) fun x6 p6 a6 => ?_
    simp only [sd_idx hs.1 hk, Option.bind_some, Int.toNat_natCast]
    have t := tail (s.set k x6) p6 (hs.set hk a6.1) (hsf.set hs.1 hk (by omega))
    exact fun h0 h1 => let ⟨a, p, e, q, l, u⟩ := t h0 (by omega); ⟨a, p, e, q, l, by omega⟩
  · have t := tail s p3 hs hsf
    exact fun h0 h1 => let ⟨a, p, e, q, l, u⟩ := t h0 (by omega); ⟨a, p, e, q, l, by omega⟩
def BoxesSm (bs : List Box) : Prop := bs.length ≤ 401 ∧ ∀ b ∈ bs, OkB b
theorem dr_region {xs : List Int} (hx : Bytes xs) (pos n : Int) : Dr (spec_l20Region xs pos n) pos 1270 BoxesSm := by
  unfold spec_l20Region
  refine Dr.bind (Dr.pick hx (by decide)) (by decide) fun x1 p1 a1 => ?_
  refine Dr.list (N := 6) (c := 180) (Q := OkB) a1 (by decide) (by decide) (by decide) (fun p => (dr_box hx p 0).weak fun b h => h.1) (fun _ _ _ => rfl) fun y p hy hl => ?_
  refine Dr.bind (Dr.odd hx) (by decide) fun x3 p3 _ => ?_
  refine Dr.ite (fun _ => ?_) (fun _ => Dr.some ⟨by omega, hy⟩ (by decide))
  refine Dr.bind (Dr.pick hx (by decide)) (by decide) fun x4 p4 a4 => ?_
  refine Dr.ite (fun _ => ?_) (fun _ => ?_)
  · refine Dr.bind (dr_box hx _ 1) (by decide) fun x5 p5 a5 => ?_
    rw [app_ok (by simp; omega)]
    refine Dr.some ⟨by simp; omega, fun r hr => ?_⟩ (by decide)
    rcases List.mem_append.1 hr with hr | hr
    · exact hy r hr
    · rw [List.mem_singleton.1 hr]; exact a5.1
  · rw [show makeF ({ Sides := ([] : List (List Span)) } : Box) 401 = some (List.replicate 401 ⟨[]⟩) from make_len (n := 401) (by decide)]
    refine Dr.some ⟨by rw [List.length_replicate]; exact Nat.le_refl _, fun b hb => ?_⟩ (by decide)
    rw [List.eq_of_mem_replicate hb]
    exact ⟨by simp, by simp⟩
end Go.PF.F

/- Plain laws: laws of drawn arguments: boxes, rules. -/
namespace Go.PF.F
open Go Go.PF

theorem alive_is : laws_alive = some true := rfl
theorem same_spans (xs ys : List Span) (h : xs.length ≤ 9223372036854775807) : laws_sameSpans xs ys = some (decide (xs = ys)) := by
  refine eq_list (f := fun x y => some (decide (x = y))) (body := laws_sameSpans_L0 xs ys) xs ys h (fun _ _ _ _ => rfl) (fun k => ?_)
  unfold laws_sameSpans_L0
  congr 1
  cases idx xs k with
  | none => rfl
  | some x =>
    cases idx ys k with
    | none => rfl
    | some y => simp only [Option.bind_some]; cases decide (x = y) <;> rfl
theorem same_box (a b : Box) (h : OkBox a) : laws_sameBox a b = some (decide (a = b)) := by
  obtain ⟨xs⟩ := a
  obtain ⟨ys⟩ := b
  have := eq_list (f := laws_sameSpans) (body := laws_sameBox_L0 ⟨xs⟩ ⟨ys⟩) xs ys h.1 (fun x hx y _ => same_spans x y (h.2 x hx)) (fun k => rfl)
  unfold laws_sameBox
  rw [this]
  simp
theorem same_boxes (xs ys : List Box) (h : xs.length ≤ 9223372036854775807) (hs : ∀ x ∈ xs, OkBox x) : laws_sameBoxes xs ys = some (decide (xs = ys)) :=
  eq_list (f := laws_sameBox) (body := laws_sameBoxes_L0 xs ys) xs ys h (fun x hx y _ => same_box x y (hs x hx)) (fun _ => rfl)
theorem draw_guard {c : Prop} [Decidable c] {k : Option Bool} (h : ¬ c → k = some true) : (bif decide c then some true else k) = some true := by
  by_cases hc : c
  · rw [decide_eq_true hc]; rfl
  · rw [decide_eq_false hc]; exact h hc
theorem draw_open {code : List Int} (h : GAll GU8 code) {α : Type} {K : List Int × Int → Option α} {R : Option α → Prop} (hk : ∀ xs, Bytes xs → R (K (xs, 0))) : R ((spec_l20Open code).bind K) := by
  obtain ⟨xs, e, hx⟩ := open_ok h
  rw [e]; exact hk xs hx
theorem full_BV : BV ⟨fullS⟩ := BV_iff.2 ⟨full_B4, full_few⟩
theorem full_ok : OkBox ⟨fullS⟩ := B4.ok (b := ⟨fullS⟩) full_B4
theorem pf_range {p : Packet} (h : PV p) {k : Nat} (hk : k < 4) : 0 ≤ pf p k ∧ pf p k ≤ topOf k := by
  unfold PV at h
  match k, hk with
  | 0, _ => exact h.1
  | 1, _ => exact h.2.1
  | 2, _ => exact h.2.2.1
  | 3, _ => exact h.2.2.2
theorem BH_iff {b : Box} (h : b.Sides.length = 4) {p : Packet} : BH b p ↔ ∀ k, k < 4 → has (sd b.Sides k) (pf p k) = true := by
  unfold BH
  constructor
  · intro hh k hk
    obtain ⟨xs, e, hs⟩ := hh k hk
    rw [sd_get h hk] at e
    rw [has_iff, Option.some.inj e]; exact hs
  · intro hh k hk
    exact ⟨_, sd_get h hk, has_iff.1 (hh k hk)⟩
theorem full_has {p : Packet} (h : PV p) : BH ⟨fullS⟩ p := (BH_iff (b := ⟨fullS⟩) full_B4.1).2 fun k hk => by
  show has (sd fullS k) (pf p k) = true
  rw [has_full hk]; exact decide_eq_true (pf_range h hk)
theorem draw_packet {code : List Int} (h : GAll GU8 code) : ∃ p, spec_DrawPacketValid code = some p := by
  unfold spec_DrawPacketValid
  refine draw_open (R := fun m => ∃ p, m = some p) h fun xs hx => ?_
  exact Dr.run (R := fun m => ∃ p, m = some p) (dr_packet hx 0 2) (by decide) (by decide) fun a p _ _ _ => ⟨_, rfl⟩
theorem impl_emptyb {b : Box} (hb : OkBox b) : Dec (impl_BoxEmpty b) (BV b ∧ emptyS b.Sides) :=
  (impl_box hb).and fun hv => by
    rw [impl_sides hv.1, Option.bind_some]
    exact Dec.ret (impl_emp hv.1)
theorem spec_emptyb {b : Box} (hb : OkBox b) : Dec (spec_BoxEmpty b) (BV b ∧ emptyS b.Sides) :=
  (spec_box hb).and fun hv => Dec.ret (spec_emp (BV_iff.1 hv).1)
theorem full_some : ¬ emptyS fullS := by
  rintro ⟨k, hk, e⟩
  unfold fullS at e
  rw [sd_mk4 _ hk] at e; cases e
theorem plain_FnBoxAll (code : List Int) (g : GAll GU8 code) : laws_FnBoxAll code = some true := by
  unfold laws_FnBoxAll
  refine draw_guard fun _ => ?_
  rw [impl_BoxAll_is, spec_all]
  simp only [Option.bind_some, same_box _ _ full_ok, decide_true, cond_true]
  obtain ⟨p, ep⟩ := draw_packet g
  obtain ⟨r1, e1, h1⟩ := impl_box full_ok
  obtain ⟨r2, e2, h2⟩ := impl_emptyb full_ok
  obtain ⟨r3, e3, h3⟩ := impl_has full_ok p
  obtain ⟨r4, e4, h4⟩ := spec_packet p
  have h1 := h1.2 full_BV
  have h2 : r2 = false := by rw [Bool.eq_false_iff]; exact fun h => full_some (h2.1 h).2
  have h34 : r3 = r4 := by
    rw [Bool.eq_iff_iff, h3, h4]
    exact ⟨fun h => h.2.1, fun h => ⟨full_BV, h, full_has h⟩⟩
  simp only [ep, Option.bind_some, e1, e2, e3, e4, h1, h2, h34, alive_is]
  simp

/-! Rules. -/
theorem draw_rules {code : List Int} (h : GAll GU8 code) : ∃ rs, spec_DrawRulesValid code = some rs ∧ RulesSm rs := by
  unfold spec_DrawRulesValid
  refine draw_open (R := fun m => ∃ p, m = some p ∧ RulesSm p) h fun xs hx => ?_
  exact Dr.run (R := fun m => ∃ p, m = some p ∧ RulesSm p) (dr_rules hx 0 1 3 2 (by decide)) (by decide) (by decide) fun a p ha _ _ => ⟨_, rfl, ha⟩
theorem RulesSm.ok {rs : List Rule} (h : RulesSm rs) : rs.length ≤ 9223372036854775807 ∧ ∀ r ∈ rs, r.Tests.length ≤ 9223372036854775807 := ⟨by have := h.1; omega, fun r hr => by have := h.2 r hr; omega⟩
theorem half_is (n : Nat) (h : n ≤ 4294967296) : W ((n : Int).tdiv 2) = ((n / 2 : Nat) : Int) := by
  have : (n : Int).tdiv 2 = ((n / 2 : Nat) : Int) := by rw [Int.tdiv_eq_ediv_of_nonneg (by omega)]; omega
  rw [this, W_of (by omega) (by omega)]
theorem take_half {α : Type} {xs : List α} (h : xs.length ≤ 4294967296) : takeF xs (W ((xs.length : Int).tdiv 2)) = some (xs.take (xs.length / 2)) := by
  rw [half_is _ h]
  unfold takeF
  rw [if_pos ⟨by omega, by omega⟩]; rfl
theorem drop_half {α : Type} {xs : List α} (h : xs.length ≤ 4294967296) : dropF xs (W ((xs.length : Int).tdiv 2)) = some (xs.drop (xs.length / 2)) := by
  rw [half_is _ h]
  unfold dropF
  rw [if_pos ⟨by omega, by omega⟩]; rfl
/-- The law of a validity whose parts are valid. -/
theorem valid_law {α : Type} {f : List α → Option Bool} {g : List α → Option Bool} {xs : List α} {bad : α} {V : List α → Prop} (hl : xs.length ≤ 1000) (hf : ∀ ys, (∀ y ∈ ys, y ∈ xs ∨ y = bad) → ys.length ≤ 2000 → Dec (f ys) (V ys)) (hg : Dec (g xs) (V xs))
    (hpart : V xs → V (xs.take (xs.length / 2))) (hbad : ¬ V (xs ++ [bad])) :
    ((f xs).bind fun x2 => (g xs).bind fun x3 => bif (x2 != x3) then some false else bif x2 then (takeF xs (W (((xs.length : Int)).tdiv 2))).bind fun y1 => (f y1).bind fun x4 => bif x4 then (appF ([] : List α) xs).bind fun z1 => (appF z1 [bad]).bind fun z2 => (f z2).bind fun x5 => bif x5 then some false else laws_alive.bind fun x6 => some x6 else some false
      else (appF ([] : List α) xs).bind fun z3 => (appF z3 [bad]).bind fun z4 => (f z4).bind fun x7 => bif x7 then some false else laws_alive.bind fun x8 => some x8) = some true := by
  obtain ⟨r, e1, e2, hr⟩ := (hf xs (fun y hy => .inl hy) (by omega)).same hg
  obtain ⟨q, e3, hq⟩ := hf (xs.take (xs.length / 2)) (fun y hy => .inl (List.mem_of_mem_take hy)) (by simp; omega)
  obtain ⟨b, e4, hb⟩ := hf (xs ++ [bad]) (fun y hy => by
    rcases List.mem_append.1 hy with h | h
    · exact .inl h
    · exact .inr (List.mem_singleton.1 h)) (by simp; omega)
  have hb : b = false := by rw [Bool.eq_false_iff]; exact fun h => hbad (hb.1 h)
  rw [e1, e2, take_half (by omega), app_nil (by omega)]
  simp only [Option.bind_some, e3, app_ok (show xs.length + [bad].length ≤ 4294967296 by simp; omega), e4, hb, alive_is]
  cases r with
  | false => simp
  | true => rw [hq.2 (hpart (hr.1 rfl))]; simp
theorem plain_FnRulesValid (code : List Int) (g : GAll GU8 code) : laws_FnRulesValid code = some true := by
  unfold laws_FnRulesValid
  refine draw_guard fun _ => ?_
  obtain ⟨rs, e, h⟩ := draw_rules g
  rw [e, Option.bind_some]
  refine valid_law (f := impl_RulesValid) (g := spec_RulesValid) (V := RsV) (by have := h.1; omega) (fun ys hy hl => impl_rules (by omega) fun r hr => ?_) (spec_rules h.ok.1 h.ok.2) (fun hv => ⟨fun r hr => hv.1 r (List.mem_of_mem_take hr), by have := hv.2; simp; omega⟩) (fun hv => ?_)
  · rcases hy r hr with h1 | h1
    · exact h.ok.2 r h1
    · rw [h1]; simp
  · have := (hv.1 (⟨[], 0, 0⟩ : Rule) (by simp)).2.1
    simp only at this; omega
theorem draw_rulefits {code : List Int} (h : GAll GU8 code) : ∃ (r : Rule) (p : Packet), spec_DrawRuleFits code = some (r, p) ∧ r.Tests.length ≤ 7 := by
  unfold spec_DrawRuleFits
  refine draw_open (R := fun m => ∃ (r : Rule) (p : Packet), m = some (r, p) ∧ r.Tests.length ≤ 7) h fun xs hx => ?_
  refine Dr.run (R := fun m => ∃ (r : Rule) (p : Packet), m = some (r, p) ∧ r.Tests.length ≤ 7) (dr_rule hx 0 1 3 14 (by decide)) (by decide) (by decide) fun a p ha h0 h1 => ?_
  exact Dr.run (R := fun m => ∃ (r : Rule) (p : Packet), m = some (r, p) ∧ r.Tests.length ≤ 7) (dr_near hx (ts := a.Tests) (by omega) p 14) h0 (by omega) fun q p' _ _ _ => ⟨_, _, rfl, ha⟩
theorem impl_thold {ts : List Test} (h : ts.length ≤ 9223372036854775807) (p : Packet) : Dec (impl_TestsHold ts p) (TsV ts ∧ PV p ∧ ∀ t ∈ ts, TH t p) :=
  (impl_tests h).and fun hv => (impl_packet p).and fun _ => Dec.ret (impl_allhold h hv.1 p)
theorem plain_FnRuleFits (code : List Int) (g : GAll GU8 code) : laws_FnRuleFits code = some true := by
  unfold laws_FnRuleFits
  refine draw_guard fun _ => ?_
  obtain ⟨r, p, e, h⟩ := draw_rulefits g
  have hl : r.Tests.length ≤ 9223372036854775807 := by omega
  obtain ⟨v, e1, e2, hv⟩ := (impl_fits hl p).same (spec_fits hl p)
  obtain ⟨q, e3, hq⟩ := spec_rule hl
  obtain ⟨t, e4, ht⟩ := impl_thold hl p
  obtain ⟨u, e5, hu⟩ := impl_fits (r := ⟨r.Tests, 5, 0⟩) hl p
  rw [e]
  simp only [Option.bind_some, e1, e2, e3, e4, e5, bne_self_eq_false, cond_false, alive_is]
  cases q with
  | false =>
    have : v = false := by rw [Bool.eq_false_iff]; exact fun h => by simpa using hq.2 (hv.1 h).1
    rw [this]; rfl
  | true =>
    have hr := hq.1 rfl
    have h1 : v = t := by
      rw [Bool.eq_iff_iff, hv, ht]
      exact ⟨fun h => ⟨hr.1, h.2.1, h.2.2⟩, fun h => ⟨hr, h.2⟩⟩
    have h2 : u = v := by
      rw [Bool.eq_iff_iff, hv, hu]
      exact ⟨fun h => ⟨hr, h.2⟩, fun h => ⟨⟨hr.1, by simp, .inr ⟨by simp, rfl⟩⟩, h.2⟩⟩
    rw [h2, ← h1]; simp
theorem draw_boxvalid {code : List Int} (h : GAll GU8 code) : ∃ b, spec_DrawBoxValid code = some b ∧ OkB b := by
  unfold spec_DrawBoxValid
  refine draw_open (R := fun m => ∃ b, m = some b ∧ OkB b) h fun xs hx => ?_
  exact Dr.run (R := fun m => ∃ b, m = some b ∧ OkB b) (dr_box hx 0 2) (by decide) (by decide) fun a p ha _ _ => ⟨_, rfl, ha.1⟩
theorem plain_FnBoxValid (code : List Int) (g : GAll GU8 code) : laws_FnBoxValid code = some true := by
  unfold laws_FnBoxValid
  refine draw_guard fun _ => ?_
  obtain ⟨b, e, h⟩ := draw_boxvalid g
  obtain ⟨v, e1, e2, hv⟩ := (impl_box h.ok).same (spec_box h.ok)
  rw [e]
  simp only [Option.bind_some, e1, e2, bne_self_eq_false, cond_false, alive_is]
  cases v with
  | false => rfl
  | true =>
    have h4 := (hv.1 rfl).1
    have hd : dropF b.Sides 1 = some (b.Sides.drop 1) := by unfold dropF; rw [if_pos ⟨by omega, by rw [h4]; decide⟩]; rfl
    obtain ⟨q, e3, hq⟩ := impl_box (b := ⟨b.Sides.drop 1⟩) ⟨by show (b.Sides.drop 1).length ≤ _; simp [h4], fun x hx => h.ok.2 x (List.mem_of_mem_drop hx)⟩
    obtain ⟨t, e4, ht⟩ := impl_box (b := ⟨b.Sides ++ [[]]⟩) ⟨by show (b.Sides ++ [[]]).length ≤ _; simp [h4], fun x hx => by
      rcases List.mem_append.1 hx with hx | hx
      · exact h.ok.2 x hx
      · rw [List.mem_singleton.1 hx]; simp⟩
    have hq : q = false := by rw [Bool.eq_false_iff]; exact fun h => by have := (hq.1 h).1; simp [h4] at this
    have ht : t = false := by rw [Bool.eq_false_iff]; exact fun h => by have := (ht.1 h).1; simp [h4] at this
    rw [hd, app_nil (by rw [h4]; decide)]
    simp only [cond_true, Option.bind_some, app_ok (show b.Sides.length + [([] : List Span)].length ≤ 4294967296 by rw [h4]; decide), e3, e4, hq, ht]
    rfl

/-! First fits. -/
theorem first_is {a : List Rule} {n : Int} {p : Packet} (ga : a.length ≤ 9223372036854775807) (hs : ∀ x ∈ a, x.Tests.length ≤ 9223372036854775807) (hn : n ≤ 9223372036854775807) :
    ∃ r, spec_FirstFit a n p = some r ∧ impl_FirstFit a n p = some r ∧ (n < 0 → r = -1) ∧ ∀ m : Nat, n = m → First a p m r := by
  by_cases h0 : n < 0
  · refine ⟨-1, ?_, ?_, fun _ => rfl, fun m hm => by omega⟩
    · unfold spec_FirstFit
      have : spec_FirstFit_L0 a p n = some (.brk n) := by
        unfold spec_FirstFit_L0
        rw [decide_eq_false (by omega)]; rfl
      rw [show loopF (spec_FirstFit_L0 a p) (((a.length : Int)) - n).toNat.succ n = (spec_FirstFit_L0 a p n).bind _ from rfl, this]; rfl
    · unfold impl_FirstFit
      rw [decide_eq_true h0]; rfl
  · obtain ⟨m, rfl⟩ := Int.eq_ofNat_of_zero_le (by omega : 0 ≤ n)
    have hm : m ≤ 9223372036854775807 := by omega
    obtain ⟨rv, ev, hv⟩ := spec_rules ga hs
    obtain ⟨r, e, hr⟩ := first_gen (body := spec_FirstFit_L0 a p) (p := p) hm ga (fun k hk => by
      unfold spec_FirstFit_L0
      rw [decide_eq_true (by omega : (0 : Int) ≤ (k : Int)), decide_eq_true (by omega : (k : Int) < (a.length : Int)), ev]
      simp only [cond_true, Option.bind_some]
      cases rv with
      | true =>
        obtain ⟨q, eq, hq⟩ := spec_fits (hs _ (List.getElem_mem hk)) p
        simp only [cond_true, idx_get hk, Option.bind_some, eq]
        refine .inl ⟨q, by cases q <;> rfl, hq.trans ⟨fun hf => ⟨hv.1 rfl, _, List.getElem?_eq_getElem hk, hf⟩, fun ⟨_, x, hx, hf⟩ => ?_⟩⟩
        rw [List.getElem?_eq_getElem hk] at hx
        rw [Option.some.inj hx]; exact hf
      | false => exact .inr ⟨rfl, fun h => by simpa using hv.2 h⟩)
      (fun k hk => by
        unfold spec_FirstFit_L0
        rw [decide_eq_true (by omega : (0 : Int) ≤ (k : Int)), decide_eq_false (by omega)]; rfl)
    refine ⟨r, e, ?_, fun h => absurd h h0, fun m' hm' => by have : m' = m := by omega
                                                             subst this; exact hr⟩
    unfold impl_FirstFit
    rw [decide_eq_false h0, cond_false]
    obtain ⟨rv', ev', hv'⟩ := impl_rules ga hs
    obtain ⟨pv, ep, hp⟩ := impl_packet p
    rw [ev', Option.bind_some]
    cases rv' with
    | false =>
      rw [cond_false]
      rw [First.same hr (.inr ⟨rfl, fun j _ hf => by simpa using hv'.2 hf.1⟩)]
    | true =>
      rw [cond_true, ep, Option.bind_some]
      cases pv with
      | false =>
        rw [cond_false]
        rw [First.same hr (.inr ⟨rfl, fun j _ hf => by obtain ⟨_, x, _, hf⟩ := hf; simpa using hp.2 hf.2.1⟩)]
      | true =>
        rw [cond_true]
        obtain ⟨r', e', hr'⟩ := first_gen (body := impl_FirstFit_L0 a p) (p := p) hm ga (fun k hk => by
          unfold impl_FirstFit_L0
          rw [decide_eq_true (by omega : (k : Int) < (a.length : Int))]
          have hru := (hv'.1 rfl).1 _ (List.getElem_mem hk)
          obtain ⟨q, eq, hq⟩ := impl_allhold (hs _ (List.getElem_mem hk)) hru.1.1 p
          simp only [cond_true, idx_get hk, Option.bind_some, eq]
          refine .inl ⟨q, by cases q <;> rfl, hq.trans ⟨fun hf => ⟨hv'.1 rfl, _, List.getElem?_eq_getElem hk, hru, hp.1 rfl, hf⟩, fun ⟨_, x, hx, hf⟩ => ?_⟩⟩
          rw [List.getElem?_eq_getElem hk] at hx
          rw [Option.some.inj hx]; exact hf.2.2)
          (fun k hk => by
            unfold impl_FirstFit_L0
            rw [decide_eq_false (by omega)]; rfl)
        rw [e', First.same hr hr']
/-- What a first fit's draw gives. -/
theorem draw_firstfit {code : List Int} (h : GAll GU8 code) : ∃ rs n p, spec_DrawFirstFit code = some (rs, n, p) ∧ RulesSm rs ∧ -10 ≤ n ∧ n ≤ 10 := by
  unfold spec_DrawFirstFit
  refine draw_open (R := fun m => ∃ rs n p, m = some (rs, n, p) ∧ RulesSm rs ∧ -10 ≤ n ∧ n ≤ 10) h fun xs hx => ?_
  refine Dr.run (R := fun m => ∃ rs n p, m = some (rs, n, p) ∧ RulesSm rs ∧ -10 ≤ n ∧ n ≤ 10) (dr_rules hx 0 1 3 14 (by decide)) (by decide) (by decide) fun rs p hr h0 h1 => ?_
  obtain ⟨o, ho, ⟨y, k, p'⟩, rfl, hl, l, u⟩ := loop_wf (body := spec_DrawFirstFit_L0 (xs, 0) (rs, p))
    (fun s => ∃ k : Nat, s.2.1 = (k : Int) ∧ k ≤ rs.length ∧ s.1.length ≤ 7 * k ∧ p ≤ s.2.2 ∧ s.2.2 ≤ p + k) (fun s => rs.length - s.2.1.toNat)
    (fun o => ∃ s : List Test × Int × Int, o = .brk s ∧ s.1.length ≤ 70 ∧ p ≤ s.2.2 ∧ s.2.2 ≤ p + 10)
    (fun s ⟨k, e1, hk, hl, l, u⟩ => by
      obtain ⟨y, i, q⟩ := s
      simp only at e1 hl l u
      subst e1
      have hr1 := hr.1
      unfold spec_DrawFirstFit_L0
      rcases drop_cases rs k hk with ⟨e, rfl⟩ | ⟨t, _, e, hk', ht, _⟩
      · exact .inr (.inl ⟨_, by simp only [lt_false (Int.le_refl _), cond_false]; rfl, _, rfl, by simp only; omega, l, by simp only; omega⟩)
      · refine .inl ?_
        simp only [lt_true (show (k : Int) < (rs.length : Int) by omega), cond_true, W_succ (show k < 9223372036854775807 by omega)]
        obtain ⟨r3, p3, e3, _, l3, u3⟩ := Dr.pick hx (pos := q) (n := 2) (by decide) (by omega) (by omega)
        have ht' := hr.2 t (List.mem_of_getElem? (by rw [idx_nat] at ht; exact ht))
        rw [e3, Option.bind_some]
        by_cases c : (r3 == 0) = true
        · simp only [c, cond_true, ht, Option.bind_some, app_ok (show y.length + t.Tests.length ≤ 4294967296 by omega)]
          exact ⟨_, rfl, ⟨k + 1, rfl, hk', by simp; omega, by simp only; omega, by simp only; omega⟩, by simp only [Int.toNat_natCast]; omega⟩
        · simp only [Bool.eq_false_iff.2 c, cond_false]
          exact ⟨_, rfl, ⟨k + 1, rfl, hk', by simp only; omega, by simp only; omega, by simp only; omega⟩, by simp only [Int.toNat_natCast]; omega⟩)
    ((((rs.length : Int)) : Int) - 0).toNat.succ (([] : List Test), 0, p) ⟨0, rfl, Nat.zero_le _, by simp, by simp, by simp⟩ (by simp)
  simp only at hl l u
  simp only [ho, Option.bind_some, LR.on]
  refine Dr.run (R := fun m => ∃ rs n p, m = some (rs, n, p) ∧ RulesSm rs ∧ -10 ≤ n ∧ n ≤ 10) (Dr.pick hx (by decide)) (by omega) (by omega) fun x5 p5 a5 _ _ => ?_
  refine Dr.run (R := fun m => ∃ rs n p, m = some (rs, n, p) ∧ RulesSm rs ∧ -10 ≤ n ∧ n ≤ 10) (Dr.pick hx (by decide)) (by omega) (by omega) fun x6 p6 a6 _ _ => ?_
  refine Dr.run (R := fun m => ∃ rs n p, m = some (rs, n, p) ∧ RulesSm rs ∧ -10 ≤ n ∧ n ≤ 10) (dr_near hx (ts := y) (by omega) p6 20) (by omega) (by omega) fun q p7 _ _ _ => ?_
  have hd : 0 ≤ x6.tdiv 8 ∧ x6.tdiv 8 ≤ 9 := ⟨Int.tdiv_nonneg a6.1 (by omega), by rw [Int.tdiv_eq_ediv_of_nonneg a6.1]; omega⟩
  refine ⟨_, _, _, rfl, hr, ?_, ?_⟩
  · simp only
    rw [W_of (x := x6.tdiv 8) (by omega) (by omega), W_of (by omega) (by omega)]; omega
  · simp only
    rw [W_of (x := x6.tdiv 8) (by omega) (by omega), W_of (by omega) (by omega)]; omega
theorem plain_FnFirstFit (code : List Int) (g : GAll GU8 code) : laws_FnFirstFit code = some true := by
  unfold laws_FnFirstFit
  refine draw_guard fun _ => ?_
  obtain ⟨rs, n, p, e, hr, hn1, hn2⟩ := draw_firstfit g
  obtain ⟨r, e1, e2, hneg, hpos⟩ := first_is (p := p) (n := n) hr.ok.1 hr.ok.2 (by omega)
  rw [e]
  simp only [Option.bind_some, e1, e2, bne_self_eq_false, cond_false, alive_is]
  by_cases h0 : n < 0
  · rw [decide_eq_true h0, hneg h0]; rfl
  · rw [decide_eq_false h0, cond_false]
    obtain ⟨m, rfl⟩ := Int.eq_ofNat_of_zero_le (by omega : 0 ≤ n)
    have hf := hpos m rfl
    obtain ⟨v, ev, hv⟩ := spec_rules hr.ok.1 hr.ok.2
    rw [ev, Option.bind_some]
    cases v with
    | false =>
      rcases hf with ⟨k, _, _, hk, _⟩ | ⟨rfl, _⟩
      · exact absurd (hv.2 hk.1) (by simp)
      · rfl
    | true =>
      have hv := hv.1 rfl
      rw [cond_true]
      have hin : ∀ k, k < rs.length → (∃ b, laws_FnFirstFit_L0 (rs, (m : Int), p) r (k : Int) = some (bif b then .ret (r == (k : Int)) else .nxt (W ((k : Int) + 1))) ∧ (b = true ↔ Fit rs p k)) := by
        intro k hk
        obtain ⟨b, eb, hb⟩ := impl_fits (hr.ok.2 _ (List.getElem_mem hk)) p
        refine ⟨b, ?_, hb.trans ⟨fun h => ⟨hv, _, List.getElem?_eq_getElem hk, h⟩, fun ⟨_, x, hx, h⟩ => by
          rw [List.getElem?_eq_getElem hk] at hx
          rw [Option.some.inj hx]; exact h⟩⟩
        unfold laws_FnFirstFit_L0
        simp only [lt_true (show (k : Int) < (rs.length : Int) by omega), cond_true, idx_get hk, Option.bind_some, eb]
        cases b <;> rfl
      have hr1 := hr.1
      obtain ⟨o, ho, hq⟩ := loop_wf (body := laws_FnFirstFit_L0 (rs, (m : Int), p) r) (fun s => ∃ k : Nat, s = (k : Int) ∧ m ≤ k ∧ ∀ j, m ≤ j → j < k → ¬ Fit rs p j) (fun s => rs.length - s.toNat)
        (fun o => (∃ k, o = .brk k ∧ ∀ j, m ≤ j → ¬ Fit rs p j) ∨ (o = .ret true))
        (fun s ⟨k, e1, hmk, hno⟩ => by
          subst e1
          by_cases hk : k < rs.length
          · obtain ⟨b, eb, hb⟩ := hin k hk
            cases b with
            | true =>
              refine .inr (.inr ⟨_, eb, .inr ?_⟩)
              have hfit := hb.1 rfl
              rcases hf with ⟨k', rfl, hmk', hf', hno'⟩ | ⟨_, hnone⟩
              · have : k' = k := by
                  rcases Nat.lt_trichotomy k' k with h | h | h
                  · exact absurd hf' (hno k' hmk' h)
                  · exact h
                  · exact absurd hfit (hno' k hmk h)
                subst this; simp
              · exact absurd hfit (hnone k hmk)
            | false =>
              refine .inl ⟨((k + 1 : Nat) : Int), by rw [eb, cond_false, W_succ (by omega)], ⟨k + 1, rfl, by omega, fun j h1 h2 => ?_⟩, by simp only [Int.toNat_natCast]; omega⟩
              by_cases hj : j = k
              · subst hj; exact fun h => by simpa using hb.2 h
              · exact hno j h1 (by omega)
          · refine .inr (.inl ⟨_, by unfold laws_FnFirstFit_L0; rw [lt_false (by simp only; omega)]; rfl, .inl ⟨_, rfl, fun j h1 h2 => ?_⟩⟩)
            by_cases hj : j < k
            · exact hno j h1 hj h2
            · obtain ⟨_, x, hx, _⟩ := h2
              have := (List.getElem?_eq_some_iff.1 hx).1
              omega)
        ((((rs.length : Int)) : Int) - (m : Int)).toNat.succ (m : Int) ⟨m, rfl, Nat.le_refl _, fun j h1 h2 => by omega⟩ (by simp only [Int.toNat_natCast]; omega)
      rw [ho]
      rcases hq with ⟨k, rfl, hnone⟩ | rfl
      · rcases hf with ⟨k', _, hmk', hf', _⟩ | ⟨rfl, _⟩
        · exact absurd hf' (hnone k' hmk')
        · rfl
      · rfl
end Go.PF.F

/- Plain laws: draws of rulesets. -/
namespace Go.PF.F
open Go Go.PF

/-- A ruleset of a draw. -/
def RsSm (s : Ruleset) : Prop := s.Chains.length ≤ 3 ∧ ∀ rs ∈ s.Chains, rs.length ≤ 11 ∧ ∀ r ∈ rs, r.Tests.length ≤ 7
theorem RsSm.ok {s : Ruleset} (h : RsSm s) : OkRs s := ⟨by have := h.1; omega, fun rs hrs => ⟨by have := (h.2 rs hrs).1; omega, fun r hr => by have := (h.2 rs hrs).2 r hr; omega⟩⟩
theorem RulesSm.w {rs : List Rule} (h : RulesSm rs) : rs.length ≤ 11 ∧ ∀ r ∈ rs, r.Tests.length ≤ 7 := ⟨by have := h.1; omega, h.2⟩
/-- A loop of draws that counts up. -/
theorem draw_upto {β ρ : Type} {gen : Int → Int → Option (β × Int)} {body : Int × Int × List β → Option (SR (Int × Int × List β) ρ)} {c : Int} {m : Nat} {Q : β → Prop} (hc : 0 ≤ c) (hm : m ≤ 1000) (hg : ∀ (k : Nat) p, k < m → Dr (gen (k : Int) p) p c Q)
    (hb : ∀ k p y, body (k, p, y) = bif (decide (k < (m : Int))) then (gen k p).bind fun x => (appF y [x.1]).bind fun z => some (.nxt (W (k + 1), x.2, z)) else some (.brk (k, p, y))) :
    ∀ (j k : Nat) (y : List β) (p : Int), k + j = m → y.length + j ≤ 1000000 → (∀ x ∈ y, Q x) → 0 ≤ p → p + j * c ≤ 1000000 →
      ∃ y' p', loopF body j.succ ((k : Int), p, y) = some (.brk ((m : Int), p', y')) ∧ (∀ x ∈ y', Q x) ∧ y'.length = y.length + j ∧ p ≤ p' ∧ p' ≤ p + j * c := by
  intro j
  induction j with
  | zero =>
    intro k y p hk _ hq h0 _
    have hkm : k = m := by omega
    subst hkm
    refine ⟨y, p, ?_, hq, rfl, Int.le_refl _, by omega⟩
    unfold loopF
    rw [hb, lt_false (by omega)]; rfl
  | succ j ih =>
    intro k y p hk hl hq h0 h1
    have e : ((j + 1 : Nat) : Int) * c = j * c + c := by rw [Int.natCast_add, Int.add_mul]; omega
    rw [e] at h1 ⊢
    have hnc : 0 ≤ (j : Int) * c := Int.mul_nonneg (by omega) hc
    obtain ⟨x, p1, ex, hx, l, u⟩ := hg k p (by omega) h0 (by omega)
    obtain ⟨y', p', e', hq', hl', l', u'⟩ := ih (k + 1) (y ++ [x]) p1 (by omega) (by simp; omega) (fun z hz => by
      rcases List.mem_append.1 hz with hz | hz
      · exact hq z hz
      · rw [List.mem_singleton.1 hz]; exact hx) (by omega) (by omega)
    refine ⟨y', p', ?_, hq', by rw [hl']; simp; omega, by omega, by omega⟩
    unfold loopF
    rw [hb, lt_true (by omega), cond_true, ex, Option.bind_some, app_ok (by simp; omega), Option.bind_some, W_succ (by omega)]
    exact e'
theorem set_sm {y : List (List Rule)} (hy : ∀ rs ∈ y, rs.length ≤ 11 ∧ ∀ r ∈ rs, r.Tests.length ≤ 7) {z : List Rule} (hz : z.length ≤ 11 ∧ ∀ r ∈ z, r.Tests.length ≤ 7) (i : Nat) : ∀ rs ∈ y.set i z, rs.length ≤ 11 ∧ ∀ r ∈ rs, r.Tests.length ≤ 7 := fun rs hrs => by
  rcases List.mem_or_eq_of_mem_set hrs with h | rfl
  · exact hy rs h
  · exact hz
theorem dr_ruleset {xs : List Int} (hx : Bytes xs) (pos n : Int) : Dr (spec_l20Ruleset xs pos n) pos 5700 RsSm := by
  unfold spec_l20Ruleset
  refine Dr.bind (Dr.pick hx (by decide)) (by decide) fun x1 p1 a1 => ?_
  refine Dr.bind (Dr.pick hx (by decide)) (by decide) fun x2 p2 a2 => ?_
  obtain ⟨m, hm⟩ := Int.eq_ofNat_of_zero_le (show (0 : Int) ≤ 1 + x2 by omega)
  have hW : W (1 + (x2, p2).1) = (m : Int) := by rw [← hm]; exact W_of (by omega) (by omega)
  intro h0 h1
  have hm3 : m ≤ 3 := by omega
  obtain ⟨y, p, e, hy, hl, l, u⟩ := draw_upto (body := spec_l20Ruleset_L0 xs (x2, p2)) (gen := fun k p => spec_l20Rules xs p (W (k + 1)) (m : Int) 0) (c := 1400) (m := m) (Q := RulesSm) (by decide) (by omega)
    (fun k p hk => dr_rules hx _ _ _ _ (by rw [W_succ (by omega)]; omega)) (fun k p y => by unfold spec_l20Ruleset_L0; rw [hW]) m 0 [] p2 (by omega) (by simp; omega) (by simp) h0 (by omega)
  have hsm : ∀ rs ∈ y, rs.length ≤ 11 ∧ ∀ r ∈ rs, r.Tests.length ≤ 7 := fun rs hrs => (hy rs hrs).w
  rw [List.length_nil, Nat.zero_add] at hl
  have e' : loopF (spec_l20Ruleset_L0 xs (x2, p2)) (W (1 + (x2, p2).1) - 0).toNat.succ (0, p2, ([] : List (List Rule))) = some (.brk ((m : Int), p, y)) := by
    rw [hW, Int.sub_zero, Int.toNat_natCast]; exact e
  rw [e', Option.bind_some]
  simp only [LR.on, hW]
  have hpos : 1 ≤ m := by omega
  obtain ⟨y0, hy0⟩ : ∃ y0, idx y 0 = some y0 := ⟨_, idx_get (k := 0) (show 0 < y.length by omega)⟩
  have hy0m : y0 ∈ y := by
    have : y[0]? = some y0 := hy0
    exact List.mem_of_getElem? this
  have hlast : ∃ z, idx y (W ((m : Int) - 1)) = some z := by
    rw [W_of (by omega) (by omega)]
    obtain ⟨z, hz, _⟩ := idx_ok (xs := y) (i := (m : Int) - 1) (n := y.length) (by omega) rfl
    exact ⟨z, hz⟩
  obtain ⟨zl, hzl⟩ := hlast
  have key : Dr ((spec_l20Rd_odd xs p n).bind fun x4 =>
  bif x4.1 then
  (spec_l20Rd_pick xs x4.2 4).bind fun x5 =>
  bif (x5.1 == 0) then
  some (({ Chains := ([] : List (List Rule)), Accept := (x1 == 0) } : Ruleset), x5.2)
  else
  bif (x5.1 == 1) then
  (idx y 0).bind fun x6 =>
  (spec_l20Rd_pick xs x5.2 2).bind fun x7 =>
  (idx [0, (m : Int)] x7.1).bind fun x8 =>
  (appF x6 [({ Tests := ([] : List Test), Action := 3, Chain := x8 } : Rule)]).bind fun z2 =>
  some (({ Chains := (List.set y (0 : Int).toNat z2), Accept := (x1 == 0) } : Ruleset), x7.2)
  else
  bif (x5.1 == 2) then
  (idx y (W ((m : Int) - 1))).bind fun _x9 =>
  (idx (List.set y (W ((m : Int) - 1)).toNat [({ Tests := ([] : List Test), Action := 3, Chain := 0 } : Rule)]) 0).bind fun _x10 =>
  some (({ Chains := (List.set (List.set y (W ((m : Int) - 1)).toNat [({ Tests := ([] : List Test), Action := 3, Chain := 0 } : Rule)]) (0 : Int).toNat [({ Tests := ([] : List Test), Action := 3, Chain := (W ((m : Int) - 1)) } : Rule)]), Accept := (x1 == 0) } : Ruleset), x5.2)
  else
  (spec_l20Rules xs x5.2 1 (m : Int) 1).bind fun x11 =>
  (idx y 0).bind fun _x12 =>
  some (({ Chains := (List.set y (0 : Int).toNat x11.1), Accept := (x1 == 0) } : Ruleset), x11.2)
  else
  some (({ Chains := y, Accept := (x1 == 0) } : Ruleset), x4.2)) p 1410 RsSm := by
    have one : ∀ c : Int, ([({ Tests := ([] : List Test), Action := 3, Chain := c } : Rule)]).length ≤ 11 ∧ ∀ r ∈ [({ Tests := ([] : List Test), Action := 3, Chain := c } : Rule)], r.Tests.length ≤ 7 := fun c => ⟨by simp, fun r hr => by rw [List.mem_singleton.1 hr]; exact Nat.zero_le _⟩
    refine Dr.bind (Dr.odd hx) (by decide) fun x4 p4 _ => ?_
    refine Dr.ite (fun _ => ?_) (fun _ => Dr.some ⟨by simp only; omega, hsm⟩ (by decide))
    refine Dr.bind (Dr.pick hx (by decide)) (by decide) fun x5 p5 a5 => ?_
    refine Dr.ite (fun _ => Dr.some ⟨by simp, by simp⟩ (by decide)) (fun _ => ?_)
    refine Dr.ite (fun _ => ?_) (fun _ => Dr.ite (fun _ => ?_) (fun _ => ?_))
    · refine Dr.pure (R := fun z => z = y0) ⟨_, hy0, rfl⟩ fun z ez => ?_
      subst ez
      have hz := hsm z hy0m
      have hz10 := (hy z hy0m).1
      refine Dr.bind (Dr.pick hx (by decide)) (by decide) fun x7 p7 a7 => ?_
      refine Dr.pure (idx_ok a7 rfl) fun x8 _ => ?_
      rw [app_ok (by simp; omega)]
      refine Dr.some ⟨by simp only [List.length_set]; omega, set_sm hsm ⟨by simp; omega, fun r hr => ?_⟩ _⟩ (by decide)
      rcases List.mem_append.1 hr with hr | hr
      · exact hz.2 r hr
      · rw [List.mem_singleton.1 hr]; exact Nat.zero_le _
    · refine Dr.pure (R := fun _ => True) ⟨_, hzl, trivial⟩ fun _ _ => ?_
      refine Dr.pure (R := fun _ => True) (idx_ok (xs := List.set y (W ((m : Int) - 1)).toNat [({ Tests := ([] : List Test), Action := 3, Chain := 0 } : Rule)]) (i := 0) (n := y.length) (by omega) (by rw [List.length_set]) |>.imp fun _ h => ⟨h.1, trivial⟩) fun _ _ => ?_
      exact Dr.some ⟨by simp only [List.length_set]; omega, set_sm (set_sm hsm (one 0) _) (one _) _⟩ (by decide)
    · refine Dr.bind (dr_rules hx _ _ _ _ (by omega)) (by decide) fun x11 p11 a11 => ?_
      refine Dr.pure (R := fun _ => True) ⟨_, hy0, trivial⟩ fun _ _ => ?_
      exact Dr.some ⟨by simp only [List.length_set]; omega, set_sm hsm a11.w _⟩ (by decide)
  obtain ⟨r, p', er, hr, l', u'⟩ := key (by omega) (by omega)
  exact ⟨r, p', er, hr, by omega, by omega⟩
theorem dr_case {xs : List Int} (hx : Bytes xs) {pos n : Int} (h0 : 0 ≤ pos) (h1 : pos + 7000 ≤ 1000000) : ∃ (s : Ruleset) (q : Packet) (p : Int), spec_l20Case xs pos n = some (s, q, p) ∧ RsSm s := by
  unfold spec_l20Case
  obtain ⟨s, p, e, hs, l, u⟩ := dr_ruleset hx pos n h0 (by omega)
  rw [e, Option.bind_some]
  obtain ⟨o, ho, ⟨y, k, q⟩, rfl, hyl, lq, uq⟩ := loop_wf (body := spec_l20Case_L0 xs (s, p))
    (fun st => ∃ k : Nat, st.2.1 = (k : Int) ∧ k ≤ s.Chains.length ∧ st.1.length ≤ 80 * k ∧ p ≤ st.2.2 ∧ st.2.2 ≤ p + 11 * k) (fun st => s.Chains.length - st.2.1.toNat)
    (fun o => ∃ st : List Test × Int × Int, o = .brk st ∧ st.1.length ≤ 240 ∧ p ≤ st.2.2 ∧ st.2.2 ≤ p + 33)
    (fun st ⟨k, e1, hk, hl, l1, u1⟩ => by
      obtain ⟨y, i, q⟩ := st
      simp only at e1 hl l1 u1
      subst e1
      have hs1 := hs.1
      unfold spec_l20Case_L0
      rcases drop_cases s.Chains k hk with ⟨e, rfl⟩ | ⟨rs, _, e, hk', ht, _⟩
      · exact .inr (.inl ⟨_, by simp only [lt_false (Int.le_refl _), cond_false]; rfl, _, rfl, by simp only; omega, l1, by simp only; omega⟩)
      · refine .inl ?_
        have hm := hs.2 rs (List.mem_of_getElem? (by rw [idx_nat] at ht; exact ht))
        obtain ⟨o, ho, ⟨y2, i2, q2⟩, rfl, hl2, l2, u2⟩ := loop_wf (body := spec_l20Case_L1 xs (s, p) (k : Int))
          (fun st => ∃ j : Nat, st.2.1 = (j : Int) ∧ j ≤ rs.length ∧ st.1.length ≤ 80 * k + 7 * j ∧ q ≤ st.2.2 ∧ st.2.2 ≤ q + j) (fun st => rs.length - st.2.1.toNat)
          (fun o => ∃ st : List Test × Int × Int, o = .brk st ∧ st.1.length ≤ 80 * k + 77 ∧ q ≤ st.2.2 ∧ st.2.2 ≤ q + 11)
          (fun st ⟨j, e1, hj, hl, l3, u3⟩ => by
            obtain ⟨y3, i3, q3⟩ := st
            simp only at e1 hl l3 u3
            subst e1
            have hm1 := hm.1
            unfold spec_l20Case_L1
            simp only [ht, Option.bind_some]
            rcases drop_cases rs j hj with ⟨e, rfl⟩ | ⟨t, _, e, hj', htj, _⟩
            · exact .inr (.inl ⟨_, by simp only [lt_false (Int.le_refl _), cond_false]; rfl, _, rfl, by simp only; omega, l3, by simp only; omega⟩)
            · refine .inl ?_
              simp only [lt_true (show (j : Int) < (rs.length : Int) by omega), cond_true, W_succ (show j < 9223372036854775807 by omega)]
              obtain ⟨r3, p3, e3, _, l4, u4⟩ := Dr.pick hx (pos := q3) (n := 3) (by decide) (by omega) (by omega)
              have ht' := hm.2 t (List.mem_of_getElem? (by rw [idx_nat] at htj; exact htj))
              rw [e3, Option.bind_some]
              by_cases c : (r3 == 0) = true
              · simp only [c, cond_true, htj, Option.bind_some, app_ok (show y3.length + t.Tests.length ≤ 4294967296 by omega)]
                exact ⟨_, rfl, ⟨j + 1, rfl, hj', by simp; omega, by simp only; omega, by simp only; omega⟩, by simp only [Int.toNat_natCast]; omega⟩
              · simp only [Bool.eq_false_iff.2 c, cond_false]
                exact ⟨_, rfl, ⟨j + 1, rfl, hj', by simp only; omega, by simp only; omega, by simp only; omega⟩, by simp only [Int.toNat_natCast]; omega⟩)
          ((((rs.length : Int)) : Int) - 0).toNat.succ (y, 0, q) ⟨0, rfl, Nat.zero_le _, by simp only; omega, by simp, by simp⟩ (by simp)
        simp only at hl2 l2 u2
        simp only [lt_true (show (k : Int) < (s.Chains.length : Int) by omega), cond_true, ht, Option.getD_some, ho, Option.bind_some, LR.on, W_succ (show k < 9223372036854775807 by omega)]
        exact ⟨_, rfl, ⟨k + 1, rfl, hk', by simp only; omega, by simp only; omega, by simp only; omega⟩, by simp only [Int.toNat_natCast]; omega⟩)
    ((((s.Chains.length : Int)) : Int) - 0).toNat.succ (([] : List Test), 0, p) ⟨0, rfl, Nat.zero_le _, by simp, by simp, by simp⟩ (by simp)
  simp only at hyl lq uq
  simp only [ho, Option.bind_some, LR.on]
  obtain ⟨v, p5, e5, _, _, _⟩ := dr_near hx (ts := y) (by omega) q n (by omega) (by omega)
  rw [e5, Option.bind_some]
  exact ⟨s, v, p5, rfl, hs⟩
theorem draw_ruleset {code : List Int} (h : GAll GU8 code) (n : Int) : ∃ (s : Ruleset) (p : Int) (xs : List Int), spec_l20Open code = some (xs, 0) ∧ Bytes xs ∧ spec_l20Ruleset xs 0 n = some (s, p) ∧ RsSm s ∧ 0 ≤ p ∧ p ≤ 5700 := by
  obtain ⟨xs, e0, hx⟩ := open_ok h
  obtain ⟨s, p, e, hs, l, u⟩ := dr_ruleset hx 0 n (by decide) (by decide)
  exact ⟨s, p, xs, e0, hx, e, hs, l, by omega⟩
theorem draw_case {code : List Int} (h : GAll GU8 code) : ∃ (s : Ruleset) (q : Packet), spec_DrawJudge code = some (s, q) ∧ RsSm s := by
  obtain ⟨xs, e0, hx⟩ := open_ok h
  obtain ⟨s, q, p, e, hs⟩ := dr_case hx (pos := 0) (n := 20) (by decide) (by decide)
  refine ⟨s, q, ?_, hs⟩
  unfold spec_DrawJudge
  rw [e0, Option.bind_some]
  simp only [e, Option.bind_some]
end Go.PF.F

/- Plain laws: laws of drawn rulesets. -/
namespace Go.PF.F
open Go Go.PF

theorem no_self {cs : List (List Rule)} {c : Nat} (h : Ends cs c) : ¬ Calls cs c c := by
  induction h with
  | intro c _ ih => exact fun hc => ih c hc hc
theorem rsv_same {s s' : Ruleset} (h : s.Chains = s'.Chains) : RSV s ↔ RSV s' := by unfold RSV; rw [h]
theorem draw_rulesetvalid {code : List Int} (h : GAll GU8 code) : ∃ s : Ruleset, spec_DrawRulesetValid code = some s ∧ RsSm s := by
  obtain ⟨s, p, xs, e0, hx, e, hs, _⟩ := draw_ruleset h 2
  refine ⟨s, ?_, hs⟩
  unfold spec_DrawRulesetValid
  rw [e0, Option.bind_some]
  simp only [e, Option.bind_some]
theorem draw_chainsused {code : List Int} (h : GAll GU8 code) : ∃ s : Ruleset, spec_DrawChainsUsed code = some s ∧ RsSm s := by
  obtain ⟨s, p, xs, e0, hx, e, hs, _⟩ := draw_ruleset h 9
  refine ⟨s, ?_, hs⟩
  unfold spec_DrawChainsUsed
  rw [e0, Option.bind_some]
  simp only [e, Option.bind_some]
theorem plain_FnRulesetValid (code : List Int) (g : GAll GU8 code) : laws_FnRulesetValid code = some true := by
  unfold laws_FnRulesetValid
  refine draw_guard fun _ => ?_
  obtain ⟨s, e, hs⟩ := draw_rulesetvalid g
  obtain ⟨v, e1, e2, hv⟩ := (spec_ruleset hs.ok).same (impl_ruleset hs.ok)
  rw [e]
  simp only [Option.bind_some, e1, e2, bne_self_eq_false, cond_false, alive_is]
  cases v with
  | false =>
    rw [cond_false]
    obtain ⟨q, eq, hq⟩ := impl_ruleset (s := ⟨[], false⟩) ⟨by simp, by simp⟩
    have : q = false := by
      rw [Bool.eq_false_iff]; intro h
      have := (hq.1 h).1.n1
      simp at this
    subst this
    rw [eq]; rfl
  | true =>
    rw [cond_true]
    have hr := hv.1 rfl
    have h1 := hr.1.n1
    have h3 := hs.1
    rw [show dropF s.Chains 1 = some (s.Chains.drop 1) from by unfold dropF; rw [if_pos ⟨by omega, by omega⟩]; rfl, Option.bind_some, app_ok (by simp; omega), Option.bind_some]
    have hbad : OkRs ⟨[[({ Tests := [], Action := 3, Chain := 0 } : Rule)]] ++ s.Chains.drop 1, false⟩ := by
      have := hs.ok
      refine ⟨by simp; omega, fun rs hrs => ?_⟩
      rcases List.mem_append.1 hrs with h | h
      · rw [List.mem_singleton.1 h]
        exact ⟨by simp, fun r hr => by rw [List.mem_singleton.1 hr]; simp⟩
      · exact this.2 rs (List.mem_of_mem_drop h)
    obtain ⟨q, eq, hq⟩ := impl_ruleset hbad
    have hqf : q = false := by
      rw [Bool.eq_false_iff]; intro h
      have hb := hq.1 h
      refine no_self (hb.2 0 (by simp)) ?_
      show called [({ Tests := [], Action := 3, Chain := 0 } : Rule)] 0 = true
      rfl
    subst hqf
    rw [eq, Option.bind_some, cond_false]
    obtain ⟨q2, eq2, hq2⟩ := impl_ruleset (s := ⟨s.Chains, !s.Accept⟩) hs.ok
    rw [eq2, show q2 = true from hq2.2 hr]; rfl

/-! Decisions. -/
theorem waL_has {p : Packet} {rec : Nat → Int} {a : Int} (ha : a ≠ 5) : ∀ {rs : List Rule}, waL p rec rs = a → (∃ r ∈ rs, r.Action = a) ∨ ∃ d, rec d = a
  | [], h => absurd h.symm ha
  | r :: rs, h => by
    have ih := @waL_has p rec a ha rs
    have up : (∃ r ∈ rs, r.Action = a) ∨ (∃ d, rec d = a) → (∃ x ∈ r :: rs, x.Action = a) ∨ ∃ d, rec d = a := fun h => h.imp (fun ⟨x, hx, e⟩ => ⟨x, List.mem_cons_of_mem _ hx, e⟩) id
    unfold waL at h
    by_cases hh : holdB p r = true
    · rw [if_pos hh] at h
      by_cases a1 : r.Action = 1
      · rw [if_pos a1] at h; exact .inl ⟨r, List.mem_cons_self .., a1.trans h⟩
      rw [if_neg a1] at h
      by_cases a2 : r.Action = 2
      · rw [if_pos a2] at h; exact .inl ⟨r, List.mem_cons_self .., a2.trans h⟩
      rw [if_neg a2] at h
      by_cases a4 : r.Action = 4
      · rw [if_pos a4] at h; exact absurd h.symm ha
      rw [if_neg a4] at h
      by_cases a3 : r.Action = 3
      · rw [if_pos a3] at h
        by_cases h5 : rec r.Chain.toNat = 5
        · rw [if_pos h5] at h; exact up (ih h)
        · rw [if_neg h5] at h; exact .inr ⟨_, h⟩
      · rw [if_neg a3] at h; exact up (ih h)
    · rw [if_neg hh] at h; exact up (ih h)
theorem wa_has {cs : List (List Rule)} {p : Packet} {a : Int} (ha : a ≠ 5) : ∀ {f c : Nat}, wa cs p f c = a → ∃ c, ∃ r ∈ ch cs c, r.Action = a
  | 0, _, h => absurd h.symm ha
  | f + 1, c, h => (waL_has ha h).elim (fun ⟨r, hr, e⟩ => ⟨c, r, hr, e⟩) fun ⟨_, h⟩ => wa_has ha h
def accB (s : Ruleset) : Bool := s.Chains.any fun rs => rs.any fun r => r.Action == 1
theorem acc_inner {s : Ruleset} (q : Packet) {c : Nat} (hc : c < s.Chains.length) (hl : (ch s.Chains c).length ≤ 11) (y0 : Bool) :
    loopF (laws_FnJudgedBy_L1 (s, q) (c : Int)) ((((ch s.Chains c).length : Int)) - 0).toNat.succ (y0, 0) = some (.brk ((y0 || (ch s.Chains c).any fun r => r.Action == 1), ((ch s.Chains c).length : Int))) := by
  refine loop_brk0 (body := laws_FnJudgedBy_L1 (s, q) (c : Int)) (ch s.Chains c).length (fun k : Nat => ((y0 || ((ch s.Chains c).take k).any fun r => r.Action == 1), (k : Int))) (by simp) (fun k hk => ?_) ?_ (by omega)
  · unfold laws_FnJudgedBy_L1
    simp only [ch_idx hc, Option.bind_some, lt_true (show (k : Int) < ((ch s.Chains c).length : Int) by omega), cond_true, idx_get hk, W_succ (show k < 9223372036854775807 by omega)]
    rw [take_snoc (List.getElem?_eq_getElem hk), List.any_append]
    cases hy : (y0 || ((ch s.Chains c).take k).any fun r => r.Action == 1) with
    | true => rw [cond_true, ← Bool.or_assoc, hy]; rfl
    | false => rw [cond_false, ← Bool.or_assoc, hy]; simp
  · unfold laws_FnJudgedBy_L1
    simp only [ch_idx hc, Option.bind_some, lt_false (Int.le_refl _), cond_false, List.take_length]
theorem plain_FnJudgedBy (code : List Int) (g : GAll GU8 code) : laws_FnJudgedBy code = some true := by
  unfold laws_FnJudgedBy
  refine draw_guard fun _ => ?_
  obtain ⟨s, q, e, hs⟩ := draw_case g
  have e : spec_DrawJudgedBy code = some (s, q) := e
  obtain ⟨r, e1, e2, h1, h2⟩ := judged_is hs.ok q
  obtain ⟨v, e3, hv⟩ := spec_ruleset hs.ok
  obtain ⟨w, e4, hw⟩ := spec_packet q
  have hlen := hs.1
  have eo : loopF (laws_FnJudgedBy_L0 (s, q)) ((((s.Chains.length : Int)) - 0).toNat.succ) (false, 0) = some (.brk (accB s, (s.Chains.length : Int))) := by
    refine loop_brk0 (body := laws_FnJudgedBy_L0 (s, q)) s.Chains.length (fun k : Nat => (((s.Chains.take k).any fun rs => rs.any fun r => r.Action == 1), (k : Int))) (by simp) (fun k hk => ?_) ?_ (by omega)
    · have hl := (hs.2 _ (ch_mem hk)).1
      unfold laws_FnJudgedBy_L0
      simp only [lt_true (show (k : Int) < (s.Chains.length : Int) by omega), cond_true, ch_idx hk, Option.getD_some, acc_inner q hk hl, Option.bind_some, LR.on, W_succ (show k < 9223372036854775807 by omega)]
      rw [take_snoc (ch_get hk), List.any_append]
      simp
    · unfold laws_FnJudgedBy_L0
      simp only [lt_false (Int.le_refl _), cond_false, List.take_length]; rfl
  rw [e]
  simp only [Option.bind_some, e1, e2, bne_self_eq_false, cond_false, eo, LR.on, e3, e4, alive_is]
  by_cases hall : RSV s ∧ PV q
  · have hr := h1 hall.1 hall.2
    rw [show v = true from hv.2 hall.1, show w = true from hw.2 hall.2]
    rcases (judge_ok s q).1 with h | h | h
    · have hacc : accB s = true := by
        rw [judge_act] at h
        obtain ⟨c, x, hx, hxa⟩ := wa_has (by decide) h
        have hc : c < s.Chains.length := by
          rcases Nat.lt_or_ge c s.Chains.length with h | h
          · exact h
          · rw [ch_out h] at hx; cases hx
        unfold accB
        rw [List.any_eq_true]
        exact ⟨_, ch_mem hc, List.any_eq_true.2 ⟨x, hx, by simp [hxa]⟩⟩
      rw [hr, h, hacc]; rfl
    · rw [hr, h]; cases accB s <;> rfl
    · rw [hr, h]; cases accB s <;> rfl
  · rw [h2 hall]
    cases v with
    | false => cases accB s <;> rfl
    | true =>
      have : w = false := by rw [Bool.eq_false_iff]; exact fun h => hall ⟨hv.1 rfl, hw.1 h⟩
      subst this
      cases accB s <;> rfl

/-! Traces. -/
theorem trace_is {s : Ruleset} (hs : OkRs s) (p : Packet) : ∃ t, spec_JudgeTrace s p = some t ∧ impl_JudgeTrace s p = some t ∧ (RSV s → PV p → t = (judge s p).2) ∧ (¬ (RSV s ∧ PV p) → t = []) := by
  obtain ⟨v, e1, e2, hv⟩ := (spec_ruleset hs).same (impl_ruleset hs)
  obtain ⟨q, e3, e4, hq⟩ := (spec_packet p).same (impl_packet p)
  unfold spec_JudgeTrace impl_JudgeTrace
  rw [e1, e2, Option.bind_some, Option.bind_some, e3, e4]
  cases v with
  | false => exact ⟨[], rfl, rfl, fun h => by simpa using hv.2 h, fun _ => rfl⟩
  | true =>
    cases q with
    | false => exact ⟨[], rfl, rfl, fun _ h => by simpa using hq.2 h, fun _ => rfl⟩
    | true =>
      obtain ⟨stk, e5⟩ := impl_judge (hv.1 rfl) p
      refine ⟨(judge s p).2, ?_, ?_, fun _ _ => rfl, fun h => absurd ⟨hv.1 rfl, hq.1 rfl⟩ h⟩
      · simp only [cond_true, Option.bind_some, spec_judge (hv.1 rfl) (hq.1 rfl)]
      · simp only [cond_true, Option.bind_some, e5]
theorem plain_FnJudgeTrace (code : List Int) (g : GAll GU8 code) : laws_FnJudgeTrace code = some true := by
  unfold laws_FnJudgeTrace
  refine draw_guard fun _ => ?_
  obtain ⟨s, q, e, hs⟩ := draw_case g
  have e : spec_DrawJudgeTrace code = some (s, q) := e
  obtain ⟨r, e1, e2, h1, h2⟩ := judged_is hs.ok q
  obtain ⟨t, e3, e4, h3, h4⟩ := trace_is hs.ok q
  rw [e]
  simp only [Option.bind_some, e2, e3, e4, bne_self_eq_false, cond_false, alive_is]
  by_cases hall : RSV s ∧ PV q
  · have hr := h1 hall.1 hall.2
    have ht := h3 hall.1 hall.2
    obtain ⟨hvo, hlast⟩ := judge_trace hall.1 q
    have hlen : t.length ≤ 200 := by rw [ht]; exact (judge_ok s q).2
    have eo : loopF (laws_FnJudgeTrace_L0 (s, q) t t) ((((t.length : Int)) - 0).toNat.succ) 0 = some (.brk (t.length : Int)) := by
      refine loop_brk0 (body := laws_FnJudgeTrace_L0 (s, q) t t) t.length (fun k : Nat => (k : Int)) rfl (fun k hk => ?_) ?_ (by omega)
      · have hm : t[k] ∈ (judge s q).2 := by rw [← ht]; exact List.getElem_mem hk
        obtain ⟨⟨c, j, x, hx, hc, hj, hh⟩, _⟩ := hvo _ hm
        have hjl : j < (ch s.Chains c).length := (List.getElem?_eq_some_iff.1 hj).1
        have hin : x ∈ ch s.Chains c := List.mem_of_getElem? hj
        have hru := (hall.1.1.rv _ (ch_mem hc)).1 _ hin
        obtain ⟨b, eb, hb⟩ := impl_fits (r := x) (by have := hru.1.2; omega) q
        have hbt : b = true := hb.2 ⟨hru, hall.2, holdB_iff.1 hh⟩
        subst hbt
        have hjx : idx (ch s.Chains c) (j : Int) = some x := by rw [idx_nat]; exact hj
        unfold laws_FnJudgeTrace_L0
        simp only [lt_true (show (k : Int) < (t.length : Int) by omega), cond_true, idx_get hk, Option.bind_some, decide_true, Bool.not_true, cond_false, hx, ch_idx hc, hjx, eb, W_succ (show k < 9223372036854775807 by omega)]
        rw [decide_eq_false (by omega : ¬ ((c : Int) < 0)), decide_eq_false (by omega : ¬ ((s.Chains.length : Int) ≤ (c : Int))), decide_eq_false (by omega : ¬ ((j : Int) < 0)), decide_eq_false (by omega : ¬ (((ch s.Chains c).length : Int) ≤ (j : Int)))]
        rfl
      · unfold laws_FnJudgeTrace_L0
        simp only [lt_false (Int.le_refl _), cond_false]
    simp only [eo, LR.on, Option.bind_some]
    have fin : ∀ a : Int, a = 1 ∨ a = 2 → r = a → (bif ((t.length : Int) == 200) then (some true : Option Bool) else bif ((t.length : Int) == 0) then some false else
        (idx t (W ((t.length : Int) - 1))).bind fun x => (idx s.Chains x.Chain).bind fun y => (idx y x.Place).bind fun z => some (z.Action == r)) = some true := by
      intro a ha hra
      by_cases h200 : t.length = 200
      · rw [show ((t.length : Int) == 200) = true from by simp [h200]]; rfl
      · rw [show ((t.length : Int) == 200) = false from by simp; omega, cond_false]
        have hl := hlast (by rw [← hr, hra]; exact ha) (by rw [← ht]; omega)
        obtain ⟨c, k, x, hgl, hk, hact⟩ := hl
        rw [← ht] at hgl
        have hpos : 0 < t.length := by
          rcases Nat.eq_zero_or_pos t.length with h | h
          · rw [List.eq_nil_of_length_eq_zero h] at hgl; cases hgl
          · exact h
        rw [show ((t.length : Int) == 0) = false from by simp; exact List.ne_nil_of_length_pos hpos, cond_false, W_of (by omega) (by omega), show (t.length : Int) - 1 = ((t.length - 1 : Nat) : Int) by omega, idx_nat]
        rw [List.getLast?_eq_getElem?] at hgl
        rw [hgl, Option.bind_some]
        have hc : c < s.Chains.length := by
          rcases Nat.lt_or_ge c s.Chains.length with h | h
          · exact h
          · rw [ch_out h] at hk; cases hk
        simp only [ch_idx hc, Option.bind_some]
        rw [idx_nat, hk, Option.bind_some, hact, hr]; simp
    rcases (judge_ok s q).1 with h | h | h
    · rw [← hr] at h
      have := fin 1 (.inl rfl) h
      rw [h] at this ⊢
      exact this
    · rw [← hr] at h
      have := fin 2 (.inr rfl) h
      rw [h] at this ⊢
      exact this
    · rw [hr, h]; rfl
  · rw [h2 hall, h4 hall]; rfl

/-! A ruleset that is changed. -/
theorem judgeB_wa (s : Ruleset) (p : Packet) : judgeB s p = if wa s.Chains p 5 0 = 1 then true else if wa s.Chains p 5 0 = 2 then false else s.Accept := by
  unfold judgeB; rw [judge_act]
theorem judge_same {s s' : Ruleset} (hs : OkRs s) (hs' : OkRs s') (p : Packet) (hv : RSV s ↔ RSV s') (hj : RSV s → PV p → judgeB s' p = judgeB s p) {r : Bool} (e : impl_Judge s p = some r) : impl_Judge s' p = some r := by
  obtain ⟨a, _, ea, a1, a2⟩ := judge_is hs p
  obtain ⟨b, _, eb, b1, b2⟩ := judge_is hs' p
  rw [ea] at e
  obtain rfl := Option.some.inj e
  rw [eb]
  by_cases h : RSV s ∧ PV p
  · rw [a1 h.1 h.2, b1 (hv.1 h.1) h.2, hj h.1 h.2]
  · rw [a2 h, b2 fun h' => h ⟨hv.2 h'.1, h'.2⟩]
theorem waL_nocall {p : Packet} (rec rec' : Nat → Int) : ∀ {rs : List Rule}, (∀ r ∈ rs, r.Action ≠ 3) → waL p rec rs = waL p rec' rs
  | [], _ => rfl
  | r :: rs, h => by
    have ih := waL_nocall (p := p) rec rec' fun x hx => h x (List.mem_cons_of_mem _ hx)
    have h3 := h r (List.mem_cons_self ..)
    unfold waL
    rw [ih, if_neg h3, if_neg h3]
theorem called_none {rs : List Rule} (h : ∀ r ∈ rs, r.Action ≠ 3) (d : Nat) : called rs d = false := by
  rw [Bool.eq_false_iff]; intro hc
  obtain ⟨r, hr, ha, _⟩ := called_mem.1 hc
  exact h r hr ha
theorem rsv_one {rs : List Rule} (h : ∀ r ∈ rs, r.Action ≠ 3) : RSV ⟨[rs], true⟩ ↔ RsV rs := by
  constructor
  · exact fun hb => hb.1.rv rs (List.mem_singleton.2 rfl)
  · intro hv
    refine ⟨⟨by simp, by simp, fun x hx => by rw [List.mem_singleton.1 hx]; exact hv, fun x hx r hr => ?_⟩, fun c _ => Acc.intro c fun d hd => ?_⟩
    · rw [List.mem_singleton.1 hx] at hr
      have := (hv.1 r hr).2.2
      have h3 := h r hr
      simp only [List.length_cons, List.length_nil]
      omega
    · exfalso
      have hd : called (ch [rs] c) d = true := hd
      match c, hd with
      | 0, hd => rw [show ch [rs] 0 = rs from rfl, called_none h] at hd; cases hd
      | c + 1, hd => rw [ch_out (by simp)] at hd; cases hd
theorem rsv_two {rs : List Rule} (h : ∀ r ∈ rs, r.Action ≠ 3) : RSV ⟨[[⟨[], 3, 1⟩], rs], true⟩ ↔ RsV rs := by
  constructor
  · exact fun hb => hb.1.rv rs (List.mem_cons_of_mem _ (List.mem_singleton.2 rfl))
  · intro hv
    have hcall : RsV [⟨[], 3, 1⟩] := ⟨fun r hr => by rw [List.mem_singleton.1 hr]; exact ⟨⟨by simp, by simp⟩, by decide, .inl ⟨rfl, by decide, by decide⟩⟩, by simp⟩
    refine ⟨⟨by simp, by simp, fun x hx => ?_, fun x hx r hr => ?_⟩, ?_⟩
    · rcases List.mem_cons.1 hx with rfl | hx
      · exact hcall
      · rw [List.mem_singleton.1 hx]; exact hv
    · simp only [List.length_cons, List.length_nil]
      rcases List.mem_cons.1 hx with rfl | hx
      · rw [List.mem_singleton.1 hr]; decide
      · rw [List.mem_singleton.1 hx] at hr
        have := (hv.1 r hr).2.2
        have h3 := h r hr
        omega
    · have end1 : ∀ c, c ≠ 0 → Ends [[⟨[], 3, 1⟩], rs] c := fun c hc => Acc.intro c fun d hd => by
        exfalso
        have hd : called (ch [[⟨[], 3, 1⟩], rs] c) d = true := hd
        match c, hc, hd with
        | 1, _, hd => rw [show ch [[⟨[], 3, 1⟩], rs] 1 = rs from rfl, called_none h] at hd; cases hd
        | c + 2, _, hd => rw [ch_out (by simp)] at hd; cases hd
      intro c _
      by_cases hc : c = 0
      · subst hc
        refine Acc.intro 0 fun d hd => end1 d fun e => ?_
        subst e
        have hd : called [({ Tests := [], Action := 3, Chain := 1 } : Rule)] 0 = true := hd
        cases hd
      · exact end1 c hc
theorem plain_FnCallAlone (code : List Int) (g : GAll GU8 code) : laws_FnCallAlone code = some true := by
  unfold laws_FnCallAlone
  refine draw_guard fun _ => ?_
  obtain ⟨rs, n, p, e, hr, _, _⟩ := draw_firstfit g
  have hr1 := hr.1
  rw [e]
  simp only [Option.bind_some]
  obtain ⟨o, ho, hq⟩ := loop_idx (body := laws_FnCallAlone_L0 (rs, n, p)) rs.length (fun k st => st = (k : Int) ∧ ∀ (j : Nat) r, j < k → rs[j]? = some r → r.Action ≠ 3)
    (fun o => (o = .brk (rs.length : Int) ∧ ∀ r ∈ rs, r.Action ≠ 3) ∨ o = .ret true) (s := 0) ⟨rfl, fun j r h => by omega⟩
    (fun k st hk ⟨h1, h2⟩ => by
      subst h1
      unfold laws_FnCallAlone_L0
      simp only [lt_true (show (k : Int) < (rs.length : Int) by omega), cond_true, idx_get hk, Option.bind_some, alive_is, W_succ (show k < 9223372036854775807 by omega)]
      by_cases h3 : rs[k].Action = 3
      · rw [(by simp [h3] : (rs[k].Action == 3) = true)]
        exact .inr (.inl ⟨_, rfl, .inr rfl⟩)
      · rw [(by simp [h3] : (rs[k].Action == 3) = false)]
        refine .inl ⟨_, rfl, rfl, fun j r hj hx => ?_⟩
        by_cases ej : j = k
        · subst ej
          rw [List.getElem?_eq_getElem hk] at hx
          rw [← Option.some.inj hx]; exact h3
        · exact h2 j r (by omega) hx)
    (fun st ⟨h1, h2⟩ => by
      subst h1
      refine .inl ⟨_, by unfold laws_FnCallAlone_L0; simp only [lt_false (Int.le_refl _), cond_false], .inl ⟨rfl, fun r hr => ?_⟩⟩
      obtain ⟨j, hj⟩ := List.mem_iff_getElem?.1 hr
      exact h2 j r (List.getElem?_eq_some_iff.1 hj).1 hj)
  rw [show (((rs.length : Int)) - 0).toNat.succ = (((rs.length : Int)) - 0).toNat.succ from rfl, ho, Option.bind_some]
  rcases hq with ⟨rfl, hno⟩ | rfl
  · simp only [LR.on]
    have ok1 : OkRs ⟨[rs], true⟩ := ⟨by simp, fun x hx => by rw [List.mem_singleton.1 hx]; exact hr.ok⟩
    have ok2 : OkRs ⟨[[⟨[], 3, 1⟩], rs], true⟩ := ⟨by simp, fun x hx => by
      rcases List.mem_cons.1 hx with rfl | hx
      · exact ⟨by simp, fun r hr => by rw [List.mem_singleton.1 hr]; simp⟩
      · rw [List.mem_singleton.1 hx]; exact hr.ok⟩
    obtain ⟨b, eb1, eb2, _⟩ := judge_is ok1 p
    have e2 := judge_same ok1 ok2 p ((rsv_one hno).trans (rsv_two hno).symm) (fun _ _ => by
      rw [judgeB_wa, judgeB_wa]
      have ha : wa [[⟨[], 3, 1⟩], rs] p 5 0 = wa [rs] p 5 0 := by
        show waL p (wa [[⟨[], 3, 1⟩], rs] p 4) [⟨[], 3, 1⟩] = waL p (wa [rs] p 4) rs
        have h1 : wa [[⟨[], 3, 1⟩], rs] p 4 1 = waL p (wa [rs] p 4) rs := waL_nocall _ _ hno
        show (if wa [[⟨[], 3, 1⟩], rs] p 4 1 = 5 then 5 else wa [[⟨[], 3, 1⟩], rs] p 4 1) = _
        rw [h1]
        split
        · rename_i h; exact h.symm
        · rfl
      simp only [ha]) eb2
    simp only [eb1, eb2, e2, Option.bind_some, beq_self_eq_true, cond_true]
  · rfl
end Go.PF.F

/- Plain laws: called chains, used chains. -/
namespace Go.PF.F
open Go Go.PF

theorem same_ints (xs : List Int) (h : xs.length ≤ 9223372036854775807) : laws_sameInts xs xs = some true := by
  have := eq_list (f := fun x y => some (decide (x = y))) (body := laws_sameInts_L0 xs xs) xs xs h (fun _ _ _ _ => rfl) (fun k => ?_)
  · unfold laws_sameInts
    rw [this]; simp
  · unfold laws_sameInts_L0
    congr 1
    cases idx xs k with
    | none => rfl
    | some x => simp

/-! Called chains. -/
theorem calls_inner {s : Ruleset} (hb : CB s.Chains) {c : Nat} (hc : c < s.Chains.length) (d : Nat) (y : List Int) :
    loopF (spec_CallsOf_L1 s (c : Int) (d : Int)) ((((ch s.Chains c).length : Int)) - 0).toNat.succ (false, 0, y) = some (.brk (called (ch s.Chains c) d, ((ch s.Chains c).length : Int), y)) := by
  have hl := (hb.rv _ (ch_mem hc)).2
  refine loop_brk0 (body := spec_CallsOf_L1 s (c : Int) (d : Int)) (ch s.Chains c).length (fun k : Nat => (called ((ch s.Chains c).take k) d, (k : Int), y)) rfl (fun k hk => ?_) ?_ (by omega)
  · unfold spec_CallsOf_L1
    simp only [ch_idx hc, Option.bind_some, lt_true (show (k : Int) < ((ch s.Chains c).length : Int) by omega), cond_true, idx_get hk, W_succ (show k < 9223372036854775807 by omega)]
    rw [take_snoc (List.getElem?_eq_getElem hk), called_app]
    cases called ((ch s.Chains c).take k) d with
    | true => rfl
    | false =>
      rw [cond_false, Bool.false_or]
      by_cases ha : (ch s.Chains c)[k].Action = 3
      · rw [(by simp [ha] : ((ch s.Chains c)[k].Action == 3) = true), cond_true, Bool.true_and]
      · rw [(by simp [ha] : ((ch s.Chains c)[k].Action == 3) = false), cond_false, Bool.false_and]
  · unfold spec_CallsOf_L1
    simp only [ch_idx hc, Option.bind_some, lt_false (Int.le_refl _), cond_false, List.take_length]
theorem castL_snoc (xs : List Nat) (d : Nat) : castL xs ++ [(d : Int)] = castL (xs ++ [d]) := by unfold castL; rw [List.map_append]; rfl
theorem filter_snoc (q : Nat → Bool) (k : Nat) : (List.range (k + 1)).filter q = (List.range k).filter q ++ (if q k then [k] else []) := by
  rw [List.range_succ, List.filter_append]
  congr 1
  cases h : q k <;> simp [h]
theorem filter_len (q : Nat → Bool) (k : Nat) : ((List.range k).filter q).length ≤ k := by
  have := List.length_filter_le q (List.range k)
  rwa [List.length_range] at this
theorem calls_is {s : Ruleset} (hs : OkRs s) (a : Int) : ∃ r, spec_CallsOf s a = some r ∧ impl_CallsOf s a = some r ∧ (RSV s → 0 ≤ a → a < s.Chains.length → r = castL (callN (ch s.Chains a.toNat))) ∧ (¬ (RSV s ∧ 0 ≤ a ∧ a < s.Chains.length) → r = []) := by
  obtain ⟨v, e1, e2, hv⟩ := (spec_ruleset hs).same (impl_ruleset hs)
  have hl := hs.1
  by_cases hall : RSV s ∧ 0 ≤ a ∧ a < s.Chains.length
  · obtain ⟨hr, h0, h1⟩ := hall
    have hvt : v = true := hv.2 hr
    subst hvt
    have hb := hr.1
    have h5 := hb.n5
    obtain ⟨c, rfl⟩ := Int.eq_ofNat_of_zero_le h0
    have hc : c < s.Chains.length := by omega
    refine ⟨castL (callN (ch s.Chains c)), ?_, ?_, fun _ _ _ => rfl, fun h => absurd ⟨hr, h0, h1⟩ h⟩
    · unfold spec_CallsOf
      have e : loopF (spec_CallsOf_L0 s (c : Int)) ((((s.Chains.length : Int)) - 0).toNat.succ) ([], 0) = some (.brk (castL ((List.range s.Chains.length).filter (called (ch s.Chains c))), (s.Chains.length : Int))) := by
        refine loop_brk0 (body := spec_CallsOf_L0 s (c : Int)) s.Chains.length (fun k : Nat => (castL ((List.range k).filter (called (ch s.Chains c))), (k : Int))) rfl (fun k hk => ?_) ?_ (by omega)
        · have hf := filter_len (called (ch s.Chains c)) k
          unfold spec_CallsOf_L0
          simp only [lt_true (show (k : Int) < (s.Chains.length : Int) by omega), cond_true, e1, Option.bind_some, in_dec, ch_idx hc, Option.getD_some, calls_inner hb hc, LR.on, W_succ (show k < 9223372036854775807 by omega)]
          rw [W_of (by omega) (by omega), decide_eq_true (by omega : (0 : Int) ≤ (c : Int) ∧ (c : Int) ≤ (s.Chains.length : Int) - 1), cond_true, filter_snoc]
          cases called (ch s.Chains c) k with
          | true =>
            rw [cond_true, app_ok (by rw [castL_len]; simp; omega), Option.bind_some, castL_snoc]; rfl
          | false => simp
        · unfold spec_CallsOf_L0
          simp only [lt_false (Int.le_refl _), cond_false]
      rw [e, Option.bind_some, callN_range hb hc]; rfl
    · unfold impl_CallsOf
      rw [e2, Option.bind_some, cond_true, decide_eq_false (by omega : ¬ ((c : Int) < 0)), cond_false, decide_eq_false (by omega : ¬ ((s.Chains.length : Int) ≤ (c : Int))), cond_false, ch_idx hc, Option.bind_some, calls_in (hb.rv _ (ch_mem hc))]; rfl
  · refine ⟨[], ?_, ?_, fun hr h0 h1 => absurd ⟨hr, h0, h1⟩ hall, fun _ => rfl⟩
    · unfold spec_CallsOf
      have e : spec_CallsOf_L0 s a ([], 0) = some (.brk ([], 0)) := by
        unfold spec_CallsOf_L0
        simp only
        cases decide ((0 : Int) < (s.Chains.length : Int)) with
        | false => rfl
        | true =>
          rw [cond_true, e1, Option.bind_some]
          cases v with
          | false => rfl
          | true =>
            have hr := hv.1 rfl
            have h5 := hr.1.n5
            have h1 := hr.1.n1
            rw [cond_true, in_dec, Option.bind_some, W_of (by omega) (by omega), decide_eq_false (by intro h; exact hall ⟨hr, h.1, by omega⟩)]; rfl
      unfold loopF
      rw [e]; rfl
    · unfold impl_CallsOf
      rw [e2, Option.bind_some]
      cases v with
      | false => rfl
      | true =>
        have hr := hv.1 rfl
        rw [cond_true]
        by_cases h0 : a < 0
        · rw [decide_eq_true h0]; rfl
        · rw [decide_eq_false h0, cond_false, decide_eq_true (by
            rcases Int.lt_or_le a (s.Chains.length : Int) with h | h
            · exact absurd ⟨hr, by omega, h⟩ hall
            · exact h)]; rfl

/-! Used chains. -/
def usedB (cs : List (List Rule)) (x : Nat) : Bool := (roundsU cs cs.length).contains x
def usedN (cs : List (List Rule)) : List Nat := (List.range cs.length).filter (usedB cs)
theorem usedB_iff {cs : List (List Rule)} (hb : CB cs) {x : Nat} : usedB cs x = true ↔ Reach cs 0 x := by
  unfold usedB; rw [List.contains_iff_mem]; exact roundsU_all hb x
theorem usedN_mem {cs : List (List Rule)} (hb : CB cs) {x : Nat} : x ∈ usedN cs ↔ Reach cs 0 x := by
  unfold usedN
  rw [List.mem_filter, usedB_iff hb, List.mem_range]
  exact ⟨fun h => h.2, fun h => ⟨h.lt hb hb.n1, h⟩⟩
theorem usedN_len {cs : List (List Rule)} : (usedN cs).length ≤ cs.length := filter_len _ _
theorem addR_app (o : List Nat) (a b : List Rule) : addR o (a ++ b) = addR (addR o a) b := by unfold addR; rw [List.foldl_append]
theorem used_inner {s : Ruleset} (hb : CB s.Chains) {c : Nat} (hc : c < s.Chains.length) (o : List Nat) (y : List Int) :
    ∃ k, loopF (spec_ChainsUsed_L2 s (c : Int)) ((((ch s.Chains c).length : Int)) - 0).toNat.succ (0, y, doneL s.Chains.length o) = some (.brk (k, y, doneL s.Chains.length (stepU s.Chains o c))) := by
  have hrv := hb.rv _ (ch_mem hc)
  have hl := hrv.2
  unfold stepU
  by_cases ho : c ∈ o
  · rw [if_pos ho]
    refine ⟨((ch s.Chains c).length : Int), loop_brk0 (body := spec_ChainsUsed_L2 s (c : Int)) (ch s.Chains c).length (fun k : Nat => ((k : Int), y, doneL s.Chains.length (addR o ((ch s.Chains c).take k)))) rfl (fun k hk => ?_) ?_ (by omega)⟩
    · have hm := List.getElem_mem hk
      have hch := hrv.chain hm
      have hlt := hb.lt _ (ch_mem hc) _ hm
      obtain ⟨d, hd⟩ := Int.eq_ofNat_of_zero_le hch.1
      have hin : c ∈ addR o ((ch s.Chains c).take k) := (addR_mem _ (fun r hr => (hrv.chain (List.mem_of_mem_take hr)).1) o c).2 (.inl ho)
      unfold spec_ChainsUsed_L2
      simp only [ch_idx hc, Option.bind_some, lt_true (show (k : Int) < ((ch s.Chains c).length : Int) by omega), cond_true, done_idx hc, List.contains_iff_mem.2 hin, idx_get hk, W_succ (show k < 9223372036854775807 by omega)]
      rw [take_snoc (List.getElem?_eq_getElem hk), addR_app]
      by_cases ha : (ch s.Chains c)[k].Action = 3
      · rw [(by simp [ha] : ((ch s.Chains c)[k].Action == 3) = true), cond_true, hd, done_idx (by omega), Option.bind_some, Int.toNat_natCast, done_set (by omega)]
        unfold addR
        simp [ha, hd]
      · rw [(by simp [ha] : ((ch s.Chains c)[k].Action == 3) = false), cond_false]
        unfold addR
        simp [ha]
    · unfold spec_ChainsUsed_L2
      simp only [ch_idx hc, Option.bind_some, lt_false (Int.le_refl _), cond_false, List.take_length]
  · rw [if_neg ho]
    refine ⟨0, ?_⟩
    have hn : o.contains c = false := by rw [Bool.eq_false_iff]; exact fun h => ho (List.contains_iff_mem.1 h)
    have e : spec_ChainsUsed_L2 s (c : Int) (0, y, doneL s.Chains.length o) = some (.brk (0, y, doneL s.Chains.length o)) := by
      unfold spec_ChainsUsed_L2
      simp only [ch_idx hc, Option.bind_some, done_idx hc, hn]
      cases decide ((0 : Int) < ((ch s.Chains c).length : Int)) <;> rfl
    unfold loopF
    rw [e]; rfl
theorem spec_used {s : Ruleset} (hb : CB s.Chains) (hv : spec_RulesetValid s = some true) : spec_ChainsUsed s = some (castL (usedN s.Chains)) := by
  have h1 := hb.n1
  have h5 := hb.n5
  unfold spec_ChainsUsed
  have e0 : List.replicate s.Chains.length false = doneL s.Chains.length [] := by simp [doneL, List.map_const']
  rw [hv, Option.bind_some, cond_true, make_len (by omega), Option.bind_some, e0, show (0 : Int) = ((0 : Nat) : Int) from rfl, done_idx h1, Option.bind_some]
  simp only [Int.toNat_natCast, done_set h1, List.nil_append]
  have eL1 : ∀ (o : List Nat) (y : List Int), loopF (spec_ChainsUsed_L1 s) ((((s.Chains.length : Int)) - 0).toNat.succ) (0, y, doneL s.Chains.length o) = some (.brk ((s.Chains.length : Int), y, doneL s.Chains.length (roundU s.Chains o))) := fun o y => by
    refine loop_brk0 (body := spec_ChainsUsed_L1 s) s.Chains.length (fun k : Nat => ((k : Int), y, doneL s.Chains.length ((List.range k).foldl (stepU s.Chains) o))) rfl (fun k hk => ?_) ?_ (by omega)
    · obtain ⟨k', e⟩ := used_inner hb hk ((List.range k).foldl (stepU s.Chains) o) y
      unfold spec_ChainsUsed_L1
      simp only [lt_true (show (k : Int) < (s.Chains.length : Int) by omega), cond_true, ch_idx hk, Option.getD_some, e, Option.bind_some, LR.on, W_succ (show k < 9223372036854775807 by omega)]
      rw [List.range_succ, List.foldl_append]; rfl
    · unfold spec_ChainsUsed_L1
      simp only [lt_false (Int.le_refl _), cond_false]; rfl
  have eL0 : loopF (spec_ChainsUsed_L0 s) ((((s.Chains.length : Int)) - 0).toNat.succ) (0, [], doneL s.Chains.length [0]) = some (.brk ((s.Chains.length : Int), [], doneL s.Chains.length (roundsU s.Chains s.Chains.length))) := by
    refine loop_brk0 (body := spec_ChainsUsed_L0 s) s.Chains.length (fun k : Nat => ((k : Int), [], doneL s.Chains.length (roundsU s.Chains k))) rfl (fun k hk => ?_) ?_ (by omega)
    · unfold spec_ChainsUsed_L0
      simp only [lt_true (show (k : Int) < (s.Chains.length : Int) by omega), cond_true, eL1, Option.bind_some, LR.on, W_succ (show k < 9223372036854775807 by omega), roundsU_succ]
    · unfold spec_ChainsUsed_L0
      simp only [lt_false (Int.le_refl _), cond_false]
  have eL3 : loopF (spec_ChainsUsed_L3 s) ((((s.Chains.length : Int)) - 0).toNat.succ) ([], 0, doneL s.Chains.length (roundsU s.Chains s.Chains.length)) = some (.brk (castL (usedN s.Chains), (s.Chains.length : Int), doneL s.Chains.length (roundsU s.Chains s.Chains.length))) := by
    refine loop_brk0 (body := spec_ChainsUsed_L3 s) s.Chains.length (fun k : Nat => (castL ((List.range k).filter (usedB s.Chains)), (k : Int), doneL s.Chains.length (roundsU s.Chains s.Chains.length))) rfl (fun k hk => ?_) ?_ (by omega)
    · have hf := filter_len (usedB s.Chains) k
      unfold spec_ChainsUsed_L3
      simp only [lt_true (show (k : Int) < (s.Chains.length : Int) by omega), cond_true, done_idx hk, Option.bind_some, W_succ (show k < 9223372036854775807 by omega)]
      rw [filter_snoc, show (roundsU s.Chains s.Chains.length).contains k = usedB s.Chains k from rfl]
      cases usedB s.Chains k with
      | true => rw [cond_true, app_ok (by rw [castL_len]; simp; omega), Option.bind_some, castL_snoc]; rfl
      | false => simp
    · unfold spec_ChainsUsed_L3
      simp only [lt_false (Int.le_refl _), cond_false]; rfl
  simp only [Int.natCast_zero]
  rw [eL0, Option.bind_some]
  simp only [LR.on]
  rw [eL3]; rfl
theorem impl_used {s : Ruleset} (hb : CB s.Chains) (hv : impl_RulesetValid s = some true) : impl_ChainsUsed s = some (castL (usedN s.Chains)) := by
  have h5 := hb.n5
  unfold impl_ChainsUsed
  obtain ⟨b, col, e, hcl, hcol⟩ := visit_all hb
  have e' : impl_visitCalls 10 s.Chains 0 [0, 0, 0, 0, 0] = some (b, col) := e
  rw [hv, Option.bind_some, cond_true, e', Option.bind_some]
  have eo : loopF (impl_ChainsUsed_L0 (b, col)) (((5 : Int) - 0).toNat.succ) ([], 0) = some (.brk (castL ((List.range 5).filter (usedB s.Chains)), 5)) := by
    refine loop_brk0 (body := impl_ChainsUsed_L0 (b, col)) 5 (fun k : Nat => (castL ((List.range k).filter (usedB s.Chains)), (k : Int))) rfl (fun k hk => ?_) ?_ (by decide)
    · have hf := filter_len (usedB s.Chains) k
      obtain ⟨v, hv, hu⟩ := hcol k hk
      unfold impl_ChainsUsed_L0
      simp only [lt_true (show (k : Int) < 5 by omega), cond_true, idx_nat, hv, Option.bind_some, W_succ (show k < 9223372036854775807 by omega)]
      rw [filter_snoc]
      by_cases h0 : v = 0
      · have : usedB s.Chains k = false := by rw [Bool.eq_false_iff]; exact fun h => hu.2 ((usedB_iff hb).1 h) h0
        rw [this, (by simp [h0] : (v != 0) = false)]; simp
      · have : usedB s.Chains k = true := (usedB_iff hb).2 (hu.1 h0)
        rw [this, (by simp [h0] : (v != 0) = true), cond_true, app_ok (by rw [castL_len]; simp; omega), Option.bind_some, castL_snoc]; rfl
    · unfold impl_ChainsUsed_L0
      rfl
  rw [eo, Option.bind_some]
  simp only [LR.on]
  unfold usedN
  rw [filter_range (fun x hx => ((usedB_iff hb).1 hx).lt hb hb.n1) 5 h5]
theorem used_is {s : Ruleset} (hs : OkRs s) : ∃ r, spec_ChainsUsed s = some r ∧ impl_ChainsUsed s = some r ∧ (RSV s → r = castL (usedN s.Chains)) ∧ (¬ RSV s → r = []) := by
  obtain ⟨v, e1, e2, hv⟩ := (spec_ruleset hs).same (impl_ruleset hs)
  cases v with
  | true =>
    have hr := hv.1 rfl
    exact ⟨_, spec_used hr.1 e1, impl_used hr.1 e2, fun _ => rfl, fun h => absurd hr h⟩
  | false =>
    refine ⟨[], ?_, ?_, fun h => by simpa using hv.2 h, fun _ => rfl⟩
    · unfold spec_ChainsUsed; rw [e1]; rfl
    · unfold impl_ChainsUsed; rw [e2]; rfl
theorem plain_FnChainsUsed (code : List Int) (g : GAll GU8 code) : laws_FnChainsUsed code = some true := by
  unfold laws_FnChainsUsed
  refine draw_guard fun _ => ?_
  obtain ⟨s, e, hs⟩ := draw_chainsused g
  obtain ⟨r, e1, e2, h1, h2⟩ := used_is hs.ok
  have hlen := hs.1
  rw [e]
  simp only [Option.bind_some, e1, e2, alive_is]
  obtain ⟨v, e3, hv⟩ := spec_ruleset hs.ok
  by_cases hr : RSV s
  · have hb := hr.1
    have h5 := hb.n5
    obtain rfl := h1 hr
    have hul := usedN_len (cs := s.Chains)
    have h0 : 0 ∈ usedN s.Chains := (usedN_mem hb).2 (.refl _)
    have hpos : 0 < (usedN s.Chains).length := List.length_pos_of_mem h0
    have hlt : ∀ {k : Nat} (hk : k < (usedN s.Chains).length), (usedN s.Chains)[k] < s.Chains.length := fun hk => ((usedN_mem hb).1 (List.getElem_mem hk)).lt hb hb.n1
    rw [same_ints _ (by rw [castL_len]; omega), Option.bind_some, cond_true, castL_len, show (((usedN s.Chains).length : Int) == 0) = false from by simp; exact List.ne_nil_of_length_pos hpos, cond_false]
    have em : makeF false 5 = some (doneL 5 []) := rfl
    rw [em, Option.bind_some]
    have eL0 : loopF (laws_FnChainsUsed_L0 s (castL (usedN s.Chains))) (((((usedN s.Chains).length : Nat) : Int) - 0).toNat.succ) (0, doneL 5 []) = some (.brk (((usedN s.Chains).length : Int), doneL 5 (usedN s.Chains))) := by
      refine loop_brk0 (body := laws_FnChainsUsed_L0 s (castL (usedN s.Chains))) (usedN s.Chains).length (fun k : Nat => ((k : Int), doneL 5 ((usedN s.Chains).take k))) rfl (fun k hk => ?_) ?_ (by omega)
      · have hu := hlt hk
        unfold laws_FnChainsUsed_L0
        simp only [castL_len, lt_true (show (k : Int) < ((usedN s.Chains).length : Int) by omega), cond_true, castL_idx hk, Option.bind_some, W_succ (show k < 9223372036854775807 by omega)]
        rw [decide_eq_false (by omega : ¬ (((usedN s.Chains)[k] : Nat) : Int) < 0), cond_false, decide_eq_false (by omega : ¬ ((s.Chains.length : Int) ≤ (((usedN s.Chains)[k] : Nat) : Int))), cond_false, done_idx (by omega), Option.bind_some, Int.toNat_natCast, done_set (by omega), take_snoc (List.getElem?_eq_getElem hk)]
      · unfold laws_FnChainsUsed_L0
        simp only [castL_len, lt_false (Int.le_refl _), cond_false, List.take_length]
    have eL2 : ∀ u, u ∈ usedN s.Chains → loopF (laws_FnChainsUsed_L2 (castL (callN (ch s.Chains u)))) (((((callN (ch s.Chains u)).length : Nat) : Int) - 0).toNat.succ) (0, doneL 5 (usedN s.Chains)) = some (.brk (((callN (ch s.Chains u)).length : Int), doneL 5 (usedN s.Chains))) := fun u hu => by
      have hcl := callN_len (ch s.Chains u)
      refine loop_brk0 (body := laws_FnChainsUsed_L2 (castL (callN (ch s.Chains u)))) (callN (ch s.Chains u)).length (fun k : Nat => ((k : Int), doneL 5 (usedN s.Chains))) rfl (fun k hk => ?_) ?_ (by omega)
      · have hm := callN_mem.1 (List.getElem_mem hk)
        have hin : (callN (ch s.Chains u))[k] ∈ usedN s.Chains := (usedN_mem hb).2 (((usedN_mem hb).1 hu).snoc hm.2)
        unfold laws_FnChainsUsed_L2
        simp only [castL_len, lt_true (show (k : Int) < ((callN (ch s.Chains u)).length : Int) by omega), cond_true, castL_idx hk, Option.bind_some, W_succ (show k < 9223372036854775807 by omega)]
        rw [decide_eq_false (by omega : ¬ (((callN (ch s.Chains u))[k] : Nat) : Int) < 0), cond_false, decide_eq_false (by omega : ¬ ((5 : Int) ≤ (((callN (ch s.Chains u))[k] : Nat) : Int))), cond_false, done_idx (by omega), Option.bind_some, List.contains_iff_mem.2 hin]; rfl
      · unfold laws_FnChainsUsed_L2
        simp only [castL_len, lt_false (Int.le_refl _), cond_false]
    have eL1 : loopF (laws_FnChainsUsed_L1 s (castL (usedN s.Chains))) (((((usedN s.Chains).length : Nat) : Int) - 0).toNat.succ) (0, doneL 5 (usedN s.Chains)) = some (.brk (((usedN s.Chains).length : Int), doneL 5 (usedN s.Chains))) := by
      refine loop_brk0 (body := laws_FnChainsUsed_L1 s (castL (usedN s.Chains))) (usedN s.Chains).length (fun k : Nat => ((k : Int), doneL 5 (usedN s.Chains))) rfl (fun k hk => ?_) ?_ (by omega)
      · have hu := hlt hk
        obtain ⟨q, _, ec, hq, _⟩ := calls_is hs.ok (((usedN s.Chains)[k] : Nat) : Int)
        have hq := hq hr (by omega) (by omega)
        rw [Int.toNat_natCast] at hq
        subst hq
        unfold laws_FnChainsUsed_L1
        simp only [castL_len, lt_true (show (k : Int) < ((usedN s.Chains).length : Int) by omega), cond_true, castL_idx hk, Option.bind_some, ec, eL2 _ (List.getElem_mem hk), LR.on, W_succ (show k < 9223372036854775807 by omega)]
      · unfold laws_FnChainsUsed_L1
        simp only [castL_len, lt_false (Int.le_refl _), cond_false]
    simp only [Int.sub_zero] at eL0 eL1
    simp only [Int.sub_zero]
    rw [eL0, Option.bind_some]
    simp only [LR.on]
    rw [eL1, Option.bind_some]
    simp only [LR.on]
    obtain ⟨t, _, et, ht, _⟩ := trace_is hs.ok ({ From := 3, To := 5, Port := 0, Proto := 0 } : Packet)
    have ht := ht hr ⟨by decide, by decide, by decide, by decide, by decide⟩
    rw [et, Option.bind_some]
    have hvo := (judge_trace hr ({ From := 3, To := 5, Port := 0, Proto := 0 } : Packet)).1
    have htl : t.length ≤ 200 := by rw [ht]; exact (judge_ok s _).2
    have eL3 : loopF (laws_FnChainsUsed_L3 t) ((t.length : Int)).toNat.succ (0, doneL 5 (usedN s.Chains)) = some (.brk ((t.length : Int), doneL 5 (usedN s.Chains))) := by
      refine loop_brk0 (body := laws_FnChainsUsed_L3 t) t.length (fun k : Nat => ((k : Int), doneL 5 (usedN s.Chains))) rfl (fun k hk => ?_) ?_ (by omega)
      · have hm : t[k] ∈ (judge s ({ From := 3, To := 5, Port := 0, Proto := 0 } : Packet)).2 := by rw [← ht]; exact List.getElem_mem hk
        obtain ⟨⟨c, j, x, hx, hc, _, _⟩, hre⟩ := hvo _ hm
        rw [hx] at hre
        simp only [Int.toNat_natCast] at hre
        have hin : c ∈ usedN s.Chains := (usedN_mem hb).2 hre
        unfold laws_FnChainsUsed_L3
        simp only [lt_true (show (k : Int) < (t.length : Int) by omega), cond_true, idx_get hk, Option.bind_some, hx, W_succ (show k < 9223372036854775807 by omega)]
        rw [decide_eq_false (by omega : ¬ (c : Int) < 0), cond_false, decide_eq_false (by omega : ¬ ((5 : Int) ≤ (c : Int))), cond_false, done_idx (by omega), Option.bind_some, List.contains_iff_mem.2 hin]; rfl
      · unfold laws_FnChainsUsed_L3
        simp only [lt_false (Int.le_refl _), cond_false]
    rw [eL3, Option.bind_some]
    simp only [LR.on]
    rw [show (0 : Int) = ((0 : Nat) : Int) from rfl, done_idx (by decide), Option.bind_some, List.contains_iff_mem.2 h0]
  · obtain rfl := h2 hr
    rw [same_ints _ (by simp), Option.bind_some, cond_true]
    have : v = false := by rw [Bool.eq_false_iff]; exact fun h => hr (hv.1 h)
    subst this
    simp only [e3, Option.bind_some, List.length_nil, cond_false]
    rfl
end Go.PF.F
