import Derived.Test.YtgglogmjjaahhaaDoorPlK
import Derived.Test.YtgglogmjjaahhaaDoorPlAB
/- Plain laws: what the draws give. -/
namespace Go.PF.F
open Go Go.PF

/-- A draw from position pos on that reads at most C bytes. -/
def Dr {α : Type} (m : Option (α × Int)) (pos C : Int) (Q : α → Prop) : Prop := 0 ≤ pos → pos + C ≤ 1000000 → ∃ a p, m = some (a, p) ∧ Q a ∧ pos ≤ p ∧ p ≤ pos + C
def Bytes (xs : List Int) : Prop := ∀ x ∈ xs, 0 ≤ x ∧ x ≤ 255
section
variable {α β γ : Type} {pos c C : Int} {P : α → Prop} {Q : β → Prop}
theorem Dr.bind {m : Option (α × Int)} {f : α × Int → Option (β × Int)} (hm : Dr m pos c P) (hc : 0 ≤ c ∧ c ≤ C) (hf : ∀ a p, P a → Dr (f (a, p)) p (C - c) Q) : Dr (m.bind f) pos C Q := by
  intro h0 h1
  obtain ⟨a, p, e, ha, l, u⟩ := hm h0 (by omega)
  obtain ⟨b, p', e', hb, l', u'⟩ := hf a p ha (by omega) (by omega)
  exact ⟨b, p', by rw [e]; exact e', hb, by omega, by omega⟩
theorem Dr.pure {m : Option γ} {f : γ → Option (β × Int)} {R : γ → Prop} (hm : ∃ x, m = some x ∧ R x) (hf : ∀ x, R x → Dr (f x) pos C Q) : Dr (m.bind f) pos C Q := by
  obtain ⟨x, e, h⟩ := hm
  rw [e]; exact hf x h
theorem Dr.ite {b : Bool} {A B : Option (β × Int)} (h1 : b = true → Dr A pos C Q) (h2 : b = false → Dr B pos C Q) : Dr (bif b then A else B) pos C Q := by
  cases b
  · exact h2 rfl
  · exact h1 rfl
theorem Dr.some {b : β} (hq : Q b) (hc : 0 ≤ C) : Dr (some (b, pos)) pos C Q := fun _ _ => ⟨b, pos, rfl, hq, Int.le_refl _, by omega⟩
theorem Dr.weak {m : Option (β × Int)} {Q' : β → Prop} (h : Dr m pos C Q) (hq : ∀ b, Q b → Q' b) : Dr m pos C Q' := fun h0 h1 =>
  let ⟨a, p, e, ha, l⟩ := h h0 h1; ⟨a, p, e, hq a ha, l⟩
/-- The draw is made. -/
theorem Dr.run {m : Option (α × Int)} {K : α × Int → Option γ} {R : Option γ → Prop} (hm : Dr m pos C P) (h0 : 0 ≤ pos) (h1 : pos + C ≤ 1000000) (hk : ∀ a p, P a → pos ≤ p → p ≤ pos + C → R (K (a, p))) : R (m.bind K) := by
  obtain ⟨a, p, e, ha, l, u⟩ := hm h0 h1
  rw [e]; exact hk a p ha l u
end
theorem tmod_range {x n : Int} (hx : 0 ≤ x) (hn : 1 ≤ n) : 0 ≤ x.tmod n ∧ x.tmod n < n := ⟨Int.tmod_nonneg n hx, Int.tmod_lt_of_pos x (by omega)⟩
theorem xor_nonneg {i j : Int} (hi : 0 ≤ i) (hi2 : i < 4611686018427387904) (hj : 0 ≤ j) (hj2 : j < 4611686018427387904) : 0 ≤ xorF i j := by
  unfold xorF
  have e1 : (i % 2 ^ 64).toNat = i.toNat := by rw [Int.emod_eq_of_lt hi (by omega)]
  have e2 : (j % 2 ^ 64).toNat = j.toNat := by rw [Int.emod_eq_of_lt hj (by omega)]
  rw [e1, e2]
  have : i.toNat ^^^ j.toNat < 2 ^ 62 := Nat.xor_lt_two_pow (by omega) (by omega)
  rw [W_of (by omega) (by omega)]
  omega
theorem Dr.pick {xs : List Int} (hx : Bytes xs) {pos n : Int} (hn : 1 ≤ n) : Dr (spec_l20Rd_pick xs pos n) pos 1 (fun r => 0 ≤ r ∧ r < n) := by
  intro h0 h1
  have hnz : nzF n = Option.some () := by unfold nzF; rw [if_neg (by simp; omega)]
  unfold spec_l20Rd_pick
  rw [lt_false (show (1 : Int) ≤ n by omega), cond_false]
  have hp : W (pos + 1) = pos + 1 := W_of (by omega) (by omega)
  have hk : W (W (pos + 1) - 1) = pos := by rw [hp, W_of (by omega) (by omega)]; omega
  by_cases hl : xs.length = 0
  · rw [show (((xs.length : Int)) == 0) = true from by simp; exact List.eq_nil_of_length_eq_zero hl, cond_true]
    exact ⟨0, pos + 1, by rw [hp], ⟨by omega, by omega⟩, by omega, by omega⟩
  · rw [show (((xs.length : Int)) == 0) = false from by simp; exact fun e => hl (by rw [e]; rfl), cond_false, hk]
    have hw : ∀ x ∈ xs, W x = x := fun x hm => W_of (by have := hx x hm; omega) (by have := hx x hm; omega)
    by_cases hlt : pos < (xs.length : Int)
    · rw [lt_true hlt, cond_true]
      obtain ⟨k, rfl⟩ := Int.eq_ofNat_of_zero_le h0
      have hkl : k < xs.length := by omega
      rw [idx_get hkl, Option.bind_some, hnz, Option.bind_some, hw _ (List.getElem_mem hkl)]
      exact ⟨_, _, by rw [hp], tmod_range (hx _ (List.getElem_mem hkl)).1 hn, by omega, by omega⟩
    · rw [decide_eq_false hlt, cond_false, show nzF (xs.length : Int) = Option.some () from by unfold nzF; rw [if_neg (by simp; exact fun e => hl (by rw [e]; rfl))], Option.bind_some]
      have hi : ∀ i : Int, 0 ≤ i → ∃ x, idx xs (i.tmod (xs.length : Int)) = Option.some x ∧ 0 ≤ x ∧ x ≤ 255 ∧ W x = x := by
        intro i hi
        have hr := tmod_range (n := (xs.length : Int)) hi (by omega)
        obtain ⟨k, hk⟩ := Int.eq_ofNat_of_zero_le hr.1
        rw [hk] at hr ⊢
        have hkl : k < xs.length := by omega
        have := hx _ (List.getElem_mem hkl)
        exact ⟨xs[k], idx_get hkl, this.1, this.2, hw _ (List.getElem_mem hkl)⟩
      obtain ⟨a, ea, ha0, ha1, hwa⟩ := hi pos h0
      have e7 : W (W (pos * 7) + 3) = pos * 7 + 3 := by rw [W_of (x := pos * 7) (by omega) (by omega), W_of (by omega) (by omega)]
      obtain ⟨b, eb, hb0, hb1, hwb⟩ := hi (pos * 7 + 3) (by omega)
      rw [ea, Option.bind_some, e7, eb, Option.bind_some, hnz, Option.bind_some, hwa, hwb]
      have hd0 : 0 ≤ pos.tdiv (xs.length : Int) := Int.tdiv_nonneg h0 (by omega)
      have hd1 : pos.tdiv (xs.length : Int) ≤ pos := by
        rw [Int.tdiv_eq_ediv_of_nonneg h0]
        exact Int.ediv_le_self _ h0
      have eX : W (W (W (W (a * 131) + W (b * 1117)) + W (pos * 29)) + W (W (pos.tdiv (xs.length : Int)) * 53)) = a * 131 + b * 1117 + pos * 29 + pos.tdiv (xs.length : Int) * 53 := by
        generalize pos.tdiv (xs.length : Int) = d at hd0 hd1
        rw [W_of (x := a * 131) (by omega) (by omega), W_of (x := b * 1117) (by omega) (by omega), W_of (x := a * 131 + b * 1117) (by omega) (by omega), W_of (x := pos * 29) (by omega) (by omega), W_of (x := a * 131 + b * 1117 + pos * 29) (by omega) (by omega), W_of (x := d) (by omega) (by omega), W_of (x := d * 53) (by omega) (by omega), W_of (by omega) (by omega)]
      rw [eX]
      generalize hX : a * 131 + b * 1117 + pos * 29 + pos.tdiv (xs.length : Int) * 53 = X
      have hX0 : 0 ≤ X := by
        generalize pos.tdiv (xs.length : Int) = d at hd0 hd1 hX
        omega
      have hX1 : X < 4611686018427387904 := by
        generalize pos.tdiv (xs.length : Int) = d at hd0 hd1 hX
        omega
      have hY0 : 0 ≤ X.tdiv 64 := Int.tdiv_nonneg hX0 (by omega)
      have hY1 : X.tdiv 64 ≤ X := by rw [Int.tdiv_eq_ediv_of_nonneg hX0]; exact Int.ediv_le_self _ hX0
      rw [W_of (x := X.tdiv 64) (by omega) (by omega)]
      exact ⟨_, _, by rw [hp], tmod_range (xor_nonneg hX0 hX1 hY0 (by omega)) hn, by omega, by omega⟩
theorem Dr.odd {xs : List Int} (hx : Bytes xs) {pos n : Int} : Dr (spec_l20Rd_odd xs pos n) pos 1 (fun r => n ≤ 0 → r = false) := by
  unfold spec_l20Rd_odd
  refine Dr.ite (fun h => Dr.bind (Dr.pick hx (by have := of_decide_eq_true h; omega)) (by decide) fun a p _ => Dr.some (fun h' => absurd (of_decide_eq_true h) (by omega)) (by decide)) (fun h => Dr.some (fun _ => rfl) (by decide))
theorem idx_ok {α : Type} {xs : List α} {i n : Int} (h : 0 ≤ i ∧ i < n) (hn : (xs.length : Int) = n) : ∃ x, idx xs i = some x ∧ x ∈ xs := by
  obtain ⟨k, rfl⟩ := Int.eq_ofNat_of_zero_le h.1
  have hk : k < xs.length := by omega
  exact ⟨_, idx_get hk, List.getElem_mem hk⟩
theorem open_ok {code : List Int} (h : GAll GU8 code) : ∃ xs, spec_l20Open code = some (xs, 0) ∧ Bytes xs := by
  unfold spec_l20Open
  by_cases hl : (2000 : Int) < (code.length : Int)
  · refine ⟨code.take 2000, ?_, fun x hx => h.2 x (List.mem_of_mem_take hx)⟩
    rw [lt_true hl, cond_true]
    unfold takeF
    rw [if_pos ⟨by omega, by omega⟩]; rfl
  · exact ⟨code, by rw [decide_eq_false hl]; rfl, h.2⟩
/-- A loop of draws. -/
theorem draw_loop {β ρ : Type} {gen : Int → Option (β × Int)} {body : (List β) × Int × Int → Option (SR ((List β) × Int × Int) ρ)} {c : Int} {Q : β → Prop} (hc : 0 ≤ c) (hg : ∀ p, Dr (gen p) p c Q)
    (hb : ∀ y k p, body (y, k, p) = bif (decide (0 < k)) then (gen p).bind fun x => (appF y [x.1]).bind fun z => some (.nxt (z, W (k - 1), x.2)) else some (.brk (y, k, p))) :
    ∀ (n : Nat) (y : List β) (p : Int), n ≤ 1000 → y.length + n ≤ 1000000 → (∀ x ∈ y, Q x) → 0 ≤ p → p + n * c ≤ 1000000 →
      ∃ y' p', loopF body n.succ (y, (n : Int), p) = some (.brk (y', 0, p')) ∧ (∀ x ∈ y', Q x) ∧ y'.length = y.length + n ∧ p ≤ p' ∧ p' ≤ p + n * c := by
  intro n
  induction n with
  | zero =>
    intro y p _ _ hq h0 _
    refine ⟨y, p, ?_, hq, rfl, Int.le_refl _, by omega⟩
    unfold loopF
    rw [hb, lt_false (by omega)]; rfl
  | succ n ih =>
    intro y p hn hl hq h0 h1
    have e : ((n + 1 : Nat) : Int) * c = n * c + c := by rw [Int.natCast_add, Int.add_mul]; omega
    rw [e] at h1 ⊢
    have hnc : 0 ≤ (n : Int) * c := Int.mul_nonneg (by omega) hc
    obtain ⟨x, p1, ex, hx, l, u⟩ := hg p h0 (by omega)
    obtain ⟨y', p', e', hq', hl', l', u'⟩ := ih (y ++ [x]) p1 (by omega) (by simp; omega) (fun z hz => by
      rcases List.mem_append.1 hz with hz | hz
      · exact hq z hz
      · rw [List.mem_singleton.1 hz]; exact hx) (by omega) (by omega)
    refine ⟨y', p', ?_, hq', by rw [hl']; simp; omega, by omega, by omega⟩
    unfold loopF
    rw [hb, lt_true (by omega), cond_true, ex, Option.bind_some, app_ok (by simp; omega), Option.bind_some, show W (((n + 1 : Nat) : Int) - 1) = (n : Int) from by rw [W_of (by omega) (by omega)]; omega]
    exact e'
/-- A draw of a list. -/
theorem Dr.list {β γ : Type} {gen : Int → Option (β × Int)} {body : (List β) × Int × Int → Option (SR ((List β) × Int × Int) (γ × Int))} {c C k pos : Int} {N : Nat} {Q : β → Prop} {R : γ → Prop} {f : (List β) × Int × Int → Option (γ × Int)} (hk : 0 ≤ k ∧ k < N) (hN : N ≤ 100) (hc : 0 ≤ c) (hC : N * c ≤ C)
    (hg : ∀ p, Dr (gen p) p c Q)
    (hb : ∀ y k p, body (y, k, p) = bif (decide (0 < k)) then (gen p).bind fun x => (appF y [x.1]).bind fun z => Option.some (.nxt (z, W (k - 1), x.2)) else Option.some (.brk (y, k, p)))
    (hf : ∀ y p, (∀ x ∈ y, Q x) → y.length < N → Dr (f (y, 0, p)) p (C - N * c) R) :
    Dr ((loopF body (k : Int).toNat.succ (([] : List β), k, pos)).bind fun lr => lr.on f (fun r => Option.some r)) pos C R := by
  intro h0 h1
  obtain ⟨n, rfl⟩ := Int.eq_ofNat_of_zero_le hk.1
  have hnN : (n : Int) * c ≤ N * c := Int.mul_le_mul_of_nonneg_right (by omega) hc
  have hn0 : 0 ≤ (n : Int) * c := Int.mul_nonneg (by omega) hc
  obtain ⟨y, p, e, hq, hl, l, u⟩ := draw_loop hc hg hb n [] pos (by omega) (by simp; omega) (by simp) h0 (by omega)
  rw [Int.toNat_natCast, e]
  obtain ⟨r, p', e', hr, l', u'⟩ := hf y p hq (by rw [hl]; simp; omega) (by omega) (by omega)
  exact ⟨r, p', e', hr, by omega, by omega⟩

/-! The draws. -/
theorem dr_packet {xs : List Int} (hx : Bytes xs) (pos n : Int) : Dr (spec_l20Packet xs pos n) pos 20 (fun _ => True) := by
  unfold spec_l20Packet
  repeat' first
    | exact Dr.some trivial (by decide)
    | refine Dr.bind (Dr.pick hx (by decide)) (by decide) fun a p h => ?_
    | refine Dr.bind (Dr.odd hx) (by decide) fun a p h => ?_
    | refine Dr.ite (fun _ => ?_) (fun _ => ?_)
    | refine Dr.pure (idx_ok (by assumption) rfl) fun x _ => ?_
theorem dr_near {xs : List Int} (hx : Bytes xs) {ts : List Test} (hl : ts.length ≤ 1000) (pos n : Int) : Dr (spec_l20Near xs pos ts n) pos (20 + 2 * ts.length) (fun _ => True) := by
  unfold spec_l20Near
  refine Dr.bind (dr_packet hx pos n) (by omega) fun q p _ => ?_
  intro h0 h1
  obtain ⟨o, ho, ⟨k, p', a, b, c, d⟩, rfl, l, u⟩ := loop_wf (body := spec_l20Near_L0 xs ts)
    (fun s => ∃ k : Nat, s.1 = (k : Int) ∧ k ≤ ts.length ∧ p ≤ s.2.1 ∧ s.2.1 ≤ p + 2 * k) (fun s => ts.length - s.1.toNat)
    (fun o => ∃ s : Int × Int × Int × Int × Int × Int, o = .brk s ∧ p ≤ s.2.1 ∧ s.2.1 ≤ p + 2 * ts.length)
    (fun s ⟨k, e1, hk, l, u⟩ => by
      obtain ⟨i, p1, a, b, c, d⟩ := s
      simp only at e1 l u
      subst e1
      unfold spec_l20Near_L0
      rcases drop_cases ts k hk with ⟨e, rfl⟩ | ⟨t, _, e, hk', ht, _⟩
      · refine .inr (.inl ⟨_, by simp only [lt_false (Int.le_refl _), cond_false]; rfl, _, rfl, l, by simp only; omega⟩)
      · refine .inl ?_
        simp only [lt_true (show (k : Int) < (ts.length : Int) by omega), cond_true, ht, Option.bind_some, W_succ (show k < 9223372036854775807 by omega)]
        obtain ⟨r, er, hr⟩ := spec_test t
        rw [er, Option.bind_some]
        have fin : ∀ p2 a b c d, p1 ≤ p2 → p2 ≤ p1 + 2 → (∃ k' : Nat, (((k + 1 : Nat) : Int), p2, a, b, c, d).1 = (k' : Int) ∧ k' ≤ ts.length ∧ p ≤ (((k + 1 : Nat) : Int), p2, a, b, c, d).2.1 ∧ (((k + 1 : Nat) : Int), p2, a, b, c, d).2.1 ≤ p + 2 * k') ∧ ts.length - (((k + 1 : Nat) : Int), p2, (a : Int), (b : Int), (c : Int), (d : Int)).1.toNat < ts.length - ((k : Int), p1, a, b, c, d).1.toNat :=
          fun p2 a b c d h1 h2 => ⟨⟨k + 1, rfl, hk', by simp only; omega, by simp only; omega⟩, by simp only [Int.toNat_natCast]; omega⟩
        cases r with
        | false => exact ⟨_, rfl, (fin p1 a b c d (by omega) (by omega)).1, (fin p1 a b c d (by omega) (by omega)).2⟩
        | true =>
          have hv := hr.1 rfl
          obtain ⟨r4, p2, e4, _, l4, u4⟩ := Dr.pick hx (pos := p1) (n := 3) (by decide) (by omega) (by omega)
          rw [cond_true, e4, Option.bind_some]
          by_cases c4 : (r4 == 0) = true
          · simp only [c4, cond_true]
            exact ⟨_, rfl, (fin p2 a b c d (by omega) (by omega)).1, (fin p2 a b c d (by omega) (by omega)).2⟩
          · simp only [Bool.eq_false_iff.2 c4, cond_false]
            rw [hv.field.1, spec_top, Option.bind_some]
            obtain ⟨r6, p3, e6, h6, l6, u6⟩ := Dr.pick hx (pos := p2) (n := 4) (by decide) (by omega) (by omega)
            obtain ⟨z, ez, _⟩ := idx_ok (xs := [t.Lo, t.Hi, imax 0 (W (t.Lo - 1)), imin (topOf t.Field.toNat) (W (t.Hi + 1))]) h6 rfl
            rw [e6, Option.bind_some]
            simp only [ez, Option.bind_some]
            by_cases f0 : (((t.Field.toNat : Nat) : Int) == 0) = true
            · simp only [f0, cond_true]; exact ⟨_, rfl, (fin p3 z b c d (by omega) (by omega)).1, (fin p3 z b c d (by omega) (by omega)).2⟩
            · simp only [Bool.eq_false_iff.2 f0, cond_false]
              by_cases f1 : (((t.Field.toNat : Nat) : Int) == 1) = true
              · simp only [f1, cond_true]; exact ⟨_, rfl, (fin p3 a z c d (by omega) (by omega)).1, (fin p3 a z c d (by omega) (by omega)).2⟩
              · simp only [Bool.eq_false_iff.2 f1, cond_false]
                by_cases f2 : (((t.Field.toNat : Nat) : Int) == 2) = true
                · simp only [f2, cond_true]; exact ⟨_, rfl, (fin p3 a b z d (by omega) (by omega)).1, (fin p3 a b z d (by omega) (by omega)).2⟩
                · simp only [Bool.eq_false_iff.2 f2, cond_false]; exact ⟨_, rfl, (fin p3 a b c z (by omega) (by omega)).1, (fin p3 a b c z (by omega) (by omega)).2⟩)
    ((((ts.length : Int)) : Int) - 0).toNat.succ (0, p, q.From, q.To, q.Port, q.Proto) ⟨0, rfl, Nat.zero_le _, by simp, by simp⟩ (by simp)
  refine ⟨⟨a, b, c, d⟩, p', ?_, trivial, l, by simp only at u ⊢; omega⟩
  rw [ho]; rfl
def Sp (top : Int) (s : Span) : Prop := 0 ≤ s.Lo ∧ s.Lo ≤ s.Hi ∧ s.Hi ≤ top
theorem imin_cases (a b : Int) : (imin a b = a ∧ a ≤ b) ∨ (imin a b = b ∧ b < a) := by unfold imin; split <;> omega
theorem dr_span {xs : List Int} (hx : Bytes xs) {top : Int} (h0 : 0 ≤ top) (h1 : top ≤ 65535) (pos : Int) : Dr (spec_l20Span xs pos top 0) pos 7 (Sp top) := by
  have hodd : ∀ p, spec_l20Rd_odd xs p 0 = some (false, p) := fun _ => rfl
  have fin : ∀ {lo d : Int}, 0 ≤ lo → lo ≤ top → 0 ≤ d → d ≤ 5000 → Sp top ⟨lo, imin top (W (lo + d))⟩ := by
    intro lo d a b c e
    rw [W_of (by omega) (by omega)]
    refine ⟨a, le_imin.2 ⟨b, ?_⟩, imin_le.2 (.inl (Int.le_refl _))⟩
    show lo ≤ lo + d
    omega
  have pick4 : ∀ {x4 x5 i x : Int}, 0 ≤ x4 ∧ x4 < 4 → 0 ≤ x5 ∧ x5 < 256 → x ∈ [0, x4, x5, 4096] → 0 ≤ x ∧ x ≤ 5000 := by
    intro x4 x5 i x a b hm
    simp only [List.mem_cons, List.not_mem_nil, or_false] at hm
    omega
  unfold spec_l20Span
  have hn : 1 ≤ imin 256 (W (top + 1)) := by rw [W_of (by omega) (by omega)]; exact le_imin.2 ⟨by omega, by omega⟩
  have hm : imin 256 (W (top + 1)) ≤ top + 1 := by rw [W_of (by omega) (by omega)]; exact imin_le.2 (.inr (Int.le_refl _))
  have hm2 : imin 256 (W (top + 1)) ≤ 256 := imin_le.2 (.inl (Int.le_refl _))
  refine Dr.bind (Dr.pick hx hn) (by decide) fun x1 p1 a1 => ?_
  simp only [hodd, Option.bind_some, cond_false]
  refine Dr.ite (fun ht => ?_) (fun _ => ?_)
  · refine Dr.bind (Dr.pick hx (by decide)) (by decide) fun x2 p2 a2 => ?_
    refine Dr.ite (fun _ => ?_) (fun _ => ?_)
    · refine Dr.bind (Dr.pick hx (by decide)) (by decide) fun x3 p3 a3 => ?_
      refine Dr.bind (Dr.pick hx (by decide)) (by decide) fun x4 p4 a4 => ?_
      refine Dr.bind (Dr.pick hx (by decide)) (by decide) fun x5 p5 a5 => ?_
      refine Dr.bind (Dr.pick hx (by decide)) (by decide) fun x6 p6 a6 => ?_
      refine Dr.pure (idx_ok a6 rfl) fun x7 a7 => ?_
      have b7 := pick4 (i := 0) a4 a5 a7
      have e : W (W (x1 * 256) + x3) = x1 * 256 + x3 := by rw [W_of (x := x1 * 256) (by omega) (by omega), W_of (by omega) (by omega)]
      refine Dr.some ?_ (by decide)
      simp only [e]
      have c := imin_cases top (x1 * 256 + x3)
      exact fin (by omega) (by omega) b7.1 b7.2
    · refine Dr.bind (Dr.pick hx (by decide)) (by decide) fun x4 p4 a4 => ?_
      refine Dr.bind (Dr.pick hx (by decide)) (by decide) fun x5 p5 a5 => ?_
      refine Dr.bind (Dr.pick hx (by decide)) (by decide) fun x6 p6 a6 => ?_
      refine Dr.pure (idx_ok a6 rfl) fun x7 a7 => ?_
      have b7 := pick4 (i := 0) a4 a5 a7
      exact Dr.some (fin a1.1 (by omega) b7.1 b7.2) (by decide)
  · refine Dr.bind (Dr.pick hx (by decide)) (by decide) fun x4 p4 a4 => ?_
    refine Dr.bind (Dr.pick hx (by decide)) (by decide) fun x5 p5 a5 => ?_
    refine Dr.bind (Dr.pick hx (by decide)) (by decide) fun x6 p6 a6 => ?_
    refine Dr.pure (idx_ok a6 rfl) fun x7 a7 => ?_
    have b7 := pick4 (i := 0) a4 a5 a7
    exact Dr.some (fin a1.1 (by omega) b7.1 b7.2) (by decide)
theorem test_tail {xs : List Int} (hx : Bytes xs) {pos n : Int} {f : Nat} {no : Bool} {s : Span} (hf : f < 4) (hs : Sp (topOf f) s) {C : Int} (hC : 3 ≤ C) :
    Dr ((spec_l20Rd_odd xs pos n).bind fun x11 => bif x11.1 then (spec_l20Rd_pick xs x11.2 3).bind fun x12 => bif (x12.1 == 0) then (spec_l20Rd_pick xs x12.2 2).bind fun x13 => (idx [(-1), 4] x13.1).bind fun x14 => some (({ Field := x14, Lo := s.Lo, Hi := s.Hi, Not := no } : Test), x13.2)
      else bif (x12.1 == 1) then some (({ Field := (f : Int), Lo := (W (s.Hi + 1)), Hi := s.Hi, Not := no } : Test), x12.2) else some (({ Field := (f : Int), Lo := s.Lo, Hi := (W (topOf f + 1)), Not := no } : Test), x12.2)
      else some (({ Field := (f : Int), Lo := s.Lo, Hi := s.Hi, Not := no } : Test), x11.2)) pos C (fun t => n ≤ 0 → TV t) := by
  refine Dr.bind (Dr.odd hx) ⟨by decide, by omega⟩ fun x11 p11 a11 => ?_
  refine Dr.ite (fun h => ?_) (fun h => ?_)
  · have no' : ∀ t : Test, n ≤ 0 → TV t := fun t hn => by have := a11 hn; simp only at h; rw [h] at this; cases this
    refine Dr.bind (Dr.pick hx (by decide)) ⟨by decide, by omega⟩ fun x12 p12 a12 => ?_
    refine Dr.ite (fun _ => ?_) (fun _ => Dr.ite (fun _ => Dr.some (no' _) (by omega)) (fun _ => Dr.some (no' _) (by omega)))
    refine Dr.bind (Dr.pick hx (by decide)) ⟨by decide, by omega⟩ fun x13 p13 a13 => ?_
    exact Dr.pure (idx_ok a13 rfl) fun x14 _ => Dr.some (no' _) (by omega)
  · exact Dr.some (fun _ => ⟨⟨by simp only; omega, by simp only; omega⟩, ⟨hs.1, hs.2.1⟩, by simp only [Int.toNat_natCast]; exact hs.2.2⟩) (by omega)
theorem dr_test {xs : List Int} (hx : Bytes xs) (pos n : Int) : Dr (spec_l20Test xs pos n) pos 20 (fun t => n ≤ 0 → TV t) := by
  unfold spec_l20Test
  refine Dr.bind (Dr.pick hx (by decide)) (by decide) fun x1 p1 a1 => ?_
  refine Dr.bind (Dr.pick hx (by decide)) (by decide) fun x2 p2 a2 => ?_
  obtain ⟨f, rfl⟩ := Int.eq_ofNat_of_zero_le a1.1
  have hf : f < 4 := by omega
  have ht := top_pos hf
  simp only [spec_top, Option.bind_some]
  have sub : ∀ {s0 s : Span}, Sp (topOf f) s0 → s ∈ [(⟨0, topOf f⟩ : Span), ⟨0, s0.Hi⟩, ⟨s0.Lo, topOf f⟩] → Sp (topOf f) s := by
    intro s0 s h0 hm
    simp only [List.mem_cons, List.not_mem_nil, or_false] at hm
    unfold Sp at h0 ⊢
    rcases hm with rfl | rfl | rfl <;> simp only <;> omega
  refine Dr.bind (dr_span hx ht.1 ht.2 p2) (by decide) fun x4 p4 a4 => ?_
  refine Dr.ite (fun hlt => ?_) (fun _ => ?_)
  · have hlt := of_decide_eq_true hlt
    have htop : topOf f = 65535 := by
      match f, hlt with
      | 0, _ => rfl
      | 1, _ => rfl
    refine Dr.bind (Dr.pick hx (by decide)) (by decide) fun x5 p5 a5 => ?_
    refine Dr.ite (fun _ => ?_) (fun _ => ?_)
    · refine Dr.bind (Dr.pick hx (by decide)) (by decide) fun x6 p6 a6 => ?_
      refine Dr.bind (Dr.pick hx (by decide)) (by decide) fun x7 p7 a7 => ?_
      refine Dr.bind (Dr.pick hx (by decide)) (by decide) fun x8 p8 a8 => ?_
      have hw : W (x6 + x7) = x6 + x7 := W_of (by omega) (by omega)
      have hs : Sp (topOf f) ⟨x6, W (x6 + x7)⟩ := by rw [hw, htop]; exact ⟨a6.1, by simp only; omega, by simp only; omega⟩
      refine Dr.ite (fun _ => ?_) (fun _ => ?_)
      · refine Dr.bind (Dr.pick hx (by decide)) (by decide) fun x9 p9 a9 => ?_
        exact Dr.pure (idx_ok a9 rfl) fun x10 h10 => test_tail hx (s := x10) hf (sub hs h10) (by decide)
      · exact test_tail hx (s := ⟨x6, W (x6 + x7)⟩) hf hs (by decide)
    · refine Dr.bind (Dr.pick hx (by decide)) (by decide) fun x8 p8 a8 => ?_
      refine Dr.ite (fun _ => ?_) (fun _ => ?_)
      · refine Dr.bind (Dr.pick hx (by decide)) (by decide) fun x9 p9 a9 => ?_
        exact Dr.pure (idx_ok a9 rfl) fun x10 h10 => test_tail hx (s := x10) hf (sub a4 h10) (by decide)
      · exact test_tail hx (s := x4) hf a4 (by decide)
  · refine Dr.bind (Dr.pick hx (by decide)) (by decide) fun x8 p8 a8 => ?_
    refine Dr.ite (fun _ => ?_) (fun _ => ?_)
    · refine Dr.bind (Dr.pick hx (by decide)) (by decide) fun x9 p9 a9 => ?_
      exact Dr.pure (idx_ok a9 rfl) fun x10 h10 => test_tail hx (s := x10) hf (sub a4 h10) (by decide)
    · exact test_tail hx (s := x4) hf a4 (by decide)
theorem dr_tests {xs : List Int} (hx : Bytes xs) (pos n : Int) : Dr (spec_l20Tests xs pos n) pos 110 (fun ts => ts.length ≤ 7 ∧ (n ≤ 0 → TsV ts ∧ ts.length ≤ 3)) := by
  unfold spec_l20Tests
  refine Dr.bind (Dr.pick hx (by decide)) (by decide) fun x1 p1 a1 => ?_
  refine Dr.list (N := 4) (c := 20) (Q := TV) a1 (by decide) (by decide) (by decide) (fun p => (dr_test hx p 0).weak fun t h => h (Int.le_refl _)) (fun _ _ _ => rfl) fun y p hy hl => ?_
  refine Dr.bind (Dr.odd hx) (by decide) fun x3 p3 a3 => ?_
  refine Dr.ite (fun h => ?_) (fun h => ?_)
  · have no' : ∀ ts : List Test, n ≤ 0 → TsV ts ∧ ts.length ≤ 3 := fun t hn => by have := a3 hn; simp only at h; rw [h] at this; cases this
    refine Dr.bind (Dr.pick hx (by decide)) (by decide) fun x4 p4 a4 => ?_
    refine Dr.ite (fun _ => ?_) (fun _ => ?_)
    · refine Dr.bind (dr_test hx _ 1) (by decide) fun x5 p5 a5 => ?_
      rw [app_ok (by simp; omega)]
      exact Dr.some ⟨by simp; omega, no' _⟩ (by decide)
    · exact Dr.some ⟨by simp, no' _⟩ (by decide)
  · exact Dr.some ⟨by omega, fun _ => ⟨⟨hy, by omega⟩, by omega⟩⟩ (by decide)
theorem dr_rule {xs : List Int} (hx : Bytes xs) (pos first chains n : Int) (hb : -1000 ≤ first ∧ chains ≤ 1000) : Dr (spec_l20Rule xs pos first chains n) pos 230 (fun r => r.Tests.length ≤ 7) := by
  unfold spec_l20Rule
  refine Dr.bind (dr_tests hx _ 0) (by decide) fun x1 p1 a1 => ?_
  have l1 := a1.1
  refine Dr.bind (Dr.pick hx (by decide)) (by decide) fun x2 p2 a2 => ?_
  refine Dr.pure (idx_ok a2 rfl) fun x3 _ => ?_
  refine Dr.ite (fun _ => Dr.ite (fun _ => ?_) (fun hc => ?_)) (fun _ => ?_)
  · repeat' first
      | exact Dr.some l1 (by decide)
      | refine Dr.bind (Dr.pick hx (by decide)) (by decide) fun a p h => ?_
      | refine Dr.bind (Dr.odd hx) (by decide) fun a p h => ?_
      | refine Dr.bind (dr_tests hx _ 1) (by decide) fun a p h => Dr.some h.1 (by decide)
      | refine Dr.ite (fun _ => ?_) (fun _ => ?_)
      | refine Dr.pure (idx_ok (by assumption) rfl) fun x _ => ?_
  · have hc := of_decide_eq_false hc
    refine Dr.bind (Dr.pick hx (by
      by_cases h : chains - first ≤ 9223372036854775807
      · rw [W_of (by omega) h]; omega
      · omega)) (by decide) fun x11 p11 a11 => ?_
    repeat' first
      | exact Dr.some l1 (by decide)
      | refine Dr.bind (Dr.pick hx (by decide)) (by decide) fun a p h => ?_
      | refine Dr.bind (Dr.odd hx) (by decide) fun a p h => ?_
      | refine Dr.bind (dr_tests hx _ 1) (by decide) fun a p h => Dr.some h.1 (by decide)
      | refine Dr.ite (fun _ => ?_) (fun _ => ?_)
      | refine Dr.pure (idx_ok (by assumption) rfl) fun x _ => ?_
  · repeat' first
      | exact Dr.some l1 (by decide)
      | refine Dr.bind (Dr.pick hx (by decide)) (by decide) fun a p h => ?_
      | refine Dr.bind (Dr.odd hx) (by decide) fun a p h => ?_
      | refine Dr.bind (dr_tests hx _ 1) (by decide) fun a p h => Dr.some h.1 (by decide)
      | refine Dr.ite (fun _ => ?_) (fun _ => ?_)
      | refine Dr.pure (idx_ok (by assumption) rfl) fun x _ => ?_
/-- Rules of a draw. -/
def RulesSm (rs : List Rule) : Prop := rs.length ≤ 10 ∧ ∀ r ∈ rs, r.Tests.length ≤ 7
theorem dr_rules {xs : List Int} (hx : Bytes xs) (pos first chains n : Int) (hb : -1000 ≤ first ∧ chains ≤ 1000) : Dr (spec_l20Rules xs pos first chains n) pos 1400 RulesSm := by
  unfold spec_l20Rules
  refine Dr.bind (Dr.pick hx (by decide)) (by decide) fun x1 p1 a1 => ?_
  refine Dr.list (N := 5) (c := 230) (Q := fun r => r.Tests.length ≤ 7) a1 (by decide) (by decide) (by decide) (fun p => dr_rule hx p _ _ 0 hb) (fun _ _ _ => rfl) fun y p hy hl => ?_
  refine Dr.bind (Dr.odd hx) (by decide) fun x3 p3 _ => ?_
  refine Dr.ite (fun _ => ?_) (fun _ => Dr.some ⟨by omega, hy⟩ (by decide))
  refine Dr.bind (Dr.pick hx (by decide)) (by decide) fun x4 p4 a4 => ?_
  refine Dr.ite (fun _ => ?_) (fun _ => ?_)
  · refine Dr.bind (dr_rule hx _ _ _ 1 hb) (by decide) fun x5 p5 a5 => ?_
    rw [app_ok (by simp; omega)]
    refine Dr.some ⟨by simp; omega, fun r hr => ?_⟩ (by decide)
    rcases List.mem_append.1 hr with hr | hr
    · exact hy r hr
    · rw [List.mem_singleton.1 hr]; exact a5
  · obtain ⟨o, ho, z, rfl, hz1, hz2⟩ := loop_wf (body := spec_l20Rules_L1) (fun y => y.length ≤ 9 ∧ ∀ r ∈ y, r.Tests.length ≤ 7) (fun y => 9 - y.length) (fun o => ∃ y, o = .brk y ∧ y.length ≤ 9 ∧ ∀ r ∈ y, r.Tests.length ≤ 7)
      (fun y ⟨h1, h2⟩ => by
        unfold spec_l20Rules_L1
        by_cases h : (y.length : Int) ≤ 8
        · rw [le_true h, cond_true, app_ok (by simp; omega)]
          refine .inl ⟨_, rfl, ⟨by simp; omega, fun r hr => ?_⟩, by simp; omega⟩
          rcases List.mem_append.1 hr with hr | hr
          · exact h2 r hr
          · rw [List.mem_singleton.1 hr]; simp
        · rw [decide_eq_false h, cond_false]
          exact .inr (.inl ⟨_, rfl, _, rfl, h1, h2⟩)) 10 y ⟨by omega, hy⟩ (by omega)
    rw [ho]
    exact Dr.some ⟨by omega, hz2⟩ (by decide)
/-- A box of a draw. -/
def OkB (b : Box) : Prop := b.Sides.length ≤ 5 ∧ ∀ x ∈ b.Sides, x.length ≤ 40
theorem OkB.ok {b : Box} (h : OkB b) : OkBox b := ⟨by have := h.1; omega, fun x hx => by have := h.2 x hx; omega⟩
theorem OkB.of {s : List (List Span)} (h : B4 s) (hf : Few s) : OkB ⟨s⟩ := ⟨by show s.length ≤ 5; rw [h.1]; decide, fun x hx => by
  obtain ⟨i, hi, rfl⟩ := List.getElem_of_mem hx
  have h4 : i < 4 := by have := h.1; simp only at hi; omega
  have := sd_get h.1 h4
  rw [List.getElem?_eq_getElem hi] at this
  rw [Option.some.inj this]
  exact hf i h4⟩
theorem Few.set {s : List (List Span)} (hl : s.length = 4) (h : Few s) {k : Nat} (hk : k < 4) {x : List Span} (hx : x.length ≤ 40) : Few (s.set k x) := fun j hj => by
  rw [sd_set hl hk]
  split
  · exact hx
  · exact h j hj
end Go.PF.F

/- Plain laws: laws of drawn arguments: boxes, rules. -/
namespace Go.PF.F
open Go Go.PF

theorem alive_is : laws_alive = some true := rfl
theorem draw_guard {c : Prop} [Decidable c] {k : Option Bool} (h : ¬ c → k = some true) : (bif decide c then some true else k) = some true := by
  by_cases hc : c
  · rw [decide_eq_true hc]; rfl
  · rw [decide_eq_false hc]; exact h hc
/-! Rules. -/
theorem RulesSm.ok {rs : List Rule} (h : RulesSm rs) : rs.length ≤ 9223372036854775807 ∧ ∀ r ∈ rs, r.Tests.length ≤ 9223372036854775807 := ⟨by have := h.1; omega, fun r hr => by have := h.2 r hr; omega⟩
/-! First fits. -/
end Go.PF.F

/- Plain laws: draws of rulesets. -/
namespace Go.PF.F
open Go Go.PF

/-- A ruleset of a draw. -/
def RsSm (s : Ruleset) : Prop := s.Chains.length ≤ 3 ∧ ∀ rs ∈ s.Chains, rs.length ≤ 11 ∧ ∀ r ∈ rs, r.Tests.length ≤ 7
theorem RsSm.ok {s : Ruleset} (h : RsSm s) : OkRs s := ⟨by have := h.1; omega, fun rs hrs => ⟨by have := (h.2 rs hrs).1; omega, fun r hr => by have := (h.2 rs hrs).2 r hr; omega⟩⟩
theorem RulesSm.w {rs : List Rule} (h : RulesSm rs) : rs.length ≤ 11 ∧ ∀ r ∈ rs, r.Tests.length ≤ 7 := ⟨by have := h.1; omega, h.2⟩
/-- A loop of draws that counts up. -/
theorem draw_upto {β ρ : Type} {gen : Int → Int → Option (β × Int)} {body : Int × Int × List β → Option (SR (Int × Int × List β) ρ)} {c : Int} {m : Nat} {Q : β → Prop} (hc : 0 ≤ c) (hm : m ≤ 1000) (hg : ∀ (k : Nat) p, k < m → Dr (gen (k : Int) p) p c Q)
    (hb : ∀ k p y, body (k, p, y) = bif (decide (k < (m : Int))) then (gen k p).bind fun x => (appF y [x.1]).bind fun z => some (.nxt (W (k + 1), x.2, z)) else some (.brk (k, p, y))) :
    ∀ (j k : Nat) (y : List β) (p : Int), k + j = m → y.length + j ≤ 1000000 → (∀ x ∈ y, Q x) → 0 ≤ p → p + j * c ≤ 1000000 →
      ∃ y' p', loopF body j.succ ((k : Int), p, y) = some (.brk ((m : Int), p', y')) ∧ (∀ x ∈ y', Q x) ∧ y'.length = y.length + j ∧ p ≤ p' ∧ p' ≤ p + j * c := by
  intro j
  induction j with
  | zero =>
    intro k y p hk _ hq h0 _
    have hkm : k = m := by omega
    subst hkm
    refine ⟨y, p, ?_, hq, rfl, Int.le_refl _, by omega⟩
    unfold loopF
    rw [hb, lt_false (by omega)]; rfl
  | succ j ih =>
    intro k y p hk hl hq h0 h1
    have e : ((j + 1 : Nat) : Int) * c = j * c + c := by rw [Int.natCast_add, Int.add_mul]; omega
    rw [e] at h1 ⊢
    have hnc : 0 ≤ (j : Int) * c := Int.mul_nonneg (by omega) hc
    obtain ⟨x, p1, ex, hx, l, u⟩ := hg k p (by omega) h0 (by omega)
    obtain ⟨y', p', e', hq', hl', l', u'⟩ := ih (k + 1) (y ++ [x]) p1 (by omega) (by simp; omega) (fun z hz => by
      rcases List.mem_append.1 hz with hz | hz
      · exact hq z hz
      · rw [List.mem_singleton.1 hz]; exact hx) (by omega) (by omega)
    refine ⟨y', p', ?_, hq', by rw [hl']; simp; omega, by omega, by omega⟩
    unfold loopF
    rw [hb, lt_true (by omega), cond_true, ex, Option.bind_some, app_ok (by simp; omega), Option.bind_some, W_succ (by omega)]
    exact e'
theorem set_sm {y : List (List Rule)} (hy : ∀ rs ∈ y, rs.length ≤ 11 ∧ ∀ r ∈ rs, r.Tests.length ≤ 7) {z : List Rule} (hz : z.length ≤ 11 ∧ ∀ r ∈ z, r.Tests.length ≤ 7) (i : Nat) : ∀ rs ∈ y.set i z, rs.length ≤ 11 ∧ ∀ r ∈ rs, r.Tests.length ≤ 7 := fun rs hrs => by
  rcases List.mem_or_eq_of_mem_set hrs with h | rfl
  · exact hy rs h
  · exact hz
theorem dr_ruleset {xs : List Int} (hx : Bytes xs) (pos n : Int) : Dr (spec_l20Ruleset xs pos n) pos 5700 RsSm := by
  unfold spec_l20Ruleset
  refine Dr.bind (Dr.pick hx (by decide)) (by decide) fun x1 p1 a1 => ?_
  refine Dr.bind (Dr.pick hx (by decide)) (by decide) fun x2 p2 a2 => ?_
  obtain ⟨m, hm⟩ := Int.eq_ofNat_of_zero_le (show (0 : Int) ≤ 1 + x2 by omega)
  have hW : W (1 + (x2, p2).1) = (m : Int) := by rw [← hm]; exact W_of (by omega) (by omega)
  intro h0 h1
  have hm3 : m ≤ 3 := by omega
  obtain ⟨y, p, e, hy, hl, l, u⟩ := draw_upto (body := spec_l20Ruleset_L0 xs (x2, p2)) (gen := fun k p => spec_l20Rules xs p (W (k + 1)) (m : Int) 0) (c := 1400) (m := m) (Q := RulesSm) (by decide) (by omega)
    (fun k p hk => dr_rules hx _ _ _ _ (by rw [W_succ (by omega)]; omega)) (fun k p y => by unfold spec_l20Ruleset_L0; rw [hW]) m 0 [] p2 (by omega) (by simp; omega) (by simp) h0 (by omega)
  have hsm : ∀ rs ∈ y, rs.length ≤ 11 ∧ ∀ r ∈ rs, r.Tests.length ≤ 7 := fun rs hrs => (hy rs hrs).w
  rw [List.length_nil, Nat.zero_add] at hl
  have e' : loopF (spec_l20Ruleset_L0 xs (x2, p2)) (W (1 + (x2, p2).1) - 0).toNat.succ (0, p2, ([] : List (List Rule))) = some (.brk ((m : Int), p, y)) := by
    rw [hW, Int.sub_zero, Int.toNat_natCast]; exact e
  rw [e', Option.bind_some]
  simp only [LR.on, hW]
  have hpos : 1 ≤ m := by omega
  obtain ⟨y0, hy0⟩ : ∃ y0, idx y 0 = some y0 := ⟨_, idx_get (k := 0) (show 0 < y.length by omega)⟩
  have hy0m : y0 ∈ y := by
    have : y[0]? = some y0 := hy0
    exact List.mem_of_getElem? this
  have hlast : ∃ z, idx y (W ((m : Int) - 1)) = some z := by
    rw [W_of (by omega) (by omega)]
    obtain ⟨z, hz, _⟩ := idx_ok (xs := y) (i := (m : Int) - 1) (n := y.length) (by omega) rfl
    exact ⟨z, hz⟩
  obtain ⟨zl, hzl⟩ := hlast
  have key : Dr ((spec_l20Rd_odd xs p n).bind fun x4 =>
  bif x4.1 then
  (spec_l20Rd_pick xs x4.2 4).bind fun x5 =>
  bif (x5.1 == 0) then
  some (({ Chains := ([] : List (List Rule)), Accept := (x1 == 0) } : Ruleset), x5.2)
  else
  bif (x5.1 == 1) then
  (idx y 0).bind fun x6 =>
  (spec_l20Rd_pick xs x5.2 2).bind fun x7 =>
  (idx [0, (m : Int)] x7.1).bind fun x8 =>
  (appF x6 [({ Tests := ([] : List Test), Action := 3, Chain := x8 } : Rule)]).bind fun z2 =>
  some (({ Chains := (List.set y (0 : Int).toNat z2), Accept := (x1 == 0) } : Ruleset), x7.2)
  else
  bif (x5.1 == 2) then
  (idx y (W ((m : Int) - 1))).bind fun _x9 =>
  (idx (List.set y (W ((m : Int) - 1)).toNat [({ Tests := ([] : List Test), Action := 3, Chain := 0 } : Rule)]) 0).bind fun _x10 =>
  some (({ Chains := (List.set (List.set y (W ((m : Int) - 1)).toNat [({ Tests := ([] : List Test), Action := 3, Chain := 0 } : Rule)]) (0 : Int).toNat [({ Tests := ([] : List Test), Action := 3, Chain := (W ((m : Int) - 1)) } : Rule)]), Accept := (x1 == 0) } : Ruleset), x5.2)
  else
  (spec_l20Rules xs x5.2 1 (m : Int) 1).bind fun x11 =>
  (idx y 0).bind fun _x12 =>
  some (({ Chains := (List.set y (0 : Int).toNat x11.1), Accept := (x1 == 0) } : Ruleset), x11.2)
  else
  some (({ Chains := y, Accept := (x1 == 0) } : Ruleset), x4.2)) p 1410 RsSm := by
    have one : ∀ c : Int, ([({ Tests := ([] : List Test), Action := 3, Chain := c } : Rule)]).length ≤ 11 ∧ ∀ r ∈ [({ Tests := ([] : List Test), Action := 3, Chain := c } : Rule)], r.Tests.length ≤ 7 := fun c => ⟨by simp, fun r hr => by rw [List.mem_singleton.1 hr]; exact Nat.zero_le _⟩
    refine Dr.bind (Dr.odd hx) (by decide) fun x4 p4 _ => ?_
    refine Dr.ite (fun _ => ?_) (fun _ => Dr.some ⟨by simp only; omega, hsm⟩ (by decide))
    refine Dr.bind (Dr.pick hx (by decide)) (by decide) fun x5 p5 a5 => ?_
    refine Dr.ite (fun _ => Dr.some ⟨by simp, by simp⟩ (by decide)) (fun _ => ?_)
    refine Dr.ite (fun _ => ?_) (fun _ => Dr.ite (fun _ => ?_) (fun _ => ?_))
    · refine Dr.pure (R := fun z => z = y0) ⟨_, hy0, rfl⟩ fun z ez => ?_
      subst ez
      have hz := hsm z hy0m
      have hz10 := (hy z hy0m).1
      refine Dr.bind (Dr.pick hx (by decide)) (by decide) fun x7 p7 a7 => ?_
      refine Dr.pure (idx_ok a7 rfl) fun x8 _ => ?_
      rw [app_ok (by simp; omega)]
      refine Dr.some ⟨by simp only [List.length_set]; omega, set_sm hsm ⟨by simp; omega, fun r hr => ?_⟩ _⟩ (by decide)
      rcases List.mem_append.1 hr with hr | hr
      · exact hz.2 r hr
      · rw [List.mem_singleton.1 hr]; exact Nat.zero_le _
    · refine Dr.pure (R := fun _ => True) ⟨_, hzl, trivial⟩ fun _ _ => ?_
      refine Dr.pure (R := fun _ => True) (idx_ok (xs := List.set y (W ((m : Int) - 1)).toNat [({ Tests := ([] : List Test), Action := 3, Chain := 0 } : Rule)]) (i := 0) (n := y.length) (by omega) (by rw [List.length_set]) |>.imp fun _ h => ⟨h.1, trivial⟩) fun _ _ => ?_
      exact Dr.some ⟨by simp only [List.length_set]; omega, set_sm (set_sm hsm (one 0) _) (one _) _⟩ (by decide)
    · refine Dr.bind (dr_rules hx _ _ _ _ (by omega)) (by decide) fun x11 p11 a11 => ?_
      refine Dr.pure (R := fun _ => True) ⟨_, hy0, trivial⟩ fun _ _ => ?_
      exact Dr.some ⟨by simp only [List.length_set]; omega, set_sm hsm a11.w _⟩ (by decide)
  obtain ⟨r, p', er, hr, l', u'⟩ := key (by omega) (by omega)
  exact ⟨r, p', er, hr, by omega, by omega⟩
theorem dr_case {xs : List Int} (hx : Bytes xs) {pos n : Int} (h0 : 0 ≤ pos) (h1 : pos + 7000 ≤ 1000000) : ∃ (s : Ruleset) (q : Packet) (p : Int), spec_l20Case xs pos n = some (s, q, p) ∧ RsSm s := by
  unfold spec_l20Case
  obtain ⟨s, p, e, hs, l, u⟩ := dr_ruleset hx pos n h0 (by omega)
  rw [e, Option.bind_some]
  obtain ⟨o, ho, ⟨y, k, q⟩, rfl, hyl, lq, uq⟩ := loop_wf (body := spec_l20Case_L0 xs (s, p))
    (fun st => ∃ k : Nat, st.2.1 = (k : Int) ∧ k ≤ s.Chains.length ∧ st.1.length ≤ 80 * k ∧ p ≤ st.2.2 ∧ st.2.2 ≤ p + 11 * k) (fun st => s.Chains.length - st.2.1.toNat)
    (fun o => ∃ st : List Test × Int × Int, o = .brk st ∧ st.1.length ≤ 240 ∧ p ≤ st.2.2 ∧ st.2.2 ≤ p + 33)
    (fun st ⟨k, e1, hk, hl, l1, u1⟩ => by
      obtain ⟨y, i, q⟩ := st
      simp only at e1 hl l1 u1
      subst e1
      have hs1 := hs.1
      unfold spec_l20Case_L0
      rcases drop_cases s.Chains k hk with ⟨e, rfl⟩ | ⟨rs, _, e, hk', ht, _⟩
      · exact .inr (.inl ⟨_, by simp only [lt_false (Int.le_refl _), cond_false]; rfl, _, rfl, by simp only; omega, l1, by simp only; omega⟩)
      · refine .inl ?_
        have hm := hs.2 rs (List.mem_of_getElem? (by rw [idx_nat] at ht; exact ht))
        obtain ⟨o, ho, ⟨y2, i2, q2⟩, rfl, hl2, l2, u2⟩ := loop_wf (body := spec_l20Case_L1 xs (s, p) (k : Int))
          (fun st => ∃ j : Nat, st.2.1 = (j : Int) ∧ j ≤ rs.length ∧ st.1.length ≤ 80 * k + 7 * j ∧ q ≤ st.2.2 ∧ st.2.2 ≤ q + j) (fun st => rs.length - st.2.1.toNat)
          (fun o => ∃ st : List Test × Int × Int, o = .brk st ∧ st.1.length ≤ 80 * k + 77 ∧ q ≤ st.2.2 ∧ st.2.2 ≤ q + 11)
          (fun st ⟨j, e1, hj, hl, l3, u3⟩ => by
            obtain ⟨y3, i3, q3⟩ := st
            simp only at e1 hl l3 u3
            subst e1
            have hm1 := hm.1
            unfold spec_l20Case_L1
            simp only [ht, Option.bind_some]
            rcases drop_cases rs j hj with ⟨e, rfl⟩ | ⟨t, _, e, hj', htj, _⟩
            · exact .inr (.inl ⟨_, by simp only [lt_false (Int.le_refl _), cond_false]; rfl, _, rfl, by simp only; omega, l3, by simp only; omega⟩)
            · refine .inl ?_
              simp only [lt_true (show (j : Int) < (rs.length : Int) by omega), cond_true, W_succ (show j < 9223372036854775807 by omega)]
              obtain ⟨r3, p3, e3, _, l4, u4⟩ := Dr.pick hx (pos := q3) (n := 3) (by decide) (by omega) (by omega)
              have ht' := hm.2 t (List.mem_of_getElem? (by rw [idx_nat] at htj; exact htj))
              rw [e3, Option.bind_some]
              by_cases c : (r3 == 0) = true
              · simp only [c, cond_true, htj, Option.bind_some, app_ok (show y3.length + t.Tests.length ≤ 4294967296 by omega)]
                exact ⟨_, rfl, ⟨j + 1, rfl, hj', by simp; omega, by simp only; omega, by simp only; omega⟩, by simp only [Int.toNat_natCast]; omega⟩
              · simp only [Bool.eq_false_iff.2 c, cond_false]
                exact ⟨_, rfl, ⟨j + 1, rfl, hj', by simp only; omega, by simp only; omega, by simp only; omega⟩, by simp only [Int.toNat_natCast]; omega⟩)
          ((((rs.length : Int)) : Int) - 0).toNat.succ (y, 0, q) ⟨0, rfl, Nat.zero_le _, by simp only; omega, by simp, by simp⟩ (by simp)
        simp only at hl2 l2 u2
        simp only [lt_true (show (k : Int) < (s.Chains.length : Int) by omega), cond_true, ht, Option.getD_some, ho, Option.bind_some, LR.on, W_succ (show k < 9223372036854775807 by omega)]
        exact ⟨_, rfl, ⟨k + 1, rfl, hk', by simp only; omega, by simp only; omega, by simp only; omega⟩, by simp only [Int.toNat_natCast]; omega⟩)
    ((((s.Chains.length : Int)) : Int) - 0).toNat.succ (([] : List Test), 0, p) ⟨0, rfl, Nat.zero_le _, by simp, by simp, by simp⟩ (by simp)
  simp only at hyl lq uq
  simp only [ho, Option.bind_some, LR.on]
  obtain ⟨v, p5, e5, _, _, _⟩ := dr_near hx (ts := y) (by omega) q n (by omega) (by omega)
  rw [e5, Option.bind_some]
  exact ⟨s, v, p5, rfl, hs⟩
theorem draw_case {code : List Int} (h : GAll GU8 code) : ∃ (s : Ruleset) (q : Packet), spec_DrawJudge code = some (s, q) ∧ RsSm s := by
  obtain ⟨xs, e0, hx⟩ := open_ok h
  obtain ⟨s, q, p, e, hs⟩ := dr_case hx (pos := 0) (n := 20) (by decide) (by decide)
  refine ⟨s, q, ?_, hs⟩
  unfold spec_DrawJudge
  rw [e0, Option.bind_some]
  simp only [e, Option.bind_some]
end Go.PF.F

/- Plain laws: laws of drawn rulesets. -/
namespace Go.PF.F
open Go Go.PF

/-! Decisions. -/
/-! Traces. -/
/-! A ruleset that is changed. -/
theorem judgeB_wa (s : Ruleset) (p : Packet) : judgeB s p = if wa s.Chains p 5 0 = 1 then true else if wa s.Chains p 5 0 = 2 then false else s.Accept := by
  unfold judgeB; rw [judge_act]
theorem judge_same {s s' : Ruleset} (hs : OkRs s) (hs' : OkRs s') (p : Packet) (hv : RSV s ↔ RSV s') (hj : RSV s → PV p → judgeB s' p = judgeB s p) {r : Bool} (e : impl_Judge s p = some r) : impl_Judge s' p = some r := by
  obtain ⟨a, _, ea, a1, a2⟩ := judge_is hs p
  obtain ⟨b, _, eb, b1, b2⟩ := judge_is hs' p
  rw [ea] at e
  obtain rfl := Option.some.inj e
  rw [eb]
  by_cases h : RSV s ∧ PV p
  · rw [a1 h.1 h.2, b1 (hv.1 h.1) h.2, hj h.1 h.2]
  · rw [a2 h, b2 fun h' => h ⟨hv.2 h'.1, h'.2⟩]
end Go.PF.F

/- Plain laws: called chains, used chains. -/
namespace Go.PF.F
open Go Go.PF

/-! Called chains. -/
/-! Used chains. -/
end Go.PF.F
