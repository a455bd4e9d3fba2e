/- Plain laws of the loops; no program. -/
import Derived.Test.YtbnndochnkkllaaDoorPFTop
namespace Go.PF

theorem W_of {x : Int} (h1 : -9223372036854775808 ≤ x) (h2 : x ≤ 9223372036854775807) : W x = x := by
  unfold W
  simp only [IntKind.wrap, IntKind.signed, IntKind.bits]
  simp
  omega
theorem W_succ {k : Nat} (h : k < 9223372036854775807) : W ((k : Int) + 1) = ((k + 1 : Nat) : Int) := by rw [W_of (by omega) (by omega)]; omega
theorem idx_nat {α : Type} {xs : List α} {k : Nat} : idx xs (k : Int) = xs[k]? := by simp [idx]
theorem idx_get {α : Type} {xs : List α} {k : Nat} (h : k < xs.length) : idx xs (k : Int) = some xs[k] := by rw [idx_nat, List.getElem?_eq_getElem h]

/-- A loop of at most n rounds. -/
theorem loop_gen {σ ρ : Type} {body : σ → Option (SR σ ρ)} (n : Nat) (I : Nat → σ → Prop) (Q : LR σ ρ → Prop)
    (step : ∀ k s, k < n → I k s → (∃ s', body s = some (.nxt s') ∧ I (k + 1) s') ∨ (∃ r, body s = some (.ret r) ∧ Q (.ret r)) ∨ ∃ s', body s = some (.brk s') ∧ Q (.brk s'))
    (stop : ∀ s, I n s → (∃ s', body s = some (.brk s') ∧ Q (.brk s')) ∨ ∃ r, body s = some (.ret r) ∧ Q (.ret r)) :
    ∀ (j k fuel : Nat) (s : σ), k + j = n → j < fuel → I k s → ∃ o, loopF body fuel s = some o ∧ Q o := by
  intro j
  induction j with
  | zero =>
    intro k fuel s hk hf hI
    obtain ⟨m, rfl⟩ : ∃ m, fuel = m + 1 := ⟨fuel - 1, by omega⟩
    obtain rfl : k = n := by omega
    unfold loopF
    rcases stop s hI with ⟨s', hb, hq⟩ | ⟨r, hb, hq⟩
    · exact ⟨.brk s', by rw [hb]; rfl, hq⟩
    · exact ⟨.ret r, by rw [hb]; rfl, hq⟩
  | succ j ih =>
    intro k fuel s hk hf hI
    obtain ⟨m, rfl⟩ : ∃ m, fuel = m + 1 := ⟨fuel - 1, by omega⟩
    unfold loopF
    rcases step k s (by omega) hI with ⟨s', hb, hi⟩ | ⟨r, hb, hq⟩ | ⟨s', hb, hq⟩
    · rw [hb]
      exact ih (k + 1) m s' (by omega) (by omega) hi
    · exact ⟨.ret r, by rw [hb]; rfl, hq⟩
    · exact ⟨.brk s', by rw [hb]; rfl, hq⟩

/-- A counting loop over a list, its counter from 0. -/
theorem loop_idx {σ ρ : Type} {body : σ → Option (SR σ ρ)} (n : Nat) (I : Nat → σ → Prop) (Q : LR σ ρ → Prop) {s : σ} (h0 : I 0 s)
    (step : ∀ k s, k < n → I k s → (∃ s', body s = some (.nxt s') ∧ I (k + 1) s') ∨ (∃ r, body s = some (.ret r) ∧ Q (.ret r)) ∨ ∃ s', body s = some (.brk s') ∧ Q (.brk s'))
    (stop : ∀ s, I n s → (∃ s', body s = some (.brk s') ∧ Q (.brk s')) ∨ ∃ r, body s = some (.ret r) ∧ Q (.ret r)) :
    ∃ o, loopF body (((n : Int)) - 0).toNat.succ s = some o ∧ Q o := loop_gen n I Q step stop n 0 _ s (by omega) (by omega) h0

/-- A loop that copies. -/
theorem loop_copy {α : Type} {ρ : Type} {f : α → Option α} {body : Int × List α → Option (SR (Int × List α) ρ)} (xs ys : List α) (hl : ys.length = xs.length) (hn : xs.length ≤ 9223372036854775807) (hf : ∀ x ∈ xs, f x = some x)
    (hb : ∀ k y, body (k, y) = bif (decide (k < (xs.length : Int))) then (idx xs k).bind fun x1 => (f x1).bind fun x2 => (idx y k).bind fun _ => some (.nxt ((W (k + 1)), (List.set y (k : Int).toNat x2))) else some (.brk (k, y))) :
    loopF body (((xs.length : Int)) - 0).toNat.succ (0, ys) = some (.brk ((xs.length : Int), xs)) := by
  obtain ⟨o, ho, hq⟩ := loop_idx (body := body) xs.length (fun k s => s.1 = (k : Int) ∧ s.2.length = xs.length ∧ s.2.take k = xs.take k) (fun o => o = .brk ((xs.length : Int), xs)) (s := (0, ys)) ⟨rfl, hl, by simp⟩
    (fun k s hk ⟨h1, h2, h3⟩ => by
      obtain ⟨i, y⟩ := s
      simp only at h1 h2 h3
      subst h1
      refine .inl ⟨((k + 1 : Nat), y.set k xs[k]), ?_, by simp, by simpa using h2, ?_⟩
      · have e1 : ((k : Int) < (xs.length : Int)) := by omega
        rw [hb, idx_get hk, decide_eq_true e1]
        simp only [cond_true, Option.bind_some, hf _ (List.getElem_mem hk), idx_get (xs := y) (k := k) (by omega), W_succ (show k < 9223372036854775807 by omega), Int.toNat_natCast]
      · simp only
        rw [List.take_add_one, List.take_add_one, List.take_set_of_le (Nat.le_refl _), h3, List.getElem?_set_self (by omega), List.getElem?_eq_getElem hk])
    (fun s ⟨h1, h2, h3⟩ => by
      obtain ⟨i, y⟩ := s
      simp only at h1 h2 h3
      subst h1
      refine .inl ⟨((xs.length : Int), y), ?_, ?_⟩
      · rw [hb, decide_eq_false (by omega)]; rfl
      · rw [List.take_of_length_le (by omega), List.take_of_length_le (Nat.le_refl _)] at h3
        rw [h3])
  rw [ho, hq]

/-- Equality, element by element. -/
theorem loop_eq {α : Type} [DecidableEq α] {f : α → α → Option Bool} {body : Int → Option (SR Int Bool)} (xs ys : List α) (hl : ys.length = xs.length) (hn : xs.length ≤ 9223372036854775807) (hf : ∀ x ∈ xs, ∀ y ∈ ys, f x y = some (decide (x = y)))
    (hb : ∀ k, body k = bif (decide (k < (xs.length : Int))) then (idx xs k).bind fun x1 => (idx ys k).bind fun x2 => (f x1 x2).bind fun x3 => bif x3 then some (.nxt (W (k + 1))) else some (.ret false) else some (.brk k)) :
    (loopF body (((xs.length : Int)) - 0).toNat.succ 0).bind (fun lr => lr.on (fun _ => some true) (fun r => some r)) = some (decide (xs = ys)) := by
  obtain ⟨o, ho, hq⟩ := loop_idx (body := body) xs.length (fun k s => s = (k : Int) ∧ xs.take k = ys.take k) (fun o => (∃ k, o = .brk k ∧ xs = ys) ∨ (o = .ret false ∧ xs ≠ ys)) (s := 0) ⟨rfl, by simp⟩
    (fun k s hk ⟨h1, h3⟩ => by
      subst h1
      have hy : k < ys.length := by omega
      have e1 : ((k : Int) < (xs.length : Int)) := by omega
      rw [hb, idx_get hk, idx_get hy, decide_eq_true e1]
      simp only [cond_true, Option.bind_some, hf _ (List.getElem_mem hk) _ (List.getElem_mem hy), W_succ (show k < 9223372036854775807 by omega)]
      by_cases he : xs[k] = ys[k]
      · refine .inl ⟨_, by rw [decide_eq_true he]; rfl, rfl, ?_⟩
        rw [List.take_add_one, List.take_add_one, h3, List.getElem?_eq_getElem hk, List.getElem?_eq_getElem hy, he]
      · refine .inr (.inl ⟨false, by rw [decide_eq_false he]; rfl, .inr ⟨rfl, fun h => he (by simp [h])⟩⟩))
    (fun s ⟨h1, h3⟩ => by
      subst h1
      refine .inl ⟨(xs.length : Int), ?_, .inl ⟨_, rfl, ?_⟩⟩
      · rw [hb, decide_eq_false (by omega)]; rfl
      · rwa [List.take_of_length_le (Nat.le_refl _), List.take_of_length_le (by omega)] at h3)
  rw [ho]
  rcases hq with ⟨k, rfl, h⟩ | ⟨rfl, h⟩
  · rw [decide_eq_true h]; rfl
  · rw [decide_eq_false h]; rfl

/-- How many are left. -/
def leftOf (l : Int) (n : Nat) : Int := if l < n then -1 else l - n
def wtL {α : Type} (wt : α → Nat) (xs : List α) : Nat := xs.length + (xs.map wt).sum
theorem sum_take_succ {α : Type} (wt : α → Nat) (xs : List α) (k : Nat) (h : k < xs.length) : ((xs.take (k + 1)).map wt).sum = ((xs.take k).map wt).sum + wt xs[k] := by
  rw [List.take_add_one, List.getElem?_eq_getElem h, List.map_append, List.sum_append]; simp only [Option.toList_some, List.map_cons, List.map_nil, List.sum_cons, List.sum_nil, Nat.add_zero]
theorem sum_take_le {α : Type} (wt : α → Nat) (xs : List α) (k : Nat) : ((xs.take k).map wt).sum ≤ (xs.map wt).sum := by
  have : ((xs.take k ++ xs.drop k).map wt).sum = (xs.map wt).sum := by rw [List.take_append_drop]
  rw [List.map_append, List.sum_append] at this
  omega
theorem mem_sum_le {α : Type} (wt : α → Nat) {xs : List α} {x : α} (h : x ∈ xs) : wt x ≤ (xs.map wt).sum := by
  induction xs with
  | nil => cases h
  | cons y ys ih =>
    simp only [List.map_cons, List.sum_cons]
    rcases List.mem_cons.1 h with rfl | h
    · omega
    · have := ih h; omega

theorem sz_leaf {α : Type} (xs : List α) (l : Int) (h0 : 0 ≤ l) (h1 : l ≤ 1048576) (hn : xs.length ≤ 9223372036854775807) :
    (bif (decide ((W (l - (xs.length : Int))) < 0)) then some (-1) else some (W (l - (xs.length : Int)))) = some (leftOf l xs.length) := by
  rw [W_of (by omega) (by omega)]
  unfold leftOf
  by_cases h : l < (xs.length : Int)
  · rw [decide_eq_true (by omega : l - (xs.length : Int) < 0), if_pos h]; rfl
  · rw [decide_eq_false (by omega : ¬ l - (xs.length : Int) < 0), if_neg h]; rfl

theorem sz_wrap {l : Int} {n : Nat} : (bif (decide (leftOf l n < 0)) then some (-1) else some (leftOf l n)) = some (leftOf l n) := by
  unfold leftOf
  split
  · rfl
  · rw [decide_eq_false (by omega)]; rfl

theorem sz_list {α : Type} {f : α → Int → Option Int} {wt : α → Nat} {body : Int × Int → Option (SR (Int × Int) Int)} (xs : List α) (l : Int) (h0 : 0 ≤ l) (h1 : l ≤ 1048576) (hn : xs.length ≤ 9223372036854775807)
    (hf : ∀ x ∈ xs, ∀ l : Int, 0 ≤ l → l ≤ 1048576 → f x l = some (leftOf l (wt x)))
    (hb : ∀ k1 k2, body (k1, k2) = bif (decide (k2 < (xs.length : Int))) then (idx xs k2).bind fun x1 => (f x1 k1).bind fun x2 => bif (decide (x2 < 0)) then some (.ret (-1)) else some (.nxt (x2, (W (k2 + 1)))) else some (.brk (k1, k2))) :
    (bif (decide ((W (l - (xs.length : Int))) < 0)) then some (-1) else
      (loopF body (((xs.length : Int)) - 0).toNat.succ ((W (l - (xs.length : Int))), 0)).bind fun lr => lr.on (fun (k3, _) => some k3) (fun r => some r)) = some (leftOf l (wtL wt xs)) := by
  rw [W_of (by omega) (by omega)]
  unfold wtL
  by_cases h : l < (xs.length : Int)
  · rw [decide_eq_true (by omega : l - (xs.length : Int) < 0)]
    unfold leftOf
    rw [if_pos (by omega)]; rfl
  · rw [decide_eq_false (by omega : ¬ l - (xs.length : Int) < 0)]
    simp only [cond_false]
    obtain ⟨o, ho, hq⟩ := loop_idx (body := body) xs.length (fun k s => s.2 = (k : Int) ∧ s.1 = l - xs.length - (((xs.take k).map wt).sum : Nat) ∧ 0 ≤ s.1)
      (fun o => (o = .ret (-1) ∧ l < ((xs.length + (xs.map wt).sum : Nat) : Int)) ∨ ∃ k, o = .brk (l - xs.length - ((xs.map wt).sum : Nat), k) ∧ ¬ l < ((xs.length + (xs.map wt).sum : Nat) : Int)) (s := (l - (xs.length : Int), 0)) ⟨rfl, by simp, by simp; omega⟩
      (fun k s hk ⟨e1, e2, e3⟩ => by
        obtain ⟨a, b⟩ := s
        simp only at e1 e2 e3
        subst e1
        have e1 : ((k : Int) < (xs.length : Int)) := by omega
        rw [hb, idx_get hk, decide_eq_true e1]
        simp only [cond_true, Option.bind_some, hf _ (List.getElem_mem hk) a e3 (by omega), W_succ (show k < 9223372036854775807 by omega)]
        have hs := sum_take_succ wt xs k hk
        have hle := sum_take_le wt xs (k + 1)
        by_cases hlt : a < (wt xs[k] : Int)
        · refine .inr (.inl ⟨-1, ?_, .inl ⟨rfl, ?_⟩⟩)
          · unfold leftOf; rw [if_pos hlt]; rfl
          · omega
        · refine .inl ⟨(a - wt xs[k], ((k + 1 : Nat) : Int)), ?_, rfl, ?_, ?_⟩
          · unfold leftOf; rw [if_neg hlt, decide_eq_false (by omega)]; rfl
          · simp only; omega
          · simp only; omega)
      (fun s ⟨e1, e2, e3⟩ => by
        obtain ⟨a, b⟩ := s
        simp only at e1 e2 e3
        subst e1
        rw [List.take_of_length_le (Nat.le_refl _)] at e2
        refine .inl ⟨(a, (xs.length : Int)), ?_, .inr ⟨_, by rw [e2], ?_⟩⟩
        · rw [hb, decide_eq_false (by omega)]; rfl
        · omega)
    rw [ho]
    unfold leftOf
    rcases hq with ⟨rfl, hq⟩ | ⟨k, rfl, hq⟩
    · rw [if_pos hq]; rfl
    · rw [if_neg hq]
      simp only [Option.bind_some, LR.on]
      congr 1; omega
end Go.PF
