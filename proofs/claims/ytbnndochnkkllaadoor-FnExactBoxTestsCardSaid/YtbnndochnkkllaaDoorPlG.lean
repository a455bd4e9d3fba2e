/- Plain laws: loops whose rounds are known; lists by their parts. -/
import Derived.Test.YtbnndochnkkllaaDoorPlE
namespace Go.PF.F
open Go Go.PF

/-- A loop that comes nearer to its end with each round. -/
theorem loop_wf {σ ρ : Type} {body : σ → Option (SR σ ρ)} (I : σ → Prop) (μ : σ → Nat) (Q : LR σ ρ → Prop)
    (step : ∀ s, I s → (∃ s', body s = some (.nxt s') ∧ I s' ∧ μ s' < μ s) ∨ (∃ s', body s = some (.brk s') ∧ Q (.brk s')) ∨ ∃ r, body s = some (.ret r) ∧ Q (.ret r)) :
    ∀ (fuel : Nat) (s : σ), I s → μ s < fuel → ∃ o, loopF body fuel s = some o ∧ Q o := by
  intro fuel
  induction fuel with
  | zero => intro s _ h; omega
  | succ n ih =>
    intro s hI hm
    unfold loopF
    rcases step s hI with ⟨s', hb, hi, hl⟩ | ⟨s', hb, hq⟩ | ⟨r, hb, hq⟩
    · rw [hb]; exact ih s' hi (by omega)
    · exact ⟨.brk s', by rw [hb]; rfl, hq⟩
    · exact ⟨.ret r, by rw [hb]; rfl, hq⟩
theorem loop_gets {σ ρ : Type} {body : σ → Option (SR σ ρ)} (m : Nat) (st : Nat → σ) (hs : ∀ k, k < m → body (st k) = some (.nxt (st (k + 1)))) {fuel : Nat} (hf : m < fuel) :
    ∃ f, loopF body fuel (st 0) = (body (st m)).bind (SR.after (loopF body f)) := by
  induction m generalizing st fuel with
  | zero =>
    obtain ⟨f, rfl⟩ : ∃ f, fuel = f + 1 := ⟨fuel - 1, by omega⟩
    exact ⟨f, rfl⟩
  | succ m ih =>
    obtain ⟨f, rfl⟩ : ∃ f, fuel = f + 1 := ⟨fuel - 1, by omega⟩
    obtain ⟨f', e⟩ := ih (fun k => st (k + 1)) (fun k hk => hs (k + 1) (by omega)) (fuel := f) (by omega)
    refine ⟨f', ?_⟩
    unfold loopF
    rw [hs 0 (by omega)]
    exact e
theorem loop_brk {σ ρ : Type} {body : σ → Option (SR σ ρ)} (m : Nat) (st : Nat → σ) (s : σ) (hs : ∀ k, k < m → body (st k) = some (.nxt (st (k + 1)))) (he : body (st m) = some (.brk s)) {fuel : Nat} (hf : m < fuel) :
    loopF body fuel (st 0) = some (.brk s) := by
  obtain ⟨f, e⟩ := loop_gets m st hs hf
  rw [e, he]; rfl
theorem loop_ret {σ ρ : Type} {body : σ → Option (SR σ ρ)} (m : Nat) (st : Nat → σ) (r : ρ) (hs : ∀ k, k < m → body (st k) = some (.nxt (st (k + 1)))) (he : body (st m) = some (.ret r)) {fuel : Nat} (hf : m < fuel) :
    loopF body fuel (st 0) = some (.ret r) := by
  obtain ⟨f, e⟩ := loop_gets m st hs hf
  rw [e, he]; rfl

theorem drop_cases {α : Type} (a : List α) (k : Nat) (h : k ≤ a.length) :
    (a.drop k = [] ∧ k = a.length) ∨ ∃ x t, a.drop k = x :: t ∧ k < a.length ∧ idx a (k : Int) = some x ∧ a.drop (k + 1) = t := by
  rcases Nat.lt_or_ge k a.length with hl | hl
  · refine .inr ⟨a[k], a.drop (k + 1), List.drop_eq_getElem_cons hl, hl, idx_get hl, rfl⟩
  · exact .inl ⟨List.drop_eq_nil_iff.2 hl, by omega⟩
theorem lt_true {a b : Int} (h : a < b) : decide (a < b) = true := decide_eq_true h
theorem lt_false {a b : Int} (h : b ≤ a) : decide (a < b) = false := decide_eq_false (by omega)
theorem le_true {a b : Int} (h : a ≤ b) : decide (a ≤ b) = true := decide_eq_true h
theorem le_false {a b : Int} (h : b < a) : decide (a ≤ b) = false := decide_eq_false (by omega)
theorem W_succ' {k : Nat} (h : k ≤ 4294967296) : W ((k : Int) + 1) = ((k + 1 : Nat) : Int) := W_succ (by omega)
theorem app_ok {α : Type} {xs ys : List α} (h : xs.length + ys.length ≤ 4294967296) : appF xs ys = some (xs ++ ys) := by
  unfold appF; rw [if_pos h]
theorem app_nil {α : Type} {ys : List α} (h : ys.length ≤ 4294967296) : appF [] ys = some ys := by
  rw [app_ok (by simpa using h)]; rfl
theorem take_snoc {α : Type} {a : List α} {k : Nat} {x : α} (h : a[k]? = some x) : a.take (k + 1) = a.take k ++ [x] := by
  rw [List.take_add_one, h]; rfl

/-- A loop over a list that gathers. The state at element k is mk (g of the first k) k. -/
theorem loop_each {α β σ ρ : Type} {body : σ → Option (SR σ ρ)} (a : List α) (mk : β → Int → σ) (g : β → α → β) (b : β) (fin : β → σ) {fuel : Nat} (hf : a.length < fuel)
    (hs : ∀ k x, (h : k < a.length) → a[k]? = some x → body (mk ((a.take k).foldl g b) (k : Int)) = some (.nxt (mk (g ((a.take k).foldl g b) x) ((k + 1 : Nat) : Int))))
    (he : body (mk (a.foldl g b) (a.length : Int)) = some (.brk (fin (a.foldl g b)))) :
    loopF body fuel (mk b 0) = some (.brk (fin (a.foldl g b))) := by
  refine loop_brk a.length (fun k => mk ((a.take k).foldl g b) (k : Int)) _ (fun k hk => ?_) ?_ hf
  · have hx : a[k]? = some a[k] := List.getElem?_eq_getElem hk
    rw [hs k a[k] hk hx, take_snoc hx, List.foldl_append]; rfl
  · simp only [List.take_of_length_le (Nat.le_refl _)]; exact he
end Go.PF.F
