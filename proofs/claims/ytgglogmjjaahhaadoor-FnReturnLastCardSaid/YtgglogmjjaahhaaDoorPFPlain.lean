/- Plain laws of the loops; no program. -/
import Derived.Test.YtgglogmjjaahhaaDoorPFTop
namespace Go.PF

theorem W_of {x : Int} (h1 : -9223372036854775808 ≤ x) (h2 : x ≤ 9223372036854775807) : W x = x := by
  unfold W
  simp only [IntKind.wrap, IntKind.signed, IntKind.bits]
  simp
  omega
theorem W_succ {k : Nat} (h : k < 9223372036854775807) : W ((k : Int) + 1) = ((k + 1 : Nat) : Int) := by rw [W_of (by omega) (by omega)]; omega
theorem idx_nat {α : Type} {xs : List α} {k : Nat} : idx xs (k : Int) = xs[k]? := by simp [idx]
theorem idx_get {α : Type} {xs : List α} {k : Nat} (h : k < xs.length) : idx xs (k : Int) = some xs[k] := by rw [idx_nat, List.getElem?_eq_getElem h]

/-- A loop of at most n rounds. -/
theorem loop_gen {σ ρ : Type} {body : σ → Option (SR σ ρ)} (n : Nat) (I : Nat → σ → Prop) (Q : LR σ ρ → Prop)
    (step : ∀ k s, k < n → I k s → (∃ s', body s = some (.nxt s') ∧ I (k + 1) s') ∨ (∃ r, body s = some (.ret r) ∧ Q (.ret r)) ∨ ∃ s', body s = some (.brk s') ∧ Q (.brk s'))
    (stop : ∀ s, I n s → (∃ s', body s = some (.brk s') ∧ Q (.brk s')) ∨ ∃ r, body s = some (.ret r) ∧ Q (.ret r)) :
    ∀ (j k fuel : Nat) (s : σ), k + j = n → j < fuel → I k s → ∃ o, loopF body fuel s = some o ∧ Q o := by
  intro j
  induction j with
  | zero =>
    intro k fuel s hk hf hI
    obtain ⟨m, rfl⟩ : ∃ m, fuel = m + 1 := ⟨fuel - 1, by omega⟩
    obtain rfl : k = n := by omega
    unfold loopF
    rcases stop s hI with ⟨s', hb, hq⟩ | ⟨r, hb, hq⟩
    · exact ⟨.brk s', by rw [hb]; rfl, hq⟩
    · exact ⟨.ret r, by rw [hb]; rfl, hq⟩
  | succ j ih =>
    intro k fuel s hk hf hI
    obtain ⟨m, rfl⟩ : ∃ m, fuel = m + 1 := ⟨fuel - 1, by omega⟩
    unfold loopF
    rcases step k s (by omega) hI with ⟨s', hb, hi⟩ | ⟨r, hb, hq⟩ | ⟨s', hb, hq⟩
    · rw [hb]
      exact ih (k + 1) m s' (by omega) (by omega) hi
    · exact ⟨.ret r, by rw [hb]; rfl, hq⟩
    · exact ⟨.brk s', by rw [hb]; rfl, hq⟩

/-- A counting loop over a list, its counter from 0. -/
theorem loop_idx {σ ρ : Type} {body : σ → Option (SR σ ρ)} (n : Nat) (I : Nat → σ → Prop) (Q : LR σ ρ → Prop) {s : σ} (h0 : I 0 s)
    (step : ∀ k s, k < n → I k s → (∃ s', body s = some (.nxt s') ∧ I (k + 1) s') ∨ (∃ r, body s = some (.ret r) ∧ Q (.ret r)) ∨ ∃ s', body s = some (.brk s') ∧ Q (.brk s'))
    (stop : ∀ s, I n s → (∃ s', body s = some (.brk s') ∧ Q (.brk s')) ∨ ∃ r, body s = some (.ret r) ∧ Q (.ret r)) :
    ∃ o, loopF body (((n : Int)) - 0).toNat.succ s = some o ∧ Q o := loop_gen n I Q step stop n 0 _ s (by omega) (by omega) h0

end Go.PF
