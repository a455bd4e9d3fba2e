/- Plain laws: walks through a ruleset, judging. -/
import Derived.Test.YtgglogmjjaahhaaDoorPlR
namespace Go.PF.F
open Go Go.PF

/-- All tests of the rule hold. -/
def holdB (p : Packet) (r : Rule) : Bool := r.Tests.all fun t => (decide (t.Lo ≤ pf p t.Field.toNat ∧ pf p t.Field.toNat ≤ t.Hi) != t.Not)
/-! The spec's walk. -/
/-! The machine with a stack. -/
def Run {σ ρ : Type} (B : σ → Option (SR σ ρ)) (m : Nat) (s s' : σ) : Prop := ∀ N, loopF B (m + N) s = loopF B N s'
theorem Run.trans {σ ρ : Type} {B : σ → Option (SR σ ρ)} {m m' : Nat} {a b c : σ} (h : Run B m a b) (k : Run B m' b c) : Run B (m + m') a c := fun N => by
  rw [Nat.add_assoc, h, k]
theorem Run.one {σ ρ : Type} {B : σ → Option (SR σ ρ)} {a b : σ} (h : B a = some (.nxt b)) : Run B 1 a b := fun N => by
  rw [Nat.add_comm]
  show (B a).bind _ = _
  rw [h]; rfl
theorem Run.zero {σ ρ : Type} {B : σ → Option (SR σ ρ)} (a : σ) : Run B 0 a a := fun N => by rw [Nat.zero_add]
/-! Judging. -/
end Go.PF.F
