/- Plain laws: tests, rules, packets in boxes. -/
import Derived.Test.YtgglogmjjaahhaaDoorPlC
namespace Go.PF.F
open Go Go.PF

/-- Some element. -/
theorem Dec.any {α : Type} {xs : List α} {P : α → Prop} {body : Int → Option (SR Int Bool)} (hn : xs.length ≤ 9223372036854775807)
    (hb : ∀ (k : Nat) (h : k < xs.length), ∃ r, body (k : Int) = some (bif r then .ret true else .nxt (W ((k : Int) + 1))) ∧ (r = true ↔ P xs[k]))
    (he : body (xs.length : Int) = some (.brk (xs.length : Int))) :
    Dec ((loopF body (((xs.length : Int)) - 0).toNat.succ 0).bind fun lr => lr.on (fun _ => some false) (fun r => some r)) (∃ x ∈ xs, P x) := by
  obtain ⟨o, ho, hq⟩ := loop_idx (body := body) xs.length (fun k s => s = (k : Int) ∧ ∀ x ∈ xs.take k, ¬ P x)
    (fun o => (∃ k, o = .brk k ∧ ¬ ∃ x ∈ xs, P x) ∨ (o = .ret true ∧ ∃ x ∈ xs, P x)) (s := 0) ⟨rfl, by simp⟩
    (fun k s hk ⟨h1, h2⟩ => by
      subst h1
      obtain ⟨r, hr, hi⟩ := hb k hk
      rw [hr]
      cases r with
      | true => exact .inr (.inl ⟨true, rfl, .inr ⟨rfl, _, List.getElem_mem hk, hi.1 rfl⟩⟩)
      | false =>
        refine .inl ⟨_, by rw [cond_false, W_succ (by omega)], rfl, fun x hx => ?_⟩
        rw [List.take_add_one, List.getElem?_eq_getElem hk] at hx
        rcases List.mem_append.1 hx with h | h
        · exact h2 x h
        · simp at h; subst h; exact fun hp => by simpa using hi.2 hp)
    (fun s ⟨h1, h2⟩ => by
      subst h1
      rw [List.take_of_length_le (Nat.le_refl _)] at h2
      exact .inl ⟨_, he, .inl ⟨_, rfl, fun ⟨x, hx, hp⟩ => h2 x hx hp⟩⟩)
  rw [ho]
  rcases hq with ⟨k, rfl, h⟩ | ⟨rfl, h⟩
  · exact Dec.no h
  · exact Dec.yes h
/-! Tests. -/
def TV (t : Test) : Prop := (0 ≤ t.Field ∧ t.Field ≤ 3) ∧ (0 ≤ t.Lo ∧ t.Lo ≤ t.Hi) ∧ t.Hi ≤ topOf t.Field.toNat
theorem spec_test (t : Test) : Dec (spec_TestValid t) (TV t) :=
  (in_Dec _ _ _).and fun h => (in_Dec _ _ _).and fun _ => by
    obtain ⟨n, hn⟩ := Int.eq_ofNat_of_zero_le h.1
    rw [hn, spec_top, Int.toNat_natCast]
    exact Dec.dec
theorem impl_test (t : Test) : Dec (impl_TestValid t) (TV t) := by
  refine Dec.iff (Dec.dand (P := 0 ≤ t.Field) (Q := t.Field < 4 ∧ 0 ≤ t.Lo ∧ t.Lo ≤ t.Hi ∧ t.Hi ≤ topOf t.Field.toNat) fun h => Dec.dand fun _ => Dec.dand fun _ => Dec.dand fun _ => ?_) ?_
  · obtain ⟨n, hn⟩ := Int.eq_ofNat_of_zero_le h
    rw [hn, impl_top, Int.toNat_natCast]
    exact Dec.dec
  · unfold TV
    constructor
    · intro h; omega
    · intro h; omega
def TsV (ts : List Test) : Prop := (∀ t ∈ ts, TV t) ∧ (ts.length : Int) ≤ 6
theorem spec_tests {xs : List Test} (h : xs.length ≤ 9223372036854775807) : Dec (spec_TestsValid xs) (TsV xs) :=
  Dec.all_le (body := spec_TestsValid_L0 xs) h (fun x _ => spec_test x) (fun _ => rfl)
theorem impl_tests {xs : List Test} (h : xs.length ≤ 9223372036854775807) : Dec (impl_TestsValid xs) (TsV xs) :=
  Dec.le_all (body := impl_TestsValid_L0 xs) h (fun x _ => impl_test x) (fun _ => rfl)

/-- Field number i of a packet. -/
def pf (p : Packet) (i : Nat) : Int := if i = 0 then p.From else if i = 1 then p.To else if i = 2 then p.Port else p.Proto
/-- A valid test at a packet. -/
def TH (t : Test) (p : Packet) : Prop := (decide (t.Lo ≤ pf p t.Field.toNat ∧ pf p t.Field.toNat ≤ t.Hi) != t.Not) = true
/-! Rules. -/
def RuV (r : Rule) : Prop := TsV r.Tests ∧ (1 ≤ r.Action ∧ r.Action ≤ 5) ∧ ((r.Action = 3 ∧ 0 ≤ r.Chain ∧ r.Chain ≤ 4) ∨ (r.Action ≠ 3 ∧ r.Chain = 0))
theorem spec_rule {r : Rule} (h : r.Tests.length ≤ 9223372036854775807) : Dec (spec_RuleValid r) (RuV r) :=
  (spec_tests h).and fun _ => (in_Dec _ _ _).and fun _ => by
    by_cases e : r.Action = 3
    · rw [(by simp [e] : (r.Action == 3) = true), (by simp [e] : (r.Action != 3) = false), cond_true, in_dec, Option.bind_some, cond_false]
      by_cases c : 0 ≤ r.Chain ∧ r.Chain ≤ 4
      · rw [decide_eq_true c]; exact Dec.yes (.inl ⟨e, c⟩)
      · rw [decide_eq_false c]; exact Dec.no fun h => by omega
    · rw [(by simp [e] : (r.Action == 3) = false), (by simp [e] : (r.Action != 3) = true), cond_true, cond_false]
      refine Dec.mk ?_
      rw [beq_iff_eq]
      omega
theorem impl_rule {r : Rule} (h : r.Tests.length ≤ 9223372036854775807) : Dec (impl_RuleValid r) (RuV r) := by
  refine (impl_tests h).and fun _ => ?_
  by_cases e : r.Action = 3
  · rw [(by simp [e] : (r.Action == 3) = true), cond_true]
    refine Dec.iff (Dec.dand (P := 0 ≤ r.Chain) (Q := r.Chain < 5) fun _ => Dec.dec) ?_
    omega
  · rw [(by simp [e] : (r.Action == 3) = false), cond_false]
    have hc : ∀ (hh : 1 ≤ r.Action ∧ r.Action ≤ 5), Dec (some (r.Chain == 0)) ((1 ≤ r.Action ∧ r.Action ≤ 5) ∧ ((r.Action = 3 ∧ 0 ≤ r.Chain ∧ r.Chain ≤ 4) ∨ (r.Action ≠ 3 ∧ r.Chain = 0))) := fun hh => Dec.mk (by rw [beq_iff_eq]; omega)
    by_cases e1 : r.Action = 1
    · rw [(by simp [e1] : (r.Action == 1) = true), cond_true]; exact hc (by omega)
    rw [(by simp [e1] : (r.Action == 1) = false), cond_false]
    by_cases e2 : r.Action = 2
    · rw [(by simp [e2] : (r.Action == 2) = true), cond_true]; exact hc (by omega)
    rw [(by simp [e2] : (r.Action == 2) = false), cond_false]
    by_cases e4 : r.Action = 4
    · rw [(by simp [e4] : (r.Action == 4) = true), cond_true]; exact hc (by omega)
    rw [(by simp [e4] : (r.Action == 4) = false), cond_false]
    by_cases e5 : r.Action = 5
    · rw [(by simp [e5] : (r.Action == 5) = true), cond_true]; exact hc (by omega)
    rw [(by simp [e5] : (r.Action == 5) = false), cond_false]
    exact Dec.no fun h => by omega
def RsV (rs : List Rule) : Prop := (∀ r ∈ rs, RuV r) ∧ (rs.length : Int) ≤ 8
theorem spec_rules {xs : List Rule} (h : xs.length ≤ 9223372036854775807) (hs : ∀ x ∈ xs, x.Tests.length ≤ 9223372036854775807) : Dec (spec_RulesValid xs) (RsV xs) :=
  Dec.all_le (body := spec_RulesValid_L0 xs) h (fun x hx => spec_rule (hs x hx)) (fun _ => rfl)
theorem impl_rules {xs : List Rule} (h : xs.length ≤ 9223372036854775807) (hs : ∀ x ∈ xs, x.Tests.length ≤ 9223372036854775807) : Dec (impl_RulesValid xs) (RsV xs) :=
  Dec.le_all (body := impl_RulesValid_L0 xs) h (fun x hx => impl_rule (hs x hx)) (fun _ => rfl)
/-- The rule fits the packet. -/
def RF (r : Rule) (p : Packet) : Prop := RuV r ∧ PV p ∧ ∀ t ∈ r.Tests, TH t p
/-! The first rule that fits. -/
def Fit (xs : List Rule) (p : Packet) (k : Nat) : Prop := RsV xs ∧ ∃ r, xs[k]? = some r ∧ RF r p
def First (xs : List Rule) (p : Packet) (m : Nat) (r : Int) : Prop := (∃ k : Nat, r = k ∧ m ≤ k ∧ Fit xs p k ∧ ∀ j, m ≤ j → j < k → ¬ Fit xs p j) ∨ (r = -1 ∧ ∀ j, m ≤ j → ¬ Fit xs p j)
theorem First.same {xs : List Rule} {p : Packet} {m : Nat} {r r' : Int} (h : First xs p m r) (h' : First xs p m r') : r = r' := by
  rcases h with ⟨k, rfl, h1, h2, h3⟩ | ⟨rfl, h1⟩ <;> rcases h' with ⟨k', rfl, h1', h2', h3'⟩ | ⟨rfl, h1'⟩
  · have a : ¬ k < k' := fun hlt => h3' k h1 hlt h2
    have b : ¬ k' < k := fun hlt => h3 k' h1' hlt h2'
    omega
  · exact absurd h2 (h1' k h1)
  · exact absurd h2' (h1 k' h1')
  · rfl
/-! A packet in a box. -/
end Go.PF.F
