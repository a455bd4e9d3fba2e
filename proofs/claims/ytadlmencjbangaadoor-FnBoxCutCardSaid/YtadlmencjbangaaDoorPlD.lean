/- Plain laws: tests, rules, packets in boxes. -/
import Derived.Test.YtadlmencjbangaaDoorPlC
namespace Go.PF.F
open Go Go.PF

/-- Some element. -/
theorem Dec.any {α : Type} {xs : List α} {P : α → Prop} {body : Int → Option (SR Int Bool)} (hn : xs.length ≤ 9223372036854775807)
    (hb : ∀ (k : Nat) (h : k < xs.length), ∃ r, body (k : Int) = some (bif r then .ret true else .nxt (W ((k : Int) + 1))) ∧ (r = true ↔ P xs[k]))
    (he : body (xs.length : Int) = some (.brk (xs.length : Int))) :
    Dec ((loopF body (((xs.length : Int)) - 0).toNat.succ 0).bind fun lr => lr.on (fun _ => some false) (fun r => some r)) (∃ x ∈ xs, P x) := by
  obtain ⟨o, ho, hq⟩ := loop_idx (body := body) xs.length (fun k s => s = (k : Int) ∧ ∀ x ∈ xs.take k, ¬ P x)
    (fun o => (∃ k, o = .brk k ∧ ¬ ∃ x ∈ xs, P x) ∨ (o = .ret true ∧ ∃ x ∈ xs, P x)) (s := 0) ⟨rfl, by simp⟩
    (fun k s hk ⟨h1, h2⟩ => by
      subst h1
      obtain ⟨r, hr, hi⟩ := hb k hk
      rw [hr]
      cases r with
      | true => exact .inr (.inl ⟨true, rfl, .inr ⟨rfl, _, List.getElem_mem hk, hi.1 rfl⟩⟩)
      | false =>
        refine .inl ⟨_, by rw [cond_false, W_succ (by omega)], rfl, fun x hx => ?_⟩
        rw [List.take_add_one, List.getElem?_eq_getElem hk] at hx
        rcases List.mem_append.1 hx with h | h
        · exact h2 x h
        · simp at h; subst h; exact fun hp => by simpa using hi.2 hp)
    (fun s ⟨h1, h2⟩ => by
      subst h1
      rw [List.take_of_length_le (Nat.le_refl _)] at h2
      exact .inl ⟨_, he, .inl ⟨_, rfl, fun ⟨x, hx, hp⟩ => h2 x hx hp⟩⟩)
  rw [ho]
  rcases hq with ⟨k, rfl, h⟩ | ⟨rfl, h⟩
  · exact Dec.no h
  · exact Dec.yes h
/-- Every number below n. -/
theorem Dec.upto {n : Nat} {P : Nat → Prop} {body : Int → Option (SR Int Bool)} (hn : n ≤ 9223372036854775807)
    (hb : ∀ k, k < n → ∃ r, body (k : Int) = some (bif r then .nxt (W ((k : Int) + 1)) else .ret false) ∧ (r = true ↔ P k))
    (he : body (n : Int) = some (.brk (n : Int))) :
    Dec ((loopF body (((n : Int)) - 0).toNat.succ 0).bind fun lr => lr.on (fun _ => some true) (fun r => some r)) (∀ k, k < n → P k) := by
  obtain ⟨o, ho, hq⟩ := loop_idx (body := body) n (fun k s => s = (k : Int) ∧ ∀ i, i < k → P i)
    (fun o => (∃ k, o = .brk k ∧ ∀ k, k < n → P k) ∨ (o = .ret false ∧ ¬ ∀ k, k < n → P k)) (s := 0) ⟨rfl, fun i h => by omega⟩
    (fun k s hk ⟨h1, h2⟩ => by
      subst h1
      obtain ⟨r, hr, hi⟩ := hb k hk
      rw [hr]
      cases r with
      | true =>
        refine .inl ⟨_, by rw [cond_true, W_succ (by omega)], rfl, fun i hlt => ?_⟩
        by_cases e : i = k
        · subst e; exact hi.1 rfl
        · exact h2 i (by omega)
      | false => exact .inr (.inl ⟨false, rfl, .inr ⟨rfl, fun h => by simpa using hi.2 (h k hk)⟩⟩))
    (fun s ⟨h1, h2⟩ => by
      subst h1
      exact .inl ⟨_, he, .inl ⟨_, rfl, h2⟩⟩)
  rw [ho]
  rcases hq with ⟨k, rfl, h⟩ | ⟨rfl, h⟩
  · exact Dec.yes h
  · exact Dec.no h

/-! Tests. -/
def TV (t : Test) : Prop := (0 ≤ t.Field ∧ t.Field ≤ 3) ∧ (0 ≤ t.Lo ∧ t.Lo ≤ t.Hi) ∧ t.Hi ≤ topOf t.Field.toNat
theorem spec_test (t : Test) : Dec (spec_TestValid t) (TV t) :=
  (in_Dec _ _ _).and fun h => (in_Dec _ _ _).and fun _ => by
    obtain ⟨n, hn⟩ := Int.eq_ofNat_of_zero_le h.1
    rw [hn, spec_top, Int.toNat_natCast]
    exact Dec.dec
theorem impl_test (t : Test) : Dec (impl_TestValid t) (TV t) := by
  refine Dec.iff (Dec.dand (P := 0 ≤ t.Field) (Q := t.Field < 4 ∧ 0 ≤ t.Lo ∧ t.Lo ≤ t.Hi ∧ t.Hi ≤ topOf t.Field.toNat) fun h => Dec.dand fun _ => Dec.dand fun _ => Dec.dand fun _ => ?_) ?_
  · obtain ⟨n, hn⟩ := Int.eq_ofNat_of_zero_le h
    rw [hn, impl_top, Int.toNat_natCast]
    exact Dec.dec
  · unfold TV
    constructor
    · intro h; omega
    · intro h; omega
def TsV (ts : List Test) : Prop := (∀ t ∈ ts, TV t) ∧ (ts.length : Int) ≤ 6
theorem spec_tests {xs : List Test} (h : xs.length ≤ 9223372036854775807) : Dec (spec_TestsValid xs) (TsV xs) :=
  Dec.all_le (body := spec_TestsValid_L0 xs) h (fun x _ => spec_test x) (fun _ => rfl)
theorem impl_tests {xs : List Test} (h : xs.length ≤ 9223372036854775807) : Dec (impl_TestsValid xs) (TsV xs) :=
  Dec.le_all (body := impl_TestsValid_L0 xs) h (fun x _ => impl_test x) (fun _ => rfl)

/-- Field number i of a packet. -/
def pf (p : Packet) (i : Nat) : Int := if i = 0 then p.From else if i = 1 then p.To else if i = 2 then p.Port else p.Proto
theorem idx_pf (p : Packet) {i : Nat} (h : i < 4) : idx [p.From, p.To, p.Port, p.Proto] (i : Int) = some (pf p i) := by
  match i, h with
  | 0, _ => rfl
  | 1, _ => rfl
  | 2, _ => rfl
  | 3, _ => rfl
/-- A valid test at a packet. -/
def TH (t : Test) (p : Packet) : Prop := (decide (t.Lo ≤ pf p t.Field.toNat ∧ pf p t.Field.toNat ≤ t.Hi) != t.Not) = true
/-! Rules. -/
def RuV (r : Rule) : Prop := TsV r.Tests ∧ (1 ≤ r.Action ∧ r.Action ≤ 5) ∧ ((r.Action = 3 ∧ 0 ≤ r.Chain ∧ r.Chain ≤ 4) ∨ (r.Action ≠ 3 ∧ r.Chain = 0))
def RsV (rs : List Rule) : Prop := (∀ r ∈ rs, RuV r) ∧ (rs.length : Int) ≤ 8
/-- The rule fits the packet. -/
def RF (r : Rule) (p : Packet) : Prop := RuV r ∧ PV p ∧ ∀ t ∈ r.Tests, TH t p
/-! The first rule that fits. -/
def Fit (xs : List Rule) (p : Packet) (k : Nat) : Prop := RsV xs ∧ ∃ r, xs[k]? = some r ∧ RF r p
def First (xs : List Rule) (p : Packet) (m : Nat) (r : Int) : Prop := (∃ k : Nat, r = k ∧ m ≤ k ∧ Fit xs p k ∧ ∀ j, m ≤ j → j < k → ¬ Fit xs p j) ∨ (r = -1 ∧ ∀ j, m ≤ j → ¬ Fit xs p j)
theorem First.same {xs : List Rule} {p : Packet} {m : Nat} {r r' : Int} (h : First xs p m r) (h' : First xs p m r') : r = r' := by
  rcases h with ⟨k, rfl, h1, h2, h3⟩ | ⟨rfl, h1⟩ <;> rcases h' with ⟨k', rfl, h1', h2', h3'⟩ | ⟨rfl, h1'⟩
  · have a : ¬ k < k' := fun hlt => h3' k h1 hlt h2
    have b : ¬ k' < k := fun hlt => h3 k' h1' hlt h2'
    omega
  · exact absurd h2 (h1' k h1)
  · exact absurd h2' (h1 k' h1')
  · rfl
/-! A packet in a box. -/
def SH (xs : List Span) (v : Int) : Prop := ∃ x ∈ xs, x.Lo ≤ v ∧ v ≤ x.Hi
theorem impl_have {xs : List Span} (h : xs.length ≤ 9223372036854775807) (v : Int) : Dec (impl_SpansHave xs v) (SH xs v) :=
  Dec.any (body := impl_SpansHave_L0 xs v) h (fun k hk => by
    unfold impl_SpansHave_L0
    rw [decide_eq_true (by omega : (k : Int) < (xs.length : Int)), idx_get hk]
    simp only [cond_true, Option.bind_some]
    refine ⟨decide (xs[k].Lo ≤ v ∧ v ≤ xs[k].Hi), ?_, by simp⟩
    by_cases a : xs[k].Lo ≤ v <;> by_cases b : v ≤ xs[k].Hi <;> simp [a, b])
    (by unfold impl_SpansHave_L0; rw [decide_eq_false (by omega)]; rfl)
def BH (b : Box) (p : Packet) : Prop := ∀ k, k < 4 → ∃ xs, b.Sides[k]? = some xs ∧ SH xs (pf p k)
theorem bh_at {b : Box} {p : Packet} {k : Nat} (hk : k < b.Sides.length) : SH b.Sides[k] (pf p k) ↔ ∃ xs, b.Sides[k]? = some xs ∧ SH xs (pf p k) :=
  ⟨fun h => ⟨_, List.getElem?_eq_getElem hk, h⟩, fun ⟨xs, e, h⟩ => by rw [List.getElem?_eq_getElem hk] at e; rw [Option.some.inj e]; exact h⟩
theorem impl_has {b : Box} (hb : OkBox b) (p : Packet) : Dec (impl_BoxHas b p) (BV b ∧ PV p ∧ BH b p) :=
  (impl_box hb).and fun hv => (impl_packet p).and fun hp => by
    rw [impl_sides hv.1, Option.bind_some]
    refine Dec.ret ?_
    unfold impl_sides_has
    rw [impl_fields, Option.bind_some]
    exact Dec.upto (body := impl_sides_has_L0 b.Sides [p.From, p.To, p.Port, p.Proto]) (n := 4) (by decide) (fun k hk => by
      have hl : k < b.Sides.length := by have := hv.1; omega
      unfold impl_sides_has_L0
      rw [decide_eq_true (by omega : (k : Int) < 4), idx_get hl, idx_pf p hk]
      obtain ⟨r, e, hr⟩ := impl_have (hb.2 _ (List.getElem_mem hl)) (pf p k)
      simp only [cond_true, Option.bind_some, e]
      exact ⟨r, by cases r <;> rfl, hr.trans (bh_at hl)⟩) rfl
end Go.PF.F
