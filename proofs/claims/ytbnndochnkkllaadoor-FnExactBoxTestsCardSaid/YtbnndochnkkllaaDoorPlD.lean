/- Plain laws: tests, rules, packets in boxes. -/
import Derived.Test.YtbnndochnkkllaaDoorPlC
namespace Go.PF.F
open Go Go.PF

/-- Some element. -/
theorem Dec.any {α : Type} {xs : List α} {P : α → Prop} {body : Int → Option (SR Int Bool)} (hn : xs.length ≤ 9223372036854775807)
    (hb : ∀ (k : Nat) (h : k < xs.length), ∃ r, body (k : Int) = some (bif r then .ret true else .nxt (W ((k : Int) + 1))) ∧ (r = true ↔ P xs[k]))
    (he : body (xs.length : Int) = some (.brk (xs.length : Int))) :
    Dec ((loopF body (((xs.length : Int)) - 0).toNat.succ 0).bind fun lr => lr.on (fun _ => some false) (fun r => some r)) (∃ x ∈ xs, P x) := by
  obtain ⟨o, ho, hq⟩ := loop_idx (body := body) xs.length (fun k s => s = (k : Int) ∧ ∀ x ∈ xs.take k, ¬ P x)
    (fun o => (∃ k, o = .brk k ∧ ¬ ∃ x ∈ xs, P x) ∨ (o = .ret true ∧ ∃ x ∈ xs, P x)) (s := 0) ⟨rfl, by simp⟩
    (fun k s hk ⟨h1, h2⟩ => by
      subst h1
      obtain ⟨r, hr, hi⟩ := hb k hk
      rw [hr]
      cases r with
      | true => exact .inr (.inl ⟨true, rfl, .inr ⟨rfl, _, List.getElem_mem hk, hi.1 rfl⟩⟩)
      | false =>
        refine .inl ⟨_, by rw [cond_false, W_succ (by omega)], rfl, fun x hx => ?_⟩
        rw [List.take_add_one, List.getElem?_eq_getElem hk] at hx
        rcases List.mem_append.1 hx with h | h
        · exact h2 x h
        · simp at h; subst h; exact fun hp => by simpa using hi.2 hp)
    (fun s ⟨h1, h2⟩ => by
      subst h1
      rw [List.take_of_length_le (Nat.le_refl _)] at h2
      exact .inl ⟨_, he, .inl ⟨_, rfl, fun ⟨x, hx, hp⟩ => h2 x hx hp⟩⟩)
  rw [ho]
  rcases hq with ⟨k, rfl, h⟩ | ⟨rfl, h⟩
  · exact Dec.no h
  · exact Dec.yes h
/-- Every number below n. -/
theorem Dec.upto {n : Nat} {P : Nat → Prop} {body : Int → Option (SR Int Bool)} (hn : n ≤ 9223372036854775807)
    (hb : ∀ k, k < n → ∃ r, body (k : Int) = some (bif r then .nxt (W ((k : Int) + 1)) else .ret false) ∧ (r = true ↔ P k))
    (he : body (n : Int) = some (.brk (n : Int))) :
    Dec ((loopF body (((n : Int)) - 0).toNat.succ 0).bind fun lr => lr.on (fun _ => some true) (fun r => some r)) (∀ k, k < n → P k) := by
  obtain ⟨o, ho, hq⟩ := loop_idx (body := body) n (fun k s => s = (k : Int) ∧ ∀ i, i < k → P i)
    (fun o => (∃ k, o = .brk k ∧ ∀ k, k < n → P k) ∨ (o = .ret false ∧ ¬ ∀ k, k < n → P k)) (s := 0) ⟨rfl, fun i h => by omega⟩
    (fun k s hk ⟨h1, h2⟩ => by
      subst h1
      obtain ⟨r, hr, hi⟩ := hb k hk
      rw [hr]
      cases r with
      | true =>
        refine .inl ⟨_, by rw [cond_true, W_succ (by omega)], rfl, fun i hlt => ?_⟩
        by_cases e : i = k
        · subst e; exact hi.1 rfl
        · exact h2 i (by omega)
      | false => exact .inr (.inl ⟨false, rfl, .inr ⟨rfl, fun h => by simpa using hi.2 (h k hk)⟩⟩))
    (fun s ⟨h1, h2⟩ => by
      subst h1
      exact .inl ⟨_, he, .inl ⟨_, rfl, h2⟩⟩)
  rw [ho]
  rcases hq with ⟨k, rfl, h⟩ | ⟨rfl, h⟩
  · exact Dec.yes h
  · exact Dec.no h

/-! Tests. -/
def TV (t : Test) : Prop := (0 ≤ t.Field ∧ t.Field ≤ 3) ∧ (0 ≤ t.Lo ∧ t.Lo ≤ t.Hi) ∧ t.Hi ≤ topOf t.Field.toNat
theorem spec_test (t : Test) : Dec (spec_TestValid t) (TV t) :=
  (in_Dec _ _ _).and fun h => (in_Dec _ _ _).and fun _ => by
    obtain ⟨n, hn⟩ := Int.eq_ofNat_of_zero_le h.1
    rw [hn, spec_top, Int.toNat_natCast]
    exact Dec.dec
theorem impl_test (t : Test) : Dec (impl_TestValid t) (TV t) := by
  refine Dec.iff (Dec.dand (P := 0 ≤ t.Field) (Q := t.Field < 4 ∧ 0 ≤ t.Lo ∧ t.Lo ≤ t.Hi ∧ t.Hi ≤ topOf t.Field.toNat) fun h => Dec.dand fun _ => Dec.dand fun _ => Dec.dand fun _ => ?_) ?_
  · obtain ⟨n, hn⟩ := Int.eq_ofNat_of_zero_le h
    rw [hn, impl_top, Int.toNat_natCast]
    exact Dec.dec
  · unfold TV
    constructor
    · intro h; omega
    · intro h; omega
def TsV (ts : List Test) : Prop := (∀ t ∈ ts, TV t) ∧ (ts.length : Int) ≤ 6
theorem spec_tests {xs : List Test} (h : xs.length ≤ 9223372036854775807) : Dec (spec_TestsValid xs) (TsV xs) :=
  Dec.all_le (body := spec_TestsValid_L0 xs) h (fun x _ => spec_test x) (fun _ => rfl)
theorem impl_tests {xs : List Test} (h : xs.length ≤ 9223372036854775807) : Dec (impl_TestsValid xs) (TsV xs) :=
  Dec.le_all (body := impl_TestsValid_L0 xs) h (fun x _ => impl_test x) (fun _ => rfl)

/-- Field number i of a packet. -/
def pf (p : Packet) (i : Nat) : Int := if i = 0 then p.From else if i = 1 then p.To else if i = 2 then p.Port else p.Proto
theorem idx_pf (p : Packet) {i : Nat} (h : i < 4) : idx [p.From, p.To, p.Port, p.Proto] (i : Int) = some (pf p i) := by
  match i, h with
  | 0, _ => rfl
  | 1, _ => rfl
  | 2, _ => rfl
  | 3, _ => rfl
theorem spec_field {p : Packet} (hp : PV p) {i : Nat} (h : i < 4) : spec_PacketField p (i : Int) = some (pf p i) := by
  unfold spec_PacketField
  obtain ⟨r, e, hr⟩ := spec_packet p
  rw [e, hr.2 hp]
  simp only [Option.bind_some, cond_true, in_dec]
  rw [decide_eq_true (by omega : (0 : Int) ≤ (i : Int) ∧ (i : Int) ≤ 3), cond_true, idx_pf p h]; rfl
/-- A valid test at a packet. -/
def TH (t : Test) (p : Packet) : Prop := (decide (t.Lo ≤ pf p t.Field.toNat ∧ pf p t.Field.toNat ≤ t.Hi) != t.Not) = true
theorem spec_holds (t : Test) (p : Packet) : Dec (spec_TestHolds t p) (TV t ∧ PV p ∧ TH t p) :=
  (spec_test t).and fun ht => (spec_packet p).and fun hp => by
    have h := ht.1
    unfold TH
    obtain ⟨n, hn⟩ := Int.eq_ofNat_of_zero_le h.1
    rw [hn, spec_field hp (by omega), Int.toNat_natCast, Option.bind_some, in_dec]
    exact ⟨_, rfl, Iff.rfl⟩
theorem impl_holds {t : Test} (ht : TV t) (p : Packet) : Dec (impl_Test_holds t p) (TH t p) := by
  have h := ht.1
  unfold TH impl_Test_holds
  rw [impl_fields]
  obtain ⟨n, hn⟩ := Int.eq_ofNat_of_zero_le h.1
  simp only [Option.bind_some]
  rw [hn, idx_pf p (by omega), Int.toNat_natCast, Option.bind_some]
  refine ⟨_, ?_, Iff.rfl⟩
  by_cases a : t.Lo ≤ pf p n
  · rw [decide_eq_true a, cond_true]
    simp [a]
  · rw [decide_eq_false a, cond_false]
    simp [a]

/-! Rules. -/
def RuV (r : Rule) : Prop := TsV r.Tests ∧ (1 ≤ r.Action ∧ r.Action ≤ 5) ∧ ((r.Action = 3 ∧ 0 ≤ r.Chain ∧ r.Chain ≤ 4) ∨ (r.Action ≠ 3 ∧ r.Chain = 0))
theorem spec_rule {r : Rule} (h : r.Tests.length ≤ 9223372036854775807) : Dec (spec_RuleValid r) (RuV r) :=
  (spec_tests h).and fun _ => (in_Dec _ _ _).and fun _ => by
    by_cases e : r.Action = 3
    · rw [(by simp [e] : (r.Action == 3) = true), (by simp [e] : (r.Action != 3) = false), cond_true, in_dec, Option.bind_some, cond_false]
      by_cases c : 0 ≤ r.Chain ∧ r.Chain ≤ 4
      · rw [decide_eq_true c]; exact Dec.yes (.inl ⟨e, c⟩)
      · rw [decide_eq_false c]; exact Dec.no fun h => by omega
    · rw [(by simp [e] : (r.Action == 3) = false), (by simp [e] : (r.Action != 3) = true), cond_true, cond_false]
      refine Dec.mk ?_
      rw [beq_iff_eq]
      omega
theorem impl_rule {r : Rule} (h : r.Tests.length ≤ 9223372036854775807) : Dec (impl_RuleValid r) (RuV r) := by
  refine (impl_tests h).and fun _ => ?_
  by_cases e : r.Action = 3
  · rw [(by simp [e] : (r.Action == 3) = true), cond_true]
    refine Dec.iff (Dec.dand (P := 0 ≤ r.Chain) (Q := r.Chain < 5) fun _ => Dec.dec) ?_
    omega
  · rw [(by simp [e] : (r.Action == 3) = false), cond_false]
    have hc : ∀ (hh : 1 ≤ r.Action ∧ r.Action ≤ 5), Dec (some (r.Chain == 0)) ((1 ≤ r.Action ∧ r.Action ≤ 5) ∧ ((r.Action = 3 ∧ 0 ≤ r.Chain ∧ r.Chain ≤ 4) ∨ (r.Action ≠ 3 ∧ r.Chain = 0))) := fun hh => Dec.mk (by rw [beq_iff_eq]; omega)
    by_cases e1 : r.Action = 1
    · rw [(by simp [e1] : (r.Action == 1) = true), cond_true]; exact hc (by omega)
    rw [(by simp [e1] : (r.Action == 1) = false), cond_false]
    by_cases e2 : r.Action = 2
    · rw [(by simp [e2] : (r.Action == 2) = true), cond_true]; exact hc (by omega)
    rw [(by simp [e2] : (r.Action == 2) = false), cond_false]
    by_cases e4 : r.Action = 4
    · rw [(by simp [e4] : (r.Action == 4) = true), cond_true]; exact hc (by omega)
    rw [(by simp [e4] : (r.Action == 4) = false), cond_false]
    by_cases e5 : r.Action = 5
    · rw [(by simp [e5] : (r.Action == 5) = true), cond_true]; exact hc (by omega)
    rw [(by simp [e5] : (r.Action == 5) = false), cond_false]
    exact Dec.no fun h => by omega
def RsV (rs : List Rule) : Prop := (∀ r ∈ rs, RuV r) ∧ (rs.length : Int) ≤ 8
theorem spec_rules {xs : List Rule} (h : xs.length ≤ 9223372036854775807) (hs : ∀ x ∈ xs, x.Tests.length ≤ 9223372036854775807) : Dec (spec_RulesValid xs) (RsV xs) :=
  Dec.all_le (body := spec_RulesValid_L0 xs) h (fun x hx => spec_rule (hs x hx)) (fun _ => rfl)
theorem impl_rules {xs : List Rule} (h : xs.length ≤ 9223372036854775807) (hs : ∀ x ∈ xs, x.Tests.length ≤ 9223372036854775807) : Dec (impl_RulesValid xs) (RsV xs) :=
  Dec.le_all (body := impl_RulesValid_L0 xs) h (fun x hx => impl_rule (hs x hx)) (fun _ => rfl)
/-- The rule fits the packet. -/
def RF (r : Rule) (p : Packet) : Prop := RuV r ∧ PV p ∧ ∀ t ∈ r.Tests, TH t p
theorem spec_fits {r : Rule} (h : r.Tests.length ≤ 9223372036854775807) (p : Packet) : Dec (spec_RuleFits r p) (RF r p) :=
  Dec.iff ((spec_rule h).and fun _ => (Dec.all (body := spec_TestsHold_L0 r.Tests p) (P := fun t => TV t ∧ PV p ∧ TH t p) (Q := TsV r.Tests ∧ PV p) h (fun x _ => spec_holds x p)
    (fun _ => (spec_tests h).and fun _ => (spec_packet p).ret) (fun _ => rfl)).ret)
    ⟨fun ⟨a, b, _, d⟩ => ⟨a, d, fun t ht => (b t ht).2.2⟩, fun ⟨a, b, c⟩ => ⟨a, fun t ht => ⟨a.1.1 t ht, b, c t ht⟩, a.1, b⟩⟩
theorem impl_allhold {ts : List Test} (h : ts.length ≤ 9223372036854775807) (hv : ∀ t ∈ ts, TV t) (p : Packet) : Dec (impl_allHold ts p) (∀ t ∈ ts, TH t p) :=
  Dec.iff (Dec.all (body := impl_allHold_L0 ts p) (P := fun t => TH t p) (Q := True) h (fun x hx => impl_holds (hv x hx) p) (fun _ => Dec.yes trivial) (fun _ => rfl)) ⟨fun h => h.1, fun h => ⟨h, trivial⟩⟩
theorem impl_fits {r : Rule} (h : r.Tests.length ≤ 9223372036854775807) (p : Packet) : Dec (impl_RuleFits r p) (RF r p) :=
  (impl_rule h).and fun hr => (impl_packet p).and fun _ => (impl_allhold h hr.1.1 p).ret
theorem plain_FnExactRuleFits (a : Rule) (b : Packet) (ga : G_Rule a) (_gb : G_Packet b) : laws_FnExactRuleFits a b = some true := by
  have h := ga.1.1
  unfold laws_FnExactRuleFits
  rw [sz_Rule (by decide) (by decide) h, Option.bind_some]
  by_cases hs : wRule a ≤ 1048576
  · obtain ⟨r, e1, e2, _⟩ := (spec_fits h b).same (impl_fits h b)
    rw [left_pos hs, to_Rule hs, to_Packet]
    simp only [cond_false, Option.bind_some, e1, e2, eq_Rule _ _ h]
    simp
  · rw [left_neg hs]; rfl

/-! The first rule that fits. -/
def Fit (xs : List Rule) (p : Packet) (k : Nat) : Prop := RsV xs ∧ ∃ r, xs[k]? = some r ∧ RF r p
def First (xs : List Rule) (p : Packet) (m : Nat) (r : Int) : Prop := (∃ k : Nat, r = k ∧ m ≤ k ∧ Fit xs p k ∧ ∀ j, m ≤ j → j < k → ¬ Fit xs p j) ∨ (r = -1 ∧ ∀ j, m ≤ j → ¬ Fit xs p j)
theorem First.same {xs : List Rule} {p : Packet} {m : Nat} {r r' : Int} (h : First xs p m r) (h' : First xs p m r') : r = r' := by
  rcases h with ⟨k, rfl, h1, h2, h3⟩ | ⟨rfl, h1⟩ <;> rcases h' with ⟨k', rfl, h1', h2', h3'⟩ | ⟨rfl, h1'⟩
  · have a : ¬ k < k' := fun hlt => h3' k h1 hlt h2
    have b : ¬ k' < k := fun hlt => h3 k' h1' hlt h2'
    omega
  · exact absurd h2 (h1' k h1)
  · exact absurd h2' (h1 k' h1')
  · rfl
theorem first_gen {xs : List Rule} {p : Packet} {m : Nat} {body : Int → Option (SR Int Int)} (hm : m ≤ 9223372036854775807) (hn : xs.length ≤ 9223372036854775807)
    (hin : ∀ (k : Nat), k < xs.length → (∃ r, body (k : Int) = some (bif r then .ret (k : Int) else .nxt (W ((k : Int) + 1))) ∧ (r = true ↔ Fit xs p k)) ∨ (body (k : Int) = some (.brk (k : Int)) ∧ ¬ RsV xs))
    (hout : ∀ (k : Nat), xs.length ≤ k → body (k : Int) = some (.brk (k : Int))) :
    ∃ r, ((loopF body (((xs.length : Int)) - (m : Int)).toNat.succ (m : Int)).bind fun lr => lr.on (fun _ => some (-1)) (fun r => some r)) = some r ∧ First xs p m r := by
  obtain ⟨o, ho, hq⟩ := loop_gen (body := body) (max xs.length m) (fun k s => s = (k : Int) ∧ m ≤ k ∧ ∀ j, m ≤ j → j < k → ¬ Fit xs p j)
    (fun o => (∃ k, o = .brk k ∧ First xs p m (-1)) ∨ ∃ r, o = .ret r ∧ First xs p m r)
    (fun k s hk ⟨h1, h2, h3⟩ => by
      subst h1
      rcases hin k (by omega) with ⟨r, hr, hi⟩ | ⟨hr, hv⟩
      · rw [hr]
        cases r with
        | true => exact .inr (.inl ⟨_, rfl, .inr ⟨_, rfl, .inl ⟨k, rfl, h2, hi.1 rfl, h3⟩⟩⟩)
        | false =>
          refine .inl ⟨_, by rw [cond_false, W_succ (by omega)], rfl, by omega, fun j h4 h5 => ?_⟩
          by_cases e : j = k
          · subst e; exact fun hf => by simpa using hi.2 hf
          · exact h3 j h4 (by omega)
      · rw [hr]
        exact .inr (.inr ⟨_, rfl, .inl ⟨_, rfl, .inr ⟨rfl, fun j _ hf => hv hf.1⟩⟩⟩))
    (fun s ⟨h1, h2, h3⟩ => by
      subst h1
      refine .inl ⟨_, hout _ (by omega), .inl ⟨_, rfl, .inr ⟨rfl, fun j h4 hf => ?_⟩⟩⟩
      obtain ⟨_, r, hr, _⟩ := hf
      have : j < xs.length := (List.getElem?_eq_some_iff.1 hr).1
      exact h3 j h4 (by omega) ⟨by assumption, r, hr, by assumption⟩)
    (max xs.length m - m) m (((xs.length : Int)) - (m : Int)).toNat.succ (m : Int) (by omega) (by omega) ⟨rfl, Nat.le_refl _, fun j h1 h2 => by omega⟩
  rw [ho]
  rcases hq with ⟨k, rfl, h⟩ | ⟨r, rfl, h⟩
  · exact ⟨_, rfl, h⟩
  · exact ⟨_, rfl, h⟩
theorem plain_FnExactFirstFit (a : List Rule) (n : Int) (p : Packet) (ga : GAll G_Rule a) (gn : GInt n) (_gp : G_Packet p) : laws_FnExactFirstFit a n p = some true := by
  have hs : ∀ x ∈ a, x.Tests.length ≤ 9223372036854775807 := fun x hx => (ga.2 x hx).1.1
  have key : ∃ r, spec_FirstFit a n p = some r ∧ impl_FirstFit a n p = some r := by
    by_cases h0 : n < 0
    · refine ⟨-1, ?_, ?_⟩
      · unfold spec_FirstFit
        have : spec_FirstFit_L0 a p n = some (.brk n) := by
          unfold spec_FirstFit_L0
          rw [decide_eq_false (by omega)]; rfl
        rw [show loopF (spec_FirstFit_L0 a p) (((a.length : Int)) - n).toNat.succ n = (spec_FirstFit_L0 a p n).bind _ from rfl, this]; rfl
      · unfold impl_FirstFit
        rw [decide_eq_true h0]; rfl
    · obtain ⟨m, rfl⟩ := Int.eq_ofNat_of_zero_le (by omega : 0 ≤ n)
      have hm : m ≤ 9223372036854775807 := by have := gn.2; omega
      obtain ⟨rv, ev, hv⟩ := spec_rules ga.1 hs
      obtain ⟨r, e, hr⟩ := first_gen (body := spec_FirstFit_L0 a p) (p := p) hm ga.1 (fun k hk => by
        unfold spec_FirstFit_L0
        rw [decide_eq_true (by omega : (0 : Int) ≤ (k : Int)), decide_eq_true (by omega : (k : Int) < (a.length : Int)), ev]
        simp only [cond_true, Option.bind_some]
        cases rv with
        | true =>
          obtain ⟨q, eq, hq⟩ := spec_fits (hs _ (List.getElem_mem hk)) p
          simp only [cond_true, idx_get hk, Option.bind_some, eq]
          refine .inl ⟨q, by cases q <;> rfl, hq.trans ⟨fun hf => ⟨hv.1 rfl, _, List.getElem?_eq_getElem hk, hf⟩, fun ⟨_, x, hx, hf⟩ => ?_⟩⟩
          rw [List.getElem?_eq_getElem hk] at hx
          rw [Option.some.inj hx]; exact hf
        | false => exact .inr ⟨rfl, fun h => by simpa using hv.2 h⟩)
        (fun k hk => by
          unfold spec_FirstFit_L0
          rw [decide_eq_true (by omega : (0 : Int) ≤ (k : Int)), decide_eq_false (by omega)]; rfl)
      refine ⟨r, e, ?_⟩
      unfold impl_FirstFit
      rw [decide_eq_false h0, cond_false]
      obtain ⟨rv', ev', hv'⟩ := impl_rules ga.1 hs
      obtain ⟨pv, ep, hp⟩ := impl_packet p
      rw [ev', Option.bind_some]
      cases rv' with
      | false =>
        rw [cond_false]
        rw [First.same hr (.inr ⟨rfl, fun j _ hf => by simpa using hv'.2 hf.1⟩)]
      | true =>
        rw [cond_true, ep, Option.bind_some]
        cases pv with
        | false =>
          rw [cond_false]
          rw [First.same hr (.inr ⟨rfl, fun j _ hf => by obtain ⟨_, x, _, hf⟩ := hf; simpa using hp.2 hf.2.1⟩)]
        | true =>
          rw [cond_true]
          obtain ⟨r', e', hr'⟩ := first_gen (body := impl_FirstFit_L0 a p) (p := p) hm ga.1 (fun k hk => by
            unfold impl_FirstFit_L0
            rw [decide_eq_true (by omega : (k : Int) < (a.length : Int))]
            have hru := (hv'.1 rfl).1 _ (List.getElem_mem hk)
            obtain ⟨q, eq, hq⟩ := impl_allhold (hs _ (List.getElem_mem hk)) hru.1.1 p
            simp only [cond_true, idx_get hk, Option.bind_some, eq]
            refine .inl ⟨q, by cases q <;> rfl, hq.trans ⟨fun hf => ⟨hv'.1 rfl, _, List.getElem?_eq_getElem hk, hru, hp.1 rfl, hf⟩, fun ⟨_, x, hx, hf⟩ => ?_⟩⟩
            rw [List.getElem?_eq_getElem hk] at hx
            rw [Option.some.inj hx]; exact hf.2.2)
            (fun k hk => by
              unfold impl_FirstFit_L0
              rw [decide_eq_false (by omega)]; rfl)
          rw [e', First.same hr hr']
  unfold laws_FnExactFirstFit
  rw [sz_RuleS (by decide) (by decide) ga.1 hs, Option.bind_some]
  by_cases h : wRuleS a ≤ 1048576
  · have hm := wtL_small h
    obtain ⟨r, e1, e2⟩ := key
    rw [left_pos h, to_RuleS hm.1 (fun x hx => hm.2 x hx), to_Packet]
    simp only [cond_false, Option.bind_some, e1, e2, eq_RuleS _ _ ga.1 hs]
    simp
  · rw [left_neg h]; rfl

/-! A packet in a box. -/
def SH (xs : List Span) (v : Int) : Prop := ∃ x ∈ xs, x.Lo ≤ v ∧ v ≤ x.Hi
theorem spec_have {xs : List Span} (h : xs.length ≤ 9223372036854775807) (v : Int) : Dec (spec_SpansHave xs v) (SH xs v) :=
  Dec.any (body := spec_SpansHave_L0 xs v) h (fun k hk => by
    unfold spec_SpansHave_L0
    rw [decide_eq_true (by omega : (k : Int) < (xs.length : Int)), idx_get hk]
    simp only [cond_true, Option.bind_some, in_dec]
    exact ⟨decide (xs[k].Lo ≤ v ∧ v ≤ xs[k].Hi), by cases decide (xs[k].Lo ≤ v ∧ v ≤ xs[k].Hi) <;> rfl, by simp⟩)
    (by unfold spec_SpansHave_L0; rw [decide_eq_false (by omega)]; rfl)
theorem impl_have {xs : List Span} (h : xs.length ≤ 9223372036854775807) (v : Int) : Dec (impl_SpansHave xs v) (SH xs v) :=
  Dec.any (body := impl_SpansHave_L0 xs v) h (fun k hk => by
    unfold impl_SpansHave_L0
    rw [decide_eq_true (by omega : (k : Int) < (xs.length : Int)), idx_get hk]
    simp only [cond_true, Option.bind_some]
    refine ⟨decide (xs[k].Lo ≤ v ∧ v ≤ xs[k].Hi), ?_, by simp⟩
    by_cases a : xs[k].Lo ≤ v <;> by_cases b : v ≤ xs[k].Hi <;> simp [a, b])
    (by unfold impl_SpansHave_L0; rw [decide_eq_false (by omega)]; rfl)
def BH (b : Box) (p : Packet) : Prop := ∀ k, k < 4 → ∃ xs, b.Sides[k]? = some xs ∧ SH xs (pf p k)
theorem bh_at {b : Box} {p : Packet} {k : Nat} (hk : k < b.Sides.length) : SH b.Sides[k] (pf p k) ↔ ∃ xs, b.Sides[k]? = some xs ∧ SH xs (pf p k) :=
  ⟨fun h => ⟨_, List.getElem?_eq_getElem hk, h⟩, fun ⟨xs, e, h⟩ => by rw [List.getElem?_eq_getElem hk] at e; rw [Option.some.inj e]; exact h⟩
theorem spec_has {b : Box} (hb : OkBox b) (p : Packet) : Dec (spec_BoxHas b p) (BV b ∧ PV p ∧ BH b p) :=
  (spec_box hb).and fun hv => (spec_packet p).and fun hp => Dec.upto (body := spec_BoxHas_L0 b p) (n := 4) (by decide) (fun k hk => by
    have hl : k < b.Sides.length := by have := hv.1; omega
    unfold spec_BoxHas_L0
    rw [decide_eq_true (by omega : (k : Int) < 4), idx_get hl, spec_field hp hk]
    obtain ⟨r, e, hr⟩ := spec_have (hb.2 _ (List.getElem_mem hl)) (pf p k)
    simp only [cond_true, Option.bind_some, e]
    exact ⟨r, by cases r <;> rfl, hr.trans (bh_at hl)⟩) rfl
theorem impl_has {b : Box} (hb : OkBox b) (p : Packet) : Dec (impl_BoxHas b p) (BV b ∧ PV p ∧ BH b p) :=
  (impl_box hb).and fun hv => (impl_packet p).and fun hp => by
    rw [impl_sides hv.1, Option.bind_some]
    refine Dec.ret ?_
    unfold impl_sides_has
    rw [impl_fields, Option.bind_some]
    exact Dec.upto (body := impl_sides_has_L0 b.Sides [p.From, p.To, p.Port, p.Proto]) (n := 4) (by decide) (fun k hk => by
      have hl : k < b.Sides.length := by have := hv.1; omega
      unfold impl_sides_has_L0
      rw [decide_eq_true (by omega : (k : Int) < 4), idx_get hl, idx_pf p hk]
      obtain ⟨r, e, hr⟩ := impl_have (hb.2 _ (List.getElem_mem hl)) (pf p k)
      simp only [cond_true, Option.bind_some, e]
      exact ⟨r, by cases r <;> rfl, hr.trans (bh_at hl)⟩) rfl
theorem plain_FnExactBoxHas (a : Box) (p : Packet) (ga : G_Box a) (_gp : G_Packet p) : laws_FnExactBoxHas a p = some true := by
  have ha := ok_of_G ga
  unfold laws_FnExactBoxHas
  rw [sz_Box (by decide) (by decide) ha, Option.bind_some]
  by_cases hs : wBox a ≤ 1048576
  · have hm := sm_Box hs
    obtain ⟨r, e1, e2, _⟩ := (spec_has ha p).same (impl_has ha p)
    rw [left_pos hs, to_Box hm, to_Packet]
    simp only [cond_false, Option.bind_some, e1, e2, eq_Box _ _ ha]
    simp
  · rw [left_neg hs]; rfl
end Go.PF.F
