import Derived.Test.YtgglogmjjaahhaaDoorPFPlain
import Derived.Test.YtgglogmjjaahhaaDoorFun
/- Plain laws of the program's small functions. -/
namespace Go.PF.F
open Go Go.PF

/-! What an argument is, whatever it is. -/
/-! Sizes are counted. -/
def OkBox (b : Box) : Prop := b.Sides.length ≤ 9223372036854775807 ∧ ∀ x ∈ b.Sides, x.length ≤ 9223372036854775807
/-! A copy is what it copies. -/
theorem make_len {α : Type} {z : α} {n : Nat} (h : n ≤ 4294967296) : makeF z (n : Int) = some (List.replicate n z) := by
  unfold makeF
  rw [if_pos (by omega)]; rfl
/-! Equality. -/
end Go.PF.F

/- Plain laws: validity. -/
namespace Go.PF.F
open Go Go.PF

/-- The answer is whether P. -/
def Dec (o : Option Bool) (P : Prop) : Prop := ∃ r, o = some r ∧ (r = true ↔ P)
theorem Dec.mk {b : Bool} {P : Prop} (h : b = true ↔ P) : Dec (some b) P := ⟨b, rfl, h⟩
theorem Dec.no {P : Prop} (h : ¬ P) : Dec (some false) P := ⟨false, rfl, by simp [h]⟩
theorem Dec.yes {P : Prop} (h : P) : Dec (some true) P := ⟨true, rfl, by simp [h]⟩

/-- The spans lie in [0, top], in order, apart. -/
def SV (xs : List Span) (top : Int) (n : Nat) : Prop := ∀ (i : Nat) (x : Span), i < n → xs[i]? = some x → 0 ≤ x.Lo ∧ x.Lo ≤ x.Hi ∧ x.Hi ≤ top ∧ ∀ p, 0 < i → xs[i - 1]? = some p → p.Hi + 2 ≤ x.Lo
def SVP (xs : List Span) (top : Int) : Prop := (0 ≤ top ∧ top ≤ 65535) ∧ xs.length ≤ 40 ∧ SV xs top xs.length
theorem SV.succ {xs : List Span} {top : Int} {k : Nat} (h : SV xs top k) {x : Span} (hx : xs[k]? = some x) (h1 : 0 ≤ x.Lo ∧ x.Lo ≤ x.Hi ∧ x.Hi ≤ top) (h2 : ∀ p, 0 < k → xs[k - 1]? = some p → p.Hi + 2 ≤ x.Lo) : SV xs top (k + 1) := by
  intro i y hi hy
  by_cases e : i = k
  · subst e
    obtain rfl : x = y := Option.some.inj (hx.symm.trans hy)
    exact ⟨h1.1, h1.2.1, h1.2.2, h2⟩
  · exact h i y (by omega) hy

theorem in_dec (n lo hi : Int) : spec_l1In n lo hi = some (decide (lo ≤ n ∧ n ≤ hi)) := by
  unfold spec_l1In
  by_cases h : lo ≤ n <;> by_cases h2 : n ≤ hi <;> simp [h, h2]
/-- The highest value of field number i. -/
def topOf (i : Nat) : Int := if i = 0 then 65535 else if i = 1 then 65535 else if i = 2 then 255 else if i = 3 then 7 else -1
theorem spec_top (k : Nat) : spec_FieldTop (k : Int) = some (topOf k) := by
  unfold spec_FieldTop topOf
  by_cases h0 : k = 0
  · subst h0; rfl
  by_cases h1 : k = 1
  · subst h1; rfl
  by_cases h2 : k = 2
  · subst h2; rfl
  by_cases h3 : k = 3
  · subst h3; rfl
  rw [if_neg h0, if_neg h1, if_neg h2, if_neg h3]
  rw [(by simp; omega : ((k : Int) == 0) = false), (by simp; omega : ((k : Int) == 1) = false), (by simp; omega : ((k : Int) == 2) = false), (by simp; omega : ((k : Int) == 3) = false)]; rfl
theorem impl_top (k : Nat) : impl_FieldTop (k : Int) = some (topOf k) := by
  unfold impl_FieldTop topOf
  by_cases h0 : k = 0
  · subst h0; rfl
  by_cases h1 : k = 1
  · subst h1; rfl
  by_cases h2 : k = 2
  · subst h2; rfl
  by_cases h3 : k = 3
  · subst h3; rfl
  rw [if_neg h0, if_neg h1, if_neg h2, if_neg h3]
  rw [decide_eq_false (by omega : ¬ (k : Int) < 0), decide_eq_true (by omega : (4 : Int) ≤ (k : Int))]; rfl

/-- The box is valid. -/
def BV (b : Box) : Prop := b.Sides.length = 4 ∧ ∀ (i : Nat) xs, b.Sides[i]? = some xs → SVP xs (topOf i)
end Go.PF.F

/- Plain laws: lists of valid things; packets; tests. -/
namespace Go.PF.F
open Go Go.PF

theorem Dec.and {m k : Option Bool} {P Q : Prop} (h : Dec m P) (hk : P → Dec k Q) : Dec (m.bind fun r => bif r then k else some false) (P ∧ Q) := by
  obtain ⟨r, rfl, hr⟩ := h
  cases r with
  | true =>
    obtain ⟨q, e, hq⟩ := hk (hr.1 rfl)
    exact ⟨q, by simpa using e, by rw [hq]; exact ⟨fun h => ⟨hr.1 rfl, h⟩, fun h => h.2⟩⟩
  | false => exact ⟨false, rfl, by simp; intro hp; exact absurd (hr.2 hp) (by simp)⟩
theorem Dec.ret {m : Option Bool} {P : Prop} (h : Dec m P) : Dec (m.bind fun x => some x) P := by
  obtain ⟨r, rfl, hr⟩ := h
  exact ⟨r, rfl, hr⟩
theorem Dec.iff {m : Option Bool} {P Q : Prop} (h : Dec m P) (e : P ↔ Q) : Dec m Q := by
  obtain ⟨r, rfl, hr⟩ := h
  exact ⟨r, rfl, hr.trans e⟩
theorem Dec.dec {P : Prop} [Decidable P] : Dec (some (decide P)) P := ⟨_, rfl, by simp⟩
theorem Dec.band {b : Bool} {k : Option Bool} {P Q : Prop} (h : b = true ↔ P) (hk : P → Dec k Q) : Dec (bif b then k else some false) (P ∧ Q) := Dec.and (m := some b) ⟨b, rfl, h⟩ hk
theorem Dec.dand {k : Option Bool} {P Q : Prop} [Decidable P] (hk : P → Dec k Q) : Dec (bif decide P then k else some false) (P ∧ Q) := Dec.band (by simp) hk

/-- Every element. -/
theorem Dec.all {α : Type} {xs : List α} {g : α → Option Bool} {P : α → Prop} {K : Option Bool} {Q : Prop} {body : Int → Option (SR Int Bool)} (hn : xs.length ≤ 9223372036854775807)
    (hg : ∀ x ∈ xs, Dec (g x) (P x)) (hK : (∀ x ∈ xs, P x) → Dec K Q)
    (hb : ∀ k, body k = bif (decide (k < (xs.length : Int))) then (idx xs k).bind fun x1 => (g x1).bind fun x2 => bif x2 then some (.nxt (W (k + 1))) else some (.ret false) else some (.brk k)) :
    Dec ((loopF body (((xs.length : Int)) - 0).toNat.succ 0).bind fun lr => lr.on (fun _ => K) (fun r => some r)) ((∀ x ∈ xs, P x) ∧ Q) := by
  obtain ⟨o, ho, hq⟩ := loop_idx (body := body) xs.length (fun k s => s = (k : Int) ∧ ∀ x ∈ xs.take k, P x)
    (fun o => (∃ k, o = .brk k ∧ ∀ x ∈ xs, P x) ∨ (o = .ret false ∧ ¬ ∀ x ∈ xs, P x)) (s := 0) ⟨rfl, by simp⟩
    (fun k s hk ⟨h1, h2⟩ => by
      subst h1
      have e1 : ((k : Int) < (xs.length : Int)) := by omega
      obtain ⟨r, hr, hi⟩ := hg xs[k] (List.getElem_mem hk)
      rw [hb, decide_eq_true e1, idx_get hk]
      simp only [cond_true, Option.bind_some, hr]
      cases r with
      | true =>
        refine .inl ⟨_, by rw [cond_true, W_succ (by omega)], rfl, fun x hx => ?_⟩
        rw [List.take_add_one, List.getElem?_eq_getElem hk] at hx
        rcases List.mem_append.1 hx with h | h
        · exact h2 x h
        · simp at h; subst h; exact hi.1 rfl
      | false => exact .inr (.inl ⟨false, rfl, .inr ⟨rfl, fun h => by simpa using hi.2 (h _ (List.getElem_mem hk))⟩⟩))
    (fun s ⟨h1, h2⟩ => by
      subst h1
      rw [List.take_of_length_le (Nat.le_refl _)] at h2
      refine .inl ⟨(xs.length : Int), ?_, .inl ⟨_, rfl, h2⟩⟩
      rw [hb, decide_eq_false (by omega)]; rfl)
  rw [ho]
  rcases hq with ⟨k, rfl, h⟩ | ⟨rfl, h⟩
  · obtain ⟨q, e, hq⟩ := hK h
    exact ⟨q, by simpa [LR.on] using e, by rw [hq]; exact ⟨fun x => ⟨h, x⟩, fun x => x.2⟩⟩
  · exact Dec.no fun x => h x.1
/-- The spec's way: every element, and then not too many. -/
theorem Dec.all_le {α : Type} {xs : List α} {g : α → Option Bool} {P : α → Prop} {c : Int} {body : Int → Option (SR Int Bool)} (hn : xs.length ≤ 9223372036854775807)
    (hg : ∀ x ∈ xs, Dec (g x) (P x))
    (hb : ∀ k, body k = bif (decide (k < (xs.length : Int))) then (idx xs k).bind fun x1 => (g x1).bind fun x2 => bif x2 then some (.nxt (W (k + 1))) else some (.ret false) else some (.brk k)) :
    Dec ((loopF body (((xs.length : Int)) - 0).toNat.succ 0).bind fun lr => lr.on (fun _ => some (decide ((xs.length : Int) ≤ c))) (fun r => some r)) ((∀ x ∈ xs, P x) ∧ (xs.length : Int) ≤ c) :=
  Dec.all hn hg (fun _ => Dec.dec) hb
/-- The program's way: not too many, and then every element. -/
theorem Dec.le_all {α : Type} {xs : List α} {g : α → Option Bool} {P : α → Prop} {c : Int} {body : Int → Option (SR Int Bool)} (hn : xs.length ≤ 9223372036854775807)
    (hg : ∀ x ∈ xs, Dec (g x) (P x))
    (hb : ∀ k, body k = bif (decide (k < (xs.length : Int))) then (idx xs k).bind fun x1 => (g x1).bind fun x2 => bif x2 then some (.nxt (W (k + 1))) else some (.ret false) else some (.brk k)) :
    Dec (bif decide (c < (xs.length : Int)) then some false else (loopF body (((xs.length : Int)) - 0).toNat.succ 0).bind fun lr => lr.on (fun _ => some true) (fun r => some r)) ((∀ x ∈ xs, P x) ∧ (xs.length : Int) ≤ c) := by
  by_cases h : c < (xs.length : Int)
  · rw [decide_eq_true h]
    exact Dec.no fun x => by omega
  · rw [decide_eq_false h, cond_false]
    exact (Dec.all hn hg (fun _ => Dec.yes trivial) hb).iff ⟨fun x => ⟨x.1, by omega⟩, fun x => ⟨x.1, trivial⟩⟩

/-! Regions and flats. -/
def RV (xs : List Box) : Prop := (∀ x ∈ xs, BV x) ∧ (xs.length : Int) ≤ 400
/-! An empty box. -/
/-! Packets. -/
def PV (p : Packet) : Prop := (0 ≤ p.From ∧ p.From ≤ 65535) ∧ (0 ≤ p.To ∧ p.To ≤ 65535) ∧ (0 ≤ p.Port ∧ p.Port ≤ 255) ∧ 0 ≤ p.Proto ∧ p.Proto ≤ 7
theorem in_Dec (n lo hi : Int) : Dec (spec_l1In n lo hi) (lo ≤ n ∧ n ≤ hi) := by rw [in_dec]; exact Dec.dec
theorem spec_packet (p : Packet) : Dec (spec_PacketValid p) (PV p) :=
  (in_Dec _ _ _).and fun _ => (in_Dec _ _ _).and fun _ => (in_Dec _ _ _).and fun _ => (in_Dec _ _ _).ret
theorem impl_fields (p : Packet) : impl_Packet_fields p = some [p.From, p.To, p.Port, p.Proto] := rfl
theorem impl_packet (p : Packet) : Dec (impl_PacketValid p) (PV p) := by
  unfold impl_PacketValid
  rw [impl_fields]
  simp only [Option.bind_some]
  obtain ⟨o, ho, hq⟩ := loop_idx (body := impl_PacketValid_L0 [p.From, p.To, p.Port, p.Proto]) 4 (fun k s => s = (k : Int) ∧ ∀ (i : Nat) v, i < k → [p.From, p.To, p.Port, p.Proto][i]? = some v → 0 ≤ v ∧ v ≤ topOf i)
    (fun o => (∃ k, o = .brk k ∧ PV p) ∨ (o = .ret false ∧ ¬ PV p)) (s := 0) ⟨rfl, fun i v h => by omega⟩
    (fun k s hk ⟨h1, h2⟩ => by
      subst h1
      have e1 : ((k : Int) < 4) := by omega
      have hkl : k < [p.From, p.To, p.Port, p.Proto].length := hk
      unfold impl_PacketValid_L0
      simp only [decide_eq_true e1, cond_true, idx_get hkl, Option.bind_some, impl_top]
      have hpv : PV p → 0 ≤ [p.From, p.To, p.Port, p.Proto][k] ∧ [p.From, p.To, p.Port, p.Proto][k] ≤ topOf k := by
        intro h
        unfold PV at h
        match k, hk with
        | 0, _ => exact h.1
        | 1, _ => exact h.2.1
        | 2, _ => exact h.2.2.1
        | 3, _ => exact h.2.2.2
      by_cases a1 : [p.From, p.To, p.Port, p.Proto][k] < 0
      · rw [decide_eq_true a1]
        exact .inr (.inl ⟨false, rfl, .inr ⟨rfl, fun h => by have := hpv h; omega⟩⟩)
      · rw [decide_eq_false a1, cond_false]
        by_cases a2 : topOf k < [p.From, p.To, p.Port, p.Proto][k]
        · rw [decide_eq_true a2]
          exact .inr (.inl ⟨false, rfl, .inr ⟨rfl, fun h => by have := hpv h; omega⟩⟩)
        · rw [decide_eq_false a2, cond_false]
          refine .inl ⟨_, by rw [W_succ (by omega)], rfl, fun i v hi hv => ?_⟩
          by_cases e : i = k
          · subst e
            rw [List.getElem?_eq_getElem hkl] at hv
            have := Option.some.inj hv
            omega
          · exact h2 i v (by omega) hv)
    (fun s ⟨h1, h2⟩ => by
      subst h1
      refine .inl ⟨4, rfl, .inl ⟨_, rfl, ?_⟩⟩
      exact ⟨h2 0 _ (by decide) rfl, h2 1 _ (by decide) rfl, h2 2 _ (by decide) rfl, h2 3 _ (by decide) rfl⟩)
  rw [show ((4 : Int) - 0).toNat.succ = (((4 : Nat) : Int) - 0).toNat.succ from rfl, ho]
  rcases hq with ⟨k, rfl, h⟩ | ⟨rfl, h⟩
  · exact Dec.yes h
  · exact Dec.no h
end Go.PF.F

/- Plain laws: tests, rules, packets in boxes. -/
namespace Go.PF.F
open Go Go.PF

/-- Some element. -/
theorem Dec.any {α : Type} {xs : List α} {P : α → Prop} {body : Int → Option (SR Int Bool)} (hn : xs.length ≤ 9223372036854775807)
    (hb : ∀ (k : Nat) (h : k < xs.length), ∃ r, body (k : Int) = some (bif r then .ret true else .nxt (W ((k : Int) + 1))) ∧ (r = true ↔ P xs[k]))
    (he : body (xs.length : Int) = some (.brk (xs.length : Int))) :
    Dec ((loopF body (((xs.length : Int)) - 0).toNat.succ 0).bind fun lr => lr.on (fun _ => some false) (fun r => some r)) (∃ x ∈ xs, P x) := by
  obtain ⟨o, ho, hq⟩ := loop_idx (body := body) xs.length (fun k s => s = (k : Int) ∧ ∀ x ∈ xs.take k, ¬ P x)
    (fun o => (∃ k, o = .brk k ∧ ¬ ∃ x ∈ xs, P x) ∨ (o = .ret true ∧ ∃ x ∈ xs, P x)) (s := 0) ⟨rfl, by simp⟩
    (fun k s hk ⟨h1, h2⟩ => by
      subst h1
      obtain ⟨r, hr, hi⟩ := hb k hk
      rw [hr]
      cases r with
      | true => exact .inr (.inl ⟨true, rfl, .inr ⟨rfl, _, List.getElem_mem hk, hi.1 rfl⟩⟩)
      | false =>
        refine .inl ⟨_, by rw [cond_false, W_succ (by omega)], rfl, fun x hx => ?_⟩
        rw [List.take_add_one, List.getElem?_eq_getElem hk] at hx
        rcases List.mem_append.1 hx with h | h
        · exact h2 x h
        · simp at h; subst h; exact fun hp => by simpa using hi.2 hp)
    (fun s ⟨h1, h2⟩ => by
      subst h1
      rw [List.take_of_length_le (Nat.le_refl _)] at h2
      exact .inl ⟨_, he, .inl ⟨_, rfl, fun ⟨x, hx, hp⟩ => h2 x hx hp⟩⟩)
  rw [ho]
  rcases hq with ⟨k, rfl, h⟩ | ⟨rfl, h⟩
  · exact Dec.no h
  · exact Dec.yes h
/-! Tests. -/
def TV (t : Test) : Prop := (0 ≤ t.Field ∧ t.Field ≤ 3) ∧ (0 ≤ t.Lo ∧ t.Lo ≤ t.Hi) ∧ t.Hi ≤ topOf t.Field.toNat
theorem spec_test (t : Test) : Dec (spec_TestValid t) (TV t) :=
  (in_Dec _ _ _).and fun h => (in_Dec _ _ _).and fun _ => by
    obtain ⟨n, hn⟩ := Int.eq_ofNat_of_zero_le h.1
    rw [hn, spec_top, Int.toNat_natCast]
    exact Dec.dec
theorem impl_test (t : Test) : Dec (impl_TestValid t) (TV t) := by
  refine Dec.iff (Dec.dand (P := 0 ≤ t.Field) (Q := t.Field < 4 ∧ 0 ≤ t.Lo ∧ t.Lo ≤ t.Hi ∧ t.Hi ≤ topOf t.Field.toNat) fun h => Dec.dand fun _ => Dec.dand fun _ => Dec.dand fun _ => ?_) ?_
  · obtain ⟨n, hn⟩ := Int.eq_ofNat_of_zero_le h
    rw [hn, impl_top, Int.toNat_natCast]
    exact Dec.dec
  · unfold TV
    constructor
    · intro h; omega
    · intro h; omega
def TsV (ts : List Test) : Prop := (∀ t ∈ ts, TV t) ∧ (ts.length : Int) ≤ 6
theorem spec_tests {xs : List Test} (h : xs.length ≤ 9223372036854775807) : Dec (spec_TestsValid xs) (TsV xs) :=
  Dec.all_le (body := spec_TestsValid_L0 xs) h (fun x _ => spec_test x) (fun _ => rfl)
theorem impl_tests {xs : List Test} (h : xs.length ≤ 9223372036854775807) : Dec (impl_TestsValid xs) (TsV xs) :=
  Dec.le_all (body := impl_TestsValid_L0 xs) h (fun x _ => impl_test x) (fun _ => rfl)

/-- Field number i of a packet. -/
def pf (p : Packet) (i : Nat) : Int := if i = 0 then p.From else if i = 1 then p.To else if i = 2 then p.Port else p.Proto
theorem idx_pf (p : Packet) {i : Nat} (h : i < 4) : idx [p.From, p.To, p.Port, p.Proto] (i : Int) = some (pf p i) := by
  match i, h with
  | 0, _ => rfl
  | 1, _ => rfl
  | 2, _ => rfl
  | 3, _ => rfl
theorem spec_field {p : Packet} (hp : PV p) {i : Nat} (h : i < 4) : spec_PacketField p (i : Int) = some (pf p i) := by
  unfold spec_PacketField
  obtain ⟨r, e, hr⟩ := spec_packet p
  rw [e, hr.2 hp]
  simp only [Option.bind_some, cond_true, in_dec]
  rw [decide_eq_true (by omega : (0 : Int) ≤ (i : Int) ∧ (i : Int) ≤ 3), cond_true, idx_pf p h]; rfl
/-- A valid test at a packet. -/
def TH (t : Test) (p : Packet) : Prop := (decide (t.Lo ≤ pf p t.Field.toNat ∧ pf p t.Field.toNat ≤ t.Hi) != t.Not) = true
theorem spec_holds (t : Test) (p : Packet) : Dec (spec_TestHolds t p) (TV t ∧ PV p ∧ TH t p) :=
  (spec_test t).and fun ht => (spec_packet p).and fun hp => by
    have h := ht.1
    unfold TH
    obtain ⟨n, hn⟩ := Int.eq_ofNat_of_zero_le h.1
    rw [hn, spec_field hp (by omega), Int.toNat_natCast, Option.bind_some, in_dec]
    exact ⟨_, rfl, Iff.rfl⟩
theorem impl_holds {t : Test} (ht : TV t) (p : Packet) : Dec (impl_Test_holds t p) (TH t p) := by
  have h := ht.1
  unfold TH impl_Test_holds
  rw [impl_fields]
  obtain ⟨n, hn⟩ := Int.eq_ofNat_of_zero_le h.1
  simp only [Option.bind_some]
  rw [hn, idx_pf p (by omega), Int.toNat_natCast, Option.bind_some]
  refine ⟨_, ?_, Iff.rfl⟩
  by_cases a : t.Lo ≤ pf p n
  · rw [decide_eq_true a, cond_true]
    simp [a]
  · rw [decide_eq_false a, cond_false]
    simp [a]

/-! Rules. -/
def RuV (r : Rule) : Prop := TsV r.Tests ∧ (1 ≤ r.Action ∧ r.Action ≤ 5) ∧ ((r.Action = 3 ∧ 0 ≤ r.Chain ∧ r.Chain ≤ 4) ∨ (r.Action ≠ 3 ∧ r.Chain = 0))
theorem spec_rule {r : Rule} (h : r.Tests.length ≤ 9223372036854775807) : Dec (spec_RuleValid r) (RuV r) :=
  (spec_tests h).and fun _ => (in_Dec _ _ _).and fun _ => by
    by_cases e : r.Action = 3
    · rw [(by simp [e] : (r.Action == 3) = true), (by simp [e] : (r.Action != 3) = false), cond_true, in_dec, Option.bind_some, cond_false]
      by_cases c : 0 ≤ r.Chain ∧ r.Chain ≤ 4
      · rw [decide_eq_true c]; exact Dec.yes (.inl ⟨e, c⟩)
      · rw [decide_eq_false c]; exact Dec.no fun h => by omega
    · rw [(by simp [e] : (r.Action == 3) = false), (by simp [e] : (r.Action != 3) = true), cond_true, cond_false]
      refine Dec.mk ?_
      rw [beq_iff_eq]
      omega
theorem impl_rule {r : Rule} (h : r.Tests.length ≤ 9223372036854775807) : Dec (impl_RuleValid r) (RuV r) := by
  refine (impl_tests h).and fun _ => ?_
  by_cases e : r.Action = 3
  · rw [(by simp [e] : (r.Action == 3) = true), cond_true]
    refine Dec.iff (Dec.dand (P := 0 ≤ r.Chain) (Q := r.Chain < 5) fun _ => Dec.dec) ?_
    omega
  · rw [(by simp [e] : (r.Action == 3) = false), cond_false]
    have hc : ∀ (hh : 1 ≤ r.Action ∧ r.Action ≤ 5), Dec (some (r.Chain == 0)) ((1 ≤ r.Action ∧ r.Action ≤ 5) ∧ ((r.Action = 3 ∧ 0 ≤ r.Chain ∧ r.Chain ≤ 4) ∨ (r.Action ≠ 3 ∧ r.Chain = 0))) := fun hh => Dec.mk (by rw [beq_iff_eq]; omega)
    by_cases e1 : r.Action = 1
    · rw [(by simp [e1] : (r.Action == 1) = true), cond_true]; exact hc (by omega)
    rw [(by simp [e1] : (r.Action == 1) = false), cond_false]
    by_cases e2 : r.Action = 2
    · rw [(by simp [e2] : (r.Action == 2) = true), cond_true]; exact hc (by omega)
    rw [(by simp [e2] : (r.Action == 2) = false), cond_false]
    by_cases e4 : r.Action = 4
    · rw [(by simp [e4] : (r.Action == 4) = true), cond_true]; exact hc (by omega)
    rw [(by simp [e4] : (r.Action == 4) = false), cond_false]
    by_cases e5 : r.Action = 5
    · rw [(by simp [e5] : (r.Action == 5) = true), cond_true]; exact hc (by omega)
    rw [(by simp [e5] : (r.Action == 5) = false), cond_false]
    exact Dec.no fun h => by omega
def RsV (rs : List Rule) : Prop := (∀ r ∈ rs, RuV r) ∧ (rs.length : Int) ≤ 8
theorem spec_rules {xs : List Rule} (h : xs.length ≤ 9223372036854775807) (hs : ∀ x ∈ xs, x.Tests.length ≤ 9223372036854775807) : Dec (spec_RulesValid xs) (RsV xs) :=
  Dec.all_le (body := spec_RulesValid_L0 xs) h (fun x hx => spec_rule (hs x hx)) (fun _ => rfl)
theorem impl_rules {xs : List Rule} (h : xs.length ≤ 9223372036854775807) (hs : ∀ x ∈ xs, x.Tests.length ≤ 9223372036854775807) : Dec (impl_RulesValid xs) (RsV xs) :=
  Dec.le_all (body := impl_RulesValid_L0 xs) h (fun x hx => impl_rule (hs x hx)) (fun _ => rfl)
theorem impl_allhold {ts : List Test} (h : ts.length ≤ 9223372036854775807) (hv : ∀ t ∈ ts, TV t) (p : Packet) : Dec (impl_allHold ts p) (∀ t ∈ ts, TH t p) :=
  Dec.iff (Dec.all (body := impl_allHold_L0 ts p) (P := fun t => TH t p) (Q := True) h (fun x hx => impl_holds (hv x hx) p) (fun _ => Dec.yes trivial) (fun _ => rfl)) ⟨fun h => h.1, fun h => ⟨h, trivial⟩⟩
/-! The first rule that fits. -/
/-! A packet in a box. -/
end Go.PF.F

/- Plain laws: a box's first packet. -/
namespace Go.PF.F
open Go Go.PF

theorem w12 : W ((1 : Int) + 1) = 2 := rfl
theorem w23 : W ((2 : Int) + 1) = 3 := rfl
theorem w34 : W ((3 : Int) + 1) = 4 := rfl
end Go.PF.F

/- Plain laws: loops whose rounds are known; lists by their parts. -/
namespace Go.PF.F
open Go Go.PF

/-- A loop that comes nearer to its end with each round. -/
theorem loop_wf {σ ρ : Type} {body : σ → Option (SR σ ρ)} (I : σ → Prop) (μ : σ → Nat) (Q : LR σ ρ → Prop)
    (step : ∀ s, I s → (∃ s', body s = some (.nxt s') ∧ I s' ∧ μ s' < μ s) ∨ (∃ s', body s = some (.brk s') ∧ Q (.brk s')) ∨ ∃ r, body s = some (.ret r) ∧ Q (.ret r)) :
    ∀ (fuel : Nat) (s : σ), I s → μ s < fuel → ∃ o, loopF body fuel s = some o ∧ Q o := by
  intro fuel
  induction fuel with
  | zero => intro s _ h; omega
  | succ n ih =>
    intro s hI hm
    unfold loopF
    rcases step s hI with ⟨s', hb, hi, hl⟩ | ⟨s', hb, hq⟩ | ⟨r, hb, hq⟩
    · rw [hb]; exact ih s' hi (by omega)
    · exact ⟨.brk s', by rw [hb]; rfl, hq⟩
    · exact ⟨.ret r, by rw [hb]; rfl, hq⟩
theorem loop_gets {σ ρ : Type} {body : σ → Option (SR σ ρ)} (m : Nat) (st : Nat → σ) (hs : ∀ k, k < m → body (st k) = some (.nxt (st (k + 1)))) {fuel : Nat} (hf : m < fuel) :
    ∃ f, loopF body fuel (st 0) = (body (st m)).bind (SR.after (loopF body f)) := by
  induction m generalizing st fuel with
  | zero =>
    obtain ⟨f, rfl⟩ : ∃ f, fuel = f + 1 := ⟨fuel - 1, by omega⟩
    exact ⟨f, rfl⟩
  | succ m ih =>
    obtain ⟨f, rfl⟩ : ∃ f, fuel = f + 1 := ⟨fuel - 1, by omega⟩
    obtain ⟨f', e⟩ := ih (fun k => st (k + 1)) (fun k hk => hs (k + 1) (by omega)) (fuel := f) (by omega)
    refine ⟨f', ?_⟩
    unfold loopF
    rw [hs 0 (by omega)]
    exact e
theorem loop_brk {σ ρ : Type} {body : σ → Option (SR σ ρ)} (m : Nat) (st : Nat → σ) (s : σ) (hs : ∀ k, k < m → body (st k) = some (.nxt (st (k + 1)))) (he : body (st m) = some (.brk s)) {fuel : Nat} (hf : m < fuel) :
    loopF body fuel (st 0) = some (.brk s) := by
  obtain ⟨f, e⟩ := loop_gets m st hs hf
  rw [e, he]; rfl
theorem loop_ret {σ ρ : Type} {body : σ → Option (SR σ ρ)} (m : Nat) (st : Nat → σ) (r : ρ) (hs : ∀ k, k < m → body (st k) = some (.nxt (st (k + 1)))) (he : body (st m) = some (.ret r)) {fuel : Nat} (hf : m < fuel) :
    loopF body fuel (st 0) = some (.ret r) := by
  obtain ⟨f, e⟩ := loop_gets m st hs hf
  rw [e, he]; rfl

theorem drop_cases {α : Type} (a : List α) (k : Nat) (h : k ≤ a.length) :
    (a.drop k = [] ∧ k = a.length) ∨ ∃ x t, a.drop k = x :: t ∧ k < a.length ∧ idx a (k : Int) = some x ∧ a.drop (k + 1) = t := by
  rcases Nat.lt_or_ge k a.length with hl | hl
  · refine .inr ⟨a[k], a.drop (k + 1), List.drop_eq_getElem_cons hl, hl, idx_get hl, rfl⟩
  · exact .inl ⟨List.drop_eq_nil_iff.2 hl, by omega⟩
theorem lt_true {a b : Int} (h : a < b) : decide (a < b) = true := decide_eq_true h
theorem lt_false {a b : Int} (h : b ≤ a) : decide (a < b) = false := decide_eq_false (by omega)
theorem le_true {a b : Int} (h : a ≤ b) : decide (a ≤ b) = true := decide_eq_true h
theorem le_false {a b : Int} (h : b < a) : decide (a ≤ b) = false := decide_eq_false (by omega)
theorem app_ok {α : Type} {xs ys : List α} (h : xs.length + ys.length ≤ 4294967296) : appF xs ys = some (xs ++ ys) := by
  unfold appF; rw [if_pos h]
theorem app_nil {α : Type} {ys : List α} (h : ys.length ≤ 4294967296) : appF [] ys = some ys := by
  rw [app_ok (by simpa using h)]; rfl
theorem take_snoc {α : Type} {a : List α} {k : Nat} {x : α} (h : a[k]? = some x) : a.take (k + 1) = a.take k ++ [x] := by
  rw [List.take_add_one, h]; rfl

end Go.PF.F

/- Plain laws: which chains call which; orders of chains. -/
namespace Go.PF.F
open Go Go.PF

theorem loop_brk0 {σ ρ : Type} {body : σ → Option (SR σ ρ)} (m : Nat) (st : Nat → σ) {s0 s : σ} (h0 : s0 = st 0) (hs : ∀ k, k < m → body (st k) = some (.nxt (st (k + 1)))) (he : body (st m) = some (.brk s)) {fuel : Nat} (hf : m < fuel) :
    loopF body fuel s0 = some (.brk s) := by
  rw [h0]; exact loop_brk m st s hs he hf
/-- The rules call chain d. -/
def called (rs : List Rule) (d : Nat) : Bool := rs.any fun r => r.Action == 3 && r.Chain == (d : Int)
/-- The rules of chain c. -/
def ch (cs : List (List Rule)) (c : Nat) : List Rule := cs[c]?.getD []
theorem ch_get {cs : List (List Rule)} {c : Nat} (h : c < cs.length) : cs[c]? = some (ch cs c) := by
  unfold ch; rw [List.getElem?_eq_getElem h]; rfl
theorem ch_idx {cs : List (List Rule)} {c : Nat} (h : c < cs.length) : idx cs (c : Int) = some (ch cs c) := by rw [idx_nat, ch_get h]
theorem ch_mem {cs : List (List Rule)} {c : Nat} (h : c < cs.length) : ch cs c ∈ cs := List.mem_of_getElem? (ch_get h)
/-- Chain c calls chain d. -/
def Calls (cs : List (List Rule)) (c d : Nat) : Prop := called (ch cs c) d = true
theorem called_app (xs : List Rule) (r : Rule) (d : Nat) : called (xs ++ [r]) d = (called xs d || (r.Action == 3 && r.Chain == (d : Int))) := by
  unfold called; rw [List.any_append]; simp
theorem called_mem {rs : List Rule} {d : Nat} : called rs d = true ↔ ∃ r ∈ rs, r.Action = 3 ∧ r.Chain = (d : Int) := by
  unfold called; simp [List.any_eq_true]
/-- Chains that stay below their number, and at most five. -/
structure CB (cs : List (List Rule)) : Prop where
  n1 : 1 ≤ cs.length
  n5 : cs.length ≤ 5
  rv : ∀ rs ∈ cs, RsV rs
  lt : ∀ rs ∈ cs, ∀ r ∈ rs, r.Chain < (cs.length : Int)
/-- No way from a chain leads on for ever. -/
def Ends (cs : List (List Rule)) (c : Nat) : Prop := Acc (fun d c => Calls cs c d) c
/-- Every chain has a rank above what it calls. -/
def Rank (cs : List (List Rule)) (ρ : Nat → Nat) : Prop := (∀ c, c < cs.length → ρ c < cs.length) ∧ ∀ c d, c < cs.length → Calls cs c d → d < cs.length ∧ ρ d < ρ c
theorem CB.callee {cs : List (List Rule)} (h : CB cs) {c d : Nat} (hc : c < cs.length) (e : Calls cs c d) : d < cs.length := by
  obtain ⟨r, hr, _, hd⟩ := called_mem.1 e
  have := h.lt _ (ch_mem hc) r hr
  omega

/-! Orders. -/
def rdy (rs : List Rule) (o : List Nat) : Bool := rs.all fun r => r.Action != 3 || o.contains r.Chain.toNat
def stepO (cs : List (List Rule)) (o : List Nat) (c : Nat) : List Nat := if !o.contains c && rdy (ch cs c) o then o ++ [c] else o
def roundO (cs : List (List Rule)) (o : List Nat) : List Nat := (List.range cs.length).foldl (stepO cs) o
def roundsO (cs : List (List Rule)) (k : Nat) : List Nat := (List.range k).foldl (fun o _ => roundO cs o) []
def orderO (cs : List (List Rule)) : List Nat := roundsO cs cs.length
theorem rdy_iff {rs : List Rule} {o : List Nat} (h : ∀ r ∈ rs, r.Action = 3 → 0 ≤ r.Chain) : rdy rs o = true ↔ ∀ d, called rs d = true → d ∈ o := by
  unfold rdy
  rw [List.all_eq_true]
  constructor
  · intro hh d hd
    obtain ⟨r, hr, ha, hc⟩ := called_mem.1 hd
    have := hh r hr
    rw [ha, hc] at this
    simpa using this
  · intro hh r hr
    by_cases ha : r.Action = 3
    · have h0 := h r hr ha
      have := hh r.Chain.toNat (called_mem.2 ⟨r, hr, ha, by omega⟩)
      simp [this]
    · simp [ha]
theorem RsV.chain {rs : List Rule} (h : RsV rs) {r : Rule} (hr : r ∈ rs) : 0 ≤ r.Chain ∧ r.Chain ≤ 4 := by
  have := (h.1 r hr).2.2; omega
theorem CB.rdy {cs : List (List Rule)} (h : CB cs) {c : Nat} (hc : c < cs.length) {o : List Nat} : rdy (ch cs c) o = true ↔ ∀ d, Calls cs c d → d ∈ o :=
  rdy_iff fun _ hr _ => ((h.rv _ (ch_mem hc)).chain hr).1
/-- An order: behind what they call, once. -/
def Topo (cs : List (List Rule)) (o : List Nat) : Prop := ∀ (i c : Nat), o[i]? = some c → c < cs.length ∧ rdy (ch cs c) (o.take i) = true ∧ c ∉ o.take i
theorem Topo.step {cs : List (List Rule)} {o : List Nat} (h : Topo cs o) {c : Nat} (hc : c < cs.length) : Topo cs (stepO cs o c) := by
  unfold stepO
  split
  · rename_i hh
    simp only [Bool.and_eq_true, Bool.not_eq_true', List.contains_eq_mem, decide_eq_false_iff_not] at hh
    intro i x hx
    rw [List.getElem?_append] at hx
    split at hx
    · rename_i hi
      rw [List.take_append_of_le_length (by omega)]
      exact h i x hx
    · rename_i hi
      have : i = o.length := by
        have := (List.getElem?_eq_some_iff.1 hx).1
        simp at this; omega
      subst this
      simp only [Nat.sub_self, List.getElem?_cons_zero, Option.some.injEq] at hx
      subst hx
      rw [List.take_append_of_le_length (by omega), List.take_length]
      exact ⟨hc, hh.2, hh.1⟩
  · exact h
theorem stepO_pre (cs : List (List Rule)) (o : List Nat) (c : Nat) : o <+: stepO cs o c := by
  unfold stepO
  split
  · exact List.prefix_append _ _
  · exact List.prefix_refl _
theorem fold_pre (cs : List (List Rule)) (l : List Nat) : ∀ o, o <+: l.foldl (stepO cs) o := by
  induction l with
  | nil => intro o; exact List.prefix_refl _
  | cons a t ih => intro o; exact (stepO_pre cs o a).trans (ih _)
theorem Topo.fold {cs : List (List Rule)} (l : List Nat) (hl : ∀ c ∈ l, c < cs.length) : ∀ {o : List Nat}, Topo cs o → Topo cs (l.foldl (stepO cs) o) := by
  induction l with
  | nil => intro o h; exact h
  | cons a t ih => intro o h; exact ih (fun c hc => hl c (List.mem_cons_of_mem _ hc)) (h.step (hl a (List.mem_cons_self ..)))
theorem Topo.round {cs : List (List Rule)} {o : List Nat} (h : Topo cs o) : Topo cs (roundO cs o) := h.fold _ fun _c hc => List.mem_range.1 hc
theorem rounds_succ (cs : List (List Rule)) (k : Nat) : roundsO cs (k + 1) = roundO cs (roundsO cs k) := by
  unfold roundsO; rw [List.range_succ, List.foldl_append]; rfl
theorem Topo.rounds (cs : List (List Rule)) : ∀ k, Topo cs (roundsO cs k)
  | 0 => fun i c h => by simp [roundsO] at h
  | k + 1 => by rw [rounds_succ]; exact (Topo.rounds cs k).round
theorem rdy_mono {rs : List Rule} {o o' : List Nat} (h : o ⊆ o') (hr : rdy rs o = true) : rdy rs o' = true := by
  unfold rdy at *
  rw [List.all_eq_true] at *
  intro r hm
  have := hr r hm
  simp only [List.contains_eq_mem, Bool.or_eq_true, decide_eq_true_eq] at *
  exact this.imp_right fun x => h x
theorem fold_has (cs : List (List Rule)) (l : List Nat) : ∀ (o : List Nat) (c : Nat), c ∈ l → rdy (ch cs c) o = true → c ∈ l.foldl (stepO cs) o := by
  induction l with
  | nil => intro o c h; cases h
  | cons a t ih =>
    intro o c hc hr
    rcases List.mem_cons.1 hc with rfl | hc
    · refine (fold_pre cs t _).subset ?_
      unfold stepO
      by_cases hm : c ∈ o
      · rw [if_neg (by simp [hm])]; exact hm
      · rw [if_pos (by simp [hm, hr])]; simp
    · exact ih _ c hc (rdy_mono (stepO_pre cs o a).subset hr)
/-- How many of the first m lie in the order. -/
theorem count_snoc (o : List Nat) (c : Nat) (h : c ∉ o) : ∀ m, (List.range m).countP (fun x => decide (x ∈ o ++ [c])) = (List.range m).countP (fun x => decide (x ∈ o)) + if c < m then 1 else 0
  | 0 => rfl
  | m + 1 => by
    rw [List.range_succ, List.countP_append, List.countP_append, count_snoc o c h m]
    by_cases hm : m = c
    · subst hm
      simp [h]
    · by_cases hc : c < m
      · rw [if_pos hc, if_pos (by omega)]
        simp [hm]; omega
      · rw [if_neg hc, if_neg (by omega)]
        simp [hm]
theorem Topo.count {cs : List (List Rule)} : ∀ (n : Nat) (o : List Nat), o.length = n → Topo cs o → (List.range cs.length).countP (fun x => decide (x ∈ o)) = n := by
  intro n
  induction n with
  | zero =>
    intro o h _
    rw [List.length_eq_zero_iff.1 h]
    simp
  | succ n ih =>
    intro o h ht
    obtain ⟨o', c, rfl⟩ : ∃ o' c, o = o' ++ [c] := by
      rcases List.eq_nil_or_concat o with e | ⟨a, b, e⟩
      · rw [e] at h; cases h
      · exact ⟨a, b, by rw [e, List.concat_eq_append]⟩
    have hl : o'.length = n := by simpa using h
    have hc := ht o'.length c (by simp)
    rw [List.take_append_of_le_length (by omega), List.take_length] at hc
    rw [count_snoc o' c hc.2.2, if_pos hc.1, ih o' hl]
    intro i x hx
    have hi := (List.getElem?_eq_some_iff.1 hx).1
    have := ht i x (by rw [List.getElem?_append, if_pos hi]; exact hx)
    rwa [List.take_append_of_le_length (by omega)] at this
theorem Topo.le {cs : List (List Rule)} {o : List Nat} (h : Topo cs o) : o.length ≤ cs.length := by
  have := h.count _ o rfl
  have h2 := List.countP_le_length (p := fun x => decide (x ∈ o)) (l := List.range cs.length)
  rw [List.length_range] at h2
  omega
theorem Topo.full {cs : List (List Rule)} {o : List Nat} (h : Topo cs o) : o.length = cs.length ↔ ∀ c, c < cs.length → c ∈ o := by
  have := h.count _ o rfl
  constructor
  · intro hl c hc
    have h2 : (List.range cs.length).countP (fun x => decide (x ∈ o)) = (List.range cs.length).length := by rw [this, List.length_range, hl]
    simpa using List.countP_eq_length.1 h2 c (List.mem_range.2 hc)
  · intro ha
    rw [← this, ← List.length_range (n := cs.length)]
    rw [List.length_range]
    refine (List.countP_eq_length.2 fun c hc => ?_).trans List.length_range
    simpa using ha c (List.mem_range.1 hc)
theorem next_one {cs : List (List Rule)} (hb : CB cs) {o : List Nat} (he : ∀ c, c < cs.length → Ends cs c) : ∀ c, c < cs.length → c ∉ o → ∃ m, m < cs.length ∧ m ∉ o ∧ rdy (ch cs m) o = true := by
  intro c hc
  have ha := he c hc
  unfold Ends at ha
  induction ha with
  | intro c _ ih =>
    intro hn
    by_cases hr : rdy (ch cs c) o = true
    · exact ⟨c, hc, hn, hr⟩
    · rw [hb.rdy hc] at hr
      rw [Classical.not_forall] at hr
      obtain ⟨d, hd⟩ := hr
      rw [Classical.not_imp] at hd
      exact ih d hd.1 (hb.callee hc hd.1) hd.2
theorem rounds_len {cs : List (List Rule)} (hb : CB cs) (he : ∀ c, c < cs.length → Ends cs c) : ∀ k, k ≤ cs.length → k ≤ (roundsO cs k).length := by
  intro k
  induction k with
  | zero => intro _; exact Nat.zero_le _
  | succ k ih =>
    intro hk
    have h1 := ih (by omega)
    rw [rounds_succ]
    have hp : roundsO cs k <+: roundO cs (roundsO cs k) := fold_pre cs _ _
    by_cases hall : ∀ c, c < cs.length → c ∈ roundsO cs k
    · have := ((Topo.rounds cs k).full).2 hall
      have := hp.length_le
      omega
    · rw [Classical.not_forall] at hall
      obtain ⟨c, hc⟩ := hall
      rw [Classical.not_imp] at hc
      obtain ⟨m, hm, hn, hr⟩ := next_one hb he c hc.1 hc.2
      have hin : m ∈ roundO cs (roundsO cs k) := fold_has cs _ _ m (List.mem_range.2 hm) hr
      have hl := hp.length_le
      by_cases hq : (roundO cs (roundsO cs k)).length ≤ (roundsO cs k).length
      · rw [← hp.eq_of_length_le hq] at hin
        exact absurd hin hn
      · omega
theorem Topo.ends {cs : List (List Rule)} (hb : CB cs) {o : List Nat} (h : Topo cs o) : ∀ (i c : Nat), o[i]? = some c → Ends cs c := by
  intro i
  induction i using Nat.strongRecOn with
  | ind i ih =>
    intro c hc
    have ht := h i c hc
    refine Acc.intro _ fun d hd => ?_
    obtain ⟨j, hj, e⟩ := List.mem_take_iff_getElem.1 ((hb.rdy ht.1).1 ht.2.1 d hd)
    exact ih j (by omega) d (by rw [List.getElem?_eq_getElem (by omega), e])
/-- The order is whole just when all ways end. -/
theorem order_full {cs : List (List Rule)} (hb : CB cs) : (orderO cs).length = cs.length ↔ ∀ c, c < cs.length → Ends cs c := by
  have ht : Topo cs (orderO cs) := Topo.rounds cs _
  constructor
  · intro hl c hc
    obtain ⟨i, hi⟩ := List.mem_iff_getElem?.1 (ht.full.1 hl c hc)
    exact ht.ends hb i c hi
  · intro he
    have := rounds_len hb he _ (Nat.le_refl _)
    have := ht.le
    unfold orderO at *
    omega
theorem Topo.once {cs : List (List Rule)} {o : List Nat} (h : Topo cs o) {i j c : Nat} (hi : o[i]? = some c) (hj : o[j]? = some c) : i = j := by
  rcases Nat.lt_trichotomy i j with hlt | rfl | hlt
  · exact absurd (List.mem_take_iff_getElem.2 ⟨i, by have := (List.getElem?_eq_some_iff.1 hi).1; omega, (List.getElem?_eq_some_iff.1 hi).2⟩) (h j c hj).2.2
  · rfl
  · exact absurd (List.mem_take_iff_getElem.2 ⟨j, by have := (List.getElem?_eq_some_iff.1 hj).1; omega, (List.getElem?_eq_some_iff.1 hj).2⟩) (h i c hi).2.2
theorem ends_rank {cs : List (List Rule)} (hb : CB cs) (he : ∀ c, c < cs.length → Ends cs c) : ∃ ρ, Rank cs ρ := by
  have ht : Topo cs (orderO cs) := Topo.rounds cs _
  have hl := (order_full hb).2 he
  have hin : ∀ c, c < cs.length → ∃ i : Nat, (orderO cs)[i]? = some c := fun c hc => List.mem_iff_getElem?.1 (ht.full.1 hl c hc)
  have hx : ∀ c, ∃ i : Nat, c < cs.length → (orderO cs)[i]? = some c := fun c => by
    by_cases hc : c < cs.length
    · obtain ⟨i, hi⟩ := hin c hc; exact ⟨i, fun _ => hi⟩
    · exact ⟨0, fun h => absurd h hc⟩
  refine ⟨fun c => Classical.choose (hx c), fun c hc => ?_, fun c d hc e => ?_⟩
  · have := (List.getElem?_eq_some_iff.1 (Classical.choose_spec (hx c) hc)).1
    simp only; omega
  · have hd := hb.callee hc e
    refine ⟨hd, ?_⟩
    have h1 := Classical.choose_spec (hx c) hc
    have h2 := Classical.choose_spec (hx d) hd
    have := ht _ _ h1
    obtain ⟨j, hj, ej⟩ := List.mem_take_iff_getElem.1 ((hb.rdy hc).1 this.2.1 d e)
    have hj2 : (orderO cs)[j]? = some d := by rw [List.getElem?_eq_getElem (by omega), ej]
    have := ht.once h2 hj2
    simp only; omega
end Go.PF.F
