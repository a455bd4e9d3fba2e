/- Plain laws: which chains call which; orders of chains. -/
import Derived.Test.YtadlmencjbangaaDoorPlG
namespace Go.PF.F
open Go Go.PF

theorem loop_brk0 {σ ρ : Type} {body : σ → Option (SR σ ρ)} (m : Nat) (st : Nat → σ) {s0 s : σ} (h0 : s0 = st 0) (hs : ∀ k, k < m → body (st k) = some (.nxt (st (k + 1)))) (he : body (st m) = some (.brk s)) {fuel : Nat} (hf : m < fuel) :
    loopF body fuel s0 = some (.brk s) := by
  rw [h0]; exact loop_brk m st s hs he hf
/-- The rules call chain d. -/
def called (rs : List Rule) (d : Nat) : Bool := rs.any fun r => r.Action == 3 && r.Chain == (d : Int)
/-- The rules of chain c. -/
def ch (cs : List (List Rule)) (c : Nat) : List Rule := cs[c]?.getD []
theorem ch_get {cs : List (List Rule)} {c : Nat} (h : c < cs.length) : cs[c]? = some (ch cs c) := by
  unfold ch; rw [List.getElem?_eq_getElem h]; rfl
theorem ch_mem {cs : List (List Rule)} {c : Nat} (h : c < cs.length) : ch cs c ∈ cs := List.mem_of_getElem? (ch_get h)
/-- Chain c calls chain d. -/
def Calls (cs : List (List Rule)) (c d : Nat) : Prop := called (ch cs c) d = true
theorem called_mem {rs : List Rule} {d : Nat} : called rs d = true ↔ ∃ r ∈ rs, r.Action = 3 ∧ r.Chain = (d : Int) := by
  unfold called; simp [List.any_eq_true]
/-- Chains that stay below their number, and at most five. -/
structure CB (cs : List (List Rule)) : Prop where
  n1 : 1 ≤ cs.length
  n5 : cs.length ≤ 5
  rv : ∀ rs ∈ cs, RsV rs
  lt : ∀ rs ∈ cs, ∀ r ∈ rs, r.Chain < (cs.length : Int)
theorem CB.callee {cs : List (List Rule)} (h : CB cs) {c d : Nat} (hc : c < cs.length) (e : Calls cs c d) : d < cs.length := by
  obtain ⟨r, hr, _, hd⟩ := called_mem.1 e
  have := h.lt _ (ch_mem hc) r hr
  omega

/-! Orders. -/
def rdy (rs : List Rule) (o : List Nat) : Bool := rs.all fun r => r.Action != 3 || o.contains r.Chain.toNat
def stepO (cs : List (List Rule)) (o : List Nat) (c : Nat) : List Nat := if !o.contains c && rdy (ch cs c) o then o ++ [c] else o
def roundO (cs : List (List Rule)) (o : List Nat) : List Nat := (List.range cs.length).foldl (stepO cs) o
def roundsO (cs : List (List Rule)) (k : Nat) : List Nat := (List.range k).foldl (fun o _ => roundO cs o) []
theorem rdy_iff {rs : List Rule} {o : List Nat} (h : ∀ r ∈ rs, r.Action = 3 → 0 ≤ r.Chain) : rdy rs o = true ↔ ∀ d, called rs d = true → d ∈ o := by
  unfold rdy
  rw [List.all_eq_true]
  constructor
  · intro hh d hd
    obtain ⟨r, hr, ha, hc⟩ := called_mem.1 hd
    have := hh r hr
    rw [ha, hc] at this
    simpa using this
  · intro hh r hr
    by_cases ha : r.Action = 3
    · have h0 := h r hr ha
      have := hh r.Chain.toNat (called_mem.2 ⟨r, hr, ha, by omega⟩)
      simp [this]
    · simp [ha]
theorem RsV.chain {rs : List Rule} (h : RsV rs) {r : Rule} (hr : r ∈ rs) : 0 ≤ r.Chain ∧ r.Chain ≤ 4 := by
  have := (h.1 r hr).2.2; omega
theorem CB.rdy {cs : List (List Rule)} (h : CB cs) {c : Nat} (hc : c < cs.length) {o : List Nat} : rdy (ch cs c) o = true ↔ ∀ d, Calls cs c d → d ∈ o :=
  rdy_iff fun _ hr _ => ((h.rv _ (ch_mem hc)).chain hr).1
/-- An order: behind what they call, once. -/
def Topo (cs : List (List Rule)) (o : List Nat) : Prop := ∀ (i c : Nat), o[i]? = some c → c < cs.length ∧ rdy (ch cs c) (o.take i) = true ∧ c ∉ o.take i
theorem Topo.step {cs : List (List Rule)} {o : List Nat} (h : Topo cs o) {c : Nat} (hc : c < cs.length) : Topo cs (stepO cs o c) := by
  unfold stepO
  split
  · rename_i hh
    simp only [Bool.and_eq_true, Bool.not_eq_true', List.contains_eq_mem, decide_eq_false_iff_not] at hh
    intro i x hx
    rw [List.getElem?_append] at hx
    split at hx
    · rename_i hi
      rw [List.take_append_of_le_length (by omega)]
      exact h i x hx
    · rename_i hi
      have : i = o.length := by
        have := (List.getElem?_eq_some_iff.1 hx).1
        simp at this; omega
      subst this
      simp only [Nat.sub_self, List.getElem?_cons_zero, Option.some.injEq] at hx
      subst hx
      rw [List.take_append_of_le_length (by omega), List.take_length]
      exact ⟨hc, hh.2, hh.1⟩
  · exact h
theorem Topo.fold {cs : List (List Rule)} (l : List Nat) (hl : ∀ c ∈ l, c < cs.length) : ∀ {o : List Nat}, Topo cs o → Topo cs (l.foldl (stepO cs) o) := by
  induction l with
  | nil => intro o h; exact h
  | cons a t ih => intro o h; exact ih (fun c hc => hl c (List.mem_cons_of_mem _ hc)) (h.step (hl a (List.mem_cons_self ..)))
theorem Topo.round {cs : List (List Rule)} {o : List Nat} (h : Topo cs o) : Topo cs (roundO cs o) := h.fold _ fun _c hc => List.mem_range.1 hc
theorem rounds_succ (cs : List (List Rule)) (k : Nat) : roundsO cs (k + 1) = roundO cs (roundsO cs k) := by
  unfold roundsO; rw [List.range_succ, List.foldl_append]; rfl
theorem Topo.rounds (cs : List (List Rule)) : ∀ k, Topo cs (roundsO cs k)
  | 0 => fun i c h => by simp [roundsO] at h
  | k + 1 => by rw [rounds_succ]; exact (Topo.rounds cs k).round
/-- How many of the first m lie in the order. -/
theorem count_snoc (o : List Nat) (c : Nat) (h : c ∉ o) : ∀ m, (List.range m).countP (fun x => decide (x ∈ o ++ [c])) = (List.range m).countP (fun x => decide (x ∈ o)) + if c < m then 1 else 0
  | 0 => rfl
  | m + 1 => by
    rw [List.range_succ, List.countP_append, List.countP_append, count_snoc o c h m]
    by_cases hm : m = c
    · subst hm
      simp [h]
    · by_cases hc : c < m
      · rw [if_pos hc, if_pos (by omega)]
        simp [hm]; omega
      · rw [if_neg hc, if_neg (by omega)]
        simp [hm]
theorem Topo.count {cs : List (List Rule)} : ∀ (n : Nat) (o : List Nat), o.length = n → Topo cs o → (List.range cs.length).countP (fun x => decide (x ∈ o)) = n := by
  intro n
  induction n with
  | zero =>
    intro o h _
    rw [List.length_eq_zero_iff.1 h]
    simp
  | succ n ih =>
    intro o h ht
    obtain ⟨o', c, rfl⟩ : ∃ o' c, o = o' ++ [c] := by
      rcases List.eq_nil_or_concat o with e | ⟨a, b, e⟩
      · rw [e] at h; cases h
      · exact ⟨a, b, by rw [e, List.concat_eq_append]⟩
    have hl : o'.length = n := by simpa using h
    have hc := ht o'.length c (by simp)
    rw [List.take_append_of_le_length (by omega), List.take_length] at hc
    rw [count_snoc o' c hc.2.2, if_pos hc.1, ih o' hl]
    intro i x hx
    have hi := (List.getElem?_eq_some_iff.1 hx).1
    have := ht i x (by rw [List.getElem?_append, if_pos hi]; exact hx)
    rwa [List.take_append_of_le_length (by omega)] at this
theorem Topo.le {cs : List (List Rule)} {o : List Nat} (h : Topo cs o) : o.length ≤ cs.length := by
  have := h.count _ o rfl
  have h2 := List.countP_le_length (p := fun x => decide (x ∈ o)) (l := List.range cs.length)
  rw [List.length_range] at h2
  omega
theorem Topo.full {cs : List (List Rule)} {o : List Nat} (h : Topo cs o) : o.length = cs.length ↔ ∀ c, c < cs.length → c ∈ o := by
  have := h.count _ o rfl
  constructor
  · intro hl c hc
    have h2 : (List.range cs.length).countP (fun x => decide (x ∈ o)) = (List.range cs.length).length := by rw [this, List.length_range, hl]
    simpa using List.countP_eq_length.1 h2 c (List.mem_range.2 hc)
  · intro ha
    rw [← this, ← List.length_range (n := cs.length)]
    rw [List.length_range]
    refine (List.countP_eq_length.2 fun c hc => ?_).trans List.length_range
    simpa using ha c (List.mem_range.1 hc)
theorem Topo.once {cs : List (List Rule)} {o : List Nat} (h : Topo cs o) {i j c : Nat} (hi : o[i]? = some c) (hj : o[j]? = some c) : i = j := by
  rcases Nat.lt_trichotomy i j with hlt | rfl | hlt
  · exact absurd (List.mem_take_iff_getElem.2 ⟨i, by have := (List.getElem?_eq_some_iff.1 hi).1; omega, (List.getElem?_eq_some_iff.1 hi).2⟩) (h j c hj).2.2
  · rfl
  · exact absurd (List.mem_take_iff_getElem.2 ⟨j, by have := (List.getElem?_eq_some_iff.1 hj).1; omega, (List.getElem?_eq_some_iff.1 hj).2⟩) (h i c hi).2.2
end Go.PF.F
