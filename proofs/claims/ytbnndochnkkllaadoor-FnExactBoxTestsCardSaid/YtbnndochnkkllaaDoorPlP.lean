/- Plain laws: which chains call which; orders of chains. -/
import Derived.Test.YtbnndochnkkllaaDoorPlG
namespace Go.PF.F
open Go Go.PF

theorem loop_brk0 {σ ρ : Type} {body : σ → Option (SR σ ρ)} (m : Nat) (st : Nat → σ) {s0 s : σ} (h0 : s0 = st 0) (hs : ∀ k, k < m → body (st k) = some (.nxt (st (k + 1)))) (he : body (st m) = some (.brk s)) {fuel : Nat} (hf : m < fuel) :
    loopF body fuel s0 = some (.brk s) := by
  rw [h0]; exact loop_brk m st s hs he hf
/-- The rules call chain d. -/
def called (rs : List Rule) (d : Nat) : Bool := rs.any fun r => r.Action == 3 && r.Chain == (d : Int)
/-- The rules of chain c. -/
def ch (cs : List (List Rule)) (c : Nat) : List Rule := cs[c]?.getD []
theorem ch_get {cs : List (List Rule)} {c : Nat} (h : c < cs.length) : cs[c]? = some (ch cs c) := by
  unfold ch; rw [List.getElem?_eq_getElem h]; rfl
theorem ch_idx {cs : List (List Rule)} {c : Nat} (h : c < cs.length) : idx cs (c : Int) = some (ch cs c) := by rw [idx_nat, ch_get h]
theorem ch_mem {cs : List (List Rule)} {c : Nat} (h : c < cs.length) : ch cs c ∈ cs := List.mem_of_getElem? (ch_get h)
/-- Chain c calls chain d. -/
def Calls (cs : List (List Rule)) (c d : Nat) : Prop := called (ch cs c) d = true
theorem called_app (xs : List Rule) (r : Rule) (d : Nat) : called (xs ++ [r]) d = (called xs d || (r.Action == 3 && r.Chain == (d : Int))) := by
  unfold called; rw [List.any_append]; simp
theorem called_mem {rs : List Rule} {d : Nat} : called rs d = true ↔ ∃ r ∈ rs, r.Action = 3 ∧ r.Chain = (d : Int) := by
  unfold called; simp [List.any_eq_true]
/-- Chains that stay below their number, and at most five. -/
structure CB (cs : List (List Rule)) : Prop where
  n1 : 1 ≤ cs.length
  n5 : cs.length ≤ 5
  rv : ∀ rs ∈ cs, RsV rs
  lt : ∀ rs ∈ cs, ∀ r ∈ rs, r.Chain < (cs.length : Int)
/-- No way from a chain leads on for ever. -/
def Ends (cs : List (List Rule)) (c : Nat) : Prop := Acc (fun d c => Calls cs c d) c
/-- Every chain has a rank above what it calls. -/
def Rank (cs : List (List Rule)) (ρ : Nat → Nat) : Prop := (∀ c, c < cs.length → ρ c < cs.length) ∧ ∀ c d, c < cs.length → Calls cs c d → d < cs.length ∧ ρ d < ρ c
theorem CB.callee {cs : List (List Rule)} (h : CB cs) {c d : Nat} (hc : c < cs.length) (e : Calls cs c d) : d < cs.length := by
  obtain ⟨r, hr, _, hd⟩ := called_mem.1 e
  have := h.lt _ (ch_mem hc) r hr
  omega

/-! Orders. -/
def rdy (rs : List Rule) (o : List Nat) : Bool := rs.all fun r => r.Action != 3 || o.contains r.Chain.toNat
def stepO (cs : List (List Rule)) (o : List Nat) (c : Nat) : List Nat := if !o.contains c && rdy (ch cs c) o then o ++ [c] else o
def roundO (cs : List (List Rule)) (o : List Nat) : List Nat := (List.range cs.length).foldl (stepO cs) o
def roundsO (cs : List (List Rule)) (k : Nat) : List Nat := (List.range k).foldl (fun o _ => roundO cs o) []
def orderO (cs : List (List Rule)) : List Nat := roundsO cs cs.length
theorem rdy_iff {rs : List Rule} {o : List Nat} (h : ∀ r ∈ rs, r.Action = 3 → 0 ≤ r.Chain) : rdy rs o = true ↔ ∀ d, called rs d = true → d ∈ o := by
  unfold rdy
  rw [List.all_eq_true]
  constructor
  · intro hh d hd
    obtain ⟨r, hr, ha, hc⟩ := called_mem.1 hd
    have := hh r hr
    rw [ha, hc] at this
    simpa using this
  · intro hh r hr
    by_cases ha : r.Action = 3
    · have h0 := h r hr ha
      have := hh r.Chain.toNat (called_mem.2 ⟨r, hr, ha, by omega⟩)
      simp [this]
    · simp [ha]
theorem RsV.chain {rs : List Rule} (h : RsV rs) {r : Rule} (hr : r ∈ rs) : 0 ≤ r.Chain ∧ r.Chain ≤ 4 := by
  have := (h.1 r hr).2.2; omega
theorem CB.rdy {cs : List (List Rule)} (h : CB cs) {c : Nat} (hc : c < cs.length) {o : List Nat} : rdy (ch cs c) o = true ↔ ∀ d, Calls cs c d → d ∈ o :=
  rdy_iff fun _ hr _ => ((h.rv _ (ch_mem hc)).chain hr).1
/-- An order: behind what they call, once. -/
def Topo (cs : List (List Rule)) (o : List Nat) : Prop := ∀ (i c : Nat), o[i]? = some c → c < cs.length ∧ rdy (ch cs c) (o.take i) = true ∧ c ∉ o.take i
theorem Topo.step {cs : List (List Rule)} {o : List Nat} (h : Topo cs o) {c : Nat} (hc : c < cs.length) : Topo cs (stepO cs o c) := by
  unfold stepO
  split
  · rename_i hh
    simp only [Bool.and_eq_true, Bool.not_eq_true', List.contains_eq_mem, decide_eq_false_iff_not] at hh
    intro i x hx
    rw [List.getElem?_append] at hx
    split at hx
    · rename_i hi
      rw [List.take_append_of_le_length (by omega)]
      exact h i x hx
    · rename_i hi
      have : i = o.length := by
        have := (List.getElem?_eq_some_iff.1 hx).1
        simp at this; omega
      subst this
      simp only [Nat.sub_self, List.getElem?_cons_zero, Option.some.injEq] at hx
      subst hx
      rw [List.take_append_of_le_length (by omega), List.take_length]
      exact ⟨hc, hh.2, hh.1⟩
  · exact h
theorem stepO_pre (cs : List (List Rule)) (o : List Nat) (c : Nat) : o <+: stepO cs o c := by
  unfold stepO
  split
  · exact List.prefix_append _ _
  · exact List.prefix_refl _
theorem fold_pre (cs : List (List Rule)) (l : List Nat) : ∀ o, o <+: l.foldl (stepO cs) o := by
  induction l with
  | nil => intro o; exact List.prefix_refl _
  | cons a t ih => intro o; exact (stepO_pre cs o a).trans (ih _)
theorem Topo.fold {cs : List (List Rule)} (l : List Nat) (hl : ∀ c ∈ l, c < cs.length) : ∀ {o : List Nat}, Topo cs o → Topo cs (l.foldl (stepO cs) o) := by
  induction l with
  | nil => intro o h; exact h
  | cons a t ih => intro o h; exact ih (fun c hc => hl c (List.mem_cons_of_mem _ hc)) (h.step (hl a (List.mem_cons_self ..)))
theorem Topo.round {cs : List (List Rule)} {o : List Nat} (h : Topo cs o) : Topo cs (roundO cs o) := h.fold _ fun _c hc => List.mem_range.1 hc
theorem rounds_succ (cs : List (List Rule)) (k : Nat) : roundsO cs (k + 1) = roundO cs (roundsO cs k) := by
  unfold roundsO; rw [List.range_succ, List.foldl_append]; rfl
theorem Topo.rounds (cs : List (List Rule)) : ∀ k, Topo cs (roundsO cs k)
  | 0 => fun i c h => by simp [roundsO] at h
  | k + 1 => by rw [rounds_succ]; exact (Topo.rounds cs k).round
theorem rdy_mono {rs : List Rule} {o o' : List Nat} (h : o ⊆ o') (hr : rdy rs o = true) : rdy rs o' = true := by
  unfold rdy at *
  rw [List.all_eq_true] at *
  intro r hm
  have := hr r hm
  simp only [List.contains_eq_mem, Bool.or_eq_true, decide_eq_true_eq] at *
  exact this.imp_right fun x => h x
theorem fold_has (cs : List (List Rule)) (l : List Nat) : ∀ (o : List Nat) (c : Nat), c ∈ l → rdy (ch cs c) o = true → c ∈ l.foldl (stepO cs) o := by
  induction l with
  | nil => intro o c h; cases h
  | cons a t ih =>
    intro o c hc hr
    rcases List.mem_cons.1 hc with rfl | hc
    · refine (fold_pre cs t _).subset ?_
      unfold stepO
      by_cases hm : c ∈ o
      · rw [if_neg (by simp [hm])]; exact hm
      · rw [if_pos (by simp [hm, hr])]; simp
    · exact ih _ c hc (rdy_mono (stepO_pre cs o a).subset hr)
/-- How many of the first m lie in the order. -/
theorem count_snoc (o : List Nat) (c : Nat) (h : c ∉ o) : ∀ m, (List.range m).countP (fun x => decide (x ∈ o ++ [c])) = (List.range m).countP (fun x => decide (x ∈ o)) + if c < m then 1 else 0
  | 0 => rfl
  | m + 1 => by
    rw [List.range_succ, List.countP_append, List.countP_append, count_snoc o c h m]
    by_cases hm : m = c
    · subst hm
      simp [h]
    · by_cases hc : c < m
      · rw [if_pos hc, if_pos (by omega)]
        simp [hm]; omega
      · rw [if_neg hc, if_neg (by omega)]
        simp [hm]
theorem Topo.count {cs : List (List Rule)} : ∀ (n : Nat) (o : List Nat), o.length = n → Topo cs o → (List.range cs.length).countP (fun x => decide (x ∈ o)) = n := by
  intro n
  induction n with
  | zero =>
    intro o h _
    rw [List.length_eq_zero_iff.1 h]
    simp
  | succ n ih =>
    intro o h ht
    obtain ⟨o', c, rfl⟩ : ∃ o' c, o = o' ++ [c] := by
      rcases List.eq_nil_or_concat o with e | ⟨a, b, e⟩
      · rw [e] at h; cases h
      · exact ⟨a, b, by rw [e, List.concat_eq_append]⟩
    have hl : o'.length = n := by simpa using h
    have hc := ht o'.length c (by simp)
    rw [List.take_append_of_le_length (by omega), List.take_length] at hc
    rw [count_snoc o' c hc.2.2, if_pos hc.1, ih o' hl]
    intro i x hx
    have hi := (List.getElem?_eq_some_iff.1 hx).1
    have := ht i x (by rw [List.getElem?_append, if_pos hi]; exact hx)
    rwa [List.take_append_of_le_length (by omega)] at this
theorem Topo.le {cs : List (List Rule)} {o : List Nat} (h : Topo cs o) : o.length ≤ cs.length := by
  have := h.count _ o rfl
  have h2 := List.countP_le_length (p := fun x => decide (x ∈ o)) (l := List.range cs.length)
  rw [List.length_range] at h2
  omega
theorem Topo.full {cs : List (List Rule)} {o : List Nat} (h : Topo cs o) : o.length = cs.length ↔ ∀ c, c < cs.length → c ∈ o := by
  have := h.count _ o rfl
  constructor
  · intro hl c hc
    have h2 : (List.range cs.length).countP (fun x => decide (x ∈ o)) = (List.range cs.length).length := by rw [this, List.length_range, hl]
    simpa using List.countP_eq_length.1 h2 c (List.mem_range.2 hc)
  · intro ha
    rw [← this, ← List.length_range (n := cs.length)]
    rw [List.length_range]
    refine (List.countP_eq_length.2 fun c hc => ?_).trans List.length_range
    simpa using ha c (List.mem_range.1 hc)
theorem next_one {cs : List (List Rule)} (hb : CB cs) {o : List Nat} (he : ∀ c, c < cs.length → Ends cs c) : ∀ c, c < cs.length → c ∉ o → ∃ m, m < cs.length ∧ m ∉ o ∧ rdy (ch cs m) o = true := by
  intro c hc
  have ha := he c hc
  unfold Ends at ha
  induction ha with
  | intro c _ ih =>
    intro hn
    by_cases hr : rdy (ch cs c) o = true
    · exact ⟨c, hc, hn, hr⟩
    · rw [hb.rdy hc] at hr
      rw [Classical.not_forall] at hr
      obtain ⟨d, hd⟩ := hr
      rw [Classical.not_imp] at hd
      exact ih d hd.1 (hb.callee hc hd.1) hd.2
theorem rounds_len {cs : List (List Rule)} (hb : CB cs) (he : ∀ c, c < cs.length → Ends cs c) : ∀ k, k ≤ cs.length → k ≤ (roundsO cs k).length := by
  intro k
  induction k with
  | zero => intro _; exact Nat.zero_le _
  | succ k ih =>
    intro hk
    have h1 := ih (by omega)
    rw [rounds_succ]
    have hp : roundsO cs k <+: roundO cs (roundsO cs k) := fold_pre cs _ _
    by_cases hall : ∀ c, c < cs.length → c ∈ roundsO cs k
    · have := ((Topo.rounds cs k).full).2 hall
      have := hp.length_le
      omega
    · rw [Classical.not_forall] at hall
      obtain ⟨c, hc⟩ := hall
      rw [Classical.not_imp] at hc
      obtain ⟨m, hm, hn, hr⟩ := next_one hb he c hc.1 hc.2
      have hin : m ∈ roundO cs (roundsO cs k) := fold_has cs _ _ m (List.mem_range.2 hm) hr
      have hl := hp.length_le
      by_cases hq : (roundO cs (roundsO cs k)).length ≤ (roundsO cs k).length
      · rw [← hp.eq_of_length_le hq] at hin
        exact absurd hin hn
      · omega
theorem Topo.ends {cs : List (List Rule)} (hb : CB cs) {o : List Nat} (h : Topo cs o) : ∀ (i c : Nat), o[i]? = some c → Ends cs c := by
  intro i
  induction i using Nat.strongRecOn with
  | ind i ih =>
    intro c hc
    have ht := h i c hc
    refine Acc.intro _ fun d hd => ?_
    obtain ⟨j, hj, e⟩ := List.mem_take_iff_getElem.1 ((hb.rdy ht.1).1 ht.2.1 d hd)
    exact ih j (by omega) d (by rw [List.getElem?_eq_getElem (by omega), e])
/-- The order is whole just when all ways end. -/
theorem order_full {cs : List (List Rule)} (hb : CB cs) : (orderO cs).length = cs.length ↔ ∀ c, c < cs.length → Ends cs c := by
  have ht : Topo cs (orderO cs) := Topo.rounds cs _
  constructor
  · intro hl c hc
    obtain ⟨i, hi⟩ := List.mem_iff_getElem?.1 (ht.full.1 hl c hc)
    exact ht.ends hb i c hi
  · intro he
    have := rounds_len hb he _ (Nat.le_refl _)
    have := ht.le
    unfold orderO at *
    omega
theorem Topo.once {cs : List (List Rule)} {o : List Nat} (h : Topo cs o) {i j c : Nat} (hi : o[i]? = some c) (hj : o[j]? = some c) : i = j := by
  rcases Nat.lt_trichotomy i j with hlt | rfl | hlt
  · exact absurd (List.mem_take_iff_getElem.2 ⟨i, by have := (List.getElem?_eq_some_iff.1 hi).1; omega, (List.getElem?_eq_some_iff.1 hi).2⟩) (h j c hj).2.2
  · rfl
  · exact absurd (List.mem_take_iff_getElem.2 ⟨j, by have := (List.getElem?_eq_some_iff.1 hj).1; omega, (List.getElem?_eq_some_iff.1 hj).2⟩) (h i c hi).2.2
theorem ends_rank {cs : List (List Rule)} (hb : CB cs) (he : ∀ c, c < cs.length → Ends cs c) : ∃ ρ, Rank cs ρ := by
  have ht : Topo cs (orderO cs) := Topo.rounds cs _
  have hl := (order_full hb).2 he
  have hin : ∀ c, c < cs.length → ∃ i : Nat, (orderO cs)[i]? = some c := fun c hc => List.mem_iff_getElem?.1 (ht.full.1 hl c hc)
  have hx : ∀ c, ∃ i : Nat, c < cs.length → (orderO cs)[i]? = some c := fun c => by
    by_cases hc : c < cs.length
    · obtain ⟨i, hi⟩ := hin c hc; exact ⟨i, fun _ => hi⟩
    · exact ⟨0, fun h => absurd h hc⟩
  refine ⟨fun c => Classical.choose (hx c), fun c hc => ?_, fun c d hc e => ?_⟩
  · have := (List.getElem?_eq_some_iff.1 (Classical.choose_spec (hx c) hc)).1
    simp only; omega
  · have hd := hb.callee hc e
    refine ⟨hd, ?_⟩
    have h1 := Classical.choose_spec (hx c) hc
    have h2 := Classical.choose_spec (hx d) hd
    have := ht _ _ h1
    obtain ⟨j, hj, ej⟩ := List.mem_take_iff_getElem.1 ((hb.rdy hc).1 this.2.1 d e)
    have hj2 : (orderO cs)[j]? = some d := by rw [List.getElem?_eq_getElem (by omega), ej]
    have := ht.once h2 hj2
    simp only; omega
theorem rank_ends {cs : List (List Rule)} {ρ : Nat → Nat} (h : Rank cs ρ) : ∀ c, c < cs.length → Ends cs c := by
  suffices hs : ∀ n c, c < cs.length → ρ c < n → Ends cs c from fun c hc => hs _ c hc (Nat.lt_succ_self _)
  intro n
  induction n with
  | zero => intro c _ h; omega
  | succ n ih =>
    intro c hc hn
    refine Acc.intro _ fun d hd => ?_
    have := h.2 c d hc hd
    exact ih d this.1 (by omega)
end Go.PF.F
