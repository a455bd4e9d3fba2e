import Derived.Test.YtgglogmjjaahhaaDoorPlP
/- Plain laws: rulesets: calls, orders, visits. -/
namespace Go.PF.F
open Go Go.PF

/-- Every number below n; its whole loop. -/
theorem upto_loop {n : Nat} {P : Nat → Prop} {ρ : Type} {no : ρ} {body : Int → Option (SR Int ρ)} (hn : n ≤ 9223372036854775807)
    (hb : ∀ k, k < n → ∃ r, body (k : Int) = some (bif r then .nxt (W ((k : Int) + 1)) else .ret no) ∧ (r = true ↔ P k))
    (he : body (n : Int) = some (.brk (n : Int))) :
    ∃ o, loopF body (((n : Int)) - 0).toNat.succ 0 = some o ∧ ((∃ k, o = .brk k ∧ ∀ k, k < n → P k) ∨ (o = .ret no ∧ ¬ ∀ k, k < n → P k)) := by
  refine loop_idx (body := body) n (fun k s => s = (k : Int) ∧ ∀ i, i < k → P i) _ (s := 0) ⟨rfl, fun i h => by omega⟩
    (fun k s hk ⟨h1, h2⟩ => by
      subst h1
      obtain ⟨r, hr, hi⟩ := hb k hk
      rw [hr]
      cases r with
      | true =>
        refine .inl ⟨_, by rw [cond_true, W_succ (by omega)], rfl, fun i hlt => ?_⟩
        by_cases e : i = k
        · subst e; exact hi.1 rfl
        · exact h2 i (by omega)
      | false => exact .inr (.inl ⟨no, rfl, .inr ⟨rfl, fun h => by simpa using hi.2 (h k hk)⟩⟩))
    (fun s ⟨h1, h2⟩ => by
      subst h1
      exact .inl ⟨_, he, .inl ⟨_, rfl, h2⟩⟩)
theorem Dec.uptoK {n : Nat} {P : Nat → Prop} {K : Option Bool} {Q : Prop} {body : Int → Option (SR Int Bool)} (hn : n ≤ 9223372036854775807)
    (hb : ∀ k, k < n → ∃ r, body (k : Int) = some (bif r then .nxt (W ((k : Int) + 1)) else .ret false) ∧ (r = true ↔ P k))
    (he : body (n : Int) = some (.brk (n : Int))) (hK : (∀ k, k < n → P k) → Dec K Q) :
    Dec ((loopF body (((n : Int)) - 0).toNat.succ 0).bind fun lr => lr.on (fun _ => K) (fun r => some r)) ((∀ k, k < n → P k) ∧ Q) := by
  obtain ⟨o, ho, hq⟩ := upto_loop hn hb he
  rw [ho]
  rcases hq with ⟨k, rfl, h⟩ | ⟨rfl, h⟩
  · obtain ⟨q, e, hq⟩ := hK h
    exact ⟨q, by simpa [LR.on] using e, by rw [hq]; exact ⟨fun x => ⟨h, x⟩, fun x => x.2⟩⟩
  · exact Dec.no fun x => h x.1

/-! The chains that rules call. -/
def callN (rs : List Rule) : List Nat := (List.range 5).filter (called rs)
def castL (xs : List Nat) : List Int := xs.map fun d : Nat => (d : Int)
def marksL (rs : List Rule) : List Bool := [called rs 0, called rs 1, called rs 2, called rs 3, called rs 4]
theorem callN_mem {rs : List Rule} {d : Nat} : d ∈ callN rs ↔ d < 5 ∧ called rs d = true := by
  unfold callN; rw [List.mem_filter, List.mem_range]
theorem castL_idx {xs : List Nat} {k : Nat} (h : k < xs.length) : idx (castL xs) (k : Int) = some ((xs[k] : Nat) : Int) := by
  rw [idx_nat]; unfold castL; rw [List.getElem?_map, List.getElem?_eq_getElem h]; rfl
theorem castL_len (xs : List Nat) : (castL xs).length = xs.length := by unfold castL; rw [List.length_map]
theorem callN_len (rs : List Rule) : (callN rs).length ≤ 5 := by
  unfold callN
  have := List.length_filter_le (called rs) (List.range 5)
  rwa [List.length_range] at this
theorem marks_idx (rs : List Rule) {k : Nat} (h : k < 5) : idx (marksL rs) (k : Int) = some (called rs k) := by
  rw [idx_nat]
  match k, h with
  | 0, _ => rfl
  | 1, _ => rfl
  | 2, _ => rfl
  | 3, _ => rfl
  | 4, _ => rfl
theorem marks_set {xs : List Rule} {r : Rule} {d : Nat} (h : d < 5) (ha : r.Action = 3) (hd : r.Chain = (d : Int)) : marksL (xs ++ [r]) = (marksL xs).set d true := by
  have e : ∀ k : Nat, called (xs ++ [r]) k = (called xs k || decide (d = k)) := fun k => by
    rw [called_app, ha, hd]
    by_cases h : d = k
    · subst h; simp
    · have : ((d : Int) == (k : Int)) = false := by simp; omega
      rw [this]; simp [h]
  unfold marksL
  simp only [e]
  match d, h with
  | 0, _ => simp
  | 1, _ => simp
  | 2, _ => simp
  | 3, _ => simp
  | 4, _ => simp
theorem marks_skip {xs : List Rule} {r : Rule} (ha : r.Action ≠ 3) : marksL (xs ++ [r]) = marksL xs := by
  unfold marksL
  simp [called_app, ha]
theorem calls_in {rs : List Rule} (h : RsV rs) : impl_callsIn rs = some (castL (callN rs)) := by
  have hl := h.2
  unfold impl_callsIn
  have e1 : loopF (impl_callsIn_L0 rs) (((rs.length : Int)) - 0).toNat.succ (0, [false, false, false, false, false]) = some (.brk ((rs.length : Int), marksL rs)) :=
    loop_brk (body := impl_callsIn_L0 rs) rs.length (fun k : Nat => ((k : Int), marksL (rs.take k))) _ (fun k hk => by
      have hc := h.chain (List.getElem_mem hk)
      unfold impl_callsIn_L0
      simp only [lt_true (show (k : Int) < (rs.length : Int) by omega), cond_true, idx_get hk, Option.bind_some, W_succ (show k < 9223372036854775807 by omega)]
      rw [take_snoc (List.getElem?_eq_getElem hk)]
      by_cases ha : rs[k].Action = 3
      · obtain ⟨d, hd⟩ := Int.eq_ofNat_of_zero_le hc.1
        have hd5 : d < 5 := by omega
        rw [(by simp [ha] : (rs[k].Action == 3) = true), cond_true, hd, marks_idx _ hd5, marks_set hd5 ha hd]; rfl
      · rw [(by simp [ha] : (rs[k].Action == 3) = false), cond_false, marks_skip ha])
      (by
        unfold impl_callsIn_L0
        simp only [lt_false (Int.le_refl _), cond_false, List.take_length]) (by omega)
  have e2 : loopF (impl_callsIn_L1 (marksL rs)) (((5 : Int)) - 0).toNat.succ (([] : List Int), 0) = some (.brk (castL (callN rs), 5)) :=
    loop_brk (body := impl_callsIn_L1 (marksL rs)) 5 (fun k : Nat => (castL ((List.range k).filter (called rs)), (k : Int))) _ (fun k hk => by
      have hlen : (castL ((List.range k).filter (called rs))).length ≤ k := by
        rw [castL_len]
        have := List.length_filter_le (called rs) (List.range k)
        rwa [List.length_range] at this
      unfold impl_callsIn_L1
      simp only [lt_true (show (k : Int) < 5 by omega), cond_true, marks_idx rs hk, Option.bind_some, W_succ (show k < 9223372036854775807 by omega)]
      rw [List.range_succ, List.filter_append]
      cases hc : called rs k with
      | true =>
        rw [cond_true, app_ok (by simp; omega)]
        simp [castL, hc]
      | false =>
        simp [castL, hc])
      rfl (by decide)
  rw [e1]
  simp only [Option.bind_some, LR.on]
  rw [e2]
  rfl

/-! Orders. -/
def doneL (n : Nat) (o : List Nat) : List Bool := (List.range n).map fun c => o.contains c
theorem done_idx {n c : Nat} (h : c < n) (o : List Nat) : idx (doneL n o) (c : Int) = some (o.contains c) := by
  rw [idx_nat]; unfold doneL
  rw [List.getElem?_map, List.getElem?_range h]; rfl
theorem done_set {n c : Nat} (h : c < n) (o : List Nat) : (doneL n o).set c true = doneL n (o ++ [c]) := by
  refine List.ext_getElem? fun j => ?_
  unfold doneL
  rw [List.getElem?_set, List.getElem?_map, List.getElem?_map, List.length_map, List.length_range]
  by_cases hj : j < n
  · rw [List.getElem?_range hj]
    by_cases e : c = j
    · subst e; simp [h]
    · rw [if_neg e]
      have e' : j ≠ c := fun x => e x.symm
      simp [e']
  · rw [List.getElem?_eq_none (by simpa using hj)]
    rw [if_neg (by omega)]; rfl
theorem rdy_snoc (xs : List Rule) (r : Rule) (o : List Nat) : rdy (xs ++ [r]) o = (rdy xs o && (r.Action != 3 || o.contains r.Chain.toNat)) := by
  unfold rdy; rw [List.all_append]; simp
theorem l8_inner {s : Ruleset} (hb : CB s.Chains) {c : Nat} (hc : c < s.Chains.length) (o : List Nat) (out : List Int) :
    loopF (spec_l8Order_L2 s (c : Int)) (((((ch s.Chains c).length : Int)) : Int) - 0).toNat.succ ((!o.contains c), 0, doneL s.Chains.length o, out) = some (.brk ((!o.contains c && rdy (ch s.Chains c) o), ((ch s.Chains c).length : Int), doneL s.Chains.length o, out)) := by
  have hv := hb.rv _ (ch_mem hc)
  have hl := hv.2
  refine loop_brk0 (body := spec_l8Order_L2 s (c : Int)) (ch s.Chains c).length (fun k : Nat => ((!o.contains c && rdy ((ch s.Chains c).take k) o), (k : Int), doneL s.Chains.length o, out)) (by simp [rdy]) (fun k hk => ?_) ?_ (by omega)
  · have hr := hv.chain (List.getElem_mem hk)
    have hlt := hb.lt _ (ch_mem hc) _ (List.getElem_mem hk)
    obtain ⟨d, hd⟩ := Int.eq_ofNat_of_zero_le hr.1
    unfold spec_l8Order_L2
    simp only [ch_idx hc, Option.bind_some, lt_true (show (k : Int) < ((ch s.Chains c).length : Int) by omega), cond_true, idx_get hk, W_succ (show k < 9223372036854775807 by omega)]
    rw [take_snoc (List.getElem?_eq_getElem hk), rdy_snoc, hd, Int.toNat_natCast]
    cases hq : (!o.contains c && rdy ((ch s.Chains c).take k) o) with
    | false => rw [cond_false, ← Bool.and_assoc, hq, Bool.false_and]
    | true =>
      rw [cond_true, ← Bool.and_assoc, hq, Bool.true_and]
      by_cases ha : (ch s.Chains c)[k].Action = 3
      · rw [(by simp [ha] : ((ch s.Chains c)[k].Action != 3) = false), cond_false, done_idx (by omega : d < s.Chains.length), Bool.false_or]; rfl
      · rw [(by simp [ha] : ((ch s.Chains c)[k].Action != 3) = true), cond_true, Bool.true_or]
  · unfold spec_l8Order_L2
    simp only [ch_idx hc, Option.bind_some, lt_false (Int.le_refl _), cond_false, List.take_length]
theorem l8_step {s : Ruleset} (hb : CB s.Chains) {c : Nat} (hc : c < s.Chains.length) {o : List Nat} (ho : Topo s.Chains o) :
    spec_l8Order_L1 s (castL o, (c : Int), doneL s.Chains.length o) = some (.nxt (castL (stepO s.Chains o c), ((c + 1 : Nat) : Int), doneL s.Chains.length (stepO s.Chains o c))) := by
  have h5 := hb.n5
  have hle := ho.le
  unfold spec_l8Order_L1
  simp only [lt_true (show (c : Int) < (s.Chains.length : Int) by omega), cond_true, done_idx hc, Option.bind_some, ch_idx hc, Option.getD_some]
  rw [l8_inner hb hc]
  unfold stepO
  simp only [Option.bind_some, LR.on, W_succ (show c < 9223372036854775807 by omega)]
  cases (!o.contains c && rdy (ch s.Chains c) o) with
  | false => rfl
  | true =>
    rw [cond_true, done_idx hc, Option.bind_some, app_ok (by rw [castL_len]; simp; omega), Option.bind_some, if_pos rfl, Int.toNat_natCast, done_set hc]
    simp [castL]
theorem l8_round {s : Ruleset} (hb : CB s.Chains) {o : List Nat} (ho : Topo s.Chains o) :
    loopF (spec_l8Order_L1 s) (((s.Chains.length : Int)) - 0).toNat.succ (castL o, 0, doneL s.Chains.length o) = some (.brk (castL (roundO s.Chains o), (s.Chains.length : Int), doneL s.Chains.length (roundO s.Chains o))) := by
  refine loop_brk (body := spec_l8Order_L1 s) s.Chains.length (fun k : Nat => (castL ((List.range k).foldl (stepO s.Chains) o), (k : Int), doneL s.Chains.length ((List.range k).foldl (stepO s.Chains) o))) _ (fun k hk => ?_) ?_ (by omega)
  · rw [l8_step hb hk (ho.fold _ fun c hc => by have := List.mem_range.1 hc; omega), List.range_succ, List.foldl_append]; rfl
  · unfold spec_l8Order_L1
    simp only [lt_false (Int.le_refl _), cond_false]; rfl
theorem spec_order {s : Ruleset} (hb : CB s.Chains) : spec_l8Order s = some (castL (orderO s.Chains)) := by
  have h5 := hb.n5
  unfold spec_l8Order
  rw [make_len (by omega), show List.replicate s.Chains.length false = doneL s.Chains.length [] by simp [doneL, List.map_const']]
  have e : loopF (spec_l8Order_L0 s) (((s.Chains.length : Int)) - 0).toNat.succ (([] : List Int), 0, doneL s.Chains.length []) = some (.brk (castL (orderO s.Chains), (s.Chains.length : Int), doneL s.Chains.length (orderO s.Chains))) :=
    loop_brk (body := spec_l8Order_L0 s) s.Chains.length (fun k : Nat => (castL (roundsO s.Chains k), (k : Int), doneL s.Chains.length (roundsO s.Chains k))) _ (fun k hk => by
      unfold spec_l8Order_L0
      simp only [lt_true (show (k : Int) < (s.Chains.length : Int) by omega), cond_true]
      rw [l8_round hb (Topo.rounds _ _)]
      simp only [Option.bind_some, LR.on, W_succ (show k < 9223372036854775807 by omega), rounds_succ]) (by
      unfold spec_l8Order_L0
      simp only [lt_false (Int.le_refl _), cond_false]; rfl) (by omega)
  simp only [Option.bind_some]
  rw [e]; rfl

/-! Visits. -/
inductive Reach (cs : List (List Rule)) : Nat → Nat → Prop where
  | refl (c : Nat) : Reach cs c c
  | step {c d x : Nat} (h : Calls cs c d) (k : Reach cs d x) : Reach cs c x
def Col (col : List Int) : Prop := col.length = 5 ∧ ∀ x : Nat, x < 5 → col[x]? = some 0 ∨ col[x]? = some 1 ∨ col[x]? = some 2
def Nw (col : List Int) (x : Nat) : Prop := col[x]? = some 1 ∨ col[x]? = some 2
structure Vis (col col' : List Int) : Prop where
  ok : Col col'
  grey : ∀ x : Nat, col'[x]? = some 1 ↔ col[x]? = some 1
  blk : ∀ x : Nat, col[x]? = some 2 → col'[x]? = some 2
  cnt : col'.countP (fun v => v == 0) ≤ col.countP (fun v => v == 0)
theorem Vis.nw {a b : List Int} (h : Vis a b) {x : Nat} (k : Nw a x) : Nw b x := k.imp (h.grey x).2 (h.blk x)
theorem Vis.refl {a : List Int} (h : Col a) : Vis a a := ⟨h, fun _ => Iff.rfl, fun _ h => h, Nat.le_refl _⟩
theorem Vis.trans {a b c : List Int} (h : Vis a b) (k : Vis b c) : Vis a c := ⟨k.ok, fun x => (k.grey x).trans (h.grey x), fun x hx => k.blk x (h.blk x hx), Nat.le_trans k.cnt h.cnt⟩
structure Visit_ (cs : List (List Rule)) (col : List Int) (c : Nat) (b : Bool) (col' : List Int) : Prop where
  vis : Vis col col'
  ends : b = true → (∀ x : Nat, col[x]? = some 2 → Ends cs x) → ∀ x : Nat, col'[x]? = some 2 → Ends cs x
  mark : b = true → col'[c]? = some 2
  rank : ∀ ρ, Rank cs ρ → (∀ g : Nat, col[g]? = some 1 → ρ c < ρ g) → b = true
  reach : ∀ x : Nat, col'[x]? = some 2 → col[x]? = some 2 ∨ Reach cs c x
  clos : ∀ x : Nat, col'[x]? = some 2 → col[x]? = some 2 ∨ ∀ d, Calls cs x d → Nw col' d
  nw : Nw col' c
theorem Col.set {col : List Int} (h : Col col) {c : Nat} (hc : c < 5) {v : Int} (hv : v = 0 ∨ v = 1 ∨ v = 2) : Col (col.set c v) := by
  refine ⟨by rw [List.length_set]; exact h.1, fun x hx => ?_⟩
  rw [List.getElem?_set, h.1, if_pos hc]
  split
  · rcases hv with rfl | rfl | rfl <;> simp
  · exact h.2 x hx
theorem visit_ok {cs : List (List Rule)} (hb : CB cs) : ∀ (f : Nat) (c : Nat) (col : List Int), c < cs.length → Col col → col.countP (fun v => v == 0) < f → ∃ b col', impl_visitCalls f cs (c : Int) col = some (b, col') ∧ Visit_ cs col c b col' := by
  intro f
  induction f with
  | zero => intro c col _ _ h; omega
  | succ f ih =>
    intro c col hc hcol hf
    have h5 := hb.n5
    have hc5 : c < 5 := by omega
    have hv := hb.rv _ (ch_mem hc)
    unfold impl_visitCalls
    rw [le_false (show (c : Int) < (cs.length : Int) by omega), cond_false, idx_nat]
    rcases hcol.2 c hc5 with h0 | h1 | h2
    · have hset : ∀ (v : Int) (x : Nat), (col.set c v)[x]? = if c = x then some v else col[x]? := fun v x => by rw [List.getElem?_set, hcol.1, if_pos hc5]
      have hcnt : (col.set c 1).countP (fun v => v == 0) < f := by
        have hi : c < col.length := by rw [hcol.1]; exact hc5
        have hg : col[c] = 0 := by rw [List.getElem?_eq_getElem hi] at h0; exact Option.some.inj h0
        have hpos : 0 < col.countP (fun v => v == 0) := List.countP_pos_iff.2 ⟨0, by rw [← hg]; exact List.getElem_mem hi, rfl⟩
        rw [List.countP_set hi, hg]
        simp; omega
      have hcnt2 : (col.set c 1).countP (fun v => v == 0) ≤ col.countP (fun v => v == 0) := by
        rw [List.countP_set (by rw [hcol.1]; exact hc5)]
        simp
      rw [h0, Option.bind_some]
      simp only [show ((0 : Int) == 1) = false from rfl, show ((0 : Int) == 2) = false from rfl, cond_false, ch_idx hc, Option.bind_some, calls_in hv, castL_len, Int.toNat_natCast]
      obtain ⟨o, ho, y1, y2, rfl, hvis, hends, hrank, hreach, hclos, hnw⟩ := loop_idx (body := impl_visitCalls_L0 cs (impl_visitCalls f) (castL (callN (ch cs c)))) (callN (ch cs c)).length
        (fun k s => s.2.1 = (k : Int) ∧ Vis (col.set c 1) s.2.2 ∧
          (s.1 = true → ((∀ x : Nat, col[x]? = some 2 → Ends cs x) → ∀ x : Nat, s.2.2[x]? = some 2 → Ends cs x) ∧ ∀ (j d : Nat), j < k → (callN (ch cs c))[j]? = some d → s.2.2[d]? = some 2) ∧
          (∀ ρ, Rank cs ρ → (∀ g : Nat, col[g]? = some 1 → ρ c < ρ g) → s.1 = true) ∧
          (∀ x : Nat, s.2.2[x]? = some 2 → col[x]? = some 2 ∨ Reach cs c x) ∧
          (∀ x : Nat, s.2.2[x]? = some 2 → col[x]? = some 2 ∨ ∀ d, Calls cs x d → Nw s.2.2 d) ∧
          ∀ (j d : Nat), j < k → (callN (ch cs c))[j]? = some d → Nw s.2.2 d)
        (fun o => ∃ y1 y2, o = .brk (y1, ((callN (ch cs c)).length : Int), y2) ∧ Vis (col.set c 1) y2 ∧
          (y1 = true → ((∀ x : Nat, col[x]? = some 2 → Ends cs x) → ∀ x : Nat, y2[x]? = some 2 → Ends cs x) ∧ ∀ (j d : Nat), j < (callN (ch cs c)).length → (callN (ch cs c))[j]? = some d → y2[d]? = some 2) ∧
          (∀ ρ, Rank cs ρ → (∀ g : Nat, col[g]? = some 1 → ρ c < ρ g) → y1 = true) ∧
          (∀ x : Nat, y2[x]? = some 2 → col[x]? = some 2 ∨ Reach cs c x) ∧
          (∀ x : Nat, y2[x]? = some 2 → col[x]? = some 2 ∨ ∀ d, Calls cs x d → Nw y2 d) ∧
          ∀ (j d : Nat), j < (callN (ch cs c)).length → (callN (ch cs c))[j]? = some d → Nw y2 d)
        (s := (true, 0, col.set c 1))
        (by
          have hold : ∀ x : Nat, (col.set c 1)[x]? = some 2 → col[x]? = some 2 := fun x hx => by
            rw [hset] at hx
            split at hx
            · exact absurd hx (by simp)
            · exact hx
          exact ⟨rfl, Vis.refl (hcol.set hc5 (by simp)), fun _ => ⟨fun he x hx => he x (hold x hx), fun j d h => by omega⟩, fun _ _ _ => rfl, fun x hx => .inl (hold x hx), fun x hx => .inl (hold x hx), fun j d h => by omega⟩)
        (fun k s hk ⟨e1, hvis, hends, hrank, hreach, hclos, hnw⟩ => by
          obtain ⟨y1, i, y2⟩ := s
          simp only at e1 hvis hends hrank hreach hclos hnw
          subst e1
          have hcl := callN_len (ch cs c)
          have hmem := callN_mem.1 (List.getElem_mem hk)
          have hcall : Calls cs c (callN (ch cs c))[k] := hmem.2
          have hdn := hb.callee hc hcall
          obtain ⟨b, col', e, hx⟩ := ih (callN (ch cs c))[k] y2 hdn hvis.ok (by have := hvis.cnt; omega)
          have hjk : ∀ (j d : Nat), j < k + 1 → (callN (ch cs c))[j]? = some d → (j < k ∧ (callN (ch cs c))[j]? = some d) ∨ d = (callN (ch cs c))[k] := fun j d hj hd => by
            by_cases ej : j = k
            · subst ej
              rw [List.getElem?_eq_getElem hk] at hd
              exact .inr (Option.some.inj hd).symm
            · exact .inl ⟨by omega, hd⟩
          have hbody : impl_visitCalls_L0 cs (impl_visitCalls f) (castL (callN (ch cs c))) (y1, (k : Int), y2) = some (.nxt ((y1 && b), ((k + 1 : Nat) : Int), col')) := by
            unfold impl_visitCalls_L0
            simp only [castL_len, lt_true (show (k : Int) < ((callN (ch cs c)).length : Int) by omega), cond_true, castL_idx hk, Option.bind_some, e, W_succ (show k < 9223372036854775807 by omega)]
            cases b <;> simp
          refine .inl ⟨_, hbody, rfl, hvis.trans hx.vis, fun hy => ?_, fun ρ hρ hg => ?_, fun x h2 => ?_, fun x h2 => ?_, fun j d hj hd => ?_⟩
          · simp only [Bool.and_eq_true] at hy
            obtain ⟨hy1, rfl⟩ := hy
            refine ⟨fun he => hx.ends rfl ((hends hy1).1 he), fun j d hj hd => ?_⟩
            rcases hjk j d hj hd with ⟨hj, hd⟩ | rfl
            · exact hx.vis.blk _ ((hends hy1).2 j d hj hd)
            · exact hx.mark rfl
          · simp only [Bool.and_eq_true]
            refine ⟨hrank ρ hρ hg, hx.rank ρ hρ fun g hg1 => ?_⟩
            have hlt := (hρ.2 c _ hc hcall).2
            rw [hvis.grey, hset] at hg1
            split at hg1
            · rename_i e; subst e; exact hlt
            · exact Nat.lt_trans hlt (hg g hg1)
          · rcases hx.reach x h2 with h | h
            · exact hreach x h
            · exact .inr (.step hcall h)
          · rcases hx.clos x h2 with h | h
            · exact (hclos x h).imp_right fun hh d hd => hx.vis.nw (hh d hd)
            · exact .inr h
          · rcases hjk j d hj hd with ⟨hj, hd⟩ | rfl
            · exact hx.vis.nw (hnw j d hj hd)
            · exact hx.nw)
        (fun s ⟨e1, hh⟩ => by
          obtain ⟨y1, i, y2⟩ := s
          simp only at e1 hh
          subst e1
          refine .inl ⟨_, ?_, _, _, rfl, hh⟩
          unfold impl_visitCalls_L0
          simp only [castL_len, lt_false (Int.le_refl _), cond_false])
      rw [ho]
      simp only [Option.bind_some, LR.on]
      have hy2l : c < y2.length := by rw [hvis.ok.1]; exact hc5
      have hset2 : ∀ x : Nat, (y2.set c 2)[x]? = if c = x then some 2 else y2[x]? := fun x => by rw [List.getElem?_set, if_pos hy2l]
      have hc1 : y2[c]? = some 1 := (hvis.grey c).2 (by rw [hset, if_pos rfl])
      have hnw2 : ∀ x, Nw y2 x → Nw (y2.set c 2) x := fun x hx => by
        unfold Nw; rw [hset2]
        split
        · exact .inr rfl
        · exact hx
      have hown : ∀ d, Calls cs c d → ∃ j : Nat, j < (callN (ch cs c)).length ∧ (callN (ch cs c))[j]? = some d := fun d hd => by
        have hdn := hb.callee hc hd
        obtain ⟨j, hj⟩ := List.mem_iff_getElem?.1 (callN_mem.2 ⟨by omega, hd⟩)
        exact ⟨j, (List.getElem?_eq_some_iff.1 hj).1, hj⟩
      rw [idx_nat, hc1, Option.bind_some]
      refine ⟨y1, y2.set c 2, rfl, ⟨hvis.ok.set hc5 (by simp), fun x => ?_, fun x hx => ?_, ?_⟩, fun hy he x hx => ?_, fun _ => by rw [hset2, if_pos rfl], hrank, fun x hx => ?_, fun x hx => ?_, .inr (by rw [hset2, if_pos rfl])⟩
      · rw [hset2]
        split
        · rename_i e; subst e; rw [h0]; simp
        · rename_i e; rw [hvis.grey, hset, if_neg e]
      · rw [hset2]
        split
        · rfl
        · rename_i e; exact hvis.blk x (by rw [hset, if_neg e]; exact hx)
      · have hg : y2[c] = 1 := by rw [List.getElem?_eq_getElem hy2l] at hc1; exact Option.some.inj hc1
        rw [List.countP_set hy2l, hg]
        have := hvis.cnt
        simp; omega
      · rw [hset2] at hx
        split at hx
        · rename_i e
          subst e
          refine Acc.intro _ fun d hd => ?_
          obtain ⟨j, hj, ej⟩ := hown d hd
          exact (hends hy).1 he d ((hends hy).2 j d hj ej)
        · exact (hends hy).1 he x hx
      · rw [hset2] at hx
        split at hx
        · rename_i e; subst e; exact .inr (.refl _)
        · exact hreach x hx
      · rw [hset2] at hx
        split at hx
        · rename_i e
          subst e
          refine .inr fun d hd => ?_
          obtain ⟨j, hj, ej⟩ := hown d hd
          exact hnw2 d (hnw j d hj ej)
        · exact (hclos x hx).imp_right fun hh d hd => hnw2 d (hh d hd)
    · rw [h1, Option.bind_some]
      exact ⟨false, col, rfl, Vis.refl hcol, nofun, nofun, fun ρ _ hg => absurd (hg c h1) (Nat.lt_irrefl _), fun x h => .inl h, fun x h => .inl h, .inl h1⟩
    · rw [h2, Option.bind_some]
      exact ⟨true, col, rfl, Vis.refl hcol, fun _ h => h, fun _ => h2, fun _ _ _ => rfl, fun x h => .inl h, fun x h => .inl h, .inr h2⟩
theorem impl_ends {cs : List (List Rule)} (hb : CB cs) : Dec (impl_acyclic cs) (∀ c, c < cs.length → Ends cs c) := by
  have h5 := hb.n5
  unfold impl_acyclic
  obtain ⟨o, ho, hq⟩ := loop_idx (body := impl_acyclic_L0 cs) cs.length
    (fun k s => s.1 = (k : Int) ∧ Col s.2 ∧ (∀ x : Nat, s.2[x]? ≠ some 1) ∧ (∀ x : Nat, s.2[x]? = some 2 → Ends cs x) ∧ s.2.countP (fun v => v == 0) < 10 ∧ ∀ j : Nat, j < k → s.2[j]? = some 2)
    (fun o => (∃ s, o = .brk s ∧ ∀ c, c < cs.length → Ends cs c) ∨ (o = .ret false ∧ ¬ ∀ c, c < cs.length → Ends cs c)) (s := (0, [0, 0, 0, 0, 0]))
    (by
      have h0 : ∀ x : Nat, x < 5 → ([0, 0, 0, 0, 0] : List Int)[x]? = some 0 := fun x h => by
        match x, h with
        | 0, _ => rfl
        | 1, _ => rfl
        | 2, _ => rfl
        | 3, _ => rfl
        | 4, _ => rfl
      have hn : ∀ (x : Nat) (v : Int), v ≠ 0 → ([0, 0, 0, 0, 0] : List Int)[x]? ≠ some v := fun x v hv hx => by
        by_cases h : x < 5
        · rw [h0 x h] at hx; exact hv (Option.some.inj hx).symm
        · rw [List.getElem?_eq_none (by simp; omega)] at hx; cases hx
      exact ⟨rfl, ⟨rfl, fun x h => .inl (h0 x h)⟩, fun x => hn x 1 (by decide), fun x hx => absurd hx (hn x 2 (by decide)), by decide, fun j h => by omega⟩)
    (fun k s hk ⟨e1, hcol, hg, he, hcnt, hj⟩ => by
      obtain ⟨i, y⟩ := s
      simp only at e1 hcol hg he hcnt hj
      subst e1
      obtain ⟨b, y', e, hv⟩ := visit_ok hb 10 k y hk hcol hcnt
      unfold impl_acyclic_L0
      simp only [lt_true (show (k : Int) < (cs.length : Int) by omega), cond_true, e, Option.bind_some, W_succ (show k < 9223372036854775807 by omega)]
      cases b with
      | true =>
        refine .inl ⟨_, rfl, rfl, hv.vis.ok, fun x hx => hg x ((hv.vis.grey x).1 hx), hv.ends rfl he, Nat.lt_of_le_of_lt hv.vis.cnt hcnt, fun j hlt => ?_⟩
        by_cases ej : j = k
        · subst ej; exact hv.mark rfl
        · exact hv.vis.blk j (hj j (by omega))
      | false =>
        refine .inr (.inl ⟨_, rfl, .inr ⟨rfl, fun hall => ?_⟩⟩)
        obtain ⟨ρ, hρ⟩ := ends_rank hb hall
        exact absurd (hv.rank ρ hρ fun g h => absurd h (hg g)) (by simp))
    (fun s ⟨e1, hcol, hg, he, hcnt, hj⟩ => by
      obtain ⟨i, y⟩ := s
      simp only at e1 hcol hg he hcnt hj
      subst e1
      refine .inl ⟨((cs.length : Int), y), ?_, .inl ⟨_, rfl, fun c hc => he c (hj c hc)⟩⟩
      unfold impl_acyclic_L0
      simp only [lt_false (Int.le_refl _), cond_false])
  rw [ho]
  rcases hq with ⟨s, rfl, h⟩ | ⟨rfl, h⟩
  · exact Dec.yes h
  · exact Dec.no h

/-! Rulesets. -/
def RSV (s : Ruleset) : Prop := CB s.Chains ∧ ∀ c, c < s.Chains.length → Ends s.Chains c
/-- Lists that are not too long. -/
def OkRs (s : Ruleset) : Prop := s.Chains.length ≤ 9223372036854775807 ∧ ∀ rs ∈ s.Chains, rs.length ≤ 9223372036854775807 ∧ ∀ r ∈ rs, r.Tests.length ≤ 9223372036854775807
theorem spec_ruleset {s : Ruleset} (h : OkRs s) : Dec (spec_RulesetValid s) (RSV s) := by
  refine Dec.iff (Dec.uptoK (n := s.Chains.length) (P := fun k => RsV (ch s.Chains k) ∧ ∀ j : Nat, j < (ch s.Chains k).length → ∀ r, (ch s.Chains k)[j]? = some r → r.Chain < (s.Chains.length : Int)) (Q := (1 ≤ s.Chains.length ∧ s.Chains.length ≤ 5) ∧ ∀ c, c < s.Chains.length → Ends s.Chains c) (body := spec_RulesetValid_L0 s) h.1 (fun k hk => ?_) ?_ fun hall => ?_) ?_
  · have hm := h.2 _ (ch_mem hk)
    obtain ⟨q, e, hq⟩ := spec_rules hm.1 hm.2
    have hl := hm.1
    have hkl := h.1
    unfold spec_RulesetValid_L0
    simp only [lt_true (show (k : Int) < (s.Chains.length : Int) by omega), cond_true, ch_idx hk, Option.bind_some, e]
    cases q with
    | false => exact ⟨false, rfl, by simp; intro hr; exact absurd (hq.2 hr) (by simp)⟩
    | true =>
      obtain ⟨o, ho, hh⟩ := upto_loop (n := (ch s.Chains k).length) (P := fun j => ∀ r, (ch s.Chains k)[j]? = some r → r.Chain < (s.Chains.length : Int)) (no := false) (body := spec_RulesetValid_L1 s (ch s.Chains k)) hl (fun j hj => by
        refine ⟨decide ((ch s.Chains k)[j].Chain < (s.Chains.length : Int)), ?_, ?_⟩
        · unfold spec_RulesetValid_L1
          simp only [lt_true (show (j : Int) < ((ch s.Chains k).length : Int) by omega), cond_true, idx_get hj, Option.bind_some]
          by_cases hlt : (ch s.Chains k)[j].Chain < (s.Chains.length : Int)
          · rw [decide_eq_true hlt, le_false hlt]; rfl
          · rw [decide_eq_false hlt, decide_eq_true (by omega)]; rfl
        · rw [decide_eq_true_eq, List.getElem?_eq_getElem hj]
          exact ⟨fun hx r hr => by rw [← Option.some.inj hr]; exact hx, fun hx => hx _ rfl⟩) (by
        unfold spec_RulesetValid_L1
        rw [lt_false (Int.le_refl _)]; rfl)
      rw [cond_true, ho]
      rcases hh with ⟨x, rfl, hx⟩ | ⟨rfl, hx⟩
      · exact ⟨true, rfl, by simp only [true_iff]; exact ⟨hq.1 rfl, hx⟩⟩
      · exact ⟨false, rfl, by simp only [Bool.false_eq_true, false_iff]; exact fun hy => hx hy.2⟩
  · unfold spec_RulesetValid_L0
    rw [lt_false (Int.le_refl _)]; rfl
  · refine Dec.iff ((in_Dec _ _ _).and (Q := ∀ c, c < s.Chains.length → Ends s.Chains c) fun hin => ?_) ?_
    · have hb : CB s.Chains := ⟨by omega, by omega, fun rs hrs => by
        obtain ⟨k, hk, rfl⟩ := List.mem_iff_getElem.1 hrs
        have := (hall k hk).1
        rwa [show ch s.Chains k = s.Chains[k] by unfold ch; rw [List.getElem?_eq_getElem hk]; rfl] at this, fun rs hrs r hr => by
        obtain ⟨k, hk, rfl⟩ := List.mem_iff_getElem.1 hrs
        obtain ⟨j, hj, rfl⟩ := List.mem_iff_getElem.1 hr
        have := (hall k hk).2
        rw [show ch s.Chains k = s.Chains[k] by unfold ch; rw [List.getElem?_eq_getElem hk]; rfl] at this
        exact this j hj _ (List.getElem?_eq_getElem hj)⟩
      rw [spec_order hb, Option.bind_some, castL_len]
      refine Dec.mk ?_
      rw [beq_iff_eq, ← order_full hb]
      omega
    · constructor <;> intro hh
      · exact ⟨by omega, hh.2⟩
      · exact ⟨by omega, hh.2⟩
  · constructor
    · intro ⟨hall, h15, he⟩
      refine ⟨⟨h15.1, h15.2, fun rs hrs => ?_, fun rs hrs r hr => ?_⟩, he⟩
      · obtain ⟨k, hk, rfl⟩ := List.mem_iff_getElem.1 hrs
        have := (hall k hk).1
        rwa [show ch s.Chains k = s.Chains[k] by unfold ch; rw [List.getElem?_eq_getElem hk]; rfl] at this
      · obtain ⟨k, hk, rfl⟩ := List.mem_iff_getElem.1 hrs
        obtain ⟨j, hj, rfl⟩ := List.mem_iff_getElem.1 hr
        have := (hall k hk).2
        rw [show ch s.Chains k = s.Chains[k] by unfold ch; rw [List.getElem?_eq_getElem hk]; rfl] at this
        exact this j hj _ (List.getElem?_eq_getElem hj)
    · intro ⟨hb, he⟩
      exact ⟨fun k hk => ⟨hb.rv _ (ch_mem hk), fun j _ r hr => hb.lt _ (ch_mem hk) r (List.mem_of_getElem? hr)⟩, ⟨hb.n1, hb.n5⟩, he⟩
theorem impl_ruleset {s : Ruleset} (h : OkRs s) : Dec (impl_RulesetValid s) (RSV s) := by
  unfold impl_RulesetValid
  by_cases h1 : (s.Chains.length : Int) < 1
  · rw [decide_eq_true h1]; exact Dec.no fun hh => by have := hh.1.n1; omega
  rw [decide_eq_false h1, cond_false]
  by_cases h5 : (5 : Int) < (s.Chains.length : Int)
  · rw [decide_eq_true h5]; exact Dec.no fun hh => by have := hh.1.n5; omega
  rw [decide_eq_false h5, cond_false]
  refine Dec.iff (Dec.uptoK (n := s.Chains.length) (P := fun k => RsV (ch s.Chains k)) (Q := (∀ k : Nat, k < s.Chains.length → ∀ d, Calls s.Chains k d → d < s.Chains.length) ∧ ∀ c, c < s.Chains.length → Ends s.Chains c) (body := impl_RulesetValid_L0 s) h.1 (fun k hk => ?_) ?_ fun hall => ?_) ?_
  · have hm := h.2 _ (ch_mem hk)
    obtain ⟨q, e, hq⟩ := impl_rules hm.1 hm.2
    refine ⟨q, ?_, hq⟩
    unfold impl_RulesetValid_L0
    simp only [lt_true (show (k : Int) < (s.Chains.length : Int) by omega), cond_true, ch_idx hk, Option.bind_some, e]
    cases q <;> rfl
  · unfold impl_RulesetValid_L0
    rw [lt_false (Int.le_refl _)]; rfl
  · refine Dec.uptoK (n := s.Chains.length) (P := fun k : Nat => ∀ d, Calls s.Chains k d → d < s.Chains.length) (body := impl_RulesetValid_L1 s) h.1 (fun k hk => ?_) ?_ fun hlt => ?_
    · have hv := hall k hk
      have hcl := callN_len (ch s.Chains k)
      obtain ⟨o, ho, hh⟩ := upto_loop (n := (castL (callN (ch s.Chains k))).length) (P := fun j => ∀ d : Nat, (callN (ch s.Chains k))[j]? = some d → d < s.Chains.length) (no := false) (body := impl_RulesetValid_L2 s (castL (callN (ch s.Chains k)))) (by rw [castL_len]; omega) (fun j hj => by
        rw [castL_len] at hj
        refine ⟨decide ((callN (ch s.Chains k))[j] < s.Chains.length), ?_, ?_⟩
        · unfold impl_RulesetValid_L2
          simp only [castL_len, lt_true (show (j : Int) < ((callN (ch s.Chains k)).length : Int) by omega), cond_true, castL_idx hj, Option.bind_some]
          by_cases hlt : (callN (ch s.Chains k))[j] < s.Chains.length
          · rw [decide_eq_true hlt, le_false (by omega)]; rfl
          · rw [decide_eq_false hlt, decide_eq_true (by omega)]; rfl
        · rw [decide_eq_true_eq, List.getElem?_eq_getElem hj]
          exact ⟨fun hx r hr => by rw [← Option.some.inj hr]; exact hx, fun hx => hx _ rfl⟩) (by
        unfold impl_RulesetValid_L2
        rw [lt_false (Int.le_refl _)]; rfl)
      unfold impl_RulesetValid_L1
      simp only [lt_true (show (k : Int) < (s.Chains.length : Int) by omega), cond_true, ch_idx hk, Option.bind_some, calls_in hv]
      rw [ho]
      rcases hh with ⟨x, rfl, hx⟩ | ⟨rfl, hx⟩
      · refine ⟨true, rfl, by
          simp only [true_iff]
          intro d hd
          by_cases hd5 : d < 5
          · obtain ⟨j, hj⟩ := List.mem_iff_getElem?.1 (callN_mem.2 ⟨hd5, hd⟩)
            exact hx j (by rw [castL_len]; exact (List.getElem?_eq_some_iff.1 hj).1) d hj
          · obtain ⟨r, hr, _, hc⟩ := called_mem.1 hd
            have := hv.chain hr
            omega⟩
      · refine ⟨false, rfl, by
          simp only [Bool.false_eq_true, false_iff]
          exact fun hy => hx fun j _ d hd => hy d (callN_mem.1 (List.mem_of_getElem? hd)).2⟩
    · unfold impl_RulesetValid_L1
      rw [lt_false (Int.le_refl _)]; rfl
    · have hb : CB s.Chains := ⟨by omega, by omega, fun rs hrs => by
        obtain ⟨k, hk, rfl⟩ := List.mem_iff_getElem.1 hrs
        have := hall k hk
        rwa [show ch s.Chains k = s.Chains[k] by unfold ch; rw [List.getElem?_eq_getElem hk]; rfl] at this, fun rs hrs r hr => by
        obtain ⟨k, hk, rfl⟩ := List.mem_iff_getElem.1 hrs
        have e : ch s.Chains k = s.Chains[k] := by unfold ch; rw [List.getElem?_eq_getElem hk]; rfl
        have hv := hall k hk
        have hl := hlt k hk
        rw [e] at hv
        have hru := (hv.1 r hr).2.2
        rcases hru with ⟨ha, h0, _⟩ | ⟨_, h0⟩
        · have := hl r.Chain.toNat (by unfold Calls; rw [e]; exact called_mem.2 ⟨r, hr, ha, by omega⟩)
          omega
        · omega⟩
      exact (impl_ends hb).ret
  · constructor
    · intro ⟨hall, hlt, he⟩
      refine ⟨⟨by omega, by omega, fun rs hrs => ?_, fun rs hrs r hr => ?_⟩, he⟩
      · obtain ⟨k, hk, rfl⟩ := List.mem_iff_getElem.1 hrs
        have := hall k hk
        rwa [show ch s.Chains k = s.Chains[k] by unfold ch; rw [List.getElem?_eq_getElem hk]; rfl] at this
      · obtain ⟨k, hk, rfl⟩ := List.mem_iff_getElem.1 hrs
        have e : ch s.Chains k = s.Chains[k] := by unfold ch; rw [List.getElem?_eq_getElem hk]; rfl
        have hv := hall k hk
        have hl := hlt k hk
        rw [e] at hv
        have hru := (hv.1 r hr).2.2
        rcases hru with ⟨ha, h0, _⟩ | ⟨_, h0⟩
        · have := hl r.Chain.toNat (by unfold Calls; rw [e]; exact called_mem.2 ⟨r, hr, ha, by omega⟩)
          omega
        · omega
    · intro ⟨hb, he⟩
      exact ⟨fun k hk => hb.rv _ (ch_mem hk), fun k hk d hd => hb.callee hk hd, he⟩
end Go.PF.F

/- Plain laws: depths of calls; exact laws of rulesets. -/
namespace Go.PF.F
open Go Go.PF

/-! Rulesets as arguments. -/
end Go.PF.F

/- Plain laws: walks through a ruleset, judging. -/
namespace Go.PF.F
open Go Go.PF

/-- All tests of the rule hold. -/
def holdB (p : Packet) (r : Rule) : Bool := r.Tests.all fun t => (decide (t.Lo ≤ pf p t.Field.toNat ∧ pf p t.Field.toNat ≤ t.Hi) != t.Not)
theorem holdB_iff {p : Packet} {r : Rule} : holdB p r = true ↔ ∀ t ∈ r.Tests, TH t p := by
  unfold holdB; rw [List.all_eq_true]; exact Iff.rfl
theorem impl_hold {r : Rule} (h : RuV r) (p : Packet) : impl_allHold r.Tests p = some (holdB p r) := by
  have hl := h.1.2
  obtain ⟨b, e, hb⟩ := impl_allhold (ts := r.Tests) (by omega) h.1.1 p
  rw [e, show b = holdB p r by rw [Bool.eq_iff_iff, hb, holdB_iff]]
theorem spec_hold {r : Rule} (h : RuV r) {p : Packet} (hp : PV p) : spec_TestsHold r.Tests p = some (holdB p r) := by
  have hl := h.1.2
  have hl' : r.Tests.length ≤ 9223372036854775807 := by omega
  obtain ⟨b, e, hb⟩ : Dec (spec_TestsHold r.Tests p) ((∀ t ∈ r.Tests, TV t ∧ PV p ∧ TH t p) ∧ TsV r.Tests ∧ PV p) :=
    Dec.all (body := spec_TestsHold_L0 r.Tests p) (P := fun t => TV t ∧ PV p ∧ TH t p) (Q := TsV r.Tests ∧ PV p) hl' (fun x _ => spec_holds x p)
      (fun _ => (spec_tests hl').and fun _ => (spec_packet p).ret) (fun _ => rfl)
  rw [e, show b = holdB p r by rw [Bool.eq_iff_iff, hb, holdB_iff]; exact ⟨fun x t ht => (x.1 t ht).2.2, fun x => ⟨fun t ht => ⟨h.1.1 t ht, hp, x t ht⟩, h.1, hp⟩⟩]
/-- A visit is noted, while there is room. -/
def see (v : List Visit) (c k : Nat) : List Visit := if v.length < 200 then v ++ [⟨(c : Int), (k : Int)⟩] else v
theorem see_len {v : List Visit} (h : v.length ≤ 200) (c k : Nat) : (see v c k).length ≤ 200 := by
  unfold see; split
  · simp; omega
  · exact h
/-- A walk through rules from number k on. -/
def wkL (p : Packet) (rec : Nat → List Visit → Int × List Visit) (c : Nat) : Nat → List Rule → List Visit → Int × List Visit
  | _, [], v => (5, v)
  | k, r :: rs, v =>
    if holdB p r then
      if r.Action = 1 then (1, see v c k)
      else if r.Action = 2 then (2, see v c k)
      else if r.Action = 4 then (5, see v c k)
      else if r.Action = 3 then
        if (rec r.Chain.toNat (see v c k)).1 = 5 then wkL p rec c (k + 1) rs (rec r.Chain.toNat (see v c k)).2 else rec r.Chain.toNat (see v c k)
      else wkL p rec c (k + 1) rs (see v c k)
    else wkL p rec c (k + 1) rs v
def wk (cs : List (List Rule)) (p : Packet) : Nat → Nat → List Visit → Int × List Visit
  | 0, _, v => (5, v)
  | f + 1, c, v => wkL p (wk cs p f) c 0 (ch cs c) v
/-- What a walk's answer is. -/
def Wok (r : Int × List Visit) : Prop := (r.1 = 1 ∨ r.1 = 2 ∨ r.1 = 5) ∧ r.2.length ≤ 200
theorem wkL_ok (p : Packet) {rec : Nat → List Visit → Int × List Visit} (hr : ∀ d v, v.length ≤ 200 → Wok (rec d v)) (c : Nat) : ∀ (rs : List Rule) (k : Nat) (v : List Visit), v.length ≤ 200 → Wok (wkL p rec c k rs v) := by
  intro rs
  induction rs with
  | nil => intro k v hv; exact ⟨.inr (.inr rfl), hv⟩
  | cons r t ih =>
    intro k v hv
    have hs := see_len hv c k
    unfold wkL
    split
    · split
      · exact ⟨.inl rfl, hs⟩
      · split
        · exact ⟨.inr (.inl rfl), hs⟩
        · split
          · exact ⟨.inr (.inr rfl), hs⟩
          · split
            · split
              · exact ih _ _ (hr _ _ hs).2
              · exact hr _ _ hs
            · exact ih _ _ hs
    · exact ih _ _ hv
theorem wk_ok (cs : List (List Rule)) (p : Packet) : ∀ (f c : Nat) (v : List Visit), v.length ≤ 200 → Wok (wk cs p f c v)
  | 0, _, _, hv => ⟨.inr (.inr rfl), hv⟩
  | f + 1, c, _v, hv => wkL_ok p (fun d v h => wk_ok cs p f d v h) c _ _ _ hv

/-! The spec's walk. -/
theorem spec_walk {s : Ruleset} (hb : CB s.Chains) {ρ : Nat → Nat} (h : Rank s.Chains ρ) {p : Packet} (hp : PV p) : ∀ (f c : Nat) (v : List Visit), c < s.Chains.length → ρ c < f → v.length ≤ 200 → spec_l9Walk f s (c : Int) p v = some (wk s.Chains p f c v) := by
  intro f
  induction f with
  | zero => intro c v _ h; omega
  | succ f ih =>
    intro c v hc hr hvl
    have hv := hb.rv _ (ch_mem hc)
    have hl := hv.2
    unfold spec_l9Walk
    simp only [ch_idx hc, Option.getD_some]
    suffices key : ∀ (j k fuel : Nat) (v : List Visit), k + j = (ch s.Chains c).length → j < fuel → v.length ≤ 200 →
        ((loopF (spec_l9Walk_L0 s (c : Int) p (spec_l9Walk f)) fuel ((k : Int), v)).bind fun lr => lr.on (fun (x : Int × List Visit) => some ((5 : Int), x.2)) (fun r => some r)) = some (wkL p (wk s.Chains p f) c k ((ch s.Chains c).drop k) v) from
      key (ch s.Chains c).length 0 _ v (by omega) (by omega) hvl
    intro j
    induction j with
    | zero =>
      intro k fuel v hk hf hvl
      obtain ⟨g, rfl⟩ : ∃ g, fuel = g + 1 := ⟨fuel - 1, by omega⟩
      have hk' : k = (ch s.Chains c).length := by omega
      subst hk'
      unfold loopF
      have : spec_l9Walk_L0 s (c : Int) p (spec_l9Walk f) (((ch s.Chains c).length : Int), v) = some (.brk (((ch s.Chains c).length : Int), v)) := by
        unfold spec_l9Walk_L0
        simp only [ch_idx hc, Option.bind_some, lt_false (Int.le_refl _), cond_false]
      rw [this, List.drop_length]; rfl
    | succ j ihj =>
      intro k fuel v hk hf hvl
      obtain ⟨g, rfl⟩ : ∃ g, fuel = g + 1 := ⟨fuel - 1, by omega⟩
      have hkl : k < (ch s.Chains c).length := by omega
      have hm := List.getElem_mem hkl
      have hru := hv.1 _ hm
      have hsee := see_len hvl c k
      have nxt : ∀ v', v'.length ≤ 200 → spec_l9Walk_L0 s (c : Int) p (spec_l9Walk f) ((k : Int), v) = some (.nxt (((k + 1 : Nat) : Int), v')) →
          ((loopF (spec_l9Walk_L0 s (c : Int) p (spec_l9Walk f)) (g + 1) ((k : Int), v)).bind fun lr => lr.on (fun (x : Int × List Visit) => some ((5 : Int), x.2)) (fun r => some r)) = some (wkL p (wk s.Chains p f) c (k + 1) ((ch s.Chains c).drop (k + 1)) v') := fun v' hv' e => by
        unfold loopF
        rw [e]
        exact ihj (k + 1) g v' (by omega) (by omega) hv'
      have ret : ∀ r, spec_l9Walk_L0 s (c : Int) p (spec_l9Walk f) ((k : Int), v) = some (.ret r) →
          ((loopF (spec_l9Walk_L0 s (c : Int) p (spec_l9Walk f)) (g + 1) ((k : Int), v)).bind fun lr => lr.on (fun (x : Int × List Visit) => some ((5 : Int), x.2)) (fun r => some r)) = some r := fun r e => by
        unfold loopF
        rw [e]; rfl
      rw [List.drop_eq_getElem_cons hkl]
      unfold wkL
      have hbody : ∀ (T : List Visit → Option (SR (Int × List Visit) (Int × List Visit))), (bif decide ((v.length : Int) < 200) then (appF v [({ Chain := (c : Int), Place := (k : Int) } : Visit)]).bind T else T v) = T (see v c k) := fun T => by
        unfold see
        by_cases hl2 : v.length < 200
        · rw [decide_eq_true (by omega : (v.length : Int) < 200), cond_true, app_ok (by simp; omega), if_pos hl2]; rfl
        · rw [decide_eq_false (by omega : ¬ (v.length : Int) < 200), if_neg hl2]; rfl
      have hstep : spec_l9Walk_L0 s (c : Int) p (spec_l9Walk f) ((k : Int), v) = bif holdB p (ch s.Chains c)[k] then (fun z1 : List Visit =>
          bif ((ch s.Chains c)[k].Action == 1) then some (.ret ((ch s.Chains c)[k].Action, z1))
          else bif ((ch s.Chains c)[k].Action == 2) then some (.ret ((ch s.Chains c)[k].Action, z1))
          else bif ((ch s.Chains c)[k].Action == 4) then some (.ret (5, z1))
          else bif ((ch s.Chains c)[k].Action == 3) then (spec_l9Walk f s (ch s.Chains c)[k].Chain p z1).bind fun x4 => bif (x4.1 != 5) then some (.ret (x4.1, x4.2)) else some (.nxt ((W ((k : Int) + 1)), x4.2))
          else some (.nxt ((W ((k : Int) + 1)), z1))) (see v c k) else some (.nxt ((W ((k : Int) + 1)), v)) := by
        unfold spec_l9Walk_L0
        simp only [ch_idx hc, Option.bind_some, lt_true (show (k : Int) < ((ch s.Chains c).length : Int) by omega), cond_true, idx_get hkl, spec_hold hru hp]
        cases holdB p (ch s.Chains c)[k] with
        | false => simp only [cond_false]
        | true => simp only [cond_true]; exact hbody _
      rw [W_succ (by omega)] at hstep
      by_cases hh : holdB p (ch s.Chains c)[k] = true
      · rw [if_pos hh]
        rw [hh, cond_true] at hstep
        simp only at hstep
        by_cases a1 : (ch s.Chains c)[k].Action = 1
        · rw [if_pos a1]
          exact ret _ (by rw [hstep, a1]; rfl)
        rw [if_neg a1]
        rw [(by simp [a1] : ((ch s.Chains c)[k].Action == 1) = false), cond_false] at hstep
        by_cases a2 : (ch s.Chains c)[k].Action = 2
        · rw [if_pos a2]
          exact ret _ (by rw [hstep, a2]; rfl)
        rw [if_neg a2]
        rw [(by simp [a2] : ((ch s.Chains c)[k].Action == 2) = false), cond_false] at hstep
        by_cases a4 : (ch s.Chains c)[k].Action = 4
        · rw [if_pos a4]
          exact ret _ (by rw [hstep, a4]; rfl)
        rw [if_neg a4]
        rw [(by simp [a4] : ((ch s.Chains c)[k].Action == 4) = false), cond_false] at hstep
        by_cases a3 : (ch s.Chains c)[k].Action = 3
        · rw [if_pos a3]
          obtain ⟨d, hd⟩ := Int.eq_ofNat_of_zero_le (hv.chain hm).1
          have hcall : Calls s.Chains c d := called_mem.2 ⟨_, hm, a3, hd⟩
          have hrd := h.2 c d hc hcall
          rw [(by simp [a3] : ((ch s.Chains c)[k].Action == 3) = true), cond_true, hd, ih d _ hrd.1 (by omega) hsee, Option.bind_some] at hstep
          rw [hd, Int.toNat_natCast]
          by_cases h5 : (wk s.Chains p f d (see v c k)).1 = 5
          · rw [if_pos h5]
            rw [(by simp [h5] : ((wk s.Chains p f d (see v c k)).1 != 5) = false), cond_false] at hstep
            exact nxt _ (wk_ok _ _ _ _ _ hsee).2 hstep
          · rw [if_neg h5]
            rw [(by simp [h5] : ((wk s.Chains p f d (see v c k)).1 != 5) = true), cond_true] at hstep
            exact ret _ hstep
        rw [if_neg a3]
        rw [(by simp [a3] : ((ch s.Chains c)[k].Action == 3) = false), cond_false] at hstep
        exact nxt _ hsee hstep
      · rw [if_neg hh]
        rw [Bool.eq_false_iff.2 hh, cond_false] at hstep
        exact nxt _ hvl hstep

/-! The machine with a stack. -/
def Run {σ ρ : Type} (B : σ → Option (SR σ ρ)) (m : Nat) (s s' : σ) : Prop := ∀ N, loopF B (m + N) s = loopF B N s'
theorem Run.trans {σ ρ : Type} {B : σ → Option (SR σ ρ)} {m m' : Nat} {a b c : σ} (h : Run B m a b) (k : Run B m' b c) : Run B (m + m') a c := fun N => by
  rw [Nat.add_assoc, h, k]
theorem Run.one {σ ρ : Type} {B : σ → Option (SR σ ρ)} {a b : σ} (h : B a = some (.nxt b)) : Run B 1 a b := fun N => by
  rw [Nat.add_comm]
  show (B a).bind _ = _
  rw [h]; rfl
theorem Run.zero {σ ρ : Type} {B : σ → Option (SR σ ρ)} (a : σ) : Run B 0 a a := fun N => by rw [Nat.zero_add]
/-- The most rounds of a walk. -/
def cost : Nat → Nat
  | 0 => 0
  | f + 1 => 9 + 8 * cost f
/-- Where the machine stands when a walk has answered. -/
def After (stk : List Place) (r : Int × List Visit) (s : List Place × List Visit × Int) : Prop := s.2 = (r.2, r.1) ∧ (r.1 = 5 → s.1 = stk)
theorem top_set (stk : List Place) (x y : Place) : List.set (stk ++ [x]) ((stk.length : Nat) : Int).toNat y = stk ++ [y] := by
  rw [Int.toNat_natCast, List.set_append_right _ _ (Nat.le_refl _), Nat.sub_self]; rfl
theorem top_idx (stk : List Place) (x : Place) : idx (stk ++ [x]) ((stk.length : Nat) : Int) = some x := by
  rw [idx_nat, List.getElem?_append_right (Nat.le_refl _), Nat.sub_self]; rfl
theorem top_len (stk : List Place) (x : Place) (h : stk.length ≤ 100) : W (((stk ++ [x]).length : Int) - 1) = ((stk.length : Nat) : Int) := by
  rw [List.length_append, List.length_singleton, W_of (by omega) (by omega)]; omega
theorem top_take (stk : List Place) (x : Place) : takeF (stk ++ [x]) ((stk.length : Nat) : Int) = some stk := by
  unfold takeF
  rw [if_pos ⟨by omega, by rw [List.length_append, List.length_singleton]; omega⟩, Int.toNat_natCast, List.take_left]
theorem machine {s : Ruleset} (hb : CB s.Chains) {ρ : Nat → Nat} (h : Rank s.Chains ρ) (p : Packet) : ∀ (f c : Nat), c < s.Chains.length → ρ c < f → ∀ (stk : List Place) (v : List Visit), stk.length + f ≤ 50 → v.length ≤ 200 →
    ∃ m t, m ≤ cost f ∧ Run (impl_walkThrough_L0 s p) m (stk ++ [⟨(c : Int), 0⟩], v, 5) t ∧ After stk (wk s.Chains p f c v) t := by
  intro f
  induction f with
  | zero => intro c _ h; omega
  | succ f ih =>
    intro c hc hr stk v hst hvl
    have hv := hb.rv _ (ch_mem hc)
    have hl := hv.2
    have hcost : cost (f + 1) = 9 + 8 * cost f := rfl
    suffices key : ∀ (j k : Nat) (v : List Visit), k + j = (ch s.Chains c).length → v.length ≤ 200 →
        ∃ m t, m ≤ j * (1 + cost f) + 1 ∧ Run (impl_walkThrough_L0 s p) m (stk ++ [⟨(c : Int), (k : Int)⟩], v, 5) t ∧ After stk (wkL p (wk s.Chains p f) c k ((ch s.Chains c).drop k) v) t by
      obtain ⟨m, t, hm, hrun, haf⟩ := key (ch s.Chains c).length 0 v (by omega) hvl
      refine ⟨m, t, ?_, hrun, haf⟩
      have : (ch s.Chains c).length * (1 + cost f) ≤ 8 * (1 + cost f) := Nat.mul_le_mul_right _ (by omega)
      omega
    intro j
    induction j with
    | zero =>
      intro k v hk hvl
      have hk' : k = (ch s.Chains c).length := by omega
      subst hk'
      refine ⟨1, (stk, v, 5), by omega, Run.one ?_, ?_⟩
      · unfold impl_walkThrough_L0
        simp only [top_len stk _ (show stk.length ≤ 100 by omega), top_idx, Option.bind_some, ch_idx hc]
        rw [lt_true (show (0 : Int) < ((stk ++ [({ chain := (c : Int), next := ((ch s.Chains c).length : Int) } : Place)]).length : Int) by rw [List.length_append, List.length_singleton]; omega)]
        simp only [cond_true, beq_self_eq_true, impl_walk_leave, top_len stk _ (show stk.length ≤ 100 by omega), top_take, Option.bind_some]
      · rw [List.drop_length]; exact ⟨rfl, fun _ => rfl⟩
    | succ j ihj =>
      intro k v hk hvl
      have hkl : k < (ch s.Chains c).length := by omega
      have hm := List.getElem_mem hkl
      have hru := hv.1 _ hm
      have hsee := see_len hvl c k
      have hne : ((k : Int) == ((ch s.Chains c).length : Int)) = false := by simp; omega
      have hpos : decide ((0 : Int) < ((stk ++ [({ chain := (c : Int), next := (k : Int) } : Place)]).length : Int)) = true := lt_true (by rw [List.length_append, List.length_singleton]; omega)
      rw [List.drop_eq_getElem_cons hkl]
      unfold wkL
      have hbody : ∀ (T : List Visit → Option (SR (List Place × List Visit × Int) Walk)), (bif decide ((v.length : Int) < 200) then (appF v [({ Chain := (c : Int), Place := (k : Int) } : Visit)]).bind T else T v) = T (see v c k) := fun T => by
        unfold see
        by_cases hl2 : v.length < 200
        · rw [decide_eq_true (by omega : (v.length : Int) < 200), cond_true, app_ok (by simp; omega), if_pos hl2]; rfl
        · rw [decide_eq_false (by omega : ¬ (v.length : Int) < 200), if_neg hl2]; rfl
      have hstep : impl_walkThrough_L0 s p (stk ++ [⟨(c : Int), (k : Int)⟩], v, 5) = bif holdB p (ch s.Chains c)[k] then (fun z1 : List Visit =>
          (impl_actionOf (ch s.Chains c)[k]).bind fun x7 => (invoke_walk x7 (stk ++ [({ chain := (c : Int), next := ((k + 1 : Nat) : Int) } : Place)]) z1 5).bind fun x8 => some (.nxt (x8.1, x8.2.1, x8.2.2))) (see v c k)
          else some (.nxt (stk ++ [({ chain := (c : Int), next := ((k + 1 : Nat) : Int) } : Place)], v, 5)) := by
        unfold impl_walkThrough_L0
        simp only [hpos, cond_true, beq_self_eq_true, top_len stk _ (show stk.length ≤ 100 by omega), top_idx, Option.bind_some, ch_idx hc, hne, cond_false, idx_get hkl, impl_hold hru, W_succ (show k < 9223372036854775807 by omega), top_set]
        cases holdB p (ch s.Chains c)[k] with
        | false => simp only [cond_false]
        | true => simp only [cond_true]; exact hbody _
      have nxt : ∀ v', v'.length ≤ 200 → ∀ m0, m0 ≤ 1 + cost f → Run (impl_walkThrough_L0 s p) m0 (stk ++ [⟨(c : Int), (k : Int)⟩], v, 5) (stk ++ [⟨(c : Int), ((k + 1 : Nat) : Int)⟩], v', 5) →
          ∃ m t, m ≤ (j + 1) * (1 + cost f) + 1 ∧ Run (impl_walkThrough_L0 s p) m (stk ++ [⟨(c : Int), (k : Int)⟩], v, 5) t ∧ After stk (wkL p (wk s.Chains p f) c (k + 1) ((ch s.Chains c).drop (k + 1)) v') t := fun v' hv' m0 hm0 e => by
        obtain ⟨m, t, hm, hrun, haf⟩ := ihj (k + 1) v' (by omega) hv'
        refine ⟨m0 + m, t, ?_, e.trans hrun, haf⟩
        rw [Nat.succ_mul]; omega
      have fin : ∀ t r, impl_walkThrough_L0 s p (stk ++ [⟨(c : Int), (k : Int)⟩], v, 5) = some (.nxt t) → After stk r t →
          ∃ m t, m ≤ (j + 1) * (1 + cost f) + 1 ∧ Run (impl_walkThrough_L0 s p) m (stk ++ [⟨(c : Int), (k : Int)⟩], v, 5) t ∧ After stk r t := fun t r e ha => ⟨1, t, by omega, Run.one e, ha⟩
      by_cases hh : holdB p (ch s.Chains c)[k] = true
      · rw [if_pos hh]
        rw [hh, cond_true] at hstep
        simp only at hstep
        unfold impl_actionOf at hstep
        by_cases a1 : (ch s.Chains c)[k].Action = 1
        · rw [if_pos a1]
          exact fin (stk ++ [⟨(c : Int), ((k + 1 : Nat) : Int)⟩], see v c k, 1) (1, see v c k) (by rw [hstep, a1]; rfl) ⟨rfl, fun h => by simp at h⟩
        rw [if_neg a1]
        rw [(by simp [a1] : ((ch s.Chains c)[k].Action == 1) = false), cond_false] at hstep
        by_cases a2 : (ch s.Chains c)[k].Action = 2
        · rw [if_pos a2]
          exact fin (stk ++ [⟨(c : Int), ((k + 1 : Nat) : Int)⟩], see v c k, 2) (2, see v c k) (by rw [hstep, a2]; rfl) ⟨rfl, fun h => by simp at h⟩
        rw [if_neg a2]
        rw [(by simp [a2] : ((ch s.Chains c)[k].Action == 2) = false), cond_false] at hstep
        by_cases a4 : (ch s.Chains c)[k].Action = 4
        · rw [if_pos a4]
          refine fin (stk, see v c k, 5) _ ?_ ⟨rfl, fun _ => rfl⟩
          rw [hstep, a4]
          simp only [show ((4 : Int) == 3) = false from rfl, cond_false, beq_self_eq_true, cond_true, Option.bind_some, invoke_walk, impl_returning_walk, impl_walk_leave, top_len stk _ (show stk.length ≤ 100 by omega), top_take]
        rw [if_neg a4]
        by_cases a3 : (ch s.Chains c)[k].Action = 3
        · rw [if_pos a3]
          obtain ⟨d, hd⟩ := Int.eq_ofNat_of_zero_le (hv.chain hm).1
          have hcall : Calls s.Chains c d := called_mem.2 ⟨_, hm, a3, hd⟩
          have hrd := h.2 c d hc hcall
          obtain ⟨m, t, hm1, hrun, haf⟩ := ih d hrd.1 (by omega) (stk ++ [⟨(c : Int), ((k + 1 : Nat) : Int)⟩]) (see v c k) (by simp; omega) hsee
          have h1 : impl_walkThrough_L0 s p (stk ++ [⟨(c : Int), (k : Int)⟩], v, 5) = some (.nxt ((stk ++ [⟨(c : Int), ((k + 1 : Nat) : Int)⟩]) ++ [⟨(d : Int), 0⟩], see v c k, 5)) := by
            rw [hstep, a3, hd]
            simp only [beq_self_eq_true, cond_true, Option.bind_some, invoke_walk, impl_calling_walk]
            rw [app_ok (by simp; omega)]; rfl
          have hrun' := (Run.one h1).trans hrun
          obtain ⟨t1, t2⟩ := t
          obtain ⟨ht, ht5⟩ := haf
          simp only at ht ht5
          subst ht
          rw [hd, Int.toNat_natCast]
          by_cases h5 : (wk s.Chains p f d (see v c k)).1 = 5
          · rw [if_pos h5]
            rw [ht5 h5, h5] at hrun'
            exact nxt _ (wk_ok _ _ _ _ _ hsee).2 _ (by omega) hrun'
          · rw [if_neg h5]
            refine ⟨1 + m, _, ?_, hrun', rfl, fun h => absurd h h5⟩
            have : 1 * (1 + cost f) ≤ (j + 1) * (1 + cost f) := Nat.mul_le_mul_right _ (by omega)
            omega
        rw [if_neg a3]
        rw [(by simp [a3] : ((ch s.Chains c)[k].Action == 3) = false), cond_false, (by simp [a4] : ((ch s.Chains c)[k].Action == 4) = false), cond_false] at hstep
        exact nxt _ hsee 1 (by omega) (Run.one hstep)
      · rw [if_neg hh]
        rw [Bool.eq_false_iff.2 hh, cond_false] at hstep
        exact nxt _ hvl 1 (by omega) (Run.one hstep)
theorem cost5 : cost 5 = 42129 := rfl
/-- A walk does not need more than its rank. -/
theorem wk_same {cs : List (List Rule)} (hb : CB cs) {ρ : Nat → Nat} (h : Rank cs ρ) (p : Packet) : ∀ (f f' c : Nat) (v : List Visit), c < cs.length → ρ c < f → ρ c < f' → wk cs p f c v = wk cs p f' c v := by
  intro f
  induction f with
  | zero => intro f' c v _ h; omega
  | succ f ih =>
    intro f' c v hc h1 h2
    obtain ⟨g, rfl⟩ : ∃ g, f' = g + 1 := ⟨f' - 1, by omega⟩
    unfold wk
    have hv := hb.rv _ (ch_mem hc)
    suffices key : ∀ (rs : List Rule) (k : Nat) (v : List Visit), (∀ r ∈ rs, r ∈ ch cs c) → wkL p (wk cs p f) c k rs v = wkL p (wk cs p g) c k rs v from key _ 0 v fun _ h => h
    intro rs
    induction rs with
    | nil => intro k v _; rfl
    | cons r t iht =>
      intro k v hin
      have ht := fun k v => iht k v fun r hr => hin r (List.mem_cons_of_mem _ hr)
      unfold wkL
      by_cases a3 : r.Action = 3
      · have hm := hin r (List.mem_cons_self ..)
        have h0 := hv.chain hm
        have hrd := h.2 c r.Chain.toNat hc (called_mem.2 ⟨r, hm, a3, by omega⟩)
        rw [ih g r.Chain.toNat _ hrd.1 (by omega) (by omega)]
        simp only [ht]
      · simp only [if_neg a3, ht]
/-- A whole walk. -/
def judge (s : Ruleset) (p : Packet) : Int × List Visit := wk s.Chains p 5 0 []
theorem judge_ok (s : Ruleset) (p : Packet) : Wok (judge s p) := wk_ok _ _ _ _ _ (by simp)
theorem spec_judge {s : Ruleset} (h : RSV s) {p : Packet} (hp : PV p) : spec_l9Walk 10 s 0 p [] = some (judge s p) := by
  obtain ⟨hb, he⟩ := h
  obtain ⟨ρ, hρ⟩ := ends_rank hb he
  have h1 := hb.n1
  have h5 := hb.n5
  have hr := hρ.1 0 h1
  have := spec_walk hb hρ hp 10 0 [] h1 (by omega) (by simp)
  rw [Int.natCast_zero] at this
  rw [this]
  unfold judge
  rw [wk_same hb hρ p 10 5 0 [] h1 (by omega) (by omega)]
theorem impl_judge {s : Ruleset} (h : RSV s) (p : Packet) : ∃ stk, impl_walkThrough s p = some ⟨stk, (judge s p).2, (judge s p).1⟩ := by
  obtain ⟨hb, he⟩ := h
  obtain ⟨ρ, hρ⟩ := ends_rank hb he
  have h1 := hb.n1
  have h5 := hb.n5
  have hr := hρ.1 0 h1
  obtain ⟨m, ⟨t1, t2⟩, hm, hrun, ht, hs⟩ := machine hb hρ p 5 0 h1 (by omega) [] [] (by simp) (by simp)
  simp only at ht hs
  subst ht
  refine ⟨t1, ?_⟩
  rw [cost5] at hm
  unfold impl_walkThrough
  obtain ⟨N, hN⟩ : ∃ N, 1000000 = m + (N + 1) := ⟨1000000 - m - 1, by omega⟩
  have hrun := hrun (N + 1)
  rw [← hN] at hrun
  rw [List.nil_append, Int.natCast_zero] at hrun
  rw [hrun]
  have hbr : impl_walkThrough_L0 s p (t1, (judge s p).2, (judge s p).1) = some (.brk (t1, (judge s p).2, (judge s p).1)) := by
    unfold impl_walkThrough_L0
    by_cases h5 : (judge s p).1 = 5
    · have : t1 = [] := hs h5
      subst this; rfl
    · simp only [(by simp [h5] : ((judge s p).1 == 5) = false), cond_false]
      cases decide ((0 : Int) < (t1.length : Int)) <;> rfl
  show ((impl_walkThrough_L0 s p (t1, (judge s p).2, (judge s p).1)).bind _).bind _ = _
  rw [hbr]; rfl

/-! Judging. -/
def judgeB (s : Ruleset) (p : Packet) : Bool := if (judge s p).1 = 1 then true else if (judge s p).1 = 2 then false else s.Accept
theorem impl_jv {s : Ruleset} (h : RSV s) (p : Packet) : impl_judgeValid s p = some (judgeB s p) := by
  obtain ⟨stk, e⟩ := impl_judge h p
  unfold impl_judgeValid judgeB
  rw [e, Option.bind_some]
  simp only
  rcases (judge_ok s p).1 with h | h | h <;> rw [h] <;> rfl
theorem spec_jv {s : Ruleset} (hs : OkRs s) (p : Packet) : ∃ r, spec_Judge s p = some r ∧ (RSV s → PV p → r = judgeB s p) ∧ (¬ (RSV s ∧ PV p) → r = false) := by
  obtain ⟨v, e, hv⟩ := spec_ruleset hs
  obtain ⟨q, e2, hq⟩ := spec_packet p
  unfold spec_Judge
  rw [e, Option.bind_some]
  cases v with
  | false => exact ⟨false, rfl, fun h => by simpa using hv.2 h, fun _ => rfl⟩
  | true =>
    rw [cond_true, e2, Option.bind_some]
    cases q with
    | false => exact ⟨false, rfl, fun _ h => by simpa using hq.2 h, fun _ => rfl⟩
    | true =>
      rw [cond_true, spec_judge (hv.1 rfl) (hq.1 rfl), Option.bind_some]
      refine ⟨judgeB s p, ?_, fun _ _ => rfl, fun h => absurd ⟨hv.1 rfl, hq.1 rfl⟩ h⟩
      unfold judgeB
      rcases (judge_ok s p).1 with h | h | h <;> rw [h] <;> simp
theorem judge_is {s : Ruleset} (hs : OkRs s) (p : Packet) : ∃ r, spec_Judge s p = some r ∧ impl_Judge s p = some r ∧ (RSV s → PV p → r = judgeB s p) ∧ (¬ (RSV s ∧ PV p) → r = false) := by
  obtain ⟨r, e, h1, h2⟩ := spec_jv hs p
  refine ⟨r, e, ?_, h1, h2⟩
  obtain ⟨v, e1, hv⟩ := impl_ruleset hs
  obtain ⟨q, e2, hq⟩ := impl_packet p
  unfold impl_Judge
  rw [e1, Option.bind_some]
  cases v with
  | false => rw [cond_false, h2 fun h => by simpa using hv.2 h.1]
  | true =>
    rw [cond_true, e2, Option.bind_some]
    cases q with
    | false => rw [cond_false, h2 fun h => by simpa using hq.2 h.2]
    | true => rw [cond_true, impl_jv (hv.1 rfl), Option.bind_some, h1 (hv.1 rfl) (hq.1 rfl)]
end Go.PF.F

/- Plain laws: the chains that a ruleset uses. -/
namespace Go.PF.F
open Go Go.PF

theorem Reach.lt {cs : List (List Rule)} (hb : CB cs) {c x : Nat} (hc : c < cs.length) (h : Reach cs c x) : x < cs.length := by
  induction h with
  | refl => exact hc
  | step e _ ih => exact ih (hb.callee hc e)
theorem Reach.snoc {cs : List (List Rule)} {c x y : Nat} (h : Reach cs c x) (e : Calls cs x y) : Reach cs c y := by
  induction h with
  | refl => exact .step e (.refl _)
  | step e2 _ ih => exact .step e2 (ih e)
/-! The spec's rounds. -/
end Go.PF.F

/- Plain laws: what changes of a ruleset do to judging. -/
namespace Go.PF.F
open Go Go.PF

/-! The action alone. -/
def waL (p : Packet) (rec : Nat → Int) : List Rule → Int
  | [] => 5
  | r :: rs =>
    if holdB p r then
      if r.Action = 1 then 1
      else if r.Action = 2 then 2
      else if r.Action = 4 then 5
      else if r.Action = 3 then
        if rec r.Chain.toNat = 5 then waL p rec rs else rec r.Chain.toNat
      else waL p rec rs
    else waL p rec rs
def wa (cs : List (List Rule)) (p : Packet) : Nat → Nat → Int
  | 0, _ => 5
  | f + 1, c => waL p (wa cs p f) (ch cs c)
theorem wkL_act (p : Packet) {rec : Nat → List Visit → Int × List Visit} {rec' : Nat → Int} (h : ∀ d v, (rec d v).1 = rec' d) (c : Nat) : ∀ (rs : List Rule) (k : Nat) (v : List Visit), (wkL p rec c k rs v).1 = waL p rec' rs := by
  intro rs
  induction rs with
  | nil => intro k v; rfl
  | cons r t ih =>
    intro k v
    unfold wkL waL
    by_cases hh : holdB p r = true
    · rw [if_pos hh, if_pos hh]
      by_cases a1 : r.Action = 1
      · rw [if_pos a1, if_pos a1]
      rw [if_neg a1, if_neg a1]
      by_cases a2 : r.Action = 2
      · rw [if_pos a2, if_pos a2]
      rw [if_neg a2, if_neg a2]
      by_cases a4 : r.Action = 4
      · rw [if_pos a4, if_pos a4]
      rw [if_neg a4, if_neg a4]
      by_cases a3 : r.Action = 3
      · rw [if_pos a3, if_pos a3, h]
        by_cases h5 : rec' r.Chain.toNat = 5
        · rw [if_pos h5, if_pos h5]; exact ih _ _
        · rw [if_neg h5, if_neg h5]; exact h _ _
      · rw [if_neg a3, if_neg a3]; exact ih _ _
    · rw [if_neg hh, if_neg hh]; exact ih _ _
theorem wk_act (cs : List (List Rule)) (p : Packet) : ∀ (f c : Nat) (v : List Visit), (wk cs p f c v).1 = wa cs p f c
  | 0, _, _ => rfl
  | f + 1, c, v => wkL_act p (fun d v => wk_act cs p f d v) c _ _ _
theorem judge_act (s : Ruleset) (p : Packet) : (judge s p).1 = wa s.Chains p 5 0 := wk_act _ _ _ _ _
/-- Rules whose walks are alike. -/
theorem wa_rel {cs cs' : List (List Rule)} {p : Packet} {R : Int → Int} (h5 : R 5 = 5) (h : ∀ (rec rec' : Nat → Int), (∀ d, rec' d = R (rec d)) → ∀ c, waL p rec' (ch cs' c) = R (waL p rec (ch cs c))) : ∀ f c, wa cs' p f c = R (wa cs p f c)
  | 0, _ => h5.symm
  | f + 1, c => h _ _ (fun d => wa_rel h5 h f d) c
theorem waL_app (p : Packet) (rec : Nat → Int) {r0 : Rule} (h : r0.Action = 4 ∨ r0.Action = 5) (rs : List Rule) : waL p rec (rs ++ [r0]) = waL p rec rs := by
  induction rs with
  | nil =>
    show waL p rec [r0] = 5
    unfold waL waL
    rcases h with h | h <;> rw [h] <;> split <;> rfl
  | cons r t ih => rw [List.cons_append]; unfold waL; rw [ih]
/-! Chains that are changed. -/
theorem ch_map {cs : List (List Rule)} (g : List Rule → List Rule) {c : Nat} (hc : c < cs.length) : ch (cs.map g) c = g (ch cs c) := by
  unfold ch
  rw [List.getElem?_map, List.getElem?_eq_getElem hc]; rfl
theorem ch_out {cs : List (List Rule)} {c : Nat} (hc : cs.length ≤ c) : ch cs c = [] := by
  unfold ch; rw [List.getElem?_eq_none hc]; rfl
theorem ends_sub {cs cs' : List (List Rule)} (h : ∀ c d, Calls cs' c d → Calls cs c d) {c : Nat} (e : Ends cs c) : Ends cs' c :=
  Subrelation.accessible (q := fun d c => Calls cs' c d) (fun {_ _} hd => h _ _ hd) e
theorem CB.set {cs : List (List Rule)} (hb : CB cs) {i : Nat} {rs : List Rule} (hv : RsV rs) (hl : ∀ r ∈ rs, r.Chain < (cs.length : Int)) : CB (cs.set i rs) := by
  refine ⟨by rw [List.length_set]; exact hb.n1, by rw [List.length_set]; exact hb.n5, fun x hx => ?_, fun x hx r hr => ?_⟩
  · rcases List.mem_or_eq_of_mem_set hx with h | rfl
    · exact hb.rv x h
    · exact hv
  · rw [List.length_set]
    rcases List.mem_or_eq_of_mem_set hx with h | rfl
    · exact hb.lt x h r hr
    · exact hl r hr
theorem CB.map {cs : List (List Rule)} (hb : CB cs) {g : List Rule → List Rule} (hv : ∀ rs ∈ cs, RsV (g rs)) (hl : ∀ rs ∈ cs, ∀ r ∈ g rs, r.Chain < (cs.length : Int)) : CB (cs.map g) := by
  refine ⟨by rw [List.length_map]; exact hb.n1, by rw [List.length_map]; exact hb.n5, fun x hx => ?_, fun x hx r hr => ?_⟩
  · obtain ⟨y, hy, rfl⟩ := List.mem_map.1 hx
    exact hv y hy
  · rw [List.length_map]
    obtain ⟨y, hy, rfl⟩ := List.mem_map.1 hx
    exact hl y hy r hr
/-! What a walk visits. -/
end Go.PF.F
