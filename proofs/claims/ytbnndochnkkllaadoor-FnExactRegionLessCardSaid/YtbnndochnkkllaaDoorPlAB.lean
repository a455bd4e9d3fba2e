import Derived.Test.YtbnndochnkkllaaDoorPlP
/- Plain laws: rulesets: calls, orders, visits. -/
namespace Go.PF.F
open Go Go.PF

/-! The chains that rules call. -/
def callN (rs : List Rule) : List Nat := (List.range 5).filter (called rs)
def castL (xs : List Nat) : List Int := xs.map fun d : Nat => (d : Int)
def marksL (rs : List Rule) : List Bool := [called rs 0, called rs 1, called rs 2, called rs 3, called rs 4]
theorem castL_len (xs : List Nat) : (castL xs).length = xs.length := by unfold castL; rw [List.length_map]
theorem marks_idx (rs : List Rule) {k : Nat} (h : k < 5) : idx (marksL rs) (k : Int) = some (called rs k) := by
  rw [idx_nat]
  match k, h with
  | 0, _ => rfl
  | 1, _ => rfl
  | 2, _ => rfl
  | 3, _ => rfl
  | 4, _ => rfl
theorem marks_set {xs : List Rule} {r : Rule} {d : Nat} (h : d < 5) (ha : r.Action = 3) (hd : r.Chain = (d : Int)) : marksL (xs ++ [r]) = (marksL xs).set d true := by
  have e : ∀ k : Nat, called (xs ++ [r]) k = (called xs k || decide (d = k)) := fun k => by
    rw [called_app, ha, hd]
    by_cases h : d = k
    · subst h; simp
    · have : ((d : Int) == (k : Int)) = false := by simp; omega
      rw [this]; simp [h]
  unfold marksL
  simp only [e]
  match d, h with
  | 0, _ => simp
  | 1, _ => simp
  | 2, _ => simp
  | 3, _ => simp
  | 4, _ => simp
theorem marks_skip {xs : List Rule} {r : Rule} (ha : r.Action ≠ 3) : marksL (xs ++ [r]) = marksL xs := by
  unfold marksL
  simp [called_app, ha]
theorem calls_in {rs : List Rule} (h : RsV rs) : impl_callsIn rs = some (castL (callN rs)) := by
  have hl := h.2
  unfold impl_callsIn
  have e1 : loopF (impl_callsIn_L0 rs) (((rs.length : Int)) - 0).toNat.succ (0, [false, false, false, false, false]) = some (.brk ((rs.length : Int), marksL rs)) :=
    loop_brk (body := impl_callsIn_L0 rs) rs.length (fun k : Nat => ((k : Int), marksL (rs.take k))) _ (fun k hk => by
      have hc := h.chain (List.getElem_mem hk)
      unfold impl_callsIn_L0
      simp only [lt_true (show (k : Int) < (rs.length : Int) by omega), cond_true, idx_get hk, Option.bind_some, W_succ (show k < 9223372036854775807 by omega)]
      rw [take_snoc (List.getElem?_eq_getElem hk)]
      by_cases ha : rs[k].Action = 3
      · obtain ⟨d, hd⟩ := Int.eq_ofNat_of_zero_le hc.1
        have hd5 : d < 5 := by omega
        rw [(by simp [ha] : (rs[k].Action == 3) = true), cond_true, hd, marks_idx _ hd5, marks_set hd5 ha hd]; rfl
      · rw [(by simp [ha] : (rs[k].Action == 3) = false), cond_false, marks_skip ha])
      (by
        unfold impl_callsIn_L0
        simp only [lt_false (Int.le_refl _), cond_false, List.take_length]) (by omega)
  have e2 : loopF (impl_callsIn_L1 (marksL rs)) (((5 : Int)) - 0).toNat.succ (([] : List Int), 0) = some (.brk (castL (callN rs), 5)) :=
    loop_brk (body := impl_callsIn_L1 (marksL rs)) 5 (fun k : Nat => (castL ((List.range k).filter (called rs)), (k : Int))) _ (fun k hk => by
      have hlen : (castL ((List.range k).filter (called rs))).length ≤ k := by
        rw [castL_len]
        have := List.length_filter_le (called rs) (List.range k)
        rwa [List.length_range] at this
      unfold impl_callsIn_L1
      simp only [lt_true (show (k : Int) < 5 by omega), cond_true, marks_idx rs hk, Option.bind_some, W_succ (show k < 9223372036854775807 by omega)]
      rw [List.range_succ, List.filter_append]
      cases hc : called rs k with
      | true =>
        rw [cond_true, app_ok (by simp; omega)]
        simp [castL, hc]
      | false =>
        simp [castL, hc])
      rfl (by decide)
  rw [e1]
  simp only [Option.bind_some, LR.on]
  rw [e2]
  rfl

/-! Orders. -/
/-! Visits. -/
inductive Reach (cs : List (List Rule)) : Nat → Nat → Prop where
  | refl (c : Nat) : Reach cs c c
  | step {c d x : Nat} (h : Calls cs c d) (k : Reach cs d x) : Reach cs c x
def Col (col : List Int) : Prop := col.length = 5 ∧ ∀ x : Nat, x < 5 → col[x]? = some 0 ∨ col[x]? = some 1 ∨ col[x]? = some 2
def Nw (col : List Int) (x : Nat) : Prop := col[x]? = some 1 ∨ col[x]? = some 2
structure Vis (col col' : List Int) : Prop where
  ok : Col col'
  grey : ∀ x : Nat, col'[x]? = some 1 ↔ col[x]? = some 1
  blk : ∀ x : Nat, col[x]? = some 2 → col'[x]? = some 2
  cnt : col'.countP (fun v => v == 0) ≤ col.countP (fun v => v == 0)
theorem Vis.nw {a b : List Int} (h : Vis a b) {x : Nat} (k : Nw a x) : Nw b x := k.imp (h.grey x).2 (h.blk x)
theorem Vis.refl {a : List Int} (h : Col a) : Vis a a := ⟨h, fun _ => Iff.rfl, fun _ h => h, Nat.le_refl _⟩
theorem Vis.trans {a b c : List Int} (h : Vis a b) (k : Vis b c) : Vis a c := ⟨k.ok, fun x => (k.grey x).trans (h.grey x), fun x hx => k.blk x (h.blk x hx), Nat.le_trans k.cnt h.cnt⟩
structure Visit_ (cs : List (List Rule)) (col : List Int) (c : Nat) (b : Bool) (col' : List Int) : Prop where
  vis : Vis col col'
  ends : b = true → (∀ x : Nat, col[x]? = some 2 → Ends cs x) → ∀ x : Nat, col'[x]? = some 2 → Ends cs x
  mark : b = true → col'[c]? = some 2
  rank : ∀ ρ, Rank cs ρ → (∀ g : Nat, col[g]? = some 1 → ρ c < ρ g) → b = true
  reach : ∀ x : Nat, col'[x]? = some 2 → col[x]? = some 2 ∨ Reach cs c x
  clos : ∀ x : Nat, col'[x]? = some 2 → col[x]? = some 2 ∨ ∀ d, Calls cs x d → Nw col' d
  nw : Nw col' c
theorem Col.set {col : List Int} (h : Col col) {c : Nat} (hc : c < 5) {v : Int} (hv : v = 0 ∨ v = 1 ∨ v = 2) : Col (col.set c v) := by
  refine ⟨by rw [List.length_set]; exact h.1, fun x hx => ?_⟩
  rw [List.getElem?_set, h.1, if_pos hc]
  split
  · rcases hv with rfl | rfl | rfl <;> simp
  · exact h.2 x hx
/-! Rulesets. -/
/-- Lists that are not too long. -/
def OkRs (s : Ruleset) : Prop := s.Chains.length ≤ 9223372036854775807 ∧ ∀ rs ∈ s.Chains, rs.length ≤ 9223372036854775807 ∧ ∀ r ∈ rs, r.Tests.length ≤ 9223372036854775807
end Go.PF.F

/- Plain laws: depths of calls; exact laws of rulesets. -/
namespace Go.PF.F
open Go Go.PF

theorem set_set {α : Type} (xs : List α) (i : Nat) (a b : α) : (xs.set i a).set i b = xs.set i b := by simp
/-! Rulesets as arguments. -/
end Go.PF.F

/- Plain laws: walks through a ruleset, judging. -/
namespace Go.PF.F
open Go Go.PF

/-! The spec's walk. -/
/-! The machine with a stack. -/
def Run {σ ρ : Type} (B : σ → Option (SR σ ρ)) (m : Nat) (s s' : σ) : Prop := ∀ N, loopF B (m + N) s = loopF B N s'
theorem Run.trans {σ ρ : Type} {B : σ → Option (SR σ ρ)} {m m' : Nat} {a b c : σ} (h : Run B m a b) (k : Run B m' b c) : Run B (m + m') a c := fun N => by
  rw [Nat.add_assoc, h, k]
theorem Run.one {σ ρ : Type} {B : σ → Option (SR σ ρ)} {a b : σ} (h : B a = some (.nxt b)) : Run B 1 a b := fun N => by
  rw [Nat.add_comm]
  show (B a).bind _ = _
  rw [h]; rfl
theorem Run.zero {σ ρ : Type} {B : σ → Option (SR σ ρ)} (a : σ) : Run B 0 a a := fun N => by rw [Nat.zero_add]
/-! Judging. -/
end Go.PF.F

/- Plain laws: the chains that a ruleset uses. -/
namespace Go.PF.F
open Go Go.PF

theorem Reach.lt {cs : List (List Rule)} (hb : CB cs) {c x : Nat} (hc : c < cs.length) (h : Reach cs c x) : x < cs.length := by
  induction h with
  | refl => exact hc
  | step e _ ih => exact ih (hb.callee hc e)
/-! The spec's rounds. -/
end Go.PF.F

/- Plain laws: what changes of a ruleset do to judging. -/
namespace Go.PF.F
open Go Go.PF

/-! The action alone. -/
/-! Chains that are changed. -/
theorem CB.set {cs : List (List Rule)} (hb : CB cs) {i : Nat} {rs : List Rule} (hv : RsV rs) (hl : ∀ r ∈ rs, r.Chain < (cs.length : Int)) : CB (cs.set i rs) := by
  refine ⟨by rw [List.length_set]; exact hb.n1, by rw [List.length_set]; exact hb.n5, fun x hx => ?_, fun x hx r hr => ?_⟩
  · rcases List.mem_or_eq_of_mem_set hx with h | rfl
    · exact hb.rv x h
    · exact hv
  · rw [List.length_set]
    rcases List.mem_or_eq_of_mem_set hx with h | rfl
    · exact hb.lt x h r hr
    · exact hl r hr
theorem CB.map {cs : List (List Rule)} (hb : CB cs) {g : List Rule → List Rule} (hv : ∀ rs ∈ cs, RsV (g rs)) (hl : ∀ rs ∈ cs, ∀ r ∈ g rs, r.Chain < (cs.length : Int)) : CB (cs.map g) := by
  refine ⟨by rw [List.length_map]; exact hb.n1, by rw [List.length_map]; exact hb.n5, fun x hx => ?_, fun x hx r hr => ?_⟩
  · obtain ⟨y, hy, rfl⟩ := List.mem_map.1 hx
    exact hv y hy
  · rw [List.length_map]
    obtain ⟨y, hy, rfl⟩ := List.mem_map.1 hx
    exact hl y hy r hr
/-! What a walk visits. -/
end Go.PF.F
