/- Plain laws: the chains that a ruleset uses. -/
import Derived.Test.YtbnndochnkkllaaDoorPlS
namespace Go.PF.F
open Go Go.PF

theorem Reach.lt {cs : List (List Rule)} (hb : CB cs) {c x : Nat} (hc : c < cs.length) (h : Reach cs c x) : x < cs.length := by
  induction h with
  | refl => exact hc
  | step e _ ih => exact ih (hb.callee hc e)
theorem Reach.snoc {cs : List (List Rule)} {c x y : Nat} (h : Reach cs c x) (e : Calls cs x y) : Reach cs c y := by
  induction h with
  | refl => exact .step e (.refl _)
  | step e2 _ ih => exact .step e2 (ih e)
def white : List Int := [0, 0, 0, 0, 0]
theorem white_at {x : Nat} (h : x < 5) : white[x]? = some 0 := by
  match x, h with
  | 0, _ => rfl
  | 1, _ => rfl
  | 2, _ => rfl
  | 3, _ => rfl
  | 4, _ => rfl
theorem white_no {x : Nat} {v : Int} (hv : v ≠ 0) : white[x]? ≠ some v := fun hx => by
  by_cases h : x < 5
  · rw [white_at h] at hx; exact hv (Option.some.inj hx).symm
  · rw [List.getElem?_eq_none (by simp [white]; omega)] at hx; cases hx
/-- A visit from chain 0 leaves coloured just what chain 0 reaches. -/
theorem visit_all {cs : List (List Rule)} (hb : CB cs) : ∃ b col, impl_visitCalls 10 cs 0 white = some (b, col) ∧ col.length = 5 ∧ ∀ x : Nat, x < 5 → ∃ v, col[x]? = some v ∧ (v ≠ 0 ↔ Reach cs 0 x) := by
  obtain ⟨b, col, e, hv⟩ := visit_ok hb 10 0 white hb.n1 ⟨rfl, fun x h => .inl (white_at h)⟩ (by decide)
  have hg : ∀ x : Nat, col[x]? ≠ some 1 := fun x hx => white_no (by decide) ((hv.vis.grey x).1 hx)
  have hcl : ∀ x d : Nat, col[x]? = some 2 → Calls cs x d → col[d]? = some 2 := fun x d hx hd => by
    rcases hv.clos x hx with h | h
    · exact absurd h (white_no (by decide))
    · exact (h d hd).resolve_left (hg d)
  have hall : ∀ c x : Nat, Reach cs c x → col[c]? = some 2 → col[x]? = some 2 := by
    intro c x h
    induction h with
    | refl => exact fun h => h
    | step e2 _ ih => exact fun h => ih (hcl _ _ h e2)
  refine ⟨b, col, e, hv.vis.ok.1, fun x hx => ?_⟩
  have h0 : col[0]? = some 2 := hv.nw.resolve_left (hg 0)
  rcases hv.vis.ok.2 x hx with h | h | h
  · refine ⟨0, h, fun hn => absurd rfl hn, fun hr => ?_⟩
    have := hall 0 x hr h0
    rw [h] at this
    exact absurd (Option.some.inj this) (by decide)
  · exact absurd h (hg x)
  · refine ⟨2, h, fun _ => ?_, fun _ => by decide⟩
    exact (hv.reach x h).resolve_left (white_no (by decide))

/-! The spec's rounds. -/
def addR (o : List Nat) (rs : List Rule) : List Nat := rs.foldl (fun o r => if r.Action = 3 then o ++ [r.Chain.toNat] else o) o
theorem addR_mem (rs : List Rule) (hr : ∀ r ∈ rs, 0 ≤ r.Chain) : ∀ (o : List Nat) (x : Nat), x ∈ addR o rs ↔ x ∈ o ∨ called rs x = true := by
  induction rs with
  | nil => intro o x; simp [addR, called]
  | cons r t ih =>
    intro o x
    have h0 := hr r (List.mem_cons_self ..)
    have := ih (fun r hr' => hr r (List.mem_cons_of_mem _ hr')) (if r.Action = 3 then o ++ [r.Chain.toNat] else o) x
    unfold addR at this ⊢
    rw [List.foldl_cons, this]
    unfold called
    rw [List.any_cons, Bool.or_eq_true]
    by_cases ha : r.Action = 3
    · rw [if_pos ha, List.mem_append, List.mem_singleton, or_assoc]
      refine or_congr Iff.rfl (or_congr ?_ Iff.rfl)
      simp only [ha, beq_self_eq_true, Bool.true_and, beq_iff_eq]
      omega
    · rw [if_neg ha]
      simp [ha]
def stepU (cs : List (List Rule)) (o : List Nat) (c : Nat) : List Nat := if c ∈ o then addR o (ch cs c) else o
def roundU (cs : List (List Rule)) (o : List Nat) : List Nat := (List.range cs.length).foldl (stepU cs) o
def roundsU (cs : List (List Rule)) (k : Nat) : List Nat := (List.range k).foldl (fun o _ => roundU cs o) [0]
theorem stepU_mem {cs : List (List Rule)} (hb : CB cs) {c : Nat} (hc : c < cs.length) (o : List Nat) (x : Nat) : x ∈ stepU cs o c ↔ x ∈ o ∨ (c ∈ o ∧ Calls cs c x) := by
  unfold stepU
  by_cases h : c ∈ o
  · rw [if_pos h, addR_mem _ fun r hr => ((hb.rv _ (ch_mem hc)).chain hr).1]
    exact or_congr Iff.rfl ⟨fun e => ⟨h, e⟩, fun e => e.2⟩
  · rw [if_neg h]
    exact ⟨.inl, fun e => e.resolve_right fun e => h e.1⟩
theorem foldU_sub {cs : List (List Rule)} (hb : CB cs) (l : List Nat) (hl : ∀ c ∈ l, c < cs.length) : ∀ o : List Nat, o ⊆ l.foldl (stepU cs) o := by
  induction l with
  | nil => intro o; exact List.Subset.refl _
  | cons a t ih => intro o x hx; exact ih (fun c hc => hl c (List.mem_cons_of_mem _ hc)) _ ((stepU_mem hb (hl a (List.mem_cons_self ..)) o x).2 (.inl hx))
theorem foldU_has {cs : List (List Rule)} (hb : CB cs) (l : List Nat) (hl : ∀ c ∈ l, c < cs.length) : ∀ (o : List Nat) (c x : Nat), c ∈ l → c ∈ o → Calls cs c x → x ∈ l.foldl (stepU cs) o := by
  induction l with
  | nil => intro o c x h; cases h
  | cons a t ih =>
    intro o c x hc ho hx
    have hl' := fun c hc => hl c (List.mem_cons_of_mem _ hc)
    rcases List.mem_cons.1 hc with rfl | hc
    · exact foldU_sub hb t hl' _ ((stepU_mem hb (hl c (List.mem_cons_self ..)) o x).2 (.inr ⟨ho, hx⟩))
    · exact ih hl' _ c x hc ((stepU_mem hb (hl a (List.mem_cons_self ..)) o c).2 (.inl ho)) hx
theorem foldU_reach {cs : List (List Rule)} (hb : CB cs) (l : List Nat) (hl : ∀ c ∈ l, c < cs.length) : ∀ o : List Nat, (∀ x ∈ o, Reach cs 0 x) → ∀ x ∈ l.foldl (stepU cs) o, Reach cs 0 x := by
  induction l with
  | nil => intro o h; exact h
  | cons a t ih =>
    intro o h
    refine ih (fun c hc => hl c (List.mem_cons_of_mem _ hc)) _ fun x hx => ?_
    rcases (stepU_mem hb (hl a (List.mem_cons_self ..)) o x).1 hx with hx | ⟨ha, hx⟩
    · exact h x hx
    · exact (h a ha).snoc hx
theorem roundsU_succ (cs : List (List Rule)) (k : Nat) : roundsU cs (k + 1) = roundU cs (roundsU cs k) := by
  unfold roundsU; rw [List.range_succ, List.foldl_append]; rfl
theorem roundsU_reach {cs : List (List Rule)} (hb : CB cs) : ∀ k, ∀ x ∈ roundsU cs k, Reach cs 0 x
  | 0 => fun x hx => by rw [List.mem_singleton.1 hx]; exact .refl _
  | k + 1 => by rw [roundsU_succ]; exact foldU_reach hb _ (fun c hc => List.mem_range.1 hc) _ (roundsU_reach hb k)
def Closed (cs : List (List Rule)) (o : List Nat) : Prop := ∀ c x, c ∈ o → c < cs.length → Calls cs c x → x ∈ o
def cntU (n : Nat) (o : List Nat) : Nat := (List.range n).countP fun x => decide (x ∈ o)
theorem cntU_lt {o o' : List Nat} (hs : o ⊆ o') {y : Nat} (hy : y ∈ o') (hn : y ∉ o) : ∀ n, cntU n o + (if y < n then 1 else 0) ≤ cntU n o'
  | 0 => by simp [cntU]
  | n + 1 => by
    have ih := cntU_lt hs hy hn n
    unfold cntU at ih ⊢
    rw [List.range_succ, List.countP_append, List.countP_append]
    simp only [List.countP_singleton, decide_eq_true_eq]
    by_cases hyn : y = n
    · subst hyn
      rw [if_neg hn, if_pos hy, if_pos (by omega)]
      rw [if_neg (by omega)] at ih
      omega
    · have h1 : (if y < n + 1 then 1 else 0) = (if y < n then 1 else 0) := by
        by_cases h : y < n
        · rw [if_pos h, if_pos (by omega)]
        · rw [if_neg h, if_neg (by omega)]
      rw [h1]
      have h2 : (if n ∈ o then 1 else 0) ≤ (if n ∈ o' then 1 else 0) := by
        by_cases h : n ∈ o
        · rw [if_pos h, if_pos (hs h)]; omega
        · rw [if_neg h]; omega
      omega
theorem roundU_closed {cs : List (List Rule)} (hb : CB cs) {o : List Nat} (h : Closed cs o) : ∀ x, x ∈ roundU cs o ↔ x ∈ o := by
  suffices key : ∀ (l : List Nat), (∀ c ∈ l, c < cs.length) → ∀ o' : List Nat, (∀ x, x ∈ o' ↔ x ∈ o) → ∀ x, x ∈ l.foldl (stepU cs) o' ↔ x ∈ o from key _ (fun c hc => List.mem_range.1 hc) o fun _ => Iff.rfl
  intro l
  induction l with
  | nil => intro _ o' h'; exact h'
  | cons a t ih =>
    intro hl o' h'
    have ha := hl a (List.mem_cons_self ..)
    refine ih (fun c hc => hl c (List.mem_cons_of_mem _ hc)) _ fun x => ?_
    rw [stepU_mem hb ha, h', h']
    exact ⟨fun e => e.elim id fun e => h a x e.1 ha e.2, .inl⟩
theorem roundsU_grow {cs : List (List Rule)} (hb : CB cs) : ∀ k, Closed cs (roundsU cs k) ∨ k + 1 ≤ cntU cs.length (roundsU cs k)
  | 0 => by
    right
    have h1 := hb.n1
    have := cntU_lt (o := []) (o' := [0]) (by simp) (y := 0) (by simp) (by simp) cs.length
    rw [if_pos (by omega)] at this
    show 1 ≤ cntU cs.length [0]
    omega
  | k + 1 => by
    rw [roundsU_succ]
    have hsub : roundsU cs k ⊆ roundU cs (roundsU cs k) := foldU_sub hb _ (fun c hc => List.mem_range.1 hc) _
    by_cases hc : Closed cs (roundsU cs k)
    · left
      intro c x h1 h2 h3
      rw [roundU_closed hb hc] at h1 ⊢
      exact hc c x h1 h2 h3
    · right
      have hk := (roundsU_grow hb k).resolve_left hc
      unfold Closed at hc
      simp only [Classical.not_forall] at hc
      obtain ⟨c, x, h1, h2, h3, h4⟩ := hc
      have hx : x ∈ roundU cs (roundsU cs k) := foldU_has hb _ (fun c hc => List.mem_range.1 hc) _ c x (List.mem_range.2 h2) h1 h3
      have hlt := hb.callee h2 h3
      have := cntU_lt hsub hx h4 cs.length
      rw [if_pos hlt] at this
      omega
/-- After as many rounds as chains: just what chain 0 reaches. -/
theorem roundsU_all {cs : List (List Rule)} (hb : CB cs) (x : Nat) : x ∈ roundsU cs cs.length ↔ Reach cs 0 x := by
  refine ⟨roundsU_reach hb _ x, fun h => ?_⟩
  have hcl : Closed cs (roundsU cs cs.length) := by
    rcases roundsU_grow hb cs.length with h | h
    · exact h
    · have h2 : cntU cs.length (roundsU cs cs.length) ≤ (List.range cs.length).length := List.countP_le_length
      rw [List.length_range] at h2
      omega
  have h0 : ∀ k, 0 ∈ roundsU cs k := fun k => by
    induction k with
    | zero => exact List.mem_singleton.2 rfl
    | succ k ih => rw [roundsU_succ]; exact foldU_sub hb _ (fun c hc => List.mem_range.1 hc) _ ih
  suffices key : ∀ c x, Reach cs c x → c < cs.length → c ∈ roundsU cs cs.length → x ∈ roundsU cs cs.length from key 0 x h hb.n1 (h0 _)
  intro c x h
  induction h with
  | refl => exact fun _ h => h
  | step e _ ih => exact fun hc hm => ih (hb.callee hc e) (hcl _ _ hm hc e)
theorem filter_range {p : Nat → Bool} {n : Nat} (hp : ∀ x, p x = true → x < n) : ∀ m, n ≤ m → (List.range m).filter p = (List.range n).filter p
  | 0, h => by rw [show n = 0 by omega]
  | m + 1, h => by
    by_cases e : n = m + 1
    · rw [e]
    · rw [List.range_succ, List.filter_append, filter_range hp m (by omega)]
      have : p m = false := by rw [Bool.eq_false_iff]; exact fun h2 => by have := hp m h2; omega
      simp [this]
theorem callN_range {cs : List (List Rule)} (hb : CB cs) {c : Nat} (hc : c < cs.length) : callN (ch cs c) = (List.range cs.length).filter (called (ch cs c)) :=
  filter_range (fun _ h => hb.callee hc h) 5 hb.n5
end Go.PF.F
