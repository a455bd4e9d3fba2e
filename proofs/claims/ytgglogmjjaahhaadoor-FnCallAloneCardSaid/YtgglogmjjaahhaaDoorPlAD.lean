/- Plain laws: laws of drawn rulesets. -/
import Derived.Test.YtgglogmjjaahhaaDoorPlAC
namespace Go.PF.F
open Go Go.PF

/-! Decisions. -/
/-! Traces. -/
/-! A ruleset that is changed. -/
theorem judgeB_wa (s : Ruleset) (p : Packet) : judgeB s p = if wa s.Chains p 5 0 = 1 then true else if wa s.Chains p 5 0 = 2 then false else s.Accept := by
  unfold judgeB; rw [judge_act]
theorem judge_same {s s' : Ruleset} (hs : OkRs s) (hs' : OkRs s') (p : Packet) (hv : RSV s ↔ RSV s') (hj : RSV s → PV p → judgeB s' p = judgeB s p) {r : Bool} (e : impl_Judge s p = some r) : impl_Judge s' p = some r := by
  obtain ⟨a, _, ea, a1, a2⟩ := judge_is hs p
  obtain ⟨b, _, eb, b1, b2⟩ := judge_is hs' p
  rw [ea] at e
  obtain rfl := Option.some.inj e
  rw [eb]
  by_cases h : RSV s ∧ PV p
  · rw [a1 h.1 h.2, b1 (hv.1 h.1) h.2, hj h.1 h.2]
  · rw [a2 h, b2 fun h' => h ⟨hv.2 h'.1, h'.2⟩]
theorem waL_nocall {p : Packet} (rec rec' : Nat → Int) : ∀ {rs : List Rule}, (∀ r ∈ rs, r.Action ≠ 3) → waL p rec rs = waL p rec' rs
  | [], _ => rfl
  | r :: rs, h => by
    have ih := waL_nocall (p := p) rec rec' fun x hx => h x (List.mem_cons_of_mem _ hx)
    have h3 := h r (List.mem_cons_self ..)
    unfold waL
    rw [ih, if_neg h3, if_neg h3]
theorem called_none {rs : List Rule} (h : ∀ r ∈ rs, r.Action ≠ 3) (d : Nat) : called rs d = false := by
  rw [Bool.eq_false_iff]; intro hc
  obtain ⟨r, hr, ha, _⟩ := called_mem.1 hc
  exact h r hr ha
theorem rsv_one {rs : List Rule} (h : ∀ r ∈ rs, r.Action ≠ 3) : RSV ⟨[rs], true⟩ ↔ RsV rs := by
  constructor
  · exact fun hb => hb.1.rv rs (List.mem_singleton.2 rfl)
  · intro hv
    refine ⟨⟨by simp, by simp, fun x hx => by rw [List.mem_singleton.1 hx]; exact hv, fun x hx r hr => ?_⟩, fun c _ => Acc.intro c fun d hd => ?_⟩
    · rw [List.mem_singleton.1 hx] at hr
      have := (hv.1 r hr).2.2
      have h3 := h r hr
      simp only [List.length_cons, List.length_nil]
      omega
    · exfalso
      have hd : called (ch [rs] c) d = true := hd
      match c, hd with
      | 0, hd => rw [show ch [rs] 0 = rs from rfl, called_none h] at hd; cases hd
      | c + 1, hd => rw [ch_out (by simp)] at hd; cases hd
theorem rsv_two {rs : List Rule} (h : ∀ r ∈ rs, r.Action ≠ 3) : RSV ⟨[[⟨[], 3, 1⟩], rs], true⟩ ↔ RsV rs := by
  constructor
  · exact fun hb => hb.1.rv rs (List.mem_cons_of_mem _ (List.mem_singleton.2 rfl))
  · intro hv
    have hcall : RsV [⟨[], 3, 1⟩] := ⟨fun r hr => by rw [List.mem_singleton.1 hr]; exact ⟨⟨by simp, by simp⟩, by decide, .inl ⟨rfl, by decide, by decide⟩⟩, by simp⟩
    refine ⟨⟨by simp, by simp, fun x hx => ?_, fun x hx r hr => ?_⟩, ?_⟩
    · rcases List.mem_cons.1 hx with rfl | hx
      · exact hcall
      · rw [List.mem_singleton.1 hx]; exact hv
    · simp only [List.length_cons, List.length_nil]
      rcases List.mem_cons.1 hx with rfl | hx
      · rw [List.mem_singleton.1 hr]; decide
      · rw [List.mem_singleton.1 hx] at hr
        have := (hv.1 r hr).2.2
        have h3 := h r hr
        omega
    · have end1 : ∀ c, c ≠ 0 → Ends [[⟨[], 3, 1⟩], rs] c := fun c hc => Acc.intro c fun d hd => by
        exfalso
        have hd : called (ch [[⟨[], 3, 1⟩], rs] c) d = true := hd
        match c, hc, hd with
        | 1, _, hd => rw [show ch [[⟨[], 3, 1⟩], rs] 1 = rs from rfl, called_none h] at hd; cases hd
        | c + 2, _, hd => rw [ch_out (by simp)] at hd; cases hd
      intro c _
      by_cases hc : c = 0
      · subst hc
        refine Acc.intro 0 fun d hd => end1 d fun e => ?_
        subst e
        have hd : called [({ Tests := [], Action := 3, Chain := 1 } : Rule)] 0 = true := hd
        cases hd
      · exact end1 c hc
theorem plain_FnCallAlone (code : List Int) (g : GAll GU8 code) : laws_FnCallAlone code = some true := by
  unfold laws_FnCallAlone
  refine draw_guard fun _ => ?_
  obtain ⟨rs, n, p, e, hr, _, _⟩ := draw_firstfit g
  have hr1 := hr.1
  rw [e]
  simp only [Option.bind_some]
  obtain ⟨o, ho, hq⟩ := loop_idx (body := laws_FnCallAlone_L0 (rs, n, p)) rs.length (fun k st => st = (k : Int) ∧ ∀ (j : Nat) r, j < k → rs[j]? = some r → r.Action ≠ 3)
    (fun o => (o = .brk (rs.length : Int) ∧ ∀ r ∈ rs, r.Action ≠ 3) ∨ o = .ret true) (s := 0) ⟨rfl, fun j r h => by omega⟩
    (fun k st hk ⟨h1, h2⟩ => by
      subst h1
      unfold laws_FnCallAlone_L0
      simp only [lt_true (show (k : Int) < (rs.length : Int) by omega), cond_true, idx_get hk, Option.bind_some, alive_is, W_succ (show k < 9223372036854775807 by omega)]
      by_cases h3 : rs[k].Action = 3
      · rw [(by simp [h3] : (rs[k].Action == 3) = true)]
        exact .inr (.inl ⟨_, rfl, .inr rfl⟩)
      · rw [(by simp [h3] : (rs[k].Action == 3) = false)]
        refine .inl ⟨_, rfl, rfl, fun j r hj hx => ?_⟩
        by_cases ej : j = k
        · subst ej
          rw [List.getElem?_eq_getElem hk] at hx
          rw [← Option.some.inj hx]; exact h3
        · exact h2 j r (by omega) hx)
    (fun st ⟨h1, h2⟩ => by
      subst h1
      refine .inl ⟨_, by unfold laws_FnCallAlone_L0; simp only [lt_false (Int.le_refl _), cond_false], .inl ⟨rfl, fun r hr => ?_⟩⟩
      obtain ⟨j, hj⟩ := List.mem_iff_getElem?.1 hr
      exact h2 j r (List.getElem?_eq_some_iff.1 hj).1 hj)
  rw [show (((rs.length : Int)) - 0).toNat.succ = (((rs.length : Int)) - 0).toNat.succ from rfl, ho, Option.bind_some]
  rcases hq with ⟨rfl, hno⟩ | rfl
  · simp only [LR.on]
    have ok1 : OkRs ⟨[rs], true⟩ := ⟨by simp, fun x hx => by rw [List.mem_singleton.1 hx]; exact hr.ok⟩
    have ok2 : OkRs ⟨[[⟨[], 3, 1⟩], rs], true⟩ := ⟨by simp, fun x hx => by
      rcases List.mem_cons.1 hx with rfl | hx
      · exact ⟨by simp, fun r hr => by rw [List.mem_singleton.1 hr]; simp⟩
      · rw [List.mem_singleton.1 hx]; exact hr.ok⟩
    obtain ⟨b, eb1, eb2, _⟩ := judge_is ok1 p
    have e2 := judge_same ok1 ok2 p ((rsv_one hno).trans (rsv_two hno).symm) (fun _ _ => by
      rw [judgeB_wa, judgeB_wa]
      have ha : wa [[⟨[], 3, 1⟩], rs] p 5 0 = wa [rs] p 5 0 := by
        show waL p (wa [[⟨[], 3, 1⟩], rs] p 4) [⟨[], 3, 1⟩] = waL p (wa [rs] p 4) rs
        have h1 : wa [[⟨[], 3, 1⟩], rs] p 4 1 = waL p (wa [rs] p 4) rs := waL_nocall _ _ hno
        show (if wa [[⟨[], 3, 1⟩], rs] p 4 1 = 5 then 5 else wa [[⟨[], 3, 1⟩], rs] p 4 1) = _
        rw [h1]
        split
        · rename_i h; exact h.symm
        · rfl
      simp only [ha]) eb2
    simp only [eb1, eb2, e2, Option.bind_some, beq_self_eq_true, cond_true]
  · rfl
end Go.PF.F
