/- Plain laws: laws of drawn rulesets. -/
import Derived.Test.YtbnndochnkkllaaDoorPlAC
namespace Go.PF.F
open Go Go.PF

theorem no_self {cs : List (List Rule)} {c : Nat} (h : Ends cs c) : ¬ Calls cs c c := by
  induction h with
  | intro c _ ih => exact fun hc => ih c hc hc
theorem rsv_same {s s' : Ruleset} (h : s.Chains = s'.Chains) : RSV s ↔ RSV s' := by unfold RSV; rw [h]
theorem draw_rulesetvalid {code : List Int} (h : GAll GU8 code) : ∃ s : Ruleset, spec_DrawRulesetValid code = some s ∧ RsSm s := by
  obtain ⟨s, p, xs, e0, hx, e, hs, _⟩ := draw_ruleset h 2
  refine ⟨s, ?_, hs⟩
  unfold spec_DrawRulesetValid
  rw [e0, Option.bind_some]
  simp only [e, Option.bind_some]
theorem draw_chainsused {code : List Int} (h : GAll GU8 code) : ∃ s : Ruleset, spec_DrawChainsUsed code = some s ∧ RsSm s := by
  obtain ⟨s, p, xs, e0, hx, e, hs, _⟩ := draw_ruleset h 9
  refine ⟨s, ?_, hs⟩
  unfold spec_DrawChainsUsed
  rw [e0, Option.bind_some]
  simp only [e, Option.bind_some]
theorem plain_FnRulesetValid (code : List Int) (g : GAll GU8 code) : laws_FnRulesetValid code = some true := by
  unfold laws_FnRulesetValid
  refine draw_guard fun _ => ?_
  obtain ⟨s, e, hs⟩ := draw_rulesetvalid g
  obtain ⟨v, e1, e2, hv⟩ := (spec_ruleset hs.ok).same (impl_ruleset hs.ok)
  rw [e]
  simp only [Option.bind_some, e1, e2, bne_self_eq_false, cond_false, alive_is]
  cases v with
  | false =>
    rw [cond_false]
    obtain ⟨q, eq, hq⟩ := impl_ruleset (s := ⟨[], false⟩) ⟨by simp, by simp⟩
    have : q = false := by
      rw [Bool.eq_false_iff]; intro h
      have := (hq.1 h).1.n1
      simp at this
    subst this
    rw [eq]; rfl
  | true =>
    rw [cond_true]
    have hr := hv.1 rfl
    have h1 := hr.1.n1
    have h3 := hs.1
    rw [show dropF s.Chains 1 = some (s.Chains.drop 1) from by unfold dropF; rw [if_pos ⟨by omega, by omega⟩]; rfl, Option.bind_some, app_ok (by simp; omega), Option.bind_some]
    have hbad : OkRs ⟨[[({ Tests := [], Action := 3, Chain := 0 } : Rule)]] ++ s.Chains.drop 1, false⟩ := by
      have := hs.ok
      refine ⟨by simp; omega, fun rs hrs => ?_⟩
      rcases List.mem_append.1 hrs with h | h
      · rw [List.mem_singleton.1 h]
        exact ⟨by simp, fun r hr => by rw [List.mem_singleton.1 hr]; simp⟩
      · exact this.2 rs (List.mem_of_mem_drop h)
    obtain ⟨q, eq, hq⟩ := impl_ruleset hbad
    have hqf : q = false := by
      rw [Bool.eq_false_iff]; intro h
      have hb := hq.1 h
      refine no_self (hb.2 0 (by simp)) ?_
      show called [({ Tests := [], Action := 3, Chain := 0 } : Rule)] 0 = true
      rfl
    subst hqf
    rw [eq, Option.bind_some, cond_false]
    obtain ⟨q2, eq2, hq2⟩ := impl_ruleset (s := ⟨s.Chains, !s.Accept⟩) hs.ok
    rw [eq2, show q2 = true from hq2.2 hr]; rfl

/-! Decisions. -/
theorem waL_has {p : Packet} {rec : Nat → Int} {a : Int} (ha : a ≠ 5) : ∀ {rs : List Rule}, waL p rec rs = a → (∃ r ∈ rs, r.Action = a) ∨ ∃ d, rec d = a
  | [], h => absurd h.symm ha
  | r :: rs, h => by
    have ih := @waL_has p rec a ha rs
    have up : (∃ r ∈ rs, r.Action = a) ∨ (∃ d, rec d = a) → (∃ x ∈ r :: rs, x.Action = a) ∨ ∃ d, rec d = a := fun h => h.imp (fun ⟨x, hx, e⟩ => ⟨x, List.mem_cons_of_mem _ hx, e⟩) id
    unfold waL at h
    by_cases hh : holdB p r = true
    · rw [if_pos hh] at h
      by_cases a1 : r.Action = 1
      · rw [if_pos a1] at h; exact .inl ⟨r, List.mem_cons_self .., a1.trans h⟩
      rw [if_neg a1] at h
      by_cases a2 : r.Action = 2
      · rw [if_pos a2] at h; exact .inl ⟨r, List.mem_cons_self .., a2.trans h⟩
      rw [if_neg a2] at h
      by_cases a4 : r.Action = 4
      · rw [if_pos a4] at h; exact absurd h.symm ha
      rw [if_neg a4] at h
      by_cases a3 : r.Action = 3
      · rw [if_pos a3] at h
        by_cases h5 : rec r.Chain.toNat = 5
        · rw [if_pos h5] at h; exact up (ih h)
        · rw [if_neg h5] at h; exact .inr ⟨_, h⟩
      · rw [if_neg a3] at h; exact up (ih h)
    · rw [if_neg hh] at h; exact up (ih h)
theorem wa_has {cs : List (List Rule)} {p : Packet} {a : Int} (ha : a ≠ 5) : ∀ {f c : Nat}, wa cs p f c = a → ∃ c, ∃ r ∈ ch cs c, r.Action = a
  | 0, _, h => absurd h.symm ha
  | f + 1, c, h => (waL_has ha h).elim (fun ⟨r, hr, e⟩ => ⟨c, r, hr, e⟩) fun ⟨_, h⟩ => wa_has ha h
def accB (s : Ruleset) : Bool := s.Chains.any fun rs => rs.any fun r => r.Action == 1
theorem acc_inner {s : Ruleset} (q : Packet) {c : Nat} (hc : c < s.Chains.length) (hl : (ch s.Chains c).length ≤ 11) (y0 : Bool) :
    loopF (laws_FnJudgedBy_L1 (s, q) (c : Int)) ((((ch s.Chains c).length : Int)) - 0).toNat.succ (y0, 0) = some (.brk ((y0 || (ch s.Chains c).any fun r => r.Action == 1), ((ch s.Chains c).length : Int))) := by
  refine loop_brk0 (body := laws_FnJudgedBy_L1 (s, q) (c : Int)) (ch s.Chains c).length (fun k : Nat => ((y0 || ((ch s.Chains c).take k).any fun r => r.Action == 1), (k : Int))) (by simp) (fun k hk => ?_) ?_ (by omega)
  · unfold laws_FnJudgedBy_L1
    simp only [ch_idx hc, Option.bind_some, lt_true (show (k : Int) < ((ch s.Chains c).length : Int) by omega), cond_true, idx_get hk, W_succ (show k < 9223372036854775807 by omega)]
    rw [take_snoc (List.getElem?_eq_getElem hk), List.any_append]
    cases hy : (y0 || ((ch s.Chains c).take k).any fun r => r.Action == 1) with
    | true => rw [cond_true, ← Bool.or_assoc, hy]; rfl
    | false => rw [cond_false, ← Bool.or_assoc, hy]; simp
  · unfold laws_FnJudgedBy_L1
    simp only [ch_idx hc, Option.bind_some, lt_false (Int.le_refl _), cond_false, List.take_length]
theorem plain_FnJudgedBy (code : List Int) (g : GAll GU8 code) : laws_FnJudgedBy code = some true := by
  unfold laws_FnJudgedBy
  refine draw_guard fun _ => ?_
  obtain ⟨s, q, e, hs⟩ := draw_case g
  have e : spec_DrawJudgedBy code = some (s, q) := e
  obtain ⟨r, e1, e2, h1, h2⟩ := judged_is hs.ok q
  obtain ⟨v, e3, hv⟩ := spec_ruleset hs.ok
  obtain ⟨w, e4, hw⟩ := spec_packet q
  have hlen := hs.1
  have eo : loopF (laws_FnJudgedBy_L0 (s, q)) ((((s.Chains.length : Int)) - 0).toNat.succ) (false, 0) = some (.brk (accB s, (s.Chains.length : Int))) := by
    refine loop_brk0 (body := laws_FnJudgedBy_L0 (s, q)) s.Chains.length (fun k : Nat => (((s.Chains.take k).any fun rs => rs.any fun r => r.Action == 1), (k : Int))) (by simp) (fun k hk => ?_) ?_ (by omega)
    · have hl := (hs.2 _ (ch_mem hk)).1
      unfold laws_FnJudgedBy_L0
      simp only [lt_true (show (k : Int) < (s.Chains.length : Int) by omega), cond_true, ch_idx hk, Option.getD_some, acc_inner q hk hl, Option.bind_some, LR.on, W_succ (show k < 9223372036854775807 by omega)]
      rw [take_snoc (ch_get hk), List.any_append]
      simp
    · unfold laws_FnJudgedBy_L0
      simp only [lt_false (Int.le_refl _), cond_false, List.take_length]; rfl
  rw [e]
  simp only [Option.bind_some, e1, e2, bne_self_eq_false, cond_false, eo, LR.on, e3, e4, alive_is]
  by_cases hall : RSV s ∧ PV q
  · have hr := h1 hall.1 hall.2
    rw [show v = true from hv.2 hall.1, show w = true from hw.2 hall.2]
    rcases (judge_ok s q).1 with h | h | h
    · have hacc : accB s = true := by
        rw [judge_act] at h
        obtain ⟨c, x, hx, hxa⟩ := wa_has (by decide) h
        have hc : c < s.Chains.length := by
          rcases Nat.lt_or_ge c s.Chains.length with h | h
          · exact h
          · rw [ch_out h] at hx; cases hx
        unfold accB
        rw [List.any_eq_true]
        exact ⟨_, ch_mem hc, List.any_eq_true.2 ⟨x, hx, by simp [hxa]⟩⟩
      rw [hr, h, hacc]; rfl
    · rw [hr, h]; cases accB s <;> rfl
    · rw [hr, h]; cases accB s <;> rfl
  · rw [h2 hall]
    cases v with
    | false => cases accB s <;> rfl
    | true =>
      have : w = false := by rw [Bool.eq_false_iff]; exact fun h => hall ⟨hv.1 rfl, hw.1 h⟩
      subst this
      cases accB s <;> rfl

/-! Traces. -/
theorem trace_is {s : Ruleset} (hs : OkRs s) (p : Packet) : ∃ t, spec_JudgeTrace s p = some t ∧ impl_JudgeTrace s p = some t ∧ (RSV s → PV p → t = (judge s p).2) ∧ (¬ (RSV s ∧ PV p) → t = []) := by
  obtain ⟨v, e1, e2, hv⟩ := (spec_ruleset hs).same (impl_ruleset hs)
  obtain ⟨q, e3, e4, hq⟩ := (spec_packet p).same (impl_packet p)
  unfold spec_JudgeTrace impl_JudgeTrace
  rw [e1, e2, Option.bind_some, Option.bind_some, e3, e4]
  cases v with
  | false => exact ⟨[], rfl, rfl, fun h => by simpa using hv.2 h, fun _ => rfl⟩
  | true =>
    cases q with
    | false => exact ⟨[], rfl, rfl, fun _ h => by simpa using hq.2 h, fun _ => rfl⟩
    | true =>
      obtain ⟨stk, e5⟩ := impl_judge (hv.1 rfl) p
      refine ⟨(judge s p).2, ?_, ?_, fun _ _ => rfl, fun h => absurd ⟨hv.1 rfl, hq.1 rfl⟩ h⟩
      · simp only [cond_true, Option.bind_some, spec_judge (hv.1 rfl) (hq.1 rfl)]
      · simp only [cond_true, Option.bind_some, e5]
theorem plain_FnJudgeTrace (code : List Int) (g : GAll GU8 code) : laws_FnJudgeTrace code = some true := by
  unfold laws_FnJudgeTrace
  refine draw_guard fun _ => ?_
  obtain ⟨s, q, e, hs⟩ := draw_case g
  have e : spec_DrawJudgeTrace code = some (s, q) := e
  obtain ⟨r, e1, e2, h1, h2⟩ := judged_is hs.ok q
  obtain ⟨t, e3, e4, h3, h4⟩ := trace_is hs.ok q
  rw [e]
  simp only [Option.bind_some, e2, e3, e4, bne_self_eq_false, cond_false, alive_is]
  by_cases hall : RSV s ∧ PV q
  · have hr := h1 hall.1 hall.2
    have ht := h3 hall.1 hall.2
    obtain ⟨hvo, hlast⟩ := judge_trace hall.1 q
    have hlen : t.length ≤ 200 := by rw [ht]; exact (judge_ok s q).2
    have eo : loopF (laws_FnJudgeTrace_L0 (s, q) t t) ((((t.length : Int)) - 0).toNat.succ) 0 = some (.brk (t.length : Int)) := by
      refine loop_brk0 (body := laws_FnJudgeTrace_L0 (s, q) t t) t.length (fun k : Nat => (k : Int)) rfl (fun k hk => ?_) ?_ (by omega)
      · have hm : t[k] ∈ (judge s q).2 := by rw [← ht]; exact List.getElem_mem hk
        obtain ⟨⟨c, j, x, hx, hc, hj, hh⟩, _⟩ := hvo _ hm
        have hjl : j < (ch s.Chains c).length := (List.getElem?_eq_some_iff.1 hj).1
        have hin : x ∈ ch s.Chains c := List.mem_of_getElem? hj
        have hru := (hall.1.1.rv _ (ch_mem hc)).1 _ hin
        obtain ⟨b, eb, hb⟩ := impl_fits (r := x) (by have := hru.1.2; omega) q
        have hbt : b = true := hb.2 ⟨hru, hall.2, holdB_iff.1 hh⟩
        subst hbt
        have hjx : idx (ch s.Chains c) (j : Int) = some x := by rw [idx_nat]; exact hj
        unfold laws_FnJudgeTrace_L0
        simp only [lt_true (show (k : Int) < (t.length : Int) by omega), cond_true, idx_get hk, Option.bind_some, decide_true, Bool.not_true, cond_false, hx, ch_idx hc, hjx, eb, W_succ (show k < 9223372036854775807 by omega)]
        rw [decide_eq_false (by omega : ¬ ((c : Int) < 0)), decide_eq_false (by omega : ¬ ((s.Chains.length : Int) ≤ (c : Int))), decide_eq_false (by omega : ¬ ((j : Int) < 0)), decide_eq_false (by omega : ¬ (((ch s.Chains c).length : Int) ≤ (j : Int)))]
        rfl
      · unfold laws_FnJudgeTrace_L0
        simp only [lt_false (Int.le_refl _), cond_false]
    simp only [eo, LR.on, Option.bind_some]
    have fin : ∀ a : Int, a = 1 ∨ a = 2 → r = a → (bif ((t.length : Int) == 200) then (some true : Option Bool) else bif ((t.length : Int) == 0) then some false else
        (idx t (W ((t.length : Int) - 1))).bind fun x => (idx s.Chains x.Chain).bind fun y => (idx y x.Place).bind fun z => some (z.Action == r)) = some true := by
      intro a ha hra
      by_cases h200 : t.length = 200
      · rw [show ((t.length : Int) == 200) = true from by simp [h200]]; rfl
      · rw [show ((t.length : Int) == 200) = false from by simp; omega, cond_false]
        have hl := hlast (by rw [← hr, hra]; exact ha) (by rw [← ht]; omega)
        obtain ⟨c, k, x, hgl, hk, hact⟩ := hl
        rw [← ht] at hgl
        have hpos : 0 < t.length := by
          rcases Nat.eq_zero_or_pos t.length with h | h
          · rw [List.eq_nil_of_length_eq_zero h] at hgl; cases hgl
          · exact h
        rw [show ((t.length : Int) == 0) = false from by simp; exact List.ne_nil_of_length_pos hpos, cond_false, W_of (by omega) (by omega), show (t.length : Int) - 1 = ((t.length - 1 : Nat) : Int) by omega, idx_nat]
        rw [List.getLast?_eq_getElem?] at hgl
        rw [hgl, Option.bind_some]
        have hc : c < s.Chains.length := by
          rcases Nat.lt_or_ge c s.Chains.length with h | h
          · exact h
          · rw [ch_out h] at hk; cases hk
        simp only [ch_idx hc, Option.bind_some]
        rw [idx_nat, hk, Option.bind_some, hact, hr]; simp
    rcases (judge_ok s q).1 with h | h | h
    · rw [← hr] at h
      have := fin 1 (.inl rfl) h
      rw [h] at this ⊢
      exact this
    · rw [← hr] at h
      have := fin 2 (.inr rfl) h
      rw [h] at this ⊢
      exact this
    · rw [hr, h]; rfl
  · rw [h2 hall, h4 hall]; rfl

/-! A ruleset that is changed. -/
theorem judgeB_wa (s : Ruleset) (p : Packet) : judgeB s p = if wa s.Chains p 5 0 = 1 then true else if wa s.Chains p 5 0 = 2 then false else s.Accept := by
  unfold judgeB; rw [judge_act]
theorem judge_same {s s' : Ruleset} (hs : OkRs s) (hs' : OkRs s') (p : Packet) (hv : RSV s ↔ RSV s') (hj : RSV s → PV p → judgeB s' p = judgeB s p) {r : Bool} (e : impl_Judge s p = some r) : impl_Judge s' p = some r := by
  obtain ⟨a, _, ea, a1, a2⟩ := judge_is hs p
  obtain ⟨b, _, eb, b1, b2⟩ := judge_is hs' p
  rw [ea] at e
  obtain rfl := Option.some.inj e
  rw [eb]
  by_cases h : RSV s ∧ PV p
  · rw [a1 h.1 h.2, b1 (hv.1 h.1) h.2, hj h.1 h.2]
  · rw [a2 h, b2 fun h' => h ⟨hv.2 h'.1, h'.2⟩]
theorem waL_nocall {p : Packet} (rec rec' : Nat → Int) : ∀ {rs : List Rule}, (∀ r ∈ rs, r.Action ≠ 3) → waL p rec rs = waL p rec' rs
  | [], _ => rfl
  | r :: rs, h => by
    have ih := waL_nocall (p := p) rec rec' fun x hx => h x (List.mem_cons_of_mem _ hx)
    have h3 := h r (List.mem_cons_self ..)
    unfold waL
    rw [ih, if_neg h3, if_neg h3]
theorem called_none {rs : List Rule} (h : ∀ r ∈ rs, r.Action ≠ 3) (d : Nat) : called rs d = false := by
  rw [Bool.eq_false_iff]; intro hc
  obtain ⟨r, hr, ha, _⟩ := called_mem.1 hc
  exact h r hr ha
theorem rsv_one {rs : List Rule} (h : ∀ r ∈ rs, r.Action ≠ 3) : RSV ⟨[rs], true⟩ ↔ RsV rs := by
  constructor
  · exact fun hb => hb.1.rv rs (List.mem_singleton.2 rfl)
  · intro hv
    refine ⟨⟨by simp, by simp, fun x hx => by rw [List.mem_singleton.1 hx]; exact hv, fun x hx r hr => ?_⟩, fun c _ => Acc.intro c fun d hd => ?_⟩
    · rw [List.mem_singleton.1 hx] at hr
      have := (hv.1 r hr).2.2
      have h3 := h r hr
      simp only [List.length_cons, List.length_nil]
      omega
    · exfalso
      have hd : called (ch [rs] c) d = true := hd
      match c, hd with
      | 0, hd => rw [show ch [rs] 0 = rs from rfl, called_none h] at hd; cases hd
      | c + 1, hd => rw [ch_out (by simp)] at hd; cases hd
theorem rsv_two {rs : List Rule} (h : ∀ r ∈ rs, r.Action ≠ 3) : RSV ⟨[[⟨[], 3, 1⟩], rs], true⟩ ↔ RsV rs := by
  constructor
  · exact fun hb => hb.1.rv rs (List.mem_cons_of_mem _ (List.mem_singleton.2 rfl))
  · intro hv
    have hcall : RsV [⟨[], 3, 1⟩] := ⟨fun r hr => by rw [List.mem_singleton.1 hr]; exact ⟨⟨by simp, by simp⟩, by decide, .inl ⟨rfl, by decide, by decide⟩⟩, by simp⟩
    refine ⟨⟨by simp, by simp, fun x hx => ?_, fun x hx r hr => ?_⟩, ?_⟩
    · rcases List.mem_cons.1 hx with rfl | hx
      · exact hcall
      · rw [List.mem_singleton.1 hx]; exact hv
    · simp only [List.length_cons, List.length_nil]
      rcases List.mem_cons.1 hx with rfl | hx
      · rw [List.mem_singleton.1 hr]; decide
      · rw [List.mem_singleton.1 hx] at hr
        have := (hv.1 r hr).2.2
        have h3 := h r hr
        omega
    · have end1 : ∀ c, c ≠ 0 → Ends [[⟨[], 3, 1⟩], rs] c := fun c hc => Acc.intro c fun d hd => by
        exfalso
        have hd : called (ch [[⟨[], 3, 1⟩], rs] c) d = true := hd
        match c, hc, hd with
        | 1, _, hd => rw [show ch [[⟨[], 3, 1⟩], rs] 1 = rs from rfl, called_none h] at hd; cases hd
        | c + 2, _, hd => rw [ch_out (by simp)] at hd; cases hd
      intro c _
      by_cases hc : c = 0
      · subst hc
        refine Acc.intro 0 fun d hd => end1 d fun e => ?_
        subst e
        have hd : called [({ Tests := [], Action := 3, Chain := 1 } : Rule)] 0 = true := hd
        cases hd
      · exact end1 c hc
theorem plain_FnCallAlone (code : List Int) (g : GAll GU8 code) : laws_FnCallAlone code = some true := by
  unfold laws_FnCallAlone
  refine draw_guard fun _ => ?_
  obtain ⟨rs, n, p, e, hr, _, _⟩ := draw_firstfit g
  have hr1 := hr.1
  rw [e]
  simp only [Option.bind_some]
  obtain ⟨o, ho, hq⟩ := loop_idx (body := laws_FnCallAlone_L0 (rs, n, p)) rs.length (fun k st => st = (k : Int) ∧ ∀ (j : Nat) r, j < k → rs[j]? = some r → r.Action ≠ 3)
    (fun o => (o = .brk (rs.length : Int) ∧ ∀ r ∈ rs, r.Action ≠ 3) ∨ o = .ret true) (s := 0) ⟨rfl, fun j r h => by omega⟩
    (fun k st hk ⟨h1, h2⟩ => by
      subst h1
      unfold laws_FnCallAlone_L0
      simp only [lt_true (show (k : Int) < (rs.length : Int) by omega), cond_true, idx_get hk, Option.bind_some, alive_is, W_succ (show k < 9223372036854775807 by omega)]
      by_cases h3 : rs[k].Action = 3
      · rw [(by simp [h3] : (rs[k].Action == 3) = true)]
        exact .inr (.inl ⟨_, rfl, .inr rfl⟩)
      · rw [(by simp [h3] : (rs[k].Action == 3) = false)]
        refine .inl ⟨_, rfl, rfl, fun j r hj hx => ?_⟩
        by_cases ej : j = k
        · subst ej
          rw [List.getElem?_eq_getElem hk] at hx
          rw [← Option.some.inj hx]; exact h3
        · exact h2 j r (by omega) hx)
    (fun st ⟨h1, h2⟩ => by
      subst h1
      refine .inl ⟨_, by unfold laws_FnCallAlone_L0; simp only [lt_false (Int.le_refl _), cond_false], .inl ⟨rfl, fun r hr => ?_⟩⟩
      obtain ⟨j, hj⟩ := List.mem_iff_getElem?.1 hr
      exact h2 j r (List.getElem?_eq_some_iff.1 hj).1 hj)
  rw [show (((rs.length : Int)) - 0).toNat.succ = (((rs.length : Int)) - 0).toNat.succ from rfl, ho, Option.bind_some]
  rcases hq with ⟨rfl, hno⟩ | rfl
  · simp only [LR.on]
    have ok1 : OkRs ⟨[rs], true⟩ := ⟨by simp, fun x hx => by rw [List.mem_singleton.1 hx]; exact hr.ok⟩
    have ok2 : OkRs ⟨[[⟨[], 3, 1⟩], rs], true⟩ := ⟨by simp, fun x hx => by
      rcases List.mem_cons.1 hx with rfl | hx
      · exact ⟨by simp, fun r hr => by rw [List.mem_singleton.1 hr]; simp⟩
      · rw [List.mem_singleton.1 hx]; exact hr.ok⟩
    obtain ⟨b, eb1, eb2, _⟩ := judge_is ok1 p
    have e2 := judge_same ok1 ok2 p ((rsv_one hno).trans (rsv_two hno).symm) (fun _ _ => by
      rw [judgeB_wa, judgeB_wa]
      have ha : wa [[⟨[], 3, 1⟩], rs] p 5 0 = wa [rs] p 5 0 := by
        show waL p (wa [[⟨[], 3, 1⟩], rs] p 4) [⟨[], 3, 1⟩] = waL p (wa [rs] p 4) rs
        have h1 : wa [[⟨[], 3, 1⟩], rs] p 4 1 = waL p (wa [rs] p 4) rs := waL_nocall _ _ hno
        show (if wa [[⟨[], 3, 1⟩], rs] p 4 1 = 5 then 5 else wa [[⟨[], 3, 1⟩], rs] p 4 1) = _
        rw [h1]
        split
        · rename_i h; exact h.symm
        · rfl
      simp only [ha]) eb2
    simp only [eb1, eb2, e2, Option.bind_some, beq_self_eq_true, cond_true]
  · rfl
end Go.PF.F
