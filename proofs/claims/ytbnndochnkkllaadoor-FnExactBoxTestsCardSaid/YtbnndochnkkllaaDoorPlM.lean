/- Plain laws: laws of drawn arguments: boxes, rules. -/
import Derived.Test.YtbnndochnkkllaaDoorPlL
namespace Go.PF.F
open Go Go.PF

theorem alive_is : laws_alive = some true := rfl
theorem same_spans (xs ys : List Span) (h : xs.length ≤ 9223372036854775807) : laws_sameSpans xs ys = some (decide (xs = ys)) := by
  refine eq_list (f := fun x y => some (decide (x = y))) (body := laws_sameSpans_L0 xs ys) xs ys h (fun _ _ _ _ => rfl) (fun k => ?_)
  unfold laws_sameSpans_L0
  congr 1
  cases idx xs k with
  | none => rfl
  | some x =>
    cases idx ys k with
    | none => rfl
    | some y => simp only [Option.bind_some]; cases decide (x = y) <;> rfl
theorem same_box (a b : Box) (h : OkBox a) : laws_sameBox a b = some (decide (a = b)) := by
  obtain ⟨xs⟩ := a
  obtain ⟨ys⟩ := b
  have := eq_list (f := laws_sameSpans) (body := laws_sameBox_L0 ⟨xs⟩ ⟨ys⟩) xs ys h.1 (fun x hx y _ => same_spans x y (h.2 x hx)) (fun k => rfl)
  unfold laws_sameBox
  rw [this]
  simp
theorem same_boxes (xs ys : List Box) (h : xs.length ≤ 9223372036854775807) (hs : ∀ x ∈ xs, OkBox x) : laws_sameBoxes xs ys = some (decide (xs = ys)) :=
  eq_list (f := laws_sameBox) (body := laws_sameBoxes_L0 xs ys) xs ys h (fun x hx y _ => same_box x y (hs x hx)) (fun _ => rfl)
theorem draw_guard {c : Prop} [Decidable c] {k : Option Bool} (h : ¬ c → k = some true) : (bif decide c then some true else k) = some true := by
  by_cases hc : c
  · rw [decide_eq_true hc]; rfl
  · rw [decide_eq_false hc]; exact h hc
theorem draw_open {code : List Int} (h : GAll GU8 code) {α : Type} {K : List Int × Int → Option α} {R : Option α → Prop} (hk : ∀ xs, Bytes xs → R (K (xs, 0))) : R ((spec_l20Open code).bind K) := by
  obtain ⟨xs, e, hx⟩ := open_ok h
  rw [e]; exact hk xs hx
theorem full_BV : BV ⟨fullS⟩ := BV_iff.2 ⟨full_B4, full_few⟩
theorem full_ok : OkBox ⟨fullS⟩ := B4.ok (b := ⟨fullS⟩) full_B4
theorem pf_range {p : Packet} (h : PV p) {k : Nat} (hk : k < 4) : 0 ≤ pf p k ∧ pf p k ≤ topOf k := by
  unfold PV at h
  match k, hk with
  | 0, _ => exact h.1
  | 1, _ => exact h.2.1
  | 2, _ => exact h.2.2.1
  | 3, _ => exact h.2.2.2
theorem BH_iff {b : Box} (h : b.Sides.length = 4) {p : Packet} : BH b p ↔ ∀ k, k < 4 → has (sd b.Sides k) (pf p k) = true := by
  unfold BH
  constructor
  · intro hh k hk
    obtain ⟨xs, e, hs⟩ := hh k hk
    rw [sd_get h hk] at e
    rw [has_iff, Option.some.inj e]; exact hs
  · intro hh k hk
    exact ⟨_, sd_get h hk, has_iff.1 (hh k hk)⟩
theorem full_has {p : Packet} (h : PV p) : BH ⟨fullS⟩ p := (BH_iff (b := ⟨fullS⟩) full_B4.1).2 fun k hk => by
  show has (sd fullS k) (pf p k) = true
  rw [has_full hk]; exact decide_eq_true (pf_range h hk)
theorem draw_packet {code : List Int} (h : GAll GU8 code) : ∃ p, spec_DrawPacketValid code = some p := by
  unfold spec_DrawPacketValid
  refine draw_open (R := fun m => ∃ p, m = some p) h fun xs hx => ?_
  exact Dr.run (R := fun m => ∃ p, m = some p) (dr_packet hx 0 2) (by decide) (by decide) fun a p _ _ _ => ⟨_, rfl⟩
theorem impl_emptyb {b : Box} (hb : OkBox b) : Dec (impl_BoxEmpty b) (BV b ∧ emptyS b.Sides) :=
  (impl_box hb).and fun hv => by
    rw [impl_sides hv.1, Option.bind_some]
    exact Dec.ret (impl_emp hv.1)
theorem spec_emptyb {b : Box} (hb : OkBox b) : Dec (spec_BoxEmpty b) (BV b ∧ emptyS b.Sides) :=
  (spec_box hb).and fun hv => Dec.ret (spec_emp (BV_iff.1 hv).1)
theorem full_some : ¬ emptyS fullS := by
  rintro ⟨k, hk, e⟩
  unfold fullS at e
  rw [sd_mk4 _ hk] at e; cases e
theorem plain_FnBoxAll (code : List Int) (g : GAll GU8 code) : laws_FnBoxAll code = some true := by
  unfold laws_FnBoxAll
  refine draw_guard fun _ => ?_
  rw [impl_BoxAll_is, spec_all]
  simp only [Option.bind_some, same_box _ _ full_ok, decide_true, cond_true]
  obtain ⟨p, ep⟩ := draw_packet g
  obtain ⟨r1, e1, h1⟩ := impl_box full_ok
  obtain ⟨r2, e2, h2⟩ := impl_emptyb full_ok
  obtain ⟨r3, e3, h3⟩ := impl_has full_ok p
  obtain ⟨r4, e4, h4⟩ := spec_packet p
  have h1 := h1.2 full_BV
  have h2 : r2 = false := by rw [Bool.eq_false_iff]; exact fun h => full_some (h2.1 h).2
  have h34 : r3 = r4 := by
    rw [Bool.eq_iff_iff, h3, h4]
    exact ⟨fun h => h.2.1, fun h => ⟨full_BV, h, full_has h⟩⟩
  simp only [ep, Option.bind_some, e1, e2, e3, e4, h1, h2, h34, alive_is]
  simp

/-! Rules. -/
theorem draw_rules {code : List Int} (h : GAll GU8 code) : ∃ rs, spec_DrawRulesValid code = some rs ∧ RulesSm rs := by
  unfold spec_DrawRulesValid
  refine draw_open (R := fun m => ∃ p, m = some p ∧ RulesSm p) h fun xs hx => ?_
  exact Dr.run (R := fun m => ∃ p, m = some p ∧ RulesSm p) (dr_rules hx 0 1 3 2 (by decide)) (by decide) (by decide) fun a p ha _ _ => ⟨_, rfl, ha⟩
theorem RulesSm.ok {rs : List Rule} (h : RulesSm rs) : rs.length ≤ 9223372036854775807 ∧ ∀ r ∈ rs, r.Tests.length ≤ 9223372036854775807 := ⟨by have := h.1; omega, fun r hr => by have := h.2 r hr; omega⟩
theorem half_is (n : Nat) (h : n ≤ 4294967296) : W ((n : Int).tdiv 2) = ((n / 2 : Nat) : Int) := by
  have : (n : Int).tdiv 2 = ((n / 2 : Nat) : Int) := by rw [Int.tdiv_eq_ediv_of_nonneg (by omega)]; omega
  rw [this, W_of (by omega) (by omega)]
theorem take_half {α : Type} {xs : List α} (h : xs.length ≤ 4294967296) : takeF xs (W ((xs.length : Int).tdiv 2)) = some (xs.take (xs.length / 2)) := by
  rw [half_is _ h]
  unfold takeF
  rw [if_pos ⟨by omega, by omega⟩]; rfl
theorem drop_half {α : Type} {xs : List α} (h : xs.length ≤ 4294967296) : dropF xs (W ((xs.length : Int).tdiv 2)) = some (xs.drop (xs.length / 2)) := by
  rw [half_is _ h]
  unfold dropF
  rw [if_pos ⟨by omega, by omega⟩]; rfl
/-- The law of a validity whose parts are valid. -/
theorem valid_law {α : Type} {f : List α → Option Bool} {g : List α → Option Bool} {xs : List α} {bad : α} {V : List α → Prop} (hl : xs.length ≤ 1000) (hf : ∀ ys, (∀ y ∈ ys, y ∈ xs ∨ y = bad) → ys.length ≤ 2000 → Dec (f ys) (V ys)) (hg : Dec (g xs) (V xs))
    (hpart : V xs → V (xs.take (xs.length / 2))) (hbad : ¬ V (xs ++ [bad])) :
    ((f xs).bind fun x2 => (g xs).bind fun x3 => bif (x2 != x3) then some false else bif x2 then (takeF xs (W (((xs.length : Int)).tdiv 2))).bind fun y1 => (f y1).bind fun x4 => bif x4 then (appF ([] : List α) xs).bind fun z1 => (appF z1 [bad]).bind fun z2 => (f z2).bind fun x5 => bif x5 then some false else laws_alive.bind fun x6 => some x6 else some false
      else (appF ([] : List α) xs).bind fun z3 => (appF z3 [bad]).bind fun z4 => (f z4).bind fun x7 => bif x7 then some false else laws_alive.bind fun x8 => some x8) = some true := by
  obtain ⟨r, e1, e2, hr⟩ := (hf xs (fun y hy => .inl hy) (by omega)).same hg
  obtain ⟨q, e3, hq⟩ := hf (xs.take (xs.length / 2)) (fun y hy => .inl (List.mem_of_mem_take hy)) (by simp; omega)
  obtain ⟨b, e4, hb⟩ := hf (xs ++ [bad]) (fun y hy => by
    rcases List.mem_append.1 hy with h | h
    · exact .inl h
    · exact .inr (List.mem_singleton.1 h)) (by simp; omega)
  have hb : b = false := by rw [Bool.eq_false_iff]; exact fun h => hbad (hb.1 h)
  rw [e1, e2, take_half (by omega), app_nil (by omega)]
  simp only [Option.bind_some, e3, app_ok (show xs.length + [bad].length ≤ 4294967296 by simp; omega), e4, hb, alive_is]
  cases r with
  | false => simp
  | true => rw [hq.2 (hpart (hr.1 rfl))]; simp
theorem plain_FnRulesValid (code : List Int) (g : GAll GU8 code) : laws_FnRulesValid code = some true := by
  unfold laws_FnRulesValid
  refine draw_guard fun _ => ?_
  obtain ⟨rs, e, h⟩ := draw_rules g
  rw [e, Option.bind_some]
  refine valid_law (f := impl_RulesValid) (g := spec_RulesValid) (V := RsV) (by have := h.1; omega) (fun ys hy hl => impl_rules (by omega) fun r hr => ?_) (spec_rules h.ok.1 h.ok.2) (fun hv => ⟨fun r hr => hv.1 r (List.mem_of_mem_take hr), by have := hv.2; simp; omega⟩) (fun hv => ?_)
  · rcases hy r hr with h1 | h1
    · exact h.ok.2 r h1
    · rw [h1]; simp
  · have := (hv.1 (⟨[], 0, 0⟩ : Rule) (by simp)).2.1
    simp only at this; omega
theorem draw_rulefits {code : List Int} (h : GAll GU8 code) : ∃ (r : Rule) (p : Packet), spec_DrawRuleFits code = some (r, p) ∧ r.Tests.length ≤ 7 := by
  unfold spec_DrawRuleFits
  refine draw_open (R := fun m => ∃ (r : Rule) (p : Packet), m = some (r, p) ∧ r.Tests.length ≤ 7) h fun xs hx => ?_
  refine Dr.run (R := fun m => ∃ (r : Rule) (p : Packet), m = some (r, p) ∧ r.Tests.length ≤ 7) (dr_rule hx 0 1 3 14 (by decide)) (by decide) (by decide) fun a p ha h0 h1 => ?_
  exact Dr.run (R := fun m => ∃ (r : Rule) (p : Packet), m = some (r, p) ∧ r.Tests.length ≤ 7) (dr_near hx (ts := a.Tests) (by omega) p 14) h0 (by omega) fun q p' _ _ _ => ⟨_, _, rfl, ha⟩
theorem impl_thold {ts : List Test} (h : ts.length ≤ 9223372036854775807) (p : Packet) : Dec (impl_TestsHold ts p) (TsV ts ∧ PV p ∧ ∀ t ∈ ts, TH t p) :=
  (impl_tests h).and fun hv => (impl_packet p).and fun _ => Dec.ret (impl_allhold h hv.1 p)
theorem plain_FnRuleFits (code : List Int) (g : GAll GU8 code) : laws_FnRuleFits code = some true := by
  unfold laws_FnRuleFits
  refine draw_guard fun _ => ?_
  obtain ⟨r, p, e, h⟩ := draw_rulefits g
  have hl : r.Tests.length ≤ 9223372036854775807 := by omega
  obtain ⟨v, e1, e2, hv⟩ := (impl_fits hl p).same (spec_fits hl p)
  obtain ⟨q, e3, hq⟩ := spec_rule hl
  obtain ⟨t, e4, ht⟩ := impl_thold hl p
  obtain ⟨u, e5, hu⟩ := impl_fits (r := ⟨r.Tests, 5, 0⟩) hl p
  rw [e]
  simp only [Option.bind_some, e1, e2, e3, e4, e5, bne_self_eq_false, cond_false, alive_is]
  cases q with
  | false =>
    have : v = false := by rw [Bool.eq_false_iff]; exact fun h => by simpa using hq.2 (hv.1 h).1
    rw [this]; rfl
  | true =>
    have hr := hq.1 rfl
    have h1 : v = t := by
      rw [Bool.eq_iff_iff, hv, ht]
      exact ⟨fun h => ⟨hr.1, h.2.1, h.2.2⟩, fun h => ⟨hr, h.2⟩⟩
    have h2 : u = v := by
      rw [Bool.eq_iff_iff, hv, hu]
      exact ⟨fun h => ⟨hr, h.2⟩, fun h => ⟨⟨hr.1, by simp, .inr ⟨by simp, rfl⟩⟩, h.2⟩⟩
    rw [h2, ← h1]; simp
theorem draw_boxvalid {code : List Int} (h : GAll GU8 code) : ∃ b, spec_DrawBoxValid code = some b ∧ OkB b := by
  unfold spec_DrawBoxValid
  refine draw_open (R := fun m => ∃ b, m = some b ∧ OkB b) h fun xs hx => ?_
  exact Dr.run (R := fun m => ∃ b, m = some b ∧ OkB b) (dr_box hx 0 2) (by decide) (by decide) fun a p ha _ _ => ⟨_, rfl, ha.1⟩
theorem plain_FnBoxValid (code : List Int) (g : GAll GU8 code) : laws_FnBoxValid code = some true := by
  unfold laws_FnBoxValid
  refine draw_guard fun _ => ?_
  obtain ⟨b, e, h⟩ := draw_boxvalid g
  obtain ⟨v, e1, e2, hv⟩ := (impl_box h.ok).same (spec_box h.ok)
  rw [e]
  simp only [Option.bind_some, e1, e2, bne_self_eq_false, cond_false, alive_is]
  cases v with
  | false => rfl
  | true =>
    have h4 := (hv.1 rfl).1
    have hd : dropF b.Sides 1 = some (b.Sides.drop 1) := by unfold dropF; rw [if_pos ⟨by omega, by rw [h4]; decide⟩]; rfl
    obtain ⟨q, e3, hq⟩ := impl_box (b := ⟨b.Sides.drop 1⟩) ⟨by show (b.Sides.drop 1).length ≤ _; simp [h4], fun x hx => h.ok.2 x (List.mem_of_mem_drop hx)⟩
    obtain ⟨t, e4, ht⟩ := impl_box (b := ⟨b.Sides ++ [[]]⟩) ⟨by show (b.Sides ++ [[]]).length ≤ _; simp [h4], fun x hx => by
      rcases List.mem_append.1 hx with hx | hx
      · exact h.ok.2 x hx
      · rw [List.mem_singleton.1 hx]; simp⟩
    have hq : q = false := by rw [Bool.eq_false_iff]; exact fun h => by have := (hq.1 h).1; simp [h4] at this
    have ht : t = false := by rw [Bool.eq_false_iff]; exact fun h => by have := (ht.1 h).1; simp [h4] at this
    rw [hd, app_nil (by rw [h4]; decide)]
    simp only [cond_true, Option.bind_some, app_ok (show b.Sides.length + [([] : List Span)].length ≤ 4294967296 by rw [h4]; decide), e3, e4, hq, ht]
    rfl

/-! First fits. -/
theorem first_is {a : List Rule} {n : Int} {p : Packet} (ga : a.length ≤ 9223372036854775807) (hs : ∀ x ∈ a, x.Tests.length ≤ 9223372036854775807) (hn : n ≤ 9223372036854775807) :
    ∃ r, spec_FirstFit a n p = some r ∧ impl_FirstFit a n p = some r ∧ (n < 0 → r = -1) ∧ ∀ m : Nat, n = m → First a p m r := by
  by_cases h0 : n < 0
  · refine ⟨-1, ?_, ?_, fun _ => rfl, fun m hm => by omega⟩
    · unfold spec_FirstFit
      have : spec_FirstFit_L0 a p n = some (.brk n) := by
        unfold spec_FirstFit_L0
        rw [decide_eq_false (by omega)]; rfl
      rw [show loopF (spec_FirstFit_L0 a p) (((a.length : Int)) - n).toNat.succ n = (spec_FirstFit_L0 a p n).bind _ from rfl, this]; rfl
    · unfold impl_FirstFit
      rw [decide_eq_true h0]; rfl
  · obtain ⟨m, rfl⟩ := Int.eq_ofNat_of_zero_le (by omega : 0 ≤ n)
    have hm : m ≤ 9223372036854775807 := by omega
    obtain ⟨rv, ev, hv⟩ := spec_rules ga hs
    obtain ⟨r, e, hr⟩ := first_gen (body := spec_FirstFit_L0 a p) (p := p) hm ga (fun k hk => by
      unfold spec_FirstFit_L0
      rw [decide_eq_true (by omega : (0 : Int) ≤ (k : Int)), decide_eq_true (by omega : (k : Int) < (a.length : Int)), ev]
      simp only [cond_true, Option.bind_some]
      cases rv with
      | true =>
        obtain ⟨q, eq, hq⟩ := spec_fits (hs _ (List.getElem_mem hk)) p
        simp only [cond_true, idx_get hk, Option.bind_some, eq]
        refine .inl ⟨q, by cases q <;> rfl, hq.trans ⟨fun hf => ⟨hv.1 rfl, _, List.getElem?_eq_getElem hk, hf⟩, fun ⟨_, x, hx, hf⟩ => ?_⟩⟩
        rw [List.getElem?_eq_getElem hk] at hx
        rw [Option.some.inj hx]; exact hf
      | false => exact .inr ⟨rfl, fun h => by simpa using hv.2 h⟩)
      (fun k hk => by
        unfold spec_FirstFit_L0
        rw [decide_eq_true (by omega : (0 : Int) ≤ (k : Int)), decide_eq_false (by omega)]; rfl)
    refine ⟨r, e, ?_, fun h => absurd h h0, fun m' hm' => by have : m' = m := by omega
                                                             subst this; exact hr⟩
    unfold impl_FirstFit
    rw [decide_eq_false h0, cond_false]
    obtain ⟨rv', ev', hv'⟩ := impl_rules ga hs
    obtain ⟨pv, ep, hp⟩ := impl_packet p
    rw [ev', Option.bind_some]
    cases rv' with
    | false =>
      rw [cond_false]
      rw [First.same hr (.inr ⟨rfl, fun j _ hf => by simpa using hv'.2 hf.1⟩)]
    | true =>
      rw [cond_true, ep, Option.bind_some]
      cases pv with
      | false =>
        rw [cond_false]
        rw [First.same hr (.inr ⟨rfl, fun j _ hf => by obtain ⟨_, x, _, hf⟩ := hf; simpa using hp.2 hf.2.1⟩)]
      | true =>
        rw [cond_true]
        obtain ⟨r', e', hr'⟩ := first_gen (body := impl_FirstFit_L0 a p) (p := p) hm ga (fun k hk => by
          unfold impl_FirstFit_L0
          rw [decide_eq_true (by omega : (k : Int) < (a.length : Int))]
          have hru := (hv'.1 rfl).1 _ (List.getElem_mem hk)
          obtain ⟨q, eq, hq⟩ := impl_allhold (hs _ (List.getElem_mem hk)) hru.1.1 p
          simp only [cond_true, idx_get hk, Option.bind_some, eq]
          refine .inl ⟨q, by cases q <;> rfl, hq.trans ⟨fun hf => ⟨hv'.1 rfl, _, List.getElem?_eq_getElem hk, hru, hp.1 rfl, hf⟩, fun ⟨_, x, hx, hf⟩ => ?_⟩⟩
          rw [List.getElem?_eq_getElem hk] at hx
          rw [Option.some.inj hx]; exact hf.2.2)
          (fun k hk => by
            unfold impl_FirstFit_L0
            rw [decide_eq_false (by omega)]; rfl)
        rw [e', First.same hr hr']
/-- What a first fit's draw gives. -/
theorem draw_firstfit {code : List Int} (h : GAll GU8 code) : ∃ rs n p, spec_DrawFirstFit code = some (rs, n, p) ∧ RulesSm rs ∧ -10 ≤ n ∧ n ≤ 10 := by
  unfold spec_DrawFirstFit
  refine draw_open (R := fun m => ∃ rs n p, m = some (rs, n, p) ∧ RulesSm rs ∧ -10 ≤ n ∧ n ≤ 10) h fun xs hx => ?_
  refine Dr.run (R := fun m => ∃ rs n p, m = some (rs, n, p) ∧ RulesSm rs ∧ -10 ≤ n ∧ n ≤ 10) (dr_rules hx 0 1 3 14 (by decide)) (by decide) (by decide) fun rs p hr h0 h1 => ?_
  obtain ⟨o, ho, ⟨y, k, p'⟩, rfl, hl, l, u⟩ := loop_wf (body := spec_DrawFirstFit_L0 (xs, 0) (rs, p))
    (fun s => ∃ k : Nat, s.2.1 = (k : Int) ∧ k ≤ rs.length ∧ s.1.length ≤ 7 * k ∧ p ≤ s.2.2 ∧ s.2.2 ≤ p + k) (fun s => rs.length - s.2.1.toNat)
    (fun o => ∃ s : List Test × Int × Int, o = .brk s ∧ s.1.length ≤ 70 ∧ p ≤ s.2.2 ∧ s.2.2 ≤ p + 10)
    (fun s ⟨k, e1, hk, hl, l, u⟩ => by
      obtain ⟨y, i, q⟩ := s
      simp only at e1 hl l u
      subst e1
      have hr1 := hr.1
      unfold spec_DrawFirstFit_L0
      rcases drop_cases rs k hk with ⟨e, rfl⟩ | ⟨t, _, e, hk', ht, _⟩
      · exact .inr (.inl ⟨_, by simp only [lt_false (Int.le_refl _), cond_false]; rfl, _, rfl, by simp only; omega, l, by simp only; omega⟩)
      · refine .inl ?_
        simp only [lt_true (show (k : Int) < (rs.length : Int) by omega), cond_true, W_succ (show k < 9223372036854775807 by omega)]
        obtain ⟨r3, p3, e3, _, l3, u3⟩ := Dr.pick hx (pos := q) (n := 2) (by decide) (by omega) (by omega)
        have ht' := hr.2 t (List.mem_of_getElem? (by rw [idx_nat] at ht; exact ht))
        rw [e3, Option.bind_some]
        by_cases c : (r3 == 0) = true
        · simp only [c, cond_true, ht, Option.bind_some, app_ok (show y.length + t.Tests.length ≤ 4294967296 by omega)]
          exact ⟨_, rfl, ⟨k + 1, rfl, hk', by simp; omega, by simp only; omega, by simp only; omega⟩, by simp only [Int.toNat_natCast]; omega⟩
        · simp only [Bool.eq_false_iff.2 c, cond_false]
          exact ⟨_, rfl, ⟨k + 1, rfl, hk', by simp only; omega, by simp only; omega, by simp only; omega⟩, by simp only [Int.toNat_natCast]; omega⟩)
    ((((rs.length : Int)) : Int) - 0).toNat.succ (([] : List Test), 0, p) ⟨0, rfl, Nat.zero_le _, by simp, by simp, by simp⟩ (by simp)
  simp only at hl l u
  simp only [ho, Option.bind_some, LR.on]
  refine Dr.run (R := fun m => ∃ rs n p, m = some (rs, n, p) ∧ RulesSm rs ∧ -10 ≤ n ∧ n ≤ 10) (Dr.pick hx (by decide)) (by omega) (by omega) fun x5 p5 a5 _ _ => ?_
  refine Dr.run (R := fun m => ∃ rs n p, m = some (rs, n, p) ∧ RulesSm rs ∧ -10 ≤ n ∧ n ≤ 10) (Dr.pick hx (by decide)) (by omega) (by omega) fun x6 p6 a6 _ _ => ?_
  refine Dr.run (R := fun m => ∃ rs n p, m = some (rs, n, p) ∧ RulesSm rs ∧ -10 ≤ n ∧ n ≤ 10) (dr_near hx (ts := y) (by omega) p6 20) (by omega) (by omega) fun q p7 _ _ _ => ?_
  have hd : 0 ≤ x6.tdiv 8 ∧ x6.tdiv 8 ≤ 9 := ⟨Int.tdiv_nonneg a6.1 (by omega), by rw [Int.tdiv_eq_ediv_of_nonneg a6.1]; omega⟩
  refine ⟨_, _, _, rfl, hr, ?_, ?_⟩
  · simp only
    rw [W_of (x := x6.tdiv 8) (by omega) (by omega), W_of (by omega) (by omega)]; omega
  · simp only
    rw [W_of (x := x6.tdiv 8) (by omega) (by omega), W_of (by omega) (by omega)]; omega
theorem plain_FnFirstFit (code : List Int) (g : GAll GU8 code) : laws_FnFirstFit code = some true := by
  unfold laws_FnFirstFit
  refine draw_guard fun _ => ?_
  obtain ⟨rs, n, p, e, hr, hn1, hn2⟩ := draw_firstfit g
  obtain ⟨r, e1, e2, hneg, hpos⟩ := first_is (p := p) (n := n) hr.ok.1 hr.ok.2 (by omega)
  rw [e]
  simp only [Option.bind_some, e1, e2, bne_self_eq_false, cond_false, alive_is]
  by_cases h0 : n < 0
  · rw [decide_eq_true h0, hneg h0]; rfl
  · rw [decide_eq_false h0, cond_false]
    obtain ⟨m, rfl⟩ := Int.eq_ofNat_of_zero_le (by omega : 0 ≤ n)
    have hf := hpos m rfl
    obtain ⟨v, ev, hv⟩ := spec_rules hr.ok.1 hr.ok.2
    rw [ev, Option.bind_some]
    cases v with
    | false =>
      rcases hf with ⟨k, _, _, hk, _⟩ | ⟨rfl, _⟩
      · exact absurd (hv.2 hk.1) (by simp)
      · rfl
    | true =>
      have hv := hv.1 rfl
      rw [cond_true]
      have hin : ∀ k, k < rs.length → (∃ b, laws_FnFirstFit_L0 (rs, (m : Int), p) r (k : Int) = some (bif b then .ret (r == (k : Int)) else .nxt (W ((k : Int) + 1))) ∧ (b = true ↔ Fit rs p k)) := by
        intro k hk
        obtain ⟨b, eb, hb⟩ := impl_fits (hr.ok.2 _ (List.getElem_mem hk)) p
        refine ⟨b, ?_, hb.trans ⟨fun h => ⟨hv, _, List.getElem?_eq_getElem hk, h⟩, fun ⟨_, x, hx, h⟩ => by
          rw [List.getElem?_eq_getElem hk] at hx
          rw [Option.some.inj hx]; exact h⟩⟩
        unfold laws_FnFirstFit_L0
        simp only [lt_true (show (k : Int) < (rs.length : Int) by omega), cond_true, idx_get hk, Option.bind_some, eb]
        cases b <;> rfl
      have hr1 := hr.1
      obtain ⟨o, ho, hq⟩ := loop_wf (body := laws_FnFirstFit_L0 (rs, (m : Int), p) r) (fun s => ∃ k : Nat, s = (k : Int) ∧ m ≤ k ∧ ∀ j, m ≤ j → j < k → ¬ Fit rs p j) (fun s => rs.length - s.toNat)
        (fun o => (∃ k, o = .brk k ∧ ∀ j, m ≤ j → ¬ Fit rs p j) ∨ (o = .ret true))
        (fun s ⟨k, e1, hmk, hno⟩ => by
          subst e1
          by_cases hk : k < rs.length
          · obtain ⟨b, eb, hb⟩ := hin k hk
            cases b with
            | true =>
              refine .inr (.inr ⟨_, eb, .inr ?_⟩)
              have hfit := hb.1 rfl
              rcases hf with ⟨k', rfl, hmk', hf', hno'⟩ | ⟨_, hnone⟩
              · have : k' = k := by
                  rcases Nat.lt_trichotomy k' k with h | h | h
                  · exact absurd hf' (hno k' hmk' h)
                  · exact h
                  · exact absurd hfit (hno' k hmk h)
                subst this; simp
              · exact absurd hfit (hnone k hmk)
            | false =>
              refine .inl ⟨((k + 1 : Nat) : Int), by rw [eb, cond_false, W_succ (by omega)], ⟨k + 1, rfl, by omega, fun j h1 h2 => ?_⟩, by simp only [Int.toNat_natCast]; omega⟩
              by_cases hj : j = k
              · subst hj; exact fun h => by simpa using hb.2 h
              · exact hno j h1 (by omega)
          · refine .inr (.inl ⟨_, by unfold laws_FnFirstFit_L0; rw [lt_false (by simp only; omega)]; rfl, .inl ⟨_, rfl, fun j h1 h2 => ?_⟩⟩)
            by_cases hj : j < k
            · exact hno j h1 hj h2
            · obtain ⟨_, x, hx, _⟩ := h2
              have := (List.getElem?_eq_some_iff.1 hx).1
              omega)
        ((((rs.length : Int)) : Int) - (m : Int)).toNat.succ (m : Int) ⟨m, rfl, Nat.le_refl _, fun j h1 h2 => by omega⟩ (by simp only [Int.toNat_natCast]; omega)
      rw [ho]
      rcases hq with ⟨k, rfl, hnone⟩ | rfl
      · rcases hf with ⟨k', _, hmk', hf', _⟩ | ⟨rfl, _⟩
        · exact absurd hf' (hnone k' hmk')
        · rfl
      · rfl
end Go.PF.F
