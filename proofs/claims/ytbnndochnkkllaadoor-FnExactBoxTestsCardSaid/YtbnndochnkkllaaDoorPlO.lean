/- Plain laws: boxes of tests, first packets, probes. -/
import Derived.Test.YtbnndochnkkllaaDoorPlN
import Derived.Test.YtbnndochnkkllaaDoorPlP
namespace Go.PF.F
open Go Go.PF

/-! Draws. -/
theorem draw_testsbox {code : List Int} (h : GAll GU8 code) : ∃ ts, spec_DrawTestsBox code = some ts ∧ ts.length ≤ 7 := by
  unfold spec_DrawTestsBox
  refine draw_open (R := fun m => ∃ ts : List Test, m = some ts ∧ ts.length ≤ 7) h fun xs hx => ?_
  exact Dr.run (R := fun m => ∃ ts : List Test, m = some ts ∧ ts.length ≤ 7) (dr_tests hx 0 9) (by decide) (by decide) fun a p ha _ _ => ⟨_, rfl, ha.1⟩
theorem draw_boxempty {code : List Int} (h : GAll GU8 code) : ∃ b, spec_DrawBoxEmpty code = some b ∧ OkB b := by
  unfold spec_DrawBoxEmpty
  refine draw_open (R := fun m => ∃ b : Box, m = some b ∧ OkB b) h fun xs hx => ?_
  exact Dr.run (R := fun m => ∃ b : Box, m = some b ∧ OkB b) (dr_box hx 0 9) (by decide) (by decide) fun a p ha _ _ => ⟨_, rfl, ha.1⟩
theorem draw_boxfirst {code : List Int} (h : GAll GU8 code) : ∃ b, spec_DrawBoxFirst code = some b ∧ OkB b := by
  unfold spec_DrawBoxFirst
  refine draw_open (R := fun m => ∃ b : Box, m = some b ∧ OkB b) h fun xs hx => ?_
  exact Dr.run (R := fun m => ∃ b : Box, m = some b ∧ OkB b) (dr_box hx 0 9) (by decide) (by decide) fun a p ha _ _ => ⟨_, rfl, ha.1⟩
theorem draw_regionvalid {code : List Int} (h : GAll GU8 code) : ∃ bs, spec_DrawRegionValid code = some bs ∧ BoxesSm bs := by
  unfold spec_DrawRegionValid
  refine draw_open (R := fun m => ∃ bs : List Box, m = some bs ∧ BoxesSm bs) h fun xs hx => ?_
  exact Dr.run (R := fun m => ∃ bs : List Box, m = some bs ∧ BoxesSm bs) (dr_region hx 0 2) (by decide) (by decide) fun a p ha _ _ => ⟨_, rfl, ha⟩

/-! Boxes of tests. -/
theorem impl_testSpans {t : Test} (h : TV t) : impl_Test_spans t = some (testL t) := by
  have ht := top_pos h.field.2
  have h2 := h.2
  unfold impl_Test_spans testL
  cases hn : t.Not with
  | false => rfl
  | true =>
    rw [cond_true, if_pos rfl]
    have e : impl_FieldTop t.Field = some (topOf t.Field.toNat) := by
      have := impl_top t.Field.toNat
      rwa [← h.field.1] at this
    simp only [e, Option.bind_some]
    unfold otherL otherL
    simp only
    rw [W_of (by omega) (by omega), W_of (by omega) (by omega)]
    by_cases h1 : 0 < t.Lo
    · rw [decide_eq_true h1, if_pos h1, cond_true, app_ok (by simp), Option.bind_some]
      by_cases h3 : t.Hi < topOf t.Field.toNat
      · rw [decide_eq_true h3, if_pos (by omega), cond_true, app_ok (by simp)]; rfl
      · rw [decide_eq_false h3, if_neg (by omega)]; rfl
    · rw [decide_eq_false h1, if_neg h1, cond_false]
      by_cases h3 : t.Hi < topOf t.Field.toNat
      · rw [decide_eq_true h3, if_pos (by omega), cond_true, app_ok (by simp)]; rfl
      · rw [decide_eq_false h3, if_neg (by omega)]; rfl
theorem impl_testsSides_is {ts : List Test} (h : TsV ts) : impl_testsSides ts = some (testsS ts) := by
  have hl : ts.length ≤ 6 := by have := h.2; omega
  unfold impl_testsSides
  rw [impl_all, Option.bind_some]
  have := loop_each (body := impl_testsSides_L0 ts) ts (fun s k => (k, s)) (fun s t => s.set t.Field.toNat (meetL (sd s t.Field.toNat) (testL t))) fullS (fun s => ((ts.length : Int), s)) (fuel := ((((ts.length : Int)) : Int) - 0).toNat.succ) (by omega)
    (fun k t hk ht => by
      have hv := h.1 t (List.mem_of_getElem? ht)
      have hs := testsS_ok (ts.take k) fullS (fun z hz => h.1 z (List.mem_of_mem_take hz)) full_B4
      have hlen := testsS_len (ts.take k) fullS (fun z hz => h.1 z (List.mem_of_mem_take hz)) full_B4 1 (fun j hj => by unfold fullS; rw [sd_mk4 _ hj]; simp) _ hv.field.2
      rw [List.length_take] at hlen
      generalize (ts.take k).foldl (fun s t => s.set t.Field.toNat (meetL (sd s t.Field.toNat) (testL t))) fullS = s at hs hlen
      have hi := sd_idx hs.1 hv.field.2
      rw [← hv.field.1] at hi
      have htop := impl_top t.Field.toNat
      rw [← hv.field.1] at htop
      have h2 := testL_len t
      have hm := (hs.2 _ hv.field.2).meet_few hv.set
      unfold impl_testsSides_L0
      simp only [lt_true (show (k : Int) < (ts.length : Int) by omega), cond_true, idx_nat, ht, Option.bind_some, hi, impl_testSpans hv, htop, impl_meet (hs.2 _ hv.field.2) hv.set, W_succ (show k < 9223372036854775807 by omega)]
      rw [if_pos (by omega)])
    (by
      unfold impl_testsSides_L0
      simp only [lt_false (Int.le_refl _), cond_false])
  rw [this]; rfl
theorem B4.few_len {s : List (List Span)} (h : B4 s) (hf : Few s) : ∀ x ∈ s, x.length ≤ 40 := fun x hx => (OkB.of h hf).2 x hx
theorem TsV.bv {ts : List Test} (h : TsV ts) : BV ⟨testsS ts⟩ := BV_iff.2 ⟨testsS_B4 h.1, testsS_few h⟩
theorem tb {ts : List Test} (hl : ts.length ≤ 1000) : ∃ b, impl_TestsBox ts = some b ∧ spec_TestsBox ts = some b ∧ OkBox b ∧ (TsV ts → b = ⟨testsS ts⟩) ∧ (¬ TsV ts → b = ⟨[]⟩) := by
  obtain ⟨v, e1, e2, hv⟩ := (impl_tests (xs := ts) (by omega)).same (spec_tests (xs := ts) (by omega))
  cases v with
  | true =>
    have h := hv.1 rfl
    refine ⟨⟨testsS ts⟩, ?_, spec_testsBox h, B4.ok (b := ⟨testsS ts⟩) (testsS_B4 h.1), fun _ => rfl, fun hn => absurd h hn⟩
    unfold impl_TestsBox
    rw [e1, Option.bind_some, cond_true, impl_testsSides_is h, Option.bind_some, impl_box4 (testsS_B4 h.1).1 fun x hx => by have := (testsS_B4 h.1).few_len (testsS_few h) x hx; omega]; rfl
  | false =>
    have h : ¬ TsV ts := fun h => by simpa using hv.2 h
    refine ⟨⟨[]⟩, ?_, ?_, ⟨by simp, by simp⟩, fun hy => absurd hy h, fun _ => rfl⟩
    · unfold impl_TestsBox; rw [e1]; rfl
    · unfold spec_TestsBox; rw [e2]; rfl

/-! Probes. -/
theorem probe_in (list : List Box) (hb : ∀ b ∈ list, OkBox b) {seed : Int} (h0 : 0 ≤ seed) (h1 : seed ≤ 1048576) {i : Nat} (hi : i < list.length) (_hi2 : i ≤ 1000) (y : List Int) (hy : y.length = 4) :
    ∃ k y', loopF (laws_probe_L1 list seed (i : Int)) (((4 : Int)) - 0).toNat.succ (0, y) = some (.brk (k, y')) ∧ y'.length = 4 := by
  obtain ⟨o, ho, k, y', rfl, hl⟩ := loop_idx (body := laws_probe_L1 list seed (i : Int)) 4 (fun k s => s.1 = (k : Int) ∧ s.2.length = 4) (fun o => ∃ k y', o = .brk (k, y') ∧ y'.length = 4) (s := (0, y)) ⟨rfl, hy⟩
    (fun k s hk ⟨e1, hl⟩ => by
      obtain ⟨k', y⟩ := s
      simp only at e1 hl
      subst e1
      have hbx := hb _ (List.getElem_mem hi)
      unfold laws_probe_L1
      simp only [lt_true (show (k : Int) < 4 by omega), cond_true, idx_get hi, Option.bind_some, W_succ (show k < 9223372036854775807 by omega)]
      by_cases hs : k < list[i].Sides.length
      · have hx2 := hbx.2 _ (List.getElem_mem hs)
        simp only [lt_true (show (k : Int) < (list[i].Sides.length : Int) by omega), cond_true, idx_get hs, Option.bind_some]
        by_cases hz : list[i].Sides[k].length = 0
        · rw [(by simp [hz] : ((list[i].Sides[k].length : Int) == 0) = true)]
          exact .inl ⟨_, rfl, rfl, hl⟩
        · rw [(by simp; exact fun e => hz (by rw [e]; rfl) : ((list[i].Sides[k].length : Int) == 0) = false), cond_false]
          by_cases h3 : (((W ((W (seed + i)) + k))).tmod 3 == 0) = true
          · rw [h3]; exact .inl ⟨_, rfl, rfl, hl⟩
          · rw [Bool.eq_false_iff.2 h3, cond_false]
            have hnz : nzF (list[i].Sides[k].length : Int) = some () := by
              unfold nzF
              rw [(by simp; exact fun e => hz (by rw [e]; rfl) : ((list[i].Sides[k].length : Int) == 0) = false)]; rfl
            have hw : W (seed + k) = seed + k := W_of (by omega) (by omega)
            have ht0 : 0 ≤ (seed + k).tmod (list[i].Sides[k].length : Int) := Int.tmod_nonneg _ (by omega)
            have ht1 : (seed + k).tmod (list[i].Sides[k].length : Int) < (list[i].Sides[k].length : Int) := Int.tmod_lt_of_pos _ (by omega)
            obtain ⟨j, hj⟩ := Int.eq_ofNat_of_zero_le ht0
            have hjl : j < list[i].Sides[k].length := by
              rw [hj] at ht1; exact Int.ofNat_lt.1 ht1
            have hky : k < y.length := by rw [hl]; exact hk
            simp only [hnz, hw, hj, Option.bind_some, idx_get hjl, idx_get hky, Int.toNat_natCast]
            cases ((W (seed + i)).tmod 2 == 0) with
            | false => exact .inl ⟨_, rfl, rfl, by simpa using hl⟩
            | true =>
              have hky2 : k < (y.set k (list[i].Sides[k])[j].Lo).length := by simpa using hky
              simp only [cond_true, idx_get hky2, Option.bind_some]
              exact .inl ⟨_, rfl, rfl, by simpa using hl⟩
      · rw [lt_false (by omega)]
        exact .inr (.inr ⟨_, rfl, _, _, rfl, hl⟩))
    (fun s ⟨e1, hl⟩ => by
      obtain ⟨k', y⟩ := s
      simp only at e1 hl
      subst e1
      exact .inl ⟨_, rfl, _, _, rfl, hl⟩)
  exact ⟨k, y', ho, hl⟩
theorem probe_ok {list : List Box} (hn : list.length ≤ 1000) (hb : ∀ b ∈ list, OkBox b) {seed : Int} (h0 : 0 ≤ seed) (h1 : seed ≤ 1048576) : ∃ p, laws_probe list seed = some p := by
  unfold laws_probe
  obtain ⟨o, ho, k, y', rfl, hl⟩ := loop_idx (body := laws_probe_L0 list seed) list.length (fun k s => s.1 = (k : Int) ∧ s.2.length = 4) (fun o => ∃ k y', o = .brk (k, y') ∧ y'.length = 4) (s := (0, [({ From := ((seed).tmod 65536), To := (((W ((seed).tdiv 3))).tmod 65536), Port := ((seed).tmod 256), Proto := ((seed).tmod 8) } : Packet).From, ({ From := ((seed).tmod 65536), To := (((W ((seed).tdiv 3))).tmod 65536), Port := ((seed).tmod 256), Proto := ((seed).tmod 8) } : Packet).To, ({ From := ((seed).tmod 65536), To := (((W ((seed).tdiv 3))).tmod 65536), Port := ((seed).tmod 256), Proto := ((seed).tmod 8) } : Packet).Port, ({ From := ((seed).tmod 65536), To := (((W ((seed).tdiv 3))).tmod 65536), Port := ((seed).tmod 256), Proto := ((seed).tmod 8) } : Packet).Proto])) ⟨rfl, rfl⟩
    (fun k s hk ⟨e1, hl⟩ => by
      obtain ⟨k', y⟩ := s
      simp only at e1 hl
      subst e1
      obtain ⟨k2, y2, e, hl2⟩ := probe_in list hb h0 h1 hk (by omega) y hl
      unfold laws_probe_L0
      simp only [lt_true (show (k : Int) < (list.length : Int) by omega), cond_true, W_succ (show k < 9223372036854775807 by omega)]
      rw [e]
      exact .inl ⟨_, rfl, rfl, hl2⟩)
    (fun s ⟨e1, hl⟩ => by
      obtain ⟨k', y⟩ := s
      simp only at e1 hl
      subst e1
      refine .inl ⟨((list.length : Int), y), ?_, _, _, rfl, hl⟩
      unfold laws_probe_L0
      simp only [lt_false (Int.le_refl _), cond_false])
  rw [ho]
  match y', hl with
  | [a, b, c, d], _ => exact ⟨_, rfl⟩
theorem more_seed {more : List Int} (h : ¬ (1048576 : Int) < (more.length : Int)) : (0 : Int) ≤ (more.length : Int) ∧ (more.length : Int) ≤ 1048576 := by omega

/-! The laws. -/
theorem plain_FnRegionValid (code : List Int) (g : GAll GU8 code) : laws_FnRegionValid code = some true := by
  unfold laws_FnRegionValid
  refine draw_guard fun _ => ?_
  obtain ⟨bs, e, h⟩ := draw_regionvalid g
  have h1 := h.1
  rw [e, Option.bind_some]
  refine valid_law (f := impl_RegionValid) (g := spec_RegionValid) (V := RV) (by omega) (fun ys hy hl => impl_region (by omega) fun b hb => ?_) (spec_region (by omega) fun b hb => (h.2 b hb).ok) (fun hv => ⟨fun b hb => hv.1 b (List.mem_of_mem_take hb), by have := hv.2; simp; omega⟩) (fun hv => ?_)
  · rcases hy b hb with hm | hm
    · exact (h.2 b hm).ok
    · rw [hm]; exact ⟨by simp, by simp⟩
  · have := (hv.1 (⟨[]⟩ : Box) (by simp)).1
    simp at this
theorem plain_FnTestsBox (code more : List Int) (g : GAll GU8 code) (_gm : GAll GU8 more) : laws_FnTestsBox code more = some true := by
  unfold laws_FnTestsBox
  refine draw_guard fun _ => draw_guard fun hm => ?_
  obtain ⟨ts, e, hl⟩ := draw_testsbox g
  obtain ⟨b, e1, e2, hok, hy, hn⟩ := tb (ts := ts) (by omega)
  obtain ⟨v, ev, hv⟩ := spec_tests (xs := ts) (by omega)
  rw [e]
  simp only [Option.bind_some, e1, e2, same_box _ _ hok, decide_true, cond_true, ev]
  cases v with
  | true =>
    have ht := hv.1 rfl
    have hb := hy ht
    subst hb
    obtain ⟨p, ep⟩ := probe_ok (list := [⟨testsS ts⟩]) (by simp) (fun b hb => by rw [List.mem_singleton.1 hb]; exact hok) (more_seed hm).1 (more_seed hm).2
    obtain ⟨q, eq, hq⟩ := impl_box hok
    obtain ⟨r, er, hr⟩ := impl_has hok p
    obtain ⟨s, es, hs⟩ := impl_thold (ts := ts) (by omega) p
    have hqt : q = true := hq.2 ht.bv
    have hrs : r = s := by
      rw [Bool.eq_iff_iff, hr, hs]
      exact ⟨fun h => ⟨ht, h.2.1, (BH_tests ht.1 h.2.1).1 h.2.2⟩, fun h => ⟨ht.bv, h.2.1, (BH_tests ht.1 h.2.1).2 h.2.2⟩⟩
    simp only [cond_true, ep, Option.bind_some, eq, er, es, hqt, hrs]
    simp
  | false =>
    rw [hn fun h => by simpa using hv.2 h]; rfl
def noneT : List Test := [({ Field := 3, Lo := 0, Hi := 2, Not := false } : Test), ({ Field := 3, Lo := 3, Hi := 3, Not := false } : Test)]
theorem noneT_ok : TsV noneT := by
  refine ⟨fun t ht => ?_, by decide⟩
  unfold noneT at ht
  rcases List.mem_cons.1 ht with rfl | ht
  · exact ⟨by decide, by decide, by decide⟩
  · rw [List.mem_singleton.1 ht]; exact ⟨by decide, by decide, by decide⟩
theorem noneT_none : sd (testsS noneT) 3 = [] := by
  have hB := (testsS_B4 noneT_ok.1).2 3 (by decide)
  refine nil_of_has hB.cn fun v => ?_
  rw [has_testsS noneT_ok.1 (by decide)]
  rw [Bool.eq_false_iff]
  intro h
  rw [Bool.and_eq_true, List.all_eq_true] at h
  have h1 := h.2 ⟨3, 0, 2, false⟩ (by simp [noneT])
  have h2 := h.2 ⟨3, 3, 3, false⟩ (by simp [noneT])
  rw [Bool.or_eq_true] at h1 h2
  have h1 := h1.resolve_left (by decide)
  have h2 := h2.resolve_left (by decide)
  rw [has_test (noneT_ok.1 _ (by simp [noneT]))] at h1 h2
  simp at h1 h2
  omega
theorem within_none {a b : List (List Span)} (ha : B4 a) (hb : B4 b) (he : emptyS b) : Within a b ↔ emptyS a := by
  refine ⟨fun h => ?_, fun h => .inl h⟩
  by_cases hn : emptyS a
  · exact hn
  · exfalso
    have h1 := BH_within ha hb h (BH_first ha hn)
    obtain ⟨k, hk, e⟩ := he
    have := (BH_iff (b := ⟨b⟩) hb.1).1 h1 k hk
    simp only at this
    rw [e] at this
    cases this
theorem plain_FnBoxEmpty (code : List Int) (g : GAll GU8 code) : laws_FnBoxEmpty code = some true := by
  unfold laws_FnBoxEmpty
  refine draw_guard fun _ => ?_
  obtain ⟨b, e, h⟩ := draw_boxempty g
  obtain ⟨v, e1, e2, hv⟩ := (impl_emptyb h.ok).same (spec_emptyb h.ok)
  obtain ⟨w, e3, hw⟩ := spec_box h.ok
  rw [e]
  simp only [Option.bind_some, e1, e2, bne_self_eq_false, cond_false, e3]
  cases w with
  | false =>
    have : v = false := by rw [Bool.eq_false_iff]; exact fun hh => by simpa using hw.2 (hv.1 hh).1
    rw [this]; rfl
  | true =>
    have hb := hw.1 rfl
    have h4 := (BV_iff.1 hb).1
    obtain ⟨r, er, ei⟩ := spec_BoxFirst_is h.ok
    obtain ⟨bn, en, _, hokn, hyn, _⟩ := tb (ts := noneT) (by decide)
    have hbn := hyn noneT_ok
    subst hbn
    have hne : emptyS (testsS noneT) := ⟨3, by decide, noneT_none⟩
    obtain ⟨q, eq, hq⟩ := impl_within h.ok hokn
    obtain ⟨z, ez, hz⟩ := impl_emptyb hokn
    have hzt : z = true := hz.2 ⟨noneT_ok.bv, hne⟩
    have hr : v = !r.2 := by
      rcases spec_first h.ok with ⟨_, hn, e5⟩ | ⟨hn, e5⟩
      · rw [er] at e5
        rw [Option.some.inj e5]
        simp only [Bool.not_true]
        rw [Bool.eq_false_iff]
        exact fun hh => hn (hv.1 hh).2
      · rw [er] at e5
        rw [Option.some.inj e5]
        simp only [Bool.not_false]
        refine hv.2 ⟨hb, ?_⟩
        exact Classical.byContradiction fun hc => hn ⟨hb, hc⟩
    have hvq : v = q := by
      rw [Bool.eq_iff_iff, hv, hq, within_none h4 (testsS_B4 noneT_ok.1) hne]
      exact ⟨fun hh => ⟨hb, noneT_ok.bv, hh.2⟩, fun hh => ⟨hb, hh.2.2⟩⟩
    have en' : impl_TestsBox [({ Field := 3, Lo := 0, Hi := 2, Not := false } : Test), ({ Field := 3, Lo := 3, Hi := 3, Not := false } : Test)] = some ⟨testsS noneT⟩ := en
    simp only [cond_true, ei, Option.bind_some, en', eq, ez, ← hr, ← hvq, hzt]
    simp
theorem plain_FnBoxFirst (code more : List Int) (g : GAll GU8 code) (_gm : GAll GU8 more) : laws_FnBoxFirst code more = some true := by
  unfold laws_FnBoxFirst
  refine draw_guard fun _ => draw_guard fun hm => ?_
  obtain ⟨b, e, h⟩ := draw_boxfirst g
  obtain ⟨r, er, ei⟩ := spec_BoxFirst_is h.ok
  rw [e]
  simp only [Option.bind_some, er, ei, decide_true, Bool.not_true, cond_false, bne_self_eq_false]
  rcases spec_first h.ok with ⟨hb, hn, e5⟩ | ⟨hn, e5⟩
  · rw [er] at e5
    obtain rfl := Option.some.inj e5
    have h4 := (BV_iff.1 hb).1
    have hf := BH_first h4 hn
    obtain ⟨p, ep⟩ := probe_ok (list := [b]) (by simp) (fun x hx => by rw [List.mem_singleton.1 hx]; exact h.ok) (more_seed hm).1 (more_seed hm).2
    obtain ⟨q, eq, hq⟩ := impl_has h.ok (firstP b.Sides)
    obtain ⟨s, es, hs⟩ := impl_has h.ok p
    have hqt : q = true := hq.2 ⟨hb, BH_PV (s := b.Sides) h4 hf, hf⟩
    simp only [cond_true, ep, Option.bind_some, eq, es, hqt]
    cases s with
    | false => rfl
    | true =>
      have hp := (hs.1 rfl).2.2
      have l0 : (firstP b.Sides).From ≤ p.From := first_least (s := b.Sides) h4 hn hp (k := 0) (by decide)
      have l1 : (firstP b.Sides).To ≤ p.To := first_least (s := b.Sides) h4 hn hp (k := 1) (by decide)
      have l2 : (firstP b.Sides).Port ≤ p.Port := first_least (s := b.Sides) h4 hn hp (k := 2) (by decide)
      have l3 : (firstP b.Sides).Proto ≤ p.Proto := first_least (s := b.Sides) h4 hn hp (k := 3) (by decide)
      rw [decide_eq_true l0, decide_eq_true l1, decide_eq_true l2, decide_eq_true l3]; rfl
  · rw [er] at e5
    obtain rfl := Option.some.inj e5
    rfl
theorem TsV.rev {ts : List Test} : TsV ts.reverse ↔ TsV ts := by
  unfold TsV
  simp
theorem plain_FnTestsOrder (code : List Int) (g : GAll GU8 code) : laws_FnTestsOrder code = some true := by
  unfold laws_FnTestsOrder
  refine draw_guard fun _ => ?_
  obtain ⟨ts, e, hl⟩ := draw_testsbox g
  obtain ⟨b, e1, e2, hok, hy, hn⟩ := tb (ts := ts) (by omega)
  obtain ⟨b', e1', _, hok', hy', hn'⟩ := tb (ts := ts.reverse) (by simp; omega)
  have hbb : b' = b := by
    by_cases hv : TsV ts
    · rw [hy hv, hy' (TsV.rev.2 hv), testsS_same (TsV.rev.2 hv).1 hv.1 fun t => List.mem_reverse]
    · rw [hn hv, hn' fun h => hv (TsV.rev.1 h)]
  subst hbb
  have hw : W ((ts.length : Int) - 1) = (ts.length : Int) - 1 := W_of (by omega) (by omega)
  have hloop : loopF (laws_FnTestsOrder_L0 ts) ((((ts.length : Int) - 1) : Int) + 1).toNat.succ (([] : List Test), ((ts.length : Int) - 1)) = some (.brk (ts.reverse, -1)) :=
    loop_brk0 (body := laws_FnTestsOrder_L0 ts) ts.length (fun k : Nat => (ts.reverse.take k, (ts.length : Int) - 1 - (k : Int))) (by simp) (fun k hk => by
      have hkr : k < ts.reverse.length := by simpa using hk
      have hi : idx ts ((ts.length : Int) - 1 - (k : Int)) = some ts.reverse[k] := by
        rw [show (ts.length : Int) - 1 - (k : Int) = ((ts.length - 1 - k : Nat) : Int) by omega, idx_get (by omega : ts.length - 1 - k < ts.length)]
        rw [List.getElem_reverse]
      unfold laws_FnTestsOrder_L0
      simp only [le_true (show (0 : Int) ≤ (ts.length : Int) - 1 - (k : Int) by omega), cond_true, hi, Option.bind_some]
      rw [app_ok (by simp; omega), take_snoc (List.getElem?_eq_getElem hkr), W_of (by omega) (by omega), show (ts.length : Int) - 1 - (k : Int) - 1 = (ts.length : Int) - 1 - ((k + 1 : Nat) : Int) by omega]; rfl) (by
      unfold laws_FnTestsOrder_L0
      simp only
      rw [le_false (by omega), cond_false, List.take_of_length_le (by simp), show (ts.length : Int) - 1 - (ts.length : Int) = -1 by omega]) (by rw [show (ts.length : Int) - 1 + 1 = (ts.length : Int) by omega]; simp)
  rw [e]
  simp only [Option.bind_some, e1, e2, same_box _ _ hok, decide_true, cond_true, hw, hloop, LR.on, e1', alive_is]
end Go.PF.F
