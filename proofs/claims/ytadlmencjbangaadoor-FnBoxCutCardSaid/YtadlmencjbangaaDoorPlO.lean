/- Plain laws: boxes of tests, first packets, probes. -/
import Derived.Test.YtadlmencjbangaaDoorPlN
import Derived.Test.YtadlmencjbangaaDoorPlP
namespace Go.PF.F
open Go Go.PF

/-! Draws. -/
/-! Boxes of tests. -/
theorem impl_testSpans {t : Test} (h : TV t) : impl_Test_spans t = some (testL t) := by
  have ht := top_pos h.field.2
  have h2 := h.2
  unfold impl_Test_spans testL
  cases hn : t.Not with
  | false => rfl
  | true =>
    rw [cond_true, if_pos rfl]
    have e : impl_FieldTop t.Field = some (topOf t.Field.toNat) := by
      have := impl_top t.Field.toNat
      rwa [← h.field.1] at this
    simp only [e, Option.bind_some]
    unfold otherL otherL
    simp only
    rw [W_of (by omega) (by omega), W_of (by omega) (by omega)]
    by_cases h1 : 0 < t.Lo
    · rw [decide_eq_true h1, if_pos h1, cond_true, app_ok (by simp), Option.bind_some]
      by_cases h3 : t.Hi < topOf t.Field.toNat
      · rw [decide_eq_true h3, if_pos (by omega), cond_true, app_ok (by simp)]; rfl
      · rw [decide_eq_false h3, if_neg (by omega)]; rfl
    · rw [decide_eq_false h1, if_neg h1, cond_false]
      by_cases h3 : t.Hi < topOf t.Field.toNat
      · rw [decide_eq_true h3, if_pos (by omega), cond_true, app_ok (by simp)]; rfl
      · rw [decide_eq_false h3, if_neg (by omega)]; rfl
theorem impl_testsSides_is {ts : List Test} (h : TsV ts) : impl_testsSides ts = some (testsS ts) := by
  have hl : ts.length ≤ 6 := by have := h.2; omega
  unfold impl_testsSides
  rw [impl_all, Option.bind_some]
  have := loop_each (body := impl_testsSides_L0 ts) ts (fun s k => (k, s)) (fun s t => s.set t.Field.toNat (meetL (sd s t.Field.toNat) (testL t))) fullS (fun s => ((ts.length : Int), s)) (fuel := ((((ts.length : Int)) : Int) - 0).toNat.succ) (by omega)
    (fun k t hk ht => by
      have hv := h.1 t (List.mem_of_getElem? ht)
      have hs := testsS_ok (ts.take k) fullS (fun z hz => h.1 z (List.mem_of_mem_take hz)) full_B4
      have hlen := testsS_len (ts.take k) fullS (fun z hz => h.1 z (List.mem_of_mem_take hz)) full_B4 1 (fun j hj => by unfold fullS; rw [sd_mk4 _ hj]; simp) _ hv.field.2
      rw [List.length_take] at hlen
      generalize (ts.take k).foldl (fun s t => s.set t.Field.toNat (meetL (sd s t.Field.toNat) (testL t))) fullS = s at hs hlen
      have hi := sd_idx hs.1 hv.field.2
      rw [← hv.field.1] at hi
      have htop := impl_top t.Field.toNat
      rw [← hv.field.1] at htop
      have h2 := testL_len t
      have hm := (hs.2 _ hv.field.2).meet_few hv.set
      unfold impl_testsSides_L0
      simp only [lt_true (show (k : Int) < (ts.length : Int) by omega), cond_true, idx_nat, ht, Option.bind_some, hi, impl_testSpans hv, htop, impl_meet (hs.2 _ hv.field.2) hv.set, W_succ (show k < 9223372036854775807 by omega)]
      rw [if_pos (by omega)])
    (by
      unfold impl_testsSides_L0
      simp only [lt_false (Int.le_refl _), cond_false])
  rw [this]; rfl
theorem B4.few_len {s : List (List Span)} (h : B4 s) (hf : Few s) : ∀ x ∈ s, x.length ≤ 40 := fun x hx => (OkB.of h hf).2 x hx
theorem tb {ts : List Test} (hl : ts.length ≤ 1000) : ∃ b, impl_TestsBox ts = some b ∧ spec_TestsBox ts = some b ∧ OkBox b ∧ (TsV ts → b = ⟨testsS ts⟩) ∧ (¬ TsV ts → b = ⟨[]⟩) := by
  obtain ⟨v, e1, e2, hv⟩ := (impl_tests (xs := ts) (by omega)).same (spec_tests (xs := ts) (by omega))
  cases v with
  | true =>
    have h := hv.1 rfl
    refine ⟨⟨testsS ts⟩, ?_, spec_testsBox h, B4.ok (b := ⟨testsS ts⟩) (testsS_B4 h.1), fun _ => rfl, fun hn => absurd h hn⟩
    unfold impl_TestsBox
    rw [e1, Option.bind_some, cond_true, impl_testsSides_is h, Option.bind_some, impl_box4 (testsS_B4 h.1).1 fun x hx => by have := (testsS_B4 h.1).few_len (testsS_few h) x hx; omega]; rfl
  | false =>
    have h : ¬ TsV ts := fun h => by simpa using hv.2 h
    refine ⟨⟨[]⟩, ?_, ?_, ⟨by simp, by simp⟩, fun hy => absurd hy h, fun _ => rfl⟩
    · unfold impl_TestsBox; rw [e1]; rfl
    · unfold spec_TestsBox; rw [e2]; rfl

/-! Probes. -/
theorem probe_in (list : List Box) (hb : ∀ b ∈ list, OkBox b) {seed : Int} (h0 : 0 ≤ seed) (h1 : seed ≤ 1048576) {i : Nat} (hi : i < list.length) (_hi2 : i ≤ 1000) (y : List Int) (hy : y.length = 4) :
    ∃ k y', loopF (laws_probe_L1 list seed (i : Int)) (((4 : Int)) - 0).toNat.succ (0, y) = some (.brk (k, y')) ∧ y'.length = 4 := by
  obtain ⟨o, ho, k, y', rfl, hl⟩ := loop_idx (body := laws_probe_L1 list seed (i : Int)) 4 (fun k s => s.1 = (k : Int) ∧ s.2.length = 4) (fun o => ∃ k y', o = .brk (k, y') ∧ y'.length = 4) (s := (0, y)) ⟨rfl, hy⟩
    (fun k s hk ⟨e1, hl⟩ => by
      obtain ⟨k', y⟩ := s
      simp only at e1 hl
      subst e1
      have hbx := hb _ (List.getElem_mem hi)
      unfold laws_probe_L1
      simp only [lt_true (show (k : Int) < 4 by omega), cond_true, idx_get hi, Option.bind_some, W_succ (show k < 9223372036854775807 by omega)]
      by_cases hs : k < list[i].Sides.length
      · have hx2 := hbx.2 _ (List.getElem_mem hs)
        simp only [lt_true (show (k : Int) < (list[i].Sides.length : Int) by omega), cond_true, idx_get hs, Option.bind_some]
        by_cases hz : list[i].Sides[k].length = 0
        · rw [(by simp [hz] : ((list[i].Sides[k].length : Int) == 0) = true)]
          exact .inl ⟨_, rfl, rfl, hl⟩
        · rw [(by simp; exact fun e => hz (by rw [e]; rfl) : ((list[i].Sides[k].length : Int) == 0) = false), cond_false]
          by_cases h3 : (((W ((W (seed + i)) + k))).tmod 3 == 0) = true
          · rw [h3]; exact .inl ⟨_, rfl, rfl, hl⟩
          · rw [Bool.eq_false_iff.2 h3, cond_false]
            have hnz : nzF (list[i].Sides[k].length : Int) = some () := by
              unfold nzF
              rw [(by simp; exact fun e => hz (by rw [e]; rfl) : ((list[i].Sides[k].length : Int) == 0) = false)]; rfl
            have hw : W (seed + k) = seed + k := W_of (by omega) (by omega)
            have ht0 : 0 ≤ (seed + k).tmod (list[i].Sides[k].length : Int) := Int.tmod_nonneg _ (by omega)
            have ht1 : (seed + k).tmod (list[i].Sides[k].length : Int) < (list[i].Sides[k].length : Int) := Int.tmod_lt_of_pos _ (by omega)
            obtain ⟨j, hj⟩ := Int.eq_ofNat_of_zero_le ht0
            have hjl : j < list[i].Sides[k].length := by
              rw [hj] at ht1; exact Int.ofNat_lt.1 ht1
            have hky : k < y.length := by rw [hl]; exact hk
            simp only [hnz, hw, hj, Option.bind_some, idx_get hjl, idx_get hky, Int.toNat_natCast]
            cases ((W (seed + i)).tmod 2 == 0) with
            | false => exact .inl ⟨_, rfl, rfl, by simpa using hl⟩
            | true =>
              have hky2 : k < (y.set k (list[i].Sides[k])[j].Lo).length := by simpa using hky
              simp only [cond_true, idx_get hky2, Option.bind_some]
              exact .inl ⟨_, rfl, rfl, by simpa using hl⟩
      · rw [lt_false (by omega)]
        exact .inr (.inr ⟨_, rfl, _, _, rfl, hl⟩))
    (fun s ⟨e1, hl⟩ => by
      obtain ⟨k', y⟩ := s
      simp only at e1 hl
      subst e1
      exact .inl ⟨_, rfl, _, _, rfl, hl⟩)
  exact ⟨k, y', ho, hl⟩
theorem probe_ok {list : List Box} (hn : list.length ≤ 1000) (hb : ∀ b ∈ list, OkBox b) {seed : Int} (h0 : 0 ≤ seed) (h1 : seed ≤ 1048576) : ∃ p, laws_probe list seed = some p := by
  unfold laws_probe
  obtain ⟨o, ho, k, y', rfl, hl⟩ := loop_idx (body := laws_probe_L0 list seed) list.length (fun k s => s.1 = (k : Int) ∧ s.2.length = 4) (fun o => ∃ k y', o = .brk (k, y') ∧ y'.length = 4) (s := (0, [({ From := ((seed).tmod 65536), To := (((W ((seed).tdiv 3))).tmod 65536), Port := ((seed).tmod 256), Proto := ((seed).tmod 8) } : Packet).From, ({ From := ((seed).tmod 65536), To := (((W ((seed).tdiv 3))).tmod 65536), Port := ((seed).tmod 256), Proto := ((seed).tmod 8) } : Packet).To, ({ From := ((seed).tmod 65536), To := (((W ((seed).tdiv 3))).tmod 65536), Port := ((seed).tmod 256), Proto := ((seed).tmod 8) } : Packet).Port, ({ From := ((seed).tmod 65536), To := (((W ((seed).tdiv 3))).tmod 65536), Port := ((seed).tmod 256), Proto := ((seed).tmod 8) } : Packet).Proto])) ⟨rfl, rfl⟩
    (fun k s hk ⟨e1, hl⟩ => by
      obtain ⟨k', y⟩ := s
      simp only at e1 hl
      subst e1
      obtain ⟨k2, y2, e, hl2⟩ := probe_in list hb h0 h1 hk (by omega) y hl
      unfold laws_probe_L0
      simp only [lt_true (show (k : Int) < (list.length : Int) by omega), cond_true, W_succ (show k < 9223372036854775807 by omega)]
      rw [e]
      exact .inl ⟨_, rfl, rfl, hl2⟩)
    (fun s ⟨e1, hl⟩ => by
      obtain ⟨k', y⟩ := s
      simp only at e1 hl
      subst e1
      refine .inl ⟨((list.length : Int), y), ?_, _, _, rfl, hl⟩
      unfold laws_probe_L0
      simp only [lt_false (Int.le_refl _), cond_false])
  rw [ho]
  match y', hl with
  | [a, b, c, d], _ => exact ⟨_, rfl⟩
theorem more_seed {more : List Int} (h : ¬ (1048576 : Int) < (more.length : Int)) : (0 : Int) ≤ (more.length : Int) ∧ (more.length : Int) ≤ 1048576 := by omega

/-! The laws. -/
end Go.PF.F
