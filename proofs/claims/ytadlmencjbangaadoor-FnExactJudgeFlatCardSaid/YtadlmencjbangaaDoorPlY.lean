import Derived.Test.YtadlmencjbangaaDoorPlAE
import Derived.Test.YtadlmencjbangaaDoorPlP
/- Plain laws: called chains, depths of calls. -/
namespace Go.PF.F
open Go Go.PF

end Go.PF.F

/- Plain laws: numbers that are written over; ExactCallsOf, ExactChainsUsed. -/
namespace Go.PF.F
open Go Go.PF

end Go.PF.F

/- Plain laws: what meetings and boxes of tests have. -/
namespace Go.PF.F
open Go Go.PF

theorem B4.ext {s t : List (List Span)} (hs : B4 s) (ht : B4 t) (h : ∀ k, k < 4 → ∀ v, has (sd s k) v = has (sd t k) v) : s = t :=
  ext4 hs.1 ht.1 fun k hk => (hs.2 k hk).ext (ht.2 k hk) (h k hk)
end Go.PF.F

/- Plain laws: boxes of tests, first packets, probes. -/
namespace Go.PF.F
open Go Go.PF

/-! Draws. -/
/-! Boxes of tests. -/
theorem impl_testSpans {t : Test} (h : TV t) : impl_Test_spans t = some (testL t) := by
  have ht := top_pos h.field.2
  have h2 := h.2
  unfold impl_Test_spans testL
  cases hn : t.Not with
  | false => rfl
  | true =>
    rw [cond_true, if_pos rfl]
    have e : impl_FieldTop t.Field = some (topOf t.Field.toNat) := by
      have := impl_top t.Field.toNat
      rwa [← h.field.1] at this
    simp only [e, Option.bind_some]
    unfold otherL otherL
    simp only
    rw [W_of (by omega) (by omega), W_of (by omega) (by omega)]
    by_cases h1 : 0 < t.Lo
    · rw [decide_eq_true h1, if_pos h1, cond_true, app_ok (by simp), Option.bind_some]
      by_cases h3 : t.Hi < topOf t.Field.toNat
      · rw [decide_eq_true h3, if_pos (by omega), cond_true, app_ok (by simp)]; rfl
      · rw [decide_eq_false h3, if_neg (by omega)]; rfl
    · rw [decide_eq_false h1, if_neg h1, cond_false]
      by_cases h3 : t.Hi < topOf t.Field.toNat
      · rw [decide_eq_true h3, if_pos (by omega), cond_true, app_ok (by simp)]; rfl
      · rw [decide_eq_false h3, if_neg (by omega)]; rfl
theorem impl_testsSides_is {ts : List Test} (h : TsV ts) : impl_testsSides ts = some (testsS ts) := by
  have hl : ts.length ≤ 6 := by have := h.2; omega
  unfold impl_testsSides
  rw [impl_all, Option.bind_some]
  have := loop_each (body := impl_testsSides_L0 ts) ts (fun s k => (k, s)) (fun s t => s.set t.Field.toNat (meetL (sd s t.Field.toNat) (testL t))) fullS (fun s => ((ts.length : Int), s)) (fuel := ((((ts.length : Int)) : Int) - 0).toNat.succ) (by omega)
    (fun k t hk ht => by
      have hv := h.1 t (List.mem_of_getElem? ht)
      have hs := testsS_ok (ts.take k) fullS (fun z hz => h.1 z (List.mem_of_mem_take hz)) full_B4
      have hlen := testsS_len (ts.take k) fullS (fun z hz => h.1 z (List.mem_of_mem_take hz)) full_B4 1 (fun j hj => by unfold fullS; rw [sd_mk4 _ hj]; simp) _ hv.field.2
      rw [List.length_take] at hlen
      generalize (ts.take k).foldl (fun s t => s.set t.Field.toNat (meetL (sd s t.Field.toNat) (testL t))) fullS = s at hs hlen
      have hi := sd_idx hs.1 hv.field.2
      rw [← hv.field.1] at hi
      have htop := impl_top t.Field.toNat
      rw [← hv.field.1] at htop
      have h2 := testL_len t
      have hm := (hs.2 _ hv.field.2).meet_few hv.set
      unfold impl_testsSides_L0
      simp only [lt_true (show (k : Int) < (ts.length : Int) by omega), cond_true, idx_nat, ht, Option.bind_some, hi, impl_testSpans hv, htop, impl_meet (hs.2 _ hv.field.2) hv.set, W_succ (show k < 9223372036854775807 by omega)]
      rw [if_pos (by omega)])
    (by
      unfold impl_testsSides_L0
      simp only [lt_false (Int.le_refl _), cond_false])
  rw [this]; rfl
theorem B4.few_len {s : List (List Span)} (h : B4 s) (hf : Few s) : ∀ x ∈ s, x.length ≤ 40 := fun x hx => (OkB.of h hf).2 x hx
theorem tb {ts : List Test} (hl : ts.length ≤ 1000) : ∃ b, impl_TestsBox ts = some b ∧ spec_TestsBox ts = some b ∧ OkBox b ∧ (TsV ts → b = ⟨testsS ts⟩) ∧ (¬ TsV ts → b = ⟨[]⟩) := by
  obtain ⟨v, e1, e2, hv⟩ := (impl_tests (xs := ts) (by omega)).same (spec_tests (xs := ts) (by omega))
  cases v with
  | true =>
    have h := hv.1 rfl
    refine ⟨⟨testsS ts⟩, ?_, spec_testsBox h, B4.ok (b := ⟨testsS ts⟩) (testsS_B4 h.1), fun _ => rfl, fun hn => absurd h hn⟩
    unfold impl_TestsBox
    rw [e1, Option.bind_some, cond_true, impl_testsSides_is h, Option.bind_some, impl_box4 (testsS_B4 h.1).1 fun x hx => by have := (testsS_B4 h.1).few_len (testsS_few h) x hx; omega]; rfl
  | false =>
    have h : ¬ TsV ts := fun h => by simpa using hv.2 h
    refine ⟨⟨[]⟩, ?_, ?_, ⟨by simp, by simp⟩, fun hy => absurd hy h, fun _ => rfl⟩
    · unfold impl_TestsBox; rw [e1]; rfl
    · unfold spec_TestsBox; rw [e2]; rfl

/-! Probes. -/
/-! The laws. -/
end Go.PF.F

/- Plain laws: tests of boxes. -/
namespace Go.PF.F
open Go Go.PF

/-- What the tests of the first k fields are. -/
structure BT (s : List (List Span)) (k : Nat) (ts : List Test) : Prop where
  len : ts.length ≤ k
  field : ∀ t ∈ ts, 0 ≤ t.Field ∧ t.Field < (k : Int)
  asc : ts.Pairwise fun a b => a.Field < b.Field
  tv : ∀ t ∈ ts, TV t
  has : ∀ j, j < k → ∀ v, (decide (0 ≤ v ∧ v ≤ topOf j) && ts.all fun t => t.Field.toNat != j || F.has (testL t) v) = F.has (sd s j) v
end Go.PF.F

/- Plain laws: ExactBoxTests. -/
namespace Go.PF.F
open Go Go.PF

end Go.PF.F

/- Plain laws: meetings of boxes, packets in boxes and regions. -/
namespace Go.PF.F
open Go Go.PF

theorem TsV.take {ts : List Test} (h : TsV ts) (k : Nat) : TsV (ts.take k) := ⟨fun t ht => h.1 t (List.mem_of_mem_take ht), by have := h.2; simp; omega⟩
theorem TsV.drop {ts : List Test} (h : TsV ts) (k : Nat) : TsV (ts.drop k) := ⟨fun t ht => h.1 t (List.mem_of_mem_drop ht), by have := h.2; simp; omega⟩
/-! Packets that lie in boxes. -/
theorem RV.take {bs : List Box} (h : RV bs) (k : Nat) : RV (bs.take k) := ⟨fun b hb => h.1 b (List.mem_of_mem_take hb), by have := h.2; simp; omega⟩
theorem RV.drop {bs : List Box} (h : RV bs) (k : Nat) : RV (bs.drop k) := ⟨fun b hb => h.1 b (List.mem_of_mem_drop hb), by have := h.2; simp; omega⟩
end Go.PF.F

/- Plain laws: two boxes. -/
namespace Go.PF.F
open Go Go.PF

theorem OkB.set {s : List (List Span)} (h : OkB ⟨s⟩) (k : Nat) {x : List Span} (hx : x.length ≤ 40) : OkB ⟨s.set k x⟩ := ⟨by have := h.1; simp at this ⊢; omega, fun y hy => by
  rcases List.mem_or_eq_of_mem_set hy with hm | hm
  · exact h.2 y hm
  · rw [hm]; exact hx⟩
theorem SameS.symm {a b : List (List Span)} (ha : B4 a) (hb : B4 b) : SameS a b ↔ SameS b a := by
  rw [← same_iff ha hb, ← same_iff hb ha]; exact And.comm
end Go.PF.F
