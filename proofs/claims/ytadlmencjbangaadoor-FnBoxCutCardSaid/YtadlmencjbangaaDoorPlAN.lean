/- Plain laws: cutting boxes, what the laws ask. -/
import Derived.Test.YtadlmencjbangaaDoorPlAM
namespace Go.PF.F
open Go Go.PF

open Classical in
theorem spec_boxcut {a b : Box} (ha : OkB a) (hb : OkB b) : spec_BoxCut a b = some (if BV a ∧ BV b ∧ ∀ p ∈ cutL a.Sides b.Sides, Few p then (cutL a.Sides b.Sides).map Box.mk else []) := by
  obtain ⟨v, e1, hv⟩ := spec_box ha.ok
  obtain ⟨w, e2, hw⟩ := spec_box hb.ok
  unfold spec_BoxCut
  have o1 : spec_l1OwnBox ({ Sides := a.Sides } : Box) = some a := own_box ha
  have o2 : spec_l1OwnBox ({ Sides := b.Sides } : Box) = some b := own_box hb
  have e1' : spec_BoxValid ({ Sides := a.Sides } : Box) = some v := e1
  have e2' : spec_BoxValid ({ Sides := b.Sides } : Box) = some w := e2
  rw [o1, Option.bind_some, o2, Option.bind_some, e1', Option.bind_some]
  cases v with
  | false => rw [if_neg fun h => by simpa using hv.2 h.1]; rfl
  | true =>
    rw [cond_true, e2', Option.bind_some]
    cases w with
    | false => rw [if_neg fun h => by simpa using hw.2 h.2.1]; rfl
    | true =>
      have hva := hv.1 rfl
      have hvb := hw.1 rfl
      obtain ⟨ha4, haf⟩ := BV_iff.1 hva
      obtain ⟨hb4, _⟩ := BV_iff.1 hvb
      have ec : spec_l11Cut ({ Sides := a.Sides } : Box) ({ Sides := b.Sides } : Box) = some ((cutL a.Sides b.Sides).map Box.mk) := spec_cut ha4 hb4
      rw [cond_true, ec, Option.bind_some]
      have hB := cutL_B4 ha4 hb4
      have hcl := cutL_len a.Sides b.Sides
      obtain ⟨o, ho, hq⟩ := loop_idx (body := spec_BoxCut_L0 ((cutL a.Sides b.Sides).map Box.mk)) ((cutL a.Sides b.Sides).map Box.mk).length (fun k s => s = (k : Int) ∧ ∀ j, ∀ (h : j < k) p, (cutL a.Sides b.Sides)[j]? = some p → Few p)
        (fun o => (∃ s : Int, o = .brk s ∧ ∀ p ∈ cutL a.Sides b.Sides, Few p) ∨ (o = .ret ([] : List Box) ∧ ¬ ∀ p ∈ cutL a.Sides b.Sides, Few p)) (s := 0) ⟨rfl, fun j h => by omega⟩
        (fun k s hk ⟨h1, h2⟩ => by
          subst h1
          have hk' : k < (cutL a.Sides b.Sides).length := by simpa using hk
          have hm := List.getElem_mem hk'
          obtain ⟨u, e3, hu⟩ := spec_box (b := ⟨(cutL a.Sides b.Sides)[k]⟩) (B4.ok (b := ⟨(cutL a.Sides b.Sides)[k]⟩) (hB _ hm))
          unfold spec_BoxCut_L0
          simp only [lt_true (show (k : Int) < (((cutL a.Sides b.Sides).map Box.mk).length : Int) by omega), cond_true, idx_get hk, List.getElem_map, Option.bind_some, e3]
          cases u with
          | true =>
            refine .inl ⟨_, rfl, by rw [W_succ (by omega)], fun j hj p hp => ?_⟩
            rcases Nat.lt_or_ge j k with h | h
            · exact h2 j h p hp
            · obtain rfl : j = k := by omega
              rw [List.getElem?_eq_getElem hk'] at hp
              rw [← Option.some.inj hp]
              exact (BV_iff.1 (hu.1 rfl)).2
          | false =>
            refine .inr (.inl ⟨_, rfl, .inr ⟨rfl, fun h => ?_⟩⟩)
            have := hu.2 (BV_iff.2 ⟨hB _ hm, h _ hm⟩)
            cases this)
        (fun s ⟨h1, h2⟩ => by
          subst h1
          unfold spec_BoxCut_L0
          simp only [lt_false (Int.le_refl _), cond_false]
          refine .inl ⟨_, rfl, .inl ⟨_, rfl, fun p hp => ?_⟩⟩
          obtain ⟨j, hj⟩ := List.mem_iff_getElem?.1 hp
          have := (List.getElem?_eq_some_iff.1 hj).1
          exact h2 j (by simpa using this) p hj)
      rw [ho, Option.bind_some]
      rcases hq with ⟨s, rfl, h⟩ | ⟨rfl, h⟩
      · rw [if_pos ⟨hva, hvb, h⟩]; rfl
      · rw [if_neg fun h' => h h'.2.2]; rfl
theorem hasB_meet {p q : List (List Span)} {f : Nat → Int} : hasB (meetS p q) f ↔ hasB p f ∧ hasB q f := by
  unfold hasB
  constructor
  · intro h
    refine ⟨fun k hk => ?_, fun k hk => ?_⟩ <;>
    · have := h k hk
      rw [show sd (meetS p q) k = _ from sd_mk4 _ hk, has_meetL, Bool.and_eq_true] at this
      first | exact this.1 | exact this.2
  · rintro ⟨h1, h2⟩ k hk
    rw [show sd (meetS p q) k = _ from sd_mk4 _ hk, has_meetL, h1 k hk, h2 k hk]; rfl
theorem dj_empty {p q : List (List Span)} (hp : B4 p) (hq : B4 q) (h : Dj p q) : emptyS (meetS p q) := Classical.byContradiction fun hn => by
  obtain ⟨f, hf⟩ := some_point (hp.meet hq) hn
  have := hasB_meet.1 hf
  exact h f this.1 this.2
theorem cut_dj_b {a b : List (List Span)} (ha : B4 a) (hb : B4 b) : ∀ p ∈ cutL a b, Dj p b := fun p hp f h => ((cut_has ha hb f).1 ⟨p, hp, h⟩).2
theorem cut_within {a b : List (List Span)} (ha : B4 a) (hb : B4 b) : ∀ p ∈ cutL a b, Within p a := by
  intro p hp
  have hp4 := cutL_B4 ha hb p hp
  unfold cutL at hp
  split at hp
  · split at hp
    · cases hp
    · rw [List.mem_singleton.1 hp]; exact within_self ha
  · obtain ⟨n, hn, e⟩ := List.mem_filterMap.1 hp
    split at e
    · cases e
    · cases e
      refine .inr fun k hk => (less_nil_iff hp4 ha hk).2 fun v hv => ?_
      rw [has_piece ha hb hk] at hv
      split at hv
      · rw [Bool.and_eq_true] at hv; exact hv.1
      · split at hv
        · rw [Bool.and_eq_true] at hv; exact hv.1
        · exact hv
/-- Sides of pieces of small boxes. -/
theorem cut_small {a b : List (List Span)} {m n : Nat} (ha : B4 a) (hb : B4 b) (hm : FewN m a) (hn : FewN n b) : ∀ p ∈ cutL a b, FewN (m + n + 1) p := by
  intro p hp k hk
  have h1 := hm k hk
  have h2 := hn k hk
  unfold cutL at hp
  split at hp
  · split at hp
    · cases hp
    · rw [List.mem_singleton.1 hp]; omega
  · obtain ⟨i, hi, e⟩ := List.mem_filterMap.1 hp
    split at e
    · cases e
    · cases e
      rw [show sd (pieceK a b i) k = _ from sd_mk4 _ hk]
      split
      · have := (ha.2 k hk).meet_few (hb.2 k hk); omega
      · split
        · rename_i h; subst h
          have := (ha.2 k hk).less_few (hb.2 k hk)
          show (lessL (topOf k) (sd a k) (sd b k)).length ≤ m + n + 1
          omega
        · omega
/-- A point lies in at most one of boxes that are apart. -/
theorem count_dj {rest : List (List (List Span))} (h : rest.Pairwise Dj) (q : List (List Span) → Bool) {f : Nat → Int} (hq : ∀ p ∈ rest, q p = true → hasB p f) : rest.countP q ≤ 1 := by
  induction rest with
  | nil => simp
  | cons p ps ih =>
    rw [List.pairwise_cons] at h
    rw [List.countP_cons]
    have hi := ih h.2 (fun x hx => hq x (by simp [hx]))
    by_cases hp : q p = true
    · rw [if_pos hp]
      have : ps.countP q = 0 := List.countP_eq_zero.2 fun x hx hqx => h.1 x hx f (hq p (by simp) hp) (hq x (by simp [hx]) hqx)
      omega
    · rw [if_neg hp]; omega
end Go.PF.F
