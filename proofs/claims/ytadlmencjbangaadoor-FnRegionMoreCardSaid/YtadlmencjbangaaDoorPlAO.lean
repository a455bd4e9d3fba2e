/- Plain laws: what a region leaves of a box (the reference), draws. -/
import Derived.Test.YtadlmencjbangaaDoorPlAN
namespace Go.PF.F
open Go Go.PF

theorem nextL_len (rest : List (List (List Span))) (b : List (List Span)) : (nextL rest b).length ≤ 4 * rest.length := by
  induction rest with
  | nil => simp [nextL]
  | cons a as ih =>
    have : nextL (a :: as) b = cutL a b ++ nextL as b := by simp [nextL]
    rw [this, List.length_append, List.length_cons]
    have := cutL_len a b
    omega
theorem rv_okl {rest : List (List (List Span))} (h : ∀ p ∈ rest, B4 p) : RV (rest.map Box.mk) ↔ OkL rest := by
  constructor
  · rintro ⟨h1, h2⟩
    exact ⟨fun p hp => (BV_iff.1 (h1 ⟨p⟩ (List.mem_map_of_mem hp))).2, by rw [List.length_map] at h2; omega⟩
  · rintro ⟨h1, h2⟩
    refine ⟨fun x hx => ?_, by rw [List.length_map]; omega⟩
    obtain ⟨p, hp, rfl⟩ := List.mem_map.1 hx
    exact BV_iff.2 ⟨h p hp, h1 p hp⟩
theorem spec_inner {rest : List (List (List Span))} {list : List Box} {k : Nat} (hk : k < list.length) (h4 : ∀ p ∈ rest, B4 p) (hb : B4 list[k].Sides) (hl : rest.length ≤ 400) :
    loopF (spec_l11Less_L1 list (rest.map Box.mk) (k : Int)) (((((rest.map Box.mk).length : Int)) : Int) - 0).toNat.succ (([] : List Box), 0) = some (.brk ((nextL rest list[k].Sides).map Box.mk, (rest.length : Int))) := by
  refine loop_brk0 (body := spec_l11Less_L1 list (rest.map Box.mk) (k : Int)) rest.length (fun j : Nat => ((nextL (rest.take j) list[k].Sides).map Box.mk, (j : Int))) rfl (fun j hj => ?_) ?_ (by rw [List.length_map]; omega)
  · have hm := List.getElem_mem hj
    have hj' : j < (rest.map Box.mk).length := by simpa using hj
    have htk : rest.take (j + 1) = rest.take j ++ [rest[j]] := take_snoc (List.getElem?_eq_getElem hj)
    have h1 := nextL_len (rest.take j) list[k].Sides
    have h2 := cutL_len rest[j] list[k].Sides
    have h3 : (rest.take j).length ≤ 400 := by rw [List.length_take]; omega
    unfold spec_l11Less_L1
    simp only [lt_true (show (j : Int) < ((rest.map Box.mk).length : Int) by omega), cond_true, idx_get hj', idx_get hk, List.getElem_map, Option.bind_some, spec_cut (a := ⟨rest[j]⟩) (b := list[k]) (h4 _ hm) hb]
    rw [app_ok (by simp only [List.length_map]; omega), Option.bind_some, W_succ (by omega), htk, nextL_snoc, List.map_append]
  · unfold spec_l11Less_L1
    simp only [List.length_map, lt_false (Int.le_refl _), cond_false, List.take_length]
theorem spec_outer {s0 : List (List (List Span))} {list : List Box} (h0 : ∀ p ∈ s0, B4 p ∧ Few p) (hl0 : s0.length ≤ 400) (hr : ∀ x ∈ list, B4 x.Sides) (hl : list.length ≤ 100000) :
    ∃ o, loopF (spec_l11Less_L0 list) ((((list.length : Int)) : Int) - 0).toNat.succ (s0.map Box.mk, 0) = some o ∧
      ((∃ r k, o = .brk (r.map Box.mk, k) ∧ lessA s0 (list.map (·.Sides)) = some r) ∨ (o = .ret (([] : List Box), false) ∧ lessA s0 (list.map (·.Sides)) = none)) := by
  refine loop_idx (body := spec_l11Less_L0 list) list.length
    (fun k st => st.2 = (k : Int) ∧ ∃ y, st.1 = y.map Box.mk ∧ (∀ p ∈ y, B4 p ∧ Few p) ∧ y.length ≤ 400 ∧ lessA s0 (list.map (·.Sides)) = lessA y ((list.map (·.Sides)).drop k)) _
    (s := (s0.map Box.mk, 0)) ⟨rfl, s0, rfl, h0, hl0, by simp⟩
    (fun k st hk ⟨h1, y, h2, h3, h4, h5⟩ => ?_) (fun st ⟨h1, y, h2, h3, h4, h5⟩ => ?_)
  · obtain ⟨y', k1⟩ := st
    simp only at h1 h2
    subst h1 h2
    have hb := hr _ (List.getElem_mem hk)
    have hk' : k < (list.map (·.Sides)).length := by simpa using hk
    have hd : (list.map (·.Sides)).drop k = list[k].Sides :: (list.map (·.Sides)).drop (k + 1) := by rw [List.drop_eq_getElem_cons hk', List.getElem_map]
    have hB := nextL_B4 (fun p hp => (h3 p hp).1) hb
    have hlen := nextL_len y list[k].Sides
    obtain ⟨v, ev, hv⟩ := spec_region (xs := (nextL y list[k].Sides).map Box.mk) (by rw [List.length_map]; omega) (fun x hx => by
      obtain ⟨p, hp, rfl⟩ := List.mem_map.1 hx
      exact B4.ok (b := ⟨p⟩) (hB p hp))
    rw [rv_okl hB] at hv
    unfold spec_l11Less_L0
    simp only [lt_true (show (k : Int) < (list.length : Int) by omega), cond_true, spec_inner hk (fun p hp => (h3 p hp).1) hb h4, Option.bind_some, LR.on, ev]
    cases v with
    | true =>
      have hok := hv.1 rfl
      rw [W_succ (by omega)]
      exact .inl ⟨_, rfl, rfl, _, rfl, fun p hp => ⟨hB p hp, hok.1 p hp⟩, hok.2, by rw [h5, hd, lessA_yes hok]⟩
    | false =>
      have hok : ¬ OkL (nextL y list[k].Sides) := fun h => by simpa using hv.2 h
      exact .inr (.inl ⟨_, rfl, .inr ⟨rfl, by rw [h5, hd, lessA_no hok]⟩⟩)
  · obtain ⟨y', k1⟩ := st
    simp only at h1 h2
    subst h1 h2
    unfold spec_l11Less_L0
    simp only [lt_false (Int.le_refl _), cond_false]
    have : (list.map (·.Sides)).drop list.length = [] := by rw [List.drop_eq_nil_iff]; simp
    rw [this, lessA] at h5
    exact .inl ⟨_, rfl, .inl ⟨y, _, rfl, h5⟩⟩
theorem spec_less {b : Box} {list : List Box} (hb : B4 b.Sides) (hf : Few b.Sides) (hr : ∀ x ∈ list, B4 x.Sides) (hl : list.length ≤ 100000) :
    spec_l11Less b list = some (match lessA (startL b.Sides) (list.map (·.Sides)) with | some r => (r.map Box.mk, true) | none => ([], false)) := by
  unfold spec_l11Less startL
  obtain ⟨q, e, hq⟩ := spec_emp hb
  rw [e, Option.bind_some]
  cases q with
  | true =>
    rw [if_pos (hq.1 rfl), cond_true]
    obtain ⟨o, ho, h⟩ := spec_outer (s0 := []) (list := list) (fun p hp => by cases hp) (by simp) hr hl
    have ho' : loopF (spec_l11Less_L0 list) ((((list.length : Int)) : Int) - 0).toNat.succ (([] : List Box), 0) = some o := ho
    rw [ho', Option.bind_some]
    rcases h with ⟨r, k, rfl, h⟩ | ⟨rfl, h⟩
    · rw [h]; rfl
    · rw [h]; rfl
  | false =>
    rw [if_neg (fun h => by simpa using hq.2 h), cond_false, app_nil (by simp), Option.bind_some]
    obtain ⟨o, ho, h⟩ := spec_outer (s0 := [b.Sides]) (list := list) (fun p hp => by rw [List.mem_singleton.1 hp]; exact ⟨hb, hf⟩) (by simp) hr hl
    have ho' : loopF (spec_l11Less_L2 list) ((((list.length : Int)) : Int) - 0).toNat.succ ([b], 0) = some o := ho
    rw [ho', Option.bind_some]
    rcases h with ⟨r, k, rfl, h⟩ | ⟨rfl, h⟩
    · rw [h]; rfl
    · rw [h]; rfl
theorem own_boxes {list : List Box} (h : ∀ b ∈ list, OkB b) (hl : list.length ≤ 100000) : spec_l1OwnBoxList list = some list := by
  unfold spec_l1OwnBoxList
  have e := loop_brk0 (body := spec_l1OwnBoxList_L0 list) list.length (fun k : Nat => (list.take k, (k : Int))) (s0 := (([] : List Box), 0)) (s := (list, (list.length : Int))) rfl (fun k hk => by
    unfold spec_l1OwnBoxList_L0
    simp only [lt_true (show (k : Int) < (list.length : Int) by omega), cond_true, idx_get hk, Option.bind_some, own_box (h _ (List.getElem_mem hk)), app_ok (show (list.take k).length + [list[k]].length ≤ 4294967296 by simp; omega), W_succ (show k < 9223372036854775807 by omega)]
    rw [take_snoc (List.getElem?_eq_getElem hk)]) (by
    unfold spec_l1OwnBoxList_L0
    simp only [lt_false (Int.le_refl _), cond_false, List.take_length]) (fuel := ((list.length : Int) - 0).toNat.succ) (by omega)
  rw [e]
  rfl
open Classical in
/-- The reference's answer. -/
theorem spec_regionless {b : Box} {list : List Box} (hb : OkB b) (hl : list.length ≤ 100000) (hs : ∀ x ∈ list, OkB x) : spec_RegionLess b list = some (if BV b ∧ RV list then (match lessA (startL b.Sides) (list.map (·.Sides)) with | some r => (r.map Box.mk, true) | none => ([], false)) else ([], false)) := by
  obtain ⟨v, e1, hv⟩ := spec_box hb.ok
  obtain ⟨w, e2, hw⟩ := spec_region (xs := list) (by omega) (fun x hx => (hs x hx).ok)
  have o1 : spec_l1OwnBox ({ Sides := b.Sides } : Box) = some b := own_box hb
  have e1' : spec_BoxValid ({ Sides := b.Sides } : Box) = some v := e1
  unfold spec_RegionLess
  rw [o1, Option.bind_some, own_boxes hs hl, Option.bind_some, e1', Option.bind_some]
  cases v with
  | false => rw [if_neg fun h => by simpa using hv.2 h.1]; rfl
  | true =>
    rw [cond_true, e2, Option.bind_some]
    cases w with
    | false => rw [if_neg fun h => by simpa using hw.2 h.2]; rfl
    | true =>
      have hBb := hv.1 rfl
      have hR := hw.1 rfl
      obtain ⟨hb4, hbf⟩ := BV_iff.1 hBb
      have e3 : spec_l11Less ({ Sides := b.Sides } : Box) list = some _ := spec_less hb4 hbf (fun x hx => (BV_iff.1 (hR.1 x hx)).1) hl
      rw [if_pos ⟨hBb, hR⟩, cond_true, e3, Option.bind_some]
/-- One answer: what both leave. -/
theorem less_both {b : Box} {list : List Box} (hb : OkB b) (hl : list.length ≤ 100000) (hs : ∀ x ∈ list, OkB x) :
    (∃ r, impl_RegionLess b list = some (r.map Box.mk, true) ∧ spec_RegionLess b list = some (r.map Box.mk, true) ∧ BV b ∧ RV list ∧ lessA (startL b.Sides) (list.map (·.Sides)) = some r ∧ (∀ p ∈ r, B4 p ∧ Few p) ∧ r.length ≤ 400) ∨
    (impl_RegionLess b list = some ([], false) ∧ spec_RegionLess b list = some ([], false)) := by
  have h1 := regionless_is hb.ok hl (fun x hx => (hs x hx).ok)
  have h2 := spec_regionless hb hl hs
  by_cases hc : BV b ∧ RV list
  · rw [if_pos hc] at h1 h2
    obtain ⟨hb4, hbf⟩ := BV_iff.1 hc.1
    obtain ⟨_, h3⟩ := less_region (region := list.map (·.Sides)) hb4 hbf (fun p hp => by
      obtain ⟨x, hx, rfl⟩ := List.mem_map.1 hp
      exact (BV_iff.1 (hc.2.1 x hx)).1) (by simpa using hl)
    cases hr : lessA (startL b.Sides) (list.map (·.Sides)) with
    | none => rw [hr] at h1 h2; exact .inr ⟨h1, h2⟩
    | some r =>
      rw [hr] at h1 h2
      obtain ⟨h4, h5⟩ := h3 r hr
      exact .inl ⟨r, h1, h2, hc.1, hc.2, rfl, h4, h5⟩
  · rw [if_neg hc] at h1 h2
    exact .inr ⟨h1, h2⟩
theorem start_B4 {s : List (List Span)} (h : B4 s) : ∀ p ∈ startL s, B4 p := by
  unfold startL
  split
  · exact fun p hp => by cases hp
  · exact fun p hp => by rw [List.mem_singleton.1 hp]; exact h
theorem start_has {s : List (List Span)} (f : Nat → Int) : (∃ p ∈ startL s, hasB p f) ↔ hasB s f := by
  unfold startL
  split
  · rename_i h
    exact ⟨fun ⟨p, hp, _⟩ => (by cases hp), fun hf => absurd h (not_empty_of hf)⟩
  · exact ⟨fun ⟨p, hp, hf⟩ => by rw [List.mem_singleton.1 hp] at hf; exact hf, fun hf => ⟨s, by simp, hf⟩⟩
theorem BH_hasB {s : List (List Span)} (h : s.length = 4) {p : Packet} : BH ⟨s⟩ p ↔ hasB s (pf p) := BH_iff (b := ⟨s⟩) h
end Go.PF.F
