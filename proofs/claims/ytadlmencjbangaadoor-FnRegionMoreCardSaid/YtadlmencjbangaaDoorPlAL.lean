/- Plain laws: what a region leaves of a box (the program). -/
import Derived.Test.YtadlmencjbangaaDoorPlAK
namespace Go.PF.F
open Go Go.PF

/-- Every box so far is replaced by what b leaves of it. -/
noncomputable def nextL (rest : List (List (List Span))) (b : List (List Span)) : List (List (List Span)) := rest.flatMap fun a => cutL a b
def OkL (rest : List (List (List Span))) : Prop := (∀ p ∈ rest, Few p) ∧ rest.length ≤ 400
open Classical in
noncomputable def lessA : List (List (List Span)) → List (List (List Span)) → Option (List (List (List Span)))
  | rest, [] => some rest
  | rest, b :: bs => if OkL (nextL rest b) then lessA (nextL rest b) bs else none
theorem lessA_yes {rest : List (List (List Span))} {b : List (List Span)} {bs : List (List (List Span))} (h : OkL (nextL rest b)) : lessA rest (b :: bs) = lessA (nextL rest b) bs := by rw [lessA, if_pos h]
theorem lessA_no {rest : List (List (List Span))} {b : List (List Span)} {bs : List (List (List Span))} (h : ¬ OkL (nextL rest b)) : lessA rest (b :: bs) = none := by rw [lessA, if_neg h]
theorem lessA_nil : ∀ bs : List (List (List Span)), lessA [] bs = some []
  | [] => rfl
  | b :: bs => by
    rw [lessA_yes (show OkL (nextL [] b) from ⟨fun p hp => (by cases hp), by simp [nextL]⟩)]
    exact lessA_nil bs
theorem nextL_B4 {rest : List (List (List Span))} {b : List (List Span)} (h : ∀ p ∈ rest, B4 p) (hb : B4 b) : ∀ p ∈ nextL rest b, B4 p := by
  intro p hp
  obtain ⟨a, ha, hp⟩ := List.mem_flatMap.1 hp
  exact cutL_B4 (h a ha) hb p hp
theorem nextL_snoc (rest : List (List (List Span))) (a b : List (List Span)) : nextL (rest ++ [a]) b = nextL rest b ++ cutL a b := by simp [nextL]
theorem nextL_take {rest : List (List (List Span))} {b : List (List Span)} (k : Nat) : ∃ t, nextL rest b = nextL (rest.take k) b ++ t := by
  refine ⟨nextL (rest.drop k) b, ?_⟩
  unfold nextL
  rw [← List.flatMap_append, List.take_append_drop]
theorem less_inner {rest : List (List (List Span))} {b : List (List Span)} (h4 : ∀ p ∈ rest, B4 p) (hf : ∀ p ∈ rest, Few p) (hl : rest.length ≤ 400) (hb : B4 b) :
    ∃ o, loopF (impl_sides_lessRegion_L1 rest b) ((((rest.length : Int)) : Int) - 0).toNat.succ (([] : List (List (List Span))), 0) = some o ∧
      ((o = .brk (nextL rest b, (rest.length : Int)) ∧ OkL (nextL rest b)) ∨ (o = .ret (([] : List (List (List Span))), false) ∧ ¬ OkL (nextL rest b))) := by
  refine loop_idx (body := impl_sides_lessRegion_L1 rest b) rest.length (fun k s => s.2 = (k : Int) ∧ s.1 = nextL (rest.take k) b ∧ OkL s.1) _ (s := (([] : List (List (List Span))), 0)) ⟨rfl, by simp [nextL], fun p hp => (by cases hp), by simp⟩ (fun k s hk ⟨h1, h2, h3⟩ => ?_) (fun s ⟨h1, h2, h3⟩ => ?_)
  · obtain ⟨y, k1⟩ := s
    simp only at h1 h2 h3
    subst h1
    have hm := List.getElem_mem hk
    have htk : rest.take (k + 1) = rest.take k ++ [rest[k]] := take_snoc (List.getElem?_eq_getElem hk)
    have hn : nextL (rest.take (k + 1)) b = y ++ cutL rest[k] b := by rw [htk, nextL_snoc, ← h2]
    obtain ⟨t, ht⟩ := nextL_take (rest := rest) (b := b) (k + 1)
    have hcl := cutL_len rest[k] b
    have hyl := h3.2
    unfold impl_sides_lessRegion_L1
    simp only [lt_true (show (k : Int) < (rest.length : Int) by omega), cond_true, idx_get hk, Option.bind_some, impl_cut (h4 _ hm) hb (hf _ hm)]
    by_cases hc : ∀ p ∈ cutL rest[k] b, Few p
    · rw [if_pos hc]
      simp only [cond_true, W_of (x := (y.length : Int) + ((cutL rest[k] b).length : Int)) (by omega) (by omega)]
      by_cases hlen : 400 < (y.length : Int) + ((cutL rest[k] b).length : Int)
      · rw [decide_eq_true hlen, cond_true]
        refine .inr (.inl ⟨_, rfl, .inr ⟨rfl, fun h => ?_⟩⟩)
        have := h.2
        rw [ht, hn, List.length_append, List.length_append] at this
        omega
      · rw [decide_eq_false hlen, cond_false, app_ok (by omega), Option.bind_some, W_succ (by omega)]
        refine .inl ⟨_, rfl, rfl, hn.symm, fun p hp => ?_, by rw [List.length_append]; omega⟩
        rcases List.mem_append.1 hp with hp | hp
        · exact h3.1 p hp
        · exact hc p hp
    · rw [if_neg hc]
      refine .inr (.inl ⟨_, rfl, .inr ⟨rfl, fun h => hc fun p hp => h.1 p ?_⟩⟩)
      rw [ht, hn]
      exact List.mem_append_left _ (List.mem_append_right _ hp)
  · obtain ⟨y, k1⟩ := s
    simp only at h1 h2 h3
    subst h1
    rw [List.take_length] at h2
    subst h2
    unfold impl_sides_lessRegion_L1
    simp only [lt_false (Int.le_refl _), cond_false]
    exact .inl ⟨_, rfl, .inl ⟨rfl, h3⟩⟩
open Classical in
noncomputable def startL (s : List (List Span)) : List (List (List Span)) := if emptyS s then [] else [s]
theorem less_region {s : List (List Span)} {region : List (List (List Span))} (hs : B4 s) (hsf : Few s) (hr : ∀ p ∈ region, B4 p) (hl : region.length ≤ 100000) :
    impl_sides_lessRegion s region = some (match lessA (startL s) region with | some r => (r, true) | none => ([], false)) ∧ ∀ r, lessA (startL s) region = some r → (∀ p ∈ r, B4 p ∧ Few p) ∧ r.length ≤ 400 := by
  unfold impl_sides_lessRegion startL
  obtain ⟨q, e, hq⟩ := impl_emp hs.1
  rw [e, Option.bind_some]
  cases q with
  | true =>
    rw [if_pos (hq.1 rfl), lessA_nil]
    exact ⟨rfl, fun r hr => by cases hr; exact ⟨fun p hp => (by cases hp), by simp⟩⟩
  | false =>
    rw [if_neg (fun h => by simpa using hq.2 h), cond_false]
    obtain ⟨o, ho, hq⟩ := loop_idx (body := impl_sides_lessRegion_L0 region) region.length
      (fun k st => st.2 = (k : Int) ∧ (∀ p ∈ st.1, B4 p ∧ Few p) ∧ st.1.length ≤ 400 ∧ lessA [s] region = lessA st.1 (region.drop k))
      (fun o => (∃ st : (List (List (List Span))) × Int, o = .brk st ∧ (∀ p ∈ st.1, B4 p ∧ Few p) ∧ st.1.length ≤ 400 ∧ lessA [s] region = some st.1) ∨ (o = .ret (([] : List (List (List Span))), false) ∧ lessA [s] region = none))
      (s := ([s], 0)) ⟨rfl, fun p hp => by rw [List.mem_singleton.1 hp]; exact ⟨hs, hsf⟩, by simp, by simp⟩
      (fun k st hk ⟨h1, h2, h3, h4⟩ => by
        obtain ⟨y, k1⟩ := st
        simp only at h1 h2 h3 h4
        subst h1
        have hb := hr _ (List.getElem_mem hk)
        have hd : lessA y (region.drop k) = lessA y (region[k] :: region.drop (k + 1)) := by rw [List.drop_eq_getElem_cons hk]
        obtain ⟨o, ho, hq⟩ := less_inner (fun p hp => (h2 p hp).1) (fun p hp => (h2 p hp).2) h3 hb
        unfold impl_sides_lessRegion_L0
        simp only [lt_true (show (k : Int) < (region.length : Int) by omega), cond_true, idx_get hk, Option.bind_some, ho]
        rcases hq with ⟨rfl, hok⟩ | ⟨rfl, hok⟩
        · have hstep : lessA [s] region = lessA (nextL y region[k]) (region.drop (k + 1)) := by
            rw [h4, hd, lessA_yes hok]
          have hB : ∀ p ∈ nextL y region[k], B4 p ∧ Few p := fun p hp => ⟨nextL_B4 (fun p hp => (h2 p hp).1) hb p hp, hok.1 p hp⟩
          simp only [LR.on]
          by_cases hz : nextL y region[k] = []
          · rw [hz] at hstep hB
            rw [hz]
            rw [lessA_nil] at hstep
            exact .inr (.inr ⟨_, rfl, .inl ⟨_, rfl, hB, by simp, hstep⟩⟩)
          · rw [show (((nextL y region[k]).length : Int) == 0) = false from by have := List.length_pos_iff.2 hz; simp; omega, cond_false, W_succ (by omega)]
            exact .inl ⟨_, rfl, rfl, hB, hok.2, hstep⟩
        · refine .inr (.inl ⟨_, rfl, .inr ⟨rfl, ?_⟩⟩)
          rw [h4, hd, lessA_no hok])
      (fun st ⟨h1, h2, h3, h4⟩ => by
        obtain ⟨y, k1⟩ := st
        simp only at h1 h2 h3 h4
        subst h1
        unfold impl_sides_lessRegion_L0
        simp only [lt_false (Int.le_refl _), cond_false]
        rw [List.drop_length] at h4
        exact .inl ⟨_, rfl, .inl ⟨_, rfl, h2, h3, h4⟩⟩)
    rw [ho, Option.bind_some]
    rcases hq with ⟨⟨y, k⟩, rfl, h2, h3, h4⟩ | ⟨rfl, h4⟩
    · rw [h4]
      exact ⟨rfl, fun r hr => by cases hr; exact ⟨h2, h3⟩⟩
    · rw [h4]
      exact ⟨rfl, fun r hr => by cases hr⟩
theorem region_sides {list : List Box} (h : ∀ b ∈ list, BV b) (hl : list.length ≤ 100000) :
    loopF (impl_RegionLess_L0 list) ((((list.length : Int)) : Int) - 0).toNat.succ (([] : List (List (List Span))), 0) = some (.brk (list.map (·.Sides), (list.length : Int))) := by
  refine loop_brk0 (body := impl_RegionLess_L0 list) list.length (fun k : Nat => ((list.take k).map (·.Sides), (k : Int))) rfl (fun k hk => ?_) ?_ (by omega)
  · unfold impl_RegionLess_L0
    simp only [lt_true (show (k : Int) < (list.length : Int) by omega), cond_true, idx_get hk, Option.bind_some, impl_sides (h _ (List.getElem_mem hk)).1, app_ok (show ((list.take k).map (·.Sides)).length + [list[k].Sides].length ≤ 4294967296 by simp; omega), W_succ (show k < 9223372036854775807 by omega)]
    rw [take_snoc (List.getElem?_eq_getElem hk), List.map_append]; rfl
  · unfold impl_RegionLess_L0
    simp only [lt_false (Int.le_refl _), cond_false, List.take_length]
open Classical in
/-- The program's answer. -/
theorem regionless_is {b : Box} {list : List Box} (hb : OkBox b) (hl : list.length ≤ 100000) (hs : ∀ x ∈ list, OkBox x) : impl_RegionLess b list = some (if BV b ∧ RV list then (match lessA (startL b.Sides) (list.map (·.Sides)) with | some r => (r.map Box.mk, true) | none => ([], false)) else ([], false)) := by
  unfold impl_RegionLess
  obtain ⟨v, e1, hv⟩ := impl_box hb
  obtain ⟨w, e2, hw⟩ := impl_region (show list.length ≤ 9223372036854775807 by omega) hs
  rw [e1, Option.bind_some]
  cases v with
  | false => rw [if_neg fun h => by simpa using hv.2 h.1]; rfl
  | true =>
    rw [cond_true, e2, Option.bind_some]
    cases w with
    | false => rw [if_neg fun h => by simpa using hw.2 h.2]; rfl
    | true =>
      have hBb := hv.1 rfl
      have hR := hw.1 rfl
      obtain ⟨hb4, hbf⟩ := BV_iff.1 hBb
      rw [if_pos ⟨hBb, hR⟩, cond_true, show capF (list.length : Int) = some () from if_pos ⟨by omega, by omega⟩, Option.bind_some, region_sides hR.1 hl, Option.bind_some]
      simp only [LR.on, impl_sides hBb.1, Option.bind_some]
      obtain ⟨e3, h3⟩ := less_region (region := list.map (·.Sides)) hb4 hbf (fun p hp => by
        obtain ⟨x, hx, rfl⟩ := List.mem_map.1 hp
        exact (BV_iff.1 (hR.1 x hx)).1) (by simpa using hl)
      rw [e3, Option.bind_some]
      cases hr : lessA (startL b.Sides) (list.map (·.Sides)) with
      | none => rfl
      | some r =>
        obtain ⟨h4, h5⟩ := h3 r hr
        simp only [cond_true, boxes_is (show r.length ≤ 100000 by omega) (fun p hp => (h4 p hp).1), Option.bind_some]
end Go.PF.F
