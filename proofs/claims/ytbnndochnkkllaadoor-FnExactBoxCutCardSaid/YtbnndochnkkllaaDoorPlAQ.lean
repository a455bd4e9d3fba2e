import Derived.Test.YtbnndochnkkllaaDoorPlY
/- Plain laws: cutting boxes (the program). -/
namespace Go.PF.F
open Go Go.PF

/-- The first number that two sets share. -/
theorem first_common {ta tb : Int} {a b : List Span} (ha : Set0 ta a) (hb : Set0 tb b) : ∃ n f, impl_firstCommon a b = some (n, f) ∧ (f = true → has a n = true ∧ has b n = true) ∧ (f = false → ∀ v, has a v = true → has b v = false) := by
  have hla := ha.len
  have hlb := hb.len
  unfold impl_firstCommon
  obtain ⟨o, ho, hq⟩ := loop_wf (body := impl_firstCommon_L0 a b)
    (fun s => ∃ i j : Nat, s = ((i : Int), (j : Int)) ∧ i ≤ a.length ∧ j ≤ b.length ∧ (∀ v, has (a.take i) v = true → has b v = false) ∧ ∀ v, has (b.take j) v = true → has a v = false)
    (fun s => (a.length - s.1.toNat) + (b.length - s.2.toNat))
    (fun o => (∃ s, o = .brk s ∧ ∀ v, has a v = true → has b v = false) ∨ ∃ n, o = .ret (n, true) ∧ has a n = true ∧ has b n = true)
    (fun s ⟨i, j, hs, hi, hj, h1, h2⟩ => by
      subst hs
      unfold impl_firstCommon_L0
      rcases drop_cases a i hi with ⟨e, rfl⟩ | ⟨x, t, e, hi', hx, et⟩
      · refine .inr (.inl ⟨_, by simp only [lt_false (Int.le_refl _), cond_false]; rfl, .inl ⟨_, rfl, fun v hv => h1 v (by simpa using hv)⟩⟩)
      · rcases drop_cases b j hj with ⟨e', rfl⟩ | ⟨y, u, e', hj', hy, et'⟩
        · refine .inr (.inl ⟨_, by simp only [lt_true (show (i : Int) < (a.length : Int) by omega), lt_false (Int.le_refl _), cond_true, cond_false]; rfl, .inl ⟨_, rfl, fun v hv => ?_⟩⟩)
          rw [Bool.eq_false_iff]
          intro h
          have := h2 v (by simpa using h)
          rw [hv] at this; cases this
        · simp only [lt_true (show (i : Int) < (a.length : Int) by omega), lt_true (show (j : Int) < (b.length : Int) by omega), cond_true, hx, hy, Option.bind_some]
          have ea : a = a.take i ++ x :: t := by rw [← e, List.take_append_drop]
          have eb : b = b.take j ++ y :: u := by rw [← e', List.take_append_drop]
          have ca : Cn 0 (x :: t) := cn_right (by rw [← ea]; exact ha.cn)
          have cb : Cn 0 (y :: u) := cn_right (by rw [← eb]; exact hb.cn)
          have hasA : ∀ v, has a v = (has (a.take i) v || (inS x v || has t v)) := fun v => by rw [← has_cons, ← has_app, ← ea]
          have hasB : ∀ v, has b v = (has (b.take j) v || (inS y v || has u v)) := fun v => by rw [← has_cons, ← has_app, ← eb]
          by_cases hc : imax x.Lo y.Lo ≤ imin x.Hi y.Hi
          · rw [decide_eq_true hc, cond_true]
            refine .inr (.inr ⟨_, rfl, .inr ⟨_, rfl, ?_⟩⟩)
            have h3 := le_imin.1 hc
            have h4 := imax_le.1 (Int.le_refl (imax x.Lo y.Lo))
            rw [hasA, hasB, inS_iff.2 ⟨h4.1, h3.1⟩, inS_iff.2 ⟨h4.2, h3.2⟩]
            simp
          · rw [decide_eq_false hc, cond_false]
            have hdis : ∀ v, inS x v = true → inS y v = false := fun v hv => by
              rw [Bool.eq_false_iff]
              intro hv'
              have p := inS_iff.1 hv
              have q := inS_iff.1 hv'
              exact hc (le_imin.2 ⟨imax_le.2 ⟨by omega, by omega⟩, imax_le.2 ⟨by omega, by omega⟩⟩)
            by_cases hlt : x.Hi < y.Hi
            · rw [decide_eq_true hlt, cond_true]
              refine .inl ⟨_, rfl, ⟨i + 1, j, by rw [W_succ (by omega)], hi', hj, fun v hv => ?_, h2⟩, by simp only [W_succ (show i < 9223372036854775807 by omega), Int.toNat_natCast]; omega⟩
              rw [take_snoc (x := x) (by rw [idx_nat] at hx; exact hx), has_app, Bool.or_eq_true] at hv
              rcases hv with hv | hv
              · exact h1 v hv
              · rw [has_cons, has_nil, Bool.or_false] at hv
                rw [Bool.eq_false_iff]
                intro hb'
                rw [hasB, Bool.or_eq_true, Bool.or_eq_true] at hb'
                rcases hb' with h | h | h
                · have := h2 v h
                  rw [hasA, hv] at this
                  simp at this
                · rw [hdis v hv] at h; cases h
                · have := cn_has cb.2.2 h
                  have := inS_iff.1 hv
                  omega
            · rw [decide_eq_false hlt, cond_false]
              refine .inl ⟨_, rfl, ⟨i, j + 1, by rw [W_succ (by omega)], hi, hj', h1, fun v hv => ?_⟩, by simp only [W_succ (show j < 9223372036854775807 by omega), Int.toNat_natCast]; omega⟩
              rw [take_snoc (x := y) (by rw [idx_nat] at hy; exact hy), has_app, Bool.or_eq_true] at hv
              rcases hv with hv | hv
              · exact h2 v hv
              · rw [has_cons, has_nil, Bool.or_false] at hv
                rw [Bool.eq_false_iff]
                intro ha'
                rw [hasA, Bool.or_eq_true, Bool.or_eq_true] at ha'
                rcases ha' with h | h | h
                · have := h1 v h
                  rw [hasB, hv] at this
                  simp at this
                · rw [hdis v h] at hv; cases hv
                · have := cn_has ca.2.2 h
                  have := inS_iff.1 hv
                  omega)
    ((a.length : Int) + (b.length : Int)).toNat.succ (0, 0) ⟨0, 0, rfl, Nat.zero_le _, Nat.zero_le _, by simp [has], by simp [has]⟩ (by simp; omega)
  rw [ho, Option.bind_some]
  rcases hq with ⟨s, rfl, h⟩ | ⟨n, rfl, h⟩
  · exact ⟨_, _, rfl, fun h => (by cases h), fun _ => h⟩
  · exact ⟨_, _, rfl, fun _ => h, fun h => by cases h⟩
theorem touches_is {a b : List (List Span)} (ha : B4 a) (hb : B4 b) : Dec (impl_sides_touches a b) (¬ emptyS (meetS a b)) := by
  unfold impl_sides_touches impl_sides_firstCommon
  obtain ⟨o, ho, hq⟩ := loop_idx (body := impl_sides_firstCommon_L0 a b) 4 (fun k s => s.1 = (k : Int) ∧ s.2.2.2.2.2.length = 4 ∧ ∀ j, j < k → ¬ sd (meetS a b) j = [])
    (fun o => (∃ s : Int × Int × Int × Int × Int × List Int, o = .brk s ∧ s.2.2.2.2.2.length = 4 ∧ ¬ emptyS (meetS a b)) ∨ ∃ p, o = .ret (p, false) ∧ emptyS (meetS a b)) (s := (0, 0, 0, 0, 0, [0, 0, 0, 0])) ⟨rfl, rfl, fun j hj => by omega⟩
    (fun k s hk ⟨h1, h2, h3⟩ => by
      obtain ⟨k1, k2, k3, k4, k5, y⟩ := s
      simp only at h1 h2
      subst h1
      unfold impl_sides_firstCommon_L0
      obtain ⟨n, f, e, ht, hf⟩ := first_common (ha.2 k hk) (hb.2 k hk)
      simp only [lt_true (show (k : Int) < 4 by omega), cond_true, sd_idx ha.1 hk, sd_idx hb.1 hk, Option.bind_some, e]
      cases f with
      | true =>
        refine .inl ⟨_, by simp only [cond_true, idx_get (show k < y.length by omega), Option.bind_some]; rfl, by rw [W_succ (by omega)], by simpa using h2, fun j hj => ?_⟩
        rcases Nat.lt_or_ge j k with h | h
        · exact h3 j h
        · obtain rfl : j = k := by omega
          intro hm
          have := (meet_nil_iff ha hb hk).1 hm n (ht rfl).1
          rw [(ht rfl).2] at this; cases this
      | false =>
        refine .inr (.inl ⟨_, rfl, .inr ⟨_, rfl, k, hk, (meet_nil_iff ha hb hk).2 (hf rfl)⟩⟩))
    (fun s ⟨h1, h2, h3⟩ => by
      obtain ⟨k1, k2, k3, k4, k5, y⟩ := s
      simp only at h1 h2
      subst h1
      unfold impl_sides_firstCommon_L0
      refine .inl ⟨_, rfl, .inl ⟨_, rfl, h2, fun ⟨k, hk, e⟩ => h3 k hk e⟩⟩)
  have ho' : loopF (impl_sides_firstCommon_L0 a b) (((4) : Int) - 0).toNat.succ (0, 0, 0, 0, 0, [0, 0, 0, 0]) = some o := ho
  rw [ho', Option.bind_some]
  rcases hq with ⟨s, rfl, hl, h⟩ | ⟨p, rfl, h⟩
  · obtain ⟨k1, k2, k3, k4, k5, y⟩ := s
    simp only at hl
    simp only [LR.on]
    match y, hl with
    | [x0, x1, x2, x3], _ => exact Dec.yes h
  · exact Dec.no fun h' => h' h
theorem few_of {s : List (List Span)} {k : Nat} (hk : k < 4) (h : ¬ (sd s k).length ≤ 40) : ¬ Few s := fun hf => h (hf k hk)
/-- What the program cuts off. -/
theorem pieces_is {a b : List (List Span)} (ha : B4 a) (hb : B4 b) (hfa : Few a) : ∃ s xs, impl_sides_pieces_1 a b = some (s, xs) ∧ (s = false → xs = cutL a b ∧ ∀ p ∈ cutL a b, Few p) ∧ (s = true → ∃ p ∈ cutL a b, ¬ Few p) := by
  unfold impl_sides_pieces_1
  obtain ⟨q, e, hq⟩ := impl_emp ha.1
  rw [e, Option.bind_some]
  unfold cutL
  cases q with
  | true =>
    have he := hq.1 rfl
    rw [if_pos (empty_meet ha hb he), if_pos he]
    exact ⟨_, _, rfl, fun _ => ⟨rfl, fun p hp => (by cases hp)⟩, fun h => by cases h⟩
  | false =>
    have he : ¬ emptyS a := fun h => by simpa using hq.2 h
    rw [cond_false]
    obtain ⟨t, e, ht⟩ := touches_is ha hb
    rw [e, Option.bind_some]
    cases t with
    | false =>
      have hm : emptyS (meetS a b) := Classical.byContradiction fun h => by simpa using ht.2 h
      rw [if_pos hm, if_neg he, cond_false, app_nil (by simp), Option.bind_some]
      exact ⟨_, _, rfl, fun _ => ⟨rfl, fun p hp => by rw [List.mem_singleton.1 hp]; exact hfa⟩, fun h => by cases h⟩
    | true =>
      have hm := ht.1 rfl
      rw [if_neg hm, cond_true]
      have hin : ∀ k, k < 4 → lessK a b k ≠ [] → pieceK a b k ∈ cutN a b 4 := fun k hk hn => by
        unfold cutN
        exact List.mem_filterMap.2 ⟨k, List.mem_range.2 hk, by rw [if_neg hn]⟩
      obtain ⟨o, ho, hq⟩ := loop_idx (body := impl_sides_pieces_1_L0 a b) 4
        (fun k s => s.2.1 = (k : Int) ∧ s.2.2.1.length = 4 ∧ s.2.2.2 = cutN a b k ∧ (∀ p ∈ cutN a b k, Few p) ∧ (s.1 = true → s.2.2.1 = leftK a b k ∧ ∀ j, j < k → (meetL (sd a j) (sd b j)).length ≤ 40) ∧ (s.1 = false → ∃ j, j < k ∧ ¬ (meetL (sd a j) (sd b j)).length ≤ 40))
        (fun o => (∃ s : Bool × Int × (List (List Span)) × (List (List (List Span))), o = .brk s ∧ s.2.2.2 = cutN a b 4 ∧ ∀ p ∈ cutN a b 4, Few p) ∨ ∃ xs, o = .ret (true, xs) ∧ ∃ p ∈ cutN a b 4, ¬ Few p)
        (s := (true, 0, a, ([] : List (List (List Span))))) ⟨rfl, ha.1, rfl, fun p hp => (by cases hp), fun _ => ⟨(leftK_0 ha.1).symm, fun j hj => by omega⟩, fun h => by cases h⟩
        (fun k s hk ⟨h1, h2, h3, h4, h5, h6⟩ => by
          obtain ⟨y1, k1, y2, y3⟩ := s
          simp only at h1 h2 h3 h5 h6
          subst h1 h3
          unfold impl_sides_pieces_1_L0
          simp only [lt_true (show (k : Int) < 4 by omega), cond_true, sd_idx ha.1 hk, sd_idx hb.1 hk, impl_top, Option.bind_some, impl_less (ha.2 k hk) (hb.2 k hk), impl_meet (ha.2 k hk) (hb.2 k hk), idx_get (show k < y2.length by omega), Int.toNat_natCast, W_succ (show k < 9223372036854775807 by omega)]
          rw [show lessL (topOf k) (sd a k) (sd b k) = lessK a b k from rfl]
          have hcl := cutN_len a b k
          by_cases hl : (lessK a b k).length ≤ 40
          · rw [if_pos hl]
            simp only [cond_true]
            -- the head after this side
            have next : ∀ (f : Bool) (y2 : List (List Span)), y2.length = 4 → (y1 = true → y2 = leftK a b k) → ∀ z, z = cutN a b (k + 1) → (∀ p ∈ cutN a b (k + 1), Few p) → f = (y1 && decide ((meetL (sd a k) (sd b k)).length ≤ 40)) →
                ((k + 1 : Nat) : Int) = ((k + 1 : Nat) : Int) ∧ (y2.set k (if (meetL (sd a k) (sd b k)).length ≤ 40 then (meetL (sd a k) (sd b k), true) else ([], false)).1).length = 4 ∧ z = cutN a b (k + 1) ∧ (∀ p ∈ cutN a b (k + 1), Few p) ∧ (f = true → y2.set k (if (meetL (sd a k) (sd b k)).length ≤ 40 then (meetL (sd a k) (sd b k), true) else ([], false)).1 = leftK a b (k + 1) ∧ ∀ j, j < k + 1 → (meetL (sd a j) (sd b j)).length ≤ 40) ∧ (f = false → ∃ j, j < k + 1 ∧ ¬ (meetL (sd a j) (sd b j)).length ≤ 40) := by
              intro f y2 hy2 hyl z hz hfew hf
              refine ⟨rfl, by simpa using hy2, hz, hfew, fun h => ?_, fun h => ?_⟩
              · rw [hf, Bool.and_eq_true, decide_eq_true_eq] at h
                rw [if_pos h.2, hyl h.1]
                refine ⟨leftK_set hk, fun j hj => ?_⟩
                rcases Nat.lt_or_ge j k with hlt | hge
                · exact (h5 h.1).2 j hlt
                · obtain rfl : j = k := by omega
                  exact h.2
              · rw [hf, Bool.and_eq_false_iff] at h
                rcases h with h | h
                · obtain ⟨j, hj, hn⟩ := h6 h
                  exact ⟨j, by omega, hn⟩
                · exact ⟨k, by omega, by simpa using h⟩
            by_cases hz : lessK a b k = []
            · have hc1 : cutN a b (k + 1) = cutN a b k := by rw [cutN_succ, if_pos hz, List.append_nil]
              simp only [hz, List.length_nil, show decide ((0 : Int) < ((0 : Nat) : Int)) = false from rfl, cond_false]
              cases y1 with
              | true => exact .inl ⟨_, rfl, next _ y2 h2 (fun _ => (h5 rfl).1) _ hc1.symm (by rw [hc1]; exact h4) (by split <;> simp_all)⟩
              | false => exact .inl ⟨_, rfl, next _ y2 h2 (fun h => by cases h) _ hc1.symm (by rw [hc1]; exact h4) rfl⟩
            · rw [lt_true (by have := List.length_pos_iff.2 hz; omega), cond_true]
              have hcs : cutN a b (k + 1) = cutN a b k ++ [pieceK a b k] := by rw [cutN_succ, if_neg hz]
              cases y1 with
              | true =>
                obtain ⟨e2, h7⟩ := h5 rfl
                subst e2
                rw [cond_true, app_ok (by simp; omega), Option.bind_some]
                refine .inl ⟨_, rfl, next _ _ h2 (fun _ => rfl) _ ?_ ?_ (by split <;> simp_all)⟩
                · rw [hcs, leftK_piece hk]
                · rw [hcs]
                  intro p hp
                  rcases List.mem_append.1 hp with hp | hp
                  · exact h4 p hp
                  · rw [List.mem_singleton.1 hp]
                    intro j hj
                    rw [show sd (pieceK a b k) j = _ from sd_mk4 _ hj]
                    split
                    · rename_i h; exact h7 j h
                    · split
                      · exact hl
                      · exact hfa j hj
              | false =>
                obtain ⟨j, hj, hn⟩ := h6 rfl
                refine .inr (.inl ⟨_, rfl, .inr ⟨_, rfl, pieceK a b k, hin k hk hz, few_of (show j < 4 by omega) ?_⟩⟩)
                rw [show sd (pieceK a b k) j = _ from sd_mk4 _ (by omega), if_pos hj]; exact hn
          · rw [if_neg hl]
            have hz : lessK a b k ≠ [] := fun h => hl (by rw [h]; simp)
            refine .inr (.inl ⟨_, rfl, .inr ⟨_, rfl, pieceK a b k, hin k hk hz, few_of hk ?_⟩⟩)
            rw [show sd (pieceK a b k) k = _ from sd_mk4 _ hk, if_neg (by omega), if_pos rfl]; exact hl)
        (fun s ⟨h1, h2, h3, h4, h5, h6⟩ => by
          obtain ⟨y1, k1, y2, y3⟩ := s
          simp only at h1 h3
          subst h1 h3
          unfold impl_sides_pieces_1_L0
          exact .inl ⟨_, rfl, .inl ⟨_, rfl, rfl, h4⟩⟩)
      have ho' : loopF (impl_sides_pieces_1_L0 a b) (((4) : Int) - 0).toNat.succ (true, 0, a, ([] : List (List (List Span)))) = some o := ho
      rw [ho', Option.bind_some]
      rcases hq with ⟨s, rfl, h3, h4⟩ | ⟨xs, rfl, h⟩
      · obtain ⟨y1, k1, y2, y3⟩ := s
        simp only at h3
        subst h3
        exact ⟨_, _, rfl, fun _ => ⟨rfl, h4⟩, fun h => by cases h⟩
      · exact ⟨_, _, rfl, fun h => by (cases h), fun _ => h⟩
theorem cutL_B4 {a b : List (List Span)} (ha : B4 a) (hb : B4 b) : ∀ p ∈ cutL a b, B4 p := by
  intro p hp
  unfold cutL at hp
  split at hp
  · split at hp
    · cases hp
    · rw [List.mem_singleton.1 hp]; exact ha
  · unfold cutN at hp
    obtain ⟨k, hk, e⟩ := List.mem_filterMap.1 hp
    split at e
    · cases e
    · cases e; exact pieceK_B4 ha hb (List.mem_range.1 hk)
open Classical in
theorem impl_cut {a b : List (List Span)} (ha : B4 a) (hb : B4 b) (hfa : Few a) : impl_sides_cut a b = some (if ∀ p ∈ cutL a b, Few p then (cutL a b, true) else ([], false)) := by
  unfold impl_sides_cut
  obtain ⟨s, xs, e, h1, h2⟩ := pieces_is ha hb hfa
  have e0 : impl_sides_pieces a b = some (a, b) := rfl
  rw [e0, Option.bind_some, e, Option.bind_some]
  cases s with
  | false =>
    obtain ⟨rfl, hf⟩ := h1 rfl
    rw [if_pos hf]; rfl
  | true =>
    obtain ⟨p, hp, hn⟩ := h2 rfl
    rw [if_neg fun h => hn (h p hp)]; rfl
theorem boxes_is {ps : List (List (List Span))} (hn : ps.length ≤ 100000) (h : ∀ p ∈ ps, B4 p) : impl_boxesOf ps = some (ps.map Box.mk) := by
  unfold impl_boxesOf
  rw [show capF (ps.length : Int) = some () from if_pos ⟨by omega, by omega⟩, Option.bind_some]
  have := loop_brk0 (body := impl_boxesOf_L0 ps) ps.length (fun k : Nat => ((ps.take k).map Box.mk, (k : Int))) (s0 := (([] : List Box), 0)) (s := (ps.map Box.mk, (ps.length : Int))) rfl (fun k hk => by
      have hb := h _ (List.getElem_mem hk)
      unfold impl_boxesOf_L0
      simp only [lt_true (show (k : Int) < (ps.length : Int) by omega), cond_true, idx_get hk, Option.bind_some, impl_box4 hb.1 hb.okm, app_ok (show ((ps.take k).map Box.mk).length + [(⟨ps[k]⟩ : Box)].length ≤ 4294967296 by simp; omega), W_succ (show k < 9223372036854775807 by omega)]
      rw [take_snoc (List.getElem?_eq_getElem hk), List.map_append]; rfl)
    (by
      unfold impl_boxesOf_L0
      simp only [lt_false (Int.le_refl _), cond_false, List.take_length]) (fuel := ((((ps.length : Int)) : Int) - 0).toNat.succ) (by omega)
  rw [this]; rfl
open Classical in
theorem boxcut_is {a b : Box} (ha : OkBox a) (hb : OkBox b) : impl_BoxCut a b = some (if BV a ∧ BV b ∧ ∀ p ∈ cutL a.Sides b.Sides, Few p then (cutL a.Sides b.Sides).map Box.mk else []) := by
  unfold impl_BoxCut
  obtain ⟨v, e1, hv⟩ := impl_box ha
  obtain ⟨w, e2, hw⟩ := impl_box hb
  rw [e1, Option.bind_some]
  cases v with
  | false => rw [if_neg fun h => by simpa using hv.2 h.1]; rfl
  | true =>
    rw [cond_true, e2, Option.bind_some]
    cases w with
    | false => rw [if_neg fun h => by simpa using hw.2 h.2.1]; rfl
    | true =>
      have hva := hv.1 rfl
      have hvb := hw.1 rfl
      obtain ⟨ha4, haf⟩ := BV_iff.1 hva
      obtain ⟨hb4, _⟩ := BV_iff.1 hvb
      rw [cond_true, impl_sides hva.1, impl_sides hvb.1, Option.bind_some, Option.bind_some, impl_cut ha4 hb4 haf, Option.bind_some]
      by_cases hf : ∀ p ∈ cutL a.Sides b.Sides, Few p
      · rw [if_pos hf, if_pos ⟨hva, hvb, hf⟩]
        have := cutL_len a.Sides b.Sides
        simp only [cond_true, boxes_is (show (cutL a.Sides b.Sides).length ≤ 100000 by omega) (cutL_B4 ha4 hb4), Option.bind_some]
      · rw [if_neg hf, if_neg fun h => hf h.2.2]; rfl
end Go.PF.F

/- Plain laws: boxes within boxes. -/
namespace Go.PF.F
open Go Go.PF

/-- A box with at most m spans on a side. -/
def OkN (m : Nat) (b : Box) : Prop := b.Sides.length ≤ 5 ∧ ∀ x ∈ b.Sides, x.length ≤ m
def FewN (m : Nat) (s : List (List Span)) : Prop := ∀ k, k < 4 → (sd s k).length ≤ m
theorem OkN.mono {m k : Nat} {b : Box} (h : OkN m b) (hm : m ≤ k) : OkN k b := ⟨h.1, fun x hx => Nat.le_trans (h.2 x hx) hm⟩
theorem OkN.sd {m : Nat} {b : Box} (h : OkN m b) (k : Nat) : (F.sd b.Sides k).length ≤ m := by
  unfold F.sd
  rw [List.getD_eq_getElem?_getD]
  cases hx : b.Sides[k]? with
  | none => simp
  | some x => exact h.2 x (List.mem_of_getElem? hx)
theorem OkN.of {m : Nat} {s : List (List Span)} (h : B4 s) (hf : FewN m s) : OkN m ⟨s⟩ := ⟨by show s.length ≤ 5; rw [h.1]; decide, fun x hx => by
  obtain ⟨i, hi, rfl⟩ := List.getElem_of_mem hx
  have h4 : i < 4 := by have := h.1; simp only at hi; omega
  have := sd_get h.1 h4
  rw [List.getElem?_eq_getElem hi] at this
  rw [Option.some.inj this]
  exact hf i h4⟩
theorem OkN.set {m : Nat} {s : List (List Span)} (h : OkN m ⟨s⟩) (k : Nat) {x : List Span} (hx : x.length ≤ m) : OkN m ⟨s.set k x⟩ := ⟨by have := h.1; simp at this ⊢; omega, fun y hy => by
  rcases List.mem_or_eq_of_mem_set hy with hm | hm
  · exact h.2 y hm
  · rw [hm]; exact hx⟩
theorem FewN.set {m : Nat} {s : List (List Span)} (hl : s.length = 4) (h : FewN m s) {k : Nat} (hk : k < 4) {x : List Span} (hx : x.length ≤ m) : FewN m (s.set k x) := fun j hj => by
  rw [sd_set hl hk]
  split
  · exact hx
  · exact h j hj
end Go.PF.F

/- Plain laws: what a region leaves of a box (the program). -/
namespace Go.PF.F
open Go Go.PF

end Go.PF.F

/- Plain laws: what cutting means for points. -/
namespace Go.PF.F
open Go Go.PF

/-- The point f lies in s. -/
def hasB (s : List (List Span)) (f : Nat → Int) : Prop := ∀ k, k < 4 → has (sd s k) (f k) = true
def Dj (p q : List (List Span)) : Prop := ∀ f, hasB p f → ¬ hasB q f
theorem Dj.symm {p q : List (List Span)} (h : Dj p q) : Dj q p := fun f hq hp => h f hp hq
end Go.PF.F

/- Plain laws: cutting boxes, what the laws ask. -/
namespace Go.PF.F
open Go Go.PF

open Classical in
theorem spec_boxcut {a b : Box} (ha : OkB a) (hb : OkB b) : spec_BoxCut a b = some (if BV a ∧ BV b ∧ ∀ p ∈ cutL a.Sides b.Sides, Few p then (cutL a.Sides b.Sides).map Box.mk else []) := by
  obtain ⟨v, e1, hv⟩ := spec_box ha.ok
  obtain ⟨w, e2, hw⟩ := spec_box hb.ok
  unfold spec_BoxCut
  have o1 : spec_l1OwnBox ({ Sides := a.Sides } : Box) = some a := own_box ha
  have o2 : spec_l1OwnBox ({ Sides := b.Sides } : Box) = some b := own_box hb
  have e1' : spec_BoxValid ({ Sides := a.Sides } : Box) = some v := e1
  have e2' : spec_BoxValid ({ Sides := b.Sides } : Box) = some w := e2
  rw [o1, Option.bind_some, o2, Option.bind_some, e1', Option.bind_some]
  cases v with
  | false => rw [if_neg fun h => by simpa using hv.2 h.1]; rfl
  | true =>
    rw [cond_true, e2', Option.bind_some]
    cases w with
    | false => rw [if_neg fun h => by simpa using hw.2 h.2.1]; rfl
    | true =>
      have hva := hv.1 rfl
      have hvb := hw.1 rfl
      obtain ⟨ha4, haf⟩ := BV_iff.1 hva
      obtain ⟨hb4, _⟩ := BV_iff.1 hvb
      have ec : spec_l11Cut ({ Sides := a.Sides } : Box) ({ Sides := b.Sides } : Box) = some ((cutL a.Sides b.Sides).map Box.mk) := spec_cut ha4 hb4
      rw [cond_true, ec, Option.bind_some]
      have hB := cutL_B4 ha4 hb4
      have hcl := cutL_len a.Sides b.Sides
      obtain ⟨o, ho, hq⟩ := loop_idx (body := spec_BoxCut_L0 ((cutL a.Sides b.Sides).map Box.mk)) ((cutL a.Sides b.Sides).map Box.mk).length (fun k s => s = (k : Int) ∧ ∀ j, ∀ (h : j < k) p, (cutL a.Sides b.Sides)[j]? = some p → Few p)
        (fun o => (∃ s : Int, o = .brk s ∧ ∀ p ∈ cutL a.Sides b.Sides, Few p) ∨ (o = .ret ([] : List Box) ∧ ¬ ∀ p ∈ cutL a.Sides b.Sides, Few p)) (s := 0) ⟨rfl, fun j h => by omega⟩
        (fun k s hk ⟨h1, h2⟩ => by
          subst h1
          have hk' : k < (cutL a.Sides b.Sides).length := by simpa using hk
          have hm := List.getElem_mem hk'
          obtain ⟨u, e3, hu⟩ := spec_box (b := ⟨(cutL a.Sides b.Sides)[k]⟩) (B4.ok (b := ⟨(cutL a.Sides b.Sides)[k]⟩) (hB _ hm))
          unfold spec_BoxCut_L0
          simp only [lt_true (show (k : Int) < (((cutL a.Sides b.Sides).map Box.mk).length : Int) by omega), cond_true, idx_get hk, List.getElem_map, Option.bind_some, e3]
          cases u with
          | true =>
            refine .inl ⟨_, rfl, by rw [W_succ (by omega)], fun j hj p hp => ?_⟩
            rcases Nat.lt_or_ge j k with h | h
            · exact h2 j h p hp
            · obtain rfl : j = k := by omega
              rw [List.getElem?_eq_getElem hk'] at hp
              rw [← Option.some.inj hp]
              exact (BV_iff.1 (hu.1 rfl)).2
          | false =>
            refine .inr (.inl ⟨_, rfl, .inr ⟨rfl, fun h => ?_⟩⟩)
            have := hu.2 (BV_iff.2 ⟨hB _ hm, h _ hm⟩)
            cases this)
        (fun s ⟨h1, h2⟩ => by
          subst h1
          unfold spec_BoxCut_L0
          simp only [lt_false (Int.le_refl _), cond_false]
          refine .inl ⟨_, rfl, .inl ⟨_, rfl, fun p hp => ?_⟩⟩
          obtain ⟨j, hj⟩ := List.mem_iff_getElem?.1 hp
          have := (List.getElem?_eq_some_iff.1 hj).1
          exact h2 j (by simpa using this) p hj)
      rw [ho, Option.bind_some]
      rcases hq with ⟨s, rfl, h⟩ | ⟨rfl, h⟩
      · rw [if_pos ⟨hva, hvb, h⟩]; rfl
      · rw [if_neg fun h' => h h'.2.2]; rfl
end Go.PF.F

/- Plain laws: what a region leaves of a box (the reference), draws. -/
namespace Go.PF.F
open Go Go.PF

end Go.PF.F

/- Plain laws: RegionLess, RegionMore, RegionOrder. -/
namespace Go.PF.F
open Go Go.PF

theorem maps_ok {r : List (List (List Span))} (hr : ∀ p ∈ r, B4 p ∧ Few p) : ∀ x ∈ r.map Box.mk, OkBox x := fun x hx => by
  obtain ⟨p, hp, rfl⟩ := List.mem_map.1 hx
  exact B4.ok (b := ⟨p⟩) (hr p hp).1
end Go.PF.F

/- Plain laws: BoxCut. -/
namespace Go.PF.F
open Go Go.PF

end Go.PF.F
