import Derived.Test.YtieijbplcmpnaaaDoorPlY
/- Plain laws: cutting boxes (the program). -/
namespace Go.PF.F
open Go Go.PF

/-- The first number that two sets share. -/
theorem first_common {ta tb : Int} {a b : List Span} (ha : Set0 ta a) (hb : Set0 tb b) : ∃ n f, impl_firstCommon a b = some (n, f) ∧ (f = true → has a n = true ∧ has b n = true) ∧ (f = false → ∀ v, has a v = true → has b v = false) := by
  have hla := ha.len
  have hlb := hb.len
  unfold impl_firstCommon
  obtain ⟨o, ho, hq⟩ := loop_wf (body := impl_firstCommon_L0 a b)
    (fun s => ∃ i j : Nat, s = ((i : Int), (j : Int)) ∧ i ≤ a.length ∧ j ≤ b.length ∧ (∀ v, has (a.take i) v = true → has b v = false) ∧ ∀ v, has (b.take j) v = true → has a v = false)
    (fun s => (a.length - s.1.toNat) + (b.length - s.2.toNat))
    (fun o => (∃ s, o = .brk s ∧ ∀ v, has a v = true → has b v = false) ∨ ∃ n, o = .ret (n, true) ∧ has a n = true ∧ has b n = true)
    (fun s ⟨i, j, hs, hi, hj, h1, h2⟩ => by
      subst hs
      unfold impl_firstCommon_L0
      rcases drop_cases a i hi with ⟨e, rfl⟩ | ⟨x, t, e, hi', hx, et⟩
      · refine .inr (.inl ⟨_, by simp only [lt_false (Int.le_refl _), cond_false]; rfl, .inl ⟨_, rfl, fun v hv => h1 v (by simpa using hv)⟩⟩)
      · rcases drop_cases b j hj with ⟨e', rfl⟩ | ⟨y, u, e', hj', hy, et'⟩
        · refine .inr (.inl ⟨_, by simp only [lt_true (show (i : Int) < (a.length : Int) by omega), lt_false (Int.le_refl _), cond_true, cond_false]; rfl, .inl ⟨_, rfl, fun v hv => ?_⟩⟩)
          rw [Bool.eq_false_iff]
          intro h
          have := h2 v (by simpa using h)
          rw [hv] at this; cases this
        · simp only [lt_true (show (i : Int) < (a.length : Int) by omega), lt_true (show (j : Int) < (b.length : Int) by omega), cond_true, hx, hy, Option.bind_some]
          have ea : a = a.take i ++ x :: t := by rw [← e, List.take_append_drop]
          have eb : b = b.take j ++ y :: u := by rw [← e', List.take_append_drop]
          have ca : Cn 0 (x :: t) := cn_right (by rw [← ea]; exact ha.cn)
          have cb : Cn 0 (y :: u) := cn_right (by rw [← eb]; exact hb.cn)
          have hasA : ∀ v, has a v = (has (a.take i) v || (inS x v || has t v)) := fun v => by rw [← has_cons, ← has_app, ← ea]
          have hasB : ∀ v, has b v = (has (b.take j) v || (inS y v || has u v)) := fun v => by rw [← has_cons, ← has_app, ← eb]
          by_cases hc : imax x.Lo y.Lo ≤ imin x.Hi y.Hi
          · rw [decide_eq_true hc, cond_true]
            refine .inr (.inr ⟨_, rfl, .inr ⟨_, rfl, ?_⟩⟩)
            have h3 := le_imin.1 hc
            have h4 := imax_le.1 (Int.le_refl (imax x.Lo y.Lo))
            rw [hasA, hasB, inS_iff.2 ⟨h4.1, h3.1⟩, inS_iff.2 ⟨h4.2, h3.2⟩]
            simp
          · rw [decide_eq_false hc, cond_false]
            have hdis : ∀ v, inS x v = true → inS y v = false := fun v hv => by
              rw [Bool.eq_false_iff]
              intro hv'
              have p := inS_iff.1 hv
              have q := inS_iff.1 hv'
              exact hc (le_imin.2 ⟨imax_le.2 ⟨by omega, by omega⟩, imax_le.2 ⟨by omega, by omega⟩⟩)
            by_cases hlt : x.Hi < y.Hi
            · rw [decide_eq_true hlt, cond_true]
              refine .inl ⟨_, rfl, ⟨i + 1, j, by rw [W_succ (by omega)], hi', hj, fun v hv => ?_, h2⟩, by simp only [W_succ (show i < 9223372036854775807 by omega), Int.toNat_natCast]; omega⟩
              rw [take_snoc (x := x) (by rw [idx_nat] at hx; exact hx), has_app, Bool.or_eq_true] at hv
              rcases hv with hv | hv
              · exact h1 v hv
              · rw [has_cons, has_nil, Bool.or_false] at hv
                rw [Bool.eq_false_iff]
                intro hb'
                rw [hasB, Bool.or_eq_true, Bool.or_eq_true] at hb'
                rcases hb' with h | h | h
                · have := h2 v h
                  rw [hasA, hv] at this
                  simp at this
                · rw [hdis v hv] at h; cases h
                · have := cn_has cb.2.2 h
                  have := inS_iff.1 hv
                  omega
            · rw [decide_eq_false hlt, cond_false]
              refine .inl ⟨_, rfl, ⟨i, j + 1, by rw [W_succ (by omega)], hi, hj', h1, fun v hv => ?_⟩, by simp only [W_succ (show j < 9223372036854775807 by omega), Int.toNat_natCast]; omega⟩
              rw [take_snoc (x := y) (by rw [idx_nat] at hy; exact hy), has_app, Bool.or_eq_true] at hv
              rcases hv with hv | hv
              · exact h2 v hv
              · rw [has_cons, has_nil, Bool.or_false] at hv
                rw [Bool.eq_false_iff]
                intro ha'
                rw [hasA, Bool.or_eq_true, Bool.or_eq_true] at ha'
                rcases ha' with h | h | h
                · have := h1 v h
                  rw [hasB, hv] at this
                  simp at this
                · rw [hdis v h] at hv; cases hv
                · have := cn_has ca.2.2 h
                  have := inS_iff.1 hv
                  omega)
    ((a.length : Int) + (b.length : Int)).toNat.succ (0, 0) ⟨0, 0, rfl, Nat.zero_le _, Nat.zero_le _, by simp [has], by simp [has]⟩ (by simp; omega)
  rw [ho, Option.bind_some]
  rcases hq with ⟨s, rfl, h⟩ | ⟨n, rfl, h⟩
  · exact ⟨_, _, rfl, fun h => (by cases h), fun _ => h⟩
  · exact ⟨_, _, rfl, fun _ => h, fun h => by cases h⟩
theorem touches_is {a b : List (List Span)} (ha : B4 a) (hb : B4 b) : Dec (impl_sides_touches a b) (¬ emptyS (meetS a b)) := by
  unfold impl_sides_touches impl_sides_firstCommon
  obtain ⟨o, ho, hq⟩ := loop_idx (body := impl_sides_firstCommon_L0 a b) 4 (fun k s => s.1 = (k : Int) ∧ s.2.2.2.2.2.length = 4 ∧ ∀ j, j < k → ¬ sd (meetS a b) j = [])
    (fun o => (∃ s : Int × Int × Int × Int × Int × List Int, o = .brk s ∧ s.2.2.2.2.2.length = 4 ∧ ¬ emptyS (meetS a b)) ∨ ∃ p, o = .ret (p, false) ∧ emptyS (meetS a b)) (s := (0, 0, 0, 0, 0, [0, 0, 0, 0])) ⟨rfl, rfl, fun j hj => by omega⟩
    (fun k s hk ⟨h1, h2, h3⟩ => by
      obtain ⟨k1, k2, k3, k4, k5, y⟩ := s
      simp only at h1 h2
      subst h1
      unfold impl_sides_firstCommon_L0
      obtain ⟨n, f, e, ht, hf⟩ := first_common (ha.2 k hk) (hb.2 k hk)
      simp only [lt_true (show (k : Int) < 4 by omega), cond_true, sd_idx ha.1 hk, sd_idx hb.1 hk, Option.bind_some, e]
      cases f with
      | true =>
        refine .inl ⟨_, by simp only [cond_true, idx_get (show k < y.length by omega), Option.bind_some]; rfl, by rw [W_succ (by omega)], by simpa using h2, fun j hj => ?_⟩
        rcases Nat.lt_or_ge j k with h | h
        · exact h3 j h
        · obtain rfl : j = k := by omega
          intro hm
          have := (meet_nil_iff ha hb hk).1 hm n (ht rfl).1
          rw [(ht rfl).2] at this; cases this
      | false =>
        refine .inr (.inl ⟨_, rfl, .inr ⟨_, rfl, k, hk, (meet_nil_iff ha hb hk).2 (hf rfl)⟩⟩))
    (fun s ⟨h1, h2, h3⟩ => by
      obtain ⟨k1, k2, k3, k4, k5, y⟩ := s
      simp only at h1 h2
      subst h1
      unfold impl_sides_firstCommon_L0
      refine .inl ⟨_, rfl, .inl ⟨_, rfl, h2, fun ⟨k, hk, e⟩ => h3 k hk e⟩⟩)
  have ho' : loopF (impl_sides_firstCommon_L0 a b) (((4) : Int) - 0).toNat.succ (0, 0, 0, 0, 0, [0, 0, 0, 0]) = some o := ho
  rw [ho', Option.bind_some]
  rcases hq with ⟨s, rfl, hl, h⟩ | ⟨p, rfl, h⟩
  · obtain ⟨k1, k2, k3, k4, k5, y⟩ := s
    simp only at hl
    simp only [LR.on]
    match y, hl with
    | [x0, x1, x2, x3], _ => exact Dec.yes h
  · exact Dec.no fun h' => h' h
theorem few_of {s : List (List Span)} {k : Nat} (hk : k < 4) (h : ¬ (sd s k).length ≤ 40) : ¬ Few s := fun hf => h (hf k hk)
/-- What the program cuts off. -/
theorem pieces_is {a b : List (List Span)} (ha : B4 a) (hb : B4 b) (hfa : Few a) : ∃ s xs, impl_sides_pieces_1 a b = some (s, xs) ∧ (s = false → xs = cutL a b ∧ ∀ p ∈ cutL a b, Few p) ∧ (s = true → ∃ p ∈ cutL a b, ¬ Few p) := by
  unfold impl_sides_pieces_1
  obtain ⟨q, e, hq⟩ := impl_emp ha.1
  rw [e, Option.bind_some]
  unfold cutL
  cases q with
  | true =>
    have he := hq.1 rfl
    rw [if_pos (empty_meet ha hb he), if_pos he]
    exact ⟨_, _, rfl, fun _ => ⟨rfl, fun p hp => (by cases hp)⟩, fun h => by cases h⟩
  | false =>
    have he : ¬ emptyS a := fun h => by simpa using hq.2 h
    rw [cond_false]
    obtain ⟨t, e, ht⟩ := touches_is ha hb
    rw [e, Option.bind_some]
    cases t with
    | false =>
      have hm : emptyS (meetS a b) := Classical.byContradiction fun h => by simpa using ht.2 h
      rw [if_pos hm, if_neg he, cond_false, app_nil (by simp), Option.bind_some]
      exact ⟨_, _, rfl, fun _ => ⟨rfl, fun p hp => by rw [List.mem_singleton.1 hp]; exact hfa⟩, fun h => by cases h⟩
    | true =>
      have hm := ht.1 rfl
      rw [if_neg hm, cond_true]
      have hin : ∀ k, k < 4 → lessK a b k ≠ [] → pieceK a b k ∈ cutN a b 4 := fun k hk hn => by
        unfold cutN
        exact List.mem_filterMap.2 ⟨k, List.mem_range.2 hk, by rw [if_neg hn]⟩
      obtain ⟨o, ho, hq⟩ := loop_idx (body := impl_sides_pieces_1_L0 a b) 4
        (fun k s => s.2.1 = (k : Int) ∧ s.2.2.1.length = 4 ∧ s.2.2.2 = cutN a b k ∧ (∀ p ∈ cutN a b k, Few p) ∧ (s.1 = true → s.2.2.1 = leftK a b k ∧ ∀ j, j < k → (meetL (sd a j) (sd b j)).length ≤ 40) ∧ (s.1 = false → ∃ j, j < k ∧ ¬ (meetL (sd a j) (sd b j)).length ≤ 40))
        (fun o => (∃ s : Bool × Int × (List (List Span)) × (List (List (List Span))), o = .brk s ∧ s.2.2.2 = cutN a b 4 ∧ ∀ p ∈ cutN a b 4, Few p) ∨ ∃ xs, o = .ret (true, xs) ∧ ∃ p ∈ cutN a b 4, ¬ Few p)
        (s := (true, 0, a, ([] : List (List (List Span))))) ⟨rfl, ha.1, rfl, fun p hp => (by cases hp), fun _ => ⟨(leftK_0 ha.1).symm, fun j hj => by omega⟩, fun h => by cases h⟩
        (fun k s hk ⟨h1, h2, h3, h4, h5, h6⟩ => by
          obtain ⟨y1, k1, y2, y3⟩ := s
          simp only at h1 h2 h3 h5 h6
          subst h1 h3
          unfold impl_sides_pieces_1_L0
          simp only [lt_true (show (k : Int) < 4 by omega), cond_true, sd_idx ha.1 hk, sd_idx hb.1 hk, impl_top, Option.bind_some, impl_less (ha.2 k hk) (hb.2 k hk), impl_meet (ha.2 k hk) (hb.2 k hk), idx_get (show k < y2.length by omega), Int.toNat_natCast, W_succ (show k < 9223372036854775807 by omega)]
          rw [show lessL (topOf k) (sd a k) (sd b k) = lessK a b k from rfl]
          have hcl := cutN_len a b k
          by_cases hl : (lessK a b k).length ≤ 40
          · rw [if_pos hl]
            simp only [cond_true]
            -- the head after this side
            have next : ∀ (f : Bool) (y2 : List (List Span)), y2.length = 4 → (y1 = true → y2 = leftK a b k) → ∀ z, z = cutN a b (k + 1) → (∀ p ∈ cutN a b (k + 1), Few p) → f = (y1 && decide ((meetL (sd a k) (sd b k)).length ≤ 40)) →
                ((k + 1 : Nat) : Int) = ((k + 1 : Nat) : Int) ∧ (y2.set k (if (meetL (sd a k) (sd b k)).length ≤ 40 then (meetL (sd a k) (sd b k), true) else ([], false)).1).length = 4 ∧ z = cutN a b (k + 1) ∧ (∀ p ∈ cutN a b (k + 1), Few p) ∧ (f = true → y2.set k (if (meetL (sd a k) (sd b k)).length ≤ 40 then (meetL (sd a k) (sd b k), true) else ([], false)).1 = leftK a b (k + 1) ∧ ∀ j, j < k + 1 → (meetL (sd a j) (sd b j)).length ≤ 40) ∧ (f = false → ∃ j, j < k + 1 ∧ ¬ (meetL (sd a j) (sd b j)).length ≤ 40) := by
              intro f y2 hy2 hyl z hz hfew hf
              refine ⟨rfl, by simpa using hy2, hz, hfew, fun h => ?_, fun h => ?_⟩
              · rw [hf, Bool.and_eq_true, decide_eq_true_eq] at h
                rw [if_pos h.2, hyl h.1]
                refine ⟨leftK_set hk, fun j hj => ?_⟩
                rcases Nat.lt_or_ge j k with hlt | hge
                · exact (h5 h.1).2 j hlt
                · obtain rfl : j = k := by omega
                  exact h.2
              · rw [hf, Bool.and_eq_false_iff] at h
                rcases h with h | h
                · obtain ⟨j, hj, hn⟩ := h6 h
                  exact ⟨j, by omega, hn⟩
                · exact ⟨k, by omega, by simpa using h⟩
            by_cases hz : lessK a b k = []
            · have hc1 : cutN a b (k + 1) = cutN a b k := by rw [cutN_succ, if_pos hz, List.append_nil]
              simp only [hz, List.length_nil, show decide ((0 : Int) < ((0 : Nat) : Int)) = false from rfl, cond_false]
              cases y1 with
              | true => exact .inl ⟨_, rfl, next _ y2 h2 (fun _ => (h5 rfl).1) _ hc1.symm (by rw [hc1]; exact h4) (by split <;> simp_all)⟩
              | false => exact .inl ⟨_, rfl, next _ y2 h2 (fun h => by cases h) _ hc1.symm (by rw [hc1]; exact h4) rfl⟩
            · rw [lt_true (by have := List.length_pos_iff.2 hz; omega), cond_true]
              have hcs : cutN a b (k + 1) = cutN a b k ++ [pieceK a b k] := by rw [cutN_succ, if_neg hz]
              cases y1 with
              | true =>
                obtain ⟨e2, h7⟩ := h5 rfl
                subst e2
                rw [cond_true, app_ok (by simp; omega), Option.bind_some]
                refine .inl ⟨_, rfl, next _ _ h2 (fun _ => rfl) _ ?_ ?_ (by split <;> simp_all)⟩
                · rw [hcs, leftK_piece hk]
                · rw [hcs]
                  intro p hp
                  rcases List.mem_append.1 hp with hp | hp
                  · exact h4 p hp
                  · rw [List.mem_singleton.1 hp]
                    intro j hj
                    rw [show sd (pieceK a b k) j = _ from sd_mk4 _ hj]
                    split
                    · rename_i h; exact h7 j h
                    · split
                      · exact hl
                      · exact hfa j hj
              | false =>
                obtain ⟨j, hj, hn⟩ := h6 rfl
                refine .inr (.inl ⟨_, rfl, .inr ⟨_, rfl, pieceK a b k, hin k hk hz, few_of (show j < 4 by omega) ?_⟩⟩)
                rw [show sd (pieceK a b k) j = _ from sd_mk4 _ (by omega), if_pos hj]; exact hn
          · rw [if_neg hl]
            have hz : lessK a b k ≠ [] := fun h => hl (by rw [h]; simp)
            refine .inr (.inl ⟨_, rfl, .inr ⟨_, rfl, pieceK a b k, hin k hk hz, few_of hk ?_⟩⟩)
            rw [show sd (pieceK a b k) k = _ from sd_mk4 _ hk, if_neg (by omega), if_pos rfl]; exact hl)
        (fun s ⟨h1, h2, h3, h4, h5, h6⟩ => by
          obtain ⟨y1, k1, y2, y3⟩ := s
          simp only at h1 h3
          subst h1 h3
          unfold impl_sides_pieces_1_L0
          exact .inl ⟨_, rfl, .inl ⟨_, rfl, rfl, h4⟩⟩)
      have ho' : loopF (impl_sides_pieces_1_L0 a b) (((4) : Int) - 0).toNat.succ (true, 0, a, ([] : List (List (List Span)))) = some o := ho
      rw [ho', Option.bind_some]
      rcases hq with ⟨s, rfl, h3, h4⟩ | ⟨xs, rfl, h⟩
      · obtain ⟨y1, k1, y2, y3⟩ := s
        simp only at h3
        subst h3
        exact ⟨_, _, rfl, fun _ => ⟨rfl, h4⟩, fun h => by cases h⟩
      · exact ⟨_, _, rfl, fun h => by (cases h), fun _ => h⟩
theorem cutL_B4 {a b : List (List Span)} (ha : B4 a) (hb : B4 b) : ∀ p ∈ cutL a b, B4 p := by
  intro p hp
  unfold cutL at hp
  split at hp
  · split at hp
    · cases hp
    · rw [List.mem_singleton.1 hp]; exact ha
  · unfold cutN at hp
    obtain ⟨k, hk, e⟩ := List.mem_filterMap.1 hp
    split at e
    · cases e
    · cases e; exact pieceK_B4 ha hb (List.mem_range.1 hk)
open Classical in
theorem impl_cut {a b : List (List Span)} (ha : B4 a) (hb : B4 b) (hfa : Few a) : impl_sides_cut a b = some (if ∀ p ∈ cutL a b, Few p then (cutL a b, true) else ([], false)) := by
  unfold impl_sides_cut
  obtain ⟨s, xs, e, h1, h2⟩ := pieces_is ha hb hfa
  have e0 : impl_sides_pieces a b = some (a, b) := rfl
  rw [e0, Option.bind_some, e, Option.bind_some]
  cases s with
  | false =>
    obtain ⟨rfl, hf⟩ := h1 rfl
    rw [if_pos hf]; rfl
  | true =>
    obtain ⟨p, hp, hn⟩ := h2 rfl
    rw [if_neg fun h => hn (h p hp)]; rfl
theorem boxes_is {ps : List (List (List Span))} (hn : ps.length ≤ 100000) (h : ∀ p ∈ ps, B4 p) : impl_boxesOf ps = some (ps.map Box.mk) := by
  unfold impl_boxesOf
  rw [show capF (ps.length : Int) = some () from if_pos ⟨by omega, by omega⟩, Option.bind_some]
  have := loop_brk0 (body := impl_boxesOf_L0 ps) ps.length (fun k : Nat => ((ps.take k).map Box.mk, (k : Int))) (s0 := (([] : List Box), 0)) (s := (ps.map Box.mk, (ps.length : Int))) rfl (fun k hk => by
      have hb := h _ (List.getElem_mem hk)
      unfold impl_boxesOf_L0
      simp only [lt_true (show (k : Int) < (ps.length : Int) by omega), cond_true, idx_get hk, Option.bind_some, impl_box4 hb.1 hb.okm, app_ok (show ((ps.take k).map Box.mk).length + [(⟨ps[k]⟩ : Box)].length ≤ 4294967296 by simp; omega), W_succ (show k < 9223372036854775807 by omega)]
      rw [take_snoc (List.getElem?_eq_getElem hk), List.map_append]; rfl)
    (by
      unfold impl_boxesOf_L0
      simp only [lt_false (Int.le_refl _), cond_false, List.take_length]) (fuel := ((((ps.length : Int)) : Int) - 0).toNat.succ) (by omega)
  rw [this]; rfl
open Classical in
theorem boxcut_is {a b : Box} (ha : OkBox a) (hb : OkBox b) : impl_BoxCut a b = some (if BV a ∧ BV b ∧ ∀ p ∈ cutL a.Sides b.Sides, Few p then (cutL a.Sides b.Sides).map Box.mk else []) := by
  unfold impl_BoxCut
  obtain ⟨v, e1, hv⟩ := impl_box ha
  obtain ⟨w, e2, hw⟩ := impl_box hb
  rw [e1, Option.bind_some]
  cases v with
  | false => rw [if_neg fun h => by simpa using hv.2 h.1]; rfl
  | true =>
    rw [cond_true, e2, Option.bind_some]
    cases w with
    | false => rw [if_neg fun h => by simpa using hw.2 h.2.1]; rfl
    | true =>
      have hva := hv.1 rfl
      have hvb := hw.1 rfl
      obtain ⟨ha4, haf⟩ := BV_iff.1 hva
      obtain ⟨hb4, _⟩ := BV_iff.1 hvb
      rw [cond_true, impl_sides hva.1, impl_sides hvb.1, Option.bind_some, Option.bind_some, impl_cut ha4 hb4 haf, Option.bind_some]
      by_cases hf : ∀ p ∈ cutL a.Sides b.Sides, Few p
      · rw [if_pos hf, if_pos ⟨hva, hvb, hf⟩]
        have := cutL_len a.Sides b.Sides
        simp only [cond_true, boxes_is (show (cutL a.Sides b.Sides).length ≤ 100000 by omega) (cutL_B4 ha4 hb4), Option.bind_some]
      · rw [if_neg hf, if_neg fun h => hf h.2.2]; rfl
end Go.PF.F

/- Plain laws: boxes within boxes. -/
namespace Go.PF.F
open Go Go.PF

/-- A box with at most m spans on a side. -/
def OkN (m : Nat) (b : Box) : Prop := b.Sides.length ≤ 5 ∧ ∀ x ∈ b.Sides, x.length ≤ m
def FewN (m : Nat) (s : List (List Span)) : Prop := ∀ k, k < 4 → (sd s k).length ≤ m
theorem FewN.few {m : Nat} {s : List (List Span)} (h : FewN m s) (hm : m ≤ 40) : Few s := fun k hk => Nat.le_trans (h k hk) hm
theorem OkN.okB {m : Nat} {b : Box} (h : OkN m b) (hm : m ≤ 40) : OkB b := ⟨h.1, fun x hx => Nat.le_trans (h.2 x hx) hm⟩
theorem OkN.mono {m k : Nat} {b : Box} (h : OkN m b) (hm : m ≤ k) : OkN k b := ⟨h.1, fun x hx => Nat.le_trans (h.2 x hx) hm⟩
theorem OkN.sd {m : Nat} {b : Box} (h : OkN m b) (k : Nat) : (F.sd b.Sides k).length ≤ m := by
  unfold F.sd
  rw [List.getD_eq_getElem?_getD]
  cases hx : b.Sides[k]? with
  | none => simp
  | some x => exact h.2 x (List.mem_of_getElem? hx)
theorem OkN.of {m : Nat} {s : List (List Span)} (h : B4 s) (hf : FewN m s) : OkN m ⟨s⟩ := ⟨by show s.length ≤ 5; rw [h.1]; decide, fun x hx => by
  obtain ⟨i, hi, rfl⟩ := List.getElem_of_mem hx
  have h4 : i < 4 := by have := h.1; simp only at hi; omega
  have := sd_get h.1 h4
  rw [List.getElem?_eq_getElem hi] at this
  rw [Option.some.inj this]
  exact hf i h4⟩
theorem OkN.set {m : Nat} {s : List (List Span)} (h : OkN m ⟨s⟩) (k : Nat) {x : List Span} (hx : x.length ≤ m) : OkN m ⟨s.set k x⟩ := ⟨by have := h.1; simp at this ⊢; omega, fun y hy => by
  rcases List.mem_or_eq_of_mem_set hy with hm | hm
  · exact h.2 y hm
  · rw [hm]; exact hx⟩
theorem FewN.set {m : Nat} {s : List (List Span)} (hl : s.length = 4) (h : FewN m s) {k : Nat} (hk : k < 4) {x : List Span} (hx : x.length ≤ m) : FewN m (s.set k x) := fun j hj => by
  rw [sd_set hl hk]
  split
  · exact hx
  · exact h j hj
theorem dr_box7 {xs : List Int} (hx : Bytes xs) (pos n : Int) : Dr (spec_l20Box xs pos n) pos 180 (fun b => OkN 7 b ∧ (n ≤ 0 → BV b)) := by
  unfold spec_l20Box
  refine Dr.bind (dr_tests hx _ 0) (by decide) fun ts p1 a1 => ?_
  have hv := (a1.2 (Int.le_refl _)).1
  simp only [spec_testsBox hv, Option.bind_some]
  have hs := testsS_B4 hv.1
  have hsf : FewN 7 (testsS ts) := fun k hk => by
    have h1 := testsS_len ts fullS hv.1 full_B4 1 (fun j hj => by unfold fullS; rw [sd_mk4 _ hj]; simp) k hk
    have h2 := (a1.2 (Int.le_refl _)).2
    unfold testsS
    omega
  generalize testsS ts = s at hs hsf
  -- what is done to a valid box
  have tail : ∀ (s : List (List Span)) (p : Int), B4 s → FewN 7 s → Dr ((spec_l20Rd_odd xs p n).bind fun x8 => bif x8.1 then (spec_l20Rd_pick xs x8.2 3).bind fun x9 => bif (x9.1 == 0) then (dropF s 1).bind fun y1 => some (({ Sides := y1 } : Box), x9.2)
      else bif (x9.1 == 1) then (idx s 3).bind fun _x10 => some (({ Sides := (List.set s (3 : Int).toNat [({ Lo := 0, Hi := 8 } : Span)]) } : Box), x9.2) else (appF s [([] : List Span)]).bind fun z1 => some (({ Sides := z1 } : Box), x9.2)
      else some (({ Sides := s } : Box), x8.2)) p 3 (fun b => OkN 7 b ∧ (n ≤ 0 → BV b)) := by
    intro s p h4 hf
    have hok := OkN.of h4 hf
    refine Dr.bind (Dr.odd hx) (by decide) fun x8 p8 a8 => ?_
    refine Dr.ite (fun h => ?_) (fun _ => Dr.some ⟨hok, fun _ => BV_iff.2 ⟨h4, hf.few (by decide)⟩⟩ (by decide))
    have no' : ∀ b : Box, n ≤ 0 → BV b := fun t hn => by have := a8 hn; simp only at h; rw [h] at this; cases this
    refine Dr.bind (Dr.pick hx (by decide)) (by decide) fun x9 p9 a9 => ?_
    refine Dr.ite (fun _ => ?_) (fun _ => Dr.ite (fun _ => ?_) (fun _ => ?_))
    · refine Dr.pure (R := fun y => y = s.drop 1) ⟨_, by unfold dropF; rw [if_pos ⟨by omega, by rw [h4.1]; decide⟩]; rfl, rfl⟩ fun y hy => ?_
      subst hy
      exact Dr.some ⟨⟨by simp [h4.1], fun x hx => hok.2 x (List.mem_of_mem_drop hx)⟩, no' _⟩ (by decide)
    · refine Dr.pure (R := fun _ => True) ⟨_, sd_idx h4.1 (k := 3) (by decide), trivial⟩ fun _ _ => ?_
      refine Dr.some ⟨⟨by simp [h4.1], fun x hx => ?_⟩, no' _⟩ (by decide)
      rcases List.mem_or_eq_of_mem_set hx with h | h
      · exact hok.2 x h
      · rw [h]; simp
    · refine Dr.pure (R := fun z => z = s ++ [[]]) ⟨_, app_ok (by rw [h4.1]; decide), rfl⟩ fun z hz => ?_
      subst hz
      refine Dr.some ⟨⟨by simp [h4.1], fun x hx => ?_⟩, no' _⟩ (by decide)
      rcases List.mem_append.1 hx with h | h
      · exact hok.2 x h
      · rw [List.mem_singleton.1 h]; simp
  refine Dr.bind (Dr.pick hx (by decide)) (by decide) fun x3 p3 a3 => ?_
  refine Dr.ite (fun _ => ?_) (fun _ => ?_)
  · refine Dr.bind (Dr.pick hx (by decide)) (by decide) fun x4 p4 a4 => ?_
    obtain ⟨k, rfl⟩ := Int.eq_ofNat_of_zero_le a4.1
    have hk : k < 4 := by omega
    have ht := top_pos hk
    simp only [spec_top, Option.bind_some]
    refine Dr.bind (dr_set hx ht.1 ht.2 _) (by decide) fun x6 p6 a6 => ?_
    simp only [sd_idx hs.1 hk, Option.bind_some, Int.toNat_natCast]
    have t := tail (s.set k x6) p6 (hs.set hk a6.1) (hsf.set hs.1 hk (by omega))
    exact fun h0 h1 => let ⟨a, p, e, q, l, u⟩ := t h0 (by omega); ⟨a, p, e, q, l, by omega⟩
  · have t := tail s p3 hs hsf
    exact fun h0 h1 => let ⟨a, p, e, q, l, u⟩ := t h0 (by omega); ⟨a, p, e, q, l, by omega⟩
/-- Two boxes are drawn. -/
theorem dr_two14 {xs : List Int} (hx : Bytes xs) {pos : Int} (h0 : 0 ≤ pos) (h1 : pos + 500 ≤ 1000000) : ∃ (a b : Box) (p : Int), spec_l20Two xs pos = some (a, b, p) ∧ OkN 7 a ∧ OkN 14 b ∧ pos ≤ p ∧ p ≤ pos + 500 := by
  unfold spec_l20Two
  obtain ⟨a, p1, e1, ha, l1, u1⟩ := dr_box7 hx pos 16 h0 (by omega)
  obtain ⟨b, p2, e2, hb, l2, u2⟩ := dr_box7 hx p1 16 (by omega) (by omega)
  obtain ⟨c, p3, e3, hc, l3, u3⟩ := Dr.pick hx (pos := p2) (n := 5) (by decide) (by omega) (by omega)
  rw [e1, Option.bind_some, e2, Option.bind_some, e3, Option.bind_some]
  by_cases c0 : (c == 0) = true
  · rw [c0, cond_true]
    obtain ⟨m, _, em, _, hy, hn⟩ := meet_is (ha.1.okB (by decide)) (hb.1.okB (by decide))
    have hm : OkN 14 m := by
      by_cases hc : BV a ∧ BV b ∧ Few (meetS a.Sides b.Sides)
      · rw [hy hc]
        have ha4 := (BV_iff.1 hc.1).1
        have hb4 := (BV_iff.1 hc.2.1).1
        refine OkN.of (ha4.meet hb4) fun k hk => ?_
        rw [show sd (meetS a.Sides b.Sides) k = _ from sd_mk4 _ hk]
        have := (ha4.2 k hk).meet_few (hb4.2 k hk)
        have := ha.1.sd k
        have := hb.1.sd k
        omega
      · rw [hn hc]; exact ⟨by simp, by simp⟩
    have em' : spec_BoxMeet a ({ Sides := b.Sides } : Box) = some m := em
    simp only [em', Option.bind_some, spec_all]
    cases ((m.Sides.length : Int) == 0) with
    | true => exact ⟨_, _, _, rfl, ha.1, (OkN.of full_B4 (fun k hk => by unfold fullS; rw [sd_mk4 _ hk]; simp)), by omega, by omega⟩
    | false => exact ⟨_, _, _, rfl, ha.1, hm, by omega, by omega⟩
  · rw [Bool.eq_false_iff.2 c0, cond_false]
    by_cases c1 : (c == 1) = true
    · rw [c1, cond_true]
      obtain ⟨v, ev, hv⟩ := spec_box (ha.1.okB (by decide)).ok
      simp only [ev, Option.bind_some]
      cases v with
      | false => exact ⟨_, _, _, rfl, ha.1, hb.1.mono (by decide), by omega, by omega⟩
      | true =>
        have h4 := (hv.1 rfl).1
        obtain ⟨k, p4, e4, hk, l4, u4⟩ := Dr.pick hx (pos := p3) (n := 4) (by decide) (by omega) (by omega)
        obtain ⟨j, rfl⟩ := Int.eq_ofNat_of_zero_le hk.1
        have hj : j < 4 := by omega
        have ht := top_pos hj
        obtain ⟨s, p5, e5, hs, l5, u5⟩ := dr_set hx ht.1 ht.2 p4 (by omega) (by omega)
        rw [cond_true, e4, Option.bind_some, app_nil (by rw [h4]; decide)]
        simp only [Option.bind_some, spec_top, e5, idx_get (show j < a.Sides.length by omega), Int.toNat_natCast]
        exact ⟨_, _, _, rfl, ha.1, (ha.1.mono (by decide)).set j (by omega), by omega, by omega⟩
    · rw [Bool.eq_false_iff.2 c1, cond_false]
      exact ⟨_, _, _, rfl, ha.1, hb.1.mono (by decide), by omega, by omega⟩
theorem draw_boxwithin {code : List Int} (h : GAll GU8 code) : ∃ (a b : Box), spec_DrawBoxWithin code = some (a, b) ∧ OkN 7 a ∧ OkN 14 b := by
  unfold spec_DrawBoxWithin
  refine draw_open (R := fun m => ∃ (a b : Box), m = some (a, b) ∧ OkN 7 a ∧ OkN 14 b) h fun xs hx => ?_
  obtain ⟨a, b, p, e, ha, hb, _, _⟩ := dr_two14 hx (pos := 0) (by decide) (by decide)
  have e' : spec_l20Two (xs, (0 : Int)).1 (xs, (0 : Int)).2 = some (a, b, p) := e
  rw [e']
  exact ⟨_, _, rfl, ha, hb⟩
theorem Set0.less_few {top : Int} {a b : List Span} (ha : Set0 top a) (hb : Set0 top b) : (lessL top a b).length ≤ a.length + b.length + 1 := by
  have h1 := ha.meet_few hb.other
  have h2 := otherL_len top 0 b
  unfold lessL
  omega
/-- What is cut off of small boxes is small. -/
theorem cut_few {a b : List (List Span)} (ha : B4 a) (hb : B4 b) (hfa : Few a) (hs : ∀ k, k < 4 → (sd a k).length + (sd b k).length ≤ 39) : ∀ p ∈ cutL a b, Few p := by
  intro p hp
  unfold cutL at hp
  split at hp
  · split at hp
    · cases hp
    · rw [List.mem_singleton.1 hp]; exact hfa
  · unfold cutN at hp
    obtain ⟨k, hk, e⟩ := List.mem_filterMap.1 hp
    split at e
    · cases e
    · cases e
      intro j hj
      rw [show sd (pieceK a b k) j = _ from sd_mk4 _ hj]
      have hj2 := hs j hj
      split
      · have := (ha.2 j hj).meet_few (hb.2 j hj)
        omega
      · split
        · rename_i h; subst h
          have := (ha.2 j hj).less_few (hb.2 j hj)
          show (lessL (topOf j) (sd a j) (sd b j)).length ≤ 40
          omega
        · omega
theorem plain_FnBoxWithin (code more : List Int) (g : GAll GU8 code) (_gm : GAll GU8 more) : laws_FnBoxWithin code more = some true := by
  unfold laws_FnBoxWithin
  refine draw_guard fun _ => draw_guard fun hm => ?_
  obtain ⟨⟨sa⟩, ⟨sb⟩, e, ha, hb⟩ := draw_boxwithin g
  have oa : OkBox ⟨sa⟩ := (ha.okB (by decide)).ok
  have ob : OkBox ⟨sb⟩ := (hb.okB (by decide)).ok
  obtain ⟨v, e1, e2, hv⟩ := (impl_within oa ob).same (spec_within oa ob)
  obtain ⟨va, e3, hva⟩ := spec_box oa
  obtain ⟨vb, e4, hvb⟩ := spec_box ob
  rw [e]
  simp only [Option.bind_some, e1, e2, e3, bne_self_eq_false, cond_false, alive_is]
  cases va with
  | false =>
    have : v = false := by
      cases v with
      | false => rfl
      | true => have := hva.2 (hv.1 rfl).1; cases this
    subst this; rfl
  | true =>
    simp only [cond_true, e4, Option.bind_some]
    cases vb with
    | false =>
      have : v = false := by
        cases v with
        | false => rfl
        | true => have := hvb.2 (hv.1 rfl).2.1; cases this
      subst this; rfl
    | true =>
      have hBa := hva.1 rfl
      have hBb := hvb.1 rfl
      obtain ⟨ha4, haf⟩ := BV_iff.1 hBa
      obtain ⟨hb4, hbf⟩ := BV_iff.1 hBb
      simp only at ha4 haf hb4 hbf
      obtain ⟨p, ep⟩ := probe_ok (list := [⟨sb⟩, ⟨sa⟩]) (by simp) (by
        intro x hx
        rcases List.mem_cons.1 hx with rfl | hx
        · exact ob
        · rw [List.mem_singleton.1 hx]; exact oa) (seed := (more.length : Int)) (by omega) (by omega)
      have hfew : ∀ p ∈ cutL sa sb, Few p := cut_few ha4 hb4 haf fun k hk => by
        have := ha.sd k
        have := hb.sd k
        simp only at *
        omega
      have ec : impl_BoxCut ⟨sa⟩ ⟨sb⟩ = some ((cutL sa sb).map Box.mk) := by rw [boxcut_is oa ob, if_pos ⟨hBa, hBb, hfew⟩]
      have hz : (v == ((((cutL sa sb).map Box.mk).length : Int) == 0)) = true := by
        have h1 : v = true ↔ cutL sa sb = [] := hv.trans ⟨fun h => (cut_nil_iff ha4 hb4).2 h.2.2, fun h => ⟨hBa, hBb, (cut_nil_iff ha4 hb4).1 h⟩⟩
        rw [List.length_map]
        by_cases hc : cutL sa sb = []
        · rw [h1.2 hc, hc]; rfl
        · have h2 : v = false := by
            cases v with
            | false => rfl
            | true => exact absurd (h1.1 rfl) hc
          have := List.length_pos_iff.2 hc
          rw [h2, show (((cutL sa sb).length : Int) == 0) = false from by simp; omega]; rfl
      obtain ⟨u1, f1, hu1⟩ := impl_within oa oa
      obtain ⟨u2, f2, hu2⟩ := impl_within oa full_ok
      obtain rfl : u1 = true := hu1.2 ⟨hBa, hBa, within_self ha4⟩
      obtain rfl : u2 = true := hu2.2 ⟨hBa, full_BV, within_full ha4⟩
      obtain ⟨h8, e8, hh8⟩ := impl_has oa p
      obtain ⟨h9, e9, hh9⟩ := impl_has ob p
      simp only [cond_true, Option.bind_some, ep, ec, hz, e8, e9, f1, f2, impl_BoxAll_is]
      cases v with
      | false => rfl
      | true =>
        cases h8 with
        | false => rfl
        | true =>
          have hw := (hv.1 rfl).2.2
          have hp := hh8.1 rfl
          have h9t : h9 = true := by
            refine hh9.2 ⟨hBb, hp.2.1, (BH_iff (b := ⟨sb⟩) hb4.1).2 fun k hk => ?_⟩
            have hak := (BH_iff (b := ⟨sa⟩) ha4.1).1 hp.2.2 k hk
            rcases hw with ⟨j, hj, hej⟩ | hw
            · have := (BH_iff (b := ⟨sa⟩) ha4.1).1 hp.2.2 j hj
              simp only at this hej
              rw [hej] at this; cases this
            · exact (less_nil_iff ha4 hb4 hk).1 (hw k hk) _ hak
          subst h9t; rfl
end Go.PF.F

/- Plain laws: what a region leaves of a box (the program). -/
namespace Go.PF.F
open Go Go.PF

/-- Every box so far is replaced by what b leaves of it. -/
noncomputable def nextL (rest : List (List (List Span))) (b : List (List Span)) : List (List (List Span)) := rest.flatMap fun a => cutL a b
def OkL (rest : List (List (List Span))) : Prop := (∀ p ∈ rest, Few p) ∧ rest.length ≤ 400
open Classical in
noncomputable def lessA : List (List (List Span)) → List (List (List Span)) → Option (List (List (List Span)))
  | rest, [] => some rest
  | rest, b :: bs => if OkL (nextL rest b) then lessA (nextL rest b) bs else none
theorem lessA_yes {rest : List (List (List Span))} {b : List (List Span)} {bs : List (List (List Span))} (h : OkL (nextL rest b)) : lessA rest (b :: bs) = lessA (nextL rest b) bs := by rw [lessA, if_pos h]
theorem lessA_no {rest : List (List (List Span))} {b : List (List Span)} {bs : List (List (List Span))} (h : ¬ OkL (nextL rest b)) : lessA rest (b :: bs) = none := by rw [lessA, if_neg h]
theorem lessA_nil : ∀ bs : List (List (List Span)), lessA [] bs = some []
  | [] => rfl
  | b :: bs => by
    rw [lessA_yes (show OkL (nextL [] b) from ⟨fun p hp => (by cases hp), by simp [nextL]⟩)]
    exact lessA_nil bs
theorem nextL_B4 {rest : List (List (List Span))} {b : List (List Span)} (h : ∀ p ∈ rest, B4 p) (hb : B4 b) : ∀ p ∈ nextL rest b, B4 p := by
  intro p hp
  obtain ⟨a, ha, hp⟩ := List.mem_flatMap.1 hp
  exact cutL_B4 (h a ha) hb p hp
theorem nextL_snoc (rest : List (List (List Span))) (a b : List (List Span)) : nextL (rest ++ [a]) b = nextL rest b ++ cutL a b := by simp [nextL]
theorem nextL_take {rest : List (List (List Span))} {b : List (List Span)} (k : Nat) : ∃ t, nextL rest b = nextL (rest.take k) b ++ t := by
  refine ⟨nextL (rest.drop k) b, ?_⟩
  unfold nextL
  rw [← List.flatMap_append, List.take_append_drop]
theorem less_inner {rest : List (List (List Span))} {b : List (List Span)} (h4 : ∀ p ∈ rest, B4 p) (hf : ∀ p ∈ rest, Few p) (hl : rest.length ≤ 400) (hb : B4 b) :
    ∃ o, loopF (impl_sides_lessRegion_L1 rest b) ((((rest.length : Int)) : Int) - 0).toNat.succ (([] : List (List (List Span))), 0) = some o ∧
      ((o = .brk (nextL rest b, (rest.length : Int)) ∧ OkL (nextL rest b)) ∨ (o = .ret (([] : List (List (List Span))), false) ∧ ¬ OkL (nextL rest b))) := by
  refine loop_idx (body := impl_sides_lessRegion_L1 rest b) rest.length (fun k s => s.2 = (k : Int) ∧ s.1 = nextL (rest.take k) b ∧ OkL s.1) _ (s := (([] : List (List (List Span))), 0)) ⟨rfl, by simp [nextL], fun p hp => (by cases hp), by simp⟩ (fun k s hk ⟨h1, h2, h3⟩ => ?_) (fun s ⟨h1, h2, h3⟩ => ?_)
  · obtain ⟨y, k1⟩ := s
    simp only at h1 h2 h3
    subst h1
    have hm := List.getElem_mem hk
    have htk : rest.take (k + 1) = rest.take k ++ [rest[k]] := take_snoc (List.getElem?_eq_getElem hk)
    have hn : nextL (rest.take (k + 1)) b = y ++ cutL rest[k] b := by rw [htk, nextL_snoc, ← h2]
    obtain ⟨t, ht⟩ := nextL_take (rest := rest) (b := b) (k + 1)
    have hcl := cutL_len rest[k] b
    have hyl := h3.2
    unfold impl_sides_lessRegion_L1
    simp only [lt_true (show (k : Int) < (rest.length : Int) by omega), cond_true, idx_get hk, Option.bind_some, impl_cut (h4 _ hm) hb (hf _ hm)]
    by_cases hc : ∀ p ∈ cutL rest[k] b, Few p
    · rw [if_pos hc]
      simp only [cond_true, W_of (x := (y.length : Int) + ((cutL rest[k] b).length : Int)) (by omega) (by omega)]
      by_cases hlen : 400 < (y.length : Int) + ((cutL rest[k] b).length : Int)
      · rw [decide_eq_true hlen, cond_true]
        refine .inr (.inl ⟨_, rfl, .inr ⟨rfl, fun h => ?_⟩⟩)
        have := h.2
        rw [ht, hn, List.length_append, List.length_append] at this
        omega
      · rw [decide_eq_false hlen, cond_false, app_ok (by omega), Option.bind_some, W_succ (by omega)]
        refine .inl ⟨_, rfl, rfl, hn.symm, fun p hp => ?_, by rw [List.length_append]; omega⟩
        rcases List.mem_append.1 hp with hp | hp
        · exact h3.1 p hp
        · exact hc p hp
    · rw [if_neg hc]
      refine .inr (.inl ⟨_, rfl, .inr ⟨rfl, fun h => hc fun p hp => h.1 p ?_⟩⟩)
      rw [ht, hn]
      exact List.mem_append_left _ (List.mem_append_right _ hp)
  · obtain ⟨y, k1⟩ := s
    simp only at h1 h2 h3
    subst h1
    rw [List.take_length] at h2
    subst h2
    unfold impl_sides_lessRegion_L1
    simp only [lt_false (Int.le_refl _), cond_false]
    exact .inl ⟨_, rfl, .inl ⟨rfl, h3⟩⟩
open Classical in
noncomputable def startL (s : List (List Span)) : List (List (List Span)) := if emptyS s then [] else [s]
theorem less_region {s : List (List Span)} {region : List (List (List Span))} (hs : B4 s) (hsf : Few s) (hr : ∀ p ∈ region, B4 p) (hl : region.length ≤ 100000) :
    impl_sides_lessRegion s region = some (match lessA (startL s) region with | some r => (r, true) | none => ([], false)) ∧ ∀ r, lessA (startL s) region = some r → (∀ p ∈ r, B4 p ∧ Few p) ∧ r.length ≤ 400 := by
  unfold impl_sides_lessRegion startL
  obtain ⟨q, e, hq⟩ := impl_emp hs.1
  rw [e, Option.bind_some]
  cases q with
  | true =>
    rw [if_pos (hq.1 rfl), lessA_nil]
    exact ⟨rfl, fun r hr => by cases hr; exact ⟨fun p hp => (by cases hp), by simp⟩⟩
  | false =>
    rw [if_neg (fun h => by simpa using hq.2 h), cond_false]
    obtain ⟨o, ho, hq⟩ := loop_idx (body := impl_sides_lessRegion_L0 region) region.length
      (fun k st => st.2 = (k : Int) ∧ (∀ p ∈ st.1, B4 p ∧ Few p) ∧ st.1.length ≤ 400 ∧ lessA [s] region = lessA st.1 (region.drop k))
      (fun o => (∃ st : (List (List (List Span))) × Int, o = .brk st ∧ (∀ p ∈ st.1, B4 p ∧ Few p) ∧ st.1.length ≤ 400 ∧ lessA [s] region = some st.1) ∨ (o = .ret (([] : List (List (List Span))), false) ∧ lessA [s] region = none))
      (s := ([s], 0)) ⟨rfl, fun p hp => by rw [List.mem_singleton.1 hp]; exact ⟨hs, hsf⟩, by simp, by simp⟩
      (fun k st hk ⟨h1, h2, h3, h4⟩ => by
        obtain ⟨y, k1⟩ := st
        simp only at h1 h2 h3 h4
        subst h1
        have hb := hr _ (List.getElem_mem hk)
        have hd : lessA y (region.drop k) = lessA y (region[k] :: region.drop (k + 1)) := by rw [List.drop_eq_getElem_cons hk]
        obtain ⟨o, ho, hq⟩ := less_inner (fun p hp => (h2 p hp).1) (fun p hp => (h2 p hp).2) h3 hb
        unfold impl_sides_lessRegion_L0
        simp only [lt_true (show (k : Int) < (region.length : Int) by omega), cond_true, idx_get hk, Option.bind_some, ho]
        rcases hq with ⟨rfl, hok⟩ | ⟨rfl, hok⟩
        · have hstep : lessA [s] region = lessA (nextL y region[k]) (region.drop (k + 1)) := by
            rw [h4, hd, lessA_yes hok]
          have hB : ∀ p ∈ nextL y region[k], B4 p ∧ Few p := fun p hp => ⟨nextL_B4 (fun p hp => (h2 p hp).1) hb p hp, hok.1 p hp⟩
          simp only [LR.on]
          by_cases hz : nextL y region[k] = []
          · rw [hz] at hstep hB
            rw [hz]
            rw [lessA_nil] at hstep
            exact .inr (.inr ⟨_, rfl, .inl ⟨_, rfl, hB, by simp, hstep⟩⟩)
          · rw [show (((nextL y region[k]).length : Int) == 0) = false from by have := List.length_pos_iff.2 hz; simp; omega, cond_false, W_succ (by omega)]
            exact .inl ⟨_, rfl, rfl, hB, hok.2, hstep⟩
        · refine .inr (.inl ⟨_, rfl, .inr ⟨rfl, ?_⟩⟩)
          rw [h4, hd, lessA_no hok])
      (fun st ⟨h1, h2, h3, h4⟩ => by
        obtain ⟨y, k1⟩ := st
        simp only at h1 h2 h3 h4
        subst h1
        unfold impl_sides_lessRegion_L0
        simp only [lt_false (Int.le_refl _), cond_false]
        rw [List.drop_length] at h4
        exact .inl ⟨_, rfl, .inl ⟨_, rfl, h2, h3, h4⟩⟩)
    rw [ho, Option.bind_some]
    rcases hq with ⟨⟨y, k⟩, rfl, h2, h3, h4⟩ | ⟨rfl, h4⟩
    · rw [h4]
      exact ⟨rfl, fun r hr => by cases hr; exact ⟨h2, h3⟩⟩
    · rw [h4]
      exact ⟨rfl, fun r hr => by cases hr⟩
theorem region_sides {list : List Box} (h : ∀ b ∈ list, BV b) (hl : list.length ≤ 100000) :
    loopF (impl_RegionLess_L0 list) ((((list.length : Int)) : Int) - 0).toNat.succ (([] : List (List (List Span))), 0) = some (.brk (list.map (·.Sides), (list.length : Int))) := by
  refine loop_brk0 (body := impl_RegionLess_L0 list) list.length (fun k : Nat => ((list.take k).map (·.Sides), (k : Int))) rfl (fun k hk => ?_) ?_ (by omega)
  · unfold impl_RegionLess_L0
    simp only [lt_true (show (k : Int) < (list.length : Int) by omega), cond_true, idx_get hk, Option.bind_some, impl_sides (h _ (List.getElem_mem hk)).1, app_ok (show ((list.take k).map (·.Sides)).length + [list[k].Sides].length ≤ 4294967296 by simp; omega), W_succ (show k < 9223372036854775807 by omega)]
    rw [take_snoc (List.getElem?_eq_getElem hk), List.map_append]; rfl
  · unfold impl_RegionLess_L0
    simp only [lt_false (Int.le_refl _), cond_false, List.take_length]
open Classical in
/-- The program's answer. -/
theorem regionless_is {b : Box} {list : List Box} (hb : OkBox b) (hl : list.length ≤ 100000) (hs : ∀ x ∈ list, OkBox x) : impl_RegionLess b list = some (if BV b ∧ RV list then (match lessA (startL b.Sides) (list.map (·.Sides)) with | some r => (r.map Box.mk, true) | none => ([], false)) else ([], false)) := by
  unfold impl_RegionLess
  obtain ⟨v, e1, hv⟩ := impl_box hb
  obtain ⟨w, e2, hw⟩ := impl_region (show list.length ≤ 9223372036854775807 by omega) hs
  rw [e1, Option.bind_some]
  cases v with
  | false => rw [if_neg fun h => by simpa using hv.2 h.1]; rfl
  | true =>
    rw [cond_true, e2, Option.bind_some]
    cases w with
    | false => rw [if_neg fun h => by simpa using hw.2 h.2]; rfl
    | true =>
      have hBb := hv.1 rfl
      have hR := hw.1 rfl
      obtain ⟨hb4, hbf⟩ := BV_iff.1 hBb
      rw [if_pos ⟨hBb, hR⟩, cond_true, show capF (list.length : Int) = some () from if_pos ⟨by omega, by omega⟩, Option.bind_some, region_sides hR.1 hl, Option.bind_some]
      simp only [LR.on, impl_sides hBb.1, Option.bind_some]
      obtain ⟨e3, h3⟩ := less_region (region := list.map (·.Sides)) hb4 hbf (fun p hp => by
        obtain ⟨x, hx, rfl⟩ := List.mem_map.1 hp
        exact (BV_iff.1 (hR.1 x hx)).1) (by simpa using hl)
      rw [e3, Option.bind_some]
      cases hr : lessA (startL b.Sides) (list.map (·.Sides)) with
      | none => rfl
      | some r =>
        obtain ⟨h4, h5⟩ := h3 r hr
        simp only [cond_true, boxes_is (show r.length ≤ 100000 by omega) (fun p hp => (h4 p hp).1), Option.bind_some]
end Go.PF.F

/- Plain laws: what cutting means for points. -/
namespace Go.PF.F
open Go Go.PF

/-- The point f lies in s. -/
def hasB (s : List (List Span)) (f : Nat → Int) : Prop := ∀ k, k < 4 → has (sd s k) (f k) = true
def Dj (p q : List (List Span)) : Prop := ∀ f, hasB p f → ¬ hasB q f
theorem Dj.symm {p q : List (List Span)} (h : Dj p q) : Dj q p := fun f hq hp => h f hp hq
theorem some_point {s : List (List Span)} (h : B4 s) (hn : ¬ emptyS s) : ∃ f, hasB s f := by
  have hx : ∀ k, ∃ v, k < 4 → has (sd s k) v = true := fun k => by
    by_cases hk : k < 4
    · obtain ⟨v, hv⟩ := some_has (h.2 k hk) (not_emptyS hn hk)
      exact ⟨v, fun _ => hv⟩
    · exact ⟨0, fun h => absurd h hk⟩
  obtain ⟨f, hf⟩ := Classical.axiomOfChoice hx
  exact ⟨f, fun k hk => hf k hk⟩
theorem not_empty_of {s : List (List Span)} {f : Nat → Int} (h : hasB s f) : ¬ emptyS s := fun ⟨k, hk, e⟩ => by
  have := h k hk
  rw [e] at this; cases this
theorem has_piece {a b : List (List Span)} (ha : B4 a) (hb : B4 b) {n k : Nat} (hk : k < 4) (v : Int) : has (sd (pieceK a b n) k) v = (if k < n then has (sd a k) v && has (sd b k) v else if k = n then has (sd a k) v && !has (sd b k) v else has (sd a k) v) := by
  rw [show sd (pieceK a b n) k = _ from sd_mk4 _ hk]
  split
  · rw [has_meetL]
  · split
    · rename_i h; subst h
      exact has_less (ha.2 k hk) (hb.2 k hk) v
    · rfl
theorem piece_has {a b : List (List Span)} (ha : B4 a) (hb : B4 b) {n : Nat} (hn : n < 4) {f : Nat → Int} : hasB (pieceK a b n) f ↔ hasB a f ∧ (∀ k, k < n → has (sd b k) (f k) = true) ∧ has (sd b n) (f n) = false := by
  constructor
  · intro h
    refine ⟨fun k hk => ?_, fun k hk => ?_, ?_⟩
    · have := h k hk
      rw [has_piece ha hb hk] at this
      split at this
      · exact (Bool.and_eq_true _ _ ▸ this).1
      · split at this
        · exact (Bool.and_eq_true _ _ ▸ this).1
        · exact this
    · have := h k (by omega)
      rw [has_piece ha hb (by omega), if_pos hk] at this
      exact (Bool.and_eq_true _ _ ▸ this).2
    · have := h n hn
      rw [has_piece ha hb hn, if_neg (by omega), if_pos rfl, Bool.and_eq_true] at this
      simpa using this.2
  · rintro ⟨h1, h2, h3⟩ k hk
    rw [has_piece ha hb hk]
    split
    · rename_i h; rw [h1 k hk, h2 k h]; rfl
    · split
      · rename_i h; subst h; rw [h1 k hk, h3]; rfl
      · exact h1 k hk
/-- A point of a lies in a piece just if it does not lie in b. -/
theorem cut_has {a b : List (List Span)} (ha : B4 a) (hb : B4 b) (f : Nat → Int) : (∃ p ∈ cutL a b, hasB p f) ↔ hasB a f ∧ ¬ hasB b f := by
  unfold cutL
  split
  · rename_i hm
    split
    · rename_i he
      exact ⟨fun ⟨p, hp, _⟩ => (by cases hp), fun h => absurd he (not_empty_of h.1)⟩
    · constructor
      · rintro ⟨p, hp, h⟩
        rw [List.mem_singleton.1 hp] at h
        refine ⟨h, fun hb' => ?_⟩
        obtain ⟨k, hk, e⟩ := hm
        have := (meet_nil_iff ha hb hk).1 e _ (h k hk)
        rw [hb' k hk] at this; cases this
      · exact fun h => ⟨a, by simp, h.1⟩
  · constructor
    · rintro ⟨p, hp, h⟩
      obtain ⟨k, hk, e⟩ := List.mem_filterMap.1 hp
      split at e
      · cases e
      · cases e
        have := (piece_has ha hb (List.mem_range.1 hk)).1 h
        exact ⟨this.1, fun hb' => by have h2 := hb' k (List.mem_range.1 hk); rw [this.2.2] at h2; cases h2⟩
    · rintro ⟨h1, h2⟩
      have hex : ∃ n, n < 4 ∧ has (sd b n) (f n) = false ∧ ∀ k, k < n → has (sd b k) (f k) = true := by
        have : ∀ m, m ≤ 4 → (∃ n, n < m ∧ has (sd b n) (f n) = false ∧ ∀ k, k < n → has (sd b k) (f k) = true) ∨ ∀ k, k < m → has (sd b k) (f k) = true := by
          intro m
          induction m with
          | zero => exact fun _ => .inr fun k hk => by omega
          | succ m ih =>
            intro hm
            rcases ih (by omega) with ⟨n, hn, h⟩ | h
            · exact .inl ⟨n, by omega, h⟩
            · cases hv : has (sd b m) (f m) with
              | false => exact .inl ⟨m, by omega, hv, h⟩
              | true =>
                refine .inr fun k hk => ?_
                rcases Nat.lt_or_ge k m with h' | h'
                · exact h k h'
                · obtain rfl : k = m := by omega
                  exact hv
        rcases this 4 (Nat.le_refl _) with h | h
        · exact h
        · exact absurd h h2
      obtain ⟨n, hn, h3, h4⟩ := hex
      have hp : hasB (pieceK a b n) f := (piece_has ha hb hn).2 ⟨h1, h4, h3⟩
      have hne : lessK a b n ≠ [] := fun e => by
        have := hp n hn
        rw [show sd (pieceK a b n) n = _ from sd_mk4 _ hn, if_neg (by omega), if_pos rfl, e] at this
        cases this
      exact ⟨pieceK a b n, List.mem_filterMap.2 ⟨n, List.mem_range.2 hn, by rw [if_neg hne]⟩, hp⟩
theorem filterMap_pairwise {α β : Type} {R : β → β → Prop} {g : α → Option β} {S : α → α → Prop} (hg : ∀ x y u v, S x y → g x = some u → g y = some v → R u v) : ∀ {xs : List α}, xs.Pairwise S → (xs.filterMap g).Pairwise R := by
  intro xs h
  rw [List.pairwise_filterMap]
  exact h.imp fun hs u hu v hv => hg _ _ u v hs hu hv
/-- The pieces have no point in common. -/
theorem cut_dj {a b : List (List Span)} (ha : B4 a) (hb : B4 b) : (cutL a b).Pairwise Dj := by
  unfold cutL
  split
  · split <;> simp
  · unfold cutN
    refine filterMap_pairwise (S := fun x y => x < y ∧ y < 4) ?_ ?_
    · rintro x y u v ⟨hxy, hy⟩ hu hv
      split at hu
      · cases hu
      · split at hv
        · cases hv
        · cases hu; cases hv
          intro f h1 h2
          have p1 := (piece_has ha hb (show x < 4 by omega)).1 h1
          have p2 := (piece_has ha hb hy).1 h2
          have := p2.2.1 x hxy
          rw [p1.2.2] at this; cases this
    · rw [List.pairwise_iff_getElem]
      intro i j hi hj hij
      simp at hi hj ⊢
      omega
theorem cut_ne {a b : List (List Span)} (ha : B4 a) (hb : B4 b) : ∀ p ∈ cutL a b, ¬ emptyS p := by
  intro p hp
  unfold cutL at hp
  split at hp
  · split at hp
    · cases hp
    · rename_i h; rw [List.mem_singleton.1 hp]; exact h
  · rename_i hm
    obtain ⟨n, hn, e⟩ := List.mem_filterMap.1 hp
    have hn := List.mem_range.1 hn
    split at e
    · cases e
    · rename_i hz
      cases e
      rintro ⟨k, hk, e⟩
      rw [show sd (pieceK a b n) k = _ from sd_mk4 _ hk] at e
      have hmk : meetL (sd a k) (sd b k) ≠ [] := fun h => hm ⟨k, hk, by rw [show sd (meetS a b) k = _ from sd_mk4 _ hk]; exact h⟩
      split at e
      · exact hmk e
      · split at e
        · exact hz e
        · exact hmk (by rw [e]; rfl)
/-- What lies in none of the boxes bs. -/
theorem next_has {rest : List (List (List Span))} {b : List (List Span)} (h4 : ∀ p ∈ rest, B4 p) (hb : B4 b) (f : Nat → Int) : (∃ p ∈ nextL rest b, hasB p f) ↔ (∃ p ∈ rest, hasB p f) ∧ ¬ hasB b f := by
  constructor
  · rintro ⟨p, hp, h⟩
    obtain ⟨a, ha, hp⟩ := List.mem_flatMap.1 hp
    have := (cut_has (h4 a ha) hb f).1 ⟨p, hp, h⟩
    exact ⟨⟨a, ha, this.1⟩, this.2⟩
  · rintro ⟨⟨a, ha, h⟩, hn⟩
    obtain ⟨p, hp, h⟩ := (cut_has (h4 a ha) hb f).2 ⟨h, hn⟩
    exact ⟨p, List.mem_flatMap.2 ⟨a, ha, hp⟩, h⟩
theorem next_dj {rest : List (List (List Span))} {b : List (List Span)} (h4 : ∀ p ∈ rest, B4 p) (hb : B4 b) (hd : rest.Pairwise Dj) : (nextL rest b).Pairwise Dj := by
  unfold nextL
  rw [List.pairwise_flatMap]
  refine ⟨fun a ha => cut_dj (h4 a ha) hb, ?_⟩
  refine hd.imp_of_mem fun {x y} hx hy hxy p hp q hq f h1 h2 => ?_
  exact hxy f ((cut_has (h4 x hx) hb f).1 ⟨p, hp, h1⟩).1 ((cut_has (h4 y hy) hb f).1 ⟨q, hq, h2⟩).1
theorem next_ne {rest : List (List (List Span))} {b : List (List Span)} (h4 : ∀ p ∈ rest, B4 p) (hb : B4 b) : ∀ p ∈ nextL rest b, ¬ emptyS p := fun p hp => by
  obtain ⟨a, ha, hp⟩ := List.mem_flatMap.1 hp
  exact cut_ne (h4 a ha) hb p hp
theorem lessA_has : ∀ {bs rest r : List (List (List Span))}, (∀ p ∈ rest, B4 p) → (∀ b ∈ bs, B4 b) → lessA rest bs = some r → ∀ f, (∃ p ∈ r, hasB p f) ↔ (∃ p ∈ rest, hasB p f) ∧ ∀ b ∈ bs, ¬ hasB b f
  | [], rest, r, _, _, h, f => by
    rw [lessA] at h
    obtain rfl := Option.some.inj h
    simp
  | b :: bs, rest, r, h4, hb, h, f => by
    by_cases hk : OkL (nextL rest b)
    · rw [lessA_yes hk] at h
      rw [lessA_has (nextL_B4 h4 (hb b (by simp))) (fun x hx => hb x (by simp [hx])) h f, next_has h4 (hb b (by simp)) f]
      simp only [List.forall_mem_cons, and_assoc]
    · rw [lessA_no hk] at h; cases h
theorem lessA_dj : ∀ {bs rest r : List (List (List Span))}, (∀ p ∈ rest, B4 p) → (∀ b ∈ bs, B4 b) → rest.Pairwise Dj → (∀ p ∈ rest, ¬ emptyS p) → lessA rest bs = some r → r.Pairwise Dj ∧ ∀ p ∈ r, ¬ emptyS p
  | [], rest, r, _, _, hd, hn, h => by
    rw [lessA] at h
    obtain rfl := Option.some.inj h
    exact ⟨hd, hn⟩
  | b :: bs, rest, r, h4, hb, hd, hn, h => by
    by_cases hk : OkL (nextL rest b)
    · rw [lessA_yes hk] at h
      exact lessA_dj (nextL_B4 h4 (hb b (by simp))) (fun x hx => hb x (by simp [hx])) (next_dj h4 (hb b (by simp)) hd) (next_ne h4 (hb b (by simp))) h
    · rw [lessA_no hk] at h; cases h
/-- A shorter list leaves an answer too. -/
theorem lessA_app : ∀ {bs cs rest r : List (List (List Span))}, lessA rest (bs ++ cs) = some r → ∃ m, lessA rest bs = some m ∧ lessA m cs = some r
  | [], cs, rest, r, h => ⟨rest, by rw [lessA], h⟩
  | b :: bs, cs, rest, r, h => by
    rw [List.cons_append] at h
    by_cases hk : OkL (nextL rest b)
    · rw [lessA_yes hk] at h ⊢
      exact lessA_app h
    · rw [lessA_no hk] at h; cases h
end Go.PF.F

/- Plain laws: cutting boxes, what the laws ask. -/
namespace Go.PF.F
open Go Go.PF

open Classical in
theorem spec_boxcut {a b : Box} (ha : OkB a) (hb : OkB b) : spec_BoxCut a b = some (if BV a ∧ BV b ∧ ∀ p ∈ cutL a.Sides b.Sides, Few p then (cutL a.Sides b.Sides).map Box.mk else []) := by
  obtain ⟨v, e1, hv⟩ := spec_box ha.ok
  obtain ⟨w, e2, hw⟩ := spec_box hb.ok
  unfold spec_BoxCut
  have o1 : spec_l1OwnBox ({ Sides := a.Sides } : Box) = some a := own_box ha
  have o2 : spec_l1OwnBox ({ Sides := b.Sides } : Box) = some b := own_box hb
  have e1' : spec_BoxValid ({ Sides := a.Sides } : Box) = some v := e1
  have e2' : spec_BoxValid ({ Sides := b.Sides } : Box) = some w := e2
  rw [o1, Option.bind_some, o2, Option.bind_some, e1', Option.bind_some]
  cases v with
  | false => rw [if_neg fun h => by simpa using hv.2 h.1]; rfl
  | true =>
    rw [cond_true, e2', Option.bind_some]
    cases w with
    | false => rw [if_neg fun h => by simpa using hw.2 h.2.1]; rfl
    | true =>
      have hva := hv.1 rfl
      have hvb := hw.1 rfl
      obtain ⟨ha4, haf⟩ := BV_iff.1 hva
      obtain ⟨hb4, _⟩ := BV_iff.1 hvb
      have ec : spec_l11Cut ({ Sides := a.Sides } : Box) ({ Sides := b.Sides } : Box) = some ((cutL a.Sides b.Sides).map Box.mk) := spec_cut ha4 hb4
      rw [cond_true, ec, Option.bind_some]
      have hB := cutL_B4 ha4 hb4
      have hcl := cutL_len a.Sides b.Sides
      obtain ⟨o, ho, hq⟩ := loop_idx (body := spec_BoxCut_L0 ((cutL a.Sides b.Sides).map Box.mk)) ((cutL a.Sides b.Sides).map Box.mk).length (fun k s => s = (k : Int) ∧ ∀ j, ∀ (h : j < k) p, (cutL a.Sides b.Sides)[j]? = some p → Few p)
        (fun o => (∃ s : Int, o = .brk s ∧ ∀ p ∈ cutL a.Sides b.Sides, Few p) ∨ (o = .ret ([] : List Box) ∧ ¬ ∀ p ∈ cutL a.Sides b.Sides, Few p)) (s := 0) ⟨rfl, fun j h => by omega⟩
        (fun k s hk ⟨h1, h2⟩ => by
          subst h1
          have hk' : k < (cutL a.Sides b.Sides).length := by simpa using hk
          have hm := List.getElem_mem hk'
          obtain ⟨u, e3, hu⟩ := spec_box (b := ⟨(cutL a.Sides b.Sides)[k]⟩) (B4.ok (b := ⟨(cutL a.Sides b.Sides)[k]⟩) (hB _ hm))
          unfold spec_BoxCut_L0
          simp only [lt_true (show (k : Int) < (((cutL a.Sides b.Sides).map Box.mk).length : Int) by omega), cond_true, idx_get hk, List.getElem_map, Option.bind_some, e3]
          cases u with
          | true =>
            refine .inl ⟨_, rfl, by rw [W_succ (by omega)], fun j hj p hp => ?_⟩
            rcases Nat.lt_or_ge j k with h | h
            · exact h2 j h p hp
            · obtain rfl : j = k := by omega
              rw [List.getElem?_eq_getElem hk'] at hp
              rw [← Option.some.inj hp]
              exact (BV_iff.1 (hu.1 rfl)).2
          | false =>
            refine .inr (.inl ⟨_, rfl, .inr ⟨rfl, fun h => ?_⟩⟩)
            have := hu.2 (BV_iff.2 ⟨hB _ hm, h _ hm⟩)
            cases this)
        (fun s ⟨h1, h2⟩ => by
          subst h1
          unfold spec_BoxCut_L0
          simp only [lt_false (Int.le_refl _), cond_false]
          refine .inl ⟨_, rfl, .inl ⟨_, rfl, fun p hp => ?_⟩⟩
          obtain ⟨j, hj⟩ := List.mem_iff_getElem?.1 hp
          have := (List.getElem?_eq_some_iff.1 hj).1
          exact h2 j (by simpa using this) p hj)
      rw [ho, Option.bind_some]
      rcases hq with ⟨s, rfl, h⟩ | ⟨rfl, h⟩
      · rw [if_pos ⟨hva, hvb, h⟩]; rfl
      · rw [if_neg fun h' => h h'.2.2]; rfl
theorem hasB_meet {p q : List (List Span)} {f : Nat → Int} : hasB (meetS p q) f ↔ hasB p f ∧ hasB q f := by
  unfold hasB
  constructor
  · intro h
    refine ⟨fun k hk => ?_, fun k hk => ?_⟩ <;>
    · have := h k hk
      rw [show sd (meetS p q) k = _ from sd_mk4 _ hk, has_meetL, Bool.and_eq_true] at this
      first | exact this.1 | exact this.2
  · rintro ⟨h1, h2⟩ k hk
    rw [show sd (meetS p q) k = _ from sd_mk4 _ hk, has_meetL, h1 k hk, h2 k hk]; rfl
theorem dj_empty {p q : List (List Span)} (hp : B4 p) (hq : B4 q) (h : Dj p q) : emptyS (meetS p q) := Classical.byContradiction fun hn => by
  obtain ⟨f, hf⟩ := some_point (hp.meet hq) hn
  have := hasB_meet.1 hf
  exact h f this.1 this.2
theorem cut_dj_b {a b : List (List Span)} (ha : B4 a) (hb : B4 b) : ∀ p ∈ cutL a b, Dj p b := fun p hp f h => ((cut_has ha hb f).1 ⟨p, hp, h⟩).2
theorem cut_within {a b : List (List Span)} (ha : B4 a) (hb : B4 b) : ∀ p ∈ cutL a b, Within p a := by
  intro p hp
  have hp4 := cutL_B4 ha hb p hp
  unfold cutL at hp
  split at hp
  · split at hp
    · cases hp
    · rw [List.mem_singleton.1 hp]; exact within_self ha
  · obtain ⟨n, hn, e⟩ := List.mem_filterMap.1 hp
    split at e
    · cases e
    · cases e
      refine .inr fun k hk => (less_nil_iff hp4 ha hk).2 fun v hv => ?_
      rw [has_piece ha hb hk] at hv
      split at hv
      · rw [Bool.and_eq_true] at hv; exact hv.1
      · split at hv
        · rw [Bool.and_eq_true] at hv; exact hv.1
        · exact hv
/-- Sides of pieces of small boxes. -/
theorem cut_small {a b : List (List Span)} {m n : Nat} (ha : B4 a) (hb : B4 b) (hm : FewN m a) (hn : FewN n b) : ∀ p ∈ cutL a b, FewN (m + n + 1) p := by
  intro p hp k hk
  have h1 := hm k hk
  have h2 := hn k hk
  unfold cutL at hp
  split at hp
  · split at hp
    · cases hp
    · rw [List.mem_singleton.1 hp]; omega
  · obtain ⟨i, hi, e⟩ := List.mem_filterMap.1 hp
    split at e
    · cases e
    · cases e
      rw [show sd (pieceK a b i) k = _ from sd_mk4 _ hk]
      split
      · have := (ha.2 k hk).meet_few (hb.2 k hk); omega
      · split
        · rename_i h; subst h
          have := (ha.2 k hk).less_few (hb.2 k hk)
          show (lessL (topOf k) (sd a k) (sd b k)).length ≤ m + n + 1
          omega
        · omega
/-- A point lies in at most one of boxes that are apart. -/
theorem count_dj {rest : List (List (List Span))} (h : rest.Pairwise Dj) (q : List (List Span) → Bool) {f : Nat → Int} (hq : ∀ p ∈ rest, q p = true → hasB p f) : rest.countP q ≤ 1 := by
  induction rest with
  | nil => simp
  | cons p ps ih =>
    rw [List.pairwise_cons] at h
    rw [List.countP_cons]
    have hi := ih h.2 (fun x hx => hq x (by simp [hx]))
    by_cases hp : q p = true
    · rw [if_pos hp]
      have : ps.countP q = 0 := List.countP_eq_zero.2 fun x hx hqx => h.1 x hx f (hq p (by simp) hp) (hq x (by simp [hx]) hqx)
      omega
    · rw [if_neg hp]; omega
end Go.PF.F

/- Plain laws: what a region leaves of a box (the reference), draws. -/
namespace Go.PF.F
open Go Go.PF

theorem nextL_len (rest : List (List (List Span))) (b : List (List Span)) : (nextL rest b).length ≤ 4 * rest.length := by
  induction rest with
  | nil => simp [nextL]
  | cons a as ih =>
    have : nextL (a :: as) b = cutL a b ++ nextL as b := by simp [nextL]
    rw [this, List.length_append, List.length_cons]
    have := cutL_len a b
    omega
theorem rv_okl {rest : List (List (List Span))} (h : ∀ p ∈ rest, B4 p) : RV (rest.map Box.mk) ↔ OkL rest := by
  constructor
  · rintro ⟨h1, h2⟩
    exact ⟨fun p hp => (BV_iff.1 (h1 ⟨p⟩ (List.mem_map_of_mem hp))).2, by rw [List.length_map] at h2; omega⟩
  · rintro ⟨h1, h2⟩
    refine ⟨fun x hx => ?_, by rw [List.length_map]; omega⟩
    obtain ⟨p, hp, rfl⟩ := List.mem_map.1 hx
    exact BV_iff.2 ⟨h p hp, h1 p hp⟩
theorem spec_inner {rest : List (List (List Span))} {list : List Box} {k : Nat} (hk : k < list.length) (h4 : ∀ p ∈ rest, B4 p) (hb : B4 list[k].Sides) (hl : rest.length ≤ 400) :
    loopF (spec_l11Less_L1 list (rest.map Box.mk) (k : Int)) (((((rest.map Box.mk).length : Int)) : Int) - 0).toNat.succ (([] : List Box), 0) = some (.brk ((nextL rest list[k].Sides).map Box.mk, (rest.length : Int))) := by
  refine loop_brk0 (body := spec_l11Less_L1 list (rest.map Box.mk) (k : Int)) rest.length (fun j : Nat => ((nextL (rest.take j) list[k].Sides).map Box.mk, (j : Int))) rfl (fun j hj => ?_) ?_ (by rw [List.length_map]; omega)
  · have hm := List.getElem_mem hj
    have hj' : j < (rest.map Box.mk).length := by simpa using hj
    have htk : rest.take (j + 1) = rest.take j ++ [rest[j]] := take_snoc (List.getElem?_eq_getElem hj)
    have h1 := nextL_len (rest.take j) list[k].Sides
    have h2 := cutL_len rest[j] list[k].Sides
    have h3 : (rest.take j).length ≤ 400 := by rw [List.length_take]; omega
    unfold spec_l11Less_L1
    simp only [lt_true (show (j : Int) < ((rest.map Box.mk).length : Int) by omega), cond_true, idx_get hj', idx_get hk, List.getElem_map, Option.bind_some, spec_cut (a := ⟨rest[j]⟩) (b := list[k]) (h4 _ hm) hb]
    rw [app_ok (by simp only [List.length_map]; omega), Option.bind_some, W_succ (by omega), htk, nextL_snoc, List.map_append]
  · unfold spec_l11Less_L1
    simp only [List.length_map, lt_false (Int.le_refl _), cond_false, List.take_length]
theorem spec_outer {s0 : List (List (List Span))} {list : List Box} (h0 : ∀ p ∈ s0, B4 p ∧ Few p) (hl0 : s0.length ≤ 400) (hr : ∀ x ∈ list, B4 x.Sides) (hl : list.length ≤ 100000) :
    ∃ o, loopF (spec_l11Less_L0 list) ((((list.length : Int)) : Int) - 0).toNat.succ (s0.map Box.mk, 0) = some o ∧
      ((∃ r k, o = .brk (r.map Box.mk, k) ∧ lessA s0 (list.map (·.Sides)) = some r) ∨ (o = .ret (([] : List Box), false) ∧ lessA s0 (list.map (·.Sides)) = none)) := by
  refine loop_idx (body := spec_l11Less_L0 list) list.length
    (fun k st => st.2 = (k : Int) ∧ ∃ y, st.1 = y.map Box.mk ∧ (∀ p ∈ y, B4 p ∧ Few p) ∧ y.length ≤ 400 ∧ lessA s0 (list.map (·.Sides)) = lessA y ((list.map (·.Sides)).drop k)) _
    (s := (s0.map Box.mk, 0)) ⟨rfl, s0, rfl, h0, hl0, by simp⟩
    (fun k st hk ⟨h1, y, h2, h3, h4, h5⟩ => ?_) (fun st ⟨h1, y, h2, h3, h4, h5⟩ => ?_)
  · obtain ⟨y', k1⟩ := st
    simp only at h1 h2
    subst h1 h2
    have hb := hr _ (List.getElem_mem hk)
    have hk' : k < (list.map (·.Sides)).length := by simpa using hk
    have hd : (list.map (·.Sides)).drop k = list[k].Sides :: (list.map (·.Sides)).drop (k + 1) := by rw [List.drop_eq_getElem_cons hk', List.getElem_map]
    have hB := nextL_B4 (fun p hp => (h3 p hp).1) hb
    have hlen := nextL_len y list[k].Sides
    obtain ⟨v, ev, hv⟩ := spec_region (xs := (nextL y list[k].Sides).map Box.mk) (by rw [List.length_map]; omega) (fun x hx => by
      obtain ⟨p, hp, rfl⟩ := List.mem_map.1 hx
      exact B4.ok (b := ⟨p⟩) (hB p hp))
    rw [rv_okl hB] at hv
    unfold spec_l11Less_L0
    simp only [lt_true (show (k : Int) < (list.length : Int) by omega), cond_true, spec_inner hk (fun p hp => (h3 p hp).1) hb h4, Option.bind_some, LR.on, ev]
    cases v with
    | true =>
      have hok := hv.1 rfl
      rw [W_succ (by omega)]
      exact .inl ⟨_, rfl, rfl, _, rfl, fun p hp => ⟨hB p hp, hok.1 p hp⟩, hok.2, by rw [h5, hd, lessA_yes hok]⟩
    | false =>
      have hok : ¬ OkL (nextL y list[k].Sides) := fun h => by simpa using hv.2 h
      exact .inr (.inl ⟨_, rfl, .inr ⟨rfl, by rw [h5, hd, lessA_no hok]⟩⟩)
  · obtain ⟨y', k1⟩ := st
    simp only at h1 h2
    subst h1 h2
    unfold spec_l11Less_L0
    simp only [lt_false (Int.le_refl _), cond_false]
    have : (list.map (·.Sides)).drop list.length = [] := by rw [List.drop_eq_nil_iff]; simp
    rw [this, lessA] at h5
    exact .inl ⟨_, rfl, .inl ⟨y, _, rfl, h5⟩⟩
theorem spec_less {b : Box} {list : List Box} (hb : B4 b.Sides) (hf : Few b.Sides) (hr : ∀ x ∈ list, B4 x.Sides) (hl : list.length ≤ 100000) :
    spec_l11Less b list = some (match lessA (startL b.Sides) (list.map (·.Sides)) with | some r => (r.map Box.mk, true) | none => ([], false)) := by
  unfold spec_l11Less startL
  obtain ⟨q, e, hq⟩ := spec_emp hb
  rw [e, Option.bind_some]
  cases q with
  | true =>
    rw [if_pos (hq.1 rfl), cond_true]
    obtain ⟨o, ho, h⟩ := spec_outer (s0 := []) (list := list) (fun p hp => by cases hp) (by simp) hr hl
    have ho' : loopF (spec_l11Less_L0 list) ((((list.length : Int)) : Int) - 0).toNat.succ (([] : List Box), 0) = some o := ho
    rw [ho', Option.bind_some]
    rcases h with ⟨r, k, rfl, h⟩ | ⟨rfl, h⟩
    · rw [h]; rfl
    · rw [h]; rfl
  | false =>
    rw [if_neg (fun h => by simpa using hq.2 h), cond_false, app_nil (by simp), Option.bind_some]
    obtain ⟨o, ho, h⟩ := spec_outer (s0 := [b.Sides]) (list := list) (fun p hp => by rw [List.mem_singleton.1 hp]; exact ⟨hb, hf⟩) (by simp) hr hl
    have ho' : loopF (spec_l11Less_L2 list) ((((list.length : Int)) : Int) - 0).toNat.succ ([b], 0) = some o := ho
    rw [ho', Option.bind_some]
    rcases h with ⟨r, k, rfl, h⟩ | ⟨rfl, h⟩
    · rw [h]; rfl
    · rw [h]; rfl
theorem own_boxes {list : List Box} (h : ∀ b ∈ list, OkB b) (hl : list.length ≤ 100000) : spec_l1OwnBoxList list = some list := by
  unfold spec_l1OwnBoxList
  have e := loop_brk0 (body := spec_l1OwnBoxList_L0 list) list.length (fun k : Nat => (list.take k, (k : Int))) (s0 := (([] : List Box), 0)) (s := (list, (list.length : Int))) rfl (fun k hk => by
    unfold spec_l1OwnBoxList_L0
    simp only [lt_true (show (k : Int) < (list.length : Int) by omega), cond_true, idx_get hk, Option.bind_some, own_box (h _ (List.getElem_mem hk)), app_ok (show (list.take k).length + [list[k]].length ≤ 4294967296 by simp; omega), W_succ (show k < 9223372036854775807 by omega)]
    rw [take_snoc (List.getElem?_eq_getElem hk)]) (by
    unfold spec_l1OwnBoxList_L0
    simp only [lt_false (Int.le_refl _), cond_false, List.take_length]) (fuel := ((list.length : Int) - 0).toNat.succ) (by omega)
  rw [e]
  rfl
open Classical in
/-- The reference's answer. -/
theorem spec_regionless {b : Box} {list : List Box} (hb : OkB b) (hl : list.length ≤ 100000) (hs : ∀ x ∈ list, OkB x) : spec_RegionLess b list = some (if BV b ∧ RV list then (match lessA (startL b.Sides) (list.map (·.Sides)) with | some r => (r.map Box.mk, true) | none => ([], false)) else ([], false)) := by
  obtain ⟨v, e1, hv⟩ := spec_box hb.ok
  obtain ⟨w, e2, hw⟩ := spec_region (xs := list) (by omega) (fun x hx => (hs x hx).ok)
  have o1 : spec_l1OwnBox ({ Sides := b.Sides } : Box) = some b := own_box hb
  have e1' : spec_BoxValid ({ Sides := b.Sides } : Box) = some v := e1
  unfold spec_RegionLess
  rw [o1, Option.bind_some, own_boxes hs hl, Option.bind_some, e1', Option.bind_some]
  cases v with
  | false => rw [if_neg fun h => by simpa using hv.2 h.1]; rfl
  | true =>
    rw [cond_true, e2, Option.bind_some]
    cases w with
    | false => rw [if_neg fun h => by simpa using hw.2 h.2]; rfl
    | true =>
      have hBb := hv.1 rfl
      have hR := hw.1 rfl
      obtain ⟨hb4, hbf⟩ := BV_iff.1 hBb
      have e3 : spec_l11Less ({ Sides := b.Sides } : Box) list = some _ := spec_less hb4 hbf (fun x hx => (BV_iff.1 (hR.1 x hx)).1) hl
      rw [if_pos ⟨hBb, hR⟩, cond_true, e3, Option.bind_some]
/-- One answer: what both leave. -/
theorem less_both {b : Box} {list : List Box} (hb : OkB b) (hl : list.length ≤ 100000) (hs : ∀ x ∈ list, OkB x) :
    (∃ r, impl_RegionLess b list = some (r.map Box.mk, true) ∧ spec_RegionLess b list = some (r.map Box.mk, true) ∧ BV b ∧ RV list ∧ lessA (startL b.Sides) (list.map (·.Sides)) = some r ∧ (∀ p ∈ r, B4 p ∧ Few p) ∧ r.length ≤ 400) ∨
    (impl_RegionLess b list = some ([], false) ∧ spec_RegionLess b list = some ([], false)) := by
  have h1 := regionless_is hb.ok hl (fun x hx => (hs x hx).ok)
  have h2 := spec_regionless hb hl hs
  by_cases hc : BV b ∧ RV list
  · rw [if_pos hc] at h1 h2
    obtain ⟨hb4, hbf⟩ := BV_iff.1 hc.1
    obtain ⟨_, h3⟩ := less_region (region := list.map (·.Sides)) hb4 hbf (fun p hp => by
      obtain ⟨x, hx, rfl⟩ := List.mem_map.1 hp
      exact (BV_iff.1 (hc.2.1 x hx)).1) (by simpa using hl)
    cases hr : lessA (startL b.Sides) (list.map (·.Sides)) with
    | none => rw [hr] at h1 h2; exact .inr ⟨h1, h2⟩
    | some r =>
      rw [hr] at h1 h2
      obtain ⟨h4, h5⟩ := h3 r hr
      exact .inl ⟨r, h1, h2, hc.1, hc.2, rfl, h4, h5⟩
  · rw [if_neg hc] at h1 h2
    exact .inr ⟨h1, h2⟩
theorem start_B4 {s : List (List Span)} (h : B4 s) : ∀ p ∈ startL s, B4 p := by
  unfold startL
  split
  · exact fun p hp => by cases hp
  · exact fun p hp => by rw [List.mem_singleton.1 hp]; exact h
theorem start_has {s : List (List Span)} (f : Nat → Int) : (∃ p ∈ startL s, hasB p f) ↔ hasB s f := by
  unfold startL
  split
  · rename_i h
    exact ⟨fun ⟨p, hp, _⟩ => (by cases hp), fun hf => absurd h (not_empty_of hf)⟩
  · exact ⟨fun ⟨p, hp, hf⟩ => by rw [List.mem_singleton.1 hp] at hf; exact hf, fun hf => ⟨s, by simp, hf⟩⟩
theorem start_dj {s : List (List Span)} : (startL s).Pairwise Dj ∧ ∀ p ∈ startL s, ¬ emptyS p := by
  unfold startL
  split
  · exact ⟨.nil, fun p hp => by cases hp⟩
  · rename_i h
    exact ⟨by simp, fun p hp => by rw [List.mem_singleton.1 hp]; exact h⟩
theorem BH_hasB {s : List (List Span)} (h : s.length = 4) {p : Packet} : BH ⟨s⟩ p ↔ hasB s (pf p) := BH_iff (b := ⟨s⟩) h
end Go.PF.F

/- Plain laws: RegionLess, RegionMore, RegionOrder. -/
namespace Go.PF.F
open Go Go.PF

theorem draw_regionless {code : List Int} (h : GAll GU8 code) : ∃ (b : Box) (bs : List Box), spec_DrawRegionLess code = some (b, bs) ∧ OkB b ∧ BoxesSm bs := by
  unfold spec_DrawRegionLess
  refine draw_open (R := fun m => ∃ (b : Box) (bs : List Box), m = some (b, bs) ∧ OkB b ∧ BoxesSm bs) h fun xs hx => ?_
  refine Dr.run (R := fun m => ∃ (b : Box) (bs : List Box), m = some (b, bs) ∧ OkB b ∧ BoxesSm bs) (dr_box hx 0 14) (by decide) (by decide) fun b p hb h0 h1 => ?_
  exact Dr.run (R := fun m => ∃ (b : Box) (bs : List Box), m = some (b, bs) ∧ OkB b ∧ BoxesSm bs) (dr_region hx p 14) h0 (by omega) fun bs p' hbs _ _ => ⟨b, _, rfl, hb.1, hbs⟩
theorem less_pts {b : Box} {bs : List Box} {r : List (List (List Span))} (hb : BV b) (hR : RV bs) (hl : lessA (startL b.Sides) (bs.map (·.Sides)) = some r) (f : Nat → Int) :
    (∃ p ∈ r, hasB p f) ↔ hasB b.Sides f ∧ ∀ c ∈ bs, ¬ hasB c.Sides f := by
  rw [lessA_has (start_B4 (BV_iff.1 hb).1) (fun c hc => by
    obtain ⟨x, hx, rfl⟩ := List.mem_map.1 hc
    exact (BV_iff.1 (hR.1 x hx)).1) hl f, start_has]
  simp
theorem less_djs {b : Box} {bs : List Box} {r : List (List (List Span))} (hb : BV b) (hR : RV bs) (hl : lessA (startL b.Sides) (bs.map (·.Sides)) = some r) : r.Pairwise Dj ∧ ∀ p ∈ r, ¬ emptyS p :=
  lessA_dj (start_B4 (BV_iff.1 hb).1) (fun c hc => by
    obtain ⟨x, hx, rfl⟩ := List.mem_map.1 hc
    exact (BV_iff.1 (hR.1 x hx)).1) start_dj.1 start_dj.2 hl
theorem maps_ok {r : List (List (List Span))} (hr : ∀ p ∈ r, B4 p ∧ Few p) : ∀ x ∈ r.map Box.mk, OkBox x := fun x hx => by
  obtain ⟨p, hp, rfl⟩ := List.mem_map.1 hx
  exact B4.ok (b := ⟨p⟩) (hr p hp).1
/-- A packet in what is left. -/
theorem has_left {r : List (List (List Span))} (hr : ∀ p ∈ r, B4 p ∧ Few p) (hl : r.length ≤ 400) (p : Packet) : Dec (impl_RegionHas (r.map Box.mk) p) (PV p ∧ ∃ s ∈ r, hasB s (pf p)) := by
  refine (impl_rhas (by rw [List.length_map]; omega) (maps_ok hr) p).iff ?_
  constructor
  · rintro ⟨_, hp, b, hb, hh⟩
    obtain ⟨s, hs, rfl⟩ := List.mem_map.1 hb
    exact ⟨hp, s, hs, (BH_hasB (hr s hs).1.1).1 hh⟩
  · rintro ⟨hp, s, hs, hh⟩
    exact ⟨(rv_okl fun p hp => (hr p hp).1).2 ⟨fun p hp => (hr p hp).2, hl⟩, hp, ⟨s⟩, List.mem_map_of_mem hs, (BH_hasB (hr s hs).1.1).2 hh⟩
theorem probe_region {b : Box} {bs : List Box} (hb : OkB b) (hs : BoxesSm bs) {more : List Int} (hm : ¬ (1048576 : Int) < (more.length : Int)) : ∃ p, laws_probe (bs ++ [b]) (more.length : Int) = some p :=
  probe_ok (by have := hs.1; simp; omega) (fun x hx => by
    rcases List.mem_append.1 hx with hx | hx
    · exact (hs.2 x hx).ok
    · rw [List.mem_singleton.1 hx]; exact hb.ok) (more_seed hm).1 (more_seed hm).2
theorem plain_FnRegionMore (code more : List Int) (g : GAll GU8 code) (_gm : GAll GU8 more) : laws_FnRegionMore code more = some true := by
  unfold laws_FnRegionMore
  refine draw_guard fun _ => draw_guard fun hm => ?_
  obtain ⟨b, bs, e, hb, hs⟩ := draw_regionless g
  have hn := hs.1
  rw [e, Option.bind_some]
  rcases less_both hb (show bs.length ≤ 100000 by omega) hs.2 with ⟨r, e1, e2, hBb, hR, hl, hr, hrl⟩ | ⟨e1, e2⟩
  · simp only [e1, e2, Option.bind_some, same_boxes _ _ (show (r.map Box.mk).length ≤ 9223372036854775807 by rw [List.length_map]; omega) (maps_ok hr), decide_true, cond_true, bne_self_eq_false, cond_false]
    have hRt : RV (bs.take (bs.length / 2)) := hR.take _
    have hlt := hl
    rw [← List.take_append_drop (bs.length / 2) bs, List.map_append] at hlt
    obtain ⟨m, hm1, _⟩ := lessA_app hlt
    obtain ⟨hb4, hbf⟩ := BV_iff.1 hBb
    obtain ⟨hm2, hm3⟩ := (less_region (region := (bs.take (bs.length / 2)).map (·.Sides)) hb4 hbf (fun p hp => by
      obtain ⟨x, hx, rfl⟩ := List.mem_map.1 hp
      exact (BV_iff.1 (hRt.1 x hx)).1) (by simp; omega)).2 m hm1
    have e3 : impl_RegionLess b (bs.take (bs.length / 2)) = some (m.map Box.mk, true) := by
      rw [regionless_is hb.ok (by simp; omega) (fun x hx => (hs.2 x (List.mem_of_mem_take hx)).ok), if_pos ⟨hBb, hRt⟩, hm1]
    obtain ⟨p, ep⟩ := probe_region hb hs hm
    obtain ⟨u, eu, hu⟩ := has_left hr hrl p
    obtain ⟨v, ev, hv⟩ := has_left hm2 hm3 p
    have eu' : impl_RegionHas (r.map Box.mk) ({ From := p.From, To := p.To, Port := p.Port, Proto := p.Proto } : Packet) = some u := eu
    have ev' : impl_RegionHas (m.map Box.mk) ({ From := p.From, To := p.To, Port := p.Port, Proto := p.Proto } : Packet) = some v := ev
    simp only [take_half (show bs.length ≤ 4294967296 by omega), Option.bind_some, e3, app_nil (show bs.length ≤ 4294967296 by omega), app_ok (show bs.length + [b].length ≤ 4294967296 by simp; omega), ep, cond_true, eu', ev']
    cases u with
    | false => rfl
    | true =>
      have h1 := hu.1 rfl
      have h2 := (less_pts hBb hR hl _).1 h1.2
      rw [cond_true, hv.2 ⟨h1.1, (less_pts hBb hRt hm1 _).2 ⟨h2.1, fun c hc => h2.2 c (List.mem_of_mem_take hc)⟩⟩]
  · simp only [e1, e2, Option.bind_some, same_boxes _ _ (show ([] : List Box).length ≤ 9223372036854775807 by simp) (fun x hx => by cases hx), decide_true, cond_true, bne_self_eq_false, cond_false, alive_is]
theorem turned_is {b : Box} {bs : List Box} (hl : bs.length ≤ 100000) : loopF (laws_FnRegionOrder_L0 (b, bs)) ((((W ((bs.length : Int) - 1))) : Int) + 1).toNat.succ (([] : List Box), (W ((bs.length : Int) - 1))) = some (.brk (bs.reverse, -1)) := by
  rw [W_of (by omega) (by omega)]
  refine loop_brk0 (body := laws_FnRegionOrder_L0 (b, bs)) bs.length (fun j : Nat => (bs.reverse.take j, (bs.length : Int) - 1 - (j : Int))) (by simp) (fun j hj => ?_) ?_ (by omega)
  · unfold laws_FnRegionOrder_L0
    have e : (bs.length : Int) - 1 - (j : Int) = ((bs.length - 1 - j : Nat) : Int) := by omega
    have hj' : j < bs.reverse.length := by simpa using hj
    simp only [e, le_true (show (0 : Int) ≤ ((bs.length - 1 - j : Nat) : Int) by omega), cond_true, idx_get (show bs.length - 1 - j < bs.length by omega), Option.bind_some, app_ok (show (bs.reverse.take j).length + [bs[bs.length - 1 - j]].length ≤ 4294967296 by simp; omega), W_of (show -9223372036854775808 ≤ ((bs.length - 1 - j : Nat) : Int) - 1 by omega) (by omega)]
    rw [take_snoc (List.getElem?_eq_getElem hj'), List.getElem_reverse]
    congr 3
    omega
  · unfold laws_FnRegionOrder_L0
    simp only [le_false (show (bs.length : Int) - 1 - (bs.length : Int) < 0 by omega), cond_false]
    rw [List.take_of_length_le (by simp)]
    congr 3
    omega
theorem RV.reverse {bs : List Box} (h : RV bs) : RV bs.reverse := ⟨fun b hb => h.1 b (List.mem_reverse.1 hb), by rw [List.length_reverse]; exact h.2⟩
theorem nil_of_pts {r : List (List (List Span))} (hr : ∀ p ∈ r, B4 p ∧ Few p) (hn : ∀ p ∈ r, ¬ emptyS p) : r = [] ↔ ∀ f, ¬ ∃ p ∈ r, hasB p f := by
  constructor
  · rintro rfl f ⟨p, hp, _⟩; cases hp
  · intro h
    cases r with
    | nil => rfl
    | cons p ps =>
      obtain ⟨f, hf⟩ := some_point (hr p (by simp)).1 (hn p (by simp))
      exact absurd ⟨p, by simp, hf⟩ (h f)
theorem len_zero {α : Type} (xs : List α) : ((xs.length : Int) == 0) = decide (xs = []) := by
  cases xs with
  | nil => rfl
  | cons x xs => simp; omega
theorem plain_FnRegionOrder (code more : List Int) (g : GAll GU8 code) (_gm : GAll GU8 more) : laws_FnRegionOrder code more = some true := by
  unfold laws_FnRegionOrder
  refine draw_guard fun _ => draw_guard fun hm => ?_
  obtain ⟨b, bs, e, hb, hs⟩ := draw_regionless g
  have hn := hs.1
  rw [e, Option.bind_some]
  have hl' : bs.reverse.length ≤ 100000 := by rw [List.length_reverse]; omega
  rcases less_both hb (show bs.length ≤ 100000 by omega) hs.2 with ⟨r, e1, e2, hBb, hR, hl, hr, hrl⟩ | ⟨e1, e2⟩
  · simp only [e1, e2, Option.bind_some, same_boxes _ _ (show (r.map Box.mk).length ≤ 9223372036854775807 by rw [List.length_map]; omega) (maps_ok hr), decide_true, cond_true, bne_self_eq_false, cond_false]
    rw [turned_is (by omega)]
    simp only [Option.bind_some, LR.on]
    rcases less_both hb hl' (fun x hx => hs.2 x (List.mem_reverse.1 hx)) with ⟨q, f1, _, _, hR', hl2, hq, hql⟩ | ⟨f1, _⟩
    · obtain ⟨p, ep⟩ := probe_region hb hs hm
      obtain ⟨u, eu, hu⟩ := has_left hr hrl p
      obtain ⟨v, ev, hv⟩ := has_left hq hql p
      have eu' : impl_RegionHas (r.map Box.mk) ({ From := p.From, To := p.To, Port := p.Port, Proto := p.Proto } : Packet) = some u := eu
      have ev' : impl_RegionHas (q.map Box.mk) ({ From := p.From, To := p.To, Port := p.Port, Proto := p.Proto } : Packet) = some v := ev
      have hpts : ∀ f, (∃ s ∈ r, hasB s f) ↔ ∃ s ∈ q, hasB s f := fun f => by
        rw [less_pts hBb hR hl, less_pts hBb hR' hl2]
        simp
      have huv : u = v := by rw [Bool.eq_iff_iff, hu, hv, hpts]
      have hz : (r = []) ↔ (q = []) := by
        rw [nil_of_pts hr (less_djs hBb hR hl).2, nil_of_pts hq (less_djs hBb hR' hl2).2]
        simp only [hpts]
      simp only [f1, Option.bind_some, cond_true, app_nil (show bs.length ≤ 4294967296 by omega), app_ok (show bs.length + [b].length ≤ 4294967296 by simp; omega), ep, eu', ev', huv, beq_self_eq_true, List.length_map, len_zero, hz, List.map_eq_nil_iff]
    · simp only [f1, Option.bind_some, cond_false, alive_is]
  · simp only [e1, e2, Option.bind_some, same_boxes _ _ (show ([] : List Box).length ≤ 9223372036854775807 by simp) (fun x hx => by cases hx), decide_true, cond_true, bne_self_eq_false, cond_false]
    rw [turned_is (by omega)]
    simp only [Option.bind_some, LR.on]
    rcases less_both hb hl' (fun x hx => hs.2 x (List.mem_reverse.1 hx)) with ⟨q, f1, _⟩ | ⟨f1, _⟩
    · simp only [f1, Option.bind_some, alive_is]
    · simp only [f1, Option.bind_some, alive_is]
open Classical in
/-- Does the point of the packet lie in s. -/
noncomputable def inP (p : Packet) (s : List (List Span)) : Bool := decide (PV p ∧ hasB s (pf p))
theorem inP_iff {p : Packet} {s : List (List Span)} : inP p s = true ↔ PV p ∧ hasB s (pf p) := by unfold inP; simp
theorem inP_is {p : Packet} {s : List (List Span)} (h : B4 s) (hf : Few s) : impl_BoxHas ⟨s⟩ p = some (inP p s) := by
  obtain ⟨u, eu, hu⟩ := impl_has (B4.ok (b := ⟨s⟩) h) p
  rw [eu]
  congr 1
  rw [Bool.eq_iff_iff, hu, inP_iff, BH_hasB h.1]
  exact ⟨fun x => ⟨x.2.1, x.2.2⟩, fun x => ⟨BV_iff.2 ⟨h, hf⟩, x.1, x.2⟩⟩
theorem not_empty_is {s : List (List Span)} (h : B4 s) (hn : ¬ emptyS s) : impl_BoxEmpty ⟨s⟩ = some false := by
  obtain ⟨u, eu, hu⟩ := impl_emptyb (B4.ok (b := ⟨s⟩) h)
  cases u with
  | false => exact eu
  | true => exact absurd (hu.1 rfl).2 hn
theorem countP_snoc {α : Type} {q : α → Bool} {xs : List α} {k : Nat} (h : k < xs.length) : (xs.take (k + 1)).countP q = (xs.take k).countP q + (if q xs[k] then 1 else 0) := by
  rw [take_snoc (List.getElem?_eq_getElem h), List.countP_append]
  simp
theorem less_loop {r : List (List (List Span))} {fl : Bool} (hr : ∀ p ∈ r, B4 p ∧ Few p) (hl : r.length ≤ 400) (hne : ∀ p ∈ r, ¬ emptyS p) (p : Packet) :
    loopF (laws_FnRegionLess_L0 (r.map Box.mk, fl) p) (((((r.map Box.mk).length : Int)) : Int) - 0).toNat.succ (0, 0) = some (.brk ((r.countP (inP p) : Nat), (r.length : Int))) := by
  refine loop_brk0 (body := laws_FnRegionLess_L0 (r.map Box.mk, fl) p) r.length (fun k : Nat => (((r.take k).countP (inP p) : Nat), (k : Int))) rfl (fun k hk => ?_) ?_ (by rw [List.length_map]; omega)
  · have hm := hr _ (List.getElem_mem hk)
    have hk' : k < (r.map Box.mk).length := by simpa using hk
    have hc : (r.take k).countP (inP p) ≤ 400 := by
      have := List.countP_le_length (p := inP p) (l := r.take k)
      rw [List.length_take] at this
      omega
    have e1 : impl_BoxHas ⟨r[k]⟩ ({ From := p.From, To := p.To, Port := p.Port, Proto := p.Proto } : Packet) = some (inP p r[k]) := inP_is hm.1 hm.2
    unfold laws_FnRegionLess_L0
    simp only [lt_true (show (k : Int) < ((r.map Box.mk).length : Int) by omega), cond_true, idx_get hk', List.getElem_map, Option.bind_some, e1, not_empty_is hm.1 (hne _ (List.getElem_mem hk)), cond_false, W_succ (show k < 9223372036854775807 by omega), W_succ (show (r.take k).countP (inP p) < 9223372036854775807 by omega), countP_snoc hk]
    cases inP p r[k] <;> simp
  · unfold laws_FnRegionLess_L0
    simp only [List.length_map, lt_false (Int.le_refl _), cond_false, List.take_length]
theorem count_pos {r : List (List (List Span))} {p : Packet} (hd : r.Pairwise Dj) : r.countP (inP p) ≤ 1 ∧ (r.countP (inP p) = 1 ↔ PV p ∧ ∃ s ∈ r, hasB s (pf p)) := by
  have h1 := count_dj hd (inP p) (f := pf p) (fun s _ h => (inP_iff.1 h).2)
  refine ⟨h1, ?_⟩
  have h2 : 0 < r.countP (inP p) ↔ ∃ s ∈ r, inP p s = true := List.countP_pos_iff
  constructor
  · intro h
    obtain ⟨s, hs, hp⟩ := h2.1 (by omega)
    exact ⟨(inP_iff.1 hp).1, s, hs, (inP_iff.1 hp).2⟩
  · rintro ⟨hp, s, hs, hh⟩
    have := h2.2 ⟨s, hs, inP_iff.2 ⟨hp, hh⟩⟩
    omega
theorem one_eq {n : Nat} {b : Bool} (h : n = 1 ↔ b = true) : (((n : Nat) : Int) == 1) = b := by
  rw [Bool.eq_iff_iff, ← h]
  simp
  omega
theorem plain_FnRegionLess (code more : List Int) (g : GAll GU8 code) (_gm : GAll GU8 more) : laws_FnRegionLess code more = some true := by
  unfold laws_FnRegionLess
  refine draw_guard fun _ => draw_guard fun hm => ?_
  obtain ⟨b, bs, e, hb, hs⟩ := draw_regionless g
  have hn := hs.1
  rw [e, Option.bind_some]
  rcases less_both hb (show bs.length ≤ 100000 by omega) hs.2 with ⟨r, e1, e2, hBb, hR, hl, hr, hrl⟩ | ⟨e1, e2⟩
  · simp only [e1, e2, Option.bind_some, same_boxes _ _ (show (r.map Box.mk).length ≤ 9223372036854775807 by rw [List.length_map]; omega) (maps_ok hr), decide_true, cond_true, bne_self_eq_false, cond_false]
    obtain ⟨p, ep⟩ := probe_region hb hs hm
    have hd := less_djs hBb hR hl
    obtain ⟨hc1, hc2⟩ := count_pos (p := p) hd.1
    rw [app_nil (show bs.length ≤ 4294967296 by omega), Option.bind_some, app_ok (show bs.length + [b].length ≤ 4294967296 by simp; omega), Option.bind_some, ep, Option.bind_some, less_loop hr hrl hd.2 p]
    obtain ⟨u, eu, hu⟩ := impl_has hb.ok p
    obtain ⟨v, ev, hv⟩ := impl_rhas (show bs.length ≤ 9223372036854775807 by omega) (fun x hx => (hs.2 x hx).ok) p
    have eu' : impl_BoxHas b ({ From := p.From, To := p.To, Port := p.Port, Proto := p.Proto } : Packet) = some u := eu
    have ev' : impl_RegionHas bs ({ From := p.From, To := p.To, Port := p.Port, Proto := p.Proto } : Packet) = some v := ev
    simp only [Option.bind_some, LR.on, le_true (show ((r.countP (inP p) : Nat) : Int) ≤ 1 by omega), cond_true, eu', ev']
    rw [less_pts hBb hR hl] at hc2
    have hub : u = true ↔ PV p ∧ hasB b.Sides (pf p) := by
      rw [hu]
      have := (BV_iff.1 hBb).1.1
      exact ⟨fun x => ⟨x.2.1, (BH_hasB this).1 x.2.2⟩, fun x => ⟨hBb, x.1, (BH_hasB this).2 x.2⟩⟩
    have hvb : v = true ↔ PV p ∧ ∃ c ∈ bs, hasB c.Sides (pf p) := by
      rw [hv]
      constructor
      · rintro ⟨_, hp, c, hc, hh⟩
        exact ⟨hp, c, hc, (BH_hasB (BV_iff.1 (hR.1 c hc)).1.1).1 hh⟩
      · rintro ⟨hp, c, hc, hh⟩
        exact ⟨hR, hp, c, hc, (BH_hasB (BV_iff.1 (hR.1 c hc)).1.1).2 hh⟩
    cases u with
    | false =>
      have : (((r.countP (inP p) : Nat) : Int) == 1) = false := one_eq (hc2.trans ⟨fun x => hub.2 ⟨x.1, x.2.1⟩, fun x => by cases x⟩)
      simp only [cond_false, this, beq_self_eq_true]
    | true =>
      have hp := hub.1 rfl
      have : (((r.countP (inP p) : Nat) : Int) == 1) = !v := one_eq (hc2.trans ⟨fun x => by
          cases v with
          | false => rfl
          | true =>
            obtain ⟨_, c, hc, hh⟩ := hvb.1 rfl
            exact absurd hh (x.2.2 c hc), fun x => ⟨hp.1, hp.2, fun c hc hh => by
          rw [hvb.2 ⟨hp.1, c, hc, hh⟩] at x; cases x⟩⟩)
      simp only [cond_true, this, beq_self_eq_true]
  · simp only [e1, e2, Option.bind_some, same_boxes _ _ (show ([] : List Box).length ≤ 9223372036854775807 by simp) (fun x hx => by cases hx), decide_true, cond_true, bne_self_eq_false, cond_false, alive_is]
    rfl
end Go.PF.F

/- Plain laws: BoxCut. -/
namespace Go.PF.F
open Go Go.PF

theorem draw_boxcut {code : List Int} (h : GAll GU8 code) : ∃ (a b : Box), spec_DrawBoxCut code = some (a, b) ∧ OkN 7 a ∧ OkN 14 b := by
  unfold spec_DrawBoxCut
  refine draw_open (R := fun m => ∃ (a b : Box), m = some (a, b) ∧ OkN 7 a ∧ OkN 14 b) h fun xs hx => ?_
  obtain ⟨a, b, p, e, ha, hb, _, _⟩ := dr_two14 hx (pos := 0) (by decide) (by decide)
  have e' : spec_l20Two (xs, (0 : Int)).1 (xs, (0 : Int)).2 = some (a, b, p) := e
  rw [e']
  exact ⟨a, b, rfl, ha, hb⟩
theorem Set0.meet_self {top : Int} {a : List Span} (h : Set0 top a) : meetL a a = a := (h.meet h).ext h fun v => by rw [has_meetL, Bool.and_self]
/-- The meetings of pieces of small boxes are small. -/
theorem cut_meets {a b : List (List Span)} (ha : B4 a) (hb : B4 b) (hm : FewN 7 a) (hn : FewN 14 b) : (cutL a b).Pairwise fun p q => Few (meetS p q) := by
  have hsm := cut_small ha hb hm hn
  have hin : ∀ n, n < 4 → lessK a b n ≠ [] → ¬ emptyS (meetS a b) → pieceK a b n ∈ cutL a b := fun n hn hz he => by
    unfold cutL
    rw [if_neg he]
    exact List.mem_filterMap.2 ⟨n, List.mem_range.2 hn, by rw [if_neg hz]⟩
  by_cases he : emptyS (meetS a b)
  · unfold cutL
    rw [if_pos he]
    split <;> simp
  · have hin := fun n hn hz => hin n hn hz he
    unfold cutL
    rw [if_neg he]
    unfold cutN
    refine filterMap_pairwise (S := fun x y => x < y ∧ y < 4) ?_ ?_
    · rintro x y u v ⟨hxy, hy⟩ hu hv
      split at hu
      · cases hu
      · rename_i hzx
        split at hv
        · cases hv
        · rename_i hzy
          cases hu; cases hv
          intro k hk
          rw [show sd (meetS (pieceK a b x) (pieceK a b y)) k = _ from sd_mk4 _ hk]
          have hpx := pieceK_B4 ha hb (show x < 4 by omega)
          have hpy := pieceK_B4 ha hb hy
          have hmk := ((ha.2 k hk).meet_few (hb.2 k hk))
          have h1 := hm k hk
          have h2 := hn k hk
          rcases Nat.lt_trichotomy k x with hkx | hkx | hkx
          · have e1 : sd (pieceK a b x) k = meetL (sd a k) (sd b k) := by rw [show sd (pieceK a b x) k = _ from sd_mk4 _ hk, if_pos hkx]
            have e2 : sd (pieceK a b y) k = meetL (sd a k) (sd b k) := by rw [show sd (pieceK a b y) k = _ from sd_mk4 _ hk, if_pos (by omega)]
            rw [e1, e2, ((ha.2 k hk).meet (hb.2 k hk)).meet_self]
            omega
          · subst hkx
            have : sd (meetS (pieceK a b k) (pieceK a b y)) k = [] := (meet_nil_iff hpx hpy hk).2 fun v hv => by
              rw [has_piece ha hb hk, if_neg (by omega), if_pos rfl, Bool.and_eq_true] at hv
              rw [has_piece ha hb hk, if_pos hxy, hv.1]
              simpa using hv.2
            rw [show sd (meetS (pieceK a b k) (pieceK a b y)) k = _ from sd_mk4 _ hk] at this
            rw [this]; simp
          · have e1 : sd (pieceK a b x) k = sd a k := by rw [show sd (pieceK a b x) k = _ from sd_mk4 _ hk, if_neg (by omega), if_neg (by omega)]
            have h3 := hsm _ (hin y hy hzy) k hk
            have := (hpx.2 k hk).meet_few (hpy.2 k hk)
            rw [e1] at this ⊢
            omega
    · rw [List.pairwise_iff_getElem]
      intro i j hi hj hij
      simp at hi hj ⊢
      omega
/-- A meeting without points is empty. -/
theorem meet_empty {p q : List (List Span)} (hp : B4 p) (hq : B4 q) (hpf : Few p) (hqf : Few q) (hd : Dj p q) (hf : Few (meetS p q)) : ∃ m, impl_BoxMeet ⟨p⟩ ⟨q⟩ = some m ∧ impl_BoxEmpty m = some true := by
  obtain ⟨m, em, hy, _⟩ := impl_meetb (B4.ok (b := ⟨p⟩) hp) (B4.ok (b := ⟨q⟩) hq)
  have hm := hy ⟨BV_iff.2 ⟨hp, hpf⟩, BV_iff.2 ⟨hq, hqf⟩, hf⟩
  subst hm
  refine ⟨_, em, ?_⟩
  obtain ⟨u, eu, hu⟩ := impl_emptyb (B4.ok (b := ⟨meetS p q⟩) (hp.meet hq))
  rw [eu, hu.2 ⟨BV_iff.2 ⟨hp.meet hq, hf⟩, dj_empty hp hq hd⟩]
theorem meets_loop {r : List (List (List Span))} (hr : ∀ p ∈ r, B4 p ∧ Few p) (hl : r.length ≤ 400) (hd : r.Pairwise Dj) (hm : r.Pairwise fun p q => Few (meetS p q)) {k : Nat} (hk : k < r.length) :
    loopF (laws_FnBoxCut_L1 (r.map Box.mk) (k : Int) ⟨r[k]⟩) (((k : Int) : Int) - 0).toNat.succ 0 = some (.brk (k : Int)) := by
  refine loop_brk0 (body := laws_FnBoxCut_L1 (r.map Box.mk) (k : Int) ⟨r[k]⟩) k (fun j : Nat => (j : Int)) rfl (fun j hj => ?_) ?_ (by omega)
  · have hj' : j < (r.map Box.mk).length := by rw [List.length_map]; omega
    have h1 := hr _ (List.getElem_mem (show j < r.length by omega))
    have h2 := hr _ (List.getElem_mem hk)
    obtain ⟨m, em, ee⟩ := meet_empty h1.1 h2.1 h1.2 h2.2 (List.pairwise_iff_getElem.1 hd j k (by omega) hk hj) (List.pairwise_iff_getElem.1 hm j k (by omega) hk hj)
    unfold laws_FnBoxCut_L1
    simp only [lt_true (show (j : Int) < (k : Int) by omega), cond_true, idx_get hj', List.getElem_map, Option.bind_some, em, ee, W_succ (show j < 9223372036854775807 by omega)]
  · unfold laws_FnBoxCut_L1
    simp only [lt_false (Int.le_refl _), cond_false]
theorem cut_loop {a b : Box} {r : List (List (List Span))} (ha : BV a) (hb : BV b) (hr : ∀ p ∈ r, B4 p ∧ Few p) (hl : r.length ≤ 400) (hne : ∀ p ∈ r, ¬ emptyS p) (hd : r.Pairwise Dj) (hm : r.Pairwise fun p q => Few (meetS p q))
    (hw : ∀ p ∈ r, Within p a.Sides) (hdb : ∀ p ∈ r, Dj p b.Sides) (hfb : ∀ p ∈ r, Few (meetS p b.Sides)) (p : Packet) :
    loopF (laws_FnBoxCut_L0 (a, b) (r.map Box.mk) p) (((((r.map Box.mk).length : Int)) : Int) - 0).toNat.succ (0, 0) = some (.brk ((r.countP (inP p) : Nat), (r.length : Int))) := by
  obtain ⟨ha4, haf⟩ := BV_iff.1 ha
  obtain ⟨hb4, hbf⟩ := BV_iff.1 hb
  refine loop_brk0 (body := laws_FnBoxCut_L0 (a, b) (r.map Box.mk) p) r.length (fun k : Nat => (((r.take k).countP (inP p) : Nat), (k : Int))) rfl (fun k hk => ?_) ?_ (by rw [List.length_map]; omega)
  · have hmem := List.getElem_mem hk
    have hm1 := hr _ hmem
    have hk' : k < (r.map Box.mk).length := by simpa using hk
    have hc : (r.take k).countP (inP p) ≤ 400 := by
      have := List.countP_le_length (p := inP p) (l := r.take k)
      rw [List.length_take] at this
      omega
    have e1 : impl_BoxHas ⟨r[k]⟩ p = some (inP p r[k]) := inP_is hm1.1 hm1.2
    obtain ⟨w, ew, hw1⟩ := impl_within (B4.ok (b := ⟨r[k]⟩) hm1.1) (B4.ok ha4)
    obtain rfl : w = true := hw1.2 ⟨BV_iff.2 hm1, ha, hw _ hmem⟩
    have ew' : impl_BoxWithin ⟨r[k]⟩ ({ Sides := (a, b).1.Sides } : Box) = some true := ew
    obtain ⟨m, em, ee⟩ := meet_empty hm1.1 hb4 hm1.2 hbf (hdb _ hmem) (hfb _ hmem)
    have em' : impl_BoxMeet ⟨r[k]⟩ ({ Sides := (a, b).2.Sides } : Box) = some m := em
    have l1 := meets_loop hr hl hd hm hk
    have l2 : loopF (laws_FnBoxCut_L2 (r.map Box.mk) (k : Int) ⟨r[k]⟩) (((k : Int) : Int) - 0).toNat.succ 0 = some (.brk (k : Int)) := l1
    unfold laws_FnBoxCut_L0
    simp only [lt_true (show (k : Int) < ((r.map Box.mk).length : Int) by omega), cond_true, idx_get hk', List.getElem_map, Option.bind_some, e1, not_empty_is hm1.1 (hne _ hmem), cond_false, ew', em', ee, l1, l2, LR.on, W_succ (show k < 9223372036854775807 by omega), W_succ (show (r.take k).countP (inP p) < 9223372036854775807 by omega), countP_snoc hk]
    cases inP p r[k] <;> simp
  · unfold laws_FnBoxCut_L0
    simp only [List.length_map, lt_false (Int.le_refl _), cond_false, List.take_length]
theorem plain_FnBoxCut (code more : List Int) (g : GAll GU8 code) (_gm : GAll GU8 more) : laws_FnBoxCut code more = some true := by
  unfold laws_FnBoxCut
  refine draw_guard fun _ => draw_guard fun hm => ?_
  obtain ⟨a, b, e, ha, hb⟩ := draw_boxcut g
  have oa := ha.okB (by decide)
  have ob := hb.okB (by decide)
  have e1 : impl_BoxCut ({ Sides := (a, b).1.Sides } : Box) ({ Sides := (a, b).2.Sides } : Box) = some _ := boxcut_is oa.ok ob.ok
  have e2 : spec_BoxCut ({ Sides := (a, b).1.Sides } : Box) ({ Sides := (a, b).2.Sides } : Box) = some _ := spec_boxcut oa ob
  obtain ⟨v, e3, hv⟩ := spec_box oa.ok
  obtain ⟨w, e4, hw⟩ := spec_box ob.ok
  have e3' : spec_BoxValid ({ Sides := (a, b).1.Sides } : Box) = some v := e3
  have e4' : spec_BoxValid ({ Sides := (a, b).2.Sides } : Box) = some w := e4
  rw [e, Option.bind_some, e1, Option.bind_some, e2, Option.bind_some]
  by_cases hc : BV a ∧ BV b
  · obtain ⟨hBa, hBb⟩ := hc
    obtain ⟨ha4, haf⟩ := BV_iff.1 hBa
    obtain ⟨hb4, hbf⟩ := BV_iff.1 hBb
    have na : FewN 7 a.Sides := fun k hk => ha.sd k
    have nb : FewN 14 b.Sides := fun k hk => hb.sd k
    have hfew : ∀ p ∈ cutL a.Sides b.Sides, Few p := cut_few ha4 hb4 haf fun k hk => by
      have := na k hk
      have := nb k hk
      omega
    rw [if_pos ⟨hBa, hBb, hfew⟩]
    have hB := cutL_B4 ha4 hb4
    have hr : ∀ p ∈ cutL a.Sides b.Sides, B4 p ∧ Few p := fun p hp => ⟨hB p hp, hfew p hp⟩
    have hcl := cutL_len a.Sides b.Sides
    obtain rfl : v = true := hv.2 hBa
    obtain rfl : w = true := hw.2 hBb
    have hsm := cut_small ha4 hb4 na nb
    have hd := cut_dj ha4 hb4
    obtain ⟨p, ep⟩ := probe_ok (list := [⟨a.Sides⟩, ⟨b.Sides⟩]) (by simp) (by
      intro x hx
      rcases List.mem_cons.1 hx with rfl | hx
      · exact oa.ok
      · rw [List.mem_singleton.1 hx]; exact ob.ok) (more_seed hm).1 (more_seed hm).2
    have ep' : laws_probe [({ Sides := (a, b).1.Sides } : Box), ({ Sides := (a, b).2.Sides } : Box)] (more.length : Int) = some p := ep
    obtain ⟨hc1, hc2⟩ := count_pos (p := p) hd
    rw [same_boxes _ _ (show ((cutL a.Sides b.Sides).map Box.mk).length ≤ 9223372036854775807 by rw [List.length_map]; omega) (maps_ok hr), decide_eq_true rfl, Option.bind_some, cond_true, e3', Option.bind_some, cond_true, e4', Option.bind_some, cond_true, ep', Option.bind_some,
      cut_loop hBa hBb hr (by omega) (cut_ne ha4 hb4) hd (cut_meets ha4 hb4 na nb) (cut_within ha4 hb4) (cut_dj_b ha4 hb4) (fun q hq k hk => by
        rw [show sd (meetS q b.Sides) k = _ from sd_mk4 _ hk]
        have h1 := (hB q hq).2 k hk
        have := h1.meet_few (hb4.2 k hk)
        have := hsm q hq k hk
        have := nb k hk
        omega) p]
    obtain ⟨u, eu, hu⟩ := impl_has oa.ok p
    obtain ⟨z, ez, hz⟩ := impl_has ob.ok p
    have eu' : impl_BoxHas ({ Sides := (a, b).1.Sides } : Box) p = some u := eu
    have ez' : impl_BoxHas ({ Sides := (a, b).2.Sides } : Box) p = some z := ez
    have hub : u = true ↔ PV p ∧ hasB a.Sides (pf p) := by
      rw [hu]
      exact ⟨fun x => ⟨x.2.1, (BH_hasB ha4.1).1 x.2.2⟩, fun x => ⟨hBa, x.1, (BH_hasB ha4.1).2 x.2⟩⟩
    have hzb : z = true ↔ PV p ∧ hasB b.Sides (pf p) := by
      rw [hz]
      exact ⟨fun x => ⟨x.2.1, (BH_hasB hb4.1).1 x.2.2⟩, fun x => ⟨hBb, x.1, (BH_hasB hb4.1).2 x.2⟩⟩
    rw [cut_has ha4 hb4] at hc2
    simp only [Option.bind_some, LR.on, List.length_map, le_true (show ((cutL a.Sides b.Sides).length : Int) ≤ 4 by omega), le_true (show (((cutL a.Sides b.Sides).countP (inP p) : Nat) : Int) ≤ 1 by omega), cond_true, eu', ez']
    cases u with
    | false =>
      have : ((((cutL a.Sides b.Sides).countP (inP p) : Nat) : Int) == 1) = false := one_eq (hc2.trans ⟨fun x => hub.2 ⟨x.1, x.2.1⟩, fun x => by cases x⟩)
      simp only [cond_false, this, beq_self_eq_true, cond_true]
    | true =>
      have hp := hub.1 rfl
      have : ((((cutL a.Sides b.Sides).countP (inP p) : Nat) : Int) == 1) = !z := one_eq (hc2.trans ⟨fun x => by
          cases z with
          | false => rfl
          | true => exact absurd (hzb.1 rfl).2 x.2.2, fun x => ⟨hp.1, hp.2, fun hh => by
          rw [hzb.2 ⟨hp.1, hh⟩] at x; cases x⟩⟩)
      simp only [cond_true, this, beq_self_eq_true]
  · rw [if_neg fun h => hc ⟨h.1, h.2.1⟩]
    rw [same_boxes _ _ (show ([] : List Box).length ≤ 9223372036854775807 by simp) (fun x hx => by cases hx), decide_eq_true rfl, Option.bind_some, cond_true, e3', Option.bind_some]
    cases v with
    | false => rfl
    | true =>
      rw [cond_true, e4', Option.bind_some]
      cases w with
      | false => rfl
      | true => exact absurd ⟨hv.1 rfl, hw.1 rfl⟩ hc
end Go.PF.F
