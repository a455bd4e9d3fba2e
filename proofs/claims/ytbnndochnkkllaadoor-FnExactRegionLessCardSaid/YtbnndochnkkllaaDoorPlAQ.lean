import Derived.Test.YtbnndochnkkllaaDoorPlY
/- Plain laws: cutting boxes (the program). -/
namespace Go.PF.F
open Go Go.PF

/-- The first number that two sets share. -/
theorem first_common {ta tb : Int} {a b : List Span} (ha : Set0 ta a) (hb : Set0 tb b) : ∃ n f, impl_firstCommon a b = some (n, f) ∧ (f = true → has a n = true ∧ has b n = true) ∧ (f = false → ∀ v, has a v = true → has b v = false) := by
  have hla := ha.len
  have hlb := hb.len
  unfold impl_firstCommon
  obtain ⟨o, ho, hq⟩ := loop_wf (body := impl_firstCommon_L0 a b)
    (fun s => ∃ i j : Nat, s = ((i : Int), (j : Int)) ∧ i ≤ a.length ∧ j ≤ b.length ∧ (∀ v, has (a.take i) v = true → has b v = false) ∧ ∀ v, has (b.take j) v = true → has a v = false)
    (fun s => (a.length - s.1.toNat) + (b.length - s.2.toNat))
    (fun o => (∃ s, o = .brk s ∧ ∀ v, has a v = true → has b v = false) ∨ ∃ n, o = .ret (n, true) ∧ has a n = true ∧ has b n = true)
    (fun s ⟨i, j, hs, hi, hj, h1, h2⟩ => by
      subst hs
      unfold impl_firstCommon_L0
      rcases drop_cases a i hi with ⟨e, rfl⟩ | ⟨x, t, e, hi', hx, et⟩
      · refine .inr (.inl ⟨_, by simp only [lt_false (Int.le_refl _), cond_false]; rfl, .inl ⟨_, rfl, fun v hv => h1 v (by simpa using hv)⟩⟩)
      · rcases drop_cases b j hj with ⟨e', rfl⟩ | ⟨y, u, e', hj', hy, et'⟩
        · refine .inr (.inl ⟨_, by simp only [lt_true (show (i : Int) < (a.length : Int) by omega), lt_false (Int.le_refl _), cond_true, cond_false]; rfl, .inl ⟨_, rfl, fun v hv => ?_⟩⟩)
          rw [Bool.eq_false_iff]
          intro h
          have := h2 v (by simpa using h)
          rw [hv] at this; cases this
        · simp only [lt_true (show (i : Int) < (a.length : Int) by omega), lt_true (show (j : Int) < (b.length : Int) by omega), cond_true, hx, hy, Option.bind_some]
          have ea : a = a.take i ++ x :: t := by rw [← e, List.take_append_drop]
          have eb : b = b.take j ++ y :: u := by rw [← e', List.take_append_drop]
          have ca : Cn 0 (x :: t) := cn_right (by rw [← ea]; exact ha.cn)
          have cb : Cn 0 (y :: u) := cn_right (by rw [← eb]; exact hb.cn)
          have hasA : ∀ v, has a v = (has (a.take i) v || (inS x v || has t v)) := fun v => by rw [← has_cons, ← has_app, ← ea]
          have hasB : ∀ v, has b v = (has (b.take j) v || (inS y v || has u v)) := fun v => by rw [← has_cons, ← has_app, ← eb]
          by_cases hc : imax x.Lo y.Lo ≤ imin x.Hi y.Hi
          · rw [decide_eq_true hc, cond_true]
            refine .inr (.inr ⟨_, rfl, .inr ⟨_, rfl, ?_⟩⟩)
            have h3 := le_imin.1 hc
            have h4 := imax_le.1 (Int.le_refl (imax x.Lo y.Lo))
            rw [hasA, hasB, inS_iff.2 ⟨h4.1, h3.1⟩, inS_iff.2 ⟨h4.2, h3.2⟩]
            simp
          · rw [decide_eq_false hc, cond_false]
            have hdis : ∀ v, inS x v = true → inS y v = false := fun v hv => by
              rw [Bool.eq_false_iff]
              intro hv'
              have p := inS_iff.1 hv
              have q := inS_iff.1 hv'
              exact hc (le_imin.2 ⟨imax_le.2 ⟨by omega, by omega⟩, imax_le.2 ⟨by omega, by omega⟩⟩)
            by_cases hlt : x.Hi < y.Hi
            · rw [decide_eq_true hlt, cond_true]
              refine .inl ⟨_, rfl, ⟨i + 1, j, by rw [W_succ (by omega)], hi', hj, fun v hv => ?_, h2⟩, by simp only [W_succ (show i < 9223372036854775807 by omega), Int.toNat_natCast]; omega⟩
              rw [take_snoc (x := x) (by rw [idx_nat] at hx; exact hx), has_app, Bool.or_eq_true] at hv
              rcases hv with hv | hv
              · exact h1 v hv
              · rw [has_cons, has_nil, Bool.or_false] at hv
                rw [Bool.eq_false_iff]
                intro hb'
                rw [hasB, Bool.or_eq_true, Bool.or_eq_true] at hb'
                rcases hb' with h | h | h
                · have := h2 v h
                  rw [hasA, hv] at this
                  simp at this
                · rw [hdis v hv] at h; cases h
                · have := cn_has cb.2.2 h
                  have := inS_iff.1 hv
                  omega
            · rw [decide_eq_false hlt, cond_false]
              refine .inl ⟨_, rfl, ⟨i, j + 1, by rw [W_succ (by omega)], hi, hj', h1, fun v hv => ?_⟩, by simp only [W_succ (show j < 9223372036854775807 by omega), Int.toNat_natCast]; omega⟩
              rw [take_snoc (x := y) (by rw [idx_nat] at hy; exact hy), has_app, Bool.or_eq_true] at hv
              rcases hv with hv | hv
              · exact h2 v hv
              · rw [has_cons, has_nil, Bool.or_false] at hv
                rw [Bool.eq_false_iff]
                intro ha'
                rw [hasA, Bool.or_eq_true, Bool.or_eq_true] at ha'
                rcases ha' with h | h | h
                · have := h1 v h
                  rw [hasB, hv] at this
                  simp at this
                · rw [hdis v h] at hv; cases hv
                · have := cn_has ca.2.2 h
                  have := inS_iff.1 hv
                  omega)
    ((a.length : Int) + (b.length : Int)).toNat.succ (0, 0) ⟨0, 0, rfl, Nat.zero_le _, Nat.zero_le _, by simp [has], by simp [has]⟩ (by simp; omega)
  rw [ho, Option.bind_some]
  rcases hq with ⟨s, rfl, h⟩ | ⟨n, rfl, h⟩
  · exact ⟨_, _, rfl, fun h => (by cases h), fun _ => h⟩
  · exact ⟨_, _, rfl, fun _ => h, fun h => by cases h⟩
theorem touches_is {a b : List (List Span)} (ha : B4 a) (hb : B4 b) : Dec (impl_sides_touches a b) (¬ emptyS (meetS a b)) := by
  unfold impl_sides_touches impl_sides_firstCommon
  obtain ⟨o, ho, hq⟩ := loop_idx (body := impl_sides_firstCommon_L0 a b) 4 (fun k s => s.1 = (k : Int) ∧ s.2.2.2.2.2.length = 4 ∧ ∀ j, j < k → ¬ sd (meetS a b) j = [])
    (fun o => (∃ s : Int × Int × Int × Int × Int × List Int, o = .brk s ∧ s.2.2.2.2.2.length = 4 ∧ ¬ emptyS (meetS a b)) ∨ ∃ p, o = .ret (p, false) ∧ emptyS (meetS a b)) (s := (0, 0, 0, 0, 0, [0, 0, 0, 0])) ⟨rfl, rfl, fun j hj => by omega⟩
    (fun k s hk ⟨h1, h2, h3⟩ => by
      obtain ⟨k1, k2, k3, k4, k5, y⟩ := s
      simp only at h1 h2
      subst h1
      unfold impl_sides_firstCommon_L0
      obtain ⟨n, f, e, ht, hf⟩ := first_common (ha.2 k hk) (hb.2 k hk)
      simp only [lt_true (show (k : Int) < 4 by omega), cond_true, sd_idx ha.1 hk, sd_idx hb.1 hk, Option.bind_some, e]
      cases f with
      | true =>
        refine .inl ⟨_, by simp only [cond_true, idx_get (show k < y.length by omega), Option.bind_some]; rfl, by rw [W_succ (by omega)], by simpa using h2, fun j hj => ?_⟩
        rcases Nat.lt_or_ge j k with h | h
        · exact h3 j h
        · obtain rfl : j = k := by omega
          intro hm
          have := (meet_nil_iff ha hb hk).1 hm n (ht rfl).1
          rw [(ht rfl).2] at this; cases this
      | false =>
        refine .inr (.inl ⟨_, rfl, .inr ⟨_, rfl, k, hk, (meet_nil_iff ha hb hk).2 (hf rfl)⟩⟩))
    (fun s ⟨h1, h2, h3⟩ => by
      obtain ⟨k1, k2, k3, k4, k5, y⟩ := s
      simp only at h1 h2
      subst h1
      unfold impl_sides_firstCommon_L0
      refine .inl ⟨_, rfl, .inl ⟨_, rfl, h2, fun ⟨k, hk, e⟩ => h3 k hk e⟩⟩)
  have ho' : loopF (impl_sides_firstCommon_L0 a b) (((4) : Int) - 0).toNat.succ (0, 0, 0, 0, 0, [0, 0, 0, 0]) = some o := ho
  rw [ho', Option.bind_some]
  rcases hq with ⟨s, rfl, hl, h⟩ | ⟨p, rfl, h⟩
  · obtain ⟨k1, k2, k3, k4, k5, y⟩ := s
    simp only at hl
    simp only [LR.on]
    match y, hl with
    | [x0, x1, x2, x3], _ => exact Dec.yes h
  · exact Dec.no fun h' => h' h
theorem few_of {s : List (List Span)} {k : Nat} (hk : k < 4) (h : ¬ (sd s k).length ≤ 40) : ¬ Few s := fun hf => h (hf k hk)
/-- What the program cuts off. -/
theorem pieces_is {a b : List (List Span)} (ha : B4 a) (hb : B4 b) (hfa : Few a) : ∃ s xs, impl_sides_pieces_1 a b = some (s, xs) ∧ (s = false → xs = cutL a b ∧ ∀ p ∈ cutL a b, Few p) ∧ (s = true → ∃ p ∈ cutL a b, ¬ Few p) := by
  unfold impl_sides_pieces_1
  obtain ⟨q, e, hq⟩ := impl_emp ha.1
  rw [e, Option.bind_some]
  unfold cutL
  cases q with
  | true =>
    have he := hq.1 rfl
    rw [if_pos (empty_meet ha hb he), if_pos he]
    exact ⟨_, _, rfl, fun _ => ⟨rfl, fun p hp => (by cases hp)⟩, fun h => by cases h⟩
  | false =>
    have he : ¬ emptyS a := fun h => by simpa using hq.2 h
    rw [cond_false]
    obtain ⟨t, e, ht⟩ := touches_is ha hb
    rw [e, Option.bind_some]
    cases t with
    | false =>
      have hm : emptyS (meetS a b) := Classical.byContradiction fun h => by simpa using ht.2 h
      rw [if_pos hm, if_neg he, cond_false, app_nil (by simp), Option.bind_some]
      exact ⟨_, _, rfl, fun _ => ⟨rfl, fun p hp => by rw [List.mem_singleton.1 hp]; exact hfa⟩, fun h => by cases h⟩
    | true =>
      have hm := ht.1 rfl
      rw [if_neg hm, cond_true]
      have hin : ∀ k, k < 4 → lessK a b k ≠ [] → pieceK a b k ∈ cutN a b 4 := fun k hk hn => by
        unfold cutN
        exact List.mem_filterMap.2 ⟨k, List.mem_range.2 hk, by rw [if_neg hn]⟩
      obtain ⟨o, ho, hq⟩ := loop_idx (body := impl_sides_pieces_1_L0 a b) 4
        (fun k s => s.2.1 = (k : Int) ∧ s.2.2.1.length = 4 ∧ s.2.2.2 = cutN a b k ∧ (∀ p ∈ cutN a b k, Few p) ∧ (s.1 = true → s.2.2.1 = leftK a b k ∧ ∀ j, j < k → (meetL (sd a j) (sd b j)).length ≤ 40) ∧ (s.1 = false → ∃ j, j < k ∧ ¬ (meetL (sd a j) (sd b j)).length ≤ 40))
        (fun o => (∃ s : Bool × Int × (List (List Span)) × (List (List (List Span))), o = .brk s ∧ s.2.2.2 = cutN a b 4 ∧ ∀ p ∈ cutN a b 4, Few p) ∨ ∃ xs, o = .ret (true, xs) ∧ ∃ p ∈ cutN a b 4, ¬ Few p)
        (s := (true, 0, a, ([] : List (List (List Span))))) ⟨rfl, ha.1, rfl, fun p hp => (by cases hp), fun _ => ⟨(leftK_0 ha.1).symm, fun j hj => by omega⟩, fun h => by cases h⟩
        (fun k s hk ⟨h1, h2, h3, h4, h5, h6⟩ => by
          obtain ⟨y1, k1, y2, y3⟩ := s
          simp only at h1 h2 h3 h5 h6
          subst h1 h3
          unfold impl_sides_pieces_1_L0
          simp only [lt_true (show (k : Int) < 4 by omega), cond_true, sd_idx ha.1 hk, sd_idx hb.1 hk, impl_top, Option.bind_some, impl_less (ha.2 k hk) (hb.2 k hk), impl_meet (ha.2 k hk) (hb.2 k hk), idx_get (show k < y2.length by omega), Int.toNat_natCast, W_succ (show k < 9223372036854775807 by omega)]
          rw [show lessL (topOf k) (sd a k) (sd b k) = lessK a b k from rfl]
          have hcl := cutN_len a b k
          by_cases hl : (lessK a b k).length ≤ 40
          · rw [if_pos hl]
            simp only [cond_true]
            -- the head after this side
            have next : ∀ (f : Bool) (y2 : List (List Span)), y2.length = 4 → (y1 = true → y2 = leftK a b k) → ∀ z, z = cutN a b (k + 1) → (∀ p ∈ cutN a b (k + 1), Few p) → f = (y1 && decide ((meetL (sd a k) (sd b k)).length ≤ 40)) →
                ((k + 1 : Nat) : Int) = ((k + 1 : Nat) : Int) ∧ (y2.set k (if (meetL (sd a k) (sd b k)).length ≤ 40 then (meetL (sd a k) (sd b k), true) else ([], false)).1).length = 4 ∧ z = cutN a b (k + 1) ∧ (∀ p ∈ cutN a b (k + 1), Few p) ∧ (f = true → y2.set k (if (meetL (sd a k) (sd b k)).length ≤ 40 then (meetL (sd a k) (sd b k), true) else ([], false)).1 = leftK a b (k + 1) ∧ ∀ j, j < k + 1 → (meetL (sd a j) (sd b j)).length ≤ 40) ∧ (f = false → ∃ j, j < k + 1 ∧ ¬ (meetL (sd a j) (sd b j)).length ≤ 40) := by
              intro f y2 hy2 hyl z hz hfew hf
              refine ⟨rfl, by simpa using hy2, hz, hfew, fun h => ?_, fun h => ?_⟩
              · rw [hf, Bool.and_eq_true, decide_eq_true_eq] at h
                rw [if_pos h.2, hyl h.1]
                refine ⟨leftK_set hk, fun j hj => ?_⟩
                rcases Nat.lt_or_ge j k with hlt | hge
                · exact (h5 h.1).2 j hlt
                · obtain rfl : j = k := by omega
                  exact h.2
              · rw [hf, Bool.and_eq_false_iff] at h
                rcases h with h | h
                · obtain ⟨j, hj, hn⟩ := h6 h
                  exact ⟨j, by omega, hn⟩
                · exact ⟨k, by omega, by simpa using h⟩
            by_cases hz : lessK a b k = []
            · have hc1 : cutN a b (k + 1) = cutN a b k := by rw [cutN_succ, if_pos hz, List.append_nil]
              simp only [hz, List.length_nil, show decide ((0 : Int) < ((0 : Nat) : Int)) = false from rfl, cond_false]
              cases y1 with
              | true => exact .inl ⟨_, rfl, next _ y2 h2 (fun _ => (h5 rfl).1) _ hc1.symm (by rw [hc1]; exact h4) (by split <;> simp_all)⟩
              | false => exact .inl ⟨_, rfl, next _ y2 h2 (fun h => by cases h) _ hc1.symm (by rw [hc1]; exact h4) rfl⟩
            · rw [lt_true (by have := List.length_pos_iff.2 hz; omega), cond_true]
              have hcs : cutN a b (k + 1) = cutN a b k ++ [pieceK a b k] := by rw [cutN_succ, if_neg hz]
              cases y1 with
              | true =>
                obtain ⟨e2, h7⟩ := h5 rfl
                subst e2
                rw [cond_true, app_ok (by simp; omega), Option.bind_some]
                refine .inl ⟨_, rfl, next _ _ h2 (fun _ => rfl) _ ?_ ?_ (by split <;> simp_all)⟩
                · rw [hcs, leftK_piece hk]
                · rw [hcs]
                  intro p hp
                  rcases List.mem_append.1 hp with hp | hp
                  · exact h4 p hp
                  · rw [List.mem_singleton.1 hp]
                    intro j hj
                    rw [show sd (pieceK a b k) j = _ from sd_mk4 _ hj]
                    split
                    · rename_i h; exact h7 j h
                    · split
                      · exact hl
                      · exact hfa j hj
              | false =>
                obtain ⟨j, hj, hn⟩ := h6 rfl
                refine .inr (.inl ⟨_, rfl, .inr ⟨_, rfl, pieceK a b k, hin k hk hz, few_of (show j < 4 by omega) ?_⟩⟩)
                rw [show sd (pieceK a b k) j = _ from sd_mk4 _ (by omega), if_pos hj]; exact hn
          · rw [if_neg hl]
            have hz : lessK a b k ≠ [] := fun h => hl (by rw [h]; simp)
            refine .inr (.inl ⟨_, rfl, .inr ⟨_, rfl, pieceK a b k, hin k hk hz, few_of hk ?_⟩⟩)
            rw [show sd (pieceK a b k) k = _ from sd_mk4 _ hk, if_neg (by omega), if_pos rfl]; exact hl)
        (fun s ⟨h1, h2, h3, h4, h5, h6⟩ => by
          obtain ⟨y1, k1, y2, y3⟩ := s
          simp only at h1 h3
          subst h1 h3
          unfold impl_sides_pieces_1_L0
          exact .inl ⟨_, rfl, .inl ⟨_, rfl, rfl, h4⟩⟩)
      have ho' : loopF (impl_sides_pieces_1_L0 a b) (((4) : Int) - 0).toNat.succ (true, 0, a, ([] : List (List (List Span)))) = some o := ho
      rw [ho', Option.bind_some]
      rcases hq with ⟨s, rfl, h3, h4⟩ | ⟨xs, rfl, h⟩
      · obtain ⟨y1, k1, y2, y3⟩ := s
        simp only at h3
        subst h3
        exact ⟨_, _, rfl, fun _ => ⟨rfl, h4⟩, fun h => by cases h⟩
      · exact ⟨_, _, rfl, fun h => by (cases h), fun _ => h⟩
theorem cutL_B4 {a b : List (List Span)} (ha : B4 a) (hb : B4 b) : ∀ p ∈ cutL a b, B4 p := by
  intro p hp
  unfold cutL at hp
  split at hp
  · split at hp
    · cases hp
    · rw [List.mem_singleton.1 hp]; exact ha
  · unfold cutN at hp
    obtain ⟨k, hk, e⟩ := List.mem_filterMap.1 hp
    split at e
    · cases e
    · cases e; exact pieceK_B4 ha hb (List.mem_range.1 hk)
open Classical in
theorem impl_cut {a b : List (List Span)} (ha : B4 a) (hb : B4 b) (hfa : Few a) : impl_sides_cut a b = some (if ∀ p ∈ cutL a b, Few p then (cutL a b, true) else ([], false)) := by
  unfold impl_sides_cut
  obtain ⟨s, xs, e, h1, h2⟩ := pieces_is ha hb hfa
  have e0 : impl_sides_pieces a b = some (a, b) := rfl
  rw [e0, Option.bind_some, e, Option.bind_some]
  cases s with
  | false =>
    obtain ⟨rfl, hf⟩ := h1 rfl
    rw [if_pos hf]; rfl
  | true =>
    obtain ⟨p, hp, hn⟩ := h2 rfl
    rw [if_neg fun h => hn (h p hp)]; rfl
theorem boxes_is {ps : List (List (List Span))} (hn : ps.length ≤ 100000) (h : ∀ p ∈ ps, B4 p) : impl_boxesOf ps = some (ps.map Box.mk) := by
  unfold impl_boxesOf
  rw [show capF (ps.length : Int) = some () from if_pos ⟨by omega, by omega⟩, Option.bind_some]
  have := loop_brk0 (body := impl_boxesOf_L0 ps) ps.length (fun k : Nat => ((ps.take k).map Box.mk, (k : Int))) (s0 := (([] : List Box), 0)) (s := (ps.map Box.mk, (ps.length : Int))) rfl (fun k hk => by
      have hb := h _ (List.getElem_mem hk)
      unfold impl_boxesOf_L0
      simp only [lt_true (show (k : Int) < (ps.length : Int) by omega), cond_true, idx_get hk, Option.bind_some, impl_box4 hb.1 hb.okm, app_ok (show ((ps.take k).map Box.mk).length + [(⟨ps[k]⟩ : Box)].length ≤ 4294967296 by simp; omega), W_succ (show k < 9223372036854775807 by omega)]
      rw [take_snoc (List.getElem?_eq_getElem hk), List.map_append]; rfl)
    (by
      unfold impl_boxesOf_L0
      simp only [lt_false (Int.le_refl _), cond_false, List.take_length]) (fuel := ((((ps.length : Int)) : Int) - 0).toNat.succ) (by omega)
  rw [this]; rfl
end Go.PF.F

/- Plain laws: boxes within boxes. -/
namespace Go.PF.F
open Go Go.PF

/-- A box with at most m spans on a side. -/
def OkN (m : Nat) (b : Box) : Prop := b.Sides.length ≤ 5 ∧ ∀ x ∈ b.Sides, x.length ≤ m
def FewN (m : Nat) (s : List (List Span)) : Prop := ∀ k, k < 4 → (sd s k).length ≤ m
theorem OkN.mono {m k : Nat} {b : Box} (h : OkN m b) (hm : m ≤ k) : OkN k b := ⟨h.1, fun x hx => Nat.le_trans (h.2 x hx) hm⟩
theorem OkN.sd {m : Nat} {b : Box} (h : OkN m b) (k : Nat) : (F.sd b.Sides k).length ≤ m := by
  unfold F.sd
  rw [List.getD_eq_getElem?_getD]
  cases hx : b.Sides[k]? with
  | none => simp
  | some x => exact h.2 x (List.mem_of_getElem? hx)
theorem OkN.of {m : Nat} {s : List (List Span)} (h : B4 s) (hf : FewN m s) : OkN m ⟨s⟩ := ⟨by show s.length ≤ 5; rw [h.1]; decide, fun x hx => by
  obtain ⟨i, hi, rfl⟩ := List.getElem_of_mem hx
  have h4 : i < 4 := by have := h.1; simp only at hi; omega
  have := sd_get h.1 h4
  rw [List.getElem?_eq_getElem hi] at this
  rw [Option.some.inj this]
  exact hf i h4⟩
theorem OkN.set {m : Nat} {s : List (List Span)} (h : OkN m ⟨s⟩) (k : Nat) {x : List Span} (hx : x.length ≤ m) : OkN m ⟨s.set k x⟩ := ⟨by have := h.1; simp at this ⊢; omega, fun y hy => by
  rcases List.mem_or_eq_of_mem_set hy with hm | hm
  · exact h.2 y hm
  · rw [hm]; exact hx⟩
theorem FewN.set {m : Nat} {s : List (List Span)} (hl : s.length = 4) (h : FewN m s) {k : Nat} (hk : k < 4) {x : List Span} (hx : x.length ≤ m) : FewN m (s.set k x) := fun j hj => by
  rw [sd_set hl hk]
  split
  · exact hx
  · exact h j hj
end Go.PF.F

/- Plain laws: what a region leaves of a box (the program). -/
namespace Go.PF.F
open Go Go.PF

/-- Every box so far is replaced by what b leaves of it. -/
noncomputable def nextL (rest : List (List (List Span))) (b : List (List Span)) : List (List (List Span)) := rest.flatMap fun a => cutL a b
def OkL (rest : List (List (List Span))) : Prop := (∀ p ∈ rest, Few p) ∧ rest.length ≤ 400
open Classical in
noncomputable def lessA : List (List (List Span)) → List (List (List Span)) → Option (List (List (List Span)))
  | rest, [] => some rest
  | rest, b :: bs => if OkL (nextL rest b) then lessA (nextL rest b) bs else none
theorem lessA_yes {rest : List (List (List Span))} {b : List (List Span)} {bs : List (List (List Span))} (h : OkL (nextL rest b)) : lessA rest (b :: bs) = lessA (nextL rest b) bs := by rw [lessA, if_pos h]
theorem lessA_no {rest : List (List (List Span))} {b : List (List Span)} {bs : List (List (List Span))} (h : ¬ OkL (nextL rest b)) : lessA rest (b :: bs) = none := by rw [lessA, if_neg h]
theorem lessA_nil : ∀ bs : List (List (List Span)), lessA [] bs = some []
  | [] => rfl
  | b :: bs => by
    rw [lessA_yes (show OkL (nextL [] b) from ⟨fun p hp => (by cases hp), by simp [nextL]⟩)]
    exact lessA_nil bs
theorem nextL_B4 {rest : List (List (List Span))} {b : List (List Span)} (h : ∀ p ∈ rest, B4 p) (hb : B4 b) : ∀ p ∈ nextL rest b, B4 p := by
  intro p hp
  obtain ⟨a, ha, hp⟩ := List.mem_flatMap.1 hp
  exact cutL_B4 (h a ha) hb p hp
theorem nextL_snoc (rest : List (List (List Span))) (a b : List (List Span)) : nextL (rest ++ [a]) b = nextL rest b ++ cutL a b := by simp [nextL]
theorem nextL_take {rest : List (List (List Span))} {b : List (List Span)} (k : Nat) : ∃ t, nextL rest b = nextL (rest.take k) b ++ t := by
  refine ⟨nextL (rest.drop k) b, ?_⟩
  unfold nextL
  rw [← List.flatMap_append, List.take_append_drop]
theorem less_inner {rest : List (List (List Span))} {b : List (List Span)} (h4 : ∀ p ∈ rest, B4 p) (hf : ∀ p ∈ rest, Few p) (hl : rest.length ≤ 400) (hb : B4 b) :
    ∃ o, loopF (impl_sides_lessRegion_L1 rest b) ((((rest.length : Int)) : Int) - 0).toNat.succ (([] : List (List (List Span))), 0) = some o ∧
      ((o = .brk (nextL rest b, (rest.length : Int)) ∧ OkL (nextL rest b)) ∨ (o = .ret (([] : List (List (List Span))), false) ∧ ¬ OkL (nextL rest b))) := by
  refine loop_idx (body := impl_sides_lessRegion_L1 rest b) rest.length (fun k s => s.2 = (k : Int) ∧ s.1 = nextL (rest.take k) b ∧ OkL s.1) _ (s := (([] : List (List (List Span))), 0)) ⟨rfl, by simp [nextL], fun p hp => (by cases hp), by simp⟩ (fun k s hk ⟨h1, h2, h3⟩ => ?_) (fun s ⟨h1, h2, h3⟩ => ?_)
  · obtain ⟨y, k1⟩ := s
    simp only at h1 h2 h3
    subst h1
    have hm := List.getElem_mem hk
    have htk : rest.take (k + 1) = rest.take k ++ [rest[k]] := take_snoc (List.getElem?_eq_getElem hk)
    have hn : nextL (rest.take (k + 1)) b = y ++ cutL rest[k] b := by rw [htk, nextL_snoc, ← h2]
    obtain ⟨t, ht⟩ := nextL_take (rest := rest) (b := b) (k + 1)
    have hcl := cutL_len rest[k] b
    have hyl := h3.2
    unfold impl_sides_lessRegion_L1
    simp only [lt_true (show (k : Int) < (rest.length : Int) by omega), cond_true, idx_get hk, Option.bind_some, impl_cut (h4 _ hm) hb (hf _ hm)]
    by_cases hc : ∀ p ∈ cutL rest[k] b, Few p
    · rw [if_pos hc]
      simp only [cond_true, W_of (x := (y.length : Int) + ((cutL rest[k] b).length : Int)) (by omega) (by omega)]
      by_cases hlen : 400 < (y.length : Int) + ((cutL rest[k] b).length : Int)
      · rw [decide_eq_true hlen, cond_true]
        refine .inr (.inl ⟨_, rfl, .inr ⟨rfl, fun h => ?_⟩⟩)
        have := h.2
        rw [ht, hn, List.length_append, List.length_append] at this
        omega
      · rw [decide_eq_false hlen, cond_false, app_ok (by omega), Option.bind_some, W_succ (by omega)]
        refine .inl ⟨_, rfl, rfl, hn.symm, fun p hp => ?_, by rw [List.length_append]; omega⟩
        rcases List.mem_append.1 hp with hp | hp
        · exact h3.1 p hp
        · exact hc p hp
    · rw [if_neg hc]
      refine .inr (.inl ⟨_, rfl, .inr ⟨rfl, fun h => hc fun p hp => h.1 p ?_⟩⟩)
      rw [ht, hn]
      exact List.mem_append_left _ (List.mem_append_right _ hp)
  · obtain ⟨y, k1⟩ := s
    simp only at h1 h2 h3
    subst h1
    rw [List.take_length] at h2
    subst h2
    unfold impl_sides_lessRegion_L1
    simp only [lt_false (Int.le_refl _), cond_false]
    exact .inl ⟨_, rfl, .inl ⟨rfl, h3⟩⟩
open Classical in
noncomputable def startL (s : List (List Span)) : List (List (List Span)) := if emptyS s then [] else [s]
theorem less_region {s : List (List Span)} {region : List (List (List Span))} (hs : B4 s) (hsf : Few s) (hr : ∀ p ∈ region, B4 p) (hl : region.length ≤ 100000) :
    impl_sides_lessRegion s region = some (match lessA (startL s) region with | some r => (r, true) | none => ([], false)) ∧ ∀ r, lessA (startL s) region = some r → (∀ p ∈ r, B4 p ∧ Few p) ∧ r.length ≤ 400 := by
  unfold impl_sides_lessRegion startL
  obtain ⟨q, e, hq⟩ := impl_emp hs.1
  rw [e, Option.bind_some]
  cases q with
  | true =>
    rw [if_pos (hq.1 rfl), lessA_nil]
    exact ⟨rfl, fun r hr => by cases hr; exact ⟨fun p hp => (by cases hp), by simp⟩⟩
  | false =>
    rw [if_neg (fun h => by simpa using hq.2 h), cond_false]
    obtain ⟨o, ho, hq⟩ := loop_idx (body := impl_sides_lessRegion_L0 region) region.length
      (fun k st => st.2 = (k : Int) ∧ (∀ p ∈ st.1, B4 p ∧ Few p) ∧ st.1.length ≤ 400 ∧ lessA [s] region = lessA st.1 (region.drop k))
      (fun o => (∃ st : (List (List (List Span))) × Int, o = .brk st ∧ (∀ p ∈ st.1, B4 p ∧ Few p) ∧ st.1.length ≤ 400 ∧ lessA [s] region = some st.1) ∨ (o = .ret (([] : List (List (List Span))), false) ∧ lessA [s] region = none))
      (s := ([s], 0)) ⟨rfl, fun p hp => by rw [List.mem_singleton.1 hp]; exact ⟨hs, hsf⟩, by simp, by simp⟩
      (fun k st hk ⟨h1, h2, h3, h4⟩ => by
        obtain ⟨y, k1⟩ := st
        simp only at h1 h2 h3 h4
        subst h1
        have hb := hr _ (List.getElem_mem hk)
        have hd : lessA y (region.drop k) = lessA y (region[k] :: region.drop (k + 1)) := by rw [List.drop_eq_getElem_cons hk]
        obtain ⟨o, ho, hq⟩ := less_inner (fun p hp => (h2 p hp).1) (fun p hp => (h2 p hp).2) h3 hb
        unfold impl_sides_lessRegion_L0
        simp only [lt_true (show (k : Int) < (region.length : Int) by omega), cond_true, idx_get hk, Option.bind_some, ho]
        rcases hq with ⟨rfl, hok⟩ | ⟨rfl, hok⟩
        · have hstep : lessA [s] region = lessA (nextL y region[k]) (region.drop (k + 1)) := by
            rw [h4, hd, lessA_yes hok]
          have hB : ∀ p ∈ nextL y region[k], B4 p ∧ Few p := fun p hp => ⟨nextL_B4 (fun p hp => (h2 p hp).1) hb p hp, hok.1 p hp⟩
          simp only [LR.on]
          by_cases hz : nextL y region[k] = []
          · rw [hz] at hstep hB
            rw [hz]
            rw [lessA_nil] at hstep
            exact .inr (.inr ⟨_, rfl, .inl ⟨_, rfl, hB, by simp, hstep⟩⟩)
          · rw [show (((nextL y region[k]).length : Int) == 0) = false from by have := List.length_pos_iff.2 hz; simp; omega, cond_false, W_succ (by omega)]
            exact .inl ⟨_, rfl, rfl, hB, hok.2, hstep⟩
        · refine .inr (.inl ⟨_, rfl, .inr ⟨rfl, ?_⟩⟩)
          rw [h4, hd, lessA_no hok])
      (fun st ⟨h1, h2, h3, h4⟩ => by
        obtain ⟨y, k1⟩ := st
        simp only at h1 h2 h3 h4
        subst h1
        unfold impl_sides_lessRegion_L0
        simp only [lt_false (Int.le_refl _), cond_false]
        rw [List.drop_length] at h4
        exact .inl ⟨_, rfl, .inl ⟨_, rfl, h2, h3, h4⟩⟩)
    rw [ho, Option.bind_some]
    rcases hq with ⟨⟨y, k⟩, rfl, h2, h3, h4⟩ | ⟨rfl, h4⟩
    · rw [h4]
      exact ⟨rfl, fun r hr => by cases hr; exact ⟨h2, h3⟩⟩
    · rw [h4]
      exact ⟨rfl, fun r hr => by cases hr⟩
theorem region_sides {list : List Box} (h : ∀ b ∈ list, BV b) (hl : list.length ≤ 100000) :
    loopF (impl_RegionLess_L0 list) ((((list.length : Int)) : Int) - 0).toNat.succ (([] : List (List (List Span))), 0) = some (.brk (list.map (·.Sides), (list.length : Int))) := by
  refine loop_brk0 (body := impl_RegionLess_L0 list) list.length (fun k : Nat => ((list.take k).map (·.Sides), (k : Int))) rfl (fun k hk => ?_) ?_ (by omega)
  · unfold impl_RegionLess_L0
    simp only [lt_true (show (k : Int) < (list.length : Int) by omega), cond_true, idx_get hk, Option.bind_some, impl_sides (h _ (List.getElem_mem hk)).1, app_ok (show ((list.take k).map (·.Sides)).length + [list[k].Sides].length ≤ 4294967296 by simp; omega), W_succ (show k < 9223372036854775807 by omega)]
    rw [take_snoc (List.getElem?_eq_getElem hk), List.map_append]; rfl
  · unfold impl_RegionLess_L0
    simp only [lt_false (Int.le_refl _), cond_false, List.take_length]
open Classical in
/-- The program's answer. -/
theorem regionless_is {b : Box} {list : List Box} (hb : OkBox b) (hl : list.length ≤ 100000) (hs : ∀ x ∈ list, OkBox x) : impl_RegionLess b list = some (if BV b ∧ RV list then (match lessA (startL b.Sides) (list.map (·.Sides)) with | some r => (r.map Box.mk, true) | none => ([], false)) else ([], false)) := by
  unfold impl_RegionLess
  obtain ⟨v, e1, hv⟩ := impl_box hb
  obtain ⟨w, e2, hw⟩ := impl_region (show list.length ≤ 9223372036854775807 by omega) hs
  rw [e1, Option.bind_some]
  cases v with
  | false => rw [if_neg fun h => by simpa using hv.2 h.1]; rfl
  | true =>
    rw [cond_true, e2, Option.bind_some]
    cases w with
    | false => rw [if_neg fun h => by simpa using hw.2 h.2]; rfl
    | true =>
      have hBb := hv.1 rfl
      have hR := hw.1 rfl
      obtain ⟨hb4, hbf⟩ := BV_iff.1 hBb
      rw [if_pos ⟨hBb, hR⟩, cond_true, show capF (list.length : Int) = some () from if_pos ⟨by omega, by omega⟩, Option.bind_some, region_sides hR.1 hl, Option.bind_some]
      simp only [LR.on, impl_sides hBb.1, Option.bind_some]
      obtain ⟨e3, h3⟩ := less_region (region := list.map (·.Sides)) hb4 hbf (fun p hp => by
        obtain ⟨x, hx, rfl⟩ := List.mem_map.1 hp
        exact (BV_iff.1 (hR.1 x hx)).1) (by simpa using hl)
      rw [e3, Option.bind_some]
      cases hr : lessA (startL b.Sides) (list.map (·.Sides)) with
      | none => rfl
      | some r =>
        obtain ⟨h4, h5⟩ := h3 r hr
        simp only [cond_true, boxes_is (show r.length ≤ 100000 by omega) (fun p hp => (h4 p hp).1), Option.bind_some]
end Go.PF.F

/- Plain laws: what cutting means for points. -/
namespace Go.PF.F
open Go Go.PF

/-- The point f lies in s. -/
def hasB (s : List (List Span)) (f : Nat → Int) : Prop := ∀ k, k < 4 → has (sd s k) (f k) = true
def Dj (p q : List (List Span)) : Prop := ∀ f, hasB p f → ¬ hasB q f
theorem Dj.symm {p q : List (List Span)} (h : Dj p q) : Dj q p := fun f hq hp => h f hp hq
end Go.PF.F

/- Plain laws: cutting boxes, what the laws ask. -/
namespace Go.PF.F
open Go Go.PF

end Go.PF.F

/- Plain laws: what a region leaves of a box (the reference), draws. -/
namespace Go.PF.F
open Go Go.PF

theorem nextL_len (rest : List (List (List Span))) (b : List (List Span)) : (nextL rest b).length ≤ 4 * rest.length := by
  induction rest with
  | nil => simp [nextL]
  | cons a as ih =>
    have : nextL (a :: as) b = cutL a b ++ nextL as b := by simp [nextL]
    rw [this, List.length_append, List.length_cons]
    have := cutL_len a b
    omega
theorem rv_okl {rest : List (List (List Span))} (h : ∀ p ∈ rest, B4 p) : RV (rest.map Box.mk) ↔ OkL rest := by
  constructor
  · rintro ⟨h1, h2⟩
    exact ⟨fun p hp => (BV_iff.1 (h1 ⟨p⟩ (List.mem_map_of_mem hp))).2, by rw [List.length_map] at h2; omega⟩
  · rintro ⟨h1, h2⟩
    refine ⟨fun x hx => ?_, by rw [List.length_map]; omega⟩
    obtain ⟨p, hp, rfl⟩ := List.mem_map.1 hx
    exact BV_iff.2 ⟨h p hp, h1 p hp⟩
theorem spec_inner {rest : List (List (List Span))} {list : List Box} {k : Nat} (hk : k < list.length) (h4 : ∀ p ∈ rest, B4 p) (hb : B4 list[k].Sides) (hl : rest.length ≤ 400) :
    loopF (spec_l11Less_L1 list (rest.map Box.mk) (k : Int)) (((((rest.map Box.mk).length : Int)) : Int) - 0).toNat.succ (([] : List Box), 0) = some (.brk ((nextL rest list[k].Sides).map Box.mk, (rest.length : Int))) := by
  refine loop_brk0 (body := spec_l11Less_L1 list (rest.map Box.mk) (k : Int)) rest.length (fun j : Nat => ((nextL (rest.take j) list[k].Sides).map Box.mk, (j : Int))) rfl (fun j hj => ?_) ?_ (by rw [List.length_map]; omega)
  · have hm := List.getElem_mem hj
    have hj' : j < (rest.map Box.mk).length := by simpa using hj
    have htk : rest.take (j + 1) = rest.take j ++ [rest[j]] := take_snoc (List.getElem?_eq_getElem hj)
    have h1 := nextL_len (rest.take j) list[k].Sides
    have h2 := cutL_len rest[j] list[k].Sides
    have h3 : (rest.take j).length ≤ 400 := by rw [List.length_take]; omega
    unfold spec_l11Less_L1
    simp only [lt_true (show (j : Int) < ((rest.map Box.mk).length : Int) by omega), cond_true, idx_get hj', idx_get hk, List.getElem_map, Option.bind_some, spec_cut (a := ⟨rest[j]⟩) (b := list[k]) (h4 _ hm) hb]
    rw [app_ok (by simp only [List.length_map]; omega), Option.bind_some, W_succ (by omega), htk, nextL_snoc, List.map_append]
  · unfold spec_l11Less_L1
    simp only [List.length_map, lt_false (Int.le_refl _), cond_false, List.take_length]
theorem spec_outer {s0 : List (List (List Span))} {list : List Box} (h0 : ∀ p ∈ s0, B4 p ∧ Few p) (hl0 : s0.length ≤ 400) (hr : ∀ x ∈ list, B4 x.Sides) (hl : list.length ≤ 100000) :
    ∃ o, loopF (spec_l11Less_L0 list) ((((list.length : Int)) : Int) - 0).toNat.succ (s0.map Box.mk, 0) = some o ∧
      ((∃ r k, o = .brk (r.map Box.mk, k) ∧ lessA s0 (list.map (·.Sides)) = some r) ∨ (o = .ret (([] : List Box), false) ∧ lessA s0 (list.map (·.Sides)) = none)) := by
  refine loop_idx (body := spec_l11Less_L0 list) list.length
    (fun k st => st.2 = (k : Int) ∧ ∃ y, st.1 = y.map Box.mk ∧ (∀ p ∈ y, B4 p ∧ Few p) ∧ y.length ≤ 400 ∧ lessA s0 (list.map (·.Sides)) = lessA y ((list.map (·.Sides)).drop k)) _
    (s := (s0.map Box.mk, 0)) ⟨rfl, s0, rfl, h0, hl0, by simp⟩
    (fun k st hk ⟨h1, y, h2, h3, h4, h5⟩ => ?_) (fun st ⟨h1, y, h2, h3, h4, h5⟩ => ?_)
  · obtain ⟨y', k1⟩ := st
    simp only at h1 h2
    subst h1 h2
    have hb := hr _ (List.getElem_mem hk)
    have hk' : k < (list.map (·.Sides)).length := by simpa using hk
    have hd : (list.map (·.Sides)).drop k = list[k].Sides :: (list.map (·.Sides)).drop (k + 1) := by rw [List.drop_eq_getElem_cons hk', List.getElem_map]
    have hB := nextL_B4 (fun p hp => (h3 p hp).1) hb
    have hlen := nextL_len y list[k].Sides
    obtain ⟨v, ev, hv⟩ := spec_region (xs := (nextL y list[k].Sides).map Box.mk) (by rw [List.length_map]; omega) (fun x hx => by
      obtain ⟨p, hp, rfl⟩ := List.mem_map.1 hx
      exact B4.ok (b := ⟨p⟩) (hB p hp))
    rw [rv_okl hB] at hv
    unfold spec_l11Less_L0
    simp only [lt_true (show (k : Int) < (list.length : Int) by omega), cond_true, spec_inner hk (fun p hp => (h3 p hp).1) hb h4, Option.bind_some, LR.on, ev]
    cases v with
    | true =>
      have hok := hv.1 rfl
      rw [W_succ (by omega)]
      exact .inl ⟨_, rfl, rfl, _, rfl, fun p hp => ⟨hB p hp, hok.1 p hp⟩, hok.2, by rw [h5, hd, lessA_yes hok]⟩
    | false =>
      have hok : ¬ OkL (nextL y list[k].Sides) := fun h => by simpa using hv.2 h
      exact .inr (.inl ⟨_, rfl, .inr ⟨rfl, by rw [h5, hd, lessA_no hok]⟩⟩)
  · obtain ⟨y', k1⟩ := st
    simp only at h1 h2
    subst h1 h2
    unfold spec_l11Less_L0
    simp only [lt_false (Int.le_refl _), cond_false]
    have : (list.map (·.Sides)).drop list.length = [] := by rw [List.drop_eq_nil_iff]; simp
    rw [this, lessA] at h5
    exact .inl ⟨_, rfl, .inl ⟨y, _, rfl, h5⟩⟩
theorem spec_less {b : Box} {list : List Box} (hb : B4 b.Sides) (hf : Few b.Sides) (hr : ∀ x ∈ list, B4 x.Sides) (hl : list.length ≤ 100000) :
    spec_l11Less b list = some (match lessA (startL b.Sides) (list.map (·.Sides)) with | some r => (r.map Box.mk, true) | none => ([], false)) := by
  unfold spec_l11Less startL
  obtain ⟨q, e, hq⟩ := spec_emp hb
  rw [e, Option.bind_some]
  cases q with
  | true =>
    rw [if_pos (hq.1 rfl), cond_true]
    obtain ⟨o, ho, h⟩ := spec_outer (s0 := []) (list := list) (fun p hp => by cases hp) (by simp) hr hl
    have ho' : loopF (spec_l11Less_L0 list) ((((list.length : Int)) : Int) - 0).toNat.succ (([] : List Box), 0) = some o := ho
    rw [ho', Option.bind_some]
    rcases h with ⟨r, k, rfl, h⟩ | ⟨rfl, h⟩
    · rw [h]; rfl
    · rw [h]; rfl
  | false =>
    rw [if_neg (fun h => by simpa using hq.2 h), cond_false, app_nil (by simp), Option.bind_some]
    obtain ⟨o, ho, h⟩ := spec_outer (s0 := [b.Sides]) (list := list) (fun p hp => by rw [List.mem_singleton.1 hp]; exact ⟨hb, hf⟩) (by simp) hr hl
    have ho' : loopF (spec_l11Less_L2 list) ((((list.length : Int)) : Int) - 0).toNat.succ ([b], 0) = some o := ho
    rw [ho', Option.bind_some]
    rcases h with ⟨r, k, rfl, h⟩ | ⟨rfl, h⟩
    · rw [h]; rfl
    · rw [h]; rfl
theorem own_boxes {list : List Box} (h : ∀ b ∈ list, OkB b) (hl : list.length ≤ 100000) : spec_l1OwnBoxList list = some list := by
  unfold spec_l1OwnBoxList
  have e := loop_brk0 (body := spec_l1OwnBoxList_L0 list) list.length (fun k : Nat => (list.take k, (k : Int))) (s0 := (([] : List Box), 0)) (s := (list, (list.length : Int))) rfl (fun k hk => by
    unfold spec_l1OwnBoxList_L0
    simp only [lt_true (show (k : Int) < (list.length : Int) by omega), cond_true, idx_get hk, Option.bind_some, own_box (h _ (List.getElem_mem hk)), app_ok (show (list.take k).length + [list[k]].length ≤ 4294967296 by simp; omega), W_succ (show k < 9223372036854775807 by omega)]
    rw [take_snoc (List.getElem?_eq_getElem hk)]) (by
    unfold spec_l1OwnBoxList_L0
    simp only [lt_false (Int.le_refl _), cond_false, List.take_length]) (fuel := ((list.length : Int) - 0).toNat.succ) (by omega)
  rw [e]
  rfl
open Classical in
/-- The reference's answer. -/
theorem spec_regionless {b : Box} {list : List Box} (hb : OkB b) (hl : list.length ≤ 100000) (hs : ∀ x ∈ list, OkB x) : spec_RegionLess b list = some (if BV b ∧ RV list then (match lessA (startL b.Sides) (list.map (·.Sides)) with | some r => (r.map Box.mk, true) | none => ([], false)) else ([], false)) := by
  obtain ⟨v, e1, hv⟩ := spec_box hb.ok
  obtain ⟨w, e2, hw⟩ := spec_region (xs := list) (by omega) (fun x hx => (hs x hx).ok)
  have o1 : spec_l1OwnBox ({ Sides := b.Sides } : Box) = some b := own_box hb
  have e1' : spec_BoxValid ({ Sides := b.Sides } : Box) = some v := e1
  unfold spec_RegionLess
  rw [o1, Option.bind_some, own_boxes hs hl, Option.bind_some, e1', Option.bind_some]
  cases v with
  | false => rw [if_neg fun h => by simpa using hv.2 h.1]; rfl
  | true =>
    rw [cond_true, e2, Option.bind_some]
    cases w with
    | false => rw [if_neg fun h => by simpa using hw.2 h.2]; rfl
    | true =>
      have hBb := hv.1 rfl
      have hR := hw.1 rfl
      obtain ⟨hb4, hbf⟩ := BV_iff.1 hBb
      have e3 : spec_l11Less ({ Sides := b.Sides } : Box) list = some _ := spec_less hb4 hbf (fun x hx => (BV_iff.1 (hR.1 x hx)).1) hl
      rw [if_pos ⟨hBb, hR⟩, cond_true, e3, Option.bind_some]
/-- One answer: what both leave. -/
theorem less_both {b : Box} {list : List Box} (hb : OkB b) (hl : list.length ≤ 100000) (hs : ∀ x ∈ list, OkB x) :
    (∃ r, impl_RegionLess b list = some (r.map Box.mk, true) ∧ spec_RegionLess b list = some (r.map Box.mk, true) ∧ BV b ∧ RV list ∧ lessA (startL b.Sides) (list.map (·.Sides)) = some r ∧ (∀ p ∈ r, B4 p ∧ Few p) ∧ r.length ≤ 400) ∨
    (impl_RegionLess b list = some ([], false) ∧ spec_RegionLess b list = some ([], false)) := by
  have h1 := regionless_is hb.ok hl (fun x hx => (hs x hx).ok)
  have h2 := spec_regionless hb hl hs
  by_cases hc : BV b ∧ RV list
  · rw [if_pos hc] at h1 h2
    obtain ⟨hb4, hbf⟩ := BV_iff.1 hc.1
    obtain ⟨_, h3⟩ := less_region (region := list.map (·.Sides)) hb4 hbf (fun p hp => by
      obtain ⟨x, hx, rfl⟩ := List.mem_map.1 hp
      exact (BV_iff.1 (hc.2.1 x hx)).1) (by simpa using hl)
    cases hr : lessA (startL b.Sides) (list.map (·.Sides)) with
    | none => rw [hr] at h1 h2; exact .inr ⟨h1, h2⟩
    | some r =>
      rw [hr] at h1 h2
      obtain ⟨h4, h5⟩ := h3 r hr
      exact .inl ⟨r, h1, h2, hc.1, hc.2, rfl, h4, h5⟩
  · rw [if_neg hc] at h1 h2
    exact .inr ⟨h1, h2⟩
end Go.PF.F

/- Plain laws: RegionLess, RegionMore, RegionOrder. -/
namespace Go.PF.F
open Go Go.PF

theorem maps_ok {r : List (List (List Span))} (hr : ∀ p ∈ r, B4 p ∧ Few p) : ∀ x ∈ r.map Box.mk, OkBox x := fun x hx => by
  obtain ⟨p, hp, rfl⟩ := List.mem_map.1 hx
  exact B4.ok (b := ⟨p⟩) (hr p hp).1
end Go.PF.F

/- Plain laws: BoxCut. -/
namespace Go.PF.F
open Go Go.PF

end Go.PF.F
