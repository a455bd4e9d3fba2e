/- Plain laws: boxes within boxes. -/
import Derived.Test.YtadlmencjbangaaDoorPlAJ
namespace Go.PF.F
open Go Go.PF

/-- A box with at most m spans on a side. -/
def OkN (m : Nat) (b : Box) : Prop := b.Sides.length ≤ 5 ∧ ∀ x ∈ b.Sides, x.length ≤ m
def FewN (m : Nat) (s : List (List Span)) : Prop := ∀ k, k < 4 → (sd s k).length ≤ m
theorem FewN.few {m : Nat} {s : List (List Span)} (h : FewN m s) (hm : m ≤ 40) : Few s := fun k hk => Nat.le_trans (h k hk) hm
theorem OkN.okB {m : Nat} {b : Box} (h : OkN m b) (hm : m ≤ 40) : OkB b := ⟨h.1, fun x hx => Nat.le_trans (h.2 x hx) hm⟩
theorem OkN.mono {m k : Nat} {b : Box} (h : OkN m b) (hm : m ≤ k) : OkN k b := ⟨h.1, fun x hx => Nat.le_trans (h.2 x hx) hm⟩
theorem OkN.sd {m : Nat} {b : Box} (h : OkN m b) (k : Nat) : (F.sd b.Sides k).length ≤ m := by
  unfold F.sd
  rw [List.getD_eq_getElem?_getD]
  cases hx : b.Sides[k]? with
  | none => simp
  | some x => exact h.2 x (List.mem_of_getElem? hx)
theorem OkN.of {m : Nat} {s : List (List Span)} (h : B4 s) (hf : FewN m s) : OkN m ⟨s⟩ := ⟨by show s.length ≤ 5; rw [h.1]; decide, fun x hx => by
  obtain ⟨i, hi, rfl⟩ := List.getElem_of_mem hx
  have h4 : i < 4 := by have := h.1; simp only at hi; omega
  have := sd_get h.1 h4
  rw [List.getElem?_eq_getElem hi] at this
  rw [Option.some.inj this]
  exact hf i h4⟩
theorem OkN.set {m : Nat} {s : List (List Span)} (h : OkN m ⟨s⟩) (k : Nat) {x : List Span} (hx : x.length ≤ m) : OkN m ⟨s.set k x⟩ := ⟨by have := h.1; simp at this ⊢; omega, fun y hy => by
  rcases List.mem_or_eq_of_mem_set hy with hm | hm
  · exact h.2 y hm
  · rw [hm]; exact hx⟩
theorem FewN.set {m : Nat} {s : List (List Span)} (hl : s.length = 4) (h : FewN m s) {k : Nat} (hk : k < 4) {x : List Span} (hx : x.length ≤ m) : FewN m (s.set k x) := fun j hj => by
  rw [sd_set hl hk]
  split
  · exact hx
  · exact h j hj
theorem dr_box7 {xs : List Int} (hx : Bytes xs) (pos n : Int) : Dr (spec_l20Box xs pos n) pos 180 (fun b => OkN 7 b ∧ (n ≤ 0 → BV b)) := by
  unfold spec_l20Box
  refine Dr.bind (dr_tests hx _ 0) (by decide) fun ts p1 a1 => ?_
  have hv := (a1.2 (Int.le_refl _)).1
  simp only [spec_testsBox hv, Option.bind_some]
  have hs := testsS_B4 hv.1
  have hsf : FewN 7 (testsS ts) := fun k hk => by
    have h1 := testsS_len ts fullS hv.1 full_B4 1 (fun j hj => by unfold fullS; rw [sd_mk4 _ hj]; simp) k hk
    have h2 := (a1.2 (Int.le_refl _)).2
    unfold testsS
    omega
  generalize testsS ts = s at hs hsf
  -- what is done to a valid box
  have tail : ∀ (s : List (List Span)) (p : Int), B4 s → FewN 7 s → Dr ((spec_l20Rd_odd xs p n).bind fun x8 => bif x8.1 then (spec_l20Rd_pick xs x8.2 3).bind fun x9 => bif (x9.1 == 0) then (dropF s 1).bind fun y1 => some (({ Sides := y1 } : Box), x9.2)
      else bif (x9.1 == 1) then (idx s 3).bind fun _x10 => some (({ Sides := (List.set s (3 : Int).toNat [({ Lo := 0, Hi := 8 } : Span)]) } : Box), x9.2) else (appF s [([] : List Span)]).bind fun z1 => some (({ Sides := z1 } : Box), x9.2)
      else some (({ Sides := s } : Box), x8.2)) p 3 (fun b => OkN 7 b ∧ (n ≤ 0 → BV b)) := by
    intro s p h4 hf
    have hok := OkN.of h4 hf
    refine Dr.bind (Dr.odd hx) (by decide) fun x8 p8 a8 => ?_
    refine Dr.ite (fun h => ?_) (fun _ => Dr.some ⟨hok, fun _ => BV_iff.2 ⟨h4, hf.few (by decide)⟩⟩ (by decide))
    have no' : ∀ b : Box, n ≤ 0 → BV b := fun t hn => by have := a8 hn; simp only at h; rw [h] at this; cases this
    refine Dr.bind (Dr.pick hx (by decide)) (by decide) fun x9 p9 a9 => ?_
    refine Dr.ite (fun _ => ?_) (fun _ => Dr.ite (fun _ => ?_) (fun _ => ?_))
    · refine Dr.pure (R := fun y => y = s.drop 1) ⟨_, by unfold dropF; rw [if_pos ⟨by omega, by rw [h4.1]; decide⟩]; rfl, rfl⟩ fun y hy => ?_
      subst hy
      exact Dr.some ⟨⟨by simp [h4.1], fun x hx => hok.2 x (List.mem_of_mem_drop hx)⟩, no' _⟩ (by decide)
    · refine Dr.pure (R := fun _ => True) ⟨_, sd_idx h4.1 (k := 3) (by decide), trivial⟩ fun _ _ => ?_
      refine Dr.some ⟨⟨by simp [h4.1], fun x hx => ?_⟩, no' _⟩ (by decide)
      rcases List.mem_or_eq_of_mem_set hx with h | h
      · exact hok.2 x h
      · rw [h]; simp
    · refine Dr.pure (R := fun z => z = s ++ [[]]) ⟨_, app_ok (by rw [h4.1]; decide), rfl⟩ fun z hz => ?_
      subst hz
      refine Dr.some ⟨⟨by simp [h4.1], fun x hx => ?_⟩, no' _⟩ (by decide)
      rcases List.mem_append.1 hx with h | h
      · exact hok.2 x h
      · rw [List.mem_singleton.1 h]; simp
  refine Dr.bind (Dr.pick hx (by decide)) (by decide) fun x3 p3 a3 => ?_
  refine Dr.ite (fun _ => ?_) (fun _ => ?_)
  · refine Dr.bind (Dr.pick hx (by decide)) (by decide) fun x4 p4 a4 => ?_
    obtain ⟨k, rfl⟩ := Int.eq_ofNat_of_zero_le a4.1
    have hk : k < 4 := by omega
    have ht := top_pos hk
    simp only [spec_top, Option.bind_some]
    refine Dr.bind (dr_set hx ht.1 ht.2 _) (by decide) fun x6 p6 a6 => ?_
    simp only [sd_idx hs.1 hk, Option.bind_some, Int.toNat_natCast]
    have t := tail (s.set k x6) p6 (hs.set hk a6.1) (hsf.set hs.1 hk (by omega))
    exact fun h0 h1 => let ⟨a, p, e, q, l, u⟩ := t h0 (by omega); ⟨a, p, e, q, l, by omega⟩
  · have t := tail s p3 hs hsf
    exact fun h0 h1 => let ⟨a, p, e, q, l, u⟩ := t h0 (by omega); ⟨a, p, e, q, l, by omega⟩
/-- Two boxes are drawn. -/
theorem dr_two14 {xs : List Int} (hx : Bytes xs) {pos : Int} (h0 : 0 ≤ pos) (h1 : pos + 500 ≤ 1000000) : ∃ (a b : Box) (p : Int), spec_l20Two xs pos = some (a, b, p) ∧ OkN 7 a ∧ OkN 14 b ∧ pos ≤ p ∧ p ≤ pos + 500 := by
  unfold spec_l20Two
  obtain ⟨a, p1, e1, ha, l1, u1⟩ := dr_box7 hx pos 16 h0 (by omega)
  obtain ⟨b, p2, e2, hb, l2, u2⟩ := dr_box7 hx p1 16 (by omega) (by omega)
  obtain ⟨c, p3, e3, hc, l3, u3⟩ := Dr.pick hx (pos := p2) (n := 5) (by decide) (by omega) (by omega)
  rw [e1, Option.bind_some, e2, Option.bind_some, e3, Option.bind_some]
  by_cases c0 : (c == 0) = true
  · rw [c0, cond_true]
    obtain ⟨m, _, em, _, hy, hn⟩ := meet_is (ha.1.okB (by decide)) (hb.1.okB (by decide))
    have hm : OkN 14 m := by
      by_cases hc : BV a ∧ BV b ∧ Few (meetS a.Sides b.Sides)
      · rw [hy hc]
        have ha4 := (BV_iff.1 hc.1).1
        have hb4 := (BV_iff.1 hc.2.1).1
        refine OkN.of (ha4.meet hb4) fun k hk => ?_
        rw [show sd (meetS a.Sides b.Sides) k = _ from sd_mk4 _ hk]
        have := (ha4.2 k hk).meet_few (hb4.2 k hk)
        have := ha.1.sd k
        have := hb.1.sd k
        omega
      · rw [hn hc]; exact ⟨by simp, by simp⟩
    have em' : spec_BoxMeet a ({ Sides := b.Sides } : Box) = some m := em
    simp only [em', Option.bind_some, spec_all]
    cases ((m.Sides.length : Int) == 0) with
    | true => exact ⟨_, _, _, rfl, ha.1, (OkN.of full_B4 (fun k hk => by unfold fullS; rw [sd_mk4 _ hk]; simp)), by omega, by omega⟩
    | false => exact ⟨_, _, _, rfl, ha.1, hm, by omega, by omega⟩
  · rw [Bool.eq_false_iff.2 c0, cond_false]
    by_cases c1 : (c == 1) = true
    · rw [c1, cond_true]
      obtain ⟨v, ev, hv⟩ := spec_box (ha.1.okB (by decide)).ok
      simp only [ev, Option.bind_some]
      cases v with
      | false => exact ⟨_, _, _, rfl, ha.1, hb.1.mono (by decide), by omega, by omega⟩
      | true =>
        have h4 := (hv.1 rfl).1
        obtain ⟨k, p4, e4, hk, l4, u4⟩ := Dr.pick hx (pos := p3) (n := 4) (by decide) (by omega) (by omega)
        obtain ⟨j, rfl⟩ := Int.eq_ofNat_of_zero_le hk.1
        have hj : j < 4 := by omega
        have ht := top_pos hj
        obtain ⟨s, p5, e5, hs, l5, u5⟩ := dr_set hx ht.1 ht.2 p4 (by omega) (by omega)
        rw [cond_true, e4, Option.bind_some, app_nil (by rw [h4]; decide)]
        simp only [Option.bind_some, spec_top, e5, idx_get (show j < a.Sides.length by omega), Int.toNat_natCast]
        exact ⟨_, _, _, rfl, ha.1, (ha.1.mono (by decide)).set j (by omega), by omega, by omega⟩
    · rw [Bool.eq_false_iff.2 c1, cond_false]
      exact ⟨_, _, _, rfl, ha.1, hb.1.mono (by decide), by omega, by omega⟩
theorem Set0.less_few {top : Int} {a b : List Span} (ha : Set0 top a) (hb : Set0 top b) : (lessL top a b).length ≤ a.length + b.length + 1 := by
  have h1 := ha.meet_few hb.other
  have h2 := otherL_len top 0 b
  unfold lessL
  omega
/-- What is cut off of small boxes is small. -/
theorem cut_few {a b : List (List Span)} (ha : B4 a) (hb : B4 b) (hfa : Few a) (hs : ∀ k, k < 4 → (sd a k).length + (sd b k).length ≤ 39) : ∀ p ∈ cutL a b, Few p := by
  intro p hp
  unfold cutL at hp
  split at hp
  · split at hp
    · cases hp
    · rw [List.mem_singleton.1 hp]; exact hfa
  · unfold cutN at hp
    obtain ⟨k, hk, e⟩ := List.mem_filterMap.1 hp
    split at e
    · cases e
    · cases e
      intro j hj
      rw [show sd (pieceK a b k) j = _ from sd_mk4 _ hj]
      have hj2 := hs j hj
      split
      · have := (ha.2 j hj).meet_few (hb.2 j hj)
        omega
      · split
        · rename_i h; subst h
          have := (ha.2 j hj).less_few (hb.2 j hj)
          show (lessL (topOf j) (sd a j) (sd b j)).length ≤ 40
          omega
        · omega
end Go.PF.F
