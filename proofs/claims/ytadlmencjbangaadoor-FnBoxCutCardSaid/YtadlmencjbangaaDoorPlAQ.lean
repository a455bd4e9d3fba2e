/- Plain laws: BoxCut. -/
import Derived.Test.YtadlmencjbangaaDoorPlAP
namespace Go.PF.F
open Go Go.PF

theorem draw_boxcut {code : List Int} (h : GAll GU8 code) : ∃ (a b : Box), spec_DrawBoxCut code = some (a, b) ∧ OkN 7 a ∧ OkN 14 b := by
  unfold spec_DrawBoxCut
  refine draw_open (R := fun m => ∃ (a b : Box), m = some (a, b) ∧ OkN 7 a ∧ OkN 14 b) h fun xs hx => ?_
  obtain ⟨a, b, p, e, ha, hb, _, _⟩ := dr_two14 hx (pos := 0) (by decide) (by decide)
  have e' : spec_l20Two (xs, (0 : Int)).1 (xs, (0 : Int)).2 = some (a, b, p) := e
  rw [e']
  exact ⟨a, b, rfl, ha, hb⟩
theorem Set0.meet_self {top : Int} {a : List Span} (h : Set0 top a) : meetL a a = a := (h.meet h).ext h fun v => by rw [has_meetL, Bool.and_self]
/-- The meetings of pieces of small boxes are small. -/
theorem cut_meets {a b : List (List Span)} (ha : B4 a) (hb : B4 b) (hm : FewN 7 a) (hn : FewN 14 b) : (cutL a b).Pairwise fun p q => Few (meetS p q) := by
  have hsm := cut_small ha hb hm hn
  have hin : ∀ n, n < 4 → lessK a b n ≠ [] → ¬ emptyS (meetS a b) → pieceK a b n ∈ cutL a b := fun n hn hz he => by
    unfold cutL
    rw [if_neg he]
    exact List.mem_filterMap.2 ⟨n, List.mem_range.2 hn, by rw [if_neg hz]⟩
  by_cases he : emptyS (meetS a b)
  · unfold cutL
    rw [if_pos he]
    split <;> simp
  · have hin := fun n hn hz => hin n hn hz he
    unfold cutL
    rw [if_neg he]
    unfold cutN
    refine filterMap_pairwise (S := fun x y => x < y ∧ y < 4) ?_ ?_
    · rintro x y u v ⟨hxy, hy⟩ hu hv
      split at hu
      · cases hu
      · rename_i hzx
        split at hv
        · cases hv
        · rename_i hzy
          cases hu; cases hv
          intro k hk
          rw [show sd (meetS (pieceK a b x) (pieceK a b y)) k = _ from sd_mk4 _ hk]
          have hpx := pieceK_B4 ha hb (show x < 4 by omega)
          have hpy := pieceK_B4 ha hb hy
          have hmk := ((ha.2 k hk).meet_few (hb.2 k hk))
          have h1 := hm k hk
          have h2 := hn k hk
          rcases Nat.lt_trichotomy k x with hkx | hkx | hkx
          · have e1 : sd (pieceK a b x) k = meetL (sd a k) (sd b k) := by rw [show sd (pieceK a b x) k = _ from sd_mk4 _ hk, if_pos hkx]
            have e2 : sd (pieceK a b y) k = meetL (sd a k) (sd b k) := by rw [show sd (pieceK a b y) k = _ from sd_mk4 _ hk, if_pos (by omega)]
            rw [e1, e2, ((ha.2 k hk).meet (hb.2 k hk)).meet_self]
            omega
          · subst hkx
            have : sd (meetS (pieceK a b k) (pieceK a b y)) k = [] := (meet_nil_iff hpx hpy hk).2 fun v hv => by
              rw [has_piece ha hb hk, if_neg (by omega), if_pos rfl, Bool.and_eq_true] at hv
              rw [has_piece ha hb hk, if_pos hxy, hv.1]
              simpa using hv.2
            rw [show sd (meetS (pieceK a b k) (pieceK a b y)) k = _ from sd_mk4 _ hk] at this
            rw [this]; simp
          · have e1 : sd (pieceK a b x) k = sd a k := by rw [show sd (pieceK a b x) k = _ from sd_mk4 _ hk, if_neg (by omega), if_neg (by omega)]
            have h3 := hsm _ (hin y hy hzy) k hk
            have := (hpx.2 k hk).meet_few (hpy.2 k hk)
            rw [e1] at this ⊢
            omega
    · rw [List.pairwise_iff_getElem]
      intro i j hi hj hij
      simp at hi hj ⊢
      omega
/-- A meeting without points is empty. -/
theorem meet_empty {p q : List (List Span)} (hp : B4 p) (hq : B4 q) (hpf : Few p) (hqf : Few q) (hd : Dj p q) (hf : Few (meetS p q)) : ∃ m, impl_BoxMeet ⟨p⟩ ⟨q⟩ = some m ∧ impl_BoxEmpty m = some true := by
  obtain ⟨m, em, hy, _⟩ := impl_meetb (B4.ok (b := ⟨p⟩) hp) (B4.ok (b := ⟨q⟩) hq)
  have hm := hy ⟨BV_iff.2 ⟨hp, hpf⟩, BV_iff.2 ⟨hq, hqf⟩, hf⟩
  subst hm
  refine ⟨_, em, ?_⟩
  obtain ⟨u, eu, hu⟩ := impl_emptyb (B4.ok (b := ⟨meetS p q⟩) (hp.meet hq))
  rw [eu, hu.2 ⟨BV_iff.2 ⟨hp.meet hq, hf⟩, dj_empty hp hq hd⟩]
theorem meets_loop {r : List (List (List Span))} (hr : ∀ p ∈ r, B4 p ∧ Few p) (hl : r.length ≤ 400) (hd : r.Pairwise Dj) (hm : r.Pairwise fun p q => Few (meetS p q)) {k : Nat} (hk : k < r.length) :
    loopF (laws_FnBoxCut_L1 (r.map Box.mk) (k : Int) ⟨r[k]⟩) (((k : Int) : Int) - 0).toNat.succ 0 = some (.brk (k : Int)) := by
  refine loop_brk0 (body := laws_FnBoxCut_L1 (r.map Box.mk) (k : Int) ⟨r[k]⟩) k (fun j : Nat => (j : Int)) rfl (fun j hj => ?_) ?_ (by omega)
  · have hj' : j < (r.map Box.mk).length := by rw [List.length_map]; omega
    have h1 := hr _ (List.getElem_mem (show j < r.length by omega))
    have h2 := hr _ (List.getElem_mem hk)
    obtain ⟨m, em, ee⟩ := meet_empty h1.1 h2.1 h1.2 h2.2 (List.pairwise_iff_getElem.1 hd j k (by omega) hk hj) (List.pairwise_iff_getElem.1 hm j k (by omega) hk hj)
    unfold laws_FnBoxCut_L1
    simp only [lt_true (show (j : Int) < (k : Int) by omega), cond_true, idx_get hj', List.getElem_map, Option.bind_some, em, ee, W_succ (show j < 9223372036854775807 by omega)]
  · unfold laws_FnBoxCut_L1
    simp only [lt_false (Int.le_refl _), cond_false]
theorem cut_loop {a b : Box} {r : List (List (List Span))} (ha : BV a) (hb : BV b) (hr : ∀ p ∈ r, B4 p ∧ Few p) (hl : r.length ≤ 400) (hne : ∀ p ∈ r, ¬ emptyS p) (hd : r.Pairwise Dj) (hm : r.Pairwise fun p q => Few (meetS p q))
    (hw : ∀ p ∈ r, Within p a.Sides) (hdb : ∀ p ∈ r, Dj p b.Sides) (hfb : ∀ p ∈ r, Few (meetS p b.Sides)) (p : Packet) :
    loopF (laws_FnBoxCut_L0 (a, b) (r.map Box.mk) p) (((((r.map Box.mk).length : Int)) : Int) - 0).toNat.succ (0, 0) = some (.brk ((r.countP (inP p) : Nat), (r.length : Int))) := by
  obtain ⟨ha4, haf⟩ := BV_iff.1 ha
  obtain ⟨hb4, hbf⟩ := BV_iff.1 hb
  refine loop_brk0 (body := laws_FnBoxCut_L0 (a, b) (r.map Box.mk) p) r.length (fun k : Nat => (((r.take k).countP (inP p) : Nat), (k : Int))) rfl (fun k hk => ?_) ?_ (by rw [List.length_map]; omega)
  · have hmem := List.getElem_mem hk
    have hm1 := hr _ hmem
    have hk' : k < (r.map Box.mk).length := by simpa using hk
    have hc : (r.take k).countP (inP p) ≤ 400 := by
      have := List.countP_le_length (p := inP p) (l := r.take k)
      rw [List.length_take] at this
      omega
    have e1 : impl_BoxHas ⟨r[k]⟩ p = some (inP p r[k]) := inP_is hm1.1 hm1.2
    obtain ⟨w, ew, hw1⟩ := impl_within (B4.ok (b := ⟨r[k]⟩) hm1.1) (B4.ok ha4)
    obtain rfl : w = true := hw1.2 ⟨BV_iff.2 hm1, ha, hw _ hmem⟩
    have ew' : impl_BoxWithin ⟨r[k]⟩ ({ Sides := (a, b).1.Sides } : Box) = some true := ew
    obtain ⟨m, em, ee⟩ := meet_empty hm1.1 hb4 hm1.2 hbf (hdb _ hmem) (hfb _ hmem)
    have em' : impl_BoxMeet ⟨r[k]⟩ ({ Sides := (a, b).2.Sides } : Box) = some m := em
    have l1 := meets_loop hr hl hd hm hk
    have l2 : loopF (laws_FnBoxCut_L2 (r.map Box.mk) (k : Int) ⟨r[k]⟩) (((k : Int) : Int) - 0).toNat.succ 0 = some (.brk (k : Int)) := l1
    unfold laws_FnBoxCut_L0
    simp only [lt_true (show (k : Int) < ((r.map Box.mk).length : Int) by omega), cond_true, idx_get hk', List.getElem_map, Option.bind_some, e1, not_empty_is hm1.1 (hne _ hmem), cond_false, ew', em', ee, l1, l2, LR.on, W_succ (show k < 9223372036854775807 by omega), W_succ (show (r.take k).countP (inP p) < 9223372036854775807 by omega), countP_snoc hk]
    cases inP p r[k] <;> simp
  · unfold laws_FnBoxCut_L0
    simp only [List.length_map, lt_false (Int.le_refl _), cond_false, List.take_length]
theorem plain_FnBoxCut (code more : List Int) (g : GAll GU8 code) (_gm : GAll GU8 more) : laws_FnBoxCut code more = some true := by
  unfold laws_FnBoxCut
  refine draw_guard fun _ => draw_guard fun hm => ?_
  obtain ⟨a, b, e, ha, hb⟩ := draw_boxcut g
  have oa := ha.okB (by decide)
  have ob := hb.okB (by decide)
  have e1 : impl_BoxCut ({ Sides := (a, b).1.Sides } : Box) ({ Sides := (a, b).2.Sides } : Box) = some _ := boxcut_is oa.ok ob.ok
  have e2 : spec_BoxCut ({ Sides := (a, b).1.Sides } : Box) ({ Sides := (a, b).2.Sides } : Box) = some _ := spec_boxcut oa ob
  obtain ⟨v, e3, hv⟩ := spec_box oa.ok
  obtain ⟨w, e4, hw⟩ := spec_box ob.ok
  have e3' : spec_BoxValid ({ Sides := (a, b).1.Sides } : Box) = some v := e3
  have e4' : spec_BoxValid ({ Sides := (a, b).2.Sides } : Box) = some w := e4
  rw [e, Option.bind_some, e1, Option.bind_some, e2, Option.bind_some]
  by_cases hc : BV a ∧ BV b
  · obtain ⟨hBa, hBb⟩ := hc
    obtain ⟨ha4, haf⟩ := BV_iff.1 hBa
    obtain ⟨hb4, hbf⟩ := BV_iff.1 hBb
    have na : FewN 7 a.Sides := fun k hk => ha.sd k
    have nb : FewN 14 b.Sides := fun k hk => hb.sd k
    have hfew : ∀ p ∈ cutL a.Sides b.Sides, Few p := cut_few ha4 hb4 haf fun k hk => by
      have := na k hk
      have := nb k hk
      omega
    rw [if_pos ⟨hBa, hBb, hfew⟩]
    have hB := cutL_B4 ha4 hb4
    have hr : ∀ p ∈ cutL a.Sides b.Sides, B4 p ∧ Few p := fun p hp => ⟨hB p hp, hfew p hp⟩
    have hcl := cutL_len a.Sides b.Sides
    obtain rfl : v = true := hv.2 hBa
    obtain rfl : w = true := hw.2 hBb
    have hsm := cut_small ha4 hb4 na nb
    have hd := cut_dj ha4 hb4
    obtain ⟨p, ep⟩ := probe_ok (list := [⟨a.Sides⟩, ⟨b.Sides⟩]) (by simp) (by
      intro x hx
      rcases List.mem_cons.1 hx with rfl | hx
      · exact oa.ok
      · rw [List.mem_singleton.1 hx]; exact ob.ok) (more_seed hm).1 (more_seed hm).2
    have ep' : laws_probe [({ Sides := (a, b).1.Sides } : Box), ({ Sides := (a, b).2.Sides } : Box)] (more.length : Int) = some p := ep
    obtain ⟨hc1, hc2⟩ := count_pos (p := p) hd
    rw [same_boxes _ _ (show ((cutL a.Sides b.Sides).map Box.mk).length ≤ 9223372036854775807 by rw [List.length_map]; omega) (maps_ok hr), decide_eq_true rfl, Option.bind_some, cond_true, e3', Option.bind_some, cond_true, e4', Option.bind_some, cond_true, ep', Option.bind_some,
      cut_loop hBa hBb hr (by omega) (cut_ne ha4 hb4) hd (cut_meets ha4 hb4 na nb) (cut_within ha4 hb4) (cut_dj_b ha4 hb4) (fun q hq k hk => by
        rw [show sd (meetS q b.Sides) k = _ from sd_mk4 _ hk]
        have h1 := (hB q hq).2 k hk
        have := h1.meet_few (hb4.2 k hk)
        have := hsm q hq k hk
        have := nb k hk
        omega) p]
    obtain ⟨u, eu, hu⟩ := impl_has oa.ok p
    obtain ⟨z, ez, hz⟩ := impl_has ob.ok p
    have eu' : impl_BoxHas ({ Sides := (a, b).1.Sides } : Box) p = some u := eu
    have ez' : impl_BoxHas ({ Sides := (a, b).2.Sides } : Box) p = some z := ez
    have hub : u = true ↔ PV p ∧ hasB a.Sides (pf p) := by
      rw [hu]
      exact ⟨fun x => ⟨x.2.1, (BH_hasB ha4.1).1 x.2.2⟩, fun x => ⟨hBa, x.1, (BH_hasB ha4.1).2 x.2⟩⟩
    have hzb : z = true ↔ PV p ∧ hasB b.Sides (pf p) := by
      rw [hz]
      exact ⟨fun x => ⟨x.2.1, (BH_hasB hb4.1).1 x.2.2⟩, fun x => ⟨hBb, x.1, (BH_hasB hb4.1).2 x.2⟩⟩
    rw [cut_has ha4 hb4] at hc2
    simp only [Option.bind_some, LR.on, List.length_map, le_true (show ((cutL a.Sides b.Sides).length : Int) ≤ 4 by omega), le_true (show (((cutL a.Sides b.Sides).countP (inP p) : Nat) : Int) ≤ 1 by omega), cond_true, eu', ez']
    cases u with
    | false =>
      have : ((((cutL a.Sides b.Sides).countP (inP p) : Nat) : Int) == 1) = false := one_eq (hc2.trans ⟨fun x => hub.2 ⟨x.1, x.2.1⟩, fun x => by cases x⟩)
      simp only [cond_false, this, beq_self_eq_true, cond_true]
    | true =>
      have hp := hub.1 rfl
      have : ((((cutL a.Sides b.Sides).countP (inP p) : Nat) : Int) == 1) = !z := one_eq (hc2.trans ⟨fun x => by
          cases z with
          | false => rfl
          | true => exact absurd (hzb.1 rfl).2 x.2.2, fun x => ⟨hp.1, hp.2, fun hh => by
          rw [hzb.2 ⟨hp.1, hh⟩] at x; cases x⟩⟩)
      simp only [cond_true, this, beq_self_eq_true]
  · rw [if_neg fun h => hc ⟨h.1, h.2.1⟩]
    rw [same_boxes _ _ (show ([] : List Box).length ≤ 9223372036854775807 by simp) (fun x hx => by cases hx), decide_eq_true rfl, Option.bind_some, cond_true, e3', Option.bind_some]
    cases v with
    | false => rfl
    | true =>
      rw [cond_true, e4', Option.bind_some]
      cases w with
      | false => rfl
      | true => exact absurd ⟨hv.1 rfl, hw.1 rfl⟩ hc
end Go.PF.F
