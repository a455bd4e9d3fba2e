/- Plain laws: RegionLess, RegionMore, RegionOrder. -/
import Derived.Test.YtadlmencjbangaaDoorPlAO
namespace Go.PF.F
open Go Go.PF

theorem draw_regionless {code : List Int} (h : GAll GU8 code) : ∃ (b : Box) (bs : List Box), spec_DrawRegionLess code = some (b, bs) ∧ OkB b ∧ BoxesSm bs := by
  unfold spec_DrawRegionLess
  refine draw_open (R := fun m => ∃ (b : Box) (bs : List Box), m = some (b, bs) ∧ OkB b ∧ BoxesSm bs) h fun xs hx => ?_
  refine Dr.run (R := fun m => ∃ (b : Box) (bs : List Box), m = some (b, bs) ∧ OkB b ∧ BoxesSm bs) (dr_box hx 0 14) (by decide) (by decide) fun b p hb h0 h1 => ?_
  exact Dr.run (R := fun m => ∃ (b : Box) (bs : List Box), m = some (b, bs) ∧ OkB b ∧ BoxesSm bs) (dr_region hx p 14) h0 (by omega) fun bs p' hbs _ _ => ⟨b, _, rfl, hb.1, hbs⟩
theorem less_pts {b : Box} {bs : List Box} {r : List (List (List Span))} (hb : BV b) (hR : RV bs) (hl : lessA (startL b.Sides) (bs.map (·.Sides)) = some r) (f : Nat → Int) :
    (∃ p ∈ r, hasB p f) ↔ hasB b.Sides f ∧ ∀ c ∈ bs, ¬ hasB c.Sides f := by
  rw [lessA_has (start_B4 (BV_iff.1 hb).1) (fun c hc => by
    obtain ⟨x, hx, rfl⟩ := List.mem_map.1 hc
    exact (BV_iff.1 (hR.1 x hx)).1) hl f, start_has]
  simp
theorem less_djs {b : Box} {bs : List Box} {r : List (List (List Span))} (hb : BV b) (hR : RV bs) (hl : lessA (startL b.Sides) (bs.map (·.Sides)) = some r) : r.Pairwise Dj ∧ ∀ p ∈ r, ¬ emptyS p :=
  lessA_dj (start_B4 (BV_iff.1 hb).1) (fun c hc => by
    obtain ⟨x, hx, rfl⟩ := List.mem_map.1 hc
    exact (BV_iff.1 (hR.1 x hx)).1) start_dj.1 start_dj.2 hl
theorem maps_ok {r : List (List (List Span))} (hr : ∀ p ∈ r, B4 p ∧ Few p) : ∀ x ∈ r.map Box.mk, OkBox x := fun x hx => by
  obtain ⟨p, hp, rfl⟩ := List.mem_map.1 hx
  exact B4.ok (b := ⟨p⟩) (hr p hp).1
/-- A packet in what is left. -/
theorem has_left {r : List (List (List Span))} (hr : ∀ p ∈ r, B4 p ∧ Few p) (hl : r.length ≤ 400) (p : Packet) : Dec (impl_RegionHas (r.map Box.mk) p) (PV p ∧ ∃ s ∈ r, hasB s (pf p)) := by
  refine (impl_rhas (by rw [List.length_map]; omega) (maps_ok hr) p).iff ?_
  constructor
  · rintro ⟨_, hp, b, hb, hh⟩
    obtain ⟨s, hs, rfl⟩ := List.mem_map.1 hb
    exact ⟨hp, s, hs, (BH_hasB (hr s hs).1.1).1 hh⟩
  · rintro ⟨hp, s, hs, hh⟩
    exact ⟨(rv_okl fun p hp => (hr p hp).1).2 ⟨fun p hp => (hr p hp).2, hl⟩, hp, ⟨s⟩, List.mem_map_of_mem hs, (BH_hasB (hr s hs).1.1).2 hh⟩
theorem probe_region {b : Box} {bs : List Box} (hb : OkB b) (hs : BoxesSm bs) {more : List Int} (hm : ¬ (1048576 : Int) < (more.length : Int)) : ∃ p, laws_probe (bs ++ [b]) (more.length : Int) = some p :=
  probe_ok (by have := hs.1; simp; omega) (fun x hx => by
    rcases List.mem_append.1 hx with hx | hx
    · exact (hs.2 x hx).ok
    · rw [List.mem_singleton.1 hx]; exact hb.ok) (more_seed hm).1 (more_seed hm).2
theorem turned_is {b : Box} {bs : List Box} (hl : bs.length ≤ 100000) : loopF (laws_FnRegionOrder_L0 (b, bs)) ((((W ((bs.length : Int) - 1))) : Int) + 1).toNat.succ (([] : List Box), (W ((bs.length : Int) - 1))) = some (.brk (bs.reverse, -1)) := by
  rw [W_of (by omega) (by omega)]
  refine loop_brk0 (body := laws_FnRegionOrder_L0 (b, bs)) bs.length (fun j : Nat => (bs.reverse.take j, (bs.length : Int) - 1 - (j : Int))) (by simp) (fun j hj => ?_) ?_ (by omega)
  · unfold laws_FnRegionOrder_L0
    have e : (bs.length : Int) - 1 - (j : Int) = ((bs.length - 1 - j : Nat) : Int) := by omega
    have hj' : j < bs.reverse.length := by simpa using hj
    simp only [e, le_true (show (0 : Int) ≤ ((bs.length - 1 - j : Nat) : Int) by omega), cond_true, idx_get (show bs.length - 1 - j < bs.length by omega), Option.bind_some, app_ok (show (bs.reverse.take j).length + [bs[bs.length - 1 - j]].length ≤ 4294967296 by simp; omega), W_of (show -9223372036854775808 ≤ ((bs.length - 1 - j : Nat) : Int) - 1 by omega) (by omega)]
    rw [take_snoc (List.getElem?_eq_getElem hj'), List.getElem_reverse]
    congr 3
    omega
  · unfold laws_FnRegionOrder_L0
    simp only [le_false (show (bs.length : Int) - 1 - (bs.length : Int) < 0 by omega), cond_false]
    rw [List.take_of_length_le (by simp)]
    congr 3
    omega
theorem RV.reverse {bs : List Box} (h : RV bs) : RV bs.reverse := ⟨fun b hb => h.1 b (List.mem_reverse.1 hb), by rw [List.length_reverse]; exact h.2⟩
theorem nil_of_pts {r : List (List (List Span))} (hr : ∀ p ∈ r, B4 p ∧ Few p) (hn : ∀ p ∈ r, ¬ emptyS p) : r = [] ↔ ∀ f, ¬ ∃ p ∈ r, hasB p f := by
  constructor
  · rintro rfl f ⟨p, hp, _⟩; cases hp
  · intro h
    cases r with
    | nil => rfl
    | cons p ps =>
      obtain ⟨f, hf⟩ := some_point (hr p (by simp)).1 (hn p (by simp))
      exact absurd ⟨p, by simp, hf⟩ (h f)
theorem len_zero {α : Type} (xs : List α) : ((xs.length : Int) == 0) = decide (xs = []) := by
  cases xs with
  | nil => rfl
  | cons x xs => simp; omega
theorem plain_FnRegionOrder (code more : List Int) (g : GAll GU8 code) (_gm : GAll GU8 more) : laws_FnRegionOrder code more = some true := by
  unfold laws_FnRegionOrder
  refine draw_guard fun _ => draw_guard fun hm => ?_
  obtain ⟨b, bs, e, hb, hs⟩ := draw_regionless g
  have hn := hs.1
  rw [e, Option.bind_some]
  have hl' : bs.reverse.length ≤ 100000 := by rw [List.length_reverse]; omega
  rcases less_both hb (show bs.length ≤ 100000 by omega) hs.2 with ⟨r, e1, e2, hBb, hR, hl, hr, hrl⟩ | ⟨e1, e2⟩
  · simp only [e1, e2, Option.bind_some, same_boxes _ _ (show (r.map Box.mk).length ≤ 9223372036854775807 by rw [List.length_map]; omega) (maps_ok hr), decide_true, cond_true, bne_self_eq_false, cond_false]
    rw [turned_is (by omega)]
    simp only [Option.bind_some, LR.on]
    rcases less_both hb hl' (fun x hx => hs.2 x (List.mem_reverse.1 hx)) with ⟨q, f1, _, _, hR', hl2, hq, hql⟩ | ⟨f1, _⟩
    · obtain ⟨p, ep⟩ := probe_region hb hs hm
      obtain ⟨u, eu, hu⟩ := has_left hr hrl p
      obtain ⟨v, ev, hv⟩ := has_left hq hql p
      have eu' : impl_RegionHas (r.map Box.mk) ({ From := p.From, To := p.To, Port := p.Port, Proto := p.Proto } : Packet) = some u := eu
      have ev' : impl_RegionHas (q.map Box.mk) ({ From := p.From, To := p.To, Port := p.Port, Proto := p.Proto } : Packet) = some v := ev
      have hpts : ∀ f, (∃ s ∈ r, hasB s f) ↔ ∃ s ∈ q, hasB s f := fun f => by
        rw [less_pts hBb hR hl, less_pts hBb hR' hl2]
        simp
      have huv : u = v := by rw [Bool.eq_iff_iff, hu, hv, hpts]
      have hz : (r = []) ↔ (q = []) := by
        rw [nil_of_pts hr (less_djs hBb hR hl).2, nil_of_pts hq (less_djs hBb hR' hl2).2]
        simp only [hpts]
      simp only [f1, Option.bind_some, cond_true, app_nil (show bs.length ≤ 4294967296 by omega), app_ok (show bs.length + [b].length ≤ 4294967296 by simp; omega), ep, eu', ev', huv, beq_self_eq_true, List.length_map, len_zero, hz, List.map_eq_nil_iff]
    · simp only [f1, Option.bind_some, cond_false, alive_is]
  · simp only [e1, e2, Option.bind_some, same_boxes _ _ (show ([] : List Box).length ≤ 9223372036854775807 by simp) (fun x hx => by cases hx), decide_true, cond_true, bne_self_eq_false, cond_false]
    rw [turned_is (by omega)]
    simp only [Option.bind_some, LR.on]
    rcases less_both hb hl' (fun x hx => hs.2 x (List.mem_reverse.1 hx)) with ⟨q, f1, _⟩ | ⟨f1, _⟩
    · simp only [f1, Option.bind_some, alive_is]
    · simp only [f1, Option.bind_some, alive_is]
end Go.PF.F
