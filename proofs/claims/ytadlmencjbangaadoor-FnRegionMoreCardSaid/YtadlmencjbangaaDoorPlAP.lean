/- Plain laws: RegionLess, RegionMore, RegionOrder. -/
import Derived.Test.YtadlmencjbangaaDoorPlAO
namespace Go.PF.F
open Go Go.PF

theorem draw_regionless {code : List Int} (h : GAll GU8 code) : ∃ (b : Box) (bs : List Box), spec_DrawRegionLess code = some (b, bs) ∧ OkB b ∧ BoxesSm bs := by
  unfold spec_DrawRegionLess
  refine draw_open (R := fun m => ∃ (b : Box) (bs : List Box), m = some (b, bs) ∧ OkB b ∧ BoxesSm bs) h fun xs hx => ?_
  refine Dr.run (R := fun m => ∃ (b : Box) (bs : List Box), m = some (b, bs) ∧ OkB b ∧ BoxesSm bs) (dr_box hx 0 14) (by decide) (by decide) fun b p hb h0 h1 => ?_
  exact Dr.run (R := fun m => ∃ (b : Box) (bs : List Box), m = some (b, bs) ∧ OkB b ∧ BoxesSm bs) (dr_region hx p 14) h0 (by omega) fun bs p' hbs _ _ => ⟨b, _, rfl, hb.1, hbs⟩
theorem less_pts {b : Box} {bs : List Box} {r : List (List (List Span))} (hb : BV b) (hR : RV bs) (hl : lessA (startL b.Sides) (bs.map (·.Sides)) = some r) (f : Nat → Int) :
    (∃ p ∈ r, hasB p f) ↔ hasB b.Sides f ∧ ∀ c ∈ bs, ¬ hasB c.Sides f := by
  rw [lessA_has (start_B4 (BV_iff.1 hb).1) (fun c hc => by
    obtain ⟨x, hx, rfl⟩ := List.mem_map.1 hc
    exact (BV_iff.1 (hR.1 x hx)).1) hl f, start_has]
  simp
theorem maps_ok {r : List (List (List Span))} (hr : ∀ p ∈ r, B4 p ∧ Few p) : ∀ x ∈ r.map Box.mk, OkBox x := fun x hx => by
  obtain ⟨p, hp, rfl⟩ := List.mem_map.1 hx
  exact B4.ok (b := ⟨p⟩) (hr p hp).1
/-- A packet in what is left. -/
theorem has_left {r : List (List (List Span))} (hr : ∀ p ∈ r, B4 p ∧ Few p) (hl : r.length ≤ 400) (p : Packet) : Dec (impl_RegionHas (r.map Box.mk) p) (PV p ∧ ∃ s ∈ r, hasB s (pf p)) := by
  refine (impl_rhas (by rw [List.length_map]; omega) (maps_ok hr) p).iff ?_
  constructor
  · rintro ⟨_, hp, b, hb, hh⟩
    obtain ⟨s, hs, rfl⟩ := List.mem_map.1 hb
    exact ⟨hp, s, hs, (BH_hasB (hr s hs).1.1).1 hh⟩
  · rintro ⟨hp, s, hs, hh⟩
    exact ⟨(rv_okl fun p hp => (hr p hp).1).2 ⟨fun p hp => (hr p hp).2, hl⟩, hp, ⟨s⟩, List.mem_map_of_mem hs, (BH_hasB (hr s hs).1.1).2 hh⟩
theorem probe_region {b : Box} {bs : List Box} (hb : OkB b) (hs : BoxesSm bs) {more : List Int} (hm : ¬ (1048576 : Int) < (more.length : Int)) : ∃ p, laws_probe (bs ++ [b]) (more.length : Int) = some p :=
  probe_ok (by have := hs.1; simp; omega) (fun x hx => by
    rcases List.mem_append.1 hx with hx | hx
    · exact (hs.2 x hx).ok
    · rw [List.mem_singleton.1 hx]; exact hb.ok) (more_seed hm).1 (more_seed hm).2
theorem plain_FnRegionMore (code more : List Int) (g : GAll GU8 code) (_gm : GAll GU8 more) : laws_FnRegionMore code more = some true := by
  unfold laws_FnRegionMore
  refine draw_guard fun _ => draw_guard fun hm => ?_
  obtain ⟨b, bs, e, hb, hs⟩ := draw_regionless g
  have hn := hs.1
  rw [e, Option.bind_some]
  rcases less_both hb (show bs.length ≤ 100000 by omega) hs.2 with ⟨r, e1, e2, hBb, hR, hl, hr, hrl⟩ | ⟨e1, e2⟩
  · simp only [e1, e2, Option.bind_some, same_boxes _ _ (show (r.map Box.mk).length ≤ 9223372036854775807 by rw [List.length_map]; omega) (maps_ok hr), decide_true, cond_true, bne_self_eq_false, cond_false]
    have hRt : RV (bs.take (bs.length / 2)) := hR.take _
    have hlt := hl
    rw [← List.take_append_drop (bs.length / 2) bs, List.map_append] at hlt
    obtain ⟨m, hm1, _⟩ := lessA_app hlt
    obtain ⟨hb4, hbf⟩ := BV_iff.1 hBb
    obtain ⟨hm2, hm3⟩ := (less_region (region := (bs.take (bs.length / 2)).map (·.Sides)) hb4 hbf (fun p hp => by
      obtain ⟨x, hx, rfl⟩ := List.mem_map.1 hp
      exact (BV_iff.1 (hRt.1 x hx)).1) (by simp; omega)).2 m hm1
    have e3 : impl_RegionLess b (bs.take (bs.length / 2)) = some (m.map Box.mk, true) := by
      rw [regionless_is hb.ok (by simp; omega) (fun x hx => (hs.2 x (List.mem_of_mem_take hx)).ok), if_pos ⟨hBb, hRt⟩, hm1]
    obtain ⟨p, ep⟩ := probe_region hb hs hm
    obtain ⟨u, eu, hu⟩ := has_left hr hrl p
    obtain ⟨v, ev, hv⟩ := has_left hm2 hm3 p
    have eu' : impl_RegionHas (r.map Box.mk) ({ From := p.From, To := p.To, Port := p.Port, Proto := p.Proto } : Packet) = some u := eu
    have ev' : impl_RegionHas (m.map Box.mk) ({ From := p.From, To := p.To, Port := p.Port, Proto := p.Proto } : Packet) = some v := ev
    simp only [take_half (show bs.length ≤ 4294967296 by omega), Option.bind_some, e3, app_nil (show bs.length ≤ 4294967296 by omega), app_ok (show bs.length + [b].length ≤ 4294967296 by simp; omega), ep, cond_true, eu', ev']
    cases u with
    | false => rfl
    | true =>
      have h1 := hu.1 rfl
      have h2 := (less_pts hBb hR hl _).1 h1.2
      rw [cond_true, hv.2 ⟨h1.1, (less_pts hBb hRt hm1 _).2 ⟨h2.1, fun c hc => h2.2 c (List.mem_of_mem_take hc)⟩⟩]
  · simp only [e1, e2, Option.bind_some, same_boxes _ _ (show ([] : List Box).length ≤ 9223372036854775807 by simp) (fun x hx => by cases hx), decide_true, cond_true, bne_self_eq_false, cond_false, alive_is]
end Go.PF.F
