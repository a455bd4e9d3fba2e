/- Plain laws: RegionLess, RegionMore, RegionOrder. -/
import Derived.Test.YtadlmencjbangaaDoorPlAO
namespace Go.PF.F
open Go Go.PF

theorem draw_regionless {code : List Int} (h : GAll GU8 code) : ∃ (b : Box) (bs : List Box), spec_DrawRegionLess code = some (b, bs) ∧ OkB b ∧ BoxesSm bs := by
  unfold spec_DrawRegionLess
  refine draw_open (R := fun m => ∃ (b : Box) (bs : List Box), m = some (b, bs) ∧ OkB b ∧ BoxesSm bs) h fun xs hx => ?_
  refine Dr.run (R := fun m => ∃ (b : Box) (bs : List Box), m = some (b, bs) ∧ OkB b ∧ BoxesSm bs) (dr_box hx 0 14) (by decide) (by decide) fun b p hb h0 h1 => ?_
  exact Dr.run (R := fun m => ∃ (b : Box) (bs : List Box), m = some (b, bs) ∧ OkB b ∧ BoxesSm bs) (dr_region hx p 14) h0 (by omega) fun bs p' hbs _ _ => ⟨b, _, rfl, hb.1, hbs⟩
theorem less_pts {b : Box} {bs : List Box} {r : List (List (List Span))} (hb : BV b) (hR : RV bs) (hl : lessA (startL b.Sides) (bs.map (·.Sides)) = some r) (f : Nat → Int) :
    (∃ p ∈ r, hasB p f) ↔ hasB b.Sides f ∧ ∀ c ∈ bs, ¬ hasB c.Sides f := by
  rw [lessA_has (start_B4 (BV_iff.1 hb).1) (fun c hc => by
    obtain ⟨x, hx, rfl⟩ := List.mem_map.1 hc
    exact (BV_iff.1 (hR.1 x hx)).1) hl f, start_has]
  simp
theorem less_djs {b : Box} {bs : List Box} {r : List (List (List Span))} (hb : BV b) (hR : RV bs) (hl : lessA (startL b.Sides) (bs.map (·.Sides)) = some r) : r.Pairwise Dj ∧ ∀ p ∈ r, ¬ emptyS p :=
  lessA_dj (start_B4 (BV_iff.1 hb).1) (fun c hc => by
    obtain ⟨x, hx, rfl⟩ := List.mem_map.1 hc
    exact (BV_iff.1 (hR.1 x hx)).1) start_dj.1 start_dj.2 hl
theorem maps_ok {r : List (List (List Span))} (hr : ∀ p ∈ r, B4 p ∧ Few p) : ∀ x ∈ r.map Box.mk, OkBox x := fun x hx => by
  obtain ⟨p, hp, rfl⟩ := List.mem_map.1 hx
  exact B4.ok (b := ⟨p⟩) (hr p hp).1
theorem probe_region {b : Box} {bs : List Box} (hb : OkB b) (hs : BoxesSm bs) {more : List Int} (hm : ¬ (1048576 : Int) < (more.length : Int)) : ∃ p, laws_probe (bs ++ [b]) (more.length : Int) = some p :=
  probe_ok (by have := hs.1; simp; omega) (fun x hx => by
    rcases List.mem_append.1 hx with hx | hx
    · exact (hs.2 x hx).ok
    · rw [List.mem_singleton.1 hx]; exact hb.ok) (more_seed hm).1 (more_seed hm).2
open Classical in
/-- Does the point of the packet lie in s. -/
noncomputable def inP (p : Packet) (s : List (List Span)) : Bool := decide (PV p ∧ hasB s (pf p))
theorem inP_iff {p : Packet} {s : List (List Span)} : inP p s = true ↔ PV p ∧ hasB s (pf p) := by unfold inP; simp
theorem inP_is {p : Packet} {s : List (List Span)} (h : B4 s) (hf : Few s) : impl_BoxHas ⟨s⟩ p = some (inP p s) := by
  obtain ⟨u, eu, hu⟩ := impl_has (B4.ok (b := ⟨s⟩) h) p
  rw [eu]
  congr 1
  rw [Bool.eq_iff_iff, hu, inP_iff, BH_hasB h.1]
  exact ⟨fun x => ⟨x.2.1, x.2.2⟩, fun x => ⟨BV_iff.2 ⟨h, hf⟩, x.1, x.2⟩⟩
theorem not_empty_is {s : List (List Span)} (h : B4 s) (hn : ¬ emptyS s) : impl_BoxEmpty ⟨s⟩ = some false := by
  obtain ⟨u, eu, hu⟩ := impl_emptyb (B4.ok (b := ⟨s⟩) h)
  cases u with
  | false => exact eu
  | true => exact absurd (hu.1 rfl).2 hn
theorem countP_snoc {α : Type} {q : α → Bool} {xs : List α} {k : Nat} (h : k < xs.length) : (xs.take (k + 1)).countP q = (xs.take k).countP q + (if q xs[k] then 1 else 0) := by
  rw [take_snoc (List.getElem?_eq_getElem h), List.countP_append]
  simp
theorem less_loop {r : List (List (List Span))} {fl : Bool} (hr : ∀ p ∈ r, B4 p ∧ Few p) (hl : r.length ≤ 400) (hne : ∀ p ∈ r, ¬ emptyS p) (p : Packet) :
    loopF (laws_FnRegionLess_L0 (r.map Box.mk, fl) p) (((((r.map Box.mk).length : Int)) : Int) - 0).toNat.succ (0, 0) = some (.brk ((r.countP (inP p) : Nat), (r.length : Int))) := by
  refine loop_brk0 (body := laws_FnRegionLess_L0 (r.map Box.mk, fl) p) r.length (fun k : Nat => (((r.take k).countP (inP p) : Nat), (k : Int))) rfl (fun k hk => ?_) ?_ (by rw [List.length_map]; omega)
  · have hm := hr _ (List.getElem_mem hk)
    have hk' : k < (r.map Box.mk).length := by simpa using hk
    have hc : (r.take k).countP (inP p) ≤ 400 := by
      have := List.countP_le_length (p := inP p) (l := r.take k)
      rw [List.length_take] at this
      omega
    have e1 : impl_BoxHas ⟨r[k]⟩ ({ From := p.From, To := p.To, Port := p.Port, Proto := p.Proto } : Packet) = some (inP p r[k]) := inP_is hm.1 hm.2
    unfold laws_FnRegionLess_L0
    simp only [lt_true (show (k : Int) < ((r.map Box.mk).length : Int) by omega), cond_true, idx_get hk', List.getElem_map, Option.bind_some, e1, not_empty_is hm.1 (hne _ (List.getElem_mem hk)), cond_false, W_succ (show k < 9223372036854775807 by omega), W_succ (show (r.take k).countP (inP p) < 9223372036854775807 by omega), countP_snoc hk]
    cases inP p r[k] <;> simp
  · unfold laws_FnRegionLess_L0
    simp only [List.length_map, lt_false (Int.le_refl _), cond_false, List.take_length]
theorem count_pos {r : List (List (List Span))} {p : Packet} (hd : r.Pairwise Dj) : r.countP (inP p) ≤ 1 ∧ (r.countP (inP p) = 1 ↔ PV p ∧ ∃ s ∈ r, hasB s (pf p)) := by
  have h1 := count_dj hd (inP p) (f := pf p) (fun s _ h => (inP_iff.1 h).2)
  refine ⟨h1, ?_⟩
  have h2 : 0 < r.countP (inP p) ↔ ∃ s ∈ r, inP p s = true := List.countP_pos_iff
  constructor
  · intro h
    obtain ⟨s, hs, hp⟩ := h2.1 (by omega)
    exact ⟨(inP_iff.1 hp).1, s, hs, (inP_iff.1 hp).2⟩
  · rintro ⟨hp, s, hs, hh⟩
    have := h2.2 ⟨s, hs, inP_iff.2 ⟨hp, hh⟩⟩
    omega
theorem one_eq {n : Nat} {b : Bool} (h : n = 1 ↔ b = true) : (((n : Nat) : Int) == 1) = b := by
  rw [Bool.eq_iff_iff, ← h]
  simp
  omega
theorem plain_FnRegionLess (code more : List Int) (g : GAll GU8 code) (_gm : GAll GU8 more) : laws_FnRegionLess code more = some true := by
  unfold laws_FnRegionLess
  refine draw_guard fun _ => draw_guard fun hm => ?_
  obtain ⟨b, bs, e, hb, hs⟩ := draw_regionless g
  have hn := hs.1
  rw [e, Option.bind_some]
  rcases less_both hb (show bs.length ≤ 100000 by omega) hs.2 with ⟨r, e1, e2, hBb, hR, hl, hr, hrl⟩ | ⟨e1, e2⟩
  · simp only [e1, e2, Option.bind_some, same_boxes _ _ (show (r.map Box.mk).length ≤ 9223372036854775807 by rw [List.length_map]; omega) (maps_ok hr), decide_true, cond_true, bne_self_eq_false, cond_false]
    obtain ⟨p, ep⟩ := probe_region hb hs hm
    have hd := less_djs hBb hR hl
    obtain ⟨hc1, hc2⟩ := count_pos (p := p) hd.1
    rw [app_nil (show bs.length ≤ 4294967296 by omega), Option.bind_some, app_ok (show bs.length + [b].length ≤ 4294967296 by simp; omega), Option.bind_some, ep, Option.bind_some, less_loop hr hrl hd.2 p]
    obtain ⟨u, eu, hu⟩ := impl_has hb.ok p
    obtain ⟨v, ev, hv⟩ := impl_rhas (show bs.length ≤ 9223372036854775807 by omega) (fun x hx => (hs.2 x hx).ok) p
    have eu' : impl_BoxHas b ({ From := p.From, To := p.To, Port := p.Port, Proto := p.Proto } : Packet) = some u := eu
    have ev' : impl_RegionHas bs ({ From := p.From, To := p.To, Port := p.Port, Proto := p.Proto } : Packet) = some v := ev
    simp only [Option.bind_some, LR.on, le_true (show ((r.countP (inP p) : Nat) : Int) ≤ 1 by omega), cond_true, eu', ev']
    rw [less_pts hBb hR hl] at hc2
    have hub : u = true ↔ PV p ∧ hasB b.Sides (pf p) := by
      rw [hu]
      have := (BV_iff.1 hBb).1.1
      exact ⟨fun x => ⟨x.2.1, (BH_hasB this).1 x.2.2⟩, fun x => ⟨hBb, x.1, (BH_hasB this).2 x.2⟩⟩
    have hvb : v = true ↔ PV p ∧ ∃ c ∈ bs, hasB c.Sides (pf p) := by
      rw [hv]
      constructor
      · rintro ⟨_, hp, c, hc, hh⟩
        exact ⟨hp, c, hc, (BH_hasB (BV_iff.1 (hR.1 c hc)).1.1).1 hh⟩
      · rintro ⟨hp, c, hc, hh⟩
        exact ⟨hR, hp, c, hc, (BH_hasB (BV_iff.1 (hR.1 c hc)).1.1).2 hh⟩
    cases u with
    | false =>
      have : (((r.countP (inP p) : Nat) : Int) == 1) = false := one_eq (hc2.trans ⟨fun x => hub.2 ⟨x.1, x.2.1⟩, fun x => by cases x⟩)
      simp only [cond_false, this, beq_self_eq_true]
    | true =>
      have hp := hub.1 rfl
      have : (((r.countP (inP p) : Nat) : Int) == 1) = !v := one_eq (hc2.trans ⟨fun x => by
          cases v with
          | false => rfl
          | true =>
            obtain ⟨_, c, hc, hh⟩ := hvb.1 rfl
            exact absurd hh (x.2.2 c hc), fun x => ⟨hp.1, hp.2, fun c hc hh => by
          rw [hvb.2 ⟨hp.1, c, hc, hh⟩] at x; cases x⟩⟩)
      simp only [cond_true, this, beq_self_eq_true]
  · simp only [e1, e2, Option.bind_some, same_boxes _ _ (show ([] : List Box).length ≤ 9223372036854775807 by simp) (fun x hx => by cases hx), decide_true, cond_true, bne_self_eq_false, cond_false, alive_is]
    rfl
end Go.PF.F
