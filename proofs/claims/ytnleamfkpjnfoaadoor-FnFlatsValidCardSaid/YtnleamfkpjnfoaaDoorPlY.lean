/- Plain laws: two boxes. -/
import Derived.Test.YtnleamfkpjnfoaaDoorPlX
namespace Go.PF.F
open Go Go.PF

theorem own_box {b : Box} (h : OkB b) : spec_l1OwnBox b = some b := by
  unfold spec_l1OwnBox
  rw [spec_rows (by have := h.1; omega) fun x hx => by have := h.2 x hx; omega]; rfl
theorem spec_meets4 {a b : List (List Span)} (ha : B4 a) (hb : B4 b) : spec_l10Meet ⟨a⟩ ⟨b⟩ = some ⟨meetS a b⟩ := by
  unfold spec_l10Meet
  have e : loopF (spec_l10Meet_L0 ⟨a⟩ ⟨b⟩) (((4 : Int)) - 0).toNat.succ (0, ([] : List (List Span))) = some (.brk (4, meetS a b)) :=
    loop_brk0 (body := spec_l10Meet_L0 ⟨a⟩ ⟨b⟩) 4 (fun k : Nat => ((k : Int), (List.range k).map fun j => meetL (sd a j) (sd b j))) rfl (fun k hk => by
      unfold spec_l10Meet_L0
      simp only [lt_true (show (k : Int) < 4 by omega), cond_true, sd_idx ha.1 hk, sd_idx hb.1 hk, Option.bind_some, spec_meet (show (sd a k).length ≤ 40000 by have := ha.len hk; omega) (show (sd b k).length ≤ 40000 by have := hb.len hk; omega), W_succ (show k < 9223372036854775807 by omega)]
      rw [app_ok (by simp; omega), List.range_succ, List.map_append]; rfl)
      (by
        unfold spec_l10Meet_L0
        rfl) (by decide)
  rw [e]; rfl
theorem meet_is {a b : Box} (ha : OkB a) (hb : OkB b) : ∃ m, impl_BoxMeet a b = some m ∧ spec_BoxMeet a b = some m ∧ OkB m ∧ (BV a ∧ BV b ∧ Few (meetS a.Sides b.Sides) → m = ⟨meetS a.Sides b.Sides⟩) ∧ (¬ (BV a ∧ BV b ∧ Few (meetS a.Sides b.Sides)) → m = ⟨[]⟩) := by
  obtain ⟨m, em, hy, hn⟩ := impl_meetb ha.ok hb.ok
  have hnil : OkB ⟨[]⟩ := ⟨by simp, by simp⟩
  obtain ⟨v, e1, hv⟩ := spec_box ha.ok
  obtain ⟨w, e2, hw⟩ := spec_box hb.ok
  have hspec : spec_BoxMeet a b = some m ∧ OkB m := by
    unfold spec_BoxMeet
    have o1 : spec_l1OwnBox ({ Sides := a.Sides } : Box) = some a := own_box ha
    have o2 : spec_l1OwnBox ({ Sides := b.Sides } : Box) = some b := own_box hb
    rw [o1, Option.bind_some, o2, Option.bind_some]
    have e1' : spec_BoxValid ({ Sides := a.Sides } : Box) = some v := e1
    have e2' : spec_BoxValid ({ Sides := b.Sides } : Box) = some w := e2
    rw [e1', Option.bind_some]
    cases v with
    | false => rw [hn fun h => by simpa using hv.2 h.1]; exact ⟨rfl, hnil⟩
    | true =>
      rw [cond_true, e2', Option.bind_some]
      cases w with
      | false => rw [hn fun h => by simpa using hw.2 h.2.1]; exact ⟨rfl, hnil⟩
      | true =>
        have hva := hv.1 rfl
        have hvb := hw.1 rfl
        have ha4 := (BV_iff.1 hva).1
        have hb4 := (BV_iff.1 hvb).1
        have hm4 := ha4.meet hb4
        obtain ⟨u, e3, hu⟩ := spec_box (b := ⟨meetS a.Sides b.Sides⟩) (B4.ok (b := ⟨meetS a.Sides b.Sides⟩) hm4)
        rw [cond_true, spec_meets4 ha4 hb4, Option.bind_some, e3, Option.bind_some]
        cases u with
        | false =>
          rw [hn fun h => by simpa using hu.2 (BV_iff.2 ⟨hm4, h.2.2⟩)]; exact ⟨rfl, hnil⟩
        | true =>
          have hf := (BV_iff.1 (hu.1 rfl)).2
          rw [hy ⟨hva, hvb, hf⟩]
          exact ⟨rfl, OkB.of hm4 hf⟩
  exact ⟨m, em, hspec.1, hspec.2, hy, hn⟩
theorem OkB.set {s : List (List Span)} (h : OkB ⟨s⟩) (k : Nat) {x : List Span} (hx : x.length ≤ 40) : OkB ⟨s.set k x⟩ := ⟨by have := h.1; simp at this ⊢; omega, fun y hy => by
  rcases List.mem_or_eq_of_mem_set hy with hm | hm
  · exact h.2 y hm
  · rw [hm]; exact hx⟩
/-- Two boxes are drawn. -/
theorem dr_two {xs : List Int} (hx : Bytes xs) {pos : Int} (h0 : 0 ≤ pos) (h1 : pos + 500 ≤ 1000000) : ∃ (a b : Box) (p : Int), spec_l20Two xs pos = some (a, b, p) ∧ OkB a ∧ OkB b ∧ pos ≤ p ∧ p ≤ pos + 500 := by
  unfold spec_l20Two
  obtain ⟨a, p1, e1, ha, l1, u1⟩ := dr_box hx pos 16 h0 (by omega)
  obtain ⟨b, p2, e2, hb, l2, u2⟩ := dr_box hx p1 16 (by omega) (by omega)
  obtain ⟨c, p3, e3, hc, l3, u3⟩ := Dr.pick hx (pos := p2) (n := 5) (by decide) (by omega) (by omega)
  rw [e1, Option.bind_some, e2, Option.bind_some, e3, Option.bind_some]
  by_cases c0 : (c == 0) = true
  · rw [c0, cond_true]
    obtain ⟨m, _, em, hm, _, _⟩ := meet_is ha.1 hb.1
    have em' : spec_BoxMeet a ({ Sides := b.Sides } : Box) = some m := em
    simp only [em', Option.bind_some, spec_all]
    cases ((m.Sides.length : Int) == 0) with
    | true => exact ⟨_, _, _, rfl, ha.1, fullS_okB, by omega, by omega⟩
    | false => exact ⟨_, _, _, rfl, ha.1, hm, by omega, by omega⟩
  · rw [Bool.eq_false_iff.2 c0, cond_false]
    by_cases c1 : (c == 1) = true
    · rw [c1, cond_true]
      obtain ⟨v, ev, hv⟩ := spec_box ha.1.ok
      simp only [ev, Option.bind_some]
      cases v with
      | false => exact ⟨_, _, _, rfl, ha.1, hb.1, by omega, by omega⟩
      | true =>
        have h4 := (hv.1 rfl).1
        obtain ⟨k, p4, e4, hk, l4, u4⟩ := Dr.pick hx (pos := p3) (n := 4) (by decide) (by omega) (by omega)
        obtain ⟨j, rfl⟩ := Int.eq_ofNat_of_zero_le hk.1
        have hj : j < 4 := by omega
        have ht := top_pos hj
        obtain ⟨s, p5, e5, hs, l5, u5⟩ := dr_set hx ht.1 ht.2 p4 (by omega) (by omega)
        rw [cond_true, e4, Option.bind_some, app_nil (by rw [h4]; decide)]
        simp only [Option.bind_some, spec_top, e5, idx_get (show j < a.Sides.length by omega), Int.toNat_natCast]
        exact ⟨_, _, _, rfl, ha.1, ha.1.set j (by omega), by omega, by omega⟩
    · rw [Bool.eq_false_iff.2 c1, cond_false]
      exact ⟨_, _, _, rfl, ha.1, hb.1, by omega, by omega⟩
theorem draw_boxmeet {code : List Int} (h : GAll GU8 code) : ∃ (a b : Box), spec_DrawBoxMeet code = some (a, b) ∧ OkB a ∧ OkB b := by
  unfold spec_DrawBoxMeet
  refine draw_open (R := fun m => ∃ (a b : Box), m = some (a, b) ∧ OkB a ∧ OkB b) h fun xs hx => ?_
  obtain ⟨a, b, p, e, ha, hb, _, _⟩ := dr_two hx (pos := 0) (by decide) (by decide)
  have e' : spec_l20Two (xs, (0 : Int)).1 (xs, (0 : Int)).2 = some (a, b, p) := e
  rw [e']
  exact ⟨_, _, rfl, ha, hb⟩
theorem draw_boxsame {code : List Int} (h : GAll GU8 code) : ∃ (a b : Box), spec_DrawBoxSame code = some (a, b) ∧ OkB a ∧ OkB b := by
  unfold spec_DrawBoxSame
  refine draw_open (R := fun m => ∃ (a b : Box), m = some (a, b) ∧ OkB a ∧ OkB b) h fun xs hx => ?_
  obtain ⟨a, b, p, e, ha, hb, l, u⟩ := dr_two hx (pos := 0) (by decide) (by decide)
  have e' : spec_l20Two (xs, (0 : Int)).1 (xs, (0 : Int)).2 = some (a, b, p) := e
  rw [e', Option.bind_some]
  obtain ⟨c, p3, e3, hc, l3, u3⟩ := Dr.pick hx (pos := p) (n := 3) (by decide) (by omega) (by omega)
  simp only [e3, Option.bind_some]
  cases (c == 0) with
  | true => exact ⟨_, _, rfl, ha, ha⟩
  | false => exact ⟨_, _, rfl, ha, hb⟩
theorem meet_cond_comm {a b : Box} : (BV a ∧ BV b ∧ Few (meetS a.Sides b.Sides)) ↔ (BV b ∧ BV a ∧ Few (meetS b.Sides a.Sides)) := by
  constructor
  · rintro ⟨h1, h2, h3⟩
    exact ⟨h2, h1, by rw [meetS_comm (BV_iff.1 h2).1 (BV_iff.1 h1).1]; exact h3⟩
  · rintro ⟨h1, h2, h3⟩
    exact ⟨h2, h1, by rw [meetS_comm (BV_iff.1 h2).1 (BV_iff.1 h1).1]; exact h3⟩
theorem plain_FnBoxMeet (code more : List Int) (g : GAll GU8 code) (_gm : GAll GU8 more) : laws_FnBoxMeet code more = some true := by
  unfold laws_FnBoxMeet
  refine draw_guard fun _ => draw_guard fun hm => ?_
  obtain ⟨a, b, e, ha, hb⟩ := draw_boxmeet g
  obtain ⟨m, em, es, hok, hy, hn⟩ := meet_is ha hb
  obtain ⟨m2, em2, _, _, hy2, hn2⟩ := meet_is hb ha
  obtain ⟨m3, em3, _, hok3, hy3, hn3⟩ := meet_is ha ha
  rw [e, Option.bind_some]
  have f1 : impl_BoxMeet ({ Sides := (a, b).1.Sides } : Box) ({ Sides := (a, b).2.Sides } : Box) = some m := em
  have f2 : spec_BoxMeet ({ Sides := (a, b).1.Sides } : Box) ({ Sides := (a, b).2.Sides } : Box) = some m := es
  have f3 : impl_BoxMeet ({ Sides := (a, b).2.Sides } : Box) ({ Sides := (a, b).1.Sides } : Box) = some m2 := em2
  have f4 : impl_BoxMeet ({ Sides := (a, b).1.Sides } : Box) ({ Sides := (a, b).1.Sides } : Box) = some m3 := em3
  have hmm : m = m2 := by
    by_cases hc : BV a ∧ BV b ∧ Few (meetS a.Sides b.Sides)
    · rw [hy hc, hy2 (meet_cond_comm.1 hc), meetS_comm (BV_iff.1 hc.1).1 (BV_iff.1 hc.2.1).1]
    · rw [hn hc, hn2 fun h => hc (meet_cond_comm.1 h)]
  subst hmm
  rw [f1, Option.bind_some, f2, Option.bind_some, same_box _ _ hok.ok, decide_eq_true rfl, Option.bind_some, cond_true, f3, Option.bind_some, same_box _ _ hok.ok, decide_eq_true rfl, Option.bind_some, cond_true]
  by_cases hc : BV a ∧ BV b ∧ Few (meetS a.Sides b.Sides)
  · have hma := hy hc
    subst hma
    have ha4 := (BV_iff.1 hc.1).1
    have hb4 := (BV_iff.1 hc.2.1).1
    have hm4 := ha4.meet hb4
    have hbm : BV ⟨meetS a.Sides b.Sides⟩ := BV_iff.2 ⟨hm4, hc.2.2⟩
    obtain ⟨p, ep⟩ := probe_ok (list := [a, b]) (by simp) (fun x hx => by
      rcases List.mem_cons.1 hx with rfl | hx
      · exact ha.ok
      · rw [List.mem_singleton.1 hx]; exact hb.ok) (more_seed hm).1 (more_seed hm).2
    have ep' : laws_probe [({ Sides := (a, b).1.Sides } : Box), ({ Sides := (a, b).2.Sides } : Box)] (more.length : Int) = some p := ep
    obtain ⟨x, ex, hx⟩ := impl_has hok.ok p
    obtain ⟨y, ey, hyy⟩ := impl_has ha.ok p
    obtain ⟨z, ez, hz⟩ := impl_has hb.ok p
    obtain ⟨q, eq, hq⟩ := impl_within hok.ok ha.ok
    obtain ⟨r, er, hr⟩ := impl_within hok.ok hb.ok
    have ey' : impl_BoxHas ({ Sides := (a, b).1.Sides } : Box) p = some y := ey
    have ez' : impl_BoxHas ({ Sides := (a, b).2.Sides } : Box) p = some z := ez
    have eq' : impl_BoxWithin ⟨meetS a.Sides b.Sides⟩ ({ Sides := (a, b).1.Sides } : Box) = some q := eq
    have er' : impl_BoxWithin ⟨meetS a.Sides b.Sides⟩ ({ Sides := (a, b).2.Sides } : Box) = some r := er
    have hqt : q = true := hq.2 ⟨hbm, hc.1, within_meet ha4 hb4⟩
    have hrt : r = true := hr.2 ⟨hbm, hc.2.1, within_meet' ha4 hb4⟩
    have h3 : m3 = a := by
      rw [hy3 ⟨hc.1, hc.1, by rw [meetS_self ha4]; exact (BV_iff.1 hc.1).2⟩, meetS_self ha4]
    have hxyz : x = (y && z) := by
      rw [Bool.eq_iff_iff, Bool.and_eq_true, hx, hyy, hz]
      constructor
      · rintro ⟨_, hp, hh⟩
        have := (BH_meet ha4 hb4 (p := p)).1 hh
        exact ⟨⟨hc.1, hp, this.1⟩, hc.2.1, hp, this.2⟩
      · rintro ⟨⟨_, hp, h1⟩, _, _, h2⟩
        exact ⟨hbm, hp, (BH_meet ha4 hb4 (p := p)).2 ⟨h1, h2⟩⟩
    have hlen : (((⟨meetS a.Sides b.Sides⟩ : Box).Sides.length : Int) == 0) = false := by rw [hm4.1]; rfl
    have hself : laws_sameBox a ({ Sides := (a, b).1.Sides } : Box) = some true := by
      rw [same_box _ _ ha.ok]; simp
    rw [hlen, cond_false, ep', Option.bind_some, ex, Option.bind_some, ey', Option.bind_some]
    subst hqt hrt h3
    cases y with
    | true =>
      have hxz : x = z := by rw [hxyz, Bool.true_and]
      rw [cond_true, ez', Option.bind_some, hxz, beq_self_eq_true, cond_true, eq', Option.bind_some, cond_true, er', Option.bind_some, cond_true, f4, Option.bind_some, hself]; rfl
    | false =>
      have hxz : x = false := by rw [hxyz, Bool.false_and]
      rw [cond_false, hxz, beq_self_eq_true, cond_true, eq', Option.bind_some, cond_true, er', Option.bind_some, cond_true, f4, Option.bind_some, hself]; rfl
  · rw [hn hc]; rfl
theorem plain_FnBoxChain (code more : List Int) (g : GAll GU8 code) (gm : GAll GU8 more) : laws_FnBoxChain code more = some true := by
  unfold laws_FnBoxChain
  refine draw_guard fun _ => draw_guard fun _ => ?_
  obtain ⟨a, b, e, ha, hb⟩ := draw_boxmeet g
  obtain ⟨c, ec, hc⟩ := draw_boxempty gm
  obtain ⟨m, em, es, hok, hy, hn⟩ := meet_is ha hb
  obtain ⟨va, ea, hva⟩ := spec_box ha.ok
  obtain ⟨vb, eb, hvb⟩ := spec_box hb.ok
  obtain ⟨vc, ecv, hvc⟩ := spec_box hc.ok
  obtain ⟨n, en, _, hokn, hyn, hnn⟩ := meet_is hb hc
  obtain ⟨x, ex, _, hokx, hyx, hnx⟩ := meet_is hok hc
  obtain ⟨y, ey, _, hoky, hyy, hny⟩ := meet_is ha hokn
  rw [e, Option.bind_some, ec, Option.bind_some]
  have f1 : impl_BoxMeet ({ Sides := (a, b).1.Sides } : Box) ({ Sides := (a, b).2.Sides } : Box) = some m := em
  have f2 : spec_BoxMeet ({ Sides := (a, b).1.Sides } : Box) ({ Sides := (a, b).2.Sides } : Box) = some m := es
  have f3 : spec_BoxValid ({ Sides := (a, b).1.Sides } : Box) = some va := ea
  have f4 : spec_BoxValid ({ Sides := (a, b).2.Sides } : Box) = some vb := eb
  have f5 : impl_BoxMeet ({ Sides := (a, b).2.Sides } : Box) c = some n := en
  have f6 : impl_BoxMeet ({ Sides := (a, b).1.Sides } : Box) n = some y := ey
  rw [f1, Option.bind_some, f2, Option.bind_some, same_box _ _ hok.ok, decide_eq_true rfl, Option.bind_some, cond_true, f3, Option.bind_some]
  cases va with
  | false => rfl
  | true =>
    rw [cond_true, f4, Option.bind_some]
    cases vb with
    | false => rfl
    | true =>
      rw [cond_true, ecv, Option.bind_some]
      cases vc with
      | false => rfl
      | true =>
        rw [cond_true]
        have hva := hva.1 rfl
        have hvb := hvb.1 rfl
        have hvc := hvc.1 rfl
        have ha4 := (BV_iff.1 hva).1
        have hb4 := (BV_iff.1 hvb).1
        have hc4 := (BV_iff.1 hvc).1
        by_cases h1 : Few (meetS a.Sides b.Sides)
        · have hm := hy ⟨hva, hvb, h1⟩
          subst hm
          have hm4 := ha4.meet hb4
          have hlen : (((⟨meetS a.Sides b.Sides⟩ : Box).Sides.length : Int) == 0) = false := by rw [hm4.1]; rfl
          rw [hlen, cond_false, f5, Option.bind_some]
          by_cases h2 : Few (meetS b.Sides c.Sides)
          · have hn' := hyn ⟨hvb, hvc, h2⟩
            subst hn'
            have hn4 := hb4.meet hc4
            have hlen2 : (((⟨meetS b.Sides c.Sides⟩ : Box).Sides.length : Int) == 0) = false := by rw [hn4.1]; rfl
            rw [hlen2, cond_false, ex, Option.bind_some, f6, Option.bind_some, same_box _ _ hokx.ok]
            have hbm : BV ⟨meetS a.Sides b.Sides⟩ := BV_iff.2 ⟨hm4, h1⟩
            have hbn : BV ⟨meetS b.Sides c.Sides⟩ := BV_iff.2 ⟨hn4, h2⟩
            have hass := meetS_assoc ha4 hb4 hc4
            have hxy : x = y := by
              by_cases h3 : Few (meetS (meetS a.Sides b.Sides) c.Sides)
              · rw [hyx ⟨hbm, hvc, h3⟩, hyy ⟨hva, hbn, by show Few (meetS a.Sides (meetS b.Sides c.Sides)); rw [← hass]; exact h3⟩]
                show (⟨meetS (meetS a.Sides b.Sides) c.Sides⟩ : Box) = ⟨meetS a.Sides (meetS b.Sides c.Sides)⟩
                rw [hass]
              · rw [hnx fun h => h3 h.2.2, hny fun h => h3 (by rw [hass]; exact h.2.2)]
            rw [hxy, decide_eq_true rfl]; rfl
          · rw [hnn fun h => h2 h.2.2]; rfl
        · rw [hn fun h => h1 h.2.2]; rfl
theorem SameS.symm {a b : List (List Span)} (ha : B4 a) (hb : B4 b) : SameS a b ↔ SameS b a := by
  rw [← same_iff ha hb, ← same_iff hb ha]; exact And.comm
theorem plain_FnBoxSame (code : List Int) (g : GAll GU8 code) : laws_FnBoxSame code = some true := by
  unfold laws_FnBoxSame
  refine draw_guard fun _ => ?_
  obtain ⟨a, b, e, ha, hb⟩ := draw_boxsame g
  obtain ⟨v, e1, e2, hv⟩ := (impl_same ha.ok hb.ok).same (spec_same' ha.ok hb.ok)
  obtain ⟨w, e3, hw⟩ := impl_same hb.ok ha.ok
  obtain ⟨va, ea, hva⟩ := spec_box ha.ok
  obtain ⟨vb, eb, hvb⟩ := spec_box hb.ok
  obtain ⟨pa, epa, hpa⟩ := impl_emptyb ha.ok
  obtain ⟨pb, epb, hpb⟩ := impl_emptyb hb.ok
  obtain ⟨s, es, hs⟩ := impl_same ha.ok ha.ok
  rw [e, Option.bind_some]
  have f1 : impl_BoxSame ({ Sides := (a, b).1.Sides } : Box) ({ Sides := (a, b).2.Sides } : Box) = some v := e1
  have f2 : spec_BoxSame ({ Sides := (a, b).1.Sides } : Box) ({ Sides := (a, b).2.Sides } : Box) = some v := e2
  have f3 : impl_BoxSame ({ Sides := (a, b).2.Sides } : Box) ({ Sides := (a, b).1.Sides } : Box) = some w := e3
  have f4 : spec_BoxValid ({ Sides := (a, b).1.Sides } : Box) = some va := ea
  have f5 : spec_BoxValid ({ Sides := (a, b).2.Sides } : Box) = some vb := eb
  have f6 : impl_BoxEmpty ({ Sides := (a, b).1.Sides } : Box) = some pa := epa
  have f7 : impl_BoxEmpty ({ Sides := (a, b).2.Sides } : Box) = some pb := epb
  have f8 : impl_BoxSame ({ Sides := (a, b).1.Sides } : Box) ({ Sides := (a, b).1.Sides } : Box) = some s := es
  have f9 : laws_sameBox ({ Sides := (a, b).1.Sides } : Box) ({ Sides := (a, b).2.Sides } : Box) = some (decide (a = b)) := same_box a b ha.ok
  have hvw : v = w := by
    rw [Bool.eq_iff_iff, hv, hw]
    constructor
    · rintro ⟨h1, h2, h3⟩; exact ⟨h2, h1, (SameS.symm (BV_iff.1 h1).1 (BV_iff.1 h2).1).1 h3⟩
    · rintro ⟨h1, h2, h3⟩; exact ⟨h2, h1, (SameS.symm (BV_iff.1 h1).1 (BV_iff.1 h2).1).1 h3⟩
  rw [f1, Option.bind_some, f2, Option.bind_some, bne_self_eq_false, cond_false, f3, Option.bind_some, ← hvw, bne_self_eq_false, cond_false, f4, Option.bind_some]
  have hno : ¬ (BV a ∧ BV b) → v = false := fun hh => by rw [Bool.eq_false_iff]; exact fun x => hh ⟨(hv.1 x).1, (hv.1 x).2.1⟩
  cases va with
  | false => rw [hno fun hh => by simpa using hva.2 hh.1]; rfl
  | true =>
    rw [cond_true, f5, Option.bind_some]
    cases vb with
    | false => rw [hno fun hh => by simpa using hvb.2 hh.2]; rfl
    | true =>
      have hva := hva.1 rfl
      have hvb := hvb.1 rfl
      have ha4 := (BV_iff.1 hva).1
      have hb4 := (BV_iff.1 hvb).1
      have hst : s = true := hs.2 ⟨hva, hva, (same_iff ha4 ha4).1 ⟨within_self ha4, within_self ha4⟩⟩
      have hpa : pa = true ↔ emptyS a.Sides := hpa.trans ⟨fun h => h.2, fun h => ⟨hva, h⟩⟩
      have hpb : pb = true ↔ emptyS b.Sides := hpb.trans ⟨fun h => h.2, fun h => ⟨hvb, h⟩⟩
      have hv : v = true ↔ SameS a.Sides b.Sides := hv.trans ⟨fun h => h.2.2, fun h => ⟨hva, hvb, h⟩⟩
      have hab : a = b ↔ a.Sides = b.Sides := by
        obtain ⟨x⟩ := a
        obtain ⟨y⟩ := b
        simp
      rw [cond_true, f6, Option.bind_some]
      subst hst
      unfold SameS at hv
      cases pa with
      | true =>
        have hea := hpa.1 rfl
        rw [if_pos hea] at hv
        rw [cond_true, f7, Option.bind_some]
        cases pb with
        | true =>
          rw [hv.2 (hpb.1 rfl), cond_true, beq_self_eq_true, cond_true, f8]; rfl
        | false =>
          have hvf : v = false := by rw [Bool.eq_false_iff]; exact fun h => by simpa using hpb.2 (hv.1 h)
          have hne : a ≠ b := fun h => by rw [hab] at h; rw [h] at hea; simpa using hpb.2 hea
          rw [cond_false, f9, Option.bind_some, hvf, decide_eq_false hne, beq_self_eq_true, cond_true, f8]; rfl
      | false =>
        have hea : ¬ emptyS a.Sides := fun h => by simpa using hpa.2 h
        rw [if_neg hea] at hv
        have hvd : v = decide (a = b) := by
          rw [Bool.eq_iff_iff, hv, decide_eq_true_eq, hab]
          exact ⟨fun h => h.2, fun h => ⟨by rw [← h]; exact hea, h⟩⟩
        rw [cond_false, f9, Option.bind_some, hvd, beq_self_eq_true, cond_true, f8]; rfl
end Go.PF.F
