/- Plain laws: meetings of boxes, packets in boxes and regions. -/
import Derived.Test.YtnleamfkpjnfoaaDoorPlO
namespace Go.PF.F
open Go Go.PF

theorem mk4_set (f : Nat → List Span) {k : Nat} (hk : k < 4) (x : List Span) : (mk4 f).set k x = mk4 fun j => if j = k then x else f j := by
  match k, hk with
  | 0, _ => rfl
  | 1, _ => rfl
  | 2, _ => rfl
  | 3, _ => rfl
theorem mk4_congr {f g : Nat → List Span} (h : ∀ k, k < 4 → f k = g k) : mk4 f = mk4 g := by
  unfold mk4
  exact List.map_congr_left fun k hk => h k (List.mem_range.1 hk)
theorem few_meet {a b : List (List Span)} : Few (meetS a b) ↔ ∀ k, k < 4 → (meetL (sd a k) (sd b k)).length ≤ 40 := by
  unfold Few meetS
  exact ⟨fun h k hk => by have := h k hk; rwa [sd_mk4 _ hk] at this, fun h k hk => by rw [sd_mk4 _ hk]; exact h k hk⟩
def nil4L : List (List Span) := [[], [], [], []]
theorem impl_meets {a b : List (List Span)} (ha : B4 a) (hb : B4 b) : (Few (meetS a b) ∧ impl_sides_meet a b = some (meetS a b, true)) ∨ (¬ Few (meetS a b) ∧ impl_sides_meet a b = some (nil4L, false)) := by
  unfold impl_sides_meet
  obtain ⟨o, ho, hq⟩ := loop_idx (body := impl_sides_meet_L0 a b) 4
    (fun k s => s = ((k : Int), nil4L, mk4 fun j => if j < k then meetL (sd a j) (sd b j) else []) ∧ ∀ j, j < k → (meetL (sd a j) (sd b j)).length ≤ 40)
    (fun o => (o = .brk (4, nil4L, meetS a b) ∧ Few (meetS a b)) ∨ (o = .ret (nil4L, false) ∧ ¬ Few (meetS a b))) (s := (0, nil4L, nil4L)) ⟨rfl, fun j h => by omega⟩
    (fun k s hk ⟨e, h⟩ => by
      subst e
      unfold impl_sides_meet_L0
      simp only [lt_true (show (k : Int) < 4 by omega), cond_true, sd_idx ha.1 hk, sd_idx hb.1 hk, Option.bind_some, impl_top, impl_meet (ha.2 k hk) (hb.2 k hk)]
      by_cases h40 : (meetL (sd a k) (sd b k)).length ≤ 40
      · rw [if_pos h40]
        simp only [cond_true, sd_idx (mk4_len _) hk, Option.bind_some, Int.toNat_natCast, mk4_set _ hk, W_succ (show k < 9223372036854775807 by omega)]
        refine .inl ⟨_, rfl, ?_, fun j hj => ?_⟩
        · refine congrArg (fun z => (((k + 1 : Nat) : Int), nil4L, z)) (mk4_congr fun j hj => ?_)
          by_cases e : j = k
          · subst e; rw [if_pos rfl, if_pos (by omega)]
          · rw [if_neg e]
            by_cases h1 : j < k
            · rw [if_pos h1, if_pos (by omega)]
            · rw [if_neg h1, if_neg (by omega)]
        · by_cases e : j = k
          · subst e; exact h40
          · exact h j (by omega)
      · rw [if_neg h40]
        exact .inr (.inl ⟨_, rfl, .inr ⟨rfl, fun hf => h40 (few_meet.1 hf k hk)⟩⟩))
    (fun s ⟨e, h⟩ => by
      subst e
      exact .inl ⟨_, rfl, .inl ⟨by
        unfold meetS
        refine congrArg (fun z => LR.brk (((4 : Nat) : Int), nil4L, z)) (mk4_congr fun j hj => by rw [if_pos hj]), few_meet.2 h⟩⟩)
  have ho' : loopF (impl_sides_meet_L0 a b) (((4 : Int)) - 0).toNat.succ (0, [([] : List Span), ([] : List Span), ([] : List Span), ([] : List Span)], [([] : List Span), ([] : List Span), ([] : List Span), ([] : List Span)]) = some o := ho
  rw [ho']
  rcases hq with ⟨rfl, h⟩ | ⟨rfl, h⟩
  · exact .inl ⟨h, rfl⟩
  · exact .inr ⟨h, rfl⟩
theorem impl_meetb {a b : Box} (ha : OkBox a) (hb : OkBox b) : ∃ m, impl_BoxMeet a b = some m ∧ (BV a ∧ BV b ∧ Few (meetS a.Sides b.Sides) → m = ⟨meetS a.Sides b.Sides⟩) ∧ (¬ (BV a ∧ BV b ∧ Few (meetS a.Sides b.Sides)) → m = ⟨[]⟩) := by
  unfold impl_BoxMeet
  obtain ⟨v, e1, hv⟩ := impl_box ha
  obtain ⟨w, e2, hw⟩ := impl_box hb
  rw [e1, Option.bind_some]
  cases v with
  | false => exact ⟨_, rfl, fun h => by simpa using hv.2 h.1, fun _ => rfl⟩
  | true =>
    rw [cond_true, e2, Option.bind_some]
    cases w with
    | false => exact ⟨_, rfl, fun h => by simpa using hw.2 h.2.1, fun _ => rfl⟩
    | true =>
      have hva := hv.1 rfl
      have hvb := hw.1 rfl
      have ha4 := (BV_iff.1 hva).1
      have hb4 := (BV_iff.1 hvb).1
      rw [cond_true, impl_sides hva.1, Option.bind_some, impl_sides hvb.1, Option.bind_some]
      rcases impl_meets ha4 hb4 with ⟨hf, e⟩ | ⟨hf, e⟩
      · rw [e, Option.bind_some]
        simp only [cond_true, impl_box4 (ha4.meet hb4).1 (ha4.meet hb4).okm, Option.bind_some]
        exact ⟨_, rfl, fun _ => rfl, fun h => absurd ⟨hva, hvb, hf⟩ h⟩
      · rw [e, Option.bind_some]
        exact ⟨_, rfl, fun h => absurd h.2.2 hf, fun _ => rfl⟩
theorem TsV.take {ts : List Test} (h : TsV ts) (k : Nat) : TsV (ts.take k) := ⟨fun t ht => h.1 t (List.mem_of_mem_take ht), by have := h.2; simp; omega⟩
theorem TsV.drop {ts : List Test} (h : TsV ts) (k : Nat) : TsV (ts.drop k) := ⟨fun t ht => h.1 t (List.mem_of_mem_drop ht), by have := h.2; simp; omega⟩
theorem plain_FnTestsMore (code : List Int) (g : GAll GU8 code) : laws_FnTestsMore code = some true := by
  unfold laws_FnTestsMore
  refine draw_guard fun _ => ?_
  obtain ⟨ts, e, hl⟩ := draw_testsbox g
  obtain ⟨b, e1, e2, hok, hy, _⟩ := tb (ts := ts) (by omega)
  obtain ⟨v, ev, hv⟩ := spec_tests (xs := ts) (by omega)
  rw [e]
  simp only [Option.bind_some, e1, e2, same_box _ _ hok, decide_true, cond_true, ev]
  cases v with
  | false => rfl
  | true =>
    have ht := hv.1 rfl
    have hb := hy ht
    subst hb
    have h1 := ht.take (ts.length / 2)
    have h2 := ht.drop (ts.length / 2)
    obtain ⟨x, ex, _, okx, hx, _⟩ := tb (ts := ts.take (ts.length / 2)) (by simp; omega)
    obtain ⟨y, ey, _, oky, hyy, _⟩ := tb (ts := ts.drop (ts.length / 2)) (by simp; omega)
    have hx := hx h1
    have hyy := hyy h2
    subst hx
    subst hyy
    have happ : meetS (testsS (ts.take (ts.length / 2))) (testsS (ts.drop (ts.length / 2))) = testsS ts := by
      rw [testsS_app h1.1 h2.1, List.take_append_drop]
    obtain ⟨q, eq, hq⟩ := impl_within hok okx
    obtain ⟨r, er, hr⟩ := impl_within hok oky
    obtain ⟨m, em, hm, _⟩ := impl_meetb okx oky
    have hqt : q = true := hq.2 ⟨ht.bv, h1.bv, by rw [← happ]; exact within_meet (testsS_B4 h1.1) (testsS_B4 h2.1)⟩
    have hrt : r = true := hr.2 ⟨ht.bv, h2.bv, by rw [← happ]; exact within_meet' (testsS_B4 h1.1) (testsS_B4 h2.1)⟩
    have hm := hm ⟨h1.bv, h2.bv, by rw [happ]; exact testsS_few ht⟩
    have hm : m = ⟨testsS ts⟩ := hm.trans (by rw [happ])
    subst hm
    rw [take_half (by omega), drop_half (by omega)]
    simp only [cond_true, Option.bind_some, ex, ey, eq, er, em, hqt, hrt, same_box _ _ hok, decide_true]

/-! Packets that lie in boxes. -/
theorem dr_inside {xs : List Int} (hx : Bytes xs) {b : Box} (hb : OkB b) (pos n : Int) : Dr (spec_l20Inside xs pos b n) pos 40 (fun _ => True) := by
  intro h0 h1
  unfold spec_l20Inside
  have hb5 := hb.1
  obtain ⟨o, ho, ⟨y, k, p⟩, rfl, hl, l, u⟩ := loop_wf (body := spec_l20Inside_L0 xs b)
    (fun s => ∃ k : Nat, s.2.1 = (k : Int) ∧ k ≤ 4 ∧ s.1.length ≤ k ∧ pos ≤ s.2.2 ∧ s.2.2 ≤ pos + k) (fun s => b.Sides.length - s.2.1.toNat)
    (fun o => ∃ s : List Test × Int × Int, o = .brk s ∧ s.1.length ≤ 4 ∧ pos ≤ s.2.2 ∧ s.2.2 ≤ pos + 4)
    (fun s ⟨k, e1, hk, hl, l, u⟩ => by
      obtain ⟨y, i, q⟩ := s
      simp only at e1 hl l u
      subst e1
      unfold spec_l20Inside_L0
      by_cases hks : k < b.Sides.length
      · by_cases hk4 : k < 4
        · have hlen := hb.2 _ (List.getElem_mem hks)
          refine .inl ?_
          simp only [lt_true (show (k : Int) < (b.Sides.length : Int) by omega), lt_true (show (k : Int) < 4 by omega), cond_true, idx_get hks, Option.bind_some, W_succ (show k < 9223372036854775807 by omega)]
          by_cases hz : 0 < b.Sides[k].length
          · obtain ⟨r, p, e, hr, l3, u3⟩ := Dr.pick hx (pos := q) (n := (b.Sides[k].length : Int)) (by omega) (by omega) (by omega)
            obtain ⟨z, ez, _⟩ := idx_ok (xs := b.Sides[k]) (i := r) (n := (b.Sides[k].length : Int)) hr rfl
            rw [lt_true (show (0 : Int) < (b.Sides[k].length : Int) by omega), cond_true, e, Option.bind_some]
            simp only [ez, Option.bind_some, app_ok (show y.length + [({ Field := (k : Int), Lo := z.Lo, Hi := z.Hi, Not := false } : Test)].length ≤ 4294967296 by simp; omega)]
            exact ⟨_, rfl, ⟨k + 1, rfl, hk4, by simp; omega, by simp only; omega, by simp only; omega⟩, by simp only [Int.toNat_natCast]; omega⟩
          · rw [lt_false (show (b.Sides[k].length : Int) ≤ 0 by omega), cond_false]
            exact ⟨_, rfl, ⟨k + 1, rfl, hk4, by simp only; omega, l, by simp only; omega⟩, by simp only [Int.toNat_natCast]; omega⟩
        · refine .inr (.inl ⟨(y, (k : Int), q), ?_, _, rfl, by simp only; omega, l, by simp only; omega⟩)
          simp only [lt_true (show (k : Int) < (b.Sides.length : Int) by omega), lt_false (show (4 : Int) ≤ (k : Int) by omega), cond_true, cond_false]
      · refine .inr (.inl ⟨(y, (k : Int), q), ?_, _, rfl, by simp only; omega, l, by simp only; omega⟩)
        simp only [lt_false (show (b.Sides.length : Int) ≤ (k : Int) by omega), cond_false])
    ((((b.Sides.length : Int)) : Int) - 0).toNat.succ (([] : List Test), 0, pos) ⟨0, rfl, by omega, by simp, by simp, by simp⟩ (by simp)
  simp only at hl l u
  simp only [ho, Option.bind_some, LR.on]
  obtain ⟨a, p2, e, _, l2, u2⟩ := dr_near hx (ts := y) (by omega) p n (by omega) (by omega)
  rw [e]
  exact ⟨_, _, rfl, trivial, by simp only; omega, by simp only; omega⟩
theorem draw_boxhas {code : List Int} (h : GAll GU8 code) : ∃ (b : Box) (p : Packet), spec_DrawBoxHas code = some (b, p) ∧ OkB b := by
  unfold spec_DrawBoxHas
  refine draw_open (R := fun m => ∃ (b : Box) (p : Packet), m = some (b, p) ∧ OkB b) h fun xs hx => ?_
  refine Dr.run (R := fun m => ∃ (b : Box) (p : Packet), m = some (b, p) ∧ OkB b) (dr_box hx 0 14) (by decide) (by decide) fun b p hb h0 h1 => ?_
  exact Dr.run (R := fun m => ∃ (b : Box) (p : Packet), m = some (b, p) ∧ OkB b) (dr_inside hx hb.1 p 14) h0 (by omega) fun q p' _ _ _ => ⟨_, _, rfl, hb.1⟩
theorem fullS_okB : OkB ⟨fullS⟩ := OkB.of full_B4 full_few
theorem draw_regionhas {code : List Int} (h : GAll GU8 code) : ∃ (bs : List Box) (p : Packet), spec_DrawRegionHas code = some (bs, p) ∧ BoxesSm bs := by
  unfold spec_DrawRegionHas
  refine draw_open (R := fun m => ∃ (bs : List Box) (p : Packet), m = some (bs, p) ∧ BoxesSm bs) h fun xs hx => ?_
  refine Dr.run (R := fun m => ∃ (bs : List Box) (p : Packet), m = some (bs, p) ∧ BoxesSm bs) (dr_region hx 0 14) (by decide) (by decide) fun bs p hb h0 h1 => ?_
  rw [spec_all, Option.bind_some]
  by_cases hz : 0 < bs.length
  · simp only [lt_true (show (0 : Int) < (bs.length : Int) by omega), cond_true]
    have hmin : 1 ≤ imin 256 (bs.length : Int) ∧ imin 256 (bs.length : Int) ≤ (bs.length : Int) := by unfold imin; split <;> omega
    refine Dr.run (R := fun m => ∃ (bs : List Box) (p : Packet), m = some (bs, p) ∧ BoxesSm bs) (Dr.pick hx hmin.1) h0 (by omega) fun i p2 hi h2 h3 => ?_
    obtain ⟨z, ez, hz2⟩ := idx_ok (xs := bs) (i := i) (n := (bs.length : Int)) ⟨hi.1, by omega⟩ rfl
    simp only [ez, Option.bind_some]
    exact Dr.run (R := fun m => ∃ (bs : List Box) (p : Packet), m = some (bs, p) ∧ BoxesSm bs) (dr_inside hx (b := ⟨z.Sides⟩) (hb.2 z hz2) p2 14) (by omega) (by omega) fun q p' _ _ _ => ⟨_, _, rfl, hb⟩
  · simp only [lt_false (show (bs.length : Int) ≤ 0 by omega), cond_false]
    exact Dr.run (R := fun m => ∃ (bs : List Box) (p : Packet), m = some (bs, p) ∧ BoxesSm bs) (dr_inside hx fullS_okB p 14) h0 (by omega) fun q p' _ _ _ => ⟨_, _, rfl, hb⟩
theorem impl_field {p : Packet} (hp : PV p) {k : Nat} (hk : k < 4) : impl_PacketField p (k : Int) = some (pf p k) := by
  obtain ⟨q, e, hq⟩ := impl_packet p
  unfold impl_PacketField
  rw [lt_false (show (0 : Int) ≤ (k : Int) by omega), cond_false, le_false (show (k : Int) < 4 by omega), cond_false, e, Option.bind_some, hq.2 hp, cond_true, impl_fields, Option.bind_some, idx_pf p hk]; rfl
theorem plain_FnBoxHas (code : List Int) (g : GAll GU8 code) : laws_FnBoxHas code = some true := by
  unfold laws_FnBoxHas
  refine draw_guard fun _ => ?_
  obtain ⟨b, p, e, h⟩ := draw_boxhas g
  obtain ⟨v, e1, e2, hv⟩ := (impl_has h.ok p).same (spec_has h.ok p)
  obtain ⟨w, e3, hw⟩ := spec_box h.ok
  obtain ⟨u, e4, hu⟩ := spec_packet p
  rw [e, Option.bind_some]
  have e1' : impl_BoxHas ({ Sides := (b, p).1.Sides } : Box) ({ From := (b, p).2.From, To := (b, p).2.To, Port := (b, p).2.Port, Proto := (b, p).2.Proto } : Packet) = some v := e1
  have e2' : spec_BoxHas ({ Sides := (b, p).1.Sides } : Box) ({ From := (b, p).2.From, To := (b, p).2.To, Port := (b, p).2.Port, Proto := (b, p).2.Proto } : Packet) = some v := e2
  have e3' : spec_BoxValid ({ Sides := (b, p).1.Sides } : Box) = some w := e3
  have e4' : spec_PacketValid ({ From := (b, p).2.From, To := (b, p).2.To, Port := (b, p).2.Port, Proto := (b, p).2.Proto } : Packet) = some u := e4
  rw [e1', Option.bind_some, e2', Option.bind_some, bne_self_eq_false, cond_false, e3', Option.bind_some]
  have hno : ∀ (hh : ¬ (BV b ∧ PV p)), v = false := fun hh => by rw [Bool.eq_false_iff]; exact fun x => hh ⟨(hv.1 x).1, (hv.1 x).2.1⟩
  cases w with
  | false => rw [hno fun hh => by simpa using hw.2 hh.1]; rfl
  | true =>
    rw [cond_true, e4', Option.bind_some]
    cases u with
    | false => rw [hno fun hh => by simpa using hu.2 hh.2]; rfl
    | true =>
      have hb := hw.1 rfl
      have hp := hu.1 rfl
      have h4 := (BV_iff.1 hb).1
      have hloop : loopF (laws_FnBoxHas_L0 (b, p)) (((4 : Int)) - 0).toNat.succ (true, 0) = some (.brk (((List.range (4)).all fun j => has (sd b.Sides j) (pf p j)), 4)) :=
        loop_brk0 (body := laws_FnBoxHas_L0 (b, p)) 4 (fun k : Nat => (((List.range (k)).all fun j => has (sd b.Sides j) (pf p j)), (k : Int))) (by simp) (fun k hk => by
          have hs : ((List.range (k + 1)).all fun j => has (sd b.Sides j) (pf p j)) = (((List.range k).all fun j => has (sd b.Sides j) (pf p j)) && has (sd b.Sides k) (pf p k)) := by
            rw [List.range_succ, List.all_append]; simp
          rw [hs]
          unfold laws_FnBoxHas_L0
          simp only [lt_true (show (k : Int) < 4 by omega), cond_true, W_succ (show k < 9223372036854775807 by omega)]
          cases ((List.range k).all fun j => has (sd b.Sides j) (pf p j)) with
          | false => rfl
          | true =>
            obtain ⟨r, er, hr⟩ := impl_have (xs := sd b.Sides k) (by have := h4.len hk; omega) (pf p k)
            have hr : r = has (sd b.Sides k) (pf p k) := by rw [Bool.eq_iff_iff, hr, has_iff]
            have hf : impl_PacketField ({ From := p.From, To := p.To, Port := p.Port, Proto := p.Proto } : Packet) (k : Int) = some (pf p k) := impl_field hp hk
            simp only [cond_true, sd_idx h4.1 hk, Option.bind_some, hf, er, hr, Bool.true_and])
          (by
            unfold laws_FnBoxHas_L0
            rfl) (by decide)
      have hfin : v = ((List.range (4)).all fun j => has (sd b.Sides j) (pf p j)) := by
        rw [Bool.eq_iff_iff, hv, List.all_eq_true, BH_iff h4.1]
        exact ⟨fun x j hj => x.2.2 j (List.mem_range.1 hj), fun x => ⟨hb, hp, fun j hj => x j (List.mem_range.2 hj)⟩⟩
      rw [cond_true, hloop]
      simp only [Option.bind_some, LR.on, ← hfin]
      simp
theorem RV.take {bs : List Box} (h : RV bs) (k : Nat) : RV (bs.take k) := ⟨fun b hb => h.1 b (List.mem_of_mem_take hb), by have := h.2; simp; omega⟩
theorem RV.drop {bs : List Box} (h : RV bs) (k : Nat) : RV (bs.drop k) := ⟨fun b hb => h.1 b (List.mem_of_mem_drop hb), by have := h.2; simp; omega⟩
theorem plain_FnRegionHas (code : List Int) (g : GAll GU8 code) : laws_FnRegionHas code = some true := by
  unfold laws_FnRegionHas
  refine draw_guard fun _ => ?_
  obtain ⟨bs, p, e, h⟩ := draw_regionhas g
  have h1 := h.1
  have hok : ∀ b ∈ bs, OkBox b := fun b hb => (h.2 b hb).ok
  obtain ⟨v, e1, e2, hv⟩ := (impl_rhas (xs := bs) (by omega) hok p).same (spec_rhas (xs := bs) (by omega) hok p)
  obtain ⟨w, e3, hw⟩ := spec_region (xs := bs) (by omega) hok
  obtain ⟨a, ea, ha⟩ := impl_rhas (xs := bs.take (bs.length / 2)) (by simp; omega) (fun b hb => hok b (List.mem_of_mem_take hb)) p
  obtain ⟨c, ec, hc⟩ := impl_rhas (xs := bs.drop (bs.length / 2)) (by simp; omega) (fun b hb => hok b (List.mem_of_mem_drop hb)) p
  obtain ⟨z, ez, hz⟩ := impl_rhas (xs := []) (by simp) (by simp) p
  have hzf : z = false := by rw [Bool.eq_false_iff]; exact fun x => by simpa using (hz.1 x).2.2
  rw [e, Option.bind_some]
  simp only
  rw [show ({ From := p.From, To := p.To, Port := p.Port, Proto := p.Proto } : Packet) = p from rfl, e1, Option.bind_some, e2, Option.bind_some, bne_self_eq_false, cond_false, e3, Option.bind_some]
  cases w with
  | false =>
    have : v = false := by rw [Bool.eq_false_iff]; exact fun x => by simpa using hw.2 (hv.1 x).1
    rw [this]; rfl
  | true =>
    have hr := hw.1 rfl
    have hor : v = (a || c) := by
      rw [Bool.eq_iff_iff, Bool.or_eq_true, hv, ha, hc]
      constructor
      · rintro ⟨_, hp, b, hb, hh⟩
        rw [← List.take_append_drop (bs.length / 2) bs] at hb
        rcases List.mem_append.1 hb with hb | hb
        · exact .inl ⟨hr.take _, hp, b, hb, hh⟩
        · exact .inr ⟨hr.drop _, hp, b, hb, hh⟩
      · rintro (⟨_, hp, b, hb, hh⟩ | ⟨_, hp, b, hb, hh⟩)
        · exact ⟨hr, hp, b, List.mem_of_mem_take hb, hh⟩
        · exact ⟨hr, hp, b, List.mem_of_mem_drop hb, hh⟩
    rw [cond_true, take_half (by omega), drop_half (by omega)]
    simp only [Option.bind_some, ea, ec, ez, hzf, hor]
    cases a <;> cases c <;> rfl
end Go.PF.F
