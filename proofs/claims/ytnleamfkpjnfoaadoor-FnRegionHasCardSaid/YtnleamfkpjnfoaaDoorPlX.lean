/- Plain laws: meetings of boxes, packets in boxes and regions. -/
import Derived.Test.YtnleamfkpjnfoaaDoorPlO
namespace Go.PF.F
open Go Go.PF

theorem TsV.take {ts : List Test} (h : TsV ts) (k : Nat) : TsV (ts.take k) := ⟨fun t ht => h.1 t (List.mem_of_mem_take ht), by have := h.2; simp; omega⟩
theorem TsV.drop {ts : List Test} (h : TsV ts) (k : Nat) : TsV (ts.drop k) := ⟨fun t ht => h.1 t (List.mem_of_mem_drop ht), by have := h.2; simp; omega⟩
/-! Packets that lie in boxes. -/
theorem dr_inside {xs : List Int} (hx : Bytes xs) {b : Box} (hb : OkB b) (pos n : Int) : Dr (spec_l20Inside xs pos b n) pos 40 (fun _ => True) := by
  intro h0 h1
  unfold spec_l20Inside
  have hb5 := hb.1
  obtain ⟨o, ho, ⟨y, k, p⟩, rfl, hl, l, u⟩ := loop_wf (body := spec_l20Inside_L0 xs b)
    (fun s => ∃ k : Nat, s.2.1 = (k : Int) ∧ k ≤ 4 ∧ s.1.length ≤ k ∧ pos ≤ s.2.2 ∧ s.2.2 ≤ pos + k) (fun s => b.Sides.length - s.2.1.toNat)
    (fun o => ∃ s : List Test × Int × Int, o = .brk s ∧ s.1.length ≤ 4 ∧ pos ≤ s.2.2 ∧ s.2.2 ≤ pos + 4)
    (fun s ⟨k, e1, hk, hl, l, u⟩ => by
      obtain ⟨y, i, q⟩ := s
      simp only at e1 hl l u
      subst e1
      unfold spec_l20Inside_L0
      by_cases hks : k < b.Sides.length
      · by_cases hk4 : k < 4
        · have hlen := hb.2 _ (List.getElem_mem hks)
          refine .inl ?_
          simp only [lt_true (show (k : Int) < (b.Sides.length : Int) by omega), lt_true (show (k : Int) < 4 by omega), cond_true, idx_get hks, Option.bind_some, W_succ (show k < 9223372036854775807 by omega)]
          by_cases hz : 0 < b.Sides[k].length
          · obtain ⟨r, p, e, hr, l3, u3⟩ := Dr.pick hx (pos := q) (n := (b.Sides[k].length : Int)) (by omega) (by omega) (by omega)
            obtain ⟨z, ez, _⟩ := idx_ok (xs := b.Sides[k]) (i := r) (n := (b.Sides[k].length : Int)) hr rfl
            rw [lt_true (show (0 : Int) < (b.Sides[k].length : Int) by omega), cond_true, e, Option.bind_some]
            simp only [ez, Option.bind_some, app_ok (show y.length + [({ Field := (k : Int), Lo := z.Lo, Hi := z.Hi, Not := false } : Test)].length ≤ 4294967296 by simp; omega)]
            exact ⟨_, rfl, ⟨k + 1, rfl, hk4, by simp; omega, by simp only; omega, by simp only; omega⟩, by simp only [Int.toNat_natCast]; omega⟩
          · rw [lt_false (show (b.Sides[k].length : Int) ≤ 0 by omega), cond_false]
            exact ⟨_, rfl, ⟨k + 1, rfl, hk4, by simp only; omega, l, by simp only; omega⟩, by simp only [Int.toNat_natCast]; omega⟩
        · refine .inr (.inl ⟨(y, (k : Int), q), ?_, _, rfl, by simp only; omega, l, by simp only; omega⟩)
          simp only [lt_true (show (k : Int) < (b.Sides.length : Int) by omega), lt_false (show (4 : Int) ≤ (k : Int) by omega), cond_true, cond_false]
      · refine .inr (.inl ⟨(y, (k : Int), q), ?_, _, rfl, by simp only; omega, l, by simp only; omega⟩)
        simp only [lt_false (show (b.Sides.length : Int) ≤ (k : Int) by omega), cond_false])
    ((((b.Sides.length : Int)) : Int) - 0).toNat.succ (([] : List Test), 0, pos) ⟨0, rfl, by omega, by simp, by simp, by simp⟩ (by simp)
  simp only at hl l u
  simp only [ho, Option.bind_some, LR.on]
  obtain ⟨a, p2, e, _, l2, u2⟩ := dr_near hx (ts := y) (by omega) p n (by omega) (by omega)
  rw [e]
  exact ⟨_, _, rfl, trivial, by simp only; omega, by simp only; omega⟩
theorem fullS_okB : OkB ⟨fullS⟩ := OkB.of full_B4 full_few
theorem draw_regionhas {code : List Int} (h : GAll GU8 code) : ∃ (bs : List Box) (p : Packet), spec_DrawRegionHas code = some (bs, p) ∧ BoxesSm bs := by
  unfold spec_DrawRegionHas
  refine draw_open (R := fun m => ∃ (bs : List Box) (p : Packet), m = some (bs, p) ∧ BoxesSm bs) h fun xs hx => ?_
  refine Dr.run (R := fun m => ∃ (bs : List Box) (p : Packet), m = some (bs, p) ∧ BoxesSm bs) (dr_region hx 0 14) (by decide) (by decide) fun bs p hb h0 h1 => ?_
  rw [spec_all, Option.bind_some]
  by_cases hz : 0 < bs.length
  · simp only [lt_true (show (0 : Int) < (bs.length : Int) by omega), cond_true]
    have hmin : 1 ≤ imin 256 (bs.length : Int) ∧ imin 256 (bs.length : Int) ≤ (bs.length : Int) := by unfold imin; split <;> omega
    refine Dr.run (R := fun m => ∃ (bs : List Box) (p : Packet), m = some (bs, p) ∧ BoxesSm bs) (Dr.pick hx hmin.1) h0 (by omega) fun i p2 hi h2 h3 => ?_
    obtain ⟨z, ez, hz2⟩ := idx_ok (xs := bs) (i := i) (n := (bs.length : Int)) ⟨hi.1, by omega⟩ rfl
    simp only [ez, Option.bind_some]
    exact Dr.run (R := fun m => ∃ (bs : List Box) (p : Packet), m = some (bs, p) ∧ BoxesSm bs) (dr_inside hx (b := ⟨z.Sides⟩) (hb.2 z hz2) p2 14) (by omega) (by omega) fun q p' _ _ _ => ⟨_, _, rfl, hb⟩
  · simp only [lt_false (show (bs.length : Int) ≤ 0 by omega), cond_false]
    exact Dr.run (R := fun m => ∃ (bs : List Box) (p : Packet), m = some (bs, p) ∧ BoxesSm bs) (dr_inside hx fullS_okB p 14) h0 (by omega) fun q p' _ _ _ => ⟨_, _, rfl, hb⟩
theorem RV.take {bs : List Box} (h : RV bs) (k : Nat) : RV (bs.take k) := ⟨fun b hb => h.1 b (List.mem_of_mem_take hb), by have := h.2; simp; omega⟩
theorem RV.drop {bs : List Box} (h : RV bs) (k : Nat) : RV (bs.drop k) := ⟨fun b hb => h.1 b (List.mem_of_mem_drop hb), by have := h.2; simp; omega⟩
theorem plain_FnRegionHas (code : List Int) (g : GAll GU8 code) : laws_FnRegionHas code = some true := by
  unfold laws_FnRegionHas
  refine draw_guard fun _ => ?_
  obtain ⟨bs, p, e, h⟩ := draw_regionhas g
  have h1 := h.1
  have hok : ∀ b ∈ bs, OkBox b := fun b hb => (h.2 b hb).ok
  obtain ⟨v, e1, e2, hv⟩ := (impl_rhas (xs := bs) (by omega) hok p).same (spec_rhas (xs := bs) (by omega) hok p)
  obtain ⟨w, e3, hw⟩ := spec_region (xs := bs) (by omega) hok
  obtain ⟨a, ea, ha⟩ := impl_rhas (xs := bs.take (bs.length / 2)) (by simp; omega) (fun b hb => hok b (List.mem_of_mem_take hb)) p
  obtain ⟨c, ec, hc⟩ := impl_rhas (xs := bs.drop (bs.length / 2)) (by simp; omega) (fun b hb => hok b (List.mem_of_mem_drop hb)) p
  obtain ⟨z, ez, hz⟩ := impl_rhas (xs := []) (by simp) (by simp) p
  have hzf : z = false := by rw [Bool.eq_false_iff]; exact fun x => by simpa using (hz.1 x).2.2
  rw [e, Option.bind_some]
  simp only
  rw [show ({ From := p.From, To := p.To, Port := p.Port, Proto := p.Proto } : Packet) = p from rfl, e1, Option.bind_some, e2, Option.bind_some, bne_self_eq_false, cond_false, e3, Option.bind_some]
  cases w with
  | false =>
    have : v = false := by rw [Bool.eq_false_iff]; exact fun x => by simpa using hw.2 (hv.1 x).1
    rw [this]; rfl
  | true =>
    have hr := hw.1 rfl
    have hor : v = (a || c) := by
      rw [Bool.eq_iff_iff, Bool.or_eq_true, hv, ha, hc]
      constructor
      · rintro ⟨_, hp, b, hb, hh⟩
        rw [← List.take_append_drop (bs.length / 2) bs] at hb
        rcases List.mem_append.1 hb with hb | hb
        · exact .inl ⟨hr.take _, hp, b, hb, hh⟩
        · exact .inr ⟨hr.drop _, hp, b, hb, hh⟩
      · rintro (⟨_, hp, b, hb, hh⟩ | ⟨_, hp, b, hb, hh⟩)
        · exact ⟨hr, hp, b, List.mem_of_mem_take hb, hh⟩
        · exact ⟨hr, hp, b, List.mem_of_mem_drop hb, hh⟩
    rw [cond_true, take_half (by omega), drop_half (by omega)]
    simp only [Option.bind_some, ea, ec, ez, hzf, hor]
    cases a <;> cases c <;> rfl
end Go.PF.F
