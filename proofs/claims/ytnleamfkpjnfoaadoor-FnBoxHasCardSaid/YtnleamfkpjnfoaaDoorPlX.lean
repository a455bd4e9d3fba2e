/- Plain laws: meetings of boxes, packets in boxes and regions. -/
import Derived.Test.YtnleamfkpjnfoaaDoorPlO
namespace Go.PF.F
open Go Go.PF

theorem TsV.take {ts : List Test} (h : TsV ts) (k : Nat) : TsV (ts.take k) := ⟨fun t ht => h.1 t (List.mem_of_mem_take ht), by have := h.2; simp; omega⟩
theorem TsV.drop {ts : List Test} (h : TsV ts) (k : Nat) : TsV (ts.drop k) := ⟨fun t ht => h.1 t (List.mem_of_mem_drop ht), by have := h.2; simp; omega⟩
/-! Packets that lie in boxes. -/
theorem dr_inside {xs : List Int} (hx : Bytes xs) {b : Box} (hb : OkB b) (pos n : Int) : Dr (spec_l20Inside xs pos b n) pos 40 (fun _ => True) := by
  intro h0 h1
  unfold spec_l20Inside
  have hb5 := hb.1
  obtain ⟨o, ho, ⟨y, k, p⟩, rfl, hl, l, u⟩ := loop_wf (body := spec_l20Inside_L0 xs b)
    (fun s => ∃ k : Nat, s.2.1 = (k : Int) ∧ k ≤ 4 ∧ s.1.length ≤ k ∧ pos ≤ s.2.2 ∧ s.2.2 ≤ pos + k) (fun s => b.Sides.length - s.2.1.toNat)
    (fun o => ∃ s : List Test × Int × Int, o = .brk s ∧ s.1.length ≤ 4 ∧ pos ≤ s.2.2 ∧ s.2.2 ≤ pos + 4)
    (fun s ⟨k, e1, hk, hl, l, u⟩ => by
      obtain ⟨y, i, q⟩ := s
      simp only at e1 hl l u
      subst e1
      unfold spec_l20Inside_L0
      by_cases hks : k < b.Sides.length
      · by_cases hk4 : k < 4
        · have hlen := hb.2 _ (List.getElem_mem hks)
          refine .inl ?_
          simp only [lt_true (show (k : Int) < (b.Sides.length : Int) by omega), lt_true (show (k : Int) < 4 by omega), cond_true, idx_get hks, Option.bind_some, W_succ (show k < 9223372036854775807 by omega)]
          by_cases hz : 0 < b.Sides[k].length
          · obtain ⟨r, p, e, hr, l3, u3⟩ := Dr.pick hx (pos := q) (n := (b.Sides[k].length : Int)) (by omega) (by omega) (by omega)
            obtain ⟨z, ez, _⟩ := idx_ok (xs := b.Sides[k]) (i := r) (n := (b.Sides[k].length : Int)) hr rfl
            rw [lt_true (show (0 : Int) < (b.Sides[k].length : Int) by omega), cond_true, e, Option.bind_some]
            simp only [ez, Option.bind_some, app_ok (show y.length + [({ Field := (k : Int), Lo := z.Lo, Hi := z.Hi, Not := false } : Test)].length ≤ 4294967296 by simp; omega)]
            exact ⟨_, rfl, ⟨k + 1, rfl, hk4, by simp; omega, by simp only; omega, by simp only; omega⟩, by simp only [Int.toNat_natCast]; omega⟩
          · rw [lt_false (show (b.Sides[k].length : Int) ≤ 0 by omega), cond_false]
            exact ⟨_, rfl, ⟨k + 1, rfl, hk4, by simp only; omega, l, by simp only; omega⟩, by simp only [Int.toNat_natCast]; omega⟩
        · refine .inr (.inl ⟨(y, (k : Int), q), ?_, _, rfl, by simp only; omega, l, by simp only; omega⟩)
          simp only [lt_true (show (k : Int) < (b.Sides.length : Int) by omega), lt_false (show (4 : Int) ≤ (k : Int) by omega), cond_true, cond_false]
      · refine .inr (.inl ⟨(y, (k : Int), q), ?_, _, rfl, by simp only; omega, l, by simp only; omega⟩)
        simp only [lt_false (show (b.Sides.length : Int) ≤ (k : Int) by omega), cond_false])
    ((((b.Sides.length : Int)) : Int) - 0).toNat.succ (([] : List Test), 0, pos) ⟨0, rfl, by omega, by simp, by simp, by simp⟩ (by simp)
  simp only at hl l u
  simp only [ho, Option.bind_some, LR.on]
  obtain ⟨a, p2, e, _, l2, u2⟩ := dr_near hx (ts := y) (by omega) p n (by omega) (by omega)
  rw [e]
  exact ⟨_, _, rfl, trivial, by simp only; omega, by simp only; omega⟩
theorem draw_boxhas {code : List Int} (h : GAll GU8 code) : ∃ (b : Box) (p : Packet), spec_DrawBoxHas code = some (b, p) ∧ OkB b := by
  unfold spec_DrawBoxHas
  refine draw_open (R := fun m => ∃ (b : Box) (p : Packet), m = some (b, p) ∧ OkB b) h fun xs hx => ?_
  refine Dr.run (R := fun m => ∃ (b : Box) (p : Packet), m = some (b, p) ∧ OkB b) (dr_box hx 0 14) (by decide) (by decide) fun b p hb h0 h1 => ?_
  exact Dr.run (R := fun m => ∃ (b : Box) (p : Packet), m = some (b, p) ∧ OkB b) (dr_inside hx hb.1 p 14) h0 (by omega) fun q p' _ _ _ => ⟨_, _, rfl, hb.1⟩
theorem impl_field {p : Packet} (hp : PV p) {k : Nat} (hk : k < 4) : impl_PacketField p (k : Int) = some (pf p k) := by
  obtain ⟨q, e, hq⟩ := impl_packet p
  unfold impl_PacketField
  rw [lt_false (show (0 : Int) ≤ (k : Int) by omega), cond_false, le_false (show (k : Int) < 4 by omega), cond_false, e, Option.bind_some, hq.2 hp, cond_true, impl_fields, Option.bind_some, idx_pf p hk]; rfl
theorem plain_FnBoxHas (code : List Int) (g : GAll GU8 code) : laws_FnBoxHas code = some true := by
  unfold laws_FnBoxHas
  refine draw_guard fun _ => ?_
  obtain ⟨b, p, e, h⟩ := draw_boxhas g
  obtain ⟨v, e1, e2, hv⟩ := (impl_has h.ok p).same (spec_has h.ok p)
  obtain ⟨w, e3, hw⟩ := spec_box h.ok
  obtain ⟨u, e4, hu⟩ := spec_packet p
  rw [e, Option.bind_some]
  have e1' : impl_BoxHas ({ Sides := (b, p).1.Sides } : Box) ({ From := (b, p).2.From, To := (b, p).2.To, Port := (b, p).2.Port, Proto := (b, p).2.Proto } : Packet) = some v := e1
  have e2' : spec_BoxHas ({ Sides := (b, p).1.Sides } : Box) ({ From := (b, p).2.From, To := (b, p).2.To, Port := (b, p).2.Port, Proto := (b, p).2.Proto } : Packet) = some v := e2
  have e3' : spec_BoxValid ({ Sides := (b, p).1.Sides } : Box) = some w := e3
  have e4' : spec_PacketValid ({ From := (b, p).2.From, To := (b, p).2.To, Port := (b, p).2.Port, Proto := (b, p).2.Proto } : Packet) = some u := e4
  rw [e1', Option.bind_some, e2', Option.bind_some, bne_self_eq_false, cond_false, e3', Option.bind_some]
  have hno : ∀ (hh : ¬ (BV b ∧ PV p)), v = false := fun hh => by rw [Bool.eq_false_iff]; exact fun x => hh ⟨(hv.1 x).1, (hv.1 x).2.1⟩
  cases w with
  | false => rw [hno fun hh => by simpa using hw.2 hh.1]; rfl
  | true =>
    rw [cond_true, e4', Option.bind_some]
    cases u with
    | false => rw [hno fun hh => by simpa using hu.2 hh.2]; rfl
    | true =>
      have hb := hw.1 rfl
      have hp := hu.1 rfl
      have h4 := (BV_iff.1 hb).1
      have hloop : loopF (laws_FnBoxHas_L0 (b, p)) (((4 : Int)) - 0).toNat.succ (true, 0) = some (.brk (((List.range (4)).all fun j => has (sd b.Sides j) (pf p j)), 4)) :=
        loop_brk0 (body := laws_FnBoxHas_L0 (b, p)) 4 (fun k : Nat => (((List.range (k)).all fun j => has (sd b.Sides j) (pf p j)), (k : Int))) (by simp) (fun k hk => by
          have hs : ((List.range (k + 1)).all fun j => has (sd b.Sides j) (pf p j)) = (((List.range k).all fun j => has (sd b.Sides j) (pf p j)) && has (sd b.Sides k) (pf p k)) := by
            rw [List.range_succ, List.all_append]; simp
          rw [hs]
          unfold laws_FnBoxHas_L0
          simp only [lt_true (show (k : Int) < 4 by omega), cond_true, W_succ (show k < 9223372036854775807 by omega)]
          cases ((List.range k).all fun j => has (sd b.Sides j) (pf p j)) with
          | false => rfl
          | true =>
            obtain ⟨r, er, hr⟩ := impl_have (xs := sd b.Sides k) (by have := h4.len hk; omega) (pf p k)
            have hr : r = has (sd b.Sides k) (pf p k) := by rw [Bool.eq_iff_iff, hr, has_iff]
            have hf : impl_PacketField ({ From := p.From, To := p.To, Port := p.Port, Proto := p.Proto } : Packet) (k : Int) = some (pf p k) := impl_field hp hk
            simp only [cond_true, sd_idx h4.1 hk, Option.bind_some, hf, er, hr, Bool.true_and])
          (by
            unfold laws_FnBoxHas_L0
            rfl) (by decide)
      have hfin : v = ((List.range (4)).all fun j => has (sd b.Sides j) (pf p j)) := by
        rw [Bool.eq_iff_iff, hv, List.all_eq_true, BH_iff h4.1]
        exact ⟨fun x j hj => x.2.2 j (List.mem_range.1 hj), fun x => ⟨hb, hp, fun j hj => x j (List.mem_range.2 hj)⟩⟩
      rw [cond_true, hloop]
      simp only [Option.bind_some, LR.on, ← hfin]
      simp
theorem RV.take {bs : List Box} (h : RV bs) (k : Nat) : RV (bs.take k) := ⟨fun b hb => h.1 b (List.mem_of_mem_take hb), by have := h.2; simp; omega⟩
theorem RV.drop {bs : List Box} (h : RV bs) (k : Nat) : RV (bs.drop k) := ⟨fun b hb => h.1 b (List.mem_of_mem_drop hb), by have := h.2; simp; omega⟩
end Go.PF.F
