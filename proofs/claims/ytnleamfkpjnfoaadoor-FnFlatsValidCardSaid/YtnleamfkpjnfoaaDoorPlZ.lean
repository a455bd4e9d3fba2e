/- Plain laws: drawn flats. -/
import Derived.Test.YtnleamfkpjnfoaaDoorPlY
namespace Go.PF.F
open Go Go.PF

def OkF (f : Flat) : Prop := OkB f.Where
def FlatsSm (fs : List Flat) : Prop := fs.length ≤ 61 ∧ ∀ f ∈ fs, OkB f.Where
theorem dr_flats {xs : List Int} (hx : Bytes xs) (pos n : Int) : Dr (spec_l20Flats xs pos n) pos 2000 FlatsSm := by
  intro h0 h1
  unfold spec_l20Flats
  obtain ⟨c, p1, e1, hc, l1, u1⟩ := Dr.pick hx (pos := pos) (n := 7) (by decide) h0 (by omega)
  obtain ⟨m, rfl⟩ := Int.eq_ofNat_of_zero_le hc.1
  rw [e1, Option.bind_some]
  obtain ⟨o, ho, ⟨y, k, p⟩, rfl, hl, hy, l, u⟩ := loop_wf (body := spec_l20Flats_L0 xs)
    (fun s => ∃ k : Nat, s.2.1 = (k : Int) ∧ k ≤ 6 ∧ s.1.length + k ≤ 6 ∧ (∀ f ∈ s.1, OkB f.Where ∧ f.Where.Sides.length = 4) ∧ p1 ≤ s.2.2 ∧ s.2.2 ≤ p1 + 240 * (6 - k)) (fun s => s.2.1.toNat)
    (fun o => ∃ s : List Flat × Int × Int, o = .brk s ∧ s.1.length ≤ 6 ∧ (∀ f ∈ s.1, OkB f.Where) ∧ p1 ≤ s.2.2 ∧ s.2.2 ≤ p1 + 1440)
    (fun s ⟨k, ek, hk6, hlen, hall, l, u⟩ => by
      obtain ⟨y, i, q⟩ := s
      simp only at ek hlen hall l u
      subst ek
      unfold spec_l20Flats_L0
      by_cases hk : 0 < k
      · refine .inl ?_
        obtain ⟨b, p2, e2, hb, l2, u2⟩ := dr_box hx q 0 (by omega) (by omega)
        obtain ⟨a, p3, e3, _, l3, u3⟩ := Dr.pick hx (pos := p2) (n := 2) (by decide) (by omega) (by omega)
        have hbv := hb.2 (Int.le_refl _)
        have hb4 := hbv.1
        have hW : W ((k : Int) - 1) = ((k - 1 : Nat) : Int) := by rw [W_of (by omega) (by omega)]; omega
        have happ : ∀ f : Flat, appF y [f] = some (y ++ [f]) := fun f => app_ok (by simp; omega)
        have hnew : ∀ f : Flat, OkB f.Where ∧ f.Where.Sides.length = 4 → ∀ x ∈ y ++ [f], OkB x.Where ∧ x.Where.Sides.length = 4 := fun f hf x hx => by
          rcases List.mem_append.1 hx with hx | hx
          · exact hall x hx
          · rw [List.mem_singleton.1 hx]; exact hf
        simp only [lt_true (show (0 : Int) < (k : Int) by omega), cond_true, e2, e3, Option.bind_some, hW]
        by_cases hz : 0 < y.length
        · obtain ⟨d, p4, e4, _, l4, u4⟩ := Dr.pick hx (pos := p3) (n := 3) (by decide) (by omega) (by omega)
          simp only [lt_true (show (0 : Int) < (y.length : Int) by omega), cond_true, e4, Option.bind_some]
          by_cases hd : (d == 0) = true
          · have hidx : idx y (W ((y.length : Int) - 1)) = some y[y.length - 1] := by
              rw [show W ((y.length : Int) - 1) = ((y.length - 1 : Nat) : Int) by rw [W_of (by omega) (by omega)]; omega]
              exact idx_get (by omega)
            have hlast := hall y[y.length - 1] (List.getElem_mem _)
            obtain ⟨j, p5, e5, hj, l5, u5⟩ := Dr.pick hx (pos := p4) (n := 4) (by decide) (by omega) (by omega)
            obtain ⟨j, rfl⟩ := Int.eq_ofNat_of_zero_le hj.1
            have hj4 : j < 4 := by omega
            have ht := top_pos hj4
            obtain ⟨s, p6, e6, hs, l6, u6⟩ := dr_set hx ht.1 ht.2 p5 (by omega) (by omega)
            simp only [hd, cond_true, hidx, Option.bind_some, app_nil (show y[y.length - 1].Where.Sides.length ≤ 4294967296 by rw [hlast.2]; decide), e5, spec_top, e6, idx_get (show j < y[y.length - 1].Where.Sides.length by rw [hlast.2]; exact hj4), Int.toNat_natCast, happ]
            exact ⟨_, rfl, ⟨k - 1, rfl, by omega, by simp; omega, hnew _ ⟨hlast.1.set j (by omega), by simpa using hlast.2⟩, by simp only; omega, by simp only; omega⟩, by simp only [Int.toNat_natCast]; omega⟩
          · simp only [Bool.eq_false_iff.2 hd, cond_false, happ, Option.bind_some]
            exact ⟨_, rfl, ⟨k - 1, rfl, by omega, by simp; omega, hnew _ ⟨hb.1, hb4⟩, by simp only; omega, by simp only; omega⟩, by simp only [Int.toNat_natCast]; omega⟩
        · simp only [lt_false (show (y.length : Int) ≤ 0 by omega), cond_false, happ, Option.bind_some]
          exact ⟨_, rfl, ⟨k - 1, rfl, by omega, by simp; omega, hnew _ ⟨hb.1, hb4⟩, by simp only; omega, by simp only; omega⟩, by simp only [Int.toNat_natCast]; omega⟩
      · refine .inr (.inl ⟨(y, (k : Int), q), ?_, _, rfl, by simp only; omega, fun f hf => (hall f hf).1, l, by simp only; omega⟩)
        simp only [lt_false (show (k : Int) ≤ 0 by omega), cond_false])
    ((m : Nat) : Int).toNat.succ (([] : List Flat), (m : Int), p1) ⟨m, rfl, by omega, by simp; omega, by simp, by simp, by simp only; omega⟩ (by simp)
  simp only at hl hy l u
  simp only [ho, Option.bind_some, LR.on]
  obtain ⟨d, p2, e2, _, l2, u2⟩ := Dr.odd hx (pos := p) (n := n) (by omega) (by omega)
  rw [e2, Option.bind_some]
  cases d with
  | false => exact ⟨_, _, rfl, ⟨by omega, hy⟩, by simp only; omega, by simp only; omega⟩
  | true =>
    obtain ⟨j, p3, e3, _, l3, u3⟩ := Dr.pick hx (pos := p2) (n := 2) (by decide) (by omega) (by omega)
    simp only [cond_true, e3, Option.bind_some]
    by_cases hj : (j == 0) = true
    · rw [hj, cond_true, app_ok (by simp; omega)]
      refine ⟨_, _, rfl, ⟨by simp; omega, fun f hf => ?_⟩, by omega, by omega⟩
      rcases List.mem_append.1 hf with hf | hf
      · exact hy f hf
      · rw [List.mem_singleton.1 hf]; exact ⟨by simp, by simp⟩
    · rw [Bool.eq_false_iff.2 hj, cond_false]
      obtain ⟨o, ho, z, rfl, hz, hzf⟩ := loop_wf (body := spec_l20Flats_L1) (fun s => s.length ≤ 61 ∧ ∀ f ∈ s, OkB f.Where) (fun s => 61 - s.length) (fun o => ∃ z : List Flat, o = .brk z ∧ z.length ≤ 61 ∧ ∀ f ∈ z, OkB f.Where)
        (fun s ⟨hs, hf⟩ => by
          unfold spec_l20Flats_L1
          by_cases h60 : s.length ≤ 60
          · refine .inl ?_
            simp only [le_true (show (s.length : Int) ≤ 60 by omega), cond_true, spec_all, Option.bind_some]
            rw [app_ok (by simp; omega)]
            refine ⟨_, rfl, ⟨by simp; omega, fun f hf' => ?_⟩, by simp; omega⟩
            rcases List.mem_append.1 hf' with h | h
            · exact hf f h
            · rw [List.mem_singleton.1 h]; exact fullS_okB
          · refine .inr (.inl ⟨s, ?_, _, rfl, hs, hf⟩)
            simp only [le_false (show (60 : Int) < (s.length : Int) by omega), cond_false])
        62 y ⟨by omega, hy⟩ (by omega)
      rw [ho]
      exact ⟨_, _, rfl, ⟨hz, hzf⟩, by omega, by omega⟩
theorem draw_flatsvalid {code : List Int} (h : GAll GU8 code) : ∃ fs, spec_DrawFlatsValid code = some fs ∧ FlatsSm fs := by
  unfold spec_DrawFlatsValid
  refine draw_open (R := fun m => ∃ fs : List Flat, m = some fs ∧ FlatsSm fs) h fun xs hx => ?_
  exact Dr.run (R := fun m => ∃ fs : List Flat, m = some fs ∧ FlatsSm fs) (dr_flats hx 0 2) (by decide) (by decide) fun a p ha _ _ => ⟨_, rfl, ha⟩
theorem plain_FnFlatsValid (code : List Int) (g : GAll GU8 code) : laws_FnFlatsValid code = some true := by
  unfold laws_FnFlatsValid
  refine draw_guard fun _ => ?_
  obtain ⟨fs, e, h⟩ := draw_flatsvalid g
  have h1 := h.1
  rw [e, Option.bind_some]
  refine valid_law (f := impl_FlatsValid) (g := spec_FlatsValid) (V := FV) (by omega) (fun ys hy hl => impl_flats (by omega) fun b hb => ?_) (spec_flats (by omega) fun b hb => (h.2 b hb).ok) (fun hv => ⟨fun b hb => hv.1 b (List.mem_of_mem_take hb), by have := hv.2; simp; omega⟩) (fun hv => ?_)
  · rcases hy b hb with hm | hm
    · exact (h.2 b hm).ok
    · rw [hm]; exact ⟨by simp, by simp⟩
  · have := (hv.1 (⟨⟨[]⟩, false⟩ : Flat) (by simp)).1
    simp at this
end Go.PF.F
