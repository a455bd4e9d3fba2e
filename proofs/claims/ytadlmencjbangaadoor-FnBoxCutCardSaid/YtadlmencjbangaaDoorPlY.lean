/- Plain laws: two boxes. -/
import Derived.Test.YtadlmencjbangaaDoorPlX
namespace Go.PF.F
open Go Go.PF

theorem own_box {b : Box} (h : OkB b) : spec_l1OwnBox b = some b := by
  unfold spec_l1OwnBox
  rw [spec_rows (by have := h.1; omega) fun x hx => by have := h.2 x hx; omega]; rfl
theorem spec_meets4 {a b : List (List Span)} (ha : B4 a) (hb : B4 b) : spec_l10Meet ⟨a⟩ ⟨b⟩ = some ⟨meetS a b⟩ := by
  unfold spec_l10Meet
  have e : loopF (spec_l10Meet_L0 ⟨a⟩ ⟨b⟩) (((4 : Int)) - 0).toNat.succ (0, ([] : List (List Span))) = some (.brk (4, meetS a b)) :=
    loop_brk0 (body := spec_l10Meet_L0 ⟨a⟩ ⟨b⟩) 4 (fun k : Nat => ((k : Int), (List.range k).map fun j => meetL (sd a j) (sd b j))) rfl (fun k hk => by
      unfold spec_l10Meet_L0
      simp only [lt_true (show (k : Int) < 4 by omega), cond_true, sd_idx ha.1 hk, sd_idx hb.1 hk, Option.bind_some, spec_meet (show (sd a k).length ≤ 40000 by have := ha.len hk; omega) (show (sd b k).length ≤ 40000 by have := hb.len hk; omega), W_succ (show k < 9223372036854775807 by omega)]
      rw [app_ok (by simp; omega), List.range_succ, List.map_append]; rfl)
      (by
        unfold spec_l10Meet_L0
        rfl) (by decide)
  rw [e]; rfl
theorem meet_is {a b : Box} (ha : OkB a) (hb : OkB b) : ∃ m, impl_BoxMeet a b = some m ∧ spec_BoxMeet a b = some m ∧ OkB m ∧ (BV a ∧ BV b ∧ Few (meetS a.Sides b.Sides) → m = ⟨meetS a.Sides b.Sides⟩) ∧ (¬ (BV a ∧ BV b ∧ Few (meetS a.Sides b.Sides)) → m = ⟨[]⟩) := by
  obtain ⟨m, em, hy, hn⟩ := impl_meetb ha.ok hb.ok
  have hnil : OkB ⟨[]⟩ := ⟨by simp, by simp⟩
  obtain ⟨v, e1, hv⟩ := spec_box ha.ok
  obtain ⟨w, e2, hw⟩ := spec_box hb.ok
  have hspec : spec_BoxMeet a b = some m ∧ OkB m := by
    unfold spec_BoxMeet
    have o1 : spec_l1OwnBox ({ Sides := a.Sides } : Box) = some a := own_box ha
    have o2 : spec_l1OwnBox ({ Sides := b.Sides } : Box) = some b := own_box hb
    rw [o1, Option.bind_some, o2, Option.bind_some]
    have e1' : spec_BoxValid ({ Sides := a.Sides } : Box) = some v := e1
    have e2' : spec_BoxValid ({ Sides := b.Sides } : Box) = some w := e2
    rw [e1', Option.bind_some]
    cases v with
    | false => rw [hn fun h => by simpa using hv.2 h.1]; exact ⟨rfl, hnil⟩
    | true =>
      rw [cond_true, e2', Option.bind_some]
      cases w with
      | false => rw [hn fun h => by simpa using hw.2 h.2.1]; exact ⟨rfl, hnil⟩
      | true =>
        have hva := hv.1 rfl
        have hvb := hw.1 rfl
        have ha4 := (BV_iff.1 hva).1
        have hb4 := (BV_iff.1 hvb).1
        have hm4 := ha4.meet hb4
        obtain ⟨u, e3, hu⟩ := spec_box (b := ⟨meetS a.Sides b.Sides⟩) (B4.ok (b := ⟨meetS a.Sides b.Sides⟩) hm4)
        rw [cond_true, spec_meets4 ha4 hb4, Option.bind_some, e3, Option.bind_some]
        cases u with
        | false =>
          rw [hn fun h => by simpa using hu.2 (BV_iff.2 ⟨hm4, h.2.2⟩)]; exact ⟨rfl, hnil⟩
        | true =>
          have hf := (BV_iff.1 (hu.1 rfl)).2
          rw [hy ⟨hva, hvb, hf⟩]
          exact ⟨rfl, OkB.of hm4 hf⟩
  exact ⟨m, em, hspec.1, hspec.2, hy, hn⟩
theorem OkB.set {s : List (List Span)} (h : OkB ⟨s⟩) (k : Nat) {x : List Span} (hx : x.length ≤ 40) : OkB ⟨s.set k x⟩ := ⟨by have := h.1; simp at this ⊢; omega, fun y hy => by
  rcases List.mem_or_eq_of_mem_set hy with hm | hm
  · exact h.2 y hm
  · rw [hm]; exact hx⟩
theorem SameS.symm {a b : List (List Span)} (ha : B4 a) (hb : B4 b) : SameS a b ↔ SameS b a := by
  rw [← same_iff ha hb, ← same_iff hb ha]; exact And.comm
end Go.PF.F
