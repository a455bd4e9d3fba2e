/- Plain laws: meetings of boxes, packets in boxes and regions. -/
import Derived.Test.YtadlmencjbangaaDoorPlO
namespace Go.PF.F
open Go Go.PF

theorem mk4_set (f : Nat → List Span) {k : Nat} (hk : k < 4) (x : List Span) : (mk4 f).set k x = mk4 fun j => if j = k then x else f j := by
  match k, hk with
  | 0, _ => rfl
  | 1, _ => rfl
  | 2, _ => rfl
  | 3, _ => rfl
theorem mk4_congr {f g : Nat → List Span} (h : ∀ k, k < 4 → f k = g k) : mk4 f = mk4 g := by
  unfold mk4
  exact List.map_congr_left fun k hk => h k (List.mem_range.1 hk)
theorem few_meet {a b : List (List Span)} : Few (meetS a b) ↔ ∀ k, k < 4 → (meetL (sd a k) (sd b k)).length ≤ 40 := by
  unfold Few meetS
  exact ⟨fun h k hk => by have := h k hk; rwa [sd_mk4 _ hk] at this, fun h k hk => by rw [sd_mk4 _ hk]; exact h k hk⟩
def nil4L : List (List Span) := [[], [], [], []]
theorem impl_meets {a b : List (List Span)} (ha : B4 a) (hb : B4 b) : (Few (meetS a b) ∧ impl_sides_meet a b = some (meetS a b, true)) ∨ (¬ Few (meetS a b) ∧ impl_sides_meet a b = some (nil4L, false)) := by
  unfold impl_sides_meet
  obtain ⟨o, ho, hq⟩ := loop_idx (body := impl_sides_meet_L0 a b) 4
    (fun k s => s = ((k : Int), nil4L, mk4 fun j => if j < k then meetL (sd a j) (sd b j) else []) ∧ ∀ j, j < k → (meetL (sd a j) (sd b j)).length ≤ 40)
    (fun o => (o = .brk (4, nil4L, meetS a b) ∧ Few (meetS a b)) ∨ (o = .ret (nil4L, false) ∧ ¬ Few (meetS a b))) (s := (0, nil4L, nil4L)) ⟨rfl, fun j h => by omega⟩
    (fun k s hk ⟨e, h⟩ => by
      subst e
      unfold impl_sides_meet_L0
      simp only [lt_true (show (k : Int) < 4 by omega), cond_true, sd_idx ha.1 hk, sd_idx hb.1 hk, Option.bind_some, impl_top, impl_meet (ha.2 k hk) (hb.2 k hk)]
      by_cases h40 : (meetL (sd a k) (sd b k)).length ≤ 40
      · rw [if_pos h40]
        simp only [cond_true, sd_idx (mk4_len _) hk, Option.bind_some, Int.toNat_natCast, mk4_set _ hk, W_succ (show k < 9223372036854775807 by omega)]
        refine .inl ⟨_, rfl, ?_, fun j hj => ?_⟩
        · refine congrArg (fun z => (((k + 1 : Nat) : Int), nil4L, z)) (mk4_congr fun j hj => ?_)
          by_cases e : j = k
          · subst e; rw [if_pos rfl, if_pos (by omega)]
          · rw [if_neg e]
            by_cases h1 : j < k
            · rw [if_pos h1, if_pos (by omega)]
            · rw [if_neg h1, if_neg (by omega)]
        · by_cases e : j = k
          · subst e; exact h40
          · exact h j (by omega)
      · rw [if_neg h40]
        exact .inr (.inl ⟨_, rfl, .inr ⟨rfl, fun hf => h40 (few_meet.1 hf k hk)⟩⟩))
    (fun s ⟨e, h⟩ => by
      subst e
      exact .inl ⟨_, rfl, .inl ⟨by
        unfold meetS
        refine congrArg (fun z => LR.brk (((4 : Nat) : Int), nil4L, z)) (mk4_congr fun j hj => by rw [if_pos hj]), few_meet.2 h⟩⟩)
  have ho' : loopF (impl_sides_meet_L0 a b) (((4 : Int)) - 0).toNat.succ (0, [([] : List Span), ([] : List Span), ([] : List Span), ([] : List Span)], [([] : List Span), ([] : List Span), ([] : List Span), ([] : List Span)]) = some o := ho
  rw [ho']
  rcases hq with ⟨rfl, h⟩ | ⟨rfl, h⟩
  · exact .inl ⟨h, rfl⟩
  · exact .inr ⟨h, rfl⟩
theorem impl_meetb {a b : Box} (ha : OkBox a) (hb : OkBox b) : ∃ m, impl_BoxMeet a b = some m ∧ (BV a ∧ BV b ∧ Few (meetS a.Sides b.Sides) → m = ⟨meetS a.Sides b.Sides⟩) ∧ (¬ (BV a ∧ BV b ∧ Few (meetS a.Sides b.Sides)) → m = ⟨[]⟩) := by
  unfold impl_BoxMeet
  obtain ⟨v, e1, hv⟩ := impl_box ha
  obtain ⟨w, e2, hw⟩ := impl_box hb
  rw [e1, Option.bind_some]
  cases v with
  | false => exact ⟨_, rfl, fun h => by simpa using hv.2 h.1, fun _ => rfl⟩
  | true =>
    rw [cond_true, e2, Option.bind_some]
    cases w with
    | false => exact ⟨_, rfl, fun h => by simpa using hw.2 h.2.1, fun _ => rfl⟩
    | true =>
      have hva := hv.1 rfl
      have hvb := hw.1 rfl
      have ha4 := (BV_iff.1 hva).1
      have hb4 := (BV_iff.1 hvb).1
      rw [cond_true, impl_sides hva.1, Option.bind_some, impl_sides hvb.1, Option.bind_some]
      rcases impl_meets ha4 hb4 with ⟨hf, e⟩ | ⟨hf, e⟩
      · rw [e, Option.bind_some]
        simp only [cond_true, impl_box4 (ha4.meet hb4).1 (ha4.meet hb4).okm, Option.bind_some]
        exact ⟨_, rfl, fun _ => rfl, fun h => absurd ⟨hva, hvb, hf⟩ h⟩
      · rw [e, Option.bind_some]
        exact ⟨_, rfl, fun h => absurd h.2.2 hf, fun _ => rfl⟩
theorem TsV.take {ts : List Test} (h : TsV ts) (k : Nat) : TsV (ts.take k) := ⟨fun t ht => h.1 t (List.mem_of_mem_take ht), by have := h.2; simp; omega⟩
theorem TsV.drop {ts : List Test} (h : TsV ts) (k : Nat) : TsV (ts.drop k) := ⟨fun t ht => h.1 t (List.mem_of_mem_drop ht), by have := h.2; simp; omega⟩
/-! Packets that lie in boxes. -/
theorem RV.take {bs : List Box} (h : RV bs) (k : Nat) : RV (bs.take k) := ⟨fun b hb => h.1 b (List.mem_of_mem_take hb), by have := h.2; simp; omega⟩
theorem RV.drop {bs : List Box} (h : RV bs) (k : Nat) : RV (bs.drop k) := ⟨fun b hb => h.1 b (List.mem_of_mem_drop hb), by have := h.2; simp; omega⟩
end Go.PF.F
