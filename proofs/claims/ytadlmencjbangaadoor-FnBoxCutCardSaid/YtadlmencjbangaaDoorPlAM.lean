/- Plain laws: what cutting means for points. -/
import Derived.Test.YtadlmencjbangaaDoorPlAL
namespace Go.PF.F
open Go Go.PF

/-- The point f lies in s. -/
def hasB (s : List (List Span)) (f : Nat → Int) : Prop := ∀ k, k < 4 → has (sd s k) (f k) = true
def Dj (p q : List (List Span)) : Prop := ∀ f, hasB p f → ¬ hasB q f
theorem Dj.symm {p q : List (List Span)} (h : Dj p q) : Dj q p := fun f hq hp => h f hp hq
theorem some_point {s : List (List Span)} (h : B4 s) (hn : ¬ emptyS s) : ∃ f, hasB s f := by
  have hx : ∀ k, ∃ v, k < 4 → has (sd s k) v = true := fun k => by
    by_cases hk : k < 4
    · obtain ⟨v, hv⟩ := some_has (h.2 k hk) (not_emptyS hn hk)
      exact ⟨v, fun _ => hv⟩
    · exact ⟨0, fun h => absurd h hk⟩
  obtain ⟨f, hf⟩ := Classical.axiomOfChoice hx
  exact ⟨f, fun k hk => hf k hk⟩
theorem not_empty_of {s : List (List Span)} {f : Nat → Int} (h : hasB s f) : ¬ emptyS s := fun ⟨k, hk, e⟩ => by
  have := h k hk
  rw [e] at this; cases this
theorem has_piece {a b : List (List Span)} (ha : B4 a) (hb : B4 b) {n k : Nat} (hk : k < 4) (v : Int) : has (sd (pieceK a b n) k) v = (if k < n then has (sd a k) v && has (sd b k) v else if k = n then has (sd a k) v && !has (sd b k) v else has (sd a k) v) := by
  rw [show sd (pieceK a b n) k = _ from sd_mk4 _ hk]
  split
  · rw [has_meetL]
  · split
    · rename_i h; subst h
      exact has_less (ha.2 k hk) (hb.2 k hk) v
    · rfl
theorem piece_has {a b : List (List Span)} (ha : B4 a) (hb : B4 b) {n : Nat} (hn : n < 4) {f : Nat → Int} : hasB (pieceK a b n) f ↔ hasB a f ∧ (∀ k, k < n → has (sd b k) (f k) = true) ∧ has (sd b n) (f n) = false := by
  constructor
  · intro h
    refine ⟨fun k hk => ?_, fun k hk => ?_, ?_⟩
    · have := h k hk
      rw [has_piece ha hb hk] at this
      split at this
      · exact (Bool.and_eq_true _ _ ▸ this).1
      · split at this
        · exact (Bool.and_eq_true _ _ ▸ this).1
        · exact this
    · have := h k (by omega)
      rw [has_piece ha hb (by omega), if_pos hk] at this
      exact (Bool.and_eq_true _ _ ▸ this).2
    · have := h n hn
      rw [has_piece ha hb hn, if_neg (by omega), if_pos rfl, Bool.and_eq_true] at this
      simpa using this.2
  · rintro ⟨h1, h2, h3⟩ k hk
    rw [has_piece ha hb hk]
    split
    · rename_i h; rw [h1 k hk, h2 k h]; rfl
    · split
      · rename_i h; subst h; rw [h1 k hk, h3]; rfl
      · exact h1 k hk
/-- A point of a lies in a piece just if it does not lie in b. -/
theorem cut_has {a b : List (List Span)} (ha : B4 a) (hb : B4 b) (f : Nat → Int) : (∃ p ∈ cutL a b, hasB p f) ↔ hasB a f ∧ ¬ hasB b f := by
  unfold cutL
  split
  · rename_i hm
    split
    · rename_i he
      exact ⟨fun ⟨p, hp, _⟩ => (by cases hp), fun h => absurd he (not_empty_of h.1)⟩
    · constructor
      · rintro ⟨p, hp, h⟩
        rw [List.mem_singleton.1 hp] at h
        refine ⟨h, fun hb' => ?_⟩
        obtain ⟨k, hk, e⟩ := hm
        have := (meet_nil_iff ha hb hk).1 e _ (h k hk)
        rw [hb' k hk] at this; cases this
      · exact fun h => ⟨a, by simp, h.1⟩
  · constructor
    · rintro ⟨p, hp, h⟩
      obtain ⟨k, hk, e⟩ := List.mem_filterMap.1 hp
      split at e
      · cases e
      · cases e
        have := (piece_has ha hb (List.mem_range.1 hk)).1 h
        exact ⟨this.1, fun hb' => by have h2 := hb' k (List.mem_range.1 hk); rw [this.2.2] at h2; cases h2⟩
    · rintro ⟨h1, h2⟩
      have hex : ∃ n, n < 4 ∧ has (sd b n) (f n) = false ∧ ∀ k, k < n → has (sd b k) (f k) = true := by
        have : ∀ m, m ≤ 4 → (∃ n, n < m ∧ has (sd b n) (f n) = false ∧ ∀ k, k < n → has (sd b k) (f k) = true) ∨ ∀ k, k < m → has (sd b k) (f k) = true := by
          intro m
          induction m with
          | zero => exact fun _ => .inr fun k hk => by omega
          | succ m ih =>
            intro hm
            rcases ih (by omega) with ⟨n, hn, h⟩ | h
            · exact .inl ⟨n, by omega, h⟩
            · cases hv : has (sd b m) (f m) with
              | false => exact .inl ⟨m, by omega, hv, h⟩
              | true =>
                refine .inr fun k hk => ?_
                rcases Nat.lt_or_ge k m with h' | h'
                · exact h k h'
                · obtain rfl : k = m := by omega
                  exact hv
        rcases this 4 (Nat.le_refl _) with h | h
        · exact h
        · exact absurd h h2
      obtain ⟨n, hn, h3, h4⟩ := hex
      have hp : hasB (pieceK a b n) f := (piece_has ha hb hn).2 ⟨h1, h4, h3⟩
      have hne : lessK a b n ≠ [] := fun e => by
        have := hp n hn
        rw [show sd (pieceK a b n) n = _ from sd_mk4 _ hn, if_neg (by omega), if_pos rfl, e] at this
        cases this
      exact ⟨pieceK a b n, List.mem_filterMap.2 ⟨n, List.mem_range.2 hn, by rw [if_neg hne]⟩, hp⟩
theorem filterMap_pairwise {α β : Type} {R : β → β → Prop} {g : α → Option β} {S : α → α → Prop} (hg : ∀ x y u v, S x y → g x = some u → g y = some v → R u v) : ∀ {xs : List α}, xs.Pairwise S → (xs.filterMap g).Pairwise R := by
  intro xs h
  rw [List.pairwise_filterMap]
  exact h.imp fun hs u hu v hv => hg _ _ u v hs hu hv
/-- The pieces have no point in common. -/
theorem cut_dj {a b : List (List Span)} (ha : B4 a) (hb : B4 b) : (cutL a b).Pairwise Dj := by
  unfold cutL
  split
  · split <;> simp
  · unfold cutN
    refine filterMap_pairwise (S := fun x y => x < y ∧ y < 4) ?_ ?_
    · rintro x y u v ⟨hxy, hy⟩ hu hv
      split at hu
      · cases hu
      · split at hv
        · cases hv
        · cases hu; cases hv
          intro f h1 h2
          have p1 := (piece_has ha hb (show x < 4 by omega)).1 h1
          have p2 := (piece_has ha hb hy).1 h2
          have := p2.2.1 x hxy
          rw [p1.2.2] at this; cases this
    · rw [List.pairwise_iff_getElem]
      intro i j hi hj hij
      simp at hi hj ⊢
      omega
theorem cut_ne {a b : List (List Span)} (ha : B4 a) (hb : B4 b) : ∀ p ∈ cutL a b, ¬ emptyS p := by
  intro p hp
  unfold cutL at hp
  split at hp
  · split at hp
    · cases hp
    · rename_i h; rw [List.mem_singleton.1 hp]; exact h
  · rename_i hm
    obtain ⟨n, hn, e⟩ := List.mem_filterMap.1 hp
    have hn := List.mem_range.1 hn
    split at e
    · cases e
    · rename_i hz
      cases e
      rintro ⟨k, hk, e⟩
      rw [show sd (pieceK a b n) k = _ from sd_mk4 _ hk] at e
      have hmk : meetL (sd a k) (sd b k) ≠ [] := fun h => hm ⟨k, hk, by rw [show sd (meetS a b) k = _ from sd_mk4 _ hk]; exact h⟩
      split at e
      · exact hmk e
      · split at e
        · exact hz e
        · exact hmk (by rw [e]; rfl)
end Go.PF.F
