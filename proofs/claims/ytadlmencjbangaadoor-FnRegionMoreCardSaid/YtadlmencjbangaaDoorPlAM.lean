/- Plain laws: what cutting means for points. -/
import Derived.Test.YtadlmencjbangaaDoorPlAL
namespace Go.PF.F
open Go Go.PF

/-- The point f lies in s. -/
def hasB (s : List (List Span)) (f : Nat → Int) : Prop := ∀ k, k < 4 → has (sd s k) (f k) = true
def Dj (p q : List (List Span)) : Prop := ∀ f, hasB p f → ¬ hasB q f
theorem Dj.symm {p q : List (List Span)} (h : Dj p q) : Dj q p := fun f hq hp => h f hp hq
theorem not_empty_of {s : List (List Span)} {f : Nat → Int} (h : hasB s f) : ¬ emptyS s := fun ⟨k, hk, e⟩ => by
  have := h k hk
  rw [e] at this; cases this
theorem has_piece {a b : List (List Span)} (ha : B4 a) (hb : B4 b) {n k : Nat} (hk : k < 4) (v : Int) : has (sd (pieceK a b n) k) v = (if k < n then has (sd a k) v && has (sd b k) v else if k = n then has (sd a k) v && !has (sd b k) v else has (sd a k) v) := by
  rw [show sd (pieceK a b n) k = _ from sd_mk4 _ hk]
  split
  · rw [has_meetL]
  · split
    · rename_i h; subst h
      exact has_less (ha.2 k hk) (hb.2 k hk) v
    · rfl
theorem piece_has {a b : List (List Span)} (ha : B4 a) (hb : B4 b) {n : Nat} (hn : n < 4) {f : Nat → Int} : hasB (pieceK a b n) f ↔ hasB a f ∧ (∀ k, k < n → has (sd b k) (f k) = true) ∧ has (sd b n) (f n) = false := by
  constructor
  · intro h
    refine ⟨fun k hk => ?_, fun k hk => ?_, ?_⟩
    · have := h k hk
      rw [has_piece ha hb hk] at this
      split at this
      · exact (Bool.and_eq_true _ _ ▸ this).1
      · split at this
        · exact (Bool.and_eq_true _ _ ▸ this).1
        · exact this
    · have := h k (by omega)
      rw [has_piece ha hb (by omega), if_pos hk] at this
      exact (Bool.and_eq_true _ _ ▸ this).2
    · have := h n hn
      rw [has_piece ha hb hn, if_neg (by omega), if_pos rfl, Bool.and_eq_true] at this
      simpa using this.2
  · rintro ⟨h1, h2, h3⟩ k hk
    rw [has_piece ha hb hk]
    split
    · rename_i h; rw [h1 k hk, h2 k h]; rfl
    · split
      · rename_i h; subst h; rw [h1 k hk, h3]; rfl
      · exact h1 k hk
/-- A point of a lies in a piece just if it does not lie in b. -/
theorem cut_has {a b : List (List Span)} (ha : B4 a) (hb : B4 b) (f : Nat → Int) : (∃ p ∈ cutL a b, hasB p f) ↔ hasB a f ∧ ¬ hasB b f := by
  unfold cutL
  split
  · rename_i hm
    split
    · rename_i he
      exact ⟨fun ⟨p, hp, _⟩ => (by cases hp), fun h => absurd he (not_empty_of h.1)⟩
    · constructor
      · rintro ⟨p, hp, h⟩
        rw [List.mem_singleton.1 hp] at h
        refine ⟨h, fun hb' => ?_⟩
        obtain ⟨k, hk, e⟩ := hm
        have := (meet_nil_iff ha hb hk).1 e _ (h k hk)
        rw [hb' k hk] at this; cases this
      · exact fun h => ⟨a, by simp, h.1⟩
  · constructor
    · rintro ⟨p, hp, h⟩
      obtain ⟨k, hk, e⟩ := List.mem_filterMap.1 hp
      split at e
      · cases e
      · cases e
        have := (piece_has ha hb (List.mem_range.1 hk)).1 h
        exact ⟨this.1, fun hb' => by have h2 := hb' k (List.mem_range.1 hk); rw [this.2.2] at h2; cases h2⟩
    · rintro ⟨h1, h2⟩
      have hex : ∃ n, n < 4 ∧ has (sd b n) (f n) = false ∧ ∀ k, k < n → has (sd b k) (f k) = true := by
        have : ∀ m, m ≤ 4 → (∃ n, n < m ∧ has (sd b n) (f n) = false ∧ ∀ k, k < n → has (sd b k) (f k) = true) ∨ ∀ k, k < m → has (sd b k) (f k) = true := by
          intro m
          induction m with
          | zero => exact fun _ => .inr fun k hk => by omega
          | succ m ih =>
            intro hm
            rcases ih (by omega) with ⟨n, hn, h⟩ | h
            · exact .inl ⟨n, by omega, h⟩
            · cases hv : has (sd b m) (f m) with
              | false => exact .inl ⟨m, by omega, hv, h⟩
              | true =>
                refine .inr fun k hk => ?_
                rcases Nat.lt_or_ge k m with h' | h'
                · exact h k h'
                · obtain rfl : k = m := by omega
                  exact hv
        rcases this 4 (Nat.le_refl _) with h | h
        · exact h
        · exact absurd h h2
      obtain ⟨n, hn, h3, h4⟩ := hex
      have hp : hasB (pieceK a b n) f := (piece_has ha hb hn).2 ⟨h1, h4, h3⟩
      have hne : lessK a b n ≠ [] := fun e => by
        have := hp n hn
        rw [show sd (pieceK a b n) n = _ from sd_mk4 _ hn, if_neg (by omega), if_pos rfl, e] at this
        cases this
      exact ⟨pieceK a b n, List.mem_filterMap.2 ⟨n, List.mem_range.2 hn, by rw [if_neg hne]⟩, hp⟩
/-- What lies in none of the boxes bs. -/
theorem next_has {rest : List (List (List Span))} {b : List (List Span)} (h4 : ∀ p ∈ rest, B4 p) (hb : B4 b) (f : Nat → Int) : (∃ p ∈ nextL rest b, hasB p f) ↔ (∃ p ∈ rest, hasB p f) ∧ ¬ hasB b f := by
  constructor
  · rintro ⟨p, hp, h⟩
    obtain ⟨a, ha, hp⟩ := List.mem_flatMap.1 hp
    have := (cut_has (h4 a ha) hb f).1 ⟨p, hp, h⟩
    exact ⟨⟨a, ha, this.1⟩, this.2⟩
  · rintro ⟨⟨a, ha, h⟩, hn⟩
    obtain ⟨p, hp, h⟩ := (cut_has (h4 a ha) hb f).2 ⟨h, hn⟩
    exact ⟨p, List.mem_flatMap.2 ⟨a, ha, hp⟩, h⟩
theorem lessA_has : ∀ {bs rest r : List (List (List Span))}, (∀ p ∈ rest, B4 p) → (∀ b ∈ bs, B4 b) → lessA rest bs = some r → ∀ f, (∃ p ∈ r, hasB p f) ↔ (∃ p ∈ rest, hasB p f) ∧ ∀ b ∈ bs, ¬ hasB b f
  | [], rest, r, _, _, h, f => by
    rw [lessA] at h
    obtain rfl := Option.some.inj h
    simp
  | b :: bs, rest, r, h4, hb, h, f => by
    by_cases hk : OkL (nextL rest b)
    · rw [lessA_yes hk] at h
      rw [lessA_has (nextL_B4 h4 (hb b (by simp))) (fun x hx => hb x (by simp [hx])) h f, next_has h4 (hb b (by simp)) f]
      simp only [List.forall_mem_cons, and_assoc]
    · rw [lessA_no hk] at h; cases h
/-- A shorter list leaves an answer too. -/
theorem lessA_app : ∀ {bs cs rest r : List (List (List Span))}, lessA rest (bs ++ cs) = some r → ∃ m, lessA rest bs = some m ∧ lessA m cs = some r
  | [], cs, rest, r, h => ⟨rest, by rw [lessA], h⟩
  | b :: bs, cs, rest, r, h => by
    rw [List.cons_append] at h
    by_cases hk : OkL (nextL rest b)
    · rw [lessA_yes hk] at h ⊢
      exact lessA_app h
    · rw [lessA_no hk] at h; cases h
end Go.PF.F
