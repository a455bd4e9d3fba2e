/- Plain laws: RegionLess, RegionMore, RegionOrder. -/
import Derived.Test.YtadlmencjbangaaDoorPlAO
namespace Go.PF.F
open Go Go.PF

theorem maps_ok {r : List (List (List Span))} (hr : ∀ p ∈ r, B4 p ∧ Few p) : ∀ x ∈ r.map Box.mk, OkBox x := fun x hx => by
  obtain ⟨p, hp, rfl⟩ := List.mem_map.1 hx
  exact B4.ok (b := ⟨p⟩) (hr p hp).1
open Classical in
/-- Does the point of the packet lie in s. -/
noncomputable def inP (p : Packet) (s : List (List Span)) : Bool := decide (PV p ∧ hasB s (pf p))
theorem inP_iff {p : Packet} {s : List (List Span)} : inP p s = true ↔ PV p ∧ hasB s (pf p) := by unfold inP; simp
theorem inP_is {p : Packet} {s : List (List Span)} (h : B4 s) (hf : Few s) : impl_BoxHas ⟨s⟩ p = some (inP p s) := by
  obtain ⟨u, eu, hu⟩ := impl_has (B4.ok (b := ⟨s⟩) h) p
  rw [eu]
  congr 1
  rw [Bool.eq_iff_iff, hu, inP_iff, BH_hasB h.1]
  exact ⟨fun x => ⟨x.2.1, x.2.2⟩, fun x => ⟨BV_iff.2 ⟨h, hf⟩, x.1, x.2⟩⟩
theorem not_empty_is {s : List (List Span)} (h : B4 s) (hn : ¬ emptyS s) : impl_BoxEmpty ⟨s⟩ = some false := by
  obtain ⟨u, eu, hu⟩ := impl_emptyb (B4.ok (b := ⟨s⟩) h)
  cases u with
  | false => exact eu
  | true => exact absurd (hu.1 rfl).2 hn
theorem countP_snoc {α : Type} {q : α → Bool} {xs : List α} {k : Nat} (h : k < xs.length) : (xs.take (k + 1)).countP q = (xs.take k).countP q + (if q xs[k] then 1 else 0) := by
  rw [take_snoc (List.getElem?_eq_getElem h), List.countP_append]
  simp
theorem count_pos {r : List (List (List Span))} {p : Packet} (hd : r.Pairwise Dj) : r.countP (inP p) ≤ 1 ∧ (r.countP (inP p) = 1 ↔ PV p ∧ ∃ s ∈ r, hasB s (pf p)) := by
  have h1 := count_dj hd (inP p) (f := pf p) (fun s _ h => (inP_iff.1 h).2)
  refine ⟨h1, ?_⟩
  have h2 : 0 < r.countP (inP p) ↔ ∃ s ∈ r, inP p s = true := List.countP_pos_iff
  constructor
  · intro h
    obtain ⟨s, hs, hp⟩ := h2.1 (by omega)
    exact ⟨(inP_iff.1 hp).1, s, hs, (inP_iff.1 hp).2⟩
  · rintro ⟨hp, s, hs, hh⟩
    have := h2.2 ⟨s, hs, inP_iff.2 ⟨hp, hh⟩⟩
    omega
theorem one_eq {n : Nat} {b : Bool} (h : n = 1 ↔ b = true) : (((n : Nat) : Int) == 1) = b := by
  rw [Bool.eq_iff_iff, ← h]
  simp
  omega
end Go.PF.F
