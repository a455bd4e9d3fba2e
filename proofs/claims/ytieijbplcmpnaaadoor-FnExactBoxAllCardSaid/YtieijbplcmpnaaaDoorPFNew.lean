/- Variables that a drawn order makes; data without memory; no condition. -/
import Derived.Test.YtieijbplcmpnaaaDoorPFLate
import Derived.Test.YtieijbplcmpnaaaDoorPFTypes
namespace Go.PF
open Go Go.RowKit

/-- A variable that the region made. -/
def PNew (w0 : World) (T : TypeId) (cs : Array Value) : Value → World → Prop := fun v w => ∃ b, v = .pointer (some ⟨b, 0, none⟩) ∧ w0.heap.size ≤ b ∧ Own w b T cs
theorem PNew.mono (w0 : World) (T : TypeId) (cs : Array Value) : Mono (PNew w0 T cs) := fun _ _ _ hb ⟨b, e, h, ho⟩ => ⟨b, e, h, ho.no hb⟩
theorem PNew.monoY {g : Nat} {w0 : World} (hg : g < w0.heap.size) (T : TypeId) (cs : Array Value) : MonoY (One g) (PNew w0 T cs) := fun _ _ _ hb ⟨b, e, h, ho⟩ => ⟨b, e, h, ho.go hb fun hbg => by rw [show b = g from hbg] at h; omega⟩
theorem nil4 : ∀ i (h : i < (#[.slice none 0 0, .slice none 0 0, .slice none 0 0, .slice none 0 0] : Array Value).size), ∃ A n m, (#[.slice none 0 0, .slice none 0 0, .slice none 0 0, .slice none 0 0] : Array Value)[i] = .slice A n m
  | 0, _ => ⟨_, _, _, rfl⟩
  | 1, _ => ⟨_, _, _, rfl⟩
  | 2, _ => ⟨_, _, _, rfl⟩
  | 3, _ => ⟨_, _, _, rfl⟩
/-- Data without memory. -/
theorem VRep.leaf {α : Type} {R : RTy α} {w : World} {M M' : Nat → Prop} {x : α} {v : Value} (hR : ∀ w M M' x vs, R.rep w M x vs → R.rep w M' x vs) (h : VRep R w M x v) : VRep R w M' x v :=
  let ⟨vs, hr, e⟩ := h
  ⟨vs, hR _ _ _ _ _ hr, e⟩
theorem span_leaf (w : World) (M M' : Nat → Prop) (x : Span) (vs : List Value) (h : RSpan.rep w M x vs) : RSpan.rep w M' x vs := h
theorem spans_leaf {w : World} {M M' : Nat → Prop} : ∀ {xs : List Span} {vs : List Value}, RepAll RSpan w M xs vs → RepAll RSpan w M' xs vs
  | [], _, h => h
  | _ :: _, _, ⟨us, ws, e, h1, h2⟩ => ⟨us, ws, e, h1, spans_leaf h2⟩
/-- A variable of ranges' lists is no list of ranges. -/
theorem row_free {w : World} {M : Nat → Prop} {xs : List Span} {vs : List Value} {b : Nat} {T : TypeId} {cs : Array Value} (ho : Own w b T cs) (hc : ∀ i (h : i < cs.size), ∃ A n m, cs[i] = .slice A n m)
    (h : (RSlice RSpan).rep w M xs vs) : (RSlice RSpan).rep w (Add b M) xs vs := by
  obtain ⟨A, cap, e, h1, h2, h3⟩ := h
  refine ⟨A, cap, e, h1, h2, fun hx => ?_⟩
  obtain ⟨p, e2, hm, hb, us, hr, hcell⟩ := h3 hx
  refine ⟨p, e2, ?_, hb, us, spans_leaf hr, hcell⟩
  rintro (hpb | hpm)
  · cases xs with
    | nil => exact hx rfl
    | cons s t =>
      obtain ⟨u1, u2, rfl, hs, _⟩ := hr
      obtain ⟨a1, a2, rfl, ha1, ha2⟩ := hs
      have ha1 : a1 = [.int .i64 s.Lo] := ha1
      subst ha1
      have h0 := hcell 0 _ (by simp; rfl)
      obtain ⟨pb, po, ps⟩ := p
      simp only at hpb
      subst hpb
      unfold Own at ho
      simp only [Addr.add, if_true, World.cell?, ho] at h0
      split at h0
      all_goals first
        | cases h0; done
        | (obtain ⟨hlt, e4⟩ := Array.getElem?_eq_some_iff.1 h0
           obtain ⟨A', n', m', e5⟩ := hc _ hlt
           rw [e5] at e4
           cases e4)
  · exact hm hpm
theorem sides_free {w : World} {M : Nat → Prop} {n : Nat} {x : List (List Span)} {v : Value} {b : Nat} {T : TypeId} {cs : Array Value} (ho : Own w b T cs) (hc : ∀ i (h : i < cs.size), ∃ A n m, cs[i] = .slice A n m)
    (h : VRep (RArr n (RSlice RSpan)) w M x v) : VRep (RArr n (RSlice RSpan)) w (Add b M) x v := by
  obtain ⟨vs, ⟨hn, hr⟩, e⟩ := h
  refine ⟨vs, ⟨hn, ?_⟩, e⟩
  clear hn e
  induction x generalizing vs with
  | nil => exact hr
  | cons y t ih =>
    obtain ⟨us, ws, e2, h1, h2⟩ := hr
    exact ⟨us, ws, e2, row_free ho hc h1, ih _ h2⟩
end Go.PF
