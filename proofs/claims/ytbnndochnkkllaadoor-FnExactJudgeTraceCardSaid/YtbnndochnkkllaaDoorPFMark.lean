/- Data whose numbers may have been written over: the shapes stay; no condition. -/
import Derived.Test.YtbnndochnkkllaaDoorPFTypes
namespace Go.PF
open Go Go.RowKit

/-- A cell after a number or a truth value was written over one. -/
def Kd (u v : Value) : Prop := u = v ∨ (∃ i j, u = .int .i64 i ∧ v = .int .i64 j) ∨ ∃ a b, u = .bool a ∧ v = .bool b
theorem Kd.refl (u : Value) : Kd u u := .inl rfl
theorem Kd.trans {u v x : Value} (h : Kd u v) (k : Kd v x) : Kd u x := by
  rcases h with rfl | ⟨i, j, rfl, rfl⟩ | ⟨a, b, rfl, rfl⟩
  · exact k
  · rcases k with rfl | ⟨i', j', e, rfl⟩ | ⟨a, b, e, _⟩
    · exact .inr (.inl ⟨i, j, rfl, rfl⟩)
    · exact .inr (.inl ⟨i, j', rfl, rfl⟩)
    · cases e
  · rcases k with rfl | ⟨i', j', e, _⟩ | ⟨a', b', e, rfl⟩
    · exact .inr (.inr ⟨a, b, rfl, rfl⟩)
    · cases e
    · exact .inr (.inr ⟨a, b', rfl, rfl⟩)
def KdL : List Value → List Value → Prop
  | [], [] => True
  | u :: us, v :: vs => Kd u v ∧ KdL us vs
  | _, _ => False
theorem KdL.split : ∀ {us ws vs : List Value}, KdL (us ++ ws) vs → ∃ a b, vs = a ++ b ∧ KdL us a ∧ KdL ws b
  | [], _, vs, h => ⟨[], vs, rfl, trivial, h⟩
  | u :: us, ws, [], h => h.elim
  | u :: us, ws, v :: vs, h => by
    obtain ⟨a, b, rfl, h1, h2⟩ := KdL.split h.2
    exact ⟨v :: a, b, rfl, ⟨h.1, h1⟩, h2⟩
/-- w' is w but for numbers and truth values that were written over such. -/
structure Kin (w w' : World) : Prop where
  size : w.heap.size ≤ w'.heap.size
  cell : ∀ p u, w.cell? p = some u → ∃ u', w'.cell? p = some u' ∧ Kd u u'
theorem Kin.refl (w : World) : Kin w w := ⟨Nat.le_refl _, fun _ u h => ⟨u, h, .refl u⟩⟩
theorem Kin.trans {a b c : World} (h : Kin a b) (k : Kin b c) : Kin a c := ⟨Nat.le_trans h.size k.size, fun p u hu => by
  obtain ⟨v, hv, h1⟩ := h.cell p u hu
  obtain ⟨x, hx, h2⟩ := k.cell p v hv
  exact ⟨x, hx, h1.trans h2⟩⟩
theorem Kin.cells {w w' : World} (h : Kin w w') {p : Addr} : ∀ {us : List Value} (o : Nat), (∀ j u, us[j]? = some u → w.cell? (p.add (o + j)) = some u) → ∃ us', KdL us us' ∧ ∀ j u, us'[j]? = some u → w'.cell? (p.add (o + j)) = some u
  | [], _, _ => ⟨[], trivial, fun j u hu => by simp at hu⟩
  | u :: us, o, hc => by
    obtain ⟨v, hv, hk⟩ := h.cell _ u (hc 0 u rfl)
    obtain ⟨us', h1, h2⟩ := Kin.cells h (us := us) (o + 1) (fun j x hx => by
      have := hc (j + 1) x (by simpa using hx)
      rw [show o + 1 + j = o + (j + 1) from by omega]; exact this)
    refine ⟨v :: us', ⟨hk, h1⟩, fun j x hx => ?_⟩
    cases j with
    | zero =>
      simp only [List.getElem?_cons_zero, Option.some.injEq] at hx
      subst hx; exact hv
    | succ j =>
      have := h2 j x (by simpa using hx)
      rw [show o + (j + 1) = o + 1 + j from by omega]; exact this
/-- The data of type R keep their shape (Sh) when their numbers are written over. -/
def Kn {α : Type} (R : RTy α) (Sh : α → α → Prop) : Prop := ∀ {w w' : World} {M : Nat → Prop} {x : α} {vs vs' : List Value}, R.rep w M x vs → Kin w w' → KdL vs vs' → ∃ y, Sh x y ∧ R.rep w' M y vs'
def ShL {α : Type} (Sh : α → α → Prop) : List α → List α → Prop
  | [], [] => True
  | x :: xs, y :: ys => Sh x y ∧ ShL Sh xs ys
  | _, _ => False
theorem ShL.len {α : Type} {Sh : α → α → Prop} : ∀ {xs ys : List α}, ShL Sh xs ys → xs.length = ys.length
  | [], [], _ => rfl
  | _ :: _, _ :: _, h => by rw [List.length_cons, List.length_cons, ShL.len h.2]
  | [], _ :: _, h => h.elim
  | _ :: _, [], h => h.elim
theorem ShL.nth {α : Type} {Sh : α → α → Prop} : ∀ {xs ys : List α}, ShL Sh xs ys → ∀ (i : Nat) (y : α), ys[i]? = some y → ∃ x, xs[i]? = some x ∧ Sh x y
  | [], [], _, i, y, h => by simp at h
  | x :: _, _ :: _, h, 0, y, hy => by
    simp only [List.getElem?_cons_zero, Option.some.injEq] at hy
    subst hy; exact ⟨x, rfl, h.1⟩
  | _ :: _, _ :: _, h, i + 1, y, hy => by
    obtain ⟨x, hx, hs⟩ := ShL.nth h.2 i y (by simpa using hy)
    exact ⟨x, by simpa using hx, hs⟩
  | [], _ :: _, h, _, _, _ => h.elim
  | _ :: _, [], h, _, _, _ => h.elim
theorem Kn.pair {α β : Type} {R : RTy α} {S : RTy β} {A : α → α → Prop} {B : β → β → Prop} (hR : Kn R A) (hS : Kn S B) : Kn (RPair R S) fun x y => A x.1 y.1 ∧ B x.2 y.2 := by
  rintro w w' M x vs vs' ⟨us, ws, rfl, h1, h2⟩ hw hk
  obtain ⟨a, b, rfl, k1, k2⟩ := hk.split
  obtain ⟨y, hy, r1⟩ := hR h1 hw k1
  obtain ⟨z, hz, r2⟩ := hS h2 hw k2
  exact ⟨(y, z), ⟨hy, hz⟩, a, b, rfl, r1, r2⟩
theorem Kn.iso {α β : Type} {R : RTy β} {A : β → β → Prop} (h : Kn R A) (f : α → β) (g : β → α) (hg : ∀ y, f (g y) = y) : Kn (RIso R f) fun x y => A (f x) (f y) := by
  intro w w' M x vs vs' hr hw hk
  obtain ⟨y, hy, r⟩ := h (show R.rep w M (f x) vs from hr) hw hk
  exact ⟨g y, show A (f x) (f (g y)) by rw [hg]; exact hy, show R.rep w' M (f (g y)) vs' by rw [hg]; exact r⟩
theorem Kn.all {α : Type} {R : RTy α} {A : α → α → Prop} (h : Kn R A) {w w' : World} {M : Nat → Prop} (hw : Kin w w') : ∀ {xs : List α} {vs vs' : List Value}, RepAll R w M xs vs → KdL vs vs' → ∃ ys, ShL A xs ys ∧ RepAll R w' M ys vs'
  | [], vs, vs', hr, hk => by
    obtain rfl : vs = [] := hr
    match vs', hk with
    | [], _ => exact ⟨[], trivial, rfl⟩
  | x :: xs, vs, vs', hr, hk => by
    obtain ⟨us, ws, rfl, h1, h2⟩ := hr
    obtain ⟨a, b, rfl, k1, k2⟩ := hk.split
    obtain ⟨y, hy, r1⟩ := h h1 hw k1
    obtain ⟨ys, hys, r2⟩ := Kn.all h hw h2 k2
    exact ⟨y :: ys, ⟨hy, hys⟩, a, b, rfl, r1, r2⟩
theorem Kn.slice {α : Type} {R : RTy α} {A : α → α → Prop} (h : Kn R A) : Kn (RSlice R) (ShL A) := by
  rintro w w' M xs vs vs' ⟨B, cap, rfl, h1, h2, h3⟩ hw hk
  match vs', hk with
  | [v], hk =>
    rcases hk.1 with rfl | ⟨i, j, e, _⟩ | ⟨a, b, e, _⟩
    · cases xs with
      | nil => exact ⟨[], trivial, B, cap, rfl, h1, h2, fun h => absurd rfl h⟩
      | cons x xs =>
        obtain ⟨p, rfl, hm, hb, us, hr, hc⟩ := h3 (by simp)
        obtain ⟨us', hk', hc'⟩ := hw.cells (p := p) 0 (us := us) (fun j u hu => by rw [Nat.zero_add]; exact hc j u hu)
        obtain ⟨ys, hys, r⟩ := h.all hw hr hk'
        have hl := hys.len
        refine ⟨ys, hys, some p, cap, by rw [hl], by omega, h2, fun _ => ⟨p, rfl, hm, Nat.lt_of_lt_of_le hb hw.size, us', r, fun j u hu => by have := hc' j u hu; rwa [Nat.zero_add] at this⟩⟩
    · cases e
    · cases e
theorem KdL.refl : ∀ vs : List Value, KdL vs vs
  | [] => trivial
  | v :: vs => ⟨.refl v, KdL.refl vs⟩
theorem Kn.vrep {α : Type} {R : RTy α} {A : α → α → Prop} (h : Kn R A) {w w' : World} {M : Nat → Prop} {x : α} {v : Value} (hv : VRep R w M x v) (hw : Kin w w') : ∃ y, A x y ∧ VRep R w' M y v := by
  obtain ⟨vs, hr, rfl⟩ := hv
  obtain ⟨y, hy, r⟩ := h hr hw (KdL.refl vs)
  exact ⟨y, hy, vs, r, rfl⟩
end Go.PF
