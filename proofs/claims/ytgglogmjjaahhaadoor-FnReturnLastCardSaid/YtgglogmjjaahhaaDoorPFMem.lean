/- Data of Go types in a world that only grows; no condition. -/
import Derived.Test.YtgglogmjjaahhaaDoorPFBase
import Derived.Maps.AppendAt
import Derived.Deep.Slices
namespace Go.PF
open Go Go.RowKit

/-- (w', M') stands later than (w, M): what was there and was not in M is as it was; nothing old has come into M. -/
structure Le (w : World) (M : Nat → Prop) (w' : World) (M' : Nat → Prop) : Prop where
  size : w.heap.size ≤ w'.heap.size
  keep : ∀ b, b < w.heap.size → ¬ M b → w'.heap[b]? = w.heap[b]?
  old : ∀ b, b < w.heap.size → M' b → M b
theorem Le.refl (w : World) (M : Nat → Prop) : Le w M w M := ⟨Nat.le_refl _, fun _ _ _ => rfl, fun _ _ h => h⟩
theorem Le.trans {w w' w'' : World} {M M' M'' : Nat → Prop} (h : Le w M w' M') (k : Le w' M' w'' M'') : Le w M w'' M'' :=
  ⟨Nat.le_trans h.size k.size, fun b hb hm => (k.keep b (Nat.lt_of_lt_of_le hb h.size) (fun e => hm (h.old b hb e))).trans (h.keep b hb hm),
   fun b hb hm => h.old b hb (k.old b (Nat.lt_of_lt_of_le hb h.size) hm)⟩
theorem Le.cell {w w' : World} {M M' : Nat → Prop} (h : Le w M w' M') {p : Addr} (hp : p.block < w.heap.size) (hm : ¬ M p.block) : w'.cell? p = w.cell? p :=
  World.cell?_of_block (w := w) (h.keep p.block hp hm)
theorem Le.not {w w' : World} {M M' : Nat → Prop} (h : Le w M w' M') {b : Nat} (hp : b < w.heap.size) (hm : ¬ M b) : ¬ M' b := fun e => hm (h.old b hp e)

structure RTy (α : Type) where
  size : Nat
  agg : Bool
  rep : World → (Nat → Prop) → α → List Value → Prop
  len : ∀ {w M x vs}, rep w M x vs → vs.length = size
  flat : ∀ {w M x vs}, rep w M x vs → ∀ u ∈ vs, u.oneCell' = true
  one : agg = false → size = 1
  mono : ∀ {w M w' M' x vs}, Le w M w' M' → rep w M x vs → rep w' M' x vs
def RTy.pack {α : Type} (R : RTy α) (vs : List Value) : Value := bif R.agg then .agg vs.toArray else vs.headD undef

/-- The value v is the datum x. -/
def VRep {α : Type} (R : RTy α) (w : World) (M : Nat → Prop) (x : α) (v : Value) : Prop := ∃ vs, R.rep w M x vs ∧ v = R.pack vs
/-- At p lie the cells of the datum x. -/
def ARep {α : Type} (R : RTy α) (w : World) (M : Nat → Prop) (x : α) (p : Addr) : Prop :=
  ¬ M p.block ∧ p.block < w.heap.size ∧ ∃ vs, R.rep w M x vs ∧ ∀ j u, vs[j]? = some u → w.cell? (p.add j) = some u

section
variable {α β : Type} {R : RTy α} {S : RTy β} {w w' : World} {M M' : Nat → Prop} {x : α} {v : Value} {p : Addr}
theorem VRep.mono (h : Le w M w' M') (hv : VRep R w M x v) : VRep R w' M' x v := let ⟨vs, hr, e⟩ := hv; ⟨vs, R.mono h hr, e⟩
theorem block_add (a : Addr) (n : Nat) : (a.add n).block = a.block := by unfold Addr.add; split <;> rfl
theorem ARep.mono (h : Le w M w' M') (hv : ARep R w M x p) : ARep R w' M' x p := by
  obtain ⟨hm, hb, vs, hr, hc⟩ := hv
  exact ⟨h.not hb hm, Nat.lt_of_lt_of_le hb h.size, vs, R.mono h hr, fun j u hu => (h.cell (by rw [block_add]; exact hb) (by rw [block_add]; exact hm)).trans (hc j u hu)⟩
theorem oneCell_cells {u : Value} (h : u.oneCell' = true) : u.cells = #[u] := by cases u <;> first | rfl | cases h
theorem pack_cells {vs : List Value} (hr : R.rep w M x vs) : (R.pack vs).cells = vs.toArray := by
  unfold RTy.pack
  cases ha : R.agg
  · have h1 := R.one ha
    have hl := R.len hr
    rw [h1] at hl
    match vs, hl with
    | [u], _ => simpa using oneCell_cells (R.flat hr u (by simp))
  · rfl
theorem VRep.cells (hv : VRep R w M x v) : R.rep w M x v.cells.toList := by
  obtain ⟨vs, hr, rfl⟩ := hv
  rw [pack_cells hr]; exact hr
end

/-! ## The Go types -/
def RInt : RTy Int where
  size := 1
  agg := false
  rep _ _ x vs := vs = [.int .i64 x]
  len h := by rw [h]; rfl
  flat h := by rw [h]; simp [Value.oneCell']
  one _ := rfl
  mono _ h := h
def RU8 : RTy Int where
  size := 1
  agg := false
  rep _ _ x vs := vs = [.int .u8 x]
  len h := by rw [h]; rfl
  flat h := by rw [h]; simp [Value.oneCell']
  one _ := rfl
  mono _ h := h
def RBool : RTy Bool where
  size := 1
  agg := false
  rep _ _ x vs := vs = [.bool x]
  len h := by rw [h]; rfl
  flat h := by rw [h]; simp [Value.oneCell']
  one _ := rfl
  mono _ h := h
def RStr : RTy ByteArray where
  size := 1
  agg := false
  rep _ _ x vs := vs = [.string x]
  len h := by rw [h]; rfl
  flat h := by rw [h]; simp [Value.oneCell']
  one _ := rfl
  mono _ h := h
def RPair {α β : Type} (R : RTy α) (S : RTy β) : RTy (α × β) where
  size := R.size + S.size
  agg := true
  rep w M x vs := ∃ us ws, vs = us ++ ws ∧ R.rep w M x.1 us ∧ S.rep w M x.2 ws
  len := by rintro w M x vs ⟨us, ws, rfl, h1, h2⟩; rw [List.length_append, R.len h1, S.len h2]
  flat := by
    rintro w M x vs ⟨us, ws, rfl, h1, h2⟩ u hu
    rcases List.mem_append.1 hu with h | h
    · exact R.flat h1 u h
    · exact S.flat h2 u h
  one h := by cases h
  mono := by rintro w M w' M' x vs hl ⟨us, ws, rfl, h1, h2⟩; exact ⟨us, ws, rfl, R.mono hl h1, S.mono hl h2⟩
/-- A struct: R at f x. -/
def RIso {α β : Type} (R : RTy β) (f : α → β) : RTy α where
  size := R.size
  agg := true
  rep w M x vs := R.rep w M (f x) vs
  len h := R.len h
  flat h := R.flat h
  one h := by cases h
  mono hl h := R.mono hl h
def RepAll {α : Type} (R : RTy α) (w : World) (M : Nat → Prop) : List α → List Value → Prop
  | [], vs => vs = []
  | x :: xs, vs => ∃ us ws, vs = us ++ ws ∧ R.rep w M x us ∧ RepAll R w M xs ws
section
variable {α : Type} {R : RTy α} {w w' : World} {M M' : Nat → Prop}
theorem RepAll.len : ∀ {xs : List α} {vs : List Value}, RepAll R w M xs vs → vs.length = xs.length * R.size
  | [], vs, h => by rw [h]; simp
  | x :: xs, vs, h => by
    obtain ⟨us, ws, rfl, h1, h2⟩ := h
    rw [List.length_append, R.len h1, RepAll.len h2, List.length_cons, Nat.add_mul, Nat.one_mul, Nat.add_comm]
theorem RepAll.flat : ∀ {xs : List α} {vs : List Value}, RepAll R w M xs vs → ∀ u ∈ vs, u.oneCell' = true
  | [], vs, h => by rw [h]; simp
  | x :: xs, vs, h => by
    obtain ⟨us, ws, rfl, h1, h2⟩ := h
    intro u hu
    rcases List.mem_append.1 hu with h | h
    · exact R.flat h1 u h
    · exact RepAll.flat h2 u h
theorem RepAll.mono (hl : Le w M w' M') : ∀ {xs : List α} {vs : List Value}, RepAll R w M xs vs → RepAll R w' M' xs vs
  | [], vs, h => h
  | x :: xs, vs, h => by
    obtain ⟨us, ws, rfl, h1, h2⟩ := h
    exact ⟨us, ws, rfl, R.mono hl h1, RepAll.mono hl h2⟩
theorem RepAll.append : ∀ {xs ys : List α} {vs us : List Value}, RepAll R w M xs vs → RepAll R w M ys us → RepAll R w M (xs ++ ys) (vs ++ us)
  | [], ys, vs, us, h, k => by rw [h]; exact k
  | x :: xs, ys, vs, us, h, k => by
    obtain ⟨a, b, rfl, h1, h2⟩ := h
    exact ⟨a, b ++ us, by simp, h1, RepAll.append h2 k⟩
theorem RepAll.one {x : α} {vs : List Value} (h : R.rep w M x vs) : RepAll R w M [x] vs := ⟨vs, [], by simp, h, rfl⟩
theorem RepAll.at_ : ∀ {xs : List α} {vs : List Value} {i : Nat} {x : α}, RepAll R w M xs vs → xs[i]? = some x → R.rep w M x ((vs.drop (i * R.size)).take R.size)
  | [], vs, i, x, h, hx => by simp at hx
  | y :: xs, vs, 0, x, h, hx => by
    obtain ⟨us, ws, rfl, h1, h2⟩ := h
    simp at hx; subst hx
    have := R.len h1
    simp only [Nat.zero_mul, List.drop_zero]
    rw [← this, List.take_left]
    exact h1
  | y :: xs, vs, i + 1, x, h, hx => by
    obtain ⟨us, ws, rfl, h1, h2⟩ := h
    have hl := R.len h1
    have := RepAll.at_ h2 (i := i) (x := x) (by simpa using hx)
    rw [Nat.add_mul, Nat.one_mul, Nat.add_comm, ← List.drop_drop]
    rw [show List.drop R.size (us ++ ws) = ws from by rw [← hl, List.drop_left]]
    exact this
theorem RepAll.set : ∀ {xs : List α} {vs us : List Value} {i : Nat} {x : α}, RepAll R w M xs vs → R.rep w M x us → i < xs.length →
    RepAll R w M (xs.set i x) (vs.take (i * R.size) ++ us ++ vs.drop ((i + 1) * R.size))
  | [], vs, us, i, x, h, hu, hi => by simp at hi
  | y :: xs, vs, us, 0, x, h, hu, hi => by
    obtain ⟨a, b, rfl, h1, h2⟩ := h
    have hl := R.len h1
    refine ⟨us, b, ?_, hu, h2⟩
    simp only [Nat.zero_mul, List.take_zero, List.nil_append, Nat.zero_add, Nat.one_mul]
    rw [← hl, List.drop_left]
  | y :: xs, vs, us, i + 1, x, h, hu, hi => by
    obtain ⟨a, b, rfl, h1, h2⟩ := h
    have hl := R.len h1
    refine ⟨a, _, ?_, h1, RepAll.set h2 hu (by simpa using hi)⟩
    have e1 : (i + 1) * R.size = a.length + i * R.size := by rw [Nat.add_mul, hl]; omega
    have e2 : (i + 1 + 1) * R.size = a.length + (i + 1) * R.size := by rw [Nat.add_mul _ 1, hl]; omega
    have t1 : List.take ((i + 1) * R.size) (a ++ b) = a ++ List.take (i * R.size) b := by rw [e1, List.take_length_add_append]
    have t2 : List.drop ((i + 1 + 1) * R.size) (a ++ b) = List.drop ((i + 1) * R.size) b := by rw [e2, List.drop_length_add_append]
    rw [t1, t2]
    simp [List.append_assoc]
end
def RArr {α : Type} (n : Nat) (R : RTy α) : RTy (List α) where
  size := n * R.size
  agg := true
  rep w M xs vs := xs.length = n ∧ RepAll R w M xs vs
  len := by rintro w M x vs ⟨hn, h⟩; rw [h.len, hn]
  flat := by rintro w M x vs ⟨hn, h⟩; exact h.flat
  one h := by cases h
  mono := by rintro w M w' M' x vs hl ⟨hn, h⟩; exact ⟨hn, h.mono hl⟩
/-- At p lie the cells of the data xs, one behind the other. -/
def RowAt {α : Type} (R : RTy α) (w : World) (M : Nat → Prop) (xs : List α) (p : Addr) : Prop :=
  ¬ M p.block ∧ p.block < w.heap.size ∧ ∃ vs, RepAll R w M xs vs ∧ ∀ j u, vs[j]? = some u → w.cell? (p.add j) = some u
theorem RowAt.mono {α : Type} {R : RTy α} {w w' : World} {M M' : Nat → Prop} {xs : List α} {p : Addr} (h : Le w M w' M') (hv : RowAt R w M xs p) : RowAt R w' M' xs p := by
  obtain ⟨hm, hb, vs, hr, hc⟩ := hv
  exact ⟨h.not hb hm, Nat.lt_of_lt_of_le hb h.size, vs, hr.mono h, fun j u hu => (h.cell (by rw [block_add]; exact hb) (by rw [block_add]; exact hm)).trans (hc j u hu)⟩
/-- A slice. -/
def RSlice {α : Type} (R : RTy α) : RTy (List α) where
  size := 1
  agg := false
  rep w M xs vs := ∃ A cap, vs = [.slice A xs.length cap] ∧ xs.length ≤ cap ∧ cap ≤ maxLen ∧ (xs ≠ [] → ∃ p, A = some p ∧ RowAt R w M xs p)
  len := by rintro w M x vs ⟨A, cap, rfl, _⟩; rfl
  flat := by rintro w M x vs ⟨A, cap, rfl, _⟩; simp [Value.oneCell']
  one _ := rfl
  mono := by
    rintro w M w' M' x vs hl ⟨A, cap, rfl, h1, h2, h3⟩
    exact ⟨A, cap, rfl, h1, h2, fun h => let ⟨p, e, hp⟩ := h3 h; ⟨p, e, hp.mono hl⟩⟩

/-- A part of a struct. -/
def Fld {α β : Type} (R : RTy α) (off : Nat) (S : RTy β) (get : α → β) : Prop := ∀ w M x vs, R.rep w M x vs → S.rep w M (get x) ((vs.drop off).take S.size)
section
variable {α β γ : Type} {R : RTy α} {S : RTy β} {T : RTy γ}
theorem Fld.whole (R : RTy α) : Fld R 0 R (fun x => x) := fun w M x vs h => by
  rw [List.drop_zero, ← R.len h, List.take_length]; exact h
theorem Fld.fst (R : RTy α) (S : RTy β) : Fld (RPair R S) 0 R (fun x => x.1) := by
  rintro w M x vs ⟨us, ws, rfl, h1, h2⟩
  rw [List.drop_zero, ← R.len h1, List.take_left]; exact h1
theorem Fld.snd (R : RTy α) (S : RTy β) : Fld (RPair R S) R.size S (fun x => x.2) := by
  rintro w M x vs ⟨us, ws, rfl, h1, h2⟩
  rw [← R.len h1, List.drop_left, ← S.len h2, List.take_length]; exact h2
theorem Fld.iso {off : Nat} {g : β → γ} (h : Fld S off T g) (f : α → β) : Fld (RIso S f) off T (fun x => g (f x)) := fun w M x vs hr => h w M (f x) vs hr
theorem Fld.comp {o1 o2 : Nat} {g : α → β} {k : β → γ} (h : Fld R o1 S g) (h2 : Fld S o2 T k) (hle : o2 + T.size ≤ S.size) : Fld R (o1 + o2) T (fun x => k (g x)) := by
  intro w M x vs hr
  have := h2 _ _ _ _ (h _ _ _ _ hr)
  rw [List.drop_take, List.drop_drop, List.take_take, Nat.min_eq_left (by omega)] at this
  exact this
theorem ARep.fld {w : World} {M : Nat → Prop} {x : α} {p : Addr} {off : Nat} {get : α → β} (h : ARep R w M x p) (hf : Fld R off S get) : ARep S w M (get x) (p.add off) := by
  obtain ⟨hm, hb, vs, hr, hc⟩ := h
  refine ⟨by rw [block_add]; exact hm, by rw [block_add]; exact hb, _, hf _ _ _ _ hr, fun j u hu => ?_⟩
  rw [Go.Deep.add_add]
  refine hc _ u ?_
  rw [List.getElem?_take] at hu
  split at hu
  · rw [List.getElem?_drop] at hu; exact hu
  · cases hu
theorem RowAt.at_ {w : World} {M : Nat → Prop} {xs : List α} {p : Addr} {i : Nat} {x : α} (h : RowAt R w M xs p) (hx : xs[i]? = some x) : ARep R w M x (p.add (i * R.size)) := by
  obtain ⟨hm, hb, vs, hr, hc⟩ := h
  refine ⟨by rw [block_add]; exact hm, by rw [block_add]; exact hb, _, hr.at_ hx, fun j u hu => ?_⟩
  rw [Go.Deep.add_add]
  refine hc _ u ?_
  rw [List.getElem?_take] at hu
  split at hu
  · rw [List.getElem?_drop] at hu; exact hu
  · cases hu
end
abbrev Zv (x : Int) : Value := .int .i64 x
abbrev Zw (g o : Nat) : Value := .pointer (some ⟨g, o, none⟩)
theorem vint {w : World} {M : Nat → Prop} (x : Int) : VRep RInt w M x (.int .i64 x) := ⟨_, rfl, rfl⟩
theorem vbool {w : World} {M : Nat → Prop} (x : Bool) : VRep RBool w M x (.bool x) := ⟨_, rfl, rfl⟩
theorem vint_eq {w : World} {M : Nat → Prop} {x : Int} {v : Value} (h : VRep RInt w M x v) : v = .int .i64 x := by obtain ⟨vs, rfl, rfl⟩ := h; rfl
theorem vu8_eq {w : World} {M : Nat → Prop} {x : Int} {v : Value} (h : VRep RU8 w M x v) : v = .int .u8 x := by obtain ⟨vs, rfl, rfl⟩ := h; rfl
theorem vbool_eq {w : World} {M : Nat → Prop} {x : Bool} {v : Value} (h : VRep RBool w M x v) : v = .bool x := by obtain ⟨vs, rfl, rfl⟩ := h; rfl
theorem vbool_ex {w : World} {M : Nat → Prop} {x : Bool} {v : Value} (h : VRep RBool w M x v) : ∃ b, b = x ∧ v = .bool b := ⟨x, rfl, vbool_eq h⟩
theorem vbool_of {w : World} {M : Nat → Prop} {b x : Bool} (h : b = x) : VRep RBool w M x (.bool b) := h ▸ vbool b
theorem vslice_nil {α : Type} {R : RTy α} {w : World} {M : Nat → Prop} {A : Option Addr} : VRep (RSlice R) w M [] (.slice A 0 0) :=
  ⟨_, ⟨A, 0, rfl, Nat.le_refl _, Nat.zero_le _, fun h => absurd rfl h⟩, rfl⟩
end Go.PF
