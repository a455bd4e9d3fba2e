/- Rows of rows that lie apart; no condition. -/
import Derived.Test.YtbnndochnkkllaaDoorPFWild
import Derived.Test.YtbnndochnkkllaaDoorPFFresh
namespace Go.PF
open Go Go.RowKit

section
variable {w w' : World} {M M' : Nat → Prop}
theorem Le.orR (h : Le w M w' M') (C : Nat → Prop) : Le w (fun b => M b ∨ C b) w' (fun b => M' b ∨ C b) :=
  ⟨h.size, fun b hb hn => h.keep b hb (fun e => hn (.inl e)), fun b hb hm => hm.imp (h.old b hb) (fun h => h)⟩
theorem spans_any : ∀ {xs : List Span} {vs : List Value}, RepAll RSpan w M xs vs → RepAll RSpan w' M' xs vs
  | [], _, h => h
  | _ :: _, _, ⟨us, ws, e, h1, h2⟩ => ⟨us, ws, e, h1, spans_any h2⟩
theorem ownsRow_keep {B T size k : Nat} {v : Value} {cells : List Value} (h : w.ownsRow B T size v k cells) (hk : ∀ g, v.ownBlock = some g → g < w.heap.size → w'.heap[g]? = w.heap[g]?) : w'.ownsRow B T size v k cells := by
  refine ⟨h.1, ?_⟩
  rcases h.2 with h2 | ⟨g, cap, cur, rfl, hg, hh, r⟩
  · exact .inl h2
  · refine .inr ⟨g, cap, cur, rfl, hg, ?_, r⟩
    have hlt : g < w.heap.size := by
      rcases Nat.lt_or_ge g w.heap.size with hlt | hge
      · exact hlt
      · rw [Array.getElem?_eq_none hge] at hh; cases hh
    exact (hk g rfl hlt).trans hh
end
def All : Nat → Prop := fun _ => True
/-- A row of spans that is a whole block. -/
def RSpR (T : Nat) : RTy (List Span) where
  size := 1
  agg := false
  rep w M xs vs := ∃ v, vs = [v] ∧ OwnRow RSpan 0 T w All xs v ∧ ∀ g, v.ownBlock = some g → ¬ M g
  len := by rintro _ _ _ _ ⟨v, rfl, _⟩; rfl
  flat := by
    rintro _ _ _ _ ⟨v, rfl, h, _⟩ u hu
    rw [List.mem_singleton.1 hu]
    obtain ⟨A, c, rfl⟩ := h.len
    rfl
  one _ := rfl
  mono := by
    rintro w M w' M' xs vs hl ⟨v, rfl, h, hn⟩
    have hb : ∀ g, v.ownBlock = some g → g < w.heap.size := fun g e => (h.block e).2
    obtain ⟨cells, h1, h2, h3⟩ := h
    exact ⟨v, rfl, ⟨cells, ownsRow_keep h1 fun g e hg => hl.keep g hg (hn g e), spans_any h2, fun _ _ => trivial⟩, fun g e => hl.not (hb g e) (hn g e)⟩
def RepSep {α : Type} (R : RTy α) (w : World) : (Nat → Prop) → List α → List Value → Prop
  | _, [], vs => vs = []
  | M, x :: xs, vs => ∃ (us ws : List Value) (F : Nat → Prop), vs = us ++ ws ∧ R.rep w (fun b => M b ∨ ¬ F b) x us ∧ RepSep R w (fun b => M b ∨ F b) xs ws
section
variable {α : Type} {R : RTy α} {w w' : World}
theorem RepSep.mono : ∀ {xs : List α} {vs : List Value} {M M' : Nat → Prop}, Le w M w' M' → RepSep R w M xs vs → RepSep R w' M' xs vs
  | [], _, _, _, _, h => by obtain rfl : _ = [] := h; exact rfl
  | _ :: _, _, _, _, hl, ⟨us, ws, F, e, h1, h2⟩ => ⟨us, ws, F, e, R.mono (hl.orR fun b => ¬ F b) h1, RepSep.mono (hl.orR F) h2⟩
theorem RepSep.all : ∀ {xs : List α} {vs : List Value} {M : Nat → Prop}, RepSep R w M xs vs → RepAll R w M xs vs
  | [], _, _, h => by obtain rfl : _ = [] := h; exact rfl
  | _ :: _, _, _, ⟨us, ws, F, e, h1, h2⟩ => ⟨us, ws, e, R.mono (Le.sub w fun b hb => .inl hb) h1, (RepSep.all h2).mono (Le.sub w fun b hb => .inl hb)⟩
/-- One of them may be changed. -/
theorem RepSep.focus (h1 : R.size = 1) : ∀ {xs : List α} {vs : List Value} {M : Nat → Prop} {i : Nat} {x : α}, RepSep R w M xs vs → xs[i]? = some x →
    ∃ u F, vs[i]? = some u ∧ (∀ b, F b → ¬ M b) ∧ R.rep w (NotY F) x [u] ∧ ∀ w' y, BX F w w' → R.rep w' (NotY F) y [u] → RepSep R w' M (xs.set i y) vs
  | [], _, _, i, x, _, hx => by simp at hx
  | x0 :: xs, _, M, 0, x, ⟨us, ws, F, e, h2, h3⟩, hx => by
    simp only [List.getElem?_cons_zero, Option.some.injEq] at hx
    subst hx
    have hl := R.len h2
    rw [h1] at hl
    match us, hl with
    | [u], _ =>
      subst e
      refine ⟨u, fun b => F b ∧ ¬ M b, rfl, fun b hb => hb.2, R.mono (Le.sub w fun b hb => ?_) h2, fun w' y hb hr => ⟨[u], ws, F, rfl, R.mono (Le.sub w' fun b hb => ?_) hr, RepSep.mono (Le.of_bx _ hb fun b e => .inr e.1) h3⟩⟩
      · by_cases hm : M b
        · exact .inl hm
        · exact .inr fun hf => hb ⟨hf, hm⟩
      · exact fun hn => hb.elim (fun hm => hn.2 hm) (fun hf => hf hn.1)
  | x0 :: xs, _, M, i + 1, x, ⟨us, ws, F, e, h2, h3⟩, hx => by
    have hl := R.len h2
    rw [h1] at hl
    match us, hl with
    | [u0], _ =>
      subst e
      obtain ⟨u, F1, hu, hF1, hr, hw⟩ := RepSep.focus h1 h3 (i := i) (x := x) (by simpa using hx)
      refine ⟨u, F1, by simpa using hu, fun b hb hm => hF1 b hb (.inl hm), hr, fun w' y hb hy => ⟨[u0], ws, F, rfl, R.mono (Le.of_bx _ hb fun b e => .inr fun hf => hF1 b e (.inr hf)) h2, hw w' y hb hy⟩⟩
end
/-- A slice whose elements lie apart. -/
def RSliceS {α : Type} (R : RTy α) : RTy (List α) where
  size := 1
  agg := false
  rep w M xs vs := ∃ A cap, vs = [.slice A xs.length cap] ∧ xs.length ≤ cap ∧ cap ≤ maxLen ∧ (xs ≠ [] → ∃ p, A = some p ∧ ¬ M p.block ∧ p.block < w.heap.size ∧ ∃ us, RepSep R w (fun b => M b ∨ b = p.block) xs us ∧ ∀ j u, us[j]? = some u → w.cell? (p.add j) = some u)
  len := by rintro w M x vs ⟨A, cap, rfl, _⟩; rfl
  flat := by rintro w M x vs ⟨A, cap, rfl, _⟩; simp [Value.oneCell']
  one _ := rfl
  mono := by
    rintro w M w' M' x vs hl ⟨A, cap, rfl, h1, h2, h3⟩
    refine ⟨A, cap, rfl, h1, h2, fun h => ?_⟩
    obtain ⟨p, e, hm, hb, us, hr, hc⟩ := h3 h
    exact ⟨p, e, hl.not hb hm, Nat.lt_of_lt_of_le hb hl.size, us, hr.mono (hl.orR fun b => b = p.block), fun j u hu => (hl.cell (by rw [block_add]; exact hb) (by rw [block_add]; exact hm)).trans (hc j u hu)⟩
/-- The data lie in Y. -/
def RIn {α : Type} (Y : Nat → Prop) (R : RTy α) : RTy α where
  size := R.size
  agg := R.agg
  rep w M x vs := R.rep w (fun b => M b ∨ ¬ Y b) x vs
  len h := R.len h
  flat h := R.flat h
  one h := R.one h
  mono hl h := R.mono (hl.orR fun b => ¬ Y b) h
def RBoxS (T : Nat) : RTy Box := RIso (RSliceS (RSpR T)) fun x => x.Sides
def RBoxT (Y : Nat → Prop) (T : Nat) : RTy Box := RIn Y (RBoxS T)
def RSSS (T : Nat) : RTy (List (List Span)) := RSliceS (RSpR T)
def RBoxSS (T : Nat) : RTy (List Box) := RSliceS (RBoxS T)
/-! What is known less. -/
theorem Fg.row {T : Nat} : Fg (RSpR T) (RSlice RSpan) := ⟨rfl, by
  rintro w M xs vs ⟨v, rfl, h, hn⟩
  obtain ⟨vs, hr, e⟩ := h.freeze (M' := M) (Le.sub w fun _ _ => trivial) hn
  obtain ⟨A, cap, rfl, r⟩ := hr
  have e : v = .slice A xs.length cap := e
  subst e
  exact ⟨A, cap, rfl, r⟩⟩
theorem Fg.sliceS {α : Type} {R S : RTy α} (h : Fg R S) : Fg (RSliceS R) (RSlice S) := ⟨rfl, by
  rintro w M xs vs ⟨A, cap, rfl, h1, h2, h3⟩
  refine ⟨A, cap, rfl, h1, h2, fun hx => ?_⟩
  obtain ⟨p, e, hm, hb, us, hr, hc⟩ := h3 hx
  exact ⟨p, e, hm, hb, us, h.all (hr.all.mono (Le.sub w fun b hb => .inl hb)), hc⟩⟩
theorem fgSSS {T : Nat} : Fg (RSSS T) (RSlice (RSlice RSpan)) := Fg.sliceS Fg.row
theorem fgBoxS {T : Nat} : Fg (RBoxS T) RBox := Fg.iso fgSSS _
theorem fgBoxSS {T : Nat} : Fg (RBoxSS T) (RSlice RBox) := Fg.sliceS fgBoxS
theorem Fg.in_ {α : Type} {Y : Nat → Prop} {R S : RTy α} (h : Fg R S) : Fg (RIn Y R) S := ⟨h.1, fun hr => h.2 (R.mono (Le.sub _ fun b hb => .inl hb) hr)⟩
/-! The data lie below the heap's end. -/
def Bd {α : Type} (R : RTy α) : Prop := ∀ {w M x vs}, R.rep w M x vs → R.rep w (fun b => M b ∨ w.heap.size ≤ b) x vs
theorem Bd.row {T : Nat} : Bd (RSpR T) := by
  rintro w M xs vs ⟨v, rfl, h, hn⟩
  exact ⟨v, rfl, h, fun g e hm => hm.elim (hn g e) fun hge => by have := (h.block e).2; omega⟩
theorem Bd.sep {α : Type} {R : RTy α} (hR : Bd R) {w : World} : ∀ {xs : List α} {vs : List Value} {M : Nat → Prop}, RepSep R w M xs vs → RepSep R w (fun b => M b ∨ w.heap.size ≤ b) xs vs
  | [], _, _, h => by obtain rfl : _ = [] := h; exact rfl
  | _ :: _, _, _, ⟨us, ws, F, e, h1, h2⟩ => ⟨us, ws, F, e, R.mono (Le.sub w fun b hb => hb.elim (fun h => h.elim (fun h => .inl (.inl h)) .inr) (fun h => .inl (.inr h))) (hR h1), RepSep.mono (Le.sub w fun b hb => hb.elim (fun h => h.elim (fun h => .inl (.inl h)) .inr) (fun h => .inl (.inr h))) (Bd.sep hR h2)⟩
theorem Bd.sliceS {α : Type} {R : RTy α} (hR : Bd R) : Bd (RSliceS R) := by
  rintro w M xs vs ⟨A, cap, rfl, h1, h2, h3⟩
  refine ⟨A, cap, rfl, h1, h2, fun hx => ?_⟩
  obtain ⟨p, e, hm, hb, us, hr, hc⟩ := h3 hx
  exact ⟨p, e, fun h => h.elim hm fun h => by omega, hb, us, RepSep.mono (Le.sub w fun b hb => hb.elim (fun h => h.elim (fun h => .inl (.inl h)) .inr) (fun h => .inl (.inr h))) (Bd.sep hR hr), hc⟩
theorem bdSSS {T : Nat} : Bd (RSSS T) := Bd.sliceS Bd.row
theorem bdBoxS {T : Nat} : Bd (RBoxS T) := fun h => bdSSS (T := T) h
theorem bdBoxSS {T : Nat} : Bd (RBoxSS T) := Bd.sliceS bdBoxS
/-- The blocks of Y below the heap's end. -/
def YB (Y : Nat → Prop) (w : World) : Nat → Prop := fun b => Y b ∧ b < w.heap.size
theorem RIn.yb {α : Type} {Y : Nat → Prop} {R : RTy α} (hR : Bd R) {w : World} {M : Nat → Prop} {x : α} {v : Value} (h : VRep (RIn Y R) w M x v) : VRep R w (NotY (YB Y w)) x v := by
  obtain ⟨vs, hr, e⟩ := h
  refine ⟨vs, R.mono (Le.sub w fun b hb => ?_) (hR hr), e⟩
  by_cases hy : Y b
  · exact .inr (Nat.le_of_not_lt fun hlt => hb ⟨hy, hlt⟩)
  · exact .inl (.inr hy)
/-! Tags: where an element lies. -/
abbrev Tag := Nat × Nat
def inT (t : Tag) (b : Nat) : Prop := t.1 ≤ b ∧ b < t.2
def RTg {α : Type} (R : RTy α) : RTy (Tag × α) where
  size := R.size
  agg := R.agg
  rep w M x vs := R.rep w (fun b => M b ∨ ¬ inT x.1 b) x.2 vs
  len h := R.len h
  flat h := R.flat h
  one h := R.one h
  mono hl h := R.mono (hl.orR _) h
def DjT {α : Type} (a b : Tag × α) : Prop := ∀ k, inT a.1 k → ¬ inT b.1 k
theorem sep_of_tags {α : Type} {R : RTy α} {w : World} {M : Nat → Prop} : ∀ {gs : List (Tag × α)} {vs : List Value} {M1 : Nat → Prop}, RepAll (RTg R) w M gs vs → gs.Pairwise DjT → (∀ g ∈ gs, ∀ b, M1 b → M b ∨ ¬ inT g.1 b) → RepSep R w M1 (gs.map (·.2)) vs
  | [], _, _, h, _, _ => by obtain rfl : _ = [] := h; exact rfl
  | g :: gs, _, M1, ⟨us, ws, e, h1, h2⟩, hd, hM => by
    rw [List.pairwise_cons] at hd
    refine ⟨us, ws, inT g.1, e, R.mono (Le.sub w fun b hb => ?_) h1, sep_of_tags h2 hd.2 fun g' hg' b hb => ?_⟩
    · exact hb.elim (fun h => hM g (by simp) b h) .inr
    · exact hb.elim (fun h => hM g' (by simp [hg']) b h) fun h => .inr (hd.1 g' hg' b h)
/-- The tags lie apart, above B and below the heap's end. -/
def TagOk {α : Type} (B : Nat) (gs : List (Tag × α)) (w : World) : Prop := gs.Pairwise DjT ∧ ∀ g ∈ gs, (g.1.1 < g.1.2 → B ≤ g.1.1) ∧ g.1.2 ≤ w.heap.size
theorem TagOk.le {α : Type} {B : Nat} {gs : List (Tag × α)} {w w' : World} (h : TagOk B gs w) (hs : w.heap.size ≤ w'.heap.size) : TagOk B gs w' := ⟨h.1, fun g hg => ⟨(h.2 g hg).1, Nat.le_trans (h.2 g hg).2 hs⟩⟩
theorem TagOk.zero {α : Type} {B : Nat} {xs : List α} {w : World} : TagOk B (xs.map fun x => (((0, 0) : Tag), x)) w :=
  ⟨by
    rw [List.pairwise_map]
    exact List.pairwise_of_forall fun _ _ k hk => by unfold inT at hk; simp at hk, fun g hg => by
    obtain ⟨x, _, rfl⟩ := List.mem_map.1 hg
    simp⟩
theorem TagOk.set {α : Type} {B n m : Nat} {gs : List (Tag × α)} {w w' : World} (h : TagOk B gs w) (hn : w.heap.size ≤ n) (hB : B ≤ n) (hm : m ≤ w'.heap.size) (hs : w.heap.size ≤ w'.heap.size) (i : Nat) (z : α) : TagOk B (gs.set i ((n, m), z)) w' := by
  have hold : ∀ (j : Nat) (hj : j < gs.length) (k : Nat), inT gs[j].1 k → ¬ inT (n, m) k := fun j hj k h1 h2 => by
    have := (h.2 _ (List.getElem_mem hj)).2
    unfold inT at h1 h2
    omega
  refine ⟨?_, fun g hg => ?_⟩
  · rw [List.pairwise_iff_getElem]
    intro a b ha hb hab
    rw [List.length_set] at ha hb
    rw [List.getElem_set, List.getElem_set]
    split
    · split
      · omega
      · exact fun k h1 h2 => hold b hb k h2 h1
    · split
      · exact fun k h1 h2 => hold a ha k h1 h2
      · exact List.pairwise_iff_getElem.1 h.1 a b ha hb hab
  · rcases List.mem_or_eq_of_mem_set hg with hg | rfl
    · exact ⟨(h.2 g hg).1, Nat.le_trans (h.2 g hg).2 hs⟩
    · exact ⟨fun _ => hB, hm⟩
theorem TagOk.app {α : Type} {B n m : Nat} {gs : List (Tag × α)} {w w' : World} (h : TagOk B gs w) (hn : w.heap.size ≤ n) (hB : B ≤ n) (hm : m ≤ w'.heap.size) (hs : w.heap.size ≤ w'.heap.size) (z : α) : TagOk B (gs ++ [((n, m), z)]) w' := by
  refine ⟨?_, fun g hg => ?_⟩
  · rw [List.pairwise_append]
    refine ⟨h.1, by simp, fun a ha b hb k h1 h2 => ?_⟩
    rw [List.mem_singleton.1 hb] at h2
    have := (h.2 a ha).2
    unfold inT at h1 h2
    simp only at h2
    omega
  · rcases List.mem_append.1 hg with hg | hg
    · exact ⟨(h.2 g hg).1, Nat.le_trans (h.2 g hg).2 hs⟩
    · rw [List.mem_singleton.1 hg]; exact ⟨fun _ => hB, hm⟩
/-- The row of tagged elements is given away. -/
theorem OwnRow.freezeT {α : Type} {R : RTy α} {T : Nat} {w0 w : World} {M0 M X Y : Nat → Prop} {gs : List (Tag × α)} {v : Value} (h : OwnRow (RTg R) w0.heap.size T w M gs v) (hT : TagOk w0.heap.size gs w) (hC : Cx X w0 M0 w M) (h0 : ∀ b, M0 b → b < w0.heap.size) (hY : ∀ b, w0.heap.size ≤ b → Y b) (h1 : R.size = 1) : VRep (RIn Y (RSliceS R)) w M0 (gs.map (·.2)) v := by
  have hblk := fun g e => h.block (b := g) e
  obtain ⟨cells, ⟨hl, h2⟩, h3, h4⟩ := h
  rcases h2 with ⟨rfl, hz⟩ | ⟨g, cap, cur, rfl, hg, hh, hcap, hmax, hsz, htake⟩
  · obtain rfl := List.eq_nil_of_length_eq_zero hz
    exact ⟨_, ⟨none, 0, rfl, Nat.le_refl _, Nat.zero_le _, fun h => absurd rfl h⟩, rfl⟩
  · have hMg : M g := h4 g rfl
    refine ⟨_, ⟨some ⟨g, 0, none⟩, cap, by rw [List.length_map], by rw [List.length_map]; exact hcap, hmax, fun _ => ⟨_, rfl, ?_, (hblk g rfl).2, cells, sep_of_tags h3 hT.1 fun x hx b hb => ?_, fun j u hu => ?_⟩⟩, rfl⟩
    · rintro (hm | hy)
      · have := h0 g hm; omega
      · exact hy (hY g hg)
    · rcases hb with (hm | hy) | rfl
      · exact .inl (hC.sup b hm)
      · refine .inr fun hi => hy (hY b ?_)
        have := (hT.2 x hx).1 (Nat.lt_of_le_of_lt hi.1 hi.2)
        exact Nat.le_trans this hi.1
      · exact .inl hMg
    · rw [addr_add]
      have : w.cell? ⟨g, 0 + j, none⟩ = cur[j]? := by simp [World.cell?, hh]
      rw [this, ← Array.getElem?_toList]
      rw [← htake, List.getElem?_take] at hu
      split at hu
      · exact hu
      · cases hu
theorem makeF_tag {α : Type} {z : α} {n : Int} {xs : List α} (h : makeF z n = some xs) : makeF (((0, 0) : Tag), z) n = some (xs.map fun x => (((0, 0) : Tag), x)) := by
  unfold makeF at h ⊢
  split at h
  · rename_i hc
    obtain rfl := Option.some.inj h
    rw [if_pos hc, List.map_replicate]
  · cases h
theorem idx_tag {α : Type} {gs : List (Tag × α)} {i : Int} {x : α} (h : idx (gs.map (·.2)) i = some x) : ∃ y, idx gs i = some y := by
  obtain ⟨m, rfl, hm, _⟩ := idx_some h
  rw [List.length_map] at hm
  exact ⟨gs[m], by unfold idx; rw [if_pos (Int.natCast_nonneg _), Int.toNat_natCast, List.getElem?_eq_getElem hm]⟩
theorem appF_tag {α : Type} {gs : List (Tag × α)} {x : α} {zs : List α} (t : Tag) (h : appF (gs.map (·.2)) [x] = some zs) : appF gs [(t, x)] = some (gs ++ [(t, x)]) ∧ (gs ++ [(t, x)]).map (·.2) = zs := by
  obtain ⟨rfl, hl⟩ := appF_some h
  refine ⟨?_, by simp⟩
  unfold appF
  rw [if_pos (by simpa using hl)]
theorem vtg_nil {T : Nat} {w : World} {M : Nat → Prop} : VRep (RTg (RSpR T)) w M (((0, 0) : Tag), []) (.slice none 0 0) :=
  ⟨[.slice none 0 0], ⟨_, rfl, ownrow_nil, fun g e => by cases e⟩, rfl⟩
/-- A new row of spans is given away. -/
theorem OwnRow.spr {B T : Nat} {w : World} {M M' : Nat → Prop} {xs : List Span} {v : Value} (h : OwnRow RSpan B T w M xs v) (hn : ∀ g, v.ownBlock = some g → ¬ M' g) : VRep (RSpR T) w M' xs v := by
  have h' := h.base (Nat.zero_le B)
  obtain ⟨cells, h1, h2, _⟩ := h'
  exact ⟨[v], ⟨v, rfl, ⟨cells, h1, spans_any h2, fun _ _ => trivial⟩, hn⟩, rfl⟩
theorem spr_tag {T n : Nat} {w : World} {M : Nat → Prop} {xs : List Span} {v : Value} (h : VRep (RSpR T) w (fun b => M b ∨ b < n) xs v) : VRep (RTg (RSpR T)) w M ((n, w.heap.size), xs) v := by
  obtain ⟨vs, hr, e⟩ := h
  refine ⟨vs, (RSpR T).mono (Le.sub w fun b hb => ?_) (Bd.row hr), e⟩
  rcases hb with hb | hb
  · exact .inl (.inl hb)
  · by_cases h1 : n ≤ b
    · exact .inr (Nat.le_of_not_lt fun h2 => hb ⟨h1, h2⟩)
    · exact .inl (.inr (by omega))
theorem box_tag {T : Nat} {ws w : World} {M : Nat → Prop} {x : Box} {v : Value} (h : VRep (RBoxT (fun b => ws.heap.size ≤ b) T) w M x v) : VRep (RTg (RBoxS T)) w M ((ws.heap.size, w.heap.size), x) v := by
  obtain ⟨vs, hr, e⟩ := h
  refine ⟨vs, show (RBoxS T).rep w (fun b => M b ∨ ¬ inT (ws.heap.size, w.heap.size) b) x vs from (RBoxS T).mono (Le.sub w fun b hb => ?_) (bdBoxS (T := T) (w := w) (M := fun b => M b ∨ ¬ ws.heap.size ≤ b) (x := x) (vs := vs) hr), e⟩
  rcases hb with hb | hb
  · exact .inl (.inl hb)
  · by_cases h1 : ws.heap.size ≤ b
    · exact .inr (Nat.le_of_not_lt fun h2 => hb ⟨h1, h2⟩)
    · exact .inl (.inr h1)
theorem shutT_Box {Y : Nat → Prop} {T : Nat} {w : World} {M : Nat → Prop} {s : List (List Span)} {A0 : Option Addr} {n0 c0 : Nat} (h0 : VRep (RIn Y (RSSS T)) w M s (.slice A0 n0 c0)) : VRep (RBoxT Y T) w M { Sides := s } (.agg #[.slice A0 n0 c0]) := ⟨[.slice A0 n0 c0], h0.cells, rfl⟩
theorem vsliceT_nil {α : Type} {Y : Nat → Prop} {R : RTy α} {w : World} {M : Nat → Prop} : VRep (RIn Y (RSliceS R)) w M [] (.slice none 0 0) := ⟨_, ⟨none, 0, rfl, Nat.le_refl _, Nat.zero_le _, fun h => absurd rfl h⟩, rfl⟩
theorem openT_Box {Y : Nat → Prop} {T : Nat} {w : World} {M : Nat → Prop} {x : Box} {v : Value} (h : VRep (RBoxT Y T) w M x v) : ∃ A0 c0, v = .agg #[.slice A0 x.Sides.length c0] ∧ VRep (RIn Y (RSSS T)) w M x.Sides (.slice A0 x.Sides.length c0) := by
  obtain ⟨vs, hr, rfl⟩ := h
  obtain ⟨A0, c0, rfl, r⟩ := hr
  exact ⟨A0, c0, rfl, _, ⟨A0, c0, rfl, r⟩, rfl⟩
/-- One element of a slice whose elements lie apart may be changed. -/
theorem slice_focus {α : Type} {R : RTy α} (h1 : R.size = 1) {w : World} {Y : Nat → Prop} {xs : List α} {v : Value} (hv : VRep (RSliceS R) w (NotY Y) xs v) {i : Nat} {x : α} (hx : xs[i]? = some x) :
    ∃ p c u F, v = .slice (some p) xs.length c ∧ w.cell? (p.add i) = some u ∧ (∀ b, F b → Y b) ∧ R.rep w (NotY F) x [u] ∧ ∀ w' y, BX F w w' → R.rep w' (NotY F) y [u] → VRep (RSliceS R) w' (NotY Y) (xs.set i y) v := by
  obtain ⟨vs, ⟨A, cap, rfl, h2, h3, h4⟩, rfl⟩ := hv
  have hne : xs ≠ [] := fun e => by rw [e] at hx; simp at hx
  obtain ⟨p, rfl, hm, hb, us, hr, hc⟩ := h4 hne
  obtain ⟨u, F, hu, hF, hru, hw⟩ := hr.focus h1 hx
  refine ⟨p, cap, u, F, rfl, hc i u hu, fun b hb => Classical.byContradiction fun hn => hF b hb (.inl hn), hru, fun w' y hbx hy => ⟨_, ⟨some p, cap, by rw [List.length_set], by rw [List.length_set]; exact h2, h3, fun _ => ⟨p, rfl, hm, Nat.lt_of_lt_of_le hb hbx.size, us, hw w' y hbx hy, fun j q hq => ?_⟩⟩, rfl⟩⟩
  exact (World.cell?_of_block (w := w) (w' := w') (a := p.add j) (by rw [block_add]; exact hbx.block p.block hb fun hf => hF _ hf (.inr rfl))).trans (hc j q hq)
theorem app_fresh {v : Value} {n m : Nat} {M : Nat → Prop} (hat : v.ownBlock = (Value.slice none 0 0).ownBlock ∨ v.ownBlock = some n) (hM : ∀ b, M b → b < n) (hm : m ≤ n) : ∀ g, v.ownBlock = some g → ¬ (M g ∨ g < m) := fun g e => by
  rcases hat with h | h
  · rw [h] at e; cases e
  · rw [h] at e
    obtain rfl := Option.some.inj e
    exact fun hx => hx.elim (fun hx => Nat.lt_irrefl _ (hM _ hx)) (fun hx => by omega)
theorem tag_snd {α : Type} {xs : List α} : (xs.map fun x => (((0, 0) : Tag), x)).map (·.2) = xs := by
  rw [List.map_map]
  exact List.map_id' xs
theorem spr_in {T : Nat} {w : World} {F : Nat → Prop} {x : List Span} {u : Value} (h : (RSpR T).rep w (NotY F) x [u]) : OwnRow RSpan 0 T w (fun b => u.ownBlock = some b) x u ∧ (∀ b, u.ownBlock = some b → b < w.heap.size) ∧ ∀ b, u.ownBlock = some b → F b := by
  obtain ⟨v, e, h1, hn⟩ := h
  obtain rfl : u = v := by simpa using e
  refine ⟨?_, fun b e => (h1.block e).2, fun b e => Classical.byContradiction fun hb => hn b e hb⟩
  obtain ⟨cells, h2, h3, _⟩ := h1
  exact ⟨cells, h2, spans_any h3, fun g e => e⟩
theorem spr_out {T : Nat} {w : World} {M F : Nat → Prop} {x : List Span} {u : Value} (h : OwnRow RSpan 0 T w M x u) (hF : ∀ b, u.ownBlock = some b → F b) : (RSpR T).rep w (NotY F) x [u] := by
  obtain ⟨cells, h2, h3, _⟩ := h
  exact ⟨u, rfl, ⟨cells, h2, spans_any h3, fun _ _ => trivial⟩, fun g e hn => hn (hF g e)⟩
theorem box_in {T : Nat} {w : World} {M : Nat → Prop} {x : Box} {u : Value} (h : (RBoxS T).rep w M x [u]) : VRep (RSSS T) w M x.Sides u := ⟨[u], h, rfl⟩
theorem box_out {T : Nat} {w : World} {M : Nat → Prop} {s : List (List Span)} {u : Value} (h : VRep (RSSS T) w M s u) : (RBoxS T).rep w M ⟨s⟩ [u] := by
  obtain ⟨vs, hr, e⟩ := h
  obtain ⟨A, cap, rfl, r⟩ := hr
  have e : u = .slice A s.length cap := e
  subst e
  exact ⟨A, cap, rfl, r⟩
section
variable {P : Program} {Q : Exit → Act → World → Prop} {n : Nat} {E : List (Nat × Value)} {w : World} {o : Oper} {K : Value → World → Prop}
theorem ow_indexP {x i : Operand} {t e : TypeId} {N c m : Nat} {p : Addr} (hop : o.op = .indexAddr t x i) (hx : opv E x = some (.slice (some p) N c)) (hi : opv E i = some (.int .i64 (m : Int)))
    (ht : P.underlying t = some (.slice e)) (hs : (sizeOf e).run P w = .ok 1 w) (hm : m < N) (k : K (.pointer (some (p.add m))) w) : OW P o n E w K Q := by
  refine ow_run (v := .pointer (some (p.add m))) (w' := w) (fun a ha => ?_) k
  have h1 : (0 : Int) ≤ (m : Int) ∧ (m : Int) < (N : Int) := by omega
  simp [execOp, hop, ha.opv hx, ha.opv hi, Instr.indexAt, asIntOf, run_underlying ht, hs, h1]
  intro hle; omega
theorem ow_loadC {x : Operand} {t : TypeId} {p : Addr} {u : Value} (hop : o.op = .load t x) (hx : opv E x = some (.pointer (some p))) (hc : w.cell? p = some u) (ha : (isAgg t).run P w = .ok false w) (k : K u w) : OW P o n E w K Q :=
  ow_run (v := u) (w' := w) (fun a hF => by simp [execOp, hop, hF.opv hx, Instr.loadAt, Instr.sureAddr, loadVar, ha, hc]) k
end
/-! At the law: back to the memory of an earlier place. -/
theorem Le.reset {Y M M1 : Nat → Prop} {ws w w' : World} (hl : Le ws M w M1) (hb : BX Y w w') (hY : ∀ b, Y b → ws.heap.size ≤ b) : Le ws M w' M :=
  ⟨Nat.le_trans hl.size hb.size, fun b hbs hm => (hb.block b (Nat.lt_of_lt_of_le hbs hl.size) (fun e => by have := hY b e; omega)).trans (hl.keep b hbs hm), fun _ _ h => h⟩
theorem Cx.reset {Y X M M0 Ms : Nat → Prop} {w0 ws w w' : World} (hs : Cx X w0 M0 ws Ms) (hn : Cx X w0 M0 w M) (hb : BX Y w w') (hY : ∀ b, Y b → w0.heap.size ≤ b) (hsz : ws.heap.size ≤ w'.heap.size) : Cx X w0 M0 w' Ms :=
  ⟨(hn.go hb fun b e => .inl (hY b e)).bx, fun b e => Nat.lt_of_lt_of_le (hs.old b e) hsz, hs.sup, hs.xm, hs.lo⟩
end Go.PF
