/- Rows that may be written over, and data whose numbers are not known any more; no condition. -/
import Derived.Test.YtbnndochnkkllaaDoorPFTypes
import Derived.Test.YtbnndochnkkllaaDoorPFMark
import Derived.Test.YtbnndochnkkllaaDoorPFFresh
namespace Go.PF
open Go Go.RowKit

/-- All blocks but those of Y. -/
def NotY (Y : Nat → Prop) : Nat → Prop := fun b => ¬ Y b
def UFz (Y : Nat → Prop) (w : World) : Prop := ∀ b, Y b → b < w.heap.size ∧ ∀ a : Addr, a.block = b → w.frozen? a = false
/-- w' is w but for numbers that were written over in the blocks of Y. -/
structure MK (Y : Nat → Prop) (w w' : World) : Prop where
  bx : BX Y w w'
  kin : Kin w w'
  fz : ∀ b, b < w.heap.size → ∀ a : Addr, a.block = b → w'.frozen? a = w.frozen? a
theorem frz_block {w w' : World} {b : Nat} (h : w'.heap[b]? = w.heap[b]?) {a : Addr} (ha : a.block = b) : w'.frozen? a = w.frozen? a := World.frozen?_of_block (by rw [ha]; exact h)
section
variable {Y : Nat → Prop} {w w' w'' : World}
theorem MK.refl (Y : Nat → Prop) (w : World) : MK Y w w := ⟨BX.refl _ _, Kin.refl _, fun _ _ _ _ => rfl⟩
theorem MK.trans (h : MK Y w w') (k : MK Y w' w'') : MK Y w w'' := ⟨h.bx.trans k.bx, h.kin.trans k.kin, fun b hb a ha => (k.fz b (Nat.lt_of_lt_of_le hb h.bx.size) a ha).trans (h.fz b hb a ha)⟩
theorem MK.no (hb : BX No w w') : MK Y w w' := ⟨hb.no_to, ⟨hb.size, fun p u hu => ⟨u, by
  have hp : p.block < w.heap.size := by
    rcases Nat.lt_or_ge p.block w.heap.size with h | h
    · exact h
    · rw [World.cell?, Array.getElem?_eq_none h] at hu; cases hu
  rw [World.cell?_of_block (hb.block p.block hp (fun e => e))]; exact hu, .refl u⟩⟩, fun b hbs a ha => frz_block (hb.block b hbs (fun e => e)) ha⟩
theorem UFz.mk (h : UFz Y w) (k : MK Y w w') : UFz Y w' := fun b hb => ⟨Nat.lt_of_lt_of_le (h b hb).1 k.bx.size, fun a ha => (k.fz b (h b hb).1 a ha).trans ((h b hb).2 a ha)⟩
theorem UFz.no (h : UFz Y w) (hb : BX No w w') : UFz Y w' := h.mk (.no hb)
end
/-- Numbers written over change no shape. -/
def KnA {α : Type} (R : RTy α) : Prop := ∀ {w w' : World} {M : Nat → Prop} {x : α} {vs vs' : List Value}, R.rep w M x vs → Kin w w' → KdL vs vs' → R.rep w' M x vs'
def RIntA : RTy Int where
  size := 1
  agg := false
  rep _ _ _ vs := ∃ i, vs = [.int .i64 i]
  len := by rintro _ _ _ _ ⟨i, rfl⟩; rfl
  flat := by rintro _ _ _ _ ⟨i, rfl⟩; simp [Value.oneCell']
  one _ := rfl
  mono _ h := h
def RBoolA : RTy Bool where
  size := 1
  agg := false
  rep _ _ _ vs := ∃ i, vs = [.bool i]
  len := by rintro _ _ _ _ ⟨i, rfl⟩; rfl
  flat := by rintro _ _ _ _ ⟨i, rfl⟩; simp [Value.oneCell']
  one _ := rfl
  mono _ h := h
theorem KnA.int : KnA RIntA := by
  rintro w w' M x vs vs' ⟨i, rfl⟩ _ hk
  match vs', hk with
  | [v], hk =>
    rcases hk.1 with rfl | ⟨a, j, _, rfl⟩ | ⟨a, b, e, _⟩
    · exact ⟨i, rfl⟩
    · exact ⟨j, rfl⟩
    · cases e
theorem KnA.bool : KnA RBoolA := by
  rintro w w' M x vs vs' ⟨i, rfl⟩ _ hk
  match vs', hk with
  | [v], hk =>
    rcases hk.1 with rfl | ⟨a, j, e, _⟩ | ⟨a, b, _, rfl⟩
    · exact ⟨i, rfl⟩
    · cases e
    · exact ⟨b, rfl⟩
theorem KnA.pair {α β : Type} {R : RTy α} {S : RTy β} (hR : KnA R) (hS : KnA S) : KnA (RPair R S) := by
  rintro w w' M x vs vs' ⟨us, ws, rfl, h1, h2⟩ hw hk
  obtain ⟨a, b, rfl, k1, k2⟩ := hk.split
  exact ⟨a, b, rfl, hR h1 hw k1, hS h2 hw k2⟩
theorem KnA.iso {α β : Type} {R : RTy β} (h : KnA R) (f : α → β) : KnA (RIso R f) := fun hr hw hk => h hr hw hk
theorem KnA.all {α : Type} {R : RTy α} (h : KnA R) {w w' : World} {M : Nat → Prop} (hw : Kin w w') : ∀ {xs : List α} {vs vs' : List Value}, RepAll R w M xs vs → KdL vs vs' → RepAll R w' M xs vs'
  | [], vs, vs', hr, hk => by
    obtain rfl : vs = [] := hr
    match vs', hk with
    | [], _ => rfl
  | x :: xs, vs, vs', hr, hk => by
    obtain ⟨us, ws, rfl, h1, h2⟩ := hr
    obtain ⟨a, b, rfl, k1, k2⟩ := hk.split
    exact ⟨a, b, rfl, h h1 hw k1, KnA.all h hw h2 k2⟩
theorem KnA.slice {α : Type} {R : RTy α} (h : KnA R) : KnA (RSlice R) := by
  rintro w w' M xs vs vs' ⟨B, cap, rfl, h1, h2, h3⟩ hw hk
  match vs', hk with
  | [v], hk =>
    rcases hk.1 with rfl | ⟨i, j, e, _⟩ | ⟨a, b, e, _⟩
    · refine ⟨B, cap, rfl, h1, h2, fun hx => ?_⟩
      obtain ⟨p, rfl, hm, hb, us, hr, hc⟩ := h3 hx
      obtain ⟨us', hk', hc'⟩ := hw.cells (p := p) 0 (us := us) (fun j u hu => by rw [Nat.zero_add]; exact hc j u hu)
      exact ⟨p, rfl, hm, Nat.lt_of_lt_of_le hb hw.size, us', h.all hw hr hk', fun j u hu => by have := hc' j u hu; rwa [Nat.zero_add] at this⟩
    · cases e
    · cases e
theorem KnA.vrep {α : Type} {R : RTy α} (h : KnA R) {w w' : World} {M : Nat → Prop} {x : α} {v : Value} (hw : Kin w w') (hv : VRep R w M x v) : VRep R w' M x v := by
  obtain ⟨vs, hr, rfl⟩ := hv
  exact ⟨vs, h hr hw (KdL.refl vs), rfl⟩
/-- The row of v lies in F, may be written and is not of M. -/
def UB (F : Nat → Prop) (w : World) (M : Nat → Prop) (v : Value) : Prop := ∀ b, v.ownBlock = some b → F b ∧ ¬ M b ∧ b < w.heap.size ∧ ∀ a : Addr, a.block = b → w.frozen? a = false
theorem UB.mono {F : Nat → Prop} {w w' : World} {M M' : Nat → Prop} {v : Value} (hl : Le w M w' M') (h : UB F w M v) : UB F w' M' v := fun b hb => by
  obtain ⟨h1, h2, h3, h4⟩ := h b hb
  exact ⟨h1, hl.not h3 h2, Nat.lt_of_lt_of_le h3 hl.size, fun a ha => (frz_block (hl.keep b h3 h2) ha).trans (h4 a ha)⟩
/-- A slice whose row lies in F and may be written. -/
def RSliceU {α : Type} (F : Nat → Prop) (R : RTy α) : RTy (List α) where
  size := 1
  agg := false
  rep w M xs vs := (RSlice R).rep w M xs vs ∧ ∀ v ∈ vs, UB F w M v
  len h := (RSlice R).len h.1
  flat h := (RSlice R).flat h.1
  one _ := rfl
  mono hl h := ⟨(RSlice R).mono hl h.1, fun v hv => (h.2 v hv).mono hl⟩
theorem vsliceU_nil {α : Type} {F : Nat → Prop} {R : RTy α} {w : World} {M : Nat → Prop} : VRep (RSliceU F R) w M [] (.slice none 0 0) :=
  ⟨_, ⟨⟨none, 0, rfl, Nat.le_refl _, Nat.zero_le _, fun h => absurd rfl h⟩, fun v hv b hb => by
    rw [List.mem_singleton.1 hv] at hb
    cases hb⟩, rfl⟩
theorem vsliceU_shape {α : Type} {F : Nat → Prop} {R : RTy α} {w : World} {M : Nat → Prop} {xs : List α} {v : Value} (h : VRep (RSliceU F R) w M xs v) : ∃ A cap, v = .slice A xs.length cap ∧ True := by
  obtain ⟨vs, ⟨⟨A, cap, rfl, _⟩, _⟩, rfl⟩ := h
  exact ⟨A, cap, rfl, trivial⟩
theorem OwnRow.freezeU {α : Type} {R : RTy α} {B T : Nat} {w : World} {M M' F : Nat → Prop} {xs : List α} {v : Value} (h : OwnRow R B T w M xs v) (hl : Le w M w M') (hn : ∀ g, v.ownBlock = some g → ¬ M' g) (hF : ∀ b, B ≤ b → F b) : VRep (RSliceU F R) w M' xs v := by
  obtain ⟨vs, hr, e⟩ := h.freeze hl hn
  refine ⟨vs, ⟨hr, fun u hu b hb => ?_⟩, e⟩
  obtain ⟨A, cap, rfl, _⟩ := hr
  rw [List.mem_singleton.1 hu] at hb
  have hv : v.ownBlock = some b := by rw [e]; exact hb
  have hblk := h.block hv
  refine ⟨hF b hblk.1, hn b hv, hblk.2, fun a ha => ?_⟩
  obtain ⟨cells, ⟨_, h2⟩, _, _⟩ := h
  rcases h2 with ⟨rfl, _⟩ | ⟨g, cap, cur, rfl, _, hh, _⟩
  · simp [Value.ownBlock] at hv
  · simp only [Value.ownBlock, Option.some.injEq] at hv
    subst hv
    simp [World.frozen?, ha, hh]
theorem OwnRow.freezeBackU {α : Type} {R : RTy α} {T : Nat} {w0 w : World} {M0 M X F : Nat → Prop} {xs : List α} {v : Value} (h : OwnRow R w0.heap.size T w M xs v) (hC : Cx X w0 M0 w M) (h0 : ∀ b, M0 b → b < w0.heap.size) (hF : ∀ b, w0.heap.size ≤ b → F b) : VRep (RSliceU F R) w M0 xs v :=
  h.freezeU hC.back (fun g e hm => by have := (h.block e).1; have := h0 g hm; omega) hF
/-- R says more than S. -/
def Fg {α : Type} (R S : RTy α) : Prop := R.agg = S.agg ∧ ∀ {w M x vs}, R.rep w M x vs → S.rep w M x vs
theorem Fg.refl {α : Type} (R : RTy α) : Fg R R := ⟨rfl, fun h => h⟩
theorem Fg.pair {α β : Type} {R R' : RTy α} {S S' : RTy β} (h : Fg R R') (k : Fg S S') : Fg (RPair R S) (RPair R' S') := ⟨rfl, fun ⟨us, ws, e, h1, h2⟩ => ⟨us, ws, e, h.2 h1, k.2 h2⟩⟩
theorem Fg.iso {α β : Type} {R S : RTy β} (h : Fg R S) (f : α → β) : Fg (RIso R f) (RIso S f) := ⟨rfl, fun hr => h.2 hr⟩
theorem Fg.all {α : Type} {R S : RTy α} (h : Fg R S) {w : World} {M : Nat → Prop} : ∀ {xs : List α} {vs : List Value}, RepAll R w M xs vs → RepAll S w M xs vs
  | [], _, hr => hr
  | _ :: _, _, ⟨us, ws, e, h1, h2⟩ => ⟨us, ws, e, h.2 h1, Fg.all h h2⟩
theorem Fg.slice {α : Type} {F : Nat → Prop} {R S : RTy α} (h : Fg R S) : Fg (RSliceU F R) (RSlice S) := ⟨rfl, fun ⟨⟨A, cap, e, h1, h2, h3⟩, _⟩ => ⟨A, cap, e, h1, h2, fun hx => let ⟨p, e, hm, hb, us, hr, hc⟩ := h3 hx; ⟨p, e, hm, hb, us, h.all hr, hc⟩⟩⟩
theorem Fg.vrep {α : Type} {R S : RTy α} (h : Fg R S) {w : World} {M : Nat → Prop} {x : α} {v : Value} (hv : VRep R w M x v) : VRep S w M x v := by
  obtain ⟨vs, hr, e⟩ := hv
  exact ⟨vs, h.2 hr, by rw [e]; unfold RTy.pack; rw [h.1]⟩
/-- The blocks of F that may be written. -/
def YF (F : Nat → Prop) (w : World) : Nat → Prop := fun b => F b ∧ b < w.heap.size ∧ ∀ a : Addr, a.block = b → w.frozen? a = false
theorem UFz.yf (F : Nat → Prop) (w : World) : UFz (YF F w) w := fun _ h => ⟨h.2.1, h.2.2⟩
/-- The data lie in blocks of F that may be written. -/
def Wd {α : Type} (F : Nat → Prop) (R S : RTy α) : Prop := R.agg = S.agg ∧ ∀ {w M x vs}, R.rep w M x vs → S.rep w (NotY (YF F w)) x vs
section
variable {F : Nat → Prop}
theorem Wd.int : Wd F RInt RIntA := ⟨rfl, fun h => ⟨_, h⟩⟩
theorem Wd.bool : Wd F RBool RBoolA := ⟨rfl, fun h => ⟨_, h⟩⟩
theorem Wd.pair {α β : Type} {R R' : RTy α} {S S' : RTy β} (h : Wd F R R') (k : Wd F S S') : Wd F (RPair R S) (RPair R' S') := ⟨rfl, fun ⟨us, ws, e, h1, h2⟩ => ⟨us, ws, e, h.2 h1, k.2 h2⟩⟩
theorem Wd.iso {α β : Type} {R S : RTy β} (h : Wd F R S) (f : α → β) : Wd F (RIso R f) (RIso S f) := ⟨rfl, fun hr => h.2 hr⟩
theorem Wd.all {α : Type} {R S : RTy α} (h : Wd F R S) {w : World} {M : Nat → Prop} : ∀ {xs : List α} {vs : List Value}, RepAll R w M xs vs → RepAll S w (NotY (YF F w)) xs vs
  | [], _, hr => hr
  | _ :: _, _, ⟨us, ws, e, h1, h2⟩ => ⟨us, ws, e, h.2 h1, Wd.all h h2⟩
theorem Wd.slice {α : Type} {R S : RTy α} (h : Wd F R S) : Wd F (RSliceU F R) (RSlice S) := ⟨rfl, by
  rintro w M xs vs ⟨⟨A, cap, rfl, h1, h2, h3⟩, hu⟩
  refine ⟨A, cap, rfl, h1, h2, fun hx => ?_⟩
  obtain ⟨p, rfl, hm, hb, us, hr, hc⟩ := h3 hx
  have h4 := hu _ (List.mem_singleton.2 rfl) p.block rfl
  exact ⟨p, rfl, fun hn => hn ⟨h4.1, h4.2.2.1, h4.2.2.2⟩, hb, us, h.all hr, hc⟩⟩
theorem Wd.vrep {α : Type} {R S : RTy α} (h : Wd F R S) {w : World} {M : Nat → Prop} {x : α} {v : Value} (hv : VRep R w M x v) : VRep S w (NotY (YF F w)) x v := by
  obtain ⟨vs, hr, e⟩ := hv
  exact ⟨vs, h.2 hr, by rw [e]; unfold RTy.pack; rw [h.1]⟩
end
section
variable {P : Program} {Q : Exit → Act → World → Prop} {n : Nat} {E : List (Nat × Value)} {w : World} {Y : Nat → Prop} {o : Oper} {K : Value → World → Prop} {α : Type}
/-- A number is written over one. -/
theorem ow_storeK {R : RTy α} {x y : Operand} {t : TypeId} {d : α} {p : Addr} {v : Value} (hop : o.op = .store t x y) (hx : opv E x = some (.pointer (some p))) (hy : opv E y = some v) (hA : ARep R w (NotY Y) d p) (h1 : R.size = 1) (hk : ∀ u, R.rep w (NotY Y) d [u] → Kd u v) (hv : v.cells = #[v]) (h1v : v.oneCell' = true)
    (hs : (sizeOf t).run P w = .ok 1 w) (hU : UFz Y w) (k : ∀ w', MK Y w w' → K undef w') : OW P o n E w K Q := by
  obtain ⟨hm, hb, vs, hr, hc⟩ := hA
  have hl := R.len hr
  rw [h1] at hl
  match vs, hl with
  | [u], _ =>
    have hcu : w.cell? p = some u := hc 0 u rfl
    have hYp : Y p.block := Classical.byContradiction hm
    have hfz := (hU _ hYp).2 p rfl
    have hkd := hk u hr
    refine ow_runs (w' := w.setCell p v) (fun a ha => ?_) (k _ ⟨⟨rfl, rfl, rfl, by simp, fun b _ hn => Below.heap_setCell w p v b (fun e => hn (e ▸ hYp))⟩, ⟨by simp, fun q c hq => ?_⟩, fun b hbs a ha => ?_⟩)
    · have e0 : p.add 0 = p := rfl
      have hsz : v.cells.size = 1 := by rw [hv]; rfl
      have hr2 : (storeCells p [v] 0).run P w = .ok () (w.setCell p v) := by
        rw [show storeCells p [v] 0 = (do store (Addr.add p 0) v; storeCells p [] 1) from rfl]
        simp only [Sem.run_bind, e0]
        rw [run_store P w p v _ h1v, hcu]
        simp only [hfz, Bool.false_eq_true, if_false, Result.andThen_ok]
        rfl
      have hvl : v.cells.toList = [v] := by rw [hv]
      simp [execOp, hop, ha.opv hx, ha.opv hy, Instr.storeAt, Instr.sureAddr, storeVar, hs, hsz, hvl, hr2]
    · by_cases e : p = q
      · subst e
        rw [hcu] at hq
        obtain rfl := Option.some.inj hq
        exact ⟨v, World.cell?_setCell_same (w := w) (a := p) (v := v) hcu, hkd⟩
      · exact ⟨c, by rw [World.cell?_setCell_other (w := w) (a := p) (b := q) (v := v) e]; exact hq, .refl c⟩
    · unfold World.frozen? World.setCell
      simp only [Array.getElem?_modify]
      by_cases h : p.block = a.block
      · rw [if_pos h]
        cases hh : w.heap[a.block]? with
        | none => rfl
        | some ob => cases ob <;> rfl
      · rw [if_neg h]
theorem kd_int {w : World} {M : Nat → Prop} {d j : Int} (u : Value) (h : RIntA.rep w M d [u]) : Kd u (.int .i64 j) := by
  obtain ⟨i, e⟩ := h
  exact .inr (.inl ⟨i, j, by simpa using e, rfl⟩)
theorem kd_bool {w : World} {M : Nat → Prop} {d j : Bool} (u : Value) (h : RBoolA.rep w M d [u]) : Kd u (.bool j) := by
  obtain ⟨i, e⟩ := h
  exact .inr (.inr ⟨i, j, by simpa using e, rfl⟩)
end
section
variable {P : Program} {Q : Exit → Act → World → Prop} {n : Nat} {E : List (Nat × Value)} {w w0 : World} {M M0 X : Nat → Prop} {o : Oper} {K : Value → World → Prop} {α β : Type}
theorem ow_storeElX {R : RTy α} {S : RTy β} {x z : Operand} {t e B g off : Nat} {set : α → β → α} {xs : List α} {v u : Value} {p : Addr} {j : Int} {y : α} {y' : β} (hop : o.op = .store t x z) (hx : opv E x = some (.pointer (some p))) (hp : p = ⟨g, j.toNat * R.size + off, none⟩)
    (hz : opv E z = some u) (hv : OwnRow R B e w M xs v) (hg : v.ownBlock = some g) (hj : idx xs j = some y) (hf : FldSet R off S set) (hs : (sizeOf t).run P w = .ok S.size w) (hy' : VRep S w M y' u) (hgX : ∀ b, v.ownBlock = some b → w0.heap.size ≤ b ∨ X b) (hC : Cx X w0 M0 w M)
    (k : ∀ w', OwnRow R B e w' M (xs.set j.toNat (set y y')) v → BX (One g) w w' → Le w M w' M → Cx X w0 M0 w' M → K undef w') : OW P o n E w K Q := by
  obtain ⟨m, rfl, hml, hy⟩ := idx_some hj
  simp only [Int.toNat_natCast] at hp k
  obtain ⟨cap, cur, rfl, ho, hcap, hmax, hsz, hBg, hMg, hr⟩ := hv.cur hg
  have hrv := hy'.cells
  have hl := S.len hrv
  have hset := hf _ _ _ _ _ _ (hr.at_ hy) hrv
  have hmS : m * R.size + R.size ≤ xs.length * R.size := by rw [← Nat.succ_mul]; exact Nat.mul_le_mul_right _ hml
  have hxs : xs.length * R.size ≤ cur.size := by rw [hsz]; exact Nat.mul_le_mul_right _ hcap
  have hfit : m * R.size + off + S.size ≤ cur.size := by have := hset.2; omega
  refine ow_store (us := u.cells.toList) (cs' := splice cur (m * R.size + off) u.cells.toList) hop hx hp hz ho hs rfl hl (Nat.ble_eq_true_of_le hfit) (List.all_eq_true.2 (S.flat hrv)) hMg (hgX g rfl) rfl hC fun w' ho' hb hle hC' => k w' ⟨_, ⟨?_, .inr ⟨g, cap, _, by rw [List.length_set], hBg, ho', by rw [List.length_set]; exact hcap, hmax, by rw [splice_size, hsz], rfl⟩⟩, ?_, fun g' e' => by simp only [Value.ownBlock, Option.some.injEq] at e'; exact e' ▸ hMg⟩ hb hle hC'
  · have hs2 : (splice cur (m * R.size + off) u.cells.toList).toList.length = cur.size := by simp [splice_size]
    rw [List.length_set, List.length_take, hs2]; omega
  · have key := (hr.mono hle).set (R.mono hle hset.1) hml
    rw [List.length_set, splice_get _ _ _ (by omega), hl]
    refine (Eq.mp (congrArg (RepAll R w' M (xs.set m (set y y'))) ?_) key)
    rw [Nat.succ_mul]
    rw [← hl]
    exact (splice_take (by rw [hl]; exact hset.2) (by omega) (by simpa using hxs)).symm
end
/-! ## At the law: what stays when the argument's numbers are written over -/
def MY (M Y : Nat → Prop) : Nat → Prop := fun b => M b ∨ Y b
section
variable {Y X M M0 M1 : Nat → Prop} {ws w w' w0 : World}
theorem Le.mark (hl : Le ws M w M1) (hb : BX Y w w') (hY : ∀ b, Y b → ws.heap.size ≤ b) : Le ws M w' (MY M1 Y) :=
  ⟨Nat.le_trans hl.size hb.size, fun b hbs hm => (hb.block b (Nat.lt_of_lt_of_le hbs hl.size) (fun e => by have := hY b e; omega)).trans (hl.keep b hbs hm), fun b hbs hm => hm.elim (hl.old b hbs) fun e => by have := hY b e; omega⟩
theorem Cx.mark (hC : Cx X w0 M0 w M) (hb : BX Y w w') (hU : UFz Y w) (hY : ∀ b, Y b → w0.heap.size ≤ b) : Cx X w0 M0 w' (MY M Y) :=
  let hC' := hC.go hb fun b e => .inl (hY b e)
  ⟨hC'.bx, fun b e => e.elim (hC'.old b) fun e => Nat.lt_of_lt_of_le (hU b e).1 hb.size, fun b e => .inl (hC'.sup b e), fun b e => .inl (hC'.xm b e), fun b e => e.elim (hC'.lo b) fun e => .inr (hY b e)⟩
theorem OwnRow.mark {α : Type} {R : RTy α} {B T : Nat} {xs : List α} {v : Value} (h : OwnRow R B T w M xs v) (hR : ∀ w w' M M' x vs, R.rep w M x vs → R.rep w' M' x vs) (hb : BX Y w w') (hn : ∀ b, v.ownBlock = some b → ¬ Y b) : OwnRow R B T w' (MY M Y) xs v := by
  obtain ⟨cells, h1, h2, h3⟩ := h
  refine ⟨cells, ownsRow_go h1 hb hn, ?_, fun g e => .inl (h3 g e)⟩
  clear h1 h3
  induction xs generalizing cells with
  | nil => exact h2
  | cons x xs ih =>
    obtain ⟨us, ws, e, h1, h2⟩ := h2
    exact ⟨us, ws, e, hR _ _ _ _ _ _ h1, ih ws h2⟩
/-- The wild data of another block set stay. -/
theorem VRep.other {α : Type} {R : RTy α} {Y' : Nat → Prop} {x : α} {v : Value} (h : VRep R w (NotY Y') x v) (hb : BX Y w w') (hd : ∀ b, Y b → ¬ Y' b) : VRep R w' (NotY Y') x v := VRep.mono (Le.of_bx _ hb hd) h
theorem UFz.other {Y' : Nat → Prop} (h : UFz Y' w) (hb : BX Y w w') (hd : ∀ b, Y b → ¬ Y' b) : UFz Y' w' := fun b e =>
  ⟨Nat.lt_of_lt_of_le (h b e).1 hb.size, fun a ha => (frz_block (hb.block b (h b e).1 (fun y => hd b y e)) ha).trans ((h b e).2 a ha)⟩
end

def RTestA : RTy Test := RIso (RPair RIntA (RPair RIntA (RPair RIntA RBoolA))) fun x => (x.Field, x.Lo, x.Hi, x.Not)
theorem fldA_Test_Field : Fld RTestA 0 RIntA Test.Field := Fld.iso (Fld.fst RIntA (RPair RIntA (RPair RIntA RBoolA))) _
theorem fldA_Test_Lo : Fld RTestA 1 RIntA Test.Lo := Fld.iso (Fld.comp (Fld.snd RIntA (RPair RIntA (RPair RIntA RBoolA))) (Fld.fst RIntA (RPair RIntA RBoolA)) (by decide)) _
theorem fldA_Test_Hi : Fld RTestA 2 RIntA Test.Hi := Fld.iso (Fld.comp (Fld.snd RIntA (RPair RIntA (RPair RIntA RBoolA))) (Fld.comp (Fld.snd RIntA (RPair RIntA RBoolA)) (Fld.fst RIntA RBoolA) (by decide)) (by decide)) _
theorem fldA_Test_Not : Fld RTestA 3 RBoolA Test.Not := Fld.iso (Fld.comp (Fld.snd RIntA (RPair RIntA (RPair RIntA RBoolA))) (Fld.comp (Fld.snd RIntA (RPair RIntA RBoolA)) (Fld.snd RIntA RBoolA) (by decide)) (by decide)) _
theorem knA_Test : KnA RTestA := KnA.iso (KnA.pair KnA.int (KnA.pair KnA.int (KnA.pair KnA.int KnA.bool))) _
theorem wd_Test {F : Nat → Prop} : Wd F RTest RTestA := Wd.iso (Wd.pair Wd.int (Wd.pair Wd.int (Wd.pair Wd.int Wd.bool))) _
def RRuleA : RTy Rule := RIso (RPair (RSlice RTestA) (RPair RIntA RIntA)) fun x => (x.Tests, x.Action, x.Chain)
theorem fldA_Rule_Tests : Fld RRuleA 0 (RSlice RTestA) Rule.Tests := Fld.iso (Fld.fst (RSlice RTestA) (RPair RIntA RIntA)) _
theorem fldA_Rule_Action : Fld RRuleA 1 RIntA Rule.Action := Fld.iso (Fld.comp (Fld.snd (RSlice RTestA) (RPair RIntA RIntA)) (Fld.fst RIntA RIntA) (by decide)) _
theorem fldA_Rule_Chain : Fld RRuleA 2 RIntA Rule.Chain := Fld.iso (Fld.comp (Fld.snd (RSlice RTestA) (RPair RIntA RIntA)) (Fld.snd RIntA RIntA) (by decide)) _
theorem knA_Rule : KnA RRuleA := KnA.iso (KnA.pair (KnA.slice knA_Test) (KnA.pair KnA.int KnA.int)) _
def RRuleU (F : Nat → Prop) : RTy Rule := RIso (RPair (RSliceU F RTest) (RPair RInt RInt)) fun x => (x.Tests, x.Action, x.Chain)
theorem fg_Rule {F : Nat → Prop} : Fg (RRuleU F) RRule := Fg.iso (Fg.pair (Fg.slice (Fg.refl RTest)) (Fg.pair (Fg.refl RInt) (Fg.refl RInt))) _
theorem wd_Rule {F : Nat → Prop} : Wd F (RRuleU F) RRuleA := Wd.iso (Wd.pair (Wd.slice wd_Test) (Wd.pair Wd.int Wd.int)) _
def RRulesetA : RTy Ruleset := RIso (RPair (RSlice (RSlice RRuleA)) RBoolA) fun x => (x.Chains, x.Accept)
def RRulesetU (F : Nat → Prop) : RTy Ruleset := RIso (RPair (RSliceU F (RSliceU F (RRuleU F))) RBool) fun x => (x.Chains, x.Accept)
theorem fg_Ruleset {F : Nat → Prop} : Fg (RRulesetU F) RRuleset := Fg.iso (Fg.pair (Fg.slice (Fg.slice fg_Rule)) (Fg.refl RBool)) _
theorem wd_Ruleset {F : Nat → Prop} : Wd F (RRulesetU F) RRulesetA := Wd.iso (Wd.pair (Wd.slice (Wd.slice wd_Rule)) Wd.bool) _
theorem shutU_Rule {F : Nat → Prop} {w : World} {M : Nat → Prop} {fTests : List Test} {A0 : Option Addr} {n0 c0 : Nat} (h0 : VRep (RSliceU F RTest) w M fTests (.slice A0 n0 c0)) {fAction : Int} {fChain : Int} : VRep (RRuleU F) w M { Tests := fTests, Action := fAction, Chain := fChain } (.agg #[.slice A0 n0 c0, .int .i64 fAction, .int .i64 fChain]) := ⟨[.slice A0 n0 c0, .int .i64 fAction, .int .i64 fChain], ⟨_, _, rfl, h0.cells, ⟨_, _, rfl, rfl, rfl⟩⟩, rfl⟩
theorem shutU_Ruleset {F : Nat → Prop} {w : World} {M : Nat → Prop} {fChains : List (List Rule)} {A0 : Option Addr} {n0 c0 : Nat} (h0 : VRep (RSliceU F (RSliceU F (RRuleU F))) w M fChains (.slice A0 n0 c0)) {fAccept : Bool} : VRep (RRulesetU F) w M { Chains := fChains, Accept := fAccept } (.agg #[.slice A0 n0 c0, .bool fAccept]) := ⟨[.slice A0 n0 c0, .bool fAccept], ⟨_, _, rfl, h0.cells, rfl⟩, rfl⟩
theorem openA_Ruleset {w : World} {M : Nat → Prop} {x : Ruleset} {v : Value} (h : VRep RRulesetA w M x v) : ∃ A0 c0 b, v = .agg #[.slice A0 x.Chains.length c0, .bool b] ∧ VRep (RSlice (RSlice RRuleA)) w M x.Chains (.slice A0 x.Chains.length c0) := by
  obtain ⟨vs, hr, rfl⟩ := h
  obtain ⟨_, _, rfl, ⟨A0, c0, rfl, p0, q0, r0⟩, ⟨b, rfl⟩⟩ := hr
  exact ⟨A0, c0, b, rfl, ⟨_, ⟨A0, c0, rfl, p0, q0, r0⟩, rfl⟩⟩
theorem set_Visit_Chain : FldSet RVisit 0 RInt (fun x y => { x with Chain := y }) := fun w M x y vs us h1 h2 => by
  obtain ⟨_, _, rfl, rfl, rfl⟩ := h1
  obtain rfl : us = [.int .i64 y] := h2
  exact ⟨⟨[.int .i64 y], [.int .i64 x.Place], rfl, rfl, rfl⟩, by decide⟩
theorem set_Visit_Place : FldSet RVisit 1 RInt (fun x y => { x with Place := y }) := fun w M x y vs us h1 h2 => by
  obtain ⟨_, _, rfl, rfl, rfl⟩ := h1
  obtain rfl : us = [.int .i64 y] := h2
  exact ⟨⟨[.int .i64 x.Chain], [.int .i64 y], rfl, rfl, rfl⟩, by decide⟩
end Go.PF
