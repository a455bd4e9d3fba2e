/- Memory of the call's own: variables that are written, rows that grow; no condition. -/
import Derived.Test.YtgglogmjjaahhaaDoorPFOps
import Derived.Laws.MakeOwn
namespace Go.PF
open Go Go.RowKit

/-- w' is w but for new blocks and for what lies in the blocks of Y. -/
structure BX (Y : Nat → Prop) (w w' : World) : Prop where
  os : w'.os = w.os
  tape : w'.tape = w.tape
  output : w'.output = w.output
  size : w.heap.size ≤ w'.heap.size
  block : ∀ k, k < w.heap.size → ¬ Y k → w'.heap[k]? = w.heap[k]?
def No : Nat → Prop := fun _ => False
def One (g : Nat) : Nat → Prop := fun b => b = g
/-- M and block g. -/
def Add (g : Nat) (M : Nat → Prop) : Nat → Prop := fun b => b = g ∨ M b
/-- M without the row that v lies in. -/
def Del (v : Value) (M : Nat → Prop) : Nat → Prop := fun b => M b ∧ v.ownBlock ≠ some b
section
variable {X Y : Nat → Prop} {w w' w'' : World}
theorem BX.refl (Y : Nat → Prop) (w : World) : BX Y w w := ⟨rfl, rfl, rfl, Nat.le_refl _, fun _ _ _ => rfl⟩
theorem BX.trans (h : BX Y w w') (k : BX Y w' w'') : BX Y w w'' :=
  ⟨k.os.trans h.os, k.tape.trans h.tape, k.output.trans h.output, Nat.le_trans h.size k.size, fun i hi hn => (k.block i (Nat.lt_of_lt_of_le hi h.size) hn).trans (h.block i hi hn)⟩
theorem BX.mono (h : BX Y w w') (hY : ∀ b, b < w.heap.size → Y b → X b) : BX X w w' := ⟨h.os, h.tape, h.output, h.size, fun k hk hn => h.block k hk (fun e => hn (hY k hk e))⟩
theorem BX.alloc (w : World) (ob : Obj) : BX No w (w.alloc ob) := ⟨rfl, rfl, rfl, by simp, fun k hk _ => Below.heap_alloc _ _ _ hk⟩
theorem BX.drew (w : World) : BX No w w.drew := ⟨rfl, rfl, rfl, Nat.le_refl _, fun _ _ _ => rfl⟩
theorem BX.set (w : World) (g i : Nat) (u : Value) : BX (One g) w (w.setCell ⟨g, i, none⟩ u) := ⟨rfl, rfl, rfl, by simp, fun k _ hn => Below.heap_setCell w ⟨g, i, none⟩ u k hn⟩
theorem BX.below (h : BX No w w') : Below w.heap.size w w' := ⟨h.os, h.tape, h.output, h.size, fun k hk => h.block k hk (fun e => e)⟩
end

/-- How a call stands that began in w0 with M0 and may write the blocks X of its caller's. -/
structure Cx (X : Nat → Prop) (w0 : World) (M0 : Nat → Prop) (w : World) (M : Nat → Prop) : Prop where
  bx : BX X w0 w
  old : ∀ b, M b → b < w.heap.size
  sup : ∀ b, M0 b → M b
  xm : ∀ b, X b → M b
  lo : ∀ b, M b → M0 b ∨ w0.heap.size ≤ b
section
variable {X Y : Nat → Prop} {w0 w w' : World} {M0 M M' : Nat → Prop} {g : Nat}
theorem Cx.start (hM : ∀ b, M0 b → b < w0.heap.size) (hX : ∀ b, X b → M0 b) : Cx X w0 M0 w0 M0 := ⟨BX.refl _ _, hM, fun _ h => h, hX, fun _ h => .inl h⟩
theorem Cx.go (h : Cx X w0 M0 w M) (hb : BX Y w w') (hY : ∀ b, Y b → w0.heap.size ≤ b ∨ X b) : Cx X w0 M0 w' M :=
  ⟨⟨hb.os.trans h.bx.os, hb.tape.trans h.bx.tape, hb.output.trans h.bx.output, Nat.le_trans h.bx.size hb.size, fun k hk hn =>
      (hb.block k (Nat.lt_of_lt_of_le hk h.bx.size) (fun hy => by
        rcases hY k hy with h1 | h1
        · omega
        · exact hn h1)).trans (h.bx.block k hk hn)⟩,
    fun b hb' => Nat.lt_of_lt_of_le (h.old b hb') hb.size, h.sup, h.xm, h.lo⟩
theorem Cx.no (h : Cx X w0 M0 w M) (hb : BX No w w') : Cx X w0 M0 w' M := h.go hb (fun _ e => e.elim)
theorem Cx.add (h : Cx X w0 M0 w M) (hg : g < w.heap.size) (h0 : w0.heap.size ≤ g) : Cx X w0 M0 w (Add g M) :=
  ⟨h.bx, fun b hb => by
    rcases hb with rfl | hb
    · exact hg
    · exact h.old b hb, fun b hb => .inr (h.sup b hb), fun b hb => .inr (h.xm b hb), fun b hb => by
    rcases hb with rfl | hb
    · exact .inr h0
    · exact h.lo b hb⟩
theorem Le.of_bx (M : Nat → Prop) (hb : BX Y w w') (hY : ∀ b, Y b → M b) : Le w M w' M := ⟨hb.size, fun b hl hn => hb.block b hl (fun e => hn (hY b e)), fun _ _ h => h⟩
theorem Le.no (M : Nat → Prop) (hb : BX No w w') : Le w M w' M := Le.of_bx M hb (fun _ e => e.elim)
theorem Le.add (h : Le w M w' M') (hg : w.heap.size ≤ g) : Le w M w' (Add g M') := ⟨h.size, h.keep, fun b hb hm => by
  rcases hm with rfl | hm
  · omega
  · exact h.old b hb hm⟩
theorem Le.sub (w : World) {M M' : Nat → Prop} (h : ∀ b, M' b → M b) : Le w M w M' := ⟨Nat.le_refl _, fun _ _ _ => rfl, fun b _ hb => h b hb⟩
/-- Back to the M of the call's beginning. -/
theorem Cx.back (h : Cx X w0 M0 w M) : Le w M w M0 := Le.sub w h.sup
theorem Cx.del (h : Cx X w0 M0 w M) {v : Value} (hv : ∀ b, v.ownBlock = some b → w0.heap.size ≤ b ∧ ¬ X b) (hM0 : ∀ b, M0 b → b < w0.heap.size) : Cx X w0 M0 w (Del v M) :=
  ⟨h.bx, fun b hb => h.old b hb.1, fun b hb => ⟨h.sup b hb, fun e => by have := (hv b e).1; have := hM0 b hb; omega⟩, fun b hb => ⟨h.xm b hb, fun e => (hv b e).2 hb⟩, fun b hb => h.lo b hb.1⟩
theorem Le.del (w : World) (M : Nat → Prop) (v : Value) : Le w M w (Del v M) := Le.sub w fun _ h => h.1
end

/-- Block g is just these cells. -/
def Own (w : World) (g : Nat) (T : TypeId) (cs : Array Value) : Prop := w.heap[g]? = some (.cells cs T (0, 0))
section
variable {X Y : Nat → Prop} {w0 w w' : World} {M0 M M' : Nat → Prop} {g : Nat} {T : TypeId} {cs : Array Value} {α : Type} {R : RTy α}
theorem Own.lt (h : Own w g T cs) : g < w.heap.size := by
  rcases Nat.lt_or_ge g w.heap.size with hlt | hge
  · exact hlt
  · unfold Own at h; rw [Array.getElem?_eq_none hge] at h; cases h
theorem Own.go (h : Own w g T cs) (hb : BX Y w w') (hn : ¬ Y g) : Own w' g T cs := (hb.block g h.lt hn).trans h
theorem Own.no (h : Own w g T cs) (hb : BX No w w') : Own w' g T cs := h.go hb (fun e => e)
theorem Own.cell (h : Own w g T cs) (i : Nat) : w.cell? ⟨g, i, none⟩ = cs[i]? := by unfold Own at h; simp [World.cell?, h]
theorem Own.frozen (h : Own w g T cs) (i : Nat) : w.frozen? ⟨g, i, none⟩ = false := by unfold Own at h; simp [World.frozen?, h]
theorem Own.set (h : Own w g T cs) (i : Nat) (u : Value) : Own (w.setCell ⟨g, i, none⟩ u) g T (cs.setIfInBounds i u) := by
  unfold Own at h ⊢
  simp [World.setCell, Array.getElem?_modify, h]
theorem addr_add (g o j : Nat) : Addr.add ⟨g, o, none⟩ j = ⟨g, o + j, none⟩ := by
  unfold Addr.add
  by_cases h : j = 0
  · subst h; rfl
  · rw [if_neg h]
theorem Own.arep (h : Own w g T cs) {d : α} (hr : R.rep w M d cs.toList) (hM : ¬ M g) : ARep R w M d ⟨g, 0, none⟩ :=
  ⟨hM, h.lt, _, hr, fun j u hu => by rw [addr_add, h.cell]; simpa using hu⟩
theorem own_new (w : World) (cs : Array Value) (T : TypeId) : Own (w.alloc (.cells cs T)) w.heap.size T cs := by
  show (w.heap.push _)[w.heap.size]? = _
  simp
end

/-- The cells with vs from place i on. -/
def splice (cs : Array Value) (i : Nat) : List Value → Array Value
  | [] => cs
  | u :: us => splice (cs.setIfInBounds i u) (i + 1) us
theorem splice_size : ∀ (vs : List Value) (cs : Array Value) (i : Nat), (splice cs i vs).size = cs.size
  | [], _, _ => rfl
  | u :: us, cs, i => by unfold splice; rw [splice_size us]; simp
theorem splice_get : ∀ (vs : List Value) (cs : Array Value) (i : Nat), i + vs.length ≤ cs.size → (splice cs i vs).toList = cs.toList.take i ++ vs ++ cs.toList.drop (i + vs.length)
  | [], cs, i, _ => by simp [splice]
  | u :: us, cs, i, h => by
    unfold splice
    rw [splice_get us _ _ (by simp at h ⊢; omega)]
    simp only [Array.toList_setIfInBounds, List.length_cons] at h ⊢
    have hi : i < cs.toList.length := by simp; omega
    rw [List.take_add_one, List.take_set_of_le (Nat.le_refl _), List.getElem?_set_self hi, List.drop_set_of_lt (by omega)]
    simp [Nat.add_assoc, Nat.add_comm 1]
def setCells (w : World) (g i : Nat) : List Value → World
  | [] => w
  | u :: us => setCells (w.setCell ⟨g, i, none⟩ u) g (i + 1) us
section
variable {P : Program} {g : Nat} {T : TypeId}
theorem setCells_own : ∀ (vs : List Value) (w : World) (cs : Array Value) (i : Nat), Own w g T cs → Own (setCells w g i vs) g T (splice cs i vs)
  | [], _, _, _, h => h
  | u :: us, _, _, i, h => setCells_own us _ _ _ (h.set i u)
theorem setCells_bx : ∀ (vs : List Value) (w : World) (i : Nat), BX (One g) w (setCells w g i vs)
  | [], w, _ => BX.refl _ w
  | u :: us, w, i => (BX.set w g i u).trans (setCells_bx us _ _)
theorem run_storeCells_own : ∀ (vs : List Value) (i o : Nat) (w : World) (cs : Array Value), Own w g T cs → o + i + vs.length ≤ cs.size → (∀ u ∈ vs, u.oneCell' = true) →
    (storeCells ⟨g, o, none⟩ vs i).run P w = .ok () (setCells w g (o + i) vs)
  | [], i, o, w, cs, _, _, _ => rfl
  | u :: us, i, o, w, cs, h, hl, h1 => by
    have hc : w.cell? ⟨g, o + i, none⟩ = some (cs[o + i]'(by simp at hl; omega)) := by
      rw [h.cell]; exact Array.getElem?_eq_getElem _
    have ih := run_storeCells_own us (i + 1) o (w.setCell ⟨g, o + i, none⟩ u) (cs.setIfInBounds (o + i) u) (h.set _ _) (by simp at hl ⊢; omega) (fun x hx => h1 x (by simp [hx]))
    rw [show storeCells ⟨g, o, none⟩ (u :: us) i = (do store (Addr.add ⟨g, o, none⟩ i) u; storeCells ⟨g, o, none⟩ us (i + 1)) from rfl]
    simp only [Sem.run_bind, addr_add]
    rw [run_store P w ⟨g, o + i, none⟩ u _ (h1 u (by simp)), hc]
    simp only [h.frozen, Bool.false_eq_true, if_false, Result.andThen_ok]
    exact ih
end
section
variable {P : Program} {Q : Exit → Act → World → Prop} {n : Nat} {E : List (Nat × Value)} {w w0 : World} {M M0 X : Nat → Prop} {o : Oper} {K : Value → World → Prop} {α β : Type}
theorem arep_new {R : RTy α} {d : α} {v : Value} {t : TypeId} (hv : VRep R w M d v) (hM : ¬ M w.heap.size) : ARep R (w.alloc (.cells v.cells t)) M d ⟨w.heap.size, 0, none⟩ :=
  ⟨hM, by simp, _, R.mono (Le.no M (BX.alloc _ _)) hv.cells, fun j u hu => cell_alloc_row _ _ _ _ _ (by simpa using hu)⟩
/-- A variable that is written once, when it is made. -/
theorem ow_box {R : RTy α} {x : Operand} {t : TypeId} {d : α} {v : Value} (hop : o.op = .box t x) (hx : opv E x = some v) (hv : VRep R w M d v) (hC : Cx X w0 M0 w M)
    (k : ∀ p w', ARep R w' M d p → BX No w w' → Le w M w' M → Cx X w0 M0 w' M → K (.pointer (some p)) w') : OW P o n E w K Q :=
  ow_run (v := .pointer (some ⟨w.heap.size, 0, none⟩)) (w' := w.alloc (.cells v.cells t)) (fun a ha => by simp [execOp, hop, ha.opv hx, Instr.box, newVar, newRow])
    (k _ _ (arep_new hv (fun h => Nat.lt_irrefl _ (hC.old _ h))) (BX.alloc _ _) (Le.no M (BX.alloc _ _)) (hC.no (BX.alloc _ _)))
/-- A new variable that will be written. -/
theorem ow_alloc {T : TypeId} {z : Value} (hop : o.op = .alloc T) (hz : (zeroValue T).run P w = .ok z w) (hC : Cx X w0 M0 w M)
    (k : ∀ g w', w.heap.size ≤ g → w0.heap.size ≤ g → Own w' g T z.cells → BX No w w' → Le w M w' (Add g M) → Cx X w0 M0 w' (Add g M) → K (.pointer (some ⟨g, 0, none⟩)) w') : OW P o n E w K Q :=
  ow_run (v := .pointer (some ⟨w.heap.size, 0, none⟩)) (w' := w.alloc (.cells z.cells T)) (fun a ha => by simp [execOp, hop, Instr.alloc, hz, newVar, newRow])
    (k w.heap.size _ (Nat.le_refl _) hC.bx.size (own_new _ _ _) (BX.alloc _ _) ((Le.no M (BX.alloc _ _)).add (Nat.le_refl _)) ((hC.no (BX.alloc _ _)).add (by simp) hC.bx.size))
theorem ow_boxOwn {x : Operand} {T : TypeId} {v : Value} (hop : o.op = .box T x) (hx : opv E x = some v) (hC : Cx X w0 M0 w M)
    (k : ∀ g w', w.heap.size ≤ g → w0.heap.size ≤ g → Own w' g T v.cells → BX No w w' → Le w M w' (Add g M) → Cx X w0 M0 w' (Add g M) → K (.pointer (some ⟨g, 0, none⟩)) w') : OW P o n E w K Q :=
  ow_run (v := .pointer (some ⟨w.heap.size, 0, none⟩)) (w' := w.alloc (.cells v.cells T)) (fun a ha => by simp [execOp, hop, ha.opv hx, Instr.box, newVar, newRow])
    (k w.heap.size _ (Nat.le_refl _) hC.bx.size (own_new _ _ _) (BX.alloc _ _) ((Le.no M (BX.alloc _ _)).add (Nat.le_refl _)) ((hC.no (BX.alloc _ _)).add (by simp) hC.bx.size))
/-- A store into a variable of the call's own. -/
theorem ow_store {x y : Operand} {t : TypeId} {g off : Nat} {T : TypeId} {cs cs' : Array Value} {v : Value} {s : Nat} {us : List Value} {p : Addr} (hop : o.op = .store t x y) (hx : opv E x = some (.pointer (some p))) (hp : p = ⟨g, off, none⟩)
    (hy : opv E y = some v) (ho : Own w g T cs) (hs : (sizeOf t).run P w = .ok s w) (hv : v.cells.toList = us) (hl : us.length = s) (hfit : Nat.ble (off + s) cs.size = true) (h1 : us.all (·.oneCell') = true)
    (hm : M g) (hg : w0.heap.size ≤ g ∨ X g) (hcs : splice cs off us = cs') (hC : Cx X w0 M0 w M)
    (k : ∀ w', Own w' g T cs' → BX (One g) w w' → Le w M w' M → Cx X w0 M0 w' M → K undef w') : OW P o n E w K Q := by
  subst hp
  have hz : v.cells.size = s := by rw [← Array.length_toList, hv, hl]
  refine ow_runs (w' := setCells w g off us) (fun a ha => ?_) (k _ (hcs ▸ setCells_own us w cs off ho) (setCells_bx us w off) (Le.of_bx M (setCells_bx us w off) (fun b e => e ▸ hm)) (hC.go (setCells_bx us w off) (fun b e => e ▸ hg)))
  have hr := run_storeCells_own (P := P) us 0 off w cs ho (by rw [hl]; simpa using Nat.le_of_ble_eq_true hfit) (List.all_eq_true.1 h1)
  simp only [Nat.add_zero] at hr
  simp [execOp, hop, ha.opv hx, ha.opv hy, Instr.storeAt, Instr.sureAddr, storeVar, hs, hz, hv, hr]
/-- A load of a part of an own variable: cells off .. off + s - 1. -/
theorem ow_loadOwn1 {x : Operand} {t : TypeId} {g off : Nat} {T : TypeId} {cs : Array Value} {v : Value} {p : Addr} (hop : o.op = .load t x) (hx : opv E x = some (.pointer (some p))) (hp : p = ⟨g, off, none⟩) (ho : Own w g T cs)
    (ha : (isAgg t).run P w = .ok false w) (hv : cs[off]? = some v) (k : K v w) : OW P o n E w K Q := by
  subst hp
  exact ow_run (fun a hF => by simp [execOp, hop, hF.opv hx, Instr.loadAt, Instr.sureAddr, loadVar, ha, ho.cell, hv]) k
theorem ow_loadOwnA {x : Operand} {t : TypeId} {g : Nat} {T : TypeId} {cs : Array Value} {p : Addr} {s : Nat} (hop : o.op = .load t x) (hx : opv E x = some (.pointer (some p))) (hp : p = ⟨g, 0, none⟩) (ho : Own w g T cs)
    (ha : (isAgg t).run P w = .ok true w) (hs : (sizeOf t).run P w = .ok s w) (hl : cs.size = s) (k : K (.agg cs) w) : OW P o n E w K Q := by
  subst hp
  subst hl
  refine ow_run (fun a hF => ?_) k
  have hr := run_loadCells_list (P := P) w ⟨g, 0, none⟩ cs.toList (fun j u hu => by rw [addr_add, ho.cell, Nat.zero_add]; simpa using hu)
  simp only [Array.length_toList, Array.toArray_toList] at hr
  simp [execOp, hop, hF.opv hx, Instr.loadAt, Instr.sureAddr, loadVar, ha, hs, hr]
/-- A variable made and written at once, and never again: two operations. -/
theorem lw_allocStore {R : RTy α} {ops : Array Oper} {o1 o2 : Oper} {rest : List Oper} {T d : Nat} {z v : Value} {y : Operand} {x : α} {s : Nat} (hg1 : o1.guard = none) (hop1 : o1.op = .alloc T) (hd1 : o1.dst = some d) (hlt : Nat.ble (d + 1) n = true)
    (hg2 : o2.guard = none) (hop2 : o2.op = .store T (.tmp d) y) (hd2 : o2.dst = none) (hz : ∀ w, (zeroValue T).run P w = .ok z w) (hs : ∀ w, (sizeOf T).run P w = .ok s w) (hzs : z.cells.size = s) (hRs : R.size = s)
    (hy : opv E y = some v) (hyd : y ≠ .tmp d) (hv : VRep R w M x v) (hC : Cx X w0 M0 w M)
    (k : ∀ p w', ARep R w' M x p → BX No w w' → Le w M w' M → Cx X w0 M0 w' M → LW P ops Q rest n ((d, .pointer (some p)) :: E) w') : LW P ops Q (o1 :: o2 :: rest) n E w := by
  refine lw_op hg1 hd1 hlt (ow_alloc hop1 (hz w) hC fun g w1 hg hg0 ho hb hl hC1 => ?_)
  have hv1 := hv.mono (Le.no M hb)
  have hy' : opv ((d, Value.pointer (some ⟨g, 0, none⟩)) :: E) y = some v := by
    cases y with
    | tmp t =>
      have hne : Nat.beq d t = false := by
        cases hb : Nat.beq d t
        · rfl
        · exact absurd (by rw [Nat.eq_of_beq_eq_true hb]) hyd
      simpa [opv, look, hne] using hy
    | const u => exact hy
    | global u => exact hy
    | func u => exact hy
  have hcs := hv1.cells
  have hlen : v.cells.toList.length = s := by rw [← hRs]; exact R.len hcs
  refine lw_op0 hg2 hd2 (ow_store hop2 (x := .tmp d) (p := ⟨g, 0, none⟩) (by simp [opv, look]) rfl hy' ho (hs w1) rfl hlen (by simp [hzs]) (List.all_eq_true.2 (R.flat hcs)) (.inl rfl) (.inl hg0) rfl hC1 fun w2 ho2 hb2 hl2 hC2 => ?_)
  have hb12 : BX No w w2 := ⟨hb2.os.trans hb.os, hb2.tape.trans hb.tape, hb2.output.trans hb.output, Nat.le_trans hb.size hb2.size, fun b hbs _ => (hb2.block b (Nat.lt_of_lt_of_le hbs hb.size) (fun e => by unfold One at e; omega)).trans (hb.block b hbs (fun e => e))⟩
  have hsp : (splice z.cells 0 v.cells.toList).toList = v.cells.toList := by
    rw [splice_get _ _ _ (by rw [hlen, hzs]; omega), hlen, ← hzs]
    simp
  exact k _ _ (ho2.arep (by rw [hsp]; exact R.mono (Le.no M hb12) hv.cells) (fun h => by have := hC.old _ h; omega)) hb12 (Le.no M hb12) (hC.no hb12)
end
end Go.PF
