/- Rows that are made while the order is open; copies that stay the call's own; no condition. -/
import Derived.Test.YtieijbplcmpnaaaDoorPFHead
namespace Go.PF
open Go Go.RowKit
section
variable {α : Type} {R : RTy α} {B T : Nat} {w w' w0 : World} {M M' M0 X : Nat → Prop} {xs : List α} {v : Value}
/-- A row that was made since w, of data of w. -/
def PNQ (R : RTy α) (B T : Nat) (w : World) (M : Nat → Prop) (xs : List α) : Value → World → Prop := fun v w' =>
  BX No w w' ∧ (∀ b, v.ownBlock = some b → w.heap.size ≤ b) ∧ ∃ cells, w'.ownsRow B T R.size v xs.length cells ∧ RepAll R w M xs cells
theorem PNQ.mono : Mono (PNQ R B T w M xs) := fun _ _ _ hb ⟨h0, h1, cells, h2, h3⟩ => ⟨h0.trans hb, h1, cells, ownsRow_go h2 hb (fun _ _ e => e), h3⟩
theorem PNQ.own (h : PNQ R B T w M xs v w') (hl : Le w M w' M') (hM : ∀ b, v.ownBlock = some b → M' b) : OwnRow R B T w' M' xs v := let ⟨_, _, cells, h1, h2⟩ := h; ⟨cells, h1, h2.mono hl, hM⟩
theorem PNQ.block (h : PNQ R B T w M xs v w') {b : Nat} (hb : v.ownBlock = some b) : w.heap.size ≤ b ∧ b < w'.heap.size := by
  obtain ⟨_, h1, cells, h2, _⟩ := h
  refine ⟨h1 b hb, ?_⟩
  rcases h2.2 with ⟨rfl, _⟩ | ⟨g, cap, cur, rfl, _, hh, _⟩
  · simp [Value.ownBlock] at hb
  · simp only [Value.ownBlock, Option.some.injEq] at hb
    subst hb
    rcases Nat.lt_or_ge g w'.heap.size with hlt | hge
    · exact hlt
    · rw [Array.getElem?_eq_none hge] at hh; cases hh
theorem PNQ.len (h : PNQ R B T w M xs v w') : ∃ A c, v = .slice A xs.length c := by
  obtain ⟨_, _, cells, h2, _⟩ := h
  rcases h2.2 with ⟨rfl, h0⟩ | ⟨g, cap, cur, rfl, _⟩
  · exact ⟨none, 0, by rw [h0]⟩
  · exact ⟨_, _, rfl⟩
/-- A struct of such a row and a boolean. -/
def PNA (R : RTy α) (B T : Nat) (w : World) (M : Nat → Prop) (xs : List α) (b : Bool) : Value → World → Prop := fun u w' => ∃ v, u = .agg #[v, .bool b] ∧ PNQ R B T w M xs v w'
theorem PNA.mono {b : Bool} : Mono (PNA R B T w M xs b) := fun _ _ _ hb ⟨v, e, h⟩ => ⟨v, e, PNQ.mono _ _ _ hb h⟩
def PLit0 : Value → World → Prop := fun v _ => ∃ p, v = .slice (some p) 0 0
theorem PLit0.mono : Mono PLit0 := fun _ _ _ _ h => h
/-- A slice that is full. -/
def PFull (R : RTy α) (M : Nat → Prop) (xs : List α) : Value → World → Prop := fun v w' => ∃ p, v = .slice (some p) xs.length xs.length ∧ VRep (RSlice R) w' M xs v
theorem PFull.mono (R : RTy α) (M : Nat → Prop) (xs : List α) : Mono (PFull R M xs) := fun _ _ _ hb ⟨p, e, h⟩ => ⟨p, e, VRep.mono (Le.no M hb) h⟩
def AddRow (v : Value) (M : Nat → Prop) : Nat → Prop := fun b => v.ownBlock = some b ∨ M b
theorem Le.addRow (h : Le w M w' M') (hv : ∀ b, v.ownBlock = some b → w.heap.size ≤ b) : Le w M w' (AddRow v M') := ⟨h.size, h.keep, fun b hb hm => by
  rcases hm with hm | hm
  · have := hv b hm; omega
  · exact h.old b hb hm⟩
theorem Cx.addRow (h : Cx X w0 M0 w M) (hv : ∀ b, v.ownBlock = some b → w0.heap.size ≤ b ∧ b < w.heap.size) : Cx X w0 M0 w (AddRow v M) :=
  ⟨h.bx, fun b hb => hb.elim (fun e => (hv b e).2) (h.old b), fun b hb => .inr (h.sup b hb), fun b hb => .inr (h.xm b hb), fun b hb => hb.elim (fun e => .inr (hv b e).1) (h.lo b)⟩
end
section
variable {P : Program} {Q : Exit → Act → World → Prop} {n : Nat} {E : List (Nat × Value)} {ws w w0 : World} {M M0 X : Nat → Prop} {o : Oper} {K : Value → World → Prop} {α : Type}
theorem ow_appendCopyQ {R : RTy α} {x y : Operand} {t ty e B : Nat} {i : TypeInfo} {z : Value} {s by_ : Nat} {ys zs : List α} {A : Option Addr} {u : Value} (hop : o.op = .call { callee := .builtin .append, args := #[x, y], argTypes := #[t, t] }) (_hty : o.type = ty)
    (hx : opv E x = some (.slice A 0 0)) (hy : opv E y = some u) (ht : P.underlying t = some (.slice e)) (hi : P.info? e = some i) (hz : i.zero = some z) (hsz : i.size = s) (hby : i.bytes = by_) (hzs : z.cells.size = s) (hRs : R.size = s) (hs0 : Nat.blt 0 s = true) (hb : Nat.ble by_ 4096 = true)
    (h0 : ys ≠ []) (hu : VRep (RSlice R) ws M ys u) (hbw : BX No ws w) (hzz : appF ([] : List α) ys = some zs) (hB : B ≤ ws.heap.size)
    (k : ∀ v' w', PNQ R B e ws M zs v' w' → BX No w w' → K v' w') : OW P o n E w K Q := by
  obtain ⟨hz', hlen⟩ := appF_some hzz
  rw [List.nil_append] at hz'
  rw [hz'] at k
  clear hz' hzz
  obtain ⟨A', cap, rfl, hcap, hcmax, hrow⟩ := vslice_shape hu
  obtain ⟨p, rfl, hp1, hp2, news, hnr, hnews⟩ := hrow h0
  have hnews' : ∀ j q, news[j]? = some q → w.cell? (p.add j) = some q := fun j q hq => ((Le.no M hbw).cell (by rw [block_add]; exact hp2) (by rw [block_add]; exact hp1)).trans (hnews j q hq)
  have hb' := Nat.le_of_ble_eq_true hb
  have hs0' : 0 < s := by simpa [Nat.blt_eq] using hs0
  have hpos : 0 < ys.length := List.length_pos_iff.2 h0
  obtain ⟨v', w', hrun, h2, h3, h4, h5⟩ := run_append_own_at (P := P) w w.heap.size t o.type e i z s by_ ht hi hz hsz hby hzs hs0' (.slice none 0 0) 0 [] ⟨by simp, .inl ⟨rfl, rfl⟩⟩ p ys.length cap news (by rw [hnr.len, hRs]) hnews' hnr.flat
    (by simp only [maxLen]; simp only [List.length_nil] at hlen; omega) (by simp only [List.length_nil] at hlen; have : (0 + ys.length) * by_ ≤ 4294967296 * 4096 := Nat.mul_le_mul (by omega) hb'; omega) (Nat.le_refl _)
  have hbx : BX No w w' := ⟨h3.os, h3.tape, h3.output, h3.size, fun b hb _ => h3.block b hb (by simp [Value.ownBlock])⟩
  have hv5 : ∀ b, v'.ownBlock = some b → w.heap.size ≤ b := fun b hg => by
    rcases h5 with h5 | h5
    · rw [h5] at hg; simp [Value.ownBlock] at hg
    · rw [h5] at hg; exact Nat.le_of_eq (Option.some.inj hg)
  have hown : w'.ownsRow B e R.size v' ys.length news := by
    rw [hRs]
    have h2' : w'.ownsRow w.heap.size e s v' ys.length news := by simpa using h2
    refine ⟨h2'.1, ?_⟩
    rcases h2'.2 with h | ⟨g, cap', cur, e1, hg, r⟩
    · exact .inl h
    · exact .inr ⟨g, cap', cur, e1, Nat.le_trans hB (Nat.le_trans hbw.size hg), r⟩
  have heq : (Builtin.append_ #[t, t] o.type #[.slice A 0 0, .slice (some p) ys.length cap]).run P w = .ok v' w' := by
    rw [← hrun]
    cases A with
    | none => rfl
    | some a =>
      have hn : ¬ (0 + ys.length ≤ 0) := by omega
      have hnc : Builtin.nextslicecap (0 + ys.length) 0 = 0 + ys.length := by unfold Builtin.nextslicecap; rw [if_pos (by omega)]
      have hbig : ¬ ((0 + ys.length) * i.bytes > 2 ^ 48) := by
        have : (0 + ys.length) * i.bytes ≤ 4294967296 * 4096 := Nat.mul_le_mul (by simp only [List.length_nil] at hlen; omega) (hby ▸ hb')
        omega
      have hmx : ¬ (((0 + ys.length : Nat) : Int) > IntKind.i64.max ∧ i.bytes = 0) := fun h => by
        have h1 := h.1
        have : IntKind.i64.max = 9223372036854775807 := by decide
        simp only [List.length_nil] at hlen
        rw [this] at h1; omega
      have l0 : ∀ w, (loadCells a (0 * i.size)).run P w = .ok #[] w := fun w => by rw [Nat.zero_mul]; rfl
      unfold Builtin.append_
      simp only [List.getElem?_toArray, List.getElem?_cons_zero, List.getElem?_cons_succ, Sem.run_bind, run_underlying ht, Result.andThen_ok, sizeOf, typeInfo, run_program, hi, Sem.run_pure, Bool.false_eq_true, if_false, Builtin.lenOf, Bool.not_false, if_true, if_neg hn, if_neg hmx, hnc, if_neg hbig, Builtin.firstCells, l0, false_or]
  exact ow_run (v := v') (w' := w') (fun a ha => by simp [execOp, hop, resolve, invoke, builtin, ha.opv hx, ha.opv hy, heq]) (k _ _ ⟨hbw.trans hbx, fun b hg => Nat.le_trans hbw.size (hv5 b hg), news, hown, hnr⟩ hbx)
/-- An append to a slice that is full: a new row. -/
theorem ow_appendFull {R : RTy α} {x y : Operand} {t ty e : Nat} {i : TypeInfo} {z : Value} {s by_ : Nat} {xs ys zs : List α} {p : Addr} {v u : Value} (hop : o.op = .call { callee := .builtin .append, args := #[x, y], argTypes := #[t, t] }) (_hty : o.type = ty)
    (hx : opv E x = some v) (hy : opv E y = some u) (ht : P.underlying t = some (.slice e)) (hi : P.info? e = some i) (hz : i.zero = some z) (hsz : i.size = s) (hby : i.bytes = by_) (hzs : z.cells.size = s) (hRs : R.size = s) (_hs0 : Nat.blt 0 s = true) (hb : Nat.ble by_ 4096 = true)
    (hv : v = .slice (some p) xs.length xs.length) (hvr : VRep (RSlice R) w M xs v) (hxs : xs ≠ []) (hu : VRep (RSlice R) w M ys u) (hzz : appF xs ys = some zs) (hC : Cx X w0 M0 w M)
    (k : ∀ v' w', VRep (RSlice R) w' M zs v' → BX No w w' → Le w M w' M → Cx X w0 M0 w' M → K v' w') : OW P o n E w K Q := by
  obtain ⟨rfl, hlen⟩ := appF_some hzz
  subst hv
  obtain ⟨A', cap, rfl, hcap, hcmax, hrow⟩ := vslice_shape hu
  by_cases h0 : ys = []
  · subst h0
    rw [List.append_nil] at k
    refine ow_run (v := .slice (some p) xs.length xs.length) (w' := w) (fun a ha => ?_) (k _ _ hvr (BX.refl _ _) (Le.refl _ _) hC)
    cases A' <;> simp [execOp, hop, resolve, invoke, builtin, ha.opv hx, ha.opv hy, Builtin.append_, run_underlying ht, sizeOf, typeInfo, hi, Builtin.lenOf, Builtin.firstCells, storeCells, loadCells, loadCellsFrom]
  · obtain ⟨q, rfl, hq1, hq2, news, hnr, hnews⟩ := hrow h0
    obtain ⟨A1, cap1, e1, hc1, hm1, hrow1⟩ := vslice_shape hvr
    obtain ⟨q1, e2, hp1, hp2, olds, hor, holds⟩ := hrow1 hxs
    injection e1 with e1 _ _
    rw [e2] at e1
    have e1 := Option.some.inj e1
    subst e1
    have hb' := Nat.le_of_ble_eq_true hb
    have hpos : 0 < ys.length := List.length_pos_iff.2 h0
    have hsm : (xs.length + ys.length) * i.bytes ≤ 140737488355328 := by
      have : (xs.length + ys.length) * i.bytes ≤ 4294967296 * 4096 := Nat.mul_le_mul hlen (hby ▸ hb')
      omega
    have hrun := run_append_grow (P := P) (w := w) t o.type e i z ht hi hz p xs.length xs.length olds (by rw [hor.len, hRs, hsz]) holds q ys.length cap news (by rw [hnr.len, hRs, hsz]) hnews (by omega) (by omega) (growslice_fits (by omega) hsm)
    have hbx : BX No w (w.drew.alloc (.cells (olds.toArray ++ news.toArray ++ Builtin.zeroCells z.cells (grownCap w (xs.length + ys.length) xs.length e - (xs.length + ys.length))) e)) := (BX.drew w).trans (BX.alloc _ _)
    have hle := Le.no M hbx
    refine ow_run (v := .slice (some ⟨w.heap.size, 0, none⟩) (xs.length + ys.length) (grownCap w (xs.length + ys.length) xs.length e)) (fun a ha => by simp [execOp, hop, resolve, invoke, builtin, ha.opv hx, ha.opv hy, hrun]) (k _ _ ?_ hbx hle (hC.no hbx))
    have hg : w.heap.size = w.drew.heap.size := rfl
    refine ⟨_, ⟨some ⟨w.heap.size, 0, none⟩, grownCap w (xs.length + ys.length) xs.length e, by rw [List.length_append], by rw [List.length_append]; exact grownCap_ge w _ _ e, grownCap_le_maxLen w _ _ e (by simp only [maxLen]; omega), fun _ => ⟨_, rfl, fun h => Nat.lt_irrefl _ (hC.old _ h), by simp, olds ++ news, (hor.append hnr).mono hle, fun j u hu => ?_⟩⟩, rfl⟩
    refine cell_alloc_row w.drew _ _ _ _ ?_
    rw [← Array.getElem?_toList]
    simp only [Array.toList_append]
    rw [List.getElem?_append_left (by have := (List.getElem?_eq_some_iff.1 hu).1; simpa using this)]
    exact hu
end
theorem on_brk {σ ρ β : Type} {f : σ → Option β} {g : ρ → Option β} {s : σ} {r : β} (h : (LR.brk s : LR σ ρ).on f g = some r) : f s = some r := h
end Go.PF
