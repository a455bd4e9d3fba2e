/- Slices that the call makes, structs, calls' results; no condition. -/
import Derived.Test.YtgglogmjjaahhaaDoorPFDraw
namespace Go.PF
open Go Go.RowKit

/-- A row of the call's own with the data xs. -/
def OwnRow {α : Type} (R : RTy α) (B : Nat) (T : TypeId) (w : World) (M : Nat → Prop) (xs : List α) (v : Value) : Prop :=
  ∃ cells, w.ownsRow B T R.size v xs.length cells ∧ RepAll R w M xs cells ∧ ∀ g, v.ownBlock = some g → M g
section
variable {α : Type} {R : RTy α} {B : Nat} {T : TypeId} {w w' w0 : World} {M M' X Y M0 : Nat → Prop} {xs : List α} {v : Value}
theorem ownsRow_go {e : TypeId} {size k : Nat} {cells : List Value} (h : w.ownsRow B e size v k cells) (hb : BX Y w w') (hn : ∀ g, v.ownBlock = some g → ¬ Y g) : w'.ownsRow B e size v k cells := by
  refine ⟨h.1, ?_⟩
  rcases h.2 with h2 | ⟨g, cap, cur, rfl, hg, hh, r⟩
  · exact .inl h2
  · refine .inr ⟨g, cap, cur, rfl, hg, ?_, r⟩
    have hlt : g < w.heap.size := by
      rcases Nat.lt_or_ge g w.heap.size with hlt | hge
      · exact hlt
      · rw [Array.getElem?_eq_none hge] at hh; cases hh
    exact (hb.block g hlt (hn g rfl)).trans hh
theorem OwnRow.go (h : OwnRow R B T w M xs v) (hb : BX Y w w') (hn : ∀ g, v.ownBlock = some g → ¬ Y g) (hl : Le w M w' M') (hM : ∀ b, M b → M' b) : OwnRow R B T w' M' xs v := by
  obtain ⟨cells, h1, h2, h3⟩ := h
  exact ⟨cells, ownsRow_go h1 hb hn, h2.mono hl, fun g e => hM g (h3 g e)⟩
theorem OwnRow.no (h : OwnRow R B T w M xs v) (hb : BX No w w') : OwnRow R B T w' M xs v := h.go hb (fun _ _ e => e) (Le.no M hb) (fun _ h => h)
theorem OwnRow.add (h : OwnRow R B T w M xs v) (hb : BX No w w') {g : Nat} (hg : w.heap.size ≤ g) : OwnRow R B T w' (Add g M) xs v := h.go hb (fun _ _ e => e) ((Le.no M hb).add hg) (fun _ h => .inr h)
theorem OwnRow.block (h : OwnRow R B T w M xs v) {b : Nat} (hb : v.ownBlock = some b) : B ≤ b ∧ b < w.heap.size := by
  obtain ⟨cells, ⟨_, h2⟩, _, _⟩ := h
  rcases h2 with ⟨rfl, _⟩ | ⟨g, cap, cur, rfl, hg, hh, r⟩
  · simp [Value.ownBlock] at hb
  · simp only [Value.ownBlock, Option.some.injEq] at hb
    subst hb
    refine ⟨hg, ?_⟩
    rcases Nat.lt_or_ge g w.heap.size with hlt | hge
    · exact hlt
    · rw [Array.getElem?_eq_none hge] at hh; cases hh
/-- The row is given away: it is a slice as any. -/
theorem OwnRow.freeze (h : OwnRow R B T w M xs v) (hl : Le w M w M') (hn : ∀ g, v.ownBlock = some g → ¬ M' g) : VRep (RSlice R) w M' xs v := by
  obtain ⟨cells, ⟨h1, h2⟩, h3, _⟩ := h
  rcases h2 with ⟨rfl, h0⟩ | ⟨g, cap, cur, rfl, hg, hh, hcap, hmax, hsz, htake⟩
  · obtain rfl := List.eq_nil_of_length_eq_zero h0
    exact vslice_nil
  · refine ⟨_, ⟨some ⟨g, 0, none⟩, cap, rfl, hcap, hmax, fun _ => ⟨_, rfl, hn g rfl, ?_, cells, h3.mono hl, fun j u hu => ?_⟩⟩, rfl⟩
    · rcases Nat.lt_or_ge g w.heap.size with hlt | hge
      · exact hlt
      · rw [Array.getElem?_eq_none hge] at hh; cases hh
    · rw [addr_add]
      have : w.cell? ⟨g, 0 + j, none⟩ = cur[j]? := by simp [World.cell?, hh]
      rw [this, ← Array.getElem?_toList]
      rw [← htake, List.getElem?_take] at hu
      split at hu
      · exact hu
      · cases hu
theorem OwnRow.freezeDel (h : OwnRow R B T w M xs v) : VRep (RSlice R) w (Del v M) xs v := h.freeze (Le.del w M v) (fun _ e hd => hd.2 e)
theorem OwnRow.freezeBack (h : OwnRow R w0.heap.size T w M xs v) (hC : Cx X w0 M0 w M) (h0 : ∀ b, M0 b → b < w0.heap.size) : VRep (RSlice R) w M0 xs v :=
  h.freeze hC.back (fun g e hm => by have := (h.block e).1; have := h0 g hm; omega)
theorem OwnRow.cxDel (h : OwnRow R w0.heap.size T w M xs v) (hC : Cx X w0 M0 w M) (hX : ∀ b, X b → M0 b) (h0 : ∀ b, M0 b → b < w0.heap.size) : Cx X w0 M0 w (Del v M) :=
  hC.del (fun b e => ⟨(h.block e).1, fun hx => by have := (h.block e).1; have := h0 b (hX b hx); omega⟩) h0
theorem ownrow_nil : OwnRow R B T w M ([] : List α) (.slice none 0 0) := ⟨[], ⟨by simp, .inl ⟨rfl, rfl⟩⟩, rfl, by simp [Value.ownBlock]⟩
theorem OwnRow.len (h : OwnRow R B T w M xs v) : ∃ A cap, v = .slice A xs.length cap := by
  obtain ⟨cells, ⟨_, h2⟩, _, _⟩ := h
  rcases h2 with ⟨rfl, h0⟩ | ⟨g, cap, cur, rfl, _⟩
  · exact ⟨none, 0, by rw [h0]⟩
  · exact ⟨_, _, rfl⟩
end
theorem orow_ne {α : Type} {R : RTy α} {B e : Nat} {w : World} {M : Nat → Prop} {xs : List α} {v : Value} {g T : Nat} {cs : Array Value} (hr : OwnRow R B e w M xs v) (h : Own w g T cs) (hne : e ≠ T) : v.ownBlock ≠ some g := by
  intro hb
  obtain ⟨cells, ⟨_, h2⟩, _, _⟩ := hr
  rcases h2 with ⟨rfl, _⟩ | ⟨g', cap, cur, rfl, _, hh, _⟩
  · simp [Value.ownBlock] at hb
  · simp only [Value.ownBlock, Option.some.injEq] at hb
    subst hb
    unfold Own at h
    rw [h] at hh
    injection hh with hh
    injection hh with _ ht
    exact hne ht.symm
theorem OwnRow.goOwn {α : Type} {R : RTy α} {B e : Nat} {w w' : World} {M : Nat → Prop} {xs : List α} {v : Value} {g T : Nat} {cs : Array Value} (hr : OwnRow R B e w M xs v) (hb : BX (One g) w w') (h : Own w g T cs) (hl : Le w M w' M) (hne : e ≠ T) : OwnRow R B e w' M xs v :=
  hr.go hb (fun k hk ho => orow_ne hr h hne (by rw [hk]; exact congrArg some ho)) hl (fun _ h => h)
/-- xs with ys behind, if that is not too long. -/
def appF {α : Type} (xs ys : List α) : Option (List α) := if xs.length + ys.length ≤ 4294967296 then some (xs ++ ys) else none
theorem appF_some {α : Type} {xs ys zs : List α} (h : appF xs ys = some zs) : zs = xs ++ ys ∧ xs.length + ys.length ≤ 4294967296 := by
  unfold appF at h; split at h
  · exact ⟨(Option.some.inj h).symm, by assumption⟩
  · cases h
/-- n of z, if that is not too long. -/
def makeF {α : Type} (z : α) (n : Int) : Option (List α) := if 0 ≤ n ∧ n ≤ 4294967296 then some (List.replicate n.toNat z) else none
section
variable {P : Program} {Q : Exit → Act → World → Prop} {n : Nat} {E : List (Nat × Value)} {w w0 : World} {M M0 X : Nat → Prop} {o : Oper} {K : Value → World → Prop} {α β : Type}
theorem repAll_madeCells {R : RTy α} {d : α} {z : Array Value} (hr : R.rep w M d z.toList) : ∀ k, RepAll R w M (List.replicate k d) ((List.range (k * R.size)).map fun i => z[i % z.size]!) := by
  intro k
  have hz : z.size = R.size := by rw [← R.len hr]; simp
  have key : ∀ k, ((List.range (k * R.size)).map fun i => z[i % z.size]!) = (List.replicate k z.toList).flatten := by
    intro k
    induction k with
    | zero => simp
    | succ k ih =>
      rw [Nat.add_mul, Nat.one_mul, List.range_add, List.map_append, ih, List.replicate_succ', List.flatten_append]
      congr 1
      simp only [List.flatten_cons, List.flatten_nil, List.append_nil, List.map_map]
      apply List.ext_getElem
      · simp [hz]
      · intro i h1 h2
        simp only [List.length_map, List.length_range] at h1
        simp only [List.getElem_map, List.getElem_range, Function.comp_apply, hz]
        rw [Nat.mul_comm, Nat.mul_add_mod, Nat.mod_eq_of_lt h1]
        simp [hz, h1]
  rw [key]
  clear key
  induction k with
  | zero => simp [RepAll]
  | succ k ih =>
    rw [List.replicate_succ, List.replicate_succ, List.flatten_cons]
    exact ⟨_, _, rfl, hr, ih⟩
theorem ow_lenOwn {R : RTy α} {B : Nat} {T : TypeId} {x : Operand} {t e : TypeId} {xs : List α} {v : Value} (hop : o.op = .call { callee := .builtin .len, args := #[x], argTypes := #[t] }) (hx : opv E x = some v)
    (hv : OwnRow R B T w M xs v) (ht : P.underlying t = some (.slice e)) (k : K (.int .i64 xs.length) w) : OW P o n E w K Q := by
  obtain ⟨A, cap, rfl⟩ := hv.len
  exact ow_run (fun a ha => by simp [execOp, hop, resolve, invoke, builtin, ha.opv hx, Builtin.len_, run_underlying ht, goInt]) k
theorem ow_make {R : RTy α} {x y : Operand} {t e : TypeId} {i : TypeInfo} {z : Value} {d : α} {m : Int} {xs : List α} {s by_ : Nat} (hop : o.op = .makeSlice t x y) (hx : opv E x = some (.int .i64 m)) (hy : opv E y = some (.int .i64 m))
    (ht : P.underlying t = some (.slice e)) (hi : P.info? e = some i) (hz : i.zero = some z) (hsz : i.size = s) (hby : i.bytes = by_) (hRs : R.size = s) (hb : Nat.ble by_ 4096 = true)
    (hd : VRep R w M d z) (hm : makeF d m = some xs) (hC : Cx X w0 M0 w M)
    (k : ∀ v w' M', OwnRow R w0.heap.size e w' M' xs v → BX No w w' → Le w M w' M' → Cx X w0 M0 w' M' → (∀ b, M b → M' b) → v.ownBlock = some w.heap.size → K v w') : OW P o n E w K Q := by
  unfold makeF at hm
  split at hm
  · rename_i h0
    obtain ⟨h0, hmax⟩ := h0
    obtain ⟨m, rfl⟩ := Int.eq_ofNat_of_zero_le h0
    simp only [Int.toNat_natCast] at hm
    obtain rfl := Option.some.inj hm
    have hb' := Nat.le_of_ble_eq_true hb
    subst hsz; subst hby
    have hmul : i.bytes * m ≤ 4096 * 4294967296 := Nat.mul_le_mul hb' (by omega)
    have hrun := run_make w t e i z ht hi hz .i64 .i64 m m (Int.natCast_nonneg _) (Int.le_refl _) (by have : ((i.bytes * m : Nat) : Int) ≤ ((4096 * 4294967296 : Nat) : Int) := Int.ofNat_le.2 hmul; simp only [Int.natCast_mul] at this ⊢; omega) (by omega)
    simp only [Int.toNat_natCast] at hrun
    have hg : w0.heap.size ≤ w.heap.size := hC.bx.size
    have hbx := BX.alloc w (.cells (madeCells z.cells (m * i.size)) e)
    have hle : Le w M (w.alloc (.cells (madeCells z.cells (m * i.size)) e)) (Add w.heap.size M) := (Le.no M hbx).add (Nat.le_refl _)
    refine ow_run (v := .slice (some ⟨w.heap.size, 0, none⟩) m m) (fun a ha => by simp [execOp, hop, ha.opv hx, ha.opv hy, hrun]) (k _ _ (Add w.heap.size M) ⟨_, ⟨?_, .inr ⟨w.heap.size, m, _, ?_, hg, own_new _ _ _, ?_, ?_, ?_, rfl⟩⟩, ?_, ?_⟩ hbx hle ((hC.no hbx).add (by simp) hg) (fun _ h => .inr h) rfl)
    · simp [size_madeCells, ← hRs]
    · simp
    · simp
    · simp only [maxLen]; omega
    · rw [size_madeCells, hRs]
    · have hr := repAll_madeCells hd.cells m
      have : (madeCells z.cells (m * i.size)).toList.take ((List.replicate m d).length * R.size) = (List.range (m * R.size)).map fun i => z.cells[i % z.cells.size]! := by
        rw [List.length_replicate, hRs, List.take_of_length_le (by simp [size_madeCells])]
        simp [madeCells]
      rw [this]
      exact hr.mono hle
    · intro g e; simp only [Value.ownBlock, Option.some.injEq] at e; exact .inl e.symm
  · cases hm
theorem ow_append {R : RTy α} {x y : Operand} {t ty e : TypeId} {i : TypeInfo} {z : Value} {s by_ : Nat} {xs ys zs : List α} {v u : Value} (hop : o.op = .call { callee := .builtin .append, args := #[x, y], argTypes := #[t, t] }) (_hty : o.type = ty)
    (hx : opv E x = some v) (hy : opv E y = some u) (ht : P.underlying t = some (.slice e)) (hi : P.info? e = some i) (hz : i.zero = some z) (hsz : i.size = s) (hby : i.bytes = by_) (hzs : z.cells.size = s) (hRs : R.size = s) (hs0 : Nat.blt 0 s = true) (hb : Nat.ble by_ 4096 = true)
    (hv : OwnRow R w0.heap.size e w M xs v) (hu : VRep (RSlice R) w M ys u) (hzz : appF xs ys = some zs) (hC : Cx X w0 M0 w M)
    (k : ∀ v' w' M', OwnRow R w0.heap.size e w' M' zs v' → BX (fun b => v.ownBlock = some b) w w' → Le w M w' M' → Cx X w0 M0 w' M' → (∀ b, M b → M' b) → (v'.ownBlock = v.ownBlock ∨ v'.ownBlock = some w.heap.size) → K v' w') : OW P o n E w K Q := by
  obtain ⟨rfl, hlen⟩ := appF_some hzz
  obtain ⟨A, cap, rfl, hcap, hcmax, hrow⟩ := vslice_shape hu
  obtain ⟨cells, hown, hrep, hMv⟩ := hv
  have hb' := Nat.le_of_ble_eq_true hb
  have hs0' : 0 < s := by simpa [Nat.blt_eq] using hs0
  obtain ⟨news, hnl, hnews, hnr⟩ : ∃ news : List Value, news.length = ys.length * s ∧ (∀ p, A = some p → ∀ j q, news[j]? = some q → w.cell? (p.add j) = some q) ∧ RepAll R w M ys news := by
    by_cases h0 : ys = []
    · subst h0; exact ⟨[], by simp, by simp, rfl⟩
    · obtain ⟨p, rfl, _, _, news, hr, hc⟩ := hrow h0
      exact ⟨news, by rw [hr.len, hRs], fun p' e j q hq => by obtain rfl := Option.some.inj e; exact hc j q hq, hr⟩
  have hfin : ∀ v' w', (Builtin.append_ #[t, t] o.type #[v, .slice A ys.length cap]).run P w = .ok v' w' → w'.ownsRow w0.heap.size e s v' (xs.length + ys.length) (cells ++ news) → w.grownBy w' v.ownBlock → (v'.ownBlock = v.ownBlock ∨ v'.ownBlock = some w.heap.size) → OW P o n E w K Q := by
    intro v' w' hrun hown' hgr hat
    have hbx : BX (fun b => v.ownBlock = some b) w w' := ⟨hgr.os, hgr.tape, hgr.output, hgr.size, fun b hb hn => hgr.block b hb (fun e => hn e.symm)⟩
    have hvge : ∀ g, v.ownBlock = some g → w0.heap.size ≤ g := fun g e => (OwnRow.block (R := R) ⟨cells, hown, hrep, hMv⟩ e).1
    have hC1 : Cx X w0 M0 w' M := hC.go hbx (fun b e => .inl (hvge b e))
    have hle : Le w M w' M := Le.of_bx M hbx (fun b e => hMv b e)
    have hrun' : ∀ a, Fits n E a → (execOp a.eval o).run P w = .ok (.value v') w' := fun a ha => by
      simp [execOp, hop, resolve, invoke, builtin, ha.opv hx, ha.opv hy, hrun]
    have hrow' : ∀ M', Le w M w' M' → (∀ g, v'.ownBlock = some g → M' g) → OwnRow R w0.heap.size e w' M' (xs ++ ys) v' := fun M' hl hg =>
      ⟨_, by rw [List.length_append, hRs]; exact hown', (hrep.append hnr).mono hl, hg⟩
    rcases hat with hat | hat
    · exact ow_run hrun' (k v' w' M (hrow' M hle fun g e => hMv g (hat ▸ e)) hbx hle hC1 (fun _ h => h) (.inl hat))
    · have hlt : w.heap.size < w'.heap.size := by
        rcases hown'.2 with ⟨rfl, _⟩ | ⟨g, cap', cur, rfl, _, hh, _⟩
        · simp [Value.ownBlock] at hat
        · simp only [Value.ownBlock, Option.some.injEq] at hat
          subst hat
          rcases Nat.lt_or_ge w.heap.size w'.heap.size with h | h
          · exact h
          · rw [Array.getElem?_eq_none h] at hh; cases hh
      exact ow_run hrun' (k v' w' (Add w.heap.size M) (hrow' _ (hle.add (Nat.le_refl _)) fun g e => by rw [hat] at e; exact .inl (Option.some.inj e).symm) hbx (hle.add (Nat.le_refl _)) (hC1.add hlt hC.bx.size) (fun _ h => .inr h) (.inr hat))
  cases A with
  | none =>
    have hys : ys = [] := by
      by_cases h0 : ys = []
      · exact h0
      · obtain ⟨p, e, _⟩ := hrow h0; cases e
    subst hys
    have hn0 : news = [] := List.eq_nil_of_length_eq_zero (by simpa using hnl)
    subst hn0
    have hown1 := hown
    refine hfin v w ?_ (by simpa [hRs] using hown1) (World.grownBy.refl w _) (.inl rfl)
    rcases hown.2 with ⟨rfl, h0⟩ | ⟨g, cap', cur, rfl, _, _, hnc, _⟩
    · simp [Builtin.append_, run_underlying ht, sizeOf, typeInfo, hi, Builtin.lenOf, Builtin.firstCells]
    · simp [Builtin.append_, run_underlying ht, sizeOf, typeInfo, hi, Builtin.lenOf, Builtin.firstCells, hnc, storeCells]
  | some p =>
    obtain ⟨v', w', hrun, h2, h3, _, h5⟩ := run_append_own_at (P := P) w w0.heap.size t o.type e i z s by_ ht hi hz hsz hby hzs hs0' v xs.length cells (hRs ▸ hown) p ys.length cap news hnl (hnews p rfl) hnr.flat
      (by simp only [maxLen]; omega) (by have : (xs.length + ys.length) * by_ ≤ 4294967296 * 4096 := Nat.mul_le_mul hlen hb'; omega) hC.bx.size
    exact hfin v' w' hrun h2 h3 h5
end
end Go.PF
