/- One law for each kind of operation; no condition. -/
import Derived.Test.YtgglogmjjaahhaaDoorPFMem
namespace Go.PF
open Go Go.RowKit

abbrev W (x : Int) : Int := IntKind.i64.wrap x
def imin (i j : Int) : Int := if j < i then j else i
def imax (i j : Int) : Int := if i < j then j else i

section
variable {P : Program} {Q : Exit → Act → World → Prop} {n : Nat} {E : List (Nat × Value)} {w : World} {M : Nat → Prop} {o : Oper} {K : Value → World → Prop} {α β : Type}
theorem ow_run {v : Value} {w' : World} (hr : ∀ a, Fits n E a → (execOp a.eval o).run P w = .ok (.value v) w') (k : K v w') : OW P o n E w K Q := by
  intro a ha
  unfold Oper.wp
  rw [hr a ha]
  exact ⟨v, rfl, k⟩
theorem ow_runs {w' : World} (hr : ∀ a, Fits n E a → (execOp a.eval o).run P w = .ok .skip w') (k : K undef w') : OW P o n E w K Q := by
  intro a ha
  unfold Oper.wp
  rw [hr a ha]
  exact ⟨undef, rfl, k⟩
theorem ow_move {x : Operand} {v : Value} (hop : o.op = .move x) (hx : opv E x = some v) (k : K v w) : OW P o n E w K Q :=
  ow_run (fun a ha => by simp [execOp, hop, ha.opv hx]) k
theorem ow_assign {x : Operand} {v : Value} (hop : o.op = .assign x) (hx : opv E x = some v) (k : K v w) : OW P o n E w K Q :=
  ow_run (fun a ha => by simp [execOp, hop, ha.opv hx]) k
theorem ow_not {x : Operand} {t : TypeId} {b : Bool} (hop : o.op = .unOp .not t x) (hx : opv E x = some (.bool b)) (k : K (.bool (!b)) w) : OW P o n E w K Q :=
  ow_run (fun a ha => by simp [execOp, hop, ha.opv hx, Op.unary]) k
theorem ow_pickT {c x y : Operand} {v : Value} (hop : o.op = .pick c x y) (hc : opv E c = some (.bool true)) (hx : opv E x = some v) (k : K v w) : OW P o n E w K Q :=
  ow_run (fun a ha => by simp [execOp, hop, ha.opv hc, ha.opv hx, asBool]) k
theorem ow_pickF {c x y : Operand} {v : Value} (hop : o.op = .pick c x y) (hc : opv E c = some (.bool false)) (hx : opv E y = some v) (k : K v w) : OW P o n E w K Q :=
  ow_run (fun a ha => by simp [execOp, hop, ha.opv hc, ha.opv hx, asBool]) k
section
variable {x y : Operand} {t u : TypeId} {i j : Int} {kd : IntKind}
theorem ow_add (hop : o.op = .binOp .add t x y u) (hx : opv E x = some (.int .i64 i)) (hy : opv E y = some (.int .i64 j)) (k : K (.int .i64 (W (i + j))) w) : OW P o n E w K Q :=
  ow_run (fun a ha => by simp [execOp, hop, ha.opv hx, ha.opv hy, eqGuard, binOp, Op.intArith]) k
theorem ow_sub (hop : o.op = .binOp .sub t x y u) (hx : opv E x = some (.int .i64 i)) (hy : opv E y = some (.int .i64 j)) (k : K (.int .i64 (W (i - j))) w) : OW P o n E w K Q :=
  ow_run (fun a ha => by simp [execOp, hop, ha.opv hx, ha.opv hy, eqGuard, binOp, Op.intArith]) k
theorem ow_mul (hop : o.op = .binOp .mul t x y u) (hx : opv E x = some (.int .i64 i)) (hy : opv E y = some (.int .i64 j)) (k : K (.int .i64 (W (i * j))) w) : OW P o n E w K Q :=
  ow_run (fun a ha => by simp [execOp, hop, ha.opv hx, ha.opv hy, eqGuard, binOp, Op.intArith]) k
theorem ow_quo (hop : o.op = .binOp .quo t x y u) (hx : opv E x = some (.int .i64 i)) (hy : opv E y = some (.int .i64 j)) (hj : (j == 0) = false) (k : K (.int .i64 (W (i.tdiv j))) w) : OW P o n E w K Q :=
  ow_run (fun a ha => by
    have hj0 : ¬ j = 0 := by simpa using hj
    simp [execOp, hop, ha.opv hx, ha.opv hy, eqGuard, binOp, Op.intDiv, hj0]) k
theorem ow_rem (hop : o.op = .binOp .rem t x y u) (hx : opv E x = some (.int kd i)) (hy : opv E y = some (.int kd j)) (hj : (j == 0) = false) (k : K (.int kd (i.tmod j)) w) : OW P o n E w K Q :=
  ow_run (fun a ha => by
    have hj0 : ¬ j = 0 := by simpa using hj
    simp [execOp, hop, ha.opv hx, ha.opv hy, eqGuard, binOp, Op.intDiv, hj0]) k
theorem ow_lss (hop : o.op = .binOp .lss t x y u) (hx : opv E x = some (.int kd i)) (hy : opv E y = some (.int kd j)) (k : ∀ b, b = (decide (i < j)) → K (.bool b) w) : OW P o n E w K Q :=
  ow_run (fun a ha => by simp [execOp, hop, ha.opv hx, ha.opv hy, eqGuard, binOp, Op.intCmp]) (k _ rfl)
theorem ow_leq (hop : o.op = .binOp .leq t x y u) (hx : opv E x = some (.int kd i)) (hy : opv E y = some (.int kd j)) (k : ∀ b, b = (decide (i ≤ j)) → K (.bool b) w) : OW P o n E w K Q :=
  ow_run (fun a ha => by simp [execOp, hop, ha.opv hx, ha.opv hy, eqGuard, binOp, Op.intCmp]) (k _ rfl)
theorem ow_gtr (hop : o.op = .binOp .gtr t x y u) (hx : opv E x = some (.int kd i)) (hy : opv E y = some (.int kd j)) (k : ∀ b, b = (decide (j < i)) → K (.bool b) w) : OW P o n E w K Q :=
  ow_run (fun a ha => by simp [execOp, hop, ha.opv hx, ha.opv hy, eqGuard, binOp, Op.intCmp]) (k _ rfl)
theorem ow_geq (hop : o.op = .binOp .geq t x y u) (hx : opv E x = some (.int kd i)) (hy : opv E y = some (.int kd j)) (k : ∀ b, b = (decide (j ≤ i)) → K (.bool b) w) : OW P o n E w K Q :=
  ow_run (fun a ha => by simp [execOp, hop, ha.opv hx, ha.opv hy, eqGuard, binOp, Op.intCmp]) (k _ rfl)
theorem ow_eqlI (hop : o.op = .binOp .eql t x y u) (hx : opv E x = some (.int kd i)) (hy : opv E y = some (.int kd j)) (k : ∀ b, b = (i == j) → K (.bool b) w) : OW P o n E w K Q :=
  ow_run (fun a ha => by simp [execOp, hop, ha.opv hx, ha.opv hy, eqGuard, binOp, Op.intCmp]) (k _ rfl)
theorem ow_neqI (hop : o.op = .binOp .neq t x y u) (hx : opv E x = some (.int kd i)) (hy : opv E y = some (.int kd j)) (k : ∀ b, b = (i != j) → K (.bool b) w) : OW P o n E w K Q :=
  ow_run (fun a ha => by simp [execOp, hop, ha.opv hx, ha.opv hy, eqGuard, binOp, Op.intCmp]) (k _ rfl)
theorem ow_eqlB {b c : Bool} (hop : o.op = .binOp .eql t x y u) (hx : opv E x = some (.bool b)) (hy : opv E y = some (.bool c)) (ht : P.underlying t = some .bool) (k : ∀ d, d = (b == c) → K (.bool d) w) : OW P o n E w K Q :=
  ow_run (fun a ha => by simp [execOp, hop, ha.opv hx, ha.opv hy, eqGuard, run_eql_bool w t b c ht]) (k _ rfl)
theorem ow_neqB {b c : Bool} (hop : o.op = .binOp .neq t x y u) (hx : opv E x = some (.bool b)) (hy : opv E y = some (.bool c)) (ht : P.underlying t = some .bool) (k : ∀ d, d = (b != c) → K (.bool d) w) : OW P o n E w K Q :=
  ow_run (fun a ha => by simp [execOp, hop, ha.opv hx, ha.opv hy, eqGuard, run_neq_bool w t b c ht, bne]) (k _ rfl)
theorem ow_min {ts : Array TypeId} (hop : o.op = .call { callee := .builtin .min, args := #[x, y], argTypes := ts }) (hx : opv E x = some (.int kd i)) (hy : opv E y = some (.int kd j)) (k : K (.int kd (imin i j)) w) : OW P o n E w K Q :=
  ow_run (fun a ha => by simp [execOp, hop, resolve, invoke, builtin, ha.opv hx, ha.opv hy, run_min_int2, imin]) k
theorem ow_max {ts : Array TypeId} (hop : o.op = .call { callee := .builtin .max, args := #[x, y], argTypes := ts }) (hx : opv E x = some (.int kd i)) (hy : opv E y = some (.int kd j)) (k : K (.int kd (imax i j)) w) : OW P o n E w K Q :=
  ow_run (fun a ha => by simp [execOp, hop, resolve, invoke, builtin, ha.opv hx, ha.opv hy, run_max_int2, imax]) k
end
theorem vslice_shape {R : RTy α} {xs : List α} {v : Value} (h : VRep (RSlice R) w M xs v) : ∃ A cap, v = .slice A xs.length cap ∧ xs.length ≤ cap ∧ cap ≤ maxLen ∧ (xs ≠ [] → ∃ p, A = some p ∧ RowAt R w M xs p) := by
  obtain ⟨vs, ⟨A, cap, rfl, h1, h2, h3⟩, rfl⟩ := h
  exact ⟨A, cap, rfl, h1, h2, h3⟩
theorem ow_len {R : RTy α} {x : Operand} {t e ty : TypeId} {xs : List α} {v : Value} (hop : o.op = .call { callee := .builtin .len, args := #[x], argTypes := #[t] }) (hx : opv E x = some v)
    (hv : VRep (RSlice R) w M xs v) (ht : P.underlying t = some (.slice e)) (_hty : o.type = ty) (k : K (.int .i64 xs.length) w) : OW P o n E w K Q := by
  obtain ⟨A, cap, rfl, _⟩ := vslice_shape hv
  exact ow_run (fun a ha => by simp [execOp, hop, resolve, invoke, builtin, ha.opv hx, Builtin.len_, run_underlying ht, goInt]) k
theorem ow_load {R : RTy α} {x : Operand} {t : TypeId} {d : α} {p : Addr} (hop : o.op = .load t x) (hx : opv E x = some (.pointer (some p))) (hA : ARep R w M d p)
    (hs : (sizeOf t).run P w = .ok R.size w) (ha : (isAgg t).run P w = .ok R.agg w) (k : ∀ v, VRep R w M d v → K v w) : OW P o n E w K Q := by
  obtain ⟨_, _, vs, hr, hc⟩ := hA
  have hl := R.len hr
  refine ow_run (v := R.pack vs) (w' := w) (fun a hF => ?_) (k _ ⟨vs, hr, rfl⟩)
  simp only [execOp, hop, hF.opv hx, Instr.loadAt, Instr.sureAddr, loadVar, Sem.run_bind, Sem.run_pure, Result.andThen_ok, ha]
  cases hag : R.agg
  · have h1 := R.one hag
    rw [h1] at hl
    match vs, hl with
    | [u], _ =>
      have := hc 0 u rfl
      have e0 : p.add 0 = p := rfl
      rw [e0] at this
      simp [RTy.pack, hag, this]
  · rw [← hl] at hs
    simp only [if_true, Sem.run_bind, hs, Result.andThen_ok, run_loadCells_list w p vs hc, RTy.pack, hag, cond_true, Sem.run_pure]
theorem ow_fieldAddr {x : Operand} {t f : Nat} {fs : Array Field} {fd : Field} {p : Addr} {s : Nat} (hop : o.op = .fieldAddr t x f) (hx : opv E x = some (.pointer (some p)))
    (hu : P.underlying t = some (.struct fs)) (hf : fs[f]? = some fd) (hs : (sizeOf fd.type).run P w = .ok (s + 1) w) (k : K (.pointer (some (p.add fd.offset))) w) : OW P o n E w K Q :=
  ow_run (fun a ha => by simp [execOp, hop, ha.opv hx, Instr.fieldAt, run_underlying hu, hf, Instr.sureAddr, fieldPlace, hs]) k
theorem idx_some {xs : List α} {i : Int} {x : α} (h : idx xs i = some x) : ∃ j : Nat, i = j ∧ j < xs.length ∧ xs[j]? = some x := by
  unfold idx at h
  split at h
  · rename_i h0
    obtain ⟨j, rfl⟩ := Int.eq_ofNat_of_zero_le h0
    simp only [Int.toNat_natCast] at h
    exact ⟨j, rfl, (List.getElem?_eq_some_iff.1 h).1, h⟩
  · cases h
theorem ow_indexSlice {R : RTy α} {x i : Operand} {t e : TypeId} {xs : List α} {v : Value} {kd : IntKind} {j : Int} {y : α} (hop : o.op = .indexAddr t x i) (hx : opv E x = some v) (hi : opv E i = some (.int kd j))
    (hv : VRep (RSlice R) w M xs v) (ht : P.underlying t = some (.slice e)) (hs : (sizeOf e).run P w = .ok R.size w) (hj : idx xs j = some y)
    (k : ∀ p, ARep R w M y p → K (.pointer (some p)) w) : OW P o n E w K Q := by
  obtain ⟨m, rfl, hm, hy⟩ := idx_some hj
  obtain ⟨A, cap, rfl, _, _, h3⟩ := vslice_shape hv
  obtain ⟨p, rfl, hrow⟩ := h3 (by intro e; subst e; simp at hm)
  refine ow_run (v := .pointer (some (p.add (m * R.size)))) (w' := w) (fun a ha => ?_) (k _ (hrow.at_ hy))
  have h1 : (0 : Int) ≤ (m : Int) ∧ (m : Int) < (xs.length : Int) := by omega
  simp [execOp, hop, ha.opv hx, ha.opv hi, Instr.indexAt, asIntOf, run_underlying ht, hs, h1]
  intro hle; omega
theorem ow_indexArr {R : RTy α} {x i : Operand} {t e : TypeId} {N : Nat} {xs : List α} {p : Addr} {kd : IntKind} {j : Int} {y : α} (hop : o.op = .indexAddr t x i) (hx : opv E x = some (.pointer (some p))) (hi : opv E i = some (.int kd j))
    (hv : ARep (RArr N R) w M xs p) (ht : P.underlying t = some (.array N e)) (hs : (sizeOf e).run P w = .ok R.size w) (hj : idx xs j = some y)
    (k : ∀ p, ARep R w M y p → K (.pointer (some p)) w) : OW P o n E w K Q := by
  obtain ⟨m, rfl, hm, hy⟩ := idx_some hj
  obtain ⟨h1, h2, vs, ⟨hN, hr⟩, hc⟩ := hv
  have hrow : RowAt R w M xs p := ⟨h1, h2, vs, hr, hc⟩
  subst hN
  refine ow_run (v := .pointer (some (p.add (m * R.size)))) (w' := w) (fun a ha => ?_) (k _ (hrow.at_ hy))
  have h1 : (0 : Int) ≤ (m : Int) ∧ (m : Int) < (xs.length : Int) := by omega
  simp [execOp, hop, ha.opv hx, ha.opv hi, Instr.indexAt, asIntOf, run_underlying ht, Instr.sureAddr, hs, h1]
  intro hle; omega
theorem cell_alloc_row (w : World) (cs : Array Value) (t : TypeId) (j : Nat) (u : Value) (h : cs[j]? = some u) : (w.alloc (.cells cs t)).cell? (Addr.add ⟨w.heap.size, 0, none⟩ j) = some u := by
  have : Addr.add ⟨w.heap.size, 0, none⟩ j = ⟨w.heap.size, j, none⟩ := by
    unfold Addr.add
    by_cases h : j = 0
    · subst h; rfl
    · rw [if_neg h]; simp
  rw [this, World.cell?_alloc_new]; exact h
theorem ow_extract {x : Operand} {vs : Array Value} {i : Nat} {v : Value} (hop : o.op = .extract x i) (hx : opv E x = some (.tuple vs)) (hi : vs[i]? = some v) (k : K v w) : OW P o n E w K Q :=
  ow_run (fun a ha => by simp [execOp, hop, ha.opv hx, Instr.extract, hi]) k
theorem ow_call {f : FuncId} {as : Array Operand} {ts : Array TypeId} {vs : List Value} {Z : Value → World → Prop} (hop : o.op = .call { callee := .value (.func f), args := as, argTypes := ts })
    (hx : opvs E as.toList = some vs) (hcf : ∀ (args : Array Value) (w : World), (callFunc f args).run P w = .ok (.enter f args) w)
    (hc : Calls P f vs.toArray w fun e w' => ∃ v, e = .returned v ∧ Z v w') (k : ∀ v w', Z v w' → K v w') : OW P o n E w K Q := by
  intro a ha
  have hargs : as.map a.eval = vs.toArray := by apply Array.toList_inj.1; rw [Array.toList_map]; exact ha.opvs hx
  unfold Oper.wp
  have hrun : (execOp a.eval o).run P w = .ok (.enter f vs.toArray) w := by
    simp [execOp, hop, resolve, Act.eval, Deferred.ofValue, hargs, invoke, hcf]
  rw [hrun]
  refine Calls.mono hc ?_
  rintro e w' ⟨v, rfl, hz⟩
  exact ⟨v, rfl, k v w' hz⟩
end
end Go.PF
