/- Slices and structs, more; no condition. -/
import Derived.Test.YtgglogmjjaahhaaDoorPFRow
import Derived.KernelRfl
namespace Go.PF
open Go Go.RowKit

section
variable {P : Program} {Q : Exit → Act → World → Prop} {n : Nat} {E : List (Nat × Value)} {w w' w0 : World} {M M0 X : Nat → Prop} {o : Oper} {K : Value → World → Prop} {α β : Type}
/-- The parts of a literal. -/
def parts (E : List (Nat × Value)) : List (Nat × Operand) → Option (List (Nat × Value))
  | [] => some []
  | (i, x) :: ps => (opv E x).bind fun v => (parts E ps).bind fun vs => some ((i, v) :: vs)
theorem Fits.parts {a : Act} (h : Fits n E a) : ∀ {ps : List (Nat × Operand)} {vs : List (Nat × Value)}, PF.parts E ps = some vs → (ps.map fun (i, x) => (i, a.eval x)) = vs
  | [], vs, hx => by simpa [PF.parts] using hx
  | (i, x) :: ps, vs, hx => by
    obtain ⟨v, hv, hx⟩ := bind_some hx
    obtain ⟨us, hu, hx⟩ := bind_some hx
    obtain rfl := Option.some.inj hx
    simp [h.opv hv, Fits.parts h hu]
theorem fits_partsA {a : Act} (h : Fits n E a) {ps : Array (Nat × Operand)} {vs : List (Nat × Value)} (hx : PF.parts E ps.toList = some vs) : (ps.map fun (i, x) => (i, a.eval x)) = vs.toArray := by
  apply Array.toList_inj.1; rw [Array.toList_map]; exact h.parts hx
theorem ow_build {t : TypeId} {ps : Array (Nat × Operand)} {vs : List (Nat × Value)} {v : Value} (hop : o.op = .build t ps) (hx : parts E ps.toList = some vs) (hr : (Instr.build t vs.toArray).run P w = .ok v w) (k : K v w) : OW P o n E w K Q :=
  ow_run (fun a ha => by simp [execOp, hop, fits_partsA ha hx, hr]) k
/-- A literal of at least one element. -/
theorem ow_buildSlice {R : RTy α} {t e : TypeId} {len : Nat} {ps : Array (Nat × Operand)} {vs : List (Nat × Value)} {cs : Array Value} {xs : List α} (hop : o.op = .buildSlice t len ps) (hx : parts E ps.toList = some vs)
    (hr : (Instr.buildSlice t len vs.toArray).run P w = .ok (.slice (some ⟨w.heap.size, 0, none⟩) len len) (w.alloc (.cells cs e))) (hl : xs.length = len) (hlm : Nat.ble len 4294967296 = true) (hrep : RepAll R w M xs cs.toList) (hC : Cx X w0 M0 w M)
    (k : ∀ p w', VRep (RSlice R) w' M xs (.slice (some p) len len) → BX No w w' → Le w M w' M → Cx X w0 M0 w' M → K (.slice (some p) len len) w') : OW P o n E w K Q := by
  have hbx := BX.alloc w (.cells cs e)
  have hlm' := Nat.le_of_ble_eq_true hlm
  refine ow_run (v := .slice (some ⟨w.heap.size, 0, none⟩) len len) (fun a ha => by simp [execOp, hop, fits_partsA ha hx, hr]) (k _ _ ?_ hbx (Le.no M hbx) (hC.no hbx))
  subst hl
  exact ⟨_, ⟨_, _, rfl, Nat.le_refl _, by simp only [maxLen]; omega, fun _ => ⟨_, rfl, fun h => Nat.lt_irrefl _ (hC.old _ h), by simp, cs.toList, hrep.mono (Le.no M hbx), fun j u hu => cell_alloc_row _ _ _ _ _ (by simpa using hu)⟩⟩, rfl⟩
/-- An empty literal: a row of the call's own. -/
theorem ow_buildSlice0 {R : RTy α} {t e : TypeId} (hop : o.op = .buildSlice t 0 #[]) (hr : (Instr.buildSlice t 0 #[]).run P w = .ok (.slice (some ⟨w.heap.size, 0, none⟩) 0 0) (w.alloc (.cells #[] e))) (hC : Cx X w0 M0 w M)
    (k : ∀ p w' M', OwnRow R w0.heap.size e w' M' ([] : List α) (.slice (some p) 0 0) → BX No w w' → Le w M w' M' → Cx X w0 M0 w' M' → (∀ b, M b → M' b) → p.block = w.heap.size → K (.slice (some p) 0 0) w') : OW P o n E w K Q := by
  have hbx := BX.alloc w (.cells #[] e)
  refine ow_run (v := .slice (some ⟨w.heap.size, 0, none⟩) 0 0) (fun a ha => by simp [execOp, hop, hr]) (k _ _ (Add w.heap.size M) ⟨[], ⟨by simp, .inr ⟨w.heap.size, 0, _, rfl, hC.bx.size, own_new _ _ _, Nat.le_refl _, Nat.zero_le _, by simp, by simp⟩⟩, rfl, ?_⟩ hbx ((Le.no M hbx).add (Nat.le_refl _)) ((hC.no hbx).add (by simp) hC.bx.size) (fun _ h => .inr h) rfl)
  intro g e; simp only [Value.ownBlock, Option.some.injEq] at e; exact .inl e.symm
theorem part_rep {R : RTy α} {e : TypeId} {vs : List Value} {xs : List α} {m : Nat} {y : α} (hr : RepAll R w M xs vs) (hy : xs[m]? = some y) (hs : (sizeOf e).run P w = .ok R.size w) (ha : (isAgg e).run P w = .ok R.agg w) :
    ∃ v, (part e vs.toArray (m * R.size)).run P w = .ok v w ∧ VRep R w M y v := by
  have hrep := hr.at_ hy
  refine ⟨R.pack ((vs.drop (m * R.size)).take R.size), ?_, _, hrep, rfl⟩
  unfold part
  simp only [Sem.run_bind, ha, Result.andThen_ok]
  cases hag : R.agg
  · have h1 := R.one hag
    have hl := R.len hrep
    rw [h1] at hl hrep ⊢
    simp only [Bool.false_eq_true, if_false]
    have hne : ∃ u, vs[m * 1]? = some u := by
      cases hu : vs[m * 1]? with
      | some u => exact ⟨u, rfl⟩
      | none =>
        rw [List.getElem?_eq_none_iff] at hu
        rw [List.drop_eq_nil_iff.2 hu] at hl
        cases hl
    obtain ⟨u, hu⟩ := hne
    have hd : (vs.drop (m * 1)).take 1 = [u] := by
      have hlt := (List.getElem?_eq_some_iff.1 hu).1
      rw [List.drop_eq_getElem_cons hlt]
      have h3 := (List.getElem?_eq_some_iff.1 hu).2
      rw [h3]; rfl
    rw [hd, List.getElem?_toArray, hu]
    simp [RTy.pack, hag]
  · simp only [if_true, Sem.run_bind, hs, Result.andThen_ok, Sem.run_pure, RTy.pack, hag, cond_true]
    congr 2
    apply Array.toList_inj.1
    simp [List.take_drop]
theorem ow_index {R : RTy α} {x i : Operand} {t e : TypeId} {N : Nat} {xs : List α} {v : Value} {kd : IntKind} {j : Int} {y : α} (hop : o.op = .index t x i) (hx : opv E x = some v) (hi : opv E i = some (.int kd j))
    (hv : VRep (RArr N R) w M xs v) (ht : P.underlying t = some (.array N e)) (hs : (sizeOf e).run P w = .ok R.size w) (ha : (isAgg e).run P w = .ok R.agg w) (hj : idx xs j = some y)
    (k : ∀ u, VRep R w M y u → K u w) : OW P o n E w K Q := by
  obtain ⟨m, rfl, hm, hy⟩ := idx_some hj
  obtain ⟨vs, ⟨hN, hr⟩, rfl⟩ := hv
  obtain ⟨u, hu, hru⟩ := part_rep hr hy hs ha
  subst hN
  refine ow_run (fun a hF => ?_) (k _ hru)
  have h1 : (0 : Int) ≤ (m : Int) ∧ (m : Int) < (xs.length : Int) := by omega
  have hp : (RArr xs.length R).pack vs = .agg vs.toArray := rfl
  simp only [execOp, hop, hF.opv hx, hF.opv hi, hp, Instr.index, asIntOf, Sem.run_bind, Sem.run_pure, Result.andThen_ok, run_underlying ht, h1, and_self, if_true, hs, Int.toNat_natCast, hu]
theorem ow_u8int {s d : TypeId} {x : Operand} {i : Int} (hop : o.op = .convert s d x) (hx : opv E x = some (.int .u8 i)) (hr : (convert s d (.int .u8 i)).run P w = .ok (.int .i64 (W i)) w) (k : K (.int .i64 (W i)) w) : OW P o n E w K Q :=
  ow_run (fun a ha => by simp [execOp, hop, ha.opv hx, hr]) k
theorem ow_nilCheck {x : Operand} {p : Addr} (hop : o.op = .nilCheck x) (hx : opv E x = some (.pointer (some p))) (k : K (.pointer (some p)) w) : OW P o n E w K Q :=
  ow_run (fun a ha => by simp [execOp, hop, ha.opv hx]) k
theorem repAll_take {R : RTy α} : ∀ {xs : List α} {vs : List Value} (m : Nat), RepAll R w M xs vs → RepAll R w M (xs.take m) (vs.take (m * R.size))
  | xs, vs, 0, _ => by simp [RepAll]
  | [], vs, m + 1, h => by rw [h]; simp [RepAll]
  | x :: xs, vs, m + 1, h => by
    obtain ⟨us, ws, rfl, h3, h4⟩ := h
    refine ⟨us, ws.take (m * R.size), ?_, h3, repAll_take m h4⟩
    rw [show (m + 1) * R.size = us.length + m * R.size from by rw [Nat.add_mul, Nat.one_mul, Nat.add_comm, R.len h3], List.take_length_add_append]
/-- xs[:h] -/
theorem ow_sliceTo {R : RTy α} {x hi : Operand} {t e : TypeId} {xs : List α} {v : Value} {m : Int} (hop : o.op = .slice t x none (some hi) none) (hx : opv E x = some v) (hh : opv E hi = some (.int .i64 m)) (hv : VRep (RSlice R) w M xs v)
    (ht : P.underlying t = some (.slice e)) (hs : (sizeOf e).run P w = .ok R.size w) (h0 : 0 ≤ m ∧ m ≤ xs.length) (k : ∀ u, VRep (RSlice R) w M (xs.take m.toNat) u → K u w) : OW P o n E w K Q := by
  obtain ⟨A, cap, rfl, hcap, hmax, hrow⟩ := vslice_shape hv
  obtain ⟨h0, hm⟩ := h0
  obtain ⟨m, rfl⟩ := Int.eq_ofNat_of_zero_le h0
  have hm' : m ≤ xs.length := by omega
  have hrun : (Instr.sliceAt t (.slice A xs.length cap) none (some (.int .i64 (m : Int))) none).run P w = .ok (.slice A m cap) w := by
    have h2 : (m : Int) ≤ (cap : Int) := by omega
    simp only [Instr.sliceAt, Instr.slice, run_underlying ht, Sem.run_bind, Result.andThen_ok, Instr.sliceBounds, Instr.sliceBound, asIntOf, Sem.run_pure]
    rw [if_pos ⟨h0, h2⟩]
    have hA : (if cap = 0 then A else A.map (fun a => a.add (0 * R.size))) = A := by
      by_cases hc : cap = 0
      · rw [if_pos hc]
      · rw [if_neg hc, Nat.zero_mul]; cases A <;> rfl
    simp only [Nat.zero_mul] at hA
    simp [hs, hA]
  refine ow_run (v := .slice A m cap) (fun a ha => by simp [execOp, hop, ha.opv hx, ha.opv hh, hrun]) (k _ ?_)
  simp only [Int.toNat_natCast]
  have hl : (xs.take m).length = m := by rw [List.length_take]; omega
  refine ⟨_, ⟨A, cap, by rw [hl], by rw [hl]; omega, hmax, fun hne => ?_⟩, rfl⟩
  obtain ⟨p, rfl, h1, h2, vs, hr, hc⟩ := hrow (by intro e; subst e; simp at hne)
  refine ⟨p, rfl, h1, h2, vs.take (m * R.size), ?_, fun j u hu => hc j u ?_⟩
  · exact repAll_take m hr
  · rw [List.getElem?_take] at hu
    split at hu
    · exact hu
    · cases hu
/-! ## Returning -/
theorem ew_ret {fn : Func} {R : Ending → World → Prop} {v : Value} (hr : ∀ a, Fits n E a → (results fn a.tmps).run P w = .ok v w) (hR : R (.returned v) w) : EW .ret (bodyPost P fn R) n E w :=
  fun a ha => ⟨ha.defers, v, hr a ha, hR⟩
theorem ew_end {fn : Func} {R : Ending → World → Prop} {v : Value} (hr : ∀ a, Fits n E a → (results fn a.tmps).run P w = .ok v w) (hR : R (.returned v) w) : EW .normal (bodyPost P fn R) n E w :=
  fun a ha => ⟨ha.defers, v, hr a ha, hR⟩
/-- What a result variable holds. -/
inductive RV (P : Program) (w : World) (E : List (Nat × Value)) : ResultVar → Value → Prop
  | tmp {t : Nat} {v : Value} (h : look E t = some v) : RV P w E (.tmp t) v
  | cell {t : Nat} {T : TypeId} {p : Addr} {v : Value} (h : look E t = some (.pointer (some p))) (hr : (loadVar T p).run P w = .ok v w) : RV P w E (.cell t T) v
theorem res1 {fn : Func} {r : ResultVar} {v : Value} (hf : fn.results = #[r]) (h : RV P w E r v) : ∀ a, Fits n E a → (results fn a.tmps).run P w = .ok v w := by
  intro a ha
  cases h with
  | tmp h => have h := ha.get _ _ h; simp only [Array.getD_eq_getD_getElem?] at h; simp [results, hf, h]
  | cell h hr => have h := ha.get _ _ h; simp only [Array.getD_eq_getD_getElem?] at h; simp [results, hf, h, asAddr, hr]
theorem res2 {fn : Func} {r s : ResultVar} {v u : Value} (hf : fn.results = #[r, s]) (h : RV P w E r v) (h' : RV P w E s u) : ∀ a, Fits n E a → (results fn a.tmps).run P w = .ok (.tuple #[v, u]) w := by
  intro a ha
  cases h with
  | tmp h =>
    have h := ha.get _ _ h; simp only [Array.getD_eq_getD_getElem?] at h
    cases h' with
    | tmp h' => have h' := ha.get _ _ h'; simp only [Array.getD_eq_getD_getElem?] at h'; simp [results, hf, h, h']
    | cell h' hr' => have h' := ha.get _ _ h'; simp only [Array.getD_eq_getD_getElem?] at h'; simp [results, hf, h, h', asAddr, hr']
  | cell h hr =>
    have h := ha.get _ _ h; simp only [Array.getD_eq_getD_getElem?] at h
    cases h' with
    | tmp h' => have h' := ha.get _ _ h'; simp only [Array.getD_eq_getD_getElem?] at h'; simp [results, hf, h, h', asAddr, hr]
    | cell h' hr' => have h' := ha.get _ _ h'; simp only [Array.getD_eq_getD_getElem?] at h'; simp [results, hf, h, h', asAddr, hr, hr']
theorem res0 {fn : Func} (hf : fn.results = #[]) : ∀ a, Fits n E a → (results fn a.tmps).run P w = .ok (.tuple #[]) w := fun _ _ => results_none hf _ _ _
theorem own_loadVarA {g T t : Nat} {cs : Array Value} (ho : Own w g T cs) (ha : (isAgg t).run P w = .ok true w) {s : Nat} (hs : (sizeOf t).run P w = .ok s w) (hl : cs.size = s) : (loadVar t ⟨g, 0, none⟩).run P w = .ok (.agg cs) w := by
  subst hl
  have hr := run_loadCells_list (P := P) w ⟨g, 0, none⟩ cs.toList (fun j u hu => by rw [addr_add, ho.cell, Nat.zero_add]; simpa using hu)
  simp only [Array.length_toList, Array.toArray_toList] at hr
  simp [loadVar, ha, hs, hr]
/-- The body's first frame. -/
theorem fits_args {args : Array Value} {N : Nat} (E : List (Nat × Value)) (hN : args.size ≤ N) (h : ∀ t v, look E t = some v → args[t]? = some v) : Fits N E { tmps := args ++ Array.replicate (N - args.size) undef, defers := [] } := by
  refine ⟨rfl, by simp; omega, fun t v hv => ?_⟩
  have := h t v hv
  have hlt := (Array.getElem?_eq_some_iff.1 this).1
  simp [Array.getD_eq_getD_getElem?, Array.getElem?_append_left hlt, this]
/-- The start of a walk: the parameters stand in the first slots. -/
def argEnv : Nat → List Value → List (Nat × Value)
  | _, [] => []
  | i, v :: vs => (i, v) :: argEnv (i + 1) vs
theorem argEnv_look : ∀ (vs : List Value) (i t : Nat) (v : Value), look (argEnv i vs) t = some v → i ≤ t ∧ vs[t - i]? = some v
  | [], _, _, _, h => by cases h
  | u :: us, i, t, v, h => by
    unfold argEnv look at h
    cases hb : Nat.beq i t
    · rw [hb] at h
      have hne := Nat.ne_of_beq_eq_false hb
      obtain ⟨h1, h2⟩ := argEnv_look us (i + 1) t v h
      refine ⟨by omega, ?_⟩
      rw [show t - i = (t - (i + 1)) + 1 from by omega]
      exact h2
    · rw [hb] at h
      obtain rfl := Nat.eq_of_beq_eq_true hb
      simp at h
      simp [h]
theorem walk {f : FuncId} {fn : Func} {c : Code} {vs : List Value} {R : Ending → World → Prop} {N : Nat} (hf : P.funcs[f]? = some fn) (hb : fn.body = some c) (hN : fn.ntmps = N) (hv : Nat.ble vs.length N = true)
    (h : CW P c (bodyPost P fn R) N (argEnv 0 vs) w) : Calls P f vs.toArray w R := by
  refine calls_of_wp hf hb (h _ ?_)
  rw [hN]
  exact fits_args _ (by simpa using Nat.le_of_ble_eq_true hv) (fun t v hv => by have := (argEnv_look _ _ _ _ hv).2; simpa using this)
end
end Go.PF
