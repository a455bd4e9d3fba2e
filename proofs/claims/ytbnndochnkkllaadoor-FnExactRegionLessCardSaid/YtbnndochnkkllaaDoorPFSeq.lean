/- Ranges over a function: walks in a round and at the calls of yield; no condition. -/
import Derived.Test.YtbnndochnkkllaaDoorPFFresh
import Derived.RangeFuncNested
import Derived.RangeFuncBound
import Derived.RangeFuncCalls
import Derived.RangeFuncLeaves
import Derived.RangeFuncRecord
namespace Go.PF
open Go Go.RowKit

/-- All functions, no depth; in a round or not. -/
def FN (r : Option Nat) : Fence := { fn := fun _ => True, depth := none, alive := false, round := r }
theorem calls_in {r : Option Nat} {n : Nat} {P : Program} {f : FuncId} {args : Array Value} {w : World} {R : Ending → World → Prop} (h : Calls P f args w R) : CallsIn (FN r) n P f args w R := by
  have h1 : CallsIn Fence.wide n P f args w R := callsIn_wide.2 h
  cases r with
  | none => exact h1
  | some l => exact CallsIn.inRound l h1
theorem rows_in {r : Option Nat} {n : Nat} {P : Program} {row : String} {args : Array Value} {w : World} {R : Value → World → Prop} (h : Rows P row args w R) : RowsIn (FN r) n P row args w R := fun c cs _ =>
  let ⟨v, w', hr, s⟩ := h c cs
  ⟨v, w', hr, by have := stepsIn_wide.2 s; cases r <;> exact this⟩
def notDefer (o : Oper) : Bool := match o.op with
  | .defer _ => false
  | _ => true
theorem op_in {r : Option Nat} {n : Nat} {P : Program} {o : Oper} {a : Act} {w : World} {next : Act → World → Prop} {Q : Exit → Act → World → Prop} (hd : notDefer o = true) (h : o.wp P a w next Q) : o.wpIn (FN r) n P a w next Q := by
  refine ⟨fun _ _ => trivial, ?_⟩
  have e : Oper.semAt (FN r).round a.eval o = execOp a.eval o := by
    cases r with
    | none => rfl
    | some l =>
      refine Oper.semAt_some l _ _ fun c hc => ?_
      unfold notDefer at hd
      rw [hc] at hd
      cases hd
  rw [e]
  unfold Oper.wp at h
  generalize (execOp a.eval o).run P w = res at h
  match res, h with
  | .ok (.value v) w', h => exact h
  | .ok .skip w', h => exact h
  | .ok (.defer d) w', h => exact h
  | .ok (.enter f args) w', h => exact ⟨fun e => (by simp [FN] at e), calls_in h⟩
  | .ok (.row row args) w', h => exact ⟨fun e => (by simp [FN] at e), rows_in h⟩
  | .halt (.panic v) w', h => exact h
section
variable {P : Program} {r : Option Nat} {N : Nat} {ops : Array Oper} {Q : Exit → Act → World → Prop} {n : Nat} {E : List (Nat × Value)} {ds : List Deferred} {w : World} {o : Oper} {rest : List Oper}
/-- A frame with deferred calls. -/
def FitsD (n : Nat) (E : List (Nat × Value)) (ds : List Deferred) (a : Act) : Prop := Fits n E { a with defers := [] } ∧ a.defers = ds
theorem FitsD.put {a : Act} (h : FitsD n E ds a) {d : Nat} (hd : d < n) (v : Value) : FitsD n ((d, v) :: E) ds (a.put (some d) v) := ⟨h.1.put hd v, h.2⟩
theorem FitsD.opv {a : Act} (h : FitsD n E ds a) {x : Operand} {v : Value} (hx : PF.opv E x = some v) : a.eval x = v := by
  have := h.1.opv hx
  cases x <;> exact this
theorem FitsD.sub {a : Act} (h : FitsD n E ds a) {E' : List (Nat × Value)} (hs : Sub E' E) : FitsD n E' ds a := ⟨h.1.sub hs, h.2⟩
theorem Fits.d {a : Act} (h : Fits n E a) : FitsD n E [] a := ⟨by have := h.defers; obtain ⟨t, d⟩ := a; simp only at this; subst this; exact h, h.defers⟩
theorem FitsD.nil {a : Act} (h : FitsD n E [] a) : Fits n E a := by obtain ⟨h1, h2⟩ := h; obtain ⟨t, d⟩ := a; simp only at h2; subst h2; exact h1
/-- An operation of a frame with deferred calls. -/
theorem wp_defers {a : Act} {K : Value → World → Prop} (ha : FitsD n E ds a) (hd : notDefer o = true) (h : OW P o n E w K (fun _ _ _ => False)) : o.wp P a w (fun a' w' => ∃ v, a' = a.put o.dst v ∧ K v w') Q := by
  have h0 := h _ ha.1
  have he : Act.eval { a with defers := [] } = a.eval := by funext x; cases x <;> rfl
  unfold Oper.wp at h0 ⊢
  rw [he] at h0
  have hput : ∀ u v : Value, Act.put { a with defers := [] } o.dst u = Act.put { a with defers := [] } o.dst v → True := fun _ _ _ => trivial
  have key : ∀ (u : Value) (w' : World), (∃ v, Act.put { a with defers := [] } o.dst u = Act.put { a with defers := [] } o.dst v ∧ K v w') → ∃ v, a.put o.dst u = a.put o.dst v ∧ K v w' := fun u w' ⟨v, e, hk⟩ => by
    refine ⟨v, ?_, hk⟩
    cases hds : o.dst with
    | none => rfl
    | some d =>
      rw [hds] at e
      simp only [Act.put] at e ⊢
      injection e with e1 _
      rw [e1]
  generalize hres : (execOp a.eval o).run P w = res at h0
  match res, h0 with
  | .ok (.value v) w', h => exact key v w' h
  | .ok .skip w', h => exact key undef w' h
  | .ok (.defer d) w', h =>
    exfalso
    obtain ⟨v, e, _⟩ := h
    have : (Act.put { a with defers := d :: ([] : List Deferred) } o.dst undef).defers = (Act.put { a with defers := [] } o.dst v).defers := congrArg Act.defers e
    cases hds : o.dst <;> simp [Act.put, hds] at this
  | .ok (.enter f args) w', h =>
    refine Calls.mono h ?_
    rintro e w'' he
    match e, he with
    | .returned v, he => exact key v w'' he
    | .panicked chain, he => exact he.elim
    | .outgrown, he => obtain ⟨a0, w0, hq⟩ := he; exact hq.elim
  | .ok (.row row args) w', h => exact Rows.mono h fun v w'' he => key v w'' he
  | .halt (.panic v) w', h => exact h.elim
def LG (r : Option Nat) (N : Nat) (P : Program) (ops : Array Oper) (Q : Exit → Act → World → Prop) (l : List Oper) (n : Nat) (E : List (Nat × Value)) (ds : List Deferred) (w : World) : Prop :=
  ∀ a, FitsD n E ds a → wpListIn (FN r) N P ops Q l a w
def CG (r : Option Nat) (N : Nat) (P : Program) (c : Code) (Q : Exit → Act → World → Prop) (n : Nat) (E : List (Nat × Value)) (ds : List Deferred) (w : World) : Prop :=
  ∀ a, FitsD n E ds a → c.wpIn (FN r) N P Q a w
def EG (e : Exit) (Q : Exit → Act → World → Prop) (n : Nat) (E : List (Nat × Value)) (ds : List Deferred) (w : World) : Prop := ∀ a, FitsD n E ds a → Q e a w
theorem opIn_mono {K K' : Act → World → Prop} {a : Act} (hk : ∀ a w, K a w → K' a w) (h : o.wpIn (FN r) N P a w K Q) : o.wpIn (FN r) N P a w K' Q := by
  refine ⟨h.1, ?_⟩
  have h2 := h.2
  generalize (o.semAt (FN r).round a.eval).run P w = res at h2
  match res, h2 with
  | .ok (.value v) w', h => exact hk _ _ h
  | .ok .skip w', h => exact hk _ _ h
  | .ok (.defer d) w', h => exact hk _ _ h
  | .ok (.enter f args) w', h =>
    refine ⟨h.1, h.2.mono ?_⟩
    rintro e w'' he
    match e, he with
    | .returned v, he => exact hk _ _ he
    | .panicked chain, he => exact he
    | .outgrown, he => exact he
  | .ok (.row row args) w', h => exact ⟨h.1, h.2.mono fun v w'' he => hk _ _ he⟩
  | .ok (.round l f tmps assign body) w', h =>
    refine ⟨h.1, h.2.mono ?_⟩
    rintro e w'' he
    match e, he with
    | .returned v, he => exact hk _ _ he
    | .panicked chain, he => exact he
    | .outgrown, he => exact he
  | .halt (.panic v) w', h => exact h
theorem lg_nil (h : EG .normal Q n E ds w) : LG r N P ops Q [] n E ds w := fun a ha => h a ha
theorem lg_op {d : Nat} (hg : o.guard = none) (hd : o.dst = some d) (hlt : Nat.ble (d + 1) n = true) (hnd : notDefer o = true)
    (h : OW P o n E w (fun v w' => LG r N P ops Q rest n ((d, v) :: E) ds w') (fun _ _ _ => False)) : LG r N P ops Q (o :: rest) n E ds w := by
  intro a ha
  refine wpListIn_plain hg fun K hK => opIn_mono (K := fun a' w' => ∃ v, a' = a.put o.dst v ∧ LG r N P ops Q rest n ((d, v) :: E) ds w') ?_ (op_in hnd (wp_defers ha hnd h))
  rintro a' w' ⟨v, rfl, hl⟩
  rw [hd]
  exact hK _ _ (hl _ (ha.put (Nat.le_of_ble_eq_true hlt) v))
theorem lg_op0 (hg : o.guard = none) (hd : o.dst = none) (hnd : notDefer o = true)
    (h : OW P o n E w (fun _ w' => LG r N P ops Q rest n E ds w') (fun _ _ _ => False)) : LG r N P ops Q (o :: rest) n E ds w := by
  intro a ha
  refine wpListIn_plain hg fun K hK => opIn_mono (K := fun a' w' => ∃ v, a' = a.put o.dst v ∧ LG r N P ops Q rest n E ds w') ?_ (op_in hnd (wp_defers ha hnd h))
  rintro a' w' ⟨v, rfl, hl⟩
  rw [hd]
  exact hK _ _ (hl _ ha)
/-- A call of yield. -/
theorem lg_yield {x : Operand} {as : Array Operand} {ts : Array TypeId} {vs : List Value} {l d : Nat} {R : Ending → World → Prop} (hg : o.guard = none) (hd : o.dst = some d) (hlt : Nat.ble (d + 1) n = true)
    (hop : o.op = .call { callee := .value x, args := as, argTypes := ts }) (hf : PF.opv E x = some (.func (.yield l) #[] #[])) (hx : PF.opvs E as.toList = some vs)
    (hy : YieldAt (FN none) (N - 1) P l vs.toArray w R) (hR : ∀ e w', R e w' → ∃ b, e = .returned (.bool b)) (k : ∀ b w', R (.returned (.bool b)) w' → LG none N P ops Q rest n ((d, .bool b) :: E) ds w') : LG none N P ops Q (o :: rest) n E ds w := by
  intro a ha
  refine wpListIn_plain hg fun K hK => ⟨fun _ _ => trivial, ?_⟩
  obtain ⟨fn, tmps, assign, body, hrun, hround⟩ := hy
  have hargs : as.map a.eval = vs.toArray := by
    apply Array.toList_inj.1
    rw [Array.toList_map]
    have := ha.1.opvs hx
    have he : Act.eval { a with defers := [] } = a.eval := by funext x; cases x <;> rfl
    rw [he] at this
    exact this
  have hexec : (execOp a.eval o).run P w = .ok (.round l fn tmps assign body) w := by
    have h1 : execOp a.eval o = (resolve a.eval { callee := .value x, args := as, argTypes := ts } o.type >>= fun d => invoke d.target d.args) := by unfold execOp; rw [hop]
    have h2 : resolve a.eval { callee := .value x, args := as, argTypes := ts } o.type = Deferred.ofValue (.func (.yield l) #[] #[]) vs.toArray := by
      show Deferred.ofValue (a.eval x) (as.map a.eval) = _
      rw [ha.opv hf, hargs]
    have h3 : (Deferred.ofValue (.func (.yield l) #[] #[]) vs.toArray).run P w = .ok { target := .fn (.yield l) #[], args := vs.toArray } w := by simp [Deferred.ofValue]
    rw [h1, h2, Sem.run_bind, h3]
    exact hrun
  show o.uponIn (FN none) N P a K Q ((execOp a.eval o).run P w)
  rw [hexec]
  refine ⟨fun e => (by simp [FN] at e), hround.mono fun e w' he => ?_⟩
  obtain ⟨b, rfl⟩ := hR e w' he
  rw [hd]
  exact hK _ _ (k b w' he _ (ha.put (Nat.le_of_ble_eq_true hlt) _))
theorem cg_region {id : Nat} {l : List Oper} (h : LG r N P l.toArray Q l n E ds w) : CG r N P (.region id l.toArray false) Q n E ds w := fun a ha => wpIn_region_lit (h a ha)
theorem cg_seq {x y : Code} (h : CG r N P x (Exit.then (y.wpIn (FN r) N P Q) Q) n E ds w) : CG r N P (.seq x y) Q n E ds w := fun a ha => wpIn_seq (h a ha)
theorem cg_skip (h : EG .normal Q n E ds w) : CG r N P .skip Q n E ds w := fun a ha => wpIn_skip (h a ha)
theorem cg_ret (h : EG .ret Q n E ds w) : CG r N P .ret Q n E ds w := fun a ha => wpIn_ret (h a ha)
theorem cg_block {id : Nat} {c : Code} (h : CG r N P c (Exit.inBlock id Q) n E ds w) : CG r N P (.block id c) Q n E ds w := fun a ha => wpIn_block (h a ha)
theorem cg_true {x : Operand} {c d : Code} (hx : PF.opv E x = some (.bool true)) (h : CG r N P c Q n E ds w) : CG r N P (.cond x c d) Q n E ds w := fun a ha => wpIn_cond_true (ha.opv hx) (h a ha)
theorem cg_false {x : Operand} {c d : Code} (hx : PF.opv E x = some (.bool false)) (h : CG r N P d Q n E ds w) : CG r N P (.cond x c d) Q n E ds w := fun a ha => wpIn_cond_false (ha.opv hx) (h a ha)
theorem eg_then {y : Code} (h : CG r N P y Q n E ds w) : EG .normal (Exit.then (y.wpIn (FN r) N P Q) Q) n E ds w := fun a ha => h a ha
theorem eg_thenR {K : Act → World → Prop} (h : EG .ret Q n E ds w) : EG .ret (Exit.then K Q) n E ds w := fun a ha => h a ha
theorem eg_blockN {i : Nat} (h : EG .normal Q n E ds w) : EG .normal (Exit.inBlock i Q) n E ds w := fun a ha => h a ha
theorem eg_blockR {i : Nat} (h : EG .ret Q n E ds w) : EG .ret (Exit.inBlock i Q) n E ds w := fun a ha => h a ha
/-- A region with a call of yield, in a walk without rounds. -/
theorem cw_regionY (N : Nat) {id : Nat} {l : List Oper} (h : LG none N P l.toArray Q l n E [] w) : CW P (.region id l.toArray false) Q n E w := fun a ha =>
  (wpIn_wide (n := N)).1 (cg_region h a ha.d)
theorem lg_end (h : EW .normal Q n E w) : LG none N P ops Q [] n E [] w := lg_nil fun a ha => h a ha.nil
end
/-- How a loop body takes what comes: xs have come; the blocks K are the loop's own, whatever they are; M as everywhere. A round that is told 'true' goes on; one that is told 'false' stops. -/
structure Yd (P : Program) (l : Nat) {α : Type} (R : RTy α) (J : List α → (Nat → Prop) → (Nat → Prop) → World → Prop) (Jx : World → Prop) : Prop where
  mem : ∀ {xs K M w}, J xs K M w → ∀ b, K b → M b
  lt : ∀ {xs K M w}, J xs K M w → ∀ b, K b → b < w.heap.size
  go : ∀ {xs K M w w' M'} {Y : Nat → Prop}, J xs K M w → BX Y w w' → (∀ b, Y b → ¬ K b) → (∀ b, M b → M' b) → Le w M w' M' → J xs K M' w'
  yes : ∀ {xs ys K M w x v}, J xs K M w → VRep R w M x v → appF xs [x] = some ys → (∀ b, M b → b < w.heap.size) → YieldAt (FN none) 0 P l #[v, .bool true] w fun e w' => e = .returned (.bool true) ∧
    ∃ K' M', J ys K' M' w' ∧ BX K w w' ∧ (∀ b, M b → M' b) ∧ (∀ b, M' b → M b ∨ (w.heap.size ≤ b ∧ b < w'.heap.size)) ∧ (∀ b, K' b → K b ∨ w.heap.size ≤ b)
  no : ∀ {xs K M w x v}, J xs K M w → VRep R w M x v → (∀ b, M b → b < w.heap.size) → YieldAt (FN none) 0 P l #[v, .bool false] w fun e w' => e = .returned (.bool false) ∧ Jx w' ∧ BX K w w'
def YEnd {α : Type} (J : List α → (Nat → Prop) → (Nat → Prop) → World → Prop) (Jx : World → Prop) (K0 : Nat → Prop) (w0 : World) (M0 : Nat → Prop) (r : Bool × List α) (w : World) : Prop := (r.1 = true ∧ Jx w ∧ BX K0 w0 w) ∨ (r.1 = false ∧ ∃ K M, J r.2 K M w ∧ Cx K0 w0 M0 w M)
section
variable {P : Program} {l : Nat} {α : Type} {R : RTy α} {J : List α → (Nat → Prop) → (Nat → Prop) → World → Prop} {Jx : World → Prop} {ops : Array Oper} {Q : Exit → Act → World → Prop} {n : Nat} {E : List (Nat × Value)} {w w0 : World} {o : Oper} {rest : List Oper} {K K0 M M0 : Nat → Prop} {xs ys : List α}
theorem lg_yes {d : Nat} {x : Operand} {as : Array Operand} {ts : Array TypeId} {v : Value} {y : α} (hY : Yd P l R J Jx) (hg : o.guard = none) (hd : o.dst = some d) (hlt : Nat.ble (d + 1) n = true)
    (hop : o.op = .call { callee := .value x, args := as, argTypes := ts }) (hf : PF.opv E x = some (.func (.yield l) #[] #[])) (hx : PF.opvs E as.toList = some [v, .bool true])
    (hJ : J xs K M w) (hv : VRep R w M y v) (ha : appF xs [y] = some ys) (hC : Cx K0 w0 M0 w M) (hge : ∀ b, K b → w0.heap.size ≤ b ∨ K0 b)
    (k : ∀ w' K' M', J ys K' M' w' → BX K w w' → Le w M w' M' → Cx K0 w0 M0 w' M' → (∀ b, M b → M' b) → (∀ g, g < w.heap.size → ¬ K g → ¬ K' g) → (∀ b, K' b → w0.heap.size ≤ b ∨ K0 b) → LG none 1 P ops Q rest n ((d, .bool true) :: E) [] w') : LG none 1 P ops Q (o :: rest) n E [] w := by
  refine lg_yield hg hd hlt hop hf hx (hY.yes hJ hv ha hC.old) (fun e w' h => ⟨true, h.1⟩) fun b w' h => ?_
  obtain ⟨he, K', M', hJ', hb, hM, hM', hK'⟩ := h
  obtain rfl : b = true := by injection he with e1; injection e1
  have hs := hb.size
  have hC1 := hC.go hb hge
  refine k w' K' M' hJ' hb ⟨hs, fun b hl hn => hb.block b hl (fun e => hn (hY.mem hJ b e)), fun b hl hm => (hM' b hm).elim id fun e => absurd e.1 (by omega)⟩
    ⟨hC1.bx, fun b hb' => (hM' b hb').elim (hC1.old b) fun e => e.2, fun b h => hM b (hC.sup b h), fun b h => hM b (hC.xm b h), fun b h => (hM' b h).elim (hC.lo b) fun e => .inr (Nat.le_trans hC.bx.size e.1)⟩
    hM (fun g hg hn h => (hK' g h).elim hn fun e => by omega) (fun b h => (hK' b h).elim (hge b) fun e => .inl (Nat.le_trans hC.bx.size e))
theorem lg_no {d : Nat} {x : Operand} {as : Array Operand} {ts : Array TypeId} {v : Value} (hY : Yd P l R J Jx) (hg : o.guard = none) (hd : o.dst = some d) (hlt : Nat.ble (d + 1) n = true)
    (hop : o.op = .call { callee := .value x, args := as, argTypes := ts }) (hf : PF.opv E x = some (.func (.yield l) #[] #[])) (hx : PF.opvs E as.toList = some [v, .bool false])
    {y : α} (hJ : J xs K M w) (hv : VRep R w M y v) (hC : Cx K0 w0 M0 w M) (hge : ∀ b, K b → w0.heap.size ≤ b ∨ K0 b) (k : ∀ w', Jx w' → Cx K0 w0 M0 w' M → LG none 1 P ops Q rest n ((d, .bool false) :: E) [] w') : LG none 1 P ops Q (o :: rest) n E [] w := by
  refine lg_yield hg hd hlt hop hf hx (hY.no hJ hv hC.old) (fun e w' h => ⟨false, h.1⟩) fun b w' h => ?_
  obtain ⟨he, hx', hb⟩ := h
  obtain rfl : b = false := by injection he with e1; injection e1
  exact k w' hx' (hC.go hb hge)
theorem Yd.free (hY : Yd P l R J Jx) (hJ : J xs K M w) {g : Nat} (hg : w.heap.size ≤ g) : ¬ K g := fun h => Nat.lt_irrefl _ (Nat.lt_of_lt_of_le (hY.lt hJ g h) hg)
end
section
variable {P : Program} {r : Option Nat} {N : Nat} {ops : Array Oper} {Q : Exit → Act → World → Prop} {n : Nat} {E : List (Nat × Value)} {w w' w0 : World} {M M0 X Y : Nat → Prop} {α : Type} {ds : List Deferred}
theorem calls_out {f : FuncId} {args : Array Value} {R : Ending → World → Prop} (h : CallsIn (FN none) N P f args w R) : Calls P f args w R := (callsIn_wide (n := N)).1 h
theorem lg_allocStore {R : RTy α} {o1 o2 : Oper} {rest : List Oper} {T d : Nat} {z v : Value} {y : Operand} {x : α} {s : Nat} (hg1 : o1.guard = none) (hop1 : o1.op = .alloc T) (hd1 : o1.dst = some d) (hlt : Nat.ble (d + 1) n = true)
    (hg2 : o2.guard = none) (hop2 : o2.op = .store T (.tmp d) y) (hd2 : o2.dst = none) (hz : ∀ w, (zeroValue T).run P w = .ok z w) (hs : ∀ w, (sizeOf T).run P w = .ok s w) (hzs : z.cells.size = s) (hRs : R.size = s)
    (hy : PF.opv E y = some v) (hyd : y ≠ .tmp d) (hv : VRep R w M x v) (hC : Cx X w0 M0 w M)
    (k : ∀ p w', ARep R w' M x p → BX No w w' → Le w M w' M → Cx X w0 M0 w' M → LG r N P ops Q rest n ((d, .pointer (some p)) :: E) ds w') : LG r N P ops Q (o1 :: o2 :: rest) n E ds w := by
  refine lg_op hg1 hd1 hlt (by unfold notDefer; rw [hop1]) (ow_alloc hop1 (hz w) hC fun g w1 hg hg0 ho hb hl hC1 => ?_)
  have hv1 := hv.mono (Le.no M hb)
  have hy' : PF.opv ((d, Value.pointer (some ⟨g, 0, none⟩)) :: E) y = some v := by
    cases y with
    | tmp t =>
      have hne : Nat.beq d t = false := by
        cases hb : Nat.beq d t
        · rfl
        · exact absurd (by rw [Nat.eq_of_beq_eq_true hb]) hyd
      simpa [PF.opv, look, hne] using hy
    | const u => exact hy
    | global u => exact hy
    | func u => exact hy
  have hcs := hv1.cells
  have hlen : v.cells.toList.length = s := by rw [← hRs]; exact R.len hcs
  refine lg_op0 hg2 hd2 (by unfold notDefer; rw [hop2]) (ow_store hop2 (x := .tmp d) (p := ⟨g, 0, none⟩) (by simp [PF.opv, look]) rfl hy' ho (hs w1) rfl hlen (by simp [hzs]) (List.all_eq_true.2 (R.flat hcs)) (.inl rfl) (.inl hg0) rfl hC1 fun w2 ho2 hb2 hl2 hC2 => ?_)
  have hb12 : BX No w w2 := ⟨hb2.os.trans hb.os, hb2.tape.trans hb.tape, hb2.output.trans hb.output, Nat.le_trans hb.size hb2.size, fun b hbs _ => (hb2.block b (Nat.lt_of_lt_of_le hbs hb.size) (fun e => by unfold One at e; omega)).trans (hb.block b hbs (fun e => e))⟩
  have hsp : (splice z.cells 0 v.cells.toList).toList = v.cells.toList := by
    rw [splice_get _ _ _ (by rw [hlen, hzs]; omega), hlen, ← hzs]
    simp
  exact k _ _ (ho2.arep (by rw [hsp]; exact R.mono (Le.no M hb12) hv.cells) (fun h => by have := hC.old _ h; omega)) hb12 (Le.no M hb12) (hC.no hb12)
/-- A start of which nothing is known. -/
theorem Cx.bare (hX : ∀ b, X b → M b) (hM : ∀ b, M b → b < w.heap.size) : Cx X { w with heap := #[] } (fun _ => False) w M :=
  ⟨⟨rfl, rfl, rfl, Nat.zero_le _, fun k hk => absurd hk (Nat.not_lt_zero _)⟩, hM, fun _ h => h.elim, hX, fun _ _ => .inr (Nat.zero_le _)⟩
/-- The loop's record, and the block for its rounds' deferred calls. -/
def RecAt (w : World) (l D : Nat) (rec : Loop) : Prop := w.heap[l]? = some (.loop rec) ∧ w.heap[D]? = some (.deferred (some []))
theorem RecAt.ltl {l D : Nat} {rec : Loop} (h : RecAt w l D rec) : l < w.heap.size := (Array.getElem?_eq_some_iff.1 h.1).1
theorem RecAt.ltD {l D : Nat} {rec : Loop} (h : RecAt w l D rec) : D < w.heap.size := (Array.getElem?_eq_some_iff.1 h.2).1
theorem RecAt.go {l D : Nat} {rec : Loop} (h : RecAt w l D rec) (hb : BX Y w w') (hl : ¬ Y l) (hD : ¬ Y D) : RecAt w' l D rec := ⟨(hb.block l h.ltl hl).trans h.1, (hb.block D h.ltD hD).trans h.2⟩
theorem RecAt.ne {l D : Nat} {rec : Loop} (h : RecAt w l D rec) : l ≠ D := fun e => by
  have := h.1.symm.trans (e ▸ h.2)
  cases this
theorem BX.putObj (w : World) (l : Nat) (o : Obj) : BX (One l) w (w.putObj l o) := ⟨rfl, rfl, rfl, by simp, fun _ _ hn => World.putObj_heap_other hn⟩
theorem RecAt.put {l D : Nat} {rec rec' : Loop} (h : RecAt w l D rec) : RecAt (w.putObj l (.loop rec')) l D rec' := ⟨World.putObj_heap_same h.ltl, (World.putObj_heap_other h.ne.symm).trans h.2⟩
theorem Own.ne_l {g T l D : Nat} {cs : Array Value} {rec : Loop} (h : Own w g T cs) (hr : RecAt w l D rec) : g ≠ l := fun e => by
  have := h.symm.trans (e ▸ hr.1)
  cases this
theorem Own.ne_D {g T l D : Nat} {cs : Array Value} {rec : Loop} (h : Own w g T cs) (hr : RecAt w l D rec) : g ≠ D := fun e => by
  have := h.symm.trans (e ▸ hr.2)
  cases this
theorem orow_cells {R : RTy α} {B e : Nat} {xs : List α} {v : Value} (hr : OwnRow R B e w M xs v) {g : Nat} (hb : v.ownBlock = some g) : ∃ cs T z, w.heap[g]? = some (.cells cs T z) := by
  obtain ⟨cells, ⟨_, h2⟩, _, _⟩ := hr
  rcases h2 with ⟨rfl, _⟩ | ⟨g', cap, cur, rfl, _, hh, _⟩
  · simp [Value.ownBlock] at hb
  · simp only [Value.ownBlock, Option.some.injEq] at hb
    subst hb
    exact ⟨_, _, _, hh⟩
theorem orow_ne_l {R : RTy α} {B e l D : Nat} {xs : List α} {v : Value} {rec : Loop} (hr : OwnRow R B e w M xs v) (hrec : RecAt w l D rec) : v.ownBlock ≠ some l := fun h => by
  obtain ⟨cs, T, z, hh⟩ := orow_cells hr h
  cases hh.symm.trans hrec.1
theorem orow_ne_D {R : RTy α} {B e l D : Nat} {xs : List α} {v : Value} {rec : Loop} (hr : OwnRow R B e w M xs v) (hrec : RecAt w l D rec) : v.ownBlock ≠ some D := fun h => by
  obtain ⟨cs, T, z, hh⟩ := orow_cells hr h
  cases hh.symm.trans hrec.2
/-- The blocks of a loop that collects. -/
def KS (g4 g5 g6 l D : Nat) (v : Value) : Nat → Prop := fun b => b = g4 ∨ b = g5 ∨ b = g6 ∨ b = l ∨ b = D ∨ v.ownBlock = some b
/-- How a loop stands that collects what comes in the row behind variable g6; g4 and g5 are the function's results. -/
structure Col (R : RTy α) (n0 g4 g5 g6 l D T4 T5 TE : Nat) (rec : Loop) (xs : List α) (v : Value) (M : Nat → Prop) (w : World) : Prop where
  o4 : Own w g4 T4 #[.slice none 0 0]
  o5 : Own w g5 T5 #[.bool false]
  o6 : Own w g6 T4 #[v]
  row : OwnRow R 0 TE w M xs v
  rb : ∀ b, v.ownBlock = some b → n0 ≤ b
  at_ : RecAt w l D rec
  mem : ∀ b, KS g4 g5 g6 l D v b → M b
def ColJ (R : RTy α) (n0 g4 g5 g6 l D T4 T5 TE : Nat) (rec : Loop) (xs : List α) (K M : Nat → Prop) (w : World) : Prop := ∃ v, K = KS g4 g5 g6 l D v ∧ Col R n0 g4 g5 g6 l D T4 T5 TE rec xs v M w
theorem Col.lt {R : RTy α} {n0 g4 g5 g6 l D T4 T5 TE : Nat} {rec : Loop} {xs : List α} {v : Value} (h : Col R n0 g4 g5 g6 l D T4 T5 TE rec xs v M w) : ∀ b, KS g4 g5 g6 l D v b → b < w.heap.size := by
  rintro b (rfl | rfl | rfl | rfl | rfl | e)
  · exact h.o4.lt
  · exact h.o5.lt
  · exact h.o6.lt
  · exact h.at_.ltl
  · exact h.at_.ltD
  · exact (h.row.block e).2
theorem Col.go {R : RTy α} {n0 g4 g5 g6 l D T4 T5 TE : Nat} {rec : Loop} {xs : List α} {v : Value} {M' : Nat → Prop} (h : Col R n0 g4 g5 g6 l D T4 T5 TE rec xs v M w) (hb : BX Y w w') (hY : ∀ b, Y b → ¬ KS g4 g5 g6 l D v b) (hM : ∀ b, M b → M' b) (hl : Le w M w' M') : Col R n0 g4 g5 g6 l D T4 T5 TE rec xs v M' w' :=
  ⟨h.o4.go hb fun e => hY _ e (.inl rfl), h.o5.go hb fun e => hY _ e (.inr (.inl rfl)), h.o6.go hb fun e => hY _ e (.inr (.inr (.inl rfl))),
   h.row.go hb (fun g e hy => hY g hy (.inr (.inr (.inr (.inr (.inr e)))))) hl hM, h.rb, h.at_.go hb (fun e => hY _ e (.inr (.inr (.inr (.inl rfl))))) (fun e => hY _ e (.inr (.inr (.inr (.inr (.inl rfl)))))), fun b e => hM b (h.mem b e)⟩
/-- A loop that collects takes what comes, if its rounds do. -/
theorem col_yd {R : RTy α} {n0 g4 g5 g6 l D T4 T5 TE : Nat} {rec : Loop} {Jx : World → Prop}
    (hyes : ∀ {xs ys : List α} {M : Nat → Prop} {w : World} {x : α} {v u : Value}, Col R n0 g4 g5 g6 l D T4 T5 TE rec xs u M w → VRep R w M x v → appF xs [x] = some ys → (∀ b, M b → b < w.heap.size) → YieldAt (FN none) 0 P l #[v, .bool true] w fun e w' => e = .returned (.bool true) ∧
      ∃ u' M', Col R n0 g4 g5 g6 l D T4 T5 TE rec ys u' M' w' ∧ BX (KS g4 g5 g6 l D u) w w' ∧ (∀ b, M b → M' b) ∧ (∀ b, M' b → M b ∨ (w.heap.size ≤ b ∧ b < w'.heap.size)) ∧ (∀ b, KS g4 g5 g6 l D u' b → KS g4 g5 g6 l D u b ∨ w.heap.size ≤ b))
    (hno : ∀ {xs : List α} {M : Nat → Prop} {w : World} {x : α} {v u : Value}, Col R n0 g4 g5 g6 l D T4 T5 TE rec xs u M w → VRep R w M x v → (∀ b, M b → b < w.heap.size) → YieldAt (FN none) 0 P l #[v, .bool false] w fun e w' => e = .returned (.bool false) ∧ Jx w' ∧ BX (KS g4 g5 g6 l D u) w w') :
    Yd P l R (ColJ R n0 g4 g5 g6 l D T4 T5 TE rec) Jx where
  mem := by rintro xs K M w ⟨v, rfl, h⟩; exact h.mem
  lt := by rintro xs K M w ⟨v, rfl, h⟩; exact h.lt
  go := by rintro xs K M w w' M' Y ⟨v, rfl, h⟩ hb hY hM hl; exact ⟨v, rfl, h.go hb hY hM hl⟩
  yes := by
    rintro xs ys K M w x v ⟨u, rfl, h⟩ hv ha ho
    refine (hyes h hv ha ho).mono ?_
    rintro e w' ⟨he, u', M', h1, h2, h3, h4, h5⟩
    exact ⟨he, _, M', ⟨u', rfl, h1⟩, h2, h3, h4, h5⟩
  no := by
    rintro xs K M w x v ⟨u, rfl, h⟩ hv ho
    exact hno h hv ho
/-- The function's end, with the mark of a loop. -/
theorem eg_retM {fn : Func} {R : Ending → World → Prop} {v : Value} {D : Nat} (hD : w.heap[D]? = some (.deferred (some []))) (hr : ∀ a, Fits n E a → (results fn a.tmps).run P (w.putObj D (.deferred none)) = .ok v (w.putObj D (.deferred none)))
    (hR : R (.returned v) (w.putObj D (.deferred none))) : EG .ret (bodyPostM (FN none) N P fn R) n E [{ target := .collected D, args := #[] }] w := by
  intro a ha
  show LeavesInM (FN none) N P fn a.tmps R a.defers .returning w
  rw [ha.2]
  exact ⟨by simp, .inl ⟨D, _, rfl, run_takeDeferred hD, ⟨v, hr { tmps := a.tmps, defers := [] } ha.1, hR⟩⟩⟩
theorem ow_makeFunc2 {o : Oper} {K : Value → World → Prop} {f : FuncId} {x y : Operand} {u v : Value} (hop : o.op = .makeFunc (.func f) #[] #[x, y]) (hx : PF.opv E x = some u) (hy : PF.opv E y = some v) (k : K (.func (.func f) #[] #[u, v]) w) : OW P o n E w K Q :=
  ow_run (fun a ha => by simp [execOp, hop, ha.opv hx, ha.opv hy, Instr.makeFunc]) k
theorem own_loadVar1 {g T t : Nat} {v : Value} (ho : Own w g T #[v]) (ha : (isAgg t).run P w = .ok false w) : (loadVar t ⟨g, 0, none⟩).run P w = .ok v w := by
  have hc : w.cell? ⟨g, 0, none⟩ = some v := by rw [ho.cell]; rfl
  simp [loadVar, ha, hc]
theorem walkM {f : FuncId} {fn : Func} {c : Code} {vs : List Value} {R : Ending → World → Prop} {N : Nat} (hf : P.funcs[f]? = some fn) (hb : fn.body = some c) (hN : fn.ntmps = N) (hv : Nat.ble vs.length N = true)
    (h : CG none 0 P c (bodyPostM (FN none) 0 P fn R) N (argEnv 0 vs) [] w) : Calls P f vs.toArray w R := by
  refine calls_out (N := 0) (callsIn_of_wp_marks hf hb trivial (h _ ?_) rfl)
  rw [hN]
  exact (fits_args _ (by simpa using Nat.le_of_ble_eq_true hv) (fun t v hv => by have := (argEnv_look _ _ _ _ hv).2; simpa using this)).d
/-- The statement, over a closure; the function that it calls is asked of at the world where the record lies. -/
theorem cg_rangeFunc {g : Operand} {ps : Array Tmp} {assign body : Code} {gf : FuncId} {lbl : List Value} (hf : PF.opv E g = some (.func (.func gf) #[] lbl.toArray)) (hcf : ∀ (args : Array Value) (w : World), (callFunc gf args).run P w = .ok (.enter gf args) w)
    (k : ∀ (fn : FuncId) (a : Act), Fits n E a → ∀ W1, BX No w W1 → RecAt W1 (w.heap.size + 1) w.heap.size { state := .ready, pending := none, fn, tmps := a.tmps, params := ps, assign, body, defers := w.heap.size } → W1.heap.size = w.heap.size + 2 →
      Calls P gf (.func (.yield (w.heap.size + 1)) #[] #[] :: lbl).toArray W1 fun e w3 => ∃ (v : Value) (rec' : Loop), e = .returned v ∧ RecAt w3 (w.heap.size + 1) w.heap.size rec' ∧ rec'.state ≠ .busy ∧
        ((rec'.pending = none ∧ EG .normal Q n E [{ target := .collected w.heap.size, args := #[] }] (w3.putObj (w.heap.size + 1) (.loop { rec' with state := .exhausted }))) ∨
         ∃ c, rec'.pending = some c ∧ CG none N P c Q n E [{ target := .collected w.heap.size, args := #[] }] (w3.putObj (w.heap.size + 1) (.loop { rec' with state := .exhausted })))) :
    CG none N P (.rangeFunc g ps assign body) Q n E [] w := by
  intro a ha
  refine wpIn_rangeFunc fun fn _ => ?_
  have hds : a.defers = [] := ha.2
  have hat : RecAt ((w.alloc (.deferred (some []))).alloc (.loop { state := .ready, pending := none, fn, tmps := a.tmps, params := ps, assign, body, defers := w.heap.size })) (w.heap.size + 1) w.heap.size { state := .ready, pending := none, fn, tmps := a.tmps, params := ps, assign, body, defers := w.heap.size } := by
    refine ⟨?_, (Below.heap_alloc _ _ _ (by simp)).trans (World.alloc_heap_new w _)⟩
    have := World.alloc_heap_new (w.alloc (.deferred (some []))) (.loop { state := .ready, pending := none, fn, tmps := a.tmps, params := ps, assign, body, defers := w.heap.size })
    rwa [World.size_alloc] at this
  have hbx : BX No w ((w.alloc (.deferred (some []))).alloc (.loop { state := .ready, pending := none, fn, tmps := a.tmps, params := ps, assign, body, defers := w.heap.size })) := (BX.alloc w _).trans ((BX.alloc _ _).mono fun _ _ e => e)
  have hsz : ((w.alloc (.deferred (some []))).alloc (.loop { state := .ready, pending := none, fn, tmps := a.tmps, params := ps, assign, body, defers := w.heap.size })).heap.size = w.heap.size + 2 := by simp
  have hen := run_enterLoop_outer (P := P) (w := w) fn a.tmps ps assign body
  generalize (w.alloc (.deferred (some []))).alloc (.loop { state := .ready, pending := none, fn, tmps := a.tmps, params := ps, assign, body, defers := w.heap.size }) = W1 at hat hbx hsz hen
  refine ⟨w.heap.size + 1, [{ target := .collected w.heap.size, args := #[] }], W1, { target := .fn (.func gf) lbl.toArray, args := #[.func (.yield (w.heap.size + 1)) #[] #[]] }, W1, gf, (.func (.yield (w.heap.size + 1)) #[] #[] :: lbl).toArray, W1,
    hen, ?_, fun _ _ => trivial, ?_, fun e => by simp [FN] at e, ?_⟩
  · have h2 : resolve a.eval (rangeCall g (w.heap.size + 1)) 0 = Deferred.ofValue (.func (.func gf) #[] lbl.toArray) #[.func (.yield (w.heap.size + 1)) #[] #[]] := by
      show Deferred.ofValue (a.eval g) _ = _
      rw [ha.opv hf]; simp [rangeCall, Act.eval]
    rw [h2]
    simp [Deferred.ofValue]
  · show (callFunc gf (#[.func (.yield (w.heap.size + 1)) #[] #[]] ++ lbl.toArray)).run P _ = _
    rw [hcf]; simp
  · refine (calls_in (r := none) (n := N - 1) (k fn a (by have := ha.nil; exact this) W1 hbx hat hsz)).mono ?_
    rintro e w3 ⟨v, rec', rfl, hr, hs, hj⟩
    refine ⟨_, _, run_endLoop hr.1 hs, ?_⟩
    have hfit : FitsD n E [{ target := .collected w.heap.size, args := #[] }] { tmps := a.tmps, defers := [{ target := .collected w.heap.size, args := #[] }] ++ a.defers } := ⟨ha.1, by rw [hds]; rfl⟩
    obtain ⟨_, pe, _, _, _, _, _, _⟩ := rec'
    rcases hj with ⟨hp, h⟩ | ⟨c, hp, h⟩
    · obtain rfl : pe = none := hp
      exact h _ hfit
    · obtain rfl : pe = some c := hp
      exact h _ hfit
theorem fold2 (T : Array Value) (p q : Tmp) (u v : Value) : (((#[p, q] : Array Tmp).zip #[u, v]).foldl (fun tmps (t, a) => tmps.setIfInBounds t a) T) = (T.setIfInBounds p u).setIfInBounds q v := by simp
/-- A call of yield at the record. -/
theorem yield2 {l D : Nat} {rec : Loop} {R : Ending → World → Prop} {fn : FuncId} {a : Act} {p q : Tmp} {assign body : Code} {u v : Value} (hat : RecAt w l D rec)
    (hrec : ({ state := .ready, pending := none, fn, tmps := a.tmps, params := #[p, q], assign, body, defers := D } : Loop) = rec) (hF : Fits n E a) (hp : p < n) (hq : q < n)
    (h : CG (some l) 0 P assign (Exit.then (fun a₁ w₁ => ∃ w₂, (Instr.beginRound l).run P w₁ = .ok () w₂ ∧ body.wpIn ((FN none).inRound l) 0 P (roundPost P l R) a₁ w₂) (fun _ _ _ => False)) n ((q, v) :: (p, u) :: E) [] w) : YieldAt (FN none) 0 P l #[u, v] w R := by
  have hyd := run_yield (P := P) (args := #[u, v]) hat.1 (by rw [← hrec]; rfl)
  rw [← hrec] at hyd
  simp only [fold2] at hyd
  refine ⟨_, _, _, _, hyd, roundIn_of_wpIn trivial ?_⟩
  have h0 : Fits n E { tmps := a.tmps, defers := [] } := ⟨rfl, hF.size, hF.get⟩
  exact h _ ((h0.put hp u).put hq v).d
theorem eg_begin {l D : Nat} {rec : Loop} {R : Ending → World → Prop} {body : Code} (hat : RecAt w l D rec) (hr : rec.state = .ready)
    (h : CG (some l) 0 P body (roundPost P l R) n E [] (w.putObj l (.loop { rec with state := .busy }))) : EG .normal (Exit.then (fun a₁ w₁ => ∃ w₂, (Instr.beginRound l).run P w₁ = .ok () w₂ ∧ body.wpIn ((FN none).inRound l) 0 P (roundPost P l R) a₁ w₂) (fun _ _ _ => False)) n E [] w :=
  fun a ha => ⟨_, run_beginRound hat.1 hr, h a ha⟩
theorem eg_next {l D : Nat} {rec : Loop} {R : Ending → World → Prop} (hat : RecAt w l D { rec with state := .busy }) (hr : rec.state = .ready) (hp : rec.pending = none)
    (h : R (.returned (.bool true)) (w.putObj l (.loop rec))) : EG .normal (roundPost P l R) n E [] w := fun a _ => by
  refine ⟨_, _, run_endRound none hat.1, ?_⟩
  obtain ⟨st, pe, _, _, _, _, _, _⟩ := rec
  obtain rfl : st = .ready := hr
  obtain rfl : pe = none := hp
  exact h
theorem eg_stop {l D : Nat} {rec : Loop} {R : Ending → World → Prop} (hat : RecAt w l D { rec with state := .busy })
    (h : R (.returned (.bool false)) (w.putObj l (.loop { rec with state := .done, pending := some .ret }))) : EG .ret (roundPost P l R) n E [] w := fun _ _ => ⟨_, _, run_endRound (some .ret) hat.1, h⟩
end
end Go.PF
