/- Rows and arrays that are written in place; no condition. -/
import Derived.Test.YtgglogmjjaahhaaDoorPFTypes
namespace Go.PF
open Go Go.RowKit

section
variable {α β : Type} {R : RTy α} {S : RTy β} {B B' e e' : Nat} {w w' w0 : World} {M M' M0 X Y : Nat → Prop} {xs : List α} {ys : List β} {v u : Value} {g T : Nat} {cs : Array Value}
theorem OwnRow.type (hr : OwnRow R B e w M xs v) {b : Nat} (hb : v.ownBlock = some b) : ∃ cur, w.heap[b]? = some (.cells cur e (0, 0)) := by
  obtain ⟨cells, ⟨_, h2⟩, _, _⟩ := hr
  rcases h2 with ⟨rfl, _⟩ | ⟨g', cap, cur, rfl, _, hh, _⟩
  · simp [Value.ownBlock] at hb
  · simp only [Value.ownBlock, Option.some.injEq] at hb
    subst hb; exact ⟨cur, hh⟩
theorem orow_row_ne (hr : OwnRow R B e w M xs v) (h : OwnRow S B' e' w M' ys u) (hne : e ≠ e') {b : Nat} (hb : v.ownBlock = some b) : u.ownBlock ≠ some b := by
  intro hu
  obtain ⟨c1, h1⟩ := hr.type hb
  obtain ⟨c2, h2⟩ := h.type hu
  rw [h1] at h2
  injection h2 with h2
  injection h2 with _ ht
  exact hne ht
theorem OwnRow.goRow (hr : OwnRow R B e w M xs v) (h : OwnRow S B' e' w M ys u) (hb : BX (fun b => u.ownBlock = some b) w w') (hl : Le w M w' M') (hM : ∀ b, M b → M' b) (hne : e ≠ e') : OwnRow R B e w' M' xs v :=
  hr.go hb (fun _ hk hu => orow_row_ne hr h hne hk hu) hl hM
theorem OwnRow.goDel (hr : OwnRow R B e w M xs v) (h : OwnRow S B' e' w M ys u) (hne : e ≠ e') : OwnRow R B e w (Del u M) xs v := by
  obtain ⟨cells, h1, h2, h3⟩ := hr
  exact ⟨cells, h1, h2.mono (Le.del w M u), fun k hk => ⟨h3 k hk, orow_row_ne ⟨cells, h1, h2, h3⟩ h hne hk⟩⟩
/-- An own variable with the datum x. -/
def OwnA (R : RTy α) (w : World) (M : Nat → Prop) (g T : Nat) (x : α) : Prop := ∃ cs, Own w g T cs ∧ R.rep w M x cs.toList
theorem OwnA.lt {x : α} (h : OwnA R w M g T x) : g < w.heap.size := let ⟨_, h, _⟩ := h; h.lt
theorem OwnA.go {x : α} (h : OwnA R w M g T x) (hb : BX Y w w') (hn : ¬ Y g) (hl : Le w M w' M') : OwnA R w' M' g T x := let ⟨cs, h1, h2⟩ := h; ⟨cs, h1.go hb hn, R.mono hl h2⟩
theorem OwnA.no {x : α} (h : OwnA R w M g T x) (hb : BX No w w') (hl : Le w M w' M') : OwnA R w' M' g T x := h.go hb (fun e => e) hl
theorem OwnA.mono {x : α} (h : OwnA R w M g T x) (hl : Le w M w M') : OwnA R w M' g T x := let ⟨cs, h1, h2⟩ := h; ⟨cs, h1, R.mono hl h2⟩
theorem OwnA.of {x : α} (h : Own w g T cs) (hr : R.rep w M x cs.toList) : OwnA R w M g T x := ⟨cs, h, hr⟩
theorem OwnA.type {x : α} (h : OwnA R w M g T x) : ∃ cs, Own w g T cs := let ⟨cs, h, _⟩ := h; ⟨cs, h⟩
end
section
variable {P : Program} {Q : Exit → Act → World → Prop} {n : Nat} {E : List (Nat × Value)} {w w0 : World} {M M0 X : Nat → Prop} {o : Oper} {K : Value → World → Prop} {α β : Type}
theorem ow_loadA {R : RTy α} {x : Operand} {t : TypeId} {d : α} {g T : Nat} {p : Addr} (hop : o.op = .load t x) (hx : opv E x = some (.pointer (some p))) (hp : p = ⟨g, 0, none⟩) (hA : OwnA R w M g T d)
    (hs : (sizeOf t).run P w = .ok R.size w) (ha : (isAgg t).run P w = .ok R.agg w) (k : ∀ v, VRep R w M d v → K v w) : OW P o n E w K Q := by
  subst hp
  obtain ⟨cs, ho, hr⟩ := hA
  have hl := R.len hr
  refine ow_run (v := R.pack cs.toList) (w' := w) (fun a hF => ?_) (k _ ⟨_, hr, rfl⟩)
  simp only [execOp, hop, hF.opv hx, Instr.loadAt, Instr.sureAddr, loadVar, Sem.run_bind, Sem.run_pure, Result.andThen_ok, ha]
  cases hag : R.agg
  · have h1 := R.one hag
    rw [h1] at hl
    obtain ⟨l⟩ := cs
    match l, hl with
    | [u], _ =>
      have := ho.cell 0
      simp [RTy.pack, hag, this]
  · rw [← hl] at hs
    have := run_loadCells_list (P := P) w ⟨g, 0, none⟩ cs.toList (fun j u hu => by rw [addr_add, ho.cell, Nat.zero_add]; simpa using hu)
    simp only [if_true, Sem.run_bind, hs, Result.andThen_ok, this, RTy.pack, hag, cond_true, Sem.run_pure]
theorem resA {R : RTy α} {t : TypeId} {d : α} {g T : Nat} (hA : OwnA R w M g T d) (hs : (sizeOf t).run P w = .ok R.size w) (ha : (isAgg t).run P w = .ok true w) (hag : R.agg = true) : ∃ v, (loadVar t ⟨g, 0, none⟩).run P w = .ok v w ∧ VRep R w M d v := by
  obtain ⟨cs, ho, hr⟩ := hA
  have hl := R.len hr
  refine ⟨.agg cs, own_loadVarA ho ha hs (by simpa using hl), cs.toList, hr, ?_⟩
  simp [RTy.pack, hag]
/-- A store of the whole of an own variable. -/
theorem ow_storeA {R : RTy α} {x y : Operand} {t : TypeId} {g T : Nat} {v : Value} {d : α} {p : Addr} (hop : o.op = .store t x y) (hx : opv E x = some (.pointer (some p))) (hp : p = ⟨g, 0, none⟩)
    (hy : opv E y = some v) {cs : Array Value} (ho : Own w g T cs) (hsz : cs.size = R.size) (hs : (sizeOf t).run P w = .ok R.size w) (hv : VRep R w M d v)
    (hm : M g) (hg : w0.heap.size ≤ g ∨ X g) (hC : Cx X w0 M0 w M)
    (k : ∀ w', OwnA R w' M g T d → BX (One g) w w' → Le w M w' M → Cx X w0 M0 w' M → K undef w') : OW P o n E w K Q := by
  have hr := hv.cells
  have hl := R.len hr
  refine ow_store (us := v.cells.toList) (cs' := splice cs 0 v.cells.toList) hop hx hp hy ho hs rfl hl (by simp [hsz]) (List.all_eq_true.2 (R.flat hr)) hm hg rfl hC fun w' ho' hb hle hC' => k w' ⟨_, ho', ?_⟩ hb hle hC'
  have hd : cs.toList.drop (0 + v.cells.toList.length) = [] := by rw [hl, ← hsz]; simp
  rw [splice_get _ _ _ (by omega), hd]
  simpa using R.mono hle hr
theorem OwnA.own {R : RTy α} {g T : Nat} {x : α} (h : OwnA R w M g T x) : ∃ cs, Own w g T cs ∧ cs.size = R.size := let ⟨cs, h1, h2⟩ := h; ⟨cs, h1, by have := R.len h2; simpa using this⟩
/-- The address of an element of an own array. -/
theorem ow_indexA {R : RTy α} {x i : Operand} {t e : TypeId} {N g T : Nat} {xs : List α} {p : Addr} {kd : IntKind} {j : Int} {y : α} (hop : o.op = .indexAddr t x i) (hx : opv E x = some (.pointer (some p))) (hp : p = ⟨g, 0, none⟩) (hi : opv E i = some (.int kd j))
    (hv : OwnA (RArr N R) w M g T xs) (ht : P.underlying t = some (.array N e)) (hs : (sizeOf e).run P w = .ok R.size w) (hj : idx xs j = some y)
    (k : K (.pointer (some ⟨g, j.toNat * R.size, none⟩)) w) : OW P o n E w K Q := by
  subst hp
  obtain ⟨m, rfl, hm, hy⟩ := idx_some hj
  obtain ⟨cs, ho, hN, hr⟩ := hv
  subst hN
  refine ow_run (fun a ha => ?_) k
  have h1 : (0 : Int) ≤ (m : Int) ∧ (m : Int) < (xs.length : Int) := by omega
  simp [execOp, hop, ha.opv hx, ha.opv hi, Instr.indexAt, asIntOf, run_underlying ht, Instr.sureAddr, hs, h1, addr_add]
  intro hle; omega
theorem own_part {R : RTy α} {g T m : Nat} {cs : Array Value} {vs : List Value} {xs : List α} {y : α} {t : TypeId} (ho : Own w g T cs) (hvs : ∀ (j : Nat) (u : Value), vs[j]? = some u → cs[j]? = some u) (hr : RepAll R w M xs vs) (hy : xs[m]? = some y)
    (hs : (sizeOf t).run P w = .ok R.size w) (ha : (isAgg t).run P w = .ok R.agg w) : ∃ v, (loadVar t ⟨g, m * R.size, none⟩).run P w = .ok v w ∧ VRep R w M y v := by
  have hrep := hr.at_ hy
  have hl := R.len hrep
  refine ⟨_, ?_, _, hrep, rfl⟩
  have hc : ∀ j u, ((vs.drop (m * R.size)).take R.size)[j]? = some u → w.cell? (Addr.add ⟨g, m * R.size, none⟩ j) = some u := by
    intro j u hu
    rw [addr_add, ho.cell]
    rw [List.getElem?_take] at hu
    split at hu
    · rw [List.getElem?_drop] at hu; exact hvs _ _ hu
    · cases hu
  generalize (vs.drop (m * R.size)).take R.size = us at hc hl hrep
  simp only [loadVar, Sem.run_bind, Result.andThen_ok, ha]
  cases hag : R.agg
  · have h1 := R.one hag
    rw [h1] at hl
    match us, hl with
    | [u], _ =>
      have := hc 0 u rfl
      rw [addr_add, Nat.add_zero] at this
      simp [RTy.pack, hag, this]
  · rw [← hl] at hs
    rw [if_pos rfl]
    simp only [Sem.run_bind, hs, Result.andThen_ok, run_loadCells_list w _ us hc, RTy.pack, hag, cond_true, Sem.run_pure]
theorem ow_loadElA {R : RTy α} {x : Operand} {t : TypeId} {N g T : Nat} {xs : List α} {p : Addr} {j : Int} {y : α} (hop : o.op = .load t x) (hx : opv E x = some (.pointer (some p))) (hp : p = ⟨g, j.toNat * R.size, none⟩)
    (hv : OwnA (RArr N R) w M g T xs) (hj : idx xs j = some y) (hs : (sizeOf t).run P w = .ok R.size w) (ha : (isAgg t).run P w = .ok R.agg w) (k : ∀ v, VRep R w M y v → K v w) : OW P o n E w K Q := by
  subst hp
  obtain ⟨m, rfl, hm, hy⟩ := idx_some hj
  obtain ⟨cs, ho, hN, hr⟩ := hv
  obtain ⟨v, hrun, hrv⟩ := own_part (P := P) (t := t) ho (fun j u hu => by simpa using hu) hr hy hs ha
  exact ow_run (fun a hF => by simp only [Int.toNat_natCast] at hx; simp [execOp, hop, hF.opv hx, Instr.loadAt, Instr.sureAddr, hrun]) (k _ hrv)
theorem ow_storeElA {R : RTy α} {x z : Operand} {t : TypeId} {N g T : Nat} {xs : List α} {p : Addr} {j : Int} {y y' : α} {v : Value} (hop : o.op = .store t x z) (hx : opv E x = some (.pointer (some p))) (hp : p = ⟨g, j.toNat * R.size, none⟩)
    (hz : opv E z = some v) (hv : OwnA (RArr N R) w M g T xs) (hj : idx xs j = some y) (hs : (sizeOf t).run P w = .ok R.size w) (hy' : VRep R w M y' v) (hm : M g) (hg : w0.heap.size ≤ g ∨ X g) (hC : Cx X w0 M0 w M)
    (k : ∀ w', OwnA (RArr N R) w' M g T (xs.set j.toNat y') → BX (One g) w w' → Le w M w' M → Cx X w0 M0 w' M → K undef w') : OW P o n E w K Q := by
  obtain ⟨m, rfl, hml, hy⟩ := idx_some hj
  simp only [Int.toNat_natCast] at hp k
  obtain ⟨cs, ho, hN, hr⟩ := hv
  have hlen := hr.len
  simp only [Array.length_toList] at hlen
  have hrv := hy'.cells
  have hl := R.len hrv
  have hfit : m * R.size + R.size ≤ cs.size := by rw [hlen, ← Nat.succ_mul]; exact Nat.mul_le_mul_right _ hml
  refine ow_store (us := v.cells.toList) (cs' := splice cs (m * R.size) v.cells.toList) hop hx hp hz ho hs rfl hl (Nat.ble_eq_true_of_le hfit) (List.all_eq_true.2 (R.flat hrv)) hm hg rfl hC fun w' ho' hb hle hC' => k w' ⟨_, ho', by rw [List.length_set]; exact hN, ?_⟩ hb hle hC'
  rw [splice_get _ _ _ (by omega), hl]
  have := (hr.mono hle).set (R.mono hle hrv) hml
  rw [Nat.succ_mul] at this
  exact this
/-! Rows -/
/-- The block of a row. -/
def blk (v : Value) : Nat := v.ownBlock.getD 0
theorem orow_blk {R : RTy α} {e B : Nat} {xs : List α} {v : Value} {j : Int} {y : α} (hv : OwnRow R B e w M xs v) (hj : idx xs j = some y) : v.ownBlock = some (blk v) := by
  obtain ⟨m, rfl, hm, hy⟩ := idx_some hj
  obtain ⟨cells, ⟨h1, h2⟩, hr, hM⟩ := hv
  rcases h2 with ⟨rfl, h0⟩ | ⟨g, cap, cur, rfl, _⟩
  · omega
  · rfl
theorem ow_indexRow {R : RTy α} {x i : Operand} {t e B : Nat} {xs : List α} {v : Value} {kd : IntKind} {j : Int} {y : α} (hop : o.op = .indexAddr t x i) (hx : opv E x = some v) (hi : opv E i = some (.int kd j))
    (hv : OwnRow R B e w M xs v) (ht : P.underlying t = some (.slice e)) (hs : (sizeOf e).run P w = .ok R.size w) (hj : idx xs j = some y)
    (k : K (.pointer (some ⟨blk v, j.toNat * R.size, none⟩)) w) : OW P o n E w K Q := by
  obtain ⟨m, rfl, hm, hy⟩ := idx_some hj
  obtain ⟨cells, ⟨h1, h2⟩, hr, hM⟩ := hv
  rcases h2 with ⟨rfl, h0⟩ | ⟨g, cap, cur, rfl, hg, hh, hcap, hmax, hsz, htake⟩
  · omega
  · refine ow_run (fun a ha => ?_) k
    have h1 : (0 : Int) ≤ (m : Int) ∧ (m : Int) < (xs.length : Int) := by omega
    simp [execOp, hop, ha.opv hx, ha.opv hi, Instr.indexAt, asIntOf, run_underlying ht, hs, h1, addr_add, blk, Value.ownBlock]
    intro hle; omega
theorem OwnRow.cur {R : RTy α} {B e g : Nat} {xs : List α} {v : Value} (hv : OwnRow R B e w M xs v) (hg : v.ownBlock = some g) : ∃ cap cur, v = .slice (some ⟨g, 0, none⟩) xs.length cap ∧ Own w g e cur ∧ xs.length ≤ cap ∧ cap ≤ maxLen ∧ cur.size = cap * R.size ∧ B ≤ g ∧ M g ∧ RepAll R w M xs (cur.toList.take (xs.length * R.size)) := by
  obtain ⟨cells, ⟨h1, h2⟩, hr, hM⟩ := hv
  rcases h2 with ⟨rfl, h0⟩ | ⟨g', cap, cur, rfl, hg', hh, hcap, hmax, hsz, htake⟩
  · simp [Value.ownBlock] at hg
  · simp only [Value.ownBlock, Option.some.injEq] at hg
    subst hg
    exact ⟨cap, cur, rfl, hh, hcap, hmax, hsz, hg', hM _ rfl, by rw [htake]; exact hr⟩
theorem ow_loadElRow {R : RTy α} {S : RTy β} {x : Operand} {t e B g off : Nat} {get : α → β} {xs : List α} {v : Value} {p : Addr} {j : Int} {y : α} (hop : o.op = .load t x) (hx : opv E x = some (.pointer (some p))) (hp : p = ⟨g, j.toNat * R.size + off, none⟩)
    (hv : OwnRow R B e w M xs v) (hg : v.ownBlock = some g) (hj : idx xs j = some y) (hf : Fld R off S get) (hs : (sizeOf t).run P w = .ok S.size w) (ha : (isAgg t).run P w = .ok S.agg w) (k : ∀ v, VRep S w M (get y) v → K v w) : OW P o n E w K Q := by
  subst hp
  obtain ⟨m, rfl, hm, hy⟩ := idx_some hj
  obtain ⟨cap, cur, rfl, ho, hcap, hmax, hsz, hB, hMg, hr⟩ := hv.cur hg
  have hrep := hf _ _ _ _ (hr.at_ hy)
  have hl := S.len hrep
  refine ow_run (v := S.pack _) (w' := w) (fun a hF => ?_) (k _ ⟨_, hrep, rfl⟩)
  have hc : ∀ i u, (((((cur.toList.take (xs.length * R.size)).drop (m * R.size)).take R.size).drop off).take S.size)[i]? = some u → w.cell? (Addr.add ⟨g, m * R.size + off, none⟩ i) = some u := by
    intro i u hu
    rw [addr_add, ho.cell]
    rw [List.getElem?_take] at hu
    split at hu
    · rw [List.getElem?_drop, List.getElem?_take] at hu
      split at hu
      · rw [List.getElem?_drop, List.getElem?_take] at hu
        split at hu
        · rw [Nat.add_assoc]; simpa using hu
        · cases hu
      · cases hu
    · cases hu
  generalize (((((cur.toList.take (xs.length * R.size)).drop (m * R.size)).take R.size).drop off).take S.size) = us at hc hl hrep
  simp only [Int.toNat_natCast] at hx
  simp only [execOp, hop, hF.opv hx, Instr.loadAt, Instr.sureAddr, loadVar, Sem.run_bind, Sem.run_pure, Result.andThen_ok, ha]
  cases hag : S.agg
  · have h1 := S.one hag
    rw [h1] at hl
    match us, hl with
    | [u], _ =>
      have := hc 0 u rfl
      rw [addr_add, Nat.add_zero] at this
      simp [RTy.pack, hag, this]
  · rw [← hl] at hs
    simp only [if_true, Sem.run_bind, hs, Result.andThen_ok, run_loadCells_list w _ us hc, RTy.pack, hag, cond_true, Sem.run_pure]
theorem splice_take {α : Type} {L us : List α} {k off s N : Nat} (h : off + us.length ≤ s) (h2 : k + s ≤ N) (h3 : N ≤ L.length) :
    List.take N (List.take (k + off) L ++ us ++ List.drop (k + off + us.length) L) =
      List.take k (List.take N L) ++ (List.take off (List.take s (List.drop k (List.take N L))) ++ us ++ List.drop (off + us.length) (List.take s (List.drop k (List.take N L)))) ++ List.drop (k + s) (List.take N L) := by
  obtain ⟨a, b, c, d, e, f, rfl, ha, hb, hc, hd, he⟩ : ∃ a b c d e f : List α, L = a ++ (b ++ (c ++ (d ++ (e ++ f)))) ∧ a.length = k ∧ b.length = off ∧ c.length = us.length ∧ d.length = s - off - us.length ∧ e.length = N - k - s := by
    refine ⟨L.take k, (L.drop k).take off, (L.drop (k + off)).take us.length, (L.drop (k + off + us.length)).take (s - off - us.length), (L.drop (k + s)).take (N - k - s), L.drop N, ?_, ?_, ?_, ?_, ?_, ?_⟩
    · have e1 : (L.drop (k + s)).take (N - k - s) ++ L.drop N = L.drop (k + s) := by
        conv => rhs; rw [← List.take_append_drop (N - k - s) (L.drop (k + s)), List.drop_drop]
        rw [show k + s + (N - k - s) = N from by omega]
      have e2 : (L.drop (k + off + us.length)).take (s - off - us.length) ++ L.drop (k + s) = L.drop (k + off + us.length) := by
        conv => rhs; rw [← List.take_append_drop (s - off - us.length) (L.drop (k + off + us.length)), List.drop_drop]
        rw [show k + off + us.length + (s - off - us.length) = k + s from by omega]
      have e3 : (L.drop (k + off)).take us.length ++ L.drop (k + off + us.length) = L.drop (k + off) := by
        conv => rhs; rw [← List.take_append_drop us.length (L.drop (k + off)), List.drop_drop]
      have e4 : (L.drop k).take off ++ L.drop (k + off) = L.drop k := by
        conv => rhs; rw [← List.take_append_drop off (L.drop k), List.drop_drop]
      rw [e1, e2, e3, e4, List.take_append_drop]
    all_goals simp only [List.length_take, List.length_drop]; omega
  have n1 : N = (a ++ (b ++ (c ++ (d ++ e)))).length := by simp only [List.length_append]; omega
  have t1 : List.take N (a ++ (b ++ (c ++ (d ++ (e ++ f))))) = a ++ (b ++ (c ++ (d ++ e))) := by
    rw [n1, show a ++ (b ++ (c ++ (d ++ (e ++ f)))) = (a ++ (b ++ (c ++ (d ++ e)))) ++ f from by simp, List.take_left]
  have t2 : List.take (k + off) (a ++ (b ++ (c ++ (d ++ (e ++ f))))) = a ++ b := by
    rw [show k + off = (a ++ b).length from by simp only [List.length_append]; omega, show a ++ (b ++ (c ++ (d ++ (e ++ f)))) = (a ++ b) ++ (c ++ (d ++ (e ++ f))) from by simp, List.take_left]
  have t3 : List.drop (k + off + us.length) (a ++ (b ++ (c ++ (d ++ (e ++ f))))) = d ++ (e ++ f) := by
    rw [show k + off + us.length = (a ++ (b ++ c)).length from by simp only [List.length_append]; omega, show a ++ (b ++ (c ++ (d ++ (e ++ f)))) = (a ++ (b ++ c)) ++ (d ++ (e ++ f)) from by simp, List.drop_left]
  have t4 : List.drop k (a ++ (b ++ (c ++ (d ++ e)))) = b ++ (c ++ (d ++ e)) := by rw [← ha, List.drop_left]
  have t5 : List.take s (b ++ (c ++ (d ++ e))) = b ++ (c ++ d) := by
    rw [show s = (b ++ (c ++ d)).length from by simp only [List.length_append]; omega, show b ++ (c ++ (d ++ e)) = (b ++ (c ++ d)) ++ e from by simp, List.take_left]
  have t6 : List.take off (b ++ (c ++ d)) = b := by rw [← hb, List.take_left]
  have t7 : List.drop (off + us.length) (b ++ (c ++ d)) = d := by
    rw [show off + us.length = (b ++ c).length from by simp only [List.length_append]; omega, show b ++ (c ++ d) = (b ++ c) ++ d from by simp, List.drop_left]
  have t8 : List.drop (k + s) (a ++ (b ++ (c ++ (d ++ e)))) = e := by
    rw [show k + s = (a ++ (b ++ (c ++ d))).length from by simp only [List.length_append]; omega, show a ++ (b ++ (c ++ (d ++ e))) = (a ++ (b ++ (c ++ d))) ++ e from by simp, List.drop_left]
  have t9 : List.take k (a ++ (b ++ (c ++ (d ++ e)))) = a := by rw [← ha, List.take_left]
  rw [t1, t2, t3, t4, t5, t6, t7, t8, t9]
  rw [show a ++ b ++ us ++ (d ++ (e ++ f)) = (a ++ (b ++ (us ++ (d ++ e)))) ++ f from by simp, n1, show (a ++ (b ++ (c ++ (d ++ e)))).length = (a ++ (b ++ (us ++ (d ++ e)))).length from by simp only [List.length_append]; omega, List.take_left]
  simp
/-- How a part of a datum is set. -/
def FldSet (R : RTy α) (off : Nat) (S : RTy β) (set : α → β → α) : Prop := ∀ w M x y vs us, R.rep w M x vs → S.rep w M y us → R.rep w M (set x y) (vs.take off ++ us ++ vs.drop (off + S.size)) ∧ off + S.size ≤ R.size
theorem FldSet.whole (R : RTy α) : FldSet R 0 R (fun _ y => y) := fun w M x y vs us h1 h2 => by
  refine ⟨?_, by omega⟩
  rw [Nat.zero_add, ← R.len h1, List.drop_length]
  simpa using h2
theorem ow_storeElRow {R : RTy α} {S : RTy β} {x z : Operand} {t e B g off : Nat} {set : α → β → α} {xs : List α} {v u : Value} {p : Addr} {j : Int} {y : α} {y' : β} (hop : o.op = .store t x z) (hx : opv E x = some (.pointer (some p))) (hp : p = ⟨g, j.toNat * R.size + off, none⟩)
    (hz : opv E z = some u) (hv : OwnRow R B e w M xs v) (hg : v.ownBlock = some g) (hj : idx xs j = some y) (hf : FldSet R off S set) (hs : (sizeOf t).run P w = .ok S.size w) (hy' : VRep S w M y' u) (hB : w0.heap.size ≤ B) (hC : Cx X w0 M0 w M)
    (k : ∀ w', OwnRow R B e w' M (xs.set j.toNat (set y y')) v → BX (One g) w w' → Le w M w' M → Cx X w0 M0 w' M → K undef w') : OW P o n E w K Q := by
  obtain ⟨m, rfl, hml, hy⟩ := idx_some hj
  simp only [Int.toNat_natCast] at hp k
  obtain ⟨cap, cur, rfl, ho, hcap, hmax, hsz, hBg, hMg, hr⟩ := hv.cur hg
  have hrv := hy'.cells
  have hl := S.len hrv
  have hset := hf _ _ _ _ _ _ (hr.at_ hy) hrv
  have hmS : m * R.size + R.size ≤ xs.length * R.size := by rw [← Nat.succ_mul]; exact Nat.mul_le_mul_right _ hml
  have hxs : xs.length * R.size ≤ cur.size := by rw [hsz]; exact Nat.mul_le_mul_right _ hcap
  have hfit : m * R.size + off + S.size ≤ cur.size := by have := hset.2; omega
  refine ow_store (us := u.cells.toList) (cs' := splice cur (m * R.size + off) u.cells.toList) hop hx hp hz ho hs rfl hl (Nat.ble_eq_true_of_le hfit) (List.all_eq_true.2 (S.flat hrv)) hMg (.inl (by omega)) rfl hC fun w' ho' hb hle hC' => k w' ⟨_, ⟨?_, .inr ⟨g, cap, _, by rw [List.length_set], hBg, ho', by rw [List.length_set]; exact hcap, hmax, by rw [splice_size, hsz], rfl⟩⟩, ?_, fun g' e' => by simp only [Value.ownBlock, Option.some.injEq] at e'; exact e' ▸ hMg⟩ hb hle hC'
  · have hs2 : (splice cur (m * R.size + off) u.cells.toList).toList.length = cur.size := by simp [splice_size]
    rw [List.length_set, List.length_take, hs2]; omega
  · have key := (hr.mono hle).set (R.mono hle hset.1) hml
    rw [List.length_set, splice_get _ _ _ (by omega), hl]
    refine (Eq.mp (congrArg (RepAll R w' M (xs.set m (set y y'))) ?_) key)
    rw [Nat.succ_mul]
    rw [← hl]
    exact (splice_take (by rw [hl]; exact hset.2) (by omega) (by simpa using hxs)).symm
/-- An empty literal that nobody writes to. -/
theorem ow_buildSlice0I {R : RTy α} {t e : TypeId} (hop : o.op = .buildSlice t 0 #[]) (hr : (Instr.buildSlice t 0 #[]).run P w = .ok (.slice (some ⟨w.heap.size, 0, none⟩) 0 0) (w.alloc (.cells #[] e))) (hC : Cx X w0 M0 w M)
    (k : ∀ p w', VRep (RSlice R) w' M ([] : List α) (.slice (some p) 0 0) → BX No w w' → Le w M w' M → Cx X w0 M0 w' M → K (.slice (some p) 0 0) w') : OW P o n E w K Q :=
  ow_run (v := .slice (some ⟨w.heap.size, 0, none⟩) 0 0) (w' := w.alloc (.cells #[] e)) (fun a ha => by simp [execOp, hop, hr]) (k _ _ vslice_nil (BX.alloc _ _) (Le.no M (BX.alloc _ _)) (hC.no (BX.alloc _ _)))
/-- A literal of at least one element that will be written to. -/
theorem ow_buildSliceOwn {R : RTy α} {t e : TypeId} {len : Nat} {ps : Array (Nat × Operand)} {vs : List (Nat × Value)} {cs : Array Value} {xs : List α} (hop : o.op = .buildSlice t len ps) (hx : parts E ps.toList = some vs)
    (hr : (Instr.buildSlice t len vs.toArray).run P w = .ok (.slice (some ⟨w.heap.size, 0, none⟩) len len) (w.alloc (.cells cs e))) (hl : xs.length = len) (hlm : Nat.ble len 4294967296 = true) (hrep : RepAll R w M xs cs.toList) (hC : Cx X w0 M0 w M)
    (k : ∀ p w' M', OwnRow R w0.heap.size e w' M' xs (.slice (some p) len len) → BX No w w' → Le w M w' M' → Cx X w0 M0 w' M' → (∀ b, M b → M' b) → p.block = w.heap.size → K (.slice (some p) len len) w') : OW P o n E w K Q := by
  have hbx := BX.alloc w (.cells cs e)
  have hlm' := Nat.le_of_ble_eq_true hlm
  have hle := (Le.no M hbx).add (Nat.le_refl w.heap.size)
  refine ow_run (v := .slice (some ⟨w.heap.size, 0, none⟩) len len) (fun a ha => by simp [execOp, hop, fits_partsA ha hx, hr]) (k _ _ (Add w.heap.size M) ⟨cs.toList, ⟨hrep.len, .inr ⟨w.heap.size, len, cs, by rw [hl], hC.bx.size, own_new _ _ _, by rw [hl]; exact Nat.le_refl _, by simp only [maxLen]; omega, ?_, ?_⟩⟩, hrep.mono hle, ?_⟩ hbx hle ((hC.no hbx).add (by simp) hC.bx.size) (fun _ h => .inr h) rfl)
  · have := hrep.len; rw [hl] at this; simpa using this
  · rw [List.take_of_length_le (by rw [hrep.len]; exact Nat.le_refl _)]
  · intro g e; simp only [Value.ownBlock, Option.some.injEq] at e; exact .inl e.symm
end
theorem Cx.trans {X : Nat → Prop} {w0 w w' : World} {M0 M M' : Nat → Prop} (h : Cx X w0 M0 w M) (k : Cx No w M w' M') : Cx X w0 M0 w' M' :=
  ⟨⟨k.bx.os.trans h.bx.os, k.bx.tape.trans h.bx.tape, k.bx.output.trans h.bx.output, Nat.le_trans h.bx.size k.bx.size, fun b hb hn => (k.bx.block b (Nat.lt_of_lt_of_le hb h.bx.size) (fun e => e)).trans (h.bx.block b hb hn)⟩,
    k.old, fun b hb => k.sup b (h.sup b hb), fun b hb => k.sup b (h.xm b hb), fun b hb => by
      rcases k.lo b hb with h1 | h1
      · exact h.lo b h1
      · exact .inr (Nat.le_trans h.bx.size h1)⟩
theorem Cx.le {w w' : World} {M M' : Nat → Prop} (k : Cx No w M w' M') : Le w M w' M' := ⟨k.bx.size, fun b hb _ => k.bx.block b hb (fun e => e), fun b hb hm => by
  rcases k.lo b hm with h1 | h1
  · exact h1
  · omega⟩
theorem OwnRow.base {α : Type} {R : RTy α} {B B' e : Nat} {w : World} {M : Nat → Prop} {xs : List α} {v : Value} (h : OwnRow R B e w M xs v) (hB : B' ≤ B) : OwnRow R B' e w M xs v := by
  obtain ⟨cells, ⟨h1, h2⟩, h3, h4⟩ := h
  refine ⟨cells, ⟨h1, ?_⟩, h3, h4⟩
  rcases h2 with h2 | ⟨g, cap, cur, hv, hg, r⟩
  · exact .inl h2
  · exact .inr ⟨g, cap, cur, hv, Nat.le_trans hB hg, r⟩
def xorF (i j : Int) : Int := W ((((i % 2 ^ 64).toNat ^^^ (j % 2 ^ 64).toNat : Nat)) : Int)
theorem ow_xor {P : Program} {Q : Exit → Act → World → Prop} {n : Nat} {E : List (Nat × Value)} {w : World} {o : Oper} {K : Value → World → Prop} {x y : Operand} {t u : TypeId} {i j : Int} (hop : o.op = .binOp .xor t x y u) (hx : opv E x = some (.int .i64 i)) (hy : opv E y = some (.int .i64 j)) (k : K (.int .i64 (xorF i j)) w) : OW P o n E w K Q :=
  ow_run (fun a ha => by simp [execOp, hop, ha.opv hx, ha.opv hy, eqGuard, binOp, Op.intBits]; rfl) k
end Go.PF
