/- Rows of the caller's that a call makes longer or shorter; rows that grow while the order is open; no condition. -/
import Derived.Test.YtgglogmjjaahhaaDoorPFChain
namespace Go.PF
open Go Go.RowKit

section
variable {X Y : Nat → Prop} {w0 w w' : World} {M0 M M' : Nat → Prop}
theorem Cx.trans2 (h : Cx X w0 M0 w M) (k : Cx Y w M w' M') (hY : ∀ b, Y b → w0.heap.size ≤ b ∨ X b) : Cx X w0 M0 w' M' :=
  ⟨(h.go k.bx hY).bx, k.old, fun b hb => k.sup b (h.sup b hb), fun b hb => k.sup b (h.xm b hb), fun b hb => by
    rcases k.lo b hb with h1 | h1
    · exact h.lo b h1
    · exact .inr (Nat.le_trans h.bx.size h1)⟩
theorem Cx.leY (k : Cx Y w M w' M') (hY : ∀ b, Y b → M b) : Le w M w' M' := ⟨k.bx.size, fun b hb hm => k.bx.block b hb (fun e => hm (hY b e)), fun b hb hm => by
  rcases k.lo b hm with h1 | h1
  · exact h1
  · omega⟩
end
section
variable {α : Type} {R : RTy α} {B B' e : Nat} {w w' : World} {M M' : Nat → Prop} {xs : List α} {v : Value}
theorem OwnRow.mem (h : OwnRow R B e w M xs v) : ∀ g, v.ownBlock = some g → M g := let ⟨_, _, _, h⟩ := h; h
theorem OwnRow.raise (h : OwnRow R B e w M xs v) (hB : ∀ g, v.ownBlock = some g → B' ≤ g) : OwnRow R B' e w M xs v := by
  obtain ⟨cells, ⟨h1, h2⟩, h3, h4⟩ := h
  refine ⟨cells, ⟨h1, ?_⟩, h3, h4⟩
  rcases h2 with h2 | ⟨g, cap, cur, rfl, hg, r⟩
  · exact .inl h2
  · exact .inr ⟨g, cap, cur, rfl, hB g rfl, r⟩
end
section
variable {P : Program} {Q : Exit → Act → World → Prop} {n : Nat} {E : List (Nat × Value)} {w w0 : World} {M M0 X : Nat → Prop} {o : Oper} {K : Value → World → Prop} {α β : Type}
/-- append to a row that may be the caller's. -/
theorem ow_appendX {R : RTy α} {B : Nat} {x y : Operand} {t ty e : TypeId} {i : TypeInfo} {z : Value} {s by_ : Nat} {xs ys zs : List α} {v u : Value} (hop : o.op = .call { callee := .builtin .append, args := #[x, y], argTypes := #[t, t] }) (_hty : o.type = ty)
    (hx : opv E x = some v) (hy : opv E y = some u) (ht : P.underlying t = some (.slice e)) (hi : P.info? e = some i) (hz : i.zero = some z) (hsz : i.size = s) (hby : i.bytes = by_) (hzs : z.cells.size = s) (hRs : R.size = s) (hs0 : Nat.blt 0 s = true) (hb : Nat.ble by_ 4096 = true)
    (hv : OwnRow R B e w M xs v) (hu : VRep (RSlice R) w M ys u) (hzz : appF xs ys = some zs) (hC : Cx X w0 M0 w M) (hB : B ≤ w.heap.size) (hge : ∀ g, v.ownBlock = some g → w0.heap.size ≤ g ∨ X g)
    (k : ∀ v' w' M', OwnRow R B e w' M' zs v' → BX (fun b => v.ownBlock = some b) w w' → Le w M w' M' → Cx X w0 M0 w' M' → (∀ b, M b → M' b) → (v'.ownBlock = v.ownBlock ∨ v'.ownBlock = some w.heap.size) → K v' w') : OW P o n E w K Q := by
  obtain ⟨rfl, hlen⟩ := appF_some hzz
  obtain ⟨A, cap, rfl, hcap, hcmax, hrow⟩ := vslice_shape hu
  obtain ⟨cells, hown, hrep, hMv⟩ := hv
  have hb' := Nat.le_of_ble_eq_true hb
  have hs0' : 0 < s := by simpa [Nat.blt_eq] using hs0
  obtain ⟨news, hnl, hnews, hnr⟩ : ∃ news : List Value, news.length = ys.length * s ∧ (∀ p, A = some p → ∀ j q, news[j]? = some q → w.cell? (p.add j) = some q) ∧ RepAll R w M ys news := by
    by_cases h0 : ys = []
    · subst h0; exact ⟨[], by simp, by simp, rfl⟩
    · obtain ⟨p, rfl, _, _, news, hr, hc⟩ := hrow h0
      exact ⟨news, by rw [hr.len, hRs], fun p' e j q hq => by obtain rfl := Option.some.inj e; exact hc j q hq, hr⟩
  have hfin : ∀ v' w', (Builtin.append_ #[t, t] o.type #[v, .slice A ys.length cap]).run P w = .ok v' w' → w'.ownsRow B e s v' (xs.length + ys.length) (cells ++ news) → w.grownBy w' v.ownBlock → (v'.ownBlock = v.ownBlock ∨ v'.ownBlock = some w.heap.size) → OW P o n E w K Q := by
    intro v' w' hrun hown' hgr hat
    have hbx : BX (fun b => v.ownBlock = some b) w w' := ⟨hgr.os, hgr.tape, hgr.output, hgr.size, fun b hb hn => hgr.block b hb (fun e => hn e.symm)⟩
    have hC1 : Cx X w0 M0 w' M := hC.go hbx hge
    have hle : Le w M w' M := Le.of_bx M hbx (fun b e => hMv b e)
    have hrun' : ∀ a, Fits n E a → (execOp a.eval o).run P w = .ok (.value v') w' := fun a ha => by
      simp [execOp, hop, resolve, invoke, builtin, ha.opv hx, ha.opv hy, hrun]
    have hrow' : ∀ M', Le w M w' M' → (∀ g, v'.ownBlock = some g → M' g) → OwnRow R B e w' M' (xs ++ ys) v' := fun M' hl hg =>
      ⟨_, by rw [List.length_append, hRs]; exact hown', (hrep.append hnr).mono hl, hg⟩
    rcases hat with hat | hat
    · exact ow_run hrun' (k v' w' M (hrow' M hle fun g e => hMv g (hat ▸ e)) hbx hle hC1 (fun _ h => h) (.inl hat))
    · have hlt : w.heap.size < w'.heap.size := by
        rcases hown'.2 with ⟨rfl, _⟩ | ⟨g, cap', cur, rfl, _, hh, _⟩
        · simp [Value.ownBlock] at hat
        · simp only [Value.ownBlock, Option.some.injEq] at hat
          subst hat
          rcases Nat.lt_or_ge w.heap.size w'.heap.size with h | h
          · exact h
          · rw [Array.getElem?_eq_none h] at hh; cases hh
      exact ow_run hrun' (k v' w' (Add w.heap.size M) (hrow' _ (hle.add (Nat.le_refl _)) fun g e => by rw [hat] at e; exact .inl (Option.some.inj e).symm) hbx (hle.add (Nat.le_refl _)) (hC1.add hlt hC.bx.size) (fun _ h => .inr h) (.inr hat))
  cases A with
  | none =>
    have hys : ys = [] := by
      by_cases h0 : ys = []
      · exact h0
      · obtain ⟨p, e, _⟩ := hrow h0; cases e
    subst hys
    have hn0 : news = [] := List.eq_nil_of_length_eq_zero (by simpa using hnl)
    subst hn0
    have hown1 := hown
    refine hfin v w ?_ (by simpa [hRs] using hown1) (World.grownBy.refl w _) (.inl rfl)
    rcases hown.2 with ⟨rfl, h0⟩ | ⟨g, cap', cur, rfl, _, _, hnc, _⟩
    · simp [Builtin.append_, run_underlying ht, sizeOf, typeInfo, hi, Builtin.lenOf, Builtin.firstCells]
    · simp [Builtin.append_, run_underlying ht, sizeOf, typeInfo, hi, Builtin.lenOf, Builtin.firstCells, hnc, storeCells]
  | some p =>
    obtain ⟨v', w', hrun, h2, h3, _, h5⟩ := run_append_own_at (P := P) w B t o.type e i z s by_ ht hi hz hsz hby hzs hs0' v xs.length cells (hRs ▸ hown) p ys.length cap news hnl (hnews p rfl) hnr.flat
      (by simp only [maxLen]; omega) (by have : (xs.length + ys.length) * by_ ≤ 4294967296 * 4096 := Nat.mul_le_mul hlen hb'; omega) hB
    exact hfin v' w' hrun h2 h3 h5
/-- The first m of a row of the call's own: a row of its own. -/
theorem ow_sliceToRow {R : RTy α} {B : Nat} {x hi : Operand} {t e : TypeId} {xs : List α} {v : Value} {m : Int} (hop : o.op = .slice t x none (some hi) none) (hx : opv E x = some v) (hh : opv E hi = some (.int .i64 m)) (hv : OwnRow R B e w M xs v)
    (ht : P.underlying t = some (.slice e)) (hs : (sizeOf e).run P w = .ok R.size w) (h0 : 0 ≤ m ∧ m ≤ xs.length) (k : ∀ u, OwnRow R B e w M (xs.take m.toNat) u → u.ownBlock = v.ownBlock → K u w) : OW P o n E w K Q := by
  obtain ⟨cells, ⟨hlen, h2⟩, hr, hM⟩ := hv
  obtain ⟨h0, hm⟩ := h0
  obtain ⟨m, rfl⟩ := Int.eq_ofNat_of_zero_le h0
  have hm' : m ≤ xs.length := by omega
  have hl : (xs.take m).length = m := by rw [List.length_take]; omega
  simp only [Int.toNat_natCast] at k
  rcases h2 with ⟨rfl, hx0⟩ | ⟨g, cap, cur, rfl, hg, hh2, hcap, hmax, hsz, htake⟩
  · have hm0 : m = 0 := by omega
    subst hm0
    have hrun : (Instr.sliceAt t (.slice none 0 0) none (some (.int .i64 ((0 : Nat) : Int))) none).run P w = .ok (.slice none 0 0) w := by
      simp [Instr.sliceAt, Instr.slice, run_underlying ht, Instr.sliceBounds, Instr.sliceBound, asIntOf, hs]
    simp only [Int.natCast_zero] at hrun hh
    exact ow_run (fun a ha => by simp [execOp, hop, ha.opv hx, ha.opv hh, hrun]) (k _ ⟨[], ⟨by simp, .inl ⟨rfl, by simp⟩⟩, by simp [RepAll], hM⟩ rfl)
  · have hrun : (Instr.sliceAt t (.slice (some ⟨g, 0, none⟩) xs.length cap) none (some (.int .i64 (m : Int))) none).run P w = .ok (.slice (some ⟨g, 0, none⟩) m cap) w := by
      have h2 : (m : Int) ≤ (cap : Int) := by omega
      simp only [Instr.sliceAt, Instr.slice, run_underlying ht, Sem.run_bind, Result.andThen_ok, Instr.sliceBounds, Instr.sliceBound, asIntOf, Sem.run_pure]
      rw [if_pos ⟨h0, h2⟩]
      have hA : (if cap = 0 then some (⟨g, 0, none⟩ : Addr) else (some (⟨g, 0, none⟩ : Addr)).map (fun a => a.add (0 * R.size))) = some ⟨g, 0, none⟩ := by
        by_cases hc : cap = 0
        · rw [if_pos hc]
        · rw [if_neg hc, Nat.zero_mul]; rfl
      simp only [Nat.zero_mul, Option.map_some] at hA
      simp only [Sem.run_pure, Result.andThen_ok, hs, Nat.zero_mul, Option.map_some, hA]
      simp
    refine ow_run (v := .slice (some ⟨g, 0, none⟩) m cap) (fun a ha => by simp [execOp, hop, ha.opv hx, ha.opv hh, hrun]) (k _ ⟨cells.take (m * R.size), ⟨?_, .inr ⟨g, cap, cur, by rw [hl], hg, hh2, by rw [hl]; omega, hmax, hsz, ?_⟩⟩, repAll_take m hr, hM⟩ rfl)
    · rw [List.length_take, hl, hlen]
      exact Nat.min_eq_left (Nat.mul_le_mul_right _ hm')
    · rw [← htake, List.take_take, hl]
      congr 1
      exact (Nat.min_eq_left (Nat.mul_le_mul_right _ hm')).symm
end
/-! A row that grows while the order is open. -/
def MonoRL (Y : Nat → Prop) : List (Option Nat) → List (Value → World → Prop) → Prop
  | none :: ks, p :: ps => MonoY Y p ∧ MonoRL Y ks ps
  | some _ :: ks, p :: ps => Mono p ∧ MonoRL Y ks ps
  | [], _ :: _ => False
  | _, [] => True
theorem MonoRL.nthY {Y : Nat → Prop} : ∀ {ks : List (Option Nat)} {ps : List (Value → World → Prop)}, MonoRL Y ks ps → ∀ i v w w', ks.getD i none = none → BX Y w w' → nthP ps i v w → nthP ps i v w'
  | _, [], _, _, _, _, _, _, _, _ => trivial
  | [], _ :: _, h, _, _, _, _, _, _, _ => h.elim
  | none :: _, _ :: _, h, 0, v, w, w', _, hb, hp => h.1 v w w' hb hp
  | some _ :: _, _ :: _, _, 0, _, _, _, hk, _, _ => by simp at hk
  | none :: _, _ :: _, h, i + 1, v, w, w', hk, hb, hp => MonoRL.nthY h.2 i v w w' (by simpa using hk) hb hp
  | some _ :: _, _ :: _, h, i + 1, v, w, w', hk, hb, hp => MonoRL.nthY h.2 i v w w' (by simpa using hk) hb hp
theorem MonoRL.nthQ {Y : Nat → Prop} : ∀ {ks : List (Option Nat)} {ps : List (Value → World → Prop)}, MonoRL Y ks ps → ∀ i v w w', BX No w w' → nthP ps i v w → nthP ps i v w'
  | _, [], _, _, _, _, _, _, _ => trivial
  | [], _ :: _, h, _, _, _, _, _, _ => h.elim
  | none :: _, _ :: _, h, 0, v, w, w', hb, hp => h.1 v w w' hb.no_to hp
  | some _ :: _, _ :: _, h, 0, v, w, w', hb, hp => h.1 v w w' hb hp
  | none :: _, _ :: _, h, i + 1, v, w, w', hb, hp => MonoRL.nthQ h.2 i v w w' hb hp
  | some _ :: _, _ :: _, h, i + 1, v, w, w', hb, hp => MonoRL.nthQ h.2 i v w w' hb hp
theorem leR {α : Type} {R : RTy α} {B e : Nat} {w w' : World} {M : Nat → Prop} {xs : List α} {v : Value} (hr : OwnRow R B e w M xs v) (hb : BX (fun b => v.ownBlock = some b) w w') : Le w M w' M := Le.of_bx M hb hr.mem
theorem PEq.monoR {Y : Nat → Prop} (c : Value) : MonoY Y (PEq c) := fun _ _ _ _ h => h
theorem PV.monoR {Y M : Nat → Prop} (hY : ∀ g, Y g → M g) {α : Type} (R : RTy α) (x : α) : MonoY Y (PV R M x) := fun _ _ _ hb h => VRep.mono (Le.of_bx M hb hY) h
theorem PA.monoR {Y M : Nat → Prop} (hY : ∀ g, Y g → M g) {α : Type} (R : RTy α) (x : α) : MonoY Y (PA R M x) := fun _ _ _ hb ⟨p, e, h⟩ => ⟨p, e, ARep.mono (Le.of_bx M hb hY) h⟩
/-- What a row is that has grown since w. -/
def PApp {α : Type} (R : RTy α) (B e : Nat) (X : Nat → Prop) (w0 : World) (M0 : Nat → Prop) (w : World) (M : Nat → Prop) (v : Value) (zs : List α) : Value → World → Prop := fun v' w' =>
  ∃ M', OwnRow R B e w' M' zs v' ∧ BX (fun b => v.ownBlock = some b) w w' ∧ Le w M w' M' ∧ Cx X w0 M0 w' M' ∧ (∀ b, M b → M' b) ∧ ∀ b, v'.ownBlock = some b → v.ownBlock = some b ∨ w.heap.size ≤ b
theorem PApp.mono {α : Type} (R : RTy α) (B e : Nat) (X : Nat → Prop) (w0 : World) (M0 : Nat → Prop) (w : World) (M : Nat → Prop) (v : Value) (zs : List α) : Mono (PApp R B e X w0 M0 w M v zs) :=
  fun _ _ _ hb ⟨M', h1, h2, h3, h4, h5, h6⟩ => ⟨M', h1.no hb, h2.trans hb.no_to, h3.trans (Le.no M' hb), h4.no hb, h5, h6⟩
/-- A part of a row. -/
def PRow {α : Type} (R : RTy α) (B e : Nat) (M : Nat → Prop) (zs : List α) (v : Value) : Value → World → Prop := fun u w' => OwnRow R B e w' M zs u ∧ u.ownBlock = v.ownBlock
theorem PRow.mono {α : Type} (R : RTy α) (B e : Nat) (M : Nat → Prop) (zs : List α) (v : Value) : Mono (PRow R B e M zs v) := fun _ _ _ hb h => ⟨h.1.no hb, h.2⟩
/-- A region that draws its order; one of its operations makes the row v longer. -/
theorem cw_drawR {P : Program} {Q : Exit → Act → World → Prop} {n : Nat} {E : List (Nat × Value)} {w : World} {l : List Oper} {id : Nat} {α : Type} {R : RTy α} {B e : Nat} {M : Nat → Prop} {xs : List α} {v : Value} (m : Nat) (kinds : List (Option Nat)) (ps : List (Value → World → Prop)) (hm : P.follows .mixedOrders = true) (hml : Nat.ble m l.length = true) (hok : drawOk l m n (E.map (·.1)) = true) (hch : chainOk l m 1 kinds = true)
    (hrow : OwnRow R B e w M xs v) (hps : MonoRL (fun b => v.ownBlock = some b) kinds ps)
    (hops : PRsC P l n E (BX (fun b => v.ownBlock = some b) w) (fun c w' => BX (fun b => v.ownBlock = some b) w w' ∧ (c = 0 → OwnRow R B e w' M xs v)) (BX (fun b => v.ownBlock = some b)) (nthP ps) Q (l.take m) kinds 0)
    (htail : ∀ w' D, BX (fun b => v.ownBlock = some b) w w' → DepFacts (nthP ps) D w' (List.range m) → LW P l.toArray Q (l.drop m) n (depEnv l D E (List.range m)) w') :
    CW P (.region id l.toArray true) Q n E w := by
  intro a ha
  have hml := Nat.le_of_ble_eq_true hml
  refine wp_region_any hm ?_
  have := any_headC (total := 1) (kinds := kinds) (S0 := BX (fun b => v.ownBlock = some b) w) (S := fun c w' => BX (fun b => v.ownBlock = some b) w w' ∧ (c = 0 → OwnRow R B e w' M xs v)) (St := BX (fun b => v.ownBlock = some b)) (Φ := nthP ps) hok hml hch
    (fun _ _ h => h.1) (fun _ _ _ h hb => ⟨h.1.trans hb.no_to, fun e => (h.2 e).no hb⟩) hps.nthQ (fun i v w w' hk hb => hps.nthY i v w w' (hk.resolve_right (fun ⟨_, _, h⟩ => by omega)) hb) hops (fun w' D h => htail w' D h.1) m (List.range m) 0 (Array.replicate l.length false) a w.drew (by simp) List.nodup_range (fun i hi => List.mem_range.1 hi) (Nat.zero_le _) (fun i d hi _ => by simp [hi]) (by simp)
    (fun i hi => by simp [hi]; omega) ha ⟨(BX.drew w).no_to, fun _ => hrow.no (BX.drew w)⟩ (fun i o hi _ hn => absurd (List.mem_range.2 hi) hn) (fun i o _ hi => by simp [Array.getD] at hi)
  rw [show m + (l.length - m) = l.toArray.size from by simp; omega] at this
  simpa using this

theorem ge_app {X : Nat → Prop} {w0 w : World} {M0 M : Nat → Prop} {v v' : Value} (hge : ∀ b, v.ownBlock = some b → w0.heap.size ≤ b ∨ X b) (hat : v'.ownBlock = v.ownBlock ∨ v'.ownBlock = some w.heap.size) (hC : Cx X w0 M0 w M) : ∀ b, v'.ownBlock = some b → w0.heap.size ≤ b ∨ X b := by
  intro b e
  rcases hat with h | h
  · exact hge b (h ▸ e)
  · rw [h] at e
    have := Option.some.inj e
    exact .inl (by rw [← this]; exact hC.bx.size)
theorem set_Place_next : FldSet RPlace 1 RInt (fun x y => { x with next := y }) := fun w M x y vs us h1 h2 => by
  obtain ⟨a, b, rfl, rfl, rfl⟩ := h1
  obtain rfl := h2
  exact ⟨⟨[.int .i64 x.chain], [.int .i64 y], rfl, rfl, rfl⟩, by decide⟩
def REmpty : RTy Unit where
  size := 0
  agg := true
  rep _ _ _ vs := vs = []
  len h := by rw [h]; rfl
  flat h := by rw [h]; simp
  one h := by cases h
  mono _ h := h
theorem vempty {w : World} {M : Nat → Prop} : VRep REmpty w M () (.agg #[]) := ⟨[], rfl, rfl⟩

/-! Actions. -/
section
variable {P : Program} {Q : Exit → Act → World → Prop} {n : Nat} {E : List (Nat × Value)} {w : World} {o : Oper} {K : Value → World → Prop}
theorem ow_makeIface {t : TypeId} {x : Operand} {v u : Value} (hop : o.op = .makeInterface t x) (hx : opv E x = some v) (hr : (Instr.makeInterface t v).run P w = .ok u w) (k : K u w) : OW P o n E w K Q :=
  ow_run (fun a ha => by simp [execOp, hop, ha.opv hx, hr]) k
theorem ow_invoke {x : Operand} {nm : String} {as : Array Operand} {ts : Array TypeId} {vs : List Value} {v : Value} {f : FuncId} {us : List Value} {Z : Value → World → Prop} (hop : o.op = .call { callee := .invoke x nm, args := as, argTypes := ts })
    (hf : opv E x = some v) (hx : opvs E as.toList = some vs) (hm : (callMethod v nm vs.toArray).run P w = .ok (.enter f us.toArray) w)
    (hc : Calls P f us.toArray w fun e w' => ∃ v, e = .returned v ∧ Z v w') (k : ∀ v w', Z v w' → K v w') : OW P o n E w K Q := by
  intro a ha
  have hargs : as.map a.eval = vs.toArray := by apply Array.toList_inj.1; rw [Array.toList_map]; exact ha.opvs hx
  unfold Oper.wp
  have hrun : (execOp a.eval o).run P w = .ok (.enter f us.toArray) w := by
    have e1 : (#[v] ++ vs.toArray)[0]? = some v := by simp
    have e2 : (#[v] ++ vs.toArray).extract 1 (#[v] ++ vs.toArray).size = vs.toArray := by
      apply Array.toList_inj.1; simp
    simp only [execOp, hop, resolve, ha.opv hf, hargs, invoke, Sem.run_bind, Sem.run_pure, Result.andThen_ok, e1, e2, hm]
  rw [hrun]
  refine Calls.mono hc ?_
  rintro e w' ⟨v, rfl, hz⟩
  exact ⟨v, rfl, k v w' hz⟩
end
end Go.PF
