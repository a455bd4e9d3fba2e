/- A row of rows of which the first one is the call's own: it may grow; no condition. -/
import Derived.Test.YtgglogmjjaahhaaDoorPFNew
namespace Go.PF
open Go Go.RowKit

/-- One cell as it is. -/
def RHd : RTy Value where
  size := 1
  agg := false
  rep _ _ x vs := vs = [x] ∧ x.oneCell' = true
  len h := by rw [h.1]; rfl
  flat h := by rw [h.1]; intro u hu; rw [List.mem_singleton.1 hu]; exact h.2
  one _ := rfl
  mono _ h := h
theorem rhd {w : World} {M : Nat → Prop} {v : Value} (h : v.oneCell' = true) : VRep RHd w M v v := ⟨[v], ⟨rfl, h⟩, rfl⟩
theorem rhd_eq {w : World} {M : Nat → Prop} {x v : Value} (h : VRep RHd w M x v) : v = x := by
  obtain ⟨vs, ⟨rfl, _⟩, rfl⟩ := h; rfl
theorem rhd_all {w : World} {M : Nat → Prop} : ∀ {hs cells : List Value}, RepAll RHd w M hs cells → cells = hs
  | [], _, h => h
  | _ :: _, _, ⟨_, _, e, ⟨e1, _⟩, h2⟩ => by rw [e, e1, rhd_all h2]; rfl
section
variable {α : Type} {R : RTy α} {B T T2 : Nat} {w w' w0 : World} {M M' M0 X Y : Nat → Prop}
def VAll (R : RTy α) (w : World) (M : Nat → Prop) : List (List α) → List Value → Prop
  | [], [] => True
  | y :: ys, h :: hs => VRep (RSlice R) w M y h ∧ VAll R w M ys hs
  | _, _ => False
theorem VAll.mono (hl : Le w M w' M') : ∀ {ys : List (List α)} {hs : List Value}, VAll R w M ys hs → VAll R w' M' ys hs
  | [], [], _ => trivial
  | _ :: _, _ :: _, h => ⟨VRep.mono hl h.1, VAll.mono hl h.2⟩
  | [], _ :: _, h => h.elim
  | _ :: _, [], h => h.elim
theorem VAll.snoc {y : List α} {h : Value} (hy : VRep (RSlice R) w M y h) : ∀ {ys : List (List α)} {hs : List Value}, VAll R w M ys hs → VAll R w M (ys ++ [y]) (hs ++ [h])
  | [], [], _ => ⟨hy, trivial⟩
  | _ :: _, _ :: _, k => ⟨k.1, VAll.snoc hy k.2⟩
  | [], _ :: _, k => k.elim
  | _ :: _, [], k => k.elim
theorem VAll.len : ∀ {ys : List (List α)} {hs : List Value}, VAll R w M ys hs → hs.length = ys.length
  | [], [], _ => rfl
  | _ :: _, _ :: _, k => congrArg Nat.succ (VAll.len k.2)
  | [], _ :: _, k => k.elim
  | _ :: _, [], k => k.elim
theorem VAll.rep : ∀ {ys : List (List α)} {hs : List Value}, VAll R w M ys hs → RepAll (RSlice R) w M ys hs
  | [], [], _ => rfl
  | _ :: _, h :: _, k => by
    obtain ⟨vs, hr, e⟩ := k.1
    have hl := (RSlice R).len hr
    match vs, hl with
    | [u], _ => exact ⟨[u], _, by rw [show h = u from e]; rfl, hr, VAll.rep k.2⟩
  | [], _ :: _, k => k.elim
  | _ :: _, [], k => k.elim
/-- What the heads stand for: the first row is the call's own. -/
def HCon (R : RTy α) (B T2 : Nat) (w : World) (M : Nat → Prop) : List (List α) → List Value → Prop
  | [], [] => True
  | y :: ys, h :: hs => OwnRow R B T2 w M y h ∧ VAll R w M ys hs
  | _, _ => False
theorem HCon.len : ∀ {ys : List (List α)} {hs : List Value}, HCon R B T2 w M ys hs → hs.length = ys.length
  | [], [], _ => rfl
  | _ :: _, _ :: _, k => congrArg Nat.succ (VAll.len k.2)
  | [], _ :: _, k => k.elim
  | _ :: _, [], k => k.elim
def HRow (R : RTy α) (B T T2 : Nat) (w : World) (M : Nat → Prop) (ys : List (List α)) (v : Value) : Prop := ∃ hs, OwnRow RHd B T w M hs v ∧ HCon R B T2 w M ys hs
theorem hrow_nil : HRow R B T T2 w M ([] : List (List α)) (.slice none 0 0) := ⟨[], ownrow_nil, trivial⟩
theorem OwnRow.ty {v : Value} {xs : List α} (h : OwnRow R B T w M xs v) {b : Nat} (hb : v.ownBlock = some b) : ∃ cur, w.heap[b]? = some (.cells cur T (0, 0)) := by
  obtain ⟨cells, ⟨_, h2⟩, _, _⟩ := h
  rcases h2 with ⟨rfl, _⟩ | ⟨g, cap, cur, rfl, hg, hh, r⟩
  · simp [Value.ownBlock] at hb
  · simp only [Value.ownBlock, Option.some.injEq] at hb
    subst hb; exact ⟨cur, hh⟩
/-- Nothing of Y is a row of type T. -/
def Off (w : World) (T : Nat) (Y : Nat → Prop) : Prop := ∀ b cur, w.heap[b]? = some (.cells cur T (0, 0)) → ¬ Y b
theorem Off.row {v : Value} {xs : List α} (h : OwnRow R B T w M xs v) (ho : Off w T Y) : ∀ b, v.ownBlock = some b → ¬ Y b := fun b hb => let ⟨cur, hc⟩ := h.ty hb; ho b cur hc
theorem off_own {g T' : Nat} {cs : Array Value} (h : Own w g T' cs) (hne : T ≠ T') : Off w T (One g) := by
  rintro b cur hc rfl
  unfold Own at h
  rw [h] at hc
  injection hc with hc
  injection hc with _ ht
  exact hne ht.symm
theorem off_no : Off w T No := fun _ _ _ h => h
theorem HCon.go (hb : BX Y w w') (hn : Off w T2 Y) (hl : Le w M w' M') (hM : ∀ b, M b → M' b) : ∀ {ys : List (List α)} {hs : List Value}, HCon R B T2 w M ys hs → HCon R B T2 w' M' ys hs
  | [], [], _ => trivial
  | _ :: _, _ :: _, k => ⟨k.1.go hb (hn.row k.1) hl hM, k.2.mono hl⟩
  | [], _ :: _, k => k.elim
  | _ :: _, [], k => k.elim
variable {ys : List (List α)} {v : Value}
theorem HRow.goY (h : HRow R B T T2 w M ys v) (hb : BX Y w w') (hn : Off w T Y) (hn2 : Off w T2 Y) (hl : Le w M w' M') (hM : ∀ b, M b → M' b) : HRow R B T T2 w' M' ys v :=
  let ⟨hs, hr, hc⟩ := h; ⟨hs, hr.go hb (hn.row hr) hl hM, hc.go hb hn2 hl hM⟩
theorem HRow.no (h : HRow R B T T2 w M ys v) (hb : BX No w w') : HRow R B T T2 w' M ys v := h.goY hb off_no off_no (Le.no M hb) fun _ h => h
theorem HRow.add (h : HRow R B T T2 w M ys v) (hb : BX No w w') {g : Nat} (hg : w.heap.size ≤ g) : HRow R B T T2 w' (Add g M) ys v := h.goY hb off_no off_no ((Le.no M hb).add hg) fun _ h => .inr h
theorem HRow.goOwn (h : HRow R B T T2 w M ys v) {g T' : Nat} {cs : Array Value} (hb : BX (One g) w w') (ho : Own w g T' cs) (hl : Le w M w' M) (h1 : T ≠ T') (h2 : T2 ≠ T') : HRow R B T T2 w' M ys v :=
  h.goY hb (off_own ho h1) (off_own ho h2) hl fun _ h => h
theorem HRow.len (h : HRow R B T T2 w M ys v) : ∃ A cap, v = .slice A ys.length cap := by
  obtain ⟨hs, hr, hc⟩ := h
  obtain ⟨A, cap, e⟩ := hr.len
  exact ⟨A, cap, by rw [e, hc.len]⟩
theorem OwnRow.one {xs : List α} (h : OwnRow R B T w M xs v) : v.oneCell' = true := by obtain ⟨A, c, rfl⟩ := h.len; rfl
theorem OwnRow.drop {xs : List α} (h : OwnRow R B T w M xs v) {u : Value} (hn : ∀ b, v.ownBlock = some b → u.ownBlock ≠ some b) : OwnRow R B T w (Del u M) xs v :=
  let ⟨cells, h1, h2, h3⟩ := h; ⟨cells, h1, h2.mono (Le.del w M u), fun g e => ⟨h3 g e, hn g e⟩⟩
theorem heads_flat {hs : List Value} (hr : OwnRow RHd B T w M hs v) (hv : VAll R w M ys hs) : OwnRow (RSlice R) B T w M ys v := by
  obtain ⟨cells, h1, h2, h3⟩ := hr
  obtain rfl := rhd_all h2
  rw [hv.len] at h1
  exact ⟨cells, h1, hv.rep, h3⟩
/-- All rows are given away but the outer one. -/
theorem HRow.flat (h : HRow R w0.heap.size T T2 w M ys v) (hC : Cx X w0 M0 w M) (hX : ∀ b, X b → M0 b) (hO : ∀ b, M0 b → b < w0.heap.size) (hne : T ≠ T2) :
    ∃ M', OwnRow (RSlice R) w0.heap.size T w M' ys v ∧ Le w M w M' ∧ Cx X w0 M0 w M' ∧ ∀ g cs T', Own w g T' cs → T2 ≠ T' → M g → M' g := by
  obtain ⟨hs, hr, hc⟩ := h
  match ys, hs, hc with
  | [], [], _ => exact ⟨M, heads_flat (ys := []) hr trivial, Le.refl _ _, hC, fun _ _ _ _ _ h => h⟩
  | y :: ys, h0 :: hs, hc =>
    refine ⟨Del h0 M, heads_flat (hr.drop fun b e => orow_row_ne hr hc.1 hne e) ⟨hc.1.freezeDel, hc.2.mono (Le.del w M h0)⟩, Le.del w M h0, hc.1.cxDel hC hX hO, fun g cs T' ho ht hm => ⟨hm, fun e => orow_ne hc.1 ho ht e⟩⟩
/-! A new row, and a slice of it. -/
def PNR (R : RTy α) (B T2 : Nat) (X : Nat → Prop) (w0 : World) (M0 : Nat → Prop) (w : World) (M : Nat → Prop) (xs : List α) : Value → World → Prop := fun v w' =>
  ∃ M', OwnRow R B T2 w' M' xs v ∧ Le w M w' M' ∧ Cx X w0 M0 w' M' ∧ (∀ b, M b → M' b) ∧ ∀ b, v.ownBlock = some b → w.heap.size ≤ b
def PNL (R : RTy α) (B T2 : Nat) (X : Nat → Prop) (w0 : World) (M0 : Nat → Prop) (w : World) (M : Nat → Prop) (xs : List α) : Value → World → Prop := fun u w' =>
  ∃ v M', VRep (RSlice RHd) w' M' [v] u ∧ OwnRow R B T2 w' M' xs v ∧ Le w M w' M' ∧ Cx X w0 M0 w' M' ∧ (∀ b, M b → M' b) ∧ ∀ b, v.ownBlock = some b → w.heap.size ≤ b
theorem PNR.monoY {g : Nat} {xs : List α} (hg : M g) (hlt : g < w.heap.size) (hX : w0.heap.size ≤ g ∨ X g) : MonoY (One g) (PNR R B T2 X w0 M0 w M xs) :=
  fun _ _ _ hb ⟨M', h1, h2, h3, h4, h5⟩ =>
    have hl := leY (h4 g hg) hb
    ⟨M', h1.go hb (fun b e hy => by have := h5 b e; rw [show b = g from hy] at this; omega) hl (fun _ h => h), h2.trans hl, h3.go hb (fun b e => by rw [show b = g from e]; exact hX), h4, h5⟩
theorem PNL.monoY {g : Nat} {xs : List α} (hg : M g) (hlt : g < w.heap.size) (hX : w0.heap.size ≤ g ∨ X g) : MonoY (One g) (PNL R B T2 X w0 M0 w M xs) :=
  fun _ _ _ hb ⟨v, M', h0, h1, h2, h3, h4, h5⟩ =>
    have hl := leY (h4 g hg) hb
    ⟨v, M', h0.mono hl, h1.go hb (fun b e hy => by have := h5 b e; rw [show b = g from hy] at this; omega) hl (fun _ h => h), h2.trans hl, h3.go hb (fun b e => by rw [show b = g from e]; exact hX), h4, h5⟩
end
section
variable {P : Program} {Q : Exit → Act → World → Prop} {n : Nat} {E : List (Nat × Value)} {ws w w0 : World} {M Ms M0 X : Nat → Prop} {o : Oper} {K : Value → World → Prop} {α : Type}
theorem ow_appendH {R : RTy α} {x y : Operand} {t ty e T2 : TypeId} {i : TypeInfo} {z : Value} {s by_ : Nat} {ys zs : List (List α)} {d : List α} {v u h : Value} {g Tg : Nat} {cs : Array Value} (hop : o.op = .call { callee := .builtin .append, args := #[x, y], argTypes := #[t, t] }) (hty : o.type = ty)
    (hx : opv E x = some v) (hy : opv E y = some u) (ht : P.underlying t = some (.slice e)) (hi : P.info? e = some i) (hz : i.zero = some z) (hsz : i.size = s) (hby : i.bytes = by_) (hzs : z.cells.size = s) (hRs : (1 : Nat) = s) (hs0 : Nat.blt 0 s = true) (hb : Nat.ble by_ 4096 = true)
    (hv : HRow R w0.heap.size e T2 ws Ms ys v) (hbx : BX (One g) ws w) (hog : Own ws g Tg cs) (n1 : e ≠ Tg) (n2 : T2 ≠ Tg) (n3 : T2 ≠ e) (hu : VRep (RSlice RHd) w M [h] u) (hh : OwnRow R w0.heap.size T2 w M d h) (hle : Le ws Ms w M) (hsub : ∀ b, Ms b → M b) (hge : ∀ b, h.ownBlock = some b → ws.heap.size ≤ b)
    (hzz : appF ys [d] = some zs) (hC : Cx X w0 M0 w M) (hX : ∀ b, X b → M0 b) (hO : ∀ b, M0 b → b < w0.heap.size)
    (k : ∀ v' w' M', HRow R w0.heap.size e T2 w' M' zs v' → BX (fun b => v.ownBlock = some b) w w' → Le w M w' M' → Cx X w0 M0 w' M' → (∀ g cs T', Own w g T' cs → e ≠ T' → T2 ≠ T' → v.ownBlock ≠ some g ∧ (M g → M' g)) → K v' w') : OW P o n E w K Q := by
  obtain ⟨hs, hr, hcon⟩ := hv
  obtain ⟨rfl, hlen⟩ := appF_some hzz
  have hr8 := hr.go hbx ((off_own hog n1).row hr) hle hsub
  have hap : appF hs [h] = some (hs ++ [h]) := by
    unfold appF; rw [if_pos (by rw [hcon.len]; exact hlen)]
  refine ow_append (R := RHd) hop hty hx hy ht hi hz hsz hby hzs hRs hs0 hb hr8 hu hap hC fun v' w9 M9 hr9 hb9 hl9 hC9 hM9 hat9 => ?_
  have hne : ∀ g cs T', Own w g T' cs → e ≠ T' → v.ownBlock ≠ some g := fun g cs T' ho h1 => orow_ne hr8 ho h1
  have hh9 := hh.goRow hr8 hb9 hl9 hM9 n3
  have hr9' := hr9.goDel hh9 n3.symm
  match ys, hs, hcon with
  | [], [], _ => exact k v' w9 M9 ⟨[h], hr9, hh9, trivial⟩ hb9 hl9 hC9 fun g cs T' ho h1 h2 => ⟨hne g cs T' ho h1, hM9 g⟩
  | y0 :: ys, h0 :: hs, hcon =>
    have h08 := hcon.1.go hbx ((off_own hog n2).row hcon.1) hle hsub
    have h09 := (h08.goRow hr8 hb9 hl9 hM9 n3).drop (u := h) (fun b e1 e2 => by
      have h1 := (hcon.1.block e1).2
      have h2 := hge b e2
      omega)
    have hl := hl9.trans (Le.del w9 M9 h)
    refine k v' w9 (Del h M9) ⟨_, hr9', h09, VAll.snoc hh9.freezeDel (hcon.2.mono (hle.trans hl))⟩ hb9 hl (hh9.cxDel hC9 hX hO) fun g cs T' ho h1 h2 => ⟨hne g cs T' ho h1, fun hm => ⟨hM9 g hm, fun e2 => orow_ne hh ho h2 e2⟩⟩
end
/-! A region that draws its order, whose calls write one variable and whose last step makes a row longer. -/
section
variable {α : Type} {R : RTy α} {B T T2 : Nat} {w w0 : World} {M M0 X Y : Nat → Prop}
theorem HRow.cons {ys : List (List α)} {d : List α} {v : Value} (h : HRow R B T T2 w M ys v) (hi : idx ys 0 = some d) : ∃ h0 hs zs, ys = d :: zs ∧ OwnRow RHd B T w M (h0 :: hs) v ∧ OwnRow R B T2 w M d h0 ∧ VAll R w M zs hs := by
  obtain ⟨hs, hr, hc⟩ := h
  match ys, hs, hc with
  | [], [], _ => exact absurd hi (by simp [idx])
  | y :: ys, h0 :: hs, hc =>
    have e : y = d := by simpa [idx] using hi
    subst e
    exact ⟨h0, hs, ys, rfl, hr, hc.1, hc.2⟩
def PApp2 (R : RTy α) (B T2 : Nat) (X : Nat → Prop) (w0 : World) (M0 : Nat → Prop) (w : World) (M : Nat → Prop) (xs : List α) : Value → World → Prop := fun v w' =>
  ∃ M', OwnRow R B T2 w' M' xs v ∧ Le w M w' M' ∧ Cx X w0 M0 w' M' ∧ ∀ b, M b → M' b
theorem PApp2.mono {xs : List α} : Mono (PApp2 R B T2 X w0 M0 w M xs) := fun _ _ _ hb ⟨M', h1, h2, h3, h4⟩ => ⟨M', h1.no hb, h2.trans (Le.no M' hb), h3.no hb, h4⟩
end
def MonoKL (Y : Nat → Prop) (total : Nat) : List (Option Nat) → List (Value → World → Prop) → Prop
  | none :: ks, p :: ps => MonoY Y p ∧ MonoKL Y total ks ps
  | some d :: ks, p :: ps => (bif Nat.beq (d + 1) total then Mono p else MonoY Y p) ∧ MonoKL Y total ks ps
  | [], _ :: _ => False
  | _, [] => True
theorem MonoKL.nthY {Y : Nat → Prop} {total : Nat} : ∀ {ks : List (Option Nat)} {ps : List (Value → World → Prop)}, MonoKL Y total ks ps → ∀ i v w w', (ks.getD i none = none ∨ ∃ d, ks.getD i none = some d ∧ d + 1 < total) → BX Y w w' → nthP ps i v w → nthP ps i v w'
  | _, [], _, _, _, _, _, _, _, _ => trivial
  | [], _ :: _, h, _, _, _, _, _, _, _ => h.elim
  | none :: _, _ :: _, h, 0, v, w, w', _, hb, hp => h.1 v w w' hb hp
  | some d :: _, _ :: _, h, 0, v, w, w', hk, hb, hp => by
    rcases hk with hk | ⟨d', hd, hlt⟩
    · simp at hk
    · have e : d = d' := by simpa using hd
      have hf : Nat.beq (d + 1) total = false := by
        cases hb' : Nat.beq (d + 1) total
        · rfl
        · have := Nat.eq_of_beq_eq_true hb'; omega
      have h1 := h.1
      rw [hf] at h1
      exact h1 v w w' hb hp
  | none :: _, _ :: _, h, i + 1, v, w, w', hk, hb, hp => MonoKL.nthY h.2 i v w w' (by simpa using hk) hb hp
  | some _ :: _, _ :: _, h, i + 1, v, w, w', hk, hb, hp => MonoKL.nthY h.2 i v w w' (by simpa using hk) hb hp
theorem MonoKL.nthQ {Y : Nat → Prop} {total : Nat} : ∀ {ks : List (Option Nat)} {ps : List (Value → World → Prop)}, MonoKL Y total ks ps → ∀ i v w w', BX No w w' → nthP ps i v w → nthP ps i v w'
  | _, [], _, _, _, _, _, _, _ => trivial
  | [], _ :: _, h, _, _, _, _, _, _ => h.elim
  | none :: _, _ :: _, h, 0, v, w, w', hb, hp => h.1 v w w' hb.no_to hp
  | some d :: _, _ :: _, h, 0, v, w, w', hb, hp => by
    have h1 := h.1
    cases hf : Nat.beq (d + 1) total
    · rw [hf] at h1; exact h1 v w w' hb.no_to hp
    · rw [hf] at h1; exact h1 v w w' hb hp
  | none :: _, _ :: _, h, i + 1, v, w, w', hb, hp => MonoKL.nthQ h.2 i v w w' hb hp
  | some _ :: _, _ :: _, h, i + 1, v, w, w', hb, hp => MonoKL.nthQ h.2 i v w w' hb hp
def OrRow (g : Nat) (v : Value) : Nat → Prop := fun b => b = g ∨ v.ownBlock = some b
theorem cw_drawCR {P : Program} {Q : Exit → Act → World → Prop} {n : Nat} {E : List (Nat × Value)} {w : World} {l : List Oper} {id g Tg : Nat} {α : Type} {R : RTy α} {B e : Nat} {M : Nat → Prop} {xs : List α} {v : Value} (m total : Nat) (kinds : List (Option Nat)) (css : List (Array Value)) (ps : List (Value → World → Prop)) (hm : P.follows .mixedOrders = true) (hml : Nat.ble m l.length = true) (hok : drawOk l m n (E.map (·.1)) = true) (hch : chainOk l m total kinds = true)
    (hown : Own w g Tg (css.getD 0 #[])) (hrow : OwnRow R B e w M xs v) (hps : MonoKL (OrRow g v) total kinds ps)
    (hops : PRsC P l n E (BX (OrRow g v) w) (fun c w' => BX (OrRow g v) w w' ∧ Own w' g Tg (css.getD c #[]) ∧ (c < total → OwnRow R B e w' M xs v)) (BX (OrRow g v)) (nthP ps) Q (l.take m) kinds 0)
    (htail : ∀ w' D, BX (OrRow g v) w w' ∧ Own w' g Tg (css.getD total #[]) → DepFacts (nthP ps) D w' (List.range m) → LW P l.toArray Q (l.drop m) n (depEnv l D E (List.range m)) w') :
    CW P (.region id l.toArray true) Q n E w := by
  intro a ha
  have hml := Nat.le_of_ble_eq_true hml
  refine wp_region_any hm ?_
  have := any_headC (total := total) (kinds := kinds) (S0 := BX (OrRow g v) w) (S := fun c w' => BX (OrRow g v) w w' ∧ Own w' g Tg (css.getD c #[]) ∧ (c < total → OwnRow R B e w' M xs v)) (St := BX (OrRow g v)) (Φ := nthP ps) hok hml hch
    (fun _ _ h => h.1) (fun _ _ _ h hb => ⟨h.1.trans hb.no_to, h.2.1.no hb, fun e => (h.2.2 e).no hb⟩) hps.nthQ hps.nthY hops (fun w' D h => htail w' D ⟨h.1, h.2.1⟩) m (List.range m) 0 (Array.replicate l.length false) a w.drew (by simp) List.nodup_range (fun i hi => List.mem_range.1 hi) (Nat.zero_le _) (fun i d hi _ => by simp [hi]) (by simp)
    (fun i hi => by simp [hi]; omega) ha ⟨(BX.drew w).no_to, hown.no (BX.drew w), fun _ => hrow.no (BX.drew w)⟩ (fun i o hi _ hn => absurd (List.mem_range.2 hi) hn) (fun i o _ hi => by simp [Array.getD] at hi)
  rw [show m + (l.length - m) = l.toArray.size from by simp; omega] at this
  simpa using this
end Go.PF
