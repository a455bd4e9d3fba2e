/- Statements whose order is open and of which one operation may come late; small open orders, one by one; no condition. -/
import Derived.Test.YtieijbplcmpnaaaDoorPFWalk
namespace Go.PF
open Go Go.RowKit

/-! Small open orders. -/
section
variable {P : Program} {ops : Array Oper} {Q : Exit → Act → World → Prop} {n fuel : Nat} {E : List (Nat × Value)} {w : World} {ls : List Bool}
def TW (P : Program) (ops : Array Oper) (Q : Exit → Act → World → Prop) (fuel : Nat) (ls : List Bool) (n : Nat) (E : List (Nat × Value)) (w : World) : Prop := ∀ a, Fits n E a → wpAny P .any ops Q fuel ls.toArray a w
def ND (P : Program) (ops : Array Oper) (Q : Exit → Act → World → Prop) (fuel : Nat) (ls : List Bool) (n : Nat) (E : List (Nat × Value)) (w : World) (i : Nat) : Prop := ∀ a, Fits n E a → wpOp P ops Q i (wpAny P .any ops Q fuel (ls.set i true).toArray) a w
def NDs (P : Program) (ops : Array Oper) (Q : Exit → Act → World → Prop) (fuel : Nat) (ls : List Bool) (n : Nat) (E : List (Nat × Value)) (w : World) : List Nat → Prop
  | [] => True
  | i :: is => ND P ops Q fuel ls n E w i ∧ NDs P ops Q fuel ls n E w is
theorem NDs.at_ : ∀ {js : List Nat}, NDs P ops Q fuel ls n E w js → ∀ i ∈ js, ND P ops Q fuel ls n E w i
  | _ :: _, h, i, hi => by
    rcases List.mem_cons.1 hi with rfl | hi
    · exact h.1
    · exact NDs.at_ h.2 i hi
theorem tw_end (hr : Region.ready .any ops ls.toArray = []) (h : EW .normal Q n E w) : TW P ops Q fuel ls n E w := by
  intro a ha
  cases fuel with
  | zero => exact ⟨hr, h a ha⟩
  | succ f => exact ⟨fun _ => h a ha, fun i hi => by rw [hr] at hi; cases hi⟩
theorem tw_step {i : Nat} {js : List Nat} (hr : Region.ready .any ops ls.toArray = i :: js) (h : NDs P ops Q fuel ls n E w (i :: js)) : TW P ops Q (fuel + 1) ls n E w := by
  intro a ha
  refine ⟨fun e => (by rw [hr] at e; cases e), fun j hj => ?_⟩
  have := h.at_ j (hr ▸ hj) a ha
  rw [show ls.toArray.setIfInBounds j true = (ls.set j true).toArray by simp]
  exact this
theorem nd_op {i d : Nat} {o : Oper} (ho : ops[i]? = some o) (hg : o.guard = none) (hd : o.dst = some d) (hlt : Nat.ble (d + 1) n = true)
    (h : OW P o n E w (fun v w' => TW P ops Q fuel (ls.set i true) n ((d, v) :: E) w') Q) : ND P ops Q fuel ls n E w i := by
  intro a ha
  unfold wpOp
  simp only [ho]
  rw [if_pos (by simp [Region.wanted, hg])]
  refine .inl (Oper.wp_mono ?_ (h a ha))
  rintro a' w' ⟨v, rfl, hl⟩
  rw [hd]
  exact hl _ (ha.put (Nat.le_of_ble_eq_true hlt) v)
theorem nd_op0 {i : Nat} {o : Oper} (ho : ops[i]? = some o) (hg : o.guard = none) (hd : o.dst = none)
    (h : OW P o n E w (fun _ w' => TW P ops Q fuel (ls.set i true) n E w') Q) : ND P ops Q fuel ls n E w i := by
  intro a ha
  unfold wpOp
  simp only [ho]
  rw [if_pos (by simp [Region.wanted, hg])]
  refine .inl (Oper.wp_mono ?_ (h a ha))
  rintro a' w' ⟨v, rfl, hl⟩
  rw [hd]
  exact hl _ ha
end
theorem cw_tree {P : Program} {Q : Exit → Act → World → Prop} {n : Nat} {E : List (Nat × Value)} {w : World} {l : List Oper} {id : Nat} (hm : P.follows .mixedOrders = true)
    (h : ∀ w', BX No w w' → TW P l.toArray Q l.length (List.replicate l.length false) n E w') : CW P (.region id l.toArray true) Q n E w := by
  intro a ha
  refine wp_region_any hm ?_
  have := h w.drew (BX.drew w) a ha
  rw [show l.toArray.size = l.length by simp]
  simpa using this

/-! One operation may come late. -/
def lateOk (l : List Oper) (m s n : Nat) (keys : List Nat) : Bool :=
  (l.zipIdx.all fun (o, i) => ((onsOf o).all fun j => Nat.blt j i) && (bif Nat.blt i m then !(onsOf o).contains s else ((List.range m).all fun j => Nat.beq j s || ((masks l []).getD i 0).testBit j) && (Nat.beq i m || ((masks l []).getD i 0).testBit (i - 1)))) &&
  ((l.take m).all fun o => o.dst.isSome && Nat.blt (dstOf o) n && !keys.contains (dstOf o)) &&
  nodupB ((l.take m).map dstOf) && Nat.blt s m
section
variable {P : Program} {Q : Exit → Act → World → Prop} {n : Nat} {E : List (Nat × Value)} {w : World} {l : List Oper} {m s : Nat} {keys : List Nat}
theorem lateOk_at (h : lateOk l m s n keys = true) {i : Nat} {o : Oper} (ho : l[i]? = some o) : (∀ j ∈ onsOf o, j < i) ∧ (i < m → s ∉ onsOf o) ∧ (m ≤ i → (∀ j, j < m → j = s ∨ ((masks l []).getD i 0).testBit j = true) ∧ (i = m ∨ ((masks l []).getD i 0).testBit (i - 1) = true)) := by
  simp only [lateOk, Bool.and_eq_true, List.all_eq_true] at h
  have := h.1.1.1 (o, i) (by rw [List.mem_zipIdx_iff_getElem?]; exact ho)
  refine ⟨fun j hj => by simpa [Nat.blt_eq] using this.1 j hj, fun hi => ?_, fun hi => ?_⟩
  · have h2 := this.2
    rw [show Nat.blt i m = true from by simpa [Nat.blt_eq] using hi, cond_true] at h2
    simpa using h2
  · have h2 := this.2
    rw [show Nat.blt i m = false from by rw [Bool.eq_false_iff]; intro e; have e' : i < m := (by simpa [Nat.blt_eq] using e); omega] at h2
    simp only [cond_false, Bool.and_eq_true, List.all_eq_true, List.mem_range, Bool.or_eq_true] at h2
    exact ⟨fun j hj => (h2.1 j hj).imp_left Nat.eq_of_beq_eq_true, h2.2.imp_left Nat.eq_of_beq_eq_true⟩
theorem lateOk_s (h : lateOk l m s n keys = true) : s < m := by
  simp only [lateOk, Bool.and_eq_true] at h
  simpa [Nat.blt_eq] using h.2
theorem lateOk_tail (h : lateOk l m s n keys = true) {L : Nat → Prop} (hcl : ∀ (i : Nat) (o : Oper), l[i]? = some o → L i → ∀ j ∈ onsOf o, L j) {i : Nat} {o : Oper} (ho : l[i]? = some o) (hi : m ≤ i) (hL : ∀ j ∈ onsOf o, L j) :
    (∀ j, j < m → j = s ∨ L j) ∧ (i = m ∨ L (i - 1)) := by
  have hml := mask_listed (fun i o ho j hj => (lateOk_at h ho).1 j hj) hcl i o ho hL
  have := (lateOk_at h ho).2.2 hi
  exact ⟨fun j hj => (this.1 j hj).imp_right (hml j), this.2.imp_right (hml _)⟩
theorem lateOk_dst (h : lateOk l m s n keys = true) {i : Nat} {o : Oper} (ho : l[i]? = some o) (hi : i < m) :
    o.dst = some (dstOf o) ∧ dstOf o < n ∧ dstOf o ∉ keys := by
  simp only [lateOk, Bool.and_eq_true, List.all_eq_true] at h
  have hm : o ∈ l.take m := List.mem_of_getElem? (i := i) (by rw [List.getElem?_take, if_pos hi]; exact ho)
  have := h.1.1.2 o hm
  obtain ⟨⟨h1, h2⟩, h3⟩ := this
  refine ⟨?_, by simpa [Nat.blt_eq] using h2, by simpa using h3⟩
  unfold dstOf
  cases hd : o.dst with
  | none => rw [hd] at h1; cases h1
  | some d => rfl
theorem lateOk_ne (h : lateOk l m s n keys = true) {i j : Nat} {o p : Oper} (ho : l[i]? = some o) (hp : l[j]? = some p) (hi : i < m) (hj : j < m) (hne : i ≠ j) : dstOf o ≠ dstOf p := by
  simp only [lateOk, Bool.and_eq_true] at h
  have hn := nodupB_nodup h.1.2
  intro e
  have h1 : ((l.take m).map dstOf)[i]? = some (dstOf o) := by rw [List.getElem?_map, List.getElem?_take, if_pos hi, ho]; rfl
  have h2 : ((l.take m).map dstOf)[j]? = some (dstOf o) := by rw [List.getElem?_map, List.getElem?_take, if_pos hj, hp, e]; rfl
  have hi' := (List.getElem?_eq_some_iff.1 h1).1
  exact hne ((List.getElem?_inj hi' hn).1 (h1.trans h2.symm))
theorem any_seq (hok : lateOk l m s n keys = true) : ∀ (k : Nat) (r : List Oper) (listed : Array Bool) (a : Act) (w : World), l.drop k = r → m ≤ k → listed.size = l.length → (∀ i, i < l.length → listed.getD i true = decide (i < k)) →
    wpList P l.toArray Q r a w → wpAny P .any l.toArray Q r.length listed a w := by
  intro k r
  induction r generalizing k with
  | nil =>
    intro listed a w hd hk hs hl h
    have hn : l.length ≤ k := List.drop_eq_nil_iff.1 hd
    refine ⟨?_, h⟩
    rw [List.eq_nil_iff_forall_not_mem]
    intro j hj
    obtain ⟨h0, o, ho, _⟩ := ready_iff.1 hj
    have hjl := (List.getElem?_eq_some_iff.1 ho).1
    rw [hl j hjl, decide_eq_true (by omega : j < k)] at h0
    cases h0
  | cons o r ih =>
    intro listed a w hd hk hs hl h
    have hkl : k < l.length := by
      rcases Nat.lt_or_ge k l.length with hlt | hge
      · exact hlt
      · rw [List.drop_eq_nil_iff.2 hge] at hd; cases hd
    have hok' : l[k]? = some o := by
      have : (l.drop k)[0]? = some o := by rw [hd]; rfl
      rw [List.getElem?_drop] at this
      simpa using this
    have hdr : l.drop (k + 1) = r := by
      have : (l.drop k).drop 1 = r := by rw [hd]; rfl
      rw [List.drop_drop] at this
      exact this
    have hlf : ∀ i, i < k → listed.getD i false = true := by
      intro i hi
      have h1 := hl i (by omega)
      rw [decide_eq_true hi] at h1
      simp only [Array.getD, hs, show i < l.length from by omega, dite_true] at h1 ⊢
      exact h1
    have hkr : k ∈ Region.ready .any l.toArray listed := ready_iff.2 ⟨by rw [hl k hkl]; simp, o, hok', fun i hi => hlf i ((lateOk_at hok hok').1 i hi)⟩
    refine ⟨fun e => ?_, ?_⟩
    · rw [e] at hkr; cases hkr
    · intro j hj
      obtain ⟨h0, p, hp, hpe⟩ := ready_iff.1 hj
      have hjl := (List.getElem?_eq_some_iff.1 hp).1
      rw [hl j hjl] at h0
      have hjk : k ≤ j := by simpa using h0
      have hje : j = k := by
        rcases Nat.lt_or_ge k j with hlt | hge
        · have hcl0 : ∀ (i : Nat) (o : Oper), l[i]? = some o → listed.getD i false = true → ∀ j ∈ onsOf o, listed.getD j false = true := by
            intro i o ho hi j hj
            have hji := (lateOk_at hok ho).1 j hj
            have hil := (List.getElem?_eq_some_iff.1 ho).1
            have hik : i < k := by
              rcases Nat.lt_or_ge i k with h | h
              · exact h
              · have h2 := hl i hil
                rw [decide_eq_false (by omega)] at h2
                simp only [Array.getD, hs, hil, dite_true] at hi h2
                rw [hi] at h2; cases h2
            exact hlf j (by omega)
          rcases (lateOk_tail hok (L := fun i => listed.getD i false = true) hcl0 hp (by omega) hpe).2 with e | e
          · omega
          · have h1 : listed.getD (j - 1) false = true := e
            have h2 := hl (j - 1) (by omega)
            rw [decide_eq_false (by omega)] at h2
            simp only [Array.getD, hs, show j - 1 < l.length from by omega, dite_true] at h1 h2
            rw [h1] at h2; cases h2
        · omega
      subst hje
      have hstep : ∀ a w, wpList P l.toArray Q r a w → wpAny P .any l.toArray Q r.length (listed.setIfInBounds j true) a w := by
        intro a w h
        refine ih (j + 1) (listed.setIfInBounds j true) a w hdr (by omega) (by simpa using hs) (fun i hi => ?_) h
        by_cases hij : j = i
        · subst hij
          simp [hs, hkl]
        · rw [getD_set_ne true hij, hl i hi]
          by_cases h2 : i < j
          · rw [decide_eq_true h2, decide_eq_true (by omega)]
          · rw [decide_eq_false h2, decide_eq_false (by omega)]
      unfold wpOp
      simp only [List.getElem?_toArray, hok']
      unfold wpList at h
      split
      · rename_i hw; rw [if_pos hw] at h; exact h.imp (Oper.wp_mono hstep) id
      · rename_i hw; rw [if_neg hw] at h; exact hstep _ _ h
/-- What is left, while operation s (it yields x in d out of t) may still come. -/
def LS (P : Program) (l : List Oper) (Q : Exit → Act → World → Prop) (n s d t : Nat) (x : Value) : List Oper → List (Nat × Value) → World → Prop
  | [], E, w => LW P l.toArray Q [] n ((d, x) :: E) w
  | o :: r, E, w => (s ∈ onsOf o ∧ LW P l.toArray Q (o :: r) n ((d, x) :: E) w) ∨
      (s ∉ onsOf o ∧ o.guard = none ∧ ((∃ c, o.dst = some c ∧ c < n ∧ c ≠ d ∧ c ≠ t ∧ OW P o n E w (fun v w' => LS P l Q n s d t x r ((c, v) :: E) w') Q) ∨ (o.dst = none ∧ OW P o n E w (fun _ w' => LS P l Q n s d t x r E w') Q)))
variable {d t : Nat} {x : Value}
theorem ls_nil (h : EW .normal Q n ((d, x) :: E) w) : LS P l Q n s d t x [] E w := lw_nil h
theorem ls_hang {o : Oper} {r : List Oper} (hs : (onsOf o).contains s = true) (h : LW P l.toArray Q (o :: r) n ((d, x) :: E) w) : LS P l Q n s d t x (o :: r) E w := .inl ⟨by simpa using hs, h⟩
theorem ls_op {o : Oper} {r : List Oper} {c : Nat} (hs : (onsOf o).contains s = false) (hg : o.guard = none) (hd : o.dst = some c) (hlt : Nat.ble (c + 1) n = true) (h1 : Nat.beq c d = false) (h2 : Nat.beq c t = false)
    (h : OW P o n E w (fun v w' => LS P l Q n s d t x r ((c, v) :: E) w') Q) : LS P l Q n s d t x (o :: r) E w :=
  .inr ⟨by simpa using hs, hg, .inl ⟨c, hd, Nat.le_of_ble_eq_true hlt, Nat.ne_of_beq_eq_false h1, Nat.ne_of_beq_eq_false h2, h⟩⟩
theorem ls_op0 {o : Oper} {r : List Oper} (hs : (onsOf o).contains s = false) (hg : o.guard = none) (hd : o.dst = none)
    (h : OW P o n E w (fun _ w' => LS P l Q n s d t x r E w') Q) : LS P l Q n s d t x (o :: r) E w := .inr ⟨by simpa using hs, hg, .inr ⟨hd, h⟩⟩
theorem look_cons (E : List (Nat × Value)) (d : Nat) (x : Value) (u : Nat) : look ((d, x) :: E) u = if d = u then some x else look E u := by
  show (bif Nat.beq d u then some x else look E u) = _
  by_cases h : d = u
  · subst h; simp
  · rw [if_neg h, show Nat.beq d u = false from by rw [Bool.eq_false_iff]; intro e; exact h (Nat.eq_of_beq_eq_true e)]; rfl
theorem Fits.drop1 {a : Act} (hk : d ∉ E.map (·.1)) (h : Fits n ((d, x) :: E) a) : Fits n E a := ⟨h.defers, h.size, fun u v hu => h.get u v (by
  rw [look_cons, if_neg (fun e : d = u => hk (by rw [e]; exact look_keys hu))]; exact hu)⟩
theorem Fits.swap {a : Act} {c : Nat} {y : Value} (hne : c ≠ d) (h : Fits n ((c, y) :: (d, x) :: E) a) : Fits n ((d, x) :: (c, y) :: E) a := ⟨h.defers, h.size, fun u v hu => h.get u v (by
  rw [look_cons, look_cons] at hu ⊢
  by_cases h1 : d = u
  · subst h1; rw [if_pos rfl] at hu; rw [if_neg hne, if_pos rfl]; exact hu
  · rw [if_neg h1] at hu ⊢; exact hu)⟩
theorem LS.lw : ∀ (r : List Oper) (E : List (Nat × Value)) (w : World), d ∉ E.map (·.1) → LS P l Q n s d t x r E w → LW P l.toArray Q r n ((d, x) :: E) w
  | [], _, _, _, h => h
  | o :: r, E, w, hk, h => by
    rcases h with ⟨_, h⟩ | ⟨_, hg, ⟨c, hd, hlt, hne, _, h⟩ | ⟨hd, h⟩⟩
    · exact h
    · refine lw_op hg hd (Nat.ble_eq_true_of_le hlt) fun a ha => Oper.wp_mono ?_ (h a (ha.drop1 hk))
      rintro a' w' ⟨v, e, hl⟩
      refine ⟨v, e, fun b hb => LS.lw r _ w' ?_ hl b (hb.swap hne)⟩
      simp only [List.map_cons, List.mem_cons, not_or]
      exact ⟨fun e => hne e.symm, hk⟩
    · refine lw_op0 hg hd fun a ha => Oper.wp_mono ?_ (h a (ha.drop1 hk))
      rintro a' w' ⟨v, e, hl⟩
      exact ⟨v, e, LS.lw r _ w' hk hl⟩
theorem any_late (hok : lateOk l m s n keys = true) {os : Oper} (hos : l[s]? = some os) (hds : os.dst = some d) (hdn : d < n) (hgs : os.guard = none) {V : Value} (hrun : ∀ w, OW P os n [(t, V)] w (fun y w' => y = x ∧ w' = w) Q) :
    ∀ (r : List Oper) (k : Nat) (E : List (Nat × Value)) (listed : Array Bool) (a : Act) (w : World), l.drop k = r → m ≤ k → k ≤ l.length → listed.size = l.length → (∀ i, i < l.length → listed.getD i true = decide (i < k ∧ i ≠ s)) → (∀ (i : Nat) (o : Oper), i < k → l[i]? = some o → s ∉ onsOf o) →
      Fits n E a → d ∉ E.map (·.1) → Fits n [(t, V)] a → LS P l Q n s d t x r E w → wpAny P .any l.toArray Q (r.length + 1) listed a w := by
  intro r
  have hsm := lateOk_s hok
  induction r with
  | nil =>
    intro k E listed a w hd hk hkl hs hl hns hF hdk hV h
    have hn : l.length ≤ k := List.drop_eq_nil_iff.1 hd
    have hsl : s < l.length := by omega
    have hlf : ∀ i, i < k → i ≠ s → listed.getD i false = true := by
      intro i hi hne
      have h1 := hl i (by omega)
      rw [decide_eq_true ⟨hi, hne⟩] at h1
      simp only [Array.getD, hs, show i < l.length from by omega, dite_true] at h1 ⊢
      exact h1
    have hsr : s ∈ Region.ready .any l.toArray listed := ready_iff.2 ⟨by rw [hl s hsl]; simp, os, hos, fun i hi => by
      have := (lateOk_at hok hos).1 i hi
      exact hlf i (by omega) (by omega)⟩
    refine ⟨fun e => (by rw [e] at hsr; cases hsr), fun j hj => ?_⟩
    obtain ⟨h0, p, hp, hpe⟩ := ready_iff.1 hj
    have hjl := (List.getElem?_eq_some_iff.1 hp).1
    rw [hl j hjl] at h0
    have hjs : j = s := by
      rw [decide_eq_false_iff_not] at h0
      exact Classical.byContradiction fun e => h0 ⟨by omega, e⟩
    subst hjs
    unfold wpOp
    simp only [List.getElem?_toArray, hos]
    rw [if_pos (by simp [Region.wanted, hgs])]
    refine .inl (Oper.wp_mono ?_ (hrun w a hV))
    rintro a' w' ⟨v, rfl, rfl, rfl⟩
    rw [hds]
    refine any_seq hok k [] _ _ _ hd hk (by simpa using hs) (fun i hi => ?_) (h _ (hF.put hdn _))
    by_cases hij : j = i
    · subst hij
      simp [hs, hsl]; omega
    · rw [getD_set_ne true hij, hl i hi]
      by_cases h2 : i < k
      · rw [decide_eq_true h2, decide_eq_true ⟨h2, fun e => hij e.symm⟩]
      · rw [decide_eq_false h2, decide_eq_false (fun h => h2 h.1)]
  | cons o r ih =>
    intro k E listed a w hd hk hkl' hs hl hns hF hdk hV h
    have hkl : k < l.length := by
      rcases Nat.lt_or_ge k l.length with hlt | hge
      · exact hlt
      · rw [List.drop_eq_nil_iff.2 hge] at hd; cases hd
    have hsl : s < l.length := by omega
    have hok' : l[k]? = some o := by
      have : (l.drop k)[0]? = some o := by rw [hd]; rfl
      rw [List.getElem?_drop] at this
      simpa using this
    have hdr : l.drop (k + 1) = r := by
      have : (l.drop k).drop 1 = r := by rw [hd]; rfl
      rw [List.drop_drop] at this
      exact this
    have hlf : ∀ i, i < k → i ≠ s → listed.getD i false = true := by
      intro i hi hne
      have h1 := hl i (by omega)
      rw [decide_eq_true ⟨hi, hne⟩] at h1
      simp only [Array.getD, hs, show i < l.length from by omega, dite_true] at h1 ⊢
      exact h1
    have hlF : ∀ i, i < l.length → listed.getD i false = true → i < k ∧ i ≠ s := by
      intro i hi he
      have h1 := hl i hi
      simp only [Array.getD, hs, hi, dite_true] at h1 he
      rw [he] at h1
      exact of_decide_eq_true h1.symm
    have hsr : s ∈ Region.ready .any l.toArray listed := ready_iff.2 ⟨by rw [hl s hsl]; simp, os, hos, fun i hi => by
      have := (lateOk_at hok hos).1 i hi
      exact hlf i (by omega) (by omega)⟩
    refine ⟨fun e => (by rw [e] at hsr; cases hsr), fun j hj => ?_⟩
    obtain ⟨h0, p, hp, hpe⟩ := ready_iff.1 hj
    have hjl := (List.getElem?_eq_some_iff.1 hp).1
    rw [hl j hjl, decide_eq_false_iff_not] at h0
    by_cases hjs : j = s
    · subst hjs
      unfold wpOp
      simp only [List.getElem?_toArray, hos]
      rw [if_pos (by simp [Region.wanted, hgs])]
      refine .inl (Oper.wp_mono ?_ (hrun w a hV))
      rintro a' w' ⟨v, rfl, rfl, rfl⟩
      rw [hds]
      refine any_seq hok k (o :: r) _ _ _ hd hk (by simpa using hs) (fun i hi => ?_) (LS.lw _ _ _ hdk h _ (hF.put hdn _))
      by_cases hij : j = i
      · subst hij
        simp [hs, hsl]; omega
      · rw [getD_set_ne true hij, hl i hi]
        by_cases h2 : i < k
        · rw [decide_eq_true h2, decide_eq_true ⟨h2, fun e => hij e.symm⟩]
        · rw [decide_eq_false h2, decide_eq_false (fun h => h2 h.1)]
    · have hjk : k ≤ j := by
        rcases Nat.lt_or_ge j k with h | h
        · exact absurd ⟨h, hjs⟩ h0
        · exact h
      have hje : j = k := by
        rcases Nat.lt_or_ge k j with hlt | hge
        · have hcl0 : ∀ (i : Nat) (o : Oper), l[i]? = some o → listed.getD i false = true → ∀ j ∈ onsOf o, listed.getD j false = true := by
            intro i o ho hi j hj
            have hji := (lateOk_at hok ho).1 j hj
            have hil := (List.getElem?_eq_some_iff.1 ho).1
            have hik := hlF i hil hi
            exact hlf j (by omega) (fun e => hns i o hik.1 ho (e ▸ hj))
          rcases (lateOk_tail hok (L := fun i => listed.getD i false = true) hcl0 hp (by omega) hpe).2 with e | e
          · omega
          · have := (hlF (j - 1) (by omega) e).1
            omega
        · omega
      subst hje
      have hso : s ∉ onsOf o := fun hin => by
        rw [hok'] at hp
        obtain rfl := Option.some.inj hp
        have h1 := hpe s hin
        exact (hlF s hsl h1).2 rfl
      have hl' : ∀ i, i < l.length → (listed.setIfInBounds j true).getD i true = decide (i < j + 1 ∧ i ≠ s) := fun i hi => by
        by_cases hij : j = i
        · subst hij
          rw [decide_eq_true ⟨by omega, hjs⟩]
          simp [hs, hkl]
        · rw [getD_set_ne true hij, hl i hi]
          by_cases h2 : i < j ∧ i ≠ s
          · rw [decide_eq_true h2, decide_eq_true ⟨by omega, h2.2⟩]
          · rw [decide_eq_false h2, decide_eq_false (fun h => h2 ⟨by omega, h.2⟩)]
      have hns' : ∀ (i : Nat) (o : Oper), i < j + 1 → l[i]? = some o → s ∉ onsOf o := fun i q hi hq => by
        by_cases e : i = j
        · rw [e] at hq
          have e2 : o = q := Option.some.inj (hok'.symm.trans hq)
          rw [← e2]
          exact hso
        · exact hns i q (by omega) hq
      rcases h with ⟨h1, _⟩ | ⟨_, hg, ⟨c, hdc, hlt, hne, hnt, h⟩ | ⟨hdc, h⟩⟩
      · exact absurd h1 hso
      · unfold wpOp
        simp only [List.getElem?_toArray, hok']
        rw [if_pos (by simp [Region.wanted, hg])]
        refine .inl (Oper.wp_mono ?_ (h a hF))
        rintro a' w' ⟨v, rfl, hL⟩
        rw [hdc]
        refine ih (j + 1) ((c, v) :: E) _ _ _ hdr (by omega) (by omega) (by simpa using hs) hl' hns' (hF.put hlt v) ?_ (hV.putOff (by simpa using hnt) v) hL
        simp only [List.map_cons, List.mem_cons, not_or]
        exact ⟨fun e => hne e.symm, hdk⟩
      · unfold wpOp
        simp only [List.getElem?_toArray, hok']
        rw [if_pos (by simp [Region.wanted, hg])]
        refine .inl (Oper.wp_mono ?_ (h a hF))
        rintro a' w' ⟨v, rfl, hL⟩
        rw [hdc]
        exact ih (j + 1) E _ _ _ hdr (by omega) (by omega) (by simpa using hs) hl' hns' hF hdk hV hL
theorem fits_depEnv' {D : Nat → Value} {a : Act} (h : Fits n E a) : ∀ (js : List Nat), (∀ j ∈ js, D j = a.tmps.getD (match l[j]? with | some o => dstOf o | none => 0) undef) → Fits n (depEnv l D E js) a
  | [], _ => h
  | j :: js, hj => (fits_depEnv' h js fun i hi => hj i (List.mem_cons_of_mem _ hi)).cons (hj j (List.mem_cons_self ..)).symm
theorem depEnv_keys {D : Nat → Value} {u : Nat} : ∀ (js : List Nat), u ∈ (depEnv l D E js).map (·.1) → u ∈ E.map (·.1) ∨ ∃ j ∈ js, u = (match l[j]? with | some o => dstOf o | none => 0)
  | [], h => .inl h
  | j :: js, h => by
    rcases List.mem_cons.1 h with e | h
    · exact .inr ⟨j, List.mem_cons_self .., e⟩
    · exact (depEnv_keys js h).imp_right fun ⟨i, hi, e⟩ => ⟨i, List.mem_cons_of_mem _ hi, e⟩
theorem any_headL {S : World → Prop} {St : World → World → Prop} {Φ : Nat → Value → World → Prop} (hok : lateOk l m s n (E.map (·.1)) = true) (hml : m ≤ l.length) {os : Oper} (hos : l[s]? = some os) (hds : dstOf os = d) (hgs : os.guard = none)
    {jt : Nat} {ot : Oper} (hjt : l[jt]? = some ot) (hjm : jt < m) (hjs : jt ≠ s) (htd : dstOf ot = t)
    (hSt : ∀ w w', S w → St w w' → S w') (hmono : ∀ i v w w', St w w' → Φ i v w → Φ i v w')
    (hx : ∀ v w, Φ jt v w → ∃ x, Φ s x w ∧ ∀ w', OW P os n [(t, v)] w' (fun y w'' => y = x ∧ w'' = w') Q)
    (hops : PRs P l n E S St Φ Q (l.take m) 0)
    (htail : ∀ w D, S w → DepFacts Φ D w (List.range m) → LS P l Q n s d t (D s) (l.drop m) (depEnv l D E ((List.range m).filter fun j => !Nat.beq j s)) w) :
    ∀ (c : Nat) (us : List Nat) (listed : Array Bool) (a : Act) (w : World), us.length = c → us.Nodup → (∀ i ∈ us, i < m) → listed.size = l.length → (∀ i, i < l.length → (listed.getD i true = false ↔ i ∈ us ∨ m ≤ i)) →
      Fits n E a → S w → (∀ i o, i < m → l[i]? = some o → i ∉ us → Φ i (a.tmps.getD (dstOf o) undef) w) → (∀ (i : Nat) (o : Oper), l[i]? = some o → listed.getD i false = true → ∀ j ∈ onsOf o, listed.getD j false = true) → wpAny P .any l.toArray Q (c + (l.length - m)) listed a w := by
  have hsm := lateOk_s hok
  have hsl : s < l.length := by omega
  have hdst := lateOk_dst hok hos hsm
  rw [hds] at hdst
  have hfree : ∀ D : Nat → Value, d ∉ (depEnv l D E ((List.range m).filter fun j => !Nat.beq j s)).map (·.1) := fun D hin => by
    rcases depEnv_keys _ hin with h | ⟨j, hj, e⟩
    · exact hdst.2.2 h
    · obtain ⟨h1, h2⟩ := List.mem_filter.1 hj
      have hjm' := List.mem_range.1 h1
      have hne : j ≠ s := fun e => by subst e; simp at h2
      rw [List.getElem?_eq_getElem (by omega : j < l.length)] at e
      exact lateOk_ne hok hos (List.getElem?_eq_getElem (by omega : j < l.length)) hsm hjm' (fun e => hne e.symm) (by rw [hds]; exact e)
  intro c
  induction c with
  | zero =>
    intro us listed a w hc _ _ hs hl hF hSw hΦ _
    obtain rfl := List.eq_nil_of_length_eq_zero hc
    have hr : (l.drop m).length = 0 + (l.length - m) := by rw [List.length_drop]; omega
    rw [← hr]
    have hDep : DepFacts Φ (fun j => a.tmps.getD (match l[j]? with | some o => dstOf o | none => 0) undef) w (List.range m) := depFacts_of fun j hj => by
      have hjm := List.mem_range.1 hj
      have hjl : j < l.length := by omega
      have := hΦ j _ hjm (List.getElem?_eq_getElem hjl) (by simp)
      simpa [List.getElem?_eq_getElem hjl] using this
    refine any_seq hok m _ listed a w rfl (Nat.le_refl _) hs (fun i hi => ?_) (LS.lw _ _ _ (hfree _) (htail w _ hSw hDep) a ((fits_depEnv' hF _ fun _ _ => rfl).cons (by simp [hos, hds])))
    have := hl i hi
    by_cases h : i < m
    · rw [decide_eq_true h]
      cases hb : listed.getD i true
      · rcases this.1 hb with h1 | h1
        · cases h1
        · omega
      · rfl
    · rw [decide_eq_false h]; exact this.2 (.inr (by omega))
  | succ c ih =>
    intro us listed a w hc hnd hus hs hl hF hSw hΦ hcl
    have hlt : ∀ i, i < m → i ∉ us → listed.getD i false = true := by
      intro i hi hn
      have h1 := hl i (by omega)
      cases hb : listed.getD i true
      · rcases h1.1 hb with h2 | h2
        · exact absurd h2 hn
        · omega
      · simp only [Array.getD, hs, show i < l.length from by omega, dite_true] at hb ⊢
        exact hb
    have hge : ∀ i, i < l.length → i ∈ us ∨ m ≤ i → listed.getD i false = false := by
      intro i hi h
      have h1 := (hl i hi).2 h
      simp only [Array.getD, hs, hi, dite_true] at h1 ⊢
      exact h1
    by_cases hone : us = [s]
    · subst hone
      have hc0 : c = 0 := by simpa using hc.symm
      subst hc0
      have hr : (l.drop m).length = l.length - m := by rw [List.length_drop]
      rw [← hr, Nat.zero_add, Nat.add_comm]
      obtain ⟨x, hxs, hrun⟩ := hx _ w (hΦ jt ot hjm hjt (by simpa using hjs))
      have hDep : DepFacts Φ (fun j => if j = s then x else a.tmps.getD (match l[j]? with | some o => dstOf o | none => 0) undef) w (List.range m) := depFacts_of fun j hj => by
        have hjm := List.mem_range.1 hj
        have hjl : j < l.length := by omega
        by_cases e : j = s
        · subst e; simpa using hxs
        · have := hΦ j _ hjm (List.getElem?_eq_getElem hjl) (by simpa using e)
          simpa [List.getElem?_eq_getElem hjl, e] using this
      have hT := htail w _ hSw hDep
      simp only [if_true] at hT
      refine any_late hok hos (by rw [← hds]; exact (lateOk_dst hok hos hsm).1) hdst.2.1 hgs hrun (l.drop m) m _ listed a w rfl (Nat.le_refl _) hml hs (fun i hi => ?_) (fun i o hi ho => (lateOk_at hok ho).2.1 hi) (fits_depEnv' hF _ fun j hj => ?_) (hfree _) ⟨hF.defers, hF.size, fun u v hu => ?_⟩ hT
      · have := hl i hi
        by_cases h : i < m ∧ i ≠ s
        · rw [decide_eq_true h]
          cases hb : listed.getD i true
          · rcases this.1 hb with h1 | h1
            · exact absurd (by simpa using h1) h.2
            · omega
          · rfl
        · rw [decide_eq_false h]
          refine this.2 ?_
          by_cases h2 : i = s
          · exact .inl (by simpa using h2)
          · exact .inr (by omega)
      · obtain ⟨_, h2⟩ := List.mem_filter.1 hj
        have hne : j ≠ s := fun e => by subst e; simp at h2
        rw [if_neg hne]
      · rw [look_cons] at hu
        split at hu
        · rename_i e; subst e; rw [← htd]; exact Option.some.inj hu
        · cases hu
    rw [show c + 1 + (l.length - m) = (c + (l.length - m)) + 1 from by omega]
    refine ⟨fun e => ?_, ?_⟩
    · exfalso
      have hex : ∃ i, i ∈ us ∧ ∀ j ∈ us, i ≤ j := by
        clear e ih hnd hus hl hΦ hlt hge hcl hone
        induction us generalizing c with
        | nil => simp at hc
        | cons x xs ihx =>
          cases xs with
          | nil => exact ⟨x, by simp, by simp⟩
          | cons y ys =>
            obtain ⟨i, hi, hmin⟩ := ihx (c := ys.length) (by simp)
            by_cases hxi : x ≤ i
            · exact ⟨x, by simp, fun j hj => by
                rcases List.mem_cons.1 hj with rfl | hj
                · exact Nat.le_refl _
                · exact Nat.le_trans hxi (hmin j hj)⟩
            · exact ⟨i, by simp [List.mem_cons.1 hi], fun j hj => by
                rcases List.mem_cons.1 hj with rfl | hj
                · omega
                · exact hmin j hj⟩
      obtain ⟨i, hi, hmin⟩ := hex
      have him := hus i hi
      have hil : i < l.length := by omega
      have : i ∈ Region.ready .any l.toArray listed := ready_iff.2 ⟨(hl i hil).2 (.inl hi), l[i], List.getElem?_eq_getElem hil, fun j hj => by
        have hji := (lateOk_at hok (List.getElem?_eq_getElem hil)).1 j hj
        exact hlt j (by omega) (fun h => by have := hmin j h; omega)⟩
      rw [e] at this; cases this
    · intro i hi
      obtain ⟨h0, o, ho, hoe⟩ := ready_iff.1 hi
      have hil := (List.getElem?_eq_some_iff.1 ho).1
      have hmem := (hl i hil).1 h0
      have him : i < m := by
        rcases Nat.lt_or_ge i m with h | h
        · exact h
        · exfalso
          obtain ⟨u, hu, hus'⟩ : ∃ u, u ∈ us ∧ u ≠ s := by
            cases us with
            | nil => simp at hc
            | cons x xs =>
              by_cases hxs : x = s
              · cases xs with
                | nil => exact absurd (by rw [hxs]) hone
                | cons y ys =>
                  refine ⟨y, by simp, fun e => ?_⟩
                  rw [hxs, e] at hnd
                  simp at hnd
              · exact ⟨x, by simp, hxs⟩
          have h1 := ((lateOk_tail hok (L := fun i => listed.getD i false = true) hcl ho h hoe).1 u (hus u hu)).resolve_left hus'
          rw [hge u (by have := hus u hu; omega) (.inl hu)] at h1
          cases h1
      have hiu : i ∈ us := by
        rcases hmem with h | h
        · exact h
        · omega
      obtain ⟨hd, hdn, hdk⟩ := lateOk_dst hok ho him
      have hdep : ∀ j ∈ onsOf o, ∃ p, l[j]? = some p ∧ j < m ∧ j ∉ us := by
        intro j hj
        have hji := (lateOk_at hok ho).1 j hj
        have hjl : j < l.length := by omega
        refine ⟨l[j], List.getElem?_eq_getElem hjl, by omega, fun h => ?_⟩
        have := hoe j hj
        rw [hge j hjl (.inl h)] at this
        cases this
      have hpr := PRs.at_ hops (i := i) (o := o) (by rw [List.getElem?_take, if_pos him]; exact ho) w (fun j => a.tmps.getD (match l[j]? with | some o => dstOf o | none => 0) undef) hSw
        (depFacts_of fun j hj => by
          obtain ⟨p, hp, hjm, hju⟩ := hdep j hj
          have := hΦ j p hjm hp hju
          simpa [hp] using this) a (fits_depEnv hF _)
      rw [Nat.zero_add] at hpr
      have hstep : ∀ v w', St w w' ∧ Φ i v w' → wpAny P .any l.toArray Q (c + (l.length - m)) (listed.setIfInBounds i true) (a.put o.dst v) w' := by
        rintro v w' ⟨hst, hphi⟩
        rw [hd]
        refine ih (us.erase i) _ _ w' (by rw [List.length_erase_of_mem hiu]; omega) (hnd.erase i) (fun j hj => hus j (List.mem_of_mem_erase hj)) (by simpa using hs) (fun j hj => ?_) (hF.putOff hdk v) (hSt w w' hSw hst) ?_ ?_
        · by_cases hij : i = j
          · subst hij
            simp only [Array.getD_eq_getD_getElem?, Array.getElem?_setIfInBounds_self_of_lt (by omega : i < listed.size), Option.getD_some, Bool.true_eq_false, false_iff]
            rintro (h | h)
            · exact (List.Nodup.not_mem_erase hnd) h
            · omega
          · rw [getD_set_ne true hij, hl j hj, List.mem_erase_of_ne (fun e => hij e.symm)]
        · intro j p hjm hp hju
          simp only [Act.put]
          rw [getD_set _ _ _ _ (by rw [hF.size]; exact hdn)]
          by_cases hij : j = i
          · subst hij
            rw [hp] at ho; obtain rfl := Option.some.inj ho
            rw [if_pos rfl]; exact hphi
          · rw [if_neg (lateOk_ne hok hp ho hjm him hij)]
            exact hmono _ _ _ _ hst (hΦ j p hjm hp (fun h => hju ((List.mem_erase_of_ne hij).2 h)))
        · intro j p hp hj q hq
          by_cases hij : i = j
          · subst hij
            rw [hp] at ho; obtain rfl := Option.some.inj ho
            exact getD_set_true (hoe q hq)
          · rw [getD_set_ne false hij] at hj
            exact getD_set_true (hcl j p hp hj q hq)
      unfold wpOp
      simp only [List.getElem?_toArray, ho]
      split
      · rename_i hw
        rw [if_pos hw] at hpr
        exact .inl (Oper.wp_mono (fun a' w' ⟨v, e, h⟩ => e ▸ hstep v w' h) hpr)
      · rename_i hw
        rw [if_neg hw] at hpr
        exact hstep _ _ hpr
end
/-- A region that draws its order, of which operation s, which takes out of what operation jt gives, may come late. -/
theorem cw_drawL {P : Program} {Q : Exit → Act → World → Prop} {n : Nat} {E : List (Nat × Value)} {w : World} {l : List Oper} {id : Nat} (m s jt d t : Nat) (ps : List (Value → World → Prop)) (hm : P.follows .mixedOrders = true) (hml : Nat.ble m l.length = true) (hok : lateOk l m s n (E.map (·.1)) = true)
    {os ot : Oper} (hos : l[s]? = some os) (hds : dstOf os = d) (hgs : os.guard = none) (hjt : l[jt]? = some ot) (hjm : Nat.ble (jt + 1) m = true) (hjs : Nat.beq jt s = false) (htd : dstOf ot = t)
    (hps : MonoL ps) (hx : ∀ v w, nthP ps jt v w → ∃ x, nthP ps s x w ∧ ∀ w', OW P os n [(t, v)] w' (fun y w'' => y = x ∧ w'' = w') Q)
    (hops : PRs P l n E (BX No w) (BX No) (nthP ps) Q (l.take m) 0)
    (htail : ∀ w' D, BX No w w' → DepFacts (nthP ps) D w' (List.range m) → LS P l Q n s d t (D s) (l.drop m) (depEnv l D E ((List.range m).filter fun j => !Nat.beq j s)) w') :
    CW P (.region id l.toArray true) Q n E w := by
  intro a ha
  have hml := Nat.le_of_ble_eq_true hml
  refine wp_region_any hm ?_
  have := any_headL hok hml hos hds hgs hjt (Nat.le_of_ble_eq_true hjm) (Nat.ne_of_beq_eq_false hjs) htd (fun _ _ h k => BX.trans h k) hps.nth hx hops htail m (List.range m) (Array.replicate l.length false) a w.drew (by simp) List.nodup_range (fun i hi => List.mem_range.1 hi) (by simp)
    (fun i hi => by simp [hi]; omega) ha (BX.drew w) (fun i o hi _ hn => absurd (List.mem_range.2 hi) hn) (fun i o _ hi => by simp [Array.getD] at hi)
  rw [show m + (l.length - m) = l.toArray.size from by simp; omega] at this
  simpa using this
def LSub (E' E : List (Nat × Value)) : Prop := ∀ u v, look E' u = some v → look E u = some v
theorem LSub.of : ∀ {E' E : List (Nat × Value)}, Sub E' E → LSub E' E
  | [], _, _ => fun u v h => by cases h
  | (t, x) :: E', E, h => fun u v hu => by
    rw [look_cons] at hu
    split at hu
    · rename_i e; subst e; rw [← hu]; exact h.1
    · exact LSub.of h.2 u v hu
theorem LSub.cons {E' E : List (Nat × Value)} (h : LSub E' E) (d : Nat) (x : Value) : LSub ((d, x) :: E') ((d, x) :: E) := fun u v hu => by
  rw [look_cons] at hu ⊢
  split at hu
  · rename_i e; rw [if_pos e]; exact hu
  · rename_i e; rw [if_neg e]; exact h u v hu
theorem LSub.fits {E' E : List (Nat × Value)} (h : LSub E' E) {n : Nat} {a : Act} (ha : Fits n E a) : Fits n E' a := ⟨ha.defers, ha.size, fun u v hu => ha.get u v (h u v hu)⟩
theorem ls_sub' {P : Program} {l : List Oper} {Q : Exit → Act → World → Prop} {n s d t : Nat} {x : Value} {r : List Oper} {E E' : List (Nat × Value)} {w : World} (hs : LSub E' E) (h : LS P l Q n s d t x r E' w) : LS P l Q n s d t x r E w := by
  induction r generalizing E E' w with
  | nil => exact fun a ha => h a ((hs.cons d x).fits ha)
  | cons o r ih =>
    rcases h with ⟨h1, h⟩ | ⟨h1, hg, ⟨c, hd, hlt, hne, hnt, h⟩ | ⟨hd, h⟩⟩
    · exact .inl ⟨h1, fun a ha => h a ((hs.cons d x).fits ha)⟩
    · refine .inr ⟨h1, hg, .inl ⟨c, hd, hlt, hne, hnt, fun a ha => Oper.wp_mono ?_ (h a (hs.fits ha))⟩⟩
      rintro a' w' ⟨v, e, hl⟩
      exact ⟨v, e, ih (hs.cons c v) hl⟩
    · refine .inr ⟨h1, hg, .inr ⟨hd, fun a ha => Oper.wp_mono ?_ (h a (hs.fits ha))⟩⟩
      rintro a' w' ⟨v, e, hl⟩
      exact ⟨v, e, ih hs hl⟩
theorem ls_sub {P : Program} {l : List Oper} {Q : Exit → Act → World → Prop} {n s d t : Nat} {x : Value} {r : List Oper} {E E' : List (Nat × Value)} {w : World} (hs : Sub E' E) (h : LS P l Q n s d t x r E' w) : LS P l Q n s d t x r E w := ls_sub' (LSub.of hs) h
end Go.PF
