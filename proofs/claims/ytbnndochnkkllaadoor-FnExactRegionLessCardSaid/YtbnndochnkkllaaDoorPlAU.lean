import Derived.Test.YtbnndochnkkllaaDoorPlY
import Derived.Test.YtbnndochnkkllaaDoorPlAQ
/- Plain laws: boxes of any size, and rows of rows that are written over; ExactBoxMeet, ExactTestsBox, ExactBoxCut, ExactRegionLess, ExactFlatBoxes. -/
namespace Go.PF.F
open Go Go.PF

theorem own_boxS {b : Box} (h : SmBox b) : spec_l1OwnBox b = some b := by
  unfold spec_l1OwnBox
  rw [spec_rows (by have := h.1; omega) fun x hx => by have := h.2 x hx; omega]; rfl
theorem own_boxesS {list : List Box} (h : ∀ b ∈ list, SmBox b) (hl : list.length ≤ 1048576) : spec_l1OwnBoxList list = some list := by
  unfold spec_l1OwnBoxList
  have e := loop_brk0 (body := spec_l1OwnBoxList_L0 list) list.length (fun k : Nat => (list.take k, (k : Int))) (s0 := (([] : List Box), 0)) (s := (list, (list.length : Int))) rfl (fun k hk => by
    unfold spec_l1OwnBoxList_L0
    simp only [lt_true (show (k : Int) < (list.length : Int) by omega), cond_true, idx_get hk, Option.bind_some, own_boxS (h _ (List.getElem_mem hk)), app_ok (show (list.take k).length + [list[k]].length ≤ 4294967296 by simp; omega), W_succ (show k < 9223372036854775807 by omega)]
    rw [take_snoc (List.getElem?_eq_getElem hk)]) (by
    unfold spec_l1OwnBoxList_L0
    simp only [lt_false (Int.le_refl _), cond_false, List.take_length]) (fuel := ((list.length : Int) - 0).toNat.succ) (by omega)
  rw [e]
  rfl
theorem less_sm {b : Box} {list : List Box} (hb : SmBox b) (hl : list.length ≤ 1048576) (hs : ∀ x ∈ list, SmBox x) :
    ∃ (r : List (List (List Span))) (t : Bool), impl_RegionLess b list = some (r.map Box.mk, t) ∧ spec_RegionLess b list = some (r.map Box.mk, t) ∧ (∀ p ∈ r, B4 p ∧ Few p) ∧ r.length ≤ 400 := by
  by_cases hc : BV b ∧ RV list
  · have hb5 : OkB b := OkB.of (BV_iff.1 hc.1).1 (BV_iff.1 hc.1).2
    have h5 : ∀ x ∈ list, OkB x := fun x hx => OkB.of (BV_iff.1 (hc.2.1 x hx)).1 (BV_iff.1 (hc.2.1 x hx)).2
    have hl4 := hc.2.2
    rcases less_both hb5 (show list.length ≤ 100000 by omega) h5 with ⟨r, e1, e2, _, _, _, hr, hrl⟩ | ⟨e1, e2⟩
    · exact ⟨r, true, e1, e2, hr, hrl⟩
    · exact ⟨[], false, e1, e2, fun p hp => (by cases hp), by simp⟩
  · obtain ⟨v, e1, e1s, hv⟩ := (impl_box (ok_of_sm hb)).same (spec_box (ok_of_sm hb))
    obtain ⟨w, e2, e2s, hw⟩ := (impl_region (xs := list) (by omega) (fun x hx => ok_of_sm (hs x hx))).same (spec_region (xs := list) (by omega) (fun x hx => ok_of_sm (hs x hx)))
    have o1 : spec_l1OwnBox ({ Sides := b.Sides } : Box) = some b := own_boxS hb
    have e1s' : spec_BoxValid ({ Sides := b.Sides } : Box) = some v := e1s
    refine ⟨[], false, ?_, ?_, fun p hp => (by cases hp), by simp⟩
    · unfold impl_RegionLess
      rw [e1, Option.bind_some]
      cases v with
      | false => rfl
      | true =>
        rw [cond_true, e2, Option.bind_some]
        cases w with
        | false => rfl
        | true => exact absurd ⟨hv.1 rfl, hw.1 rfl⟩ hc
    · unfold spec_RegionLess
      rw [o1, Option.bind_some, own_boxesS hs hl, Option.bind_some, e1s', Option.bind_some]
      cases v with
      | false => rfl
      | true =>
        rw [cond_true, e2s, Option.bind_some]
        cases w with
        | false => rfl
        | true => exact absurd ⟨hv.1 rfl, hw.1 rfl⟩ hc
/-! Rows of rows that are written over. -/
def sumI {α : Type} (inc : α → Nat) (xs : List α) : Nat := (xs.map inc).sum
theorem sumI_snoc {α : Type} (inc : α → Nat) {xs : List α} {j : Nat} (hj : j < xs.length) : sumI inc (xs.take (j + 1)) = sumI inc (xs.take j) + inc xs[j] := by
  unfold sumI
  rw [take_snoc (List.getElem?_eq_getElem hj), List.map_append, List.sum_append]; simp
theorem sumI_le {α : Type} (inc : α → Nat) (xs : List α) (j : Nat) : sumI inc (xs.take j) ≤ sumI inc xs := by
  have : sumI inc (xs.take j) + sumI inc (xs.drop j) = sumI inc xs := by
    unfold sumI
    rw [← List.sum_append, ← List.map_append, List.take_append_drop]
  omega
def markN {α : Type} (f : Nat → α → α) (inc : α → Nat) : Nat → List α → List α
  | _, [] => []
  | k, x :: xs => f k x :: markN f inc (k + inc x) xs
theorem markN_len {α : Type} (f : Nat → α → α) (inc : α → Nat) : ∀ (k : Nat) (xs : List α), (markN f inc k xs).length = xs.length
  | _, [] => rfl
  | k, x :: xs => by rw [markN, List.length_cons, markN_len f inc, List.length_cons]
theorem markN_app {α : Type} (f : Nat → α → α) (inc : α → Nat) : ∀ (k : Nat) (xs ys : List α), markN f inc k (xs ++ ys) = markN f inc k xs ++ markN f inc (k + sumI inc xs) ys
  | k, [], ys => by simp [markN, sumI]
  | k, x :: xs, ys => by
    rw [List.cons_append, markN, markN_app f inc, markN, List.cons_append]
    congr 3
    unfold sumI
    rw [List.map_cons, List.sum_cons]; omega
theorem markN_get {α : Type} (f : Nat → α → α) (inc : α → Nat) : ∀ (k : Nat) (xs : List α) (j : Nat) (hj : j < xs.length), (markN f inc k xs)[j]'(by rw [markN_len]; exact hj) = f (k + sumI inc (xs.take j)) xs[j]
  | k, x :: xs, 0, _ => by simp [markN, sumI]
  | k, x :: xs, j + 1, hj => by
    simp only [markN, List.getElem_cons_succ]
    rw [markN_get f inc (k + inc x) xs j (by simpa using hj)]
    congr 1
    unfold sumI
    rw [List.take_succ_cons, List.map_cons, List.sum_cons]; omega
theorem mark_ownN {α : Type} {f : Nat → α → α} {inc : α → Nat} (xs : List α) {body : Int × Int × List α → Option (SR (Int × Int × List α) (Int × List α))} (k0 : Nat) (hL : k0 + sumI inc xs ≤ 4611686018427387904)
    (hb : ∀ (k j : Nat) (ys : List α) (hj : j < ys.length) (hjx : j < xs.length), ys.length = xs.length → ys[j] = xs[j] → k + inc xs[j] ≤ 4611686018427387904 → body ((k : Int), (j : Int), ys) = some (.nxt (((k + inc xs[j] : Nat) : Int), ((j + 1 : Nat) : Int), ys.set j (f k xs[j]))))
    (he : ∀ (k : Int) (ys : List α), ys.length = xs.length → body (k, (xs.length : Int), ys) = some (.brk (k, (xs.length : Int), ys))) :
    loopF body (((xs.length : Int)) - 0).toNat.succ ((k0 : Int), 0, xs) = some (.brk (((k0 + sumI inc xs : Nat) : Int), (xs.length : Int), markN f inc k0 xs)) := by
  refine loop_brk0 (body := body) xs.length (fun j : Nat => (((k0 + sumI inc (xs.take j) : Nat) : Int), (j : Int), markN f inc k0 (xs.take j) ++ xs.drop j)) (by simp [markN, sumI]) (fun j hj => ?_) (by
    simp only [List.take_length, List.drop_length, List.append_nil]
    exact he _ _ (markN_len f inc _ _)) (by omega)
  have hlen : (markN f inc k0 (xs.take j) ++ xs.drop j).length = xs.length := by
    rw [List.length_append, markN_len, ← List.length_append, List.take_append_drop]
  have hml : (markN f inc k0 (xs.take j)).length = j := by rw [markN_len, List.length_take]; omega
  have hj' : j < (markN f inc k0 (xs.take j) ++ xs.drop j).length := by omega
  have h1 := sumI_snoc inc hj
  have h2 := sumI_le inc xs (j + 1)
  have hg : (markN f inc k0 (xs.take j) ++ xs.drop j)[j] = xs[j] := by
    rw [List.getElem_append_right (by omega)]
    simp [hml]
  rw [hb _ j _ hj' hj hlen hg (by omega)]
  have hd : xs.drop j = xs[j] :: xs.drop (j + 1) := List.drop_eq_getElem_cons hj
  have e1 : (markN f inc k0 (xs.take j) ++ xs.drop j).set j (f (k0 + sumI inc (xs.take j)) xs[j]) = markN f inc k0 (xs.take (j + 1)) ++ xs.drop (j + 1) := by
    rw [hd, List.set_append_right _ _ (by omega), hml, Nat.sub_self, List.set_cons_zero, take_snoc (List.getElem?_eq_getElem hj), markN_app, List.append_assoc]
    rfl
  rw [e1, h1, Nat.add_assoc]
theorem held_genN {α : Type} (zs : List α) {body : Int × Int → Option (SR (Int × Int) Int)} (ks : Nat → Nat)
    (hb : ∀ (j : Nat), j < zs.length → body (((ks j : Nat) : Int), (j : Int)) = some (.nxt (((ks (j + 1) : Nat) : Int), ((j + 1 : Nat) : Int))))
    (he : ∀ k : Int, body (k, (zs.length : Int)) = some (.brk (k, (zs.length : Int)))) :
    loopF body (((zs.length : Int)) - 0).toNat.succ (((ks 0 : Nat) : Int), 0) = some (.brk (((ks zs.length : Nat) : Int), (zs.length : Int))) :=
  loop_brk0 (body := body) zs.length (fun j : Nat => (((ks j : Nat) : Int), (j : Int))) rfl (fun j hj => hb j hj) (he _) (by omega)
def fSpan : Nat → Span → Span := fun k _ => { Lo := (k : Int), Hi := ((k + 1 : Nat) : Int) }
theorem mark_spans (xs : List Span) (k : Nat) (h : k + 2 * xs.length ≤ 4611686018427387904) : laws_markSpanS_r xs (k : Int) = some (((k + 2 * xs.length : Nat) : Int), markL fSpan 2 k xs) := by
  unfold laws_markSpanS_r
  have := mark_own (f := fSpan) (c := 2) xs (body := laws_markSpanS_r_L0) k h (fun k j ys hj hl hk => by
    unfold laws_markSpanS_r_L0
    simp only [lt_true (show (j : Int) < (ys.length : Int) by omega), cond_true, idx_get hj, Option.bind_some, Int.toNat_natCast, idx_set hj, List.set_set]
    rw [W_k (k := k) (by omega), W_k (k := k + 1) (by omega), W_succ (show j < 9223372036854775807 by omega)]; rfl) (fun k ys hl => by
    unfold laws_markSpanS_r_L0
    simp only [hl, lt_false (Int.le_refl _), cond_false])
  rw [this]; rfl
theorem held_spans (xs : List Span) (k : Nat) (h : k + 2 * xs.length ≤ 4611686018427387904) : laws_heldSpanS (markL fSpan 2 k xs) (k : Int) = some (((k + 2 * xs.length : Nat) : Int)) := by
  unfold laws_heldSpanS
  have hl := markL_len fSpan 2 k xs
  have := held_gen (markL fSpan 2 k xs) (body := laws_heldSpanS_L0 (markL fSpan 2 k xs)) 2 k (fun j hj => by
    have hj' : j < xs.length := by omega
    have : 2 * (j + 1) ≤ 2 * xs.length := Nat.mul_le_mul_left 2 hj'
    unfold laws_heldSpanS_L0
    simp only [lt_true (show (j : Int) < ((markL fSpan 2 k xs).length : Int) by omega), cond_true, idx_get hj, Option.bind_some, markL_get fSpan 2 k xs j hj']
    rw [W_k (k := k + 2 * j) (by omega), W_k (k := k + 2 * j + 1) (by omega), W_succ (show j < 9223372036854775807 by omega)]
    simp only [fSpan, bne_self_eq_false, cond_false]) (fun k => by
    unfold laws_heldSpanS_L0
    simp only [lt_false (Int.le_refl _), cond_false])
  rw [this, hl]; rfl
def fSS : Nat → List Span → List Span := fun k s => markL fSpan 2 k s
def iS (s : List Span) : Nat := 2 * s.length
theorem mark_SS (xs : List (List Span)) (hn : xs.length ≤ 4611686018427387904) (k : Nat) (h : k + sumI iS xs ≤ 4611686018427387904) : laws_markSpanSS_r xs (k : Int) = some (((k + sumI iS xs : Nat) : Int), markN fSS iS k xs) := by
  unfold laws_markSpanSS_r
  have := mark_ownN (f := fSS) (inc := iS) xs (body := laws_markSpanSS_r_L0) k h (fun k j ys hj hjx hl hg hk => by
    unfold laws_markSpanSS_r_L0
    simp only [lt_true (show (j : Int) < (ys.length : Int) by omega), cond_true, idx_get hj, hg, Option.bind_some, mark_spans xs[j] k hk, Int.toNat_natCast]
    rw [W_succ (show j < 9223372036854775807 by omega)]; rfl) (fun k ys hl => by
    unfold laws_markSpanSS_r_L0
    simp only [hl, lt_false (Int.le_refl _), cond_false])
  rw [this]; rfl
theorem held_SS (xs : List (List Span)) (hn : xs.length ≤ 4611686018427387904) (k : Nat) (h : k + sumI iS xs ≤ 4611686018427387904) : laws_heldSpanSS (markN fSS iS k xs) (k : Int) = some (((k + sumI iS xs : Nat) : Int)) := by
  unfold laws_heldSpanSS
  have hl := markN_len fSS iS k xs
  have := held_genN (markN fSS iS k xs) (body := laws_heldSpanSS_L0 (markN fSS iS k xs)) (fun j => k + sumI iS (xs.take j)) (fun j hj => by
    have hj' : j < xs.length := by omega
    have h1 := sumI_snoc iS hj'
    have h2 := sumI_le iS xs (j + 1)
    have hd := held_spans xs[j] (k + sumI iS (xs.take j)) (by unfold iS at *; omega)
    unfold laws_heldSpanSS_L0
    simp only [lt_true (show (j : Int) < ((markN fSS iS k xs).length : Int) by omega), cond_true, idx_get hj, Option.bind_some, markN_get fSS iS k xs j hj']
    rw [show fSS (k + sumI iS (xs.take j)) xs[j] = markL fSpan 2 (k + sumI iS (xs.take j)) xs[j] from rfl, hd, Option.bind_some, decide_eq_false (by omega), cond_false, W_succ (show j < 9223372036854775807 by omega), h1, ← Nat.add_assoc]
    rfl) (fun k => by
    unfold laws_heldSpanSS_L0
    simp only [lt_false (Int.le_refl _), cond_false])
  have this' : loopF (laws_heldSpanSS_L0 (markN fSS iS k xs)) ((((markN fSS iS k xs).length : Int)) - 0).toNat.succ ((k : Int), 0) = some _ := this
  rw [this', hl]
  simp only [Option.bind_some, LR.on, List.take_length]
def fBox : Nat → Box → Box := fun k b => ⟨markN fSS iS k b.Sides⟩
def iB (b : Box) : Nat := sumI iS b.Sides
theorem mark_Boxes_r (xs : List Box) (hn : xs.length ≤ 4611686018427387904) (hx : ∀ b ∈ xs, b.Sides.length ≤ 4611686018427387904) (h : 1 + sumI iB xs ≤ 4611686018427387904) : laws_markBoxS_r xs 1 = some (((1 + sumI iB xs : Nat) : Int), markN fBox iB 1 xs) := by
  unfold laws_markBoxS_r
  have := mark_ownN (f := fBox) (inc := iB) xs (body := laws_markBoxS_r_L0) 1 h (fun k j ys hj hjx hl hg hk => by
    unfold laws_markBoxS_r_L0
    simp only [lt_true (show (j : Int) < (ys.length : Int) by omega), cond_true, idx_get hj, hg, Option.bind_some, mark_SS xs[j].Sides (hx _ (List.getElem_mem hjx)) k hk, Int.toNat_natCast]
    rw [W_succ (show j < 9223372036854775807 by omega)]; rfl) (fun k ys hl => by
    unfold laws_markBoxS_r_L0
    simp only [hl, lt_false (Int.le_refl _), cond_false])
  have this' : loopF laws_markBoxS_r_L0 (((xs.length : Int)) - 0).toNat.succ ((1 : Int), 0, xs) = some _ := this
  rw [this']; rfl
theorem held_Boxes (xs : List Box) (hn : xs.length ≤ 4611686018427387904) (hx : ∀ b ∈ xs, b.Sides.length ≤ 4611686018427387904) (h : 1 + sumI iB xs ≤ 4611686018427387904) : laws_heldBoxS (markN fBox iB 1 xs) 1 = some (((1 + sumI iB xs : Nat) : Int)) := by
  unfold laws_heldBoxS
  have hl := markN_len fBox iB 1 xs
  have := held_genN (markN fBox iB 1 xs) (body := laws_heldBoxS_L0 (markN fBox iB 1 xs)) (fun j => 1 + sumI iB (xs.take j)) (fun j hj => by
    have hj' : j < xs.length := by omega
    have h1 := sumI_snoc iB hj'
    have h2 := sumI_le iB xs (j + 1)
    have hd := held_SS xs[j].Sides (hx _ (List.getElem_mem hj')) (1 + sumI iB (xs.take j)) (by unfold iB at *; omega)
    unfold laws_heldBoxS_L0
    simp only [lt_true (show (j : Int) < ((markN fBox iB 1 xs).length : Int) by omega), cond_true, idx_get hj, Option.bind_some, markN_get fBox iB 1 xs j hj']
    rw [show (fBox (1 + sumI iB (xs.take j)) xs[j]).Sides = markN fSS iS (1 + sumI iB (xs.take j)) xs[j].Sides from rfl, hd, Option.bind_some, decide_eq_false (by omega), cond_false, W_succ (show j < 9223372036854775807 by omega), h1, ← Nat.add_assoc]
    rfl) (fun k => by
    unfold laws_heldBoxS_L0
    simp only [lt_false (Int.le_refl _), cond_false])
  have this' : loopF (laws_heldBoxS_L0 (markN fBox iB 1 xs)) ((((markN fBox iB 1 xs).length : Int)) - 0).toNat.succ ((1 : Int), 0) = some _ := this
  rw [this', hl]
  simp only [Option.bind_some, LR.on, List.take_length]
/-! Bounds. -/
theorem sum_bd {α : Type} (f : α → Nat) (xs : List α) (c n : Nat) (hn : xs.length ≤ n) (h : ∀ x ∈ xs, f x ≤ c) : (xs.map f).sum ≤ n * c := by
  induction xs generalizing n with
  | nil => simp
  | cons x xs ih =>
    rw [List.map_cons, List.sum_cons]
    have h1 := h x (by simp)
    obtain ⟨m, rfl⟩ : ∃ m, n = m + 1 := ⟨n - 1, by simp at hn; omega⟩
    have h2 := ih m (by simpa using hn) (fun y hy => h y (by simp [hy]))
    rw [Nat.add_mul]; omega
theorem iB_le {b : Box} (h : OkB b) : iB b ≤ 400 := by
  have := sum_bd iS b.Sides 80 5 h.1 (fun x hx => by have := h.2 x hx; unfold iS; omega)
  unfold iB sumI
  omega
theorem sumB_le {r : List (List (List Span))} (h : ∀ p ∈ r, B4 p ∧ Few p) (hl : r.length ≤ 400) : sumI iB (r.map Box.mk) ≤ 160000 := by
  have := sum_bd iB (r.map Box.mk) 400 400 (by rw [List.length_map]; exact hl) (fun x hx => by
    obtain ⟨p, hp, rfl⟩ := List.mem_map.1 hx
    exact iB_le (OkB.of (h p hp).1 (h p hp).2))
  unfold sumI
  omega
/-- An argument's numbers, from any number on. -/
theorem mark_Box_k {b : Box} (h : wBox b ≤ 1048576) (k : Nat) (hk : k ≤ 1000000000000) : ∃ m : Nat, laws_markBox b (k : Int) = some (m : Int) ∧ m ≤ k + 2 * 1048576 := by
  have h1 := mkSS_le b.Sides
  have h2 : wSpanSS b.Sides ≤ 1048576 := h
  have hs := wtL_small h2
  refine ⟨k + mkSS b.Sides, ?_, by omega⟩
  unfold laws_markBox
  rw [mark_SpanSS b.Sides (by omega) k (by omega)]; rfl
def mkBS (bs : List Box) : Nat := (bs.map fun b => mkSS b.Sides).sum
theorem mkBS_le (bs : List Box) : mkBS bs ≤ 2 * wBoxS bs := sum_le_wt (fun b => by have := mkSS_le b.Sides; unfold wBox; omega) bs
theorem mark_BoxS_k {bs : List Box} (h : wBoxS bs ≤ 1048576) (k : Nat) (hk : k ≤ 1000000000000) : ∃ m : Nat, laws_markBoxS bs (k : Int) = some (m : Int) := by
  have h1 := mkBS_le bs
  have hs := wtL_small h
  refine ⟨k + mkBS bs, ?_⟩
  unfold laws_markBoxS
  rw [mark_gen bs (fun b => mkSS b.Sides) k (show k + mkBS bs ≤ _ by omega) (fun k j hj hk => by
    have hb := wtL_small (show wSpanSS bs[j].Sides ≤ 1048576 from hs.2 _ (List.getElem_mem hj))
    unfold laws_markBoxS_L0
    simp only [lt_true (show (j : Int) < (bs.length : Int) by omega), cond_true, idx_get hj, Option.bind_some, mark_SpanSS bs[j].Sides (by omega) k hk]
    rw [W_succ (show j < 9223372036854775807 by omega)]) (fun k => by
    unfold laws_markBoxS_L0
    simp only [lt_false (Int.le_refl _), cond_false])]
  rfl
theorem eq_Box_self {b : Box} (h : OkBox b) : laws_eqBox b b = some true := by rw [eq_Box _ _ h]; simp
theorem eq_BoxS_self {bs : List Box} (hn : bs.length ≤ 9223372036854775807) (h : ∀ b ∈ bs, OkBox b) : laws_eqBoxS bs bs = some true := by rw [eq_BoxS _ _ hn h]; simp
end Go.PF.F

/- Plain laws: ExactBoxMeet, ExactTestsBox, ExactBoxCut, ExactRegionLess, ExactFlatBoxes. -/
namespace Go.PF.F
open Go Go.PF

theorem tail_boxes {r : List (List (List Span))} {k : Option Bool} (hr : ∀ p ∈ r, B4 p ∧ Few p) (hl : r.length ≤ 400) (hk : k = some true) :
    ((laws_markBoxS_r (r.map Box.mk) 1).bind fun x12 => (laws_heldBoxS x12.2 1).bind fun x13 => bif (decide (x13 < 0)) then some false else bif (x13 != x12.1) then some false else k) = some true := by
  have hb := sumB_le hr hl
  have hx : ∀ b ∈ r.map Box.mk, b.Sides.length ≤ 4611686018427387904 := fun b hb => by
    obtain ⟨p, hp, rfl⟩ := List.mem_map.1 hb
    show p.length ≤ _
    rw [(hr p hp).1.1]; decide
  rw [mark_Boxes_r _ (by rw [List.length_map]; omega) hx (by omega), Option.bind_some]
  simp only [held_Boxes _ (show (r.map Box.mk).length ≤ 4611686018427387904 by rw [List.length_map]; omega) hx (by omega), Option.bind_some, decide_eq_false (by omega : ¬ (((1 + sumI iB (r.map Box.mk) : Nat) : Int) < 0)), cond_false, bne_self_eq_false]
  exact hk
theorem maps_len {r : List (List (List Span))} (hl : r.length ≤ 400) : (r.map Box.mk).length ≤ 9223372036854775807 := by rw [List.length_map]; omega
theorem plain_FnExactRegionLess (a : Box) (b : List Box) (ga : G_Box a) (gb : GAll G_Box b) : laws_FnExactRegionLess a b = some true := by
  have hs : ∀ x ∈ b, OkBox x := fun x hx => ok_of_G (gb.2 x hx)
  unfold laws_FnExactRegionLess
  rw [sz_Box (by decide) (by decide) (ok_of_G ga), Option.bind_some]
  by_cases h1 : leftOf 1048576 (wBox a) < 0
  · rw [decide_eq_true h1]; rfl
  · obtain ⟨l0, l1, hn⟩ := left_le (by decide) (by decide) h1
    rw [decide_eq_false h1, cond_false, sz_BoxS l0 l1 gb.1 hs, Option.bind_some]
    by_cases h2 : leftOf (leftOf 1048576 (wBox a)) (wBoxS b) < 0
    · rw [decide_eq_true h2]; rfl
    · obtain ⟨_, _, hn2⟩ := left_le l0 l1 h2
      have hm := wtL_small hn2
      have hsm : ∀ x ∈ b, SmBox x := fun x hx => sm_Box (hm.2 x hx)
      obtain ⟨r, t, e1, e2, hr, hl⟩ := less_sm (sm_Box hn) hm.1 hsm
      obtain ⟨k1, ek1, hk1⟩ := mark_Box_k hn 1 (by decide)
      obtain ⟨k2, ek2⟩ := mark_BoxS_k hn2 k1 (by omega)
      have e1' : impl_RegionLess ({ Sides := a.Sides } : Box) b = some (r.map Box.mk, t) := e1
      have q1 := eq_BoxS_self (maps_len hl) (maps_ok hr)
      have q2 : laws_eqBox ({ Sides := a.Sides } : Box) a = some true := eq_Box_self (ok_of_G ga)
      have q3 := eq_BoxS_self gb.1 hs
      have ek1' : laws_markBox a 1 = some (k1 : Int) := ek1
      rw [decide_eq_false h2, cond_false, to_Box (sm_Box hn), Option.bind_some, to_BoxS hm.1 hsm, Option.bind_some, e2, Option.bind_some, e1', Option.bind_some, q1, Option.bind_some, cond_true, bne_self_eq_false, cond_false, q2, Option.bind_some, cond_true, q3, Option.bind_some, cond_true, ek1', Option.bind_some, ek2, Option.bind_some, decide_eq_false (by omega : ¬ ((k2 : Int) < 0)), cond_false]
      refine tail_boxes hr hl ?_
      rw [Option.bind_some, q1, Option.bind_some, cond_true, bne_self_eq_false]; rfl
end Go.PF.F
