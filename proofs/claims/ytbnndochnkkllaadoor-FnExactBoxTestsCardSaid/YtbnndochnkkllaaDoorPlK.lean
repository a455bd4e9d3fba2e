/- Plain laws: sets from ranges, boxes from tests. -/
import Derived.Test.YtbnndochnkkllaaDoorPlJ
namespace Go.PF.F
open Go Go.PF

/-! Adding a range to a set. -/
def addL (s : Span) : List Span → List Span
  | [] => [s]
  | x :: xs => if x.Hi + 1 < s.Lo then x :: addL s xs else if s.Hi + 1 < x.Lo then s :: x :: xs else addL ⟨imin s.Lo x.Lo, imax s.Hi x.Hi⟩ xs
theorem addL_cn : ∀ {xs : List Span} {lo : Int} {s : Span}, Cn lo xs → lo ≤ s.Lo → s.Lo ≤ s.Hi → Cn lo (addL s xs)
  | [], lo, s, _, h0, h1 => ⟨h0, h1, trivial⟩
  | x :: xs, lo, s, h, h0, h1 => by
    unfold addL
    split
    · exact ⟨h.1, h.2.1, addL_cn h.2.2 (by omega) h1⟩
    · split
      · exact ⟨h0, h1, by show s.Hi + 2 ≤ x.Lo; omega, h.2⟩
      · have h2 := h.1
        have h3 := h.2.1
        refine addL_cn (cn_mono h.2.2 (by omega)) (le_imin.2 ⟨h0, h.1⟩) ?_
        show imin s.Lo x.Lo ≤ imax s.Hi x.Hi
        have a : imin s.Lo x.Lo ≤ s.Lo := imin_le.2 (.inl (Int.le_refl _))
        have b : s.Hi ≤ imax s.Hi x.Hi := le_imax.2 (.inl (Int.le_refl _))
        omega
theorem addL_up {top : Int} : ∀ {xs : List Span} {s : Span}, Up top xs → s.Hi ≤ top → Up top (addL s xs)
  | [], s, _, h => fun z hz => by rw [List.mem_singleton.1 hz]; exact h
  | x :: xs, s, hu, h => by
    unfold addL
    have hx := hu x (by simp)
    have ht : Up top xs := fun z hz => hu z (by simp [hz])
    split
    · intro z hz
      rcases List.mem_cons.1 hz with rfl | hz
      · exact hx
      · exact addL_up ht h z hz
    · split
      · intro z hz
        rcases List.mem_cons.1 hz with rfl | hz
        · exact h
        · exact hu z hz
      · exact addL_up ht (imax_le.2 ⟨h, hx⟩)
theorem addL_len : ∀ (xs : List Span) (s : Span), (addL s xs).length ≤ xs.length + 1
  | [], s => by simp [addL]
  | x :: xs, s => by
    unfold addL
    have h1 := addL_len xs s
    have h2 := addL_len xs ⟨imin s.Lo x.Lo, imax s.Hi x.Hi⟩
    split
    · simp only [List.length_cons]; omega
    · split <;> simp only [List.length_cons] <;> omega
theorem Set0.add {top : Int} {xs : List Span} {s : Span} (h : Set0 top xs) (h0 : 0 ≤ s.Lo) (h1 : s.Lo ≤ s.Hi) (h2 : s.Hi ≤ top) : Set0 top (addL s xs) := ⟨h.t0, h.t1, addL_cn h.cn h0 h1, addL_up h.up h2⟩
theorem spec_add {a : List Span} {top : Int} {s : Span} (ha : Set0 top a) (h0 : 0 ≤ s.Lo) (h1 : s.Lo ≤ s.Hi) (h2 : s.Hi ≤ top) : spec_l1Add a s = some (addL s a) := by
  have hal := ha.len
  have ht1 := ha.t1
  unfold spec_l1Add
  obtain ⟨o, ho, hq⟩ := loop_wf (body := spec_l1Add_L0 a)
    (fun s' => ∃ k : Nat, s'.2.2.1 = (k : Int) ∧ k ≤ a.length ∧ 0 ≤ s'.2.2.2.1 ∧ s'.2.2.2.1 ≤ s'.2.2.2.2 ∧ s'.2.2.2.2 ≤ top ∧ s'.1.length ≤ 2 * k ∧
      ((s'.2.1 = false ∧ s'.1 ++ addL ⟨s'.2.2.2.1, s'.2.2.2.2⟩ (a.drop k) = addL s a) ∨ (s'.2.1 = true ∧ (∀ x ∈ a.drop k, s'.2.2.2.2 + 1 < x.Lo) ∧ s'.1 ++ a.drop k = addL s a)))
    (fun s' => a.length - s'.2.2.1.toNat)
    (fun o => ∃ s' : List Span × Bool × Int × Int × Int, o = .brk s' ∧ s'.1.length ≤ 100000 ∧ s'.1 ++ (if s'.2.1 then [] else [⟨s'.2.2.2.1, s'.2.2.2.2⟩]) = addL s a)
    (fun s' ⟨k, e1, hk, hlo, hlh, hhi, hl, hc⟩ => by
      obtain ⟨y, pl, i, lo, hi⟩ := s'
      simp only at e1 hlo hlh hhi hl hc
      subst e1
      rcases drop_cases a k hk with ⟨e, rfl⟩ | ⟨x, t, e, hk', hx, et⟩
      · refine .inr (.inl ⟨(y, pl, (a.length : Int), lo, hi), ?_, _, rfl, by simp only; omega, ?_⟩)
        · unfold spec_l1Add_L0
          simp only [lt_false (Int.le_refl _), cond_false]
        · rw [e] at hc
          rcases hc with ⟨rfl, hc⟩ | ⟨rfl, _, hc⟩
          · exact hc
          · exact hc
      · have hm := ha.mem (x := x) (List.mem_of_mem_drop (i := k) (by rw [e]; simp))
        have hcn : Cn 0 (x :: t) := by rw [← e]; exact cn_right (xs := a.take k) (by rw [List.take_append_drop]; exact ha.cn)
        have hW1 : W (x.Hi + 1) = x.Hi + 1 := W_of (by omega) (by omega)
        have hW2 : W (hi + 1) = hi + 1 := W_of (by omega) (by omega)
        rw [e] at hc
        rcases hc with ⟨rfl, hc⟩ | ⟨rfl, hall, hc⟩
        · rw [show addL ⟨lo, hi⟩ (x :: t) = if x.Hi + 1 < lo then x :: addL ⟨lo, hi⟩ t else if hi + 1 < x.Lo then ⟨lo, hi⟩ :: x :: t else addL ⟨imin lo x.Lo, imax hi x.Hi⟩ t from rfl] at hc
          by_cases c1 : x.Hi + 1 < lo
          · refine .inl ⟨(y ++ [x], false, ((k + 1 : Nat) : Int), lo, hi), ?_, ⟨k + 1, rfl, hk', hlo, hlh, hhi, by simp; omega, .inl ⟨rfl, ?_⟩⟩, by simp; omega⟩
            · unfold spec_l1Add_L0
              simp only [lt_true (show (k : Int) < (a.length : Int) by omega), cond_true, hx, Option.bind_some, hW1, lt_true c1, app_ok (show y.length + [x].length ≤ 4294967296 by simp; omega), W_succ (show k < 9223372036854775807 by omega)]
            · rw [if_pos c1] at hc; rw [et]; simpa using hc
          · rw [if_neg c1] at hc
            by_cases c2 : hi + 1 < x.Lo
            · refine .inl ⟨((y ++ [⟨lo, hi⟩]) ++ [x], true, ((k + 1 : Nat) : Int), lo, hi), ?_, ⟨k + 1, rfl, hk', hlo, hlh, hhi, by simp; omega, .inr ⟨rfl, fun z hz => ?_, ?_⟩⟩, by simp; omega⟩
              · unfold spec_l1Add_L0
                simp only [lt_true (show (k : Int) < (a.length : Int) by omega), cond_true, hx, Option.bind_some, hW1, decide_eq_false c1, cond_false, hW2, lt_true c2, app_ok (show y.length + [(⟨lo, hi⟩ : Span)].length ≤ 4294967296 by simp; omega), app_ok (show (y ++ [(⟨lo, hi⟩ : Span)]).length + [x].length ≤ 4294967296 by simp; omega), W_succ (show k < 9223372036854775807 by omega)]
              · rw [et] at hz
                have := (cn_lo hcn.2.2 z hz).1
                simp only; omega
              · rw [if_pos c2] at hc; rw [et]; simpa using hc
            · rw [if_neg c2] at hc
              refine .inl ⟨(y, false, ((k + 1 : Nat) : Int), imin lo x.Lo, imax hi x.Hi), ?_, ⟨k + 1, rfl, hk', le_imin.2 ⟨hlo, hm.1⟩, ?_, imax_le.2 ⟨hhi, hm.2.2⟩, by simp only; omega, .inl ⟨rfl, ?_⟩⟩, by simp; omega⟩
              · unfold spec_l1Add_L0
                simp only [lt_true (show (k : Int) < (a.length : Int) by omega), cond_true, hx, Option.bind_some, hW1, decide_eq_false c1, cond_false, hW2, decide_eq_false c2, W_succ (show k < 9223372036854775807 by omega)]
              · have a1 : imin lo x.Lo ≤ lo := imin_le.2 (.inl (Int.le_refl _))
                have b1 : hi ≤ imax hi x.Hi := le_imax.2 (.inl (Int.le_refl _))
                simp only; omega
              · rw [et]; exact hc
        · have hx1 := hall x (by simp)
          have c1 : ¬ x.Hi + 1 < lo := by omega
          refine .inl ⟨(y ++ [x], true, ((k + 1 : Nat) : Int), lo, hi), ?_, ⟨k + 1, rfl, hk', hlo, hlh, hhi, by simp; omega, .inr ⟨rfl, fun z hz => hall z (by rw [et] at hz; simp [hz]), ?_⟩⟩, by simp; omega⟩
          · unfold spec_l1Add_L0
            simp only [lt_true (show (k : Int) < (a.length : Int) by omega), cond_true, hx, Option.bind_some, hW1, decide_eq_false c1, cond_false, hW2, lt_true hx1, app_ok (show y.length + [x].length ≤ 4294967296 by simp; omega), W_succ (show k < 9223372036854775807 by omega)]
          · rw [et]; simpa using hc)
    ((((a.length : Int)) : Int) - 0).toNat.succ (([] : List Span), false, 0, s.Lo, s.Hi) ⟨0, rfl, Nat.zero_le _, h0, h1, h2, by simp, .inl ⟨rfl, by simp⟩⟩ (by simp)
  rw [ho]
  obtain ⟨⟨y, pl, i, lo, hi⟩, rfl, hl, he⟩ := hq
  simp only [Option.bind_some, LR.on]
  simp only at hl he
  cases pl with
  | true => simp only [if_true, List.append_nil] at he; rw [cond_true, he]
  | false =>
    rw [cond_false, app_ok (by simp; omega), Option.bind_some]
    simp only [Bool.false_eq_true, if_false] at he
    rw [he]
/-- Ranges in 0..top. -/
def RawOk (top : Int) (xs : List Span) : Prop := ∀ x ∈ xs, 0 ≤ x.Lo ∧ x.Lo ≤ x.Hi ∧ x.Hi ≤ top
def setOf (xs : List Span) : List Span := xs.foldl (fun b x => addL x b) []
theorem setOf_ok {top : Int} (h0 : 0 ≤ top) (h1 : top ≤ 65535) : ∀ (xs : List Span) (b : List Span), RawOk top xs → Set0 top b → Set0 top (xs.foldl (fun b x => addL x b) b) ∧ (xs.foldl (fun b x => addL x b) b).length ≤ b.length + xs.length
  | [], b, _, hb => ⟨hb, by simp⟩
  | x :: xs, b, hx, hb => by
    have h := hx x (by simp)
    have ih := setOf_ok h0 h1 xs (addL x b) (fun z hz => hx z (by simp [hz])) (hb.add h.1 h.2.1 h.2.2)
    have := addL_len b x
    refine ⟨ih.1, ?_⟩
    have := ih.2
    simp only [List.foldl_cons, List.length_cons] at this ⊢
    omega
theorem spec_setOf {top : Int} (h0 : 0 ≤ top) (h1 : top ≤ 65535) {xs : List Span} (hl : xs.length ≤ 40) (hx : RawOk top xs) : spec_SpansOf xs top = some (setOf xs) := by
  unfold spec_SpansOf
  rw [in_dec, Option.bind_some, decide_eq_true ⟨h0, h1⟩, cond_true, lt_false (by omega), cond_false]
  have := loop_each (body := spec_SpansOf_L0 xs top) xs (fun b k => (b, k)) (fun b x => addL x b) [] (fun b => (b, (xs.length : Int))) (fuel := ((((xs.length : Int)) : Int) - 0).toNat.succ) (by omega)
    (fun k x hk hxk => by
      have hm := hx x (List.mem_of_getElem? hxk)
      have hs := setOf_ok h0 h1 (xs.take k) [] (fun z hz => hx z (List.mem_of_mem_take hz)) (.nil h0 h1)
      unfold spec_SpansOf_L0
      simp only [lt_true (show (k : Int) < (xs.length : Int) by omega), cond_true, idx_nat, hxk, Option.bind_some, in_dec, decide_eq_true (show (0 : Int) ≤ x.Lo ∧ x.Lo ≤ x.Hi from ⟨hm.1, hm.2.1⟩), decide_eq_true (show (0 : Int) ≤ x.Hi ∧ x.Hi ≤ top from ⟨by omega, hm.2.2⟩), spec_add hs.1 hm.1 hm.2.1 hm.2.2, W_succ (show k < 9223372036854775807 by omega)])
    (by
      unfold spec_SpansOf_L0
      simp only [lt_false (Int.le_refl _), cond_false])
  rw [this]; rfl

/-! All packets. -/
def fullS : List (List Span) := mk4 fun k => [⟨0, topOf k⟩]
theorem top_pos {k : Nat} (hk : k < 4) : 0 ≤ topOf k ∧ topOf k ≤ 65535 := by
  match k, hk with
  | 0, _ => decide
  | 1, _ => decide
  | 2, _ => decide
  | 3, _ => decide
theorem full_B4 : B4 fullS := ⟨mk4_len _, fun k hk => by
  unfold fullS
  rw [sd_mk4 _ hk]
  have := top_pos hk
  exact Set0.one (Int.le_refl _) this.1 (Int.le_refl _) this.2⟩
theorem full_few : Few fullS := fun k hk => by unfold fullS; rw [sd_mk4 _ hk]; simp
theorem has_full {k : Nat} (hk : k < 4) (v : Int) : has (sd fullS k) v = decide (0 ≤ v ∧ v ≤ topOf k) := by
  unfold fullS; rw [sd_mk4 _ hk]; simp [has, inS]
theorem spec_all : spec_BoxAll = some ⟨fullS⟩ := rfl
theorem impl_all : impl_allSides = some fullS := rfl
theorem impl_box4 {s : List (List Span)} (h : s.length = 4) (hs : ∀ x ∈ s, x.length ≤ 32768) : impl_sides_box s = some ⟨s⟩ := by
  obtain ⟨a, b, c, d, rfl⟩ := four h
  have ha := hs a (by simp)
  have hb := hs b (by simp)
  have hc := hs c (by simp)
  have hd := hs d (by simp)
  unfold impl_sides_box
  rw [show makeF ([] : List Span) 4 = some [[], [], [], []] from rfl, Option.bind_some]
  have := loop_brk (body := impl_sides_box_L0 [a, b, c, d]) 4 (fun k => ((k : Int), [a, b, c, d].take k ++ List.replicate (4 - k) [])) (4, [a, b, c, d]) (fun k hk => by
      unfold impl_sides_box_L0
      match k, hk with
      | 0, _ => simp only [show idx [a, b, c, d] ((0 : Nat) : Int) = some a from rfl, Option.bind_some, app_nil (show a.length ≤ 4294967296 by omega)]; rfl
      | 1, _ => simp only [show idx [a, b, c, d] ((1 : Nat) : Int) = some b from rfl, Option.bind_some, app_nil (show b.length ≤ 4294967296 by omega)]; rfl
      | 2, _ => simp only [show idx [a, b, c, d] ((2 : Nat) : Int) = some c from rfl, Option.bind_some, app_nil (show c.length ≤ 4294967296 by omega)]; rfl
      | 3, _ => simp only [show idx [a, b, c, d] ((3 : Nat) : Int) = some d from rfl, Option.bind_some, app_nil (show d.length ≤ 4294967296 by omega)]; rfl)
    rfl (fuel := (((4) : Int) - 0).toNat.succ) (by decide)
  rw [show ((0 : Int), ([[], [], [], []] : List (List Span))) = (((0 : Nat) : Int), [a, b, c, d].take 0 ++ List.replicate (4 - 0) []) from rfl, this]; rfl
theorem impl_BoxAll_is : impl_BoxAll = some ⟨fullS⟩ := by
  unfold impl_BoxAll
  rw [impl_all, Option.bind_some, impl_box4 full_B4.1 full_B4.okm]; rfl

/-! Tests. -/
def testL (t : Test) : List Span := if t.Not then otherL (topOf t.Field.toNat) 0 [⟨t.Lo, t.Hi⟩] else [⟨t.Lo, t.Hi⟩]
theorem TV.field {t : Test} (h : TV t) : t.Field = ((t.Field.toNat : Nat) : Int) ∧ t.Field.toNat < 4 := by have := h.1; omega
theorem TV.one {t : Test} (h : TV t) : Set0 (topOf t.Field.toNat) [⟨t.Lo, t.Hi⟩] := Set0.one h.2.1.1 h.2.1.2 h.2.2 (top_pos h.field.2).2
theorem TV.set {t : Test} (h : TV t) : Set0 (topOf t.Field.toNat) (testL t) := by
  unfold testL
  split
  · exact h.one.other
  · exact h.one
theorem has_test {t : Test} (h : TV t) (v : Int) : has (testL t) v = (decide (0 ≤ v ∧ v ≤ topOf t.Field.toNat) && (decide (t.Lo ≤ v ∧ v ≤ t.Hi) != t.Not)) := by
  unfold testL
  cases hn : t.Not with
  | true =>
    rw [if_pos rfl, h.one.has_other]
    simp [has, inS]
  | false =>
    rw [if_neg (by simp)]
    have := h.2
    rw [Bool.eq_iff_iff]
    simp [has, inS]
    omega
theorem testL_len (t : Test) : (testL t).length ≤ 2 := by
  unfold testL
  split
  · exact otherL_len _ _ _
  · simp
theorem spec_testSpans {t : Test} (h : TV t) : spec_TestSpans t = some (testL t) := by
  unfold spec_TestSpans
  obtain ⟨r, e, hr⟩ := spec_test t
  rw [e, Option.bind_some, hr.2 h, cond_true]
  unfold testL
  cases hn : t.Not with
  | true =>
    rw [cond_true, h.field.1, spec_top, Option.bind_some]
    simp only [Int.toNat_natCast]
    rw [spec_other h.one]; rfl
  | false => rfl
def testsS (ts : List Test) : List (List Span) := ts.foldl (fun s t => s.set t.Field.toNat (meetL (sd s t.Field.toNat) (testL t))) fullS
theorem B4.set {s : List (List Span)} (h : B4 s) {k : Nat} (hk : k < 4) {x : List Span} (hx : Set0 (topOf k) x) : B4 (s.set k x) :=
  ⟨by rw [List.length_set]; exact h.1, fun j hj => by
    rw [sd_set h.1 hk]
    split
    · rename_i e; subst e; exact hx
    · exact h.2 j hj⟩
theorem testsS_ok : ∀ (ts : List Test) (s : List (List Span)), (∀ t ∈ ts, TV t) → B4 s → B4 (ts.foldl (fun s t => s.set t.Field.toNat (meetL (sd s t.Field.toNat) (testL t))) s)
  | [], _, _, h => h
  | t :: ts, s, ht, h => by
    have h1 := ht t (by simp)
    exact testsS_ok ts _ (fun z hz => ht z (by simp [hz])) (h.set h1.field.2 ((h.2 _ h1.field.2).meet h1.set))
theorem spec_testsBox {ts : List Test} (h : TsV ts) : spec_TestsBox ts = some ⟨testsS ts⟩ := by
  have hl : ts.length ≤ 6 := by have := h.2; omega
  unfold spec_TestsBox
  obtain ⟨r, e, hr⟩ := spec_tests (xs := ts) (by omega)
  rw [e, Option.bind_some, hr.2 h, cond_true, spec_all, Option.bind_some]
  have := loop_each (body := spec_TestsBox_L0 ts) ts (fun s k => (k, s)) (fun s t => s.set t.Field.toNat (meetL (sd s t.Field.toNat) (testL t))) fullS (fun s => ((ts.length : Int), s)) (fuel := ((((ts.length : Int)) : Int) - 0).toNat.succ) (by omega)
    (fun k t hk ht => by
      have hv := h.1 t (List.mem_of_getElem? ht)
      have hs := testsS_ok (ts.take k) fullS (fun z hz => h.1 z (List.mem_of_mem_take hz)) full_B4
      generalize (ts.take k).foldl (fun s t => s.set t.Field.toNat (meetL (sd s t.Field.toNat) (testL t))) fullS = s at hs
      have hi := sd_idx hs.1 hv.field.2
      rw [← hv.field.1] at hi
      have h1 := hs.len hv.field.2
      have h2 := testL_len t
      unfold spec_TestsBox_L0
      simp only [lt_true (show (k : Int) < (ts.length : Int) by omega), cond_true, idx_nat, ht, Option.bind_some, hi, spec_testSpans hv, spec_meet (show (sd s t.Field.toNat).length ≤ 40000 by omega) (show (testL t).length ≤ 40000 by omega), W_succ (show k < 9223372036854775807 by omega)])
    (by
      unfold spec_TestsBox_L0
      simp only [lt_false (Int.le_refl _), cond_false])
  rw [this]; rfl
theorem has_tests : ∀ (ts : List Test) (s : List (List Span)) {k : Nat} (v : Int), (∀ t ∈ ts, TV t) → B4 s → k < 4 →
    has (sd (ts.foldl (fun s t => s.set t.Field.toNat (meetL (sd s t.Field.toNat) (testL t))) s) k) v = (has (sd s k) v && ts.all fun t => t.Field.toNat != k || has (testL t) v)
  | [], s, k, v, _, _, _ => by simp
  | t :: ts, s, k, v, ht, h, hk => by
    have h1 := ht t (by simp)
    rw [List.foldl_cons, has_tests ts _ v (fun z hz => ht z (by simp [hz])) (h.set h1.field.2 ((h.2 _ h1.field.2).meet h1.set)) hk, sd_set h.1 h1.field.2]
    by_cases hf : k = t.Field.toNat
    · subst hf
      rw [if_pos rfl, has_meetL]
      simp [Bool.and_assoc]
    · rw [if_neg hf]
      have : (t.Field.toNat != k) = true := by simp; exact fun e => hf e.symm
      simp [this]
/-! How many ranges a meeting has. -/
theorem meet1_len_app (x : Span) (b c : List Span) : (meet1 x (b ++ c)).length = (meet1 x b).length + (meet1 x c).length := by simp [meet1]
theorem meetL_len_cons (a : List Span) (y : Span) (b : List Span) : (meetL a (y :: b)).length = (meetL a [y]).length + (meetL a b).length := by
  induction a with
  | nil => rfl
  | cons x t ih =>
    rw [show meetL (x :: t) (y :: b) = meet1 x (y :: b) ++ meetL t (y :: b) from by simp [meetL], show meetL (x :: t) [y] = meet1 x [y] ++ meetL t [y] from by simp [meetL], show meetL (x :: t) b = meet1 x b ++ meetL t b from by simp [meetL]]
    have := meet1_len_app x [y] b
    simp only [List.length_append, ih] at this ⊢
    rw [show y :: b = [y] ++ b from rfl, this]; omega
theorem nil_of_has {lo : Int} {xs : List Span} (h : Cn lo xs) (hv : ∀ v, has xs v = false) : xs = [] := by
  cases xs with
  | nil => rfl
  | cons x t =>
    have := hv x.Lo
    rw [has_cons, inS_iff.2 ⟨Int.le_refl _, h.2.1⟩] at this
    simp at this
theorem meet_few : ∀ (n : Nat) (a b : List Span) (lo lo' : Int), a.length + b.length ≤ n → Cn lo a → Cn lo' b → (meetL a b).length ≤ a.length + b.length
  | 0, a, b, _, _, hn, _, _ => by
    obtain rfl : a = [] := List.eq_nil_of_length_eq_zero (by omega)
    simp [meetL]
  | n + 1, [], b, _, _, _, _, _ => by simp [meetL]
  | n + 1, x :: a, [], _, _, _, _, _ => by
    have : meetL (x :: a) [] = [] := by simp [meetL, meet1]
    rw [this]; simp
  | n + 1, x :: a, y :: b, lo, lo', hn, ha, hb => by
    by_cases h : y.Hi ≤ x.Hi + 1
    · have h0 : meetL a [y] = [] := by
        refine nil_of_has (cn_meetL (lo' := y.Lo) (b := [y]) ⟨Int.le_refl _, hb.2.1, trivial⟩ ha.2.2) fun v => ?_
        rw [has_meetL, Bool.eq_false_iff]
        intro hh
        rw [Bool.and_eq_true] at hh
        have h1 := cn_has ha.2.2 hh.1
        have h2 := hh.2
        rw [has_cons, has_nil, Bool.or_false] at h2
        have := inS_iff.1 h2
        omega
      have h1 : (meetL (x :: a) [y]).length ≤ 1 := by
        rw [show meetL (x :: a) [y] = meet1 x [y] ++ meetL a [y] from by simp [meetL], h0]
        have := meet1_len x [y]
        simpa using this
      have ih := meet_few n (x :: a) b lo (y.Hi + 2) (by simp only [List.length_cons] at hn ⊢; omega) ha hb.2.2
      rw [meetL_len_cons]
      simp only [List.length_cons] at ih ⊢
      omega
    · have h0 : meet1 x b = [] := by
        refine nil_of_has (cn_meet1 x hb.2.2 (.inr (Int.le_refl _))) fun v => ?_
        rw [has_meet1, Bool.eq_false_iff]
        intro hh
        rw [Bool.and_eq_true] at hh
        have h1 := cn_has hb.2.2 hh.2
        have h2 := inS_iff.1 hh.1
        omega
      have h1 : (meet1 x (y :: b)).length ≤ 1 := by
        have e := meet1_len_app x [y] b
        have := meet1_len x [y]
        rw [h0] at e
        simp only [List.length_nil, Nat.add_zero, List.cons_append, List.nil_append] at e
        rw [e]; simpa using this
      have ih := meet_few n a (y :: b) (x.Hi + 2) lo' (by simp only [List.length_cons] at hn ⊢; omega) ha.2.2 hb
      rw [show meetL (x :: a) (y :: b) = meet1 x (y :: b) ++ meetL a (y :: b) from by simp [meetL], List.length_append]
      simp only [List.length_cons] at ih ⊢
      omega
theorem Set0.meet_few {top top' : Int} {a b : List Span} (ha : Set0 top a) (hb : Set0 top' b) : (meetL a b).length ≤ a.length + b.length := F.meet_few _ a b 0 0 (Nat.le_refl _) ha.cn hb.cn
theorem testsS_len : ∀ (ts : List Test) (s : List (List Span)), (∀ t ∈ ts, TV t) → B4 s → ∀ (m : Nat), (∀ k, k < 4 → (sd s k).length ≤ m) → ∀ k, k < 4 → (sd (ts.foldl (fun s t => s.set t.Field.toNat (meetL (sd s t.Field.toNat) (testL t))) s) k).length ≤ m + 2 * ts.length
  | [], s, _, _, m, hm, k, hk => by have := hm k hk; simpa using this
  | t :: ts, s, ht, h, m, hm, k, hk => by
    have h1 := ht t (by simp)
    have ih := testsS_len ts _ (fun z hz => ht z (by simp [hz])) (h.set h1.field.2 ((h.2 _ h1.field.2).meet h1.set)) (m + 2) (fun j hj => by
      rw [sd_set h.1 h1.field.2]
      split
      · have := (h.2 _ h1.field.2).meet_few h1.set
        have := hm _ h1.field.2
        have := testL_len t
        omega
      · have := hm j hj; omega) k hk
    rw [List.foldl_cons, List.length_cons]
    omega
theorem testsS_B4 {ts : List Test} (h : ∀ t ∈ ts, TV t) : B4 (testsS ts) := testsS_ok ts fullS h full_B4
theorem testsS_few {ts : List Test} (h : TsV ts) : Few (testsS ts) := fun k hk => by
  have := testsS_len ts fullS h.1 full_B4 1 (fun j hj => by unfold fullS; rw [sd_mk4 _ hj]; simp) k hk
  have h2 := h.2
  show (sd (testsS ts) k).length ≤ 40
  unfold testsS
  omega
end Go.PF.F
