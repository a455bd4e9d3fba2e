/- Plain laws: tests of boxes. -/
import Derived.Test.YtbnndochnkkllaaDoorPlO
namespace Go.PF.F
open Go Go.PF

/-- The tests of a field: none if it has all values. -/
def fieldT (n : Nat) : List Span → Option (List Test)
  | [x] => some (if x = ⟨0, topOf n⟩ then [] else [⟨(n : Int), x.Lo, x.Hi, false⟩])
  | [x, y] => if x.Lo = 0 ∧ y.Hi = topOf n then some [⟨(n : Int), x.Hi + 1, y.Lo - 1, true⟩] else none
  | _ => none
def boxT (s : List (List Span)) : Nat → Option (List Test)
  | 0 => some []
  | k + 1 => (boxT s k).bind fun y => (fieldT k (sd s k)).map fun t => y ++ t
theorem fieldT_len {n : Nat} {s : List Span} {t : List Test} (h : fieldT n s = some t) : t.length ≤ 1 := by
  match s, h with
  | [x], h =>
    have h := Option.some.inj h
    subst h
    split <;> simp
  | [x, y], h =>
    simp only [fieldT] at h
    split at h
    · rw [← Option.some.inj h]; simp
    · cases h
theorem fieldT_field {n : Nat} {s : List Span} {t : List Test} (h : fieldT n s = some t) : ∀ x ∈ t, x.Field = (n : Int) := by
  match s, h with
  | [x], h =>
    have h := Option.some.inj h
    subst h
    split <;> simp
  | [x, y], h =>
    simp only [fieldT] at h
    split at h
    · rw [← Option.some.inj h]; simp
    · cases h
theorem fieldT_TV {n : Nat} (hn : n < 4) {s : List Span} (hs : Set0 (topOf n) s) {t : List Test} (h : fieldT n s = some t) : ∀ x ∈ t, TV x := by
  match s, hs, h with
  | [x], hs, h =>
    have h := Option.some.inj h
    subst h
    have hm := hs.mem (x := x) (List.mem_singleton.2 rfl)
    intro z hz
    split at hz
    · cases hz
    · rw [List.mem_singleton.1 hz]
      exact ⟨⟨by simp only; omega, by simp only; omega⟩, ⟨hm.1, hm.2.1⟩, by simp only [Int.toNat_natCast]; exact hm.2.2⟩
  | [x, y], hs, h =>
    simp only [fieldT] at h
    split at h
    · rw [← Option.some.inj h]
      have hx := hs.mem (x := x) (by simp)
      have hy := hs.mem (x := y) (by simp)
      have hc := hs.cn.2.2.1
      intro z hz
      rw [List.mem_singleton.1 hz]
      exact ⟨⟨by simp only; omega, by simp only; omega⟩, ⟨by simp only; omega, by simp only; omega⟩, by simp only [Int.toNat_natCast]; omega⟩
    · cases h
theorem fieldT_has {n : Nat} (hn : n < 4) {s : List Span} (hs : Set0 (topOf n) s) {t : List Test} (h : fieldT n s = some t) (v : Int) : (decide (0 ≤ v ∧ v ≤ topOf n) && t.all fun x => has (testL x) v) = has s v := by
  have htv := fieldT_TV hn hs h
  match s, hs, h with
  | [x], hs, h =>
    have h := Option.some.inj h
    subst h
    have hm := hs.mem (x := x) (List.mem_singleton.2 rfl)
    rw [has_cons, has_nil, Bool.or_false]
    split at htv
    · rename_i e
      rw [if_pos e, e]
      unfold inS
      simp
    · rename_i e
      rw [if_neg e, List.all_cons, List.all_nil, Bool.and_true, has_test (htv _ (List.mem_singleton.2 rfl))]
      simp only [Int.toNat_natCast]
      unfold inS
      rw [Bool.eq_iff_iff]
      simp only [Bool.and_eq_true, decide_eq_true_eq, Bool.bne_false]
      omega
  | [x, y], hs, h =>
    simp only [fieldT] at h
    split at h
    · rename_i e
      have h := Option.some.inj h
      subst h
      have hx := hs.mem (x := x) (by simp)
      have hy := hs.mem (x := y) (by simp)
      have hc := hs.cn.2.2.1
      rw [has_cons, has_cons, has_nil, Bool.or_false, List.all_cons, List.all_nil, Bool.and_true, has_test (htv _ (List.mem_singleton.2 rfl))]
      simp only [Int.toNat_natCast]
      unfold inS
      rw [Bool.eq_iff_iff]
      simp only [Bool.and_eq_true, Bool.or_eq_true, decide_eq_true_eq, Bool.bne_true, Bool.not_eq_true', decide_eq_false_iff_not]
      omega
    · cases h
/-- What the tests of the first k fields are. -/
structure BT (s : List (List Span)) (k : Nat) (ts : List Test) : Prop where
  len : ts.length ≤ k
  field : ∀ t ∈ ts, 0 ≤ t.Field ∧ t.Field < (k : Int)
  asc : ts.Pairwise fun a b => a.Field < b.Field
  tv : ∀ t ∈ ts, TV t
  has : ∀ j, j < k → ∀ v, (decide (0 ≤ v ∧ v ≤ topOf j) && ts.all fun t => t.Field.toNat != j || F.has (testL t) v) = F.has (sd s j) v
theorem boxT_BT {s : List (List Span)} (hs : B4 s) : ∀ {k : Nat} {ts : List Test}, k ≤ 4 → boxT s k = some ts → BT s k ts
  | 0, ts, _, h => by
    have h := Option.some.inj h
    subst h
    exact ⟨Nat.le_refl _, fun t ht => (by cases ht), .nil, fun t ht => (by cases ht), fun j hj => by omega⟩
  | k + 1, ts, hk, h => by
    obtain ⟨y, hy, h⟩ := Option.bind_eq_some_iff.1 h
    obtain ⟨t, ht, rfl⟩ := Option.map_eq_some_iff.1 h
    have b := boxT_BT hs (by omega) hy
    have hl := fieldT_len ht
    have hf := fieldT_field ht
    have hset := hs.2 k (by omega)
    refine ⟨by rw [List.length_append]; have := b.len; omega, fun x hx => ?_, ?_, fun x hx => ?_, fun j hj v => ?_⟩
    · rcases List.mem_append.1 hx with h | h
      · have := b.field x h; omega
      · rw [hf x h]; omega
    · refine List.pairwise_append.2 ⟨b.asc, ?_, fun x hx z hz => ?_⟩
      · match t, hl with
        | [], _ => exact .nil
        | [_], _ => exact List.pairwise_singleton ..
      · rw [hf z hz]; exact (b.field x hx).2
    · rcases List.mem_append.1 hx with h | h
      · exact b.tv x h
      · exact fieldT_TV (by omega) hset ht x h
    · rw [List.all_append]
      by_cases ej : j = k
      · subst ej
        have h1 : (y.all fun t => t.Field.toNat != j || F.has (testL t) v) = true := by
          rw [List.all_eq_true]; intro x hx
          have := b.field x hx
          rw [show (x.Field.toNat != j) = true from by simp; omega]; rfl
        have h2 : (t.all fun x => x.Field.toNat != j || F.has (testL x) v) = t.all fun x => F.has (testL x) v := by
          rw [Bool.eq_iff_iff]
          simp only [List.all_eq_true]
          refine ⟨fun h x hx => ?_, fun h x hx => ?_⟩
          · have := h x hx
            rw [hf x hx, Int.toNat_natCast] at this
            simpa using this
          · rw [h x hx, Bool.or_true]
        rw [h1, Bool.true_and, h2]
        exact fieldT_has (by omega) hset ht v
      · have h2 : (t.all fun x => x.Field.toNat != j || F.has (testL x) v) = true := by
          rw [List.all_eq_true]; intro x hx
          rw [hf x hx, Int.toNat_natCast, show (k != j) = true from by simp; omega]; rfl
        rw [h2, Bool.and_true]
        exact b.has j (by omega) v
/-- Both loops. -/
theorem boxT_loop {s : List (List Span)} {body : List Test × Int → Option (SR (List Test × Int) (List Test × Bool))}
    (hb : ∀ (y : List Test) (k : Nat), k < 4 → y.length ≤ 10 → body (y, (k : Int)) = match fieldT k (sd s k) with | some t => some (.nxt (y ++ t, ((k + 1 : Nat) : Int))) | none => some (.ret ([], false)))
    (he : ∀ y, body (y, 4) = some (.brk (y, 4))) : loopF body 5 ([], 0) = match boxT s 4 with | some ts => some (.brk (ts, 4)) | none => some (.ret ([], false)) := by
  suffices key : ∀ (j k : Nat) (ts : List Test), k + j = 4 → boxT s k = some ts → ts.length ≤ k → loopF body (j + 1) (ts, (k : Int)) = match boxT s 4 with | some ts => some (.brk (ts, 4)) | none => some (.ret ([], false)) from key 4 0 [] rfl rfl (Nat.le_refl _)
  have none_up : ∀ (j k : Nat), k + j = 4 → boxT s k = none → boxT s 4 = none := by
    intro j
    induction j with
    | zero => intro k hk h; rw [show k = 4 by omega] at h; exact h
    | succ j ih => intro k hk h; exact ih (k + 1) (by omega) (by show (boxT s k).bind _ = none; rw [h]; rfl)
  intro j
  induction j with
  | zero =>
    intro k ts hk h _
    have hk : k = 4 := by omega
    subst hk
    unfold loopF
    rw [h]
    have := he ts
    rw [show (((4 : Nat) : Int)) = 4 from rfl, this]; rfl
  | succ j ih =>
    intro k ts hk h hl
    have hsucc : boxT s (k + 1) = (fieldT k (sd s k)).map fun t => ts ++ t := by
      show (boxT s k).bind _ = _
      rw [h]; rfl
    unfold loopF
    rw [hb ts k (by omega) (by omega)]
    cases hf : fieldT k (sd s k) with
    | none =>
      rw [hf] at hsucc
      rw [none_up j (k + 1) (by omega) hsucc]; rfl
    | some t =>
      rw [hf] at hsucc
      have := fieldT_len hf
      exact ih (k + 1) (ts ++ t) (by omega) hsucc (by rw [List.length_append]; omega)
theorem shapes_top {k : Nat} (hk : k < 4) : ∃ x, idx shapes (k : Int) = some x ∧ x.top = topOf k := by
  match k, hk with
  | 0, _ => exact ⟨_, rfl, rfl⟩
  | 1, _ => exact ⟨_, rfl, rfl⟩
  | 2, _ => exact ⟨_, rfl, rfl⟩
  | 3, _ => exact ⟨_, rfl, rfl⟩
theorem boxtests_is {b : Box} (hb : OkBox b) : ∃ r : List Test × Bool, spec_BoxTests b = some r ∧ impl_BoxTests b = some r ∧ ((r = ([], false)) ∨ (BV b ∧ r.2 = true ∧ boxT b.Sides 4 = some r.1)) := by
  obtain ⟨v, e1, e2, hv⟩ := (spec_box hb).same (impl_box hb)
  unfold spec_BoxTests impl_BoxTests
  rw [e1, e2, Option.bind_some, Option.bind_some]
  cases v with
  | false => exact ⟨_, rfl, rfl, .inl rfl⟩
  | true =>
    have hbv := hv.1 rfl
    have h4 := (BV_iff.1 hbv).1
    obtain ⟨q, e3, e4, hq⟩ := (spec_emp h4).same (impl_emp h4.1)
    rw [cond_true, cond_true, e3, impl_sides h4.1, Option.bind_some, Option.bind_some, e4, Option.bind_some]
    cases q with
    | true => exact ⟨_, rfl, rfl, .inl rfl⟩
    | false =>
      rw [cond_false, cond_false]
      have ls : loopF (spec_BoxTests_L0 b) 5 ([], 0) = match boxT b.Sides 4 with | some ts => some (.brk (ts, 4)) | none => some (.ret ([], false)) := by
        refine boxT_loop (fun y k hk hy => ?_) (fun y => rfl)
        have hs0 := h4.2 k hk
        unfold spec_BoxTests_L0
        simp only [lt_true (show (k : Int) < 4 by omega), cond_true, sd_idx h4.1 hk, Option.bind_some, spec_top, W_succ (show k < 9223372036854775807 by omega)]
        match hsd : sd b.Sides k, hs0 with
        | [], _ => rfl
        | [x], _ =>
          simp only [List.length_cons, List.length_nil, fieldT]
          show (bif decide (x = ({ Lo := 0, Hi := topOf k } : Span)) then _ else _) = _
          by_cases e : x = ⟨0, topOf k⟩
          · rw [decide_eq_true e, if_pos e, List.append_nil]; rfl
          · rw [decide_eq_false e, if_neg e, cond_false, app_ok (by simp; omega)]; rfl
        | [x, z], hs0 =>
          have hx := hs0.mem (x := x) (by simp)
          have hz := hs0.mem (x := z) (by simp)
          have ht := hs0.t1
          simp only [List.length_cons, List.length_nil, fieldT]
          show (bif (x.Lo == 0) then (bif (z.Hi == topOf k) then _ else _) else _) = _
          by_cases ex : x.Lo = 0
          · rw [(by simp [ex] : (x.Lo == 0) = true), cond_true]
            by_cases ez : z.Hi = topOf k
            · rw [(by simp [ez] : (z.Hi == topOf k) = true), cond_true, if_pos ⟨ex, ez⟩, app_ok (by simp; omega), W_of (by omega) (by omega), W_of (by omega) (by omega)]; rfl
            · rw [(by simp [ez] : (z.Hi == topOf k) = false), cond_false, if_neg fun h => ez h.2]
          · rw [(by simp [ex] : (x.Lo == 0) = false), cond_false, if_neg fun h => ex h.1]
        | x :: z :: w :: t, _ =>
          have l1 : ((((x :: z :: w :: t).length : Nat) : Int) == 1) = false := by simp; omega
          have l2 : ((((x :: z :: w :: t).length : Nat) : Int) == 2) = false := by simp; omega
          rw [l1, cond_false, l2, cond_false]; rfl
      have li : loopF (impl_BoxTests_L0 b) 5 ([], 0) = match boxT b.Sides 4 with | some ts => some (.brk (ts, 4)) | none => some (.ret ([], false)) := by
        refine boxT_loop (fun y k hk hy => ?_) (fun y => by unfold impl_BoxTests_L0; rw [h4.1]; rfl)
        have hs0 := h4.2 k hk
        obtain ⟨sh, esh, htop⟩ := shapes_top hk
        have hlen : (b.Sides.length : Int) = 4 := by rw [h4.1]; rfl
        unfold impl_BoxTests_L0
        simp only [hlen, lt_true (show (k : Int) < 4 by omega), cond_true, sd_idx h4.1 hk, Option.bind_some, esh, htop, W_succ (show k < 9223372036854775807 by omega)]
        match hsd : sd b.Sides k, hs0 with
        | [], _ => rfl
        | [x], _ =>
          simp only [List.length_cons, List.length_nil, fieldT]
          show (bif decide (x = ({ Lo := 0, Hi := topOf k } : Span)) then _ else _) = _
          by_cases e : x = ⟨0, topOf k⟩
          · rw [decide_eq_true e, if_pos e, List.append_nil]; rfl
          · rw [decide_eq_false e, if_neg e, cond_false, app_ok (by simp; omega)]; rfl
        | [x, z], hs0 =>
          have hx := hs0.mem (x := x) (by simp)
          have hz := hs0.mem (x := z) (by simp)
          have ht := hs0.t1
          simp only [List.length_cons, List.length_nil, fieldT]
          show (bif (x.Lo == 0) then (bif (z.Hi == topOf k) then _ else _) else _) = _
          by_cases ex : x.Lo = 0
          · rw [(by simp [ex] : (x.Lo == 0) = true), cond_true]
            by_cases ez : z.Hi = topOf k
            · rw [(by simp [ez] : (z.Hi == topOf k) = true), cond_true, if_pos ⟨ex, ez⟩, app_ok (by simp; omega), W_of (by omega) (by omega), W_of (by omega) (by omega)]; rfl
            · rw [(by simp [ez] : (z.Hi == topOf k) = false), cond_false, if_neg fun h => ez h.2]
          · rw [(by simp [ex] : (x.Lo == 0) = false), cond_false, if_neg fun h => ex h.1]
        | x :: z :: w :: t, _ =>
          have l1 : ((((x :: z :: w :: t).length : Nat) : Int) == 1) = false := by simp; omega
          have l2 : ((((x :: z :: w :: t).length : Nat) : Int) == 2) = false := by simp; omega
          rw [l1, cond_false, l2, cond_false]; rfl
      have hfs : (((4 : Int)) - 0).toNat.succ = 5 := rfl
      have hfi : ((((b.Sides.length : Int)) - 0).toNat.succ) = 5 := by rw [h4.1]; rfl
      rw [hfs, hfi, ls, li]
      cases hbt : boxT b.Sides 4 with
      | none => exact ⟨_, rfl, rfl, .inl rfl⟩
      | some ts => exact ⟨(ts, true), rfl, rfl, .inr ⟨hbv, rfl, rfl⟩⟩
theorem draw_boxtests {code : List Int} (h : GAll GU8 code) : ∃ b : Box, spec_DrawBoxTests code = some b ∧ OkB b := by
  obtain ⟨xs, e0, hx⟩ := open_ok h
  obtain ⟨b, p, e, hb, _⟩ := dr_box hx 0 9 (by decide) (by decide)
  refine ⟨b, ?_, hb.1⟩
  unfold spec_DrawBoxTests
  rw [e0, Option.bind_some]
  simp only [e, Option.bind_some]
theorem plain_FnBoxTests (code : List Int) (g : GAll GU8 code) : laws_FnBoxTests code = some true := by
  unfold laws_FnBoxTests
  refine draw_guard fun _ => ?_
  obtain ⟨b, e, hb⟩ := draw_boxtests g
  obtain ⟨r, e1, e2, hr⟩ := boxtests_is hb.ok
  rw [e]
  simp only [Option.bind_some, e1, e2, bne_self_eq_false, cond_false, alive_is]
  rcases hr with rfl | ⟨hbv, hok, hbt⟩
  · rfl
  · obtain ⟨ts, ok⟩ := r
    simp only at hok hbt
    subst hok
    have h4 := (BV_iff.1 hbv).1
    have hB := boxT_BT h4 (Nat.le_refl _) hbt
    have hlen := hB.len
    have eo : loopF (laws_FnBoxTests_L0 (ts, true) (ts, true)) ((((ts.length : Int)) - 0).toNat.succ) 0 = some (.brk (ts.length : Int)) := by
      refine loop_brk0 (body := laws_FnBoxTests_L0 (ts, true) (ts, true)) ts.length (fun k : Nat => (k : Int)) rfl (fun k hk => ?_) ?_ (by omega)
      · unfold laws_FnBoxTests_L0
        simp only [lt_true (show (k : Int) < (ts.length : Int) by omega), cond_true, idx_get hk, Option.bind_some, decide_true, Bool.not_true, cond_false, W_succ (show k < 9223372036854775807 by omega)]
        by_cases h0 : k = 0
        · subst h0; rfl
        · obtain ⟨j, rfl⟩ : ∃ j, k = j + 1 := ⟨k - 1, by omega⟩
          rw [lt_true (show (0 : Int) < ((j + 1 : Nat) : Int) by omega), cond_true, W_of (by omega) (by omega), show ((j + 1 : Nat) : Int) - 1 = (j : Int) by omega, idx_get (show j < ts.length by omega), Option.bind_some]
          have := List.pairwise_iff_getElem.1 hB.asc j (j + 1) (by omega) hk (by omega)
          rw [decide_eq_false (by omega : ¬ (ts[j + 1].Field ≤ ts[j].Field))]; rfl
      · unfold laws_FnBoxTests_L0
        simp only [lt_false (Int.le_refl _), cond_false]
    simp only [eo, LR.on, Option.bind_some, cond_true]
    obtain ⟨x, ex, _, hx, h1, _⟩ := tb (ts := ts) (by omega)
    have hv : TsV ts := ⟨hB.tv, by omega⟩
    rw [ex, Option.bind_some, same_box x b hx, Option.bind_some, h1 hv]
    have : testsS ts = b.Sides := (testsS_B4 hB.tv).ext h4 fun k hk v => by
      rw [has_testsS hB.tv hk]; exact hB.has k hk v
    rw [this]; simp
end Go.PF.F
