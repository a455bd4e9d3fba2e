/- Plain laws: the program's sweeps along two sets. -/
import Derived.Test.YtbnndochnkkllaaDoorPlH
namespace Go.PF.F
open Go Go.PF

def swL (a : List Span) (at_ : Int) : Int × (List Span) → Option (SR (Int × (List Span)) ((List Span))) := fun (k6, y4) =>
  bif (decide (k6 < (a.length : Int))) then
  (idx a k6).bind fun x2 =>
  bif (decide (x2.Hi < at_)) then
  some (.nxt ((W (k6 + 1)), y4))
  else
  some (.brk (k6, y4))
  else
  some (.brk (k6, y4))
def swB (keep : Bool → Bool → Option Bool) (a b : List Span) (top : Int) : (List Span) × Int × Int × Int → Option (SR ((List Span) × Int × Int × Int) ((List Span))) := fun (y1, k1, k2, k3) =>
  bif (decide (k3 ≤ top)) then
  (loopF (swL a k3) ((((a.length : Int)) : Int) - k1).toNat.succ (k1, y1)).bind fun lr => lr.on (fun (k5, y3) =>
  (loopF (swL b k3) ((((b.length : Int)) : Int) - k2).toNat.succ (k2, y3)).bind fun lr => lr.on (fun (k7, y5) =>
  (dropF a k5).bind fun y6 =>
  (impl_stretch y6 k3 top).bind fun x3 =>
  (dropF b k7).bind fun y7 =>
  (impl_stretch y7 k3 top).bind fun x4 =>
  (keep x3.1 x4.1).bind fun x5 =>
  bif x5 then
  bif (decide (0 < (y5.length : Int))) then
  (idx y5 (W ((y5.length : Int) - 1))).bind fun x6 =>
  bif ((W (x6.Hi + 1)) == k3) then
  some (.nxt ((List.set y5 ((W ((y5.length : Int) - 1)) : Int).toNat { x6 with Hi := (imin x3.2 x4.2) }), k5, k7, (W ((imin x3.2 x4.2) + 1))))
  else
  (appF y5 [({ Lo := k3, Hi := (imin x3.2 x4.2) } : Span)]).bind fun z1 =>
  some (.nxt (z1, k5, k7, (W ((imin x3.2 x4.2) + 1))))
  else
  (appF y5 [({ Lo := k3, Hi := (imin x3.2 x4.2) } : Span)]).bind fun z2 =>
  some (.nxt (z2, k5, k7, (W ((imin x3.2 x4.2) + 1))))
  else
  some (.nxt (y5, k5, k7, (W ((imin x3.2 x4.2) + 1))))) (fun r => some (.ret r))) (fun r => some (.ret r))
  else
  some (.brk (y1, k1, k2, k3))
def sweepG (keep : Bool → Bool → Option Bool) (a b : List Span) (top : Int) : Option ((List Span)) :=
  (loopF (swB keep a b top) (((top) : Int) - 0 + 1).toNat.succ (([] : List Span), 0, 0, 0)).bind fun lr => lr.on (fun (y8, _, _, _) =>
  some y8) (fun r => some r)
theorem sweep_both (a b : List Span) (top : Int) : impl_sweepSpans__impl_inBoth a b top = sweepG impl_inBoth a b top := rfl
theorem sweep_first (a b : List Span) (top : Int) : impl_sweepSpans__impl_inFirstOnly a b top = sweepG impl_inFirstOnly a b top := rfl

theorem snoc_cases {α : Type} (xs : List α) : xs = [] ∨ ∃ ys x, xs = ys ++ [x] := by
  rcases List.eq_nil_or_concat xs with h | ⟨ys, x, h⟩
  · exact .inl h
  · exact .inr ⟨ys, x, by simpa using h⟩
theorem cn_snoc {lo : Int} {ys : List Span} {z : Span} (h : Cn lo ys) (hg : ∀ y ∈ ys, y.Hi + 2 ≤ z.Lo) (h0 : lo ≤ z.Lo) (h1 : z.Lo ≤ z.Hi) : Cn lo (ys ++ [z]) :=
  cn_app h hg h0 ⟨Int.le_refl _, h1, trivial⟩
theorem stretch_at {a p q : List Span} {top at_ : Int} (ha : Set0 top a) (e : a = p ++ q) (hp : ∀ x ∈ p, x.Hi < at_) (hq : ∀ x, q.head? = some x → at_ ≤ x.Hi) (_h0 : 0 ≤ at_) (h1 : at_ ≤ top) :
    ∃ f e', impl_stretch q at_ top = some (f, e') ∧ at_ ≤ e' ∧ e' ≤ top ∧ ∀ v, at_ ≤ v → v ≤ e' → has a v = f := by
  have hpv : ∀ v, at_ ≤ v → has a v = has q v := by
    intro v hv
    rw [e, has_app]
    have : has p v = false := by
      rw [Bool.eq_false_iff]
      intro hh
      obtain ⟨x, hx, _, h2⟩ := has_iff.1 hh
      have := hp x hx
      omega
    rw [this]; rfl
  cases q with
  | nil => exact ⟨false, top, rfl, h1, Int.le_refl _, fun v hv _ => by rw [hpv v hv]; rfl⟩
  | cons x t =>
    have hm := ha.mem (x := x) (by rw [e]; simp)
    have hx := hq x rfl
    have hc : Cn 0 (x :: t) := cn_right (e ▸ ha.cn)
    have ht1 := ha.t1
    unfold impl_stretch
    rw [show (((x :: t).length : Int) == 0) = false from by simp; omega, cond_false, show idx (x :: t) 0 = some x from rfl, Option.bind_some]
    by_cases hl : at_ < x.Lo
    · rw [lt_true hl, cond_true, W_of (by omega) (by omega)]
      refine ⟨false, _, rfl, by omega, by omega, fun v hv hv2 => ?_⟩
      rw [hpv v hv, Bool.eq_false_iff]
      intro hh
      have := cn_has (lo := x.Lo) (xs := x :: t) ⟨Int.le_refl _, hc.2⟩ hh
      omega
    · rw [decide_eq_false hl, cond_false]
      refine ⟨true, _, rfl, hx, hm.2.2, fun v hv hv2 => ?_⟩
      rw [hpv v hv, has_cons, inS_iff.2 ⟨by omega, hv2⟩]; rfl
theorem skip_at {a : List Span} {at_ : Int} (hl : a.length ≤ 40000) {i : Nat} (hi : i ≤ a.length) (hp : ∀ x ∈ a.take i, x.Hi < at_) (y : List Span) :
    ∃ j : Nat, loopF (swL a at_) ((((a.length : Int)) : Int) - (i : Int)).toNat.succ ((i : Int), y) = some (.brk ((j : Int), y)) ∧ j ≤ a.length ∧ (∀ x ∈ a.take j, x.Hi < at_) ∧ ∀ x, (a.drop j).head? = some x → at_ ≤ x.Hi := by
  obtain ⟨o, ho, j, rfl, hj⟩ := loop_wf (body := swL a at_) (fun s => ∃ k : Nat, s = ((k : Int), y) ∧ k ≤ a.length ∧ ∀ x ∈ a.take k, x.Hi < at_) (fun s => a.length - s.1.toNat)
    (fun o => ∃ j : Nat, o = .brk ((j : Int), y) ∧ j ≤ a.length ∧ (∀ x ∈ a.take j, x.Hi < at_) ∧ ∀ x, (a.drop j).head? = some x → at_ ≤ x.Hi)
    (fun s ⟨k, h1, h2, h3⟩ => by
      subst h1
      rcases drop_cases a k h2 with ⟨e, rfl⟩ | ⟨x, t, e, hk, hx, et⟩
      · refine .inr (.inl ⟨_, ?_, _, rfl, h2, h3, fun x hx => by rw [e] at hx; cases hx⟩)
        unfold swL
        simp only [lt_false (Int.le_refl _), cond_false]
      · by_cases hc : x.Hi < at_
        · refine .inl ⟨(((k + 1 : Nat) : Int), y), ?_, ⟨k + 1, rfl, hk, fun z hz => ?_⟩, by simp; omega⟩
          · unfold swL
            simp only [lt_true (show (k : Int) < (a.length : Int) by omega), cond_true, hx, Option.bind_some, lt_true hc, W_succ (show k < 9223372036854775807 by omega)]
          · rw [take_snoc (x := x) (by rw [idx_nat] at hx; exact hx)] at hz
            rcases List.mem_append.1 hz with hz | hz
            · exact h3 z hz
            · rw [List.mem_singleton.1 hz]; exact hc
        · refine .inr (.inl ⟨_, ?_, k, rfl, h2, h3, fun z hz => ?_⟩)
          · unfold swL
            simp only [lt_true (show (k : Int) < (a.length : Int) by omega), cond_true, hx, Option.bind_some, decide_eq_false hc, cond_false]
          · rw [e] at hz
            simp only [List.head?_cons, Option.some.injEq] at hz
            subst hz; omega)
    ((((a.length : Int)) : Int) - (i : Int)).toNat.succ ((i : Int), y) ⟨i, rfl, hi, hp⟩ (by simp only [Int.toNat_natCast]; omega)
  exact ⟨j, ho, hj⟩
theorem sweep_is {keep : Bool → Bool → Option Bool} {kp : Bool → Bool → Bool} (hk : ∀ p q, keep p q = some (kp p q)) {a b : List Span} {top : Int} (ha : Set0 top a) (hb : Set0 top b) :
    ∃ out, sweepG keep a b top = some out ∧ Set0 top out ∧ ∀ v, has out v = (decide (0 ≤ v ∧ v ≤ top) && kp (has a v) (has b v)) := by
  have ht0 := ha.t0
  have ht1 := ha.t1
  have hal := ha.len
  have hbl := hb.len
  unfold sweepG
  obtain ⟨o, ho, hq⟩ := loop_wf (body := swB keep a b top)
    (fun s => ∃ i j : Nat, s.2.1 = (i : Int) ∧ s.2.2.1 = (j : Int) ∧ i ≤ a.length ∧ j ≤ b.length ∧ (∀ x ∈ a.take i, x.Hi < s.2.2.2) ∧ (∀ x ∈ b.take j, x.Hi < s.2.2.2) ∧ 0 ≤ s.2.2.2 ∧ s.2.2.2 ≤ top + 1 ∧ Cn 0 s.1 ∧ (∀ x ∈ s.1, x.Hi < s.2.2.2) ∧
      ∀ v, has s.1 v = (decide (0 ≤ v ∧ v < s.2.2.2) && kp (has a v) (has b v)))
    (fun s => (top + 1 - s.2.2.2).toNat)
    (fun o => ∃ s : List Span × Int × Int × Int, o = .brk s ∧ Cn 0 s.1 ∧ (∀ x ∈ s.1, x.Hi < top + 1) ∧ ∀ v, has s.1 v = (decide (0 ≤ v ∧ v < top + 1) && kp (has a v) (has b v)))
    (fun s ⟨i, j, e1, e2, hi, hj, hpa, hpb, h0, h1, hcn, hup, hhas⟩ => by
      obtain ⟨y, i', j', at_⟩ := s
      simp only at e1 e2 hpa hpb h0 h1 hcn hup hhas
      subst e1; subst e2
      by_cases hat : at_ ≤ top
      · obtain ⟨i2, hl1, hi2, hpa2, hqa⟩ := skip_at (by omega) hi hpa y
        obtain ⟨j2, hl2, hj2, hpb2, hqb⟩ := skip_at (by omega) hj hpb y
        obtain ⟨f1, n1, hs1, hn1, hn1', hf1⟩ := stretch_at ha (List.take_append_drop i2 a).symm hpa2 hqa h0 hat
        obtain ⟨f2, n2, hs2, hn2, hn2', hf2⟩ := stretch_at hb (List.take_append_drop j2 b).symm hpb2 hqb h0 hat
        have hd1 : dropF a (i2 : Int) = some (a.drop i2) := by unfold dropF; rw [if_pos ⟨by omega, by omega⟩]; rfl
        have hd2 : dropF b (j2 : Int) = some (b.drop j2) := by unfold dropF; rw [if_pos ⟨by omega, by omega⟩]; rfl
        have hen : at_ ≤ imin n1 n2 := le_imin.2 ⟨hn1, hn2⟩
        have hen2 : imin n1 n2 ≤ top := imin_le.2 (.inl hn1')
        have hv1 : imin n1 n2 ≤ n1 := imin_le.2 (.inl (Int.le_refl _))
        have hv2 : imin n1 n2 ≤ n2 := imin_le.2 (.inr (Int.le_refl _))
        generalize hE : imin n1 n2 = en at hen hen2 hv1 hv2
        have hW : W (en + 1) = en + 1 := W_of (by omega) (by omega)
        have hyl : y.length ≤ 32768 := cn_len' hcn (fun x hx => by have := hup x hx; omega) ht0 ht1
        have fin : ∀ y', swB keep a b top (y, (i : Int), (j : Int), at_) = some (.nxt (y', (i2 : Int), (j2 : Int), en + 1)) → Cn 0 y' → (∀ x ∈ y', x.Hi < en + 1) → (∀ v, has y' v = (has y v || (kp f1 f2 && decide (at_ ≤ v ∧ v ≤ en)))) →
            (∃ s', swB keep a b top (y, (i : Int), (j : Int), at_) = some (.nxt s') ∧ (∃ i j : Nat, s'.2.1 = (i : Int) ∧ s'.2.2.1 = (j : Int) ∧ i ≤ a.length ∧ j ≤ b.length ∧ (∀ x ∈ a.take i, x.Hi < s'.2.2.2) ∧ (∀ x ∈ b.take j, x.Hi < s'.2.2.2) ∧ 0 ≤ s'.2.2.2 ∧ s'.2.2.2 ≤ top + 1 ∧ Cn 0 s'.1 ∧ (∀ x ∈ s'.1, x.Hi < s'.2.2.2) ∧
              ∀ v, has s'.1 v = (decide (0 ≤ v ∧ v < s'.2.2.2) && kp (has a v) (has b v))) ∧ (top + 1 - s'.2.2.2).toNat < (top + 1 - at_).toNat) := by
          intro y' hb' hc' hu' hh'
          refine ⟨_, hb', ⟨i2, j2, rfl, rfl, hi2, hj2, fun x hx => by have := hpa2 x hx; simp only; omega, fun x hx => by have := hpb2 x hx; simp only; omega, by simp only; omega, by simp only; omega, hc', hu', fun v => ?_⟩, by simp only; omega⟩
          simp only
          rw [hh', hhas]
          by_cases hv : at_ ≤ v ∧ v ≤ en
          · rw [hf1 v hv.1 (by omega), hf2 v hv.1 (by omega), decide_eq_true hv, decide_eq_false (show ¬ (0 ≤ v ∧ v < at_) by omega), decide_eq_true (show 0 ≤ v ∧ v < en + 1 by omega)]
            simp
          · rw [decide_eq_false hv]
            have : decide (0 ≤ v ∧ v < en + 1) = decide (0 ≤ v ∧ v < at_) := by
              rw [decide_eq_decide]; omega
            rw [this]; simp
        refine .inl ?_
        cases hc : kp f1 f2 with
        | false =>
          refine fin y ?_ hcn (fun x hx => by have := hup x hx; omega) (fun v => by rw [hc]; simp)
          unfold swB
          simp only [le_true hat, cond_true, hl1, Option.bind_some, LR.on, hl2, hd1, hs1, hd2, hs2, hk, hc, cond_false, hE, hW]
        | true =>
          rcases snoc_cases y with rfl | ⟨ys, x, rfl⟩
          · refine fin [⟨at_, en⟩] ?_ ⟨h0, hen, trivial⟩ (fun x hx => by rw [List.mem_singleton.1 hx]; simp only; omega) (fun v => by rw [hc, has_cons, has_nil]; simp [inS])
            unfold swB
            simp only [le_true hat, cond_true, hl1, Option.bind_some, LR.on, hl2, hd1, hs1, hd2, hs2, hk, hc, hE, hW, List.length_nil, Int.natCast_zero, lt_false (Int.le_refl 0), cond_false, app_nil (show [(⟨at_, en⟩ : Span)].length ≤ 4294967296 by simp)]
          · have hlen : (ys ++ [x]).length = ys.length + 1 := by simp
            rw [hlen] at hyl
            have hn : W (((ys ++ [x]).length : Int) - 1) = (ys.length : Int) := by rw [hlen, W_of (by omega) (by omega)]; omega
            have hid : idx (ys ++ [x]) (ys.length : Int) = some x := by rw [idx_nat]; simp
            have hx1 := hup x (by simp)
            have hx0 := cn_lo hcn x (by simp)
            have hWx : W (x.Hi + 1) = x.Hi + 1 := W_of (by omega) (by omega)
            have hgap : ∀ z ∈ ys, z.Hi + 2 ≤ x.Lo := fun z hz => cn_gap hcn z hz x (by simp)
            by_cases hj : x.Hi + 1 = at_
            · refine fin (ys ++ [⟨x.Lo, en⟩]) ?_ (cn_snoc (cn_left hcn) hgap hx0.1 (by simp only; omega)) (fun z hz => ?_) (fun v => ?_)
              · unfold swB
                have hset : List.set (ys ++ [x]) ys.length ({ x with Hi := en } : Span) = ys ++ [⟨x.Lo, en⟩] := by simp
                simp only [le_true hat, cond_true, hl1, Option.bind_some, LR.on, hl2, hd1, hs1, hd2, hs2, hk, hc, hE, hW, lt_true (show (0 : Int) < ((ys ++ [x]).length : Int) by rw [hlen]; omega), hn, hid, hWx.trans hj, beq_self_eq_true, Int.toNat_natCast, hset]
              · rcases List.mem_append.1 hz with hz | hz
                · have := hup z (by simp [hz]); omega
                · rw [List.mem_singleton.1 hz]; simp only; omega
              · rw [hc, has_app, has_app, has_cons, has_cons, has_nil, Bool.or_false, Bool.or_false, Bool.or_assoc, Bool.true_and]
                congr 1
                rw [Bool.eq_iff_iff]
                simp only [Bool.or_eq_true, inS_iff, decide_eq_true_eq]
                omega
            · refine fin ((ys ++ [x]) ++ [⟨at_, en⟩]) ?_ (cn_snoc hcn (fun z hz => ?_) h0 hen) (fun z hz => ?_) (fun v => ?_)
              · unfold swB
                simp only [le_true hat, cond_true, hl1, Option.bind_some, LR.on, hl2, hd1, hs1, hd2, hs2, hk, hc, hE, hW, lt_true (show (0 : Int) < ((ys ++ [x]).length : Int) by rw [hlen]; omega), hn, hid, hWx, beq_eq_false_iff_ne.2 hj, cond_false, app_ok (show (ys ++ [x]).length + [(⟨at_, en⟩ : Span)].length ≤ 4294967296 by rw [hlen]; simp; omega)]
              · rcases List.mem_append.1 hz with hz | hz
                · have := hgap z hz; simp only; omega
                · rw [List.mem_singleton.1 hz]; simp only; omega
              · rcases List.mem_append.1 hz with hz | hz
                · have := hup z hz; omega
                · rw [List.mem_singleton.1 hz]; simp only; omega
              · rw [hc, has_app (ys ++ [x]), has_cons, has_nil, Bool.or_false, Bool.true_and]; rfl
      · refine .inr (.inl ⟨(y, (i : Int), (j : Int), at_), ?_, (y, (i : Int), (j : Int), at_), rfl, hcn, ?_, ?_⟩)
        · unfold swB
          simp only [decide_eq_false hat, cond_false]
        · intro x hx; have := hup x hx; omega
        · intro v
          rw [hhas]
          have : at_ = top + 1 := by omega
          rw [this])
    (((top) : Int) - 0 + 1).toNat.succ (([] : List Span), 0, 0, 0) ⟨0, 0, rfl, rfl, Nat.zero_le _, Nat.zero_le _, by simp, by simp, by simp, by simp only; omega, trivial, by simp, fun v => by
      rw [has_nil, decide_eq_false (by simp only; omega)]; rfl⟩ (by simp only; omega)
  rw [ho]
  obtain ⟨⟨y, i, j, at_⟩, rfl, hcn, hup, hh⟩ := hq
  refine ⟨y, rfl, ⟨ht0, ht1, hcn, fun x hx => by have := hup x hx; omega⟩, fun v => ?_⟩
  rw [hh]
  congr 1
  rw [decide_eq_decide]; omega
theorem impl_sweep_both {a b : List Span} {top : Int} (ha : Set0 top a) (hb : Set0 top b) : impl_sweepSpans__impl_inBoth a b top = some (meetL a b) := by
  rw [sweep_both]
  obtain ⟨out, e, ho, hh⟩ := sweep_is (keep := impl_inBoth) (kp := fun p q => p && q) (fun p q => by cases p <;> rfl) ha hb
  rw [e, ho.ext (ha.meet hb) fun v => by
    rw [hh, has_meetL]
    cases h : has a v with
    | false => simp
    | true => have := ha.bound h; rw [decide_eq_true this]; simp]
theorem impl_sweep_first {a b : List Span} {top : Int} (ha : Set0 top a) (hb : Set0 top b) : impl_sweepSpans__impl_inFirstOnly a b top = some (lessL top a b) := by
  rw [sweep_first]
  obtain ⟨out, e, ho, hh⟩ := sweep_is (keep := impl_inFirstOnly) (kp := fun p q => p && !q) (fun p q => by cases p <;> rfl) ha hb
  rw [e, ho.ext (ha.less hb) fun v => by
    rw [hh, has_less ha hb]
    cases h : has a v with
    | false => simp
    | true => have := ha.bound h; rw [decide_eq_true this]; simp]
theorem impl_meet {a b : List Span} {top : Int} (ha : Set0 top a) (hb : Set0 top b) : impl_meetSpans a b top = some (if (meetL a b).length ≤ 40 then (meetL a b, true) else ([], false)) := by
  unfold impl_meetSpans
  rw [impl_sweep_both ha hb, Option.bind_some]
  unfold impl_limitSpans
  by_cases h : (meetL a b).length ≤ 40
  · rw [if_pos h, lt_false (by omega)]; rfl
  · rw [if_neg h, lt_true (by omega)]; rfl
theorem impl_less {a b : List Span} {top : Int} (ha : Set0 top a) (hb : Set0 top b) : impl_lessSpans a b top = some (if (lessL top a b).length ≤ 40 then (lessL top a b, true) else ([], false)) := by
  unfold impl_lessSpans
  rw [impl_sweep_first ha hb, Option.bind_some]
  unfold impl_limitSpans
  by_cases h : (lessL top a b).length ≤ 40
  · rw [if_pos h, lt_false (by omega)]; rfl
  · rw [if_neg h, lt_true (by omega)]; rfl
end Go.PF.F
