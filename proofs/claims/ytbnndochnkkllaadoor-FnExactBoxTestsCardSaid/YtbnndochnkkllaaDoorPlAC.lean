/- Plain laws: draws of rulesets. -/
import Derived.Test.YtbnndochnkkllaaDoorPlAB
import Derived.Test.YtbnndochnkkllaaDoorPlM
namespace Go.PF.F
open Go Go.PF

/-- A ruleset of a draw. -/
def RsSm (s : Ruleset) : Prop := s.Chains.length ≤ 3 ∧ ∀ rs ∈ s.Chains, rs.length ≤ 11 ∧ ∀ r ∈ rs, r.Tests.length ≤ 7
theorem RsSm.ok {s : Ruleset} (h : RsSm s) : OkRs s := ⟨by have := h.1; omega, fun rs hrs => ⟨by have := (h.2 rs hrs).1; omega, fun r hr => by have := (h.2 rs hrs).2 r hr; omega⟩⟩
theorem RulesSm.w {rs : List Rule} (h : RulesSm rs) : rs.length ≤ 11 ∧ ∀ r ∈ rs, r.Tests.length ≤ 7 := ⟨by have := h.1; omega, h.2⟩
/-- A loop of draws that counts up. -/
theorem draw_upto {β ρ : Type} {gen : Int → Int → Option (β × Int)} {body : Int × Int × List β → Option (SR (Int × Int × List β) ρ)} {c : Int} {m : Nat} {Q : β → Prop} (hc : 0 ≤ c) (hm : m ≤ 1000) (hg : ∀ (k : Nat) p, k < m → Dr (gen (k : Int) p) p c Q)
    (hb : ∀ k p y, body (k, p, y) = bif (decide (k < (m : Int))) then (gen k p).bind fun x => (appF y [x.1]).bind fun z => some (.nxt (W (k + 1), x.2, z)) else some (.brk (k, p, y))) :
    ∀ (j k : Nat) (y : List β) (p : Int), k + j = m → y.length + j ≤ 1000000 → (∀ x ∈ y, Q x) → 0 ≤ p → p + j * c ≤ 1000000 →
      ∃ y' p', loopF body j.succ ((k : Int), p, y) = some (.brk ((m : Int), p', y')) ∧ (∀ x ∈ y', Q x) ∧ y'.length = y.length + j ∧ p ≤ p' ∧ p' ≤ p + j * c := by
  intro j
  induction j with
  | zero =>
    intro k y p hk _ hq h0 _
    have hkm : k = m := by omega
    subst hkm
    refine ⟨y, p, ?_, hq, rfl, Int.le_refl _, by omega⟩
    unfold loopF
    rw [hb, lt_false (by omega)]; rfl
  | succ j ih =>
    intro k y p hk hl hq h0 h1
    have e : ((j + 1 : Nat) : Int) * c = j * c + c := by rw [Int.natCast_add, Int.add_mul]; omega
    rw [e] at h1 ⊢
    have hnc : 0 ≤ (j : Int) * c := Int.mul_nonneg (by omega) hc
    obtain ⟨x, p1, ex, hx, l, u⟩ := hg k p (by omega) h0 (by omega)
    obtain ⟨y', p', e', hq', hl', l', u'⟩ := ih (k + 1) (y ++ [x]) p1 (by omega) (by simp; omega) (fun z hz => by
      rcases List.mem_append.1 hz with hz | hz
      · exact hq z hz
      · rw [List.mem_singleton.1 hz]; exact hx) (by omega) (by omega)
    refine ⟨y', p', ?_, hq', by rw [hl']; simp; omega, by omega, by omega⟩
    unfold loopF
    rw [hb, lt_true (by omega), cond_true, ex, Option.bind_some, app_ok (by simp; omega), Option.bind_some, W_succ (by omega)]
    exact e'
theorem set_sm {y : List (List Rule)} (hy : ∀ rs ∈ y, rs.length ≤ 11 ∧ ∀ r ∈ rs, r.Tests.length ≤ 7) {z : List Rule} (hz : z.length ≤ 11 ∧ ∀ r ∈ z, r.Tests.length ≤ 7) (i : Nat) : ∀ rs ∈ y.set i z, rs.length ≤ 11 ∧ ∀ r ∈ rs, r.Tests.length ≤ 7 := fun rs hrs => by
  rcases List.mem_or_eq_of_mem_set hrs with h | rfl
  · exact hy rs h
  · exact hz
theorem dr_ruleset {xs : List Int} (hx : Bytes xs) (pos n : Int) : Dr (spec_l20Ruleset xs pos n) pos 5700 RsSm := by
  unfold spec_l20Ruleset
  refine Dr.bind (Dr.pick hx (by decide)) (by decide) fun x1 p1 a1 => ?_
  refine Dr.bind (Dr.pick hx (by decide)) (by decide) fun x2 p2 a2 => ?_
  obtain ⟨m, hm⟩ := Int.eq_ofNat_of_zero_le (show (0 : Int) ≤ 1 + x2 by omega)
  have hW : W (1 + (x2, p2).1) = (m : Int) := by rw [← hm]; exact W_of (by omega) (by omega)
  intro h0 h1
  have hm3 : m ≤ 3 := by omega
  obtain ⟨y, p, e, hy, hl, l, u⟩ := draw_upto (body := spec_l20Ruleset_L0 xs (x2, p2)) (gen := fun k p => spec_l20Rules xs p (W (k + 1)) (m : Int) 0) (c := 1400) (m := m) (Q := RulesSm) (by decide) (by omega)
    (fun k p hk => dr_rules hx _ _ _ _ (by rw [W_succ (by omega)]; omega)) (fun k p y => by unfold spec_l20Ruleset_L0; rw [hW]) m 0 [] p2 (by omega) (by simp; omega) (by simp) h0 (by omega)
  have hsm : ∀ rs ∈ y, rs.length ≤ 11 ∧ ∀ r ∈ rs, r.Tests.length ≤ 7 := fun rs hrs => (hy rs hrs).w
  rw [List.length_nil, Nat.zero_add] at hl
  have e' : loopF (spec_l20Ruleset_L0 xs (x2, p2)) (W (1 + (x2, p2).1) - 0).toNat.succ (0, p2, ([] : List (List Rule))) = some (.brk ((m : Int), p, y)) := by
    rw [hW, Int.sub_zero, Int.toNat_natCast]; exact e
  rw [e', Option.bind_some]
  simp only [LR.on, hW]
  have hpos : 1 ≤ m := by omega
  obtain ⟨y0, hy0⟩ : ∃ y0, idx y 0 = some y0 := ⟨_, idx_get (k := 0) (show 0 < y.length by omega)⟩
  have hy0m : y0 ∈ y := by
    have : y[0]? = some y0 := hy0
    exact List.mem_of_getElem? this
  have hlast : ∃ z, idx y (W ((m : Int) - 1)) = some z := by
    rw [W_of (by omega) (by omega)]
    obtain ⟨z, hz, _⟩ := idx_ok (xs := y) (i := (m : Int) - 1) (n := y.length) (by omega) rfl
    exact ⟨z, hz⟩
  obtain ⟨zl, hzl⟩ := hlast
  have key : Dr ((spec_l20Rd_odd xs p n).bind fun x4 =>
  bif x4.1 then
  (spec_l20Rd_pick xs x4.2 4).bind fun x5 =>
  bif (x5.1 == 0) then
  some (({ Chains := ([] : List (List Rule)), Accept := (x1 == 0) } : Ruleset), x5.2)
  else
  bif (x5.1 == 1) then
  (idx y 0).bind fun x6 =>
  (spec_l20Rd_pick xs x5.2 2).bind fun x7 =>
  (idx [0, (m : Int)] x7.1).bind fun x8 =>
  (appF x6 [({ Tests := ([] : List Test), Action := 3, Chain := x8 } : Rule)]).bind fun z2 =>
  some (({ Chains := (List.set y (0 : Int).toNat z2), Accept := (x1 == 0) } : Ruleset), x7.2)
  else
  bif (x5.1 == 2) then
  (idx y (W ((m : Int) - 1))).bind fun _x9 =>
  (idx (List.set y (W ((m : Int) - 1)).toNat [({ Tests := ([] : List Test), Action := 3, Chain := 0 } : Rule)]) 0).bind fun _x10 =>
  some (({ Chains := (List.set (List.set y (W ((m : Int) - 1)).toNat [({ Tests := ([] : List Test), Action := 3, Chain := 0 } : Rule)]) (0 : Int).toNat [({ Tests := ([] : List Test), Action := 3, Chain := (W ((m : Int) - 1)) } : Rule)]), Accept := (x1 == 0) } : Ruleset), x5.2)
  else
  (spec_l20Rules xs x5.2 1 (m : Int) 1).bind fun x11 =>
  (idx y 0).bind fun _x12 =>
  some (({ Chains := (List.set y (0 : Int).toNat x11.1), Accept := (x1 == 0) } : Ruleset), x11.2)
  else
  some (({ Chains := y, Accept := (x1 == 0) } : Ruleset), x4.2)) p 1410 RsSm := by
    have one : ∀ c : Int, ([({ Tests := ([] : List Test), Action := 3, Chain := c } : Rule)]).length ≤ 11 ∧ ∀ r ∈ [({ Tests := ([] : List Test), Action := 3, Chain := c } : Rule)], r.Tests.length ≤ 7 := fun c => ⟨by simp, fun r hr => by rw [List.mem_singleton.1 hr]; exact Nat.zero_le _⟩
    refine Dr.bind (Dr.odd hx) (by decide) fun x4 p4 _ => ?_
    refine Dr.ite (fun _ => ?_) (fun _ => Dr.some ⟨by simp only; omega, hsm⟩ (by decide))
    refine Dr.bind (Dr.pick hx (by decide)) (by decide) fun x5 p5 a5 => ?_
    refine Dr.ite (fun _ => Dr.some ⟨by simp, by simp⟩ (by decide)) (fun _ => ?_)
    refine Dr.ite (fun _ => ?_) (fun _ => Dr.ite (fun _ => ?_) (fun _ => ?_))
    · refine Dr.pure (R := fun z => z = y0) ⟨_, hy0, rfl⟩ fun z ez => ?_
      subst ez
      have hz := hsm z hy0m
      have hz10 := (hy z hy0m).1
      refine Dr.bind (Dr.pick hx (by decide)) (by decide) fun x7 p7 a7 => ?_
      refine Dr.pure (idx_ok a7 rfl) fun x8 _ => ?_
      rw [app_ok (by simp; omega)]
      refine Dr.some ⟨by simp only [List.length_set]; omega, set_sm hsm ⟨by simp; omega, fun r hr => ?_⟩ _⟩ (by decide)
      rcases List.mem_append.1 hr with hr | hr
      · exact hz.2 r hr
      · rw [List.mem_singleton.1 hr]; exact Nat.zero_le _
    · refine Dr.pure (R := fun _ => True) ⟨_, hzl, trivial⟩ fun _ _ => ?_
      refine Dr.pure (R := fun _ => True) (idx_ok (xs := List.set y (W ((m : Int) - 1)).toNat [({ Tests := ([] : List Test), Action := 3, Chain := 0 } : Rule)]) (i := 0) (n := y.length) (by omega) (by rw [List.length_set]) |>.imp fun _ h => ⟨h.1, trivial⟩) fun _ _ => ?_
      exact Dr.some ⟨by simp only [List.length_set]; omega, set_sm (set_sm hsm (one 0) _) (one _) _⟩ (by decide)
    · refine Dr.bind (dr_rules hx _ _ _ _ (by omega)) (by decide) fun x11 p11 a11 => ?_
      refine Dr.pure (R := fun _ => True) ⟨_, hy0, trivial⟩ fun _ _ => ?_
      exact Dr.some ⟨by simp only [List.length_set]; omega, set_sm hsm a11.w _⟩ (by decide)
  obtain ⟨r, p', er, hr, l', u'⟩ := key (by omega) (by omega)
  exact ⟨r, p', er, hr, by omega, by omega⟩
theorem dr_case {xs : List Int} (hx : Bytes xs) {pos n : Int} (h0 : 0 ≤ pos) (h1 : pos + 7000 ≤ 1000000) : ∃ (s : Ruleset) (q : Packet) (p : Int), spec_l20Case xs pos n = some (s, q, p) ∧ RsSm s := by
  unfold spec_l20Case
  obtain ⟨s, p, e, hs, l, u⟩ := dr_ruleset hx pos n h0 (by omega)
  rw [e, Option.bind_some]
  obtain ⟨o, ho, ⟨y, k, q⟩, rfl, hyl, lq, uq⟩ := loop_wf (body := spec_l20Case_L0 xs (s, p))
    (fun st => ∃ k : Nat, st.2.1 = (k : Int) ∧ k ≤ s.Chains.length ∧ st.1.length ≤ 80 * k ∧ p ≤ st.2.2 ∧ st.2.2 ≤ p + 11 * k) (fun st => s.Chains.length - st.2.1.toNat)
    (fun o => ∃ st : List Test × Int × Int, o = .brk st ∧ st.1.length ≤ 240 ∧ p ≤ st.2.2 ∧ st.2.2 ≤ p + 33)
    (fun st ⟨k, e1, hk, hl, l1, u1⟩ => by
      obtain ⟨y, i, q⟩ := st
      simp only at e1 hl l1 u1
      subst e1
      have hs1 := hs.1
      unfold spec_l20Case_L0
      rcases drop_cases s.Chains k hk with ⟨e, rfl⟩ | ⟨rs, _, e, hk', ht, _⟩
      · exact .inr (.inl ⟨_, by simp only [lt_false (Int.le_refl _), cond_false]; rfl, _, rfl, by simp only; omega, l1, by simp only; omega⟩)
      · refine .inl ?_
        have hm := hs.2 rs (List.mem_of_getElem? (by rw [idx_nat] at ht; exact ht))
        obtain ⟨o, ho, ⟨y2, i2, q2⟩, rfl, hl2, l2, u2⟩ := loop_wf (body := spec_l20Case_L1 xs (s, p) (k : Int))
          (fun st => ∃ j : Nat, st.2.1 = (j : Int) ∧ j ≤ rs.length ∧ st.1.length ≤ 80 * k + 7 * j ∧ q ≤ st.2.2 ∧ st.2.2 ≤ q + j) (fun st => rs.length - st.2.1.toNat)
          (fun o => ∃ st : List Test × Int × Int, o = .brk st ∧ st.1.length ≤ 80 * k + 77 ∧ q ≤ st.2.2 ∧ st.2.2 ≤ q + 11)
          (fun st ⟨j, e1, hj, hl, l3, u3⟩ => by
            obtain ⟨y3, i3, q3⟩ := st
            simp only at e1 hl l3 u3
            subst e1
            have hm1 := hm.1
            unfold spec_l20Case_L1
            simp only [ht, Option.bind_some]
            rcases drop_cases rs j hj with ⟨e, rfl⟩ | ⟨t, _, e, hj', htj, _⟩
            · exact .inr (.inl ⟨_, by simp only [lt_false (Int.le_refl _), cond_false]; rfl, _, rfl, by simp only; omega, l3, by simp only; omega⟩)
            · refine .inl ?_
              simp only [lt_true (show (j : Int) < (rs.length : Int) by omega), cond_true, W_succ (show j < 9223372036854775807 by omega)]
              obtain ⟨r3, p3, e3, _, l4, u4⟩ := Dr.pick hx (pos := q3) (n := 3) (by decide) (by omega) (by omega)
              have ht' := hm.2 t (List.mem_of_getElem? (by rw [idx_nat] at htj; exact htj))
              rw [e3, Option.bind_some]
              by_cases c : (r3 == 0) = true
              · simp only [c, cond_true, htj, Option.bind_some, app_ok (show y3.length + t.Tests.length ≤ 4294967296 by omega)]
                exact ⟨_, rfl, ⟨j + 1, rfl, hj', by simp; omega, by simp only; omega, by simp only; omega⟩, by simp only [Int.toNat_natCast]; omega⟩
              · simp only [Bool.eq_false_iff.2 c, cond_false]
                exact ⟨_, rfl, ⟨j + 1, rfl, hj', by simp only; omega, by simp only; omega, by simp only; omega⟩, by simp only [Int.toNat_natCast]; omega⟩)
          ((((rs.length : Int)) : Int) - 0).toNat.succ (y, 0, q) ⟨0, rfl, Nat.zero_le _, by simp only; omega, by simp, by simp⟩ (by simp)
        simp only at hl2 l2 u2
        simp only [lt_true (show (k : Int) < (s.Chains.length : Int) by omega), cond_true, ht, Option.getD_some, ho, Option.bind_some, LR.on, W_succ (show k < 9223372036854775807 by omega)]
        exact ⟨_, rfl, ⟨k + 1, rfl, hk', by simp only; omega, by simp only; omega, by simp only; omega⟩, by simp only [Int.toNat_natCast]; omega⟩)
    ((((s.Chains.length : Int)) : Int) - 0).toNat.succ (([] : List Test), 0, p) ⟨0, rfl, Nat.zero_le _, by simp, by simp, by simp⟩ (by simp)
  simp only at hyl lq uq
  simp only [ho, Option.bind_some, LR.on]
  obtain ⟨v, p5, e5, _, _, _⟩ := dr_near hx (ts := y) (by omega) q n (by omega) (by omega)
  rw [e5, Option.bind_some]
  exact ⟨s, v, p5, rfl, hs⟩
theorem draw_ruleset {code : List Int} (h : GAll GU8 code) (n : Int) : ∃ (s : Ruleset) (p : Int) (xs : List Int), spec_l20Open code = some (xs, 0) ∧ Bytes xs ∧ spec_l20Ruleset xs 0 n = some (s, p) ∧ RsSm s ∧ 0 ≤ p ∧ p ≤ 5700 := by
  obtain ⟨xs, e0, hx⟩ := open_ok h
  obtain ⟨s, p, e, hs, l, u⟩ := dr_ruleset hx 0 n (by decide) (by decide)
  exact ⟨s, p, xs, e0, hx, e, hs, l, by omega⟩
theorem draw_case {code : List Int} (h : GAll GU8 code) : ∃ (s : Ruleset) (q : Packet), spec_DrawJudge code = some (s, q) ∧ RsSm s := by
  obtain ⟨xs, e0, hx⟩ := open_ok h
  obtain ⟨s, q, p, e, hs⟩ := dr_case hx (pos := 0) (n := 20) (by decide) (by decide)
  refine ⟨s, q, ?_, hs⟩
  unfold spec_DrawJudge
  rw [e0, Option.bind_some]
  simp only [e, Option.bind_some]
end Go.PF.F
