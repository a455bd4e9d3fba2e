import Derived.Test.YtadlmencjbangaaDoorPlY
import Derived.Test.YtadlmencjbangaaDoorPlAQ
/- Plain laws: boxes of any size, and rows of rows that are written over; ExactBoxMeet, ExactTestsBox, ExactBoxCut, ExactRegionLess, ExactFlatBoxes. -/
namespace Go.PF.F
open Go Go.PF

/-! Rows of rows that are written over. -/
/-! Bounds. -/
end Go.PF.F

/- Plain laws: ExactJudgeFlat. -/
namespace Go.PF.F
open Go Go.PF

theorem least (P : Nat → Prop) : ∀ n : Nat, (∃ m, m < n ∧ P m ∧ ∀ j, j < m → ¬ P j) ∨ ∀ j, j < n → ¬ P j
  | 0 => .inr fun j hj => by omega
  | n + 1 => by
    rcases least P n with ⟨m, hm, h⟩ | h
    · exact .inl ⟨m, by omega, h⟩
    · by_cases hp : P n
      · exact .inl ⟨n, by omega, hp, h⟩
      · refine .inr fun j hj => ?_
        by_cases hjn : j = n
        · rw [hjn]; exact hp
        · exact h j (by omega)
theorem flats_of {fs : List Flat} (hF : FV fs) : impl_flatsOf fs = some (fs.map fun x => (⟨x.Where.Sides, x.Accept⟩ : FlatI)) := by
  have hn : fs.length ≤ 60 := by have := hF.2; omega
  unfold impl_flatsOf
  have l1 := loop_brk0 (body := impl_flatsOf_L0 fs) fs.length (fun k : Nat => ((fs.take k).map fun x => (⟨x.Where.Sides, x.Accept⟩ : FlatI), (k : Int))) (s0 := (([] : List FlatI), 0)) (s := (fs.map fun x => (⟨x.Where.Sides, x.Accept⟩ : FlatI), (fs.length : Int))) rfl (fun k hk => by
    unfold impl_flatsOf_L0
    simp only [lt_true (show (k : Int) < (fs.length : Int) by omega), cond_true, idx_get hk, Option.bind_some, impl_sides (hF.1 _ (List.getElem_mem hk)).1]
    rw [app_ok (by simp; omega), Option.bind_some, W_succ (show k < 9223372036854775807 by omega), take_snoc (List.getElem?_eq_getElem hk), List.map_append]; rfl) (by
    unfold impl_flatsOf_L0
    simp only [lt_false (Int.le_refl _), cond_false, List.take_length]) (fuel := ((fs.length : Int) - 0).toNat.succ) (by omega)
  rw [show capF (fs.length : Int) = some () from if_pos ⟨by omega, by omega⟩, Option.bind_some, l1]; rfl
theorem flat_same {fs : List Flat} (hl : fs.length ≤ 9223372036854775807) (hs : ∀ x ∈ fs, OkBox x.Where) (rest : Bool) (p : Packet) : ∃ r, spec_JudgeFlat fs rest p = some r ∧ impl_JudgeFlat fs rest p = some r := by
  obtain ⟨v, e1, e2, hv⟩ := (impl_flats hl hs).same (spec_flats hl hs)
  obtain ⟨q, e3, e4, hq⟩ := (spec_packet p).same (impl_packet p)
  unfold spec_JudgeFlat impl_JudgeFlat
  rw [e1, e2, Option.bind_some, Option.bind_some, e3, e4]
  cases v with
  | false => exact ⟨false, rfl, rfl⟩
  | true =>
    cases q with
    | false => exact ⟨false, rfl, rfl⟩
    | true =>
      have hF := hv.1 rfl
      have hP := hq.1 rfl
      have hn : fs.length ≤ 60 := by have := hF.2; omega
      have hlen : (fs.map fun x => (⟨x.Where.Sides, x.Accept⟩ : FlatI)).length = fs.length := List.length_map _
      have sh : ∀ k (hk : k < fs.length), ∃ r, spec_BoxHas fs[k].Where p = some r ∧ impl_sides_has fs[k].Where.Sides p = some r ∧ (r = true ↔ BH fs[k].Where p) := fun k hk => by
        have hm := List.getElem_mem hk
        obtain ⟨r, h1, h1'⟩ := spec_has (hs _ hm) p
        obtain ⟨r', h2, h2'⟩ := impl_shas (hs _ hm) (hF.1 _ hm) p
        have : r = r' := by
          have hx : (r = true ↔ r' = true) := h1'.trans (Iff.trans ⟨fun h => h.2.2, fun h => ⟨hF.1 _ hm, hP, h⟩⟩ h2'.symm)
          cases r <;> cases r' <;> simp_all
        subst this
        exact ⟨r, h1, h2, h2'⟩
      simp only [cond_true, Option.bind_some, flats_of hF]
      unfold impl_firstWith slices_IndexFunc_impl_flat_impl_flat__impl_firstWith_1
      have no1 : ∀ k (hk : k < fs.length), ¬ BH fs[k].Where p → spec_JudgeFlat_L0 fs p (k : Int) = some (.nxt (((k + 1 : Nat) : Int))) := fun k hk hb => by
        obtain ⟨r, h1, _, hr⟩ := sh k hk
        have : r = false := by cases r <;> simp_all
        subst this
        unfold spec_JudgeFlat_L0
        simp only [lt_true (show (k : Int) < (fs.length : Int) by omega), cond_true, idx_get hk, Option.bind_some, h1, cond_false, W_succ (show k < 9223372036854775807 by omega)]
      have no2 : ∀ k (hk : k < fs.length), ¬ BH fs[k].Where p → slices_IndexFunc_impl_flat_impl_flat__impl_firstWith_1_L0 (fs.map fun x => (⟨x.Where.Sides, x.Accept⟩ : FlatI)) p (k : Int) = some (.nxt (((k + 1 : Nat) : Int))) := fun k hk hb => by
        obtain ⟨r, _, h2, hr⟩ := sh k hk
        have : r = false := by cases r <;> simp_all
        subst this
        unfold slices_IndexFunc_impl_flat_impl_flat__impl_firstWith_1_L0 impl_firstWith_1
        simp only [hlen, lt_true (show (k : Int) < (fs.length : Int) by omega), cond_true, idx_get (show k < (fs.map fun x => (⟨x.Where.Sides, x.Accept⟩ : FlatI)).length by omega), List.getElem_map, Option.bind_some, h2, cond_false, W_succ (show k < 9223372036854775807 by omega)]
      rcases least (fun k => ∃ hk : k < fs.length, BH fs[k].Where p) fs.length with ⟨m, hm, ⟨hm', hb⟩, hlo⟩ | hno
      · have hj : ∀ j, j < m → ∃ hj : j < fs.length, ¬ BH fs[j].Where p := fun j hj => ⟨by omega, fun h => hlo j hj ⟨by omega, h⟩⟩
        obtain ⟨r, h1, h2, hr⟩ := sh m hm
        have : r = true := hr.2 hb
        subst this
        have a1 := loop_ret (body := spec_JudgeFlat_L0 fs p) m (fun k : Nat => (k : Int)) fs[m].Accept (fun k hk => let ⟨h, hn⟩ := hj k hk; no1 k h hn) (by
          unfold spec_JudgeFlat_L0
          simp only [lt_true (show (m : Int) < (fs.length : Int) by omega), cond_true, idx_get hm, Option.bind_some, h1]) (fuel := ((fs.length : Int) - 0).toNat.succ) (by omega)
        have a2 := loop_ret (body := slices_IndexFunc_impl_flat_impl_flat__impl_firstWith_1_L0 (fs.map fun x => (⟨x.Where.Sides, x.Accept⟩ : FlatI)) p) m (fun k : Nat => (k : Int)) (m : Int) (fun k hk => let ⟨h, hn⟩ := hj k hk; no2 k h hn) (by
          unfold slices_IndexFunc_impl_flat_impl_flat__impl_firstWith_1_L0 impl_firstWith_1
          simp only [hlen, lt_true (show (m : Int) < (fs.length : Int) by omega), cond_true, idx_get (show m < (fs.map fun x => (⟨x.Where.Sides, x.Accept⟩ : FlatI)).length by omega), List.getElem_map, Option.bind_some, h2]) (fuel := ((fs.length : Int) - 0).toNat.succ) (by omega)
        have a1' : loopF (spec_JudgeFlat_L0 fs p) ((((fs.length : Int)) - 0).toNat.succ) 0 = some (.ret fs[m].Accept) := a1
        have a2' : loopF (slices_IndexFunc_impl_flat_impl_flat__impl_firstWith_1_L0 (fs.map fun x => (⟨x.Where.Sides, x.Accept⟩ : FlatI)) p) ((((fs.length : Int)) - 0).toNat.succ) 0 = some (.ret (m : Int)) := a2
        refine ⟨fs[m].Accept, ?_, ?_⟩
        · rw [a1']; rfl
        · rw [hlen, a2']
          simp only [LR.on, Option.bind_some, decide_eq_true (show (0 : Int) ≤ (m : Int) by omega), cond_true, idx_get hm]
      · have hj : ∀ j (h : j < fs.length), ¬ BH fs[j].Where p := fun j h hb => hno j h ⟨h, hb⟩
        have a1 := loop_brk0 (body := spec_JudgeFlat_L0 fs p) fs.length (fun k : Nat => (k : Int)) (s0 := 0) (s := (fs.length : Int)) rfl (fun k hk => no1 k hk (hj k hk)) (by
          unfold spec_JudgeFlat_L0
          simp only [lt_false (Int.le_refl _), cond_false]) (fuel := ((fs.length : Int) - 0).toNat.succ) (by omega)
        have a2 := loop_brk0 (body := slices_IndexFunc_impl_flat_impl_flat__impl_firstWith_1_L0 (fs.map fun x => (⟨x.Where.Sides, x.Accept⟩ : FlatI)) p) fs.length (fun k : Nat => (k : Int)) (s0 := 0) (s := (fs.length : Int)) rfl (fun k hk => no2 k hk (hj k hk)) (by
          unfold slices_IndexFunc_impl_flat_impl_flat__impl_firstWith_1_L0
          simp only [hlen, lt_false (Int.le_refl _), cond_false]) (fuel := ((fs.length : Int) - 0).toNat.succ) (by omega)
        refine ⟨rest, ?_, ?_⟩
        · rw [a1]; rfl
        · rw [hlen, a2]; rfl
theorem plain_FnExactJudgeFlat (a : List Flat) (rest : Bool) (p : Packet) (ga : GAll G_Flat a) (_gr : GAny rest) (_gp : G_Packet p) : laws_FnExactJudgeFlat a rest p = some true := by
  have hs : ∀ x ∈ a, OkBox x.Where := fun x hx => ok_of_G (ga.2 x hx).1
  unfold laws_FnExactJudgeFlat
  rw [sz_FlatS (by decide) (by decide) ga.1 hs, Option.bind_some]
  by_cases h : wFlatS a ≤ 1048576
  · have hm := wtL_small h
    have hsm : ∀ x ∈ a, SmBox x.Where := fun x hx => sm_Box (hm.2 x hx)
    obtain ⟨r, e1, e2⟩ := flat_same ga.1 hs rest p
    have q2 : laws_eqFlatS a a = some true := by rw [eq_FlatS a a ga.1 hs]; simp
    rw [left_pos h, cond_false, to_FlatS hm.1 hsm, Option.bind_some, to_Packet, Option.bind_some, e1, Option.bind_some, e2, Option.bind_some, bne_self_eq_false, cond_false, q2]; rfl
  · rw [left_neg h]; rfl
end Go.PF.F
