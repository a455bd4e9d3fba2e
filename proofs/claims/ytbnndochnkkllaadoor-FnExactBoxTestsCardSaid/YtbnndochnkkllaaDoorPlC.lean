/- Plain laws: lists of valid things; packets; tests. -/
import Derived.Test.YtbnndochnkkllaaDoorPlB
namespace Go.PF.F
open Go Go.PF

theorem Dec.and {m k : Option Bool} {P Q : Prop} (h : Dec m P) (hk : P → Dec k Q) : Dec (m.bind fun r => bif r then k else some false) (P ∧ Q) := by
  obtain ⟨r, rfl, hr⟩ := h
  cases r with
  | true =>
    obtain ⟨q, e, hq⟩ := hk (hr.1 rfl)
    exact ⟨q, by simpa using e, by rw [hq]; exact ⟨fun h => ⟨hr.1 rfl, h⟩, fun h => h.2⟩⟩
  | false => exact ⟨false, rfl, by simp; intro hp; exact absurd (hr.2 hp) (by simp)⟩
theorem Dec.ret {m : Option Bool} {P : Prop} (h : Dec m P) : Dec (m.bind fun x => some x) P := by
  obtain ⟨r, rfl, hr⟩ := h
  exact ⟨r, rfl, hr⟩
theorem Dec.iff {m : Option Bool} {P Q : Prop} (h : Dec m P) (e : P ↔ Q) : Dec m Q := by
  obtain ⟨r, rfl, hr⟩ := h
  exact ⟨r, rfl, hr.trans e⟩
theorem Dec.dec {P : Prop} [Decidable P] : Dec (some (decide P)) P := ⟨_, rfl, by simp⟩
theorem Dec.band {b : Bool} {k : Option Bool} {P Q : Prop} (h : b = true ↔ P) (hk : P → Dec k Q) : Dec (bif b then k else some false) (P ∧ Q) := Dec.and (m := some b) ⟨b, rfl, h⟩ hk
theorem Dec.dand {k : Option Bool} {P Q : Prop} [Decidable P] (hk : P → Dec k Q) : Dec (bif decide P then k else some false) (P ∧ Q) := Dec.band (by simp) hk

/-- Every element. -/
theorem Dec.all {α : Type} {xs : List α} {g : α → Option Bool} {P : α → Prop} {K : Option Bool} {Q : Prop} {body : Int → Option (SR Int Bool)} (hn : xs.length ≤ 9223372036854775807)
    (hg : ∀ x ∈ xs, Dec (g x) (P x)) (hK : (∀ x ∈ xs, P x) → Dec K Q)
    (hb : ∀ k, body k = bif (decide (k < (xs.length : Int))) then (idx xs k).bind fun x1 => (g x1).bind fun x2 => bif x2 then some (.nxt (W (k + 1))) else some (.ret false) else some (.brk k)) :
    Dec ((loopF body (((xs.length : Int)) - 0).toNat.succ 0).bind fun lr => lr.on (fun _ => K) (fun r => some r)) ((∀ x ∈ xs, P x) ∧ Q) := by
  obtain ⟨o, ho, hq⟩ := loop_idx (body := body) xs.length (fun k s => s = (k : Int) ∧ ∀ x ∈ xs.take k, P x)
    (fun o => (∃ k, o = .brk k ∧ ∀ x ∈ xs, P x) ∨ (o = .ret false ∧ ¬ ∀ x ∈ xs, P x)) (s := 0) ⟨rfl, by simp⟩
    (fun k s hk ⟨h1, h2⟩ => by
      subst h1
      have e1 : ((k : Int) < (xs.length : Int)) := by omega
      obtain ⟨r, hr, hi⟩ := hg xs[k] (List.getElem_mem hk)
      rw [hb, decide_eq_true e1, idx_get hk]
      simp only [cond_true, Option.bind_some, hr]
      cases r with
      | true =>
        refine .inl ⟨_, by rw [cond_true, W_succ (by omega)], rfl, fun x hx => ?_⟩
        rw [List.take_add_one, List.getElem?_eq_getElem hk] at hx
        rcases List.mem_append.1 hx with h | h
        · exact h2 x h
        · simp at h; subst h; exact hi.1 rfl
      | false => exact .inr (.inl ⟨false, rfl, .inr ⟨rfl, fun h => by simpa using hi.2 (h _ (List.getElem_mem hk))⟩⟩))
    (fun s ⟨h1, h2⟩ => by
      subst h1
      rw [List.take_of_length_le (Nat.le_refl _)] at h2
      refine .inl ⟨(xs.length : Int), ?_, .inl ⟨_, rfl, h2⟩⟩
      rw [hb, decide_eq_false (by omega)]; rfl)
  rw [ho]
  rcases hq with ⟨k, rfl, h⟩ | ⟨rfl, h⟩
  · obtain ⟨q, e, hq⟩ := hK h
    exact ⟨q, by simpa [LR.on] using e, by rw [hq]; exact ⟨fun x => ⟨h, x⟩, fun x => x.2⟩⟩
  · exact Dec.no fun x => h x.1
/-- The spec's way: every element, and then not too many. -/
theorem Dec.all_le {α : Type} {xs : List α} {g : α → Option Bool} {P : α → Prop} {c : Int} {body : Int → Option (SR Int Bool)} (hn : xs.length ≤ 9223372036854775807)
    (hg : ∀ x ∈ xs, Dec (g x) (P x))
    (hb : ∀ k, body k = bif (decide (k < (xs.length : Int))) then (idx xs k).bind fun x1 => (g x1).bind fun x2 => bif x2 then some (.nxt (W (k + 1))) else some (.ret false) else some (.brk k)) :
    Dec ((loopF body (((xs.length : Int)) - 0).toNat.succ 0).bind fun lr => lr.on (fun _ => some (decide ((xs.length : Int) ≤ c))) (fun r => some r)) ((∀ x ∈ xs, P x) ∧ (xs.length : Int) ≤ c) :=
  Dec.all hn hg (fun _ => Dec.dec) hb
/-- The program's way: not too many, and then every element. -/
theorem Dec.le_all {α : Type} {xs : List α} {g : α → Option Bool} {P : α → Prop} {c : Int} {body : Int → Option (SR Int Bool)} (hn : xs.length ≤ 9223372036854775807)
    (hg : ∀ x ∈ xs, Dec (g x) (P x))
    (hb : ∀ k, body k = bif (decide (k < (xs.length : Int))) then (idx xs k).bind fun x1 => (g x1).bind fun x2 => bif x2 then some (.nxt (W (k + 1))) else some (.ret false) else some (.brk k)) :
    Dec (bif decide (c < (xs.length : Int)) then some false else (loopF body (((xs.length : Int)) - 0).toNat.succ 0).bind fun lr => lr.on (fun _ => some true) (fun r => some r)) ((∀ x ∈ xs, P x) ∧ (xs.length : Int) ≤ c) := by
  by_cases h : c < (xs.length : Int)
  · rw [decide_eq_true h]
    exact Dec.no fun x => by omega
  · rw [decide_eq_false h, cond_false]
    exact (Dec.all hn hg (fun _ => Dec.yes trivial) hb).iff ⟨fun x => ⟨x.1, by omega⟩, fun x => ⟨x.1, trivial⟩⟩

/-! Regions and flats. -/
def RV (xs : List Box) : Prop := (∀ x ∈ xs, BV x) ∧ (xs.length : Int) ≤ 400
theorem spec_region {xs : List Box} (h : xs.length ≤ 9223372036854775807) (hs : ∀ x ∈ xs, OkBox x) : Dec (spec_RegionValid xs) (RV xs) :=
  Dec.all_le (body := spec_RegionValid_L0 xs) h (fun x hx => spec_box (hs x hx)) (fun _ => rfl)
theorem impl_region {xs : List Box} (h : xs.length ≤ 9223372036854775807) (hs : ∀ x ∈ xs, OkBox x) : Dec (impl_RegionValid xs) (RV xs) :=
  Dec.le_all (body := impl_RegionValid_L0 xs) h (fun x hx => impl_box (hs x hx)) (fun _ => rfl)
def FV (xs : List Flat) : Prop := (∀ x ∈ xs, BV x.Where) ∧ (xs.length : Int) ≤ 60
theorem spec_flats {xs : List Flat} (h : xs.length ≤ 9223372036854775807) (hs : ∀ x ∈ xs, OkBox x.Where) : Dec (spec_FlatsValid xs) (FV xs) :=
  Dec.all_le (body := spec_FlatsValid_L0 xs) (g := fun x : Flat => spec_BoxValid x.Where) (P := fun x : Flat => BV x.Where) (c := 60) h (fun x hx => spec_box (hs x hx)) (fun _ => rfl)
theorem impl_flats {xs : List Flat} (h : xs.length ≤ 9223372036854775807) (hs : ∀ x ∈ xs, OkBox x.Where) : Dec (impl_FlatsValid xs) (FV xs) :=
  Dec.le_all (body := impl_FlatsValid_L0 xs) (g := fun x : Flat => impl_BoxValid x.Where) (P := fun x : Flat => BV x.Where) (c := 60) h (fun x hx => impl_box (hs x hx)) (fun _ => rfl)

theorem wtL_small {α : Type} {wt : α → Nat} {xs : List α} (h : wtL wt xs ≤ 1048576) : xs.length ≤ 1048576 ∧ ∀ x ∈ xs, wt x ≤ 1048576 := by
  unfold wtL at h
  exact ⟨by omega, fun x hx => by have := mem_sum_le wt hx; omega⟩
theorem plain_FnExactRegionValid (a : List Box) (ga : GAll G_Box a) : laws_FnExactRegionValid a = some true := by
  have hs : ∀ x ∈ a, OkBox x := fun x hx => ok_of_G (ga.2 x hx)
  unfold laws_FnExactRegionValid
  rw [sz_BoxS (by decide) (by decide) ga.1 hs, Option.bind_some]
  by_cases h : wBoxS a ≤ 1048576
  · have hm := wtL_small h
    obtain ⟨r, e1, e2, _⟩ := (spec_region ga.1 hs).same (impl_region ga.1 hs)
    rw [left_pos h, to_BoxS hm.1 (fun x hx => sm_Box (hm.2 x hx))]
    simp only [cond_false, Option.bind_some, e1, e2, eq_BoxS _ _ ga.1 hs]
    simp
  · rw [left_neg h]; rfl
theorem plain_FnExactFlatsValid (a : List Flat) (ga : GAll G_Flat a) : laws_FnExactFlatsValid a = some true := by
  have hs : ∀ x ∈ a, OkBox x.Where := fun x hx => ok_of_G (ga.2 x hx).1
  unfold laws_FnExactFlatsValid
  rw [sz_FlatS (by decide) (by decide) ga.1 hs, Option.bind_some]
  by_cases h : wFlatS a ≤ 1048576
  · have hm := wtL_small h
    obtain ⟨r, e1, e2, _⟩ := (spec_flats ga.1 hs).same (impl_flats ga.1 hs)
    rw [left_pos h, to_FlatS hm.1 (fun x hx => sm_Box (hm.2 x hx))]
    simp only [cond_false, Option.bind_some, e1, e2, eq_FlatS _ _ ga.1 hs]
    simp
  · rw [left_neg h]; rfl

/-! An empty box. -/
def BE (xss : List (List Span)) : Prop := ∃ x ∈ xss, x = []
theorem empty_gen {xss : List (List Span)} {body : Int → Option (SR Int Bool)} (n : Int) (hl : n = xss.length) (hn : xss.length ≤ 9223372036854775807)
    (hb : ∀ k, body k = bif (decide (k < n)) then (idx xss k).bind fun x1 => bif ((x1.length : Int) == 0) then some (.ret true) else some (.nxt (W (k + 1))) else some (.brk k)) :
    Dec ((loopF body (n - 0).toNat.succ 0).bind fun lr => lr.on (fun _ => some false) (fun r => some r)) (BE xss) := by
  subst hl
  obtain ⟨o, ho, hq⟩ := loop_idx (body := body) xss.length (fun k s => s = (k : Int) ∧ ∀ x ∈ xss.take k, x ≠ [])
    (fun o => (∃ k, o = .brk k ∧ ¬ BE xss) ∨ (o = .ret true ∧ BE xss)) (s := 0) ⟨rfl, by simp⟩
    (fun k s hk ⟨h1, h2⟩ => by
      subst h1
      have e1 : ((k : Int) < (xss.length : Int)) := by omega
      rw [hb, decide_eq_true e1, idx_get hk]
      simp only [cond_true, Option.bind_some]
      by_cases e : xss[k] = []
      · exact .inr (.inl ⟨true, by rw [e]; rfl, .inr ⟨rfl, _, List.getElem_mem hk, e⟩⟩)
      · have : 0 < xss[k].length := List.length_pos_iff.2 e
        refine .inl ⟨_, by rw [(by simp; omega : ((xss[k].length : Int) == 0) = false), cond_false, W_succ (by omega)], rfl, fun x hx => ?_⟩
        rw [List.take_add_one, List.getElem?_eq_getElem hk] at hx
        rcases List.mem_append.1 hx with h | h
        · exact h2 x h
        · simp at h; subst h; exact e)
    (fun s ⟨h1, h2⟩ => by
      subst h1
      rw [List.take_of_length_le (Nat.le_refl _)] at h2
      refine .inl ⟨(xss.length : Int), ?_, .inl ⟨_, rfl, fun ⟨x, hx, e⟩ => h2 x hx e⟩⟩
      rw [hb, decide_eq_false (by omega)]; rfl)
  rw [ho]
  rcases hq with ⟨k, rfl, h⟩ | ⟨rfl, h⟩
  · exact Dec.no h
  · exact Dec.yes h
theorem spec_empty {b : Box} (hb : OkBox b) : Dec (spec_l10Empty b) (BE b.Sides) := empty_gen (body := spec_l10Empty_L0 b) _ rfl hb.1 (fun _ => rfl)
theorem impl_sides {b : Box} (h : b.Sides.length = 4) : impl_sidesOf b = some b.Sides := by
  unfold impl_sidesOf arrF
  rw [if_pos h]; rfl
theorem impl_empty {xss : List (List Span)} (h : xss.length = 4) : Dec (impl_sides_empty xss) (BE xss) := empty_gen (body := impl_sides_empty_L0 xss) 4 (by omega) (by omega) (fun _ => rfl)
theorem plain_FnExactBoxEmpty (a : Box) (ga : G_Box a) : laws_FnExactBoxEmpty a = some true := by
  have ha := ok_of_G ga
  unfold laws_FnExactBoxEmpty
  rw [sz_Box (by decide) (by decide) ha, Option.bind_some]
  by_cases hs : wBox a ≤ 1048576
  · have hm := sm_Box hs
    have h1 : Dec (spec_BoxEmpty a) (BV a ∧ BE a.Sides) := Dec.and (spec_box ha) (fun _ => (spec_empty ha).ret)
    have h2 : Dec (impl_BoxEmpty a) (BV a ∧ BE a.Sides) := Dec.and (impl_box ha) (fun hv => by
      rw [impl_sides hv.1]
      exact (impl_empty hv.1).ret)
    obtain ⟨r, e1, e2, _⟩ := h1.same h2
    rw [left_pos hs, to_Box hm]
    simp only [cond_false, Option.bind_some, e1, e2, eq_Box _ _ ha]
    simp
  · rw [left_neg hs]; rfl

/-! Packets. -/
def PV (p : Packet) : Prop := (0 ≤ p.From ∧ p.From ≤ 65535) ∧ (0 ≤ p.To ∧ p.To ≤ 65535) ∧ (0 ≤ p.Port ∧ p.Port ≤ 255) ∧ 0 ≤ p.Proto ∧ p.Proto ≤ 7
theorem in_Dec (n lo hi : Int) : Dec (spec_l1In n lo hi) (lo ≤ n ∧ n ≤ hi) := by rw [in_dec]; exact Dec.dec
theorem spec_packet (p : Packet) : Dec (spec_PacketValid p) (PV p) :=
  (in_Dec _ _ _).and fun _ => (in_Dec _ _ _).and fun _ => (in_Dec _ _ _).and fun _ => (in_Dec _ _ _).ret
theorem impl_fields (p : Packet) : impl_Packet_fields p = some [p.From, p.To, p.Port, p.Proto] := rfl
theorem impl_packet (p : Packet) : Dec (impl_PacketValid p) (PV p) := by
  unfold impl_PacketValid
  rw [impl_fields]
  simp only [Option.bind_some]
  obtain ⟨o, ho, hq⟩ := loop_idx (body := impl_PacketValid_L0 [p.From, p.To, p.Port, p.Proto]) 4 (fun k s => s = (k : Int) ∧ ∀ (i : Nat) v, i < k → [p.From, p.To, p.Port, p.Proto][i]? = some v → 0 ≤ v ∧ v ≤ topOf i)
    (fun o => (∃ k, o = .brk k ∧ PV p) ∨ (o = .ret false ∧ ¬ PV p)) (s := 0) ⟨rfl, fun i v h => by omega⟩
    (fun k s hk ⟨h1, h2⟩ => by
      subst h1
      have e1 : ((k : Int) < 4) := by omega
      have hkl : k < [p.From, p.To, p.Port, p.Proto].length := hk
      unfold impl_PacketValid_L0
      simp only [decide_eq_true e1, cond_true, idx_get hkl, Option.bind_some, impl_top]
      have hpv : PV p → 0 ≤ [p.From, p.To, p.Port, p.Proto][k] ∧ [p.From, p.To, p.Port, p.Proto][k] ≤ topOf k := by
        intro h
        unfold PV at h
        match k, hk with
        | 0, _ => exact h.1
        | 1, _ => exact h.2.1
        | 2, _ => exact h.2.2.1
        | 3, _ => exact h.2.2.2
      by_cases a1 : [p.From, p.To, p.Port, p.Proto][k] < 0
      · rw [decide_eq_true a1]
        exact .inr (.inl ⟨false, rfl, .inr ⟨rfl, fun h => by have := hpv h; omega⟩⟩)
      · rw [decide_eq_false a1, cond_false]
        by_cases a2 : topOf k < [p.From, p.To, p.Port, p.Proto][k]
        · rw [decide_eq_true a2]
          exact .inr (.inl ⟨false, rfl, .inr ⟨rfl, fun h => by have := hpv h; omega⟩⟩)
        · rw [decide_eq_false a2, cond_false]
          refine .inl ⟨_, by rw [W_succ (by omega)], rfl, fun i v hi hv => ?_⟩
          by_cases e : i = k
          · subst e
            rw [List.getElem?_eq_getElem hkl] at hv
            have := Option.some.inj hv
            omega
          · exact h2 i v (by omega) hv)
    (fun s ⟨h1, h2⟩ => by
      subst h1
      refine .inl ⟨4, rfl, .inl ⟨_, rfl, ?_⟩⟩
      exact ⟨h2 0 _ (by decide) rfl, h2 1 _ (by decide) rfl, h2 2 _ (by decide) rfl, h2 3 _ (by decide) rfl⟩)
  rw [show ((4 : Int) - 0).toNat.succ = (((4 : Nat) : Int) - 0).toNat.succ from rfl, ho]
  rcases hq with ⟨k, rfl, h⟩ | ⟨rfl, h⟩
  · exact Dec.yes h
  · exact Dec.no h
end Go.PF.F
