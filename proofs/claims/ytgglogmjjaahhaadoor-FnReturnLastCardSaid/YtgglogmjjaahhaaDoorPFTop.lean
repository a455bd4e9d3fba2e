/- Opening arguments into data; closing a law's row. No program. -/
import Derived.Test.YtgglogmjjaahhaaDoorPFEls
import Derived.Carry
import Derived.ChangeVars
import Derived.OpenShut
import Derived.LaidMore
import Derived.WalkSmall
import Derived.Stop.Joined
namespace Go.PF
open Go Go.RowKit Go.ChangeShapes Go.WideShapes

def Opens {α : Type} (P : Program) (R : RTy α) (G : α → Prop) (t : TypeId) : Prop :=
  P.cellsOf t = R.size ∧ ∀ (H : Type) (enc : TypeId × Value → H) (w : World) (spare : Nat → Bool) (fuel : Nat) (cs : List Value) (x : DataW H × List MemPlace),
    DataW.trod enc P w 0 spare true fuel t cs = some x → ∃ a, R.rep w No a cs ∧ G a

def GInt (n : Int) : Prop := -9223372036854775808 ≤ n ∧ n ≤ 9223372036854775807
def GU8 (n : Int) : Prop := 0 ≤ n ∧ n ≤ 255
def GAll {α : Type} (G : α → Prop) (xs : List α) : Prop := xs.length ≤ 9223372036854775807 ∧ ∀ x ∈ xs, G x
section
variable {P : Program} {t e : TypeId} {α β γ δ ε : Type} {R : RTy α} {S : RTy β} {T : RTy γ} {U : RTy δ} {G : α → Prop} {G1 : β → Prop} {G2 : γ → Prop} {G3 : δ → Prop}
theorem opens_int (ht : P.underlying t = some (.int .i64)) (hc : P.cellsOf t = 1) : Opens P RInt GInt t :=
  ⟨hc, fun H enc w sp fuel cs x h => by
    obtain ⟨n, rfl, _, hw⟩ := DataW.trod_int ht h
    exact ⟨n, rfl, bounds_i64 hw⟩⟩
theorem opens_u8 (ht : P.underlying t = some (.int .u8)) (hc : P.cellsOf t = 1) : Opens P RU8 GU8 t :=
  ⟨hc, fun H enc w sp fuel cs x h => by
    obtain ⟨n, rfl, _, hw⟩ := DataW.trod_int ht h
    exact ⟨n, rfl, bounds_u8 hw⟩⟩
theorem cells_get {w : World} {a : Addr} {n : Nat} {cs : List Value} (h : w.cells? 0 a n = some cs) : cs.length = n ∧ ∀ j u, cs[j]? = some u → w.cell? (a.add j) = some u := by
  unfold World.cells? at h
  rw [if_pos (Nat.zero_le _)] at h
  have hl : cs.length = n := by simpa using mapM_some_length h
  refine ⟨hl, fun j u hj => ?_⟩
  have hlt : j < cs.length := (List.getElem?_eq_some_iff.1 hj).1
  have := mapM_some_get h j j (List.getElem?_range (by omega))
  rw [this, hj]

theorem opens_slice (ht : P.underlying t = some (.slice e)) (hc : P.cellsOf t = 1) (h : Opens P R G e) (hp : 0 < R.size) : Opens P (RSlice R) (GAll G) t :=
  ⟨hc, fun H enc w sp fuel cs x hx => by
    have hlt := DataW.trod_lt _ _ _ _ hx
    rcases DataW.trod_slice ht hx with ⟨rfl, _⟩ | ⟨a, len, cap, elems, rest, n, _, rfl, rfl, _, hle, hm, hel, hget, _, _⟩
    · exact ⟨[], ⟨none, 0, rfl, Nat.le_refl _, Nat.zero_le _, fun e => absurd rfl e⟩, by simp, by simp⟩
    · have hb : 0 < len → a.block < w.heap.size := fun h0 => by
        have := hget 0 h0
        rw [h.1] at this
        obtain ⟨y, hy⟩ : ∃ y, elems[0]? = some y := ⟨_, List.getElem?_eq_getElem (by omega)⟩
        rw [hy] at this
        obtain ⟨c, hc1, _⟩ := bind_some this
        have hcg := cells_get hc1
        have : w.cell? ((a.add (0 * R.size)).add 0) = some (c[0]'(by omega)) := hcg.2 0 _ (List.getElem?_eq_getElem _)
        have := World.block_lt_of_cell? _ _ this
        simpa [block_add] using this
      have key : ∀ k, k ≤ len → ∃ xs : List α, ∃ vs, xs.length = k ∧ RepAll R w No xs vs ∧ (∀ j u, vs[j]? = some u → w.cell? (a.add j) = some u) ∧ ∀ x ∈ xs, G x := by
        intro k
        induction k with
        | zero => intro _; exact ⟨[], [], rfl, rfl, fun j u h => by simp at h, by simp⟩
        | succ k ih =>
          intro hk
          obtain ⟨xs, vs, hl, hr, hcell, hg⟩ := ih (by omega)
          have h1 := hget k (by omega)
          rw [h.1] at h1
          obtain ⟨y, hy⟩ : ∃ y, elems[k]? = some y := ⟨_, List.getElem?_eq_getElem (by omega)⟩
          rw [hy] at h1
          obtain ⟨c, hc1, hc2⟩ := bind_some h1
          have hcg := cells_get hc1
          obtain ⟨z, hz, hzg⟩ := h.2 H enc w sp n c y hc2
          refine ⟨xs ++ [z], vs ++ c, by simp [hl], hr.append (RepAll.one hz), fun j u hj => ?_, ?_⟩
          · have hvl : vs.length = k * R.size := by rw [hr.len, hl]
            by_cases hjl : j < vs.length
            · rw [List.getElem?_append_left hjl] at hj
              exact hcell j u hj
            · rw [List.getElem?_append_right (by omega)] at hj
              have := hcg.2 _ _ hj
              rw [Go.Deep.add_add] at this
              rwa [show k * R.size + (j - vs.length) = j by omega] at this
          · intro x hx
            rcases List.mem_append.1 hx with h | h
            · exact hg x h
            · rw [List.mem_singleton.1 h]; exact hzg
      obtain ⟨xs, vs, hl, hr, hcell, hg⟩ := key len (Nat.le_refl _)
      refine ⟨xs, ⟨some a, cap, by rw [hl], by omega, hm, fun hne => ⟨a, rfl, fun e => e, hb ?_, vs, hr, hcell⟩⟩, ?_, hg⟩
      · cases xs with
        | nil => exact absurd rfl hne
        | cons => simp at hl; omega
      · have : maxLen = 9223372036854775807 := rfl
        omega⟩

theorem take_drop2 {cs : List Value} {m n : Nat} (h : cs.length = m + n) : (cs.drop 0).take m ++ (cs.drop m).take n = cs := by
  rw [List.drop_zero, List.take_of_length_le (l := cs.drop m) (by simp; omega), List.take_append_drop]

theorem take_two {cs : List Value} {k m n : Nat} : (cs.drop k).take (m + n) = (cs.drop k).take m ++ (cs.drop (k + m)).take n := by
  rw [List.take_add, List.drop_drop]

end

section
variable {P : Program} {t : TypeId} {α : Type} {R : RTy α} {G : α → Prop} {H : Type} {enc : TypeId × Value → H} {w : World} {v : Value} {d : DataW H} {p : List MemPlace} {base : Nat}
theorem Opens.slice {e : TypeId} (h : Opens P R G t) (ha : R.agg = false) (ht : P.underlying t = some (.slice e)) (hok : Value.okWide P w .any base t v) (hd : DataW.Trod enc P w 0 (fun _ => true) true t v d p) : ∃ a, VRep R w No a v ∧ G a := by
  obtain ⟨a, len, cap, rfl⟩ := okWide_slice ht hok
  obtain ⟨fuel, hf⟩ := hd
  obtain ⟨a, hr, g⟩ := h.2 H enc w _ fuel _ _ hf
  exact ⟨a, ⟨_, hr, by simp [RTy.pack, ha, Value.cells]⟩, g⟩
theorem Opens.int {G : Int → Prop} (h : Opens P RInt G t) (ht : P.underlying t = some (.int .i64)) (hok : Value.okWide P w .any base t v) (hd : DataW.Trod enc P w 0 (fun _ => true) true t v d p) : ∃ a, VRep RInt w No a v ∧ G a := by
  obtain ⟨n, rfl⟩ := okWide_int ht hok
  obtain ⟨fuel, hf⟩ := hd
  obtain ⟨a, hr, g⟩ := h.2 H enc w _ fuel _ _ hf
  exact ⟨a, ⟨_, hr, by simp [RTy.pack, RInt, Value.cells]⟩, g⟩
theorem Opens.bool {G : Bool → Prop} (h : Opens P RBool G t) (ht : P.underlying t = some .bool) (hok : Value.okWide P w .any base t v) (hd : DataW.Trod enc P w 0 (fun _ => true) true t v d p) : ∃ a, VRep RBool w No a v ∧ G a := by
  obtain ⟨n, rfl⟩ := okWide_bool ht hok
  obtain ⟨fuel, hf⟩ := hd
  obtain ⟨a, hr, g⟩ := h.2 H enc w _ fuel _ _ hf
  exact ⟨a, ⟨_, hr, by simp [RTy.pack, RBool, Value.cells]⟩, g⟩
end

/-- A law's row is closed: it returned true and below the old heap nothing has turned. -/
theorem post_true {H : Type} {enc : TypeId × Value → H} {P : Program} {f : Func} {s : ChangeSpec} {n : String} {W W' : World} {args : Array Value} {v : Value} {ds gs : List (DataW H)} {before : List MemPlace} {tb : TypeId}
    (hl : laidOutB P = true) (hs : s.vars = [n]) (hps : ∀ t ∈ f.params.toList, P.readableRec t = true ∧ t < P.types.size)
    (hgt : ∀ g t, P.globalNamed n = some g → (P.globals[g]?).map (·.type) = some t → P.readableRec t = true ∧ t < P.types.size)
    (hW : DataW.Whole enc P f.params.toList s.vars false W args.toList ds gs before) (hbel : Below W.heap.size W W')
    (hr : f.resultTypes = #[tb]) (hb : P.underlying tb = some .bool) (hv : v = .bool true)
    (hfn : ∀ g, gs = [g] → (s.fn H (ds ++ gs)) = { results := [.lit (.bool true)], args := ds, vars := [g] }) :
    s.post enc P f false true false false W args v W' := by
  have hW' := hW
  obtain ⟨p, q, hA, hV, rfl, hfz, hnd⟩ := hW
  rw [hs] at hV
  obtain ⟨g, t, cs, fuel, d, p1, rfl, hg, ht, hvar, htr, rfl⟩ := trodVars_one hV
  have hlt := fun x hx => hW'.lt x hx
  have e := hfn d rfl
  refine ⟨ds, [d], _, [], p, MemPlace.row ⟨g, 0, none⟩ cs.size ++ p1 ++ [], hW', ?_, ?_, ?_, hbel.frame _, fun h => by cases h⟩
  · rw [e, hr, hv]
    exact trodAll_mk1 (shut_bool hb true)
  · rw [e]
    have : ∀ (ts : List TypeId) (vs : List Value) (ds : List (DataW H)) (p : List MemPlace), (∀ t ∈ ts, P.readableRec t = true ∧ t < P.types.size) → (∀ x ∈ p, x.block < W.heap.size) → DataW.TrodAll enc P W 0 (fun _ => true) true ts vs ds p → DataW.TrodAll enc P W' 0 (fun b => decide (b < W.heap.size)) true ts vs ds p := by
      intro ts
      induction ts with
      | nil =>
        intro vs ds p _ _ h
        cases vs <;> cases ds <;> first | exact h | exact h.elim
      | cons t ts ih =>
        intro vs ds p hts hlt h
        cases vs with
        | nil => exact h.elim
        | cons v vs =>
          cases ds with
          | nil => exact h.elim
          | cons d ds =>
            obtain ⟨p, q, h1, h2, rfl⟩ := h
            have ht := hts t (List.mem_cons_self ..)
            exact ⟨p, q, Below.trod hl ht.1 ht.2 h1 hbel (fun x hx => hlt x (List.mem_append_left _ hx)), ih _ _ _ (fun t h => hts t (List.mem_cons_of_mem _ h)) (fun x hx => hlt x (List.mem_append_right _ hx)) h2, rfl⟩
    exact this _ _ _ _ hps (fun x hx => hlt x (List.mem_append_left _ hx)) hA
  · rw [e, hs]
    have hgl : g < W.heap.size := by
      rcases Nat.lt_or_ge g W.heap.size with h | h
      · exact h
      · simp only [World.var?, hg, Option.bind_some] at hvar
        rw [Array.getElem?_eq_none h] at hvar
        cases hvar
    · have hgt' := hgt g t hg ht
      have htr' : DataW.Trod enc P W 0 (fun _ => true) true t (.agg cs) d p1 := ⟨fuel, by simpa [Value.cells] using htr⟩
      obtain ⟨f2, h2⟩ := Below.trod hl hgt'.1 hgt'.2 htr' hbel (fun x hx => hlt x (List.mem_append_right _ (List.mem_append_right _ hx)))
      exact ⟨g, t, cs, f2, p1, [], hg, ht, var?_below hbel hg hgl hvar, by simpa [Value.cells] using h2, rfl, by simp⟩
end Go.PF
