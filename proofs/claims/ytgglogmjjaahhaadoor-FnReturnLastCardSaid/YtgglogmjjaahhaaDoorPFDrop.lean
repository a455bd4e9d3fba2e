/- Drawn orders in which a row is made and grown: facts that are dropped; no condition. -/
import Derived.Test.YtgglogmjjaahhaaDoorPFFresh
namespace Go.PF
open Go Go.RowKit

/-- Who reads a fact that is dropped has run before the operation that drops it. -/
def dropOk (l : List Oper) (m total : Nat) (kinds : List (Option Nat)) (dr : List Nat) : Bool :=
  (List.range m).all fun i => match l[i]? with
    | none => true
    | some o => (onsOf o).all fun j => match kinds.getD i none with
      | some c => Nat.ble c (dr.getD j 1000000)
      | none => Nat.ble total (dr.getD j 1000000) || ((List.range m).all fun i0 => kinds.getD i0 none != some (dr.getD j 1000000) || ((masks l []).getD i0 0).testBit i)
theorem dropOk_dep {l : List Oper} {m total : Nat} {kinds : List (Option Nat)} {dr : List Nat} (h : dropOk l m total kinds dr = true) {i j : Nat} {o : Oper} (hi : i < m) (ho : l[i]? = some o) (hj : j ∈ onsOf o) :
    (∃ c, kinds.getD i none = some c ∧ c ≤ dr.getD j 1000000) ∨ total ≤ dr.getD j 1000000 ∨ ∀ i0, i0 < m → kinds.getD i0 none = some (dr.getD j 1000000) → ((masks l []).getD i0 0).testBit i = true := by
  have h1 := List.all_eq_true.1 h i (List.mem_range.2 hi)
  rw [ho] at h1
  have h2 := List.all_eq_true.1 h1 j hj
  cases hk : kinds.getD i none with
  | some c =>
    rw [hk] at h2
    exact .inl ⟨c, rfl, Nat.le_of_ble_eq_true h2⟩
  | none =>
    rw [hk] at h2
    rcases Bool.or_eq_true _ _ ▸ h2 with h3 | h3
    · exact .inr (.inl (Nat.le_of_ble_eq_true h3))
    · refine .inr (.inr fun i0 hi0 hk0 => ?_)
      have h4 := List.all_eq_true.1 h3 i0 (List.mem_range.2 hi0)
      rw [hk0] at h4
      simpa using h4
section
variable {P : Program} {Q : Exit → Act → World → Prop} {n : Nat} {E : List (Nat × Value)} {w : World} {l : List Oper} {m total : Nat} {kinds : List (Option Nat)} {dr : List Nat}
theorem any_headD {S0 : World → Prop} {S : Nat → World → Prop} {St : World → World → Prop} {Φ : Nat → Value → World → Prop} (hok : drawOkA l m = true)
    (hdst : ∀ i o, i < m → l[i]? = some o → (o.dst = some (dstOf o) ∧ dstOf o < n ∧ dstOf o ∉ E.map (·.1)) ∨ (o.dst = none ∧ ∀ v w, Φ i v w))
    (hdne : ∀ i j o p, l[i]? = some o → l[j]? = some p → i < m → j < m → i ≠ j → o.dst ≠ none → p.dst ≠ none → dstOf o ≠ dstOf p) (hml : m ≤ l.length) (hch : chainOk l m total kinds = true)
    (hS0 : ∀ c w, S c w → S0 w) (hSq : ∀ c w w', S c w → BX No w w' → S c w') (hmonoQ : ∀ i v w w', BX No w w' → Φ i v w → Φ i v w') (hdr : dropOk l m total kinds dr = true)
    (hmono : ∀ i c v w w', c < dr.getD i 1000000 → (kinds.getD i none = none ∨ ∃ d, kinds.getD i none = some d ∧ d + 1 < total ∧ d < c) → S c w → St w w' → Φ i v w → Φ i v w')
    (hops : PRsC P l n E S0 S St Φ Q (l.take m) kinds 0)
    (htail : ∀ w D, S total w → DepFacts (fun j v w => total ≤ dr.getD j 1000000 → Φ j v w) D w (List.range m) → LW P l.toArray Q (l.drop m) n (depEnv l D E (List.range m)) w) :
    ∀ (c : Nat) (us : List Nat) (ph : Nat) (listed : Array Bool) (a : Act) (w : World), us.length = c → us.Nodup → (∀ i ∈ us, i < m) → ph ≤ total → (∀ i d, i < m → kinds.getD i none = some d → (i ∈ us ↔ ph ≤ d)) → listed.size = l.length → (∀ i, i < l.length → (listed.getD i true = false ↔ i ∈ us ∨ m ≤ i)) →
      Fits n E a → S ph w → (∀ i o, i < m → l[i]? = some o → i ∉ us → ph ≤ dr.getD i 1000000 → Φ i (a.tmps.getD (dstOf o) undef) w) → (∀ (i : Nat) (o : Oper), l[i]? = some o → listed.getD i false = true → ∀ j ∈ onsOf o, listed.getD j false = true) → wpAny P .any l.toArray Q (c + (l.length - m)) listed a w := by
  intro c
  induction c with
  | zero =>
    intro us ph listed a w hc _ _ hph hpu hs hl hF hSw hΦ _
    obtain rfl := List.eq_nil_of_length_eq_zero hc
    have hpt : ph = total := by
      rcases Nat.lt_or_ge ph total with h | h
      · obtain ⟨i, hi, hk⟩ := chainOk_ex hch h
        have := (hpu i ph hi hk).2 (Nat.le_refl _)
        simp at this
      · omega
    subst hpt
    have hr : (l.drop m).length = 0 + (l.length - m) := by rw [List.length_drop]; omega
    rw [← hr]
    refine any_tailA hok m _ listed a w rfl (Nat.le_refl _) hs (fun i hi => ?_) (htail w (fun j => a.tmps.getD (match l[j]? with | some o => dstOf o | none => 0) undef) hSw (depFacts_of fun j hj => ?_) a (fits_depEnv hF _))
    · have := hl i hi
      by_cases h : i < m
      · rw [decide_eq_true h]
        cases hb : listed.getD i true
        · rcases this.1 hb with h1 | h1
          · cases h1
          · omega
        · rfl
      · rw [decide_eq_false h]; exact this.2 (.inr (by omega))
    · have hjm := List.mem_range.1 hj
      have hjl : j < l.length := by omega
      intro hdj
      have := hΦ j _ hjm (List.getElem?_eq_getElem hjl) (by simp) hdj
      simpa [List.getElem?_eq_getElem hjl] using this
  | succ c ih =>
    intro us ph listed a w hc hnd hus hph hpu hs hl hF hSw hΦ hcl
    have hlt : ∀ i, i < m → i ∉ us → listed.getD i false = true := by
      intro i hi hn
      have h1 := hl i (by omega)
      cases hb : listed.getD i true
      · rcases h1.1 hb with h2 | h2
        · exact absurd h2 hn
        · omega
      · simp only [Array.getD, hs, show i < l.length from by omega, dite_true] at hb ⊢
        exact hb
    have hge : ∀ i, i < l.length → i ∈ us ∨ m ≤ i → listed.getD i false = false := by
      intro i hi h
      have h1 := (hl i hi).2 h
      simp only [Array.getD, hs, hi, dite_true] at h1 ⊢
      exact h1
    rw [show c + 1 + (l.length - m) = (c + (l.length - m)) + 1 from by omega]
    refine ⟨fun e => ?_, ?_⟩
    · exfalso
      have hex : ∃ i, i ∈ us ∧ ∀ j ∈ us, i ≤ j := by
        clear e ih hnd hus hl hΦ hlt hge hcl hpu
        induction us generalizing c with
        | nil => simp at hc
        | cons x xs ihx =>
          cases xs with
          | nil => exact ⟨x, by simp, by simp⟩
          | cons y ys =>
            obtain ⟨i, hi, hmin⟩ := ihx (c := ys.length) (by simp)
            by_cases hxi : x ≤ i
            · exact ⟨x, by simp, fun j hj => by
                rcases List.mem_cons.1 hj with rfl | hj
                · exact Nat.le_refl _
                · exact Nat.le_trans hxi (hmin j hj)⟩
            · exact ⟨i, by simp [List.mem_cons.1 hi], fun j hj => by
                rcases List.mem_cons.1 hj with rfl | hj
                · omega
                · exact hmin j hj⟩
      obtain ⟨i, hi, hmin⟩ := hex
      have him := hus i hi
      have hil : i < l.length := by omega
      have : i ∈ Region.ready .any l.toArray listed := ready_iff.2 ⟨(hl i hil).2 (.inl hi), l[i], List.getElem?_eq_getElem hil, fun j hj => by
        have hji := drawOkA_low hok (List.getElem?_eq_getElem hil) hj
        exact hlt j (by omega) (fun h => by have := hmin j h; omega)⟩
      rw [e] at this; cases this
    · intro i hi
      obtain ⟨h0, o, ho, hoe⟩ := ready_iff.1 hi
      have hil := (List.getElem?_eq_some_iff.1 ho).1
      have hmem := (hl i hil).1 h0
      have him : i < m := by
        rcases Nat.lt_or_ge i m with h | h
        · exact h
        · exfalso
          obtain ⟨u, hu⟩ : ∃ u, u ∈ us := by
            cases us with
            | nil => simp at hc
            | cons x xs => exact ⟨x, by simp⟩
          have h1 := (drawOkA_tail hok (L := fun i => listed.getD i false = true) hcl ho h hoe).1 u (hus u hu)
          rw [hge u (by have := hus u hu; omega) (.inl hu)] at h1
          cases h1
      have hiu : i ∈ us := by
        rcases hmem with h | h
        · exact h
        · omega
      have hdep : ∀ j ∈ onsOf o, ∃ p, l[j]? = some p ∧ j < m ∧ j ∉ us := by
        intro j hj
        have hji := drawOkA_low hok ho hj
        have hjl : j < l.length := by omega
        refine ⟨l[j], List.getElem?_eq_getElem hjl, by omega, fun h => ?_⟩
        have := hoe j hj
        rw [hge j hjl (.inl h)] at this
        cases this
      have hnum : ∀ i d, i < m → kinds.getD i none = some d → i ∈ us → ∀ o, l[i]? = some o → (∀ j ∈ onsOf o, listed.getD j false = true) → ph ≤ d → ph = d := by
        intro i d him hk hiu o ho hoe h1
        rcases Nat.lt_or_ge ph d with h | h
        · exfalso
          have hdt := chainOk_lt hch him hk
          obtain ⟨i0, hi0, hk0⟩ := chainOk_ex hch (show ph < total by omega)
          have hb := (chainOk_two hch hi0 him hk0 hk).2 h
          have hL := mask_listed (l := l) (L := fun i => listed.getD i false = true) (fun i o ho j hj => drawOkA_low hok ho hj) hcl i o ho hoe i0 hb
          have hin := (hpu i0 ph hi0 hk0).2 (Nat.le_refl _)
          rw [hge i0 (by omega) (.inl hin)] at hL
          cases hL
        · omega
      have hpdr : ∀ j ∈ onsOf o, ph ≤ dr.getD j 1000000 := by
        intro j hj
        rcases dropOk_dep hdr him ho hj with ⟨c0, hk, hc0⟩ | h | h
        · have h1 := (hpu i c0 him hk).1 hiu
          have h2 : ph = c0 := hnum i c0 him hk hiu o ho hoe h1
          omega
        · omega
        · rcases Nat.lt_or_ge (dr.getD j 1000000) ph with hlt0 | hge0
          · exfalso
            obtain ⟨i0, hi0, hk0⟩ := chainOk_ex hch (show dr.getD j 1000000 < total by omega)
            have hb := h i0 hi0 hk0
            have hi0u : i0 ∉ us := fun hu => by have := (hpu i0 _ hi0 hk0).1 hu; omega
            have hL0 := hlt i0 hi0 hi0u
            have hL := mask_listed (l := l) (L := fun i => listed.getD i false = true) (fun i o ho j hj => drawOkA_low hok ho hj) hcl i0 l[i0] (List.getElem?_eq_getElem (by omega)) (fun q hq => hcl i0 _ (List.getElem?_eq_getElem (by omega)) hL0 q hq) i hb
            have hL : listed.getD i false = true := hL
            rw [hge i (by omega) (.inl hiu)] at hL
            cases hL
          · exact hge0
      have hfacts : DepFacts Φ (fun j => a.tmps.getD (match l[j]? with | some o => dstOf o | none => 0) undef) w (onsOf o) := depFacts_of fun j hj => by
          obtain ⟨p, hp, hjm, hju⟩ := hdep j hj
          have := hΦ j p hjm hp hju (hpdr j hj)
          simpa [hp] using this
      have hgo : ∀ ph' v w', ph' ≤ total → (∀ j d, j < m → kinds.getD j none = some d → (j ∈ us.erase i ↔ ph' ≤ d)) → S ph' w' → (∀ j, j < m → j ≠ i → j ∉ us → ph' ≤ dr.getD j 1000000 → ∀ v, (ph ≤ dr.getD j 1000000 → Φ j v w) → Φ j v w') → Φ i v w' → wpAny P .any l.toArray Q (c + (l.length - m)) (listed.setIfInBounds i true) (a.put o.dst v) w' := by
        intro ph' v w' hph' hpu' hS' hmo hphi
        have hfin : ∀ a', Fits n E a' → (∀ j p, j < m → l[j]? = some p → j ∉ us.erase i → ph' ≤ dr.getD j 1000000 → Φ j (a'.tmps.getD (dstOf p) undef) w') → wpAny P .any l.toArray Q (c + (l.length - m)) (listed.setIfInBounds i true) a' w' := by
          intro a' hF' hΦ'
          refine ih (us.erase i) ph' _ _ w' (by rw [List.length_erase_of_mem hiu]; omega) (hnd.erase i) (fun j hj => hus j (List.mem_of_mem_erase hj)) hph' hpu' (by simpa using hs) (fun j hj => ?_) hF' hS' hΦ' ?_
          · by_cases hij : i = j
            · subst hij
              simp only [Array.getD_eq_getD_getElem?, Array.getElem?_setIfInBounds_self_of_lt (by omega : i < listed.size), Option.getD_some, Bool.true_eq_false, false_iff]
              rintro (h | h)
              · exact (List.Nodup.not_mem_erase hnd) h
              · omega
            · rw [getD_set_ne true hij, hl j hj, List.mem_erase_of_ne (fun e => hij e.symm)]
          · intro j p hp hj q hq
            by_cases hij : i = j
            · subst hij
              rw [hp] at ho; obtain rfl := Option.some.inj ho
              exact getD_set_true (hoe q hq)
            · rw [getD_set_ne false hij] at hj
              exact getD_set_true (hcl j p hp hj q hq)
        rcases hdst i o him ho with ⟨hd, hdn, hdk⟩ | ⟨hd, hfree⟩
        · rw [hd]
          refine hfin _ (hF.putOff hdk v) fun j p hjm hp hju hdj => ?_
          simp only [Act.put]
          by_cases hij : j = i
          · subst hij
            rw [hp] at ho; obtain rfl := Option.some.inj ho
            rw [getD_set _ _ _ _ (by rw [hF.size]; exact hdn), if_pos rfl]; exact hphi
          · rcases hdst j p hjm hp with ⟨hd2, _, _⟩ | ⟨_, hfree⟩
            · rw [getD_set _ _ _ _ (by rw [hF.size]; exact hdn), if_neg (hdne j i p o hp ho hjm him hij (by rw [hd2]; simp) (by rw [hd]; simp))]
              exact hmo _ hjm hij (fun h => hju ((List.mem_erase_of_ne hij).2 h)) hdj _ (hΦ j p hjm hp (fun h => hju ((List.mem_erase_of_ne hij).2 h)))
            · exact hfree _ _
        · rw [hd]
          refine hfin _ hF fun j p hjm hp hju hdj => ?_
          by_cases hij : j = i
          · subst hij; exact hfree _ _
          · exact hmo _ hjm hij (fun h => hju ((List.mem_erase_of_ne hij).2 h)) hdj _ (hΦ j p hjm hp (fun h => hju ((List.mem_erase_of_ne hij).2 h)))
      have hne : ∀ j, j ≠ i → (j ∈ us.erase i ↔ j ∈ us) := fun j hj => List.mem_erase_of_ne hj
      unfold wpOp
      simp only [List.getElem?_toArray, ho]
      rcases PRsC.at_ hops (i := i) (o := o) (by rw [List.getElem?_take, if_pos him]; exact ho) with ⟨hk, hpr⟩ | ⟨d, hk, hpr⟩
      · have hpr := hpr w (fun j => a.tmps.getD (match l[j]? with | some o => dstOf o | none => 0) undef) (hS0 _ _ hSw) hfacts a (fits_depEnv hF _)
        rw [Nat.zero_add] at hpr
        have hstep : ∀ v w', BX No w w' ∧ Φ i v w' → wpAny P .any l.toArray Q (c + (l.length - m)) (listed.setIfInBounds i true) (a.put o.dst v) w' := by
          rintro v w' ⟨hb, hphi⟩
          refine hgo ph v w' hph (fun j d hj hd => ?_) (hSq _ _ _ hSw hb) (fun j _ _ _ hdj v h => hmonoQ j v w w' hb (h hdj)) hphi
          have hji : j ≠ i := by rintro rfl; rw [hk] at hd; cases hd
          rw [hne j hji]; exact hpu j d hj hd
        split
        · rename_i hw
          rw [if_pos hw] at hpr
          exact .inl (Oper.wp_mono (fun a' w' ⟨v, e, h⟩ => e ▸ hstep v w' h) hpr)
        · rename_i hw
          rw [if_neg hw] at hpr
          exact hstep _ _ hpr
      · have hpd : ph = d := hnum i d him hk hiu o ho hoe ((hpu i d him hk).1 hiu)
        subst hpd
        have hpr := hpr w (fun j => a.tmps.getD (match l[j]? with | some o => dstOf o | none => 0) undef) hSw hfacts a (fits_depEnv hF _)
        rw [Nat.zero_add] at hpr
        have hstep : ∀ v w', (S (ph + 1) w' ∧ St w w') ∧ Φ i v w' → wpAny P .any l.toArray Q (c + (l.length - m)) (listed.setIfInBounds i true) (a.put o.dst v) w' := by
          rintro v w' ⟨⟨hS', hst⟩, hphi⟩
          refine hgo (ph + 1) v w' (chainOk_lt hch him hk) (fun j d hj hd => ?_) hS' (fun j hj _ hju hdj v hv => hmono j ph v w w' (by omega) (by
            cases hd : kinds.getD j none with
            | none => exact .inl rfl
            | some d =>
              have h1 := chainOk_lt hch him hk
              have h2 : ¬ ph ≤ d := fun h => hju ((hpu j d hj hd).2 h)
              exact .inr ⟨d, rfl, by omega, by omega⟩) hSw hst (hv (by omega))) hphi
          by_cases hji : j = i
          · subst hji
            rw [hk] at hd
            obtain rfl := Option.some.inj hd
            exact ⟨fun h => absurd h (List.Nodup.not_mem_erase hnd), fun h => by omega⟩
          · rw [hne j hji, hpu j d hj hd]
            rcases (chainOk_two hch him hj hk hd).1 with e | e
            · exact absurd e.symm hji
            · omega
        split
        · rename_i hw
          rw [if_pos hw] at hpr
          exact .inl (Oper.wp_mono (fun a' w' ⟨v, e, h⟩ => e ▸ hstep v w' h) hpr)
        · rename_i hw
          rw [if_neg hw] at hpr
          exact hstep _ _ hpr
end
/-- Only rows of type T that were made since ws have changed. -/
def GrowT (T : Nat) (ws w w' : World) : Prop := BX No ws w' ∧ ∃ Y : Nat → Prop, BX Y w w' ∧ ∀ b, Y b → ∃ cs z, w.heap[b]? = some (.cells cs T z)
def MonoD (T : Nat) (ws : World) (p : Value → World → Prop) : Prop := ∀ v w w', BX No ws w → GrowT T ws w w' → p v w → p v w'
def MonoDK (T : Nat) (ws : World) : List (Option Nat) → List Nat → List (Value → World → Prop) → Prop
  | _, _, [] => True
  | none :: ks, d :: ds, p :: ps => (Nat.blt 0 d = true → MonoD T ws p) ∧ MonoDK T ws ks ds ps
  | some _ :: ks, _ :: ds, _ :: ps => MonoDK T ws ks ds ps
  | _, _, _ :: _ => False
theorem MonoDK.nth {T : Nat} {ws : World} : ∀ {ks : List (Option Nat)} {ds : List Nat} {ps : List (Value → World → Prop)}, MonoDK T ws ks ds ps → ∀ i, 0 < ds.getD i 1000000 → (ks.getD i none = none ∨ ∃ d, ks.getD i none = some d ∧ d + 1 < 1) → MonoD T ws (nthP ps i)
  | _, _, [], _, _, _, _ => fun _ _ _ _ _ _ => trivial
  | none :: _, _ :: _, _ :: _, h, 0, hd, _ => h.1 (by simpa [Nat.blt_eq] using hd)
  | none :: _, _ :: _, _ :: _, h, i + 1, hd, hk => MonoDK.nth h.2 i (by simpa using hd) (by simpa using hk)
  | some _ :: _, _ :: _, _ :: _, _, 0, _, hk => by
    rcases hk with hk | ⟨d, _, h⟩
    · simp at hk
    · omega
  | some _ :: ks, _ :: ds, _ :: ps, h, i + 1, hd, hk => MonoDK.nth (ks := ks) (ds := ds) (ps := ps) h i (by simpa using hd) (by simpa using hk)
  | [], [], _ :: _, h, _, _, _ => h.elim
  | [], _ :: _, _ :: _, h, _, _, _ => h.elim
  | none :: _, [], _ :: _, h, _, _, _ => h.elim
  | some _ :: _, [], _ :: _, h, _, _, _ => h.elim
section
variable {P : Program} {Q : Exit → Act → World → Prop} {n : Nat} {E : List (Nat × Value)} {w : World} {l : List Oper}
/-- A region that draws its order and in which one row is made and grown once. -/
theorem cw_drawD {id : Nat} (T m : Nat) (kinds : List (Option Nat)) (dr : List Nat) (ps : List (Value → World → Prop)) (hm : P.follows .mixedOrders = true) (hml : Nat.ble m l.length = true) (hok : drawOk l m n (E.map (·.1)) = true) (hch : chainOk l m 1 kinds = true) (hdr : dropOk l m 1 kinds dr = true)
    (hps : MonoL ps) (hpd : MonoDK T w kinds dr ps)
    (hops : PRsC P l n E (BX No w) (fun _ w' => BX No w w') (GrowT T w) (nthP ps) Q (l.take m) kinds 0)
    (htail : ∀ w' D, BX No w w' → DepFacts (fun j v w => 1 ≤ dr.getD j 1000000 → nthP ps j v w) D w' (List.range m) → LW P l.toArray Q (l.drop m) n (depEnv l D E (List.range m)) w') :
    CW P (.region id l.toArray true) Q n E w := by
  intro a ha
  have hml := Nat.le_of_ble_eq_true hml
  refine wp_region_any hm ?_
  have := any_headD (total := 1) (kinds := kinds) (dr := dr) (S0 := BX No w) (S := fun _ w' => BX No w w') (St := GrowT T w) (Φ := nthP ps) (drawOk_A hok) (fun _ _ hi ho => .inl (drawOk_dst hok ho hi)) (fun _ _ _ _ ho hp hi hj hne _ _ => drawOk_ne hok ho hp hi hj hne) hml hch
    (fun _ _ h => h) (fun _ _ _ h hb => h.trans hb) hps.nth hdr (fun i c v w1 w2 hc hk hS hst => hpd.nth i (by omega) (hk.imp (fun h => h) fun ⟨d, h1, h2, _⟩ => ⟨d, h1, h2⟩) v w1 w2 hS hst) hops htail m (List.range m) 0 (Array.replicate l.length false) a w.drew (by simp) List.nodup_range (fun i hi => List.mem_range.1 hi) (Nat.zero_le _) (fun i d hi _ => by simp [hi]) (by simp)
    (fun i hi => by simp [hi]; omega) ha (BX.drew w) (fun i o hi _ hn => absurd (List.mem_range.2 hi) hn) (fun i o _ hi => by simp [Array.getD] at hi)
  rw [show m + (l.length - m) = l.toArray.size from by simp; omega] at this
  simpa using this
end
/-- As MonoDK; a chained fact is kept for one step at most. -/
def MonoDN (T : Nat) (ws : World) : List (Option Nat) → List Nat → List (Value → World → Prop) → Prop
  | _, _, [] => True
  | none :: ks, d :: ds, p :: ps => (Nat.blt 0 d = true → MonoD T ws p) ∧ MonoDN T ws ks ds ps
  | some c :: ks, d :: ds, _ :: ps => Nat.ble d (c + 1) = true ∧ MonoDN T ws ks ds ps
  | _, _, _ :: _ => False
theorem MonoDN.nth {T : Nat} {ws : World} : ∀ {ks : List (Option Nat)} {ds : List Nat} {ps : List (Value → World → Prop)}, MonoDN T ws ks ds ps → ∀ i c, c < ds.getD i 1000000 → (ks.getD i none = none ∨ ∃ d, ks.getD i none = some d ∧ d < c) → MonoD T ws (nthP ps i)
  | _, _, [], _, _, _, _, _ => fun _ _ _ _ _ _ => trivial
  | none :: _, d :: _, _ :: _, h, 0, c, hd, _ => h.1 (by have hd : c < d := hd; simpa [Nat.blt_eq] using (show 0 < d by omega))
  | none :: _, _ :: _, _ :: _, h, i + 1, c, hd, hk => MonoDN.nth h.2 i c (by simpa using hd) (by simpa using hk)
  | some e :: _, d :: _, _ :: _, h, 0, c, hd, hk => by
    have h1 := Nat.le_of_ble_eq_true h.1
    have hd : c < d := hd
    rcases hk with hk | ⟨d', h2, h3⟩
    · simp at hk
    · have h2 : some e = some d' := h2
      obtain rfl := Option.some.inj h2
      omega
  | some _ :: ks, _ :: ds, _ :: ps, h, i + 1, c, hd, hk => MonoDN.nth (ks := ks) (ds := ds) (ps := ps) h.2 i c (by simpa using hd) (by simpa using hk)
  | [], [], _ :: _, h, _, _, _, _ => h.elim
  | [], _ :: _, _ :: _, h, _, _, _, _ => h.elim
  | none :: _, [], _ :: _, h, _, _, _, _ => h.elim
  | some _ :: _, [], _ :: _, h, _, _, _, _ => h.elim
section
variable {P : Program} {Q : Exit → Act → World → Prop} {n : Nat} {E : List (Nat × Value)} {w : World} {l : List Oper}
/-- As cw_drawD, with further steps that follow one another. -/
theorem cw_drawDN {id : Nat} (T m total : Nat) (kinds : List (Option Nat)) (dr : List Nat) (ps : List (Value → World → Prop)) (hm : P.follows .mixedOrders = true) (hml : Nat.ble m l.length = true) (hok : drawOk l m n (E.map (·.1)) = true) (hch : chainOk l m total kinds = true) (hdr : dropOk l m total kinds dr = true)
    (hps : MonoL ps) (hpd : MonoDN T w kinds dr ps)
    (hops : PRsC P l n E (BX No w) (fun _ w' => BX No w w') (GrowT T w) (nthP ps) Q (l.take m) kinds 0)
    (htail : ∀ w' D, BX No w w' → DepFacts (fun j v w => total ≤ dr.getD j 1000000 → nthP ps j v w) D w' (List.range m) → LW P l.toArray Q (l.drop m) n (depEnv l D E (List.range m)) w') :
    CW P (.region id l.toArray true) Q n E w := by
  intro a ha
  have hml := Nat.le_of_ble_eq_true hml
  refine wp_region_any hm ?_
  have := any_headD (total := total) (kinds := kinds) (dr := dr) (S0 := BX No w) (S := fun _ w' => BX No w w') (St := GrowT T w) (Φ := nthP ps) (drawOk_A hok) (fun _ _ hi ho => .inl (drawOk_dst hok ho hi)) (fun _ _ _ _ ho hp hi hj hne _ _ => drawOk_ne hok ho hp hi hj hne) hml hch
    (fun _ _ h => h) (fun _ _ _ h hb => h.trans hb) hps.nth hdr (fun i c v w1 w2 hc hk hS hst => hpd.nth i c hc (hk.imp (fun h => h) fun ⟨d, h1, _, h3⟩ => ⟨d, h1, h3⟩) v w1 w2 hS hst) hops htail m (List.range m) 0 (Array.replicate l.length false) a w.drew (by simp) List.nodup_range (fun i hi => List.mem_range.1 hi) (Nat.zero_le _) (fun i d hi _ => by simp [hi]) (by simp)
    (fun i hi => by simp [hi]; omega) ha (BX.drew w) (fun i o hi _ hn => absurd (List.mem_range.2 hi) hn) (fun i o _ hi => by simp [Array.getD] at hi)
  rw [show m + (l.length - m) = l.toArray.size from by simp; omega] at this
  simpa using this
end
theorem GrowT.no {T : Nat} {ws w w' : World} (h : BX No ws w) (k : BX No w w') : GrowT T ws w w' := ⟨h.trans k, No, k, fun _ e => e.elim⟩
theorem PEq.monoD {T : Nat} {ws : World} (c : Value) : MonoD T ws (PEq c) := fun _ _ _ _ _ h => h
theorem PNew.monoD {T U : Nat} {ws : World} (cs : Array Value) (hne : T ≠ U) : MonoD T ws (PNew ws U cs) := fun _ _ _ _ hg ⟨b, e, h, ho⟩ => ⟨b, e, h, by
  obtain ⟨_, Y, hb, hY⟩ := hg
  refine ho.go hb fun hy => ?_
  obtain ⟨cs', z, hc⟩ := hY b hy
  unfold Own at ho
  rw [ho] at hc
  have hc := Option.some.inj hc
  injection hc with _ h1
  exact hne h1.symm⟩
theorem PV.monoD {α : Type} {R : RTy α} {M : Nat → Prop} {x : α} {T : Nat} {ws : World} (hR : ∀ w w' M M' x vs, R.rep w M x vs → R.rep w' M' x vs) : MonoD T ws (PV R M x) := fun _ _ _ _ _ ⟨vs, h, e⟩ => ⟨vs, hR _ _ _ _ _ _ h, e⟩
section
variable {α : Type} {R : RTy α} {B T : Nat} {ws w w' : World} {M : Nat → Prop} {xs : List α} {v : Value}
/-- A slice without room, or a row that was made since ws. -/
def PNZ (R : RTy α) (B T : Nat) (ws : World) (M : Nat → Prop) (xs : List α) : Value → World → Prop := fun v w' => (xs = [] ∧ ∃ A, v = .slice A 0 0) ∨ PNQ R B T ws M xs v w'
theorem PNZ.mono : Mono (PNZ R B T ws M xs) := fun _ _ _ hb h => h.imp (fun h => h) fun h => PNQ.mono _ _ _ hb h
theorem PNQ.vrep (h : PNQ R B T ws M xs v w') (hM : ∀ b, M b → b < ws.heap.size) : VRep (RSlice R) w' M xs v := by
  have h1 : OwnRow R B T w' (AddRow v M) xs v := h.own ((Le.no M h.1).addRow h.2.1) (fun b e => .inl e)
  exact h1.freeze (Le.sub w' fun b hb => .inr hb) fun g e hm => by have := h.2.1 g e; have := hM g hm; omega
/-- A slice of old data whose cells lie in w. -/
def PLq (R : RTy α) (ws : World) (M : Nat → Prop) (ys : List α) : Value → World → Prop := fun v w => ∃ p cap news, v = .slice (some p) ys.length cap ∧ p.block < w.heap.size ∧ RepAll R ws M ys news ∧ ∀ j q, news[j]? = some q → w.cell? (p.add j) = some q
theorem PLq.mono {ys : List α} : Mono (PLq R ws M ys) := fun _ w w' hb ⟨p, cap, news, e, hp, hr, hc⟩ => ⟨p, cap, news, e, Nat.lt_of_lt_of_le hp hb.size, hr, fun j q hq => ((Le.no No hb).cell (by rw [block_add]; exact hp) (fun e => e)).trans (hc j q hq)⟩
end
section
variable {P : Program} {Q : Exit → Act → World → Prop} {n : Nat} {E : List (Nat × Value)} {ws w w0 : World} {M M0 X : Nat → Prop} {o : Oper} {K : Value → World → Prop} {α : Type}
/-- An append to a slice without room: what it gives. -/
theorem run_appendZero {R : RTy α} {t ty e B : Nat} {i : TypeInfo} {z : Value} {s by_ : Nat} {ys : List α} {A : Option Addr} {p : Addr} {cap : Nat} {news : List Value} (ht : P.underlying t = some (.slice e)) (hi : P.info? e = some i) (hz : i.zero = some z) (hsz : i.size = s) (hby : i.bytes = by_) (hzs : z.cells.size = s) (hRs : R.size = s) (hs0 : Nat.blt 0 s = true) (hb : Nat.ble by_ 4096 = true)
    (h0 : ys ≠ []) (hnr : RepAll R ws M ys news) (hnews' : ∀ j q, news[j]? = some q → w.cell? (p.add j) = some q) (hbw : BX No ws w) (hlen : ([] : List α).length + ys.length ≤ 4294967296) (hB : B ≤ ws.heap.size) :
    ∃ v' w', (Builtin.append_ #[t, t] ty #[.slice A 0 0, .slice (some p) ys.length cap]).run P w = .ok v' w' ∧ PNQ R B e ws M ys v' w' ∧ BX No w w' := by
  have hb' := Nat.le_of_ble_eq_true hb
  have hs0' : 0 < s := by simpa [Nat.blt_eq] using hs0
  have hpos : 0 < ys.length := List.length_pos_iff.2 h0
  obtain ⟨v', w', hrun, h2, h3, h4, h5⟩ := run_append_own_at (P := P) w w.heap.size t ty e i z s by_ ht hi hz hsz hby hzs hs0' (.slice none 0 0) 0 [] ⟨by simp, .inl ⟨rfl, rfl⟩⟩ p ys.length cap news (by rw [hnr.len, hRs]) hnews' hnr.flat
    (by simp only [maxLen]; simp only [List.length_nil] at hlen; omega) (by simp only [List.length_nil] at hlen; have : (0 + ys.length) * by_ ≤ 4294967296 * 4096 := Nat.mul_le_mul (by omega) hb'; omega) (Nat.le_refl _)
  have hbx : BX No w w' := ⟨h3.os, h3.tape, h3.output, h3.size, fun b hb _ => h3.block b hb (by simp [Value.ownBlock])⟩
  have hv5 : ∀ b, v'.ownBlock = some b → w.heap.size ≤ b := fun b hg => by
    rcases h5 with h5 | h5
    · rw [h5] at hg; simp [Value.ownBlock] at hg
    · rw [h5] at hg; exact Nat.le_of_eq (Option.some.inj hg)
  have hown : w'.ownsRow B e R.size v' ys.length news := by
    rw [hRs]
    have h2' : w'.ownsRow w.heap.size e s v' ys.length news := by simpa using h2
    refine ⟨h2'.1, ?_⟩
    rcases h2'.2 with h | ⟨g, cap', cur, e1, hg, r⟩
    · exact .inl h
    · exact .inr ⟨g, cap', cur, e1, Nat.le_trans hB (Nat.le_trans hbw.size hg), r⟩
  have heq : (Builtin.append_ #[t, t] ty #[.slice A 0 0, .slice (some p) ys.length cap]).run P w = .ok v' w' := by
    rw [← hrun]
    cases A with
    | none => rfl
    | some a =>
      have hn : ¬ (0 + ys.length ≤ 0) := by omega
      have hnc : Builtin.nextslicecap (0 + ys.length) 0 = 0 + ys.length := by unfold Builtin.nextslicecap; rw [if_pos (by omega)]
      have hbig : ¬ ((0 + ys.length) * i.bytes > 2 ^ 48) := by
        have : (0 + ys.length) * i.bytes ≤ 4294967296 * 4096 := Nat.mul_le_mul (by simp only [List.length_nil] at hlen; omega) (hby ▸ hb')
        omega
      have hmx : ¬ (((0 + ys.length : Nat) : Int) > IntKind.i64.max ∧ i.bytes = 0) := fun h => by
        have h1 := h.1
        have : IntKind.i64.max = 9223372036854775807 := by decide
        simp only [List.length_nil] at hlen
        rw [this] at h1; omega
      have l0 : ∀ w, (loadCells a (0 * i.size)).run P w = .ok #[] w := fun w => by rw [Nat.zero_mul]; rfl
      unfold Builtin.append_
      simp only [List.getElem?_toArray, List.getElem?_cons_zero, List.getElem?_cons_succ, Sem.run_bind, run_underlying ht, Result.andThen_ok, sizeOf, typeInfo, run_program, hi, Sem.run_pure, Bool.false_eq_true, if_false, Builtin.lenOf, Bool.not_false, if_true, if_neg hn, if_neg hmx, hnc, if_neg hbig, Builtin.firstCells, l0, false_or]
  exact ⟨v', w', heq, ⟨hbw.trans hbx, fun b hg => Nat.le_trans hbw.size (hv5 b hg), news, hown, hnr⟩, hbx⟩
theorem ow_appendCopyZ {R : RTy α} {x y : Operand} {t ty e B : Nat} {i : TypeInfo} {z : Value} {s by_ : Nat} {ys zs : List α} {p0 : Addr} {u v : Value} (hop : o.op = .call { callee := .builtin .append, args := #[x, y], argTypes := #[t, t] }) (_hty : o.type = ty)
    (hx : opv E x = some v) (hv : v = .slice (some p0) 0 0) (hy : opv E y = some u) (ht : P.underlying t = some (.slice e)) (hi : P.info? e = some i) (hz : i.zero = some z) (hsz : i.size = s) (hby : i.bytes = by_) (hzs : z.cells.size = s) (hRs : R.size = s) (hs0 : Nat.blt 0 s = true) (hb : Nat.ble by_ 4096 = true)
    (hu : VRep (RSlice R) ws M ys u) (hbw : BX No ws w) (hzz : appF ([] : List α) ys = some zs) (hB : B ≤ ws.heap.size)
    (k : ∀ v' w', PNZ R B e ws M zs v' w' → BX No w w' → K v' w') : OW P o n E w K Q := by
  subst hv
  obtain ⟨hz', hlen⟩ := appF_some hzz
  rw [List.nil_append] at hz'
  rw [hz'] at k
  clear hz' hzz
  obtain ⟨A', cap, rfl, hcap, hcmax, hrow⟩ := vslice_shape hu
  by_cases h0 : ys = []
  · subst h0
    refine ow_run (v := .slice (some p0) 0 0) (w' := w) (fun a ha => ?_) (k _ _ (.inl ⟨rfl, _, rfl⟩) (BX.refl _ _))
    cases A' <;> simp [execOp, hop, resolve, invoke, builtin, ha.opv hx, ha.opv hy, Builtin.append_, run_underlying ht, sizeOf, typeInfo, hi, Builtin.lenOf, Builtin.firstCells, storeCells, loadCells, loadCellsFrom]
  · obtain ⟨p, rfl, hp1, hp2, news, hnr, hnews⟩ := hrow h0
    have hnews' : ∀ j q, news[j]? = some q → w.cell? (p.add j) = some q := fun j q hq => ((Le.no M hbw).cell (by rw [block_add]; exact hp2) (by rw [block_add]; exact hp1)).trans (hnews j q hq)
    obtain ⟨v', w', heq, h1, h2⟩ := run_appendZero (P := P) (ty := o.type) (A := some p0) (cap := cap) ht hi hz hsz hby hzs hRs hs0 hb h0 hnr hnews' hbw hlen hB
    exact ow_run (v := v') (w' := w') (fun a ha => by simp [execOp, hop, resolve, invoke, builtin, ha.opv hx, ha.opv hy, heq]) (k _ _ (.inr h1) h2)
/-- A row that was made since ws grows by old data and is given away. -/
theorem ow_growZ {R : RTy α} {x y : Operand} {t ty e : Nat} {i : TypeInfo} {z : Value} {s by_ : Nat} {xs ys zs : List α} {v u : Value} (hop : o.op = .call { callee := .builtin .append, args := #[x, y], argTypes := #[t, t] }) (_hty : o.type = ty)
    (hx : opv E x = some v) (hy : opv E y = some u) (ht : P.underlying t = some (.slice e)) (hi : P.info? e = some i) (hz : i.zero = some z) (hsz : i.size = s) (hby : i.bytes = by_) (hzs : z.cells.size = s) (hRs : R.size = s) (hs0 : Nat.blt 0 s = true) (hb : Nat.ble by_ 4096 = true)
    (hv : PNZ R ws.heap.size e ws M xs v w) (hbw : BX No ws w) (hu : PLq R ws M ys u w) (h0 : ys ≠ []) (hzz : appF xs ys = some zs) (hM : ∀ b, M b → b < ws.heap.size)
    (k : ∀ v' w', VRep (RSlice R) w' M zs v' → GrowT e ws w w' → K v' w') : OW P o n E w K Q := by
  obtain ⟨rfl, hlen⟩ := appF_some hzz
  obtain ⟨p, cap, news, rfl, hp, hnr, hnews⟩ := hu
  have hb' := Nat.le_of_ble_eq_true hb
  have hs0' : 0 < s := by simpa [Nat.blt_eq] using hs0
  rcases hv with ⟨rfl, A, rfl⟩ | hv
  · obtain ⟨v', w', heq, h1, h2⟩ := run_appendZero (P := P) (ty := o.type) (A := A) (cap := cap) (B := ws.heap.size) ht hi hz hsz hby hzs hRs hs0 hb h0 hnr hnews hbw hlen (Nat.le_refl _)
    exact ow_run (v := v') (w' := w') (fun a ha => by simp [execOp, hop, resolve, invoke, builtin, ha.opv hx, ha.opv hy, heq]) (k _ _ (h1.vrep hM) ⟨h1.1, No, h2, fun _ e => e.elim⟩)
  · obtain ⟨_, hv2, cells, hown, hrep⟩ := hv
    obtain ⟨v', w', hrun, h2, h3, _, h5⟩ := run_append_own_at (P := P) w ws.heap.size t o.type e i z s by_ ht hi hz hsz hby hzs hs0' v xs.length cells (hRs ▸ hown) p ys.length cap news (by rw [hnr.len, hRs]) hnews hnr.flat
      (by simp only [maxLen]; omega) (by have : (xs.length + ys.length) * by_ ≤ 4294967296 * 4096 := Nat.mul_le_mul hlen hb'; omega) hbw.size
    have hbx : BX (fun b => v.ownBlock = some b) w w' := ⟨h3.os, h3.tape, h3.output, h3.size, fun b hb hn => h3.block b hb (fun e => hn e.symm)⟩
    have hbs : BX No ws w' := ((hbw.no_to (Y := fun b => v.ownBlock = some b)).trans hbx).mono fun b hb e => by have := hv2 b e; omega
    have hq : PNQ R ws.heap.size e ws M (xs ++ ys) v' w' := ⟨hbs, fun b hg => by
        rcases h5 with h5 | h5
        · rw [h5] at hg; exact hv2 b hg
        · rw [h5] at hg; rw [← Option.some.inj hg]; exact hbw.size, cells ++ news, by rw [List.length_append, hRs]; exact h2, hrep.append hnr⟩
    refine ow_run (v := v') (w' := w') (fun a ha => by simp [execOp, hop, resolve, invoke, builtin, ha.opv hx, ha.opv hy, hrun]) (k _ _ (hq.vrep hM) ⟨hbs, _, hbx, fun b hb => ?_⟩)
    rcases hown.2 with ⟨rfl, _⟩ | ⟨g, cap', cur, rfl, _, hh, _⟩
    · simp [Value.ownBlock] at hb
    · simp only [Value.ownBlock, Option.some.injEq] at hb
      subst hb
      exact ⟨cur, _, hh⟩
/-- A struct of one cell, of old data. -/
def POne (R : RTy α) (ws : World) (M : Nat → Prop) (x : α) : Value → World → Prop := fun v _ => ∃ u, v = .agg #[u] ∧ R.rep ws M x [u]
theorem POne.mono {R : RTy α} {x : α} : Mono (POne R ws M x) := fun _ _ _ _ h => h
/-- An address, and a value, of the world in which the region began. -/
def PAt (R : RTy α) (ws : World) (M : Nat → Prop) (x : α) : Value → World → Prop := fun v _ => ∃ p, v = .pointer (some p) ∧ ARep R ws M x p
theorem PAt.mono {R : RTy α} {x : α} : Mono (PAt R ws M x) := fun _ _ _ _ h => h
def PVt (R : RTy α) (ws : World) (M : Nat → Prop) (x : α) : Value → World → Prop := fun v _ => VRep R ws M x v
theorem PVt.mono {R : RTy α} {x : α} : Mono (PVt R ws M x) := fun _ _ _ _ h => h
theorem ow_loadT {R : RTy α} {x : Operand} {t : TypeId} {d : α} {p : Addr} (hop : o.op = .load t x) (hx : opv E x = some (.pointer (some p))) (hA : ARep R ws M d p) (hbw : BX No ws w)
    (hs : (sizeOf t).run P w = .ok R.size w) (ha : (isAgg t).run P w = .ok R.agg w) (k : ∀ v, VRep R ws M d v → K v w) : OW P o n E w K Q := by
  obtain ⟨hm, hb, vs, hr, hc⟩ := hA
  have hl := R.len hr
  have hc : ∀ j u, vs[j]? = some u → w.cell? (p.add j) = some u := fun j q hq => ((Le.no M hbw).cell (by rw [block_add]; exact hb) (by rw [block_add]; exact hm)).trans (hc j q hq)
  refine ow_run (v := R.pack vs) (w' := w) (fun a hF => ?_) (k _ ⟨vs, hr, rfl⟩)
  simp only [execOp, hop, hF.opv hx, Instr.loadAt, Instr.sureAddr, loadVar, Sem.run_bind, Sem.run_pure, Result.andThen_ok, ha]
  cases hag : R.agg
  · have h1 := R.one hag
    rw [h1] at hl
    match vs, hl with
    | [u], _ =>
      have := hc 0 u rfl
      have e0 : p.add 0 = p := rfl
      rw [e0] at this
      simp [RTy.pack, hag, this]
  · rw [← hl] at hs
    simp only [if_true, Sem.run_bind, hs, Result.andThen_ok, run_loadCells_list w p vs hc, RTy.pack, hag, cond_true, Sem.run_pure]
theorem ow_indexT {R : RTy α} {x i : Operand} {t e : TypeId} {xs : List α} {v : Value} {kd : IntKind} {j : Int} {y : α} (hop : o.op = .indexAddr t x i) (hx : opv E x = some v) (hi : opv E i = some (.int kd j))
    (hv : VRep (RSlice R) ws M xs v) (ht : P.underlying t = some (.slice e)) (hs : (sizeOf e).run P w = .ok R.size w) (hj : idx xs j = some y)
    (k : ∀ p, ARep R ws M y p → K (.pointer (some p)) w) : OW P o n E w K Q := by
  obtain ⟨m, rfl, hm, hy⟩ := idx_some hj
  obtain ⟨A, cap, rfl, _, _, h3⟩ := vslice_shape hv
  obtain ⟨p, rfl, hrow⟩ := h3 (by intro e; subst e; simp at hm)
  refine ow_run (v := .pointer (some (p.add (m * R.size)))) (w' := w) (fun a ha => ?_) (k _ (hrow.at_ hy))
  have h1 : (0 : Int) ≤ (m : Int) ∧ (m : Int) < (xs.length : Int) := by omega
  simp [execOp, hop, ha.opv hx, ha.opv hi, Instr.indexAt, asIntOf, run_underlying ht, hs, h1]
  intro hle; omega
theorem ow_buildSliceZ {R : RTy α} {t e : TypeId} {len : Nat} {ps : Array (Nat × Operand)} {vs : List (Nat × Value)} {cs : Array Value} {xs : List α} (hop : o.op = .buildSlice t len ps) (hx : parts E ps.toList = some vs)
    (hr : (Instr.buildSlice t len vs.toArray).run P w = .ok (.slice (some ⟨w.heap.size, 0, none⟩) len len) (w.alloc (.cells cs e))) (hl : xs.length = len) (hrep : RepAll R ws M xs cs.toList)
    (k : ∀ v' w', PLq R ws M xs v' w' → BX No w w' → K v' w') : OW P o n E w K Q := by
  have hbx := BX.alloc w (.cells cs e)
  subst hl
  exact ow_run (v := .slice (some ⟨w.heap.size, 0, none⟩) xs.length xs.length) (w' := w.alloc (.cells cs e)) (fun a ha => by simp [execOp, hop, fits_partsA ha hx, hr]) (k _ _ ⟨_, _, cs.toList, rfl, by simp, hrep, fun j u hu => cell_alloc_row _ _ _ _ _ (by simpa using hu)⟩ hbx)
end
end Go.PF
