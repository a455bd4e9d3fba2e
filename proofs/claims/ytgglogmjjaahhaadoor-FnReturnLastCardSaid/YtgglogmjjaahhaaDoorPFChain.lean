/- A statement whose order is open and whose calls write one variable, one behind the other; no condition. -/
import Derived.Test.YtgglogmjjaahhaaDoorPFEls
namespace Go.PF
open Go Go.RowKit

/-- The operations that write the variable have numbers; each hangs on all that have smaller ones. -/
def chainOk (l : List Oper) (m total : Nat) (kinds : List (Option Nat)) : Bool :=
  ((List.range total).all fun c => (List.range m).any fun i => kinds.getD i none == some c) &&
  ((List.range m).all fun i => match kinds.getD i none with
    | none => true
    | some c => Nat.blt c total && ((List.range m).all fun j => match kinds.getD j none with
      | none => true
      | some d => (Nat.beq i j || !Nat.beq c d) && (!Nat.blt c d || ((masks l []).getD j 0).testBit i)))
def PRsC (P : Program) (l : List Oper) (n : Nat) (E : List (Nat × Value)) (S0 : World → Prop) (S : Nat → World → Prop) (St : World → World → Prop) (Φ : Nat → Value → World → Prop) (Q : Exit → Act → World → Prop) : List Oper → List (Option Nat) → Nat → Prop
  | [], _, _ => True
  | o :: os, none :: ks, i => (∀ (w : World) (D : Nat → Value), S0 w → DepFacts Φ D w (onsOf o) → DG P l.toArray o n (depEnv l D E (onsOf o)) w (fun v w' => BX No w w' ∧ Φ i v w') Q) ∧ PRsC P l n E S0 S St Φ Q os ks (i + 1)
  | o :: os, some c :: ks, i => (∀ (w : World) (D : Nat → Value), S c w → DepFacts Φ D w (onsOf o) → DG P l.toArray o n (depEnv l D E (onsOf o)) w (fun v w' => (S (c + 1) w' ∧ St w w') ∧ Φ i v w') Q) ∧ PRsC P l n E S0 S St Φ Q os ks (i + 1)
  | _ :: _, [], _ => False
theorem PRsC.at_ {P : Program} {l : List Oper} {n : Nat} {E : List (Nat × Value)} {S0 : World → Prop} {S : Nat → World → Prop} {St : World → World → Prop} {Φ : Nat → Value → World → Prop} {Q : Exit → Act → World → Prop} :
    ∀ {os : List Oper} {ks : List (Option Nat)} {k i : Nat} {o : Oper}, PRsC P l n E S0 S St Φ Q os ks k → os[i]? = some o →
      (ks.getD i none = none ∧ ∀ (w : World) (D : Nat → Value), S0 w → DepFacts Φ D w (onsOf o) → DG P l.toArray o n (depEnv l D E (onsOf o)) w (fun v w' => BX No w w' ∧ Φ (k + i) v w') Q) ∨
      ∃ c, ks.getD i none = some c ∧ ∀ (w : World) (D : Nat → Value), S c w → DepFacts Φ D w (onsOf o) → DG P l.toArray o n (depEnv l D E (onsOf o)) w (fun v w' => (S (c + 1) w' ∧ St w w') ∧ Φ (k + i) v w') Q
  | [], _, _, _, _, _, h => by simp at h
  | p :: os, [], k, i, o, h, ho => h.elim
  | p :: os, none :: ks, k, 0, o, h, ho => by simp at ho; subst ho; exact .inl ⟨rfl, h.1⟩
  | p :: os, some c :: ks, k, 0, o, h, ho => by simp at ho; subst ho; exact .inr ⟨c, rfl, h.1⟩
  | p :: os, none :: ks, k, i + 1, o, h, ho => by
    have := PRsC.at_ h.2 (i := i) (o := o) (by simpa using ho)
    rw [show k + (i + 1) = k + 1 + i from by omega]
    exact this
  | p :: os, some c :: ks, k, i + 1, o, h, ho => by
    have := PRsC.at_ h.2 (i := i) (o := o) (by simpa using ho)
    rw [show k + (i + 1) = k + 1 + i from by omega]
    exact this
section
variable {P : Program} {Q : Exit → Act → World → Prop} {n : Nat} {E : List (Nat × Value)} {w : World} {l : List Oper} {m total : Nat} {kinds : List (Option Nat)}
theorem chainOk_ex (h : chainOk l m total kinds = true) {c : Nat} (hc : c < total) : ∃ i, i < m ∧ kinds.getD i none = some c := by
  simp only [chainOk, Bool.and_eq_true, List.all_eq_true, List.mem_range, List.any_eq_true] at h
  obtain ⟨i, hi, e⟩ := h.1 c hc
  exact ⟨i, hi, by simpa using e⟩
theorem chainOk_lt (h : chainOk l m total kinds = true) {i c : Nat} (hi : i < m) (hc : kinds.getD i none = some c) : c < total := by
  simp only [chainOk, Bool.and_eq_true, List.all_eq_true, List.mem_range] at h
  have := h.2 i hi
  rw [hc] at this
  simp only [Bool.and_eq_true] at this
  simpa [Nat.blt_eq] using this.1
theorem chainOk_two (h : chainOk l m total kinds = true) {i j c d : Nat} (hi : i < m) (hj : j < m) (hc : kinds.getD i none = some c) (hd : kinds.getD j none = some d) :
    (i = j ∨ c ≠ d) ∧ (c < d → ((masks l []).getD j 0).testBit i = true) := by
  simp only [chainOk, Bool.and_eq_true, List.all_eq_true, List.mem_range] at h
  have := h.2 i hi
  rw [hc] at this
  simp only [Bool.and_eq_true, List.all_eq_true, List.mem_range] at this
  have := this.2 j hj
  rw [hd] at this
  simp only [Bool.and_eq_true, Bool.or_eq_true, Bool.not_eq_true'] at this
  refine ⟨?_, fun hlt => ?_⟩
  · rcases this.1 with e | e
    · exact .inl (Nat.eq_of_beq_eq_true e)
    · exact .inr (Nat.ne_of_beq_eq_false e)
  · rcases this.2 with e | e
    · have : Nat.blt c d = true := by simpa [Nat.blt_eq] using hlt
      rw [this] at e; cases e
    · exact e
theorem any_headS {S0 : World → Prop} {S : Nat → World → Prop} {St : World → World → Prop} {Φ : Nat → Value → World → Prop} (hok : drawOkA l m = true)
    (hdst : ∀ i o, i < m → l[i]? = some o → (o.dst = some (dstOf o) ∧ dstOf o < n ∧ dstOf o ∉ E.map (·.1)) ∨ (o.dst = none ∧ ∀ v w, Φ i v w))
    (hdne : ∀ i j o p, l[i]? = some o → l[j]? = some p → i < m → j < m → i ≠ j → o.dst ≠ none → p.dst ≠ none → dstOf o ≠ dstOf p) (hml : m ≤ l.length) (hch : chainOk l m total kinds = true)
    (hS0 : ∀ c w, S c w → S0 w) (hSq : ∀ c w w', S c w → BX No w w' → S c w') (hmonoQ : ∀ i v w w', BX No w w' → Φ i v w → Φ i v w') (hmono : ∀ i v w w', (kinds.getD i none = none ∨ ∃ d, kinds.getD i none = some d ∧ d + 1 < total) → St w w' → Φ i v w → Φ i v w')
    (hops : PRsC P l n E S0 S St Φ Q (l.take m) kinds 0)
    (htail : ∀ w D, S total w → DepFacts Φ D w (List.range m) → LW P l.toArray Q (l.drop m) n (depEnv l D E (List.range m)) w) :
    ∀ (c : Nat) (us : List Nat) (ph : Nat) (listed : Array Bool) (a : Act) (w : World), us.length = c → us.Nodup → (∀ i ∈ us, i < m) → ph ≤ total → (∀ i d, i < m → kinds.getD i none = some d → (i ∈ us ↔ ph ≤ d)) → listed.size = l.length → (∀ i, i < l.length → (listed.getD i true = false ↔ i ∈ us ∨ m ≤ i)) →
      Fits n E a → S ph w → (∀ i o, i < m → l[i]? = some o → i ∉ us → Φ i (a.tmps.getD (dstOf o) undef) w) → (∀ (i : Nat) (o : Oper), l[i]? = some o → listed.getD i false = true → ∀ j ∈ onsOf o, listed.getD j false = true) → wpAny P .any l.toArray Q (c + (l.length - m)) listed a w := by
  intro c
  induction c with
  | zero =>
    intro us ph listed a w hc _ _ hph hpu hs hl hF hSw hΦ _
    obtain rfl := List.eq_nil_of_length_eq_zero hc
    have hpt : ph = total := by
      rcases Nat.lt_or_ge ph total with h | h
      · obtain ⟨i, hi, hk⟩ := chainOk_ex hch h
        have := (hpu i ph hi hk).2 (Nat.le_refl _)
        simp at this
      · omega
    subst hpt
    have hr : (l.drop m).length = 0 + (l.length - m) := by rw [List.length_drop]; omega
    rw [← hr]
    refine any_tailA hok m _ listed a w rfl (Nat.le_refl _) hs (fun i hi => ?_) (htail w (fun j => a.tmps.getD (match l[j]? with | some o => dstOf o | none => 0) undef) hSw (depFacts_of fun j hj => ?_) a (fits_depEnv hF _))
    · have := hl i hi
      by_cases h : i < m
      · rw [decide_eq_true h]
        cases hb : listed.getD i true
        · rcases this.1 hb with h1 | h1
          · cases h1
          · omega
        · rfl
      · rw [decide_eq_false h]; exact this.2 (.inr (by omega))
    · have hjm := List.mem_range.1 hj
      have hjl : j < l.length := by omega
      have := hΦ j _ hjm (List.getElem?_eq_getElem hjl) (by simp)
      simpa [List.getElem?_eq_getElem hjl] using this
  | succ c ih =>
    intro us ph listed a w hc hnd hus hph hpu hs hl hF hSw hΦ hcl
    have hlt : ∀ i, i < m → i ∉ us → listed.getD i false = true := by
      intro i hi hn
      have h1 := hl i (by omega)
      cases hb : listed.getD i true
      · rcases h1.1 hb with h2 | h2
        · exact absurd h2 hn
        · omega
      · simp only [Array.getD, hs, show i < l.length from by omega, dite_true] at hb ⊢
        exact hb
    have hge : ∀ i, i < l.length → i ∈ us ∨ m ≤ i → listed.getD i false = false := by
      intro i hi h
      have h1 := (hl i hi).2 h
      simp only [Array.getD, hs, hi, dite_true] at h1 ⊢
      exact h1
    rw [show c + 1 + (l.length - m) = (c + (l.length - m)) + 1 from by omega]
    refine ⟨fun e => ?_, ?_⟩
    · exfalso
      have hex : ∃ i, i ∈ us ∧ ∀ j ∈ us, i ≤ j := by
        clear e ih hnd hus hl hΦ hlt hge hcl hpu
        induction us generalizing c with
        | nil => simp at hc
        | cons x xs ihx =>
          cases xs with
          | nil => exact ⟨x, by simp, by simp⟩
          | cons y ys =>
            obtain ⟨i, hi, hmin⟩ := ihx (c := ys.length) (by simp)
            by_cases hxi : x ≤ i
            · exact ⟨x, by simp, fun j hj => by
                rcases List.mem_cons.1 hj with rfl | hj
                · exact Nat.le_refl _
                · exact Nat.le_trans hxi (hmin j hj)⟩
            · exact ⟨i, by simp [List.mem_cons.1 hi], fun j hj => by
                rcases List.mem_cons.1 hj with rfl | hj
                · omega
                · exact hmin j hj⟩
      obtain ⟨i, hi, hmin⟩ := hex
      have him := hus i hi
      have hil : i < l.length := by omega
      have : i ∈ Region.ready .any l.toArray listed := ready_iff.2 ⟨(hl i hil).2 (.inl hi), l[i], List.getElem?_eq_getElem hil, fun j hj => by
        have hji := drawOkA_low hok (List.getElem?_eq_getElem hil) hj
        exact hlt j (by omega) (fun h => by have := hmin j h; omega)⟩
      rw [e] at this; cases this
    · intro i hi
      obtain ⟨h0, o, ho, hoe⟩ := ready_iff.1 hi
      have hil := (List.getElem?_eq_some_iff.1 ho).1
      have hmem := (hl i hil).1 h0
      have him : i < m := by
        rcases Nat.lt_or_ge i m with h | h
        · exact h
        · exfalso
          obtain ⟨u, hu⟩ : ∃ u, u ∈ us := by
            cases us with
            | nil => simp at hc
            | cons x xs => exact ⟨x, by simp⟩
          have h1 := (drawOkA_tail hok (L := fun i => listed.getD i false = true) hcl ho h hoe).1 u (hus u hu)
          rw [hge u (by have := hus u hu; omega) (.inl hu)] at h1
          cases h1
      have hiu : i ∈ us := by
        rcases hmem with h | h
        · exact h
        · omega
      have hdep : ∀ j ∈ onsOf o, ∃ p, l[j]? = some p ∧ j < m ∧ j ∉ us := by
        intro j hj
        have hji := drawOkA_low hok ho hj
        have hjl : j < l.length := by omega
        refine ⟨l[j], List.getElem?_eq_getElem hjl, by omega, fun h => ?_⟩
        have := hoe j hj
        rw [hge j hjl (.inl h)] at this
        cases this
      have hfacts : DepFacts Φ (fun j => a.tmps.getD (match l[j]? with | some o => dstOf o | none => 0) undef) w (onsOf o) := depFacts_of fun j hj => by
          obtain ⟨p, hp, hjm, hju⟩ := hdep j hj
          have := hΦ j p hjm hp hju
          simpa [hp] using this
      have hgo : ∀ ph' v w', ph' ≤ total → (∀ j d, j < m → kinds.getD j none = some d → (j ∈ us.erase i ↔ ph' ≤ d)) → S ph' w' → (∀ j, j < m → j ≠ i → j ∉ us → ∀ v, Φ j v w → Φ j v w') → Φ i v w' → wpAny P .any l.toArray Q (c + (l.length - m)) (listed.setIfInBounds i true) (a.put o.dst v) w' := by
        intro ph' v w' hph' hpu' hS' hmo hphi
        have hfin : ∀ a', Fits n E a' → (∀ j p, j < m → l[j]? = some p → j ∉ us.erase i → Φ j (a'.tmps.getD (dstOf p) undef) w') → wpAny P .any l.toArray Q (c + (l.length - m)) (listed.setIfInBounds i true) a' w' := by
          intro a' hF' hΦ'
          refine ih (us.erase i) ph' _ _ w' (by rw [List.length_erase_of_mem hiu]; omega) (hnd.erase i) (fun j hj => hus j (List.mem_of_mem_erase hj)) hph' hpu' (by simpa using hs) (fun j hj => ?_) hF' hS' hΦ' ?_
          · by_cases hij : i = j
            · subst hij
              simp only [Array.getD_eq_getD_getElem?, Array.getElem?_setIfInBounds_self_of_lt (by omega : i < listed.size), Option.getD_some, Bool.true_eq_false, false_iff]
              rintro (h | h)
              · exact (List.Nodup.not_mem_erase hnd) h
              · omega
            · rw [getD_set_ne true hij, hl j hj, List.mem_erase_of_ne (fun e => hij e.symm)]
          · intro j p hp hj q hq
            by_cases hij : i = j
            · subst hij
              rw [hp] at ho; obtain rfl := Option.some.inj ho
              exact getD_set_true (hoe q hq)
            · rw [getD_set_ne false hij] at hj
              exact getD_set_true (hcl j p hp hj q hq)
        rcases hdst i o him ho with ⟨hd, hdn, hdk⟩ | ⟨hd, hfree⟩
        · rw [hd]
          refine hfin _ (hF.putOff hdk v) fun j p hjm hp hju => ?_
          simp only [Act.put]
          by_cases hij : j = i
          · subst hij
            rw [hp] at ho; obtain rfl := Option.some.inj ho
            rw [getD_set _ _ _ _ (by rw [hF.size]; exact hdn), if_pos rfl]; exact hphi
          · rcases hdst j p hjm hp with ⟨hd2, _, _⟩ | ⟨_, hfree⟩
            · rw [getD_set _ _ _ _ (by rw [hF.size]; exact hdn), if_neg (hdne j i p o hp ho hjm him hij (by rw [hd2]; simp) (by rw [hd]; simp))]
              exact hmo _ hjm hij (fun h => hju ((List.mem_erase_of_ne hij).2 h)) _ (hΦ j p hjm hp (fun h => hju ((List.mem_erase_of_ne hij).2 h)))
            · exact hfree _ _
        · rw [hd]
          refine hfin _ hF fun j p hjm hp hju => ?_
          by_cases hij : j = i
          · subst hij; exact hfree _ _
          · exact hmo _ hjm hij (fun h => hju ((List.mem_erase_of_ne hij).2 h)) _ (hΦ j p hjm hp (fun h => hju ((List.mem_erase_of_ne hij).2 h)))
      have hne : ∀ j, j ≠ i → (j ∈ us.erase i ↔ j ∈ us) := fun j hj => List.mem_erase_of_ne hj
      unfold wpOp
      simp only [List.getElem?_toArray, ho]
      rcases PRsC.at_ hops (i := i) (o := o) (by rw [List.getElem?_take, if_pos him]; exact ho) with ⟨hk, hpr⟩ | ⟨d, hk, hpr⟩
      · have hpr := hpr w (fun j => a.tmps.getD (match l[j]? with | some o => dstOf o | none => 0) undef) (hS0 _ _ hSw) hfacts a (fits_depEnv hF _)
        rw [Nat.zero_add] at hpr
        have hstep : ∀ v w', BX No w w' ∧ Φ i v w' → wpAny P .any l.toArray Q (c + (l.length - m)) (listed.setIfInBounds i true) (a.put o.dst v) w' := by
          rintro v w' ⟨hb, hphi⟩
          refine hgo ph v w' hph (fun j d hj hd => ?_) (hSq _ _ _ hSw hb) (fun j _ _ _ v => hmonoQ j v w w' hb) hphi
          have hji : j ≠ i := by rintro rfl; rw [hk] at hd; cases hd
          rw [hne j hji]; exact hpu j d hj hd
        split
        · rename_i hw
          rw [if_pos hw] at hpr
          exact .inl (Oper.wp_mono (fun a' w' ⟨v, e, h⟩ => e ▸ hstep v w' h) hpr)
        · rename_i hw
          rw [if_neg hw] at hpr
          exact hstep _ _ hpr
      · have hpd : ph = d := by
          have h1 := (hpu i d him hk).1 hiu
          rcases Nat.lt_or_ge ph d with h | h
          · exfalso
            have hdt := chainOk_lt hch him hk
            obtain ⟨i0, hi0, hk0⟩ := chainOk_ex hch (show ph < total by omega)
            have hb := (chainOk_two hch hi0 him hk0 hk).2 h
            have hL := mask_listed (l := l) (L := fun i => listed.getD i false = true) (fun i o ho j hj => drawOkA_low hok ho hj) hcl i o ho hoe i0 hb
            have hin := (hpu i0 ph hi0 hk0).2 (Nat.le_refl _)
            rw [hge i0 (by omega) (.inl hin)] at hL
            cases hL
          · omega
        subst hpd
        have hpr := hpr w (fun j => a.tmps.getD (match l[j]? with | some o => dstOf o | none => 0) undef) hSw hfacts a (fits_depEnv hF _)
        rw [Nat.zero_add] at hpr
        have hstep : ∀ v w', (S (ph + 1) w' ∧ St w w') ∧ Φ i v w' → wpAny P .any l.toArray Q (c + (l.length - m)) (listed.setIfInBounds i true) (a.put o.dst v) w' := by
          rintro v w' ⟨⟨hS', hst⟩, hphi⟩
          refine hgo (ph + 1) v w' (chainOk_lt hch him hk) (fun j d hj hd => ?_) hS' (fun j hj _ hju v => hmono j v w w' (by
            cases hd : kinds.getD j none with
            | none => exact .inl rfl
            | some d =>
              have h1 := chainOk_lt hch him hk
              have h2 : ¬ ph ≤ d := fun h => hju ((hpu j d hj hd).2 h)
              exact .inr ⟨d, rfl, by omega⟩) hst) hphi
          by_cases hji : j = i
          · subst hji
            rw [hk] at hd
            obtain rfl := Option.some.inj hd
            exact ⟨fun h => absurd h (List.Nodup.not_mem_erase hnd), fun h => by omega⟩
          · rw [hne j hji, hpu j d hj hd]
            rcases (chainOk_two hch him hj hk hd).1 with e | e
            · exact absurd e.symm hji
            · omega
        split
        · rename_i hw
          rw [if_pos hw] at hpr
          exact .inl (Oper.wp_mono (fun a' w' ⟨v, e, h⟩ => e ▸ hstep v w' h) hpr)
        · rename_i hw
          rw [if_neg hw] at hpr
          exact hstep _ _ hpr
theorem any_headC {S0 : World → Prop} {S : Nat → World → Prop} {St : World → World → Prop} {Φ : Nat → Value → World → Prop} (hok : drawOk l m n (E.map (·.1)) = true) (hml : m ≤ l.length) (hch : chainOk l m total kinds = true)
    (hS0 : ∀ c w, S c w → S0 w) (hSq : ∀ c w w', S c w → BX No w w' → S c w') (hmonoQ : ∀ i v w w', BX No w w' → Φ i v w → Φ i v w') (hmono : ∀ i v w w', (kinds.getD i none = none ∨ ∃ d, kinds.getD i none = some d ∧ d + 1 < total) → St w w' → Φ i v w → Φ i v w')
    (hops : PRsC P l n E S0 S St Φ Q (l.take m) kinds 0)
    (htail : ∀ w D, S total w → DepFacts Φ D w (List.range m) → LW P l.toArray Q (l.drop m) n (depEnv l D E (List.range m)) w) :
    ∀ (c : Nat) (us : List Nat) (ph : Nat) (listed : Array Bool) (a : Act) (w : World), us.length = c → us.Nodup → (∀ i ∈ us, i < m) → ph ≤ total → (∀ i d, i < m → kinds.getD i none = some d → (i ∈ us ↔ ph ≤ d)) → listed.size = l.length → (∀ i, i < l.length → (listed.getD i true = false ↔ i ∈ us ∨ m ≤ i)) →
      Fits n E a → S ph w → (∀ i o, i < m → l[i]? = some o → i ∉ us → Φ i (a.tmps.getD (dstOf o) undef) w) → (∀ (i : Nat) (o : Oper), l[i]? = some o → listed.getD i false = true → ∀ j ∈ onsOf o, listed.getD j false = true) → wpAny P .any l.toArray Q (c + (l.length - m)) listed a w :=
  any_headS (drawOk_A hok) (fun _ _ hi ho => .inl (drawOk_dst hok ho hi)) (fun _ _ _ _ ho hp hi hj hne _ _ => drawOk_ne hok ho hp hi hj hne) hml hch hS0 hSq hmonoQ hmono hops htail
def MonoY (Y : Nat → Prop) (p : Value → World → Prop) : Prop := ∀ v w w', BX Y w w' → p v w → p v w'
def MonoYL (Y : Nat → Prop) : List (Value → World → Prop) → Prop
  | [] => True
  | p :: ps => MonoY Y p ∧ MonoYL Y ps
theorem MonoYL.nth {Y : Nat → Prop} : ∀ {ps : List (Value → World → Prop)}, MonoYL Y ps → ∀ i v w w', BX Y w w' → nthP ps i v w → nthP ps i v w'
  | [], _, _, _, _, _, _, _ => trivial
  | _ :: _, h, 0, v, w, w', hb, hp => h.1 v w w' hb hp
  | _ :: _, h, i + 1, v, w, w', hb, hp => MonoYL.nth h.2 i v w w' hb hp
theorem PEq.monoY {g : Nat} {M : Nat → Prop} (_hg : M g) (c : Value) : MonoY (One g) (PEq c) := fun _ _ _ _ h => h
theorem leY {g : Nat} {M : Nat → Prop} (hg : M g) {w w' : World} (hb : BX (One g) w w') : Le w M w' M := Le.of_bx M hb (fun b e => (show b = g from e) ▸ hg)
theorem PV.monoY {g : Nat} {M : Nat → Prop} (hg : M g) {α : Type} (R : RTy α) (x : α) : MonoY (One g) (PV R M x) := fun _ _ _ hb h => VRep.mono (leY hg hb) h
theorem PA.monoY {g : Nat} {M : Nat → Prop} (hg : M g) {α : Type} (R : RTy α) (x : α) : MonoY (One g) (PA R M x) := fun _ _ _ hb ⟨p, e, h⟩ => ⟨p, e, ARep.mono (leY hg hb) h⟩
theorem PT2.monoY {g : Nat} {p q : Value → World → Prop} (hp : MonoY (One g) p) (hq : MonoY (One g) q) : MonoY (One g) (PT2 p q) := fun _ w w' hb ⟨a, b, e, h1, h2⟩ => ⟨a, b, e, hp a w w' hb h1, hq b w w' hb h2⟩
theorem BX.no_to {Y : Nat → Prop} {w w' : World} (h : BX No w w') : BX Y w w' := h.mono fun _ _ e => e.elim
/-- A region that draws its order; its calls with numbers write block g, one behind the other. -/
theorem cw_drawC {id : Nat} {g T : Nat} (m total : Nat) (kinds : List (Option Nat)) (css : List (Array Value)) (ps : List (Value → World → Prop)) (hm : P.follows .mixedOrders = true) (hml : Nat.ble m l.length = true) (hok : drawOk l m n (E.map (·.1)) = true) (hch : chainOk l m total kinds = true)
    (hown : Own w g T (css.getD 0 #[])) (hps : MonoYL (One g) ps)
    (hops : PRsC P l n E (BX (One g) w) (fun c w' => BX (One g) w w' ∧ Own w' g T (css.getD c #[])) (BX (One g)) (nthP ps) Q (l.take m) kinds 0)
    (htail : ∀ w' D, BX (One g) w w' ∧ Own w' g T (css.getD total #[]) → DepFacts (nthP ps) D w' (List.range m) → LW P l.toArray Q (l.drop m) n (depEnv l D E (List.range m)) w') :
    CW P (.region id l.toArray true) Q n E w := by
  intro a ha
  have hml := Nat.le_of_ble_eq_true hml
  refine wp_region_any hm ?_
  have := any_headC (total := total) (kinds := kinds) (S0 := BX (One g) w) (S := fun c w' => BX (One g) w w' ∧ Own w' g T (css.getD c #[])) (St := BX (One g)) (Φ := nthP ps) hok hml hch
    (fun _ _ h => h.1) (fun _ _ _ h hb => ⟨h.1.trans hb.no_to, h.2.no hb⟩) (fun i v w w' hb => hps.nth i v w w' hb.no_to) (fun i v w w' _ hb => hps.nth i v w w' hb) hops htail m (List.range m) 0 (Array.replicate l.length false) a w.drew (by simp) List.nodup_range (fun i hi => List.mem_range.1 hi) (Nat.zero_le _) (fun i d hi _ => by simp [hi]) (by simp)
    (fun i hi => by simp [hi]; omega) ha ⟨(BX.drew w).no_to, hown.no (BX.drew w)⟩ (fun i o hi _ hn => absurd (List.mem_range.2 hi) hn) (fun i o _ hi => by simp [Array.getD] at hi)
  rw [show m + (l.length - m) = l.toArray.size from by simp; omega] at this
  simpa using this
/-- Nothing is said. -/
def PAny : Value → World → Prop := fun _ _ => True
theorem PAny.monoY {Y : Nat → Prop} : MonoY Y PAny := fun _ _ _ _ _ => trivial
end
end Go.PF
