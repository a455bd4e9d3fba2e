/- Plain laws: what changes of a ruleset do to judging. -/
import Derived.Test.YtbnndochnkkllaaDoorPlAA
namespace Go.PF.F
open Go Go.PF

/-! The action alone. -/
def waL (p : Packet) (rec : Nat → Int) : List Rule → Int
  | [] => 5
  | r :: rs =>
    if holdB p r then
      if r.Action = 1 then 1
      else if r.Action = 2 then 2
      else if r.Action = 4 then 5
      else if r.Action = 3 then
        if rec r.Chain.toNat = 5 then waL p rec rs else rec r.Chain.toNat
      else waL p rec rs
    else waL p rec rs
def wa (cs : List (List Rule)) (p : Packet) : Nat → Nat → Int
  | 0, _ => 5
  | f + 1, c => waL p (wa cs p f) (ch cs c)
theorem wkL_act (p : Packet) {rec : Nat → List Visit → Int × List Visit} {rec' : Nat → Int} (h : ∀ d v, (rec d v).1 = rec' d) (c : Nat) : ∀ (rs : List Rule) (k : Nat) (v : List Visit), (wkL p rec c k rs v).1 = waL p rec' rs := by
  intro rs
  induction rs with
  | nil => intro k v; rfl
  | cons r t ih =>
    intro k v
    unfold wkL waL
    by_cases hh : holdB p r = true
    · rw [if_pos hh, if_pos hh]
      by_cases a1 : r.Action = 1
      · rw [if_pos a1, if_pos a1]
      rw [if_neg a1, if_neg a1]
      by_cases a2 : r.Action = 2
      · rw [if_pos a2, if_pos a2]
      rw [if_neg a2, if_neg a2]
      by_cases a4 : r.Action = 4
      · rw [if_pos a4, if_pos a4]
      rw [if_neg a4, if_neg a4]
      by_cases a3 : r.Action = 3
      · rw [if_pos a3, if_pos a3, h]
        by_cases h5 : rec' r.Chain.toNat = 5
        · rw [if_pos h5, if_pos h5]; exact ih _ _
        · rw [if_neg h5, if_neg h5]; exact h _ _
      · rw [if_neg a3, if_neg a3]; exact ih _ _
    · rw [if_neg hh, if_neg hh]; exact ih _ _
theorem wk_act (cs : List (List Rule)) (p : Packet) : ∀ (f c : Nat) (v : List Visit), (wk cs p f c v).1 = wa cs p f c
  | 0, _, _ => rfl
  | f + 1, c, v => wkL_act p (fun d v => wk_act cs p f d v) c _ _ _
theorem judge_act (s : Ruleset) (p : Packet) : (judge s p).1 = wa s.Chains p 5 0 := wk_act _ _ _ _ _
/-- Rules whose walks are alike. -/
theorem wa_rel {cs cs' : List (List Rule)} {p : Packet} {R : Int → Int} (h5 : R 5 = 5) (h : ∀ (rec rec' : Nat → Int), (∀ d, rec' d = R (rec d)) → ∀ c, waL p rec' (ch cs' c) = R (waL p rec (ch cs c))) : ∀ f c, wa cs' p f c = R (wa cs p f c)
  | 0, _ => h5.symm
  | f + 1, c => h _ _ (fun d => wa_rel h5 h f d) c
/-- Walks that see the same rules. -/
theorem wa_reach {cs cs' : List (List Rule)} (p : Packet) {G : Nat → Prop} (hc : ∀ c d, G c → Calls cs c d → G d) (h0 : ∀ c, G c → (∀ r ∈ ch cs c, 0 ≤ r.Chain) ∧ ch cs' c = ch cs c) : ∀ f c, G c → wa cs' p f c = wa cs p f c := by
  intro f
  induction f with
  | zero => intro c _; rfl
  | succ f ih =>
    intro c hg
    unfold wa
    rw [(h0 c hg).2]
    suffices key : ∀ rs : List Rule, (∀ r ∈ rs, r ∈ ch cs c) → waL p (wa cs' p f) rs = waL p (wa cs p f) rs from key _ fun _ h => h
    intro rs
    induction rs with
    | nil => intro _; rfl
    | cons r t iht =>
      intro hin
      have hr := hin r (List.mem_cons_self ..)
      have ht := iht fun r hr => hin r (List.mem_cons_of_mem _ hr)
      unfold waL
      rw [ht]
      by_cases a3 : r.Action = 3
      · have hz := (h0 c hg).1 r hr
        rw [ih r.Chain.toNat (hc c _ hg (called_mem.2 ⟨r, hr, a3, by omega⟩))]
      · simp only [if_neg a3]
theorem waL_app (p : Packet) (rec : Nat → Int) {r0 : Rule} (h : r0.Action = 4 ∨ r0.Action = 5) (rs : List Rule) : waL p rec (rs ++ [r0]) = waL p rec rs := by
  induction rs with
  | nil =>
    show waL p rec [r0] = 5
    unfold waL waL
    rcases h with h | h <;> rw [h] <;> split <;> rfl
  | cons r t ih => rw [List.cons_append]; unfold waL; rw [ih]
theorem waL_none (p : Packet) (rec : Nat → Int) (rs : List Rule) : waL p rec (⟨[], 5, 0⟩ :: rs) = waL p rec rs := rfl
theorem waL_first (p : Packet) (rec : Nat → Int) (rs : List Rule) {a : Int} (h : a = 1 ∨ a = 2) : waL p rec (⟨[], a, 0⟩ :: rs) = a := by
  rcases h with rfl | rfl <;> rfl
/-- Accepting and dropping exchanged. -/
def flipR (r : Rule) : Rule := if r.Action ≤ 2 then { r with Action := 3 - r.Action } else r
def flipA (a : Int) : Int := if a ≤ 2 then 3 - a else a
theorem waL_flip (p : Packet) {rec rec' : Nat → Int} (h : ∀ d, rec' d = flipA (rec d)) (hok : ∀ d, rec d = 1 ∨ rec d = 2 ∨ rec d = 5) (rs : List Rule) (hv : ∀ r ∈ rs, 1 ≤ r.Action ∧ r.Action ≤ 5) : waL p rec' (rs.map flipR) = flipA (waL p rec rs) := by
  induction rs with
  | nil => rfl
  | cons r t ih =>
    have ih := ih fun r hr => hv r (List.mem_cons_of_mem _ hr)
    have ha := hv r (List.mem_cons_self ..)
    rw [List.map_cons]
    unfold waL
    have hh : holdB p (flipR r) = holdB p r := by unfold flipR; split <;> rfl
    have hc : (flipR r).Chain = r.Chain := by unfold flipR; split <;> rfl
    rw [hh, hc, ih, h]
    by_cases hb : holdB p r = true
    · rw [if_pos hb, if_pos hb]
      by_cases a2 : r.Action ≤ 2
      · have : (flipR r).Action = 3 - r.Action := by unfold flipR; rw [if_pos a2]
        rw [this]
        rcases (by omega : r.Action = 1 ∨ r.Action = 2) with e | e <;> rw [e] <;> rfl
      · have : (flipR r).Action = r.Action := by unfold flipR; rw [if_neg a2]
        have n1 : ¬ r.Action = 1 := by omega
        have n2 : ¬ r.Action = 2 := by omega
        rw [this, if_neg n1, if_neg n1, if_neg n2, if_neg n2]
        by_cases a4 : r.Action = 4
        · rw [if_pos a4, if_pos a4]; rfl
        rw [if_neg a4, if_neg a4]
        by_cases a3 : r.Action = 3
        · rw [if_pos a3, if_pos a3]
          rcases hok r.Chain.toNat with e | e | e <;> rw [e]
          · rfl
          · rfl
          · rfl
        · rw [if_neg a3, if_neg a3]
    · rw [if_neg hb, if_neg hb]
theorem wa_ok (cs : List (List Rule)) (p : Packet) (f c : Nat) : wa cs p f c = 1 ∨ wa cs p f c = 2 ∨ wa cs p f c = 5 := by
  rw [← wk_act cs p f c []]; exact (wk_ok cs p f c [] (by simp)).1

/-! Chains that are changed. -/
theorem ch_set {cs : List (List Rule)} {i : Nat} (hi : i < cs.length) (rs : List Rule) (c : Nat) : ch (cs.set i rs) c = if c = i then rs else ch cs c := by
  unfold ch
  rw [List.getElem?_set]
  by_cases e : i = c
  · rw [if_pos e, if_pos hi, if_pos e.symm]; rfl
  · rw [if_neg e, if_neg fun h => e h.symm]
theorem ch_map {cs : List (List Rule)} (g : List Rule → List Rule) {c : Nat} (hc : c < cs.length) : ch (cs.map g) c = g (ch cs c) := by
  unfold ch
  rw [List.getElem?_map, List.getElem?_eq_getElem hc]; rfl
theorem ch_out {cs : List (List Rule)} {c : Nat} (hc : cs.length ≤ c) : ch cs c = [] := by
  unfold ch; rw [List.getElem?_eq_none hc]; rfl
theorem ends_sub {cs cs' : List (List Rule)} (h : ∀ c d, Calls cs' c d → Calls cs c d) {c : Nat} (e : Ends cs c) : Ends cs' c :=
  Subrelation.accessible (q := fun d c => Calls cs' c d) (fun {_ _} hd => h _ _ hd) e
theorem CB.set {cs : List (List Rule)} (hb : CB cs) {i : Nat} {rs : List Rule} (hv : RsV rs) (hl : ∀ r ∈ rs, r.Chain < (cs.length : Int)) : CB (cs.set i rs) := by
  refine ⟨by rw [List.length_set]; exact hb.n1, by rw [List.length_set]; exact hb.n5, fun x hx => ?_, fun x hx r hr => ?_⟩
  · rcases List.mem_or_eq_of_mem_set hx with h | rfl
    · exact hb.rv x h
    · exact hv
  · rw [List.length_set]
    rcases List.mem_or_eq_of_mem_set hx with h | rfl
    · exact hb.lt x h r hr
    · exact hl r hr
theorem CB.map {cs : List (List Rule)} (hb : CB cs) {g : List Rule → List Rule} (hv : ∀ rs ∈ cs, RsV (g rs)) (hl : ∀ rs ∈ cs, ∀ r ∈ g rs, r.Chain < (cs.length : Int)) : CB (cs.map g) := by
  refine ⟨by rw [List.length_map]; exact hb.n1, by rw [List.length_map]; exact hb.n5, fun x hx => ?_, fun x hx r hr => ?_⟩
  · obtain ⟨y, hy, rfl⟩ := List.mem_map.1 hx
    exact hv y hy
  · rw [List.length_map]
    obtain ⟨y, hy, rfl⟩ := List.mem_map.1 hx
    exact hl y hy r hr
theorem called_cons (r : Rule) (rs : List Rule) (d : Nat) : called (r :: rs) d = ((r.Action == 3 && r.Chain == (d : Int)) || called rs d) := by
  unfold called; rw [List.any_cons]
theorem called_cons_no {r : Rule} (h : r.Action ≠ 3) (rs : List Rule) (d : Nat) : called (r :: rs) d = called rs d := by
  rw [called_cons]; simp [h]
theorem called_app_no {r : Rule} (h : r.Action ≠ 3) (rs : List Rule) (d : Nat) : called (rs ++ [r]) d = called rs d := by
  rw [called_app]; simp [h]
theorem called_flip (rs : List Rule) (hv : ∀ r ∈ rs, 1 ≤ r.Action) (d : Nat) : called (rs.map flipR) d = called rs d := by
  induction rs with
  | nil => rfl
  | cons r t ih =>
    have h1 := hv r (List.mem_cons_self ..)
    rw [List.map_cons, called_cons, called_cons, ih fun r hr => hv r (List.mem_cons_of_mem _ hr)]
    congr 1
    unfold flipR
    by_cases h : r.Action ≤ 2
    · rw [if_pos h]
      simp only
      rw [(by simp; omega : (3 - r.Action == 3) = false), (by simp; omega : (r.Action == 3) = false)]
    · rw [if_neg h]
/-! What a walk visits. -/
/-- A visit of a rule that fits. -/
def VOk (cs : List (List Rule)) (p : Packet) (x : Visit) : Prop := ∃ (c k : Nat) (r : Rule), x = ⟨(c : Int), (k : Int)⟩ ∧ c < cs.length ∧ (ch cs c)[k]? = some r ∧ holdB p r = true
def LastOk (cs : List (List Rule)) (t : Int × List Visit) : Prop := t.1 = 1 ∨ t.1 = 2 → t.2.length < 200 → ∃ (c k : Nat) (r : Rule), t.2.getLast? = some ⟨(c : Int), (k : Int)⟩ ∧ (ch cs c)[k]? = some r ∧ r.Action = t.1
theorem see_mem {v : List Visit} {c k : Nat} {x : Visit} (h : x ∈ see v c k) : x ∈ v ∨ x = ⟨(c : Int), (k : Int)⟩ := by
  unfold see at h
  split at h
  · rcases List.mem_append.1 h with h | h
    · exact .inl h
    · exact .inr (List.mem_singleton.1 h)
  · exact .inl h
theorem see_last {v : List Visit} {c k : Nat} (hv : v.length ≤ 200) (h : (see v c k).length < 200) : (see v c k).getLast? = some ⟨(c : Int), (k : Int)⟩ := by
  unfold see at h ⊢
  by_cases hl : v.length < 200
  · rw [if_pos hl]; simp
  · rw [if_neg hl] at h; omega
theorem wk_trace {cs : List (List Rule)} (hb : CB cs) (p : Packet) : ∀ (f c : Nat) (v : List Visit), c < cs.length → v.length ≤ 200 →
    (∀ x ∈ (wk cs p f c v).2, x ∈ v ∨ (VOk cs p x ∧ Reach cs c x.Chain.toNat)) ∧ LastOk cs (wk cs p f c v) := by
  intro f
  induction f with
  | zero => intro c v _ _; exact ⟨fun x hx => .inl hx, fun h => by rcases h with h | h <;> cases h⟩
  | succ f ih =>
    intro c v hc hvl
    have hrv := hb.rv _ (ch_mem hc)
    show (∀ x ∈ (wkL p (wk cs p f) c 0 (ch cs c) v).2, x ∈ v ∨ (VOk cs p x ∧ Reach cs c x.Chain.toNat)) ∧ LastOk cs (wkL p (wk cs p f) c 0 (ch cs c) v)
    suffices key : ∀ (rs : List Rule) (k : Nat) (v : List Visit), (ch cs c).drop k = rs → v.length ≤ 200 →
        (∀ x ∈ (wkL p (wk cs p f) c k rs v).2, x ∈ v ∨ (VOk cs p x ∧ Reach cs c x.Chain.toNat)) ∧ LastOk cs (wkL p (wk cs p f) c k rs v) from key _ 0 v rfl hvl
    intro rs
    induction rs with
    | nil => intro k v _ _; exact ⟨fun x hx => .inl hx, fun h => by rcases h with h | h <;> cases h⟩
    | cons r t iht =>
      intro k v hd hvl
      have hk : (ch cs c)[k]? = some r := by
        have : ((ch cs c).drop k)[0]? = some r := by rw [hd]; rfl
        rwa [List.getElem?_drop, Nat.add_zero] at this
      have ht : (ch cs c).drop (k + 1) = t := by
        rw [← List.drop_drop, hd]; rfl
      have hsl := see_len hvl c k
      have hin : r ∈ ch cs c := List.mem_of_getElem? hk
      unfold wkL
      by_cases hh : holdB p r = true
      · have hsee : ∀ x ∈ see v c k, x ∈ v ∨ (VOk cs p x ∧ Reach cs c x.Chain.toNat) := fun x hx => by
          rcases see_mem hx with h | rfl
          · exact .inl h
          · exact .inr ⟨⟨c, k, r, rfl, hc, hk, hh⟩, by simp only [Int.toNat_natCast]; exact .refl _⟩
        have hstep : ∀ v' : List Visit, v'.length ≤ 200 → (∀ x ∈ v', x ∈ v ∨ (VOk cs p x ∧ Reach cs c x.Chain.toNat)) →
            (∀ x ∈ (wkL p (wk cs p f) c (k + 1) t v').2, x ∈ v ∨ (VOk cs p x ∧ Reach cs c x.Chain.toNat)) ∧ LastOk cs (wkL p (wk cs p f) c (k + 1) t v') := fun v' hl h =>
          ⟨fun x hx => ((iht (k + 1) v' ht hl).1 x hx).elim (h x) .inr, (iht (k + 1) v' ht hl).2⟩
        have hlast : ∀ a : Int, r.Action = a → LastOk cs (a, see v c k) := fun a ha _ hl => ⟨c, k, r, see_last hvl hl, hk, ha⟩
        rw [if_pos hh]
        by_cases a1 : r.Action = 1
        · rw [if_pos a1]; exact ⟨hsee, hlast 1 a1⟩
        rw [if_neg a1]
        by_cases a2 : r.Action = 2
        · rw [if_pos a2]; exact ⟨hsee, hlast 2 a2⟩
        rw [if_neg a2]
        by_cases a4 : r.Action = 4
        · rw [if_pos a4]; exact ⟨hsee, fun h => by rcases h with h | h <;> cases h⟩
        rw [if_neg a4]
        by_cases a3 : r.Action = 3
        · rw [if_pos a3]
          have h0 := (hrv.chain hin).1
          have hcall : Calls cs c r.Chain.toNat := called_mem.2 ⟨r, hin, a3, by omega⟩
          obtain ⟨q1, q2⟩ := ih r.Chain.toNat (see v c k) (hb.callee hc hcall) hsl
          have q1' : ∀ x ∈ (wk cs p f r.Chain.toNat (see v c k)).2, x ∈ v ∨ (VOk cs p x ∧ Reach cs c x.Chain.toNat) := fun x hx =>
            (q1 x hx).elim (hsee x) fun h => .inr ⟨h.1, .step hcall h.2⟩
          by_cases h5 : (wk cs p f r.Chain.toNat (see v c k)).1 = 5
          · rw [if_pos h5]; exact hstep _ (wk_ok cs p f _ _ hsl).2 q1'
          · rw [if_neg h5]; exact ⟨q1', q2⟩
        · rw [if_neg a3]; exact hstep _ hsl hsee
      · rw [if_neg hh]; exact iht (k + 1) v ht hvl
theorem judge_trace {s : Ruleset} (h : RSV s) (p : Packet) : (∀ x ∈ (judge s p).2, VOk s.Chains p x ∧ Reach s.Chains 0 x.Chain.toNat) ∧ LastOk s.Chains (judge s p) := by
  have := wk_trace h.1 p 5 0 [] h.1.n1 (by simp)
  exact ⟨fun x hx => (this.1 x hx).resolve_left (by simp), this.2⟩
end Go.PF.F
