/- Plain laws: what changes of a ruleset do to judging. -/
import Derived.Test.YtgglogmjjaahhaaDoorPlAA
namespace Go.PF.F
open Go Go.PF

/-! The action alone. -/
def waL (p : Packet) (rec : Nat → Int) : List Rule → Int
  | [] => 5
  | r :: rs =>
    if holdB p r then
      if r.Action = 1 then 1
      else if r.Action = 2 then 2
      else if r.Action = 4 then 5
      else if r.Action = 3 then
        if rec r.Chain.toNat = 5 then waL p rec rs else rec r.Chain.toNat
      else waL p rec rs
    else waL p rec rs
def wa (cs : List (List Rule)) (p : Packet) : Nat → Nat → Int
  | 0, _ => 5
  | f + 1, c => waL p (wa cs p f) (ch cs c)
/-! Chains that are changed. -/
theorem CB.set {cs : List (List Rule)} (hb : CB cs) {i : Nat} {rs : List Rule} (hv : RsV rs) (hl : ∀ r ∈ rs, r.Chain < (cs.length : Int)) : CB (cs.set i rs) := by
  refine ⟨by rw [List.length_set]; exact hb.n1, by rw [List.length_set]; exact hb.n5, fun x hx => ?_, fun x hx r hr => ?_⟩
  · rcases List.mem_or_eq_of_mem_set hx with h | rfl
    · exact hb.rv x h
    · exact hv
  · rw [List.length_set]
    rcases List.mem_or_eq_of_mem_set hx with h | rfl
    · exact hb.lt x h r hr
    · exact hl r hr
theorem CB.map {cs : List (List Rule)} (hb : CB cs) {g : List Rule → List Rule} (hv : ∀ rs ∈ cs, RsV (g rs)) (hl : ∀ rs ∈ cs, ∀ r ∈ g rs, r.Chain < (cs.length : Int)) : CB (cs.map g) := by
  refine ⟨by rw [List.length_map]; exact hb.n1, by rw [List.length_map]; exact hb.n5, fun x hx => ?_, fun x hx r hr => ?_⟩
  · obtain ⟨y, hy, rfl⟩ := List.mem_map.1 hx
    exact hv y hy
  · rw [List.length_map]
    obtain ⟨y, hy, rfl⟩ := List.mem_map.1 hx
    exact hl y hy r hr
/-! What a walk visits. -/
/-- A visit of a rule that fits. -/
def VOk (cs : List (List Rule)) (p : Packet) (x : Visit) : Prop := ∃ (c k : Nat) (r : Rule), x = ⟨(c : Int), (k : Int)⟩ ∧ c < cs.length ∧ (ch cs c)[k]? = some r ∧ holdB p r = true
def LastOk (cs : List (List Rule)) (t : Int × List Visit) : Prop := t.1 = 1 ∨ t.1 = 2 → t.2.length < 200 → ∃ (c k : Nat) (r : Rule), t.2.getLast? = some ⟨(c : Int), (k : Int)⟩ ∧ (ch cs c)[k]? = some r ∧ r.Action = t.1
theorem see_mem {v : List Visit} {c k : Nat} {x : Visit} (h : x ∈ see v c k) : x ∈ v ∨ x = ⟨(c : Int), (k : Int)⟩ := by
  unfold see at h
  split at h
  · rcases List.mem_append.1 h with h | h
    · exact .inl h
    · exact .inr (List.mem_singleton.1 h)
  · exact .inl h
theorem see_last {v : List Visit} {c k : Nat} (hv : v.length ≤ 200) (h : (see v c k).length < 200) : (see v c k).getLast? = some ⟨(c : Int), (k : Int)⟩ := by
  unfold see at h ⊢
  by_cases hl : v.length < 200
  · rw [if_pos hl]; simp
  · rw [if_neg hl] at h; omega
theorem wk_trace {cs : List (List Rule)} (hb : CB cs) (p : Packet) : ∀ (f c : Nat) (v : List Visit), c < cs.length → v.length ≤ 200 →
    (∀ x ∈ (wk cs p f c v).2, x ∈ v ∨ (VOk cs p x ∧ Reach cs c x.Chain.toNat)) ∧ LastOk cs (wk cs p f c v) := by
  intro f
  induction f with
  | zero => intro c v _ _; exact ⟨fun x hx => .inl hx, fun h => by rcases h with h | h <;> cases h⟩
  | succ f ih =>
    intro c v hc hvl
    have hrv := hb.rv _ (ch_mem hc)
    show (∀ x ∈ (wkL p (wk cs p f) c 0 (ch cs c) v).2, x ∈ v ∨ (VOk cs p x ∧ Reach cs c x.Chain.toNat)) ∧ LastOk cs (wkL p (wk cs p f) c 0 (ch cs c) v)
    suffices key : ∀ (rs : List Rule) (k : Nat) (v : List Visit), (ch cs c).drop k = rs → v.length ≤ 200 →
        (∀ x ∈ (wkL p (wk cs p f) c k rs v).2, x ∈ v ∨ (VOk cs p x ∧ Reach cs c x.Chain.toNat)) ∧ LastOk cs (wkL p (wk cs p f) c k rs v) from key _ 0 v rfl hvl
    intro rs
    induction rs with
    | nil => intro k v _ _; exact ⟨fun x hx => .inl hx, fun h => by rcases h with h | h <;> cases h⟩
    | cons r t iht =>
      intro k v hd hvl
      have hk : (ch cs c)[k]? = some r := by
        have : ((ch cs c).drop k)[0]? = some r := by rw [hd]; rfl
        rwa [List.getElem?_drop, Nat.add_zero] at this
      have ht : (ch cs c).drop (k + 1) = t := by
        rw [← List.drop_drop, hd]; rfl
      have hsl := see_len hvl c k
      have hin : r ∈ ch cs c := List.mem_of_getElem? hk
      unfold wkL
      by_cases hh : holdB p r = true
      · have hsee : ∀ x ∈ see v c k, x ∈ v ∨ (VOk cs p x ∧ Reach cs c x.Chain.toNat) := fun x hx => by
          rcases see_mem hx with h | rfl
          · exact .inl h
          · exact .inr ⟨⟨c, k, r, rfl, hc, hk, hh⟩, by simp only [Int.toNat_natCast]; exact .refl _⟩
        have hstep : ∀ v' : List Visit, v'.length ≤ 200 → (∀ x ∈ v', x ∈ v ∨ (VOk cs p x ∧ Reach cs c x.Chain.toNat)) →
            (∀ x ∈ (wkL p (wk cs p f) c (k + 1) t v').2, x ∈ v ∨ (VOk cs p x ∧ Reach cs c x.Chain.toNat)) ∧ LastOk cs (wkL p (wk cs p f) c (k + 1) t v') := fun v' hl h =>
          ⟨fun x hx => ((iht (k + 1) v' ht hl).1 x hx).elim (h x) .inr, (iht (k + 1) v' ht hl).2⟩
        have hlast : ∀ a : Int, r.Action = a → LastOk cs (a, see v c k) := fun a ha _ hl => ⟨c, k, r, see_last hvl hl, hk, ha⟩
        rw [if_pos hh]
        by_cases a1 : r.Action = 1
        · rw [if_pos a1]; exact ⟨hsee, hlast 1 a1⟩
        rw [if_neg a1]
        by_cases a2 : r.Action = 2
        · rw [if_pos a2]; exact ⟨hsee, hlast 2 a2⟩
        rw [if_neg a2]
        by_cases a4 : r.Action = 4
        · rw [if_pos a4]; exact ⟨hsee, fun h => by rcases h with h | h <;> cases h⟩
        rw [if_neg a4]
        by_cases a3 : r.Action = 3
        · rw [if_pos a3]
          have h0 := (hrv.chain hin).1
          have hcall : Calls cs c r.Chain.toNat := called_mem.2 ⟨r, hin, a3, by omega⟩
          obtain ⟨q1, q2⟩ := ih r.Chain.toNat (see v c k) (hb.callee hc hcall) hsl
          have q1' : ∀ x ∈ (wk cs p f r.Chain.toNat (see v c k)).2, x ∈ v ∨ (VOk cs p x ∧ Reach cs c x.Chain.toNat) := fun x hx =>
            (q1 x hx).elim (hsee x) fun h => .inr ⟨h.1, .step hcall h.2⟩
          by_cases h5 : (wk cs p f r.Chain.toNat (see v c k)).1 = 5
          · rw [if_pos h5]; exact hstep _ (wk_ok cs p f _ _ hsl).2 q1'
          · rw [if_neg h5]; exact ⟨q1', q2⟩
        · rw [if_neg a3]; exact hstep _ hsl hsee
      · rw [if_neg hh]; exact iht (k + 1) v ht hvl
theorem judge_trace {s : Ruleset} (h : RSV s) (p : Packet) : (∀ x ∈ (judge s p).2, VOk s.Chains p x ∧ Reach s.Chains 0 x.Chain.toNat) ∧ LastOk s.Chains (judge s p) := by
  have := wk_trace h.1 p 5 0 [] h.1.n1 (by simp)
  exact ⟨fun x hx => (this.1 x hx).resolve_left (by simp), this.2⟩
end Go.PF.F
