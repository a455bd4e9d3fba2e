/- Plain laws: what changes of a ruleset do to judging. -/
import Derived.Test.YtgglogmjjaahhaaDoorPlAA
namespace Go.PF.F
open Go Go.PF

/-! The action alone. -/
def waL (p : Packet) (rec : Nat → Int) : List Rule → Int
  | [] => 5
  | r :: rs =>
    if holdB p r then
      if r.Action = 1 then 1
      else if r.Action = 2 then 2
      else if r.Action = 4 then 5
      else if r.Action = 3 then
        if rec r.Chain.toNat = 5 then waL p rec rs else rec r.Chain.toNat
      else waL p rec rs
    else waL p rec rs
def wa (cs : List (List Rule)) (p : Packet) : Nat → Nat → Int
  | 0, _ => 5
  | f + 1, c => waL p (wa cs p f) (ch cs c)
theorem wkL_act (p : Packet) {rec : Nat → List Visit → Int × List Visit} {rec' : Nat → Int} (h : ∀ d v, (rec d v).1 = rec' d) (c : Nat) : ∀ (rs : List Rule) (k : Nat) (v : List Visit), (wkL p rec c k rs v).1 = waL p rec' rs := by
  intro rs
  induction rs with
  | nil => intro k v; rfl
  | cons r t ih =>
    intro k v
    unfold wkL waL
    by_cases hh : holdB p r = true
    · rw [if_pos hh, if_pos hh]
      by_cases a1 : r.Action = 1
      · rw [if_pos a1, if_pos a1]
      rw [if_neg a1, if_neg a1]
      by_cases a2 : r.Action = 2
      · rw [if_pos a2, if_pos a2]
      rw [if_neg a2, if_neg a2]
      by_cases a4 : r.Action = 4
      · rw [if_pos a4, if_pos a4]
      rw [if_neg a4, if_neg a4]
      by_cases a3 : r.Action = 3
      · rw [if_pos a3, if_pos a3, h]
        by_cases h5 : rec' r.Chain.toNat = 5
        · rw [if_pos h5, if_pos h5]; exact ih _ _
        · rw [if_neg h5, if_neg h5]; exact h _ _
      · rw [if_neg a3, if_neg a3]; exact ih _ _
    · rw [if_neg hh, if_neg hh]; exact ih _ _
theorem wk_act (cs : List (List Rule)) (p : Packet) : ∀ (f c : Nat) (v : List Visit), (wk cs p f c v).1 = wa cs p f c
  | 0, _, _ => rfl
  | f + 1, c, v => wkL_act p (fun d v => wk_act cs p f d v) c _ _ _
theorem judge_act (s : Ruleset) (p : Packet) : (judge s p).1 = wa s.Chains p 5 0 := wk_act _ _ _ _ _
/-- Accepting and dropping exchanged. -/
def flipR (r : Rule) : Rule := if r.Action ≤ 2 then { r with Action := 3 - r.Action } else r
def flipA (a : Int) : Int := if a ≤ 2 then 3 - a else a
theorem waL_flip (p : Packet) {rec rec' : Nat → Int} (h : ∀ d, rec' d = flipA (rec d)) (hok : ∀ d, rec d = 1 ∨ rec d = 2 ∨ rec d = 5) (rs : List Rule) (hv : ∀ r ∈ rs, 1 ≤ r.Action ∧ r.Action ≤ 5) : waL p rec' (rs.map flipR) = flipA (waL p rec rs) := by
  induction rs with
  | nil => rfl
  | cons r t ih =>
    have ih := ih fun r hr => hv r (List.mem_cons_of_mem _ hr)
    have ha := hv r (List.mem_cons_self ..)
    rw [List.map_cons]
    unfold waL
    have hh : holdB p (flipR r) = holdB p r := by unfold flipR; split <;> rfl
    have hc : (flipR r).Chain = r.Chain := by unfold flipR; split <;> rfl
    rw [hh, hc, ih, h]
    by_cases hb : holdB p r = true
    · rw [if_pos hb, if_pos hb]
      by_cases a2 : r.Action ≤ 2
      · have : (flipR r).Action = 3 - r.Action := by unfold flipR; rw [if_pos a2]
        rw [this]
        rcases (by omega : r.Action = 1 ∨ r.Action = 2) with e | e <;> rw [e] <;> rfl
      · have : (flipR r).Action = r.Action := by unfold flipR; rw [if_neg a2]
        have n1 : ¬ r.Action = 1 := by omega
        have n2 : ¬ r.Action = 2 := by omega
        rw [this, if_neg n1, if_neg n1, if_neg n2, if_neg n2]
        by_cases a4 : r.Action = 4
        · rw [if_pos a4, if_pos a4]; rfl
        rw [if_neg a4, if_neg a4]
        by_cases a3 : r.Action = 3
        · rw [if_pos a3, if_pos a3]
          rcases hok r.Chain.toNat with e | e | e <;> rw [e]
          · rfl
          · rfl
          · rfl
        · rw [if_neg a3, if_neg a3]
    · rw [if_neg hb, if_neg hb]
theorem wa_ok (cs : List (List Rule)) (p : Packet) (f c : Nat) : wa cs p f c = 1 ∨ wa cs p f c = 2 ∨ wa cs p f c = 5 := by
  rw [← wk_act cs p f c []]; exact (wk_ok cs p f c [] (by simp)).1

/-! Chains that are changed. -/
theorem ch_map {cs : List (List Rule)} (g : List Rule → List Rule) {c : Nat} (hc : c < cs.length) : ch (cs.map g) c = g (ch cs c) := by
  unfold ch
  rw [List.getElem?_map, List.getElem?_eq_getElem hc]; rfl
theorem ch_out {cs : List (List Rule)} {c : Nat} (hc : cs.length ≤ c) : ch cs c = [] := by
  unfold ch; rw [List.getElem?_eq_none hc]; rfl
theorem ends_sub {cs cs' : List (List Rule)} (h : ∀ c d, Calls cs' c d → Calls cs c d) {c : Nat} (e : Ends cs c) : Ends cs' c :=
  Subrelation.accessible (q := fun d c => Calls cs' c d) (fun {_ _} hd => h _ _ hd) e
theorem CB.set {cs : List (List Rule)} (hb : CB cs) {i : Nat} {rs : List Rule} (hv : RsV rs) (hl : ∀ r ∈ rs, r.Chain < (cs.length : Int)) : CB (cs.set i rs) := by
  refine ⟨by rw [List.length_set]; exact hb.n1, by rw [List.length_set]; exact hb.n5, fun x hx => ?_, fun x hx r hr => ?_⟩
  · rcases List.mem_or_eq_of_mem_set hx with h | rfl
    · exact hb.rv x h
    · exact hv
  · rw [List.length_set]
    rcases List.mem_or_eq_of_mem_set hx with h | rfl
    · exact hb.lt x h r hr
    · exact hl r hr
theorem CB.map {cs : List (List Rule)} (hb : CB cs) {g : List Rule → List Rule} (hv : ∀ rs ∈ cs, RsV (g rs)) (hl : ∀ rs ∈ cs, ∀ r ∈ g rs, r.Chain < (cs.length : Int)) : CB (cs.map g) := by
  refine ⟨by rw [List.length_map]; exact hb.n1, by rw [List.length_map]; exact hb.n5, fun x hx => ?_, fun x hx r hr => ?_⟩
  · obtain ⟨y, hy, rfl⟩ := List.mem_map.1 hx
    exact hv y hy
  · rw [List.length_map]
    obtain ⟨y, hy, rfl⟩ := List.mem_map.1 hx
    exact hl y hy r hr
theorem called_cons (r : Rule) (rs : List Rule) (d : Nat) : called (r :: rs) d = ((r.Action == 3 && r.Chain == (d : Int)) || called rs d) := by
  unfold called; rw [List.any_cons]
theorem called_flip (rs : List Rule) (hv : ∀ r ∈ rs, 1 ≤ r.Action) (d : Nat) : called (rs.map flipR) d = called rs d := by
  induction rs with
  | nil => rfl
  | cons r t ih =>
    have h1 := hv r (List.mem_cons_self ..)
    rw [List.map_cons, called_cons, called_cons, ih fun r hr => hv r (List.mem_cons_of_mem _ hr)]
    congr 1
    unfold flipR
    by_cases h : r.Action ≤ 2
    · rw [if_pos h]
      simp only
      rw [(by simp; omega : (3 - r.Action == 3) = false), (by simp; omega : (r.Action == 3) = false)]
    · rw [if_neg h]
/-! What a walk visits. -/
end Go.PF.F
