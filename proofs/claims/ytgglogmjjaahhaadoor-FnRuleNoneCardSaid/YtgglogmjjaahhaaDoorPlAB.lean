/- Plain laws: what changes of a ruleset do to judging. -/
import Derived.Test.YtgglogmjjaahhaaDoorPlAA
namespace Go.PF.F
open Go Go.PF

/-! The action alone. -/
def waL (p : Packet) (rec : Nat → Int) : List Rule → Int
  | [] => 5
  | r :: rs =>
    if holdB p r then
      if r.Action = 1 then 1
      else if r.Action = 2 then 2
      else if r.Action = 4 then 5
      else if r.Action = 3 then
        if rec r.Chain.toNat = 5 then waL p rec rs else rec r.Chain.toNat
      else waL p rec rs
    else waL p rec rs
def wa (cs : List (List Rule)) (p : Packet) : Nat → Nat → Int
  | 0, _ => 5
  | f + 1, c => waL p (wa cs p f) (ch cs c)
theorem wkL_act (p : Packet) {rec : Nat → List Visit → Int × List Visit} {rec' : Nat → Int} (h : ∀ d v, (rec d v).1 = rec' d) (c : Nat) : ∀ (rs : List Rule) (k : Nat) (v : List Visit), (wkL p rec c k rs v).1 = waL p rec' rs := by
  intro rs
  induction rs with
  | nil => intro k v; rfl
  | cons r t ih =>
    intro k v
    unfold wkL waL
    by_cases hh : holdB p r = true
    · rw [if_pos hh, if_pos hh]
      by_cases a1 : r.Action = 1
      · rw [if_pos a1, if_pos a1]
      rw [if_neg a1, if_neg a1]
      by_cases a2 : r.Action = 2
      · rw [if_pos a2, if_pos a2]
      rw [if_neg a2, if_neg a2]
      by_cases a4 : r.Action = 4
      · rw [if_pos a4, if_pos a4]
      rw [if_neg a4, if_neg a4]
      by_cases a3 : r.Action = 3
      · rw [if_pos a3, if_pos a3, h]
        by_cases h5 : rec' r.Chain.toNat = 5
        · rw [if_pos h5, if_pos h5]; exact ih _ _
        · rw [if_neg h5, if_neg h5]; exact h _ _
      · rw [if_neg a3, if_neg a3]; exact ih _ _
    · rw [if_neg hh, if_neg hh]; exact ih _ _
theorem wk_act (cs : List (List Rule)) (p : Packet) : ∀ (f c : Nat) (v : List Visit), (wk cs p f c v).1 = wa cs p f c
  | 0, _, _ => rfl
  | f + 1, c, v => wkL_act p (fun d v => wk_act cs p f d v) c _ _ _
theorem judge_act (s : Ruleset) (p : Packet) : (judge s p).1 = wa s.Chains p 5 0 := wk_act _ _ _ _ _
/-- Rules whose walks are alike. -/
theorem wa_rel {cs cs' : List (List Rule)} {p : Packet} {R : Int → Int} (h5 : R 5 = 5) (h : ∀ (rec rec' : Nat → Int), (∀ d, rec' d = R (rec d)) → ∀ c, waL p rec' (ch cs' c) = R (waL p rec (ch cs c))) : ∀ f c, wa cs' p f c = R (wa cs p f c)
  | 0, _ => h5.symm
  | f + 1, c => h _ _ (fun d => wa_rel h5 h f d) c
theorem waL_none (p : Packet) (rec : Nat → Int) (rs : List Rule) : waL p rec (⟨[], 5, 0⟩ :: rs) = waL p rec rs := rfl
/-! Chains that are changed. -/
theorem ch_set {cs : List (List Rule)} {i : Nat} (hi : i < cs.length) (rs : List Rule) (c : Nat) : ch (cs.set i rs) c = if c = i then rs else ch cs c := by
  unfold ch
  rw [List.getElem?_set]
  by_cases e : i = c
  · rw [if_pos e, if_pos hi, if_pos e.symm]; rfl
  · rw [if_neg e, if_neg fun h => e h.symm]
theorem ch_out {cs : List (List Rule)} {c : Nat} (hc : cs.length ≤ c) : ch cs c = [] := by
  unfold ch; rw [List.getElem?_eq_none hc]; rfl
theorem ends_sub {cs cs' : List (List Rule)} (h : ∀ c d, Calls cs' c d → Calls cs c d) {c : Nat} (e : Ends cs c) : Ends cs' c :=
  Subrelation.accessible (q := fun d c => Calls cs' c d) (fun {_ _} hd => h _ _ hd) e
theorem CB.set {cs : List (List Rule)} (hb : CB cs) {i : Nat} {rs : List Rule} (hv : RsV rs) (hl : ∀ r ∈ rs, r.Chain < (cs.length : Int)) : CB (cs.set i rs) := by
  refine ⟨by rw [List.length_set]; exact hb.n1, by rw [List.length_set]; exact hb.n5, fun x hx => ?_, fun x hx r hr => ?_⟩
  · rcases List.mem_or_eq_of_mem_set hx with h | rfl
    · exact hb.rv x h
    · exact hv
  · rw [List.length_set]
    rcases List.mem_or_eq_of_mem_set hx with h | rfl
    · exact hb.lt x h r hr
    · exact hl r hr
theorem CB.map {cs : List (List Rule)} (hb : CB cs) {g : List Rule → List Rule} (hv : ∀ rs ∈ cs, RsV (g rs)) (hl : ∀ rs ∈ cs, ∀ r ∈ g rs, r.Chain < (cs.length : Int)) : CB (cs.map g) := by
  refine ⟨by rw [List.length_map]; exact hb.n1, by rw [List.length_map]; exact hb.n5, fun x hx => ?_, fun x hx r hr => ?_⟩
  · obtain ⟨y, hy, rfl⟩ := List.mem_map.1 hx
    exact hv y hy
  · rw [List.length_map]
    obtain ⟨y, hy, rfl⟩ := List.mem_map.1 hx
    exact hl y hy r hr
theorem called_cons (r : Rule) (rs : List Rule) (d : Nat) : called (r :: rs) d = ((r.Action == 3 && r.Chain == (d : Int)) || called rs d) := by
  unfold called; rw [List.any_cons]
theorem called_cons_no {r : Rule} (h : r.Action ≠ 3) (rs : List Rule) (d : Nat) : called (r :: rs) d = called rs d := by
  rw [called_cons]; simp [h]
/-! What a walk visits. -/
end Go.PF.F
