import Derived.Test.YtgglogmjjaahhaaDoorPlAE
/- Plain laws: rulesets with one rule more, rulesets turned round. -/
namespace Go.PF.F
open Go Go.PF

/-! Turned round. -/
end Go.PF.F

/- Plain laws: ReturnLast. -/
namespace Go.PF.F
open Go Go.PF

theorem least_at (P : Nat → Prop) : ∀ n : Nat, (∃ m, m < n ∧ P m ∧ ∀ j, j < m → ¬ P j) ∨ ∀ j, j < n → ¬ P j
  | 0 => .inr fun j hj => by omega
  | n + 1 => by
    rcases least_at P n with ⟨m, hm, h⟩ | h
    · exact .inl ⟨m, by omega, h⟩
    · by_cases hp : P n
      · exact .inl ⟨n, by omega, hp, h⟩
      · refine .inr fun j hj => ?_
        by_cases hjn : j = n
        · rw [hjn]; exact hp
        · exact h j (by omega)
/-- Every chain returns at its end. -/
def plusR (rs : List Rule) : List Rule := rs ++ [({ Tests := [], Action := 4, Chain := 0 } : Rule)]
theorem rsv_plus {s : Ruleset} (h : RSV s) (h8 : ∀ rs ∈ s.Chains, rs.length ≠ 8) (b : Bool) : RSV ⟨s.Chains.map plusR, b⟩ := by
  have hb := h.1
  refine ⟨hb.map (fun rs hrs => ⟨fun r hr => ?_, ?_⟩) (fun rs hrs r hr => ?_), fun c hc => ?_⟩
  · rcases List.mem_append.1 hr with hr | hr
    · exact (hb.rv rs hrs).1 r hr
    · rw [List.mem_singleton.1 hr]; exact ⟨⟨by simp, by simp⟩, ⟨by decide, by decide⟩, .inr ⟨by decide, rfl⟩⟩
  · have := (hb.rv rs hrs).2
    have := h8 rs hrs
    unfold plusR
    rw [List.length_append, List.length_singleton]; omega
  · have := hb.n1
    rcases List.mem_append.1 hr with hr | hr
    · exact hb.lt rs hrs r hr
    · rw [List.mem_singleton.1 hr]; simp only; omega
  · simp only [List.length_map] at hc
    refine ends_sub (fun c d hd => ?_) (h.2 c hc)
    have hd : called (ch (s.Chains.map plusR) c) d = true := hd
    rcases Nat.lt_or_ge c s.Chains.length with hcl | hcl
    · rw [ch_map _ hcl] at hd
      unfold plusR at hd
      rw [called_app] at hd
      show called (ch s.Chains c) d = true
      simpa using hd
    · rw [ch_out (by rw [List.length_map]; exact hcl)] at hd; cases hd
theorem plain_FnReturnLast (code : List Int) (g : GAll GU8 code) : laws_FnReturnLast code = some true := by
  unfold laws_FnReturnLast
  refine draw_guard fun _ => ?_
  obtain ⟨s, q, e, hs⟩ := draw_case g
  obtain ⟨r, e1, e2, h1, h2⟩ := judge_is hs.ok q
  obtain ⟨v, e3, hv⟩ := spec_ruleset hs.ok
  rw [e]
  simp only [Option.bind_some, e1, e2, bne_self_eq_false, cond_false, e3, alive_is]
  cases v with
  | false => rfl
  | true =>
    have hr := hv.1 rfl
    have h3 := hs.1
    rw [cond_true]
    have step : ∀ k, k < s.Chains.length → (ch s.Chains k).length ≠ 8 → laws_FnReturnLast_L0 (s, q) ((k : Int), (s.Chains.take k).map plusR) = some (.nxt (((k + 1 : Nat) : Int), (s.Chains.take (k + 1)).map plusR)) := fun k hk h8 => by
      have hl := (hr.1.rv _ (ch_mem hk)).2
      unfold laws_FnReturnLast_L0
      simp only [lt_true (show (k : Int) < (s.Chains.length : Int) by omega), cond_true, ch_idx hk, Option.bind_some]
      rw [show (((ch s.Chains k).length : Int) == 8) = false from by simp; omega, cond_false, app_ok (by simp; omega), Option.bind_some, List.nil_append, app_ok (by simp; omega), Option.bind_some, app_ok (by simp; omega), Option.bind_some, W_succ (show k < 9223372036854775807 by omega), take_snoc (ch_get hk), List.map_append]
      rfl
    rcases least_at (fun k => (ch s.Chains k).length = 8) s.Chains.length with ⟨m, hm, h8, hlo⟩ | hno
    · have a1 := loop_ret (body := laws_FnReturnLast_L0 (s, q)) m (fun k : Nat => ((k : Int), (s.Chains.take k).map plusR)) true (fun k hk => step k (by omega) (hlo k hk)) (by
        unfold laws_FnReturnLast_L0
        simp only [lt_true (show (m : Int) < (s.Chains.length : Int) by omega), cond_true, ch_idx hm, Option.bind_some, alive_is]
        rw [show (((ch s.Chains m).length : Int) == 8) = true from by simp [h8]]; rfl) (fuel := ((s.Chains.length : Int) - 0).toNat.succ) (by omega)
      have a1' : loopF (laws_FnReturnLast_L0 (s, q)) ((((s.Chains.length : Int)) - 0).toNat.succ) (0, []) = some (.ret true) := a1
      rw [a1']; rfl
    · have eo := loop_brk0 (body := laws_FnReturnLast_L0 (s, q)) s.Chains.length (fun k : Nat => ((k : Int), (s.Chains.take k).map plusR)) (s0 := (0, [])) (s := ((s.Chains.length : Int), s.Chains.map plusR)) rfl (fun k hk => step k hk (hno k hk)) (by
        unfold laws_FnReturnLast_L0
        simp only [lt_false (Int.le_refl _), cond_false, List.take_length]) (fuel := ((s.Chains.length : Int) - 0).toNat.succ) (by omega)
      rw [eo, Option.bind_some]
      simp only [LR.on]
      have hok : OkRs ⟨s.Chains.map plusR, s.Accept⟩ := by
        refine ⟨by simp only [List.length_map]; omega, fun rs hrs => ?_⟩
        obtain ⟨y, hy, rfl⟩ := List.mem_map.1 hrs
        have hy2 := hs.2 y hy
        refine ⟨by unfold plusR; rw [List.length_append, List.length_singleton]; omega, fun r hr => ?_⟩
        rcases List.mem_append.1 hr with hr | hr
        · have := hy2.2 r hr; omega
        · rw [List.mem_singleton.1 hr]; simp
      have h8 : ∀ rs ∈ s.Chains, rs.length ≠ 8 := fun rs hrs => by
        obtain ⟨c, hc, rfl⟩ := List.getElem_of_mem hrs
        have := hno c hc
        unfold ch at this
        rw [List.getElem?_eq_getElem hc] at this
        exact this
      have es := judge_same hs.ok hok q ⟨fun _ => rsv_plus hr h8 _, fun _ => hr⟩ (fun _ _ => by
        rw [judgeB_wa, judgeB_wa]
        have hwa : ∀ f c, wa (s.Chains.map plusR) q f c = wa s.Chains q f c :=
          wa_rel (R := id) rfl fun rec rec' h c => by
            have : rec' = rec := funext h
            subst this
            rcases Nat.lt_or_ge c s.Chains.length with hc | hc
            · rw [ch_map _ hc]; exact waL_app q _ (.inl rfl) _
            · rw [ch_out hc, ch_out (by rw [List.length_map]; exact hc)]; rfl
        simp only [hwa]) e2
      rw [es, Option.bind_some, beq_self_eq_true]
end Go.PF.F
