/- Plain laws of the program's small functions. -/
import Derived.Test.YtbnndochnkkllaaDoorPFPlain
import Derived.Test.YtbnndochnkkllaaDoorFun
namespace Go.PF.F
open Go Go.PF

/-! What an argument is, whatever it is. -/
def G_Span (x : Span) : Prop := GInt x.Lo ∧ GInt x.Hi
def G_Test (x : Test) : Prop := GInt x.Field ∧ GInt x.Lo ∧ GInt x.Hi ∧ GAny x.Not
def G_Packet (x : Packet) : Prop := GInt x.From ∧ GInt x.To ∧ GInt x.Port ∧ GInt x.Proto
def G_Box (x : Box) : Prop := GAll (GAll G_Span) x.Sides
def G_Flat (x : Flat) : Prop := G_Box x.Where ∧ GAny x.Accept
def G_Rule (x : Rule) : Prop := GAll G_Test x.Tests ∧ GInt x.Action ∧ GInt x.Chain
def G_Ruleset (x : Ruleset) : Prop := GAll (GAll G_Rule) x.Chains ∧ GAny x.Accept
def G_Visit (x : Visit) : Prop := GInt x.Chain ∧ GInt x.Place

/-! Sizes are counted. -/
def wSpanS (xs : List Span) : Nat := xs.length
def wSpanSS (xs : List (List Span)) : Nat := wtL wSpanS xs
def wBox (b : Box) : Nat := wSpanSS b.Sides
def wBoxS (xs : List Box) : Nat := wtL wBox xs
def wFlat (b : Flat) : Nat := wBox b.Where
def wFlatS (xs : List Flat) : Nat := wtL wFlat xs
def wRule (b : Rule) : Nat := b.Tests.length
def wRuleS (xs : List Rule) : Nat := wtL wRule xs
theorem sz_SpanS {l : Int} (h0 : 0 ≤ l) (h1 : l ≤ 1048576) {xs : List Span} (h : xs.length ≤ 9223372036854775807) : laws_szSpanS xs l = some (leftOf l (wSpanS xs)) := sz_leaf xs l h0 h1 h
theorem sz_SpanSS {l : Int} (h0 : 0 ≤ l) (h1 : l ≤ 1048576) {xs : List (List Span)} (h : xs.length ≤ 9223372036854775807) (hs : ∀ x ∈ xs, x.length ≤ 9223372036854775807) : laws_szSpanSS xs l = some (leftOf l (wSpanSS xs)) :=
  sz_list (body := laws_szSpanSS_L0 xs) xs l h0 h1 h (fun x hx _ a b => sz_SpanS a b (hs x hx)) (fun _ _ => rfl)
def OkBox (b : Box) : Prop := b.Sides.length ≤ 9223372036854775807 ∧ ∀ x ∈ b.Sides, x.length ≤ 9223372036854775807
theorem sz_Box {l : Int} (h0 : 0 ≤ l) (h1 : l ≤ 1048576) {b : Box} (h : OkBox b) : laws_szBox b l = some (leftOf l (wBox b)) := by
  unfold laws_szBox
  rw [sz_SpanSS h0 h1 h.1 h.2]
  exact sz_wrap
theorem sz_BoxS {l : Int} (h0 : 0 ≤ l) (h1 : l ≤ 1048576) {xs : List Box} (h : xs.length ≤ 9223372036854775807) (hs : ∀ x ∈ xs, OkBox x) : laws_szBoxS xs l = some (leftOf l (wBoxS xs)) :=
  sz_list (body := laws_szBoxS_L0 xs) xs l h0 h1 h (fun x hx _ a b => sz_Box a b (hs x hx)) (fun _ _ => rfl)
theorem sz_Flat {l : Int} (h0 : 0 ≤ l) (h1 : l ≤ 1048576) {b : Flat} (h : OkBox b.Where) : laws_szFlat b l = some (leftOf l (wFlat b)) := by
  unfold laws_szFlat
  rw [sz_Box h0 h1 h]
  exact sz_wrap
theorem sz_FlatS {l : Int} (h0 : 0 ≤ l) (h1 : l ≤ 1048576) {xs : List Flat} (h : xs.length ≤ 9223372036854775807) (hs : ∀ x ∈ xs, OkBox x.Where) : laws_szFlatS xs l = some (leftOf l (wFlatS xs)) :=
  sz_list (body := laws_szFlatS_L0 xs) xs l h0 h1 h (fun x hx _ a b => sz_Flat a b (hs x hx)) (fun _ _ => rfl)
theorem sz_Rule {l : Int} (h0 : 0 ≤ l) (h1 : l ≤ 1048576) {b : Rule} (h : b.Tests.length ≤ 9223372036854775807) : laws_szRule b l = some (leftOf l (wRule b)) := by
  unfold laws_szRule
  rw [show laws_szTestS b.Tests l = some (leftOf l (wRule b)) from sz_leaf b.Tests l h0 h1 h]
  exact sz_wrap
theorem sz_RuleS {l : Int} (h0 : 0 ≤ l) (h1 : l ≤ 1048576) {xs : List Rule} (h : xs.length ≤ 9223372036854775807) (hs : ∀ x ∈ xs, x.Tests.length ≤ 9223372036854775807) : laws_szRuleS xs l = some (leftOf l (wRuleS xs)) :=
  sz_list (body := laws_szRuleS_L0 xs) xs l h0 h1 h (fun x hx _ a b => sz_Rule a b (hs x hx)) (fun _ _ => rfl)

/-! A copy is what it copies. -/
theorem make_len {α : Type} {z : α} {n : Nat} (h : n ≤ 4294967296) : makeF z (n : Int) = some (List.replicate n z) := by
  unfold makeF
  rw [if_pos (by omega)]; rfl
theorem to_Span (x : Span) : laws_toSpan x = some x := rfl
theorem to_Test (x : Test) : laws_toTest x = some x := rfl
theorem to_Packet (x : Packet) : laws_toPacket x = some x := rfl
theorem to_SpanS {xs : List Span} (h : xs.length ≤ 4294967296) : laws_toSpanS xs = some xs := by
  unfold laws_toSpanS
  rw [make_len h]
  simp only [Option.bind_some]
  rw [loop_copy (f := laws_toSpan) (body := laws_toSpanS_L0 xs) xs _ (by simp) (by omega) (fun x _ => to_Span x) (fun _ _ => rfl)]; rfl
theorem to_TestS {xs : List Test} (h : xs.length ≤ 4294967296) : laws_toTestS xs = some xs := by
  unfold laws_toTestS
  rw [make_len h]
  simp only [Option.bind_some]
  rw [loop_copy (f := laws_toTest) (body := laws_toTestS_L0 xs) xs _ (by simp) (by omega) (fun x _ => to_Test x) (fun _ _ => rfl)]; rfl
theorem to_SpanSS {xs : List (List Span)} (h : xs.length ≤ 4294967296) (hs : ∀ x ∈ xs, x.length ≤ 4294967296) : laws_toSpanSS xs = some xs := by
  unfold laws_toSpanSS
  rw [make_len h]
  simp only [Option.bind_some]
  rw [loop_copy (f := laws_toSpanS) (body := laws_toSpanSS_L0 xs) xs _ (by simp) (by omega) (fun x hx => to_SpanS (hs x hx)) (fun _ _ => rfl)]; rfl
theorem ok_of_G {b : Box} (h : G_Box b) : OkBox b := ⟨h.1, fun x hx => (h.2 x hx).1⟩
/-- A box that has been counted. -/
def SmBox (b : Box) : Prop := b.Sides.length ≤ 1048576 ∧ ∀ x ∈ b.Sides, x.length ≤ 1048576
theorem to_Box {b : Box} (h : SmBox b) : laws_toBox b = some b := by
  unfold laws_toBox
  rw [to_SpanSS (Nat.le_trans h.1 (by decide)) (fun x hx => Nat.le_trans (h.2 x hx) (by decide))]; rfl
theorem to_BoxS {xs : List Box} (h : xs.length ≤ 1048576) (hs : ∀ x ∈ xs, SmBox x) : laws_toBoxS xs = some xs := by
  unfold laws_toBoxS
  rw [make_len (Nat.le_trans h (by decide))]
  simp only [Option.bind_some]
  rw [loop_copy (f := laws_toBox) (body := laws_toBoxS_L0 xs) xs _ (by simp) (by omega) (fun x hx => to_Box (hs x hx)) (fun _ _ => rfl)]; rfl
theorem to_Flat {b : Flat} (h : SmBox b.Where) : laws_toFlat b = some b := by
  unfold laws_toFlat
  rw [to_Box h]; rfl
theorem to_FlatS {xs : List Flat} (h : xs.length ≤ 1048576) (hs : ∀ x ∈ xs, SmBox x.Where) : laws_toFlatS xs = some xs := by
  unfold laws_toFlatS
  rw [make_len (Nat.le_trans h (by decide))]
  simp only [Option.bind_some]
  rw [loop_copy (f := laws_toFlat) (body := laws_toFlatS_L0 xs) xs _ (by simp) (by omega) (fun x hx => to_Flat (hs x hx)) (fun _ _ => rfl)]; rfl
theorem to_Rule {b : Rule} (h : b.Tests.length ≤ 1048576) : laws_toRule b = some b := by
  unfold laws_toRule
  rw [to_TestS (Nat.le_trans h (by decide))]; rfl
theorem to_RuleS {xs : List Rule} (h : xs.length ≤ 1048576) (hs : ∀ x ∈ xs, x.Tests.length ≤ 1048576) : laws_toRuleS xs = some xs := by
  unfold laws_toRuleS
  rw [make_len (Nat.le_trans h (by decide))]
  simp only [Option.bind_some]
  rw [loop_copy (f := laws_toRule) (body := laws_toRuleS_L0 xs) xs _ (by simp) (by omega) (fun x hx => to_Rule (hs x hx)) (fun _ _ => rfl)]; rfl

/-- What is counted is small. -/
theorem sm_Box {b : Box} (h : wBox b ≤ 1048576) : SmBox b := by
  unfold wBox wSpanSS wtL at h
  exact ⟨by omega, fun x hx => by have := mem_sum_le wSpanS hx; unfold wSpanS at *; omega⟩

/-! Equality. -/
theorem bne_dec {α : Type} [DecidableEq α] [BEq α] [LawfulBEq α] (a b : α) : (a != b) = !decide (a = b) := by
  by_cases h : a = b
  · rw [decide_eq_true h, h]; simp
  · rw [decide_eq_false h]; simp [h]
theorem eq_Span (x y : Span) : laws_eqSpan x y = some (decide (x = y)) := by
  obtain ⟨a, b⟩ := x
  obtain ⟨c, d⟩ := y
  unfold laws_eqSpan
  simp only [Span.mk.injEq]
  by_cases h1 : a = c <;> by_cases h2 : b = d <;> simp [bne_dec, h1, h2]
theorem eq_Test (x y : Test) : laws_eqTest x y = some (decide (x = y)) := by
  obtain ⟨a, b, c, d⟩ := x
  obtain ⟨a', b', c', d'⟩ := y
  unfold laws_eqTest
  simp only [Test.mk.injEq]
  by_cases h1 : a = a' <;> by_cases h2 : b = b' <;> by_cases h3 : c = c' <;> by_cases h4 : d = d' <;> simp [bne_dec, h1, h2, h3, h4]
theorem eq_Packet (x y : Packet) : laws_eqPacket x y = some (decide (x = y)) := by
  obtain ⟨a, b, c, d⟩ := x
  obtain ⟨a', b', c', d'⟩ := y
  unfold laws_eqPacket
  simp only [Packet.mk.injEq]
  by_cases h1 : a = a' <;> by_cases h2 : b = b' <;> by_cases h3 : c = c' <;> by_cases h4 : d = d' <;> simp [bne_dec, h1, h2, h3, h4]
theorem eq_list {α : Type} [DecidableEq α] {f : α → α → Option Bool} {body : Int → Option (SR Int Bool)} (xs ys : List α) (hn : xs.length ≤ 9223372036854775807) (hf : ∀ x ∈ xs, ∀ y ∈ ys, f x y = some (decide (x = y)))
    (hb : ∀ k, body k = bif (decide (k < (xs.length : Int))) then (idx xs k).bind fun x1 => (idx ys k).bind fun x2 => (f x1 x2).bind fun x3 => bif x3 then some (.nxt (W (k + 1))) else some (.ret false) else some (.brk k)) :
    (bif ((xs.length : Int) != (ys.length : Int)) then some false else (loopF body (((xs.length : Int)) - 0).toNat.succ 0).bind (fun lr => lr.on (fun _ => some true) (fun r => some r))) = some (decide (xs = ys)) := by
  by_cases h : ys.length = xs.length
  · rw [loop_eq xs ys h hn hf hb]
    simp [h]
  · have : xs ≠ ys := fun e => h (by rw [e])
    have h' : ((xs.length : Int) != (ys.length : Int)) = true := by simp; omega
    rw [h', decide_eq_false this]; rfl
theorem eq_SpanS (xs ys : List Span) (h : xs.length ≤ 9223372036854775807) : laws_eqSpanS xs ys = some (decide (xs = ys)) :=
  eq_list (body := laws_eqSpanS_L0 xs ys) xs ys h (fun x _ y _ => eq_Span x y) (fun _ => rfl)
theorem eq_TestS (xs ys : List Test) (h : xs.length ≤ 9223372036854775807) : laws_eqTestS xs ys = some (decide (xs = ys)) :=
  eq_list (body := laws_eqTestS_L0 xs ys) xs ys h (fun x _ y _ => eq_Test x y) (fun _ => rfl)
theorem eq_SpanSS (xs ys : List (List Span)) (h : xs.length ≤ 9223372036854775807) (hs : ∀ x ∈ xs, x.length ≤ 9223372036854775807) : laws_eqSpanSS xs ys = some (decide (xs = ys)) :=
  eq_list (body := laws_eqSpanSS_L0 xs ys) xs ys h (fun x hx y _ => eq_SpanS x y (hs x hx)) (fun _ => rfl)
theorem eq_Box (x y : Box) (h : OkBox x) : laws_eqBox x y = some (decide (x = y)) := by
  obtain ⟨xs⟩ := x
  obtain ⟨ys⟩ := y
  unfold laws_eqBox
  rw [eq_SpanSS _ _ h.1 h.2]
  simp only [Box.mk.injEq, Option.bind_some]
  by_cases e : xs = ys <;> simp [e]
theorem eq_BoxS (xs ys : List Box) (h : xs.length ≤ 9223372036854775807) (hs : ∀ x ∈ xs, OkBox x) : laws_eqBoxS xs ys = some (decide (xs = ys)) :=
  eq_list (body := laws_eqBoxS_L0 xs ys) xs ys h (fun x hx y _ => eq_Box x y (hs x hx)) (fun _ => rfl)
theorem eq_Flat (x y : Flat) (h : OkBox x.Where) : laws_eqFlat x y = some (decide (x = y)) := by
  obtain ⟨a, b⟩ := x
  obtain ⟨c, d⟩ := y
  unfold laws_eqFlat
  rw [eq_Box _ _ h]
  simp only [Flat.mk.injEq, Option.bind_some]
  by_cases e : a = c <;> by_cases e2 : b = d <;> simp [bne_dec, e, e2]
theorem eq_FlatS (xs ys : List Flat) (h : xs.length ≤ 9223372036854775807) (hs : ∀ x ∈ xs, OkBox x.Where) : laws_eqFlatS xs ys = some (decide (xs = ys)) :=
  eq_list (body := laws_eqFlatS_L0 xs ys) xs ys h (fun x hx y _ => eq_Flat x y (hs x hx)) (fun _ => rfl)
theorem eq_Rule (x y : Rule) (h : x.Tests.length ≤ 9223372036854775807) : laws_eqRule x y = some (decide (x = y)) := by
  obtain ⟨a, b, c⟩ := x
  obtain ⟨a', b', c'⟩ := y
  unfold laws_eqRule
  rw [eq_TestS _ _ h]
  simp only [Rule.mk.injEq, Option.bind_some]
  by_cases e : a = a' <;> by_cases e2 : b = b' <;> by_cases e3 : c = c' <;> simp [bne_dec, e, e2, e3]
theorem eq_RuleS (xs ys : List Rule) (h : xs.length ≤ 9223372036854775807) (hs : ∀ x ∈ xs, x.Tests.length ≤ 9223372036854775807) : laws_eqRuleS xs ys = some (decide (xs = ys)) :=
  eq_list (body := laws_eqRuleS_L0 xs ys) xs ys h (fun x hx y _ => eq_Rule x y (hs x hx)) (fun _ => rfl)
end Go.PF.F
