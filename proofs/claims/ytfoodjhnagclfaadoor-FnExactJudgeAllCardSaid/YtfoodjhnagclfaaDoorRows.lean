/-
  NARROWER THAN 'FOR EVERY INPUT', by the rows' own cells (each row's printed sentence says how): FnExactBoxSame: laid · FnExactRegionHas: laid · FnExactBoxWithin: laid · FnExactJudgeFlat: laid · FnExactRulesetValid: laid · FnExactCallDepth: laid · FnExactJudgedBy: laid · FnExactJudge: laid · FnExactJudgeAll: laid · FnRuleFits: laid · FnBoxValid: laid · FnFirstFit: laid.
  DERIVED. THE GIVEN ROWS OF THIS SEAT. 12 by the template 'for every input the law returns true; each argument reads behind the call as it read before'; 0 by the template 'total and deterministic' (their statements: YtfoodjhnagclfaaDoorTotals.lean).
  GIVEN WITH THE SEED: the statements are not yours to turn. If you find one false, say at which input.
  Laid BY PROGRAM, IN A SANDBOX (cutbox-rows.mjs): the forced cells as the released guide's own fill.sh prints them over the translation 916c31d154b61ac7… (all of the seat's roots in one cut). By AI agents, Wed Nov 11 2026. No macro, syntax, notation, axiom, sorry.
-/
import Derived.Test.YtfoodjhnagclfaaDoorChecked
import GoSem.Claim
import GoSem.ClaimJoined
import GoSem.ClaimMapViews
import Derived.JoinedTies
import Derived.KernelRfl
namespace Go.Proofs.YtfoodjhnagclfaaDoor
/- THE CELL 'sum', in the pinned program and in every row, IS THE sha256 OF THE DUMP (.gsa) THAT YtfoodjhnagclfaaDoorProg.lean LOADS. Nothing in Lean hashes anything: it is a label: what it is worth is what the hold of that sum in a sandbox is worth. -/
noncomputable def Tryd.pinned : Pinned := { name := "ytfoodjhnagclfaadoor", sum := "916c31d154b61ac74a5e7bb559becc40e6d7368674d73811b9bd4dbbbe1b785e", checked := Tryd.checked }
namespace Rows
def none {H : Type} : Left H := { results := [], args := [] }

/- WHAT THE LISTED PACKAGE-LEVEL VARIABLES READ AS WHEN THE CALL BEGINS. Each datum BY PROGRAM (the guide's laid-datum.mjs) off the statement by which the dump's own 'gosem.cut.vars' lays the variable. In a bare row this is a premise. The card (YtfoodjhnagclfaaDoorCards.lean) ties it to the program's text. -/
def laid_loop_example_packetfilter_impl_fieldShapes {H : Type} : DataW H := .agg [.agg [.lit (.string [102, 114, 111, 109]), .lit (.int .i64 65535)], .agg [.lit (.string [116, 111]), .lit (.int .i64 65535)], .agg [.lit (.string [112, 111, 114, 116]), .lit (.int .i64 255)], .agg [.lit (.string [112, 114, 111, 116, 111]), .lit (.int .i64 7)]]

/-- 'laws.FnExactBoxSame': WHATEVER THE INPUT: true; the input reads as it did. -/
def fnExactBoxSameSpec : ChangeSpec := { name := "fnExactBoxSame", vars := ["loop.example/packetfilter/impl.fieldShapes"], fn := fun _ => fun
  | [d1, d2, g1] => { results := [.lit (.bool true)], args := [d1, d2], vars := [g1] }
  | _ => none }
def fnExactBoxSameRow : OpenClaim := { program := "ytfoodjhnagclfaadoor", sum := "916c31d154b61ac74a5e7bb559becc40e6d7368674d73811b9bd4dbbbe1b785e", func := "loop.example/packetfilter/laws.FnExactBoxSame", spec := "fnExactBoxSame", named := ["loop.example/packetfilter/impl.fieldShapes"], apart := false, laid := [("loop.example/packetfilter/impl.fieldShapes", laid_loop_example_packetfilter_impl_fieldShapes)] }
def FnExactBoxSameSaid : Prop := fnExactBoxSameRow.holds Tryd.pinned (OpenSpec.ofChange fnExactBoxSameSpec)

/-- ITS FALSE NEIGHBOUR: 'it returns false'. Refute it at one input. -/
def fnExactBoxSameWrong : ChangeSpec := { name := "fnExactBoxSame", vars := ["loop.example/packetfilter/impl.fieldShapes"], fn := fun _ => fun
  | [d1, d2, g1] => { results := [.lit (.bool false)], args := [d1, d2], vars := [g1] }
  | _ => none }
def FnExactBoxSameWrongFalsely : Prop := fnExactBoxSameRow.holds Tryd.pinned (OpenSpec.ofChange fnExactBoxSameWrong)

/-- 'laws.FnExactRegionHas': WHATEVER THE INPUT: true; the input reads as it did. -/
def fnExactRegionHasSpec : ChangeSpec := { name := "fnExactRegionHas", vars := ["loop.example/packetfilter/impl.fieldShapes"], fn := fun _ => fun
  | [d1, d2, g1] => { results := [.lit (.bool true)], args := [d1, d2], vars := [g1] }
  | _ => none }
def fnExactRegionHasRow : OpenClaim := { program := "ytfoodjhnagclfaadoor", sum := "916c31d154b61ac74a5e7bb559becc40e6d7368674d73811b9bd4dbbbe1b785e", func := "loop.example/packetfilter/laws.FnExactRegionHas", spec := "fnExactRegionHas", named := ["loop.example/packetfilter/impl.fieldShapes"], apart := false, laid := [("loop.example/packetfilter/impl.fieldShapes", laid_loop_example_packetfilter_impl_fieldShapes)] }
def FnExactRegionHasSaid : Prop := fnExactRegionHasRow.holds Tryd.pinned (OpenSpec.ofChange fnExactRegionHasSpec)

/-- ITS FALSE NEIGHBOUR: 'it returns false'. Refute it at one input. -/
def fnExactRegionHasWrong : ChangeSpec := { name := "fnExactRegionHas", vars := ["loop.example/packetfilter/impl.fieldShapes"], fn := fun _ => fun
  | [d1, d2, g1] => { results := [.lit (.bool false)], args := [d1, d2], vars := [g1] }
  | _ => none }
def FnExactRegionHasWrongFalsely : Prop := fnExactRegionHasRow.holds Tryd.pinned (OpenSpec.ofChange fnExactRegionHasWrong)

/-- 'laws.FnExactBoxWithin': WHATEVER THE INPUT: true; the input reads as it did. -/
def fnExactBoxWithinSpec : ChangeSpec := { name := "fnExactBoxWithin", vars := ["loop.example/packetfilter/impl.fieldShapes"], fn := fun _ => fun
  | [d1, d2, g1] => { results := [.lit (.bool true)], args := [d1, d2], vars := [g1] }
  | _ => none }
def fnExactBoxWithinRow : OpenClaim := { program := "ytfoodjhnagclfaadoor", sum := "916c31d154b61ac74a5e7bb559becc40e6d7368674d73811b9bd4dbbbe1b785e", func := "loop.example/packetfilter/laws.FnExactBoxWithin", spec := "fnExactBoxWithin", unfollowed := true, recurses := true, named := ["loop.example/packetfilter/impl.fieldShapes"], apart := false, laid := [("loop.example/packetfilter/impl.fieldShapes", laid_loop_example_packetfilter_impl_fieldShapes)] }
def FnExactBoxWithinSaid : Prop := fnExactBoxWithinRow.holds Tryd.pinned (OpenSpec.ofChange fnExactBoxWithinSpec)

/-- ITS FALSE NEIGHBOUR: 'it returns false'. Refute it at one input. -/
def fnExactBoxWithinWrong : ChangeSpec := { name := "fnExactBoxWithin", vars := ["loop.example/packetfilter/impl.fieldShapes"], fn := fun _ => fun
  | [d1, d2, g1] => { results := [.lit (.bool false)], args := [d1, d2], vars := [g1] }
  | _ => none }
def FnExactBoxWithinWrongFalsely : Prop := fnExactBoxWithinRow.holds Tryd.pinned (OpenSpec.ofChange fnExactBoxWithinWrong)

/-- 'laws.FnExactJudgeFlat': WHATEVER THE INPUT: true; the input reads as it did. -/
def fnExactJudgeFlatSpec : ChangeSpec := { name := "fnExactJudgeFlat", vars := ["loop.example/packetfilter/impl.fieldShapes"], fn := fun _ => fun
  | [d1, d2, d3, g1] => { results := [.lit (.bool true)], args := [d1, d2, d3], vars := [g1] }
  | _ => none }
def fnExactJudgeFlatRow : OpenClaim := { program := "ytfoodjhnagclfaadoor", sum := "916c31d154b61ac74a5e7bb559becc40e6d7368674d73811b9bd4dbbbe1b785e", func := "loop.example/packetfilter/laws.FnExactJudgeFlat", spec := "fnExactJudgeFlat", unfollowed := true, recurses := true, named := ["loop.example/packetfilter/impl.fieldShapes"], apart := false, laid := [("loop.example/packetfilter/impl.fieldShapes", laid_loop_example_packetfilter_impl_fieldShapes)] }
def FnExactJudgeFlatSaid : Prop := fnExactJudgeFlatRow.holds Tryd.pinned (OpenSpec.ofChange fnExactJudgeFlatSpec)

/-- ITS FALSE NEIGHBOUR: 'it returns false'. Refute it at one input. -/
def fnExactJudgeFlatWrong : ChangeSpec := { name := "fnExactJudgeFlat", vars := ["loop.example/packetfilter/impl.fieldShapes"], fn := fun _ => fun
  | [d1, d2, d3, g1] => { results := [.lit (.bool false)], args := [d1, d2, d3], vars := [g1] }
  | _ => none }
def FnExactJudgeFlatWrongFalsely : Prop := fnExactJudgeFlatRow.holds Tryd.pinned (OpenSpec.ofChange fnExactJudgeFlatWrong)

/-- 'laws.FnExactRulesetValid': WHATEVER THE INPUT: true; the input reads as it did. -/
def fnExactRulesetValidSpec : ChangeSpec := { name := "fnExactRulesetValid", vars := ["loop.example/packetfilter/impl.fieldShapes"], fn := fun _ => fun
  | [d, g1] => { results := [.lit (.bool true)], args := [d], vars := [g1] }
  | _ => none }
def fnExactRulesetValidRow : OpenClaim := { program := "ytfoodjhnagclfaadoor", sum := "916c31d154b61ac74a5e7bb559becc40e6d7368674d73811b9bd4dbbbe1b785e", func := "loop.example/packetfilter/laws.FnExactRulesetValid", spec := "fnExactRulesetValid", recurses := true, named := ["loop.example/packetfilter/impl.fieldShapes"], apart := false, laid := [("loop.example/packetfilter/impl.fieldShapes", laid_loop_example_packetfilter_impl_fieldShapes)] }
def FnExactRulesetValidSaid : Prop := fnExactRulesetValidRow.holds Tryd.pinned (OpenSpec.ofChange fnExactRulesetValidSpec)

/-- ITS FALSE NEIGHBOUR: 'it returns false'. Refute it at one input. -/
def fnExactRulesetValidWrong : ChangeSpec := { name := "fnExactRulesetValid", vars := ["loop.example/packetfilter/impl.fieldShapes"], fn := fun _ => fun
  | [d, g1] => { results := [.lit (.bool false)], args := [d], vars := [g1] }
  | _ => none }
def FnExactRulesetValidWrongFalsely : Prop := fnExactRulesetValidRow.holds Tryd.pinned (OpenSpec.ofChange fnExactRulesetValidWrong)

/-- 'laws.FnExactCallDepth': WHATEVER THE INPUT: true; the input reads as it did. -/
def fnExactCallDepthSpec : ChangeSpec := { name := "fnExactCallDepth", vars := ["loop.example/packetfilter/impl.fieldShapes"], fn := fun _ => fun
  | [d1, d2, g1] => { results := [.lit (.bool true)], args := [d1, d2], vars := [g1] }
  | _ => none }
def fnExactCallDepthRow : OpenClaim := { program := "ytfoodjhnagclfaadoor", sum := "916c31d154b61ac74a5e7bb559becc40e6d7368674d73811b9bd4dbbbe1b785e", func := "loop.example/packetfilter/laws.FnExactCallDepth", spec := "fnExactCallDepth", recurses := true, named := ["loop.example/packetfilter/impl.fieldShapes"], apart := false, laid := [("loop.example/packetfilter/impl.fieldShapes", laid_loop_example_packetfilter_impl_fieldShapes)] }
def FnExactCallDepthSaid : Prop := fnExactCallDepthRow.holds Tryd.pinned (OpenSpec.ofChange fnExactCallDepthSpec)

/-- ITS FALSE NEIGHBOUR: 'it returns false'. Refute it at one input. -/
def fnExactCallDepthWrong : ChangeSpec := { name := "fnExactCallDepth", vars := ["loop.example/packetfilter/impl.fieldShapes"], fn := fun _ => fun
  | [d1, d2, g1] => { results := [.lit (.bool false)], args := [d1, d2], vars := [g1] }
  | _ => none }
def FnExactCallDepthWrongFalsely : Prop := fnExactCallDepthRow.holds Tryd.pinned (OpenSpec.ofChange fnExactCallDepthWrong)

/-- 'laws.FnExactJudgedBy': WHATEVER THE INPUT: true; the input reads as it did. -/
def fnExactJudgedBySpec : ChangeSpec := { name := "fnExactJudgedBy", vars := ["loop.example/packetfilter/impl.fieldShapes"], fn := fun _ => fun
  | [d1, d2, g1] => { results := [.lit (.bool true)], args := [d1, d2], vars := [g1] }
  | _ => none }
def fnExactJudgedByRow : OpenClaim := { program := "ytfoodjhnagclfaadoor", sum := "916c31d154b61ac74a5e7bb559becc40e6d7368674d73811b9bd4dbbbe1b785e", func := "loop.example/packetfilter/laws.FnExactJudgedBy", spec := "fnExactJudgedBy", unfollowed := true, recurses := true, named := ["loop.example/packetfilter/impl.fieldShapes"], apart := false, laid := [("loop.example/packetfilter/impl.fieldShapes", laid_loop_example_packetfilter_impl_fieldShapes)] }
def FnExactJudgedBySaid : Prop := fnExactJudgedByRow.holds Tryd.pinned (OpenSpec.ofChange fnExactJudgedBySpec)

/-- ITS FALSE NEIGHBOUR: 'it returns false'. Refute it at one input. -/
def fnExactJudgedByWrong : ChangeSpec := { name := "fnExactJudgedBy", vars := ["loop.example/packetfilter/impl.fieldShapes"], fn := fun _ => fun
  | [d1, d2, g1] => { results := [.lit (.bool false)], args := [d1, d2], vars := [g1] }
  | _ => none }
def FnExactJudgedByWrongFalsely : Prop := fnExactJudgedByRow.holds Tryd.pinned (OpenSpec.ofChange fnExactJudgedByWrong)

/-- 'laws.FnExactJudge': WHATEVER THE INPUT: true; the input reads as it did. -/
def fnExactJudgeSpec : ChangeSpec := { name := "fnExactJudge", vars := ["loop.example/packetfilter/impl.fieldShapes"], fn := fun _ => fun
  | [d1, d2, g1] => { results := [.lit (.bool true)], args := [d1, d2], vars := [g1] }
  | _ => none }
def fnExactJudgeRow : OpenClaim := { program := "ytfoodjhnagclfaadoor", sum := "916c31d154b61ac74a5e7bb559becc40e6d7368674d73811b9bd4dbbbe1b785e", func := "loop.example/packetfilter/laws.FnExactJudge", spec := "fnExactJudge", unfollowed := true, recurses := true, named := ["loop.example/packetfilter/impl.fieldShapes"], apart := false, laid := [("loop.example/packetfilter/impl.fieldShapes", laid_loop_example_packetfilter_impl_fieldShapes)] }
def FnExactJudgeSaid : Prop := fnExactJudgeRow.holds Tryd.pinned (OpenSpec.ofChange fnExactJudgeSpec)

/-- ITS FALSE NEIGHBOUR: 'it returns false'. Refute it at one input. -/
def fnExactJudgeWrong : ChangeSpec := { name := "fnExactJudge", vars := ["loop.example/packetfilter/impl.fieldShapes"], fn := fun _ => fun
  | [d1, d2, g1] => { results := [.lit (.bool false)], args := [d1, d2], vars := [g1] }
  | _ => none }
def FnExactJudgeWrongFalsely : Prop := fnExactJudgeRow.holds Tryd.pinned (OpenSpec.ofChange fnExactJudgeWrong)

/-- 'laws.FnExactJudgeAll': WHATEVER THE INPUT: true; the input reads as it did. -/
def fnExactJudgeAllSpec : ChangeSpec := { name := "fnExactJudgeAll", vars := ["loop.example/packetfilter/impl.fieldShapes"], fn := fun _ => fun
  | [d1, d2, g1] => { results := [.lit (.bool true)], args := [d1, d2], vars := [g1] }
  | _ => none }
def fnExactJudgeAllRow : OpenClaim := { program := "ytfoodjhnagclfaadoor", sum := "916c31d154b61ac74a5e7bb559becc40e6d7368674d73811b9bd4dbbbe1b785e", func := "loop.example/packetfilter/laws.FnExactJudgeAll", spec := "fnExactJudgeAll", unfollowed := true, recurses := true, named := ["loop.example/packetfilter/impl.fieldShapes"], apart := false, laid := [("loop.example/packetfilter/impl.fieldShapes", laid_loop_example_packetfilter_impl_fieldShapes)] }
def FnExactJudgeAllSaid : Prop := fnExactJudgeAllRow.holds Tryd.pinned (OpenSpec.ofChange fnExactJudgeAllSpec)

/-- ITS FALSE NEIGHBOUR: 'it returns false'. Refute it at one input. -/
def fnExactJudgeAllWrong : ChangeSpec := { name := "fnExactJudgeAll", vars := ["loop.example/packetfilter/impl.fieldShapes"], fn := fun _ => fun
  | [d1, d2, g1] => { results := [.lit (.bool false)], args := [d1, d2], vars := [g1] }
  | _ => none }
def FnExactJudgeAllWrongFalsely : Prop := fnExactJudgeAllRow.holds Tryd.pinned (OpenSpec.ofChange fnExactJudgeAllWrong)

/-- 'laws.FnRuleFits': WHATEVER THE INPUT: true; the input reads as it did. -/
def fnRuleFitsSpec : ChangeSpec := { name := "fnRuleFits", vars := ["loop.example/packetfilter/impl.fieldShapes"], fn := fun _ => fun
  | [d, g1] => { results := [.lit (.bool true)], args := [d], vars := [g1] }
  | _ => none }
def fnRuleFitsRow : OpenClaim := { program := "ytfoodjhnagclfaadoor", sum := "916c31d154b61ac74a5e7bb559becc40e6d7368674d73811b9bd4dbbbe1b785e", func := "loop.example/packetfilter/laws.FnRuleFits", spec := "fnRuleFits", named := ["loop.example/packetfilter/impl.fieldShapes"], apart := false, laid := [("loop.example/packetfilter/impl.fieldShapes", laid_loop_example_packetfilter_impl_fieldShapes)] }
def FnRuleFitsSaid : Prop := fnRuleFitsRow.holds Tryd.pinned (OpenSpec.ofChange fnRuleFitsSpec)

/-- ITS FALSE NEIGHBOUR: 'it returns false'. Refute it at one input. -/
def fnRuleFitsWrong : ChangeSpec := { name := "fnRuleFits", vars := ["loop.example/packetfilter/impl.fieldShapes"], fn := fun _ => fun
  | [d, g1] => { results := [.lit (.bool false)], args := [d], vars := [g1] }
  | _ => none }
def FnRuleFitsWrongFalsely : Prop := fnRuleFitsRow.holds Tryd.pinned (OpenSpec.ofChange fnRuleFitsWrong)

/-- 'laws.FnBoxValid': WHATEVER THE INPUT: true; the input reads as it did. -/
def fnBoxValidSpec : ChangeSpec := { name := "fnBoxValid", vars := ["loop.example/packetfilter/impl.fieldShapes"], fn := fun _ => fun
  | [d, g1] => { results := [.lit (.bool true)], args := [d], vars := [g1] }
  | _ => none }
def fnBoxValidRow : OpenClaim := { program := "ytfoodjhnagclfaadoor", sum := "916c31d154b61ac74a5e7bb559becc40e6d7368674d73811b9bd4dbbbe1b785e", func := "loop.example/packetfilter/laws.FnBoxValid", spec := "fnBoxValid", named := ["loop.example/packetfilter/impl.fieldShapes"], apart := false, laid := [("loop.example/packetfilter/impl.fieldShapes", laid_loop_example_packetfilter_impl_fieldShapes)] }
def FnBoxValidSaid : Prop := fnBoxValidRow.holds Tryd.pinned (OpenSpec.ofChange fnBoxValidSpec)

/-- ITS FALSE NEIGHBOUR: 'it returns false'. Refute it at one input. -/
def fnBoxValidWrong : ChangeSpec := { name := "fnBoxValid", vars := ["loop.example/packetfilter/impl.fieldShapes"], fn := fun _ => fun
  | [d, g1] => { results := [.lit (.bool false)], args := [d], vars := [g1] }
  | _ => none }
def FnBoxValidWrongFalsely : Prop := fnBoxValidRow.holds Tryd.pinned (OpenSpec.ofChange fnBoxValidWrong)

/-- 'laws.FnFirstFit': WHATEVER THE INPUT: true; the input reads as it did. -/
def fnFirstFitSpec : ChangeSpec := { name := "fnFirstFit", vars := ["loop.example/packetfilter/impl.fieldShapes"], fn := fun _ => fun
  | [d, g1] => { results := [.lit (.bool true)], args := [d], vars := [g1] }
  | _ => none }
def fnFirstFitRow : OpenClaim := { program := "ytfoodjhnagclfaadoor", sum := "916c31d154b61ac74a5e7bb559becc40e6d7368674d73811b9bd4dbbbe1b785e", func := "loop.example/packetfilter/laws.FnFirstFit", spec := "fnFirstFit", named := ["loop.example/packetfilter/impl.fieldShapes"], apart := false, laid := [("loop.example/packetfilter/impl.fieldShapes", laid_loop_example_packetfilter_impl_fieldShapes)] }
def FnFirstFitSaid : Prop := fnFirstFitRow.holds Tryd.pinned (OpenSpec.ofChange fnFirstFitSpec)

/-- ITS FALSE NEIGHBOUR: 'it returns false'. Refute it at one input. -/
def fnFirstFitWrong : ChangeSpec := { name := "fnFirstFit", vars := ["loop.example/packetfilter/impl.fieldShapes"], fn := fun _ => fun
  | [d, g1] => { results := [.lit (.bool false)], args := [d], vars := [g1] }
  | _ => none }
def FnFirstFitWrongFalsely : Prop := fnFirstFitRow.holds Tryd.pinned (OpenSpec.ofChange fnFirstFitWrong)

/- THE SECOND FORM. 'bulk': how many values and letters a reading holds, each counted each time it is reached (what is shared counts as often as it is met; a slice's spare places count too). A statement '..UptoSaid' is the law's where the arguments, and the package variables that the reading takes, are together of bulk at most 1048576: NARROWER than '..Said'. Prove '..Said' where nothing that the law and all that it calls make is longer than what came in: it says more and counts as full. Else prove '..UptoSaid'. A law counts once. -/
mutual
def uptoBulk {H : Type} : DataW H → Nat
  | .lit (.string bytes) => bytes.length + 1
  | .lit _ => 1
  | .nil => 1
  | .ptr d => uptoBulk d + 1
  | .slice elems spare => uptoBulkAll elems + uptoBulkAll spare + 1
  | .agg parts => uptoBulkAll parts + 1
  | .iface _ d => uptoBulk d + 1
  | .map entries => uptoBulkEntries entries + 1
  | .held _ => 1
def uptoBulkAll {H : Type} : List (DataW H) → Nat
  | [] => 0
  | d :: r => uptoBulk d + uptoBulkAll r
def uptoBulkEntries {H : Type} : List (Lit × DataW H) → Nat
  | [] => 0
  | x :: r => uptoBulkEntry x + uptoBulkEntries r
def uptoBulkEntry {H : Type} : Lit × DataW H → Nat
  | (.string bytes, d) => bytes.length + uptoBulk d + 1
  | (_, d) => uptoBulk d + 1
 end
def uptoSmall : (H : Type) → List (DataW H) → Bool := fun _ ds => decide (uptoBulkAll ds ≤ 1048576)
def OpenSpec.upto (s : _root_.Go.ChangeSpec) : _root_.Go.OpenSpec := { _root_.Go.OpenSpec.ofChange s with cond := some uptoSmall }

/-- 'laws.FnExactBoxSame', WHERE WHAT IT READS IS OF BULK AT MOST 1048576: true; the input reads as it did. -/
def fnExactBoxSameUptoRow : OpenClaim := { program := "ytfoodjhnagclfaadoor", sum := "916c31d154b61ac74a5e7bb559becc40e6d7368674d73811b9bd4dbbbe1b785e", func := "loop.example/packetfilter/laws.FnExactBoxSame", spec := "fnExactBoxSame", named := ["loop.example/packetfilter/impl.fieldShapes"], apart := false, laid := [("loop.example/packetfilter/impl.fieldShapes", laid_loop_example_packetfilter_impl_fieldShapes)], narrowed := true }
def FnExactBoxSameUptoSaid : Prop := fnExactBoxSameUptoRow.holds Tryd.pinned (OpenSpec.upto fnExactBoxSameSpec)

/-- 'laws.FnExactRegionHas', WHERE WHAT IT READS IS OF BULK AT MOST 1048576: true; the input reads as it did. -/
def fnExactRegionHasUptoRow : OpenClaim := { program := "ytfoodjhnagclfaadoor", sum := "916c31d154b61ac74a5e7bb559becc40e6d7368674d73811b9bd4dbbbe1b785e", func := "loop.example/packetfilter/laws.FnExactRegionHas", spec := "fnExactRegionHas", named := ["loop.example/packetfilter/impl.fieldShapes"], apart := false, laid := [("loop.example/packetfilter/impl.fieldShapes", laid_loop_example_packetfilter_impl_fieldShapes)], narrowed := true }
def FnExactRegionHasUptoSaid : Prop := fnExactRegionHasUptoRow.holds Tryd.pinned (OpenSpec.upto fnExactRegionHasSpec)

/-- 'laws.FnExactBoxWithin', WHERE WHAT IT READS IS OF BULK AT MOST 1048576: true; the input reads as it did. -/
def fnExactBoxWithinUptoRow : OpenClaim := { program := "ytfoodjhnagclfaadoor", sum := "916c31d154b61ac74a5e7bb559becc40e6d7368674d73811b9bd4dbbbe1b785e", func := "loop.example/packetfilter/laws.FnExactBoxWithin", spec := "fnExactBoxWithin", unfollowed := true, recurses := true, named := ["loop.example/packetfilter/impl.fieldShapes"], apart := false, laid := [("loop.example/packetfilter/impl.fieldShapes", laid_loop_example_packetfilter_impl_fieldShapes)], narrowed := true }
def FnExactBoxWithinUptoSaid : Prop := fnExactBoxWithinUptoRow.holds Tryd.pinned (OpenSpec.upto fnExactBoxWithinSpec)

/-- 'laws.FnExactJudgeFlat', WHERE WHAT IT READS IS OF BULK AT MOST 1048576: true; the input reads as it did. -/
def fnExactJudgeFlatUptoRow : OpenClaim := { program := "ytfoodjhnagclfaadoor", sum := "916c31d154b61ac74a5e7bb559becc40e6d7368674d73811b9bd4dbbbe1b785e", func := "loop.example/packetfilter/laws.FnExactJudgeFlat", spec := "fnExactJudgeFlat", unfollowed := true, recurses := true, named := ["loop.example/packetfilter/impl.fieldShapes"], apart := false, laid := [("loop.example/packetfilter/impl.fieldShapes", laid_loop_example_packetfilter_impl_fieldShapes)], narrowed := true }
def FnExactJudgeFlatUptoSaid : Prop := fnExactJudgeFlatUptoRow.holds Tryd.pinned (OpenSpec.upto fnExactJudgeFlatSpec)

/-- 'laws.FnExactRulesetValid', WHERE WHAT IT READS IS OF BULK AT MOST 1048576: true; the input reads as it did. -/
def fnExactRulesetValidUptoRow : OpenClaim := { program := "ytfoodjhnagclfaadoor", sum := "916c31d154b61ac74a5e7bb559becc40e6d7368674d73811b9bd4dbbbe1b785e", func := "loop.example/packetfilter/laws.FnExactRulesetValid", spec := "fnExactRulesetValid", recurses := true, named := ["loop.example/packetfilter/impl.fieldShapes"], apart := false, laid := [("loop.example/packetfilter/impl.fieldShapes", laid_loop_example_packetfilter_impl_fieldShapes)], narrowed := true }
def FnExactRulesetValidUptoSaid : Prop := fnExactRulesetValidUptoRow.holds Tryd.pinned (OpenSpec.upto fnExactRulesetValidSpec)

/-- 'laws.FnExactCallDepth', WHERE WHAT IT READS IS OF BULK AT MOST 1048576: true; the input reads as it did. -/
def fnExactCallDepthUptoRow : OpenClaim := { program := "ytfoodjhnagclfaadoor", sum := "916c31d154b61ac74a5e7bb559becc40e6d7368674d73811b9bd4dbbbe1b785e", func := "loop.example/packetfilter/laws.FnExactCallDepth", spec := "fnExactCallDepth", recurses := true, named := ["loop.example/packetfilter/impl.fieldShapes"], apart := false, laid := [("loop.example/packetfilter/impl.fieldShapes", laid_loop_example_packetfilter_impl_fieldShapes)], narrowed := true }
def FnExactCallDepthUptoSaid : Prop := fnExactCallDepthUptoRow.holds Tryd.pinned (OpenSpec.upto fnExactCallDepthSpec)

/-- 'laws.FnExactJudgedBy', WHERE WHAT IT READS IS OF BULK AT MOST 1048576: true; the input reads as it did. -/
def fnExactJudgedByUptoRow : OpenClaim := { program := "ytfoodjhnagclfaadoor", sum := "916c31d154b61ac74a5e7bb559becc40e6d7368674d73811b9bd4dbbbe1b785e", func := "loop.example/packetfilter/laws.FnExactJudgedBy", spec := "fnExactJudgedBy", unfollowed := true, recurses := true, named := ["loop.example/packetfilter/impl.fieldShapes"], apart := false, laid := [("loop.example/packetfilter/impl.fieldShapes", laid_loop_example_packetfilter_impl_fieldShapes)], narrowed := true }
def FnExactJudgedByUptoSaid : Prop := fnExactJudgedByUptoRow.holds Tryd.pinned (OpenSpec.upto fnExactJudgedBySpec)

/-- 'laws.FnExactJudge', WHERE WHAT IT READS IS OF BULK AT MOST 1048576: true; the input reads as it did. -/
def fnExactJudgeUptoRow : OpenClaim := { program := "ytfoodjhnagclfaadoor", sum := "916c31d154b61ac74a5e7bb559becc40e6d7368674d73811b9bd4dbbbe1b785e", func := "loop.example/packetfilter/laws.FnExactJudge", spec := "fnExactJudge", unfollowed := true, recurses := true, named := ["loop.example/packetfilter/impl.fieldShapes"], apart := false, laid := [("loop.example/packetfilter/impl.fieldShapes", laid_loop_example_packetfilter_impl_fieldShapes)], narrowed := true }
def FnExactJudgeUptoSaid : Prop := fnExactJudgeUptoRow.holds Tryd.pinned (OpenSpec.upto fnExactJudgeSpec)

/-- 'laws.FnExactJudgeAll', WHERE WHAT IT READS IS OF BULK AT MOST 1048576: true; the input reads as it did. -/
def fnExactJudgeAllUptoRow : OpenClaim := { program := "ytfoodjhnagclfaadoor", sum := "916c31d154b61ac74a5e7bb559becc40e6d7368674d73811b9bd4dbbbe1b785e", func := "loop.example/packetfilter/laws.FnExactJudgeAll", spec := "fnExactJudgeAll", unfollowed := true, recurses := true, named := ["loop.example/packetfilter/impl.fieldShapes"], apart := false, laid := [("loop.example/packetfilter/impl.fieldShapes", laid_loop_example_packetfilter_impl_fieldShapes)], narrowed := true }
def FnExactJudgeAllUptoSaid : Prop := fnExactJudgeAllUptoRow.holds Tryd.pinned (OpenSpec.upto fnExactJudgeAllSpec)

/-- 'laws.FnRuleFits', WHERE WHAT IT READS IS OF BULK AT MOST 1048576: true; the input reads as it did. -/
def fnRuleFitsUptoRow : OpenClaim := { program := "ytfoodjhnagclfaadoor", sum := "916c31d154b61ac74a5e7bb559becc40e6d7368674d73811b9bd4dbbbe1b785e", func := "loop.example/packetfilter/laws.FnRuleFits", spec := "fnRuleFits", named := ["loop.example/packetfilter/impl.fieldShapes"], apart := false, laid := [("loop.example/packetfilter/impl.fieldShapes", laid_loop_example_packetfilter_impl_fieldShapes)], narrowed := true }
def FnRuleFitsUptoSaid : Prop := fnRuleFitsUptoRow.holds Tryd.pinned (OpenSpec.upto fnRuleFitsSpec)

/-- 'laws.FnBoxValid', WHERE WHAT IT READS IS OF BULK AT MOST 1048576: true; the input reads as it did. -/
def fnBoxValidUptoRow : OpenClaim := { program := "ytfoodjhnagclfaadoor", sum := "916c31d154b61ac74a5e7bb559becc40e6d7368674d73811b9bd4dbbbe1b785e", func := "loop.example/packetfilter/laws.FnBoxValid", spec := "fnBoxValid", named := ["loop.example/packetfilter/impl.fieldShapes"], apart := false, laid := [("loop.example/packetfilter/impl.fieldShapes", laid_loop_example_packetfilter_impl_fieldShapes)], narrowed := true }
def FnBoxValidUptoSaid : Prop := fnBoxValidUptoRow.holds Tryd.pinned (OpenSpec.upto fnBoxValidSpec)

/-- 'laws.FnFirstFit', WHERE WHAT IT READS IS OF BULK AT MOST 1048576: true; the input reads as it did. -/
def fnFirstFitUptoRow : OpenClaim := { program := "ytfoodjhnagclfaadoor", sum := "916c31d154b61ac74a5e7bb559becc40e6d7368674d73811b9bd4dbbbe1b785e", func := "loop.example/packetfilter/laws.FnFirstFit", spec := "fnFirstFit", named := ["loop.example/packetfilter/impl.fieldShapes"], apart := false, laid := [("loop.example/packetfilter/impl.fieldShapes", laid_loop_example_packetfilter_impl_fieldShapes)], narrowed := true }
def FnFirstFitUptoSaid : Prop := fnFirstFitUptoRow.holds Tryd.pinned (OpenSpec.upto fnFirstFitSpec)

end Rows
end Go.Proofs.YtfoodjhnagclfaaDoor
