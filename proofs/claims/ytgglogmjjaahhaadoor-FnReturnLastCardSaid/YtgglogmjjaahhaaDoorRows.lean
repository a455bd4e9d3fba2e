/-
  NARROWER THAN 'FOR EVERY INPUT', by the rows' own cells (each row's printed sentence says how): FnBoxTests: laid · FnCallAlone: laid · FnRulesetValid: laid · FnCallDepth: laid · FnCallsOf: laid · FnChainsUsed: laid · FnJudgedBy: laid · FnJudgeMirror: laid · FnReturnLast: laid · FnRuleFirst: laid · FnRuleNone: laid · FnJudgeTrace: laid.
  DERIVED. THE GIVEN ROWS OF THIS SEAT. 12 by the template 'for every input the law returns true; each argument reads behind the call as it read before'; 0 by the template 'total and deterministic' (their statements: YtgglogmjjaahhaaDoorTotals.lean).
  GIVEN WITH THE SEED: the statements are not yours to turn. If you find one false, say at which input.
  Laid BY PROGRAM, IN A SANDBOX (cutbox-rows.mjs): the forced cells as the released guide's own fill.sh prints them over the translation 2d2bb99924c7e5cb… (all of the seat's roots in one cut). By AI agents, Wed Nov 11 2026. No macro, syntax, notation, axiom, sorry.
-/
import Derived.Test.YtgglogmjjaahhaaDoorChecked
import GoSem.Claim
import GoSem.ClaimJoined
import GoSem.ClaimMapViews
import Derived.JoinedTies
import Derived.KernelRfl
namespace Go.Proofs.YtgglogmjjaahhaaDoor
/- THE CELL 'sum', in the pinned program and in every row, IS THE sha256 OF THE DUMP (.gsa) THAT YtgglogmjjaahhaaDoorProg.lean LOADS. Nothing in Lean hashes anything: it is a label: what it is worth is what the hold of that sum in a sandbox is worth. -/
noncomputable def Tryd.pinned : Pinned := { name := "ytgglogmjjaahhaadoor", sum := "2d2bb99924c7e5cb73f39a2b2ddd126566156049f8b9c275155d657a862e560d", checked := Tryd.checked }
namespace Rows
def none {H : Type} : Left H := { results := [], args := [] }

/- WHAT THE LISTED PACKAGE-LEVEL VARIABLES READ AS WHEN THE CALL BEGINS. Each datum BY PROGRAM (the guide's laid-datum.mjs) off the statement by which the dump's own 'gosem.cut.vars' lays the variable. In a bare row this is a premise. The card (YtgglogmjjaahhaaDoorCards.lean) ties it to the program's text. -/
def laid_loop_example_packetfilter_impl_fieldShapes {H : Type} : DataW H := .agg [.agg [.lit (.string [102, 114, 111, 109]), .lit (.int .i64 65535)], .agg [.lit (.string [116, 111]), .lit (.int .i64 65535)], .agg [.lit (.string [112, 111, 114, 116]), .lit (.int .i64 255)], .agg [.lit (.string [112, 114, 111, 116, 111]), .lit (.int .i64 7)]]

/-- 'laws.FnBoxTests': WHATEVER THE INPUT: true; the input reads as it did. -/
def fnBoxTestsSpec : ChangeSpec := { name := "fnBoxTests", vars := ["loop.example/packetfilter/impl.fieldShapes"], fn := fun _ => fun
  | [d, g1] => { results := [.lit (.bool true)], args := [d], vars := [g1] }
  | _ => none }
def fnBoxTestsRow : OpenClaim := { program := "ytgglogmjjaahhaadoor", sum := "2d2bb99924c7e5cb73f39a2b2ddd126566156049f8b9c275155d657a862e560d", func := "loop.example/packetfilter/laws.FnBoxTests", spec := "fnBoxTests", unfollowed := true, recurses := true, named := ["loop.example/packetfilter/impl.fieldShapes"], apart := false, laid := [("loop.example/packetfilter/impl.fieldShapes", laid_loop_example_packetfilter_impl_fieldShapes)] }
def FnBoxTestsSaid : Prop := fnBoxTestsRow.holds Tryd.pinned (OpenSpec.ofChange fnBoxTestsSpec)

/-- ITS FALSE NEIGHBOUR: 'it returns false'. Refute it at one input. -/
def fnBoxTestsWrong : ChangeSpec := { name := "fnBoxTests", vars := ["loop.example/packetfilter/impl.fieldShapes"], fn := fun _ => fun
  | [d, g1] => { results := [.lit (.bool false)], args := [d], vars := [g1] }
  | _ => none }
def FnBoxTestsWrongFalsely : Prop := fnBoxTestsRow.holds Tryd.pinned (OpenSpec.ofChange fnBoxTestsWrong)

/-- 'laws.FnCallAlone': WHATEVER THE INPUT: true; the input reads as it did. -/
def fnCallAloneSpec : ChangeSpec := { name := "fnCallAlone", vars := ["loop.example/packetfilter/impl.fieldShapes"], fn := fun _ => fun
  | [d, g1] => { results := [.lit (.bool true)], args := [d], vars := [g1] }
  | _ => none }
def fnCallAloneRow : OpenClaim := { program := "ytgglogmjjaahhaadoor", sum := "2d2bb99924c7e5cb73f39a2b2ddd126566156049f8b9c275155d657a862e560d", func := "loop.example/packetfilter/laws.FnCallAlone", spec := "fnCallAlone", unfollowed := true, recurses := true, named := ["loop.example/packetfilter/impl.fieldShapes"], apart := false, laid := [("loop.example/packetfilter/impl.fieldShapes", laid_loop_example_packetfilter_impl_fieldShapes)] }
def FnCallAloneSaid : Prop := fnCallAloneRow.holds Tryd.pinned (OpenSpec.ofChange fnCallAloneSpec)

/-- ITS FALSE NEIGHBOUR: 'it returns false'. Refute it at one input. -/
def fnCallAloneWrong : ChangeSpec := { name := "fnCallAlone", vars := ["loop.example/packetfilter/impl.fieldShapes"], fn := fun _ => fun
  | [d, g1] => { results := [.lit (.bool false)], args := [d], vars := [g1] }
  | _ => none }
def FnCallAloneWrongFalsely : Prop := fnCallAloneRow.holds Tryd.pinned (OpenSpec.ofChange fnCallAloneWrong)

/-- 'laws.FnRulesetValid': WHATEVER THE INPUT: true; the input reads as it did. -/
def fnRulesetValidSpec : ChangeSpec := { name := "fnRulesetValid", vars := ["loop.example/packetfilter/impl.fieldShapes"], fn := fun _ => fun
  | [d, g1] => { results := [.lit (.bool true)], args := [d], vars := [g1] }
  | _ => none }
def fnRulesetValidRow : OpenClaim := { program := "ytgglogmjjaahhaadoor", sum := "2d2bb99924c7e5cb73f39a2b2ddd126566156049f8b9c275155d657a862e560d", func := "loop.example/packetfilter/laws.FnRulesetValid", spec := "fnRulesetValid", recurses := true, named := ["loop.example/packetfilter/impl.fieldShapes"], apart := false, laid := [("loop.example/packetfilter/impl.fieldShapes", laid_loop_example_packetfilter_impl_fieldShapes)] }
def FnRulesetValidSaid : Prop := fnRulesetValidRow.holds Tryd.pinned (OpenSpec.ofChange fnRulesetValidSpec)

/-- ITS FALSE NEIGHBOUR: 'it returns false'. Refute it at one input. -/
def fnRulesetValidWrong : ChangeSpec := { name := "fnRulesetValid", vars := ["loop.example/packetfilter/impl.fieldShapes"], fn := fun _ => fun
  | [d, g1] => { results := [.lit (.bool false)], args := [d], vars := [g1] }
  | _ => none }
def FnRulesetValidWrongFalsely : Prop := fnRulesetValidRow.holds Tryd.pinned (OpenSpec.ofChange fnRulesetValidWrong)

/-- 'laws.FnCallDepth': WHATEVER THE INPUT: true; the input reads as it did. -/
def fnCallDepthSpec : ChangeSpec := { name := "fnCallDepth", vars := ["loop.example/packetfilter/impl.fieldShapes"], fn := fun _ => fun
  | [d, g1] => { results := [.lit (.bool true)], args := [d], vars := [g1] }
  | _ => none }
def fnCallDepthRow : OpenClaim := { program := "ytgglogmjjaahhaadoor", sum := "2d2bb99924c7e5cb73f39a2b2ddd126566156049f8b9c275155d657a862e560d", func := "loop.example/packetfilter/laws.FnCallDepth", spec := "fnCallDepth", recurses := true, named := ["loop.example/packetfilter/impl.fieldShapes"], apart := false, laid := [("loop.example/packetfilter/impl.fieldShapes", laid_loop_example_packetfilter_impl_fieldShapes)] }
def FnCallDepthSaid : Prop := fnCallDepthRow.holds Tryd.pinned (OpenSpec.ofChange fnCallDepthSpec)

/-- ITS FALSE NEIGHBOUR: 'it returns false'. Refute it at one input. -/
def fnCallDepthWrong : ChangeSpec := { name := "fnCallDepth", vars := ["loop.example/packetfilter/impl.fieldShapes"], fn := fun _ => fun
  | [d, g1] => { results := [.lit (.bool false)], args := [d], vars := [g1] }
  | _ => none }
def FnCallDepthWrongFalsely : Prop := fnCallDepthRow.holds Tryd.pinned (OpenSpec.ofChange fnCallDepthWrong)

/-- 'laws.FnCallsOf': WHATEVER THE INPUT: true; the input reads as it did. -/
def fnCallsOfSpec : ChangeSpec := { name := "fnCallsOf", vars := ["loop.example/packetfilter/impl.fieldShapes"], fn := fun _ => fun
  | [d, g1] => { results := [.lit (.bool true)], args := [d], vars := [g1] }
  | _ => none }
def fnCallsOfRow : OpenClaim := { program := "ytgglogmjjaahhaadoor", sum := "2d2bb99924c7e5cb73f39a2b2ddd126566156049f8b9c275155d657a862e560d", func := "loop.example/packetfilter/laws.FnCallsOf", spec := "fnCallsOf", recurses := true, named := ["loop.example/packetfilter/impl.fieldShapes"], apart := false, laid := [("loop.example/packetfilter/impl.fieldShapes", laid_loop_example_packetfilter_impl_fieldShapes)] }
def FnCallsOfSaid : Prop := fnCallsOfRow.holds Tryd.pinned (OpenSpec.ofChange fnCallsOfSpec)

/-- ITS FALSE NEIGHBOUR: 'it returns false'. Refute it at one input. -/
def fnCallsOfWrong : ChangeSpec := { name := "fnCallsOf", vars := ["loop.example/packetfilter/impl.fieldShapes"], fn := fun _ => fun
  | [d, g1] => { results := [.lit (.bool false)], args := [d], vars := [g1] }
  | _ => none }
def FnCallsOfWrongFalsely : Prop := fnCallsOfRow.holds Tryd.pinned (OpenSpec.ofChange fnCallsOfWrong)

/-- 'laws.FnChainsUsed': WHATEVER THE INPUT: true; the input reads as it did. -/
def fnChainsUsedSpec : ChangeSpec := { name := "fnChainsUsed", vars := ["loop.example/packetfilter/impl.fieldShapes"], fn := fun _ => fun
  | [d, g1] => { results := [.lit (.bool true)], args := [d], vars := [g1] }
  | _ => none }
def fnChainsUsedRow : OpenClaim := { program := "ytgglogmjjaahhaadoor", sum := "2d2bb99924c7e5cb73f39a2b2ddd126566156049f8b9c275155d657a862e560d", func := "loop.example/packetfilter/laws.FnChainsUsed", spec := "fnChainsUsed", unfollowed := true, recurses := true, named := ["loop.example/packetfilter/impl.fieldShapes"], apart := false, laid := [("loop.example/packetfilter/impl.fieldShapes", laid_loop_example_packetfilter_impl_fieldShapes)] }
def FnChainsUsedSaid : Prop := fnChainsUsedRow.holds Tryd.pinned (OpenSpec.ofChange fnChainsUsedSpec)

/-- ITS FALSE NEIGHBOUR: 'it returns false'. Refute it at one input. -/
def fnChainsUsedWrong : ChangeSpec := { name := "fnChainsUsed", vars := ["loop.example/packetfilter/impl.fieldShapes"], fn := fun _ => fun
  | [d, g1] => { results := [.lit (.bool false)], args := [d], vars := [g1] }
  | _ => none }
def FnChainsUsedWrongFalsely : Prop := fnChainsUsedRow.holds Tryd.pinned (OpenSpec.ofChange fnChainsUsedWrong)

/-- 'laws.FnJudgedBy': WHATEVER THE INPUT: true; the input reads as it did. -/
def fnJudgedBySpec : ChangeSpec := { name := "fnJudgedBy", vars := ["loop.example/packetfilter/impl.fieldShapes"], fn := fun _ => fun
  | [d, g1] => { results := [.lit (.bool true)], args := [d], vars := [g1] }
  | _ => none }
def fnJudgedByRow : OpenClaim := { program := "ytgglogmjjaahhaadoor", sum := "2d2bb99924c7e5cb73f39a2b2ddd126566156049f8b9c275155d657a862e560d", func := "loop.example/packetfilter/laws.FnJudgedBy", spec := "fnJudgedBy", unfollowed := true, recurses := true, named := ["loop.example/packetfilter/impl.fieldShapes"], apart := false, laid := [("loop.example/packetfilter/impl.fieldShapes", laid_loop_example_packetfilter_impl_fieldShapes)] }
def FnJudgedBySaid : Prop := fnJudgedByRow.holds Tryd.pinned (OpenSpec.ofChange fnJudgedBySpec)

/-- ITS FALSE NEIGHBOUR: 'it returns false'. Refute it at one input. -/
def fnJudgedByWrong : ChangeSpec := { name := "fnJudgedBy", vars := ["loop.example/packetfilter/impl.fieldShapes"], fn := fun _ => fun
  | [d, g1] => { results := [.lit (.bool false)], args := [d], vars := [g1] }
  | _ => none }
def FnJudgedByWrongFalsely : Prop := fnJudgedByRow.holds Tryd.pinned (OpenSpec.ofChange fnJudgedByWrong)

/-- 'laws.FnJudgeMirror': WHATEVER THE INPUT: true; the input reads as it did. -/
def fnJudgeMirrorSpec : ChangeSpec := { name := "fnJudgeMirror", vars := ["loop.example/packetfilter/impl.fieldShapes"], fn := fun _ => fun
  | [d, g1] => { results := [.lit (.bool true)], args := [d], vars := [g1] }
  | _ => none }
def fnJudgeMirrorRow : OpenClaim := { program := "ytgglogmjjaahhaadoor", sum := "2d2bb99924c7e5cb73f39a2b2ddd126566156049f8b9c275155d657a862e560d", func := "loop.example/packetfilter/laws.FnJudgeMirror", spec := "fnJudgeMirror", unfollowed := true, recurses := true, named := ["loop.example/packetfilter/impl.fieldShapes"], apart := false, laid := [("loop.example/packetfilter/impl.fieldShapes", laid_loop_example_packetfilter_impl_fieldShapes)] }
def FnJudgeMirrorSaid : Prop := fnJudgeMirrorRow.holds Tryd.pinned (OpenSpec.ofChange fnJudgeMirrorSpec)

/-- ITS FALSE NEIGHBOUR: 'it returns false'. Refute it at one input. -/
def fnJudgeMirrorWrong : ChangeSpec := { name := "fnJudgeMirror", vars := ["loop.example/packetfilter/impl.fieldShapes"], fn := fun _ => fun
  | [d, g1] => { results := [.lit (.bool false)], args := [d], vars := [g1] }
  | _ => none }
def FnJudgeMirrorWrongFalsely : Prop := fnJudgeMirrorRow.holds Tryd.pinned (OpenSpec.ofChange fnJudgeMirrorWrong)

/-- 'laws.FnReturnLast': WHATEVER THE INPUT: true; the input reads as it did. -/
def fnReturnLastSpec : ChangeSpec := { name := "fnReturnLast", vars := ["loop.example/packetfilter/impl.fieldShapes"], fn := fun _ => fun
  | [d, g1] => { results := [.lit (.bool true)], args := [d], vars := [g1] }
  | _ => none }
def fnReturnLastRow : OpenClaim := { program := "ytgglogmjjaahhaadoor", sum := "2d2bb99924c7e5cb73f39a2b2ddd126566156049f8b9c275155d657a862e560d", func := "loop.example/packetfilter/laws.FnReturnLast", spec := "fnReturnLast", unfollowed := true, recurses := true, named := ["loop.example/packetfilter/impl.fieldShapes"], apart := false, laid := [("loop.example/packetfilter/impl.fieldShapes", laid_loop_example_packetfilter_impl_fieldShapes)] }
def FnReturnLastSaid : Prop := fnReturnLastRow.holds Tryd.pinned (OpenSpec.ofChange fnReturnLastSpec)

/-- ITS FALSE NEIGHBOUR: 'it returns false'. Refute it at one input. -/
def fnReturnLastWrong : ChangeSpec := { name := "fnReturnLast", vars := ["loop.example/packetfilter/impl.fieldShapes"], fn := fun _ => fun
  | [d, g1] => { results := [.lit (.bool false)], args := [d], vars := [g1] }
  | _ => none }
def FnReturnLastWrongFalsely : Prop := fnReturnLastRow.holds Tryd.pinned (OpenSpec.ofChange fnReturnLastWrong)

/-- 'laws.FnRuleFirst': WHATEVER THE INPUT: true; the input reads as it did. -/
def fnRuleFirstSpec : ChangeSpec := { name := "fnRuleFirst", vars := ["loop.example/packetfilter/impl.fieldShapes"], fn := fun _ => fun
  | [d1, d2, g1] => { results := [.lit (.bool true)], args := [d1, d2], vars := [g1] }
  | _ => none }
def fnRuleFirstRow : OpenClaim := { program := "ytgglogmjjaahhaadoor", sum := "2d2bb99924c7e5cb73f39a2b2ddd126566156049f8b9c275155d657a862e560d", func := "loop.example/packetfilter/laws.FnRuleFirst", spec := "fnRuleFirst", unfollowed := true, recurses := true, named := ["loop.example/packetfilter/impl.fieldShapes"], apart := false, laid := [("loop.example/packetfilter/impl.fieldShapes", laid_loop_example_packetfilter_impl_fieldShapes)] }
def FnRuleFirstSaid : Prop := fnRuleFirstRow.holds Tryd.pinned (OpenSpec.ofChange fnRuleFirstSpec)

/-- ITS FALSE NEIGHBOUR: 'it returns false'. Refute it at one input. -/
def fnRuleFirstWrong : ChangeSpec := { name := "fnRuleFirst", vars := ["loop.example/packetfilter/impl.fieldShapes"], fn := fun _ => fun
  | [d1, d2, g1] => { results := [.lit (.bool false)], args := [d1, d2], vars := [g1] }
  | _ => none }
def FnRuleFirstWrongFalsely : Prop := fnRuleFirstRow.holds Tryd.pinned (OpenSpec.ofChange fnRuleFirstWrong)

/-- 'laws.FnRuleNone': WHATEVER THE INPUT: true; the input reads as it did. -/
def fnRuleNoneSpec : ChangeSpec := { name := "fnRuleNone", vars := ["loop.example/packetfilter/impl.fieldShapes"], fn := fun _ => fun
  | [d, g1] => { results := [.lit (.bool true)], args := [d], vars := [g1] }
  | _ => none }
def fnRuleNoneRow : OpenClaim := { program := "ytgglogmjjaahhaadoor", sum := "2d2bb99924c7e5cb73f39a2b2ddd126566156049f8b9c275155d657a862e560d", func := "loop.example/packetfilter/laws.FnRuleNone", spec := "fnRuleNone", unfollowed := true, recurses := true, named := ["loop.example/packetfilter/impl.fieldShapes"], apart := false, laid := [("loop.example/packetfilter/impl.fieldShapes", laid_loop_example_packetfilter_impl_fieldShapes)] }
def FnRuleNoneSaid : Prop := fnRuleNoneRow.holds Tryd.pinned (OpenSpec.ofChange fnRuleNoneSpec)

/-- ITS FALSE NEIGHBOUR: 'it returns false'. Refute it at one input. -/
def fnRuleNoneWrong : ChangeSpec := { name := "fnRuleNone", vars := ["loop.example/packetfilter/impl.fieldShapes"], fn := fun _ => fun
  | [d, g1] => { results := [.lit (.bool false)], args := [d], vars := [g1] }
  | _ => none }
def FnRuleNoneWrongFalsely : Prop := fnRuleNoneRow.holds Tryd.pinned (OpenSpec.ofChange fnRuleNoneWrong)

/-- 'laws.FnJudgeTrace': WHATEVER THE INPUT: true; the input reads as it did. -/
def fnJudgeTraceSpec : ChangeSpec := { name := "fnJudgeTrace", vars := ["loop.example/packetfilter/impl.fieldShapes"], fn := fun _ => fun
  | [d, g1] => { results := [.lit (.bool true)], args := [d], vars := [g1] }
  | _ => none }
def fnJudgeTraceRow : OpenClaim := { program := "ytgglogmjjaahhaadoor", sum := "2d2bb99924c7e5cb73f39a2b2ddd126566156049f8b9c275155d657a862e560d", func := "loop.example/packetfilter/laws.FnJudgeTrace", spec := "fnJudgeTrace", unfollowed := true, recurses := true, named := ["loop.example/packetfilter/impl.fieldShapes"], apart := false, laid := [("loop.example/packetfilter/impl.fieldShapes", laid_loop_example_packetfilter_impl_fieldShapes)] }
def FnJudgeTraceSaid : Prop := fnJudgeTraceRow.holds Tryd.pinned (OpenSpec.ofChange fnJudgeTraceSpec)

/-- ITS FALSE NEIGHBOUR: 'it returns false'. Refute it at one input. -/
def fnJudgeTraceWrong : ChangeSpec := { name := "fnJudgeTrace", vars := ["loop.example/packetfilter/impl.fieldShapes"], fn := fun _ => fun
  | [d, g1] => { results := [.lit (.bool false)], args := [d], vars := [g1] }
  | _ => none }
def FnJudgeTraceWrongFalsely : Prop := fnJudgeTraceRow.holds Tryd.pinned (OpenSpec.ofChange fnJudgeTraceWrong)

/- THE SECOND FORM. 'bulk': how many values and letters a reading holds, each counted each time it is reached (what is shared counts as often as it is met; a slice's spare places count too). A statement '..UptoSaid' is the law's where the arguments, and the package variables that the reading takes, are together of bulk at most 1048576: NARROWER than '..Said'. Prove '..Said' where nothing that the law and all that it calls make is longer than what came in: it says more and counts as full. Else prove '..UptoSaid'. A law counts once. -/
mutual
def uptoBulk {H : Type} : DataW H → Nat
  | .lit (.string bytes) => bytes.length + 1
  | .lit _ => 1
  | .nil => 1
  | .ptr d => uptoBulk d + 1
  | .slice elems spare => uptoBulkAll elems + uptoBulkAll spare + 1
  | .agg parts => uptoBulkAll parts + 1
  | .iface _ d => uptoBulk d + 1
  | .map entries => uptoBulkEntries entries + 1
  | .held _ => 1
def uptoBulkAll {H : Type} : List (DataW H) → Nat
  | [] => 0
  | d :: r => uptoBulk d + uptoBulkAll r
def uptoBulkEntries {H : Type} : List (Lit × DataW H) → Nat
  | [] => 0
  | x :: r => uptoBulkEntry x + uptoBulkEntries r
def uptoBulkEntry {H : Type} : Lit × DataW H → Nat
  | (.string bytes, d) => bytes.length + uptoBulk d + 1
  | (_, d) => uptoBulk d + 1
 end
def uptoSmall : (H : Type) → List (DataW H) → Bool := fun _ ds => decide (uptoBulkAll ds ≤ 1048576)
def OpenSpec.upto (s : _root_.Go.ChangeSpec) : _root_.Go.OpenSpec := { _root_.Go.OpenSpec.ofChange s with cond := some uptoSmall }

/-- 'laws.FnBoxTests', WHERE WHAT IT READS IS OF BULK AT MOST 1048576: true; the input reads as it did. -/
def fnBoxTestsUptoRow : OpenClaim := { program := "ytgglogmjjaahhaadoor", sum := "2d2bb99924c7e5cb73f39a2b2ddd126566156049f8b9c275155d657a862e560d", func := "loop.example/packetfilter/laws.FnBoxTests", spec := "fnBoxTests", unfollowed := true, recurses := true, named := ["loop.example/packetfilter/impl.fieldShapes"], apart := false, laid := [("loop.example/packetfilter/impl.fieldShapes", laid_loop_example_packetfilter_impl_fieldShapes)], narrowed := true }
def FnBoxTestsUptoSaid : Prop := fnBoxTestsUptoRow.holds Tryd.pinned (OpenSpec.upto fnBoxTestsSpec)

/-- 'laws.FnCallAlone', WHERE WHAT IT READS IS OF BULK AT MOST 1048576: true; the input reads as it did. -/
def fnCallAloneUptoRow : OpenClaim := { program := "ytgglogmjjaahhaadoor", sum := "2d2bb99924c7e5cb73f39a2b2ddd126566156049f8b9c275155d657a862e560d", func := "loop.example/packetfilter/laws.FnCallAlone", spec := "fnCallAlone", unfollowed := true, recurses := true, named := ["loop.example/packetfilter/impl.fieldShapes"], apart := false, laid := [("loop.example/packetfilter/impl.fieldShapes", laid_loop_example_packetfilter_impl_fieldShapes)], narrowed := true }
def FnCallAloneUptoSaid : Prop := fnCallAloneUptoRow.holds Tryd.pinned (OpenSpec.upto fnCallAloneSpec)

/-- 'laws.FnRulesetValid', WHERE WHAT IT READS IS OF BULK AT MOST 1048576: true; the input reads as it did. -/
def fnRulesetValidUptoRow : OpenClaim := { program := "ytgglogmjjaahhaadoor", sum := "2d2bb99924c7e5cb73f39a2b2ddd126566156049f8b9c275155d657a862e560d", func := "loop.example/packetfilter/laws.FnRulesetValid", spec := "fnRulesetValid", recurses := true, named := ["loop.example/packetfilter/impl.fieldShapes"], apart := false, laid := [("loop.example/packetfilter/impl.fieldShapes", laid_loop_example_packetfilter_impl_fieldShapes)], narrowed := true }
def FnRulesetValidUptoSaid : Prop := fnRulesetValidUptoRow.holds Tryd.pinned (OpenSpec.upto fnRulesetValidSpec)

/-- 'laws.FnCallDepth', WHERE WHAT IT READS IS OF BULK AT MOST 1048576: true; the input reads as it did. -/
def fnCallDepthUptoRow : OpenClaim := { program := "ytgglogmjjaahhaadoor", sum := "2d2bb99924c7e5cb73f39a2b2ddd126566156049f8b9c275155d657a862e560d", func := "loop.example/packetfilter/laws.FnCallDepth", spec := "fnCallDepth", recurses := true, named := ["loop.example/packetfilter/impl.fieldShapes"], apart := false, laid := [("loop.example/packetfilter/impl.fieldShapes", laid_loop_example_packetfilter_impl_fieldShapes)], narrowed := true }
def FnCallDepthUptoSaid : Prop := fnCallDepthUptoRow.holds Tryd.pinned (OpenSpec.upto fnCallDepthSpec)

/-- 'laws.FnCallsOf', WHERE WHAT IT READS IS OF BULK AT MOST 1048576: true; the input reads as it did. -/
def fnCallsOfUptoRow : OpenClaim := { program := "ytgglogmjjaahhaadoor", sum := "2d2bb99924c7e5cb73f39a2b2ddd126566156049f8b9c275155d657a862e560d", func := "loop.example/packetfilter/laws.FnCallsOf", spec := "fnCallsOf", recurses := true, named := ["loop.example/packetfilter/impl.fieldShapes"], apart := false, laid := [("loop.example/packetfilter/impl.fieldShapes", laid_loop_example_packetfilter_impl_fieldShapes)], narrowed := true }
def FnCallsOfUptoSaid : Prop := fnCallsOfUptoRow.holds Tryd.pinned (OpenSpec.upto fnCallsOfSpec)

/-- 'laws.FnChainsUsed', WHERE WHAT IT READS IS OF BULK AT MOST 1048576: true; the input reads as it did. -/
def fnChainsUsedUptoRow : OpenClaim := { program := "ytgglogmjjaahhaadoor", sum := "2d2bb99924c7e5cb73f39a2b2ddd126566156049f8b9c275155d657a862e560d", func := "loop.example/packetfilter/laws.FnChainsUsed", spec := "fnChainsUsed", unfollowed := true, recurses := true, named := ["loop.example/packetfilter/impl.fieldShapes"], apart := false, laid := [("loop.example/packetfilter/impl.fieldShapes", laid_loop_example_packetfilter_impl_fieldShapes)], narrowed := true }
def FnChainsUsedUptoSaid : Prop := fnChainsUsedUptoRow.holds Tryd.pinned (OpenSpec.upto fnChainsUsedSpec)

/-- 'laws.FnJudgedBy', WHERE WHAT IT READS IS OF BULK AT MOST 1048576: true; the input reads as it did. -/
def fnJudgedByUptoRow : OpenClaim := { program := "ytgglogmjjaahhaadoor", sum := "2d2bb99924c7e5cb73f39a2b2ddd126566156049f8b9c275155d657a862e560d", func := "loop.example/packetfilter/laws.FnJudgedBy", spec := "fnJudgedBy", unfollowed := true, recurses := true, named := ["loop.example/packetfilter/impl.fieldShapes"], apart := false, laid := [("loop.example/packetfilter/impl.fieldShapes", laid_loop_example_packetfilter_impl_fieldShapes)], narrowed := true }
def FnJudgedByUptoSaid : Prop := fnJudgedByUptoRow.holds Tryd.pinned (OpenSpec.upto fnJudgedBySpec)

/-- 'laws.FnJudgeMirror', WHERE WHAT IT READS IS OF BULK AT MOST 1048576: true; the input reads as it did. -/
def fnJudgeMirrorUptoRow : OpenClaim := { program := "ytgglogmjjaahhaadoor", sum := "2d2bb99924c7e5cb73f39a2b2ddd126566156049f8b9c275155d657a862e560d", func := "loop.example/packetfilter/laws.FnJudgeMirror", spec := "fnJudgeMirror", unfollowed := true, recurses := true, named := ["loop.example/packetfilter/impl.fieldShapes"], apart := false, laid := [("loop.example/packetfilter/impl.fieldShapes", laid_loop_example_packetfilter_impl_fieldShapes)], narrowed := true }
def FnJudgeMirrorUptoSaid : Prop := fnJudgeMirrorUptoRow.holds Tryd.pinned (OpenSpec.upto fnJudgeMirrorSpec)

/-- 'laws.FnReturnLast', WHERE WHAT IT READS IS OF BULK AT MOST 1048576: true; the input reads as it did. -/
def fnReturnLastUptoRow : OpenClaim := { program := "ytgglogmjjaahhaadoor", sum := "2d2bb99924c7e5cb73f39a2b2ddd126566156049f8b9c275155d657a862e560d", func := "loop.example/packetfilter/laws.FnReturnLast", spec := "fnReturnLast", unfollowed := true, recurses := true, named := ["loop.example/packetfilter/impl.fieldShapes"], apart := false, laid := [("loop.example/packetfilter/impl.fieldShapes", laid_loop_example_packetfilter_impl_fieldShapes)], narrowed := true }
def FnReturnLastUptoSaid : Prop := fnReturnLastUptoRow.holds Tryd.pinned (OpenSpec.upto fnReturnLastSpec)

/-- 'laws.FnRuleFirst', WHERE WHAT IT READS IS OF BULK AT MOST 1048576: true; the input reads as it did. -/
def fnRuleFirstUptoRow : OpenClaim := { program := "ytgglogmjjaahhaadoor", sum := "2d2bb99924c7e5cb73f39a2b2ddd126566156049f8b9c275155d657a862e560d", func := "loop.example/packetfilter/laws.FnRuleFirst", spec := "fnRuleFirst", unfollowed := true, recurses := true, named := ["loop.example/packetfilter/impl.fieldShapes"], apart := false, laid := [("loop.example/packetfilter/impl.fieldShapes", laid_loop_example_packetfilter_impl_fieldShapes)], narrowed := true }
def FnRuleFirstUptoSaid : Prop := fnRuleFirstUptoRow.holds Tryd.pinned (OpenSpec.upto fnRuleFirstSpec)

/-- 'laws.FnRuleNone', WHERE WHAT IT READS IS OF BULK AT MOST 1048576: true; the input reads as it did. -/
def fnRuleNoneUptoRow : OpenClaim := { program := "ytgglogmjjaahhaadoor", sum := "2d2bb99924c7e5cb73f39a2b2ddd126566156049f8b9c275155d657a862e560d", func := "loop.example/packetfilter/laws.FnRuleNone", spec := "fnRuleNone", unfollowed := true, recurses := true, named := ["loop.example/packetfilter/impl.fieldShapes"], apart := false, laid := [("loop.example/packetfilter/impl.fieldShapes", laid_loop_example_packetfilter_impl_fieldShapes)], narrowed := true }
def FnRuleNoneUptoSaid : Prop := fnRuleNoneUptoRow.holds Tryd.pinned (OpenSpec.upto fnRuleNoneSpec)

/-- 'laws.FnJudgeTrace', WHERE WHAT IT READS IS OF BULK AT MOST 1048576: true; the input reads as it did. -/
def fnJudgeTraceUptoRow : OpenClaim := { program := "ytgglogmjjaahhaadoor", sum := "2d2bb99924c7e5cb73f39a2b2ddd126566156049f8b9c275155d657a862e560d", func := "loop.example/packetfilter/laws.FnJudgeTrace", spec := "fnJudgeTrace", unfollowed := true, recurses := true, named := ["loop.example/packetfilter/impl.fieldShapes"], apart := false, laid := [("loop.example/packetfilter/impl.fieldShapes", laid_loop_example_packetfilter_impl_fieldShapes)], narrowed := true }
def FnJudgeTraceUptoSaid : Prop := fnJudgeTraceUptoRow.holds Tryd.pinned (OpenSpec.upto fnJudgeTraceSpec)

end Rows
end Go.Proofs.YtgglogmjjaahhaaDoor
