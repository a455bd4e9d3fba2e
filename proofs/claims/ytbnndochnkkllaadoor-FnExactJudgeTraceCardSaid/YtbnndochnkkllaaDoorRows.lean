/-
  NARROWER THAN 'FOR EVERY INPUT', by the rows' own cells (each row's printed sentence says how): FnJudge: laid · FnChainUnused: laid · FnExactBoxTests: laid · FnExactBoxMeet: laid · FnExactTestsBox: laid · FnExactFlatBoxes: laid · FnExactCallsOf: laid · FnExactChainsUsed: laid · FnExactJudgeTrace: laid · FnExactBoxCut: laid · FnExactRegionLess: laid · FnBoxWithin: laid.
  DERIVED. THE GIVEN ROWS OF THIS SEAT. 12 by the template 'for every input the law returns true; each argument reads behind the call as it read before'; 0 by the template 'total and deterministic' (their statements: YtbnndochnkkllaaDoorTotals.lean).
  GIVEN WITH THE SEED: the statements are not yours to turn. If you find one false, say at which input.
  Laid BY PROGRAM, IN A SANDBOX (cutbox-rows.mjs): the forced cells as the released guide's own fill.sh prints them over the translation ed139dae2d9197b8… (all of the seat's roots in one cut). By AI agents, Wed Nov 11 2026. No macro, syntax, notation, axiom, sorry.
-/
import Derived.Test.YtbnndochnkkllaaDoorChecked
import GoSem.Claim
import GoSem.ClaimJoined
import GoSem.ClaimMapViews
import Derived.JoinedTies
import Derived.KernelRfl
namespace Go.Proofs.YtbnndochnkkllaaDoor
/- THE CELL 'sum', in the pinned program and in every row, IS THE sha256 OF THE DUMP (.gsa) THAT YtbnndochnkkllaaDoorProg.lean LOADS. Nothing in Lean hashes anything: it is a label: what it is worth is what the hold of that sum in a sandbox is worth. -/
noncomputable def Tryd.pinned : Pinned := { name := "ytbnndochnkkllaadoor", sum := "ed139dae2d9197b8e2819af3e3f2240ebbb570778e22091951f51af5cf3ffdbc", checked := Tryd.checked }
namespace Rows
def none {H : Type} : Left H := { results := [], args := [] }

/- WHAT THE LISTED PACKAGE-LEVEL VARIABLES READ AS WHEN THE CALL BEGINS. Each datum BY PROGRAM (the guide's laid-datum.mjs) off the statement by which the dump's own 'gosem.cut.vars' lays the variable. In a bare row this is a premise. The card (YtbnndochnkkllaaDoorCards.lean) ties it to the program's text. -/
def laid_loop_example_packetfilter_impl_fieldShapes {H : Type} : DataW H := .agg [.agg [.lit (.string [102, 114, 111, 109]), .lit (.int .i64 65535)], .agg [.lit (.string [116, 111]), .lit (.int .i64 65535)], .agg [.lit (.string [112, 111, 114, 116]), .lit (.int .i64 255)], .agg [.lit (.string [112, 114, 111, 116, 111]), .lit (.int .i64 7)]]

/-- 'laws.FnJudge': WHATEVER THE INPUT: true; the input reads as it did. -/
def fnJudgeSpec : ChangeSpec := { name := "fnJudge", vars := ["loop.example/packetfilter/impl.fieldShapes"], fn := fun _ => fun
  | [d, g1] => { results := [.lit (.bool true)], args := [d], vars := [g1] }
  | _ => none }
def fnJudgeRow : OpenClaim := { program := "ytbnndochnkkllaadoor", sum := "ed139dae2d9197b8e2819af3e3f2240ebbb570778e22091951f51af5cf3ffdbc", func := "loop.example/packetfilter/laws.FnJudge", spec := "fnJudge", unfollowed := true, recurses := true, named := ["loop.example/packetfilter/impl.fieldShapes"], apart := false, laid := [("loop.example/packetfilter/impl.fieldShapes", laid_loop_example_packetfilter_impl_fieldShapes)] }
def FnJudgeSaid : Prop := fnJudgeRow.holds Tryd.pinned (OpenSpec.ofChange fnJudgeSpec)

/-- ITS FALSE NEIGHBOUR: 'it returns false'. Refute it at one input. -/
def fnJudgeWrong : ChangeSpec := { name := "fnJudge", vars := ["loop.example/packetfilter/impl.fieldShapes"], fn := fun _ => fun
  | [d, g1] => { results := [.lit (.bool false)], args := [d], vars := [g1] }
  | _ => none }
def FnJudgeWrongFalsely : Prop := fnJudgeRow.holds Tryd.pinned (OpenSpec.ofChange fnJudgeWrong)

/-- 'laws.FnChainUnused': WHATEVER THE INPUT: true; the input reads as it did. -/
def fnChainUnusedSpec : ChangeSpec := { name := "fnChainUnused", vars := ["loop.example/packetfilter/impl.fieldShapes"], fn := fun _ => fun
  | [d, g1] => { results := [.lit (.bool true)], args := [d], vars := [g1] }
  | _ => none }
def fnChainUnusedRow : OpenClaim := { program := "ytbnndochnkkllaadoor", sum := "ed139dae2d9197b8e2819af3e3f2240ebbb570778e22091951f51af5cf3ffdbc", func := "loop.example/packetfilter/laws.FnChainUnused", spec := "fnChainUnused", unfollowed := true, recurses := true, named := ["loop.example/packetfilter/impl.fieldShapes"], apart := false, laid := [("loop.example/packetfilter/impl.fieldShapes", laid_loop_example_packetfilter_impl_fieldShapes)] }
def FnChainUnusedSaid : Prop := fnChainUnusedRow.holds Tryd.pinned (OpenSpec.ofChange fnChainUnusedSpec)

/-- ITS FALSE NEIGHBOUR: 'it returns false'. Refute it at one input. -/
def fnChainUnusedWrong : ChangeSpec := { name := "fnChainUnused", vars := ["loop.example/packetfilter/impl.fieldShapes"], fn := fun _ => fun
  | [d, g1] => { results := [.lit (.bool false)], args := [d], vars := [g1] }
  | _ => none }
def FnChainUnusedWrongFalsely : Prop := fnChainUnusedRow.holds Tryd.pinned (OpenSpec.ofChange fnChainUnusedWrong)

/-- 'laws.FnExactBoxTests': WHATEVER THE INPUT: true; the input reads as it did. -/
def fnExactBoxTestsSpec : ChangeSpec := { name := "fnExactBoxTests", vars := ["loop.example/packetfilter/impl.fieldShapes"], fn := fun _ => fun
  | [d, g1] => { results := [.lit (.bool true)], args := [d], vars := [g1] }
  | _ => none }
def fnExactBoxTestsRow : OpenClaim := { program := "ytbnndochnkkllaadoor", sum := "ed139dae2d9197b8e2819af3e3f2240ebbb570778e22091951f51af5cf3ffdbc", func := "loop.example/packetfilter/laws.FnExactBoxTests", spec := "fnExactBoxTests", named := ["loop.example/packetfilter/impl.fieldShapes"], apart := false, laid := [("loop.example/packetfilter/impl.fieldShapes", laid_loop_example_packetfilter_impl_fieldShapes)] }
def FnExactBoxTestsSaid : Prop := fnExactBoxTestsRow.holds Tryd.pinned (OpenSpec.ofChange fnExactBoxTestsSpec)

/-- ITS FALSE NEIGHBOUR: 'it returns false'. Refute it at one input. -/
def fnExactBoxTestsWrong : ChangeSpec := { name := "fnExactBoxTests", vars := ["loop.example/packetfilter/impl.fieldShapes"], fn := fun _ => fun
  | [d, g1] => { results := [.lit (.bool false)], args := [d], vars := [g1] }
  | _ => none }
def FnExactBoxTestsWrongFalsely : Prop := fnExactBoxTestsRow.holds Tryd.pinned (OpenSpec.ofChange fnExactBoxTestsWrong)

/-- 'laws.FnExactBoxMeet': WHATEVER THE INPUT: true; the input reads as it did. -/
def fnExactBoxMeetSpec : ChangeSpec := { name := "fnExactBoxMeet", vars := ["loop.example/packetfilter/impl.fieldShapes"], fn := fun _ => fun
  | [d1, d2, g1] => { results := [.lit (.bool true)], args := [d1, d2], vars := [g1] }
  | _ => none }
def fnExactBoxMeetRow : OpenClaim := { program := "ytbnndochnkkllaadoor", sum := "ed139dae2d9197b8e2819af3e3f2240ebbb570778e22091951f51af5cf3ffdbc", func := "loop.example/packetfilter/laws.FnExactBoxMeet", spec := "fnExactBoxMeet", unfollowed := true, recurses := true, named := ["loop.example/packetfilter/impl.fieldShapes"], apart := false, laid := [("loop.example/packetfilter/impl.fieldShapes", laid_loop_example_packetfilter_impl_fieldShapes)] }
def FnExactBoxMeetSaid : Prop := fnExactBoxMeetRow.holds Tryd.pinned (OpenSpec.ofChange fnExactBoxMeetSpec)

/-- ITS FALSE NEIGHBOUR: 'it returns false'. Refute it at one input. -/
def fnExactBoxMeetWrong : ChangeSpec := { name := "fnExactBoxMeet", vars := ["loop.example/packetfilter/impl.fieldShapes"], fn := fun _ => fun
  | [d1, d2, g1] => { results := [.lit (.bool false)], args := [d1, d2], vars := [g1] }
  | _ => none }
def FnExactBoxMeetWrongFalsely : Prop := fnExactBoxMeetRow.holds Tryd.pinned (OpenSpec.ofChange fnExactBoxMeetWrong)

/-- 'laws.FnExactTestsBox': WHATEVER THE INPUT: true; the input reads as it did. -/
def fnExactTestsBoxSpec : ChangeSpec := { name := "fnExactTestsBox", vars := ["loop.example/packetfilter/impl.fieldShapes"], fn := fun _ => fun
  | [d, g1] => { results := [.lit (.bool true)], args := [d], vars := [g1] }
  | _ => none }
def fnExactTestsBoxRow : OpenClaim := { program := "ytbnndochnkkllaadoor", sum := "ed139dae2d9197b8e2819af3e3f2240ebbb570778e22091951f51af5cf3ffdbc", func := "loop.example/packetfilter/laws.FnExactTestsBox", spec := "fnExactTestsBox", unfollowed := true, recurses := true, named := ["loop.example/packetfilter/impl.fieldShapes"], apart := false, laid := [("loop.example/packetfilter/impl.fieldShapes", laid_loop_example_packetfilter_impl_fieldShapes)] }
def FnExactTestsBoxSaid : Prop := fnExactTestsBoxRow.holds Tryd.pinned (OpenSpec.ofChange fnExactTestsBoxSpec)

/-- ITS FALSE NEIGHBOUR: 'it returns false'. Refute it at one input. -/
def fnExactTestsBoxWrong : ChangeSpec := { name := "fnExactTestsBox", vars := ["loop.example/packetfilter/impl.fieldShapes"], fn := fun _ => fun
  | [d, g1] => { results := [.lit (.bool false)], args := [d], vars := [g1] }
  | _ => none }
def FnExactTestsBoxWrongFalsely : Prop := fnExactTestsBoxRow.holds Tryd.pinned (OpenSpec.ofChange fnExactTestsBoxWrong)

/-- 'laws.FnExactFlatBoxes': WHATEVER THE INPUT: true; the input reads as it did. -/
def fnExactFlatBoxesSpec : ChangeSpec := { name := "fnExactFlatBoxes", vars := ["loop.example/packetfilter/impl.fieldShapes"], fn := fun _ => fun
  | [d, g1] => { results := [.lit (.bool true)], args := [d], vars := [g1] }
  | _ => none }
def fnExactFlatBoxesRow : OpenClaim := { program := "ytbnndochnkkllaadoor", sum := "ed139dae2d9197b8e2819af3e3f2240ebbb570778e22091951f51af5cf3ffdbc", func := "loop.example/packetfilter/laws.FnExactFlatBoxes", spec := "fnExactFlatBoxes", named := ["loop.example/packetfilter/impl.fieldShapes"], apart := false, laid := [("loop.example/packetfilter/impl.fieldShapes", laid_loop_example_packetfilter_impl_fieldShapes)] }
def FnExactFlatBoxesSaid : Prop := fnExactFlatBoxesRow.holds Tryd.pinned (OpenSpec.ofChange fnExactFlatBoxesSpec)

/-- ITS FALSE NEIGHBOUR: 'it returns false'. Refute it at one input. -/
def fnExactFlatBoxesWrong : ChangeSpec := { name := "fnExactFlatBoxes", vars := ["loop.example/packetfilter/impl.fieldShapes"], fn := fun _ => fun
  | [d, g1] => { results := [.lit (.bool false)], args := [d], vars := [g1] }
  | _ => none }
def FnExactFlatBoxesWrongFalsely : Prop := fnExactFlatBoxesRow.holds Tryd.pinned (OpenSpec.ofChange fnExactFlatBoxesWrong)

/-- 'laws.FnExactCallsOf': WHATEVER THE INPUT: true; the input reads as it did. -/
def fnExactCallsOfSpec : ChangeSpec := { name := "fnExactCallsOf", vars := ["loop.example/packetfilter/impl.fieldShapes"], fn := fun _ => fun
  | [d1, d2, g1] => { results := [.lit (.bool true)], args := [d1, d2], vars := [g1] }
  | _ => none }
def fnExactCallsOfRow : OpenClaim := { program := "ytbnndochnkkllaadoor", sum := "ed139dae2d9197b8e2819af3e3f2240ebbb570778e22091951f51af5cf3ffdbc", func := "loop.example/packetfilter/laws.FnExactCallsOf", spec := "fnExactCallsOf", recurses := true, named := ["loop.example/packetfilter/impl.fieldShapes"], apart := false, laid := [("loop.example/packetfilter/impl.fieldShapes", laid_loop_example_packetfilter_impl_fieldShapes)] }
def FnExactCallsOfSaid : Prop := fnExactCallsOfRow.holds Tryd.pinned (OpenSpec.ofChange fnExactCallsOfSpec)

/-- ITS FALSE NEIGHBOUR: 'it returns false'. Refute it at one input. -/
def fnExactCallsOfWrong : ChangeSpec := { name := "fnExactCallsOf", vars := ["loop.example/packetfilter/impl.fieldShapes"], fn := fun _ => fun
  | [d1, d2, g1] => { results := [.lit (.bool false)], args := [d1, d2], vars := [g1] }
  | _ => none }
def FnExactCallsOfWrongFalsely : Prop := fnExactCallsOfRow.holds Tryd.pinned (OpenSpec.ofChange fnExactCallsOfWrong)

/-- 'laws.FnExactChainsUsed': WHATEVER THE INPUT: true; the input reads as it did. -/
def fnExactChainsUsedSpec : ChangeSpec := { name := "fnExactChainsUsed", vars := ["loop.example/packetfilter/impl.fieldShapes"], fn := fun _ => fun
  | [d, g1] => { results := [.lit (.bool true)], args := [d], vars := [g1] }
  | _ => none }
def fnExactChainsUsedRow : OpenClaim := { program := "ytbnndochnkkllaadoor", sum := "ed139dae2d9197b8e2819af3e3f2240ebbb570778e22091951f51af5cf3ffdbc", func := "loop.example/packetfilter/laws.FnExactChainsUsed", spec := "fnExactChainsUsed", recurses := true, named := ["loop.example/packetfilter/impl.fieldShapes"], apart := false, laid := [("loop.example/packetfilter/impl.fieldShapes", laid_loop_example_packetfilter_impl_fieldShapes)] }
def FnExactChainsUsedSaid : Prop := fnExactChainsUsedRow.holds Tryd.pinned (OpenSpec.ofChange fnExactChainsUsedSpec)

/-- ITS FALSE NEIGHBOUR: 'it returns false'. Refute it at one input. -/
def fnExactChainsUsedWrong : ChangeSpec := { name := "fnExactChainsUsed", vars := ["loop.example/packetfilter/impl.fieldShapes"], fn := fun _ => fun
  | [d, g1] => { results := [.lit (.bool false)], args := [d], vars := [g1] }
  | _ => none }
def FnExactChainsUsedWrongFalsely : Prop := fnExactChainsUsedRow.holds Tryd.pinned (OpenSpec.ofChange fnExactChainsUsedWrong)

/-- 'laws.FnExactJudgeTrace': WHATEVER THE INPUT: true; the input reads as it did. -/
def fnExactJudgeTraceSpec : ChangeSpec := { name := "fnExactJudgeTrace", vars := ["loop.example/packetfilter/impl.fieldShapes"], fn := fun _ => fun
  | [d1, d2, g1] => { results := [.lit (.bool true)], args := [d1, d2], vars := [g1] }
  | _ => none }
def fnExactJudgeTraceRow : OpenClaim := { program := "ytbnndochnkkllaadoor", sum := "ed139dae2d9197b8e2819af3e3f2240ebbb570778e22091951f51af5cf3ffdbc", func := "loop.example/packetfilter/laws.FnExactJudgeTrace", spec := "fnExactJudgeTrace", unfollowed := true, recurses := true, named := ["loop.example/packetfilter/impl.fieldShapes"], apart := false, laid := [("loop.example/packetfilter/impl.fieldShapes", laid_loop_example_packetfilter_impl_fieldShapes)] }
def FnExactJudgeTraceSaid : Prop := fnExactJudgeTraceRow.holds Tryd.pinned (OpenSpec.ofChange fnExactJudgeTraceSpec)

/-- ITS FALSE NEIGHBOUR: 'it returns false'. Refute it at one input. -/
def fnExactJudgeTraceWrong : ChangeSpec := { name := "fnExactJudgeTrace", vars := ["loop.example/packetfilter/impl.fieldShapes"], fn := fun _ => fun
  | [d1, d2, g1] => { results := [.lit (.bool false)], args := [d1, d2], vars := [g1] }
  | _ => none }
def FnExactJudgeTraceWrongFalsely : Prop := fnExactJudgeTraceRow.holds Tryd.pinned (OpenSpec.ofChange fnExactJudgeTraceWrong)

/-- 'laws.FnExactBoxCut': WHATEVER THE INPUT: true; the input reads as it did. -/
def fnExactBoxCutSpec : ChangeSpec := { name := "fnExactBoxCut", vars := ["loop.example/packetfilter/impl.fieldShapes"], fn := fun _ => fun
  | [d1, d2, g1] => { results := [.lit (.bool true)], args := [d1, d2], vars := [g1] }
  | _ => none }
def fnExactBoxCutRow : OpenClaim := { program := "ytbnndochnkkllaadoor", sum := "ed139dae2d9197b8e2819af3e3f2240ebbb570778e22091951f51af5cf3ffdbc", func := "loop.example/packetfilter/laws.FnExactBoxCut", spec := "fnExactBoxCut", unfollowed := true, recurses := true, named := ["loop.example/packetfilter/impl.fieldShapes"], apart := false, laid := [("loop.example/packetfilter/impl.fieldShapes", laid_loop_example_packetfilter_impl_fieldShapes)] }
def FnExactBoxCutSaid : Prop := fnExactBoxCutRow.holds Tryd.pinned (OpenSpec.ofChange fnExactBoxCutSpec)

/-- ITS FALSE NEIGHBOUR: 'it returns false'. Refute it at one input. -/
def fnExactBoxCutWrong : ChangeSpec := { name := "fnExactBoxCut", vars := ["loop.example/packetfilter/impl.fieldShapes"], fn := fun _ => fun
  | [d1, d2, g1] => { results := [.lit (.bool false)], args := [d1, d2], vars := [g1] }
  | _ => none }
def FnExactBoxCutWrongFalsely : Prop := fnExactBoxCutRow.holds Tryd.pinned (OpenSpec.ofChange fnExactBoxCutWrong)

/-- 'laws.FnExactRegionLess': WHATEVER THE INPUT: true; the input reads as it did. -/
def fnExactRegionLessSpec : ChangeSpec := { name := "fnExactRegionLess", vars := ["loop.example/packetfilter/impl.fieldShapes"], fn := fun _ => fun
  | [d1, d2, g1] => { results := [.lit (.bool true)], args := [d1, d2], vars := [g1] }
  | _ => none }
def fnExactRegionLessRow : OpenClaim := { program := "ytbnndochnkkllaadoor", sum := "ed139dae2d9197b8e2819af3e3f2240ebbb570778e22091951f51af5cf3ffdbc", func := "loop.example/packetfilter/laws.FnExactRegionLess", spec := "fnExactRegionLess", unfollowed := true, recurses := true, named := ["loop.example/packetfilter/impl.fieldShapes"], apart := false, laid := [("loop.example/packetfilter/impl.fieldShapes", laid_loop_example_packetfilter_impl_fieldShapes)] }
def FnExactRegionLessSaid : Prop := fnExactRegionLessRow.holds Tryd.pinned (OpenSpec.ofChange fnExactRegionLessSpec)

/-- ITS FALSE NEIGHBOUR: 'it returns false'. Refute it at one input. -/
def fnExactRegionLessWrong : ChangeSpec := { name := "fnExactRegionLess", vars := ["loop.example/packetfilter/impl.fieldShapes"], fn := fun _ => fun
  | [d1, d2, g1] => { results := [.lit (.bool false)], args := [d1, d2], vars := [g1] }
  | _ => none }
def FnExactRegionLessWrongFalsely : Prop := fnExactRegionLessRow.holds Tryd.pinned (OpenSpec.ofChange fnExactRegionLessWrong)

/-- 'laws.FnBoxWithin': WHATEVER THE INPUT: true; the input reads as it did. -/
def fnBoxWithinSpec : ChangeSpec := { name := "fnBoxWithin", vars := ["loop.example/packetfilter/impl.fieldShapes"], fn := fun _ => fun
  | [d1, d2, g1] => { results := [.lit (.bool true)], args := [d1, d2], vars := [g1] }
  | _ => none }
def fnBoxWithinRow : OpenClaim := { program := "ytbnndochnkkllaadoor", sum := "ed139dae2d9197b8e2819af3e3f2240ebbb570778e22091951f51af5cf3ffdbc", func := "loop.example/packetfilter/laws.FnBoxWithin", spec := "fnBoxWithin", unfollowed := true, recurses := true, named := ["loop.example/packetfilter/impl.fieldShapes"], apart := false, laid := [("loop.example/packetfilter/impl.fieldShapes", laid_loop_example_packetfilter_impl_fieldShapes)] }
def FnBoxWithinSaid : Prop := fnBoxWithinRow.holds Tryd.pinned (OpenSpec.ofChange fnBoxWithinSpec)

/-- ITS FALSE NEIGHBOUR: 'it returns false'. Refute it at one input. -/
def fnBoxWithinWrong : ChangeSpec := { name := "fnBoxWithin", vars := ["loop.example/packetfilter/impl.fieldShapes"], fn := fun _ => fun
  | [d1, d2, g1] => { results := [.lit (.bool false)], args := [d1, d2], vars := [g1] }
  | _ => none }
def FnBoxWithinWrongFalsely : Prop := fnBoxWithinRow.holds Tryd.pinned (OpenSpec.ofChange fnBoxWithinWrong)

/- THE SECOND FORM. 'bulk': how many values and letters a reading holds, each counted each time it is reached (what is shared counts as often as it is met; a slice's spare places count too). A statement '..UptoSaid' is the law's where the arguments, and the package variables that the reading takes, are together of bulk at most 1048576: NARROWER than '..Said'. Prove '..Said' where nothing that the law and all that it calls make is longer than what came in: it says more and counts as full. Else prove '..UptoSaid'. A law counts once. -/
mutual
def uptoBulk {H : Type} : DataW H → Nat
  | .lit (.string bytes) => bytes.length + 1
  | .lit _ => 1
  | .nil => 1
  | .ptr d => uptoBulk d + 1
  | .slice elems spare => uptoBulkAll elems + uptoBulkAll spare + 1
  | .agg parts => uptoBulkAll parts + 1
  | .iface _ d => uptoBulk d + 1
  | .map entries => uptoBulkEntries entries + 1
  | .held _ => 1
def uptoBulkAll {H : Type} : List (DataW H) → Nat
  | [] => 0
  | d :: r => uptoBulk d + uptoBulkAll r
def uptoBulkEntries {H : Type} : List (Lit × DataW H) → Nat
  | [] => 0
  | x :: r => uptoBulkEntry x + uptoBulkEntries r
def uptoBulkEntry {H : Type} : Lit × DataW H → Nat
  | (.string bytes, d) => bytes.length + uptoBulk d + 1
  | (_, d) => uptoBulk d + 1
 end
def uptoSmall : (H : Type) → List (DataW H) → Bool := fun _ ds => decide (uptoBulkAll ds ≤ 1048576)
def OpenSpec.upto (s : _root_.Go.ChangeSpec) : _root_.Go.OpenSpec := { _root_.Go.OpenSpec.ofChange s with cond := some uptoSmall }

/-- 'laws.FnJudge', WHERE WHAT IT READS IS OF BULK AT MOST 1048576: true; the input reads as it did. -/
def fnJudgeUptoRow : OpenClaim := { program := "ytbnndochnkkllaadoor", sum := "ed139dae2d9197b8e2819af3e3f2240ebbb570778e22091951f51af5cf3ffdbc", func := "loop.example/packetfilter/laws.FnJudge", spec := "fnJudge", unfollowed := true, recurses := true, named := ["loop.example/packetfilter/impl.fieldShapes"], apart := false, laid := [("loop.example/packetfilter/impl.fieldShapes", laid_loop_example_packetfilter_impl_fieldShapes)], narrowed := true }
def FnJudgeUptoSaid : Prop := fnJudgeUptoRow.holds Tryd.pinned (OpenSpec.upto fnJudgeSpec)

/-- 'laws.FnChainUnused', WHERE WHAT IT READS IS OF BULK AT MOST 1048576: true; the input reads as it did. -/
def fnChainUnusedUptoRow : OpenClaim := { program := "ytbnndochnkkllaadoor", sum := "ed139dae2d9197b8e2819af3e3f2240ebbb570778e22091951f51af5cf3ffdbc", func := "loop.example/packetfilter/laws.FnChainUnused", spec := "fnChainUnused", unfollowed := true, recurses := true, named := ["loop.example/packetfilter/impl.fieldShapes"], apart := false, laid := [("loop.example/packetfilter/impl.fieldShapes", laid_loop_example_packetfilter_impl_fieldShapes)], narrowed := true }
def FnChainUnusedUptoSaid : Prop := fnChainUnusedUptoRow.holds Tryd.pinned (OpenSpec.upto fnChainUnusedSpec)

/-- 'laws.FnExactBoxTests', WHERE WHAT IT READS IS OF BULK AT MOST 1048576: true; the input reads as it did. -/
def fnExactBoxTestsUptoRow : OpenClaim := { program := "ytbnndochnkkllaadoor", sum := "ed139dae2d9197b8e2819af3e3f2240ebbb570778e22091951f51af5cf3ffdbc", func := "loop.example/packetfilter/laws.FnExactBoxTests", spec := "fnExactBoxTests", named := ["loop.example/packetfilter/impl.fieldShapes"], apart := false, laid := [("loop.example/packetfilter/impl.fieldShapes", laid_loop_example_packetfilter_impl_fieldShapes)], narrowed := true }
def FnExactBoxTestsUptoSaid : Prop := fnExactBoxTestsUptoRow.holds Tryd.pinned (OpenSpec.upto fnExactBoxTestsSpec)

/-- 'laws.FnExactBoxMeet', WHERE WHAT IT READS IS OF BULK AT MOST 1048576: true; the input reads as it did. -/
def fnExactBoxMeetUptoRow : OpenClaim := { program := "ytbnndochnkkllaadoor", sum := "ed139dae2d9197b8e2819af3e3f2240ebbb570778e22091951f51af5cf3ffdbc", func := "loop.example/packetfilter/laws.FnExactBoxMeet", spec := "fnExactBoxMeet", unfollowed := true, recurses := true, named := ["loop.example/packetfilter/impl.fieldShapes"], apart := false, laid := [("loop.example/packetfilter/impl.fieldShapes", laid_loop_example_packetfilter_impl_fieldShapes)], narrowed := true }
def FnExactBoxMeetUptoSaid : Prop := fnExactBoxMeetUptoRow.holds Tryd.pinned (OpenSpec.upto fnExactBoxMeetSpec)

/-- 'laws.FnExactTestsBox', WHERE WHAT IT READS IS OF BULK AT MOST 1048576: true; the input reads as it did. -/
def fnExactTestsBoxUptoRow : OpenClaim := { program := "ytbnndochnkkllaadoor", sum := "ed139dae2d9197b8e2819af3e3f2240ebbb570778e22091951f51af5cf3ffdbc", func := "loop.example/packetfilter/laws.FnExactTestsBox", spec := "fnExactTestsBox", unfollowed := true, recurses := true, named := ["loop.example/packetfilter/impl.fieldShapes"], apart := false, laid := [("loop.example/packetfilter/impl.fieldShapes", laid_loop_example_packetfilter_impl_fieldShapes)], narrowed := true }
def FnExactTestsBoxUptoSaid : Prop := fnExactTestsBoxUptoRow.holds Tryd.pinned (OpenSpec.upto fnExactTestsBoxSpec)

/-- 'laws.FnExactFlatBoxes', WHERE WHAT IT READS IS OF BULK AT MOST 1048576: true; the input reads as it did. -/
def fnExactFlatBoxesUptoRow : OpenClaim := { program := "ytbnndochnkkllaadoor", sum := "ed139dae2d9197b8e2819af3e3f2240ebbb570778e22091951f51af5cf3ffdbc", func := "loop.example/packetfilter/laws.FnExactFlatBoxes", spec := "fnExactFlatBoxes", named := ["loop.example/packetfilter/impl.fieldShapes"], apart := false, laid := [("loop.example/packetfilter/impl.fieldShapes", laid_loop_example_packetfilter_impl_fieldShapes)], narrowed := true }
def FnExactFlatBoxesUptoSaid : Prop := fnExactFlatBoxesUptoRow.holds Tryd.pinned (OpenSpec.upto fnExactFlatBoxesSpec)

/-- 'laws.FnExactCallsOf', WHERE WHAT IT READS IS OF BULK AT MOST 1048576: true; the input reads as it did. -/
def fnExactCallsOfUptoRow : OpenClaim := { program := "ytbnndochnkkllaadoor", sum := "ed139dae2d9197b8e2819af3e3f2240ebbb570778e22091951f51af5cf3ffdbc", func := "loop.example/packetfilter/laws.FnExactCallsOf", spec := "fnExactCallsOf", recurses := true, named := ["loop.example/packetfilter/impl.fieldShapes"], apart := false, laid := [("loop.example/packetfilter/impl.fieldShapes", laid_loop_example_packetfilter_impl_fieldShapes)], narrowed := true }
def FnExactCallsOfUptoSaid : Prop := fnExactCallsOfUptoRow.holds Tryd.pinned (OpenSpec.upto fnExactCallsOfSpec)

/-- 'laws.FnExactChainsUsed', WHERE WHAT IT READS IS OF BULK AT MOST 1048576: true; the input reads as it did. -/
def fnExactChainsUsedUptoRow : OpenClaim := { program := "ytbnndochnkkllaadoor", sum := "ed139dae2d9197b8e2819af3e3f2240ebbb570778e22091951f51af5cf3ffdbc", func := "loop.example/packetfilter/laws.FnExactChainsUsed", spec := "fnExactChainsUsed", recurses := true, named := ["loop.example/packetfilter/impl.fieldShapes"], apart := false, laid := [("loop.example/packetfilter/impl.fieldShapes", laid_loop_example_packetfilter_impl_fieldShapes)], narrowed := true }
def FnExactChainsUsedUptoSaid : Prop := fnExactChainsUsedUptoRow.holds Tryd.pinned (OpenSpec.upto fnExactChainsUsedSpec)

/-- 'laws.FnExactJudgeTrace', WHERE WHAT IT READS IS OF BULK AT MOST 1048576: true; the input reads as it did. -/
def fnExactJudgeTraceUptoRow : OpenClaim := { program := "ytbnndochnkkllaadoor", sum := "ed139dae2d9197b8e2819af3e3f2240ebbb570778e22091951f51af5cf3ffdbc", func := "loop.example/packetfilter/laws.FnExactJudgeTrace", spec := "fnExactJudgeTrace", unfollowed := true, recurses := true, named := ["loop.example/packetfilter/impl.fieldShapes"], apart := false, laid := [("loop.example/packetfilter/impl.fieldShapes", laid_loop_example_packetfilter_impl_fieldShapes)], narrowed := true }
def FnExactJudgeTraceUptoSaid : Prop := fnExactJudgeTraceUptoRow.holds Tryd.pinned (OpenSpec.upto fnExactJudgeTraceSpec)

/-- 'laws.FnExactBoxCut', WHERE WHAT IT READS IS OF BULK AT MOST 1048576: true; the input reads as it did. -/
def fnExactBoxCutUptoRow : OpenClaim := { program := "ytbnndochnkkllaadoor", sum := "ed139dae2d9197b8e2819af3e3f2240ebbb570778e22091951f51af5cf3ffdbc", func := "loop.example/packetfilter/laws.FnExactBoxCut", spec := "fnExactBoxCut", unfollowed := true, recurses := true, named := ["loop.example/packetfilter/impl.fieldShapes"], apart := false, laid := [("loop.example/packetfilter/impl.fieldShapes", laid_loop_example_packetfilter_impl_fieldShapes)], narrowed := true }
def FnExactBoxCutUptoSaid : Prop := fnExactBoxCutUptoRow.holds Tryd.pinned (OpenSpec.upto fnExactBoxCutSpec)

/-- 'laws.FnExactRegionLess', WHERE WHAT IT READS IS OF BULK AT MOST 1048576: true; the input reads as it did. -/
def fnExactRegionLessUptoRow : OpenClaim := { program := "ytbnndochnkkllaadoor", sum := "ed139dae2d9197b8e2819af3e3f2240ebbb570778e22091951f51af5cf3ffdbc", func := "loop.example/packetfilter/laws.FnExactRegionLess", spec := "fnExactRegionLess", unfollowed := true, recurses := true, named := ["loop.example/packetfilter/impl.fieldShapes"], apart := false, laid := [("loop.example/packetfilter/impl.fieldShapes", laid_loop_example_packetfilter_impl_fieldShapes)], narrowed := true }
def FnExactRegionLessUptoSaid : Prop := fnExactRegionLessUptoRow.holds Tryd.pinned (OpenSpec.upto fnExactRegionLessSpec)

/-- 'laws.FnBoxWithin', WHERE WHAT IT READS IS OF BULK AT MOST 1048576: true; the input reads as it did. -/
def fnBoxWithinUptoRow : OpenClaim := { program := "ytbnndochnkkllaadoor", sum := "ed139dae2d9197b8e2819af3e3f2240ebbb570778e22091951f51af5cf3ffdbc", func := "loop.example/packetfilter/laws.FnBoxWithin", spec := "fnBoxWithin", unfollowed := true, recurses := true, named := ["loop.example/packetfilter/impl.fieldShapes"], apart := false, laid := [("loop.example/packetfilter/impl.fieldShapes", laid_loop_example_packetfilter_impl_fieldShapes)], narrowed := true }
def FnBoxWithinUptoSaid : Prop := fnBoxWithinUptoRow.holds Tryd.pinned (OpenSpec.upto fnBoxWithinSpec)

end Rows
end Go.Proofs.YtbnndochnkkllaaDoor
