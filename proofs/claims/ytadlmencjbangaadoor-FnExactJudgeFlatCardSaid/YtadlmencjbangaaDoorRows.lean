/-
  NARROWER THAN 'FOR EVERY INPUT', by the rows' own cells (each row's printed sentence says how): FnBoxCut: laid · FnRegionLess: laid · FnRegionOrder: laid · FnRegionMore: laid · FnExactJudgeFlat: laid.
  DERIVED. THE GIVEN ROWS OF THIS SEAT. 5 by the template 'for every input the law returns true; each argument reads behind the call as it read before'; 0 by the template 'total and deterministic' (their statements: YtadlmencjbangaaDoorTotals.lean).
  GIVEN WITH THE SEED: the statements are not yours to turn. If you find one false, say at which input.
  Laid BY PROGRAM, IN A SANDBOX (cutbox-rows.mjs): the forced cells as the released guide's own fill.sh prints them over the translation 1bd8eee9c444ec31… (all of the seat's roots in one cut). By AI agents, Wed Nov 11 2026. No macro, syntax, notation, axiom, sorry.
-/
import Derived.Test.YtadlmencjbangaaDoorChecked
import GoSem.Claim
import GoSem.ClaimJoined
import GoSem.ClaimMapViews
import Derived.JoinedTies
import Derived.KernelRfl
namespace Go.Proofs.YtadlmencjbangaaDoor
/- THE CELL 'sum', in the pinned program and in every row, IS THE sha256 OF THE DUMP (.gsa) THAT YtadlmencjbangaaDoorProg.lean LOADS. Nothing in Lean hashes anything: it is a label: what it is worth is what the hold of that sum in a sandbox is worth. -/
noncomputable def Tryd.pinned : Pinned := { name := "ytadlmencjbangaadoor", sum := "1bd8eee9c444ec31b1c38d5b0887e401d696b8e98659a9c7cee707b1bcaea5e5", checked := Tryd.checked }
namespace Rows
def none {H : Type} : Left H := { results := [], args := [] }

/- WHAT THE LISTED PACKAGE-LEVEL VARIABLES READ AS WHEN THE CALL BEGINS. Each datum BY PROGRAM (the guide's laid-datum.mjs) off the statement by which the dump's own 'gosem.cut.vars' lays the variable. In a bare row this is a premise. The card (YtadlmencjbangaaDoorCards.lean) ties it to the program's text. -/
def laid_loop_example_packetfilter_impl_fieldShapes {H : Type} : DataW H := .agg [.agg [.lit (.string [102, 114, 111, 109]), .lit (.int .i64 65535)], .agg [.lit (.string [116, 111]), .lit (.int .i64 65535)], .agg [.lit (.string [112, 111, 114, 116]), .lit (.int .i64 255)], .agg [.lit (.string [112, 114, 111, 116, 111]), .lit (.int .i64 7)]]

/-- 'laws.FnBoxCut': WHATEVER THE INPUT: true; the input reads as it did. -/
def fnBoxCutSpec : ChangeSpec := { name := "fnBoxCut", vars := ["loop.example/packetfilter/impl.fieldShapes"], fn := fun _ => fun
  | [d1, d2, g1] => { results := [.lit (.bool true)], args := [d1, d2], vars := [g1] }
  | _ => none }
def fnBoxCutRow : OpenClaim := { program := "ytadlmencjbangaadoor", sum := "1bd8eee9c444ec31b1c38d5b0887e401d696b8e98659a9c7cee707b1bcaea5e5", func := "loop.example/packetfilter/laws.FnBoxCut", spec := "fnBoxCut", unfollowed := true, recurses := true, named := ["loop.example/packetfilter/impl.fieldShapes"], apart := false, laid := [("loop.example/packetfilter/impl.fieldShapes", laid_loop_example_packetfilter_impl_fieldShapes)] }
def FnBoxCutSaid : Prop := fnBoxCutRow.holds Tryd.pinned (OpenSpec.ofChange fnBoxCutSpec)

/-- ITS FALSE NEIGHBOUR: 'it returns false'. Refute it at one input. -/
def fnBoxCutWrong : ChangeSpec := { name := "fnBoxCut", vars := ["loop.example/packetfilter/impl.fieldShapes"], fn := fun _ => fun
  | [d1, d2, g1] => { results := [.lit (.bool false)], args := [d1, d2], vars := [g1] }
  | _ => none }
def FnBoxCutWrongFalsely : Prop := fnBoxCutRow.holds Tryd.pinned (OpenSpec.ofChange fnBoxCutWrong)

/-- 'laws.FnRegionLess': WHATEVER THE INPUT: true; the input reads as it did. -/
def fnRegionLessSpec : ChangeSpec := { name := "fnRegionLess", vars := ["loop.example/packetfilter/impl.fieldShapes"], fn := fun _ => fun
  | [d1, d2, g1] => { results := [.lit (.bool true)], args := [d1, d2], vars := [g1] }
  | _ => none }
def fnRegionLessRow : OpenClaim := { program := "ytadlmencjbangaadoor", sum := "1bd8eee9c444ec31b1c38d5b0887e401d696b8e98659a9c7cee707b1bcaea5e5", func := "loop.example/packetfilter/laws.FnRegionLess", spec := "fnRegionLess", unfollowed := true, recurses := true, named := ["loop.example/packetfilter/impl.fieldShapes"], apart := false, laid := [("loop.example/packetfilter/impl.fieldShapes", laid_loop_example_packetfilter_impl_fieldShapes)] }
def FnRegionLessSaid : Prop := fnRegionLessRow.holds Tryd.pinned (OpenSpec.ofChange fnRegionLessSpec)

/-- ITS FALSE NEIGHBOUR: 'it returns false'. Refute it at one input. -/
def fnRegionLessWrong : ChangeSpec := { name := "fnRegionLess", vars := ["loop.example/packetfilter/impl.fieldShapes"], fn := fun _ => fun
  | [d1, d2, g1] => { results := [.lit (.bool false)], args := [d1, d2], vars := [g1] }
  | _ => none }
def FnRegionLessWrongFalsely : Prop := fnRegionLessRow.holds Tryd.pinned (OpenSpec.ofChange fnRegionLessWrong)

/-- 'laws.FnRegionOrder': WHATEVER THE INPUT: true; the input reads as it did. -/
def fnRegionOrderSpec : ChangeSpec := { name := "fnRegionOrder", vars := ["loop.example/packetfilter/impl.fieldShapes"], fn := fun _ => fun
  | [d1, d2, g1] => { results := [.lit (.bool true)], args := [d1, d2], vars := [g1] }
  | _ => none }
def fnRegionOrderRow : OpenClaim := { program := "ytadlmencjbangaadoor", sum := "1bd8eee9c444ec31b1c38d5b0887e401d696b8e98659a9c7cee707b1bcaea5e5", func := "loop.example/packetfilter/laws.FnRegionOrder", spec := "fnRegionOrder", unfollowed := true, recurses := true, named := ["loop.example/packetfilter/impl.fieldShapes"], apart := false, laid := [("loop.example/packetfilter/impl.fieldShapes", laid_loop_example_packetfilter_impl_fieldShapes)] }
def FnRegionOrderSaid : Prop := fnRegionOrderRow.holds Tryd.pinned (OpenSpec.ofChange fnRegionOrderSpec)

/-- ITS FALSE NEIGHBOUR: 'it returns false'. Refute it at one input. -/
def fnRegionOrderWrong : ChangeSpec := { name := "fnRegionOrder", vars := ["loop.example/packetfilter/impl.fieldShapes"], fn := fun _ => fun
  | [d1, d2, g1] => { results := [.lit (.bool false)], args := [d1, d2], vars := [g1] }
  | _ => none }
def FnRegionOrderWrongFalsely : Prop := fnRegionOrderRow.holds Tryd.pinned (OpenSpec.ofChange fnRegionOrderWrong)

/-- 'laws.FnRegionMore': WHATEVER THE INPUT: true; the input reads as it did. -/
def fnRegionMoreSpec : ChangeSpec := { name := "fnRegionMore", vars := ["loop.example/packetfilter/impl.fieldShapes"], fn := fun _ => fun
  | [d1, d2, g1] => { results := [.lit (.bool true)], args := [d1, d2], vars := [g1] }
  | _ => none }
def fnRegionMoreRow : OpenClaim := { program := "ytadlmencjbangaadoor", sum := "1bd8eee9c444ec31b1c38d5b0887e401d696b8e98659a9c7cee707b1bcaea5e5", func := "loop.example/packetfilter/laws.FnRegionMore", spec := "fnRegionMore", unfollowed := true, recurses := true, named := ["loop.example/packetfilter/impl.fieldShapes"], apart := false, laid := [("loop.example/packetfilter/impl.fieldShapes", laid_loop_example_packetfilter_impl_fieldShapes)] }
def FnRegionMoreSaid : Prop := fnRegionMoreRow.holds Tryd.pinned (OpenSpec.ofChange fnRegionMoreSpec)

/-- ITS FALSE NEIGHBOUR: 'it returns false'. Refute it at one input. -/
def fnRegionMoreWrong : ChangeSpec := { name := "fnRegionMore", vars := ["loop.example/packetfilter/impl.fieldShapes"], fn := fun _ => fun
  | [d1, d2, g1] => { results := [.lit (.bool false)], args := [d1, d2], vars := [g1] }
  | _ => none }
def FnRegionMoreWrongFalsely : Prop := fnRegionMoreRow.holds Tryd.pinned (OpenSpec.ofChange fnRegionMoreWrong)

/-- 'laws.FnExactJudgeFlat': WHATEVER THE INPUT: true; the input reads as it did. -/
def fnExactJudgeFlatSpec : ChangeSpec := { name := "fnExactJudgeFlat", vars := ["loop.example/packetfilter/impl.fieldShapes"], fn := fun _ => fun
  | [d1, d2, d3, g1] => { results := [.lit (.bool true)], args := [d1, d2, d3], vars := [g1] }
  | _ => none }
def fnExactJudgeFlatRow : OpenClaim := { program := "ytadlmencjbangaadoor", sum := "1bd8eee9c444ec31b1c38d5b0887e401d696b8e98659a9c7cee707b1bcaea5e5", func := "loop.example/packetfilter/laws.FnExactJudgeFlat", spec := "fnExactJudgeFlat", unfollowed := true, recurses := true, named := ["loop.example/packetfilter/impl.fieldShapes"], apart := false, laid := [("loop.example/packetfilter/impl.fieldShapes", laid_loop_example_packetfilter_impl_fieldShapes)] }
def FnExactJudgeFlatSaid : Prop := fnExactJudgeFlatRow.holds Tryd.pinned (OpenSpec.ofChange fnExactJudgeFlatSpec)

/-- ITS FALSE NEIGHBOUR: 'it returns false'. Refute it at one input. -/
def fnExactJudgeFlatWrong : ChangeSpec := { name := "fnExactJudgeFlat", vars := ["loop.example/packetfilter/impl.fieldShapes"], fn := fun _ => fun
  | [d1, d2, d3, g1] => { results := [.lit (.bool false)], args := [d1, d2, d3], vars := [g1] }
  | _ => none }
def FnExactJudgeFlatWrongFalsely : Prop := fnExactJudgeFlatRow.holds Tryd.pinned (OpenSpec.ofChange fnExactJudgeFlatWrong)

/- THE SECOND FORM. 'bulk': how many values and letters a reading holds, each counted each time it is reached (what is shared counts as often as it is met; a slice's spare places count too). A statement '..UptoSaid' is the law's where the arguments, and the package variables that the reading takes, are together of bulk at most 1048576: NARROWER than '..Said'. Prove '..Said' where nothing that the law and all that it calls make is longer than what came in: it says more and counts as full. Else prove '..UptoSaid'. A law counts once. -/
mutual
def uptoBulk {H : Type} : DataW H → Nat
  | .lit (.string bytes) => bytes.length + 1
  | .lit _ => 1
  | .nil => 1
  | .ptr d => uptoBulk d + 1
  | .slice elems spare => uptoBulkAll elems + uptoBulkAll spare + 1
  | .agg parts => uptoBulkAll parts + 1
  | .iface _ d => uptoBulk d + 1
  | .map entries => uptoBulkEntries entries + 1
  | .held _ => 1
def uptoBulkAll {H : Type} : List (DataW H) → Nat
  | [] => 0
  | d :: r => uptoBulk d + uptoBulkAll r
def uptoBulkEntries {H : Type} : List (Lit × DataW H) → Nat
  | [] => 0
  | x :: r => uptoBulkEntry x + uptoBulkEntries r
def uptoBulkEntry {H : Type} : Lit × DataW H → Nat
  | (.string bytes, d) => bytes.length + uptoBulk d + 1
  | (_, d) => uptoBulk d + 1
 end
def uptoSmall : (H : Type) → List (DataW H) → Bool := fun _ ds => decide (uptoBulkAll ds ≤ 1048576)
def OpenSpec.upto (s : _root_.Go.ChangeSpec) : _root_.Go.OpenSpec := { _root_.Go.OpenSpec.ofChange s with cond := some uptoSmall }

/-- 'laws.FnBoxCut', WHERE WHAT IT READS IS OF BULK AT MOST 1048576: true; the input reads as it did. -/
def fnBoxCutUptoRow : OpenClaim := { program := "ytadlmencjbangaadoor", sum := "1bd8eee9c444ec31b1c38d5b0887e401d696b8e98659a9c7cee707b1bcaea5e5", func := "loop.example/packetfilter/laws.FnBoxCut", spec := "fnBoxCut", unfollowed := true, recurses := true, named := ["loop.example/packetfilter/impl.fieldShapes"], apart := false, laid := [("loop.example/packetfilter/impl.fieldShapes", laid_loop_example_packetfilter_impl_fieldShapes)], narrowed := true }
def FnBoxCutUptoSaid : Prop := fnBoxCutUptoRow.holds Tryd.pinned (OpenSpec.upto fnBoxCutSpec)

/-- 'laws.FnRegionLess', WHERE WHAT IT READS IS OF BULK AT MOST 1048576: true; the input reads as it did. -/
def fnRegionLessUptoRow : OpenClaim := { program := "ytadlmencjbangaadoor", sum := "1bd8eee9c444ec31b1c38d5b0887e401d696b8e98659a9c7cee707b1bcaea5e5", func := "loop.example/packetfilter/laws.FnRegionLess", spec := "fnRegionLess", unfollowed := true, recurses := true, named := ["loop.example/packetfilter/impl.fieldShapes"], apart := false, laid := [("loop.example/packetfilter/impl.fieldShapes", laid_loop_example_packetfilter_impl_fieldShapes)], narrowed := true }
def FnRegionLessUptoSaid : Prop := fnRegionLessUptoRow.holds Tryd.pinned (OpenSpec.upto fnRegionLessSpec)

/-- 'laws.FnRegionOrder', WHERE WHAT IT READS IS OF BULK AT MOST 1048576: true; the input reads as it did. -/
def fnRegionOrderUptoRow : OpenClaim := { program := "ytadlmencjbangaadoor", sum := "1bd8eee9c444ec31b1c38d5b0887e401d696b8e98659a9c7cee707b1bcaea5e5", func := "loop.example/packetfilter/laws.FnRegionOrder", spec := "fnRegionOrder", unfollowed := true, recurses := true, named := ["loop.example/packetfilter/impl.fieldShapes"], apart := false, laid := [("loop.example/packetfilter/impl.fieldShapes", laid_loop_example_packetfilter_impl_fieldShapes)], narrowed := true }
def FnRegionOrderUptoSaid : Prop := fnRegionOrderUptoRow.holds Tryd.pinned (OpenSpec.upto fnRegionOrderSpec)

/-- 'laws.FnRegionMore', WHERE WHAT IT READS IS OF BULK AT MOST 1048576: true; the input reads as it did. -/
def fnRegionMoreUptoRow : OpenClaim := { program := "ytadlmencjbangaadoor", sum := "1bd8eee9c444ec31b1c38d5b0887e401d696b8e98659a9c7cee707b1bcaea5e5", func := "loop.example/packetfilter/laws.FnRegionMore", spec := "fnRegionMore", unfollowed := true, recurses := true, named := ["loop.example/packetfilter/impl.fieldShapes"], apart := false, laid := [("loop.example/packetfilter/impl.fieldShapes", laid_loop_example_packetfilter_impl_fieldShapes)], narrowed := true }
def FnRegionMoreUptoSaid : Prop := fnRegionMoreUptoRow.holds Tryd.pinned (OpenSpec.upto fnRegionMoreSpec)

/-- 'laws.FnExactJudgeFlat', WHERE WHAT IT READS IS OF BULK AT MOST 1048576: true; the input reads as it did. -/
def fnExactJudgeFlatUptoRow : OpenClaim := { program := "ytadlmencjbangaadoor", sum := "1bd8eee9c444ec31b1c38d5b0887e401d696b8e98659a9c7cee707b1bcaea5e5", func := "loop.example/packetfilter/laws.FnExactJudgeFlat", spec := "fnExactJudgeFlat", unfollowed := true, recurses := true, named := ["loop.example/packetfilter/impl.fieldShapes"], apart := false, laid := [("loop.example/packetfilter/impl.fieldShapes", laid_loop_example_packetfilter_impl_fieldShapes)], narrowed := true }
def FnExactJudgeFlatUptoSaid : Prop := fnExactJudgeFlatUptoRow.holds Tryd.pinned (OpenSpec.upto fnExactJudgeFlatSpec)

end Rows
end Go.Proofs.YtadlmencjbangaaDoor
