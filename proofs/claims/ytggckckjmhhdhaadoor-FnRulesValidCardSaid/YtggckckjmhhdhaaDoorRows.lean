/-
  NARROWER THAN 'FOR EVERY INPUT', by the rows' own cells (each row's printed sentence says how): FnExactBoxAll: laid · FnExactBoxValid: laid · FnExactBoxEmpty: laid · FnBoxAll: laid · FnExactRuleFits: laid · FnRulesValid: laid · FnExactRegionValid: laid · FnRegionMore: laid · FnExactBoxHas: laid · FnExactBoxFirst: laid · FnExactFlatsValid: laid · FnExactFirstFit: laid.
  DERIVED. THE GIVEN ROWS OF THIS SEAT. 12 by the template 'for every input the law returns true; each argument reads behind the call as it read before'; 0 by the template 'total and deterministic' (their statements: YtggckckjmhhdhaaDoorTotals.lean).
  GIVEN WITH THE SEED: the statements are not yours to turn. If you find one false, say at which input.
  Laid BY PROGRAM, IN A SANDBOX (cutbox-rows.mjs): the forced cells as the released guide's own fill.sh prints them over the translation b80f0b1550f5d96b… (all of the seat's roots in one cut). By AI agents, Wed Nov 11 2026. No macro, syntax, notation, axiom, sorry.
-/
import Derived.Test.YtggckckjmhhdhaaDoorChecked
import GoSem.Claim
import GoSem.ClaimJoined
import GoSem.ClaimMapViews
import Derived.JoinedTies
import Derived.KernelRfl
namespace Go.Proofs.YtggckckjmhhdhaaDoor
/- THE CELL 'sum', in the pinned program and in every row, IS THE sha256 OF THE DUMP (.gsa) THAT YtggckckjmhhdhaaDoorProg.lean LOADS. Nothing in Lean hashes anything: it is a label: what it is worth is what the hold of that sum in a sandbox is worth. -/
noncomputable def Tryd.pinned : Pinned := { name := "ytggckckjmhhdhaadoor", sum := "b80f0b1550f5d96b316bb1fb416c3e40cb4c0be42590097bd555d42491aa7b05", checked := Tryd.checked }
namespace Rows
def none {H : Type} : Left H := { results := [], args := [] }

/- WHAT THE LISTED PACKAGE-LEVEL VARIABLES READ AS WHEN THE CALL BEGINS. Each datum BY PROGRAM (the guide's laid-datum.mjs) off the statement by which the dump's own 'gosem.cut.vars' lays the variable. In a bare row this is a premise. The card (YtggckckjmhhdhaaDoorCards.lean) ties it to the program's text. -/
def laid_loop_example_packetfilter_impl_fieldShapes {H : Type} : DataW H := .agg [.agg [.lit (.string [102, 114, 111, 109]), .lit (.int .i64 65535)], .agg [.lit (.string [116, 111]), .lit (.int .i64 65535)], .agg [.lit (.string [112, 111, 114, 116]), .lit (.int .i64 255)], .agg [.lit (.string [112, 114, 111, 116, 111]), .lit (.int .i64 7)]]

/-- 'laws.FnExactBoxAll': WHATEVER THE INPUT: true; the input reads as it did. -/
def fnExactBoxAllSpec : ChangeSpec := { name := "fnExactBoxAll", vars := ["loop.example/packetfilter/impl.fieldShapes"], fn := fun _ => fun
  | [g1] => { results := [.lit (.bool true)], args := [], vars := [g1] }
  | _ => none }
def fnExactBoxAllRow : OpenClaim := { program := "ytggckckjmhhdhaadoor", sum := "b80f0b1550f5d96b316bb1fb416c3e40cb4c0be42590097bd555d42491aa7b05", func := "loop.example/packetfilter/laws.FnExactBoxAll", spec := "fnExactBoxAll", named := ["loop.example/packetfilter/impl.fieldShapes"], apart := false, laid := [("loop.example/packetfilter/impl.fieldShapes", laid_loop_example_packetfilter_impl_fieldShapes)] }
def FnExactBoxAllSaid : Prop := fnExactBoxAllRow.holds Tryd.pinned (OpenSpec.ofChange fnExactBoxAllSpec)

/-- ITS FALSE NEIGHBOUR: 'it returns false'. Refute it at one input. -/
def fnExactBoxAllWrong : ChangeSpec := { name := "fnExactBoxAll", vars := ["loop.example/packetfilter/impl.fieldShapes"], fn := fun _ => fun
  | [g1] => { results := [.lit (.bool false)], args := [], vars := [g1] }
  | _ => none }
def FnExactBoxAllWrongFalsely : Prop := fnExactBoxAllRow.holds Tryd.pinned (OpenSpec.ofChange fnExactBoxAllWrong)

/-- 'laws.FnExactBoxValid': WHATEVER THE INPUT: true; the input reads as it did. -/
def fnExactBoxValidSpec : ChangeSpec := { name := "fnExactBoxValid", vars := ["loop.example/packetfilter/impl.fieldShapes"], fn := fun _ => fun
  | [d, g1] => { results := [.lit (.bool true)], args := [d], vars := [g1] }
  | _ => none }
def fnExactBoxValidRow : OpenClaim := { program := "ytggckckjmhhdhaadoor", sum := "b80f0b1550f5d96b316bb1fb416c3e40cb4c0be42590097bd555d42491aa7b05", func := "loop.example/packetfilter/laws.FnExactBoxValid", spec := "fnExactBoxValid", named := ["loop.example/packetfilter/impl.fieldShapes"], apart := false, laid := [("loop.example/packetfilter/impl.fieldShapes", laid_loop_example_packetfilter_impl_fieldShapes)] }
def FnExactBoxValidSaid : Prop := fnExactBoxValidRow.holds Tryd.pinned (OpenSpec.ofChange fnExactBoxValidSpec)

/-- ITS FALSE NEIGHBOUR: 'it returns false'. Refute it at one input. -/
def fnExactBoxValidWrong : ChangeSpec := { name := "fnExactBoxValid", vars := ["loop.example/packetfilter/impl.fieldShapes"], fn := fun _ => fun
  | [d, g1] => { results := [.lit (.bool false)], args := [d], vars := [g1] }
  | _ => none }
def FnExactBoxValidWrongFalsely : Prop := fnExactBoxValidRow.holds Tryd.pinned (OpenSpec.ofChange fnExactBoxValidWrong)

/-- 'laws.FnExactBoxEmpty': WHATEVER THE INPUT: true; the input reads as it did. -/
def fnExactBoxEmptySpec : ChangeSpec := { name := "fnExactBoxEmpty", vars := ["loop.example/packetfilter/impl.fieldShapes"], fn := fun _ => fun
  | [d, g1] => { results := [.lit (.bool true)], args := [d], vars := [g1] }
  | _ => none }
def fnExactBoxEmptyRow : OpenClaim := { program := "ytggckckjmhhdhaadoor", sum := "b80f0b1550f5d96b316bb1fb416c3e40cb4c0be42590097bd555d42491aa7b05", func := "loop.example/packetfilter/laws.FnExactBoxEmpty", spec := "fnExactBoxEmpty", named := ["loop.example/packetfilter/impl.fieldShapes"], apart := false, laid := [("loop.example/packetfilter/impl.fieldShapes", laid_loop_example_packetfilter_impl_fieldShapes)] }
def FnExactBoxEmptySaid : Prop := fnExactBoxEmptyRow.holds Tryd.pinned (OpenSpec.ofChange fnExactBoxEmptySpec)

/-- ITS FALSE NEIGHBOUR: 'it returns false'. Refute it at one input. -/
def fnExactBoxEmptyWrong : ChangeSpec := { name := "fnExactBoxEmpty", vars := ["loop.example/packetfilter/impl.fieldShapes"], fn := fun _ => fun
  | [d, g1] => { results := [.lit (.bool false)], args := [d], vars := [g1] }
  | _ => none }
def FnExactBoxEmptyWrongFalsely : Prop := fnExactBoxEmptyRow.holds Tryd.pinned (OpenSpec.ofChange fnExactBoxEmptyWrong)

/-- 'laws.FnBoxAll': WHATEVER THE INPUT: true; the input reads as it did. -/
def fnBoxAllSpec : ChangeSpec := { name := "fnBoxAll", vars := ["loop.example/packetfilter/impl.fieldShapes"], fn := fun _ => fun
  | [d, g1] => { results := [.lit (.bool true)], args := [d], vars := [g1] }
  | _ => none }
def fnBoxAllRow : OpenClaim := { program := "ytggckckjmhhdhaadoor", sum := "b80f0b1550f5d96b316bb1fb416c3e40cb4c0be42590097bd555d42491aa7b05", func := "loop.example/packetfilter/laws.FnBoxAll", spec := "fnBoxAll", named := ["loop.example/packetfilter/impl.fieldShapes"], apart := false, laid := [("loop.example/packetfilter/impl.fieldShapes", laid_loop_example_packetfilter_impl_fieldShapes)] }
def FnBoxAllSaid : Prop := fnBoxAllRow.holds Tryd.pinned (OpenSpec.ofChange fnBoxAllSpec)

/-- ITS FALSE NEIGHBOUR: 'it returns false'. Refute it at one input. -/
def fnBoxAllWrong : ChangeSpec := { name := "fnBoxAll", vars := ["loop.example/packetfilter/impl.fieldShapes"], fn := fun _ => fun
  | [d, g1] => { results := [.lit (.bool false)], args := [d], vars := [g1] }
  | _ => none }
def FnBoxAllWrongFalsely : Prop := fnBoxAllRow.holds Tryd.pinned (OpenSpec.ofChange fnBoxAllWrong)

/-- 'laws.FnExactRuleFits': WHATEVER THE INPUT: true; the input reads as it did. -/
def fnExactRuleFitsSpec : ChangeSpec := { name := "fnExactRuleFits", vars := ["loop.example/packetfilter/impl.fieldShapes"], fn := fun _ => fun
  | [d1, d2, g1] => { results := [.lit (.bool true)], args := [d1, d2], vars := [g1] }
  | _ => none }
def fnExactRuleFitsRow : OpenClaim := { program := "ytggckckjmhhdhaadoor", sum := "b80f0b1550f5d96b316bb1fb416c3e40cb4c0be42590097bd555d42491aa7b05", func := "loop.example/packetfilter/laws.FnExactRuleFits", spec := "fnExactRuleFits", named := ["loop.example/packetfilter/impl.fieldShapes"], apart := false, laid := [("loop.example/packetfilter/impl.fieldShapes", laid_loop_example_packetfilter_impl_fieldShapes)] }
def FnExactRuleFitsSaid : Prop := fnExactRuleFitsRow.holds Tryd.pinned (OpenSpec.ofChange fnExactRuleFitsSpec)

/-- ITS FALSE NEIGHBOUR: 'it returns false'. Refute it at one input. -/
def fnExactRuleFitsWrong : ChangeSpec := { name := "fnExactRuleFits", vars := ["loop.example/packetfilter/impl.fieldShapes"], fn := fun _ => fun
  | [d1, d2, g1] => { results := [.lit (.bool false)], args := [d1, d2], vars := [g1] }
  | _ => none }
def FnExactRuleFitsWrongFalsely : Prop := fnExactRuleFitsRow.holds Tryd.pinned (OpenSpec.ofChange fnExactRuleFitsWrong)

/-- 'laws.FnRulesValid': WHATEVER THE INPUT: true; the input reads as it did. -/
def fnRulesValidSpec : ChangeSpec := { name := "fnRulesValid", vars := ["loop.example/packetfilter/impl.fieldShapes"], fn := fun _ => fun
  | [d, g1] => { results := [.lit (.bool true)], args := [d], vars := [g1] }
  | _ => none }
def fnRulesValidRow : OpenClaim := { program := "ytggckckjmhhdhaadoor", sum := "b80f0b1550f5d96b316bb1fb416c3e40cb4c0be42590097bd555d42491aa7b05", func := "loop.example/packetfilter/laws.FnRulesValid", spec := "fnRulesValid", named := ["loop.example/packetfilter/impl.fieldShapes"], apart := false, laid := [("loop.example/packetfilter/impl.fieldShapes", laid_loop_example_packetfilter_impl_fieldShapes)] }
def FnRulesValidSaid : Prop := fnRulesValidRow.holds Tryd.pinned (OpenSpec.ofChange fnRulesValidSpec)

/-- ITS FALSE NEIGHBOUR: 'it returns false'. Refute it at one input. -/
def fnRulesValidWrong : ChangeSpec := { name := "fnRulesValid", vars := ["loop.example/packetfilter/impl.fieldShapes"], fn := fun _ => fun
  | [d, g1] => { results := [.lit (.bool false)], args := [d], vars := [g1] }
  | _ => none }
def FnRulesValidWrongFalsely : Prop := fnRulesValidRow.holds Tryd.pinned (OpenSpec.ofChange fnRulesValidWrong)

/-- 'laws.FnExactRegionValid': WHATEVER THE INPUT: true; the input reads as it did. -/
def fnExactRegionValidSpec : ChangeSpec := { name := "fnExactRegionValid", vars := ["loop.example/packetfilter/impl.fieldShapes"], fn := fun _ => fun
  | [d, g1] => { results := [.lit (.bool true)], args := [d], vars := [g1] }
  | _ => none }
def fnExactRegionValidRow : OpenClaim := { program := "ytggckckjmhhdhaadoor", sum := "b80f0b1550f5d96b316bb1fb416c3e40cb4c0be42590097bd555d42491aa7b05", func := "loop.example/packetfilter/laws.FnExactRegionValid", spec := "fnExactRegionValid", named := ["loop.example/packetfilter/impl.fieldShapes"], apart := false, laid := [("loop.example/packetfilter/impl.fieldShapes", laid_loop_example_packetfilter_impl_fieldShapes)] }
def FnExactRegionValidSaid : Prop := fnExactRegionValidRow.holds Tryd.pinned (OpenSpec.ofChange fnExactRegionValidSpec)

/-- ITS FALSE NEIGHBOUR: 'it returns false'. Refute it at one input. -/
def fnExactRegionValidWrong : ChangeSpec := { name := "fnExactRegionValid", vars := ["loop.example/packetfilter/impl.fieldShapes"], fn := fun _ => fun
  | [d, g1] => { results := [.lit (.bool false)], args := [d], vars := [g1] }
  | _ => none }
def FnExactRegionValidWrongFalsely : Prop := fnExactRegionValidRow.holds Tryd.pinned (OpenSpec.ofChange fnExactRegionValidWrong)

/-- 'laws.FnRegionMore': WHATEVER THE INPUT: true; the input reads as it did. -/
def fnRegionMoreSpec : ChangeSpec := { name := "fnRegionMore", vars := ["loop.example/packetfilter/impl.fieldShapes"], fn := fun _ => fun
  | [d1, d2, g1] => { results := [.lit (.bool true)], args := [d1, d2], vars := [g1] }
  | _ => none }
def fnRegionMoreRow : OpenClaim := { program := "ytggckckjmhhdhaadoor", sum := "b80f0b1550f5d96b316bb1fb416c3e40cb4c0be42590097bd555d42491aa7b05", func := "loop.example/packetfilter/laws.FnRegionMore", spec := "fnRegionMore", unfollowed := true, recurses := true, named := ["loop.example/packetfilter/impl.fieldShapes"], apart := false, laid := [("loop.example/packetfilter/impl.fieldShapes", laid_loop_example_packetfilter_impl_fieldShapes)] }
def FnRegionMoreSaid : Prop := fnRegionMoreRow.holds Tryd.pinned (OpenSpec.ofChange fnRegionMoreSpec)

/-- ITS FALSE NEIGHBOUR: 'it returns false'. Refute it at one input. -/
def fnRegionMoreWrong : ChangeSpec := { name := "fnRegionMore", vars := ["loop.example/packetfilter/impl.fieldShapes"], fn := fun _ => fun
  | [d1, d2, g1] => { results := [.lit (.bool false)], args := [d1, d2], vars := [g1] }
  | _ => none }
def FnRegionMoreWrongFalsely : Prop := fnRegionMoreRow.holds Tryd.pinned (OpenSpec.ofChange fnRegionMoreWrong)

/-- 'laws.FnExactBoxHas': WHATEVER THE INPUT: true; the input reads as it did. -/
def fnExactBoxHasSpec : ChangeSpec := { name := "fnExactBoxHas", vars := ["loop.example/packetfilter/impl.fieldShapes"], fn := fun _ => fun
  | [d1, d2, g1] => { results := [.lit (.bool true)], args := [d1, d2], vars := [g1] }
  | _ => none }
def fnExactBoxHasRow : OpenClaim := { program := "ytggckckjmhhdhaadoor", sum := "b80f0b1550f5d96b316bb1fb416c3e40cb4c0be42590097bd555d42491aa7b05", func := "loop.example/packetfilter/laws.FnExactBoxHas", spec := "fnExactBoxHas", named := ["loop.example/packetfilter/impl.fieldShapes"], apart := false, laid := [("loop.example/packetfilter/impl.fieldShapes", laid_loop_example_packetfilter_impl_fieldShapes)] }
def FnExactBoxHasSaid : Prop := fnExactBoxHasRow.holds Tryd.pinned (OpenSpec.ofChange fnExactBoxHasSpec)

/-- ITS FALSE NEIGHBOUR: 'it returns false'. Refute it at one input. -/
def fnExactBoxHasWrong : ChangeSpec := { name := "fnExactBoxHas", vars := ["loop.example/packetfilter/impl.fieldShapes"], fn := fun _ => fun
  | [d1, d2, g1] => { results := [.lit (.bool false)], args := [d1, d2], vars := [g1] }
  | _ => none }
def FnExactBoxHasWrongFalsely : Prop := fnExactBoxHasRow.holds Tryd.pinned (OpenSpec.ofChange fnExactBoxHasWrong)

/-- 'laws.FnExactBoxFirst': WHATEVER THE INPUT: true; the input reads as it did. -/
def fnExactBoxFirstSpec : ChangeSpec := { name := "fnExactBoxFirst", vars := ["loop.example/packetfilter/impl.fieldShapes"], fn := fun _ => fun
  | [d, g1] => { results := [.lit (.bool true)], args := [d], vars := [g1] }
  | _ => none }
def fnExactBoxFirstRow : OpenClaim := { program := "ytggckckjmhhdhaadoor", sum := "b80f0b1550f5d96b316bb1fb416c3e40cb4c0be42590097bd555d42491aa7b05", func := "loop.example/packetfilter/laws.FnExactBoxFirst", spec := "fnExactBoxFirst", named := ["loop.example/packetfilter/impl.fieldShapes"], apart := false, laid := [("loop.example/packetfilter/impl.fieldShapes", laid_loop_example_packetfilter_impl_fieldShapes)] }
def FnExactBoxFirstSaid : Prop := fnExactBoxFirstRow.holds Tryd.pinned (OpenSpec.ofChange fnExactBoxFirstSpec)

/-- ITS FALSE NEIGHBOUR: 'it returns false'. Refute it at one input. -/
def fnExactBoxFirstWrong : ChangeSpec := { name := "fnExactBoxFirst", vars := ["loop.example/packetfilter/impl.fieldShapes"], fn := fun _ => fun
  | [d, g1] => { results := [.lit (.bool false)], args := [d], vars := [g1] }
  | _ => none }
def FnExactBoxFirstWrongFalsely : Prop := fnExactBoxFirstRow.holds Tryd.pinned (OpenSpec.ofChange fnExactBoxFirstWrong)

/-- 'laws.FnExactFlatsValid': WHATEVER THE INPUT: true; the input reads as it did. -/
def fnExactFlatsValidSpec : ChangeSpec := { name := "fnExactFlatsValid", vars := ["loop.example/packetfilter/impl.fieldShapes"], fn := fun _ => fun
  | [d, g1] => { results := [.lit (.bool true)], args := [d], vars := [g1] }
  | _ => none }
def fnExactFlatsValidRow : OpenClaim := { program := "ytggckckjmhhdhaadoor", sum := "b80f0b1550f5d96b316bb1fb416c3e40cb4c0be42590097bd555d42491aa7b05", func := "loop.example/packetfilter/laws.FnExactFlatsValid", spec := "fnExactFlatsValid", named := ["loop.example/packetfilter/impl.fieldShapes"], apart := false, laid := [("loop.example/packetfilter/impl.fieldShapes", laid_loop_example_packetfilter_impl_fieldShapes)] }
def FnExactFlatsValidSaid : Prop := fnExactFlatsValidRow.holds Tryd.pinned (OpenSpec.ofChange fnExactFlatsValidSpec)

/-- ITS FALSE NEIGHBOUR: 'it returns false'. Refute it at one input. -/
def fnExactFlatsValidWrong : ChangeSpec := { name := "fnExactFlatsValid", vars := ["loop.example/packetfilter/impl.fieldShapes"], fn := fun _ => fun
  | [d, g1] => { results := [.lit (.bool false)], args := [d], vars := [g1] }
  | _ => none }
def FnExactFlatsValidWrongFalsely : Prop := fnExactFlatsValidRow.holds Tryd.pinned (OpenSpec.ofChange fnExactFlatsValidWrong)

/-- 'laws.FnExactFirstFit': WHATEVER THE INPUT: true; the input reads as it did. -/
def fnExactFirstFitSpec : ChangeSpec := { name := "fnExactFirstFit", vars := ["loop.example/packetfilter/impl.fieldShapes"], fn := fun _ => fun
  | [d1, d2, d3, g1] => { results := [.lit (.bool true)], args := [d1, d2, d3], vars := [g1] }
  | _ => none }
def fnExactFirstFitRow : OpenClaim := { program := "ytggckckjmhhdhaadoor", sum := "b80f0b1550f5d96b316bb1fb416c3e40cb4c0be42590097bd555d42491aa7b05", func := "loop.example/packetfilter/laws.FnExactFirstFit", spec := "fnExactFirstFit", named := ["loop.example/packetfilter/impl.fieldShapes"], apart := false, laid := [("loop.example/packetfilter/impl.fieldShapes", laid_loop_example_packetfilter_impl_fieldShapes)] }
def FnExactFirstFitSaid : Prop := fnExactFirstFitRow.holds Tryd.pinned (OpenSpec.ofChange fnExactFirstFitSpec)

/-- ITS FALSE NEIGHBOUR: 'it returns false'. Refute it at one input. -/
def fnExactFirstFitWrong : ChangeSpec := { name := "fnExactFirstFit", vars := ["loop.example/packetfilter/impl.fieldShapes"], fn := fun _ => fun
  | [d1, d2, d3, g1] => { results := [.lit (.bool false)], args := [d1, d2, d3], vars := [g1] }
  | _ => none }
def FnExactFirstFitWrongFalsely : Prop := fnExactFirstFitRow.holds Tryd.pinned (OpenSpec.ofChange fnExactFirstFitWrong)

/- THE SECOND FORM. 'bulk': how many values and letters a reading holds, each counted each time it is reached (what is shared counts as often as it is met; a slice's spare places count too). A statement '..UptoSaid' is the law's where the arguments, and the package variables that the reading takes, are together of bulk at most 1048576: NARROWER than '..Said'. Prove '..Said' where nothing that the law and all that it calls make is longer than what came in: it says more and counts as full. Else prove '..UptoSaid'. A law counts once. -/
mutual
def uptoBulk {H : Type} : DataW H → Nat
  | .lit (.string bytes) => bytes.length + 1
  | .lit _ => 1
  | .nil => 1
  | .ptr d => uptoBulk d + 1
  | .slice elems spare => uptoBulkAll elems + uptoBulkAll spare + 1
  | .agg parts => uptoBulkAll parts + 1
  | .iface _ d => uptoBulk d + 1
  | .map entries => uptoBulkEntries entries + 1
  | .held _ => 1
def uptoBulkAll {H : Type} : List (DataW H) → Nat
  | [] => 0
  | d :: r => uptoBulk d + uptoBulkAll r
def uptoBulkEntries {H : Type} : List (Lit × DataW H) → Nat
  | [] => 0
  | x :: r => uptoBulkEntry x + uptoBulkEntries r
def uptoBulkEntry {H : Type} : Lit × DataW H → Nat
  | (.string bytes, d) => bytes.length + uptoBulk d + 1
  | (_, d) => uptoBulk d + 1
 end
def uptoSmall : (H : Type) → List (DataW H) → Bool := fun _ ds => decide (uptoBulkAll ds ≤ 1048576)
def OpenSpec.upto (s : _root_.Go.ChangeSpec) : _root_.Go.OpenSpec := { _root_.Go.OpenSpec.ofChange s with cond := some uptoSmall }

/-- 'laws.FnExactBoxAll', WHERE WHAT IT READS IS OF BULK AT MOST 1048576: true; the input reads as it did. -/
def fnExactBoxAllUptoRow : OpenClaim := { program := "ytggckckjmhhdhaadoor", sum := "b80f0b1550f5d96b316bb1fb416c3e40cb4c0be42590097bd555d42491aa7b05", func := "loop.example/packetfilter/laws.FnExactBoxAll", spec := "fnExactBoxAll", named := ["loop.example/packetfilter/impl.fieldShapes"], apart := false, laid := [("loop.example/packetfilter/impl.fieldShapes", laid_loop_example_packetfilter_impl_fieldShapes)], narrowed := true }
def FnExactBoxAllUptoSaid : Prop := fnExactBoxAllUptoRow.holds Tryd.pinned (OpenSpec.upto fnExactBoxAllSpec)

/-- 'laws.FnExactBoxValid', WHERE WHAT IT READS IS OF BULK AT MOST 1048576: true; the input reads as it did. -/
def fnExactBoxValidUptoRow : OpenClaim := { program := "ytggckckjmhhdhaadoor", sum := "b80f0b1550f5d96b316bb1fb416c3e40cb4c0be42590097bd555d42491aa7b05", func := "loop.example/packetfilter/laws.FnExactBoxValid", spec := "fnExactBoxValid", named := ["loop.example/packetfilter/impl.fieldShapes"], apart := false, laid := [("loop.example/packetfilter/impl.fieldShapes", laid_loop_example_packetfilter_impl_fieldShapes)], narrowed := true }
def FnExactBoxValidUptoSaid : Prop := fnExactBoxValidUptoRow.holds Tryd.pinned (OpenSpec.upto fnExactBoxValidSpec)

/-- 'laws.FnExactBoxEmpty', WHERE WHAT IT READS IS OF BULK AT MOST 1048576: true; the input reads as it did. -/
def fnExactBoxEmptyUptoRow : OpenClaim := { program := "ytggckckjmhhdhaadoor", sum := "b80f0b1550f5d96b316bb1fb416c3e40cb4c0be42590097bd555d42491aa7b05", func := "loop.example/packetfilter/laws.FnExactBoxEmpty", spec := "fnExactBoxEmpty", named := ["loop.example/packetfilter/impl.fieldShapes"], apart := false, laid := [("loop.example/packetfilter/impl.fieldShapes", laid_loop_example_packetfilter_impl_fieldShapes)], narrowed := true }
def FnExactBoxEmptyUptoSaid : Prop := fnExactBoxEmptyUptoRow.holds Tryd.pinned (OpenSpec.upto fnExactBoxEmptySpec)

/-- 'laws.FnBoxAll', WHERE WHAT IT READS IS OF BULK AT MOST 1048576: true; the input reads as it did. -/
def fnBoxAllUptoRow : OpenClaim := { program := "ytggckckjmhhdhaadoor", sum := "b80f0b1550f5d96b316bb1fb416c3e40cb4c0be42590097bd555d42491aa7b05", func := "loop.example/packetfilter/laws.FnBoxAll", spec := "fnBoxAll", named := ["loop.example/packetfilter/impl.fieldShapes"], apart := false, laid := [("loop.example/packetfilter/impl.fieldShapes", laid_loop_example_packetfilter_impl_fieldShapes)], narrowed := true }
def FnBoxAllUptoSaid : Prop := fnBoxAllUptoRow.holds Tryd.pinned (OpenSpec.upto fnBoxAllSpec)

/-- 'laws.FnExactRuleFits', WHERE WHAT IT READS IS OF BULK AT MOST 1048576: true; the input reads as it did. -/
def fnExactRuleFitsUptoRow : OpenClaim := { program := "ytggckckjmhhdhaadoor", sum := "b80f0b1550f5d96b316bb1fb416c3e40cb4c0be42590097bd555d42491aa7b05", func := "loop.example/packetfilter/laws.FnExactRuleFits", spec := "fnExactRuleFits", named := ["loop.example/packetfilter/impl.fieldShapes"], apart := false, laid := [("loop.example/packetfilter/impl.fieldShapes", laid_loop_example_packetfilter_impl_fieldShapes)], narrowed := true }
def FnExactRuleFitsUptoSaid : Prop := fnExactRuleFitsUptoRow.holds Tryd.pinned (OpenSpec.upto fnExactRuleFitsSpec)

/-- 'laws.FnRulesValid', WHERE WHAT IT READS IS OF BULK AT MOST 1048576: true; the input reads as it did. -/
def fnRulesValidUptoRow : OpenClaim := { program := "ytggckckjmhhdhaadoor", sum := "b80f0b1550f5d96b316bb1fb416c3e40cb4c0be42590097bd555d42491aa7b05", func := "loop.example/packetfilter/laws.FnRulesValid", spec := "fnRulesValid", named := ["loop.example/packetfilter/impl.fieldShapes"], apart := false, laid := [("loop.example/packetfilter/impl.fieldShapes", laid_loop_example_packetfilter_impl_fieldShapes)], narrowed := true }
def FnRulesValidUptoSaid : Prop := fnRulesValidUptoRow.holds Tryd.pinned (OpenSpec.upto fnRulesValidSpec)

/-- 'laws.FnExactRegionValid', WHERE WHAT IT READS IS OF BULK AT MOST 1048576: true; the input reads as it did. -/
def fnExactRegionValidUptoRow : OpenClaim := { program := "ytggckckjmhhdhaadoor", sum := "b80f0b1550f5d96b316bb1fb416c3e40cb4c0be42590097bd555d42491aa7b05", func := "loop.example/packetfilter/laws.FnExactRegionValid", spec := "fnExactRegionValid", named := ["loop.example/packetfilter/impl.fieldShapes"], apart := false, laid := [("loop.example/packetfilter/impl.fieldShapes", laid_loop_example_packetfilter_impl_fieldShapes)], narrowed := true }
def FnExactRegionValidUptoSaid : Prop := fnExactRegionValidUptoRow.holds Tryd.pinned (OpenSpec.upto fnExactRegionValidSpec)

/-- 'laws.FnRegionMore', WHERE WHAT IT READS IS OF BULK AT MOST 1048576: true; the input reads as it did. -/
def fnRegionMoreUptoRow : OpenClaim := { program := "ytggckckjmhhdhaadoor", sum := "b80f0b1550f5d96b316bb1fb416c3e40cb4c0be42590097bd555d42491aa7b05", func := "loop.example/packetfilter/laws.FnRegionMore", spec := "fnRegionMore", unfollowed := true, recurses := true, named := ["loop.example/packetfilter/impl.fieldShapes"], apart := false, laid := [("loop.example/packetfilter/impl.fieldShapes", laid_loop_example_packetfilter_impl_fieldShapes)], narrowed := true }
def FnRegionMoreUptoSaid : Prop := fnRegionMoreUptoRow.holds Tryd.pinned (OpenSpec.upto fnRegionMoreSpec)

/-- 'laws.FnExactBoxHas', WHERE WHAT IT READS IS OF BULK AT MOST 1048576: true; the input reads as it did. -/
def fnExactBoxHasUptoRow : OpenClaim := { program := "ytggckckjmhhdhaadoor", sum := "b80f0b1550f5d96b316bb1fb416c3e40cb4c0be42590097bd555d42491aa7b05", func := "loop.example/packetfilter/laws.FnExactBoxHas", spec := "fnExactBoxHas", named := ["loop.example/packetfilter/impl.fieldShapes"], apart := false, laid := [("loop.example/packetfilter/impl.fieldShapes", laid_loop_example_packetfilter_impl_fieldShapes)], narrowed := true }
def FnExactBoxHasUptoSaid : Prop := fnExactBoxHasUptoRow.holds Tryd.pinned (OpenSpec.upto fnExactBoxHasSpec)

/-- 'laws.FnExactBoxFirst', WHERE WHAT IT READS IS OF BULK AT MOST 1048576: true; the input reads as it did. -/
def fnExactBoxFirstUptoRow : OpenClaim := { program := "ytggckckjmhhdhaadoor", sum := "b80f0b1550f5d96b316bb1fb416c3e40cb4c0be42590097bd555d42491aa7b05", func := "loop.example/packetfilter/laws.FnExactBoxFirst", spec := "fnExactBoxFirst", named := ["loop.example/packetfilter/impl.fieldShapes"], apart := false, laid := [("loop.example/packetfilter/impl.fieldShapes", laid_loop_example_packetfilter_impl_fieldShapes)], narrowed := true }
def FnExactBoxFirstUptoSaid : Prop := fnExactBoxFirstUptoRow.holds Tryd.pinned (OpenSpec.upto fnExactBoxFirstSpec)

/-- 'laws.FnExactFlatsValid', WHERE WHAT IT READS IS OF BULK AT MOST 1048576: true; the input reads as it did. -/
def fnExactFlatsValidUptoRow : OpenClaim := { program := "ytggckckjmhhdhaadoor", sum := "b80f0b1550f5d96b316bb1fb416c3e40cb4c0be42590097bd555d42491aa7b05", func := "loop.example/packetfilter/laws.FnExactFlatsValid", spec := "fnExactFlatsValid", named := ["loop.example/packetfilter/impl.fieldShapes"], apart := false, laid := [("loop.example/packetfilter/impl.fieldShapes", laid_loop_example_packetfilter_impl_fieldShapes)], narrowed := true }
def FnExactFlatsValidUptoSaid : Prop := fnExactFlatsValidUptoRow.holds Tryd.pinned (OpenSpec.upto fnExactFlatsValidSpec)

/-- 'laws.FnExactFirstFit', WHERE WHAT IT READS IS OF BULK AT MOST 1048576: true; the input reads as it did. -/
def fnExactFirstFitUptoRow : OpenClaim := { program := "ytggckckjmhhdhaadoor", sum := "b80f0b1550f5d96b316bb1fb416c3e40cb4c0be42590097bd555d42491aa7b05", func := "loop.example/packetfilter/laws.FnExactFirstFit", spec := "fnExactFirstFit", named := ["loop.example/packetfilter/impl.fieldShapes"], apart := false, laid := [("loop.example/packetfilter/impl.fieldShapes", laid_loop_example_packetfilter_impl_fieldShapes)], narrowed := true }
def FnExactFirstFitUptoSaid : Prop := fnExactFirstFitUptoRow.holds Tryd.pinned (OpenSpec.upto fnExactFirstFitSpec)

end Rows
end Go.Proofs.YtggckckjmhhdhaaDoor
