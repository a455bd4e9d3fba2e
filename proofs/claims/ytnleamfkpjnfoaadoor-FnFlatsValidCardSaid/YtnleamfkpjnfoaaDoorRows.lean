/-
  NARROWER THAN 'FOR EVERY INPUT', by the rows' own cells (each row's printed sentence says how): FnTestsOrder: laid · FnRegionValid: laid · FnFlatsValid: laid · FnTestsMore: laid · FnTestsBox: laid · FnBoxFirst: laid · FnBoxHas: laid · FnBoxChain: laid · FnBoxSame: laid · FnRegionHas: laid · FnBoxEmpty: laid · FnBoxMeet: laid.
  DERIVED. THE GIVEN ROWS OF THIS SEAT. 12 by the template 'for every input the law returns true; each argument reads behind the call as it read before'; 0 by the template 'total and deterministic' (their statements: YtnleamfkpjnfoaaDoorTotals.lean).
  GIVEN WITH THE SEED: the statements are not yours to turn. If you find one false, say at which input.
  Laid BY PROGRAM, IN A SANDBOX (cutbox-rows.mjs): the forced cells as the released guide's own fill.sh prints them over the translation 3274609833809af3… (all of the seat's roots in one cut). By AI agents, Wed Nov 11 2026. No macro, syntax, notation, axiom, sorry.
-/
import Derived.Test.YtnleamfkpjnfoaaDoorChecked
import GoSem.Claim
import GoSem.ClaimJoined
import GoSem.ClaimMapViews
import Derived.JoinedTies
import Derived.KernelRfl
namespace Go.Proofs.YtnleamfkpjnfoaaDoor
/- THE CELL 'sum', in the pinned program and in every row, IS THE sha256 OF THE DUMP (.gsa) THAT YtnleamfkpjnfoaaDoorProg.lean LOADS. Nothing in Lean hashes anything: it is a label: what it is worth is what the hold of that sum in a sandbox is worth. -/
noncomputable def Tryd.pinned : Pinned := { name := "ytnleamfkpjnfoaadoor", sum := "3274609833809af30cdf141a6976c34cf0accf19e6f6ae07ad00c3a228869b7d", checked := Tryd.checked }
namespace Rows
def none {H : Type} : Left H := { results := [], args := [] }

/- WHAT THE LISTED PACKAGE-LEVEL VARIABLES READ AS WHEN THE CALL BEGINS. Each datum BY PROGRAM (the guide's laid-datum.mjs) off the statement by which the dump's own 'gosem.cut.vars' lays the variable. In a bare row this is a premise. The card (YtnleamfkpjnfoaaDoorCards.lean) ties it to the program's text. -/
def laid_loop_example_packetfilter_impl_fieldShapes {H : Type} : DataW H := .agg [.agg [.lit (.string [102, 114, 111, 109]), .lit (.int .i64 65535)], .agg [.lit (.string [116, 111]), .lit (.int .i64 65535)], .agg [.lit (.string [112, 111, 114, 116]), .lit (.int .i64 255)], .agg [.lit (.string [112, 114, 111, 116, 111]), .lit (.int .i64 7)]]

/-- 'laws.FnTestsOrder': WHATEVER THE INPUT: true; the input reads as it did. -/
def fnTestsOrderSpec : ChangeSpec := { name := "fnTestsOrder", vars := ["loop.example/packetfilter/impl.fieldShapes"], fn := fun _ => fun
  | [d, g1] => { results := [.lit (.bool true)], args := [d], vars := [g1] }
  | _ => none }
def fnTestsOrderRow : OpenClaim := { program := "ytnleamfkpjnfoaadoor", sum := "3274609833809af30cdf141a6976c34cf0accf19e6f6ae07ad00c3a228869b7d", func := "loop.example/packetfilter/laws.FnTestsOrder", spec := "fnTestsOrder", unfollowed := true, recurses := true, named := ["loop.example/packetfilter/impl.fieldShapes"], apart := false, laid := [("loop.example/packetfilter/impl.fieldShapes", laid_loop_example_packetfilter_impl_fieldShapes)] }
def FnTestsOrderSaid : Prop := fnTestsOrderRow.holds Tryd.pinned (OpenSpec.ofChange fnTestsOrderSpec)

/-- ITS FALSE NEIGHBOUR: 'it returns false'. Refute it at one input. -/
def fnTestsOrderWrong : ChangeSpec := { name := "fnTestsOrder", vars := ["loop.example/packetfilter/impl.fieldShapes"], fn := fun _ => fun
  | [d, g1] => { results := [.lit (.bool false)], args := [d], vars := [g1] }
  | _ => none }
def FnTestsOrderWrongFalsely : Prop := fnTestsOrderRow.holds Tryd.pinned (OpenSpec.ofChange fnTestsOrderWrong)

/-- 'laws.FnRegionValid': WHATEVER THE INPUT: true; the input reads as it did. -/
def fnRegionValidSpec : ChangeSpec := { name := "fnRegionValid", vars := ["loop.example/packetfilter/impl.fieldShapes"], fn := fun _ => fun
  | [d, g1] => { results := [.lit (.bool true)], args := [d], vars := [g1] }
  | _ => none }
def fnRegionValidRow : OpenClaim := { program := "ytnleamfkpjnfoaadoor", sum := "3274609833809af30cdf141a6976c34cf0accf19e6f6ae07ad00c3a228869b7d", func := "loop.example/packetfilter/laws.FnRegionValid", spec := "fnRegionValid", named := ["loop.example/packetfilter/impl.fieldShapes"], apart := false, laid := [("loop.example/packetfilter/impl.fieldShapes", laid_loop_example_packetfilter_impl_fieldShapes)] }
def FnRegionValidSaid : Prop := fnRegionValidRow.holds Tryd.pinned (OpenSpec.ofChange fnRegionValidSpec)

/-- ITS FALSE NEIGHBOUR: 'it returns false'. Refute it at one input. -/
def fnRegionValidWrong : ChangeSpec := { name := "fnRegionValid", vars := ["loop.example/packetfilter/impl.fieldShapes"], fn := fun _ => fun
  | [d, g1] => { results := [.lit (.bool false)], args := [d], vars := [g1] }
  | _ => none }
def FnRegionValidWrongFalsely : Prop := fnRegionValidRow.holds Tryd.pinned (OpenSpec.ofChange fnRegionValidWrong)

/-- 'laws.FnFlatsValid': WHATEVER THE INPUT: true; the input reads as it did. -/
def fnFlatsValidSpec : ChangeSpec := { name := "fnFlatsValid", vars := ["loop.example/packetfilter/impl.fieldShapes"], fn := fun _ => fun
  | [d, g1] => { results := [.lit (.bool true)], args := [d], vars := [g1] }
  | _ => none }
def fnFlatsValidRow : OpenClaim := { program := "ytnleamfkpjnfoaadoor", sum := "3274609833809af30cdf141a6976c34cf0accf19e6f6ae07ad00c3a228869b7d", func := "loop.example/packetfilter/laws.FnFlatsValid", spec := "fnFlatsValid", named := ["loop.example/packetfilter/impl.fieldShapes"], apart := false, laid := [("loop.example/packetfilter/impl.fieldShapes", laid_loop_example_packetfilter_impl_fieldShapes)] }
def FnFlatsValidSaid : Prop := fnFlatsValidRow.holds Tryd.pinned (OpenSpec.ofChange fnFlatsValidSpec)

/-- ITS FALSE NEIGHBOUR: 'it returns false'. Refute it at one input. -/
def fnFlatsValidWrong : ChangeSpec := { name := "fnFlatsValid", vars := ["loop.example/packetfilter/impl.fieldShapes"], fn := fun _ => fun
  | [d, g1] => { results := [.lit (.bool false)], args := [d], vars := [g1] }
  | _ => none }
def FnFlatsValidWrongFalsely : Prop := fnFlatsValidRow.holds Tryd.pinned (OpenSpec.ofChange fnFlatsValidWrong)

/-- 'laws.FnTestsMore': WHATEVER THE INPUT: true; the input reads as it did. -/
def fnTestsMoreSpec : ChangeSpec := { name := "fnTestsMore", vars := ["loop.example/packetfilter/impl.fieldShapes"], fn := fun _ => fun
  | [d, g1] => { results := [.lit (.bool true)], args := [d], vars := [g1] }
  | _ => none }
def fnTestsMoreRow : OpenClaim := { program := "ytnleamfkpjnfoaadoor", sum := "3274609833809af30cdf141a6976c34cf0accf19e6f6ae07ad00c3a228869b7d", func := "loop.example/packetfilter/laws.FnTestsMore", spec := "fnTestsMore", unfollowed := true, recurses := true, named := ["loop.example/packetfilter/impl.fieldShapes"], apart := false, laid := [("loop.example/packetfilter/impl.fieldShapes", laid_loop_example_packetfilter_impl_fieldShapes)] }
def FnTestsMoreSaid : Prop := fnTestsMoreRow.holds Tryd.pinned (OpenSpec.ofChange fnTestsMoreSpec)

/-- ITS FALSE NEIGHBOUR: 'it returns false'. Refute it at one input. -/
def fnTestsMoreWrong : ChangeSpec := { name := "fnTestsMore", vars := ["loop.example/packetfilter/impl.fieldShapes"], fn := fun _ => fun
  | [d, g1] => { results := [.lit (.bool false)], args := [d], vars := [g1] }
  | _ => none }
def FnTestsMoreWrongFalsely : Prop := fnTestsMoreRow.holds Tryd.pinned (OpenSpec.ofChange fnTestsMoreWrong)

/-- 'laws.FnTestsBox': WHATEVER THE INPUT: true; the input reads as it did. -/
def fnTestsBoxSpec : ChangeSpec := { name := "fnTestsBox", vars := ["loop.example/packetfilter/impl.fieldShapes"], fn := fun _ => fun
  | [d1, d2, g1] => { results := [.lit (.bool true)], args := [d1, d2], vars := [g1] }
  | _ => none }
def fnTestsBoxRow : OpenClaim := { program := "ytnleamfkpjnfoaadoor", sum := "3274609833809af30cdf141a6976c34cf0accf19e6f6ae07ad00c3a228869b7d", func := "loop.example/packetfilter/laws.FnTestsBox", spec := "fnTestsBox", unfollowed := true, recurses := true, named := ["loop.example/packetfilter/impl.fieldShapes"], apart := false, laid := [("loop.example/packetfilter/impl.fieldShapes", laid_loop_example_packetfilter_impl_fieldShapes)] }
def FnTestsBoxSaid : Prop := fnTestsBoxRow.holds Tryd.pinned (OpenSpec.ofChange fnTestsBoxSpec)

/-- ITS FALSE NEIGHBOUR: 'it returns false'. Refute it at one input. -/
def fnTestsBoxWrong : ChangeSpec := { name := "fnTestsBox", vars := ["loop.example/packetfilter/impl.fieldShapes"], fn := fun _ => fun
  | [d1, d2, g1] => { results := [.lit (.bool false)], args := [d1, d2], vars := [g1] }
  | _ => none }
def FnTestsBoxWrongFalsely : Prop := fnTestsBoxRow.holds Tryd.pinned (OpenSpec.ofChange fnTestsBoxWrong)

/-- 'laws.FnBoxFirst': WHATEVER THE INPUT: true; the input reads as it did. -/
def fnBoxFirstSpec : ChangeSpec := { name := "fnBoxFirst", vars := ["loop.example/packetfilter/impl.fieldShapes"], fn := fun _ => fun
  | [d1, d2, g1] => { results := [.lit (.bool true)], args := [d1, d2], vars := [g1] }
  | _ => none }
def fnBoxFirstRow : OpenClaim := { program := "ytnleamfkpjnfoaadoor", sum := "3274609833809af30cdf141a6976c34cf0accf19e6f6ae07ad00c3a228869b7d", func := "loop.example/packetfilter/laws.FnBoxFirst", spec := "fnBoxFirst", named := ["loop.example/packetfilter/impl.fieldShapes"], apart := false, laid := [("loop.example/packetfilter/impl.fieldShapes", laid_loop_example_packetfilter_impl_fieldShapes)] }
def FnBoxFirstSaid : Prop := fnBoxFirstRow.holds Tryd.pinned (OpenSpec.ofChange fnBoxFirstSpec)

/-- ITS FALSE NEIGHBOUR: 'it returns false'. Refute it at one input. -/
def fnBoxFirstWrong : ChangeSpec := { name := "fnBoxFirst", vars := ["loop.example/packetfilter/impl.fieldShapes"], fn := fun _ => fun
  | [d1, d2, g1] => { results := [.lit (.bool false)], args := [d1, d2], vars := [g1] }
  | _ => none }
def FnBoxFirstWrongFalsely : Prop := fnBoxFirstRow.holds Tryd.pinned (OpenSpec.ofChange fnBoxFirstWrong)

/-- 'laws.FnBoxHas': WHATEVER THE INPUT: true; the input reads as it did. -/
def fnBoxHasSpec : ChangeSpec := { name := "fnBoxHas", vars := ["loop.example/packetfilter/impl.fieldShapes"], fn := fun _ => fun
  | [d, g1] => { results := [.lit (.bool true)], args := [d], vars := [g1] }
  | _ => none }
def fnBoxHasRow : OpenClaim := { program := "ytnleamfkpjnfoaadoor", sum := "3274609833809af30cdf141a6976c34cf0accf19e6f6ae07ad00c3a228869b7d", func := "loop.example/packetfilter/laws.FnBoxHas", spec := "fnBoxHas", named := ["loop.example/packetfilter/impl.fieldShapes"], apart := false, laid := [("loop.example/packetfilter/impl.fieldShapes", laid_loop_example_packetfilter_impl_fieldShapes)] }
def FnBoxHasSaid : Prop := fnBoxHasRow.holds Tryd.pinned (OpenSpec.ofChange fnBoxHasSpec)

/-- ITS FALSE NEIGHBOUR: 'it returns false'. Refute it at one input. -/
def fnBoxHasWrong : ChangeSpec := { name := "fnBoxHas", vars := ["loop.example/packetfilter/impl.fieldShapes"], fn := fun _ => fun
  | [d, g1] => { results := [.lit (.bool false)], args := [d], vars := [g1] }
  | _ => none }
def FnBoxHasWrongFalsely : Prop := fnBoxHasRow.holds Tryd.pinned (OpenSpec.ofChange fnBoxHasWrong)

/-- 'laws.FnBoxChain': WHATEVER THE INPUT: true; the input reads as it did. -/
def fnBoxChainSpec : ChangeSpec := { name := "fnBoxChain", vars := ["loop.example/packetfilter/impl.fieldShapes"], fn := fun _ => fun
  | [d1, d2, g1] => { results := [.lit (.bool true)], args := [d1, d2], vars := [g1] }
  | _ => none }
def fnBoxChainRow : OpenClaim := { program := "ytnleamfkpjnfoaadoor", sum := "3274609833809af30cdf141a6976c34cf0accf19e6f6ae07ad00c3a228869b7d", func := "loop.example/packetfilter/laws.FnBoxChain", spec := "fnBoxChain", unfollowed := true, recurses := true, named := ["loop.example/packetfilter/impl.fieldShapes"], apart := false, laid := [("loop.example/packetfilter/impl.fieldShapes", laid_loop_example_packetfilter_impl_fieldShapes)] }
def FnBoxChainSaid : Prop := fnBoxChainRow.holds Tryd.pinned (OpenSpec.ofChange fnBoxChainSpec)

/-- ITS FALSE NEIGHBOUR: 'it returns false'. Refute it at one input. -/
def fnBoxChainWrong : ChangeSpec := { name := "fnBoxChain", vars := ["loop.example/packetfilter/impl.fieldShapes"], fn := fun _ => fun
  | [d1, d2, g1] => { results := [.lit (.bool false)], args := [d1, d2], vars := [g1] }
  | _ => none }
def FnBoxChainWrongFalsely : Prop := fnBoxChainRow.holds Tryd.pinned (OpenSpec.ofChange fnBoxChainWrong)

/-- 'laws.FnBoxSame': WHATEVER THE INPUT: true; the input reads as it did. -/
def fnBoxSameSpec : ChangeSpec := { name := "fnBoxSame", vars := ["loop.example/packetfilter/impl.fieldShapes"], fn := fun _ => fun
  | [d, g1] => { results := [.lit (.bool true)], args := [d], vars := [g1] }
  | _ => none }
def fnBoxSameRow : OpenClaim := { program := "ytnleamfkpjnfoaadoor", sum := "3274609833809af30cdf141a6976c34cf0accf19e6f6ae07ad00c3a228869b7d", func := "loop.example/packetfilter/laws.FnBoxSame", spec := "fnBoxSame", named := ["loop.example/packetfilter/impl.fieldShapes"], apart := false, laid := [("loop.example/packetfilter/impl.fieldShapes", laid_loop_example_packetfilter_impl_fieldShapes)] }
def FnBoxSameSaid : Prop := fnBoxSameRow.holds Tryd.pinned (OpenSpec.ofChange fnBoxSameSpec)

/-- ITS FALSE NEIGHBOUR: 'it returns false'. Refute it at one input. -/
def fnBoxSameWrong : ChangeSpec := { name := "fnBoxSame", vars := ["loop.example/packetfilter/impl.fieldShapes"], fn := fun _ => fun
  | [d, g1] => { results := [.lit (.bool false)], args := [d], vars := [g1] }
  | _ => none }
def FnBoxSameWrongFalsely : Prop := fnBoxSameRow.holds Tryd.pinned (OpenSpec.ofChange fnBoxSameWrong)

/-- 'laws.FnRegionHas': WHATEVER THE INPUT: true; the input reads as it did. -/
def fnRegionHasSpec : ChangeSpec := { name := "fnRegionHas", vars := ["loop.example/packetfilter/impl.fieldShapes"], fn := fun _ => fun
  | [d, g1] => { results := [.lit (.bool true)], args := [d], vars := [g1] }
  | _ => none }
def fnRegionHasRow : OpenClaim := { program := "ytnleamfkpjnfoaadoor", sum := "3274609833809af30cdf141a6976c34cf0accf19e6f6ae07ad00c3a228869b7d", func := "loop.example/packetfilter/laws.FnRegionHas", spec := "fnRegionHas", named := ["loop.example/packetfilter/impl.fieldShapes"], apart := false, laid := [("loop.example/packetfilter/impl.fieldShapes", laid_loop_example_packetfilter_impl_fieldShapes)] }
def FnRegionHasSaid : Prop := fnRegionHasRow.holds Tryd.pinned (OpenSpec.ofChange fnRegionHasSpec)

/-- ITS FALSE NEIGHBOUR: 'it returns false'. Refute it at one input. -/
def fnRegionHasWrong : ChangeSpec := { name := "fnRegionHas", vars := ["loop.example/packetfilter/impl.fieldShapes"], fn := fun _ => fun
  | [d, g1] => { results := [.lit (.bool false)], args := [d], vars := [g1] }
  | _ => none }
def FnRegionHasWrongFalsely : Prop := fnRegionHasRow.holds Tryd.pinned (OpenSpec.ofChange fnRegionHasWrong)

/-- 'laws.FnBoxEmpty': WHATEVER THE INPUT: true; the input reads as it did. -/
def fnBoxEmptySpec : ChangeSpec := { name := "fnBoxEmpty", vars := ["loop.example/packetfilter/impl.fieldShapes"], fn := fun _ => fun
  | [d, g1] => { results := [.lit (.bool true)], args := [d], vars := [g1] }
  | _ => none }
def fnBoxEmptyRow : OpenClaim := { program := "ytnleamfkpjnfoaadoor", sum := "3274609833809af30cdf141a6976c34cf0accf19e6f6ae07ad00c3a228869b7d", func := "loop.example/packetfilter/laws.FnBoxEmpty", spec := "fnBoxEmpty", unfollowed := true, recurses := true, named := ["loop.example/packetfilter/impl.fieldShapes"], apart := false, laid := [("loop.example/packetfilter/impl.fieldShapes", laid_loop_example_packetfilter_impl_fieldShapes)] }
def FnBoxEmptySaid : Prop := fnBoxEmptyRow.holds Tryd.pinned (OpenSpec.ofChange fnBoxEmptySpec)

/-- ITS FALSE NEIGHBOUR: 'it returns false'. Refute it at one input. -/
def fnBoxEmptyWrong : ChangeSpec := { name := "fnBoxEmpty", vars := ["loop.example/packetfilter/impl.fieldShapes"], fn := fun _ => fun
  | [d, g1] => { results := [.lit (.bool false)], args := [d], vars := [g1] }
  | _ => none }
def FnBoxEmptyWrongFalsely : Prop := fnBoxEmptyRow.holds Tryd.pinned (OpenSpec.ofChange fnBoxEmptyWrong)

/-- 'laws.FnBoxMeet': WHATEVER THE INPUT: true; the input reads as it did. -/
def fnBoxMeetSpec : ChangeSpec := { name := "fnBoxMeet", vars := ["loop.example/packetfilter/impl.fieldShapes"], fn := fun _ => fun
  | [d1, d2, g1] => { results := [.lit (.bool true)], args := [d1, d2], vars := [g1] }
  | _ => none }
def fnBoxMeetRow : OpenClaim := { program := "ytnleamfkpjnfoaadoor", sum := "3274609833809af30cdf141a6976c34cf0accf19e6f6ae07ad00c3a228869b7d", func := "loop.example/packetfilter/laws.FnBoxMeet", spec := "fnBoxMeet", unfollowed := true, recurses := true, named := ["loop.example/packetfilter/impl.fieldShapes"], apart := false, laid := [("loop.example/packetfilter/impl.fieldShapes", laid_loop_example_packetfilter_impl_fieldShapes)] }
def FnBoxMeetSaid : Prop := fnBoxMeetRow.holds Tryd.pinned (OpenSpec.ofChange fnBoxMeetSpec)

/-- ITS FALSE NEIGHBOUR: 'it returns false'. Refute it at one input. -/
def fnBoxMeetWrong : ChangeSpec := { name := "fnBoxMeet", vars := ["loop.example/packetfilter/impl.fieldShapes"], fn := fun _ => fun
  | [d1, d2, g1] => { results := [.lit (.bool false)], args := [d1, d2], vars := [g1] }
  | _ => none }
def FnBoxMeetWrongFalsely : Prop := fnBoxMeetRow.holds Tryd.pinned (OpenSpec.ofChange fnBoxMeetWrong)

/- THE SECOND FORM. 'bulk': how many values and letters a reading holds, each counted each time it is reached (what is shared counts as often as it is met; a slice's spare places count too). A statement '..UptoSaid' is the law's where the arguments, and the package variables that the reading takes, are together of bulk at most 1048576: NARROWER than '..Said'. Prove '..Said' where nothing that the law and all that it calls make is longer than what came in: it says more and counts as full. Else prove '..UptoSaid'. A law counts once. -/
mutual
def uptoBulk {H : Type} : DataW H → Nat
  | .lit (.string bytes) => bytes.length + 1
  | .lit _ => 1
  | .nil => 1
  | .ptr d => uptoBulk d + 1
  | .slice elems spare => uptoBulkAll elems + uptoBulkAll spare + 1
  | .agg parts => uptoBulkAll parts + 1
  | .iface _ d => uptoBulk d + 1
  | .map entries => uptoBulkEntries entries + 1
  | .held _ => 1
def uptoBulkAll {H : Type} : List (DataW H) → Nat
  | [] => 0
  | d :: r => uptoBulk d + uptoBulkAll r
def uptoBulkEntries {H : Type} : List (Lit × DataW H) → Nat
  | [] => 0
  | x :: r => uptoBulkEntry x + uptoBulkEntries r
def uptoBulkEntry {H : Type} : Lit × DataW H → Nat
  | (.string bytes, d) => bytes.length + uptoBulk d + 1
  | (_, d) => uptoBulk d + 1
 end
def uptoSmall : (H : Type) → List (DataW H) → Bool := fun _ ds => decide (uptoBulkAll ds ≤ 1048576)
def OpenSpec.upto (s : _root_.Go.ChangeSpec) : _root_.Go.OpenSpec := { _root_.Go.OpenSpec.ofChange s with cond := some uptoSmall }

/-- 'laws.FnTestsOrder', WHERE WHAT IT READS IS OF BULK AT MOST 1048576: true; the input reads as it did. -/
def fnTestsOrderUptoRow : OpenClaim := { program := "ytnleamfkpjnfoaadoor", sum := "3274609833809af30cdf141a6976c34cf0accf19e6f6ae07ad00c3a228869b7d", func := "loop.example/packetfilter/laws.FnTestsOrder", spec := "fnTestsOrder", unfollowed := true, recurses := true, named := ["loop.example/packetfilter/impl.fieldShapes"], apart := false, laid := [("loop.example/packetfilter/impl.fieldShapes", laid_loop_example_packetfilter_impl_fieldShapes)], narrowed := true }
def FnTestsOrderUptoSaid : Prop := fnTestsOrderUptoRow.holds Tryd.pinned (OpenSpec.upto fnTestsOrderSpec)

/-- 'laws.FnRegionValid', WHERE WHAT IT READS IS OF BULK AT MOST 1048576: true; the input reads as it did. -/
def fnRegionValidUptoRow : OpenClaim := { program := "ytnleamfkpjnfoaadoor", sum := "3274609833809af30cdf141a6976c34cf0accf19e6f6ae07ad00c3a228869b7d", func := "loop.example/packetfilter/laws.FnRegionValid", spec := "fnRegionValid", named := ["loop.example/packetfilter/impl.fieldShapes"], apart := false, laid := [("loop.example/packetfilter/impl.fieldShapes", laid_loop_example_packetfilter_impl_fieldShapes)], narrowed := true }
def FnRegionValidUptoSaid : Prop := fnRegionValidUptoRow.holds Tryd.pinned (OpenSpec.upto fnRegionValidSpec)

/-- 'laws.FnFlatsValid', WHERE WHAT IT READS IS OF BULK AT MOST 1048576: true; the input reads as it did. -/
def fnFlatsValidUptoRow : OpenClaim := { program := "ytnleamfkpjnfoaadoor", sum := "3274609833809af30cdf141a6976c34cf0accf19e6f6ae07ad00c3a228869b7d", func := "loop.example/packetfilter/laws.FnFlatsValid", spec := "fnFlatsValid", named := ["loop.example/packetfilter/impl.fieldShapes"], apart := false, laid := [("loop.example/packetfilter/impl.fieldShapes", laid_loop_example_packetfilter_impl_fieldShapes)], narrowed := true }
def FnFlatsValidUptoSaid : Prop := fnFlatsValidUptoRow.holds Tryd.pinned (OpenSpec.upto fnFlatsValidSpec)

/-- 'laws.FnTestsMore', WHERE WHAT IT READS IS OF BULK AT MOST 1048576: true; the input reads as it did. -/
def fnTestsMoreUptoRow : OpenClaim := { program := "ytnleamfkpjnfoaadoor", sum := "3274609833809af30cdf141a6976c34cf0accf19e6f6ae07ad00c3a228869b7d", func := "loop.example/packetfilter/laws.FnTestsMore", spec := "fnTestsMore", unfollowed := true, recurses := true, named := ["loop.example/packetfilter/impl.fieldShapes"], apart := false, laid := [("loop.example/packetfilter/impl.fieldShapes", laid_loop_example_packetfilter_impl_fieldShapes)], narrowed := true }
def FnTestsMoreUptoSaid : Prop := fnTestsMoreUptoRow.holds Tryd.pinned (OpenSpec.upto fnTestsMoreSpec)

/-- 'laws.FnTestsBox', WHERE WHAT IT READS IS OF BULK AT MOST 1048576: true; the input reads as it did. -/
def fnTestsBoxUptoRow : OpenClaim := { program := "ytnleamfkpjnfoaadoor", sum := "3274609833809af30cdf141a6976c34cf0accf19e6f6ae07ad00c3a228869b7d", func := "loop.example/packetfilter/laws.FnTestsBox", spec := "fnTestsBox", unfollowed := true, recurses := true, named := ["loop.example/packetfilter/impl.fieldShapes"], apart := false, laid := [("loop.example/packetfilter/impl.fieldShapes", laid_loop_example_packetfilter_impl_fieldShapes)], narrowed := true }
def FnTestsBoxUptoSaid : Prop := fnTestsBoxUptoRow.holds Tryd.pinned (OpenSpec.upto fnTestsBoxSpec)

/-- 'laws.FnBoxFirst', WHERE WHAT IT READS IS OF BULK AT MOST 1048576: true; the input reads as it did. -/
def fnBoxFirstUptoRow : OpenClaim := { program := "ytnleamfkpjnfoaadoor", sum := "3274609833809af30cdf141a6976c34cf0accf19e6f6ae07ad00c3a228869b7d", func := "loop.example/packetfilter/laws.FnBoxFirst", spec := "fnBoxFirst", named := ["loop.example/packetfilter/impl.fieldShapes"], apart := false, laid := [("loop.example/packetfilter/impl.fieldShapes", laid_loop_example_packetfilter_impl_fieldShapes)], narrowed := true }
def FnBoxFirstUptoSaid : Prop := fnBoxFirstUptoRow.holds Tryd.pinned (OpenSpec.upto fnBoxFirstSpec)

/-- 'laws.FnBoxHas', WHERE WHAT IT READS IS OF BULK AT MOST 1048576: true; the input reads as it did. -/
def fnBoxHasUptoRow : OpenClaim := { program := "ytnleamfkpjnfoaadoor", sum := "3274609833809af30cdf141a6976c34cf0accf19e6f6ae07ad00c3a228869b7d", func := "loop.example/packetfilter/laws.FnBoxHas", spec := "fnBoxHas", named := ["loop.example/packetfilter/impl.fieldShapes"], apart := false, laid := [("loop.example/packetfilter/impl.fieldShapes", laid_loop_example_packetfilter_impl_fieldShapes)], narrowed := true }
def FnBoxHasUptoSaid : Prop := fnBoxHasUptoRow.holds Tryd.pinned (OpenSpec.upto fnBoxHasSpec)

/-- 'laws.FnBoxChain', WHERE WHAT IT READS IS OF BULK AT MOST 1048576: true; the input reads as it did. -/
def fnBoxChainUptoRow : OpenClaim := { program := "ytnleamfkpjnfoaadoor", sum := "3274609833809af30cdf141a6976c34cf0accf19e6f6ae07ad00c3a228869b7d", func := "loop.example/packetfilter/laws.FnBoxChain", spec := "fnBoxChain", unfollowed := true, recurses := true, named := ["loop.example/packetfilter/impl.fieldShapes"], apart := false, laid := [("loop.example/packetfilter/impl.fieldShapes", laid_loop_example_packetfilter_impl_fieldShapes)], narrowed := true }
def FnBoxChainUptoSaid : Prop := fnBoxChainUptoRow.holds Tryd.pinned (OpenSpec.upto fnBoxChainSpec)

/-- 'laws.FnBoxSame', WHERE WHAT IT READS IS OF BULK AT MOST 1048576: true; the input reads as it did. -/
def fnBoxSameUptoRow : OpenClaim := { program := "ytnleamfkpjnfoaadoor", sum := "3274609833809af30cdf141a6976c34cf0accf19e6f6ae07ad00c3a228869b7d", func := "loop.example/packetfilter/laws.FnBoxSame", spec := "fnBoxSame", named := ["loop.example/packetfilter/impl.fieldShapes"], apart := false, laid := [("loop.example/packetfilter/impl.fieldShapes", laid_loop_example_packetfilter_impl_fieldShapes)], narrowed := true }
def FnBoxSameUptoSaid : Prop := fnBoxSameUptoRow.holds Tryd.pinned (OpenSpec.upto fnBoxSameSpec)

/-- 'laws.FnRegionHas', WHERE WHAT IT READS IS OF BULK AT MOST 1048576: true; the input reads as it did. -/
def fnRegionHasUptoRow : OpenClaim := { program := "ytnleamfkpjnfoaadoor", sum := "3274609833809af30cdf141a6976c34cf0accf19e6f6ae07ad00c3a228869b7d", func := "loop.example/packetfilter/laws.FnRegionHas", spec := "fnRegionHas", named := ["loop.example/packetfilter/impl.fieldShapes"], apart := false, laid := [("loop.example/packetfilter/impl.fieldShapes", laid_loop_example_packetfilter_impl_fieldShapes)], narrowed := true }
def FnRegionHasUptoSaid : Prop := fnRegionHasUptoRow.holds Tryd.pinned (OpenSpec.upto fnRegionHasSpec)

/-- 'laws.FnBoxEmpty', WHERE WHAT IT READS IS OF BULK AT MOST 1048576: true; the input reads as it did. -/
def fnBoxEmptyUptoRow : OpenClaim := { program := "ytnleamfkpjnfoaadoor", sum := "3274609833809af30cdf141a6976c34cf0accf19e6f6ae07ad00c3a228869b7d", func := "loop.example/packetfilter/laws.FnBoxEmpty", spec := "fnBoxEmpty", unfollowed := true, recurses := true, named := ["loop.example/packetfilter/impl.fieldShapes"], apart := false, laid := [("loop.example/packetfilter/impl.fieldShapes", laid_loop_example_packetfilter_impl_fieldShapes)], narrowed := true }
def FnBoxEmptyUptoSaid : Prop := fnBoxEmptyUptoRow.holds Tryd.pinned (OpenSpec.upto fnBoxEmptySpec)

/-- 'laws.FnBoxMeet', WHERE WHAT IT READS IS OF BULK AT MOST 1048576: true; the input reads as it did. -/
def fnBoxMeetUptoRow : OpenClaim := { program := "ytnleamfkpjnfoaadoor", sum := "3274609833809af30cdf141a6976c34cf0accf19e6f6ae07ad00c3a228869b7d", func := "loop.example/packetfilter/laws.FnBoxMeet", spec := "fnBoxMeet", unfollowed := true, recurses := true, named := ["loop.example/packetfilter/impl.fieldShapes"], apart := false, laid := [("loop.example/packetfilter/impl.fieldShapes", laid_loop_example_packetfilter_impl_fieldShapes)], narrowed := true }
def FnBoxMeetUptoSaid : Prop := fnBoxMeetUptoRow.holds Tryd.pinned (OpenSpec.upto fnBoxMeetSpec)

end Rows
end Go.Proofs.YtnleamfkpjnfoaaDoor
