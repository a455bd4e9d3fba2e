/-
  DERIVED. GIVEN WITH THE SEED: THE CARDS: each row of YtadlmencjbangaaDoorRows.lean that lists a variable, with what it lists TIED to the program's text (the seventh form; the later family's looks); each row that meets fmt, with fmt's text TOLD by the authors' own Lean function (tested against real Go, not proved from fmt's source: count such statements apart). THE CARD IS WHAT COUNTS. Prove the row's statement (the work); the ties are given (YtadlmencjbangaaDoorTie.lean); close each card by the builder's one call (the guide's Derived/Test/ToyasCard.lean, 'card_holds'). Laid BY PROGRAM, IN A SANDBOX (cutbox-door.mjs). By AI agents, Wed Nov 11 2026. No macro, syntax, notation, axiom, sorry.
-/
import Derived.Test.YtadlmencjbangaaDoorRows
import GoSem.ClaimSeven
namespace Go.Proofs.YtadlmencjbangaaDoor
namespace Rows

/-- THE TIED CARD OF 'laws.FnBoxCut'. -/
def fnBoxCutCard : Claim7 := { stood := { row := fnBoxCutRow, standIns := [], harness := (true, "66add90f175d5f2066b0f54f792405a42e2a2ad9be0eb91f0aa6c877a4da5197"), looks := false }, kinds := [], alts := [], laidByText := true, laidKinds := [.data], laidTests := true, laidLooks := .later }
def FnBoxCutCardSaid : Prop := Claim7.holds Tryd.pinned (.plain (OpenSpec.ofChange fnBoxCutSpec)) fnBoxCutCard

/-- THE TIED CARD OF 'laws.FnRegionLess'. -/
def fnRegionLessCard : Claim7 := { stood := { row := fnRegionLessRow, standIns := [], harness := (true, "66add90f175d5f2066b0f54f792405a42e2a2ad9be0eb91f0aa6c877a4da5197"), looks := false }, kinds := [], alts := [], laidByText := true, laidKinds := [.data], laidTests := true, laidLooks := .later }
def FnRegionLessCardSaid : Prop := Claim7.holds Tryd.pinned (.plain (OpenSpec.ofChange fnRegionLessSpec)) fnRegionLessCard

/-- THE TIED CARD OF 'laws.FnRegionOrder'. -/
def fnRegionOrderCard : Claim7 := { stood := { row := fnRegionOrderRow, standIns := [], harness := (true, "66add90f175d5f2066b0f54f792405a42e2a2ad9be0eb91f0aa6c877a4da5197"), looks := false }, kinds := [], alts := [], laidByText := true, laidKinds := [.data], laidTests := true, laidLooks := .later }
def FnRegionOrderCardSaid : Prop := Claim7.holds Tryd.pinned (.plain (OpenSpec.ofChange fnRegionOrderSpec)) fnRegionOrderCard

/-- THE TIED CARD OF 'laws.FnRegionMore'. -/
def fnRegionMoreCard : Claim7 := { stood := { row := fnRegionMoreRow, standIns := [], harness := (true, "66add90f175d5f2066b0f54f792405a42e2a2ad9be0eb91f0aa6c877a4da5197"), looks := false }, kinds := [], alts := [], laidByText := true, laidKinds := [.data], laidTests := true, laidLooks := .later }
def FnRegionMoreCardSaid : Prop := Claim7.holds Tryd.pinned (.plain (OpenSpec.ofChange fnRegionMoreSpec)) fnRegionMoreCard

/-- THE TIED CARD OF 'laws.FnExactJudgeFlat'. -/
def fnExactJudgeFlatCard : Claim7 := { stood := { row := fnExactJudgeFlatRow, standIns := [], harness := (true, "66add90f175d5f2066b0f54f792405a42e2a2ad9be0eb91f0aa6c877a4da5197"), looks := false }, kinds := [], alts := [], laidByText := true, laidKinds := [.data], laidTests := true, laidLooks := .later }
def FnExactJudgeFlatCardSaid : Prop := Claim7.holds Tryd.pinned (.plain (OpenSpec.ofChange fnExactJudgeFlatSpec)) fnExactJudgeFlatCard

/-- THE SECOND FORM's CARD OF 'laws.FnBoxCut'. -/
def fnBoxCutUptoCard : Claim7 := { stood := { row := fnBoxCutUptoRow, standIns := [], harness := (true, "66add90f175d5f2066b0f54f792405a42e2a2ad9be0eb91f0aa6c877a4da5197"), looks := false }, kinds := [], alts := [], laidByText := true, laidKinds := [.data], laidTests := true, laidLooks := .later }
def FnBoxCutUptoCardSaid : Prop := Claim7.holds Tryd.pinned (.plain (OpenSpec.upto fnBoxCutSpec)) fnBoxCutUptoCard

/-- THE SECOND FORM's CARD OF 'laws.FnRegionLess'. -/
def fnRegionLessUptoCard : Claim7 := { stood := { row := fnRegionLessUptoRow, standIns := [], harness := (true, "66add90f175d5f2066b0f54f792405a42e2a2ad9be0eb91f0aa6c877a4da5197"), looks := false }, kinds := [], alts := [], laidByText := true, laidKinds := [.data], laidTests := true, laidLooks := .later }
def FnRegionLessUptoCardSaid : Prop := Claim7.holds Tryd.pinned (.plain (OpenSpec.upto fnRegionLessSpec)) fnRegionLessUptoCard

/-- THE SECOND FORM's CARD OF 'laws.FnRegionOrder'. -/
def fnRegionOrderUptoCard : Claim7 := { stood := { row := fnRegionOrderUptoRow, standIns := [], harness := (true, "66add90f175d5f2066b0f54f792405a42e2a2ad9be0eb91f0aa6c877a4da5197"), looks := false }, kinds := [], alts := [], laidByText := true, laidKinds := [.data], laidTests := true, laidLooks := .later }
def FnRegionOrderUptoCardSaid : Prop := Claim7.holds Tryd.pinned (.plain (OpenSpec.upto fnRegionOrderSpec)) fnRegionOrderUptoCard

/-- THE SECOND FORM's CARD OF 'laws.FnRegionMore'. -/
def fnRegionMoreUptoCard : Claim7 := { stood := { row := fnRegionMoreUptoRow, standIns := [], harness := (true, "66add90f175d5f2066b0f54f792405a42e2a2ad9be0eb91f0aa6c877a4da5197"), looks := false }, kinds := [], alts := [], laidByText := true, laidKinds := [.data], laidTests := true, laidLooks := .later }
def FnRegionMoreUptoCardSaid : Prop := Claim7.holds Tryd.pinned (.plain (OpenSpec.upto fnRegionMoreSpec)) fnRegionMoreUptoCard

/-- THE SECOND FORM's CARD OF 'laws.FnExactJudgeFlat'. -/
def fnExactJudgeFlatUptoCard : Claim7 := { stood := { row := fnExactJudgeFlatUptoRow, standIns := [], harness := (true, "66add90f175d5f2066b0f54f792405a42e2a2ad9be0eb91f0aa6c877a4da5197"), looks := false }, kinds := [], alts := [], laidByText := true, laidKinds := [.data], laidTests := true, laidLooks := .later }
def FnExactJudgeFlatUptoCardSaid : Prop := Claim7.holds Tryd.pinned (.plain (OpenSpec.upto fnExactJudgeFlatSpec)) fnExactJudgeFlatUptoCard
end Rows
end Go.Proofs.YtadlmencjbangaaDoor
