/-
  DERIVED. GIVEN WITH THE SEED: THE CARDS: each row of YtfoodjhnagclfaaDoorRows.lean that lists a variable, with what it lists TIED to the program's text (the seventh form; the later family's looks); each row that meets fmt, with fmt's text TOLD by the authors' own Lean function (tested against real Go, not proved from fmt's source: count such statements apart). THE CARD IS WHAT COUNTS. Prove the row's statement (the work); the ties are given (YtfoodjhnagclfaaDoorTie.lean); close each card by the builder's one call (the guide's Derived/Test/ToyasCard.lean, 'card_holds'). Laid BY PROGRAM, IN A SANDBOX (cutbox-door.mjs). By AI agents, Wed Nov 11 2026. No macro, syntax, notation, axiom, sorry.
-/
import Derived.Test.YtfoodjhnagclfaaDoorRows
import GoSem.ClaimSeven
namespace Go.Proofs.YtfoodjhnagclfaaDoor
namespace Rows

/-- THE TIED CARD OF 'laws.FnExactBoxSame'. -/
def fnExactBoxSameCard : Claim7 := { stood := { row := fnExactBoxSameRow, standIns := [], harness := (true, "9976dee8b10b711281df93cc308efbd28a95e4d091973e76995f8e2623e71d10"), looks := false }, kinds := [], alts := [], laidByText := true, laidKinds := [.data], laidTests := true, laidLooks := .later }
def FnExactBoxSameCardSaid : Prop := Claim7.holds Tryd.pinned (.plain (OpenSpec.ofChange fnExactBoxSameSpec)) fnExactBoxSameCard

/-- THE TIED CARD OF 'laws.FnExactRegionHas'. -/
def fnExactRegionHasCard : Claim7 := { stood := { row := fnExactRegionHasRow, standIns := [], harness := (true, "9976dee8b10b711281df93cc308efbd28a95e4d091973e76995f8e2623e71d10"), looks := false }, kinds := [], alts := [], laidByText := true, laidKinds := [.data], laidTests := true, laidLooks := .later }
def FnExactRegionHasCardSaid : Prop := Claim7.holds Tryd.pinned (.plain (OpenSpec.ofChange fnExactRegionHasSpec)) fnExactRegionHasCard

/-- THE TIED CARD OF 'laws.FnExactBoxWithin'. -/
def fnExactBoxWithinCard : Claim7 := { stood := { row := fnExactBoxWithinRow, standIns := [], harness := (true, "9976dee8b10b711281df93cc308efbd28a95e4d091973e76995f8e2623e71d10"), looks := false }, kinds := [], alts := [], laidByText := true, laidKinds := [.data], laidTests := true, laidLooks := .later }
def FnExactBoxWithinCardSaid : Prop := Claim7.holds Tryd.pinned (.plain (OpenSpec.ofChange fnExactBoxWithinSpec)) fnExactBoxWithinCard

/-- THE TIED CARD OF 'laws.FnExactJudgeFlat'. -/
def fnExactJudgeFlatCard : Claim7 := { stood := { row := fnExactJudgeFlatRow, standIns := [], harness := (true, "9976dee8b10b711281df93cc308efbd28a95e4d091973e76995f8e2623e71d10"), looks := false }, kinds := [], alts := [], laidByText := true, laidKinds := [.data], laidTests := true, laidLooks := .later }
def FnExactJudgeFlatCardSaid : Prop := Claim7.holds Tryd.pinned (.plain (OpenSpec.ofChange fnExactJudgeFlatSpec)) fnExactJudgeFlatCard

/-- THE TIED CARD OF 'laws.FnExactRulesetValid'. -/
def fnExactRulesetValidCard : Claim7 := { stood := { row := fnExactRulesetValidRow, standIns := [], harness := (true, "9976dee8b10b711281df93cc308efbd28a95e4d091973e76995f8e2623e71d10"), looks := false }, kinds := [], alts := [], laidByText := true, laidKinds := [.data], laidTests := true, laidLooks := .later }
def FnExactRulesetValidCardSaid : Prop := Claim7.holds Tryd.pinned (.plain (OpenSpec.ofChange fnExactRulesetValidSpec)) fnExactRulesetValidCard

/-- THE TIED CARD OF 'laws.FnExactCallDepth'. -/
def fnExactCallDepthCard : Claim7 := { stood := { row := fnExactCallDepthRow, standIns := [], harness := (true, "9976dee8b10b711281df93cc308efbd28a95e4d091973e76995f8e2623e71d10"), looks := false }, kinds := [], alts := [], laidByText := true, laidKinds := [.data], laidTests := true, laidLooks := .later }
def FnExactCallDepthCardSaid : Prop := Claim7.holds Tryd.pinned (.plain (OpenSpec.ofChange fnExactCallDepthSpec)) fnExactCallDepthCard

/-- THE TIED CARD OF 'laws.FnExactJudgedBy'. -/
def fnExactJudgedByCard : Claim7 := { stood := { row := fnExactJudgedByRow, standIns := [], harness := (true, "9976dee8b10b711281df93cc308efbd28a95e4d091973e76995f8e2623e71d10"), looks := false }, kinds := [], alts := [], laidByText := true, laidKinds := [.data], laidTests := true, laidLooks := .later }
def FnExactJudgedByCardSaid : Prop := Claim7.holds Tryd.pinned (.plain (OpenSpec.ofChange fnExactJudgedBySpec)) fnExactJudgedByCard

/-- THE TIED CARD OF 'laws.FnExactJudge'. -/
def fnExactJudgeCard : Claim7 := { stood := { row := fnExactJudgeRow, standIns := [], harness := (true, "9976dee8b10b711281df93cc308efbd28a95e4d091973e76995f8e2623e71d10"), looks := false }, kinds := [], alts := [], laidByText := true, laidKinds := [.data], laidTests := true, laidLooks := .later }
def FnExactJudgeCardSaid : Prop := Claim7.holds Tryd.pinned (.plain (OpenSpec.ofChange fnExactJudgeSpec)) fnExactJudgeCard

/-- THE TIED CARD OF 'laws.FnExactJudgeAll'. -/
def fnExactJudgeAllCard : Claim7 := { stood := { row := fnExactJudgeAllRow, standIns := [], harness := (true, "9976dee8b10b711281df93cc308efbd28a95e4d091973e76995f8e2623e71d10"), looks := false }, kinds := [], alts := [], laidByText := true, laidKinds := [.data], laidTests := true, laidLooks := .later }
def FnExactJudgeAllCardSaid : Prop := Claim7.holds Tryd.pinned (.plain (OpenSpec.ofChange fnExactJudgeAllSpec)) fnExactJudgeAllCard

/-- THE TIED CARD OF 'laws.FnRuleFits'. -/
def fnRuleFitsCard : Claim7 := { stood := { row := fnRuleFitsRow, standIns := [], harness := (true, "9976dee8b10b711281df93cc308efbd28a95e4d091973e76995f8e2623e71d10"), looks := false }, kinds := [], alts := [], laidByText := true, laidKinds := [.data], laidTests := true, laidLooks := .later }
def FnRuleFitsCardSaid : Prop := Claim7.holds Tryd.pinned (.plain (OpenSpec.ofChange fnRuleFitsSpec)) fnRuleFitsCard

/-- THE TIED CARD OF 'laws.FnBoxValid'. -/
def fnBoxValidCard : Claim7 := { stood := { row := fnBoxValidRow, standIns := [], harness := (true, "9976dee8b10b711281df93cc308efbd28a95e4d091973e76995f8e2623e71d10"), looks := false }, kinds := [], alts := [], laidByText := true, laidKinds := [.data], laidTests := true, laidLooks := .later }
def FnBoxValidCardSaid : Prop := Claim7.holds Tryd.pinned (.plain (OpenSpec.ofChange fnBoxValidSpec)) fnBoxValidCard

/-- THE TIED CARD OF 'laws.FnFirstFit'. -/
def fnFirstFitCard : Claim7 := { stood := { row := fnFirstFitRow, standIns := [], harness := (true, "9976dee8b10b711281df93cc308efbd28a95e4d091973e76995f8e2623e71d10"), looks := false }, kinds := [], alts := [], laidByText := true, laidKinds := [.data], laidTests := true, laidLooks := .later }
def FnFirstFitCardSaid : Prop := Claim7.holds Tryd.pinned (.plain (OpenSpec.ofChange fnFirstFitSpec)) fnFirstFitCard

/-- THE SECOND FORM's CARD OF 'laws.FnExactBoxSame'. -/
def fnExactBoxSameUptoCard : Claim7 := { stood := { row := fnExactBoxSameUptoRow, standIns := [], harness := (true, "9976dee8b10b711281df93cc308efbd28a95e4d091973e76995f8e2623e71d10"), looks := false }, kinds := [], alts := [], laidByText := true, laidKinds := [.data], laidTests := true, laidLooks := .later }
def FnExactBoxSameUptoCardSaid : Prop := Claim7.holds Tryd.pinned (.plain (OpenSpec.upto fnExactBoxSameSpec)) fnExactBoxSameUptoCard

/-- THE SECOND FORM's CARD OF 'laws.FnExactRegionHas'. -/
def fnExactRegionHasUptoCard : Claim7 := { stood := { row := fnExactRegionHasUptoRow, standIns := [], harness := (true, "9976dee8b10b711281df93cc308efbd28a95e4d091973e76995f8e2623e71d10"), looks := false }, kinds := [], alts := [], laidByText := true, laidKinds := [.data], laidTests := true, laidLooks := .later }
def FnExactRegionHasUptoCardSaid : Prop := Claim7.holds Tryd.pinned (.plain (OpenSpec.upto fnExactRegionHasSpec)) fnExactRegionHasUptoCard

/-- THE SECOND FORM's CARD OF 'laws.FnExactBoxWithin'. -/
def fnExactBoxWithinUptoCard : Claim7 := { stood := { row := fnExactBoxWithinUptoRow, standIns := [], harness := (true, "9976dee8b10b711281df93cc308efbd28a95e4d091973e76995f8e2623e71d10"), looks := false }, kinds := [], alts := [], laidByText := true, laidKinds := [.data], laidTests := true, laidLooks := .later }
def FnExactBoxWithinUptoCardSaid : Prop := Claim7.holds Tryd.pinned (.plain (OpenSpec.upto fnExactBoxWithinSpec)) fnExactBoxWithinUptoCard

/-- THE SECOND FORM's CARD OF 'laws.FnExactJudgeFlat'. -/
def fnExactJudgeFlatUptoCard : Claim7 := { stood := { row := fnExactJudgeFlatUptoRow, standIns := [], harness := (true, "9976dee8b10b711281df93cc308efbd28a95e4d091973e76995f8e2623e71d10"), looks := false }, kinds := [], alts := [], laidByText := true, laidKinds := [.data], laidTests := true, laidLooks := .later }
def FnExactJudgeFlatUptoCardSaid : Prop := Claim7.holds Tryd.pinned (.plain (OpenSpec.upto fnExactJudgeFlatSpec)) fnExactJudgeFlatUptoCard

/-- THE SECOND FORM's CARD OF 'laws.FnExactRulesetValid'. -/
def fnExactRulesetValidUptoCard : Claim7 := { stood := { row := fnExactRulesetValidUptoRow, standIns := [], harness := (true, "9976dee8b10b711281df93cc308efbd28a95e4d091973e76995f8e2623e71d10"), looks := false }, kinds := [], alts := [], laidByText := true, laidKinds := [.data], laidTests := true, laidLooks := .later }
def FnExactRulesetValidUptoCardSaid : Prop := Claim7.holds Tryd.pinned (.plain (OpenSpec.upto fnExactRulesetValidSpec)) fnExactRulesetValidUptoCard

/-- THE SECOND FORM's CARD OF 'laws.FnExactCallDepth'. -/
def fnExactCallDepthUptoCard : Claim7 := { stood := { row := fnExactCallDepthUptoRow, standIns := [], harness := (true, "9976dee8b10b711281df93cc308efbd28a95e4d091973e76995f8e2623e71d10"), looks := false }, kinds := [], alts := [], laidByText := true, laidKinds := [.data], laidTests := true, laidLooks := .later }
def FnExactCallDepthUptoCardSaid : Prop := Claim7.holds Tryd.pinned (.plain (OpenSpec.upto fnExactCallDepthSpec)) fnExactCallDepthUptoCard

/-- THE SECOND FORM's CARD OF 'laws.FnExactJudgedBy'. -/
def fnExactJudgedByUptoCard : Claim7 := { stood := { row := fnExactJudgedByUptoRow, standIns := [], harness := (true, "9976dee8b10b711281df93cc308efbd28a95e4d091973e76995f8e2623e71d10"), looks := false }, kinds := [], alts := [], laidByText := true, laidKinds := [.data], laidTests := true, laidLooks := .later }
def FnExactJudgedByUptoCardSaid : Prop := Claim7.holds Tryd.pinned (.plain (OpenSpec.upto fnExactJudgedBySpec)) fnExactJudgedByUptoCard

/-- THE SECOND FORM's CARD OF 'laws.FnExactJudge'. -/
def fnExactJudgeUptoCard : Claim7 := { stood := { row := fnExactJudgeUptoRow, standIns := [], harness := (true, "9976dee8b10b711281df93cc308efbd28a95e4d091973e76995f8e2623e71d10"), looks := false }, kinds := [], alts := [], laidByText := true, laidKinds := [.data], laidTests := true, laidLooks := .later }
def FnExactJudgeUptoCardSaid : Prop := Claim7.holds Tryd.pinned (.plain (OpenSpec.upto fnExactJudgeSpec)) fnExactJudgeUptoCard

/-- THE SECOND FORM's CARD OF 'laws.FnExactJudgeAll'. -/
def fnExactJudgeAllUptoCard : Claim7 := { stood := { row := fnExactJudgeAllUptoRow, standIns := [], harness := (true, "9976dee8b10b711281df93cc308efbd28a95e4d091973e76995f8e2623e71d10"), looks := false }, kinds := [], alts := [], laidByText := true, laidKinds := [.data], laidTests := true, laidLooks := .later }
def FnExactJudgeAllUptoCardSaid : Prop := Claim7.holds Tryd.pinned (.plain (OpenSpec.upto fnExactJudgeAllSpec)) fnExactJudgeAllUptoCard

/-- THE SECOND FORM's CARD OF 'laws.FnRuleFits'. -/
def fnRuleFitsUptoCard : Claim7 := { stood := { row := fnRuleFitsUptoRow, standIns := [], harness := (true, "9976dee8b10b711281df93cc308efbd28a95e4d091973e76995f8e2623e71d10"), looks := false }, kinds := [], alts := [], laidByText := true, laidKinds := [.data], laidTests := true, laidLooks := .later }
def FnRuleFitsUptoCardSaid : Prop := Claim7.holds Tryd.pinned (.plain (OpenSpec.upto fnRuleFitsSpec)) fnRuleFitsUptoCard

/-- THE SECOND FORM's CARD OF 'laws.FnBoxValid'. -/
def fnBoxValidUptoCard : Claim7 := { stood := { row := fnBoxValidUptoRow, standIns := [], harness := (true, "9976dee8b10b711281df93cc308efbd28a95e4d091973e76995f8e2623e71d10"), looks := false }, kinds := [], alts := [], laidByText := true, laidKinds := [.data], laidTests := true, laidLooks := .later }
def FnBoxValidUptoCardSaid : Prop := Claim7.holds Tryd.pinned (.plain (OpenSpec.upto fnBoxValidSpec)) fnBoxValidUptoCard

/-- THE SECOND FORM's CARD OF 'laws.FnFirstFit'. -/
def fnFirstFitUptoCard : Claim7 := { stood := { row := fnFirstFitUptoRow, standIns := [], harness := (true, "9976dee8b10b711281df93cc308efbd28a95e4d091973e76995f8e2623e71d10"), looks := false }, kinds := [], alts := [], laidByText := true, laidKinds := [.data], laidTests := true, laidLooks := .later }
def FnFirstFitUptoCardSaid : Prop := Claim7.holds Tryd.pinned (.plain (OpenSpec.upto fnFirstFitSpec)) fnFirstFitUptoCard
end Rows
end Go.Proofs.YtfoodjhnagclfaaDoor
