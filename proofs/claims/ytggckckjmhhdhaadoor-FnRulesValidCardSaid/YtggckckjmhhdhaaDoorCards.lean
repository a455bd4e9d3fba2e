/-
  DERIVED. GIVEN WITH THE SEED: THE CARDS: each row of YtggckckjmhhdhaaDoorRows.lean that lists a variable, with what it lists TIED to the program's text (the seventh form; the later family's looks); each row that meets fmt, with fmt's text TOLD by the authors' own Lean function (tested against real Go, not proved from fmt's source: count such statements apart). THE CARD IS WHAT COUNTS. Prove the row's statement (the work); the ties are given (YtggckckjmhhdhaaDoorTie.lean); close each card by the builder's one call (the guide's Derived/Test/ToyasCard.lean, 'card_holds'). Laid BY PROGRAM, IN A SANDBOX (cutbox-door.mjs). By AI agents, Wed Nov 11 2026. No macro, syntax, notation, axiom, sorry.
-/
import Derived.Test.YtggckckjmhhdhaaDoorRows
import GoSem.ClaimSeven
namespace Go.Proofs.YtggckckjmhhdhaaDoor
namespace Rows

/-- THE TIED CARD OF 'laws.FnExactBoxAll'. -/
def fnExactBoxAllCard : Claim7 := { stood := { row := fnExactBoxAllRow, standIns := [], harness := (true, "0e802e976b8506e24131a0461791812f3c731afb1ff2caa43d232662c8c2c3af"), looks := false }, kinds := [], alts := [], laidByText := true, laidKinds := [.data], laidTests := true, laidLooks := .later }
def FnExactBoxAllCardSaid : Prop := Claim7.holds Tryd.pinned (.plain (OpenSpec.ofChange fnExactBoxAllSpec)) fnExactBoxAllCard

/-- THE TIED CARD OF 'laws.FnExactBoxValid'. -/
def fnExactBoxValidCard : Claim7 := { stood := { row := fnExactBoxValidRow, standIns := [], harness := (true, "0e802e976b8506e24131a0461791812f3c731afb1ff2caa43d232662c8c2c3af"), looks := false }, kinds := [], alts := [], laidByText := true, laidKinds := [.data], laidTests := true, laidLooks := .later }
def FnExactBoxValidCardSaid : Prop := Claim7.holds Tryd.pinned (.plain (OpenSpec.ofChange fnExactBoxValidSpec)) fnExactBoxValidCard

/-- THE TIED CARD OF 'laws.FnExactBoxEmpty'. -/
def fnExactBoxEmptyCard : Claim7 := { stood := { row := fnExactBoxEmptyRow, standIns := [], harness := (true, "0e802e976b8506e24131a0461791812f3c731afb1ff2caa43d232662c8c2c3af"), looks := false }, kinds := [], alts := [], laidByText := true, laidKinds := [.data], laidTests := true, laidLooks := .later }
def FnExactBoxEmptyCardSaid : Prop := Claim7.holds Tryd.pinned (.plain (OpenSpec.ofChange fnExactBoxEmptySpec)) fnExactBoxEmptyCard

/-- THE TIED CARD OF 'laws.FnBoxAll'. -/
def fnBoxAllCard : Claim7 := { stood := { row := fnBoxAllRow, standIns := [], harness := (true, "0e802e976b8506e24131a0461791812f3c731afb1ff2caa43d232662c8c2c3af"), looks := false }, kinds := [], alts := [], laidByText := true, laidKinds := [.data], laidTests := true, laidLooks := .later }
def FnBoxAllCardSaid : Prop := Claim7.holds Tryd.pinned (.plain (OpenSpec.ofChange fnBoxAllSpec)) fnBoxAllCard

/-- THE TIED CARD OF 'laws.FnExactRuleFits'. -/
def fnExactRuleFitsCard : Claim7 := { stood := { row := fnExactRuleFitsRow, standIns := [], harness := (true, "0e802e976b8506e24131a0461791812f3c731afb1ff2caa43d232662c8c2c3af"), looks := false }, kinds := [], alts := [], laidByText := true, laidKinds := [.data], laidTests := true, laidLooks := .later }
def FnExactRuleFitsCardSaid : Prop := Claim7.holds Tryd.pinned (.plain (OpenSpec.ofChange fnExactRuleFitsSpec)) fnExactRuleFitsCard

/-- THE TIED CARD OF 'laws.FnRulesValid'. -/
def fnRulesValidCard : Claim7 := { stood := { row := fnRulesValidRow, standIns := [], harness := (true, "0e802e976b8506e24131a0461791812f3c731afb1ff2caa43d232662c8c2c3af"), looks := false }, kinds := [], alts := [], laidByText := true, laidKinds := [.data], laidTests := true, laidLooks := .later }
def FnRulesValidCardSaid : Prop := Claim7.holds Tryd.pinned (.plain (OpenSpec.ofChange fnRulesValidSpec)) fnRulesValidCard

/-- THE TIED CARD OF 'laws.FnExactRegionValid'. -/
def fnExactRegionValidCard : Claim7 := { stood := { row := fnExactRegionValidRow, standIns := [], harness := (true, "0e802e976b8506e24131a0461791812f3c731afb1ff2caa43d232662c8c2c3af"), looks := false }, kinds := [], alts := [], laidByText := true, laidKinds := [.data], laidTests := true, laidLooks := .later }
def FnExactRegionValidCardSaid : Prop := Claim7.holds Tryd.pinned (.plain (OpenSpec.ofChange fnExactRegionValidSpec)) fnExactRegionValidCard

/-- THE TIED CARD OF 'laws.FnRegionMore'. -/
def fnRegionMoreCard : Claim7 := { stood := { row := fnRegionMoreRow, standIns := [], harness := (true, "0e802e976b8506e24131a0461791812f3c731afb1ff2caa43d232662c8c2c3af"), looks := false }, kinds := [], alts := [], laidByText := true, laidKinds := [.data], laidTests := true, laidLooks := .later }
def FnRegionMoreCardSaid : Prop := Claim7.holds Tryd.pinned (.plain (OpenSpec.ofChange fnRegionMoreSpec)) fnRegionMoreCard

/-- THE TIED CARD OF 'laws.FnExactBoxHas'. -/
def fnExactBoxHasCard : Claim7 := { stood := { row := fnExactBoxHasRow, standIns := [], harness := (true, "0e802e976b8506e24131a0461791812f3c731afb1ff2caa43d232662c8c2c3af"), looks := false }, kinds := [], alts := [], laidByText := true, laidKinds := [.data], laidTests := true, laidLooks := .later }
def FnExactBoxHasCardSaid : Prop := Claim7.holds Tryd.pinned (.plain (OpenSpec.ofChange fnExactBoxHasSpec)) fnExactBoxHasCard

/-- THE TIED CARD OF 'laws.FnExactBoxFirst'. -/
def fnExactBoxFirstCard : Claim7 := { stood := { row := fnExactBoxFirstRow, standIns := [], harness := (true, "0e802e976b8506e24131a0461791812f3c731afb1ff2caa43d232662c8c2c3af"), looks := false }, kinds := [], alts := [], laidByText := true, laidKinds := [.data], laidTests := true, laidLooks := .later }
def FnExactBoxFirstCardSaid : Prop := Claim7.holds Tryd.pinned (.plain (OpenSpec.ofChange fnExactBoxFirstSpec)) fnExactBoxFirstCard

/-- THE TIED CARD OF 'laws.FnExactFlatsValid'. -/
def fnExactFlatsValidCard : Claim7 := { stood := { row := fnExactFlatsValidRow, standIns := [], harness := (true, "0e802e976b8506e24131a0461791812f3c731afb1ff2caa43d232662c8c2c3af"), looks := false }, kinds := [], alts := [], laidByText := true, laidKinds := [.data], laidTests := true, laidLooks := .later }
def FnExactFlatsValidCardSaid : Prop := Claim7.holds Tryd.pinned (.plain (OpenSpec.ofChange fnExactFlatsValidSpec)) fnExactFlatsValidCard

/-- THE TIED CARD OF 'laws.FnExactFirstFit'. -/
def fnExactFirstFitCard : Claim7 := { stood := { row := fnExactFirstFitRow, standIns := [], harness := (true, "0e802e976b8506e24131a0461791812f3c731afb1ff2caa43d232662c8c2c3af"), looks := false }, kinds := [], alts := [], laidByText := true, laidKinds := [.data], laidTests := true, laidLooks := .later }
def FnExactFirstFitCardSaid : Prop := Claim7.holds Tryd.pinned (.plain (OpenSpec.ofChange fnExactFirstFitSpec)) fnExactFirstFitCard

/-- THE SECOND FORM's CARD OF 'laws.FnExactBoxAll'. -/
def fnExactBoxAllUptoCard : Claim7 := { stood := { row := fnExactBoxAllUptoRow, standIns := [], harness := (true, "0e802e976b8506e24131a0461791812f3c731afb1ff2caa43d232662c8c2c3af"), looks := false }, kinds := [], alts := [], laidByText := true, laidKinds := [.data], laidTests := true, laidLooks := .later }
def FnExactBoxAllUptoCardSaid : Prop := Claim7.holds Tryd.pinned (.plain (OpenSpec.upto fnExactBoxAllSpec)) fnExactBoxAllUptoCard

/-- THE SECOND FORM's CARD OF 'laws.FnExactBoxValid'. -/
def fnExactBoxValidUptoCard : Claim7 := { stood := { row := fnExactBoxValidUptoRow, standIns := [], harness := (true, "0e802e976b8506e24131a0461791812f3c731afb1ff2caa43d232662c8c2c3af"), looks := false }, kinds := [], alts := [], laidByText := true, laidKinds := [.data], laidTests := true, laidLooks := .later }
def FnExactBoxValidUptoCardSaid : Prop := Claim7.holds Tryd.pinned (.plain (OpenSpec.upto fnExactBoxValidSpec)) fnExactBoxValidUptoCard

/-- THE SECOND FORM's CARD OF 'laws.FnExactBoxEmpty'. -/
def fnExactBoxEmptyUptoCard : Claim7 := { stood := { row := fnExactBoxEmptyUptoRow, standIns := [], harness := (true, "0e802e976b8506e24131a0461791812f3c731afb1ff2caa43d232662c8c2c3af"), looks := false }, kinds := [], alts := [], laidByText := true, laidKinds := [.data], laidTests := true, laidLooks := .later }
def FnExactBoxEmptyUptoCardSaid : Prop := Claim7.holds Tryd.pinned (.plain (OpenSpec.upto fnExactBoxEmptySpec)) fnExactBoxEmptyUptoCard

/-- THE SECOND FORM's CARD OF 'laws.FnBoxAll'. -/
def fnBoxAllUptoCard : Claim7 := { stood := { row := fnBoxAllUptoRow, standIns := [], harness := (true, "0e802e976b8506e24131a0461791812f3c731afb1ff2caa43d232662c8c2c3af"), looks := false }, kinds := [], alts := [], laidByText := true, laidKinds := [.data], laidTests := true, laidLooks := .later }
def FnBoxAllUptoCardSaid : Prop := Claim7.holds Tryd.pinned (.plain (OpenSpec.upto fnBoxAllSpec)) fnBoxAllUptoCard

/-- THE SECOND FORM's CARD OF 'laws.FnExactRuleFits'. -/
def fnExactRuleFitsUptoCard : Claim7 := { stood := { row := fnExactRuleFitsUptoRow, standIns := [], harness := (true, "0e802e976b8506e24131a0461791812f3c731afb1ff2caa43d232662c8c2c3af"), looks := false }, kinds := [], alts := [], laidByText := true, laidKinds := [.data], laidTests := true, laidLooks := .later }
def FnExactRuleFitsUptoCardSaid : Prop := Claim7.holds Tryd.pinned (.plain (OpenSpec.upto fnExactRuleFitsSpec)) fnExactRuleFitsUptoCard

/-- THE SECOND FORM's CARD OF 'laws.FnRulesValid'. -/
def fnRulesValidUptoCard : Claim7 := { stood := { row := fnRulesValidUptoRow, standIns := [], harness := (true, "0e802e976b8506e24131a0461791812f3c731afb1ff2caa43d232662c8c2c3af"), looks := false }, kinds := [], alts := [], laidByText := true, laidKinds := [.data], laidTests := true, laidLooks := .later }
def FnRulesValidUptoCardSaid : Prop := Claim7.holds Tryd.pinned (.plain (OpenSpec.upto fnRulesValidSpec)) fnRulesValidUptoCard

/-- THE SECOND FORM's CARD OF 'laws.FnExactRegionValid'. -/
def fnExactRegionValidUptoCard : Claim7 := { stood := { row := fnExactRegionValidUptoRow, standIns := [], harness := (true, "0e802e976b8506e24131a0461791812f3c731afb1ff2caa43d232662c8c2c3af"), looks := false }, kinds := [], alts := [], laidByText := true, laidKinds := [.data], laidTests := true, laidLooks := .later }
def FnExactRegionValidUptoCardSaid : Prop := Claim7.holds Tryd.pinned (.plain (OpenSpec.upto fnExactRegionValidSpec)) fnExactRegionValidUptoCard

/-- THE SECOND FORM's CARD OF 'laws.FnRegionMore'. -/
def fnRegionMoreUptoCard : Claim7 := { stood := { row := fnRegionMoreUptoRow, standIns := [], harness := (true, "0e802e976b8506e24131a0461791812f3c731afb1ff2caa43d232662c8c2c3af"), looks := false }, kinds := [], alts := [], laidByText := true, laidKinds := [.data], laidTests := true, laidLooks := .later }
def FnRegionMoreUptoCardSaid : Prop := Claim7.holds Tryd.pinned (.plain (OpenSpec.upto fnRegionMoreSpec)) fnRegionMoreUptoCard

/-- THE SECOND FORM's CARD OF 'laws.FnExactBoxHas'. -/
def fnExactBoxHasUptoCard : Claim7 := { stood := { row := fnExactBoxHasUptoRow, standIns := [], harness := (true, "0e802e976b8506e24131a0461791812f3c731afb1ff2caa43d232662c8c2c3af"), looks := false }, kinds := [], alts := [], laidByText := true, laidKinds := [.data], laidTests := true, laidLooks := .later }
def FnExactBoxHasUptoCardSaid : Prop := Claim7.holds Tryd.pinned (.plain (OpenSpec.upto fnExactBoxHasSpec)) fnExactBoxHasUptoCard

/-- THE SECOND FORM's CARD OF 'laws.FnExactBoxFirst'. -/
def fnExactBoxFirstUptoCard : Claim7 := { stood := { row := fnExactBoxFirstUptoRow, standIns := [], harness := (true, "0e802e976b8506e24131a0461791812f3c731afb1ff2caa43d232662c8c2c3af"), looks := false }, kinds := [], alts := [], laidByText := true, laidKinds := [.data], laidTests := true, laidLooks := .later }
def FnExactBoxFirstUptoCardSaid : Prop := Claim7.holds Tryd.pinned (.plain (OpenSpec.upto fnExactBoxFirstSpec)) fnExactBoxFirstUptoCard

/-- THE SECOND FORM's CARD OF 'laws.FnExactFlatsValid'. -/
def fnExactFlatsValidUptoCard : Claim7 := { stood := { row := fnExactFlatsValidUptoRow, standIns := [], harness := (true, "0e802e976b8506e24131a0461791812f3c731afb1ff2caa43d232662c8c2c3af"), looks := false }, kinds := [], alts := [], laidByText := true, laidKinds := [.data], laidTests := true, laidLooks := .later }
def FnExactFlatsValidUptoCardSaid : Prop := Claim7.holds Tryd.pinned (.plain (OpenSpec.upto fnExactFlatsValidSpec)) fnExactFlatsValidUptoCard

/-- THE SECOND FORM's CARD OF 'laws.FnExactFirstFit'. -/
def fnExactFirstFitUptoCard : Claim7 := { stood := { row := fnExactFirstFitUptoRow, standIns := [], harness := (true, "0e802e976b8506e24131a0461791812f3c731afb1ff2caa43d232662c8c2c3af"), looks := false }, kinds := [], alts := [], laidByText := true, laidKinds := [.data], laidTests := true, laidLooks := .later }
def FnExactFirstFitUptoCardSaid : Prop := Claim7.holds Tryd.pinned (.plain (OpenSpec.upto fnExactFirstFitSpec)) fnExactFirstFitUptoCard
end Rows
end Go.Proofs.YtggckckjmhhdhaaDoor
