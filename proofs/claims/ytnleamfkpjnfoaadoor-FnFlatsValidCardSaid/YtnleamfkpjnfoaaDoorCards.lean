/-
  DERIVED. GIVEN WITH THE SEED: THE CARDS: each row of YtnleamfkpjnfoaaDoorRows.lean that lists a variable, with what it lists TIED to the program's text (the seventh form; the later family's looks); each row that meets fmt, with fmt's text TOLD by the authors' own Lean function (tested against real Go, not proved from fmt's source: count such statements apart). THE CARD IS WHAT COUNTS. Prove the row's statement (the work); the ties are given (YtnleamfkpjnfoaaDoorTie.lean); close each card by the builder's one call (the guide's Derived/Test/ToyasCard.lean, 'card_holds'). Laid BY PROGRAM, IN A SANDBOX (cutbox-door.mjs). By AI agents, Wed Nov 11 2026. No macro, syntax, notation, axiom, sorry.
-/
import Derived.Test.YtnleamfkpjnfoaaDoorRows
import GoSem.ClaimSeven
namespace Go.Proofs.YtnleamfkpjnfoaaDoor
namespace Rows

/-- THE TIED CARD OF 'laws.FnTestsOrder'. -/
def fnTestsOrderCard : Claim7 := { stood := { row := fnTestsOrderRow, standIns := [], harness := (true, "02133de0a3f23c14df71b1e91d2d066a93eab9b700fe0eef0b48f10022c7af62"), looks := false }, kinds := [], alts := [], laidByText := true, laidKinds := [.data], laidTests := true, laidLooks := .later }
def FnTestsOrderCardSaid : Prop := Claim7.holds Tryd.pinned (.plain (OpenSpec.ofChange fnTestsOrderSpec)) fnTestsOrderCard

/-- THE TIED CARD OF 'laws.FnRegionValid'. -/
def fnRegionValidCard : Claim7 := { stood := { row := fnRegionValidRow, standIns := [], harness := (true, "02133de0a3f23c14df71b1e91d2d066a93eab9b700fe0eef0b48f10022c7af62"), looks := false }, kinds := [], alts := [], laidByText := true, laidKinds := [.data], laidTests := true, laidLooks := .later }
def FnRegionValidCardSaid : Prop := Claim7.holds Tryd.pinned (.plain (OpenSpec.ofChange fnRegionValidSpec)) fnRegionValidCard

/-- THE TIED CARD OF 'laws.FnFlatsValid'. -/
def fnFlatsValidCard : Claim7 := { stood := { row := fnFlatsValidRow, standIns := [], harness := (true, "02133de0a3f23c14df71b1e91d2d066a93eab9b700fe0eef0b48f10022c7af62"), looks := false }, kinds := [], alts := [], laidByText := true, laidKinds := [.data], laidTests := true, laidLooks := .later }
def FnFlatsValidCardSaid : Prop := Claim7.holds Tryd.pinned (.plain (OpenSpec.ofChange fnFlatsValidSpec)) fnFlatsValidCard

/-- THE TIED CARD OF 'laws.FnTestsMore'. -/
def fnTestsMoreCard : Claim7 := { stood := { row := fnTestsMoreRow, standIns := [], harness := (true, "02133de0a3f23c14df71b1e91d2d066a93eab9b700fe0eef0b48f10022c7af62"), looks := false }, kinds := [], alts := [], laidByText := true, laidKinds := [.data], laidTests := true, laidLooks := .later }
def FnTestsMoreCardSaid : Prop := Claim7.holds Tryd.pinned (.plain (OpenSpec.ofChange fnTestsMoreSpec)) fnTestsMoreCard

/-- THE TIED CARD OF 'laws.FnTestsBox'. -/
def fnTestsBoxCard : Claim7 := { stood := { row := fnTestsBoxRow, standIns := [], harness := (true, "02133de0a3f23c14df71b1e91d2d066a93eab9b700fe0eef0b48f10022c7af62"), looks := false }, kinds := [], alts := [], laidByText := true, laidKinds := [.data], laidTests := true, laidLooks := .later }
def FnTestsBoxCardSaid : Prop := Claim7.holds Tryd.pinned (.plain (OpenSpec.ofChange fnTestsBoxSpec)) fnTestsBoxCard

/-- THE TIED CARD OF 'laws.FnBoxFirst'. -/
def fnBoxFirstCard : Claim7 := { stood := { row := fnBoxFirstRow, standIns := [], harness := (true, "02133de0a3f23c14df71b1e91d2d066a93eab9b700fe0eef0b48f10022c7af62"), looks := false }, kinds := [], alts := [], laidByText := true, laidKinds := [.data], laidTests := true, laidLooks := .later }
def FnBoxFirstCardSaid : Prop := Claim7.holds Tryd.pinned (.plain (OpenSpec.ofChange fnBoxFirstSpec)) fnBoxFirstCard

/-- THE TIED CARD OF 'laws.FnBoxHas'. -/
def fnBoxHasCard : Claim7 := { stood := { row := fnBoxHasRow, standIns := [], harness := (true, "02133de0a3f23c14df71b1e91d2d066a93eab9b700fe0eef0b48f10022c7af62"), looks := false }, kinds := [], alts := [], laidByText := true, laidKinds := [.data], laidTests := true, laidLooks := .later }
def FnBoxHasCardSaid : Prop := Claim7.holds Tryd.pinned (.plain (OpenSpec.ofChange fnBoxHasSpec)) fnBoxHasCard

/-- THE TIED CARD OF 'laws.FnBoxChain'. -/
def fnBoxChainCard : Claim7 := { stood := { row := fnBoxChainRow, standIns := [], harness := (true, "02133de0a3f23c14df71b1e91d2d066a93eab9b700fe0eef0b48f10022c7af62"), looks := false }, kinds := [], alts := [], laidByText := true, laidKinds := [.data], laidTests := true, laidLooks := .later }
def FnBoxChainCardSaid : Prop := Claim7.holds Tryd.pinned (.plain (OpenSpec.ofChange fnBoxChainSpec)) fnBoxChainCard

/-- THE TIED CARD OF 'laws.FnBoxSame'. -/
def fnBoxSameCard : Claim7 := { stood := { row := fnBoxSameRow, standIns := [], harness := (true, "02133de0a3f23c14df71b1e91d2d066a93eab9b700fe0eef0b48f10022c7af62"), looks := false }, kinds := [], alts := [], laidByText := true, laidKinds := [.data], laidTests := true, laidLooks := .later }
def FnBoxSameCardSaid : Prop := Claim7.holds Tryd.pinned (.plain (OpenSpec.ofChange fnBoxSameSpec)) fnBoxSameCard

/-- THE TIED CARD OF 'laws.FnRegionHas'. -/
def fnRegionHasCard : Claim7 := { stood := { row := fnRegionHasRow, standIns := [], harness := (true, "02133de0a3f23c14df71b1e91d2d066a93eab9b700fe0eef0b48f10022c7af62"), looks := false }, kinds := [], alts := [], laidByText := true, laidKinds := [.data], laidTests := true, laidLooks := .later }
def FnRegionHasCardSaid : Prop := Claim7.holds Tryd.pinned (.plain (OpenSpec.ofChange fnRegionHasSpec)) fnRegionHasCard

/-- THE TIED CARD OF 'laws.FnBoxEmpty'. -/
def fnBoxEmptyCard : Claim7 := { stood := { row := fnBoxEmptyRow, standIns := [], harness := (true, "02133de0a3f23c14df71b1e91d2d066a93eab9b700fe0eef0b48f10022c7af62"), looks := false }, kinds := [], alts := [], laidByText := true, laidKinds := [.data], laidTests := true, laidLooks := .later }
def FnBoxEmptyCardSaid : Prop := Claim7.holds Tryd.pinned (.plain (OpenSpec.ofChange fnBoxEmptySpec)) fnBoxEmptyCard

/-- THE TIED CARD OF 'laws.FnBoxMeet'. -/
def fnBoxMeetCard : Claim7 := { stood := { row := fnBoxMeetRow, standIns := [], harness := (true, "02133de0a3f23c14df71b1e91d2d066a93eab9b700fe0eef0b48f10022c7af62"), looks := false }, kinds := [], alts := [], laidByText := true, laidKinds := [.data], laidTests := true, laidLooks := .later }
def FnBoxMeetCardSaid : Prop := Claim7.holds Tryd.pinned (.plain (OpenSpec.ofChange fnBoxMeetSpec)) fnBoxMeetCard

/-- THE SECOND FORM's CARD OF 'laws.FnTestsOrder'. -/
def fnTestsOrderUptoCard : Claim7 := { stood := { row := fnTestsOrderUptoRow, standIns := [], harness := (true, "02133de0a3f23c14df71b1e91d2d066a93eab9b700fe0eef0b48f10022c7af62"), looks := false }, kinds := [], alts := [], laidByText := true, laidKinds := [.data], laidTests := true, laidLooks := .later }
def FnTestsOrderUptoCardSaid : Prop := Claim7.holds Tryd.pinned (.plain (OpenSpec.upto fnTestsOrderSpec)) fnTestsOrderUptoCard

/-- THE SECOND FORM's CARD OF 'laws.FnRegionValid'. -/
def fnRegionValidUptoCard : Claim7 := { stood := { row := fnRegionValidUptoRow, standIns := [], harness := (true, "02133de0a3f23c14df71b1e91d2d066a93eab9b700fe0eef0b48f10022c7af62"), looks := false }, kinds := [], alts := [], laidByText := true, laidKinds := [.data], laidTests := true, laidLooks := .later }
def FnRegionValidUptoCardSaid : Prop := Claim7.holds Tryd.pinned (.plain (OpenSpec.upto fnRegionValidSpec)) fnRegionValidUptoCard

/-- THE SECOND FORM's CARD OF 'laws.FnFlatsValid'. -/
def fnFlatsValidUptoCard : Claim7 := { stood := { row := fnFlatsValidUptoRow, standIns := [], harness := (true, "02133de0a3f23c14df71b1e91d2d066a93eab9b700fe0eef0b48f10022c7af62"), looks := false }, kinds := [], alts := [], laidByText := true, laidKinds := [.data], laidTests := true, laidLooks := .later }
def FnFlatsValidUptoCardSaid : Prop := Claim7.holds Tryd.pinned (.plain (OpenSpec.upto fnFlatsValidSpec)) fnFlatsValidUptoCard

/-- THE SECOND FORM's CARD OF 'laws.FnTestsMore'. -/
def fnTestsMoreUptoCard : Claim7 := { stood := { row := fnTestsMoreUptoRow, standIns := [], harness := (true, "02133de0a3f23c14df71b1e91d2d066a93eab9b700fe0eef0b48f10022c7af62"), looks := false }, kinds := [], alts := [], laidByText := true, laidKinds := [.data], laidTests := true, laidLooks := .later }
def FnTestsMoreUptoCardSaid : Prop := Claim7.holds Tryd.pinned (.plain (OpenSpec.upto fnTestsMoreSpec)) fnTestsMoreUptoCard

/-- THE SECOND FORM's CARD OF 'laws.FnTestsBox'. -/
def fnTestsBoxUptoCard : Claim7 := { stood := { row := fnTestsBoxUptoRow, standIns := [], harness := (true, "02133de0a3f23c14df71b1e91d2d066a93eab9b700fe0eef0b48f10022c7af62"), looks := false }, kinds := [], alts := [], laidByText := true, laidKinds := [.data], laidTests := true, laidLooks := .later }
def FnTestsBoxUptoCardSaid : Prop := Claim7.holds Tryd.pinned (.plain (OpenSpec.upto fnTestsBoxSpec)) fnTestsBoxUptoCard

/-- THE SECOND FORM's CARD OF 'laws.FnBoxFirst'. -/
def fnBoxFirstUptoCard : Claim7 := { stood := { row := fnBoxFirstUptoRow, standIns := [], harness := (true, "02133de0a3f23c14df71b1e91d2d066a93eab9b700fe0eef0b48f10022c7af62"), looks := false }, kinds := [], alts := [], laidByText := true, laidKinds := [.data], laidTests := true, laidLooks := .later }
def FnBoxFirstUptoCardSaid : Prop := Claim7.holds Tryd.pinned (.plain (OpenSpec.upto fnBoxFirstSpec)) fnBoxFirstUptoCard

/-- THE SECOND FORM's CARD OF 'laws.FnBoxHas'. -/
def fnBoxHasUptoCard : Claim7 := { stood := { row := fnBoxHasUptoRow, standIns := [], harness := (true, "02133de0a3f23c14df71b1e91d2d066a93eab9b700fe0eef0b48f10022c7af62"), looks := false }, kinds := [], alts := [], laidByText := true, laidKinds := [.data], laidTests := true, laidLooks := .later }
def FnBoxHasUptoCardSaid : Prop := Claim7.holds Tryd.pinned (.plain (OpenSpec.upto fnBoxHasSpec)) fnBoxHasUptoCard

/-- THE SECOND FORM's CARD OF 'laws.FnBoxChain'. -/
def fnBoxChainUptoCard : Claim7 := { stood := { row := fnBoxChainUptoRow, standIns := [], harness := (true, "02133de0a3f23c14df71b1e91d2d066a93eab9b700fe0eef0b48f10022c7af62"), looks := false }, kinds := [], alts := [], laidByText := true, laidKinds := [.data], laidTests := true, laidLooks := .later }
def FnBoxChainUptoCardSaid : Prop := Claim7.holds Tryd.pinned (.plain (OpenSpec.upto fnBoxChainSpec)) fnBoxChainUptoCard

/-- THE SECOND FORM's CARD OF 'laws.FnBoxSame'. -/
def fnBoxSameUptoCard : Claim7 := { stood := { row := fnBoxSameUptoRow, standIns := [], harness := (true, "02133de0a3f23c14df71b1e91d2d066a93eab9b700fe0eef0b48f10022c7af62"), looks := false }, kinds := [], alts := [], laidByText := true, laidKinds := [.data], laidTests := true, laidLooks := .later }
def FnBoxSameUptoCardSaid : Prop := Claim7.holds Tryd.pinned (.plain (OpenSpec.upto fnBoxSameSpec)) fnBoxSameUptoCard

/-- THE SECOND FORM's CARD OF 'laws.FnRegionHas'. -/
def fnRegionHasUptoCard : Claim7 := { stood := { row := fnRegionHasUptoRow, standIns := [], harness := (true, "02133de0a3f23c14df71b1e91d2d066a93eab9b700fe0eef0b48f10022c7af62"), looks := false }, kinds := [], alts := [], laidByText := true, laidKinds := [.data], laidTests := true, laidLooks := .later }
def FnRegionHasUptoCardSaid : Prop := Claim7.holds Tryd.pinned (.plain (OpenSpec.upto fnRegionHasSpec)) fnRegionHasUptoCard

/-- THE SECOND FORM's CARD OF 'laws.FnBoxEmpty'. -/
def fnBoxEmptyUptoCard : Claim7 := { stood := { row := fnBoxEmptyUptoRow, standIns := [], harness := (true, "02133de0a3f23c14df71b1e91d2d066a93eab9b700fe0eef0b48f10022c7af62"), looks := false }, kinds := [], alts := [], laidByText := true, laidKinds := [.data], laidTests := true, laidLooks := .later }
def FnBoxEmptyUptoCardSaid : Prop := Claim7.holds Tryd.pinned (.plain (OpenSpec.upto fnBoxEmptySpec)) fnBoxEmptyUptoCard

/-- THE SECOND FORM's CARD OF 'laws.FnBoxMeet'. -/
def fnBoxMeetUptoCard : Claim7 := { stood := { row := fnBoxMeetUptoRow, standIns := [], harness := (true, "02133de0a3f23c14df71b1e91d2d066a93eab9b700fe0eef0b48f10022c7af62"), looks := false }, kinds := [], alts := [], laidByText := true, laidKinds := [.data], laidTests := true, laidLooks := .later }
def FnBoxMeetUptoCardSaid : Prop := Claim7.holds Tryd.pinned (.plain (OpenSpec.upto fnBoxMeetSpec)) fnBoxMeetUptoCard
end Rows
end Go.Proofs.YtnleamfkpjnfoaaDoor
