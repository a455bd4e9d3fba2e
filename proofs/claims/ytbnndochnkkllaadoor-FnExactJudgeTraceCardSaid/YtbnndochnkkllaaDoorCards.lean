/-
  DERIVED. GIVEN WITH THE SEED: THE CARDS: each row of YtbnndochnkkllaaDoorRows.lean that lists a variable, with what it lists TIED to the program's text (the seventh form; the later family's looks); each row that meets fmt, with fmt's text TOLD by the authors' own Lean function (tested against real Go, not proved from fmt's source: count such statements apart). THE CARD IS WHAT COUNTS. Prove the row's statement (the work); the ties are given (YtbnndochnkkllaaDoorTie.lean); close each card by the builder's one call (the guide's Derived/Test/ToyasCard.lean, 'card_holds'). Laid BY PROGRAM, IN A SANDBOX (cutbox-door.mjs). By AI agents, Wed Nov 11 2026. No macro, syntax, notation, axiom, sorry.
-/
import Derived.Test.YtbnndochnkkllaaDoorRows
import GoSem.ClaimSeven
namespace Go.Proofs.YtbnndochnkkllaaDoor
namespace Rows

/-- THE TIED CARD OF 'laws.FnJudge'. -/
def fnJudgeCard : Claim7 := { stood := { row := fnJudgeRow, standIns := [], harness := (true, "64c432969ee5cb7c0e5aaaf703873408fd1b233c1e05e0ebde8e920e729a22df"), looks := false }, kinds := [], alts := [], laidByText := true, laidKinds := [.data], laidTests := true, laidLooks := .later }
def FnJudgeCardSaid : Prop := Claim7.holds Tryd.pinned (.plain (OpenSpec.ofChange fnJudgeSpec)) fnJudgeCard

/-- THE TIED CARD OF 'laws.FnChainUnused'. -/
def fnChainUnusedCard : Claim7 := { stood := { row := fnChainUnusedRow, standIns := [], harness := (true, "64c432969ee5cb7c0e5aaaf703873408fd1b233c1e05e0ebde8e920e729a22df"), looks := false }, kinds := [], alts := [], laidByText := true, laidKinds := [.data], laidTests := true, laidLooks := .later }
def FnChainUnusedCardSaid : Prop := Claim7.holds Tryd.pinned (.plain (OpenSpec.ofChange fnChainUnusedSpec)) fnChainUnusedCard

/-- THE TIED CARD OF 'laws.FnExactBoxTests'. -/
def fnExactBoxTestsCard : Claim7 := { stood := { row := fnExactBoxTestsRow, standIns := [], harness := (true, "64c432969ee5cb7c0e5aaaf703873408fd1b233c1e05e0ebde8e920e729a22df"), looks := false }, kinds := [], alts := [], laidByText := true, laidKinds := [.data], laidTests := true, laidLooks := .later }
def FnExactBoxTestsCardSaid : Prop := Claim7.holds Tryd.pinned (.plain (OpenSpec.ofChange fnExactBoxTestsSpec)) fnExactBoxTestsCard

/-- THE TIED CARD OF 'laws.FnExactBoxMeet'. -/
def fnExactBoxMeetCard : Claim7 := { stood := { row := fnExactBoxMeetRow, standIns := [], harness := (true, "64c432969ee5cb7c0e5aaaf703873408fd1b233c1e05e0ebde8e920e729a22df"), looks := false }, kinds := [], alts := [], laidByText := true, laidKinds := [.data], laidTests := true, laidLooks := .later }
def FnExactBoxMeetCardSaid : Prop := Claim7.holds Tryd.pinned (.plain (OpenSpec.ofChange fnExactBoxMeetSpec)) fnExactBoxMeetCard

/-- THE TIED CARD OF 'laws.FnExactTestsBox'. -/
def fnExactTestsBoxCard : Claim7 := { stood := { row := fnExactTestsBoxRow, standIns := [], harness := (true, "64c432969ee5cb7c0e5aaaf703873408fd1b233c1e05e0ebde8e920e729a22df"), looks := false }, kinds := [], alts := [], laidByText := true, laidKinds := [.data], laidTests := true, laidLooks := .later }
def FnExactTestsBoxCardSaid : Prop := Claim7.holds Tryd.pinned (.plain (OpenSpec.ofChange fnExactTestsBoxSpec)) fnExactTestsBoxCard

/-- THE TIED CARD OF 'laws.FnExactFlatBoxes'. -/
def fnExactFlatBoxesCard : Claim7 := { stood := { row := fnExactFlatBoxesRow, standIns := [], harness := (true, "64c432969ee5cb7c0e5aaaf703873408fd1b233c1e05e0ebde8e920e729a22df"), looks := false }, kinds := [], alts := [], laidByText := true, laidKinds := [.data], laidTests := true, laidLooks := .later }
def FnExactFlatBoxesCardSaid : Prop := Claim7.holds Tryd.pinned (.plain (OpenSpec.ofChange fnExactFlatBoxesSpec)) fnExactFlatBoxesCard

/-- THE TIED CARD OF 'laws.FnExactCallsOf'. -/
def fnExactCallsOfCard : Claim7 := { stood := { row := fnExactCallsOfRow, standIns := [], harness := (true, "64c432969ee5cb7c0e5aaaf703873408fd1b233c1e05e0ebde8e920e729a22df"), looks := false }, kinds := [], alts := [], laidByText := true, laidKinds := [.data], laidTests := true, laidLooks := .later }
def FnExactCallsOfCardSaid : Prop := Claim7.holds Tryd.pinned (.plain (OpenSpec.ofChange fnExactCallsOfSpec)) fnExactCallsOfCard

/-- THE TIED CARD OF 'laws.FnExactChainsUsed'. -/
def fnExactChainsUsedCard : Claim7 := { stood := { row := fnExactChainsUsedRow, standIns := [], harness := (true, "64c432969ee5cb7c0e5aaaf703873408fd1b233c1e05e0ebde8e920e729a22df"), looks := false }, kinds := [], alts := [], laidByText := true, laidKinds := [.data], laidTests := true, laidLooks := .later }
def FnExactChainsUsedCardSaid : Prop := Claim7.holds Tryd.pinned (.plain (OpenSpec.ofChange fnExactChainsUsedSpec)) fnExactChainsUsedCard

/-- THE TIED CARD OF 'laws.FnExactJudgeTrace'. -/
def fnExactJudgeTraceCard : Claim7 := { stood := { row := fnExactJudgeTraceRow, standIns := [], harness := (true, "64c432969ee5cb7c0e5aaaf703873408fd1b233c1e05e0ebde8e920e729a22df"), looks := false }, kinds := [], alts := [], laidByText := true, laidKinds := [.data], laidTests := true, laidLooks := .later }
def FnExactJudgeTraceCardSaid : Prop := Claim7.holds Tryd.pinned (.plain (OpenSpec.ofChange fnExactJudgeTraceSpec)) fnExactJudgeTraceCard

/-- THE TIED CARD OF 'laws.FnExactBoxCut'. -/
def fnExactBoxCutCard : Claim7 := { stood := { row := fnExactBoxCutRow, standIns := [], harness := (true, "64c432969ee5cb7c0e5aaaf703873408fd1b233c1e05e0ebde8e920e729a22df"), looks := false }, kinds := [], alts := [], laidByText := true, laidKinds := [.data], laidTests := true, laidLooks := .later }
def FnExactBoxCutCardSaid : Prop := Claim7.holds Tryd.pinned (.plain (OpenSpec.ofChange fnExactBoxCutSpec)) fnExactBoxCutCard

/-- THE TIED CARD OF 'laws.FnExactRegionLess'. -/
def fnExactRegionLessCard : Claim7 := { stood := { row := fnExactRegionLessRow, standIns := [], harness := (true, "64c432969ee5cb7c0e5aaaf703873408fd1b233c1e05e0ebde8e920e729a22df"), looks := false }, kinds := [], alts := [], laidByText := true, laidKinds := [.data], laidTests := true, laidLooks := .later }
def FnExactRegionLessCardSaid : Prop := Claim7.holds Tryd.pinned (.plain (OpenSpec.ofChange fnExactRegionLessSpec)) fnExactRegionLessCard

/-- THE TIED CARD OF 'laws.FnBoxWithin'. -/
def fnBoxWithinCard : Claim7 := { stood := { row := fnBoxWithinRow, standIns := [], harness := (true, "64c432969ee5cb7c0e5aaaf703873408fd1b233c1e05e0ebde8e920e729a22df"), looks := false }, kinds := [], alts := [], laidByText := true, laidKinds := [.data], laidTests := true, laidLooks := .later }
def FnBoxWithinCardSaid : Prop := Claim7.holds Tryd.pinned (.plain (OpenSpec.ofChange fnBoxWithinSpec)) fnBoxWithinCard

/-- THE SECOND FORM's CARD OF 'laws.FnJudge'. -/
def fnJudgeUptoCard : Claim7 := { stood := { row := fnJudgeUptoRow, standIns := [], harness := (true, "64c432969ee5cb7c0e5aaaf703873408fd1b233c1e05e0ebde8e920e729a22df"), looks := false }, kinds := [], alts := [], laidByText := true, laidKinds := [.data], laidTests := true, laidLooks := .later }
def FnJudgeUptoCardSaid : Prop := Claim7.holds Tryd.pinned (.plain (OpenSpec.upto fnJudgeSpec)) fnJudgeUptoCard

/-- THE SECOND FORM's CARD OF 'laws.FnChainUnused'. -/
def fnChainUnusedUptoCard : Claim7 := { stood := { row := fnChainUnusedUptoRow, standIns := [], harness := (true, "64c432969ee5cb7c0e5aaaf703873408fd1b233c1e05e0ebde8e920e729a22df"), looks := false }, kinds := [], alts := [], laidByText := true, laidKinds := [.data], laidTests := true, laidLooks := .later }
def FnChainUnusedUptoCardSaid : Prop := Claim7.holds Tryd.pinned (.plain (OpenSpec.upto fnChainUnusedSpec)) fnChainUnusedUptoCard

/-- THE SECOND FORM's CARD OF 'laws.FnExactBoxTests'. -/
def fnExactBoxTestsUptoCard : Claim7 := { stood := { row := fnExactBoxTestsUptoRow, standIns := [], harness := (true, "64c432969ee5cb7c0e5aaaf703873408fd1b233c1e05e0ebde8e920e729a22df"), looks := false }, kinds := [], alts := [], laidByText := true, laidKinds := [.data], laidTests := true, laidLooks := .later }
def FnExactBoxTestsUptoCardSaid : Prop := Claim7.holds Tryd.pinned (.plain (OpenSpec.upto fnExactBoxTestsSpec)) fnExactBoxTestsUptoCard

/-- THE SECOND FORM's CARD OF 'laws.FnExactBoxMeet'. -/
def fnExactBoxMeetUptoCard : Claim7 := { stood := { row := fnExactBoxMeetUptoRow, standIns := [], harness := (true, "64c432969ee5cb7c0e5aaaf703873408fd1b233c1e05e0ebde8e920e729a22df"), looks := false }, kinds := [], alts := [], laidByText := true, laidKinds := [.data], laidTests := true, laidLooks := .later }
def FnExactBoxMeetUptoCardSaid : Prop := Claim7.holds Tryd.pinned (.plain (OpenSpec.upto fnExactBoxMeetSpec)) fnExactBoxMeetUptoCard

/-- THE SECOND FORM's CARD OF 'laws.FnExactTestsBox'. -/
def fnExactTestsBoxUptoCard : Claim7 := { stood := { row := fnExactTestsBoxUptoRow, standIns := [], harness := (true, "64c432969ee5cb7c0e5aaaf703873408fd1b233c1e05e0ebde8e920e729a22df"), looks := false }, kinds := [], alts := [], laidByText := true, laidKinds := [.data], laidTests := true, laidLooks := .later }
def FnExactTestsBoxUptoCardSaid : Prop := Claim7.holds Tryd.pinned (.plain (OpenSpec.upto fnExactTestsBoxSpec)) fnExactTestsBoxUptoCard

/-- THE SECOND FORM's CARD OF 'laws.FnExactFlatBoxes'. -/
def fnExactFlatBoxesUptoCard : Claim7 := { stood := { row := fnExactFlatBoxesUptoRow, standIns := [], harness := (true, "64c432969ee5cb7c0e5aaaf703873408fd1b233c1e05e0ebde8e920e729a22df"), looks := false }, kinds := [], alts := [], laidByText := true, laidKinds := [.data], laidTests := true, laidLooks := .later }
def FnExactFlatBoxesUptoCardSaid : Prop := Claim7.holds Tryd.pinned (.plain (OpenSpec.upto fnExactFlatBoxesSpec)) fnExactFlatBoxesUptoCard

/-- THE SECOND FORM's CARD OF 'laws.FnExactCallsOf'. -/
def fnExactCallsOfUptoCard : Claim7 := { stood := { row := fnExactCallsOfUptoRow, standIns := [], harness := (true, "64c432969ee5cb7c0e5aaaf703873408fd1b233c1e05e0ebde8e920e729a22df"), looks := false }, kinds := [], alts := [], laidByText := true, laidKinds := [.data], laidTests := true, laidLooks := .later }
def FnExactCallsOfUptoCardSaid : Prop := Claim7.holds Tryd.pinned (.plain (OpenSpec.upto fnExactCallsOfSpec)) fnExactCallsOfUptoCard

/-- THE SECOND FORM's CARD OF 'laws.FnExactChainsUsed'. -/
def fnExactChainsUsedUptoCard : Claim7 := { stood := { row := fnExactChainsUsedUptoRow, standIns := [], harness := (true, "64c432969ee5cb7c0e5aaaf703873408fd1b233c1e05e0ebde8e920e729a22df"), looks := false }, kinds := [], alts := [], laidByText := true, laidKinds := [.data], laidTests := true, laidLooks := .later }
def FnExactChainsUsedUptoCardSaid : Prop := Claim7.holds Tryd.pinned (.plain (OpenSpec.upto fnExactChainsUsedSpec)) fnExactChainsUsedUptoCard

/-- THE SECOND FORM's CARD OF 'laws.FnExactJudgeTrace'. -/
def fnExactJudgeTraceUptoCard : Claim7 := { stood := { row := fnExactJudgeTraceUptoRow, standIns := [], harness := (true, "64c432969ee5cb7c0e5aaaf703873408fd1b233c1e05e0ebde8e920e729a22df"), looks := false }, kinds := [], alts := [], laidByText := true, laidKinds := [.data], laidTests := true, laidLooks := .later }
def FnExactJudgeTraceUptoCardSaid : Prop := Claim7.holds Tryd.pinned (.plain (OpenSpec.upto fnExactJudgeTraceSpec)) fnExactJudgeTraceUptoCard

/-- THE SECOND FORM's CARD OF 'laws.FnExactBoxCut'. -/
def fnExactBoxCutUptoCard : Claim7 := { stood := { row := fnExactBoxCutUptoRow, standIns := [], harness := (true, "64c432969ee5cb7c0e5aaaf703873408fd1b233c1e05e0ebde8e920e729a22df"), looks := false }, kinds := [], alts := [], laidByText := true, laidKinds := [.data], laidTests := true, laidLooks := .later }
def FnExactBoxCutUptoCardSaid : Prop := Claim7.holds Tryd.pinned (.plain (OpenSpec.upto fnExactBoxCutSpec)) fnExactBoxCutUptoCard

/-- THE SECOND FORM's CARD OF 'laws.FnExactRegionLess'. -/
def fnExactRegionLessUptoCard : Claim7 := { stood := { row := fnExactRegionLessUptoRow, standIns := [], harness := (true, "64c432969ee5cb7c0e5aaaf703873408fd1b233c1e05e0ebde8e920e729a22df"), looks := false }, kinds := [], alts := [], laidByText := true, laidKinds := [.data], laidTests := true, laidLooks := .later }
def FnExactRegionLessUptoCardSaid : Prop := Claim7.holds Tryd.pinned (.plain (OpenSpec.upto fnExactRegionLessSpec)) fnExactRegionLessUptoCard

/-- THE SECOND FORM's CARD OF 'laws.FnBoxWithin'. -/
def fnBoxWithinUptoCard : Claim7 := { stood := { row := fnBoxWithinUptoRow, standIns := [], harness := (true, "64c432969ee5cb7c0e5aaaf703873408fd1b233c1e05e0ebde8e920e729a22df"), looks := false }, kinds := [], alts := [], laidByText := true, laidKinds := [.data], laidTests := true, laidLooks := .later }
def FnBoxWithinUptoCardSaid : Prop := Claim7.holds Tryd.pinned (.plain (OpenSpec.upto fnBoxWithinSpec)) fnBoxWithinUptoCard
end Rows
end Go.Proofs.YtbnndochnkkllaaDoor
