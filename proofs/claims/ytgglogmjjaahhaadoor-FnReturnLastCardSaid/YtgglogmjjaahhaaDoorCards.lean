/-
  DERIVED. GIVEN WITH THE SEED: THE CARDS: each row of YtgglogmjjaahhaaDoorRows.lean that lists a variable, with what it lists TIED to the program's text (the seventh form; the later family's looks); each row that meets fmt, with fmt's text TOLD by the authors' own Lean function (tested against real Go, not proved from fmt's source: count such statements apart). THE CARD IS WHAT COUNTS. Prove the row's statement (the work); the ties are given (YtgglogmjjaahhaaDoorTie.lean); close each card by the builder's one call (the guide's Derived/Test/ToyasCard.lean, 'card_holds'). Laid BY PROGRAM, IN A SANDBOX (cutbox-door.mjs). By AI agents, Wed Nov 11 2026. No macro, syntax, notation, axiom, sorry.
-/
import Derived.Test.YtgglogmjjaahhaaDoorRows
import GoSem.ClaimSeven
namespace Go.Proofs.YtgglogmjjaahhaaDoor
namespace Rows

/-- THE TIED CARD OF 'laws.FnBoxTests'. -/
def fnBoxTestsCard : Claim7 := { stood := { row := fnBoxTestsRow, standIns := [], harness := (true, "e4b31a76cb7c08ac0933d5c7f7819d3b361cace93c1d923302ace42fefabd900"), looks := false }, kinds := [], alts := [], laidByText := true, laidKinds := [.data], laidTests := true, laidLooks := .later }
def FnBoxTestsCardSaid : Prop := Claim7.holds Tryd.pinned (.plain (OpenSpec.ofChange fnBoxTestsSpec)) fnBoxTestsCard

/-- THE TIED CARD OF 'laws.FnCallAlone'. -/
def fnCallAloneCard : Claim7 := { stood := { row := fnCallAloneRow, standIns := [], harness := (true, "e4b31a76cb7c08ac0933d5c7f7819d3b361cace93c1d923302ace42fefabd900"), looks := false }, kinds := [], alts := [], laidByText := true, laidKinds := [.data], laidTests := true, laidLooks := .later }
def FnCallAloneCardSaid : Prop := Claim7.holds Tryd.pinned (.plain (OpenSpec.ofChange fnCallAloneSpec)) fnCallAloneCard

/-- THE TIED CARD OF 'laws.FnRulesetValid'. -/
def fnRulesetValidCard : Claim7 := { stood := { row := fnRulesetValidRow, standIns := [], harness := (true, "e4b31a76cb7c08ac0933d5c7f7819d3b361cace93c1d923302ace42fefabd900"), looks := false }, kinds := [], alts := [], laidByText := true, laidKinds := [.data], laidTests := true, laidLooks := .later }
def FnRulesetValidCardSaid : Prop := Claim7.holds Tryd.pinned (.plain (OpenSpec.ofChange fnRulesetValidSpec)) fnRulesetValidCard

/-- THE TIED CARD OF 'laws.FnCallDepth'. -/
def fnCallDepthCard : Claim7 := { stood := { row := fnCallDepthRow, standIns := [], harness := (true, "e4b31a76cb7c08ac0933d5c7f7819d3b361cace93c1d923302ace42fefabd900"), looks := false }, kinds := [], alts := [], laidByText := true, laidKinds := [.data], laidTests := true, laidLooks := .later }
def FnCallDepthCardSaid : Prop := Claim7.holds Tryd.pinned (.plain (OpenSpec.ofChange fnCallDepthSpec)) fnCallDepthCard

/-- THE TIED CARD OF 'laws.FnCallsOf'. -/
def fnCallsOfCard : Claim7 := { stood := { row := fnCallsOfRow, standIns := [], harness := (true, "e4b31a76cb7c08ac0933d5c7f7819d3b361cace93c1d923302ace42fefabd900"), looks := false }, kinds := [], alts := [], laidByText := true, laidKinds := [.data], laidTests := true, laidLooks := .later }
def FnCallsOfCardSaid : Prop := Claim7.holds Tryd.pinned (.plain (OpenSpec.ofChange fnCallsOfSpec)) fnCallsOfCard

/-- THE TIED CARD OF 'laws.FnChainsUsed'. -/
def fnChainsUsedCard : Claim7 := { stood := { row := fnChainsUsedRow, standIns := [], harness := (true, "e4b31a76cb7c08ac0933d5c7f7819d3b361cace93c1d923302ace42fefabd900"), looks := false }, kinds := [], alts := [], laidByText := true, laidKinds := [.data], laidTests := true, laidLooks := .later }
def FnChainsUsedCardSaid : Prop := Claim7.holds Tryd.pinned (.plain (OpenSpec.ofChange fnChainsUsedSpec)) fnChainsUsedCard

/-- THE TIED CARD OF 'laws.FnJudgedBy'. -/
def fnJudgedByCard : Claim7 := { stood := { row := fnJudgedByRow, standIns := [], harness := (true, "e4b31a76cb7c08ac0933d5c7f7819d3b361cace93c1d923302ace42fefabd900"), looks := false }, kinds := [], alts := [], laidByText := true, laidKinds := [.data], laidTests := true, laidLooks := .later }
def FnJudgedByCardSaid : Prop := Claim7.holds Tryd.pinned (.plain (OpenSpec.ofChange fnJudgedBySpec)) fnJudgedByCard

/-- THE TIED CARD OF 'laws.FnJudgeMirror'. -/
def fnJudgeMirrorCard : Claim7 := { stood := { row := fnJudgeMirrorRow, standIns := [], harness := (true, "e4b31a76cb7c08ac0933d5c7f7819d3b361cace93c1d923302ace42fefabd900"), looks := false }, kinds := [], alts := [], laidByText := true, laidKinds := [.data], laidTests := true, laidLooks := .later }
def FnJudgeMirrorCardSaid : Prop := Claim7.holds Tryd.pinned (.plain (OpenSpec.ofChange fnJudgeMirrorSpec)) fnJudgeMirrorCard

/-- THE TIED CARD OF 'laws.FnReturnLast'. -/
def fnReturnLastCard : Claim7 := { stood := { row := fnReturnLastRow, standIns := [], harness := (true, "e4b31a76cb7c08ac0933d5c7f7819d3b361cace93c1d923302ace42fefabd900"), looks := false }, kinds := [], alts := [], laidByText := true, laidKinds := [.data], laidTests := true, laidLooks := .later }
def FnReturnLastCardSaid : Prop := Claim7.holds Tryd.pinned (.plain (OpenSpec.ofChange fnReturnLastSpec)) fnReturnLastCard

/-- THE TIED CARD OF 'laws.FnRuleFirst'. -/
def fnRuleFirstCard : Claim7 := { stood := { row := fnRuleFirstRow, standIns := [], harness := (true, "e4b31a76cb7c08ac0933d5c7f7819d3b361cace93c1d923302ace42fefabd900"), looks := false }, kinds := [], alts := [], laidByText := true, laidKinds := [.data], laidTests := true, laidLooks := .later }
def FnRuleFirstCardSaid : Prop := Claim7.holds Tryd.pinned (.plain (OpenSpec.ofChange fnRuleFirstSpec)) fnRuleFirstCard

/-- THE TIED CARD OF 'laws.FnRuleNone'. -/
def fnRuleNoneCard : Claim7 := { stood := { row := fnRuleNoneRow, standIns := [], harness := (true, "e4b31a76cb7c08ac0933d5c7f7819d3b361cace93c1d923302ace42fefabd900"), looks := false }, kinds := [], alts := [], laidByText := true, laidKinds := [.data], laidTests := true, laidLooks := .later }
def FnRuleNoneCardSaid : Prop := Claim7.holds Tryd.pinned (.plain (OpenSpec.ofChange fnRuleNoneSpec)) fnRuleNoneCard

/-- THE TIED CARD OF 'laws.FnJudgeTrace'. -/
def fnJudgeTraceCard : Claim7 := { stood := { row := fnJudgeTraceRow, standIns := [], harness := (true, "e4b31a76cb7c08ac0933d5c7f7819d3b361cace93c1d923302ace42fefabd900"), looks := false }, kinds := [], alts := [], laidByText := true, laidKinds := [.data], laidTests := true, laidLooks := .later }
def FnJudgeTraceCardSaid : Prop := Claim7.holds Tryd.pinned (.plain (OpenSpec.ofChange fnJudgeTraceSpec)) fnJudgeTraceCard

/-- THE SECOND FORM's CARD OF 'laws.FnBoxTests'. -/
def fnBoxTestsUptoCard : Claim7 := { stood := { row := fnBoxTestsUptoRow, standIns := [], harness := (true, "e4b31a76cb7c08ac0933d5c7f7819d3b361cace93c1d923302ace42fefabd900"), looks := false }, kinds := [], alts := [], laidByText := true, laidKinds := [.data], laidTests := true, laidLooks := .later }
def FnBoxTestsUptoCardSaid : Prop := Claim7.holds Tryd.pinned (.plain (OpenSpec.upto fnBoxTestsSpec)) fnBoxTestsUptoCard

/-- THE SECOND FORM's CARD OF 'laws.FnCallAlone'. -/
def fnCallAloneUptoCard : Claim7 := { stood := { row := fnCallAloneUptoRow, standIns := [], harness := (true, "e4b31a76cb7c08ac0933d5c7f7819d3b361cace93c1d923302ace42fefabd900"), looks := false }, kinds := [], alts := [], laidByText := true, laidKinds := [.data], laidTests := true, laidLooks := .later }
def FnCallAloneUptoCardSaid : Prop := Claim7.holds Tryd.pinned (.plain (OpenSpec.upto fnCallAloneSpec)) fnCallAloneUptoCard

/-- THE SECOND FORM's CARD OF 'laws.FnRulesetValid'. -/
def fnRulesetValidUptoCard : Claim7 := { stood := { row := fnRulesetValidUptoRow, standIns := [], harness := (true, "e4b31a76cb7c08ac0933d5c7f7819d3b361cace93c1d923302ace42fefabd900"), looks := false }, kinds := [], alts := [], laidByText := true, laidKinds := [.data], laidTests := true, laidLooks := .later }
def FnRulesetValidUptoCardSaid : Prop := Claim7.holds Tryd.pinned (.plain (OpenSpec.upto fnRulesetValidSpec)) fnRulesetValidUptoCard

/-- THE SECOND FORM's CARD OF 'laws.FnCallDepth'. -/
def fnCallDepthUptoCard : Claim7 := { stood := { row := fnCallDepthUptoRow, standIns := [], harness := (true, "e4b31a76cb7c08ac0933d5c7f7819d3b361cace93c1d923302ace42fefabd900"), looks := false }, kinds := [], alts := [], laidByText := true, laidKinds := [.data], laidTests := true, laidLooks := .later }
def FnCallDepthUptoCardSaid : Prop := Claim7.holds Tryd.pinned (.plain (OpenSpec.upto fnCallDepthSpec)) fnCallDepthUptoCard

/-- THE SECOND FORM's CARD OF 'laws.FnCallsOf'. -/
def fnCallsOfUptoCard : Claim7 := { stood := { row := fnCallsOfUptoRow, standIns := [], harness := (true, "e4b31a76cb7c08ac0933d5c7f7819d3b361cace93c1d923302ace42fefabd900"), looks := false }, kinds := [], alts := [], laidByText := true, laidKinds := [.data], laidTests := true, laidLooks := .later }
def FnCallsOfUptoCardSaid : Prop := Claim7.holds Tryd.pinned (.plain (OpenSpec.upto fnCallsOfSpec)) fnCallsOfUptoCard

/-- THE SECOND FORM's CARD OF 'laws.FnChainsUsed'. -/
def fnChainsUsedUptoCard : Claim7 := { stood := { row := fnChainsUsedUptoRow, standIns := [], harness := (true, "e4b31a76cb7c08ac0933d5c7f7819d3b361cace93c1d923302ace42fefabd900"), looks := false }, kinds := [], alts := [], laidByText := true, laidKinds := [.data], laidTests := true, laidLooks := .later }
def FnChainsUsedUptoCardSaid : Prop := Claim7.holds Tryd.pinned (.plain (OpenSpec.upto fnChainsUsedSpec)) fnChainsUsedUptoCard

/-- THE SECOND FORM's CARD OF 'laws.FnJudgedBy'. -/
def fnJudgedByUptoCard : Claim7 := { stood := { row := fnJudgedByUptoRow, standIns := [], harness := (true, "e4b31a76cb7c08ac0933d5c7f7819d3b361cace93c1d923302ace42fefabd900"), looks := false }, kinds := [], alts := [], laidByText := true, laidKinds := [.data], laidTests := true, laidLooks := .later }
def FnJudgedByUptoCardSaid : Prop := Claim7.holds Tryd.pinned (.plain (OpenSpec.upto fnJudgedBySpec)) fnJudgedByUptoCard

/-- THE SECOND FORM's CARD OF 'laws.FnJudgeMirror'. -/
def fnJudgeMirrorUptoCard : Claim7 := { stood := { row := fnJudgeMirrorUptoRow, standIns := [], harness := (true, "e4b31a76cb7c08ac0933d5c7f7819d3b361cace93c1d923302ace42fefabd900"), looks := false }, kinds := [], alts := [], laidByText := true, laidKinds := [.data], laidTests := true, laidLooks := .later }
def FnJudgeMirrorUptoCardSaid : Prop := Claim7.holds Tryd.pinned (.plain (OpenSpec.upto fnJudgeMirrorSpec)) fnJudgeMirrorUptoCard

/-- THE SECOND FORM's CARD OF 'laws.FnReturnLast'. -/
def fnReturnLastUptoCard : Claim7 := { stood := { row := fnReturnLastUptoRow, standIns := [], harness := (true, "e4b31a76cb7c08ac0933d5c7f7819d3b361cace93c1d923302ace42fefabd900"), looks := false }, kinds := [], alts := [], laidByText := true, laidKinds := [.data], laidTests := true, laidLooks := .later }
def FnReturnLastUptoCardSaid : Prop := Claim7.holds Tryd.pinned (.plain (OpenSpec.upto fnReturnLastSpec)) fnReturnLastUptoCard

/-- THE SECOND FORM's CARD OF 'laws.FnRuleFirst'. -/
def fnRuleFirstUptoCard : Claim7 := { stood := { row := fnRuleFirstUptoRow, standIns := [], harness := (true, "e4b31a76cb7c08ac0933d5c7f7819d3b361cace93c1d923302ace42fefabd900"), looks := false }, kinds := [], alts := [], laidByText := true, laidKinds := [.data], laidTests := true, laidLooks := .later }
def FnRuleFirstUptoCardSaid : Prop := Claim7.holds Tryd.pinned (.plain (OpenSpec.upto fnRuleFirstSpec)) fnRuleFirstUptoCard

/-- THE SECOND FORM's CARD OF 'laws.FnRuleNone'. -/
def fnRuleNoneUptoCard : Claim7 := { stood := { row := fnRuleNoneUptoRow, standIns := [], harness := (true, "e4b31a76cb7c08ac0933d5c7f7819d3b361cace93c1d923302ace42fefabd900"), looks := false }, kinds := [], alts := [], laidByText := true, laidKinds := [.data], laidTests := true, laidLooks := .later }
def FnRuleNoneUptoCardSaid : Prop := Claim7.holds Tryd.pinned (.plain (OpenSpec.upto fnRuleNoneSpec)) fnRuleNoneUptoCard

/-- THE SECOND FORM's CARD OF 'laws.FnJudgeTrace'. -/
def fnJudgeTraceUptoCard : Claim7 := { stood := { row := fnJudgeTraceUptoRow, standIns := [], harness := (true, "e4b31a76cb7c08ac0933d5c7f7819d3b361cace93c1d923302ace42fefabd900"), looks := false }, kinds := [], alts := [], laidByText := true, laidKinds := [.data], laidTests := true, laidLooks := .later }
def FnJudgeTraceUptoCardSaid : Prop := Claim7.holds Tryd.pinned (.plain (OpenSpec.upto fnJudgeTraceSpec)) fnJudgeTraceUptoCard
end Rows
end Go.Proofs.YtgglogmjjaahhaaDoor
