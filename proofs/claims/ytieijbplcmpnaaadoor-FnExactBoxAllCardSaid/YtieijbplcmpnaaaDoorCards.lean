/-
  DERIVED. GIVEN WITH THE SEED: THE CARDS: each row of YtieijbplcmpnaaaDoorRows.lean that lists a variable, with what it lists TIED to the program's text (the seventh form; the later family's looks); each row that meets fmt, with fmt's text TOLD by the authors' own Lean function (tested against real Go, not proved from fmt's source: count such statements apart). THE CARD IS WHAT COUNTS. Prove the row's statement (the work); the ties are given (YtieijbplcmpnaaaDoorTie.lean); close each card by the builder's one call (the guide's Derived/Test/ToyasCard.lean, 'card_holds'). Laid BY PROGRAM, IN A SANDBOX (cutbox-door.mjs). By AI agents, Wed Nov 11 2026. No macro, syntax, notation, axiom, sorry.
-/
import Derived.Test.YtieijbplcmpnaaaDoorRows
import GoSem.ClaimSeven
namespace Go.Proofs.YtieijbplcmpnaaaDoor
namespace Rows

/-- THE TIED CARD OF 'laws.FnExactBoxAll'. -/
def fnExactBoxAllCard : Claim7 := { stood := { row := fnExactBoxAllRow, standIns := [], harness := (true, "c245caa9b516668a5d4f9e9f5556368ba5f05a64e641785728830f70424f4bc3"), looks := false }, kinds := [], alts := [], laidByText := true, laidKinds := [.data], laidTests := true, laidLooks := .later }
def FnExactBoxAllCardSaid : Prop := Claim7.holds Tryd.pinned (.plain (OpenSpec.ofChange fnExactBoxAllSpec)) fnExactBoxAllCard

/-- THE SECOND FORM's CARD OF 'laws.FnExactBoxAll'. -/
def fnExactBoxAllUptoCard : Claim7 := { stood := { row := fnExactBoxAllUptoRow, standIns := [], harness := (true, "c245caa9b516668a5d4f9e9f5556368ba5f05a64e641785728830f70424f4bc3"), looks := false }, kinds := [], alts := [], laidByText := true, laidKinds := [.data], laidTests := true, laidLooks := .later }
def FnExactBoxAllUptoCardSaid : Prop := Claim7.holds Tryd.pinned (.plain (OpenSpec.upto fnExactBoxAllSpec)) fnExactBoxAllUptoCard
end Rows
end Go.Proofs.YtieijbplcmpnaaaDoor
