/- What else the card asks of the program; no condition. -/
import Derived.Test.YtgglogmjjaahhaaDoorCards
import Derived.KernelRfl
namespace Go.Proofs.YtgglogmjjaahhaaDoor
open Go
set_option maxRecDepth 100000
theorem goes_is : false = Rows.fnReturnLastRow.goesBy Tryd.pinned.checked.prog := by kernel_rfl
theorem looks_is : false = Tryd.prog.looks [] := by kernel_rfl
theorem named_is : Tryd.prog.funcNamed "loop.example/packetfilter/laws.FnReturnLast" = some 11 := by kernel_rfl
end Go.Proofs.YtgglogmjjaahhaaDoor
