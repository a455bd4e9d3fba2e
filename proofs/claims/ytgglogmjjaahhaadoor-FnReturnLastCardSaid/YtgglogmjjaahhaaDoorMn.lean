/- The program's main package; no condition. -/
import Derived.Test.YtgglogmjjaahhaaDoorRows
import Derived.KernelRfl
namespace Go.Proofs.YtgglogmjjaahhaaDoor
open Go
set_option maxRecDepth 100000
theorem main_is : Tryd.pinned.checked.prog.mainIs = some (true, "e4b31a76cb7c08ac0933d5c7f7819d3b361cace93c1d923302ace42fefabd900".toList) := by kernel_rfl
end Go.Proofs.YtgglogmjjaahhaaDoor
