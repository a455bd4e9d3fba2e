/- The program's main package; no condition. -/
import Derived.Test.YtieijbplcmpnaaaDoorRows
import Derived.KernelRfl
namespace Go.Proofs.YtieijbplcmpnaaaDoor
open Go
set_option maxRecDepth 100000
theorem main_is : Tryd.pinned.checked.prog.mainIs = some (true, "c245caa9b516668a5d4f9e9f5556368ba5f05a64e641785728830f70424f4bc3".toList) := by kernel_rfl
end Go.Proofs.YtieijbplcmpnaaaDoor
