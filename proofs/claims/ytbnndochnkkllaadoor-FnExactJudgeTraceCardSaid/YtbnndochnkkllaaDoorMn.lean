/- The program's main package; no condition. -/
import Derived.Test.YtbnndochnkkllaaDoorRows
import Derived.KernelRfl
namespace Go.Proofs.YtbnndochnkkllaaDoor
open Go
set_option maxRecDepth 100000
theorem main_is : Tryd.pinned.checked.prog.mainIs = some (true, "64c432969ee5cb7c0e5aaaf703873408fd1b233c1e05e0ebde8e920e729a22df".toList) := by kernel_rfl
end Go.Proofs.YtbnndochnkkllaaDoor
