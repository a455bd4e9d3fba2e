/- The program's main package; no condition. -/
import Derived.Test.YtadlmencjbangaaDoorRows
import Derived.KernelRfl
namespace Go.Proofs.YtadlmencjbangaaDoor
open Go
set_option maxRecDepth 100000
theorem main_is : Tryd.pinned.checked.prog.mainIs = some (true, "66add90f175d5f2066b0f54f792405a42e2a2ad9be0eb91f0aa6c877a4da5197".toList) := by kernel_rfl
end Go.Proofs.YtadlmencjbangaaDoor
