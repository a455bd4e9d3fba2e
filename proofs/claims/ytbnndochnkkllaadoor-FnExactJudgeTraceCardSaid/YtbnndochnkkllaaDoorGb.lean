/- What else the card asks of the program; no condition. -/
import Derived.Test.YtbnndochnkkllaaDoorCards
import Derived.KernelRfl
namespace Go.Proofs.YtbnndochnkkllaaDoor
open Go
set_option maxRecDepth 100000
theorem goes_is : false = Rows.fnExactJudgeTraceRow.goesBy Tryd.pinned.checked.prog := by kernel_rfl
theorem looks_is : false = Tryd.prog.looks [] := by kernel_rfl
theorem named_is : Tryd.prog.funcNamed "loop.example/packetfilter/laws.FnExactJudgeTrace" = some 11 := by kernel_rfl
end Go.Proofs.YtbnndochnkkllaaDoor
