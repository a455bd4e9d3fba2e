/- What holds of the program whatever the law; no condition. -/
import Derived.Test.YtgglogmjjaahhaaDoorRows
import Derived.JoinedOf
import Derived.KernelRfl
namespace Go.Proofs.YtgglogmjjaahhaaDoor
open Go
set_option maxRecDepth 100000
theorem and_i {a b : Bool} (h : a = true) (k : b = true) : (a && b) = true := by rw [h, k]; rfl
theorem laidOut : laidOutB Tryd.prog = true := by kernel_rfl
theorem mapsRowed_is : mapsRowed Tryd.prog = true := by kernel_rfl
theorem stops_is : (Tryd.prog.stops == []) = true := by kernel_rfl
theorem stopKnobs_is : (Tryd.prog.stopKnobs == []) = true := by kernel_rfl
theorem plainKeys_is : (Rows.fnBoxTestsRow.plainKeys == Tryd.prog.plainKeys) = true := by kernel_rfl
theorem stopsHeard_is : Tryd.prog.stopsHeard = true := by kernel_rfl
theorem mayEnter_is : Tryd.prog.mayEnter = true := by kernel_rfl
theorem lifted_is : (Rows.fnBoxTestsRow.lifted == Tryd.prog.liftsFinal) = true := by kernel_rfl
theorem make_is : (Tryd.prog.make == some Rows.fnBoxTestsRow.make) = true := by kernel_rfl
end Go.Proofs.YtgglogmjjaahhaaDoor
