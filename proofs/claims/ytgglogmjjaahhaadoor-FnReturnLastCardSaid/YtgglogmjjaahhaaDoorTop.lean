/- The arguments opened; the listed variable read; no condition. -/
import Derived.Test.YtgglogmjjaahhaaDoorPFTop
import Derived.Test.YtgglogmjjaahhaaDoorCards
import Derived.Test.YtgglogmjjaahhaaDoorTie
import Derived.KernelRfl
import Derived.Test.YtgglogmjjaahhaaDoorFac
namespace Go.Proofs.YtgglogmjjaahhaaDoor
open Go Go.PF Go.RowKit Go.ChangeShapes Go.WideShapes
set_option maxRecDepth 100000

theorem own : ownKnob Tryd.prog.godebug = none := by kernel_rfl
theorem gShapes : Tryd.prog.globalNamed "loop.example/packetfilter/impl.fieldShapes" = some 0 := by kernel_rfl
theorem tShapes : (Tryd.prog.globals[0]?).map (·.type) = some 77 := by kernel_rfl

theorem bytes_toList {s : ByteArray} {l : List UInt8} (h : s.data.toList = l) : s = ⟨l.toArray⟩ := by
  cases s with
  | mk d => simp at h; subst h; simp
/-- One shape. -/
theorem o_Shape {w : World} {spare : Nat → Bool} {held : Bool} {fuel : Nat} {cs : List Value} {x : DataW Unit × List MemPlace} {enc : TypeId × Value → Unit} {l : List UInt8} {n : Int} (h : DataW.trod enc Tryd.prog w 0 spare held fuel 76 cs = some x) (hx : x.1 = .agg [.lit (.string l), .lit (.int .i64 n)]) :
    RShape.rep w No ⟨⟨l.toArray⟩, n⟩ cs := by
  obtain ⟨xs, m, _, rfl, hl, hlen, hf⟩ := DataW.trod_struct Tryd.underlying76 h
  match xs, hlen with
  | [y0, y1], _ =>
    have e0 := hf 0 _ rfl
    have e1 := hf 1 _ rfl
    obtain ⟨s, hs, h1, _⟩ := DataW.trod_string Tryd.underlying9 e0
    obtain ⟨k, hk, h2, _⟩ := DataW.trod_int Tryd.underlying3 e1
    simp only [List.map_cons, List.map_nil, DataW.agg.injEq, List.cons.injEq, and_true] at hx
    rw [h1, h2] at hx
    simp only [DataW.lit.injEq, Lit.string.injEq, Lit.int.injEq, true_and] at hx
    obtain ⟨hx1, rfl⟩ := hx
    obtain rfl := bytes_toList hx1
    have c9 : Tryd.prog.cellsOf 9 = 1 := by kernel_rfl
    have c3 : Tryd.prog.cellsOf 3 = 1 := by kernel_rfl
    have cSh : Tryd.prog.cellsOf 76 = 2 := by kernel_rfl
    change List.take (Tryd.prog.cellsOf 9) (List.drop 0 cs) = _ at hs
    rw [c9] at hs
    change List.take (Tryd.prog.cellsOf 3) (List.drop 1 cs) = _ at hk
    rw [c3] at hk
    rw [cSh] at hl
    exact ⟨_, _, (by rw [take_drop2 (m := 1) (n := 1) (by omega)] : cs = (cs.drop 0).take 1 ++ (cs.drop 1).take 1), hs, hk⟩

theorem shapes_of_laid {W : World} (h : laidMetH Tryd.prog [("loop.example/packetfilter/impl.fieldShapes", Rows.laid_loop_example_packetfilter_impl_fieldShapes)] W) : ARep (RArr 4 RShape) W No shapes ⟨0, 0, none⟩ := by
  rw [MakeChecks.laidMetH_plain _ _ _ (by kernel_rfl)] at h
  obtain ⟨ps, ⟨g0, t0, cs0, f0, p0, q0, hg0, ht0, hv0, hd0, _, _⟩, _, _⟩ := h
  obtain rfl := Option.some.inj (gShapes.symm.trans hg0)
  obtain rfl := Option.some.inj (tShapes.symm.trans ht0)
  have cSh : Tryd.prog.cellsOf 76 = 2 := by kernel_rfl
  have cAr : Tryd.prog.cellsOf 77 = 8 := by kernel_rfl
  obtain ⟨xs, m, _, hx, hl, hlen, hel⟩ := DataW.trod_array Tryd.underlying77 hd0
  rw [cAr] at hl
  simp only [cSh] at hel
  simp only [Prod.mk.injEq, Rows.laid_loop_example_packetfilter_impl_fieldShapes, DataW.agg.injEq] at hx
  obtain ⟨hx, _⟩ := hx
  match xs, hlen with
  | [x0, x1, x2, x3], _ =>
    simp only [List.map_cons, List.map_nil, List.cons.injEq, and_true] at hx
    obtain ⟨e0, e1, e2, e3⟩ := hx
    have r0 := o_Shape (hel 0 (by decide)) e0.symm
    have r1 := o_Shape (hel 1 (by decide)) e1.symm
    have r2 := o_Shape (hel 2 (by decide)) e2.symm
    have r3 := o_Shape (hel 3 (by decide)) e3.symm
    have hb : (0 : Nat) < W.heap.size := by
      have := World.var?_cell hg0 hv0 0
      exact World.block_lt_of_cell? W ⟨0, 0, none⟩ (u := cs0.toList[0]'(by omega)) (this.trans (by simp))
    refine ⟨fun e => e, hb, cs0.toList, ⟨rfl, _, _, ?_, r0, _, _, rfl, r1, _, _, rfl, r2, _, _, rfl, r3, rfl⟩, fun j u hj => ?_⟩
    · simp only [Nat.reduceMul, List.append_nil]
      rw [← take_two (m := 2) (n := 2), ← take_two (m := 2) (n := 4), take_drop2 (m := 2) (n := 6) (by omega)]
    · have := World.var?_cell hg0 hv0 j
      rw [show (⟨0, 0, none⟩ : Addr).add j = ⟨0, j, none⟩ by unfold Addr.add; split <;> simp_all]
      rw [this]
      simpa using hj
abbrev laidRows : List (String × DataW Unit) := [("loop.example/packetfilter/impl.fieldShapes", Rows.laid_loop_example_packetfilter_impl_fieldShapes)]
theorem door_met (os : Os) (args : Array Value) : laidMetH Tryd.prog laidRows ((World.doorLaid Tryd.prog 400 os).forCall (fun _ _ => 0) ⟨#[], args, []⟩).memory := by
  rw [MakeChecks.laidMetH_plain _ _ _ (by kernel_rfl)]
  exact laidMet_of_run' 8 (by kernel_rfl) (by kernel_rfl)

end Go.Proofs.YtgglogmjjaahhaaDoor
