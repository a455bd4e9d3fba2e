/- The program's functions as plain functions; no condition. -/
import Derived.Test.YtbnndochnkkllaaDoorPFEls
namespace Go.PF.F
open Go Go.PF

def spec_l1In (a_n : Int) (a_lo : Int) (a_hi : Int) : Option Bool :=
  bif (decide (a_lo ≤ a_n)) then
  some (decide (a_n ≤ a_hi))
  else
  some false


def spec_SpansValid_L0 (a_list : List Span) (a_top : Int) : Int → Option (SR (Int) Bool) := fun k1 =>
  bif (decide (k1 < (a_list.length : Int))) then
  (idx a_list k1).bind fun x1 =>
  (F.spec_l1In x1.Lo 0 x1.Hi).bind fun x2 =>
  bif x2 then
  (F.spec_l1In x1.Hi 0 a_top).bind fun x3 =>
  bif x3 then
  bif (decide (0 < k1)) then
  (idx a_list (W (k1 - 1))).bind fun x4 =>
  bif (decide (x1.Lo < (W (x4.Hi + 2)))) then
  some (.ret false)
  else
  some (.nxt (W (k1 + 1)))
  else
  some (.nxt (W (k1 + 1)))
  else
  some (.ret false)
  else
  some (.ret false)
  else
  some (.brk k1)
def spec_SpansValid (a_list : List Span) (a_top : Int) : Option Bool :=
  (loopF (spec_SpansValid_L0 a_list a_top) ((((a_list.length : Int)) : Int) - 0).toNat.succ 0).bind fun lr => lr.on (fun _k2 =>
  (F.spec_l1In a_top 0 65535).bind fun x5 =>
  bif x5 then
  some (decide ((a_list.length : Int) ≤ 40))
  else
  some false) (fun r => some r)


def spec_FieldTop (a_n : Int) : Option Int :=
  bif (a_n == 0) then
  some 65535
  else
  bif (a_n == 1) then
  some 65535
  else
  bif (a_n == 2) then
  some 255
  else
  bif (a_n == 3) then
  some 7
  else
  some (-1)


def spec_BoxValid_L0 (a_b : Box) : Int → Option (SR (Int) Bool) := fun k1 =>
  bif (decide (k1 < (a_b.Sides.length : Int))) then
  bif (decide (4 ≤ k1)) then
  some (.ret false)
  else
  (idx a_b.Sides k1).bind fun x1 =>
  (F.spec_FieldTop k1).bind fun x2 =>
  (F.spec_SpansValid x1 x2).bind fun x3 =>
  bif x3 then
  some (.nxt (W (k1 + 1)))
  else
  some (.ret false)
  else
  some (.brk k1)
def spec_BoxValid (a_b : Box) : Option Bool :=
  (loopF (spec_BoxValid_L0 a_b) ((((a_b.Sides.length : Int)) : Int) - 0).toNat.succ 0).bind fun lr => lr.on (fun _k2 =>
  some ((a_b.Sides.length : Int) == 4)) (fun r => some r)


def spec_l1OwnRowsSpan_L0 (a_list : List (List Span)) : (List (List Span)) × Int → Option (SR ((List (List Span)) × Int) ((List (List Span)))) := fun (y1, k1) =>
  bif (decide (k1 < (a_list.length : Int))) then
  (idx a_list k1).bind fun x1 =>
  (appF ([] : List Span) x1).bind fun z1 =>
  (appF y1 [z1]).bind fun z2 =>
  some (.nxt (z2, (W (k1 + 1))))
  else
  some (.brk (y1, k1))
def spec_l1OwnRowsSpan (a_list : List (List Span)) : Option ((List (List Span))) :=
  (loopF (spec_l1OwnRowsSpan_L0 a_list) ((((a_list.length : Int)) : Int) - 0).toNat.succ (([] : List (List Span)), 0)).bind fun lr => lr.on (fun (y2, _k2) =>
  some y2) (fun r => some r)


def spec_l1OwnBox (a_x : Box) : Option Box :=
  (F.spec_l1OwnRowsSpan a_x.Sides).bind fun x1 =>
  some ({ Sides := x1 } : Box)


def spec_l10Empty_L0 (a_b : Box) : Int → Option (SR (Int) Bool) := fun k1 =>
  bif (decide (k1 < (a_b.Sides.length : Int))) then
  (idx a_b.Sides k1).bind fun x1 =>
  bif ((x1.length : Int) == 0) then
  some (.ret true)
  else
  some (.nxt (W (k1 + 1)))
  else
  some (.brk k1)
def spec_l10Empty (a_b : Box) : Option Bool :=
  (loopF (spec_l10Empty_L0 a_b) ((((a_b.Sides.length : Int)) : Int) - 0).toNat.succ 0).bind fun lr => lr.on (fun _k2 =>
  some false) (fun r => some r)


def spec_l2Meet_L1 (a_a : List Span) (a_b : List Span) (k1 : Int) : (List Span) × Int → Option (SR ((List Span) × Int) ((List Span))) := fun (y2, k2) =>
  bif (decide (k2 < (a_b.length : Int))) then
  (idx a_a k1).bind fun x1 =>
  (idx a_b k2).bind fun x2 =>
  bif (decide ((imax x1.Lo x2.Lo) ≤ (imin x1.Hi x2.Hi))) then
  (appF y2 [({ Lo := (imax x1.Lo x2.Lo), Hi := (imin x1.Hi x2.Hi) } : Span)]).bind fun z1 =>
  some (.nxt (z1, (W (k2 + 1))))
  else
  some (.nxt (y2, (W (k2 + 1))))
  else
  some (.brk (y2, k2))
def spec_l2Meet_L0 (a_a : List Span) (a_b : List Span) : (List Span) × Int → Option (SR ((List Span) × Int) ((List Span))) := fun (y1, k1) =>
  bif (decide (k1 < (a_a.length : Int))) then
  (loopF (spec_l2Meet_L1 a_a a_b k1) ((((a_b.length : Int)) : Int) - 0).toNat.succ (y1, 0)).bind fun lr => lr.on (fun (y3, _k3) =>
  some (.nxt (y3, (W (k1 + 1))))) (fun r => some (.ret r))
  else
  some (.brk (y1, k1))
def spec_l2Meet (a_a : List Span) (a_b : List Span) : Option ((List Span)) :=
  (loopF (spec_l2Meet_L0 a_a a_b) ((((a_a.length : Int)) : Int) - 0).toNat.succ (([] : List Span), 0)).bind fun lr => lr.on (fun (y4, _k4) =>
  some y4) (fun r => some r)


def spec_l10Meet_L0 (a_a : Box) (a_b : Box) : Int × (List (List Span)) → Option (SR (Int × (List (List Span))) Box) := fun (k1, y1) =>
  bif (decide (k1 < 4)) then
  (idx a_a.Sides k1).bind fun x1 =>
  (idx a_b.Sides k1).bind fun x2 =>
  (F.spec_l2Meet x1 x2).bind fun x3 =>
  (appF y1 [x3]).bind fun z1 =>
  some (.nxt ((W (k1 + 1)), z1))
  else
  some (.brk (k1, y1))
def spec_l10Meet (a_a : Box) (a_b : Box) : Option Box :=
  (loopF (spec_l10Meet_L0 a_a a_b) (((4) : Int) - 0).toNat.succ (0, ([] : List (List Span)))).bind fun lr => lr.on (fun (_k2, y2) =>
  some ({ Sides := y2 } : Box)) (fun r => some r)


def spec_l2Other_L0 (a_a : List Span) : (List Span) × Int × Int → Option (SR ((List Span) × Int × Int) ((List Span))) := fun (y1, k1, k2) =>
  bif (decide (k2 < (a_a.length : Int))) then
  (idx a_a k2).bind fun x1 =>
  bif (decide (k1 < x1.Lo)) then
  (appF y1 [({ Lo := k1, Hi := (W (x1.Lo - 1)) } : Span)]).bind fun z1 =>
  some (.nxt (z1, (W (x1.Hi + 1)), (W (k2 + 1))))
  else
  some (.nxt (y1, (W (x1.Hi + 1)), (W (k2 + 1))))
  else
  some (.brk (y1, k1, k2))
def spec_l2Other (a_a : List Span) (a_top : Int) : Option ((List Span)) :=
  (loopF (spec_l2Other_L0 a_a) ((((a_a.length : Int)) : Int) - 0).toNat.succ (([] : List Span), 0, 0)).bind fun lr => lr.on (fun (y2, k3, _k4) =>
  bif (decide (k3 ≤ a_top)) then
  (appF y2 [({ Lo := k3, Hi := a_top } : Span)]).bind fun z2 =>
  some z2
  else
  some y2) (fun r => some r)


def spec_l11Cut_L0 (a_b : Box) : (List Box) × Int × (List (List Span)) → Option (SR ((List Box) × Int × (List (List Span))) ((List Box))) := fun (y1, k1, y2) =>
  bif (decide (k1 < 4)) then
  (idx y2 k1).bind fun x4 =>
  (idx a_b.Sides k1).bind fun x5 =>
  (F.spec_FieldTop k1).bind fun x6 =>
  (F.spec_l2Other x5 x6).bind fun x7 =>
  (F.spec_l2Meet x4 x7).bind fun x8 =>
  (F.spec_l2Meet x4 x5).bind fun x9 =>
  bif (decide (0 < (x8.length : Int))) then
  (F.spec_l1OwnRowsSpan y2).bind fun x10 =>
  (idx x10 k1).bind fun _x11 =>
  (appF y1 [({ Sides := (List.set x10 (k1 : Int).toNat x8) } : Box)]).bind fun z2 =>
  some (.nxt (z2, (W (k1 + 1)), (List.set x10 (k1 : Int).toNat x9)))
  else
  (F.spec_l1OwnRowsSpan y2).bind fun x12 =>
  (idx x12 k1).bind fun _x13 =>
  some (.nxt (y1, (W (k1 + 1)), (List.set x12 (k1 : Int).toNat x9)))
  else
  some (.brk (y1, k1, y2))
def spec_l11Cut (a_a : Box) (a_b : Box) : Option ((List Box)) :=
  (F.spec_l10Meet a_a a_b).bind fun x1 =>
  (F.spec_l10Empty x1).bind fun x2 =>
  bif x2 then
  (F.spec_l10Empty a_a).bind fun x3 =>
  bif x3 then
  some ([] : List Box)
  else
  (appF ([] : List Box) [a_a]).bind fun z1 =>
  some z1
  else
  (loopF (spec_l11Cut_L0 a_b) (((4) : Int) - 0).toNat.succ (([] : List Box), 0, a_a.Sides)).bind fun lr => lr.on (fun (y3, _k2, _y4) =>
  some y3) (fun r => some r)


def impl_topValid (a_top : Int) : Option Bool :=
  bif (decide (0 ≤ a_top)) then
  some (decide (a_top ≤ 65535))
  else
  some false


def impl_SpansValid_L0 (a_list : List Span) (a_top : Int) : Int × Int → Option (SR (Int × Int) Bool) := fun (k1, k2) =>
  bif (decide (k2 < (a_list.length : Int))) then
  (idx a_list k2).bind fun x2 =>
  bif (decide (x2.Lo ≤ (W (k1 + 1)))) then
  some (.ret false)
  else
  bif (decide (x2.Hi < x2.Lo)) then
  some (.ret false)
  else
  bif (decide (a_top < x2.Hi)) then
  some (.ret false)
  else
  some (.nxt (x2.Hi, (W (k2 + 1))))
  else
  some (.brk (k1, k2))
def impl_SpansValid (a_list : List Span) (a_top : Int) : Option Bool :=
  (F.impl_topValid a_top).bind fun x1 =>
  bif x1 then
  bif (decide (40 < (a_list.length : Int))) then
  some false
  else
  (loopF (impl_SpansValid_L0 a_list a_top) ((((a_list.length : Int)) : Int) - 0).toNat.succ ((-2), 0)).bind fun lr => lr.on (fun (_k3, _k4) =>
  some true) (fun r => some r)
  else
  some false


def impl_FieldTop (a_n : Int) : Option Int :=
  bif (decide (a_n < 0)) then
  some (-1)
  else
  bif (decide (4 ≤ a_n)) then
  some (-1)
  else
  (idx shapes a_n).bind fun x1 =>
  some x1.top


def impl_BoxValid_L0 (a_b : Box) : Int → Option (SR (Int) Bool) := fun k1 =>
  bif (decide (k1 < (a_b.Sides.length : Int))) then
  (idx a_b.Sides k1).bind fun x1 =>
  (F.impl_FieldTop k1).bind fun x2 =>
  (F.impl_SpansValid x1 x2).bind fun x3 =>
  bif x3 then
  some (.nxt (W (k1 + 1)))
  else
  some (.ret false)
  else
  some (.brk k1)
def impl_BoxValid (a_b : Box) : Option Bool :=
  bif ((a_b.Sides.length : Int) != 4) then
  some false
  else
  (loopF (impl_BoxValid_L0 a_b) ((((a_b.Sides.length : Int)) : Int) - 0).toNat.succ 0).bind fun lr => lr.on (fun _k2 =>
  some true) (fun r => some r)


def impl_sidesOf (a_b : Box) : Option ((List (List Span))) :=
  (arrF 4 a_b.Sides).bind fun y1 =>
  some y1


def impl_sides_empty_L0 (a_s : List (List Span)) : Int → Option (SR (Int) Bool) := fun k1 =>
  bif (decide (k1 < 4)) then
  (idx a_s k1).bind fun x1 =>
  bif ((x1.length : Int) == 0) then
  some (.ret true)
  else
  some (.nxt (W (k1 + 1)))
  else
  some (.brk k1)
def impl_sides_empty (a_s : List (List Span)) : Option Bool :=
  (loopF (impl_sides_empty_L0 a_s) (((4) : Int) - 0).toNat.succ 0).bind fun lr => lr.on (fun _k2 =>
  some false) (fun r => some r)


def impl_stretch (a_rest : List Span) (a_at : Int) (a_top : Int) : Option (Bool × Int) :=
  bif ((a_rest.length : Int) == 0) then
  some (false, a_top)
  else
  (idx a_rest 0).bind fun x1 =>
  bif (decide (a_at < x1.Lo)) then
  some (false, (W (x1.Lo - 1)))
  else
  some (true, x1.Hi)


def impl_inFirstOnly (a_inA : Bool) (a_inB : Bool) : Option Bool :=
  bif a_inA then
  some (!a_inB)
  else
  some false


def impl_sweepSpans__impl_inFirstOnly_L2 (a_b : List Span) (k3 : Int) : Int × (List Span) → Option (SR (Int × (List Span)) ((List Span))) := fun (k6, y4) =>
  bif (decide (k6 < (a_b.length : Int))) then
  (idx a_b k6).bind fun x2 =>
  bif (decide (x2.Hi < k3)) then
  some (.nxt ((W (k6 + 1)), y4))
  else
  some (.brk (k6, y4))
  else
  some (.brk (k6, y4))
def impl_sweepSpans__impl_inFirstOnly_L1 (a_a : List Span) (k3 : Int) : Int × (List Span) → Option (SR (Int × (List Span)) ((List Span))) := fun (k4, y2) =>
  bif (decide (k4 < (a_a.length : Int))) then
  (idx a_a k4).bind fun x1 =>
  bif (decide (x1.Hi < k3)) then
  some (.nxt ((W (k4 + 1)), y2))
  else
  some (.brk (k4, y2))
  else
  some (.brk (k4, y2))
def impl_sweepSpans__impl_inFirstOnly_L0 (a_a : List Span) (a_b : List Span) (a_top : Int) : (List Span) × Int × Int × Int → Option (SR ((List Span) × Int × Int × Int) ((List Span))) := fun (y1, k1, k2, k3) =>
  bif (decide (k3 ≤ a_top)) then
  (loopF (impl_sweepSpans__impl_inFirstOnly_L1 a_a k3) ((((a_a.length : Int)) : Int) - k1).toNat.succ (k1, y1)).bind fun lr => lr.on (fun (k5, y3) =>
  (loopF (impl_sweepSpans__impl_inFirstOnly_L2 a_b k3) ((((a_b.length : Int)) : Int) - k2).toNat.succ (k2, y3)).bind fun lr => lr.on (fun (k7, y5) =>
  (dropF a_a k5).bind fun y6 =>
  (F.impl_stretch y6 k3 a_top).bind fun x3 =>
  (dropF a_b k7).bind fun y7 =>
  (F.impl_stretch y7 k3 a_top).bind fun x4 =>
  (F.impl_inFirstOnly x3.1 x4.1).bind fun x5 =>
  bif x5 then
  bif (decide (0 < (y5.length : Int))) then
  (idx y5 (W ((y5.length : Int) - 1))).bind fun x6 =>
  bif ((W (x6.Hi + 1)) == k3) then
  some (.nxt ((List.set y5 ((W ((y5.length : Int) - 1)) : Int).toNat { x6 with Hi := (imin x3.2 x4.2) }), k5, k7, (W ((imin x3.2 x4.2) + 1))))
  else
  (appF y5 [({ Lo := k3, Hi := (imin x3.2 x4.2) } : Span)]).bind fun z1 =>
  some (.nxt (z1, k5, k7, (W ((imin x3.2 x4.2) + 1))))
  else
  (appF y5 [({ Lo := k3, Hi := (imin x3.2 x4.2) } : Span)]).bind fun z2 =>
  some (.nxt (z2, k5, k7, (W ((imin x3.2 x4.2) + 1))))
  else
  some (.nxt (y5, k5, k7, (W ((imin x3.2 x4.2) + 1))))) (fun r => some (.ret r))) (fun r => some (.ret r))
  else
  some (.brk (y1, k1, k2, k3))
def impl_sweepSpans__impl_inFirstOnly (a_a : List Span) (a_b : List Span) (a_top : Int) : Option ((List Span)) :=
  (loopF (impl_sweepSpans__impl_inFirstOnly_L0 a_a a_b a_top) (((a_top) : Int) - 0 + 1).toNat.succ (([] : List Span), 0, 0, 0)).bind fun lr => lr.on (fun (y8, _k8, _k9, _k10) =>
  some y8) (fun r => some r)


def impl_inBoth (a_inA : Bool) (a_inB : Bool) : Option Bool :=
  bif a_inA then
  some a_inB
  else
  some false


def impl_limitSpans (a_list : List Span) : Option ((List Span) × Bool) :=
  bif (decide (40 < (a_list.length : Int))) then
  some (([] : List Span), false)
  else
  some (a_list, true)


def impl_sweepSpans__impl_inBoth_L2 (a_b : List Span) (k3 : Int) : Int × (List Span) → Option (SR (Int × (List Span)) ((List Span))) := fun (k6, y4) =>
  bif (decide (k6 < (a_b.length : Int))) then
  (idx a_b k6).bind fun x2 =>
  bif (decide (x2.Hi < k3)) then
  some (.nxt ((W (k6 + 1)), y4))
  else
  some (.brk (k6, y4))
  else
  some (.brk (k6, y4))
def impl_sweepSpans__impl_inBoth_L1 (a_a : List Span) (k3 : Int) : Int × (List Span) → Option (SR (Int × (List Span)) ((List Span))) := fun (k4, y2) =>
  bif (decide (k4 < (a_a.length : Int))) then
  (idx a_a k4).bind fun x1 =>
  bif (decide (x1.Hi < k3)) then
  some (.nxt ((W (k4 + 1)), y2))
  else
  some (.brk (k4, y2))
  else
  some (.brk (k4, y2))
def impl_sweepSpans__impl_inBoth_L0 (a_a : List Span) (a_b : List Span) (a_top : Int) : (List Span) × Int × Int × Int → Option (SR ((List Span) × Int × Int × Int) ((List Span))) := fun (y1, k1, k2, k3) =>
  bif (decide (k3 ≤ a_top)) then
  (loopF (impl_sweepSpans__impl_inBoth_L1 a_a k3) ((((a_a.length : Int)) : Int) - k1).toNat.succ (k1, y1)).bind fun lr => lr.on (fun (k5, y3) =>
  (loopF (impl_sweepSpans__impl_inBoth_L2 a_b k3) ((((a_b.length : Int)) : Int) - k2).toNat.succ (k2, y3)).bind fun lr => lr.on (fun (k7, y5) =>
  (dropF a_a k5).bind fun y6 =>
  (F.impl_stretch y6 k3 a_top).bind fun x3 =>
  (dropF a_b k7).bind fun y7 =>
  (F.impl_stretch y7 k3 a_top).bind fun x4 =>
  (F.impl_inBoth x3.1 x4.1).bind fun x5 =>
  bif x5 then
  bif (decide (0 < (y5.length : Int))) then
  (idx y5 (W ((y5.length : Int) - 1))).bind fun x6 =>
  bif ((W (x6.Hi + 1)) == k3) then
  some (.nxt ((List.set y5 ((W ((y5.length : Int) - 1)) : Int).toNat { x6 with Hi := (imin x3.2 x4.2) }), k5, k7, (W ((imin x3.2 x4.2) + 1))))
  else
  (appF y5 [({ Lo := k3, Hi := (imin x3.2 x4.2) } : Span)]).bind fun z1 =>
  some (.nxt (z1, k5, k7, (W ((imin x3.2 x4.2) + 1))))
  else
  (appF y5 [({ Lo := k3, Hi := (imin x3.2 x4.2) } : Span)]).bind fun z2 =>
  some (.nxt (z2, k5, k7, (W ((imin x3.2 x4.2) + 1))))
  else
  some (.nxt (y5, k5, k7, (W ((imin x3.2 x4.2) + 1))))) (fun r => some (.ret r))) (fun r => some (.ret r))
  else
  some (.brk (y1, k1, k2, k3))
def impl_sweepSpans__impl_inBoth (a_a : List Span) (a_b : List Span) (a_top : Int) : Option ((List Span)) :=
  (loopF (impl_sweepSpans__impl_inBoth_L0 a_a a_b a_top) (((a_top) : Int) - 0 + 1).toNat.succ (([] : List Span), 0, 0, 0)).bind fun lr => lr.on (fun (y8, _k8, _k9, _k10) =>
  some y8) (fun r => some r)


def impl_meetSpans (a_a : List Span) (a_b : List Span) (a_top : Int) : Option ((List Span) × Bool) :=
  (F.impl_sweepSpans__impl_inBoth a_a a_b a_top).bind fun x1 =>
  (F.impl_limitSpans x1).bind fun x2 =>
  some (x2.1, x2.2)


def impl_sides_box_L0 (a_s : List (List Span)) : Int × (List (List Span)) → Option (SR (Int × (List (List Span))) Box) := fun (k1, y1) =>
  bif (decide (k1 < 4)) then
  (idx a_s k1).bind fun x1 =>
  (appF ([] : List Span) x1).bind fun z1 =>
  (idx y1 k1).bind fun _x2 =>
  some (.nxt ((W (k1 + 1)), (List.set y1 (k1 : Int).toNat z1)))
  else
  some (.brk (k1, y1))
def impl_sides_box (a_s : List (List Span)) : Option Box :=
  (makeF ([] : List Span) 4).bind fun mk1 =>
  (loopF (impl_sides_box_L0 a_s) (((4) : Int) - 0).toNat.succ (0, mk1)).bind fun lr => lr.on (fun (_k2, y2) =>
  some ({ Sides := y2 } : Box)) (fun r => some r)


def spec_l20Rd_pick (a_xs : List Int) (a_pos : Int) (a_n : Int) : Option (Int × Int) :=
  bif (decide (a_n < 1)) then
  some (0, (W (a_pos + 1)))
  else
  bif ((a_xs.length : Int) == 0) then
  some (0, (W (a_pos + 1)))
  else
  bif (decide ((W ((W (a_pos + 1)) - 1)) < (a_xs.length : Int))) then
  (idx a_xs (W ((W (a_pos + 1)) - 1))).bind fun x1 =>
  (nzF a_n).bind fun _u1 =>
  some ((((W x1)).tmod a_n), (W (a_pos + 1)))
  else
  (nzF (a_xs.length : Int)).bind fun _u2 =>
  (idx a_xs (((W ((W (a_pos + 1)) - 1))).tmod (a_xs.length : Int))).bind fun x2 =>
  (idx a_xs (((W ((W ((W ((W (a_pos + 1)) - 1)) * 7)) + 3))).tmod (a_xs.length : Int))).bind fun x3 =>
  (nzF a_n).bind fun _u3 =>
  some ((((xorF (W ((W ((W ((W ((W x2) * 131)) + (W ((W x3) * 1117)))) + (W ((W ((W (a_pos + 1)) - 1)) * 29)))) + (W ((W (((W ((W (a_pos + 1)) - 1))).tdiv (a_xs.length : Int))) * 53)))) (W (((W ((W ((W ((W ((W x2) * 131)) + (W ((W x3) * 1117)))) + (W ((W ((W (a_pos + 1)) - 1)) * 29)))) + (W ((W (((W ((W (a_pos + 1)) - 1))).tdiv (a_xs.length : Int))) * 53))))).tdiv 64)))).tmod a_n), (W (a_pos + 1)))


def spec_TestValid (a_t : Test) : Option Bool :=
  (F.spec_l1In a_t.Field 0 3).bind fun x1 =>
  bif x1 then
  (F.spec_l1In a_t.Lo 0 a_t.Hi).bind fun x2 =>
  bif x2 then
  (F.spec_FieldTop a_t.Field).bind fun x3 =>
  some (decide (a_t.Hi ≤ x3))
  else
  some false
  else
  some false


def spec_TestsValid_L0 (a_list : List Test) : Int → Option (SR (Int) Bool) := fun k1 =>
  bif (decide (k1 < (a_list.length : Int))) then
  (idx a_list k1).bind fun x1 =>
  (F.spec_TestValid x1).bind fun x2 =>
  bif x2 then
  some (.nxt (W (k1 + 1)))
  else
  some (.ret false)
  else
  some (.brk k1)
def spec_TestsValid (a_list : List Test) : Option Bool :=
  (loopF (spec_TestsValid_L0 a_list) ((((a_list.length : Int)) : Int) - 0).toNat.succ 0).bind fun lr => lr.on (fun _k2 =>
  some (decide ((a_list.length : Int) ≤ 6))) (fun r => some r)


def spec_TestSpans (a_t : Test) : Option ((List Span)) :=
  (F.spec_TestValid a_t).bind fun x1 =>
  bif x1 then
  bif a_t.Not then
  (F.spec_FieldTop a_t.Field).bind fun x2 =>
  (F.spec_l2Other [({ Lo := a_t.Lo, Hi := a_t.Hi } : Span)] x2).bind fun x3 =>
  some x3
  else
  some [({ Lo := a_t.Lo, Hi := a_t.Hi } : Span)]
  else
  some ([] : List Span)


def spec_BoxAll_L0 : Int × (List (List Span)) → Option (SR (Int × (List (List Span))) Box) := fun (k1, y1) =>
  bif (decide (k1 < 4)) then
  (F.spec_FieldTop k1).bind fun x1 =>
  (appF y1 [[({ Lo := 0, Hi := x1 } : Span)]]).bind fun z1 =>
  some (.nxt ((W (k1 + 1)), z1))
  else
  some (.brk (k1, y1))
def spec_BoxAll : Option Box :=
  (loopF (spec_BoxAll_L0) (((4) : Int) - 0).toNat.succ (0, ([] : List (List Span)))).bind fun lr => lr.on (fun (_k2, y2) =>
  some ({ Sides := y2 } : Box)) (fun r => some r)


def spec_TestsBox_L0 (a_list : List Test) : Int × (List (List Span)) → Option (SR (Int × (List (List Span))) Box) := fun (k1, y1) =>
  bif (decide (k1 < (a_list.length : Int))) then
  (idx a_list k1).bind fun x3 =>
  (idx y1 x3.Field).bind fun x4 =>
  (F.spec_TestSpans x3).bind fun x5 =>
  (F.spec_l2Meet x4 x5).bind fun x6 =>
  some (.nxt ((W (k1 + 1)), (List.set y1 (x3.Field : Int).toNat x6)))
  else
  some (.brk (k1, y1))
def spec_TestsBox (a_list : List Test) : Option Box :=
  (F.spec_TestsValid a_list).bind fun x1 =>
  bif x1 then
  (F.spec_BoxAll).bind fun x2 =>
  (loopF (spec_TestsBox_L0 a_list) ((((a_list.length : Int)) : Int) - 0).toNat.succ (0, x2.Sides)).bind fun lr => lr.on (fun (_k2, y2) =>
  some ({ Sides := y2 } : Box)) (fun r => some r)
  else
  some ({ Sides := ([] : List (List Span)) } : Box)


def impl_firstCommon_L0 (a_a : List Span) (a_b : List Span) : Int × Int → Option (SR (Int × Int) (Int × Bool)) := fun (k1, k2) =>
  bif (decide (k1 < (a_a.length : Int))) then
  bif (decide (k2 < (a_b.length : Int))) then
  (idx a_a k1).bind fun x1 =>
  (idx a_b k2).bind fun x2 =>
  bif (decide ((imax x1.Lo x2.Lo) ≤ (imin x1.Hi x2.Hi))) then
  some (.ret ((imax x1.Lo x2.Lo), true))
  else
  bif (decide (x1.Hi < x2.Hi)) then
  some (.nxt ((W (k1 + 1)), k2))
  else
  some (.nxt (k1, (W (k2 + 1))))
  else
  some (.brk (k1, k2))
  else
  some (.brk (k1, k2))
def impl_firstCommon (a_a : List Span) (a_b : List Span) : Option (Int × Bool) :=
  (loopF (impl_firstCommon_L0 a_a a_b) ((a_a.length : Int) + (a_b.length : Int)).toNat.succ (0, 0)).bind fun lr => lr.on (fun (_k3, _k4) =>
  some (0, false)) (fun r => some r)


def impl_packetOf (a_fields : List Int) : Option Packet :=
  (idx a_fields 0).bind fun x1 =>
  (idx a_fields 1).bind fun x2 =>
  (idx a_fields 2).bind fun x3 =>
  (idx a_fields 3).bind fun x4 =>
  some ({ From := x1, To := x2, Port := x3, Proto := x4 } : Packet)


def impl_sides_firstCommon_L0 (a_s : List (List Span)) (a_other : List (List Span)) : Int × Int × Int × Int × Int × (List Int) → Option (SR (Int × Int × Int × Int × Int × (List Int)) (Packet × Bool)) := fun (k1, k2, k3, k4, k5, y1) =>
  bif (decide (k1 < 4)) then
  (idx a_s k1).bind fun x1 =>
  (idx a_other k1).bind fun x2 =>
  (F.impl_firstCommon x1 x2).bind fun x3 =>
  bif x3.2 then
  (idx y1 k1).bind fun _x4 =>
  some (.nxt ((W (k1 + 1)), k2, k3, k4, k5, (List.set y1 (k1 : Int).toNat x3.1)))
  else
  some (.ret (({ From := 0, To := 0, Port := 0, Proto := 0 } : Packet), false))
  else
  some (.brk (k1, k2, k3, k4, k5, y1))
def impl_sides_firstCommon (a_s : List (List Span)) (a_other : List (List Span)) : Option (Packet × Bool) :=
  (loopF (impl_sides_firstCommon_L0 a_s a_other) (((4) : Int) - 0).toNat.succ (0, 0, 0, 0, 0, [0, 0, 0, 0])).bind fun lr => lr.on (fun (_k6, _k7, _k8, _k9, _k10, y2) =>
  (F.impl_packetOf y2).bind fun x5 =>
  some (({ From := x5.From, To := x5.To, Port := x5.Port, Proto := x5.Proto } : Packet), true)) (fun r => some r)


def impl_sides_touches (a_s : List (List Span)) (a_other : List (List Span)) : Option Bool :=
  (F.impl_sides_firstCommon a_s a_other).bind fun x1 =>
  some x1.2


def impl_lessSpans (a_a : List Span) (a_b : List Span) (a_top : Int) : Option ((List Span) × Bool) :=
  (F.impl_sweepSpans__impl_inFirstOnly a_a a_b a_top).bind fun x1 =>
  (F.impl_limitSpans x1).bind fun x2 =>
  some (x2.1, x2.2)


def impl_sides_pieces_1_L0 (a_s : List (List Span)) (a_other : List (List Span)) : Bool × Int × (List (List Span)) × (List (List (List Span))) → Option (SR (Bool × Int × (List (List Span)) × (List (List (List Span)))) (Bool × List (List (List Span)))) := fun (y1, k1, y2, y3) =>
  bif (decide (k1 < 4)) then
  (idx a_s k1).bind fun x3 =>
  (idx a_other k1).bind fun x4 =>
  (F.impl_FieldTop k1).bind fun x5 =>
  (F.impl_lessSpans x3 x4 x5).bind fun x6 =>
  bif x6.2 then
  bif (decide (0 < (x6.1.length : Int))) then
  bif y1 then
  (idx y2 k1).bind fun _x7 =>
  (appF y3 [(List.set y2 (k1 : Int).toNat x6.1)]).bind fun z1 =>
  (F.impl_meetSpans x3 x4 x5).bind fun x8 =>
  some (.nxt (x8.2, (W (k1 + 1)), (List.set y2 (k1 : Int).toNat x8.1), z1))
  else
  some (.ret (true, y3))
  else
  (F.impl_meetSpans x3 x4 x5).bind fun x9 =>
  (idx y2 k1).bind fun _x10 =>
  bif y1 then
  some (.nxt (x9.2, (W (k1 + 1)), (List.set y2 (k1 : Int).toNat x9.1), y3))
  else
  some (.nxt (false, (W (k1 + 1)), (List.set y2 (k1 : Int).toNat x9.1), y3))
  else
  some (.ret (true, y3))
  else
  some (.brk (y1, k1, y2, y3))
def impl_sides_pieces_1 (a_s : List (List Span)) (a_other : List (List Span)) : Option (Bool × List (List (List Span))) :=
  (F.impl_sides_empty a_s).bind fun x1 =>
  bif x1 then
  some (false, ([] : List (List (List Span))))
  else
  (F.impl_sides_touches a_s a_other).bind fun x2 =>
  bif x2 then
  (loopF (impl_sides_pieces_1_L0 a_s a_other) (((4) : Int) - 0).toNat.succ (true, 0, a_s, ([] : List (List (List Span))))).bind fun lr => lr.on (fun (_y4, _k2, _y5, y6) =>
  some (false, y6)) (fun r => some r)
  else
  (appF ([] : List (List (List Span))) [a_s]).bind fun z2 =>
  some (false, z2)


def impl_sides_pieces (a_s : List (List Span)) (a_other : List (List Span)) : Option ((List (List Span)) × (List (List Span))) :=
  some (a_s, a_other)


def impl_sides_cut (a_s : List (List Span)) (a_other : List (List Span)) : Option ((List (List (List Span))) × Bool) :=
  (F.impl_sides_pieces a_s a_other).bind fun x1 =>
  (F.impl_sides_pieces_1 x1.1 x1.2).bind fun x2 =>
  bif x2.1 then
  some (([] : List (List (List Span))), false)
  else
  some (x2.2, true)


def impl_boxesOf_L0 (a_list : List (List (List Span))) : (List Box) × Int → Option (SR ((List Box) × Int) ((List Box))) := fun (y1, k1) =>
  bif (decide (k1 < (a_list.length : Int))) then
  (idx a_list k1).bind fun x1 =>
  (F.impl_sides_box x1).bind fun x2 =>
  (appF y1 [x2]).bind fun z1 =>
  some (.nxt (z1, (W (k1 + 1))))
  else
  some (.brk (y1, k1))
def impl_boxesOf (a_list : List (List (List Span))) : Option ((List Box)) :=
  (capF (a_list.length : Int)).bind fun _u1 =>
  (loopF (impl_boxesOf_L0 a_list) ((((a_list.length : Int)) : Int) - 0).toNat.succ (([] : List Box), 0)).bind fun lr => lr.on (fun (y2, _k2) =>
  some y2) (fun r => some r)


def impl_RegionValid_L0 (a_list : List Box) : Int → Option (SR (Int) Bool) := fun k1 =>
  bif (decide (k1 < (a_list.length : Int))) then
  (idx a_list k1).bind fun x1 =>
  (F.impl_BoxValid x1).bind fun x2 =>
  bif x2 then
  some (.nxt (W (k1 + 1)))
  else
  some (.ret false)
  else
  some (.brk k1)
def impl_RegionValid (a_list : List Box) : Option Bool :=
  bif (decide (400 < (a_list.length : Int))) then
  some false
  else
  (loopF (impl_RegionValid_L0 a_list) ((((a_list.length : Int)) : Int) - 0).toNat.succ 0).bind fun lr => lr.on (fun _k2 =>
  some true) (fun r => some r)


def impl_sides_lessRegion_L1 (y1 : List (List (List Span))) (x2 : List (List Span)) : (List (List (List Span))) × Int → Option (SR ((List (List (List Span))) × Int) ((List (List (List Span))) × Bool)) := fun (y2, k2) =>
  bif (decide (k2 < (y1.length : Int))) then
  (idx y1 k2).bind fun x3 =>
  (F.impl_sides_cut x3 x2).bind fun x4 =>
  bif x4.2 then
  bif (decide (400 < (W ((y2.length : Int) + (x4.1.length : Int))))) then
  some (.ret (([] : List (List (List Span))), false))
  else
  (appF y2 x4.1).bind fun z1 =>
  some (.nxt (z1, (W (k2 + 1))))
  else
  some (.ret (([] : List (List (List Span))), false))
  else
  some (.brk (y2, k2))
def impl_sides_lessRegion_L0 (a_region : List (List (List Span))) : (List (List (List Span))) × Int → Option (SR ((List (List (List Span))) × Int) ((List (List (List Span))) × Bool)) := fun (y1, k1) =>
  bif (decide (k1 < (a_region.length : Int))) then
  (idx a_region k1).bind fun x2 =>
  (loopF (impl_sides_lessRegion_L1 y1 x2) ((((y1.length : Int)) : Int) - 0).toNat.succ (([] : List (List (List Span))), 0)).bind fun lr => lr.on (fun (y3, _k3) =>
  bif ((y3.length : Int) == 0) then
  some (.brk (y3, k1))
  else
  some (.nxt (y3, (W (k1 + 1))))) (fun r => some (.ret r))
  else
  some (.brk (y1, k1))
def impl_sides_lessRegion (a_s : List (List Span)) (a_region : List (List (List Span))) : Option ((List (List (List Span))) × Bool) :=
  (F.impl_sides_empty a_s).bind fun x1 =>
  bif x1 then
  some (([] : List (List (List Span))), true)
  else
  (loopF (impl_sides_lessRegion_L0 a_region) ((((a_region.length : Int)) : Int) - 0).toNat.succ ([a_s], 0)).bind fun lr => lr.on (fun (y4, _k4) =>
  some (y4, true)) (fun r => some r)


def impl_RegionLess_L0 (a_list : List Box) : (List (List (List Span))) × Int → Option (SR ((List (List (List Span))) × Int) ((List Box) × Bool)) := fun (y1, k1) =>
  bif (decide (k1 < (a_list.length : Int))) then
  (idx a_list k1).bind fun x3 =>
  (F.impl_sidesOf x3).bind fun x4 =>
  (appF y1 [x4]).bind fun z1 =>
  some (.nxt (z1, (W (k1 + 1))))
  else
  some (.brk (y1, k1))
def impl_RegionLess (a_b : Box) (a_list : List Box) : Option ((List Box) × Bool) :=
  (F.impl_BoxValid a_b).bind fun x1 =>
  bif x1 then
  (F.impl_RegionValid a_list).bind fun x2 =>
  bif x2 then
  (capF (a_list.length : Int)).bind fun _u1 =>
  (loopF (impl_RegionLess_L0 a_list) ((((a_list.length : Int)) : Int) - 0).toNat.succ (([] : List (List (List Span))), 0)).bind fun lr => lr.on (fun (y2, _k2) =>
  (F.impl_sidesOf a_b).bind fun x5 =>
  (F.impl_sides_lessRegion x5 y2).bind fun x6 =>
  bif x6.2 then
  (F.impl_boxesOf x6.1).bind fun x7 =>
  some (x7, true)
  else
  some (([] : List Box), false)) (fun r => some r)
  else
  some (([] : List Box), false)
  else
  some (([] : List Box), false)


def spec_l1OwnBoxList_L0 (a_list : List Box) : (List Box) × Int → Option (SR ((List Box) × Int) ((List Box))) := fun (y1, k1) =>
  bif (decide (k1 < (a_list.length : Int))) then
  (idx a_list k1).bind fun x1 =>
  (F.spec_l1OwnBox x1).bind fun x2 =>
  (appF y1 [x2]).bind fun z1 =>
  some (.nxt (z1, (W (k1 + 1))))
  else
  some (.brk (y1, k1))
def spec_l1OwnBoxList (a_list : List Box) : Option ((List Box)) :=
  (loopF (spec_l1OwnBoxList_L0 a_list) ((((a_list.length : Int)) : Int) - 0).toNat.succ (([] : List Box), 0)).bind fun lr => lr.on (fun (y2, _k2) =>
  some y2) (fun r => some r)


def spec_RegionValid_L0 (a_list : List Box) : Int → Option (SR (Int) Bool) := fun k1 =>
  bif (decide (k1 < (a_list.length : Int))) then
  (idx a_list k1).bind fun x1 =>
  (F.spec_BoxValid x1).bind fun x2 =>
  bif x2 then
  some (.nxt (W (k1 + 1)))
  else
  some (.ret false)
  else
  some (.brk k1)
def spec_RegionValid (a_list : List Box) : Option Bool :=
  (loopF (spec_RegionValid_L0 a_list) ((((a_list.length : Int)) : Int) - 0).toNat.succ 0).bind fun lr => lr.on (fun _k2 =>
  some (decide ((a_list.length : Int) ≤ 400))) (fun r => some r)


def spec_l11Less_L1 (a_list : List Box) (y1 : List Box) (k1 : Int) : (List Box) × Int → Option (SR ((List Box) × Int) ((List Box) × Bool)) := fun (y2, k2) =>
  bif (decide (k2 < (y1.length : Int))) then
  (idx y1 k2).bind fun x2 =>
  (idx a_list k1).bind fun x3 =>
  (F.spec_l11Cut x2 x3).bind fun x4 =>
  (appF y2 x4).bind fun z1 =>
  some (.nxt (z1, (W (k2 + 1))))
  else
  some (.brk (y2, k2))
def spec_l11Less_L0 (a_list : List Box) : (List Box) × Int → Option (SR ((List Box) × Int) ((List Box) × Bool)) := fun (y1, k1) =>
  bif (decide (k1 < (a_list.length : Int))) then
  (loopF (spec_l11Less_L1 a_list y1 k1) ((((y1.length : Int)) : Int) - 0).toNat.succ (([] : List Box), 0)).bind fun lr => lr.on (fun (y3, _k3) =>
  (F.spec_RegionValid y3).bind fun x5 =>
  bif x5 then
  some (.nxt (y3, (W (k1 + 1))))
  else
  some (.ret (([] : List Box), false))) (fun r => some (.ret r))
  else
  some (.brk (y1, k1))
def spec_l11Less_L3 (a_list : List Box) (y5 : List Box) (k5 : Int) : (List Box) × Int → Option (SR ((List Box) × Int) ((List Box) × Bool)) := fun (y6, k6) =>
  bif (decide (k6 < (y5.length : Int))) then
  (idx y5 k6).bind fun x6 =>
  (idx a_list k5).bind fun x7 =>
  (F.spec_l11Cut x6 x7).bind fun x8 =>
  (appF y6 x8).bind fun z3 =>
  some (.nxt (z3, (W (k6 + 1))))
  else
  some (.brk (y6, k6))
def spec_l11Less_L2 (a_list : List Box) : (List Box) × Int → Option (SR ((List Box) × Int) ((List Box) × Bool)) := fun (y5, k5) =>
  bif (decide (k5 < (a_list.length : Int))) then
  (loopF (spec_l11Less_L3 a_list y5 k5) ((((y5.length : Int)) : Int) - 0).toNat.succ (([] : List Box), 0)).bind fun lr => lr.on (fun (y7, _k7) =>
  (F.spec_RegionValid y7).bind fun x9 =>
  bif x9 then
  some (.nxt (y7, (W (k5 + 1))))
  else
  some (.ret (([] : List Box), false))) (fun r => some (.ret r))
  else
  some (.brk (y5, k5))
def spec_l11Less (a_b : Box) (a_list : List Box) : Option ((List Box) × Bool) :=
  (F.spec_l10Empty a_b).bind fun x1 =>
  bif x1 then
  (loopF (spec_l11Less_L0 a_list) ((((a_list.length : Int)) : Int) - 0).toNat.succ (([] : List Box), 0)).bind fun lr => lr.on (fun (y4, _k4) =>
  some (y4, true)) (fun r => some r)
  else
  (appF ([] : List Box) [a_b]).bind fun z2 =>
  (loopF (spec_l11Less_L2 a_list) ((((a_list.length : Int)) : Int) - 0).toNat.succ (z2, 0)).bind fun lr => lr.on (fun (y8, _k8) =>
  some (y8, true)) (fun r => some r)


def spec_RegionLess (a_b : Box) (a_list : List Box) : Option ((List Box) × Bool) :=
  (F.spec_l1OwnBox ({ Sides := a_b.Sides } : Box)).bind fun x1 =>
  (F.spec_l1OwnBoxList a_list).bind fun x2 =>
  (F.spec_BoxValid ({ Sides := x1.Sides } : Box)).bind fun x3 =>
  bif x3 then
  (F.spec_RegionValid x2).bind fun x4 =>
  bif x4 then
  (F.spec_l11Less ({ Sides := x1.Sides } : Box) x2).bind fun x5 =>
  some (x5.1, x5.2)
  else
  some (([] : List Box), false)
  else
  some (([] : List Box), false)


def laws_szSpanS (a_a : List Span) (a_left : Int) : Option Int :=
  bif (decide ((W (a_left - (a_a.length : Int))) < 0)) then
  some (-1)
  else
  some (W (a_left - (a_a.length : Int)))


def laws_szSpanSS_L0 (a_a : List (List Span)) : Int × Int → Option (SR (Int × Int) Int) := fun (k1, k2) =>
  bif (decide (k2 < (a_a.length : Int))) then
  (idx a_a k2).bind fun x1 =>
  (F.laws_szSpanS x1 k1).bind fun x2 =>
  bif (decide (x2 < 0)) then
  some (.ret (-1))
  else
  some (.nxt (x2, (W (k2 + 1))))
  else
  some (.brk (k1, k2))
def laws_szSpanSS (a_a : List (List Span)) (a_left : Int) : Option Int :=
  bif (decide ((W (a_left - (a_a.length : Int))) < 0)) then
  some (-1)
  else
  (loopF (laws_szSpanSS_L0 a_a) ((((a_a.length : Int)) : Int) - 0).toNat.succ ((W (a_left - (a_a.length : Int))), 0)).bind fun lr => lr.on (fun (k3, _k4) =>
  some k3) (fun r => some r)


def laws_szBox (a_a : Box) (a_left : Int) : Option Int :=
  (F.laws_szSpanSS a_a.Sides a_left).bind fun x1 =>
  bif (decide (x1 < 0)) then
  some (-1)
  else
  some x1


def laws_toSpan (a_a : Span) : Option Span :=
  some ({ Lo := a_a.Lo, Hi := a_a.Hi } : Span)


def laws_toSpanS_L0 (a_a : List Span) : Int × (List Span) → Option (SR (Int × (List Span)) ((List Span))) := fun (k1, y1) =>
  bif (decide (k1 < (a_a.length : Int))) then
  (idx a_a k1).bind fun x1 =>
  (F.laws_toSpan x1).bind fun x2 =>
  (idx y1 k1).bind fun _x3 =>
  some (.nxt ((W (k1 + 1)), (List.set y1 (k1 : Int).toNat x2)))
  else
  some (.brk (k1, y1))
def laws_toSpanS (a_a : List Span) : Option ((List Span)) :=
  (makeF ({ Lo := (0 : Int), Hi := (0 : Int) } : Span) (a_a.length : Int)).bind fun mk1 =>
  (loopF (laws_toSpanS_L0 a_a) ((((a_a.length : Int)) : Int) - 0).toNat.succ (0, mk1)).bind fun lr => lr.on (fun (_k2, y2) =>
  some y2) (fun r => some r)


def laws_toSpanSS_L0 (a_a : List (List Span)) : Int × (List (List Span)) → Option (SR (Int × (List (List Span))) ((List (List Span)))) := fun (k1, y1) =>
  bif (decide (k1 < (a_a.length : Int))) then
  (idx a_a k1).bind fun x1 =>
  (F.laws_toSpanS x1).bind fun x2 =>
  (idx y1 k1).bind fun _x3 =>
  some (.nxt ((W (k1 + 1)), (List.set y1 (k1 : Int).toNat x2)))
  else
  some (.brk (k1, y1))
def laws_toSpanSS (a_a : List (List Span)) : Option ((List (List Span))) :=
  (makeF ([] : List Span) (a_a.length : Int)).bind fun mk1 =>
  (loopF (laws_toSpanSS_L0 a_a) ((((a_a.length : Int)) : Int) - 0).toNat.succ (0, mk1)).bind fun lr => lr.on (fun (_k2, y2) =>
  some y2) (fun r => some r)


def laws_toBox (a_a : Box) : Option Box :=
  (F.laws_toSpanSS a_a.Sides).bind fun x1 =>
  some ({ Sides := x1 } : Box)


def laws_eqSpan (a_a : Span) (a_b : Span) : Option Bool :=
  bif (a_a.Lo != a_b.Lo) then
  some false
  else
  bif (a_a.Hi != a_b.Hi) then
  some false
  else
  some true


def laws_eqSpanS_L0 (a_a : List Span) (a_b : List Span) : Int → Option (SR (Int) Bool) := fun k1 =>
  bif (decide (k1 < (a_a.length : Int))) then
  (idx a_a k1).bind fun x1 =>
  (idx a_b k1).bind fun x2 =>
  (F.laws_eqSpan x1 x2).bind fun x3 =>
  bif x3 then
  some (.nxt (W (k1 + 1)))
  else
  some (.ret false)
  else
  some (.brk k1)
def laws_eqSpanS (a_a : List Span) (a_b : List Span) : Option Bool :=
  bif ((a_a.length : Int) != (a_b.length : Int)) then
  some false
  else
  (loopF (laws_eqSpanS_L0 a_a a_b) ((((a_a.length : Int)) : Int) - 0).toNat.succ 0).bind fun lr => lr.on (fun _k2 =>
  some true) (fun r => some r)


def laws_eqSpanSS_L0 (a_a : List (List Span)) (a_b : List (List Span)) : Int → Option (SR (Int) Bool) := fun k1 =>
  bif (decide (k1 < (a_a.length : Int))) then
  (idx a_a k1).bind fun x1 =>
  (idx a_b k1).bind fun x2 =>
  (F.laws_eqSpanS x1 x2).bind fun x3 =>
  bif x3 then
  some (.nxt (W (k1 + 1)))
  else
  some (.ret false)
  else
  some (.brk k1)
def laws_eqSpanSS (a_a : List (List Span)) (a_b : List (List Span)) : Option Bool :=
  bif ((a_a.length : Int) != (a_b.length : Int)) then
  some false
  else
  (loopF (laws_eqSpanSS_L0 a_a a_b) ((((a_a.length : Int)) : Int) - 0).toNat.succ 0).bind fun lr => lr.on (fun _k2 =>
  some true) (fun r => some r)


def laws_eqBox (a_a : Box) (a_b : Box) : Option Bool :=
  (F.laws_eqSpanSS a_a.Sides a_b.Sides).bind fun x1 =>
  bif x1 then
  some true
  else
  some false


def impl_callsIn_L1 (y2 : List Bool) : (List Int) × Int → Option (SR ((List Int) × Int) ((List Int))) := fun (y3, k3) =>
  bif (decide (k3 < 5)) then
  (idx y2 k3).bind fun x3 =>
  bif x3 then
  (appF y3 [k3]).bind fun z1 =>
  some (.nxt (z1, (W (k3 + 1))))
  else
  some (.nxt (y3, (W (k3 + 1))))
  else
  some (.brk (y3, k3))
def impl_callsIn_L0 (a_rules : List Rule) : Int × (List Bool) → Option (SR (Int × (List Bool)) ((List Int))) := fun (k1, y1) =>
  bif (decide (k1 < (a_rules.length : Int))) then
  (idx a_rules k1).bind fun x1 =>
  bif (x1.Action == 3) then
  (idx y1 x1.Chain).bind fun _x2 =>
  some (.nxt ((W (k1 + 1)), (List.set y1 (x1.Chain : Int).toNat true)))
  else
  some (.nxt ((W (k1 + 1)), y1))
  else
  some (.brk (k1, y1))
def impl_callsIn (a_rules : List Rule) : Option ((List Int)) :=
  (loopF (impl_callsIn_L0 a_rules) ((((a_rules.length : Int)) : Int) - 0).toNat.succ (0, [false, false, false, false, false])).bind fun lr => lr.on (fun (_k2, y2) =>
  (loopF (impl_callsIn_L1 y2) (((5) : Int) - 0).toNat.succ (([] : List Int), 0)).bind fun lr => lr.on (fun (y4, _k4) =>
  some y4) (fun r => some r)) (fun r => some r)


def impl_TestValid (a_t : Test) : Option Bool :=
  bif (decide (0 ≤ a_t.Field)) then
  bif (decide (a_t.Field < 4)) then
  bif (decide (0 ≤ a_t.Lo)) then
  bif (decide (a_t.Lo ≤ a_t.Hi)) then
  (F.impl_FieldTop a_t.Field).bind fun x1 =>
  some (decide (a_t.Hi ≤ x1))
  else
  some false
  else
  some false
  else
  some false
  else
  some false


def impl_TestsValid_L0 (a_list : List Test) : Int → Option (SR (Int) Bool) := fun k1 =>
  bif (decide (k1 < (a_list.length : Int))) then
  (idx a_list k1).bind fun x1 =>
  (F.impl_TestValid x1).bind fun x2 =>
  bif x2 then
  some (.nxt (W (k1 + 1)))
  else
  some (.ret false)
  else
  some (.brk k1)
def impl_TestsValid (a_list : List Test) : Option Bool :=
  bif (decide (6 < (a_list.length : Int))) then
  some false
  else
  (loopF (impl_TestsValid_L0 a_list) ((((a_list.length : Int)) : Int) - 0).toNat.succ 0).bind fun lr => lr.on (fun _k2 =>
  some true) (fun r => some r)


def laws_markSpanS_L0 (a_a : List Span) : Int × Int → Option (SR (Int × Int) Int) := fun (k1, k2) =>
  bif (decide (k2 < (a_a.length : Int))) then
  (idx a_a k2).bind fun _x1 =>
  some (.nxt ((W ((W (k1 + 1)) + 1)), (W (k2 + 1))))
  else
  some (.brk (k1, k2))
def laws_markSpanS (a_a : List Span) (a_k : Int) : Option Int :=
  (loopF (laws_markSpanS_L0 a_a) ((((a_a.length : Int)) : Int) - 0).toNat.succ (a_k, 0)).bind fun lr => lr.on (fun (k3, _k4) =>
  some k3) (fun r => some r)


def laws_markSpanS_r_L0 : Int × Int × (List Span) → Option (SR (Int × Int × (List Span)) (Int × (List Span))) := fun (k1, k2, y1) =>
  bif (decide (k2 < (y1.length : Int))) then
  (idx y1 k2).bind fun x1 =>
  (idx (List.set y1 (k2 : Int).toNat { x1 with Lo := k1 }) k2).bind fun x2 =>
  some (.nxt ((W ((W (k1 + 1)) + 1)), (W (k2 + 1)), (List.set (List.set y1 (k2 : Int).toNat { x1 with Lo := k1 }) (k2 : Int).toNat { x2 with Hi := (W (k1 + 1)) })))
  else
  some (.brk (k1, k2, y1))
def laws_markSpanS_r (a_a : List Span) (a_k : Int) : Option (Int × (List Span)) :=
  (loopF (laws_markSpanS_r_L0) ((a_a.length : Int) - 0).toNat.succ (a_k, 0, a_a)).bind fun lr => lr.on (fun (k3, _k4, y2) =>
  some (k3, y2)) (fun r => some r)


def laws_markSpanSS_L0 (a_a : List (List Span)) : Int × Int → Option (SR (Int × Int) Int) := fun (k1, k2) =>
  bif (decide (k2 < (a_a.length : Int))) then
  (idx a_a k2).bind fun x1 =>
  (F.laws_markSpanS x1 k1).bind fun x2 =>
  some (.nxt (x2, (W (k2 + 1))))
  else
  some (.brk (k1, k2))
def laws_markSpanSS (a_a : List (List Span)) (a_k : Int) : Option Int :=
  (loopF (laws_markSpanSS_L0 a_a) ((((a_a.length : Int)) : Int) - 0).toNat.succ (a_k, 0)).bind fun lr => lr.on (fun (k3, _k4) =>
  some k3) (fun r => some r)


def laws_markSpanSS_r_L0 : Int × Int × (List (List Span)) → Option (SR (Int × Int × (List (List Span))) (Int × (List (List Span)))) := fun (k1, k2, y1) =>
  bif (decide (k2 < (y1.length : Int))) then
  (idx y1 k2).bind fun x1 =>
  (F.laws_markSpanS_r x1 k1).bind fun x2 =>
  some (.nxt (x2.1, (W (k2 + 1)), (List.set y1 (k2 : Int).toNat x2.2)))
  else
  some (.brk (k1, k2, y1))
def laws_markSpanSS_r (a_a : List (List Span)) (a_k : Int) : Option (Int × (List (List Span))) :=
  (loopF (laws_markSpanSS_r_L0) ((a_a.length : Int) - 0).toNat.succ (a_k, 0, a_a)).bind fun lr => lr.on (fun (k3, _k4, y2) =>
  some (k3, y2)) (fun r => some r)


def laws_markBox (a_a : Box) (a_k : Int) : Option Int :=
  (F.laws_markSpanSS a_a.Sides a_k).bind fun x1 =>
  some x1


def laws_heldSpanS_L0 (a_a : List Span) : Int × Int → Option (SR (Int × Int) Int) := fun (k1, k2) =>
  bif (decide (k2 < (a_a.length : Int))) then
  (idx a_a k2).bind fun x1 =>
  bif (x1.Lo != k1) then
  some (.ret (-1))
  else
  bif (x1.Hi != (W (k1 + 1))) then
  some (.ret (-1))
  else
  some (.nxt ((W ((W (k1 + 1)) + 1)), (W (k2 + 1))))
  else
  some (.brk (k1, k2))
def laws_heldSpanS (a_a : List Span) (a_k : Int) : Option Int :=
  (loopF (laws_heldSpanS_L0 a_a) ((((a_a.length : Int)) : Int) - 0).toNat.succ (a_k, 0)).bind fun lr => lr.on (fun (k3, _k4) =>
  some k3) (fun r => some r)


def laws_heldSpanSS_L0 (a_a : List (List Span)) : Int × Int → Option (SR (Int × Int) Int) := fun (k1, k2) =>
  bif (decide (k2 < (a_a.length : Int))) then
  (idx a_a k2).bind fun x1 =>
  (F.laws_heldSpanS x1 k1).bind fun x2 =>
  bif (decide (x2 < 0)) then
  some (.ret (-1))
  else
  some (.nxt (x2, (W (k2 + 1))))
  else
  some (.brk (k1, k2))
def laws_heldSpanSS (a_a : List (List Span)) (a_k : Int) : Option Int :=
  (loopF (laws_heldSpanSS_L0 a_a) ((((a_a.length : Int)) : Int) - 0).toNat.succ (a_k, 0)).bind fun lr => lr.on (fun (k3, _k4) =>
  some k3) (fun r => some r)


def impl_allSides_L0 : Int × (List (List Span)) → Option (SR (Int × (List (List Span))) ((List (List Span)))) := fun (k1, y1) =>
  bif (decide (k1 < 4)) then
  (F.impl_FieldTop k1).bind fun x1 =>
  (idx y1 k1).bind fun _x2 =>
  some (.nxt ((W (k1 + 1)), (List.set y1 (k1 : Int).toNat [({ Lo := 0, Hi := x1 } : Span)])))
  else
  some (.brk (k1, y1))
def impl_allSides : Option ((List (List Span))) :=
  (loopF (impl_allSides_L0) (((4) : Int) - 0).toNat.succ (0, [([] : List Span), ([] : List Span), ([] : List Span), ([] : List Span)])).bind fun lr => lr.on (fun (_k2, y2) =>
  some y2) (fun r => some r)


def impl_Test_spans (a_t : Test) : Option ((List Span)) :=
  bif a_t.Not then
  bif (decide (0 < a_t.Lo)) then
  (appF ([] : List Span) [({ Lo := 0, Hi := (W (a_t.Lo - 1)) } : Span)]).bind fun z1 =>
  (F.impl_FieldTop a_t.Field).bind fun x1 =>
  bif (decide (a_t.Hi < x1)) then
  (appF z1 [({ Lo := (W (a_t.Hi + 1)), Hi := x1 } : Span)]).bind fun z2 =>
  some z2
  else
  some z1
  else
  (F.impl_FieldTop a_t.Field).bind fun x2 =>
  bif (decide (a_t.Hi < x2)) then
  (appF ([] : List Span) [({ Lo := (W (a_t.Hi + 1)), Hi := x2 } : Span)]).bind fun z3 =>
  some z3
  else
  some ([] : List Span)
  else
  some [({ Lo := a_t.Lo, Hi := a_t.Hi } : Span)]


def impl_testsSides_L0 (a_list : List Test) : Int × (List (List Span)) → Option (SR (Int × (List (List Span))) ((List (List Span)))) := fun (k1, y1) =>
  bif (decide (k1 < (a_list.length : Int))) then
  (idx a_list k1).bind fun x2 =>
  (idx y1 x2.Field).bind fun x3 =>
  (F.impl_Test_spans x2).bind fun x4 =>
  (F.impl_FieldTop x2.Field).bind fun x5 =>
  (F.impl_meetSpans x3 x4 x5).bind fun x6 =>
  some (.nxt ((W (k1 + 1)), (List.set y1 (x2.Field : Int).toNat x6.1)))
  else
  some (.brk (k1, y1))
def impl_testsSides (a_list : List Test) : Option ((List (List Span))) :=
  (F.impl_allSides).bind fun x1 =>
  (loopF (impl_testsSides_L0 a_list) ((((a_list.length : Int)) : Int) - 0).toNat.succ (0, x1)).bind fun lr => lr.on (fun (_k2, y2) =>
  some y2) (fun r => some r)


def impl_TestsBox (a_list : List Test) : Option Box :=
  (F.impl_TestsValid a_list).bind fun x1 =>
  bif x1 then
  (F.impl_testsSides a_list).bind fun x2 =>
  (F.impl_sides_box x2).bind fun x3 =>
  some ({ Sides := x3.Sides } : Box)
  else
  some ({ Sides := ([] : List (List Span)) } : Box)


def laws_eqBoxS_L0 (a_a : List Box) (a_b : List Box) : Int → Option (SR (Int) Bool) := fun k1 =>
  bif (decide (k1 < (a_a.length : Int))) then
  (idx a_a k1).bind fun x1 =>
  (idx a_b k1).bind fun x2 =>
  (F.laws_eqBox x1 x2).bind fun x3 =>
  bif x3 then
  some (.nxt (W (k1 + 1)))
  else
  some (.ret false)
  else
  some (.brk k1)
def laws_eqBoxS (a_a : List Box) (a_b : List Box) : Option Bool :=
  bif ((a_a.length : Int) != (a_b.length : Int)) then
  some false
  else
  (loopF (laws_eqBoxS_L0 a_a a_b) ((((a_a.length : Int)) : Int) - 0).toNat.succ 0).bind fun lr => lr.on (fun _k2 =>
  some true) (fun r => some r)


def laws_markBoxS_L0 (a_a : List Box) : Int × Int → Option (SR (Int × Int) Int) := fun (k1, k2) =>
  bif (decide (k2 < (a_a.length : Int))) then
  (idx a_a k2).bind fun x1 =>
  (F.laws_markSpanSS x1.Sides k1).bind fun x2 =>
  some (.nxt (x2, (W (k2 + 1))))
  else
  some (.brk (k1, k2))
def laws_markBoxS (a_a : List Box) (a_k : Int) : Option Int :=
  (loopF (laws_markBoxS_L0 a_a) ((((a_a.length : Int)) : Int) - 0).toNat.succ (a_k, 0)).bind fun lr => lr.on (fun (k3, _k4) =>
  some k3) (fun r => some r)


def laws_markBoxS_r_L0 : Int × Int × (List Box) → Option (SR (Int × Int × (List Box)) (Int × (List Box))) := fun (k1, k2, y1) =>
  bif (decide (k2 < (y1.length : Int))) then
  (idx y1 k2).bind fun x1 =>
  (F.laws_markSpanSS_r x1.Sides k1).bind fun x2 =>
  some (.nxt (x2.1, (W (k2 + 1)), (List.set y1 (k2 : Int).toNat ({ Sides := x2.2 } : Box))))
  else
  some (.brk (k1, k2, y1))
def laws_markBoxS_r (a_a : List Box) (a_k : Int) : Option (Int × (List Box)) :=
  (loopF (laws_markBoxS_r_L0) ((a_a.length : Int) - 0).toNat.succ (a_k, 0, a_a)).bind fun lr => lr.on (fun (k3, _k4, y2) =>
  some (k3, y2)) (fun r => some r)


def laws_heldBoxS_L0 (a_a : List Box) : Int × Int → Option (SR (Int × Int) Int) := fun (k1, k2) =>
  bif (decide (k2 < (a_a.length : Int))) then
  (idx a_a k2).bind fun x1 =>
  (F.laws_heldSpanSS x1.Sides k1).bind fun x2 =>
  bif (decide (x2 < 0)) then
  some (.ret (-1))
  else
  some (.nxt (x2, (W (k2 + 1))))
  else
  some (.brk (k1, k2))
def laws_heldBoxS (a_a : List Box) (a_k : Int) : Option Int :=
  (loopF (laws_heldBoxS_L0 a_a) ((((a_a.length : Int)) : Int) - 0).toNat.succ (a_k, 0)).bind fun lr => lr.on (fun (k3, _k4) =>
  some k3) (fun r => some r)


def laws_szBoxS_L0 (a_a : List Box) : Int × Int → Option (SR (Int × Int) Int) := fun (k1, k2) =>
  bif (decide (k2 < (a_a.length : Int))) then
  (idx a_a k2).bind fun x1 =>
  (F.laws_szBox x1 k1).bind fun x2 =>
  bif (decide (x2 < 0)) then
  some (.ret (-1))
  else
  some (.nxt (x2, (W (k2 + 1))))
  else
  some (.brk (k1, k2))
def laws_szBoxS (a_a : List Box) (a_left : Int) : Option Int :=
  bif (decide ((W (a_left - (a_a.length : Int))) < 0)) then
  some (-1)
  else
  (loopF (laws_szBoxS_L0 a_a) ((((a_a.length : Int)) : Int) - 0).toNat.succ ((W (a_left - (a_a.length : Int))), 0)).bind fun lr => lr.on (fun (k3, _k4) =>
  some k3) (fun r => some r)


def laws_toBoxS_L0 (a_a : List Box) : Int × (List Box) → Option (SR (Int × (List Box)) ((List Box))) := fun (k1, y1) =>
  bif (decide (k1 < (a_a.length : Int))) then
  (idx a_a k1).bind fun x1 =>
  (F.laws_toBox x1).bind fun x2 =>
  (idx y1 k1).bind fun _x3 =>
  some (.nxt ((W (k1 + 1)), (List.set y1 (k1 : Int).toNat x2)))
  else
  some (.brk (k1, y1))
def laws_toBoxS (a_a : List Box) : Option ((List Box)) :=
  (makeF ({ Sides := ([] : List (List Span)) } : Box) (a_a.length : Int)).bind fun mk1 =>
  (loopF (laws_toBoxS_L0 a_a) ((((a_a.length : Int)) : Int) - 0).toNat.succ (0, mk1)).bind fun lr => lr.on (fun (_k2, y2) =>
  some y2) (fun r => some r)


def laws_FnExactRegionLess (a_aB : Box) (a_aList : List Box) : Option Bool :=
  (F.laws_szBox a_aB 1048576).bind fun x1 =>
  bif (decide (x1 < 0)) then
  some true
  else
  (F.laws_szBoxS a_aList x1).bind fun x2 =>
  bif (decide (x2 < 0)) then
  some true
  else
  (F.laws_toBox a_aB).bind fun x3 =>
  (F.laws_toBoxS a_aList).bind fun x4 =>
  (F.spec_RegionLess x3 x4).bind fun x5 =>
  (F.impl_RegionLess ({ Sides := x3.Sides } : Box) x4).bind fun x6 =>
  (F.laws_eqBoxS x6.1 x5.1).bind fun x7 =>
  bif x7 then
  bif (x6.2 != x5.2) then
  some false
  else
  (F.laws_eqBox ({ Sides := x3.Sides } : Box) x3).bind fun x8 =>
  bif x8 then
  (F.laws_eqBoxS x4 x4).bind fun x9 =>
  bif x9 then
  (F.laws_markBox x3 1).bind fun x10 =>
  (F.laws_markBoxS x4 x10).bind fun x11 =>
  bif (decide (x11 < 0)) then
  some false
  else
  (F.laws_markBoxS_r x6.1 1).bind fun x12 =>
  (F.laws_heldBoxS x12.2 1).bind fun x13 =>
  bif (decide (x13 < 0)) then
  some false
  else
  bif (x13 != x12.1) then
  some false
  else
  (F.impl_RegionLess x3 x4).bind fun x14 =>
  (F.laws_eqBoxS x14.1 x5.1).bind fun x15 =>
  bif x15 then
  bif (x14.2 != x5.2) then
  some false
  else
  some true
  else
  some false
  else
  some false
  else
  some false
  else
  some false


end Go.PF.F
