/- The program's functions as plain functions; no condition. -/
import Derived.Test.YtadlmencjbangaaDoorPFEls
namespace Go.PF.F
open Go Go.PF

def laws_sameSpans_L0 (a_a : List Span) (a_b : List Span) : Int → Option (SR (Int) Bool) := fun k1 =>
  bif (decide (k1 < (a_a.length : Int))) then
  (idx a_a k1).bind fun x1 =>
  (idx a_b k1).bind fun x2 =>
  bif (!(decide (x1 = x2))) then
  some (.ret false)
  else
  some (.nxt (W (k1 + 1)))
  else
  some (.brk k1)
def laws_sameSpans (a_a : List Span) (a_b : List Span) : Option Bool :=
  bif ((a_a.length : Int) != (a_b.length : Int)) then
  some false
  else
  (loopF (laws_sameSpans_L0 a_a a_b) ((((a_a.length : Int)) : Int) - 0).toNat.succ 0).bind fun lr => lr.on (fun _k2 =>
  some true) (fun r => some r)


def laws_sameBox_L0 (a_a : Box) (a_b : Box) : Int → Option (SR (Int) Bool) := fun k1 =>
  bif (decide (k1 < (a_a.Sides.length : Int))) then
  (idx a_a.Sides k1).bind fun x1 =>
  (idx a_b.Sides k1).bind fun x2 =>
  (F.laws_sameSpans x1 x2).bind fun x3 =>
  bif x3 then
  some (.nxt (W (k1 + 1)))
  else
  some (.ret false)
  else
  some (.brk k1)
def laws_sameBox (a_a : Box) (a_b : Box) : Option Bool :=
  bif ((a_a.Sides.length : Int) != (a_b.Sides.length : Int)) then
  some false
  else
  (loopF (laws_sameBox_L0 a_a a_b) ((((a_a.Sides.length : Int)) : Int) - 0).toNat.succ 0).bind fun lr => lr.on (fun _k2 =>
  some true) (fun r => some r)


def laws_sameBoxes_L0 (a_a : List Box) (a_b : List Box) : Int → Option (SR (Int) Bool) := fun k1 =>
  bif (decide (k1 < (a_a.length : Int))) then
  (idx a_a k1).bind fun x1 =>
  (idx a_b k1).bind fun x2 =>
  (F.laws_sameBox x1 x2).bind fun x3 =>
  bif x3 then
  some (.nxt (W (k1 + 1)))
  else
  some (.ret false)
  else
  some (.brk k1)
def laws_sameBoxes (a_a : List Box) (a_b : List Box) : Option Bool :=
  bif ((a_a.length : Int) != (a_b.length : Int)) then
  some false
  else
  (loopF (laws_sameBoxes_L0 a_a a_b) ((((a_a.length : Int)) : Int) - 0).toNat.succ 0).bind fun lr => lr.on (fun _k2 =>
  some true) (fun r => some r)


def spec_l1In (a_n : Int) (a_lo : Int) (a_hi : Int) : Option Bool :=
  bif (decide (a_lo ≤ a_n)) then
  some (decide (a_n ≤ a_hi))
  else
  some false


def spec_SpansValid_L0 (a_list : List Span) (a_top : Int) : Int → Option (SR (Int) Bool) := fun k1 =>
  bif (decide (k1 < (a_list.length : Int))) then
  (idx a_list k1).bind fun x1 =>
  (F.spec_l1In x1.Lo 0 x1.Hi).bind fun x2 =>
  bif x2 then
  (F.spec_l1In x1.Hi 0 a_top).bind fun x3 =>
  bif x3 then
  bif (decide (0 < k1)) then
  (idx a_list (W (k1 - 1))).bind fun x4 =>
  bif (decide (x1.Lo < (W (x4.Hi + 2)))) then
  some (.ret false)
  else
  some (.nxt (W (k1 + 1)))
  else
  some (.nxt (W (k1 + 1)))
  else
  some (.ret false)
  else
  some (.ret false)
  else
  some (.brk k1)
def spec_SpansValid (a_list : List Span) (a_top : Int) : Option Bool :=
  (loopF (spec_SpansValid_L0 a_list a_top) ((((a_list.length : Int)) : Int) - 0).toNat.succ 0).bind fun lr => lr.on (fun _k2 =>
  (F.spec_l1In a_top 0 65535).bind fun x5 =>
  bif x5 then
  some (decide ((a_list.length : Int) ≤ 40))
  else
  some false) (fun r => some r)


def spec_FieldTop (a_n : Int) : Option Int :=
  bif (a_n == 0) then
  some 65535
  else
  bif (a_n == 1) then
  some 65535
  else
  bif (a_n == 2) then
  some 255
  else
  bif (a_n == 3) then
  some 7
  else
  some (-1)


def spec_BoxValid_L0 (a_b : Box) : Int → Option (SR (Int) Bool) := fun k1 =>
  bif (decide (k1 < (a_b.Sides.length : Int))) then
  bif (decide (4 ≤ k1)) then
  some (.ret false)
  else
  (idx a_b.Sides k1).bind fun x1 =>
  (F.spec_FieldTop k1).bind fun x2 =>
  (F.spec_SpansValid x1 x2).bind fun x3 =>
  bif x3 then
  some (.nxt (W (k1 + 1)))
  else
  some (.ret false)
  else
  some (.brk k1)
def spec_BoxValid (a_b : Box) : Option Bool :=
  (loopF (spec_BoxValid_L0 a_b) ((((a_b.Sides.length : Int)) : Int) - 0).toNat.succ 0).bind fun lr => lr.on (fun _k2 =>
  some ((a_b.Sides.length : Int) == 4)) (fun r => some r)


def spec_l1OwnRowsSpan_L0 (a_list : List (List Span)) : (List (List Span)) × Int → Option (SR ((List (List Span)) × Int) ((List (List Span)))) := fun (y1, k1) =>
  bif (decide (k1 < (a_list.length : Int))) then
  (idx a_list k1).bind fun x1 =>
  (appF ([] : List Span) x1).bind fun z1 =>
  (appF y1 [z1]).bind fun z2 =>
  some (.nxt (z2, (W (k1 + 1))))
  else
  some (.brk (y1, k1))
def spec_l1OwnRowsSpan (a_list : List (List Span)) : Option ((List (List Span))) :=
  (loopF (spec_l1OwnRowsSpan_L0 a_list) ((((a_list.length : Int)) : Int) - 0).toNat.succ (([] : List (List Span)), 0)).bind fun lr => lr.on (fun (y2, _k2) =>
  some y2) (fun r => some r)


def spec_l1OwnBox (a_x : Box) : Option Box :=
  (F.spec_l1OwnRowsSpan a_x.Sides).bind fun x1 =>
  some ({ Sides := x1 } : Box)


def spec_l10Empty_L0 (a_b : Box) : Int → Option (SR (Int) Bool) := fun k1 =>
  bif (decide (k1 < (a_b.Sides.length : Int))) then
  (idx a_b.Sides k1).bind fun x1 =>
  bif ((x1.length : Int) == 0) then
  some (.ret true)
  else
  some (.nxt (W (k1 + 1)))
  else
  some (.brk k1)
def spec_l10Empty (a_b : Box) : Option Bool :=
  (loopF (spec_l10Empty_L0 a_b) ((((a_b.Sides.length : Int)) : Int) - 0).toNat.succ 0).bind fun lr => lr.on (fun _k2 =>
  some false) (fun r => some r)


def spec_l2Meet_L1 (a_a : List Span) (a_b : List Span) (k1 : Int) : (List Span) × Int → Option (SR ((List Span) × Int) ((List Span))) := fun (y2, k2) =>
  bif (decide (k2 < (a_b.length : Int))) then
  (idx a_a k1).bind fun x1 =>
  (idx a_b k2).bind fun x2 =>
  bif (decide ((imax x1.Lo x2.Lo) ≤ (imin x1.Hi x2.Hi))) then
  (appF y2 [({ Lo := (imax x1.Lo x2.Lo), Hi := (imin x1.Hi x2.Hi) } : Span)]).bind fun z1 =>
  some (.nxt (z1, (W (k2 + 1))))
  else
  some (.nxt (y2, (W (k2 + 1))))
  else
  some (.brk (y2, k2))
def spec_l2Meet_L0 (a_a : List Span) (a_b : List Span) : (List Span) × Int → Option (SR ((List Span) × Int) ((List Span))) := fun (y1, k1) =>
  bif (decide (k1 < (a_a.length : Int))) then
  (loopF (spec_l2Meet_L1 a_a a_b k1) ((((a_b.length : Int)) : Int) - 0).toNat.succ (y1, 0)).bind fun lr => lr.on (fun (y3, _k3) =>
  some (.nxt (y3, (W (k1 + 1))))) (fun r => some (.ret r))
  else
  some (.brk (y1, k1))
def spec_l2Meet (a_a : List Span) (a_b : List Span) : Option ((List Span)) :=
  (loopF (spec_l2Meet_L0 a_a a_b) ((((a_a.length : Int)) : Int) - 0).toNat.succ (([] : List Span), 0)).bind fun lr => lr.on (fun (y4, _k4) =>
  some y4) (fun r => some r)


def spec_l10Meet_L0 (a_a : Box) (a_b : Box) : Int × (List (List Span)) → Option (SR (Int × (List (List Span))) Box) := fun (k1, y1) =>
  bif (decide (k1 < 4)) then
  (idx a_a.Sides k1).bind fun x1 =>
  (idx a_b.Sides k1).bind fun x2 =>
  (F.spec_l2Meet x1 x2).bind fun x3 =>
  (appF y1 [x3]).bind fun z1 =>
  some (.nxt ((W (k1 + 1)), z1))
  else
  some (.brk (k1, y1))
def spec_l10Meet (a_a : Box) (a_b : Box) : Option Box :=
  (loopF (spec_l10Meet_L0 a_a a_b) (((4) : Int) - 0).toNat.succ (0, ([] : List (List Span)))).bind fun lr => lr.on (fun (_k2, y2) =>
  some ({ Sides := y2 } : Box)) (fun r => some r)


def spec_l2Other_L0 (a_a : List Span) : (List Span) × Int × Int → Option (SR ((List Span) × Int × Int) ((List Span))) := fun (y1, k1, k2) =>
  bif (decide (k2 < (a_a.length : Int))) then
  (idx a_a k2).bind fun x1 =>
  bif (decide (k1 < x1.Lo)) then
  (appF y1 [({ Lo := k1, Hi := (W (x1.Lo - 1)) } : Span)]).bind fun z1 =>
  some (.nxt (z1, (W (x1.Hi + 1)), (W (k2 + 1))))
  else
  some (.nxt (y1, (W (x1.Hi + 1)), (W (k2 + 1))))
  else
  some (.brk (y1, k1, k2))
def spec_l2Other (a_a : List Span) (a_top : Int) : Option ((List Span)) :=
  (loopF (spec_l2Other_L0 a_a) ((((a_a.length : Int)) : Int) - 0).toNat.succ (([] : List Span), 0, 0)).bind fun lr => lr.on (fun (y2, k3, _k4) =>
  bif (decide (k3 ≤ a_top)) then
  (appF y2 [({ Lo := k3, Hi := a_top } : Span)]).bind fun z2 =>
  some z2
  else
  some y2) (fun r => some r)


def spec_l11Cut_L0 (a_b : Box) : (List Box) × Int × (List (List Span)) → Option (SR ((List Box) × Int × (List (List Span))) ((List Box))) := fun (y1, k1, y2) =>
  bif (decide (k1 < 4)) then
  (idx y2 k1).bind fun x4 =>
  (idx a_b.Sides k1).bind fun x5 =>
  (F.spec_FieldTop k1).bind fun x6 =>
  (F.spec_l2Other x5 x6).bind fun x7 =>
  (F.spec_l2Meet x4 x7).bind fun x8 =>
  (F.spec_l2Meet x4 x5).bind fun x9 =>
  bif (decide (0 < (x8.length : Int))) then
  (F.spec_l1OwnRowsSpan y2).bind fun x10 =>
  (idx x10 k1).bind fun _x11 =>
  (appF y1 [({ Sides := (List.set x10 (k1 : Int).toNat x8) } : Box)]).bind fun z2 =>
  some (.nxt (z2, (W (k1 + 1)), (List.set x10 (k1 : Int).toNat x9)))
  else
  (F.spec_l1OwnRowsSpan y2).bind fun x12 =>
  (idx x12 k1).bind fun _x13 =>
  some (.nxt (y1, (W (k1 + 1)), (List.set x12 (k1 : Int).toNat x9)))
  else
  some (.brk (y1, k1, y2))
def spec_l11Cut (a_a : Box) (a_b : Box) : Option ((List Box)) :=
  (F.spec_l10Meet a_a a_b).bind fun x1 =>
  (F.spec_l10Empty x1).bind fun x2 =>
  bif x2 then
  (F.spec_l10Empty a_a).bind fun x3 =>
  bif x3 then
  some ([] : List Box)
  else
  (appF ([] : List Box) [a_a]).bind fun z1 =>
  some z1
  else
  (loopF (spec_l11Cut_L0 a_b) (((4) : Int) - 0).toNat.succ (([] : List Box), 0, a_a.Sides)).bind fun lr => lr.on (fun (y3, _k2, _y4) =>
  some y3) (fun r => some r)


def spec_BoxCut_L0 (x5 : List Box) : Int → Option (SR (Int) ((List Box))) := fun k1 =>
  bif (decide (k1 < (x5.length : Int))) then
  (idx x5 k1).bind fun x6 =>
  (F.spec_BoxValid x6).bind fun x7 =>
  bif x7 then
  some (.nxt (W (k1 + 1)))
  else
  some (.ret ([] : List Box))
  else
  some (.brk k1)
def spec_BoxCut (a_a : Box) (a_b : Box) : Option ((List Box)) :=
  (F.spec_l1OwnBox ({ Sides := a_a.Sides } : Box)).bind fun x1 =>
  (F.spec_l1OwnBox ({ Sides := a_b.Sides } : Box)).bind fun x2 =>
  (F.spec_BoxValid ({ Sides := x1.Sides } : Box)).bind fun x3 =>
  bif x3 then
  (F.spec_BoxValid ({ Sides := x2.Sides } : Box)).bind fun x4 =>
  bif x4 then
  (F.spec_l11Cut ({ Sides := x1.Sides } : Box) ({ Sides := x2.Sides } : Box)).bind fun x5 =>
  (loopF (spec_BoxCut_L0 x5) ((((x5.length : Int)) : Int) - 0).toNat.succ 0).bind fun lr => lr.on (fun _k2 =>
  some x5) (fun r => some r)
  else
  some ([] : List Box)
  else
  some ([] : List Box)


def impl_SpansHave_L0 (a_list : List Span) (a_n : Int) : Int → Option (SR (Int) Bool) := fun k1 =>
  bif (decide (k1 < (a_list.length : Int))) then
  (idx a_list k1).bind fun x1 =>
  bif (decide (x1.Lo ≤ a_n)) then
  bif (decide (a_n ≤ x1.Hi)) then
  some (.ret true)
  else
  some (.nxt (W (k1 + 1)))
  else
  some (.nxt (W (k1 + 1)))
  else
  some (.brk k1)
def impl_SpansHave (a_list : List Span) (a_n : Int) : Option Bool :=
  (loopF (impl_SpansHave_L0 a_list a_n) ((((a_list.length : Int)) : Int) - 0).toNat.succ 0).bind fun lr => lr.on (fun _k2 =>
  some false) (fun r => some r)


def laws_alive : Option Bool :=
  (F.impl_SpansHave [({ Lo := 2, Hi := 4 } : Span)] 3).bind fun x1 =>
  some x1


def laws_probe_L1 (a_list : List Box) (a_seed : Int) (k1 : Int) : Int × (List Int) → Option (SR (Int × (List Int)) Packet) := fun (k2, y2) =>
  bif (decide (k2 < 4)) then
  (idx a_list k1).bind fun x1 =>
  bif (decide (k2 < (x1.Sides.length : Int))) then
  (idx x1.Sides k2).bind fun x2 =>
  bif ((x2.length : Int) == 0) then
  some (.nxt ((W (k2 + 1)), y2))
  else
  bif ((((W ((W (a_seed + k1)) + k2))).tmod 3) == 0) then
  some (.nxt ((W (k2 + 1)), y2))
  else
  (nzF (x2.length : Int)).bind fun _u1 =>
  (idx x2 (((W (a_seed + k2))).tmod (x2.length : Int))).bind fun x3 =>
  (idx y2 k2).bind fun _x4 =>
  bif ((((W (a_seed + k1))).tmod 2) == 0) then
  (idx (List.set y2 (k2 : Int).toNat x3.Lo) k2).bind fun _x5 =>
  some (.nxt ((W (k2 + 1)), (List.set (List.set y2 (k2 : Int).toNat x3.Lo) (k2 : Int).toNat x3.Hi)))
  else
  some (.nxt ((W (k2 + 1)), (List.set y2 (k2 : Int).toNat x3.Lo)))
  else
  some (.brk (k2, y2))
  else
  some (.brk (k2, y2))
def laws_probe_L0 (a_list : List Box) (a_seed : Int) : Int × (List Int) → Option (SR (Int × (List Int)) Packet) := fun (k1, y1) =>
  bif (decide (k1 < (a_list.length : Int))) then
  (loopF (laws_probe_L1 a_list a_seed k1) (((4) : Int) - 0).toNat.succ (0, y1)).bind fun lr => lr.on (fun (_k3, y3) =>
  some (.nxt ((W (k1 + 1)), y3))) (fun r => some (.ret r))
  else
  some (.brk (k1, y1))
def laws_probe (a_list : List Box) (a_seed : Int) : Option Packet :=
  (loopF (laws_probe_L0 a_list a_seed) ((((a_list.length : Int)) : Int) - 0).toNat.succ (0, [({ From := ((a_seed).tmod 65536), To := (((W ((a_seed).tdiv 3))).tmod 65536), Port := ((a_seed).tmod 256), Proto := ((a_seed).tmod 8) } : Packet).From, ({ From := ((a_seed).tmod 65536), To := (((W ((a_seed).tdiv 3))).tmod 65536), Port := ((a_seed).tmod 256), Proto := ((a_seed).tmod 8) } : Packet).To, ({ From := ((a_seed).tmod 65536), To := (((W ((a_seed).tdiv 3))).tmod 65536), Port := ((a_seed).tmod 256), Proto := ((a_seed).tmod 8) } : Packet).Port, ({ From := ((a_seed).tmod 65536), To := (((W ((a_seed).tdiv 3))).tmod 65536), Port := ((a_seed).tmod 256), Proto := ((a_seed).tmod 8) } : Packet).Proto])).bind fun lr => lr.on (fun (_k4, y4) =>
  (idx y4 0).bind fun x6 =>
  (idx y4 1).bind fun x7 =>
  (idx y4 2).bind fun x8 =>
  (idx y4 3).bind fun x9 =>
  some ({ From := x6, To := x7, Port := x8, Proto := x9 } : Packet)) (fun r => some r)


def impl_topValid (a_top : Int) : Option Bool :=
  bif (decide (0 ≤ a_top)) then
  some (decide (a_top ≤ 65535))
  else
  some false


def impl_SpansValid_L0 (a_list : List Span) (a_top : Int) : Int × Int → Option (SR (Int × Int) Bool) := fun (k1, k2) =>
  bif (decide (k2 < (a_list.length : Int))) then
  (idx a_list k2).bind fun x2 =>
  bif (decide (x2.Lo ≤ (W (k1 + 1)))) then
  some (.ret false)
  else
  bif (decide (x2.Hi < x2.Lo)) then
  some (.ret false)
  else
  bif (decide (a_top < x2.Hi)) then
  some (.ret false)
  else
  some (.nxt (x2.Hi, (W (k2 + 1))))
  else
  some (.brk (k1, k2))
def impl_SpansValid (a_list : List Span) (a_top : Int) : Option Bool :=
  (F.impl_topValid a_top).bind fun x1 =>
  bif x1 then
  bif (decide (40 < (a_list.length : Int))) then
  some false
  else
  (loopF (impl_SpansValid_L0 a_list a_top) ((((a_list.length : Int)) : Int) - 0).toNat.succ ((-2), 0)).bind fun lr => lr.on (fun (_k3, _k4) =>
  some true) (fun r => some r)
  else
  some false


def impl_FieldTop (a_n : Int) : Option Int :=
  bif (decide (a_n < 0)) then
  some (-1)
  else
  bif (decide (4 ≤ a_n)) then
  some (-1)
  else
  (idx shapes a_n).bind fun x1 =>
  some x1.top


def impl_BoxValid_L0 (a_b : Box) : Int → Option (SR (Int) Bool) := fun k1 =>
  bif (decide (k1 < (a_b.Sides.length : Int))) then
  (idx a_b.Sides k1).bind fun x1 =>
  (F.impl_FieldTop k1).bind fun x2 =>
  (F.impl_SpansValid x1 x2).bind fun x3 =>
  bif x3 then
  some (.nxt (W (k1 + 1)))
  else
  some (.ret false)
  else
  some (.brk k1)
def impl_BoxValid (a_b : Box) : Option Bool :=
  bif ((a_b.Sides.length : Int) != 4) then
  some false
  else
  (loopF (impl_BoxValid_L0 a_b) ((((a_b.Sides.length : Int)) : Int) - 0).toNat.succ 0).bind fun lr => lr.on (fun _k2 =>
  some true) (fun r => some r)


def impl_sidesOf (a_b : Box) : Option ((List (List Span))) :=
  (arrF 4 a_b.Sides).bind fun y1 =>
  some y1


def impl_Packet_fields (a_p : Packet) : Option ((List Int)) :=
  some [a_p.From, a_p.To, a_p.Port, a_p.Proto]


def impl_PacketValid_L0 (x1 : List Int) : Int → Option (SR (Int) Bool) := fun k1 =>
  bif (decide (k1 < 4)) then
  (idx x1 k1).bind fun x2 =>
  bif (decide (x2 < 0)) then
  some (.ret false)
  else
  (F.impl_FieldTop k1).bind fun x3 =>
  bif (decide (x3 < x2)) then
  some (.ret false)
  else
  some (.nxt (W (k1 + 1)))
  else
  some (.brk k1)
def impl_PacketValid (a_p : Packet) : Option Bool :=
  (F.impl_Packet_fields a_p).bind fun x1 =>
  (loopF (impl_PacketValid_L0 x1) (((4) : Int) - 0).toNat.succ 0).bind fun lr => lr.on (fun _k2 =>
  some true) (fun r => some r)


def impl_sides_has_L0 (a_s : List (List Span)) (x1 : List Int) : Int → Option (SR (Int) Bool) := fun k1 =>
  bif (decide (k1 < 4)) then
  (idx x1 k1).bind fun x2 =>
  (idx a_s k1).bind fun x3 =>
  (F.impl_SpansHave x3 x2).bind fun x4 =>
  bif x4 then
  some (.nxt (W (k1 + 1)))
  else
  some (.ret false)
  else
  some (.brk k1)
def impl_sides_has (a_s : List (List Span)) (a_p : Packet) : Option Bool :=
  (F.impl_Packet_fields a_p).bind fun x1 =>
  (loopF (impl_sides_has_L0 a_s x1) (((4) : Int) - 0).toNat.succ 0).bind fun lr => lr.on (fun _k2 =>
  some true) (fun r => some r)


def impl_BoxHas (a_b : Box) (a_p : Packet) : Option Bool :=
  (F.impl_BoxValid a_b).bind fun x1 =>
  bif x1 then
  (F.impl_PacketValid a_p).bind fun x2 =>
  bif x2 then
  (F.impl_sidesOf a_b).bind fun x3 =>
  (F.impl_sides_has x3 a_p).bind fun x4 =>
  some x4
  else
  some false
  else
  some false


def impl_sides_empty_L0 (a_s : List (List Span)) : Int → Option (SR (Int) Bool) := fun k1 =>
  bif (decide (k1 < 4)) then
  (idx a_s k1).bind fun x1 =>
  bif ((x1.length : Int) == 0) then
  some (.ret true)
  else
  some (.nxt (W (k1 + 1)))
  else
  some (.brk k1)
def impl_sides_empty (a_s : List (List Span)) : Option Bool :=
  (loopF (impl_sides_empty_L0 a_s) (((4) : Int) - 0).toNat.succ 0).bind fun lr => lr.on (fun _k2 =>
  some false) (fun r => some r)


def impl_BoxEmpty (a_b : Box) : Option Bool :=
  (F.impl_BoxValid a_b).bind fun x1 =>
  bif x1 then
  (F.impl_sidesOf a_b).bind fun x2 =>
  (F.impl_sides_empty x2).bind fun x3 =>
  some x3
  else
  some false


def impl_stretch (a_rest : List Span) (a_at : Int) (a_top : Int) : Option (Bool × Int) :=
  bif ((a_rest.length : Int) == 0) then
  some (false, a_top)
  else
  (idx a_rest 0).bind fun x1 =>
  bif (decide (a_at < x1.Lo)) then
  some (false, (W (x1.Lo - 1)))
  else
  some (true, x1.Hi)


def impl_inFirstOnly (a_inA : Bool) (a_inB : Bool) : Option Bool :=
  bif a_inA then
  some (!a_inB)
  else
  some false


def impl_sweepSpans__impl_inFirstOnly_L2 (a_b : List Span) (k3 : Int) : Int × (List Span) → Option (SR (Int × (List Span)) ((List Span))) := fun (k6, y4) =>
  bif (decide (k6 < (a_b.length : Int))) then
  (idx a_b k6).bind fun x2 =>
  bif (decide (x2.Hi < k3)) then
  some (.nxt ((W (k6 + 1)), y4))
  else
  some (.brk (k6, y4))
  else
  some (.brk (k6, y4))
def impl_sweepSpans__impl_inFirstOnly_L1 (a_a : List Span) (k3 : Int) : Int × (List Span) → Option (SR (Int × (List Span)) ((List Span))) := fun (k4, y2) =>
  bif (decide (k4 < (a_a.length : Int))) then
  (idx a_a k4).bind fun x1 =>
  bif (decide (x1.Hi < k3)) then
  some (.nxt ((W (k4 + 1)), y2))
  else
  some (.brk (k4, y2))
  else
  some (.brk (k4, y2))
def impl_sweepSpans__impl_inFirstOnly_L0 (a_a : List Span) (a_b : List Span) (a_top : Int) : (List Span) × Int × Int × Int → Option (SR ((List Span) × Int × Int × Int) ((List Span))) := fun (y1, k1, k2, k3) =>
  bif (decide (k3 ≤ a_top)) then
  (loopF (impl_sweepSpans__impl_inFirstOnly_L1 a_a k3) ((((a_a.length : Int)) : Int) - k1).toNat.succ (k1, y1)).bind fun lr => lr.on (fun (k5, y3) =>
  (loopF (impl_sweepSpans__impl_inFirstOnly_L2 a_b k3) ((((a_b.length : Int)) : Int) - k2).toNat.succ (k2, y3)).bind fun lr => lr.on (fun (k7, y5) =>
  (dropF a_a k5).bind fun y6 =>
  (F.impl_stretch y6 k3 a_top).bind fun x3 =>
  (dropF a_b k7).bind fun y7 =>
  (F.impl_stretch y7 k3 a_top).bind fun x4 =>
  (F.impl_inFirstOnly x3.1 x4.1).bind fun x5 =>
  bif x5 then
  bif (decide (0 < (y5.length : Int))) then
  (idx y5 (W ((y5.length : Int) - 1))).bind fun x6 =>
  bif ((W (x6.Hi + 1)) == k3) then
  some (.nxt ((List.set y5 ((W ((y5.length : Int) - 1)) : Int).toNat { x6 with Hi := (imin x3.2 x4.2) }), k5, k7, (W ((imin x3.2 x4.2) + 1))))
  else
  (appF y5 [({ Lo := k3, Hi := (imin x3.2 x4.2) } : Span)]).bind fun z1 =>
  some (.nxt (z1, k5, k7, (W ((imin x3.2 x4.2) + 1))))
  else
  (appF y5 [({ Lo := k3, Hi := (imin x3.2 x4.2) } : Span)]).bind fun z2 =>
  some (.nxt (z2, k5, k7, (W ((imin x3.2 x4.2) + 1))))
  else
  some (.nxt (y5, k5, k7, (W ((imin x3.2 x4.2) + 1))))) (fun r => some (.ret r))) (fun r => some (.ret r))
  else
  some (.brk (y1, k1, k2, k3))
def impl_sweepSpans__impl_inFirstOnly (a_a : List Span) (a_b : List Span) (a_top : Int) : Option ((List Span)) :=
  (loopF (impl_sweepSpans__impl_inFirstOnly_L0 a_a a_b a_top) (((a_top) : Int) - 0 + 1).toNat.succ (([] : List Span), 0, 0, 0)).bind fun lr => lr.on (fun (y8, _k8, _k9, _k10) =>
  some y8) (fun r => some r)


def impl_sides_within_L0 (a_s : List (List Span)) (a_other : List (List Span)) : Int → Option (SR (Int) Bool) := fun k1 =>
  bif (decide (k1 < 4)) then
  (idx a_s k1).bind fun x2 =>
  (idx a_other k1).bind fun x3 =>
  (F.impl_FieldTop k1).bind fun x4 =>
  (F.impl_sweepSpans__impl_inFirstOnly x2 x3 x4).bind fun x5 =>
  bif (decide (0 < (x5.length : Int))) then
  some (.ret false)
  else
  some (.nxt (W (k1 + 1)))
  else
  some (.brk k1)
def impl_sides_within (a_s : List (List Span)) (a_other : List (List Span)) : Option Bool :=
  (F.impl_sides_empty a_s).bind fun x1 =>
  bif x1 then
  some true
  else
  (loopF (impl_sides_within_L0 a_s a_other) (((4) : Int) - 0).toNat.succ 0).bind fun lr => lr.on (fun _k2 =>
  some true) (fun r => some r)


def impl_BoxWithin (a_a : Box) (a_b : Box) : Option Bool :=
  (F.impl_BoxValid a_a).bind fun x1 =>
  bif x1 then
  (F.impl_BoxValid a_b).bind fun x2 =>
  bif x2 then
  (F.impl_sidesOf a_a).bind fun x3 =>
  (F.impl_sidesOf a_b).bind fun x4 =>
  (F.impl_sides_within x3 x4).bind fun x5 =>
  some x5
  else
  some false
  else
  some false


def impl_inBoth (a_inA : Bool) (a_inB : Bool) : Option Bool :=
  bif a_inA then
  some a_inB
  else
  some false


def impl_limitSpans (a_list : List Span) : Option ((List Span) × Bool) :=
  bif (decide (40 < (a_list.length : Int))) then
  some (([] : List Span), false)
  else
  some (a_list, true)


def impl_sweepSpans__impl_inBoth_L2 (a_b : List Span) (k3 : Int) : Int × (List Span) → Option (SR (Int × (List Span)) ((List Span))) := fun (k6, y4) =>
  bif (decide (k6 < (a_b.length : Int))) then
  (idx a_b k6).bind fun x2 =>
  bif (decide (x2.Hi < k3)) then
  some (.nxt ((W (k6 + 1)), y4))
  else
  some (.brk (k6, y4))
  else
  some (.brk (k6, y4))
def impl_sweepSpans__impl_inBoth_L1 (a_a : List Span) (k3 : Int) : Int × (List Span) → Option (SR (Int × (List Span)) ((List Span))) := fun (k4, y2) =>
  bif (decide (k4 < (a_a.length : Int))) then
  (idx a_a k4).bind fun x1 =>
  bif (decide (x1.Hi < k3)) then
  some (.nxt ((W (k4 + 1)), y2))
  else
  some (.brk (k4, y2))
  else
  some (.brk (k4, y2))
def impl_sweepSpans__impl_inBoth_L0 (a_a : List Span) (a_b : List Span) (a_top : Int) : (List Span) × Int × Int × Int → Option (SR ((List Span) × Int × Int × Int) ((List Span))) := fun (y1, k1, k2, k3) =>
  bif (decide (k3 ≤ a_top)) then
  (loopF (impl_sweepSpans__impl_inBoth_L1 a_a k3) ((((a_a.length : Int)) : Int) - k1).toNat.succ (k1, y1)).bind fun lr => lr.on (fun (k5, y3) =>
  (loopF (impl_sweepSpans__impl_inBoth_L2 a_b k3) ((((a_b.length : Int)) : Int) - k2).toNat.succ (k2, y3)).bind fun lr => lr.on (fun (k7, y5) =>
  (dropF a_a k5).bind fun y6 =>
  (F.impl_stretch y6 k3 a_top).bind fun x3 =>
  (dropF a_b k7).bind fun y7 =>
  (F.impl_stretch y7 k3 a_top).bind fun x4 =>
  (F.impl_inBoth x3.1 x4.1).bind fun x5 =>
  bif x5 then
  bif (decide (0 < (y5.length : Int))) then
  (idx y5 (W ((y5.length : Int) - 1))).bind fun x6 =>
  bif ((W (x6.Hi + 1)) == k3) then
  some (.nxt ((List.set y5 ((W ((y5.length : Int) - 1)) : Int).toNat { x6 with Hi := (imin x3.2 x4.2) }), k5, k7, (W ((imin x3.2 x4.2) + 1))))
  else
  (appF y5 [({ Lo := k3, Hi := (imin x3.2 x4.2) } : Span)]).bind fun z1 =>
  some (.nxt (z1, k5, k7, (W ((imin x3.2 x4.2) + 1))))
  else
  (appF y5 [({ Lo := k3, Hi := (imin x3.2 x4.2) } : Span)]).bind fun z2 =>
  some (.nxt (z2, k5, k7, (W ((imin x3.2 x4.2) + 1))))
  else
  some (.nxt (y5, k5, k7, (W ((imin x3.2 x4.2) + 1))))) (fun r => some (.ret r))) (fun r => some (.ret r))
  else
  some (.brk (y1, k1, k2, k3))
def impl_sweepSpans__impl_inBoth (a_a : List Span) (a_b : List Span) (a_top : Int) : Option ((List Span)) :=
  (loopF (impl_sweepSpans__impl_inBoth_L0 a_a a_b a_top) (((a_top) : Int) - 0 + 1).toNat.succ (([] : List Span), 0, 0, 0)).bind fun lr => lr.on (fun (y8, _k8, _k9, _k10) =>
  some y8) (fun r => some r)


def impl_meetSpans (a_a : List Span) (a_b : List Span) (a_top : Int) : Option ((List Span) × Bool) :=
  (F.impl_sweepSpans__impl_inBoth a_a a_b a_top).bind fun x1 =>
  (F.impl_limitSpans x1).bind fun x2 =>
  some (x2.1, x2.2)


def impl_sides_meet_L0 (a_s : List (List Span)) (a_other : List (List Span)) : Int × (List (List Span)) × (List (List Span)) → Option (SR (Int × (List (List Span)) × (List (List Span))) ((List (List Span)) × Bool)) := fun (k1, y1, y2) =>
  bif (decide (k1 < 4)) then
  (idx a_s k1).bind fun x1 =>
  (idx a_other k1).bind fun x2 =>
  (F.impl_FieldTop k1).bind fun x3 =>
  (F.impl_meetSpans x1 x2 x3).bind fun x4 =>
  bif x4.2 then
  (idx y2 k1).bind fun _x5 =>
  some (.nxt ((W (k1 + 1)), y1, (List.set y2 (k1 : Int).toNat x4.1)))
  else
  some (.ret ([([] : List Span), ([] : List Span), ([] : List Span), ([] : List Span)], false))
  else
  some (.brk (k1, y1, y2))
def impl_sides_meet (a_s : List (List Span)) (a_other : List (List Span)) : Option ((List (List Span)) × Bool) :=
  (loopF (impl_sides_meet_L0 a_s a_other) (((4) : Int) - 0).toNat.succ (0, [([] : List Span), ([] : List Span), ([] : List Span), ([] : List Span)], [([] : List Span), ([] : List Span), ([] : List Span), ([] : List Span)])).bind fun lr => lr.on (fun (_k2, _y3, y4) =>
  some (y4, true)) (fun r => some r)


def impl_sides_box_L0 (a_s : List (List Span)) : Int × (List (List Span)) → Option (SR (Int × (List (List Span))) Box) := fun (k1, y1) =>
  bif (decide (k1 < 4)) then
  (idx a_s k1).bind fun x1 =>
  (appF ([] : List Span) x1).bind fun z1 =>
  (idx y1 k1).bind fun _x2 =>
  some (.nxt ((W (k1 + 1)), (List.set y1 (k1 : Int).toNat z1)))
  else
  some (.brk (k1, y1))
def impl_sides_box (a_s : List (List Span)) : Option Box :=
  (makeF ([] : List Span) 4).bind fun mk1 =>
  (loopF (impl_sides_box_L0 a_s) (((4) : Int) - 0).toNat.succ (0, mk1)).bind fun lr => lr.on (fun (_k2, y2) =>
  some ({ Sides := y2 } : Box)) (fun r => some r)


def impl_BoxMeet (a_a : Box) (a_b : Box) : Option Box :=
  (F.impl_BoxValid a_a).bind fun x1 =>
  bif x1 then
  (F.impl_BoxValid a_b).bind fun x2 =>
  bif x2 then
  (F.impl_sidesOf a_a).bind fun x3 =>
  (F.impl_sidesOf a_b).bind fun x4 =>
  (F.impl_sides_meet x3 x4).bind fun x5 =>
  bif x5.2 then
  (F.impl_sides_box x5.1).bind fun x6 =>
  some ({ Sides := x6.Sides } : Box)
  else
  some ({ Sides := ([] : List (List Span)) } : Box)
  else
  some ({ Sides := ([] : List (List Span)) } : Box)
  else
  some ({ Sides := ([] : List (List Span)) } : Box)


def spec_l20Rd_pick (a_xs : List Int) (a_pos : Int) (a_n : Int) : Option (Int × Int) :=
  bif (decide (a_n < 1)) then
  some (0, (W (a_pos + 1)))
  else
  bif ((a_xs.length : Int) == 0) then
  some (0, (W (a_pos + 1)))
  else
  bif (decide ((W ((W (a_pos + 1)) - 1)) < (a_xs.length : Int))) then
  (idx a_xs (W ((W (a_pos + 1)) - 1))).bind fun x1 =>
  (nzF a_n).bind fun _u1 =>
  some ((((W x1)).tmod a_n), (W (a_pos + 1)))
  else
  (nzF (a_xs.length : Int)).bind fun _u2 =>
  (idx a_xs (((W ((W (a_pos + 1)) - 1))).tmod (a_xs.length : Int))).bind fun x2 =>
  (idx a_xs (((W ((W ((W ((W (a_pos + 1)) - 1)) * 7)) + 3))).tmod (a_xs.length : Int))).bind fun x3 =>
  (nzF a_n).bind fun _u3 =>
  some ((((xorF (W ((W ((W ((W ((W x2) * 131)) + (W ((W x3) * 1117)))) + (W ((W ((W (a_pos + 1)) - 1)) * 29)))) + (W ((W (((W ((W (a_pos + 1)) - 1))).tdiv (a_xs.length : Int))) * 53)))) (W (((W ((W ((W ((W ((W x2) * 131)) + (W ((W x3) * 1117)))) + (W ((W ((W (a_pos + 1)) - 1)) * 29)))) + (W ((W (((W ((W (a_pos + 1)) - 1))).tdiv (a_xs.length : Int))) * 53))))).tdiv 64)))).tmod a_n), (W (a_pos + 1)))


def spec_l20Rd_odd (a_xs : List Int) (a_pos : Int) (a_n : Int) : Option (Bool × Int) :=
  bif (decide (0 < a_n)) then
  (F.spec_l20Rd_pick a_xs a_pos a_n).bind fun x1 =>
  some ((x1.1 == (W (a_n - 1))), x1.2)
  else
  some (false, a_pos)


def spec_l1Add_L0 (a_list : List Span) : (List Span) × Bool × Int × Int × Int → Option (SR ((List Span) × Bool × Int × Int × Int) ((List Span))) := fun (y1, y2, k1, k2, k3) =>
  bif (decide (k1 < (a_list.length : Int))) then
  (idx a_list k1).bind fun x1 =>
  bif (decide ((W (x1.Hi + 1)) < k2)) then
  (appF y1 [x1]).bind fun z1 =>
  some (.nxt (z1, y2, (W (k1 + 1)), k2, k3))
  else
  bif (decide ((W (k3 + 1)) < x1.Lo)) then
  bif y2 then
  (appF y1 [x1]).bind fun z2 =>
  some (.nxt (z2, true, (W (k1 + 1)), k2, k3))
  else
  (appF y1 [({ Lo := k2, Hi := k3 } : Span)]).bind fun z3 =>
  (appF z3 [x1]).bind fun z4 =>
  some (.nxt (z4, true, (W (k1 + 1)), k2, k3))
  else
  some (.nxt (y1, y2, (W (k1 + 1)), (imin k2 x1.Lo), (imax k3 x1.Hi)))
  else
  some (.brk (y1, y2, k1, k2, k3))
def spec_l1Add (a_list : List Span) (a_s : Span) : Option ((List Span)) :=
  (loopF (spec_l1Add_L0 a_list) ((((a_list.length : Int)) : Int) - 0).toNat.succ (([] : List Span), false, 0, a_s.Lo, a_s.Hi)).bind fun lr => lr.on (fun (y3, y4, _k4, k5, k6) =>
  bif y4 then
  some y3
  else
  (appF y3 [({ Lo := k5, Hi := k6 } : Span)]).bind fun z5 =>
  some z5) (fun r => some r)


def spec_SpansOf_L0 (a_list : List Span) (a_top : Int) : (List Span) × Int → Option (SR ((List Span) × Int) ((List Span))) := fun (y1, k1) =>
  bif (decide (k1 < (a_list.length : Int))) then
  (idx a_list k1).bind fun x2 =>
  (F.spec_l1In x2.Lo 0 x2.Hi).bind fun x3 =>
  bif x3 then
  (F.spec_l1In x2.Hi 0 a_top).bind fun x4 =>
  bif x4 then
  (F.spec_l1Add y1 x2).bind fun x5 =>
  some (.nxt (x5, (W (k1 + 1))))
  else
  some (.ret ([] : List Span))
  else
  some (.ret ([] : List Span))
  else
  some (.brk (y1, k1))
def spec_SpansOf (a_list : List Span) (a_top : Int) : Option ((List Span)) :=
  (F.spec_l1In a_top 0 65535).bind fun x1 =>
  bif x1 then
  bif (decide (40 < (a_list.length : Int))) then
  some ([] : List Span)
  else
  (loopF (spec_SpansOf_L0 a_list a_top) ((((a_list.length : Int)) : Int) - 0).toNat.succ (([] : List Span), 0)).bind fun lr => lr.on (fun (y2, _k2) =>
  some y2) (fun r => some r)
  else
  some ([] : List Span)


def spec_l20Span (a_xs : List Int) (a_pos : Int) (a_top : Int) (a_n : Int) : Option (Span × Int) :=
  (F.spec_l20Rd_pick a_xs a_pos (imin 256 (W (a_top + 1)))).bind fun x1 =>
  bif (decide (255 < a_top)) then
  (F.spec_l20Rd_pick a_xs x1.2 2).bind fun x2 =>
  bif (x2.1 == 0) then
  (F.spec_l20Rd_pick a_xs x2.2 256).bind fun x3 =>
  (F.spec_l20Rd_pick a_xs x3.2 4).bind fun x4 =>
  (F.spec_l20Rd_pick a_xs x4.2 256).bind fun x5 =>
  (F.spec_l20Rd_pick a_xs x5.2 4).bind fun x6 =>
  (idx [0, x4.1, x5.1, 4096] x6.1).bind fun x7 =>
  (F.spec_l20Rd_odd a_xs x6.2 a_n).bind fun x8 =>
  bif x8.1 then
  (F.spec_l20Rd_pick a_xs x8.2 3).bind fun x9 =>
  (idx [({ Lo := (W ((imin a_top (W ((imin a_top (W ((W (x1.1 * 256)) + x3.1))) + x7))) + 1)), Hi := (imin a_top (W ((imin a_top (W ((W (x1.1 * 256)) + x3.1))) + x7))) } : Span), ({ Lo := (-1), Hi := (imin a_top (W ((imin a_top (W ((W (x1.1 * 256)) + x3.1))) + x7))) } : Span), ({ Lo := (imin a_top (W ((W (x1.1 * 256)) + x3.1))), Hi := (W (a_top + 1)) } : Span)] x9.1).bind fun x10 =>
  some (({ Lo := x10.Lo, Hi := x10.Hi } : Span), x9.2)
  else
  some (({ Lo := (imin a_top (W ((W (x1.1 * 256)) + x3.1))), Hi := (imin a_top (W ((imin a_top (W ((W (x1.1 * 256)) + x3.1))) + x7))) } : Span), x8.2)
  else
  (F.spec_l20Rd_pick a_xs x2.2 4).bind fun x11 =>
  (F.spec_l20Rd_pick a_xs x11.2 256).bind fun x12 =>
  (F.spec_l20Rd_pick a_xs x12.2 4).bind fun x13 =>
  (idx [0, x11.1, x12.1, 4096] x13.1).bind fun x14 =>
  (F.spec_l20Rd_odd a_xs x13.2 a_n).bind fun x15 =>
  bif x15.1 then
  (F.spec_l20Rd_pick a_xs x15.2 3).bind fun x16 =>
  (idx [({ Lo := (W ((imin a_top (W (x1.1 + x14))) + 1)), Hi := (imin a_top (W (x1.1 + x14))) } : Span), ({ Lo := (-1), Hi := (imin a_top (W (x1.1 + x14))) } : Span), ({ Lo := x1.1, Hi := (W (a_top + 1)) } : Span)] x16.1).bind fun x17 =>
  some (({ Lo := x17.Lo, Hi := x17.Hi } : Span), x16.2)
  else
  some (({ Lo := x1.1, Hi := (imin a_top (W (x1.1 + x14))) } : Span), x15.2)
  else
  (F.spec_l20Rd_pick a_xs x1.2 4).bind fun x18 =>
  (F.spec_l20Rd_pick a_xs x18.2 256).bind fun x19 =>
  (F.spec_l20Rd_pick a_xs x19.2 4).bind fun x20 =>
  (idx [0, x18.1, x19.1, 4096] x20.1).bind fun x21 =>
  (F.spec_l20Rd_odd a_xs x20.2 a_n).bind fun x22 =>
  bif x22.1 then
  (F.spec_l20Rd_pick a_xs x22.2 3).bind fun x23 =>
  (idx [({ Lo := (W ((imin a_top (W (x1.1 + x21))) + 1)), Hi := (imin a_top (W (x1.1 + x21))) } : Span), ({ Lo := (-1), Hi := (imin a_top (W (x1.1 + x21))) } : Span), ({ Lo := x1.1, Hi := (W (a_top + 1)) } : Span)] x23.1).bind fun x24 =>
  some (({ Lo := x24.Lo, Hi := x24.Hi } : Span), x23.2)
  else
  some (({ Lo := x1.1, Hi := (imin a_top (W (x1.1 + x21))) } : Span), x22.2)


def spec_l20Raw_L0 (a_xs : List Int) (a_top : Int) (a_n : Int) : (List Span) × Int × Int → Option (SR ((List Span) × Int × Int) (((List Span)) × Int)) := fun (y1, k1, k2) =>
  bif (decide (0 < k1)) then
  (F.spec_l20Span a_xs k2 a_top a_n).bind fun x2 =>
  (appF y1 [x2.1]).bind fun z1 =>
  some (.nxt (z1, (W (k1 - 1)), x2.2))
  else
  some (.brk (y1, k1, k2))
def spec_l20Raw (a_xs : List Int) (a_pos : Int) (a_top : Int) (a_n : Int) : Option (((List Span)) × Int) :=
  (F.spec_l20Rd_pick a_xs a_pos 6).bind fun x1 =>
  (loopF (spec_l20Raw_L0 a_xs a_top a_n) ((x1.1) : Int).toNat.succ (([] : List Span), x1.1, x1.2)).bind fun lr => lr.on (fun (y2, _k3, k4) =>
  some (y2, k4)) (fun r => some r)


def spec_l20Set (a_xs : List Int) (a_pos : Int) (a_top : Int) (a_n : Int) : Option (((List Span)) × Int) :=
  (F.spec_l20Raw a_xs a_pos a_top 0).bind fun x1 =>
  (F.spec_SpansOf x1.1 a_top).bind fun x2 =>
  (F.spec_l20Rd_odd a_xs x1.2 a_n).bind fun x3 =>
  bif x3.1 then
  (F.spec_l20Rd_pick a_xs x3.2 3).bind fun x4 =>
  bif (x4.1 == 0) then
  (F.spec_l20Span a_xs x4.2 a_top 1).bind fun x5 =>
  (appF x2 [x5.1]).bind fun z1 =>
  some (z1, x5.2)
  else
  bif (x4.1 == 1) then
  (appF x2 [({ Lo := 1, Hi := 2 } : Span), ({ Lo := 3, Hi := 3 } : Span)]).bind fun z2 =>
  some (z2, x4.2)
  else
  (makeF ({ Lo := (0 : Int), Hi := (0 : Int) } : Span) 41).bind fun mk1 =>
  some (mk1, x4.2)
  else
  some (x2, x3.2)


def spec_TestValid (a_t : Test) : Option Bool :=
  (F.spec_l1In a_t.Field 0 3).bind fun x1 =>
  bif x1 then
  (F.spec_l1In a_t.Lo 0 a_t.Hi).bind fun x2 =>
  bif x2 then
  (F.spec_FieldTop a_t.Field).bind fun x3 =>
  some (decide (a_t.Hi ≤ x3))
  else
  some false
  else
  some false


def spec_TestsValid_L0 (a_list : List Test) : Int → Option (SR (Int) Bool) := fun k1 =>
  bif (decide (k1 < (a_list.length : Int))) then
  (idx a_list k1).bind fun x1 =>
  (F.spec_TestValid x1).bind fun x2 =>
  bif x2 then
  some (.nxt (W (k1 + 1)))
  else
  some (.ret false)
  else
  some (.brk k1)
def spec_TestsValid (a_list : List Test) : Option Bool :=
  (loopF (spec_TestsValid_L0 a_list) ((((a_list.length : Int)) : Int) - 0).toNat.succ 0).bind fun lr => lr.on (fun _k2 =>
  some (decide ((a_list.length : Int) ≤ 6))) (fun r => some r)


def spec_TestSpans (a_t : Test) : Option ((List Span)) :=
  (F.spec_TestValid a_t).bind fun x1 =>
  bif x1 then
  bif a_t.Not then
  (F.spec_FieldTop a_t.Field).bind fun x2 =>
  (F.spec_l2Other [({ Lo := a_t.Lo, Hi := a_t.Hi } : Span)] x2).bind fun x3 =>
  some x3
  else
  some [({ Lo := a_t.Lo, Hi := a_t.Hi } : Span)]
  else
  some ([] : List Span)


def spec_BoxAll_L0 : Int × (List (List Span)) → Option (SR (Int × (List (List Span))) Box) := fun (k1, y1) =>
  bif (decide (k1 < 4)) then
  (F.spec_FieldTop k1).bind fun x1 =>
  (appF y1 [[({ Lo := 0, Hi := x1 } : Span)]]).bind fun z1 =>
  some (.nxt ((W (k1 + 1)), z1))
  else
  some (.brk (k1, y1))
def spec_BoxAll : Option Box :=
  (loopF (spec_BoxAll_L0) (((4) : Int) - 0).toNat.succ (0, ([] : List (List Span)))).bind fun lr => lr.on (fun (_k2, y2) =>
  some ({ Sides := y2 } : Box)) (fun r => some r)


def spec_TestsBox_L0 (a_list : List Test) : Int × (List (List Span)) → Option (SR (Int × (List (List Span))) Box) := fun (k1, y1) =>
  bif (decide (k1 < (a_list.length : Int))) then
  (idx a_list k1).bind fun x3 =>
  (idx y1 x3.Field).bind fun x4 =>
  (F.spec_TestSpans x3).bind fun x5 =>
  (F.spec_l2Meet x4 x5).bind fun x6 =>
  some (.nxt ((W (k1 + 1)), (List.set y1 (x3.Field : Int).toNat x6)))
  else
  some (.brk (k1, y1))
def spec_TestsBox (a_list : List Test) : Option Box :=
  (F.spec_TestsValid a_list).bind fun x1 =>
  bif x1 then
  (F.spec_BoxAll).bind fun x2 =>
  (loopF (spec_TestsBox_L0 a_list) ((((a_list.length : Int)) : Int) - 0).toNat.succ (0, x2.Sides)).bind fun lr => lr.on (fun (_k2, y2) =>
  some ({ Sides := y2 } : Box)) (fun r => some r)
  else
  some ({ Sides := ([] : List (List Span)) } : Box)


def spec_l20Test (a_xs : List Int) (a_pos : Int) (a_n : Int) : Option (Test × Int) :=
  (F.spec_l20Rd_pick a_xs a_pos 4).bind fun x1 =>
  (F.spec_l20Rd_pick a_xs x1.2 4).bind fun x2 =>
  (F.spec_FieldTop x1.1).bind fun x3 =>
  (F.spec_l20Span a_xs x2.2 x3 0).bind fun x4 =>
  bif (decide (x1.1 < 2)) then
  (F.spec_l20Rd_pick a_xs x4.2 2).bind fun x5 =>
  bif (x5.1 == 0) then
  (F.spec_l20Rd_pick a_xs x5.2 20).bind fun x6 =>
  (F.spec_l20Rd_pick a_xs x6.2 8).bind fun x7 =>
  (F.spec_l20Rd_pick a_xs x7.2 8).bind fun x8 =>
  bif (x8.1 == 0) then
  (F.spec_l20Rd_pick a_xs x8.2 3).bind fun x9 =>
  (idx [({ Lo := 0, Hi := x3 } : Span), ({ Lo := 0, Hi := (W (x6.1 + x7.1)) } : Span), ({ Lo := x6.1, Hi := x3 } : Span)] x9.1).bind fun x10 =>
  (F.spec_l20Rd_odd a_xs x9.2 a_n).bind fun x11 =>
  bif x11.1 then
  (F.spec_l20Rd_pick a_xs x11.2 3).bind fun x12 =>
  bif (x12.1 == 0) then
  (F.spec_l20Rd_pick a_xs x12.2 2).bind fun x13 =>
  (idx [(-1), 4] x13.1).bind fun x14 =>
  some (({ Field := x14, Lo := x10.Lo, Hi := x10.Hi, Not := (x2.1 == 0) } : Test), x13.2)
  else
  bif (x12.1 == 1) then
  some (({ Field := x1.1, Lo := (W (x10.Hi + 1)), Hi := x10.Hi, Not := (x2.1 == 0) } : Test), x12.2)
  else
  some (({ Field := x1.1, Lo := x10.Lo, Hi := (W (x3 + 1)), Not := (x2.1 == 0) } : Test), x12.2)
  else
  some (({ Field := x1.1, Lo := x10.Lo, Hi := x10.Hi, Not := (x2.1 == 0) } : Test), x11.2)
  else
  (F.spec_l20Rd_odd a_xs x8.2 a_n).bind fun x15 =>
  bif x15.1 then
  (F.spec_l20Rd_pick a_xs x15.2 3).bind fun x16 =>
  bif (x16.1 == 0) then
  (F.spec_l20Rd_pick a_xs x16.2 2).bind fun x17 =>
  (idx [(-1), 4] x17.1).bind fun x18 =>
  some (({ Field := x18, Lo := x6.1, Hi := (W (x6.1 + x7.1)), Not := (x2.1 == 0) } : Test), x17.2)
  else
  bif (x16.1 == 1) then
  some (({ Field := x1.1, Lo := (W ((W (x6.1 + x7.1)) + 1)), Hi := (W (x6.1 + x7.1)), Not := (x2.1 == 0) } : Test), x16.2)
  else
  some (({ Field := x1.1, Lo := x6.1, Hi := (W (x3 + 1)), Not := (x2.1 == 0) } : Test), x16.2)
  else
  some (({ Field := x1.1, Lo := x6.1, Hi := (W (x6.1 + x7.1)), Not := (x2.1 == 0) } : Test), x15.2)
  else
  (F.spec_l20Rd_pick a_xs x5.2 8).bind fun x19 =>
  bif (x19.1 == 0) then
  (F.spec_l20Rd_pick a_xs x19.2 3).bind fun x20 =>
  (idx [({ Lo := 0, Hi := x3 } : Span), ({ Lo := 0, Hi := x4.1.Hi } : Span), ({ Lo := x4.1.Lo, Hi := x3 } : Span)] x20.1).bind fun x21 =>
  (F.spec_l20Rd_odd a_xs x20.2 a_n).bind fun x22 =>
  bif x22.1 then
  (F.spec_l20Rd_pick a_xs x22.2 3).bind fun x23 =>
  bif (x23.1 == 0) then
  (F.spec_l20Rd_pick a_xs x23.2 2).bind fun x24 =>
  (idx [(-1), 4] x24.1).bind fun x25 =>
  some (({ Field := x25, Lo := x21.Lo, Hi := x21.Hi, Not := (x2.1 == 0) } : Test), x24.2)
  else
  bif (x23.1 == 1) then
  some (({ Field := x1.1, Lo := (W (x21.Hi + 1)), Hi := x21.Hi, Not := (x2.1 == 0) } : Test), x23.2)
  else
  some (({ Field := x1.1, Lo := x21.Lo, Hi := (W (x3 + 1)), Not := (x2.1 == 0) } : Test), x23.2)
  else
  some (({ Field := x1.1, Lo := x21.Lo, Hi := x21.Hi, Not := (x2.1 == 0) } : Test), x22.2)
  else
  (F.spec_l20Rd_odd a_xs x19.2 a_n).bind fun x26 =>
  bif x26.1 then
  (F.spec_l20Rd_pick a_xs x26.2 3).bind fun x27 =>
  bif (x27.1 == 0) then
  (F.spec_l20Rd_pick a_xs x27.2 2).bind fun x28 =>
  (idx [(-1), 4] x28.1).bind fun x29 =>
  some (({ Field := x29, Lo := x4.1.Lo, Hi := x4.1.Hi, Not := (x2.1 == 0) } : Test), x28.2)
  else
  bif (x27.1 == 1) then
  some (({ Field := x1.1, Lo := (W (x4.1.Hi + 1)), Hi := x4.1.Hi, Not := (x2.1 == 0) } : Test), x27.2)
  else
  some (({ Field := x1.1, Lo := x4.1.Lo, Hi := (W (x3 + 1)), Not := (x2.1 == 0) } : Test), x27.2)
  else
  some (({ Field := x1.1, Lo := x4.1.Lo, Hi := x4.1.Hi, Not := (x2.1 == 0) } : Test), x26.2)
  else
  (F.spec_l20Rd_pick a_xs x4.2 8).bind fun x30 =>
  bif (x30.1 == 0) then
  (F.spec_l20Rd_pick a_xs x30.2 3).bind fun x31 =>
  (idx [({ Lo := 0, Hi := x3 } : Span), ({ Lo := 0, Hi := x4.1.Hi } : Span), ({ Lo := x4.1.Lo, Hi := x3 } : Span)] x31.1).bind fun x32 =>
  (F.spec_l20Rd_odd a_xs x31.2 a_n).bind fun x33 =>
  bif x33.1 then
  (F.spec_l20Rd_pick a_xs x33.2 3).bind fun x34 =>
  bif (x34.1 == 0) then
  (F.spec_l20Rd_pick a_xs x34.2 2).bind fun x35 =>
  (idx [(-1), 4] x35.1).bind fun x36 =>
  some (({ Field := x36, Lo := x32.Lo, Hi := x32.Hi, Not := (x2.1 == 0) } : Test), x35.2)
  else
  bif (x34.1 == 1) then
  some (({ Field := x1.1, Lo := (W (x32.Hi + 1)), Hi := x32.Hi, Not := (x2.1 == 0) } : Test), x34.2)
  else
  some (({ Field := x1.1, Lo := x32.Lo, Hi := (W (x3 + 1)), Not := (x2.1 == 0) } : Test), x34.2)
  else
  some (({ Field := x1.1, Lo := x32.Lo, Hi := x32.Hi, Not := (x2.1 == 0) } : Test), x33.2)
  else
  (F.spec_l20Rd_odd a_xs x30.2 a_n).bind fun x37 =>
  bif x37.1 then
  (F.spec_l20Rd_pick a_xs x37.2 3).bind fun x38 =>
  bif (x38.1 == 0) then
  (F.spec_l20Rd_pick a_xs x38.2 2).bind fun x39 =>
  (idx [(-1), 4] x39.1).bind fun x40 =>
  some (({ Field := x40, Lo := x4.1.Lo, Hi := x4.1.Hi, Not := (x2.1 == 0) } : Test), x39.2)
  else
  bif (x38.1 == 1) then
  some (({ Field := x1.1, Lo := (W (x4.1.Hi + 1)), Hi := x4.1.Hi, Not := (x2.1 == 0) } : Test), x38.2)
  else
  some (({ Field := x1.1, Lo := x4.1.Lo, Hi := (W (x3 + 1)), Not := (x2.1 == 0) } : Test), x38.2)
  else
  some (({ Field := x1.1, Lo := x4.1.Lo, Hi := x4.1.Hi, Not := (x2.1 == 0) } : Test), x37.2)


def spec_l20Tests_L0 (a_xs : List Int) : (List Test) × Int × Int → Option (SR ((List Test) × Int × Int) (((List Test)) × Int)) := fun (y1, k1, k2) =>
  bif (decide (0 < k1)) then
  (F.spec_l20Test a_xs k2 0).bind fun x2 =>
  (appF y1 [x2.1]).bind fun z1 =>
  some (.nxt (z1, (W (k1 - 1)), x2.2))
  else
  some (.brk (y1, k1, k2))
def spec_l20Tests (a_xs : List Int) (a_pos : Int) (a_n : Int) : Option (((List Test)) × Int) :=
  (F.spec_l20Rd_pick a_xs a_pos 4).bind fun x1 =>
  (loopF (spec_l20Tests_L0 a_xs) ((x1.1) : Int).toNat.succ (([] : List Test), x1.1, x1.2)).bind fun lr => lr.on (fun (y2, _k3, k4) =>
  (F.spec_l20Rd_odd a_xs k4 a_n).bind fun x3 =>
  bif x3.1 then
  (F.spec_l20Rd_pick a_xs x3.2 2).bind fun x4 =>
  bif (x4.1 == 0) then
  (F.spec_l20Test a_xs x4.2 1).bind fun x5 =>
  (appF y2 [x5.1]).bind fun z2 =>
  some (z2, x5.2)
  else
  (makeF ({ Field := (0 : Int), Lo := (0 : Int), Hi := (0 : Int), Not := false } : Test) 7).bind fun mk1 =>
  some (mk1, x4.2)
  else
  some (y2, x3.2)) (fun r => some r)


def spec_l20Box (a_xs : List Int) (a_pos : Int) (a_n : Int) : Option (Box × Int) :=
  (F.spec_l20Tests a_xs a_pos 0).bind fun x1 =>
  (F.spec_TestsBox x1.1).bind fun x2 =>
  (F.spec_l20Rd_pick a_xs x1.2 3).bind fun x3 =>
  bif (x3.1 == 0) then
  (F.spec_l20Rd_pick a_xs x3.2 4).bind fun x4 =>
  (F.spec_FieldTop x4.1).bind fun x5 =>
  (F.spec_l20Set a_xs x4.2 x5 0).bind fun x6 =>
  (idx x2.Sides x4.1).bind fun _x7 =>
  (F.spec_l20Rd_odd a_xs x6.2 a_n).bind fun x8 =>
  bif x8.1 then
  (F.spec_l20Rd_pick a_xs x8.2 3).bind fun x9 =>
  bif (x9.1 == 0) then
  (dropF (List.set x2.Sides (x4.1 : Int).toNat x6.1) 1).bind fun y1 =>
  some (({ Sides := y1 } : Box), x9.2)
  else
  bif (x9.1 == 1) then
  (idx (List.set x2.Sides (x4.1 : Int).toNat x6.1) 3).bind fun _x10 =>
  some (({ Sides := (List.set (List.set x2.Sides (x4.1 : Int).toNat x6.1) (3 : Int).toNat [({ Lo := 0, Hi := 8 } : Span)]) } : Box), x9.2)
  else
  (appF (List.set x2.Sides (x4.1 : Int).toNat x6.1) [([] : List Span)]).bind fun z1 =>
  some (({ Sides := z1 } : Box), x9.2)
  else
  some (({ Sides := (List.set x2.Sides (x4.1 : Int).toNat x6.1) } : Box), x8.2)
  else
  (F.spec_l20Rd_odd a_xs x3.2 a_n).bind fun x11 =>
  bif x11.1 then
  (F.spec_l20Rd_pick a_xs x11.2 3).bind fun x12 =>
  bif (x12.1 == 0) then
  (dropF x2.Sides 1).bind fun y2 =>
  some (({ Sides := y2 } : Box), x12.2)
  else
  bif (x12.1 == 1) then
  (idx x2.Sides 3).bind fun _x13 =>
  some (({ Sides := (List.set x2.Sides (3 : Int).toNat [({ Lo := 0, Hi := 8 } : Span)]) } : Box), x12.2)
  else
  (appF x2.Sides [([] : List Span)]).bind fun z2 =>
  some (({ Sides := z2 } : Box), x12.2)
  else
  some (({ Sides := x2.Sides } : Box), x11.2)


def spec_BoxMeet (a_a : Box) (a_b : Box) : Option Box :=
  (F.spec_l1OwnBox ({ Sides := a_a.Sides } : Box)).bind fun x1 =>
  (F.spec_l1OwnBox ({ Sides := a_b.Sides } : Box)).bind fun x2 =>
  (F.spec_BoxValid ({ Sides := x1.Sides } : Box)).bind fun x3 =>
  bif x3 then
  (F.spec_BoxValid ({ Sides := x2.Sides } : Box)).bind fun x4 =>
  bif x4 then
  (F.spec_l10Meet ({ Sides := x1.Sides } : Box) ({ Sides := x2.Sides } : Box)).bind fun x5 =>
  (F.spec_BoxValid x5).bind fun x6 =>
  bif x6 then
  some ({ Sides := x5.Sides } : Box)
  else
  some ({ Sides := ([] : List (List Span)) } : Box)
  else
  some ({ Sides := ([] : List (List Span)) } : Box)
  else
  some ({ Sides := ([] : List (List Span)) } : Box)


def spec_l20Two (a_xs : List Int) (a_pos : Int) : Option (Box × Box × Int) :=
  (F.spec_l20Box a_xs a_pos 16).bind fun x1 =>
  (F.spec_l20Box a_xs x1.2 16).bind fun x2 =>
  (F.spec_l20Rd_pick a_xs x2.2 5).bind fun x3 =>
  bif (x3.1 == 0) then
  (F.spec_BoxMeet x1.1 ({ Sides := x2.1.Sides } : Box)).bind fun x4 =>
  bif ((x4.Sides.length : Int) == 0) then
  (F.spec_BoxAll).bind fun x5 =>
  some (({ Sides := x1.1.Sides } : Box), ({ Sides := x5.Sides } : Box), x3.2)
  else
  some (({ Sides := x1.1.Sides } : Box), ({ Sides := x4.Sides } : Box), x3.2)
  else
  bif (x3.1 == 1) then
  (F.spec_BoxValid x1.1).bind fun x6 =>
  bif x6 then
  (F.spec_l20Rd_pick a_xs x3.2 4).bind fun x7 =>
  (appF ([] : List (List Span)) x1.1.Sides).bind fun z1 =>
  (F.spec_FieldTop x7.1).bind fun x8 =>
  (F.spec_l20Set a_xs x7.2 x8 0).bind fun x9 =>
  (idx z1 x7.1).bind fun _x10 =>
  some (({ Sides := x1.1.Sides } : Box), ({ Sides := (List.set z1 (x7.1 : Int).toNat x9.1) } : Box), x9.2)
  else
  some (({ Sides := x1.1.Sides } : Box), ({ Sides := x2.1.Sides } : Box), x3.2)
  else
  some (({ Sides := x1.1.Sides } : Box), ({ Sides := x2.1.Sides } : Box), x3.2)


def spec_l20Open (a_code : List Int) : Option (List Int × Int) :=
  bif (decide (2000 < (a_code.length : Int))) then
  (takeF a_code 2000).bind fun y1 =>
  some (y1, 0)
  else
  some (a_code, 0)


def spec_DrawBoxCut (a_code : List Int) : Option (Box × Box) :=
  (F.spec_l20Open a_code).bind fun x1 =>
  (F.spec_l20Two x1.1 x1.2).bind fun x2 =>
  some (({ Sides := x2.1.Sides } : Box), ({ Sides := x2.2.1.Sides } : Box))


def impl_firstCommon_L0 (a_a : List Span) (a_b : List Span) : Int × Int → Option (SR (Int × Int) (Int × Bool)) := fun (k1, k2) =>
  bif (decide (k1 < (a_a.length : Int))) then
  bif (decide (k2 < (a_b.length : Int))) then
  (idx a_a k1).bind fun x1 =>
  (idx a_b k2).bind fun x2 =>
  bif (decide ((imax x1.Lo x2.Lo) ≤ (imin x1.Hi x2.Hi))) then
  some (.ret ((imax x1.Lo x2.Lo), true))
  else
  bif (decide (x1.Hi < x2.Hi)) then
  some (.nxt ((W (k1 + 1)), k2))
  else
  some (.nxt (k1, (W (k2 + 1))))
  else
  some (.brk (k1, k2))
  else
  some (.brk (k1, k2))
def impl_firstCommon (a_a : List Span) (a_b : List Span) : Option (Int × Bool) :=
  (loopF (impl_firstCommon_L0 a_a a_b) ((a_a.length : Int) + (a_b.length : Int)).toNat.succ (0, 0)).bind fun lr => lr.on (fun (_k3, _k4) =>
  some (0, false)) (fun r => some r)


def impl_packetOf (a_fields : List Int) : Option Packet :=
  (idx a_fields 0).bind fun x1 =>
  (idx a_fields 1).bind fun x2 =>
  (idx a_fields 2).bind fun x3 =>
  (idx a_fields 3).bind fun x4 =>
  some ({ From := x1, To := x2, Port := x3, Proto := x4 } : Packet)


def impl_sides_firstCommon_L0 (a_s : List (List Span)) (a_other : List (List Span)) : Int × Int × Int × Int × Int × (List Int) → Option (SR (Int × Int × Int × Int × Int × (List Int)) (Packet × Bool)) := fun (k1, k2, k3, k4, k5, y1) =>
  bif (decide (k1 < 4)) then
  (idx a_s k1).bind fun x1 =>
  (idx a_other k1).bind fun x2 =>
  (F.impl_firstCommon x1 x2).bind fun x3 =>
  bif x3.2 then
  (idx y1 k1).bind fun _x4 =>
  some (.nxt ((W (k1 + 1)), k2, k3, k4, k5, (List.set y1 (k1 : Int).toNat x3.1)))
  else
  some (.ret (({ From := 0, To := 0, Port := 0, Proto := 0 } : Packet), false))
  else
  some (.brk (k1, k2, k3, k4, k5, y1))
def impl_sides_firstCommon (a_s : List (List Span)) (a_other : List (List Span)) : Option (Packet × Bool) :=
  (loopF (impl_sides_firstCommon_L0 a_s a_other) (((4) : Int) - 0).toNat.succ (0, 0, 0, 0, 0, [0, 0, 0, 0])).bind fun lr => lr.on (fun (_k6, _k7, _k8, _k9, _k10, y2) =>
  (F.impl_packetOf y2).bind fun x5 =>
  some (({ From := x5.From, To := x5.To, Port := x5.Port, Proto := x5.Proto } : Packet), true)) (fun r => some r)


def impl_sides_touches (a_s : List (List Span)) (a_other : List (List Span)) : Option Bool :=
  (F.impl_sides_firstCommon a_s a_other).bind fun x1 =>
  some x1.2


def impl_lessSpans (a_a : List Span) (a_b : List Span) (a_top : Int) : Option ((List Span) × Bool) :=
  (F.impl_sweepSpans__impl_inFirstOnly a_a a_b a_top).bind fun x1 =>
  (F.impl_limitSpans x1).bind fun x2 =>
  some (x2.1, x2.2)


def impl_sides_pieces_1_L0 (a_s : List (List Span)) (a_other : List (List Span)) : Bool × Int × (List (List Span)) × (List (List (List Span))) → Option (SR (Bool × Int × (List (List Span)) × (List (List (List Span)))) (Bool × List (List (List Span)))) := fun (y1, k1, y2, y3) =>
  bif (decide (k1 < 4)) then
  (idx a_s k1).bind fun x3 =>
  (idx a_other k1).bind fun x4 =>
  (F.impl_FieldTop k1).bind fun x5 =>
  (F.impl_lessSpans x3 x4 x5).bind fun x6 =>
  bif x6.2 then
  bif (decide (0 < (x6.1.length : Int))) then
  bif y1 then
  (idx y2 k1).bind fun _x7 =>
  (appF y3 [(List.set y2 (k1 : Int).toNat x6.1)]).bind fun z1 =>
  (F.impl_meetSpans x3 x4 x5).bind fun x8 =>
  some (.nxt (x8.2, (W (k1 + 1)), (List.set y2 (k1 : Int).toNat x8.1), z1))
  else
  some (.ret (true, y3))
  else
  (F.impl_meetSpans x3 x4 x5).bind fun x9 =>
  (idx y2 k1).bind fun _x10 =>
  bif y1 then
  some (.nxt (x9.2, (W (k1 + 1)), (List.set y2 (k1 : Int).toNat x9.1), y3))
  else
  some (.nxt (false, (W (k1 + 1)), (List.set y2 (k1 : Int).toNat x9.1), y3))
  else
  some (.ret (true, y3))
  else
  some (.brk (y1, k1, y2, y3))
def impl_sides_pieces_1 (a_s : List (List Span)) (a_other : List (List Span)) : Option (Bool × List (List (List Span))) :=
  (F.impl_sides_empty a_s).bind fun x1 =>
  bif x1 then
  some (false, ([] : List (List (List Span))))
  else
  (F.impl_sides_touches a_s a_other).bind fun x2 =>
  bif x2 then
  (loopF (impl_sides_pieces_1_L0 a_s a_other) (((4) : Int) - 0).toNat.succ (true, 0, a_s, ([] : List (List (List Span))))).bind fun lr => lr.on (fun (_y4, _k2, _y5, y6) =>
  some (false, y6)) (fun r => some r)
  else
  (appF ([] : List (List (List Span))) [a_s]).bind fun z2 =>
  some (false, z2)


def impl_sides_pieces (a_s : List (List Span)) (a_other : List (List Span)) : Option ((List (List Span)) × (List (List Span))) :=
  some (a_s, a_other)


def impl_sides_cut (a_s : List (List Span)) (a_other : List (List Span)) : Option ((List (List (List Span))) × Bool) :=
  (F.impl_sides_pieces a_s a_other).bind fun x1 =>
  (F.impl_sides_pieces_1 x1.1 x1.2).bind fun x2 =>
  bif x2.1 then
  some (([] : List (List (List Span))), false)
  else
  some (x2.2, true)


def impl_boxesOf_L0 (a_list : List (List (List Span))) : (List Box) × Int → Option (SR ((List Box) × Int) ((List Box))) := fun (y1, k1) =>
  bif (decide (k1 < (a_list.length : Int))) then
  (idx a_list k1).bind fun x1 =>
  (F.impl_sides_box x1).bind fun x2 =>
  (appF y1 [x2]).bind fun z1 =>
  some (.nxt (z1, (W (k1 + 1))))
  else
  some (.brk (y1, k1))
def impl_boxesOf (a_list : List (List (List Span))) : Option ((List Box)) :=
  (capF (a_list.length : Int)).bind fun _u1 =>
  (loopF (impl_boxesOf_L0 a_list) ((((a_list.length : Int)) : Int) - 0).toNat.succ (([] : List Box), 0)).bind fun lr => lr.on (fun (y2, _k2) =>
  some y2) (fun r => some r)


def impl_BoxCut (a_a : Box) (a_b : Box) : Option ((List Box)) :=
  (F.impl_BoxValid a_a).bind fun x1 =>
  bif x1 then
  (F.impl_BoxValid a_b).bind fun x2 =>
  bif x2 then
  (F.impl_sidesOf a_a).bind fun x3 =>
  (F.impl_sidesOf a_b).bind fun x4 =>
  (F.impl_sides_cut x3 x4).bind fun x5 =>
  bif x5.2 then
  (F.impl_boxesOf x5.1).bind fun x6 =>
  some x6
  else
  some ([] : List Box)
  else
  some ([] : List Box)
  else
  some ([] : List Box)


def laws_FnBoxCut_L1 (x2 : List Box) (k2 : Int) (x8 : Box) : Int → Option (SR (Int) Bool) := fun k3 =>
  bif (decide (k3 < k2)) then
  (idx x2 k3).bind fun x14 =>
  (F.impl_BoxMeet x14 x8).bind fun x15 =>
  (F.impl_BoxEmpty x15).bind fun x16 =>
  bif x16 then
  some (.nxt (W (k3 + 1)))
  else
  some (.ret false)
  else
  some (.brk k3)
def laws_FnBoxCut_L2 (x2 : List Box) (k2 : Int) (x8 : Box) : Int → Option (SR (Int) Bool) := fun k5 =>
  bif (decide (k5 < k2)) then
  (idx x2 k5).bind fun x21 =>
  (F.impl_BoxMeet x21 x8).bind fun x22 =>
  (F.impl_BoxEmpty x22).bind fun x23 =>
  bif x23 then
  some (.nxt (W (k5 + 1)))
  else
  some (.ret false)
  else
  some (.brk k5)
def laws_FnBoxCut_L0 (x1 : Box × Box) (x2 : List Box) (x7 : Packet) : Int × Int → Option (SR (Int × Int) Bool) := fun (k1, k2) =>
  bif (decide (k2 < (x2.length : Int))) then
  (idx x2 k2).bind fun x8 =>
  (F.impl_BoxHas x8 x7).bind fun x9 =>
  bif x9 then
  (F.impl_BoxEmpty x8).bind fun x10 =>
  bif x10 then
  some (.ret false)
  else
  (F.impl_BoxWithin x8 ({ Sides := x1.1.Sides } : Box)).bind fun x11 =>
  bif x11 then
  (F.impl_BoxMeet x8 ({ Sides := x1.2.Sides } : Box)).bind fun x12 =>
  (F.impl_BoxEmpty x12).bind fun x13 =>
  bif x13 then
  (loopF (laws_FnBoxCut_L1 x2 k2 x8) (((k2) : Int) - 0).toNat.succ 0).bind fun lr => lr.on (fun _k4 =>
  some (.nxt ((W (k1 + 1)), (W (k2 + 1))))) (fun r => some (.ret r))
  else
  some (.ret false)
  else
  some (.ret false)
  else
  (F.impl_BoxEmpty x8).bind fun x17 =>
  bif x17 then
  some (.ret false)
  else
  (F.impl_BoxWithin x8 ({ Sides := x1.1.Sides } : Box)).bind fun x18 =>
  bif x18 then
  (F.impl_BoxMeet x8 ({ Sides := x1.2.Sides } : Box)).bind fun x19 =>
  (F.impl_BoxEmpty x19).bind fun x20 =>
  bif x20 then
  (loopF (laws_FnBoxCut_L2 x2 k2 x8) (((k2) : Int) - 0).toNat.succ 0).bind fun lr => lr.on (fun _k6 =>
  some (.nxt (k1, (W (k2 + 1))))) (fun r => some (.ret r))
  else
  some (.ret false)
  else
  some (.ret false)
  else
  some (.brk (k1, k2))
def laws_FnBoxCut (a_code : List Int) (a_more : List Int) : Option Bool :=
  bif (decide (1048576 < (a_code.length : Int))) then
  some true
  else
  bif (decide (1048576 < (a_more.length : Int))) then
  some true
  else
  (F.spec_DrawBoxCut a_code).bind fun x1 =>
  (F.impl_BoxCut ({ Sides := x1.1.Sides } : Box) ({ Sides := x1.2.Sides } : Box)).bind fun x2 =>
  (F.spec_BoxCut ({ Sides := x1.1.Sides } : Box) ({ Sides := x1.2.Sides } : Box)).bind fun x3 =>
  (F.laws_sameBoxes x2 x3).bind fun x4 =>
  bif x4 then
  (F.spec_BoxValid ({ Sides := x1.1.Sides } : Box)).bind fun x5 =>
  bif x5 then
  (F.spec_BoxValid ({ Sides := x1.2.Sides } : Box)).bind fun x6 =>
  bif x6 then
  (F.laws_probe [({ Sides := x1.1.Sides } : Box), ({ Sides := x1.2.Sides } : Box)] (a_more.length : Int)).bind fun x7 =>
  (loopF (laws_FnBoxCut_L0 x1 x2 x7) ((((x2.length : Int)) : Int) - 0).toNat.succ (0, 0)).bind fun lr => lr.on (fun (k7, _k8) =>
  bif (decide ((x2.length : Int) ≤ 4)) then
  (F.impl_BoxHas ({ Sides := x1.1.Sides } : Box) x7).bind fun x24 =>
  bif x24 then
  (F.impl_BoxHas ({ Sides := x1.2.Sides } : Box) x7).bind fun x25 =>
  bif ((k7 == 1) == (!x25)) then
  some (decide (k7 ≤ 1))
  else
  some false
  else
  bif ((k7 == 1) == false) then
  some (decide (k7 ≤ 1))
  else
  some false
  else
  some false) (fun r => some r)
  else
  bif ((x2.length : Int) == 0) then
  (F.laws_alive).bind fun x26 =>
  some x26
  else
  some false
  else
  bif ((x2.length : Int) == 0) then
  (F.laws_alive).bind fun x27 =>
  some x27
  else
  some false
  else
  some false


def impl_TestValid (a_t : Test) : Option Bool :=
  bif (decide (0 ≤ a_t.Field)) then
  bif (decide (a_t.Field < 4)) then
  bif (decide (0 ≤ a_t.Lo)) then
  bif (decide (a_t.Lo ≤ a_t.Hi)) then
  (F.impl_FieldTop a_t.Field).bind fun x1 =>
  some (decide (a_t.Hi ≤ x1))
  else
  some false
  else
  some false
  else
  some false
  else
  some false


def impl_TestsValid_L0 (a_list : List Test) : Int → Option (SR (Int) Bool) := fun k1 =>
  bif (decide (k1 < (a_list.length : Int))) then
  (idx a_list k1).bind fun x1 =>
  (F.impl_TestValid x1).bind fun x2 =>
  bif x2 then
  some (.nxt (W (k1 + 1)))
  else
  some (.ret false)
  else
  some (.brk k1)
def impl_TestsValid (a_list : List Test) : Option Bool :=
  bif (decide (6 < (a_list.length : Int))) then
  some false
  else
  (loopF (impl_TestsValid_L0 a_list) ((((a_list.length : Int)) : Int) - 0).toNat.succ 0).bind fun lr => lr.on (fun _k2 =>
  some true) (fun r => some r)


def impl_allSides_L0 : Int × (List (List Span)) → Option (SR (Int × (List (List Span))) ((List (List Span)))) := fun (k1, y1) =>
  bif (decide (k1 < 4)) then
  (F.impl_FieldTop k1).bind fun x1 =>
  (idx y1 k1).bind fun _x2 =>
  some (.nxt ((W (k1 + 1)), (List.set y1 (k1 : Int).toNat [({ Lo := 0, Hi := x1 } : Span)])))
  else
  some (.brk (k1, y1))
def impl_allSides : Option ((List (List Span))) :=
  (loopF (impl_allSides_L0) (((4) : Int) - 0).toNat.succ (0, [([] : List Span), ([] : List Span), ([] : List Span), ([] : List Span)])).bind fun lr => lr.on (fun (_k2, y2) =>
  some y2) (fun r => some r)


def impl_Test_spans (a_t : Test) : Option ((List Span)) :=
  bif a_t.Not then
  bif (decide (0 < a_t.Lo)) then
  (appF ([] : List Span) [({ Lo := 0, Hi := (W (a_t.Lo - 1)) } : Span)]).bind fun z1 =>
  (F.impl_FieldTop a_t.Field).bind fun x1 =>
  bif (decide (a_t.Hi < x1)) then
  (appF z1 [({ Lo := (W (a_t.Hi + 1)), Hi := x1 } : Span)]).bind fun z2 =>
  some z2
  else
  some z1
  else
  (F.impl_FieldTop a_t.Field).bind fun x2 =>
  bif (decide (a_t.Hi < x2)) then
  (appF ([] : List Span) [({ Lo := (W (a_t.Hi + 1)), Hi := x2 } : Span)]).bind fun z3 =>
  some z3
  else
  some ([] : List Span)
  else
  some [({ Lo := a_t.Lo, Hi := a_t.Hi } : Span)]


def impl_testsSides_L0 (a_list : List Test) : Int × (List (List Span)) → Option (SR (Int × (List (List Span))) ((List (List Span)))) := fun (k1, y1) =>
  bif (decide (k1 < (a_list.length : Int))) then
  (idx a_list k1).bind fun x2 =>
  (idx y1 x2.Field).bind fun x3 =>
  (F.impl_Test_spans x2).bind fun x4 =>
  (F.impl_FieldTop x2.Field).bind fun x5 =>
  (F.impl_meetSpans x3 x4 x5).bind fun x6 =>
  some (.nxt ((W (k1 + 1)), (List.set y1 (x2.Field : Int).toNat x6.1)))
  else
  some (.brk (k1, y1))
def impl_testsSides (a_list : List Test) : Option ((List (List Span))) :=
  (F.impl_allSides).bind fun x1 =>
  (loopF (impl_testsSides_L0 a_list) ((((a_list.length : Int)) : Int) - 0).toNat.succ (0, x1)).bind fun lr => lr.on (fun (_k2, y2) =>
  some y2) (fun r => some r)


def impl_TestsBox (a_list : List Test) : Option Box :=
  (F.impl_TestsValid a_list).bind fun x1 =>
  bif x1 then
  (F.impl_testsSides a_list).bind fun x2 =>
  (F.impl_sides_box x2).bind fun x3 =>
  some ({ Sides := x3.Sides } : Box)
  else
  some ({ Sides := ([] : List (List Span)) } : Box)


end Go.PF.F
