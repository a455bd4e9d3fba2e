/- The program's functions as plain functions; no condition. -/
import Derived.Test.YtadlmencjbangaaDoorPFEls
namespace Go.PF.F
open Go Go.PF

def spec_l20Rd_pick (a_xs : List Int) (a_pos : Int) (a_n : Int) : Option (Int × Int) :=
  bif (decide (a_n < 1)) then
  some (0, (W (a_pos + 1)))
  else
  bif ((a_xs.length : Int) == 0) then
  some (0, (W (a_pos + 1)))
  else
  bif (decide ((W ((W (a_pos + 1)) - 1)) < (a_xs.length : Int))) then
  (idx a_xs (W ((W (a_pos + 1)) - 1))).bind fun x1 =>
  (nzF a_n).bind fun _u1 =>
  some ((((W x1)).tmod a_n), (W (a_pos + 1)))
  else
  (nzF (a_xs.length : Int)).bind fun _u2 =>
  (idx a_xs (((W ((W (a_pos + 1)) - 1))).tmod (a_xs.length : Int))).bind fun x2 =>
  (idx a_xs (((W ((W ((W ((W (a_pos + 1)) - 1)) * 7)) + 3))).tmod (a_xs.length : Int))).bind fun x3 =>
  (nzF a_n).bind fun _u3 =>
  some ((((xorF (W ((W ((W ((W ((W x2) * 131)) + (W ((W x3) * 1117)))) + (W ((W ((W (a_pos + 1)) - 1)) * 29)))) + (W ((W (((W ((W (a_pos + 1)) - 1))).tdiv (a_xs.length : Int))) * 53)))) (W (((W ((W ((W ((W ((W x2) * 131)) + (W ((W x3) * 1117)))) + (W ((W ((W (a_pos + 1)) - 1)) * 29)))) + (W ((W (((W ((W (a_pos + 1)) - 1))).tdiv (a_xs.length : Int))) * 53))))).tdiv 64)))).tmod a_n), (W (a_pos + 1)))


def spec_FieldTop (a_n : Int) : Option Int :=
  bif (a_n == 0) then
  some 65535
  else
  bif (a_n == 1) then
  some 65535
  else
  bif (a_n == 2) then
  some 255
  else
  bif (a_n == 3) then
  some 7
  else
  some (-1)


def spec_l1In (a_n : Int) (a_lo : Int) (a_hi : Int) : Option Bool :=
  bif (decide (a_lo ≤ a_n)) then
  some (decide (a_n ≤ a_hi))
  else
  some false


def spec_TestValid (a_t : Test) : Option Bool :=
  (F.spec_l1In a_t.Field 0 3).bind fun x1 =>
  bif x1 then
  (F.spec_l1In a_t.Lo 0 a_t.Hi).bind fun x2 =>
  bif x2 then
  (F.spec_FieldTop a_t.Field).bind fun x3 =>
  some (decide (a_t.Hi ≤ x3))
  else
  some false
  else
  some false


def impl_FieldTop (a_n : Int) : Option Int :=
  bif (decide (a_n < 0)) then
  some (-1)
  else
  bif (decide (4 ≤ a_n)) then
  some (-1)
  else
  (idx shapes a_n).bind fun x1 =>
  some x1.top


def impl_TestValid (a_t : Test) : Option Bool :=
  bif (decide (0 ≤ a_t.Field)) then
  bif (decide (a_t.Field < 4)) then
  bif (decide (0 ≤ a_t.Lo)) then
  bif (decide (a_t.Lo ≤ a_t.Hi)) then
  (F.impl_FieldTop a_t.Field).bind fun x1 =>
  some (decide (a_t.Hi ≤ x1))
  else
  some false
  else
  some false
  else
  some false
  else
  some false


def impl_TestsValid_L0 (a_list : List Test) : Int → Option (SR (Int) Bool) := fun k1 =>
  bif (decide (k1 < (a_list.length : Int))) then
  (idx a_list k1).bind fun x1 =>
  (F.impl_TestValid x1).bind fun x2 =>
  bif x2 then
  some (.nxt (W (k1 + 1)))
  else
  some (.ret false)
  else
  some (.brk k1)
def impl_TestsValid (a_list : List Test) : Option Bool :=
  bif (decide (6 < (a_list.length : Int))) then
  some false
  else
  (loopF (impl_TestsValid_L0 a_list) ((((a_list.length : Int)) : Int) - 0).toNat.succ 0).bind fun lr => lr.on (fun _k2 =>
  some true) (fun r => some r)


def impl_Packet_fields (a_p : Packet) : Option ((List Int)) :=
  some [a_p.From, a_p.To, a_p.Port, a_p.Proto]


def impl_PacketValid_L0 (x1 : List Int) : Int → Option (SR (Int) Bool) := fun k1 =>
  bif (decide (k1 < 4)) then
  (idx x1 k1).bind fun x2 =>
  bif (decide (x2 < 0)) then
  some (.ret false)
  else
  (F.impl_FieldTop k1).bind fun x3 =>
  bif (decide (x3 < x2)) then
  some (.ret false)
  else
  some (.nxt (W (k1 + 1)))
  else
  some (.brk k1)
def impl_PacketValid (a_p : Packet) : Option Bool :=
  (F.impl_Packet_fields a_p).bind fun x1 =>
  (loopF (impl_PacketValid_L0 x1) (((4) : Int) - 0).toNat.succ 0).bind fun lr => lr.on (fun _k2 =>
  some true) (fun r => some r)


def spec_TestsValid_L0 (a_list : List Test) : Int → Option (SR (Int) Bool) := fun k1 =>
  bif (decide (k1 < (a_list.length : Int))) then
  (idx a_list k1).bind fun x1 =>
  (F.spec_TestValid x1).bind fun x2 =>
  bif x2 then
  some (.nxt (W (k1 + 1)))
  else
  some (.ret false)
  else
  some (.brk k1)
def spec_TestsValid (a_list : List Test) : Option Bool :=
  (loopF (spec_TestsValid_L0 a_list) ((((a_list.length : Int)) : Int) - 0).toNat.succ 0).bind fun lr => lr.on (fun _k2 =>
  some (decide ((a_list.length : Int) ≤ 6))) (fun r => some r)


def spec_PacketValid (a_p : Packet) : Option Bool :=
  (F.spec_l1In a_p.From 0 65535).bind fun x1 =>
  bif x1 then
  (F.spec_l1In a_p.To 0 65535).bind fun x2 =>
  bif x2 then
  (F.spec_l1In a_p.Port 0 255).bind fun x3 =>
  bif x3 then
  (F.spec_l1In a_p.Proto 0 7).bind fun x4 =>
  some x4
  else
  some false
  else
  some false
  else
  some false


def spec_PacketField (a_p : Packet) (a_n : Int) : Option Int :=
  (F.spec_PacketValid a_p).bind fun x1 =>
  bif x1 then
  (F.spec_l1In a_n 0 3).bind fun x2 =>
  bif x2 then
  (idx [a_p.From, a_p.To, a_p.Port, a_p.Proto] a_n).bind fun x3 =>
  some x3
  else
  some (-1)
  else
  some (-1)


def impl_SpansHave_L0 (a_list : List Span) (a_n : Int) : Int → Option (SR (Int) Bool) := fun k1 =>
  bif (decide (k1 < (a_list.length : Int))) then
  (idx a_list k1).bind fun x1 =>
  bif (decide (x1.Lo ≤ a_n)) then
  bif (decide (a_n ≤ x1.Hi)) then
  some (.ret true)
  else
  some (.nxt (W (k1 + 1)))
  else
  some (.nxt (W (k1 + 1)))
  else
  some (.brk k1)
def impl_SpansHave (a_list : List Span) (a_n : Int) : Option Bool :=
  (loopF (impl_SpansHave_L0 a_list a_n) ((((a_list.length : Int)) : Int) - 0).toNat.succ 0).bind fun lr => lr.on (fun _k2 =>
  some false) (fun r => some r)


def laws_szSpanS (a_a : List Span) (a_left : Int) : Option Int :=
  bif (decide ((W (a_left - (a_a.length : Int))) < 0)) then
  some (-1)
  else
  some (W (a_left - (a_a.length : Int)))


def laws_szSpanSS_L0 (a_a : List (List Span)) : Int × Int → Option (SR (Int × Int) Int) := fun (k1, k2) =>
  bif (decide (k2 < (a_a.length : Int))) then
  (idx a_a k2).bind fun x1 =>
  (F.laws_szSpanS x1 k1).bind fun x2 =>
  bif (decide (x2 < 0)) then
  some (.ret (-1))
  else
  some (.nxt (x2, (W (k2 + 1))))
  else
  some (.brk (k1, k2))
def laws_szSpanSS (a_a : List (List Span)) (a_left : Int) : Option Int :=
  bif (decide ((W (a_left - (a_a.length : Int))) < 0)) then
  some (-1)
  else
  (loopF (laws_szSpanSS_L0 a_a) ((((a_a.length : Int)) : Int) - 0).toNat.succ ((W (a_left - (a_a.length : Int))), 0)).bind fun lr => lr.on (fun (k3, _k4) =>
  some k3) (fun r => some r)


def laws_szBox (a_a : Box) (a_left : Int) : Option Int :=
  (F.laws_szSpanSS a_a.Sides a_left).bind fun x1 =>
  bif (decide (x1 < 0)) then
  some (-1)
  else
  some x1


def spec_SpansValid_L0 (a_list : List Span) (a_top : Int) : Int → Option (SR (Int) Bool) := fun k1 =>
  bif (decide (k1 < (a_list.length : Int))) then
  (idx a_list k1).bind fun x1 =>
  (F.spec_l1In x1.Lo 0 x1.Hi).bind fun x2 =>
  bif x2 then
  (F.spec_l1In x1.Hi 0 a_top).bind fun x3 =>
  bif x3 then
  bif (decide (0 < k1)) then
  (idx a_list (W (k1 - 1))).bind fun x4 =>
  bif (decide (x1.Lo < (W (x4.Hi + 2)))) then
  some (.ret false)
  else
  some (.nxt (W (k1 + 1)))
  else
  some (.nxt (W (k1 + 1)))
  else
  some (.ret false)
  else
  some (.ret false)
  else
  some (.brk k1)
def spec_SpansValid (a_list : List Span) (a_top : Int) : Option Bool :=
  (loopF (spec_SpansValid_L0 a_list a_top) ((((a_list.length : Int)) : Int) - 0).toNat.succ 0).bind fun lr => lr.on (fun _k2 =>
  (F.spec_l1In a_top 0 65535).bind fun x5 =>
  bif x5 then
  some (decide ((a_list.length : Int) ≤ 40))
  else
  some false) (fun r => some r)


def spec_BoxValid_L0 (a_b : Box) : Int → Option (SR (Int) Bool) := fun k1 =>
  bif (decide (k1 < (a_b.Sides.length : Int))) then
  bif (decide (4 ≤ k1)) then
  some (.ret false)
  else
  (idx a_b.Sides k1).bind fun x1 =>
  (F.spec_FieldTop k1).bind fun x2 =>
  (F.spec_SpansValid x1 x2).bind fun x3 =>
  bif x3 then
  some (.nxt (W (k1 + 1)))
  else
  some (.ret false)
  else
  some (.brk k1)
def spec_BoxValid (a_b : Box) : Option Bool :=
  (loopF (spec_BoxValid_L0 a_b) ((((a_b.Sides.length : Int)) : Int) - 0).toNat.succ 0).bind fun lr => lr.on (fun _k2 =>
  some ((a_b.Sides.length : Int) == 4)) (fun r => some r)


def laws_toSpan (a_a : Span) : Option Span :=
  some ({ Lo := a_a.Lo, Hi := a_a.Hi } : Span)


def laws_toSpanS_L0 (a_a : List Span) : Int × (List Span) → Option (SR (Int × (List Span)) ((List Span))) := fun (k1, y1) =>
  bif (decide (k1 < (a_a.length : Int))) then
  (idx a_a k1).bind fun x1 =>
  (F.laws_toSpan x1).bind fun x2 =>
  (idx y1 k1).bind fun _x3 =>
  some (.nxt ((W (k1 + 1)), (List.set y1 (k1 : Int).toNat x2)))
  else
  some (.brk (k1, y1))
def laws_toSpanS (a_a : List Span) : Option ((List Span)) :=
  (makeF ({ Lo := (0 : Int), Hi := (0 : Int) } : Span) (a_a.length : Int)).bind fun mk1 =>
  (loopF (laws_toSpanS_L0 a_a) ((((a_a.length : Int)) : Int) - 0).toNat.succ (0, mk1)).bind fun lr => lr.on (fun (_k2, y2) =>
  some y2) (fun r => some r)


def laws_toSpanSS_L0 (a_a : List (List Span)) : Int × (List (List Span)) → Option (SR (Int × (List (List Span))) ((List (List Span)))) := fun (k1, y1) =>
  bif (decide (k1 < (a_a.length : Int))) then
  (idx a_a k1).bind fun x1 =>
  (F.laws_toSpanS x1).bind fun x2 =>
  (idx y1 k1).bind fun _x3 =>
  some (.nxt ((W (k1 + 1)), (List.set y1 (k1 : Int).toNat x2)))
  else
  some (.brk (k1, y1))
def laws_toSpanSS (a_a : List (List Span)) : Option ((List (List Span))) :=
  (makeF ([] : List Span) (a_a.length : Int)).bind fun mk1 =>
  (loopF (laws_toSpanSS_L0 a_a) ((((a_a.length : Int)) : Int) - 0).toNat.succ (0, mk1)).bind fun lr => lr.on (fun (_k2, y2) =>
  some y2) (fun r => some r)


def laws_toBox (a_a : Box) : Option Box :=
  (F.laws_toSpanSS a_a.Sides).bind fun x1 =>
  some ({ Sides := x1 } : Box)


def impl_topValid (a_top : Int) : Option Bool :=
  bif (decide (0 ≤ a_top)) then
  some (decide (a_top ≤ 65535))
  else
  some false


def impl_SpansValid_L0 (a_list : List Span) (a_top : Int) : Int × Int → Option (SR (Int × Int) Bool) := fun (k1, k2) =>
  bif (decide (k2 < (a_list.length : Int))) then
  (idx a_list k2).bind fun x2 =>
  bif (decide (x2.Lo ≤ (W (k1 + 1)))) then
  some (.ret false)
  else
  bif (decide (x2.Hi < x2.Lo)) then
  some (.ret false)
  else
  bif (decide (a_top < x2.Hi)) then
  some (.ret false)
  else
  some (.nxt (x2.Hi, (W (k2 + 1))))
  else
  some (.brk (k1, k2))
def impl_SpansValid (a_list : List Span) (a_top : Int) : Option Bool :=
  (F.impl_topValid a_top).bind fun x1 =>
  bif x1 then
  bif (decide (40 < (a_list.length : Int))) then
  some false
  else
  (loopF (impl_SpansValid_L0 a_list a_top) ((((a_list.length : Int)) : Int) - 0).toNat.succ ((-2), 0)).bind fun lr => lr.on (fun (_k3, _k4) =>
  some true) (fun r => some r)
  else
  some false


def impl_BoxValid_L0 (a_b : Box) : Int → Option (SR (Int) Bool) := fun k1 =>
  bif (decide (k1 < (a_b.Sides.length : Int))) then
  (idx a_b.Sides k1).bind fun x1 =>
  (F.impl_FieldTop k1).bind fun x2 =>
  (F.impl_SpansValid x1 x2).bind fun x3 =>
  bif x3 then
  some (.nxt (W (k1 + 1)))
  else
  some (.ret false)
  else
  some (.brk k1)
def impl_BoxValid (a_b : Box) : Option Bool :=
  bif ((a_b.Sides.length : Int) != 4) then
  some false
  else
  (loopF (impl_BoxValid_L0 a_b) ((((a_b.Sides.length : Int)) : Int) - 0).toNat.succ 0).bind fun lr => lr.on (fun _k2 =>
  some true) (fun r => some r)


def impl_sidesOf (a_b : Box) : Option ((List (List Span))) :=
  (arrF 4 a_b.Sides).bind fun y1 =>
  some y1


def laws_eqSpan (a_a : Span) (a_b : Span) : Option Bool :=
  bif (a_a.Lo != a_b.Lo) then
  some false
  else
  bif (a_a.Hi != a_b.Hi) then
  some false
  else
  some true


def laws_eqSpanS_L0 (a_a : List Span) (a_b : List Span) : Int → Option (SR (Int) Bool) := fun k1 =>
  bif (decide (k1 < (a_a.length : Int))) then
  (idx a_a k1).bind fun x1 =>
  (idx a_b k1).bind fun x2 =>
  (F.laws_eqSpan x1 x2).bind fun x3 =>
  bif x3 then
  some (.nxt (W (k1 + 1)))
  else
  some (.ret false)
  else
  some (.brk k1)
def laws_eqSpanS (a_a : List Span) (a_b : List Span) : Option Bool :=
  bif ((a_a.length : Int) != (a_b.length : Int)) then
  some false
  else
  (loopF (laws_eqSpanS_L0 a_a a_b) ((((a_a.length : Int)) : Int) - 0).toNat.succ 0).bind fun lr => lr.on (fun _k2 =>
  some true) (fun r => some r)


def laws_eqSpanSS_L0 (a_a : List (List Span)) (a_b : List (List Span)) : Int → Option (SR (Int) Bool) := fun k1 =>
  bif (decide (k1 < (a_a.length : Int))) then
  (idx a_a k1).bind fun x1 =>
  (idx a_b k1).bind fun x2 =>
  (F.laws_eqSpanS x1 x2).bind fun x3 =>
  bif x3 then
  some (.nxt (W (k1 + 1)))
  else
  some (.ret false)
  else
  some (.brk k1)
def laws_eqSpanSS (a_a : List (List Span)) (a_b : List (List Span)) : Option Bool :=
  bif ((a_a.length : Int) != (a_b.length : Int)) then
  some false
  else
  (loopF (laws_eqSpanSS_L0 a_a a_b) ((((a_a.length : Int)) : Int) - 0).toNat.succ 0).bind fun lr => lr.on (fun _k2 =>
  some true) (fun r => some r)


def laws_eqBox (a_a : Box) (a_b : Box) : Option Bool :=
  (F.laws_eqSpanSS a_a.Sides a_b.Sides).bind fun x1 =>
  bif x1 then
  some true
  else
  some false


def spec_l1OwnRowsSpan_L0 (a_list : List (List Span)) : (List (List Span)) × Int → Option (SR ((List (List Span)) × Int) ((List (List Span)))) := fun (y1, k1) =>
  bif (decide (k1 < (a_list.length : Int))) then
  (idx a_list k1).bind fun x1 =>
  (appF ([] : List Span) x1).bind fun z1 =>
  (appF y1 [z1]).bind fun z2 =>
  some (.nxt (z2, (W (k1 + 1))))
  else
  some (.brk (y1, k1))
def spec_l1OwnRowsSpan (a_list : List (List Span)) : Option ((List (List Span))) :=
  (loopF (spec_l1OwnRowsSpan_L0 a_list) ((((a_list.length : Int)) : Int) - 0).toNat.succ (([] : List (List Span)), 0)).bind fun lr => lr.on (fun (y2, _k2) =>
  some y2) (fun r => some r)


def spec_l2Meet_L1 (a_a : List Span) (a_b : List Span) (k1 : Int) : (List Span) × Int → Option (SR ((List Span) × Int) ((List Span))) := fun (y2, k2) =>
  bif (decide (k2 < (a_b.length : Int))) then
  (idx a_a k1).bind fun x1 =>
  (idx a_b k2).bind fun x2 =>
  bif (decide ((imax x1.Lo x2.Lo) ≤ (imin x1.Hi x2.Hi))) then
  (appF y2 [({ Lo := (imax x1.Lo x2.Lo), Hi := (imin x1.Hi x2.Hi) } : Span)]).bind fun z1 =>
  some (.nxt (z1, (W (k2 + 1))))
  else
  some (.nxt (y2, (W (k2 + 1))))
  else
  some (.brk (y2, k2))
def spec_l2Meet_L0 (a_a : List Span) (a_b : List Span) : (List Span) × Int → Option (SR ((List Span) × Int) ((List Span))) := fun (y1, k1) =>
  bif (decide (k1 < (a_a.length : Int))) then
  (loopF (spec_l2Meet_L1 a_a a_b k1) ((((a_b.length : Int)) : Int) - 0).toNat.succ (y1, 0)).bind fun lr => lr.on (fun (y3, _k3) =>
  some (.nxt (y3, (W (k1 + 1))))) (fun r => some (.ret r))
  else
  some (.brk (y1, k1))
def spec_l2Meet (a_a : List Span) (a_b : List Span) : Option ((List Span)) :=
  (loopF (spec_l2Meet_L0 a_a a_b) ((((a_a.length : Int)) : Int) - 0).toNat.succ (([] : List Span), 0)).bind fun lr => lr.on (fun (y4, _k4) =>
  some y4) (fun r => some r)


def impl_stretch (a_rest : List Span) (a_at : Int) (a_top : Int) : Option (Bool × Int) :=
  bif ((a_rest.length : Int) == 0) then
  some (false, a_top)
  else
  (idx a_rest 0).bind fun x1 =>
  bif (decide (a_at < x1.Lo)) then
  some (false, (W (x1.Lo - 1)))
  else
  some (true, x1.Hi)


def impl_limitSpans (a_list : List Span) : Option ((List Span) × Bool) :=
  bif (decide (40 < (a_list.length : Int))) then
  some (([] : List Span), false)
  else
  some (a_list, true)


def impl_inBoth (a_inA : Bool) (a_inB : Bool) : Option Bool :=
  bif a_inA then
  some a_inB
  else
  some false


def impl_sweepSpans__impl_inBoth_L2 (a_b : List Span) (k3 : Int) : Int × (List Span) → Option (SR (Int × (List Span)) ((List Span))) := fun (k6, y4) =>
  bif (decide (k6 < (a_b.length : Int))) then
  (idx a_b k6).bind fun x2 =>
  bif (decide (x2.Hi < k3)) then
  some (.nxt ((W (k6 + 1)), y4))
  else
  some (.brk (k6, y4))
  else
  some (.brk (k6, y4))
def impl_sweepSpans__impl_inBoth_L1 (a_a : List Span) (k3 : Int) : Int × (List Span) → Option (SR (Int × (List Span)) ((List Span))) := fun (k4, y2) =>
  bif (decide (k4 < (a_a.length : Int))) then
  (idx a_a k4).bind fun x1 =>
  bif (decide (x1.Hi < k3)) then
  some (.nxt ((W (k4 + 1)), y2))
  else
  some (.brk (k4, y2))
  else
  some (.brk (k4, y2))
def impl_sweepSpans__impl_inBoth_L0 (a_a : List Span) (a_b : List Span) (a_top : Int) : (List Span) × Int × Int × Int → Option (SR ((List Span) × Int × Int × Int) ((List Span))) := fun (y1, k1, k2, k3) =>
  bif (decide (k3 ≤ a_top)) then
  (loopF (impl_sweepSpans__impl_inBoth_L1 a_a k3) ((((a_a.length : Int)) : Int) - k1).toNat.succ (k1, y1)).bind fun lr => lr.on (fun (k5, y3) =>
  (loopF (impl_sweepSpans__impl_inBoth_L2 a_b k3) ((((a_b.length : Int)) : Int) - k2).toNat.succ (k2, y3)).bind fun lr => lr.on (fun (k7, y5) =>
  (dropF a_a k5).bind fun y6 =>
  (F.impl_stretch y6 k3 a_top).bind fun x3 =>
  (dropF a_b k7).bind fun y7 =>
  (F.impl_stretch y7 k3 a_top).bind fun x4 =>
  (F.impl_inBoth x3.1 x4.1).bind fun x5 =>
  bif x5 then
  bif (decide (0 < (y5.length : Int))) then
  (idx y5 (W ((y5.length : Int) - 1))).bind fun x6 =>
  bif ((W (x6.Hi + 1)) == k3) then
  some (.nxt ((List.set y5 ((W ((y5.length : Int) - 1)) : Int).toNat { x6 with Hi := (imin x3.2 x4.2) }), k5, k7, (W ((imin x3.2 x4.2) + 1))))
  else
  (appF y5 [({ Lo := k3, Hi := (imin x3.2 x4.2) } : Span)]).bind fun z1 =>
  some (.nxt (z1, k5, k7, (W ((imin x3.2 x4.2) + 1))))
  else
  (appF y5 [({ Lo := k3, Hi := (imin x3.2 x4.2) } : Span)]).bind fun z2 =>
  some (.nxt (z2, k5, k7, (W ((imin x3.2 x4.2) + 1))))
  else
  some (.nxt (y5, k5, k7, (W ((imin x3.2 x4.2) + 1))))) (fun r => some (.ret r))) (fun r => some (.ret r))
  else
  some (.brk (y1, k1, k2, k3))
def impl_sweepSpans__impl_inBoth (a_a : List Span) (a_b : List Span) (a_top : Int) : Option ((List Span)) :=
  (loopF (impl_sweepSpans__impl_inBoth_L0 a_a a_b a_top) (((a_top) : Int) - 0 + 1).toNat.succ (([] : List Span), 0, 0, 0)).bind fun lr => lr.on (fun (y8, _k8, _k9, _k10) =>
  some y8) (fun r => some r)


def impl_meetSpans (a_a : List Span) (a_b : List Span) (a_top : Int) : Option ((List Span) × Bool) :=
  (F.impl_sweepSpans__impl_inBoth a_a a_b a_top).bind fun x1 =>
  (F.impl_limitSpans x1).bind fun x2 =>
  some (x2.1, x2.2)


def impl_sides_box_L0 (a_s : List (List Span)) : Int × (List (List Span)) → Option (SR (Int × (List (List Span))) Box) := fun (k1, y1) =>
  bif (decide (k1 < 4)) then
  (idx a_s k1).bind fun x1 =>
  (appF ([] : List Span) x1).bind fun z1 =>
  (idx y1 k1).bind fun _x2 =>
  some (.nxt ((W (k1 + 1)), (List.set y1 (k1 : Int).toNat z1)))
  else
  some (.brk (k1, y1))
def impl_sides_box (a_s : List (List Span)) : Option Box :=
  (makeF ([] : List Span) 4).bind fun mk1 =>
  (loopF (impl_sides_box_L0 a_s) (((4) : Int) - 0).toNat.succ (0, mk1)).bind fun lr => lr.on (fun (_k2, y2) =>
  some ({ Sides := y2 } : Box)) (fun r => some r)


def spec_BoxAll_L0 : Int × (List (List Span)) → Option (SR (Int × (List (List Span))) Box) := fun (k1, y1) =>
  bif (decide (k1 < 4)) then
  (F.spec_FieldTop k1).bind fun x1 =>
  (appF y1 [[({ Lo := 0, Hi := x1 } : Span)]]).bind fun z1 =>
  some (.nxt ((W (k1 + 1)), z1))
  else
  some (.brk (k1, y1))
def spec_BoxAll : Option Box :=
  (loopF (spec_BoxAll_L0) (((4) : Int) - 0).toNat.succ (0, ([] : List (List Span)))).bind fun lr => lr.on (fun (_k2, y2) =>
  some ({ Sides := y2 } : Box)) (fun r => some r)


def spec_l2Other_L0 (a_a : List Span) : (List Span) × Int × Int → Option (SR ((List Span) × Int × Int) ((List Span))) := fun (y1, k1, k2) =>
  bif (decide (k2 < (a_a.length : Int))) then
  (idx a_a k2).bind fun x1 =>
  bif (decide (k1 < x1.Lo)) then
  (appF y1 [({ Lo := k1, Hi := (W (x1.Lo - 1)) } : Span)]).bind fun z1 =>
  some (.nxt (z1, (W (x1.Hi + 1)), (W (k2 + 1))))
  else
  some (.nxt (y1, (W (x1.Hi + 1)), (W (k2 + 1))))
  else
  some (.brk (y1, k1, k2))
def spec_l2Other (a_a : List Span) (a_top : Int) : Option ((List Span)) :=
  (loopF (spec_l2Other_L0 a_a) ((((a_a.length : Int)) : Int) - 0).toNat.succ (([] : List Span), 0, 0)).bind fun lr => lr.on (fun (y2, k3, _k4) =>
  bif (decide (k3 ≤ a_top)) then
  (appF y2 [({ Lo := k3, Hi := a_top } : Span)]).bind fun z2 =>
  some z2
  else
  some y2) (fun r => some r)


def spec_TestSpans (a_t : Test) : Option ((List Span)) :=
  (F.spec_TestValid a_t).bind fun x1 =>
  bif x1 then
  bif a_t.Not then
  (F.spec_FieldTop a_t.Field).bind fun x2 =>
  (F.spec_l2Other [({ Lo := a_t.Lo, Hi := a_t.Hi } : Span)] x2).bind fun x3 =>
  some x3
  else
  some [({ Lo := a_t.Lo, Hi := a_t.Hi } : Span)]
  else
  some ([] : List Span)


def spec_TestsBox_L0 (a_list : List Test) : Int × (List (List Span)) → Option (SR (Int × (List (List Span))) Box) := fun (k1, y1) =>
  bif (decide (k1 < (a_list.length : Int))) then
  (idx a_list k1).bind fun x3 =>
  (idx y1 x3.Field).bind fun x4 =>
  (F.spec_TestSpans x3).bind fun x5 =>
  (F.spec_l2Meet x4 x5).bind fun x6 =>
  some (.nxt ((W (k1 + 1)), (List.set y1 (x3.Field : Int).toNat x6)))
  else
  some (.brk (k1, y1))
def spec_TestsBox (a_list : List Test) : Option Box :=
  (F.spec_TestsValid a_list).bind fun x1 =>
  bif x1 then
  (F.spec_BoxAll).bind fun x2 =>
  (loopF (spec_TestsBox_L0 a_list) ((((a_list.length : Int)) : Int) - 0).toNat.succ (0, x2.Sides)).bind fun lr => lr.on (fun (_k2, y2) =>
  some ({ Sides := y2 } : Box)) (fun r => some r)
  else
  some ({ Sides := ([] : List (List Span)) } : Box)


def impl_allSides_L0 : Int × (List (List Span)) → Option (SR (Int × (List (List Span))) ((List (List Span)))) := fun (k1, y1) =>
  bif (decide (k1 < 4)) then
  (F.impl_FieldTop k1).bind fun x1 =>
  (idx y1 k1).bind fun _x2 =>
  some (.nxt ((W (k1 + 1)), (List.set y1 (k1 : Int).toNat [({ Lo := 0, Hi := x1 } : Span)])))
  else
  some (.brk (k1, y1))
def impl_allSides : Option ((List (List Span))) :=
  (loopF (impl_allSides_L0) (((4) : Int) - 0).toNat.succ (0, [([] : List Span), ([] : List Span), ([] : List Span), ([] : List Span)])).bind fun lr => lr.on (fun (_k2, y2) =>
  some y2) (fun r => some r)


def impl_Test_spans (a_t : Test) : Option ((List Span)) :=
  bif a_t.Not then
  bif (decide (0 < a_t.Lo)) then
  (appF ([] : List Span) [({ Lo := 0, Hi := (W (a_t.Lo - 1)) } : Span)]).bind fun z1 =>
  (F.impl_FieldTop a_t.Field).bind fun x1 =>
  bif (decide (a_t.Hi < x1)) then
  (appF z1 [({ Lo := (W (a_t.Hi + 1)), Hi := x1 } : Span)]).bind fun z2 =>
  some z2
  else
  some z1
  else
  (F.impl_FieldTop a_t.Field).bind fun x2 =>
  bif (decide (a_t.Hi < x2)) then
  (appF ([] : List Span) [({ Lo := (W (a_t.Hi + 1)), Hi := x2 } : Span)]).bind fun z3 =>
  some z3
  else
  some ([] : List Span)
  else
  some [({ Lo := a_t.Lo, Hi := a_t.Hi } : Span)]


def impl_testsSides_L0 (a_list : List Test) : Int × (List (List Span)) → Option (SR (Int × (List (List Span))) ((List (List Span)))) := fun (k1, y1) =>
  bif (decide (k1 < (a_list.length : Int))) then
  (idx a_list k1).bind fun x2 =>
  (idx y1 x2.Field).bind fun x3 =>
  (F.impl_Test_spans x2).bind fun x4 =>
  (F.impl_FieldTop x2.Field).bind fun x5 =>
  (F.impl_meetSpans x3 x4 x5).bind fun x6 =>
  some (.nxt ((W (k1 + 1)), (List.set y1 (x2.Field : Int).toNat x6.1)))
  else
  some (.brk (k1, y1))
def impl_testsSides (a_list : List Test) : Option ((List (List Span))) :=
  (F.impl_allSides).bind fun x1 =>
  (loopF (impl_testsSides_L0 a_list) ((((a_list.length : Int)) : Int) - 0).toNat.succ (0, x1)).bind fun lr => lr.on (fun (_k2, y2) =>
  some y2) (fun r => some r)


def impl_TestsBox (a_list : List Test) : Option Box :=
  (F.impl_TestsValid a_list).bind fun x1 =>
  bif x1 then
  (F.impl_testsSides a_list).bind fun x2 =>
  (F.impl_sides_box x2).bind fun x3 =>
  some ({ Sides := x3.Sides } : Box)
  else
  some ({ Sides := ([] : List (List Span)) } : Box)


def laws_szFlat (a_a : Flat) (a_left : Int) : Option Int :=
  (F.laws_szBox a_a.Where a_left).bind fun x1 =>
  bif (decide (x1 < 0)) then
  some (-1)
  else
  some x1


def laws_szFlatS_L0 (a_a : List Flat) : Int × Int → Option (SR (Int × Int) Int) := fun (k1, k2) =>
  bif (decide (k2 < (a_a.length : Int))) then
  (idx a_a k2).bind fun x1 =>
  (F.laws_szFlat x1 k1).bind fun x2 =>
  bif (decide (x2 < 0)) then
  some (.ret (-1))
  else
  some (.nxt (x2, (W (k2 + 1))))
  else
  some (.brk (k1, k2))
def laws_szFlatS (a_a : List Flat) (a_left : Int) : Option Int :=
  bif (decide ((W (a_left - (a_a.length : Int))) < 0)) then
  some (-1)
  else
  (loopF (laws_szFlatS_L0 a_a) ((((a_a.length : Int)) : Int) - 0).toNat.succ ((W (a_left - (a_a.length : Int))), 0)).bind fun lr => lr.on (fun (k3, _k4) =>
  some k3) (fun r => some r)


def spec_FlatsValid_L0 (a_list : List Flat) : Int → Option (SR (Int) Bool) := fun k1 =>
  bif (decide (k1 < (a_list.length : Int))) then
  (idx a_list k1).bind fun x1 =>
  (F.spec_BoxValid x1.Where).bind fun x2 =>
  bif x2 then
  some (.nxt (W (k1 + 1)))
  else
  some (.ret false)
  else
  some (.brk k1)
def spec_FlatsValid (a_list : List Flat) : Option Bool :=
  (loopF (spec_FlatsValid_L0 a_list) ((((a_list.length : Int)) : Int) - 0).toNat.succ 0).bind fun lr => lr.on (fun _k2 =>
  some (decide ((a_list.length : Int) ≤ 60))) (fun r => some r)


def laws_toFlat (a_a : Flat) : Option Flat :=
  (F.laws_toBox a_a.Where).bind fun x1 =>
  some ({ Where := ({ Sides := x1.Sides } : Box), Accept := a_a.Accept } : Flat)


def laws_toFlatS_L0 (a_a : List Flat) : Int × (List Flat) → Option (SR (Int × (List Flat)) ((List Flat))) := fun (k1, y1) =>
  bif (decide (k1 < (a_a.length : Int))) then
  (idx a_a k1).bind fun x1 =>
  (F.laws_toFlat x1).bind fun x2 =>
  (idx y1 k1).bind fun _x3 =>
  some (.nxt ((W (k1 + 1)), (List.set y1 (k1 : Int).toNat x2)))
  else
  some (.brk (k1, y1))
def laws_toFlatS (a_a : List Flat) : Option ((List Flat)) :=
  (makeF ({ Where := ({ Sides := ([] : List (List Span)) } : Box), Accept := false } : Flat) (a_a.length : Int)).bind fun mk1 =>
  (loopF (laws_toFlatS_L0 a_a) ((((a_a.length : Int)) : Int) - 0).toNat.succ (0, mk1)).bind fun lr => lr.on (fun (_k2, y2) =>
  some y2) (fun r => some r)


def impl_FlatsValid_L0 (a_list : List Flat) : Int → Option (SR (Int) Bool) := fun k1 =>
  bif (decide (k1 < (a_list.length : Int))) then
  (idx a_list k1).bind fun x1 =>
  (F.impl_BoxValid x1.Where).bind fun x2 =>
  bif x2 then
  some (.nxt (W (k1 + 1)))
  else
  some (.ret false)
  else
  some (.brk k1)
def impl_FlatsValid (a_list : List Flat) : Option Bool :=
  bif (decide (60 < (a_list.length : Int))) then
  some false
  else
  (loopF (impl_FlatsValid_L0 a_list) ((((a_list.length : Int)) : Int) - 0).toNat.succ 0).bind fun lr => lr.on (fun _k2 =>
  some true) (fun r => some r)


def impl_flatsOf_L0 (a_list : List Flat) : (List FlatI) × Int → Option (SR ((List FlatI) × Int) ((List FlatI))) := fun (y1, k1) =>
  bif (decide (k1 < (a_list.length : Int))) then
  (idx a_list k1).bind fun x1 =>
  (F.impl_sidesOf x1.Where).bind fun x2 =>
  (appF y1 [({ wh := x2, accept := x1.Accept } : FlatI)]).bind fun z1 =>
  some (.nxt (z1, (W (k1 + 1))))
  else
  some (.brk (y1, k1))
def impl_flatsOf (a_list : List Flat) : Option ((List FlatI)) :=
  (capF (a_list.length : Int)).bind fun _u1 =>
  (loopF (impl_flatsOf_L0 a_list) ((((a_list.length : Int)) : Int) - 0).toNat.succ (([] : List FlatI), 0)).bind fun lr => lr.on (fun (y2, _k2) =>
  some y2) (fun r => some r)


def laws_eqFlat (a_a : Flat) (a_b : Flat) : Option Bool :=
  (F.laws_eqBox a_a.Where a_b.Where).bind fun x1 =>
  bif x1 then
  bif (a_a.Accept != a_b.Accept) then
  some false
  else
  some true
  else
  some false


def laws_eqFlatS_L0 (a_a : List Flat) (a_b : List Flat) : Int → Option (SR (Int) Bool) := fun k1 =>
  bif (decide (k1 < (a_a.length : Int))) then
  (idx a_a k1).bind fun x1 =>
  (idx a_b k1).bind fun x2 =>
  (F.laws_eqFlat x1 x2).bind fun x3 =>
  bif x3 then
  some (.nxt (W (k1 + 1)))
  else
  some (.ret false)
  else
  some (.brk k1)
def laws_eqFlatS (a_a : List Flat) (a_b : List Flat) : Option Bool :=
  bif ((a_a.length : Int) != (a_b.length : Int)) then
  some false
  else
  (loopF (laws_eqFlatS_L0 a_a a_b) ((((a_a.length : Int)) : Int) - 0).toNat.succ 0).bind fun lr => lr.on (fun _k2 =>
  some true) (fun r => some r)


def laws_toPacket (a_a : Packet) : Option Packet :=
  some ({ From := a_a.From, To := a_a.To, Port := a_a.Port, Proto := a_a.Proto } : Packet)


def impl_sides_has_L0 (a_s : List (List Span)) (x1 : List Int) : Int → Option (SR (Int) Bool) := fun k1 =>
  bif (decide (k1 < 4)) then
  (idx x1 k1).bind fun x2 =>
  (idx a_s k1).bind fun x3 =>
  (F.impl_SpansHave x3 x2).bind fun x4 =>
  bif x4 then
  some (.nxt (W (k1 + 1)))
  else
  some (.ret false)
  else
  some (.brk k1)
def impl_sides_has (a_s : List (List Span)) (a_p : Packet) : Option Bool :=
  (F.impl_Packet_fields a_p).bind fun x1 =>
  (loopF (impl_sides_has_L0 a_s x1) (((4) : Int) - 0).toNat.succ 0).bind fun lr => lr.on (fun _k2 =>
  some true) (fun r => some r)


def spec_SpansHave_L0 (a_list : List Span) (a_n : Int) : Int → Option (SR (Int) Bool) := fun k1 =>
  bif (decide (k1 < (a_list.length : Int))) then
  (idx a_list k1).bind fun x1 =>
  (F.spec_l1In a_n x1.Lo x1.Hi).bind fun x2 =>
  bif x2 then
  some (.ret true)
  else
  some (.nxt (W (k1 + 1)))
  else
  some (.brk k1)
def spec_SpansHave (a_list : List Span) (a_n : Int) : Option Bool :=
  (loopF (spec_SpansHave_L0 a_list a_n) ((((a_list.length : Int)) : Int) - 0).toNat.succ 0).bind fun lr => lr.on (fun _k2 =>
  some false) (fun r => some r)


def spec_BoxHas_L0 (a_b : Box) (a_p : Packet) : Int → Option (SR (Int) Bool) := fun k1 =>
  bif (decide (k1 < 4)) then
  (idx a_b.Sides k1).bind fun x3 =>
  (F.spec_PacketField a_p k1).bind fun x4 =>
  (F.spec_SpansHave x3 x4).bind fun x5 =>
  bif x5 then
  some (.nxt (W (k1 + 1)))
  else
  some (.ret false)
  else
  some (.brk k1)
def spec_BoxHas (a_b : Box) (a_p : Packet) : Option Bool :=
  (F.spec_BoxValid a_b).bind fun x1 =>
  bif x1 then
  (F.spec_PacketValid a_p).bind fun x2 =>
  bif x2 then
  (loopF (spec_BoxHas_L0 a_b a_p) (((4) : Int) - 0).toNat.succ 0).bind fun lr => lr.on (fun _k2 =>
  some true) (fun r => some r)
  else
  some false
  else
  some false


def spec_JudgeFlat_L0 (a_list : List Flat) (a_p : Packet) : Int → Option (SR (Int) Bool) := fun k1 =>
  bif (decide (k1 < (a_list.length : Int))) then
  (idx a_list k1).bind fun x3 =>
  (F.spec_BoxHas x3.Where a_p).bind fun x4 =>
  bif x4 then
  some (.ret x3.Accept)
  else
  some (.nxt (W (k1 + 1)))
  else
  some (.brk k1)
def spec_JudgeFlat (a_list : List Flat) (a_rest : Bool) (a_p : Packet) : Option Bool :=
  (F.spec_FlatsValid a_list).bind fun x1 =>
  bif x1 then
  (F.spec_PacketValid a_p).bind fun x2 =>
  bif x2 then
  (loopF (spec_JudgeFlat_L0 a_list a_p) ((((a_list.length : Int)) : Int) - 0).toNat.succ 0).bind fun lr => lr.on (fun _k2 =>
  some a_rest) (fun r => some r)
  else
  some false
  else
  some false


def impl_firstWith_1 (a_f : FlatI) (a_c : Packet) : Option Bool :=
  (F.impl_sides_has a_f.wh a_c).bind fun x1 =>
  some x1


def slices_IndexFunc_impl_flat_impl_flat__impl_firstWith_1_L0 (a_s : List FlatI) (a_c : Packet) : Int → Option (SR (Int) Int) := fun k1 =>
  bif (decide (k1 < (a_s.length : Int))) then
  (idx a_s k1).bind fun x1 =>
  (F.impl_firstWith_1 x1 a_c).bind fun x2 =>
  bif x2 then
  some (.ret k1)
  else
  some (.nxt (W (k1 + 1)))
  else
  some (.brk k1)
def slices_IndexFunc_impl_flat_impl_flat__impl_firstWith_1 (a_s : List FlatI) (a_c : Packet) : Option Int :=
  (loopF (slices_IndexFunc_impl_flat_impl_flat__impl_firstWith_1_L0 a_s a_c) ((((a_s.length : Int)) : Int) - 0).toNat.succ 0).bind fun lr => lr.on (fun _k2 =>
  some (-1)) (fun r => some r)


def impl_firstWith (a_list : List FlatI) (a_p : Packet) : Option Int :=
  (F.slices_IndexFunc_impl_flat_impl_flat__impl_firstWith_1 a_list a_p).bind fun x1 =>
  some x1


def impl_JudgeFlat (a_list : List Flat) (a_rest : Bool) (a_p : Packet) : Option Bool :=
  (F.impl_FlatsValid a_list).bind fun x1 =>
  bif x1 then
  (F.impl_PacketValid a_p).bind fun x2 =>
  bif x2 then
  (F.impl_flatsOf a_list).bind fun x3 =>
  (F.impl_firstWith x3 a_p).bind fun x4 =>
  bif (decide (0 ≤ x4)) then
  (idx a_list x4).bind fun x5 =>
  some x5.Accept
  else
  some a_rest
  else
  some false
  else
  some false


def laws_FnExactJudgeFlat (a_aList : List Flat) (a_aRest : Bool) (a_aP : Packet) : Option Bool :=
  (F.laws_szFlatS a_aList 1048576).bind fun x1 =>
  bif (decide (x1 < 0)) then
  some true
  else
  (F.laws_toFlatS a_aList).bind fun x2 =>
  (F.laws_toPacket a_aP).bind fun x3 =>
  (F.spec_JudgeFlat x2 a_aRest x3).bind fun x4 =>
  (F.impl_JudgeFlat x2 a_aRest x3).bind fun x5 =>
  bif (x5 != x4) then
  some false
  else
  (F.laws_eqFlatS x2 x2).bind fun x6 =>
  bif x6 then
  some true
  else
  some false


end Go.PF.F
