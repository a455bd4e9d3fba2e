/- The program's functions as plain functions; no condition. -/
import Derived.Test.YtieijbplcmpnaaaDoorPFEls
namespace Go.PF.F
open Go Go.PF

def spec_l20Rd_pick (a_xs : List Int) (a_pos : Int) (a_n : Int) : Option (Int × Int) :=
  bif (decide (a_n < 1)) then
  some (0, (W (a_pos + 1)))
  else
  bif ((a_xs.length : Int) == 0) then
  some (0, (W (a_pos + 1)))
  else
  bif (decide ((W ((W (a_pos + 1)) - 1)) < (a_xs.length : Int))) then
  (idx a_xs (W ((W (a_pos + 1)) - 1))).bind fun x1 =>
  (nzF a_n).bind fun _u1 =>
  some ((((W x1)).tmod a_n), (W (a_pos + 1)))
  else
  (nzF (a_xs.length : Int)).bind fun _u2 =>
  (idx a_xs (((W ((W (a_pos + 1)) - 1))).tmod (a_xs.length : Int))).bind fun x2 =>
  (idx a_xs (((W ((W ((W ((W (a_pos + 1)) - 1)) * 7)) + 3))).tmod (a_xs.length : Int))).bind fun x3 =>
  (nzF a_n).bind fun _u3 =>
  some ((((xorF (W ((W ((W ((W ((W x2) * 131)) + (W ((W x3) * 1117)))) + (W ((W ((W (a_pos + 1)) - 1)) * 29)))) + (W ((W (((W ((W (a_pos + 1)) - 1))).tdiv (a_xs.length : Int))) * 53)))) (W (((W ((W ((W ((W ((W x2) * 131)) + (W ((W x3) * 1117)))) + (W ((W ((W (a_pos + 1)) - 1)) * 29)))) + (W ((W (((W ((W (a_pos + 1)) - 1))).tdiv (a_xs.length : Int))) * 53))))).tdiv 64)))).tmod a_n), (W (a_pos + 1)))


def spec_l20Rd_odd (a_xs : List Int) (a_pos : Int) (a_n : Int) : Option (Bool × Int) :=
  bif (decide (0 < a_n)) then
  (F.spec_l20Rd_pick a_xs a_pos a_n).bind fun x1 =>
  some ((x1.1 == (W (a_n - 1))), x1.2)
  else
  some (false, a_pos)


def spec_l20Span (a_xs : List Int) (a_pos : Int) (a_top : Int) (a_n : Int) : Option (Span × Int) :=
  (F.spec_l20Rd_pick a_xs a_pos (imin 256 (W (a_top + 1)))).bind fun x1 =>
  bif (decide (255 < a_top)) then
  (F.spec_l20Rd_pick a_xs x1.2 2).bind fun x2 =>
  bif (x2.1 == 0) then
  (F.spec_l20Rd_pick a_xs x2.2 256).bind fun x3 =>
  (F.spec_l20Rd_pick a_xs x3.2 4).bind fun x4 =>
  (F.spec_l20Rd_pick a_xs x4.2 256).bind fun x5 =>
  (F.spec_l20Rd_pick a_xs x5.2 4).bind fun x6 =>
  (idx [0, x4.1, x5.1, 4096] x6.1).bind fun x7 =>
  (F.spec_l20Rd_odd a_xs x6.2 a_n).bind fun x8 =>
  bif x8.1 then
  (F.spec_l20Rd_pick a_xs x8.2 3).bind fun x9 =>
  (idx [({ Lo := (W ((imin a_top (W ((imin a_top (W ((W (x1.1 * 256)) + x3.1))) + x7))) + 1)), Hi := (imin a_top (W ((imin a_top (W ((W (x1.1 * 256)) + x3.1))) + x7))) } : Span), ({ Lo := (-1), Hi := (imin a_top (W ((imin a_top (W ((W (x1.1 * 256)) + x3.1))) + x7))) } : Span), ({ Lo := (imin a_top (W ((W (x1.1 * 256)) + x3.1))), Hi := (W (a_top + 1)) } : Span)] x9.1).bind fun x10 =>
  some (({ Lo := x10.Lo, Hi := x10.Hi } : Span), x9.2)
  else
  some (({ Lo := (imin a_top (W ((W (x1.1 * 256)) + x3.1))), Hi := (imin a_top (W ((imin a_top (W ((W (x1.1 * 256)) + x3.1))) + x7))) } : Span), x8.2)
  else
  (F.spec_l20Rd_pick a_xs x2.2 4).bind fun x11 =>
  (F.spec_l20Rd_pick a_xs x11.2 256).bind fun x12 =>
  (F.spec_l20Rd_pick a_xs x12.2 4).bind fun x13 =>
  (idx [0, x11.1, x12.1, 4096] x13.1).bind fun x14 =>
  (F.spec_l20Rd_odd a_xs x13.2 a_n).bind fun x15 =>
  bif x15.1 then
  (F.spec_l20Rd_pick a_xs x15.2 3).bind fun x16 =>
  (idx [({ Lo := (W ((imin a_top (W (x1.1 + x14))) + 1)), Hi := (imin a_top (W (x1.1 + x14))) } : Span), ({ Lo := (-1), Hi := (imin a_top (W (x1.1 + x14))) } : Span), ({ Lo := x1.1, Hi := (W (a_top + 1)) } : Span)] x16.1).bind fun x17 =>
  some (({ Lo := x17.Lo, Hi := x17.Hi } : Span), x16.2)
  else
  some (({ Lo := x1.1, Hi := (imin a_top (W (x1.1 + x14))) } : Span), x15.2)
  else
  (F.spec_l20Rd_pick a_xs x1.2 4).bind fun x18 =>
  (F.spec_l20Rd_pick a_xs x18.2 256).bind fun x19 =>
  (F.spec_l20Rd_pick a_xs x19.2 4).bind fun x20 =>
  (idx [0, x18.1, x19.1, 4096] x20.1).bind fun x21 =>
  (F.spec_l20Rd_odd a_xs x20.2 a_n).bind fun x22 =>
  bif x22.1 then
  (F.spec_l20Rd_pick a_xs x22.2 3).bind fun x23 =>
  (idx [({ Lo := (W ((imin a_top (W (x1.1 + x21))) + 1)), Hi := (imin a_top (W (x1.1 + x21))) } : Span), ({ Lo := (-1), Hi := (imin a_top (W (x1.1 + x21))) } : Span), ({ Lo := x1.1, Hi := (W (a_top + 1)) } : Span)] x23.1).bind fun x24 =>
  some (({ Lo := x24.Lo, Hi := x24.Hi } : Span), x23.2)
  else
  some (({ Lo := x1.1, Hi := (imin a_top (W (x1.1 + x21))) } : Span), x22.2)


def spec_FieldTop (a_n : Int) : Option Int :=
  bif (a_n == 0) then
  some 65535
  else
  bif (a_n == 1) then
  some 65535
  else
  bif (a_n == 2) then
  some 255
  else
  bif (a_n == 3) then
  some 7
  else
  some (-1)


def spec_l20Test (a_xs : List Int) (a_pos : Int) (a_n : Int) : Option (Test × Int) :=
  (F.spec_l20Rd_pick a_xs a_pos 4).bind fun x1 =>
  (F.spec_l20Rd_pick a_xs x1.2 4).bind fun x2 =>
  (F.spec_FieldTop x1.1).bind fun x3 =>
  (F.spec_l20Span a_xs x2.2 x3 0).bind fun x4 =>
  bif (decide (x1.1 < 2)) then
  (F.spec_l20Rd_pick a_xs x4.2 2).bind fun x5 =>
  bif (x5.1 == 0) then
  (F.spec_l20Rd_pick a_xs x5.2 20).bind fun x6 =>
  (F.spec_l20Rd_pick a_xs x6.2 8).bind fun x7 =>
  (F.spec_l20Rd_pick a_xs x7.2 8).bind fun x8 =>
  bif (x8.1 == 0) then
  (F.spec_l20Rd_pick a_xs x8.2 3).bind fun x9 =>
  (idx [({ Lo := 0, Hi := x3 } : Span), ({ Lo := 0, Hi := (W (x6.1 + x7.1)) } : Span), ({ Lo := x6.1, Hi := x3 } : Span)] x9.1).bind fun x10 =>
  (F.spec_l20Rd_odd a_xs x9.2 a_n).bind fun x11 =>
  bif x11.1 then
  (F.spec_l20Rd_pick a_xs x11.2 3).bind fun x12 =>
  bif (x12.1 == 0) then
  (F.spec_l20Rd_pick a_xs x12.2 2).bind fun x13 =>
  (idx [(-1), 4] x13.1).bind fun x14 =>
  some (({ Field := x14, Lo := x10.Lo, Hi := x10.Hi, Not := (x2.1 == 0) } : Test), x13.2)
  else
  bif (x12.1 == 1) then
  some (({ Field := x1.1, Lo := (W (x10.Hi + 1)), Hi := x10.Hi, Not := (x2.1 == 0) } : Test), x12.2)
  else
  some (({ Field := x1.1, Lo := x10.Lo, Hi := (W (x3 + 1)), Not := (x2.1 == 0) } : Test), x12.2)
  else
  some (({ Field := x1.1, Lo := x10.Lo, Hi := x10.Hi, Not := (x2.1 == 0) } : Test), x11.2)
  else
  (F.spec_l20Rd_odd a_xs x8.2 a_n).bind fun x15 =>
  bif x15.1 then
  (F.spec_l20Rd_pick a_xs x15.2 3).bind fun x16 =>
  bif (x16.1 == 0) then
  (F.spec_l20Rd_pick a_xs x16.2 2).bind fun x17 =>
  (idx [(-1), 4] x17.1).bind fun x18 =>
  some (({ Field := x18, Lo := x6.1, Hi := (W (x6.1 + x7.1)), Not := (x2.1 == 0) } : Test), x17.2)
  else
  bif (x16.1 == 1) then
  some (({ Field := x1.1, Lo := (W ((W (x6.1 + x7.1)) + 1)), Hi := (W (x6.1 + x7.1)), Not := (x2.1 == 0) } : Test), x16.2)
  else
  some (({ Field := x1.1, Lo := x6.1, Hi := (W (x3 + 1)), Not := (x2.1 == 0) } : Test), x16.2)
  else
  some (({ Field := x1.1, Lo := x6.1, Hi := (W (x6.1 + x7.1)), Not := (x2.1 == 0) } : Test), x15.2)
  else
  (F.spec_l20Rd_pick a_xs x5.2 8).bind fun x19 =>
  bif (x19.1 == 0) then
  (F.spec_l20Rd_pick a_xs x19.2 3).bind fun x20 =>
  (idx [({ Lo := 0, Hi := x3 } : Span), ({ Lo := 0, Hi := x4.1.Hi } : Span), ({ Lo := x4.1.Lo, Hi := x3 } : Span)] x20.1).bind fun x21 =>
  (F.spec_l20Rd_odd a_xs x20.2 a_n).bind fun x22 =>
  bif x22.1 then
  (F.spec_l20Rd_pick a_xs x22.2 3).bind fun x23 =>
  bif (x23.1 == 0) then
  (F.spec_l20Rd_pick a_xs x23.2 2).bind fun x24 =>
  (idx [(-1), 4] x24.1).bind fun x25 =>
  some (({ Field := x25, Lo := x21.Lo, Hi := x21.Hi, Not := (x2.1 == 0) } : Test), x24.2)
  else
  bif (x23.1 == 1) then
  some (({ Field := x1.1, Lo := (W (x21.Hi + 1)), Hi := x21.Hi, Not := (x2.1 == 0) } : Test), x23.2)
  else
  some (({ Field := x1.1, Lo := x21.Lo, Hi := (W (x3 + 1)), Not := (x2.1 == 0) } : Test), x23.2)
  else
  some (({ Field := x1.1, Lo := x21.Lo, Hi := x21.Hi, Not := (x2.1 == 0) } : Test), x22.2)
  else
  (F.spec_l20Rd_odd a_xs x19.2 a_n).bind fun x26 =>
  bif x26.1 then
  (F.spec_l20Rd_pick a_xs x26.2 3).bind fun x27 =>
  bif (x27.1 == 0) then
  (F.spec_l20Rd_pick a_xs x27.2 2).bind fun x28 =>
  (idx [(-1), 4] x28.1).bind fun x29 =>
  some (({ Field := x29, Lo := x4.1.Lo, Hi := x4.1.Hi, Not := (x2.1 == 0) } : Test), x28.2)
  else
  bif (x27.1 == 1) then
  some (({ Field := x1.1, Lo := (W (x4.1.Hi + 1)), Hi := x4.1.Hi, Not := (x2.1 == 0) } : Test), x27.2)
  else
  some (({ Field := x1.1, Lo := x4.1.Lo, Hi := (W (x3 + 1)), Not := (x2.1 == 0) } : Test), x27.2)
  else
  some (({ Field := x1.1, Lo := x4.1.Lo, Hi := x4.1.Hi, Not := (x2.1 == 0) } : Test), x26.2)
  else
  (F.spec_l20Rd_pick a_xs x4.2 8).bind fun x30 =>
  bif (x30.1 == 0) then
  (F.spec_l20Rd_pick a_xs x30.2 3).bind fun x31 =>
  (idx [({ Lo := 0, Hi := x3 } : Span), ({ Lo := 0, Hi := x4.1.Hi } : Span), ({ Lo := x4.1.Lo, Hi := x3 } : Span)] x31.1).bind fun x32 =>
  (F.spec_l20Rd_odd a_xs x31.2 a_n).bind fun x33 =>
  bif x33.1 then
  (F.spec_l20Rd_pick a_xs x33.2 3).bind fun x34 =>
  bif (x34.1 == 0) then
  (F.spec_l20Rd_pick a_xs x34.2 2).bind fun x35 =>
  (idx [(-1), 4] x35.1).bind fun x36 =>
  some (({ Field := x36, Lo := x32.Lo, Hi := x32.Hi, Not := (x2.1 == 0) } : Test), x35.2)
  else
  bif (x34.1 == 1) then
  some (({ Field := x1.1, Lo := (W (x32.Hi + 1)), Hi := x32.Hi, Not := (x2.1 == 0) } : Test), x34.2)
  else
  some (({ Field := x1.1, Lo := x32.Lo, Hi := (W (x3 + 1)), Not := (x2.1 == 0) } : Test), x34.2)
  else
  some (({ Field := x1.1, Lo := x32.Lo, Hi := x32.Hi, Not := (x2.1 == 0) } : Test), x33.2)
  else
  (F.spec_l20Rd_odd a_xs x30.2 a_n).bind fun x37 =>
  bif x37.1 then
  (F.spec_l20Rd_pick a_xs x37.2 3).bind fun x38 =>
  bif (x38.1 == 0) then
  (F.spec_l20Rd_pick a_xs x38.2 2).bind fun x39 =>
  (idx [(-1), 4] x39.1).bind fun x40 =>
  some (({ Field := x40, Lo := x4.1.Lo, Hi := x4.1.Hi, Not := (x2.1 == 0) } : Test), x39.2)
  else
  bif (x38.1 == 1) then
  some (({ Field := x1.1, Lo := (W (x4.1.Hi + 1)), Hi := x4.1.Hi, Not := (x2.1 == 0) } : Test), x38.2)
  else
  some (({ Field := x1.1, Lo := x4.1.Lo, Hi := (W (x3 + 1)), Not := (x2.1 == 0) } : Test), x38.2)
  else
  some (({ Field := x1.1, Lo := x4.1.Lo, Hi := x4.1.Hi, Not := (x2.1 == 0) } : Test), x37.2)


def spec_l20Tests_L0 (a_xs : List Int) : (List Test) × Int × Int → Option (SR ((List Test) × Int × Int) (((List Test)) × Int)) := fun (y1, k1, k2) =>
  bif (decide (0 < k1)) then
  (F.spec_l20Test a_xs k2 0).bind fun x2 =>
  (appF y1 [x2.1]).bind fun z1 =>
  some (.nxt (z1, (W (k1 - 1)), x2.2))
  else
  some (.brk (y1, k1, k2))
def spec_l20Tests (a_xs : List Int) (a_pos : Int) (a_n : Int) : Option (((List Test)) × Int) :=
  (F.spec_l20Rd_pick a_xs a_pos 4).bind fun x1 =>
  (loopF (spec_l20Tests_L0 a_xs) ((x1.1) : Int).toNat.succ (([] : List Test), x1.1, x1.2)).bind fun lr => lr.on (fun (y2, _k3, k4) =>
  (F.spec_l20Rd_odd a_xs k4 a_n).bind fun x3 =>
  bif x3.1 then
  (F.spec_l20Rd_pick a_xs x3.2 2).bind fun x4 =>
  bif (x4.1 == 0) then
  (F.spec_l20Test a_xs x4.2 1).bind fun x5 =>
  (appF y2 [x5.1]).bind fun z2 =>
  some (z2, x5.2)
  else
  (makeF ({ Field := (0 : Int), Lo := (0 : Int), Hi := (0 : Int), Not := false } : Test) 7).bind fun mk1 =>
  some (mk1, x4.2)
  else
  some (y2, x3.2)) (fun r => some r)


def spec_l20Rule (a_xs : List Int) (a_pos : Int) (a_first : Int) (a_chains : Int) (a_n : Int) : Option (Rule × Int) :=
  (F.spec_l20Tests a_xs a_pos 0).bind fun x1 =>
  (F.spec_l20Rd_pick a_xs x1.2 8).bind fun x2 =>
  (idx [1, 1, 2, 2, 3, 3, 4, 5] x2.1).bind fun x3 =>
  bif (x3 == 3) then
  bif (decide (a_chains ≤ a_first)) then
  (F.spec_l20Rd_odd a_xs x2.2 a_n).bind fun x4 =>
  bif x4.1 then
  (F.spec_l20Rd_pick a_xs x4.2 3).bind fun x5 =>
  bif (x5.1 == 0) then
  (F.spec_l20Rd_pick a_xs x5.2 2).bind fun x6 =>
  (idx [0, 6] x6.1).bind fun x7 =>
  some (({ Tests := x1.1, Action := x7, Chain := 0 } : Rule), x6.2)
  else
  bif (x5.1 == 1) then
  (F.spec_l20Rd_pick a_xs x5.2 3).bind fun x8 =>
  (idx [(-1), 5, 1] x8.1).bind fun x9 =>
  some (({ Tests := x1.1, Action := 2, Chain := x9 } : Rule), x8.2)
  else
  (F.spec_l20Tests a_xs x5.2 1).bind fun x10 =>
  some (({ Tests := x10.1, Action := 2, Chain := 0 } : Rule), x10.2)
  else
  some (({ Tests := x1.1, Action := 2, Chain := 0 } : Rule), x4.2)
  else
  (F.spec_l20Rd_pick a_xs x2.2 (W (a_chains - a_first))).bind fun x11 =>
  (F.spec_l20Rd_odd a_xs x11.2 a_n).bind fun x12 =>
  bif x12.1 then
  (F.spec_l20Rd_pick a_xs x12.2 3).bind fun x13 =>
  bif (x13.1 == 0) then
  (F.spec_l20Rd_pick a_xs x13.2 2).bind fun x14 =>
  (idx [0, 6] x14.1).bind fun x15 =>
  some (({ Tests := x1.1, Action := x15, Chain := (W (a_first + x11.1)) } : Rule), x14.2)
  else
  bif (x13.1 == 1) then
  (F.spec_l20Rd_pick a_xs x13.2 3).bind fun x16 =>
  (idx [(-1), 5, 1] x16.1).bind fun x17 =>
  some (({ Tests := x1.1, Action := x3, Chain := x17 } : Rule), x16.2)
  else
  (F.spec_l20Tests a_xs x13.2 1).bind fun x18 =>
  some (({ Tests := x18.1, Action := x3, Chain := (W (a_first + x11.1)) } : Rule), x18.2)
  else
  some (({ Tests := x1.1, Action := x3, Chain := (W (a_first + x11.1)) } : Rule), x12.2)
  else
  (F.spec_l20Rd_odd a_xs x2.2 a_n).bind fun x19 =>
  bif x19.1 then
  (F.spec_l20Rd_pick a_xs x19.2 3).bind fun x20 =>
  bif (x20.1 == 0) then
  (F.spec_l20Rd_pick a_xs x20.2 2).bind fun x21 =>
  (idx [0, 6] x21.1).bind fun x22 =>
  some (({ Tests := x1.1, Action := x22, Chain := 0 } : Rule), x21.2)
  else
  bif (x20.1 == 1) then
  (F.spec_l20Rd_pick a_xs x20.2 3).bind fun x23 =>
  (idx [(-1), 5, 1] x23.1).bind fun x24 =>
  some (({ Tests := x1.1, Action := x3, Chain := x24 } : Rule), x23.2)
  else
  (F.spec_l20Tests a_xs x20.2 1).bind fun x25 =>
  some (({ Tests := x25.1, Action := x3, Chain := 0 } : Rule), x25.2)
  else
  some (({ Tests := x1.1, Action := x3, Chain := 0 } : Rule), x19.2)


def spec_l20Rules_L1 : (List Rule) → Option (SR ((List Rule)) (((List Rule)) × Int)) := fun y3 =>
  bif (decide ((y3.length : Int) ≤ 8)) then
  (appF y3 [({ Tests := ([] : List Test), Action := 5, Chain := 0 } : Rule)]).bind fun z3 =>
  some (.nxt z3)
  else
  some (.brk y3)
def spec_l20Rules_L0 (a_xs : List Int) (a_first : Int) (a_chains : Int) : (List Rule) × Int × Int → Option (SR ((List Rule) × Int × Int) (((List Rule)) × Int)) := fun (y1, k1, k2) =>
  bif (decide (0 < k1)) then
  (F.spec_l20Rule a_xs k2 a_first a_chains 0).bind fun x2 =>
  (appF y1 [x2.1]).bind fun z1 =>
  some (.nxt (z1, (W (k1 - 1)), x2.2))
  else
  some (.brk (y1, k1, k2))
def spec_l20Rules (a_xs : List Int) (a_pos : Int) (a_first : Int) (a_chains : Int) (a_n : Int) : Option (((List Rule)) × Int) :=
  (F.spec_l20Rd_pick a_xs a_pos 5).bind fun x1 =>
  (loopF (spec_l20Rules_L0 a_xs a_first a_chains) ((x1.1) : Int).toNat.succ (([] : List Rule), x1.1, x1.2)).bind fun lr => lr.on (fun (y2, _k3, k4) =>
  (F.spec_l20Rd_odd a_xs k4 a_n).bind fun x3 =>
  bif x3.1 then
  (F.spec_l20Rd_pick a_xs x3.2 2).bind fun x4 =>
  bif (x4.1 == 0) then
  (F.spec_l20Rule a_xs x4.2 a_first a_chains 1).bind fun x5 =>
  (appF y2 [x5.1]).bind fun z2 =>
  some (z2, x5.2)
  else
  (loopF (spec_l20Rules_L1) 10 y2).bind fun lr => lr.on (fun y4 =>
  some (y4, x4.2)) (fun r => some r)
  else
  some (y2, x3.2)) (fun r => some r)


def spec_l20Ruleset_L0 (a_xs : List Int) (x2 : Int × Int) : Int × Int × (List (List Rule)) → Option (SR (Int × Int × (List (List Rule))) (Ruleset × Int)) := fun (k1, k2, y1) =>
  bif (decide (k1 < (W (1 + x2.1)))) then
  (F.spec_l20Rules a_xs k2 (W (k1 + 1)) (W (1 + x2.1)) 0).bind fun x3 =>
  (appF y1 [x3.1]).bind fun z1 =>
  some (.nxt ((W (k1 + 1)), x3.2, z1))
  else
  some (.brk (k1, k2, y1))
def spec_l20Ruleset (a_xs : List Int) (a_pos : Int) (a_n : Int) : Option (Ruleset × Int) :=
  (F.spec_l20Rd_pick a_xs a_pos 2).bind fun x1 =>
  (F.spec_l20Rd_pick a_xs x1.2 3).bind fun x2 =>
  (loopF (spec_l20Ruleset_L0 a_xs x2) ((((W (1 + x2.1))) : Int) - 0).toNat.succ (0, x2.2, ([] : List (List Rule)))).bind fun lr => lr.on (fun (_k3, k4, y2) =>
  (F.spec_l20Rd_odd a_xs k4 a_n).bind fun x4 =>
  bif x4.1 then
  (F.spec_l20Rd_pick a_xs x4.2 4).bind fun x5 =>
  bif (x5.1 == 0) then
  some (({ Chains := ([] : List (List Rule)), Accept := (x1.1 == 0) } : Ruleset), x5.2)
  else
  bif (x5.1 == 1) then
  (idx y2 0).bind fun x6 =>
  (F.spec_l20Rd_pick a_xs x5.2 2).bind fun x7 =>
  (idx [0, (W (1 + x2.1))] x7.1).bind fun x8 =>
  (appF x6 [({ Tests := ([] : List Test), Action := 3, Chain := x8 } : Rule)]).bind fun z2 =>
  some (({ Chains := (List.set y2 (0 : Int).toNat z2), Accept := (x1.1 == 0) } : Ruleset), x7.2)
  else
  bif (x5.1 == 2) then
  (idx y2 (W ((W (1 + x2.1)) - 1))).bind fun _x9 =>
  (idx (List.set y2 ((W ((W (1 + x2.1)) - 1)) : Int).toNat [({ Tests := ([] : List Test), Action := 3, Chain := 0 } : Rule)]) 0).bind fun _x10 =>
  some (({ Chains := (List.set (List.set y2 ((W ((W (1 + x2.1)) - 1)) : Int).toNat [({ Tests := ([] : List Test), Action := 3, Chain := 0 } : Rule)]) (0 : Int).toNat [({ Tests := ([] : List Test), Action := 3, Chain := (W ((W (1 + x2.1)) - 1)) } : Rule)]), Accept := (x1.1 == 0) } : Ruleset), x5.2)
  else
  (F.spec_l20Rules a_xs x5.2 1 (W (1 + x2.1)) 1).bind fun x11 =>
  (idx y2 0).bind fun _x12 =>
  some (({ Chains := (List.set y2 (0 : Int).toNat x11.1), Accept := (x1.1 == 0) } : Ruleset), x11.2)
  else
  some (({ Chains := y2, Accept := (x1.1 == 0) } : Ruleset), x4.2)) (fun r => some r)


def spec_l1In (a_n : Int) (a_lo : Int) (a_hi : Int) : Option Bool :=
  bif (decide (a_lo ≤ a_n)) then
  some (decide (a_n ≤ a_hi))
  else
  some false


def spec_TestValid (a_t : Test) : Option Bool :=
  (F.spec_l1In a_t.Field 0 3).bind fun x1 =>
  bif x1 then
  (F.spec_l1In a_t.Lo 0 a_t.Hi).bind fun x2 =>
  bif x2 then
  (F.spec_FieldTop a_t.Field).bind fun x3 =>
  some (decide (a_t.Hi ≤ x3))
  else
  some false
  else
  some false


def spec_l20Packet (a_xs : List Int) (a_pos : Int) (a_n : Int) : Option (Packet × Int) :=
  (F.spec_l20Rd_pick a_xs a_pos 20).bind fun x1 =>
  (F.spec_l20Rd_pick a_xs x1.2 20).bind fun x2 =>
  (F.spec_l20Rd_pick a_xs x2.2 256).bind fun x3 =>
  (F.spec_l20Rd_pick a_xs x3.2 8).bind fun x4 =>
  (F.spec_l20Rd_pick a_xs x4.2 2).bind fun x5 =>
  bif (x5.1 == 0) then
  (F.spec_l20Rd_pick a_xs x5.2 256).bind fun x6 =>
  (F.spec_l20Rd_pick a_xs x6.2 256).bind fun x7 =>
  (F.spec_l20Rd_pick a_xs x7.2 4).bind fun x8 =>
  (F.spec_l20Rd_pick a_xs x8.2 256).bind fun x9 =>
  (F.spec_l20Rd_pick a_xs x9.2 12).bind fun x10 =>
  (F.spec_l20Rd_odd a_xs x10.2 a_n).bind fun x11 =>
  bif x11.1 then
  (F.spec_l20Rd_pick a_xs x11.2 4).bind fun x12 =>
  bif (x12.1 == 0) then
  (F.spec_l20Rd_pick a_xs x12.2 2).bind fun x13 =>
  (idx [(-1), 65536] x13.1).bind fun x14 =>
  some (({ From := x14, To := (W ((W (x8.1 * 16384)) + x9.1)), Port := x10.1, Proto := x4.1 } : Packet), x13.2)
  else
  bif (x12.1 == 1) then
  (F.spec_l20Rd_pick a_xs x12.2 2).bind fun x15 =>
  (idx [(-1), 65536] x15.1).bind fun x16 =>
  some (({ From := (W ((W (x6.1 * 256)) + x7.1)), To := x16, Port := x10.1, Proto := x4.1 } : Packet), x15.2)
  else
  bif (x12.1 == 2) then
  (F.spec_l20Rd_pick a_xs x12.2 2).bind fun x17 =>
  (idx [(-1), 256] x17.1).bind fun x18 =>
  some (({ From := (W ((W (x6.1 * 256)) + x7.1)), To := (W ((W (x8.1 * 16384)) + x9.1)), Port := x18, Proto := x4.1 } : Packet), x17.2)
  else
  (F.spec_l20Rd_pick a_xs x12.2 2).bind fun x19 =>
  (idx [(-1), 8] x19.1).bind fun x20 =>
  some (({ From := (W ((W (x6.1 * 256)) + x7.1)), To := (W ((W (x8.1 * 16384)) + x9.1)), Port := x10.1, Proto := x20 } : Packet), x19.2)
  else
  some (({ From := (W ((W (x6.1 * 256)) + x7.1)), To := (W ((W (x8.1 * 16384)) + x9.1)), Port := x10.1, Proto := x4.1 } : Packet), x11.2)
  else
  (F.spec_l20Rd_odd a_xs x5.2 a_n).bind fun x21 =>
  bif x21.1 then
  (F.spec_l20Rd_pick a_xs x21.2 4).bind fun x22 =>
  bif (x22.1 == 0) then
  (F.spec_l20Rd_pick a_xs x22.2 2).bind fun x23 =>
  (idx [(-1), 65536] x23.1).bind fun x24 =>
  some (({ From := x24, To := x2.1, Port := x3.1, Proto := x4.1 } : Packet), x23.2)
  else
  bif (x22.1 == 1) then
  (F.spec_l20Rd_pick a_xs x22.2 2).bind fun x25 =>
  (idx [(-1), 65536] x25.1).bind fun x26 =>
  some (({ From := x1.1, To := x26, Port := x3.1, Proto := x4.1 } : Packet), x25.2)
  else
  bif (x22.1 == 2) then
  (F.spec_l20Rd_pick a_xs x22.2 2).bind fun x27 =>
  (idx [(-1), 256] x27.1).bind fun x28 =>
  some (({ From := x1.1, To := x2.1, Port := x28, Proto := x4.1 } : Packet), x27.2)
  else
  (F.spec_l20Rd_pick a_xs x22.2 2).bind fun x29 =>
  (idx [(-1), 8] x29.1).bind fun x30 =>
  some (({ From := x1.1, To := x2.1, Port := x3.1, Proto := x30 } : Packet), x29.2)
  else
  some (({ From := x1.1, To := x2.1, Port := x3.1, Proto := x4.1 } : Packet), x21.2)


def spec_l20Near_L0 (a_xs : List Int) (a_list : List Test) : Int × Int × Int × Int × Int × Int → Option (SR (Int × Int × Int × Int × Int × Int) (Packet × Int)) := fun (k1, k2, k3, k4, k5, k6) =>
  bif (decide (k1 < (a_list.length : Int))) then
  (idx a_list k1).bind fun x2 =>
  (F.spec_TestValid x2).bind fun x3 =>
  bif x3 then
  (F.spec_l20Rd_pick a_xs k2 3).bind fun x4 =>
  bif (x4.1 == 0) then
  some (.nxt ((W (k1 + 1)), x4.2, k3, k4, k5, k6))
  else
  (F.spec_FieldTop x2.Field).bind fun x5 =>
  (F.spec_l20Rd_pick a_xs x4.2 4).bind fun x6 =>
  (idx [x2.Lo, x2.Hi, (imax 0 (W (x2.Lo - 1))), (imin x5 (W (x2.Hi + 1)))] x6.1).bind fun x7 =>
  bif (x2.Field == 0) then
  some (.nxt ((W (k1 + 1)), x6.2, x7, k4, k5, k6))
  else
  bif (x2.Field == 1) then
  some (.nxt ((W (k1 + 1)), x6.2, k3, x7, k5, k6))
  else
  bif (x2.Field == 2) then
  some (.nxt ((W (k1 + 1)), x6.2, k3, k4, x7, k6))
  else
  some (.nxt ((W (k1 + 1)), x6.2, k3, k4, k5, x7))
  else
  some (.nxt ((W (k1 + 1)), k2, k3, k4, k5, k6))
  else
  some (.brk (k1, k2, k3, k4, k5, k6))
def spec_l20Near (a_xs : List Int) (a_pos : Int) (a_list : List Test) (a_n : Int) : Option (Packet × Int) :=
  (F.spec_l20Packet a_xs a_pos a_n).bind fun x1 =>
  (loopF (spec_l20Near_L0 a_xs a_list) ((((a_list.length : Int)) : Int) - 0).toNat.succ (0, x1.2, x1.1.From, x1.1.To, x1.1.Port, x1.1.Proto)).bind fun lr => lr.on (fun (_k7, k8, k9, k10, k11, k12) =>
  some (({ From := k9, To := k10, Port := k11, Proto := k12 } : Packet), k8)) (fun r => some r)


def spec_l20Case_L1 (a_xs : List Int) (x1 : Ruleset × Int) (k1 : Int) : (List Test) × Int × Int → Option (SR ((List Test) × Int × Int) (Ruleset × Packet × Int)) := fun (y2, k3, k4) =>
  (idx x1.1.Chains k1).bind fun x2 =>
  bif (decide (k3 < (x2.length : Int))) then
  (F.spec_l20Rd_pick a_xs k4 3).bind fun x3 =>
  bif (x3.1 == 0) then
  (idx x2 k3).bind fun x4 =>
  (appF y2 x4.Tests).bind fun z1 =>
  some (.nxt (z1, (W (k3 + 1)), x3.2))
  else
  some (.nxt (y2, (W (k3 + 1)), x3.2))
  else
  some (.brk (y2, k3, k4))
def spec_l20Case_L0 (a_xs : List Int) (x1 : Ruleset × Int) : (List Test) × Int × Int → Option (SR ((List Test) × Int × Int) (Ruleset × Packet × Int)) := fun (y1, k1, k2) =>
  bif (decide (k1 < (x1.1.Chains.length : Int))) then
  (loopF (spec_l20Case_L1 a_xs x1 k1) ((((((idx x1.1.Chains k1).getD []).length : Int)) : Int) - 0).toNat.succ (y1, 0, k2)).bind fun lr => lr.on (fun (y3, _k5, k6) =>
  some (.nxt (y3, (W (k1 + 1)), k6))) (fun r => some (.ret r))
  else
  some (.brk (y1, k1, k2))
def spec_l20Case (a_xs : List Int) (a_pos : Int) (a_n : Int) : Option (Ruleset × Packet × Int) :=
  (F.spec_l20Ruleset a_xs a_pos a_n).bind fun x1 =>
  (loopF (spec_l20Case_L0 a_xs x1) ((((x1.1.Chains.length : Int)) : Int) - 0).toNat.succ (([] : List Test), 0, x1.2)).bind fun lr => lr.on (fun (y4, _k7, k8) =>
  (F.spec_l20Near a_xs k8 y4 a_n).bind fun x5 =>
  some (({ Chains := x1.1.Chains, Accept := x1.1.Accept } : Ruleset), ({ From := x5.1.From, To := x5.1.To, Port := x5.1.Port, Proto := x5.1.Proto } : Packet), x5.2)) (fun r => some r)


def spec_l20Open (a_code : List Int) : Option (List Int × Int) :=
  bif (decide (2000 < (a_code.length : Int))) then
  (takeF a_code 2000).bind fun y1 =>
  some (y1, 0)
  else
  some (a_code, 0)


def spec_DrawJudge (a_code : List Int) : Option (Ruleset × Packet) :=
  (F.spec_l20Open a_code).bind fun x1 =>
  (F.spec_l20Case x1.1 x1.2 20).bind fun x2 =>
  some (({ Chains := x2.1.Chains, Accept := x2.1.Accept } : Ruleset), ({ From := x2.2.1.From, To := x2.2.1.To, Port := x2.2.1.Port, Proto := x2.2.1.Proto } : Packet))


def impl_callsIn_L1 (y2 : List Bool) : (List Int) × Int → Option (SR ((List Int) × Int) ((List Int))) := fun (y3, k3) =>
  bif (decide (k3 < 5)) then
  (idx y2 k3).bind fun x3 =>
  bif x3 then
  (appF y3 [k3]).bind fun z1 =>
  some (.nxt (z1, (W (k3 + 1))))
  else
  some (.nxt (y3, (W (k3 + 1))))
  else
  some (.brk (y3, k3))
def impl_callsIn_L0 (a_rules : List Rule) : Int × (List Bool) → Option (SR (Int × (List Bool)) ((List Int))) := fun (k1, y1) =>
  bif (decide (k1 < (a_rules.length : Int))) then
  (idx a_rules k1).bind fun x1 =>
  bif (x1.Action == 3) then
  (idx y1 x1.Chain).bind fun _x2 =>
  some (.nxt ((W (k1 + 1)), (List.set y1 (x1.Chain : Int).toNat true)))
  else
  some (.nxt ((W (k1 + 1)), y1))
  else
  some (.brk (k1, y1))
def impl_callsIn (a_rules : List Rule) : Option ((List Int)) :=
  (loopF (impl_callsIn_L0 a_rules) ((((a_rules.length : Int)) : Int) - 0).toNat.succ (0, [false, false, false, false, false])).bind fun lr => lr.on (fun (_k2, y2) =>
  (loopF (impl_callsIn_L1 y2) (((5) : Int) - 0).toNat.succ (([] : List Int), 0)).bind fun lr => lr.on (fun (y4, _k4) =>
  some y4) (fun r => some r)) (fun r => some r)


def impl_FieldTop (a_n : Int) : Option Int :=
  bif (decide (a_n < 0)) then
  some (-1)
  else
  bif (decide (4 ≤ a_n)) then
  some (-1)
  else
  (idx shapes a_n).bind fun x1 =>
  some x1.top


def impl_TestValid (a_t : Test) : Option Bool :=
  bif (decide (0 ≤ a_t.Field)) then
  bif (decide (a_t.Field < 4)) then
  bif (decide (0 ≤ a_t.Lo)) then
  bif (decide (a_t.Lo ≤ a_t.Hi)) then
  (F.impl_FieldTop a_t.Field).bind fun x1 =>
  some (decide (a_t.Hi ≤ x1))
  else
  some false
  else
  some false
  else
  some false
  else
  some false


def impl_TestsValid_L0 (a_list : List Test) : Int → Option (SR (Int) Bool) := fun k1 =>
  bif (decide (k1 < (a_list.length : Int))) then
  (idx a_list k1).bind fun x1 =>
  (F.impl_TestValid x1).bind fun x2 =>
  bif x2 then
  some (.nxt (W (k1 + 1)))
  else
  some (.ret false)
  else
  some (.brk k1)
def impl_TestsValid (a_list : List Test) : Option Bool :=
  bif (decide (6 < (a_list.length : Int))) then
  some false
  else
  (loopF (impl_TestsValid_L0 a_list) ((((a_list.length : Int)) : Int) - 0).toNat.succ 0).bind fun lr => lr.on (fun _k2 =>
  some true) (fun r => some r)


def impl_RuleValid (a_r : Rule) : Option Bool :=
  (F.impl_TestsValid a_r.Tests).bind fun x1 =>
  bif x1 then
  bif (a_r.Action == 3) then
  bif (decide (0 ≤ a_r.Chain)) then
  some (decide (a_r.Chain < 5))
  else
  some false
  else
  bif (a_r.Action == 1) then
  some (a_r.Chain == 0)
  else
  bif (a_r.Action == 2) then
  some (a_r.Chain == 0)
  else
  bif (a_r.Action == 4) then
  some (a_r.Chain == 0)
  else
  bif (a_r.Action == 5) then
  some (a_r.Chain == 0)
  else
  some false
  else
  some false


def impl_RulesValid_L0 (a_list : List Rule) : Int → Option (SR (Int) Bool) := fun k1 =>
  bif (decide (k1 < (a_list.length : Int))) then
  (idx a_list k1).bind fun x1 =>
  (F.impl_RuleValid x1).bind fun x2 =>
  bif x2 then
  some (.nxt (W (k1 + 1)))
  else
  some (.ret false)
  else
  some (.brk k1)
def impl_RulesValid (a_list : List Rule) : Option Bool :=
  bif (decide (8 < (a_list.length : Int))) then
  some false
  else
  (loopF (impl_RulesValid_L0 a_list) ((((a_list.length : Int)) : Int) - 0).toNat.succ 0).bind fun lr => lr.on (fun _k2 =>
  some true) (fun r => some r)


def impl_visitCalls_L0 (a_chains : List (List Rule)) (rec_ : (List (List Rule)) → Int → (List Int) → Option (Bool × (List Int))) (x3 : List Int) : Bool × Int × (List Int) → Option (SR (Bool × Int × (List Int)) (Bool × (List Int))) := fun (y1, k1, y2) =>
  bif (decide (k1 < (x3.length : Int))) then
  (idx x3 k1).bind fun x4 =>
  (rec_ a_chains x4 y2).bind fun x5 =>
  bif x5.1 then
  some (.nxt (y1, (W (k1 + 1)), x5.2))
  else
  some (.nxt (false, (W (k1 + 1)), x5.2))
  else
  some (.brk (y1, k1, y2))
def impl_visitCalls : Nat → List (List Rule) → Int → List Int → Option (Bool × (List Int))
  | 0, _, _, _ => none
  | n_ + 1, a_chains, a_chain, a_colours =>
  bif (decide ((a_chains.length : Int) ≤ a_chain)) then
  some (true, a_colours)
  else
  (idx a_colours a_chain).bind fun x1 =>
  bif (x1 == 1) then
  some (false, a_colours)
  else
  bif (x1 == 2) then
  some (true, a_colours)
  else
  (idx a_chains a_chain).bind fun x2 =>
  (F.impl_callsIn x2).bind fun x3 =>
  (loopF (impl_visitCalls_L0 a_chains (impl_visitCalls n_) x3) ((((x3.length : Int)) : Int) - 0).toNat.succ (true, 0, (List.set a_colours (a_chain : Int).toNat 1))).bind fun lr => lr.on (fun (y3, _k2, y4) =>
  (idx y4 a_chain).bind fun _x6 =>
  some (y3, (List.set y4 (a_chain : Int).toNat 2))) (fun r => some r)


def impl_acyclic_L0 (a_chains : List (List Rule)) : Int × (List Int) → Option (SR (Int × (List Int)) Bool) := fun (k1, y1) =>
  bif (decide (k1 < (a_chains.length : Int))) then
  (F.impl_visitCalls 10 a_chains k1 y1).bind fun x1 =>
  bif x1.1 then
  some (.nxt ((W (k1 + 1)), x1.2))
  else
  some (.ret false)
  else
  some (.brk (k1, y1))
def impl_acyclic (a_chains : List (List Rule)) : Option Bool :=
  (loopF (impl_acyclic_L0 a_chains) ((((a_chains.length : Int)) : Int) - 0).toNat.succ (0, [0, 0, 0, 0, 0])).bind fun lr => lr.on (fun (_k2, _y2) =>
  some true) (fun r => some r)


def impl_RulesetValid_L2 (a_s : Ruleset) (x4 : List Int) : Int → Option (SR (Int) Bool) := fun k4 =>
  bif (decide (k4 < (x4.length : Int))) then
  (idx x4 k4).bind fun x5 =>
  bif (decide ((a_s.Chains.length : Int) ≤ x5)) then
  some (.ret false)
  else
  some (.nxt (W (k4 + 1)))
  else
  some (.brk k4)
def impl_RulesetValid_L1 (a_s : Ruleset) : Int → Option (SR (Int) Bool) := fun k3 =>
  bif (decide (k3 < (a_s.Chains.length : Int))) then
  (idx a_s.Chains k3).bind fun x3 =>
  (F.impl_callsIn x3).bind fun x4 =>
  (loopF (impl_RulesetValid_L2 a_s x4) ((((x4.length : Int)) : Int) - 0).toNat.succ 0).bind fun lr => lr.on (fun _k5 =>
  some (.nxt (W (k3 + 1)))) (fun r => some (.ret r))
  else
  some (.brk k3)
def impl_RulesetValid_L0 (a_s : Ruleset) : Int → Option (SR (Int) Bool) := fun k1 =>
  bif (decide (k1 < (a_s.Chains.length : Int))) then
  (idx a_s.Chains k1).bind fun x1 =>
  (F.impl_RulesValid x1).bind fun x2 =>
  bif x2 then
  some (.nxt (W (k1 + 1)))
  else
  some (.ret false)
  else
  some (.brk k1)
def impl_RulesetValid (a_s : Ruleset) : Option Bool :=
  bif (decide ((a_s.Chains.length : Int) < 1)) then
  some false
  else
  bif (decide (5 < (a_s.Chains.length : Int))) then
  some false
  else
  (loopF (impl_RulesetValid_L0 a_s) ((((a_s.Chains.length : Int)) : Int) - 0).toNat.succ 0).bind fun lr => lr.on (fun _k2 =>
  (loopF (impl_RulesetValid_L1 a_s) ((((a_s.Chains.length : Int)) : Int) - 0).toNat.succ 0).bind fun lr => lr.on (fun _k6 =>
  (F.impl_acyclic a_s.Chains).bind fun x6 =>
  some x6) (fun r => some r)) (fun r => some r)


def impl_Packet_fields (a_p : Packet) : Option ((List Int)) :=
  some [a_p.From, a_p.To, a_p.Port, a_p.Proto]


def impl_PacketValid_L0 (x1 : List Int) : Int → Option (SR (Int) Bool) := fun k1 =>
  bif (decide (k1 < 4)) then
  (idx x1 k1).bind fun x2 =>
  bif (decide (x2 < 0)) then
  some (.ret false)
  else
  (F.impl_FieldTop k1).bind fun x3 =>
  bif (decide (x3 < x2)) then
  some (.ret false)
  else
  some (.nxt (W (k1 + 1)))
  else
  some (.brk k1)
def impl_PacketValid (a_p : Packet) : Option Bool :=
  (F.impl_Packet_fields a_p).bind fun x1 =>
  (loopF (impl_PacketValid_L0 x1) (((4) : Int) - 0).toNat.succ 0).bind fun lr => lr.on (fun _k2 =>
  some true) (fun r => some r)


def impl_walk_leave (a_0c : List Place) (a_1c : List Visit) (a_2c : Int) : Option ((List Place) × (List Visit) × Int) :=
  (takeF a_0c (W ((a_0c.length : Int) - 1))).bind fun y1 =>
  some (y1, a_1c, a_2c)


def impl_Test_holds (a_t : Test) (a_p : Packet) : Option Bool :=
  (F.impl_Packet_fields a_p).bind fun x1 =>
  (idx x1 a_t.Field).bind fun x2 =>
  bif (decide (a_t.Lo ≤ x2)) then
  some ((decide (x2 ≤ a_t.Hi)) != a_t.Not)
  else
  some (false != a_t.Not)


def impl_allHold_L0 (a_list : List Test) (a_p : Packet) : Int → Option (SR (Int) Bool) := fun k1 =>
  bif (decide (k1 < (a_list.length : Int))) then
  (idx a_list k1).bind fun x1 =>
  (F.impl_Test_holds x1 a_p).bind fun x2 =>
  bif x2 then
  some (.nxt (W (k1 + 1)))
  else
  some (.ret false)
  else
  some (.brk k1)
def impl_allHold (a_list : List Test) (a_p : Packet) : Option Bool :=
  (loopF (impl_allHold_L0 a_list a_p) ((((a_list.length : Int)) : Int) - 0).toNat.succ 0).bind fun lr => lr.on (fun _k2 =>
  some true) (fun r => some r)


def impl_actionOf (a_r : Rule) : Option Act_ :=
  bif (a_r.Action == 1) then
  some (.deciding ({ accept := true } : deciding).accept)
  else
  bif (a_r.Action == 2) then
  some (.deciding ({ accept := false } : deciding).accept)
  else
  bif (a_r.Action == 3) then
  some (.calling ({ chain := a_r.Chain } : calling).chain)
  else
  bif (a_r.Action == 4) then
  some .returning
  else
  some .passing


def impl_deciding_walk (a_d : deciding) (a_0c : List Place) (a_1c : List Visit) (_a_2c : Int) : Option ((List Place) × (List Visit) × Int) :=
  bif a_d.accept then
  some (a_0c, a_1c, 1)
  else
  some (a_0c, a_1c, 2)


def impl_calling_walk (a_c : calling) (a_0c : List Place) (a_1c : List Visit) (a_2c : Int) : Option ((List Place) × (List Visit) × Int) :=
  (appF a_0c [({ chain := a_c.chain, next := 0 } : Place)]).bind fun z1 =>
  some (z1, a_1c, a_2c)


def impl_returning_walk (a_0c : List Place) (a_1c : List Visit) (a_2c : Int) : Option ((List Place) × (List Visit) × Int) :=
  (F.impl_walk_leave a_0c a_1c a_2c).bind fun x1 =>
  some (x1.1, x1.2.1, x1.2.2)


def impl_passing_walk (a_0c : List Place) (a_1c : List Visit) (a_2c : Int) : Option ((List Place) × (List Visit) × Int) :=
  some (a_0c, a_1c, a_2c)


def invoke_walk (a_act : Act_) (a_0c : List Place) (a_1c : List Visit) (a_2c : Int) : Option ((List Place) × (List Visit) × Int) :=
  match a_act with
  | .deciding b => F.impl_deciding_walk ⟨b⟩ a_0c a_1c a_2c
  | .calling b => F.impl_calling_walk ⟨b⟩ a_0c a_1c a_2c
  | .returning => F.impl_returning_walk a_0c a_1c a_2c
  | .passing => F.impl_passing_walk a_0c a_1c a_2c


def impl_walkThrough_L0 (a_s : Ruleset) (a_p : Packet) : (List Place) × (List Visit) × Int → Option (SR ((List Place) × (List Visit) × Int) Walk) := fun (y1, y2, k1) =>
  bif (decide (0 < (y1.length : Int))) then
  bif (k1 == 5) then
  (idx y1 (W ((y1.length : Int) - 1))).bind fun x1 =>
  (idx a_s.Chains x1.chain).bind fun x2 =>
  bif (x1.next == (x2.length : Int)) then
  (F.impl_walk_leave y1 y2 k1).bind fun x3 =>
  some (.nxt (x3.1, x3.2.1, x3.2.2))
  else
  (idx x2 x1.next).bind fun x4 =>
  (F.impl_allHold x4.Tests a_p).bind fun x5 =>
  bif x5 then
  bif (decide ((y2.length : Int) < 200)) then
  (idx (List.set y1 ((W ((y1.length : Int) - 1)) : Int).toNat { x1 with next := (W (x1.next + 1)) }) (W ((y1.length : Int) - 1))).bind fun x6 =>
  (appF y2 [({ Chain := x6.chain, Place := x1.next } : Visit)]).bind fun z1 =>
  (F.impl_actionOf x4).bind fun x7 =>
  (F.invoke_walk x7 (List.set y1 ((W ((y1.length : Int) - 1)) : Int).toNat { x1 with next := (W (x1.next + 1)) }) z1 k1).bind fun x8 =>
  some (.nxt (x8.1, x8.2.1, x8.2.2))
  else
  (F.impl_actionOf x4).bind fun x9 =>
  (F.invoke_walk x9 (List.set y1 ((W ((y1.length : Int) - 1)) : Int).toNat { x1 with next := (W (x1.next + 1)) }) y2 k1).bind fun x10 =>
  some (.nxt (x10.1, x10.2.1, x10.2.2))
  else
  some (.nxt ((List.set y1 ((W ((y1.length : Int) - 1)) : Int).toNat { x1 with next := (W (x1.next + 1)) }), y2, k1))
  else
  some (.brk (y1, y2, k1))
  else
  some (.brk (y1, y2, k1))
def impl_walkThrough (a_s : Ruleset) (a_p : Packet) : Option Walk :=
  (loopF (impl_walkThrough_L0 a_s a_p) 1000000 ([({ chain := 0, next := 0 } : Place)], ([] : List Visit), 5)).bind fun lr => lr.on (fun (y3, y4, k2) =>
  some ({ stack := y3, visits := y4, decision := k2 } : Walk)) (fun r => some r)


def impl_judgeValid (a_s : Ruleset) (a_p : Packet) : Option Bool :=
  (F.impl_walkThrough a_s a_p).bind fun x1 =>
  bif (x1.decision == 1) then
  some true
  else
  bif (x1.decision == 2) then
  some false
  else
  some a_s.Accept


def impl_Judge (a_s : Ruleset) (a_p : Packet) : Option Bool :=
  (F.impl_RulesetValid a_s).bind fun x1 =>
  bif x1 then
  (F.impl_PacketValid a_p).bind fun x2 =>
  bif x2 then
  (F.impl_judgeValid a_s a_p).bind fun x3 =>
  some x3
  else
  some false
  else
  some false


def spec_TestsValid_L0 (a_list : List Test) : Int → Option (SR (Int) Bool) := fun k1 =>
  bif (decide (k1 < (a_list.length : Int))) then
  (idx a_list k1).bind fun x1 =>
  (F.spec_TestValid x1).bind fun x2 =>
  bif x2 then
  some (.nxt (W (k1 + 1)))
  else
  some (.ret false)
  else
  some (.brk k1)
def spec_TestsValid (a_list : List Test) : Option Bool :=
  (loopF (spec_TestsValid_L0 a_list) ((((a_list.length : Int)) : Int) - 0).toNat.succ 0).bind fun lr => lr.on (fun _k2 =>
  some (decide ((a_list.length : Int) ≤ 6))) (fun r => some r)


def spec_RuleValid (a_r : Rule) : Option Bool :=
  (F.spec_TestsValid a_r.Tests).bind fun x1 =>
  bif x1 then
  (F.spec_l1In a_r.Action 1 5).bind fun x2 =>
  bif x2 then
  bif (a_r.Action == 3) then
  (F.spec_l1In a_r.Chain 0 4).bind fun x3 =>
  bif x3 then
  some true
  else
  bif (a_r.Action != 3) then
  some (a_r.Chain == 0)
  else
  some false
  else
  bif (a_r.Action != 3) then
  some (a_r.Chain == 0)
  else
  some false
  else
  some false
  else
  some false


def spec_RulesValid_L0 (a_list : List Rule) : Int → Option (SR (Int) Bool) := fun k1 =>
  bif (decide (k1 < (a_list.length : Int))) then
  (idx a_list k1).bind fun x1 =>
  (F.spec_RuleValid x1).bind fun x2 =>
  bif x2 then
  some (.nxt (W (k1 + 1)))
  else
  some (.ret false)
  else
  some (.brk k1)
def spec_RulesValid (a_list : List Rule) : Option Bool :=
  (loopF (spec_RulesValid_L0 a_list) ((((a_list.length : Int)) : Int) - 0).toNat.succ 0).bind fun lr => lr.on (fun _k2 =>
  some (decide ((a_list.length : Int) ≤ 8))) (fun r => some r)


def spec_l8Order_L2 (a_s : Ruleset) (k2 : Int) : Bool × Int × (List Bool) × (List Int) → Option (SR (Bool × Int × (List Bool) × (List Int)) ((List Int))) := fun (y5, k3, y6, y7) =>
  (idx a_s.Chains k2).bind fun x2 =>
  bif (decide (k3 < (x2.length : Int))) then
  (idx x2 k3).bind fun x3 =>
  bif y5 then
  bif (x3.Action != 3) then
  some (.nxt (true, (W (k3 + 1)), y6, y7))
  else
  (idx y6 x3.Chain).bind fun x4 =>
  some (.nxt (x4, (W (k3 + 1)), y6, y7))
  else
  some (.nxt (false, (W (k3 + 1)), y6, y7))
  else
  some (.brk (y5, k3, y6, y7))
def spec_l8Order_L1 (a_s : Ruleset) : (List Int) × Int × (List Bool) → Option (SR ((List Int) × Int × (List Bool)) ((List Int))) := fun (y3, k2, y4) =>
  bif (decide (k2 < (a_s.Chains.length : Int))) then
  (idx y4 k2).bind fun x1 =>
  (loopF (spec_l8Order_L2 a_s k2) ((((((idx a_s.Chains k2).getD []).length : Int)) : Int) - 0).toNat.succ ((!x1), 0, y4, y3)).bind fun lr => lr.on (fun (y8, _k4, y9, y10) =>
  bif y8 then
  (idx y9 k2).bind fun _x5 =>
  (appF y10 [k2]).bind fun z1 =>
  some (.nxt (z1, (W (k2 + 1)), (List.set y9 (k2 : Int).toNat true)))
  else
  some (.nxt (y10, (W (k2 + 1)), y9))) (fun r => some (.ret r))
  else
  some (.brk (y3, k2, y4))
def spec_l8Order_L0 (a_s : Ruleset) : (List Int) × Int × (List Bool) → Option (SR ((List Int) × Int × (List Bool)) ((List Int))) := fun (y1, k1, y2) =>
  bif (decide (k1 < (a_s.Chains.length : Int))) then
  (loopF (spec_l8Order_L1 a_s) ((((a_s.Chains.length : Int)) : Int) - 0).toNat.succ (y1, 0, y2)).bind fun lr => lr.on (fun (y11, _k5, y12) =>
  some (.nxt (y11, (W (k1 + 1)), y12))) (fun r => some (.ret r))
  else
  some (.brk (y1, k1, y2))
def spec_l8Order (a_s : Ruleset) : Option ((List Int)) :=
  (makeF false (a_s.Chains.length : Int)).bind fun mk1 =>
  (loopF (spec_l8Order_L0 a_s) ((((a_s.Chains.length : Int)) : Int) - 0).toNat.succ (([] : List Int), 0, mk1)).bind fun lr => lr.on (fun (y13, _k6, _y14) =>
  some y13) (fun r => some r)


def spec_RulesetValid_L1 (a_s : Ruleset) (x1 : List Rule) : Int → Option (SR (Int) Bool) := fun k2 =>
  bif (decide (k2 < (x1.length : Int))) then
  (idx x1 k2).bind fun x3 =>
  bif (decide ((a_s.Chains.length : Int) ≤ x3.Chain)) then
  some (.ret false)
  else
  some (.nxt (W (k2 + 1)))
  else
  some (.brk k2)
def spec_RulesetValid_L0 (a_s : Ruleset) : Int → Option (SR (Int) Bool) := fun k1 =>
  bif (decide (k1 < (a_s.Chains.length : Int))) then
  (idx a_s.Chains k1).bind fun x1 =>
  (F.spec_RulesValid x1).bind fun x2 =>
  bif x2 then
  (loopF (spec_RulesetValid_L1 a_s x1) ((((x1.length : Int)) : Int) - 0).toNat.succ 0).bind fun lr => lr.on (fun _k3 =>
  some (.nxt (W (k1 + 1)))) (fun r => some (.ret r))
  else
  some (.ret false)
  else
  some (.brk k1)
def spec_RulesetValid (a_s : Ruleset) : Option Bool :=
  (loopF (spec_RulesetValid_L0 a_s) ((((a_s.Chains.length : Int)) : Int) - 0).toNat.succ 0).bind fun lr => lr.on (fun _k4 =>
  (F.spec_l1In (a_s.Chains.length : Int) 1 5).bind fun x4 =>
  bif x4 then
  (F.spec_l8Order a_s).bind fun x5 =>
  some ((x5.length : Int) == (a_s.Chains.length : Int))
  else
  some false) (fun r => some r)


def spec_PacketValid (a_p : Packet) : Option Bool :=
  (F.spec_l1In a_p.From 0 65535).bind fun x1 =>
  bif x1 then
  (F.spec_l1In a_p.To 0 65535).bind fun x2 =>
  bif x2 then
  (F.spec_l1In a_p.Port 0 255).bind fun x3 =>
  bif x3 then
  (F.spec_l1In a_p.Proto 0 7).bind fun x4 =>
  some x4
  else
  some false
  else
  some false
  else
  some false


def spec_PacketField (a_p : Packet) (a_n : Int) : Option Int :=
  (F.spec_PacketValid a_p).bind fun x1 =>
  bif x1 then
  (F.spec_l1In a_n 0 3).bind fun x2 =>
  bif x2 then
  (idx [a_p.From, a_p.To, a_p.Port, a_p.Proto] a_n).bind fun x3 =>
  some x3
  else
  some (-1)
  else
  some (-1)


def spec_TestHolds (a_t : Test) (a_p : Packet) : Option Bool :=
  (F.spec_TestValid a_t).bind fun x1 =>
  bif x1 then
  (F.spec_PacketValid a_p).bind fun x2 =>
  bif x2 then
  (F.spec_PacketField a_p a_t.Field).bind fun x3 =>
  (F.spec_l1In x3 a_t.Lo a_t.Hi).bind fun x4 =>
  some (x4 != a_t.Not)
  else
  some false
  else
  some false


def spec_TestsHold_L0 (a_list : List Test) (a_p : Packet) : Int → Option (SR (Int) Bool) := fun k1 =>
  bif (decide (k1 < (a_list.length : Int))) then
  (idx a_list k1).bind fun x1 =>
  (F.spec_TestHolds x1 a_p).bind fun x2 =>
  bif x2 then
  some (.nxt (W (k1 + 1)))
  else
  some (.ret false)
  else
  some (.brk k1)
def spec_TestsHold (a_list : List Test) (a_p : Packet) : Option Bool :=
  (loopF (spec_TestsHold_L0 a_list a_p) ((((a_list.length : Int)) : Int) - 0).toNat.succ 0).bind fun lr => lr.on (fun _k2 =>
  (F.spec_TestsValid a_list).bind fun x3 =>
  bif x3 then
  (F.spec_PacketValid a_p).bind fun x4 =>
  some x4
  else
  some false) (fun r => some r)


def spec_l9Walk_L0 (a_s : Ruleset) (a_chain : Int) (a_p : Packet) (rec_ : Ruleset → Int → Packet → (List Visit) → Option (Int × (List Visit))) : Int × (List Visit) → Option (SR (Int × (List Visit)) (Int × (List Visit))) := fun (k1, y1) =>
  (idx a_s.Chains a_chain).bind fun x1 =>
  bif (decide (k1 < (x1.length : Int))) then
  (idx x1 k1).bind fun x2 =>
  (F.spec_TestsHold x2.Tests a_p).bind fun x3 =>
  bif x3 then
  bif (decide ((y1.length : Int) < 200)) then
  (appF y1 [({ Chain := a_chain, Place := k1 } : Visit)]).bind fun z1 =>
  bif (x2.Action == 1) then
  some (.ret (x2.Action, z1))
  else
  bif (x2.Action == 2) then
  some (.ret (x2.Action, z1))
  else
  bif (x2.Action == 4) then
  some (.ret (5, z1))
  else
  bif (x2.Action == 3) then
  (rec_ a_s x2.Chain a_p z1).bind fun x4 =>
  bif (x4.1 != 5) then
  some (.ret (x4.1, x4.2))
  else
  some (.nxt ((W (k1 + 1)), x4.2))
  else
  some (.nxt ((W (k1 + 1)), z1))
  else
  bif (x2.Action == 1) then
  some (.ret (x2.Action, y1))
  else
  bif (x2.Action == 2) then
  some (.ret (x2.Action, y1))
  else
  bif (x2.Action == 4) then
  some (.ret (5, y1))
  else
  bif (x2.Action == 3) then
  (rec_ a_s x2.Chain a_p y1).bind fun x5 =>
  bif (x5.1 != 5) then
  some (.ret (x5.1, x5.2))
  else
  some (.nxt ((W (k1 + 1)), x5.2))
  else
  some (.nxt ((W (k1 + 1)), y1))
  else
  some (.nxt ((W (k1 + 1)), y1))
  else
  some (.brk (k1, y1))
def spec_l9Walk : Nat → Ruleset → Int → Packet → List Visit → Option (Int × (List Visit))
  | 0, _, _, _, _ => none
  | n_ + 1, a_s, a_chain, a_p, a_0c =>
  (loopF (spec_l9Walk_L0 a_s a_chain a_p (spec_l9Walk n_)) ((((((idx a_s.Chains a_chain).getD []).length : Int)) : Int) - 0).toNat.succ (0, a_0c)).bind fun lr => lr.on (fun (_k2, y2) =>
  some (5, y2)) (fun r => some r)


def spec_Judge (a_s : Ruleset) (a_p : Packet) : Option Bool :=
  (F.spec_RulesetValid a_s).bind fun x1 =>
  bif x1 then
  (F.spec_PacketValid a_p).bind fun x2 =>
  bif x2 then
  (F.spec_l9Walk 10 a_s 0 a_p ([] : List Visit)).bind fun x3 =>
  bif (x3.1 == 1) then
  some true
  else
  bif (x3.1 == 5) then
  some a_s.Accept
  else
  some false
  else
  some false
  else
  some false


def impl_JudgedBy (a_s : Ruleset) (a_p : Packet) : Option Int :=
  (F.impl_RulesetValid a_s).bind fun x1 =>
  bif x1 then
  (F.impl_PacketValid a_p).bind fun x2 =>
  bif x2 then
  (F.impl_walkThrough a_s a_p).bind fun x3 =>
  some x3.decision
  else
  some 0
  else
  some 0


def impl_SpansHave_L0 (a_list : List Span) (a_n : Int) : Int → Option (SR (Int) Bool) := fun k1 =>
  bif (decide (k1 < (a_list.length : Int))) then
  (idx a_list k1).bind fun x1 =>
  bif (decide (x1.Lo ≤ a_n)) then
  bif (decide (a_n ≤ x1.Hi)) then
  some (.ret true)
  else
  some (.nxt (W (k1 + 1)))
  else
  some (.nxt (W (k1 + 1)))
  else
  some (.brk k1)
def impl_SpansHave (a_list : List Span) (a_n : Int) : Option Bool :=
  (loopF (impl_SpansHave_L0 a_list a_n) ((((a_list.length : Int)) : Int) - 0).toNat.succ 0).bind fun lr => lr.on (fun _k2 =>
  some false) (fun r => some r)


def laws_alive : Option Bool :=
  (F.impl_SpansHave [({ Lo := 2, Hi := 4 } : Span)] 3).bind fun x1 =>
  some x1


def laws_FnJudge (a_code : List Int) : Option Bool :=
  bif (decide (1048576 < (a_code.length : Int))) then
  some true
  else
  (F.spec_DrawJudge a_code).bind fun x1 =>
  (F.impl_Judge ({ Chains := x1.1.Chains, Accept := x1.1.Accept } : Ruleset) ({ From := x1.2.From, To := x1.2.To, Port := x1.2.Port, Proto := x1.2.Proto } : Packet)).bind fun x2 =>
  (F.spec_Judge ({ Chains := x1.1.Chains, Accept := x1.1.Accept } : Ruleset) ({ From := x1.2.From, To := x1.2.To, Port := x1.2.Port, Proto := x1.2.Proto } : Packet)).bind fun x3 =>
  bif (x2 != x3) then
  some false
  else
  (F.impl_JudgedBy ({ Chains := x1.1.Chains, Accept := x1.1.Accept } : Ruleset) ({ From := x1.2.From, To := x1.2.To, Port := x1.2.Port, Proto := x1.2.Proto } : Packet)).bind fun x4 =>
  bif (x4 == 0) then
  bif x2 then
  some false
  else
  (F.laws_alive).bind fun x5 =>
  some x5
  else
  bif (x4 == 1) then
  bif (x2 == true) then
  (F.impl_Judge ({ Chains := x1.1.Chains, Accept := (!x1.1.Accept) } : Ruleset) ({ From := x1.2.From, To := x1.2.To, Port := x1.2.Port, Proto := x1.2.Proto } : Packet)).bind fun x6 =>
  some ((x4 == 5) == (x6 != x2))
  else
  some false
  else
  bif (x4 == 5) then
  bif (x2 == x1.1.Accept) then
  (F.impl_Judge ({ Chains := x1.1.Chains, Accept := (!x1.1.Accept) } : Ruleset) ({ From := x1.2.From, To := x1.2.To, Port := x1.2.Port, Proto := x1.2.Proto } : Packet)).bind fun x7 =>
  some (true == (x7 != x2))
  else
  some false
  else
  bif (x2 == false) then
  (F.impl_Judge ({ Chains := x1.1.Chains, Accept := (!x1.1.Accept) } : Ruleset) ({ From := x1.2.From, To := x1.2.To, Port := x1.2.Port, Proto := x1.2.Proto } : Packet)).bind fun x8 =>
  some (false == (x8 != x2))
  else
  some false


def impl_ChainsUsed_L0 (x2 : Bool × (List Int)) : (List Int) × Int → Option (SR ((List Int) × Int) ((List Int))) := fun (y1, k1) =>
  bif (decide (k1 < 5)) then
  (idx x2.2 k1).bind fun x3 =>
  bif (x3 != 0) then
  (appF y1 [k1]).bind fun z1 =>
  some (.nxt (z1, (W (k1 + 1))))
  else
  some (.nxt (y1, (W (k1 + 1))))
  else
  some (.brk (y1, k1))
def impl_ChainsUsed (a_s : Ruleset) : Option ((List Int)) :=
  (F.impl_RulesetValid a_s).bind fun x1 =>
  bif x1 then
  (F.impl_visitCalls 10 a_s.Chains 0 [0, 0, 0, 0, 0]).bind fun x2 =>
  (loopF (impl_ChainsUsed_L0 x2) (((5) : Int) - 0).toNat.succ (([] : List Int), 0)).bind fun lr => lr.on (fun (y2, _k2) =>
  some y2) (fun r => some r)
  else
  some ([] : List Int)


def laws_FnChainUnused_L0 (x1 : Ruleset × Packet) (x2 : Bool) (x4 : List Int) : Int × Int → Option (SR (Int × Int) Bool) := fun (k1, k2) =>
  bif (decide (k2 < (x1.1.Chains.length : Int))) then
  bif (decide (0 < (x4.length : Int))) then
  bif (decide (k1 < (x4.length : Int))) then
  (idx x4 k1).bind fun x5 =>
  bif (x5 == k2) then
  some (.nxt ((W (k1 + 1)), (W (k2 + 1))))
  else
  (neF x1.1.Chains).bind fun _u1 =>
  (appF ([] : List (List Rule)) x1.1.Chains).bind fun z1 =>
  (idx z1 k2).bind fun _x6 =>
  (F.impl_Judge ({ Chains := (List.set z1 (k2 : Int).toNat [({ Tests := ([] : List Test), Action := 1, Chain := 0 } : Rule)]), Accept := x1.1.Accept } : Ruleset) ({ From := x1.2.From, To := x1.2.To, Port := x1.2.Port, Proto := x1.2.Proto } : Packet)).bind fun x7 =>
  bif (x7 != x2) then
  some (.ret false)
  else
  some (.nxt (k1, (W (k2 + 1))))
  else
  (neF x1.1.Chains).bind fun _u2 =>
  (appF ([] : List (List Rule)) x1.1.Chains).bind fun z2 =>
  (idx z2 k2).bind fun _x8 =>
  (F.impl_Judge ({ Chains := (List.set z2 (k2 : Int).toNat [({ Tests := ([] : List Test), Action := 1, Chain := 0 } : Rule)]), Accept := x1.1.Accept } : Ruleset) ({ From := x1.2.From, To := x1.2.To, Port := x1.2.Port, Proto := x1.2.Proto } : Packet)).bind fun x9 =>
  bif (x9 != x2) then
  some (.ret false)
  else
  some (.nxt (k1, (W (k2 + 1))))
  else
  some (.brk (k1, k2))
  else
  some (.brk (k1, k2))
def laws_FnChainUnused (a_code : List Int) : Option Bool :=
  bif (decide (1048576 < (a_code.length : Int))) then
  some true
  else
  (F.spec_DrawJudge a_code).bind fun x1 =>
  (F.impl_Judge ({ Chains := x1.1.Chains, Accept := x1.1.Accept } : Ruleset) ({ From := x1.2.From, To := x1.2.To, Port := x1.2.Port, Proto := x1.2.Proto } : Packet)).bind fun x2 =>
  (F.spec_Judge ({ Chains := x1.1.Chains, Accept := x1.1.Accept } : Ruleset) ({ From := x1.2.From, To := x1.2.To, Port := x1.2.Port, Proto := x1.2.Proto } : Packet)).bind fun x3 =>
  bif (x2 != x3) then
  some false
  else
  (F.impl_ChainsUsed ({ Chains := x1.1.Chains, Accept := x1.1.Accept } : Ruleset)).bind fun x4 =>
  (loopF (laws_FnChainUnused_L0 x1 x2 x4) ((((x1.1.Chains.length : Int)) : Int) - 0).toNat.succ (0, 0)).bind fun lr => lr.on (fun (_k3, _k4) =>
  (F.laws_alive).bind fun x10 =>
  some x10) (fun r => some r)


def laws_szSpanS (a_a : List Span) (a_left : Int) : Option Int :=
  bif (decide ((W (a_left - (a_a.length : Int))) < 0)) then
  some (-1)
  else
  some (W (a_left - (a_a.length : Int)))


def laws_szSpanSS_L0 (a_a : List (List Span)) : Int × Int → Option (SR (Int × Int) Int) := fun (k1, k2) =>
  bif (decide (k2 < (a_a.length : Int))) then
  (idx a_a k2).bind fun x1 =>
  (F.laws_szSpanS x1 k1).bind fun x2 =>
  bif (decide (x2 < 0)) then
  some (.ret (-1))
  else
  some (.nxt (x2, (W (k2 + 1))))
  else
  some (.brk (k1, k2))
def laws_szSpanSS (a_a : List (List Span)) (a_left : Int) : Option Int :=
  bif (decide ((W (a_left - (a_a.length : Int))) < 0)) then
  some (-1)
  else
  (loopF (laws_szSpanSS_L0 a_a) ((((a_a.length : Int)) : Int) - 0).toNat.succ ((W (a_left - (a_a.length : Int))), 0)).bind fun lr => lr.on (fun (k3, _k4) =>
  some k3) (fun r => some r)


def laws_szBox (a_a : Box) (a_left : Int) : Option Int :=
  (F.laws_szSpanSS a_a.Sides a_left).bind fun x1 =>
  bif (decide (x1 < 0)) then
  some (-1)
  else
  some x1


def spec_SpansValid_L0 (a_list : List Span) (a_top : Int) : Int → Option (SR (Int) Bool) := fun k1 =>
  bif (decide (k1 < (a_list.length : Int))) then
  (idx a_list k1).bind fun x1 =>
  (F.spec_l1In x1.Lo 0 x1.Hi).bind fun x2 =>
  bif x2 then
  (F.spec_l1In x1.Hi 0 a_top).bind fun x3 =>
  bif x3 then
  bif (decide (0 < k1)) then
  (idx a_list (W (k1 - 1))).bind fun x4 =>
  bif (decide (x1.Lo < (W (x4.Hi + 2)))) then
  some (.ret false)
  else
  some (.nxt (W (k1 + 1)))
  else
  some (.nxt (W (k1 + 1)))
  else
  some (.ret false)
  else
  some (.ret false)
  else
  some (.brk k1)
def spec_SpansValid (a_list : List Span) (a_top : Int) : Option Bool :=
  (loopF (spec_SpansValid_L0 a_list a_top) ((((a_list.length : Int)) : Int) - 0).toNat.succ 0).bind fun lr => lr.on (fun _k2 =>
  (F.spec_l1In a_top 0 65535).bind fun x5 =>
  bif x5 then
  some (decide ((a_list.length : Int) ≤ 40))
  else
  some false) (fun r => some r)


def spec_BoxValid_L0 (a_b : Box) : Int → Option (SR (Int) Bool) := fun k1 =>
  bif (decide (k1 < (a_b.Sides.length : Int))) then
  bif (decide (4 ≤ k1)) then
  some (.ret false)
  else
  (idx a_b.Sides k1).bind fun x1 =>
  (F.spec_FieldTop k1).bind fun x2 =>
  (F.spec_SpansValid x1 x2).bind fun x3 =>
  bif x3 then
  some (.nxt (W (k1 + 1)))
  else
  some (.ret false)
  else
  some (.brk k1)
def spec_BoxValid (a_b : Box) : Option Bool :=
  (loopF (spec_BoxValid_L0 a_b) ((((a_b.Sides.length : Int)) : Int) - 0).toNat.succ 0).bind fun lr => lr.on (fun _k2 =>
  some ((a_b.Sides.length : Int) == 4)) (fun r => some r)


def spec_l10Empty_L0 (a_b : Box) : Int → Option (SR (Int) Bool) := fun k1 =>
  bif (decide (k1 < (a_b.Sides.length : Int))) then
  (idx a_b.Sides k1).bind fun x1 =>
  bif ((x1.length : Int) == 0) then
  some (.ret true)
  else
  some (.nxt (W (k1 + 1)))
  else
  some (.brk k1)
def spec_l10Empty (a_b : Box) : Option Bool :=
  (loopF (spec_l10Empty_L0 a_b) ((((a_b.Sides.length : Int)) : Int) - 0).toNat.succ 0).bind fun lr => lr.on (fun _k2 =>
  some false) (fun r => some r)


def spec_BoxTests_L0 (a_b : Box) : (List Test) × Int → Option (SR ((List Test) × Int) ((List Test) × Bool)) := fun (y1, k1) =>
  bif (decide (k1 < 4)) then
  (idx a_b.Sides k1).bind fun x3 =>
  (F.spec_FieldTop k1).bind fun x4 =>
  bif ((x3.length : Int) == 1) then
  (idx x3 0).bind fun x5 =>
  bif (decide (x5 = ({ Lo := 0, Hi := x4 } : Span))) then
  some (.nxt (y1, (W (k1 + 1))))
  else
  (appF y1 [({ Field := k1, Lo := x5.Lo, Hi := x5.Hi, Not := false } : Test)]).bind fun z1 =>
  some (.nxt (z1, (W (k1 + 1))))
  else
  bif ((x3.length : Int) == 2) then
  (idx x3 0).bind fun x6 =>
  bif (x6.Lo == 0) then
  (idx x3 1).bind fun x7 =>
  bif (x7.Hi == x4) then
  (appF y1 [({ Field := k1, Lo := (W (x6.Hi + 1)), Hi := (W (x7.Lo - 1)), Not := true } : Test)]).bind fun z2 =>
  some (.nxt (z2, (W (k1 + 1))))
  else
  some (.ret (([] : List Test), false))
  else
  some (.ret (([] : List Test), false))
  else
  some (.ret (([] : List Test), false))
  else
  some (.brk (y1, k1))
def spec_BoxTests (a_b : Box) : Option ((List Test) × Bool) :=
  (F.spec_BoxValid a_b).bind fun x1 =>
  bif x1 then
  (F.spec_l10Empty a_b).bind fun x2 =>
  bif x2 then
  some (([] : List Test), false)
  else
  (loopF (spec_BoxTests_L0 a_b) (((4) : Int) - 0).toNat.succ (([] : List Test), 0)).bind fun lr => lr.on (fun (y2, _k2) =>
  some (y2, true)) (fun r => some r)
  else
  some (([] : List Test), false)


def laws_toSpan (a_a : Span) : Option Span :=
  some ({ Lo := a_a.Lo, Hi := a_a.Hi } : Span)


def laws_toSpanS_L0 (a_a : List Span) : Int × (List Span) → Option (SR (Int × (List Span)) ((List Span))) := fun (k1, y1) =>
  bif (decide (k1 < (a_a.length : Int))) then
  (idx a_a k1).bind fun x1 =>
  (F.laws_toSpan x1).bind fun x2 =>
  (idx y1 k1).bind fun _x3 =>
  some (.nxt ((W (k1 + 1)), (List.set y1 (k1 : Int).toNat x2)))
  else
  some (.brk (k1, y1))
def laws_toSpanS (a_a : List Span) : Option ((List Span)) :=
  (makeF ({ Lo := (0 : Int), Hi := (0 : Int) } : Span) (a_a.length : Int)).bind fun mk1 =>
  (loopF (laws_toSpanS_L0 a_a) ((((a_a.length : Int)) : Int) - 0).toNat.succ (0, mk1)).bind fun lr => lr.on (fun (_k2, y2) =>
  some y2) (fun r => some r)


def laws_toSpanSS_L0 (a_a : List (List Span)) : Int × (List (List Span)) → Option (SR (Int × (List (List Span))) ((List (List Span)))) := fun (k1, y1) =>
  bif (decide (k1 < (a_a.length : Int))) then
  (idx a_a k1).bind fun x1 =>
  (F.laws_toSpanS x1).bind fun x2 =>
  (idx y1 k1).bind fun _x3 =>
  some (.nxt ((W (k1 + 1)), (List.set y1 (k1 : Int).toNat x2)))
  else
  some (.brk (k1, y1))
def laws_toSpanSS (a_a : List (List Span)) : Option ((List (List Span))) :=
  (makeF ([] : List Span) (a_a.length : Int)).bind fun mk1 =>
  (loopF (laws_toSpanSS_L0 a_a) ((((a_a.length : Int)) : Int) - 0).toNat.succ (0, mk1)).bind fun lr => lr.on (fun (_k2, y2) =>
  some y2) (fun r => some r)


def laws_toBox (a_a : Box) : Option Box :=
  (F.laws_toSpanSS a_a.Sides).bind fun x1 =>
  some ({ Sides := x1 } : Box)


def impl_topValid (a_top : Int) : Option Bool :=
  bif (decide (0 ≤ a_top)) then
  some (decide (a_top ≤ 65535))
  else
  some false


def impl_SpansValid_L0 (a_list : List Span) (a_top : Int) : Int × Int → Option (SR (Int × Int) Bool) := fun (k1, k2) =>
  bif (decide (k2 < (a_list.length : Int))) then
  (idx a_list k2).bind fun x2 =>
  bif (decide (x2.Lo ≤ (W (k1 + 1)))) then
  some (.ret false)
  else
  bif (decide (x2.Hi < x2.Lo)) then
  some (.ret false)
  else
  bif (decide (a_top < x2.Hi)) then
  some (.ret false)
  else
  some (.nxt (x2.Hi, (W (k2 + 1))))
  else
  some (.brk (k1, k2))
def impl_SpansValid (a_list : List Span) (a_top : Int) : Option Bool :=
  (F.impl_topValid a_top).bind fun x1 =>
  bif x1 then
  bif (decide (40 < (a_list.length : Int))) then
  some false
  else
  (loopF (impl_SpansValid_L0 a_list a_top) ((((a_list.length : Int)) : Int) - 0).toNat.succ ((-2), 0)).bind fun lr => lr.on (fun (_k3, _k4) =>
  some true) (fun r => some r)
  else
  some false


def impl_BoxValid_L0 (a_b : Box) : Int → Option (SR (Int) Bool) := fun k1 =>
  bif (decide (k1 < (a_b.Sides.length : Int))) then
  (idx a_b.Sides k1).bind fun x1 =>
  (F.impl_FieldTop k1).bind fun x2 =>
  (F.impl_SpansValid x1 x2).bind fun x3 =>
  bif x3 then
  some (.nxt (W (k1 + 1)))
  else
  some (.ret false)
  else
  some (.brk k1)
def impl_BoxValid (a_b : Box) : Option Bool :=
  bif ((a_b.Sides.length : Int) != 4) then
  some false
  else
  (loopF (impl_BoxValid_L0 a_b) ((((a_b.Sides.length : Int)) : Int) - 0).toNat.succ 0).bind fun lr => lr.on (fun _k2 =>
  some true) (fun r => some r)


def impl_sidesOf (a_b : Box) : Option ((List (List Span))) :=
  (arrF 4 a_b.Sides).bind fun y1 =>
  some y1


def impl_sides_empty_L0 (a_s : List (List Span)) : Int → Option (SR (Int) Bool) := fun k1 =>
  bif (decide (k1 < 4)) then
  (idx a_s k1).bind fun x1 =>
  bif ((x1.length : Int) == 0) then
  some (.ret true)
  else
  some (.nxt (W (k1 + 1)))
  else
  some (.brk k1)
def impl_sides_empty (a_s : List (List Span)) : Option Bool :=
  (loopF (impl_sides_empty_L0 a_s) (((4) : Int) - 0).toNat.succ 0).bind fun lr => lr.on (fun _k2 =>
  some false) (fun r => some r)


def impl_BoxTests_L0 (a_b : Box) : (List Test) × Int → Option (SR ((List Test) × Int) ((List Test) × Bool)) := fun (y1, k1) =>
  bif (decide (k1 < (a_b.Sides.length : Int))) then
  (idx a_b.Sides k1).bind fun x4 =>
  (idx shapes k1).bind fun x5 =>
  bif ((x4.length : Int) == 1) then
  (idx x4 0).bind fun x6 =>
  bif (decide (x6 = ({ Lo := 0, Hi := x5.top } : Span))) then
  some (.nxt (y1, (W (k1 + 1))))
  else
  (appF y1 [({ Field := k1, Lo := x6.Lo, Hi := x6.Hi, Not := false } : Test)]).bind fun z1 =>
  some (.nxt (z1, (W (k1 + 1))))
  else
  bif ((x4.length : Int) == 2) then
  (idx x4 0).bind fun x7 =>
  bif (x7.Lo == 0) then
  (idx x4 1).bind fun x8 =>
  bif (x8.Hi == x5.top) then
  (appF y1 [({ Field := k1, Lo := (W (x7.Hi + 1)), Hi := (W (x8.Lo - 1)), Not := true } : Test)]).bind fun z2 =>
  some (.nxt (z2, (W (k1 + 1))))
  else
  some (.ret (([] : List Test), false))
  else
  some (.ret (([] : List Test), false))
  else
  some (.ret (([] : List Test), false))
  else
  some (.brk (y1, k1))
def impl_BoxTests (a_b : Box) : Option ((List Test) × Bool) :=
  (F.impl_BoxValid a_b).bind fun x1 =>
  bif x1 then
  (F.impl_sidesOf a_b).bind fun x2 =>
  (F.impl_sides_empty x2).bind fun x3 =>
  bif x3 then
  some (([] : List Test), false)
  else
  (loopF (impl_BoxTests_L0 a_b) ((((a_b.Sides.length : Int)) : Int) - 0).toNat.succ (([] : List Test), 0)).bind fun lr => lr.on (fun (y2, _k2) =>
  some (y2, true)) (fun r => some r)
  else
  some (([] : List Test), false)


def laws_eqTest (a_a : Test) (a_b : Test) : Option Bool :=
  bif (a_a.Field != a_b.Field) then
  some false
  else
  bif (a_a.Lo != a_b.Lo) then
  some false
  else
  bif (a_a.Hi != a_b.Hi) then
  some false
  else
  bif (a_a.Not != a_b.Not) then
  some false
  else
  some true


def laws_eqTestS_L0 (a_a : List Test) (a_b : List Test) : Int → Option (SR (Int) Bool) := fun k1 =>
  bif (decide (k1 < (a_a.length : Int))) then
  (idx a_a k1).bind fun x1 =>
  (idx a_b k1).bind fun x2 =>
  (F.laws_eqTest x1 x2).bind fun x3 =>
  bif x3 then
  some (.nxt (W (k1 + 1)))
  else
  some (.ret false)
  else
  some (.brk k1)
def laws_eqTestS (a_a : List Test) (a_b : List Test) : Option Bool :=
  bif ((a_a.length : Int) != (a_b.length : Int)) then
  some false
  else
  (loopF (laws_eqTestS_L0 a_a a_b) ((((a_a.length : Int)) : Int) - 0).toNat.succ 0).bind fun lr => lr.on (fun _k2 =>
  some true) (fun r => some r)


def laws_eqSpan (a_a : Span) (a_b : Span) : Option Bool :=
  bif (a_a.Lo != a_b.Lo) then
  some false
  else
  bif (a_a.Hi != a_b.Hi) then
  some false
  else
  some true


def laws_eqSpanS_L0 (a_a : List Span) (a_b : List Span) : Int → Option (SR (Int) Bool) := fun k1 =>
  bif (decide (k1 < (a_a.length : Int))) then
  (idx a_a k1).bind fun x1 =>
  (idx a_b k1).bind fun x2 =>
  (F.laws_eqSpan x1 x2).bind fun x3 =>
  bif x3 then
  some (.nxt (W (k1 + 1)))
  else
  some (.ret false)
  else
  some (.brk k1)
def laws_eqSpanS (a_a : List Span) (a_b : List Span) : Option Bool :=
  bif ((a_a.length : Int) != (a_b.length : Int)) then
  some false
  else
  (loopF (laws_eqSpanS_L0 a_a a_b) ((((a_a.length : Int)) : Int) - 0).toNat.succ 0).bind fun lr => lr.on (fun _k2 =>
  some true) (fun r => some r)


def laws_eqSpanSS_L0 (a_a : List (List Span)) (a_b : List (List Span)) : Int → Option (SR (Int) Bool) := fun k1 =>
  bif (decide (k1 < (a_a.length : Int))) then
  (idx a_a k1).bind fun x1 =>
  (idx a_b k1).bind fun x2 =>
  (F.laws_eqSpanS x1 x2).bind fun x3 =>
  bif x3 then
  some (.nxt (W (k1 + 1)))
  else
  some (.ret false)
  else
  some (.brk k1)
def laws_eqSpanSS (a_a : List (List Span)) (a_b : List (List Span)) : Option Bool :=
  bif ((a_a.length : Int) != (a_b.length : Int)) then
  some false
  else
  (loopF (laws_eqSpanSS_L0 a_a a_b) ((((a_a.length : Int)) : Int) - 0).toNat.succ 0).bind fun lr => lr.on (fun _k2 =>
  some true) (fun r => some r)


def laws_eqBox (a_a : Box) (a_b : Box) : Option Bool :=
  (F.laws_eqSpanSS a_a.Sides a_b.Sides).bind fun x1 =>
  bif x1 then
  some true
  else
  some false


def laws_markSpanS_L0 (a_a : List Span) : Int × Int → Option (SR (Int × Int) Int) := fun (k1, k2) =>
  bif (decide (k2 < (a_a.length : Int))) then
  (idx a_a k2).bind fun _x1 =>
  some (.nxt ((W ((W (k1 + 1)) + 1)), (W (k2 + 1))))
  else
  some (.brk (k1, k2))
def laws_markSpanS (a_a : List Span) (a_k : Int) : Option Int :=
  (loopF (laws_markSpanS_L0 a_a) ((((a_a.length : Int)) : Int) - 0).toNat.succ (a_k, 0)).bind fun lr => lr.on (fun (k3, _k4) =>
  some k3) (fun r => some r)


def laws_markSpanS_r_L0 : Int × Int × (List Span) → Option (SR (Int × Int × (List Span)) (Int × (List Span))) := fun (k1, k2, y1) =>
  bif (decide (k2 < (y1.length : Int))) then
  (idx y1 k2).bind fun x1 =>
  (idx (List.set y1 (k2 : Int).toNat { x1 with Lo := k1 }) k2).bind fun x2 =>
  some (.nxt ((W ((W (k1 + 1)) + 1)), (W (k2 + 1)), (List.set (List.set y1 (k2 : Int).toNat { x1 with Lo := k1 }) (k2 : Int).toNat { x2 with Hi := (W (k1 + 1)) })))
  else
  some (.brk (k1, k2, y1))
def laws_markSpanS_r (a_a : List Span) (a_k : Int) : Option (Int × (List Span)) :=
  (loopF (laws_markSpanS_r_L0) ((a_a.length : Int) - 0).toNat.succ (a_k, 0, a_a)).bind fun lr => lr.on (fun (k3, _k4, y2) =>
  some (k3, y2)) (fun r => some r)


def laws_markSpanSS_L0 (a_a : List (List Span)) : Int × Int → Option (SR (Int × Int) Int) := fun (k1, k2) =>
  bif (decide (k2 < (a_a.length : Int))) then
  (idx a_a k2).bind fun x1 =>
  (F.laws_markSpanS x1 k1).bind fun x2 =>
  some (.nxt (x2, (W (k2 + 1))))
  else
  some (.brk (k1, k2))
def laws_markSpanSS (a_a : List (List Span)) (a_k : Int) : Option Int :=
  (loopF (laws_markSpanSS_L0 a_a) ((((a_a.length : Int)) : Int) - 0).toNat.succ (a_k, 0)).bind fun lr => lr.on (fun (k3, _k4) =>
  some k3) (fun r => some r)


def laws_markSpanSS_r_L0 : Int × Int × (List (List Span)) → Option (SR (Int × Int × (List (List Span))) (Int × (List (List Span)))) := fun (k1, k2, y1) =>
  bif (decide (k2 < (y1.length : Int))) then
  (idx y1 k2).bind fun x1 =>
  (F.laws_markSpanS_r x1 k1).bind fun x2 =>
  some (.nxt (x2.1, (W (k2 + 1)), (List.set y1 (k2 : Int).toNat x2.2)))
  else
  some (.brk (k1, k2, y1))
def laws_markSpanSS_r (a_a : List (List Span)) (a_k : Int) : Option (Int × (List (List Span))) :=
  (loopF (laws_markSpanSS_r_L0) ((a_a.length : Int) - 0).toNat.succ (a_k, 0, a_a)).bind fun lr => lr.on (fun (k3, _k4, y2) =>
  some (k3, y2)) (fun r => some r)


def laws_markBox (a_a : Box) (a_k : Int) : Option Int :=
  (F.laws_markSpanSS a_a.Sides a_k).bind fun x1 =>
  some x1


def laws_markBox_r (a_a : Box) (a_k : Int) : Option (Int × Box) :=
  (F.laws_markSpanSS_r a_a.Sides a_k).bind fun x1 =>
  some (x1.1, ({ Sides := x1.2 } : Box))


def laws_markTestS_L0 (a_a : List Test) : Int × Int → Option (SR (Int × Int) Int) := fun (k1, k2) =>
  bif (decide (k2 < (a_a.length : Int))) then
  (idx a_a k2).bind fun _x1 =>
  some (.nxt ((W ((W ((W ((W (k1 + 1)) + 1)) + 1)) + 1)), (W (k2 + 1))))
  else
  some (.brk (k1, k2))
def laws_markTestS (a_a : List Test) (a_k : Int) : Option Int :=
  (loopF (laws_markTestS_L0 a_a) ((((a_a.length : Int)) : Int) - 0).toNat.succ (a_k, 0)).bind fun lr => lr.on (fun (k3, _k4) =>
  some k3) (fun r => some r)


def laws_markTestS_r_L0 : Int × Int × (List Test) → Option (SR (Int × Int × (List Test)) (Int × (List Test))) := fun (k1, k2, y1) =>
  bif (decide (k2 < (y1.length : Int))) then
  (idx y1 k2).bind fun x1 =>
  (idx (List.set y1 (k2 : Int).toNat { x1 with Field := k1 }) k2).bind fun x2 =>
  (idx (List.set (List.set y1 (k2 : Int).toNat { x1 with Field := k1 }) (k2 : Int).toNat { x2 with Lo := (W (k1 + 1)) }) k2).bind fun x3 =>
  (idx (List.set (List.set (List.set y1 (k2 : Int).toNat { x1 with Field := k1 }) (k2 : Int).toNat { x2 with Lo := (W (k1 + 1)) }) (k2 : Int).toNat { x3 with Hi := (W ((W (k1 + 1)) + 1)) }) k2).bind fun x4 =>
  some (.nxt ((W ((W ((W ((W (k1 + 1)) + 1)) + 1)) + 1)), (W (k2 + 1)), (List.set (List.set (List.set (List.set y1 (k2 : Int).toNat { x1 with Field := k1 }) (k2 : Int).toNat { x2 with Lo := (W (k1 + 1)) }) (k2 : Int).toNat { x3 with Hi := (W ((W (k1 + 1)) + 1)) }) (k2 : Int).toNat { x4 with Not := ((((W ((W ((W (k1 + 1)) + 1)) + 1))).tmod 3) == 0) })))
  else
  some (.brk (k1, k2, y1))
def laws_markTestS_r (a_a : List Test) (a_k : Int) : Option (Int × (List Test)) :=
  (loopF (laws_markTestS_r_L0) ((a_a.length : Int) - 0).toNat.succ (a_k, 0, a_a)).bind fun lr => lr.on (fun (k3, _k4, y2) =>
  some (k3, y2)) (fun r => some r)


def laws_heldTestS_L0 (a_a : List Test) : Int × Int → Option (SR (Int × Int) Int) := fun (k1, k2) =>
  bif (decide (k2 < (a_a.length : Int))) then
  (idx a_a k2).bind fun x1 =>
  bif (x1.Field != k1) then
  some (.ret (-1))
  else
  bif (x1.Lo != (W (k1 + 1))) then
  some (.ret (-1))
  else
  bif (x1.Hi != (W ((W (k1 + 1)) + 1))) then
  some (.ret (-1))
  else
  bif (x1.Not != ((((W ((W ((W (k1 + 1)) + 1)) + 1))).tmod 3) == 0)) then
  some (.ret (-1))
  else
  some (.nxt ((W ((W ((W ((W (k1 + 1)) + 1)) + 1)) + 1)), (W (k2 + 1))))
  else
  some (.brk (k1, k2))
def laws_heldTestS (a_a : List Test) (a_k : Int) : Option Int :=
  (loopF (laws_heldTestS_L0 a_a) ((((a_a.length : Int)) : Int) - 0).toNat.succ (a_k, 0)).bind fun lr => lr.on (fun (k3, _k4) =>
  some k3) (fun r => some r)


def laws_FnExactBoxTests (a_aB : Box) : Option Bool :=
  (F.laws_szBox a_aB 1048576).bind fun x1 =>
  bif (decide (x1 < 0)) then
  some true
  else
  (F.laws_toBox a_aB).bind fun x2 =>
  (F.spec_BoxTests x2).bind fun x3 =>
  (F.impl_BoxTests ({ Sides := x2.Sides } : Box)).bind fun x4 =>
  (F.laws_eqTestS x4.1 x3.1).bind fun x5 =>
  bif x5 then
  bif (x4.2 != x3.2) then
  some false
  else
  (F.laws_eqBox ({ Sides := x2.Sides } : Box) x2).bind fun x6 =>
  bif x6 then
  (F.laws_markBox x2 1).bind fun x7 =>
  bif (decide (x7 < 0)) then
  some false
  else
  (F.laws_markTestS_r x4.1 1).bind fun x8 =>
  (F.laws_heldTestS x8.2 1).bind fun x9 =>
  bif (decide (x9 < 0)) then
  some false
  else
  bif (x9 != x8.1) then
  some false
  else
  (F.impl_BoxTests x2).bind fun x10 =>
  (F.laws_eqTestS x10.1 x3.1).bind fun x11 =>
  bif x11 then
  bif (x10.2 != x3.2) then
  some false
  else
  some true
  else
  some false
  else
  some false
  else
  some false


def spec_l1OwnRowsSpan_L0 (a_list : List (List Span)) : (List (List Span)) × Int → Option (SR ((List (List Span)) × Int) ((List (List Span)))) := fun (y1, k1) =>
  bif (decide (k1 < (a_list.length : Int))) then
  (idx a_list k1).bind fun x1 =>
  (appF ([] : List Span) x1).bind fun z1 =>
  (appF y1 [z1]).bind fun z2 =>
  some (.nxt (z2, (W (k1 + 1))))
  else
  some (.brk (y1, k1))
def spec_l1OwnRowsSpan (a_list : List (List Span)) : Option ((List (List Span))) :=
  (loopF (spec_l1OwnRowsSpan_L0 a_list) ((((a_list.length : Int)) : Int) - 0).toNat.succ (([] : List (List Span)), 0)).bind fun lr => lr.on (fun (y2, _k2) =>
  some y2) (fun r => some r)


def spec_l1OwnBox (a_x : Box) : Option Box :=
  (F.spec_l1OwnRowsSpan a_x.Sides).bind fun x1 =>
  some ({ Sides := x1 } : Box)


def spec_l2Meet_L1 (a_a : List Span) (a_b : List Span) (k1 : Int) : (List Span) × Int → Option (SR ((List Span) × Int) ((List Span))) := fun (y2, k2) =>
  bif (decide (k2 < (a_b.length : Int))) then
  (idx a_a k1).bind fun x1 =>
  (idx a_b k2).bind fun x2 =>
  bif (decide ((imax x1.Lo x2.Lo) ≤ (imin x1.Hi x2.Hi))) then
  (appF y2 [({ Lo := (imax x1.Lo x2.Lo), Hi := (imin x1.Hi x2.Hi) } : Span)]).bind fun z1 =>
  some (.nxt (z1, (W (k2 + 1))))
  else
  some (.nxt (y2, (W (k2 + 1))))
  else
  some (.brk (y2, k2))
def spec_l2Meet_L0 (a_a : List Span) (a_b : List Span) : (List Span) × Int → Option (SR ((List Span) × Int) ((List Span))) := fun (y1, k1) =>
  bif (decide (k1 < (a_a.length : Int))) then
  (loopF (spec_l2Meet_L1 a_a a_b k1) ((((a_b.length : Int)) : Int) - 0).toNat.succ (y1, 0)).bind fun lr => lr.on (fun (y3, _k3) =>
  some (.nxt (y3, (W (k1 + 1))))) (fun r => some (.ret r))
  else
  some (.brk (y1, k1))
def spec_l2Meet (a_a : List Span) (a_b : List Span) : Option ((List Span)) :=
  (loopF (spec_l2Meet_L0 a_a a_b) ((((a_a.length : Int)) : Int) - 0).toNat.succ (([] : List Span), 0)).bind fun lr => lr.on (fun (y4, _k4) =>
  some y4) (fun r => some r)


def spec_l10Meet_L0 (a_a : Box) (a_b : Box) : Int × (List (List Span)) → Option (SR (Int × (List (List Span))) Box) := fun (k1, y1) =>
  bif (decide (k1 < 4)) then
  (idx a_a.Sides k1).bind fun x1 =>
  (idx a_b.Sides k1).bind fun x2 =>
  (F.spec_l2Meet x1 x2).bind fun x3 =>
  (appF y1 [x3]).bind fun z1 =>
  some (.nxt ((W (k1 + 1)), z1))
  else
  some (.brk (k1, y1))
def spec_l10Meet (a_a : Box) (a_b : Box) : Option Box :=
  (loopF (spec_l10Meet_L0 a_a a_b) (((4) : Int) - 0).toNat.succ (0, ([] : List (List Span)))).bind fun lr => lr.on (fun (_k2, y2) =>
  some ({ Sides := y2 } : Box)) (fun r => some r)


def spec_BoxMeet (a_a : Box) (a_b : Box) : Option Box :=
  (F.spec_l1OwnBox ({ Sides := a_a.Sides } : Box)).bind fun x1 =>
  (F.spec_l1OwnBox ({ Sides := a_b.Sides } : Box)).bind fun x2 =>
  (F.spec_BoxValid ({ Sides := x1.Sides } : Box)).bind fun x3 =>
  bif x3 then
  (F.spec_BoxValid ({ Sides := x2.Sides } : Box)).bind fun x4 =>
  bif x4 then
  (F.spec_l10Meet ({ Sides := x1.Sides } : Box) ({ Sides := x2.Sides } : Box)).bind fun x5 =>
  (F.spec_BoxValid x5).bind fun x6 =>
  bif x6 then
  some ({ Sides := x5.Sides } : Box)
  else
  some ({ Sides := ([] : List (List Span)) } : Box)
  else
  some ({ Sides := ([] : List (List Span)) } : Box)
  else
  some ({ Sides := ([] : List (List Span)) } : Box)


def impl_stretch (a_rest : List Span) (a_at : Int) (a_top : Int) : Option (Bool × Int) :=
  bif ((a_rest.length : Int) == 0) then
  some (false, a_top)
  else
  (idx a_rest 0).bind fun x1 =>
  bif (decide (a_at < x1.Lo)) then
  some (false, (W (x1.Lo - 1)))
  else
  some (true, x1.Hi)


def impl_limitSpans (a_list : List Span) : Option ((List Span) × Bool) :=
  bif (decide (40 < (a_list.length : Int))) then
  some (([] : List Span), false)
  else
  some (a_list, true)


def impl_inBoth (a_inA : Bool) (a_inB : Bool) : Option Bool :=
  bif a_inA then
  some a_inB
  else
  some false


def impl_sweepSpans__impl_inBoth_L2 (a_b : List Span) (k3 : Int) : Int × (List Span) → Option (SR (Int × (List Span)) ((List Span))) := fun (k6, y4) =>
  bif (decide (k6 < (a_b.length : Int))) then
  (idx a_b k6).bind fun x2 =>
  bif (decide (x2.Hi < k3)) then
  some (.nxt ((W (k6 + 1)), y4))
  else
  some (.brk (k6, y4))
  else
  some (.brk (k6, y4))
def impl_sweepSpans__impl_inBoth_L1 (a_a : List Span) (k3 : Int) : Int × (List Span) → Option (SR (Int × (List Span)) ((List Span))) := fun (k4, y2) =>
  bif (decide (k4 < (a_a.length : Int))) then
  (idx a_a k4).bind fun x1 =>
  bif (decide (x1.Hi < k3)) then
  some (.nxt ((W (k4 + 1)), y2))
  else
  some (.brk (k4, y2))
  else
  some (.brk (k4, y2))
def impl_sweepSpans__impl_inBoth_L0 (a_a : List Span) (a_b : List Span) (a_top : Int) : (List Span) × Int × Int × Int → Option (SR ((List Span) × Int × Int × Int) ((List Span))) := fun (y1, k1, k2, k3) =>
  bif (decide (k3 ≤ a_top)) then
  (loopF (impl_sweepSpans__impl_inBoth_L1 a_a k3) ((((a_a.length : Int)) : Int) - k1).toNat.succ (k1, y1)).bind fun lr => lr.on (fun (k5, y3) =>
  (loopF (impl_sweepSpans__impl_inBoth_L2 a_b k3) ((((a_b.length : Int)) : Int) - k2).toNat.succ (k2, y3)).bind fun lr => lr.on (fun (k7, y5) =>
  (dropF a_a k5).bind fun y6 =>
  (F.impl_stretch y6 k3 a_top).bind fun x3 =>
  (dropF a_b k7).bind fun y7 =>
  (F.impl_stretch y7 k3 a_top).bind fun x4 =>
  (F.impl_inBoth x3.1 x4.1).bind fun x5 =>
  bif x5 then
  bif (decide (0 < (y5.length : Int))) then
  (idx y5 (W ((y5.length : Int) - 1))).bind fun x6 =>
  bif ((W (x6.Hi + 1)) == k3) then
  some (.nxt ((List.set y5 ((W ((y5.length : Int) - 1)) : Int).toNat { x6 with Hi := (imin x3.2 x4.2) }), k5, k7, (W ((imin x3.2 x4.2) + 1))))
  else
  (appF y5 [({ Lo := k3, Hi := (imin x3.2 x4.2) } : Span)]).bind fun z1 =>
  some (.nxt (z1, k5, k7, (W ((imin x3.2 x4.2) + 1))))
  else
  (appF y5 [({ Lo := k3, Hi := (imin x3.2 x4.2) } : Span)]).bind fun z2 =>
  some (.nxt (z2, k5, k7, (W ((imin x3.2 x4.2) + 1))))
  else
  some (.nxt (y5, k5, k7, (W ((imin x3.2 x4.2) + 1))))) (fun r => some (.ret r))) (fun r => some (.ret r))
  else
  some (.brk (y1, k1, k2, k3))
def impl_sweepSpans__impl_inBoth (a_a : List Span) (a_b : List Span) (a_top : Int) : Option ((List Span)) :=
  (loopF (impl_sweepSpans__impl_inBoth_L0 a_a a_b a_top) (((a_top) : Int) - 0 + 1).toNat.succ (([] : List Span), 0, 0, 0)).bind fun lr => lr.on (fun (y8, _k8, _k9, _k10) =>
  some y8) (fun r => some r)


def impl_meetSpans (a_a : List Span) (a_b : List Span) (a_top : Int) : Option ((List Span) × Bool) :=
  (F.impl_sweepSpans__impl_inBoth a_a a_b a_top).bind fun x1 =>
  (F.impl_limitSpans x1).bind fun x2 =>
  some (x2.1, x2.2)


def impl_sides_meet_L0 (a_s : List (List Span)) (a_other : List (List Span)) : Int × (List (List Span)) × (List (List Span)) → Option (SR (Int × (List (List Span)) × (List (List Span))) ((List (List Span)) × Bool)) := fun (k1, y1, y2) =>
  bif (decide (k1 < 4)) then
  (idx a_s k1).bind fun x1 =>
  (idx a_other k1).bind fun x2 =>
  (F.impl_FieldTop k1).bind fun x3 =>
  (F.impl_meetSpans x1 x2 x3).bind fun x4 =>
  bif x4.2 then
  (idx y2 k1).bind fun _x5 =>
  some (.nxt ((W (k1 + 1)), y1, (List.set y2 (k1 : Int).toNat x4.1)))
  else
  some (.ret ([([] : List Span), ([] : List Span), ([] : List Span), ([] : List Span)], false))
  else
  some (.brk (k1, y1, y2))
def impl_sides_meet (a_s : List (List Span)) (a_other : List (List Span)) : Option ((List (List Span)) × Bool) :=
  (loopF (impl_sides_meet_L0 a_s a_other) (((4) : Int) - 0).toNat.succ (0, [([] : List Span), ([] : List Span), ([] : List Span), ([] : List Span)], [([] : List Span), ([] : List Span), ([] : List Span), ([] : List Span)])).bind fun lr => lr.on (fun (_k2, _y3, y4) =>
  some (y4, true)) (fun r => some r)


def impl_sides_box_L0 (a_s : List (List Span)) : Int × (List (List Span)) → Option (SR (Int × (List (List Span))) Box) := fun (k1, y1) =>
  bif (decide (k1 < 4)) then
  (idx a_s k1).bind fun x1 =>
  (appF ([] : List Span) x1).bind fun z1 =>
  (idx y1 k1).bind fun _x2 =>
  some (.nxt ((W (k1 + 1)), (List.set y1 (k1 : Int).toNat z1)))
  else
  some (.brk (k1, y1))
def impl_sides_box (a_s : List (List Span)) : Option Box :=
  (makeF ([] : List Span) 4).bind fun mk1 =>
  (loopF (impl_sides_box_L0 a_s) (((4) : Int) - 0).toNat.succ (0, mk1)).bind fun lr => lr.on (fun (_k2, y2) =>
  some ({ Sides := y2 } : Box)) (fun r => some r)


def impl_BoxMeet (a_a : Box) (a_b : Box) : Option Box :=
  (F.impl_BoxValid a_a).bind fun x1 =>
  bif x1 then
  (F.impl_BoxValid a_b).bind fun x2 =>
  bif x2 then
  (F.impl_sidesOf a_a).bind fun x3 =>
  (F.impl_sidesOf a_b).bind fun x4 =>
  (F.impl_sides_meet x3 x4).bind fun x5 =>
  bif x5.2 then
  (F.impl_sides_box x5.1).bind fun x6 =>
  some ({ Sides := x6.Sides } : Box)
  else
  some ({ Sides := ([] : List (List Span)) } : Box)
  else
  some ({ Sides := ([] : List (List Span)) } : Box)
  else
  some ({ Sides := ([] : List (List Span)) } : Box)


def laws_heldSpanS_L0 (a_a : List Span) : Int × Int → Option (SR (Int × Int) Int) := fun (k1, k2) =>
  bif (decide (k2 < (a_a.length : Int))) then
  (idx a_a k2).bind fun x1 =>
  bif (x1.Lo != k1) then
  some (.ret (-1))
  else
  bif (x1.Hi != (W (k1 + 1))) then
  some (.ret (-1))
  else
  some (.nxt ((W ((W (k1 + 1)) + 1)), (W (k2 + 1))))
  else
  some (.brk (k1, k2))
def laws_heldSpanS (a_a : List Span) (a_k : Int) : Option Int :=
  (loopF (laws_heldSpanS_L0 a_a) ((((a_a.length : Int)) : Int) - 0).toNat.succ (a_k, 0)).bind fun lr => lr.on (fun (k3, _k4) =>
  some k3) (fun r => some r)


def laws_heldSpanSS_L0 (a_a : List (List Span)) : Int × Int → Option (SR (Int × Int) Int) := fun (k1, k2) =>
  bif (decide (k2 < (a_a.length : Int))) then
  (idx a_a k2).bind fun x1 =>
  (F.laws_heldSpanS x1 k1).bind fun x2 =>
  bif (decide (x2 < 0)) then
  some (.ret (-1))
  else
  some (.nxt (x2, (W (k2 + 1))))
  else
  some (.brk (k1, k2))
def laws_heldSpanSS (a_a : List (List Span)) (a_k : Int) : Option Int :=
  (loopF (laws_heldSpanSS_L0 a_a) ((((a_a.length : Int)) : Int) - 0).toNat.succ (a_k, 0)).bind fun lr => lr.on (fun (k3, _k4) =>
  some k3) (fun r => some r)


def laws_heldBox (a_a : Box) (a_k : Int) : Option Int :=
  (F.laws_heldSpanSS a_a.Sides a_k).bind fun x1 =>
  bif (decide (x1 < 0)) then
  some (-1)
  else
  some x1


def laws_FnExactBoxMeet (a_aA : Box) (a_aB : Box) : Option Bool :=
  (F.laws_szBox a_aA 1048576).bind fun x1 =>
  bif (decide (x1 < 0)) then
  some true
  else
  (F.laws_szBox a_aB x1).bind fun x2 =>
  bif (decide (x2 < 0)) then
  some true
  else
  (F.laws_toBox a_aA).bind fun x3 =>
  (F.laws_toBox a_aB).bind fun x4 =>
  (F.spec_BoxMeet x3 x4).bind fun x5 =>
  (F.impl_BoxMeet ({ Sides := x3.Sides } : Box) ({ Sides := x4.Sides } : Box)).bind fun x6 =>
  (F.laws_eqBox ({ Sides := x6.Sides } : Box) ({ Sides := x5.Sides } : Box)).bind fun x7 =>
  bif x7 then
  (F.laws_eqBox ({ Sides := x3.Sides } : Box) x3).bind fun x8 =>
  bif x8 then
  (F.laws_eqBox ({ Sides := x4.Sides } : Box) x4).bind fun x9 =>
  bif x9 then
  (F.laws_markBox x3 1).bind fun x10 =>
  (F.laws_markBox x4 x10).bind fun x11 =>
  bif (decide (x11 < 0)) then
  some false
  else
  (F.laws_markBox_r x6 1).bind fun x12 =>
  (F.laws_heldBox ({ Sides := x12.2.Sides } : Box) 1).bind fun x13 =>
  bif (decide (x13 < 0)) then
  some false
  else
  bif (x13 != x12.1) then
  some false
  else
  (F.impl_BoxMeet x3 x4).bind fun x14 =>
  (F.laws_eqBox ({ Sides := x14.Sides } : Box) ({ Sides := x5.Sides } : Box)).bind fun x15 =>
  bif x15 then
  some true
  else
  some false
  else
  some false
  else
  some false
  else
  some false


def laws_szTestS (a_a : List Test) (a_left : Int) : Option Int :=
  bif (decide ((W (a_left - (a_a.length : Int))) < 0)) then
  some (-1)
  else
  some (W (a_left - (a_a.length : Int)))


def spec_BoxAll_L0 : Int × (List (List Span)) → Option (SR (Int × (List (List Span))) Box) := fun (k1, y1) =>
  bif (decide (k1 < 4)) then
  (F.spec_FieldTop k1).bind fun x1 =>
  (appF y1 [[({ Lo := 0, Hi := x1 } : Span)]]).bind fun z1 =>
  some (.nxt ((W (k1 + 1)), z1))
  else
  some (.brk (k1, y1))
def spec_BoxAll : Option Box :=
  (loopF (spec_BoxAll_L0) (((4) : Int) - 0).toNat.succ (0, ([] : List (List Span)))).bind fun lr => lr.on (fun (_k2, y2) =>
  some ({ Sides := y2 } : Box)) (fun r => some r)


def spec_l2Other_L0 (a_a : List Span) : (List Span) × Int × Int → Option (SR ((List Span) × Int × Int) ((List Span))) := fun (y1, k1, k2) =>
  bif (decide (k2 < (a_a.length : Int))) then
  (idx a_a k2).bind fun x1 =>
  bif (decide (k1 < x1.Lo)) then
  (appF y1 [({ Lo := k1, Hi := (W (x1.Lo - 1)) } : Span)]).bind fun z1 =>
  some (.nxt (z1, (W (x1.Hi + 1)), (W (k2 + 1))))
  else
  some (.nxt (y1, (W (x1.Hi + 1)), (W (k2 + 1))))
  else
  some (.brk (y1, k1, k2))
def spec_l2Other (a_a : List Span) (a_top : Int) : Option ((List Span)) :=
  (loopF (spec_l2Other_L0 a_a) ((((a_a.length : Int)) : Int) - 0).toNat.succ (([] : List Span), 0, 0)).bind fun lr => lr.on (fun (y2, k3, _k4) =>
  bif (decide (k3 ≤ a_top)) then
  (appF y2 [({ Lo := k3, Hi := a_top } : Span)]).bind fun z2 =>
  some z2
  else
  some y2) (fun r => some r)


def spec_TestSpans (a_t : Test) : Option ((List Span)) :=
  (F.spec_TestValid a_t).bind fun x1 =>
  bif x1 then
  bif a_t.Not then
  (F.spec_FieldTop a_t.Field).bind fun x2 =>
  (F.spec_l2Other [({ Lo := a_t.Lo, Hi := a_t.Hi } : Span)] x2).bind fun x3 =>
  some x3
  else
  some [({ Lo := a_t.Lo, Hi := a_t.Hi } : Span)]
  else
  some ([] : List Span)


def spec_TestsBox_L0 (a_list : List Test) : Int × (List (List Span)) → Option (SR (Int × (List (List Span))) Box) := fun (k1, y1) =>
  bif (decide (k1 < (a_list.length : Int))) then
  (idx a_list k1).bind fun x3 =>
  (idx y1 x3.Field).bind fun x4 =>
  (F.spec_TestSpans x3).bind fun x5 =>
  (F.spec_l2Meet x4 x5).bind fun x6 =>
  some (.nxt ((W (k1 + 1)), (List.set y1 (x3.Field : Int).toNat x6)))
  else
  some (.brk (k1, y1))
def spec_TestsBox (a_list : List Test) : Option Box :=
  (F.spec_TestsValid a_list).bind fun x1 =>
  bif x1 then
  (F.spec_BoxAll).bind fun x2 =>
  (loopF (spec_TestsBox_L0 a_list) ((((a_list.length : Int)) : Int) - 0).toNat.succ (0, x2.Sides)).bind fun lr => lr.on (fun (_k2, y2) =>
  some ({ Sides := y2 } : Box)) (fun r => some r)
  else
  some ({ Sides := ([] : List (List Span)) } : Box)


def laws_toTest (a_a : Test) : Option Test :=
  some ({ Field := a_a.Field, Lo := a_a.Lo, Hi := a_a.Hi, Not := a_a.Not } : Test)


def laws_toTestS_L0 (a_a : List Test) : Int × (List Test) → Option (SR (Int × (List Test)) ((List Test))) := fun (k1, y1) =>
  bif (decide (k1 < (a_a.length : Int))) then
  (idx a_a k1).bind fun x1 =>
  (F.laws_toTest x1).bind fun x2 =>
  (idx y1 k1).bind fun _x3 =>
  some (.nxt ((W (k1 + 1)), (List.set y1 (k1 : Int).toNat x2)))
  else
  some (.brk (k1, y1))
def laws_toTestS (a_a : List Test) : Option ((List Test)) :=
  (makeF ({ Field := (0 : Int), Lo := (0 : Int), Hi := (0 : Int), Not := false } : Test) (a_a.length : Int)).bind fun mk1 =>
  (loopF (laws_toTestS_L0 a_a) ((((a_a.length : Int)) : Int) - 0).toNat.succ (0, mk1)).bind fun lr => lr.on (fun (_k2, y2) =>
  some y2) (fun r => some r)


def impl_allSides_L0 : Int × (List (List Span)) → Option (SR (Int × (List (List Span))) ((List (List Span)))) := fun (k1, y1) =>
  bif (decide (k1 < 4)) then
  (F.impl_FieldTop k1).bind fun x1 =>
  (idx y1 k1).bind fun _x2 =>
  some (.nxt ((W (k1 + 1)), (List.set y1 (k1 : Int).toNat [({ Lo := 0, Hi := x1 } : Span)])))
  else
  some (.brk (k1, y1))
def impl_allSides : Option ((List (List Span))) :=
  (loopF (impl_allSides_L0) (((4) : Int) - 0).toNat.succ (0, [([] : List Span), ([] : List Span), ([] : List Span), ([] : List Span)])).bind fun lr => lr.on (fun (_k2, y2) =>
  some y2) (fun r => some r)


def impl_Test_spans (a_t : Test) : Option ((List Span)) :=
  bif a_t.Not then
  bif (decide (0 < a_t.Lo)) then
  (appF ([] : List Span) [({ Lo := 0, Hi := (W (a_t.Lo - 1)) } : Span)]).bind fun z1 =>
  (F.impl_FieldTop a_t.Field).bind fun x1 =>
  bif (decide (a_t.Hi < x1)) then
  (appF z1 [({ Lo := (W (a_t.Hi + 1)), Hi := x1 } : Span)]).bind fun z2 =>
  some z2
  else
  some z1
  else
  (F.impl_FieldTop a_t.Field).bind fun x2 =>
  bif (decide (a_t.Hi < x2)) then
  (appF ([] : List Span) [({ Lo := (W (a_t.Hi + 1)), Hi := x2 } : Span)]).bind fun z3 =>
  some z3
  else
  some ([] : List Span)
  else
  some [({ Lo := a_t.Lo, Hi := a_t.Hi } : Span)]


def impl_testsSides_L0 (a_list : List Test) : Int × (List (List Span)) → Option (SR (Int × (List (List Span))) ((List (List Span)))) := fun (k1, y1) =>
  bif (decide (k1 < (a_list.length : Int))) then
  (idx a_list k1).bind fun x2 =>
  (idx y1 x2.Field).bind fun x3 =>
  (F.impl_Test_spans x2).bind fun x4 =>
  (F.impl_FieldTop x2.Field).bind fun x5 =>
  (F.impl_meetSpans x3 x4 x5).bind fun x6 =>
  some (.nxt ((W (k1 + 1)), (List.set y1 (x2.Field : Int).toNat x6.1)))
  else
  some (.brk (k1, y1))
def impl_testsSides (a_list : List Test) : Option ((List (List Span))) :=
  (F.impl_allSides).bind fun x1 =>
  (loopF (impl_testsSides_L0 a_list) ((((a_list.length : Int)) : Int) - 0).toNat.succ (0, x1)).bind fun lr => lr.on (fun (_k2, y2) =>
  some y2) (fun r => some r)


def impl_TestsBox (a_list : List Test) : Option Box :=
  (F.impl_TestsValid a_list).bind fun x1 =>
  bif x1 then
  (F.impl_testsSides a_list).bind fun x2 =>
  (F.impl_sides_box x2).bind fun x3 =>
  some ({ Sides := x3.Sides } : Box)
  else
  some ({ Sides := ([] : List (List Span)) } : Box)


def laws_FnExactTestsBox (a_aList : List Test) : Option Bool :=
  (F.laws_szTestS a_aList 1048576).bind fun x1 =>
  bif (decide (x1 < 0)) then
  some true
  else
  (F.laws_toTestS a_aList).bind fun x2 =>
  (F.spec_TestsBox x2).bind fun x3 =>
  (F.impl_TestsBox x2).bind fun x4 =>
  (F.laws_eqBox ({ Sides := x4.Sides } : Box) x3).bind fun x5 =>
  bif x5 then
  (F.laws_eqTestS x2 x2).bind fun x6 =>
  bif x6 then
  (F.laws_markTestS x2 1).bind fun x7 =>
  bif (decide (x7 < 0)) then
  some false
  else
  (F.laws_markBox_r x4 1).bind fun x8 =>
  (F.laws_heldBox ({ Sides := x8.2.Sides } : Box) 1).bind fun x9 =>
  bif (decide (x9 < 0)) then
  some false
  else
  bif (x9 != x8.1) then
  some false
  else
  (F.laws_eqBox x4 x3).bind fun x10 =>
  bif x10 then
  some true
  else
  some false
  else
  some false
  else
  some false


def laws_szFlat (a_a : Flat) (a_left : Int) : Option Int :=
  (F.laws_szBox a_a.Where a_left).bind fun x1 =>
  bif (decide (x1 < 0)) then
  some (-1)
  else
  some x1


def laws_szFlatS_L0 (a_a : List Flat) : Int × Int → Option (SR (Int × Int) Int) := fun (k1, k2) =>
  bif (decide (k2 < (a_a.length : Int))) then
  (idx a_a k2).bind fun x1 =>
  (F.laws_szFlat x1 k1).bind fun x2 =>
  bif (decide (x2 < 0)) then
  some (.ret (-1))
  else
  some (.nxt (x2, (W (k2 + 1))))
  else
  some (.brk (k1, k2))
def laws_szFlatS (a_a : List Flat) (a_left : Int) : Option Int :=
  bif (decide ((W (a_left - (a_a.length : Int))) < 0)) then
  some (-1)
  else
  (loopF (laws_szFlatS_L0 a_a) ((((a_a.length : Int)) : Int) - 0).toNat.succ ((W (a_left - (a_a.length : Int))), 0)).bind fun lr => lr.on (fun (k3, _k4) =>
  some k3) (fun r => some r)


def spec_l1OwnFlat (a_x : Flat) : Option Flat :=
  (F.spec_l1OwnBox a_x.Where).bind fun x1 =>
  some ({ Where := ({ Sides := x1.Sides } : Box), Accept := a_x.Accept } : Flat)


def spec_l1OwnFlatList_L0 (a_list : List Flat) : (List Flat) × Int → Option (SR ((List Flat) × Int) ((List Flat))) := fun (y1, k1) =>
  bif (decide (k1 < (a_list.length : Int))) then
  (idx a_list k1).bind fun x1 =>
  (F.spec_l1OwnFlat x1).bind fun x2 =>
  (appF y1 [x2]).bind fun z1 =>
  some (.nxt (z1, (W (k1 + 1))))
  else
  some (.brk (y1, k1))
def spec_l1OwnFlatList (a_list : List Flat) : Option ((List Flat)) :=
  (loopF (spec_l1OwnFlatList_L0 a_list) ((((a_list.length : Int)) : Int) - 0).toNat.succ (([] : List Flat), 0)).bind fun lr => lr.on (fun (y2, _k2) =>
  some y2) (fun r => some r)


def spec_FlatsValid_L0 (a_list : List Flat) : Int → Option (SR (Int) Bool) := fun k1 =>
  bif (decide (k1 < (a_list.length : Int))) then
  (idx a_list k1).bind fun x1 =>
  (F.spec_BoxValid x1.Where).bind fun x2 =>
  bif x2 then
  some (.nxt (W (k1 + 1)))
  else
  some (.ret false)
  else
  some (.brk k1)
def spec_FlatsValid (a_list : List Flat) : Option Bool :=
  (loopF (spec_FlatsValid_L0 a_list) ((((a_list.length : Int)) : Int) - 0).toNat.succ 0).bind fun lr => lr.on (fun _k2 =>
  some (decide ((a_list.length : Int) ≤ 60))) (fun r => some r)


def spec_FlatBoxes_L0 (x1 : List Flat) : (List Box) × Int → Option (SR ((List Box) × Int) ((List Box))) := fun (y1, k1) =>
  bif (decide (k1 < (x1.length : Int))) then
  (F.spec_FlatsValid x1).bind fun x2 =>
  bif x2 then
  (idx x1 k1).bind fun x3 =>
  (appF y1 [x3.Where]).bind fun z1 =>
  some (.nxt (z1, (W (k1 + 1))))
  else
  some (.brk (y1, k1))
  else
  some (.brk (y1, k1))
def spec_FlatBoxes (a_list : List Flat) : Option ((List Box)) :=
  (F.spec_l1OwnFlatList a_list).bind fun x1 =>
  (loopF (spec_FlatBoxes_L0 x1) ((((x1.length : Int)) : Int) - 0).toNat.succ (([] : List Box), 0)).bind fun lr => lr.on (fun (y2, _k2) =>
  some y2) (fun r => some r)


def laws_toFlat (a_a : Flat) : Option Flat :=
  (F.laws_toBox a_a.Where).bind fun x1 =>
  some ({ Where := ({ Sides := x1.Sides } : Box), Accept := a_a.Accept } : Flat)


def laws_toFlatS_L0 (a_a : List Flat) : Int × (List Flat) → Option (SR (Int × (List Flat)) ((List Flat))) := fun (k1, y1) =>
  bif (decide (k1 < (a_a.length : Int))) then
  (idx a_a k1).bind fun x1 =>
  (F.laws_toFlat x1).bind fun x2 =>
  (idx y1 k1).bind fun _x3 =>
  some (.nxt ((W (k1 + 1)), (List.set y1 (k1 : Int).toNat x2)))
  else
  some (.brk (k1, y1))
def laws_toFlatS (a_a : List Flat) : Option ((List Flat)) :=
  (makeF ({ Where := ({ Sides := ([] : List (List Span)) } : Box), Accept := false } : Flat) (a_a.length : Int)).bind fun mk1 =>
  (loopF (laws_toFlatS_L0 a_a) ((((a_a.length : Int)) : Int) - 0).toNat.succ (0, mk1)).bind fun lr => lr.on (fun (_k2, y2) =>
  some y2) (fun r => some r)


def impl_FlatsValid_L0 (a_list : List Flat) : Int → Option (SR (Int) Bool) := fun k1 =>
  bif (decide (k1 < (a_list.length : Int))) then
  (idx a_list k1).bind fun x1 =>
  (F.impl_BoxValid x1.Where).bind fun x2 =>
  bif x2 then
  some (.nxt (W (k1 + 1)))
  else
  some (.ret false)
  else
  some (.brk k1)
def impl_FlatsValid (a_list : List Flat) : Option Bool :=
  bif (decide (60 < (a_list.length : Int))) then
  some false
  else
  (loopF (impl_FlatsValid_L0 a_list) ((((a_list.length : Int)) : Int) - 0).toNat.succ 0).bind fun lr => lr.on (fun _k2 =>
  some true) (fun r => some r)


def impl_boxesOf_L0 (a_list : List (List (List Span))) : (List Box) × Int → Option (SR ((List Box) × Int) ((List Box))) := fun (y1, k1) =>
  bif (decide (k1 < (a_list.length : Int))) then
  (idx a_list k1).bind fun x1 =>
  (F.impl_sides_box x1).bind fun x2 =>
  (appF y1 [x2]).bind fun z1 =>
  some (.nxt (z1, (W (k1 + 1))))
  else
  some (.brk (y1, k1))
def impl_boxesOf (a_list : List (List (List Span))) : Option ((List Box)) :=
  (capF (a_list.length : Int)).bind fun _u1 =>
  (loopF (impl_boxesOf_L0 a_list) ((((a_list.length : Int)) : Int) - 0).toNat.succ (([] : List Box), 0)).bind fun lr => lr.on (fun (y2, _k2) =>
  some y2) (fun r => some r)


def impl_wheres_L0 (a_list : List FlatI) : (List (List (List Span))) × Int → Option (SR ((List (List (List Span))) × Int) ((List (List (List Span))))) := fun (y1, k1) =>
  bif (decide (k1 < (a_list.length : Int))) then
  (idx a_list k1).bind fun x1 =>
  (appF y1 [x1.wh]).bind fun z1 =>
  some (.nxt (z1, (W (k1 + 1))))
  else
  some (.brk (y1, k1))
def impl_wheres (a_list : List FlatI) : Option ((List (List (List Span)))) :=
  (capF (a_list.length : Int)).bind fun _u1 =>
  (loopF (impl_wheres_L0 a_list) ((((a_list.length : Int)) : Int) - 0).toNat.succ (([] : List (List (List Span))), 0)).bind fun lr => lr.on (fun (y2, _k2) =>
  some y2) (fun r => some r)


def impl_flatsOf_L0 (a_list : List Flat) : (List FlatI) × Int → Option (SR ((List FlatI) × Int) ((List FlatI))) := fun (y1, k1) =>
  bif (decide (k1 < (a_list.length : Int))) then
  (idx a_list k1).bind fun x1 =>
  (F.impl_sidesOf x1.Where).bind fun x2 =>
  (appF y1 [({ wh := x2, accept := x1.Accept } : FlatI)]).bind fun z1 =>
  some (.nxt (z1, (W (k1 + 1))))
  else
  some (.brk (y1, k1))
def impl_flatsOf (a_list : List Flat) : Option ((List FlatI)) :=
  (capF (a_list.length : Int)).bind fun _u1 =>
  (loopF (impl_flatsOf_L0 a_list) ((((a_list.length : Int)) : Int) - 0).toNat.succ (([] : List FlatI), 0)).bind fun lr => lr.on (fun (y2, _k2) =>
  some y2) (fun r => some r)


def impl_FlatBoxes (a_list : List Flat) : Option ((List Box)) :=
  (F.impl_FlatsValid a_list).bind fun x1 =>
  bif x1 then
  (F.impl_flatsOf a_list).bind fun x2 =>
  (F.impl_wheres x2).bind fun x3 =>
  (F.impl_boxesOf x3).bind fun x4 =>
  some x4
  else
  some ([] : List Box)


def laws_eqBoxS_L0 (a_a : List Box) (a_b : List Box) : Int → Option (SR (Int) Bool) := fun k1 =>
  bif (decide (k1 < (a_a.length : Int))) then
  (idx a_a k1).bind fun x1 =>
  (idx a_b k1).bind fun x2 =>
  (F.laws_eqBox x1 x2).bind fun x3 =>
  bif x3 then
  some (.nxt (W (k1 + 1)))
  else
  some (.ret false)
  else
  some (.brk k1)
def laws_eqBoxS (a_a : List Box) (a_b : List Box) : Option Bool :=
  bif ((a_a.length : Int) != (a_b.length : Int)) then
  some false
  else
  (loopF (laws_eqBoxS_L0 a_a a_b) ((((a_a.length : Int)) : Int) - 0).toNat.succ 0).bind fun lr => lr.on (fun _k2 =>
  some true) (fun r => some r)


def laws_eqFlat (a_a : Flat) (a_b : Flat) : Option Bool :=
  (F.laws_eqBox a_a.Where a_b.Where).bind fun x1 =>
  bif x1 then
  bif (a_a.Accept != a_b.Accept) then
  some false
  else
  some true
  else
  some false


def laws_eqFlatS_L0 (a_a : List Flat) (a_b : List Flat) : Int → Option (SR (Int) Bool) := fun k1 =>
  bif (decide (k1 < (a_a.length : Int))) then
  (idx a_a k1).bind fun x1 =>
  (idx a_b k1).bind fun x2 =>
  (F.laws_eqFlat x1 x2).bind fun x3 =>
  bif x3 then
  some (.nxt (W (k1 + 1)))
  else
  some (.ret false)
  else
  some (.brk k1)
def laws_eqFlatS (a_a : List Flat) (a_b : List Flat) : Option Bool :=
  bif ((a_a.length : Int) != (a_b.length : Int)) then
  some false
  else
  (loopF (laws_eqFlatS_L0 a_a a_b) ((((a_a.length : Int)) : Int) - 0).toNat.succ 0).bind fun lr => lr.on (fun _k2 =>
  some true) (fun r => some r)


def laws_markFlatS_L0 (a_a : List Flat) : Int × Int → Option (SR (Int × Int) Int) := fun (k1, k2) =>
  bif (decide (k2 < (a_a.length : Int))) then
  (idx a_a k2).bind fun x1 =>
  (F.laws_markSpanSS x1.Where.Sides k1).bind fun x2 =>
  some (.nxt ((W (x2 + 1)), (W (k2 + 1))))
  else
  some (.brk (k1, k2))
def laws_markFlatS (a_a : List Flat) (a_k : Int) : Option Int :=
  (loopF (laws_markFlatS_L0 a_a) ((((a_a.length : Int)) : Int) - 0).toNat.succ (a_k, 0)).bind fun lr => lr.on (fun (k3, _k4) =>
  some k3) (fun r => some r)


def laws_markBoxS_L0 (a_a : List Box) : Int × Int → Option (SR (Int × Int) Int) := fun (k1, k2) =>
  bif (decide (k2 < (a_a.length : Int))) then
  (idx a_a k2).bind fun x1 =>
  (F.laws_markSpanSS x1.Sides k1).bind fun x2 =>
  some (.nxt (x2, (W (k2 + 1))))
  else
  some (.brk (k1, k2))
def laws_markBoxS (a_a : List Box) (a_k : Int) : Option Int :=
  (loopF (laws_markBoxS_L0 a_a) ((((a_a.length : Int)) : Int) - 0).toNat.succ (a_k, 0)).bind fun lr => lr.on (fun (k3, _k4) =>
  some k3) (fun r => some r)


def laws_markBoxS_r_L0 : Int × Int × (List Box) → Option (SR (Int × Int × (List Box)) (Int × (List Box))) := fun (k1, k2, y1) =>
  bif (decide (k2 < (y1.length : Int))) then
  (idx y1 k2).bind fun x1 =>
  (F.laws_markSpanSS_r x1.Sides k1).bind fun x2 =>
  some (.nxt (x2.1, (W (k2 + 1)), (List.set y1 (k2 : Int).toNat ({ Sides := x2.2 } : Box))))
  else
  some (.brk (k1, k2, y1))
def laws_markBoxS_r (a_a : List Box) (a_k : Int) : Option (Int × (List Box)) :=
  (loopF (laws_markBoxS_r_L0) ((a_a.length : Int) - 0).toNat.succ (a_k, 0, a_a)).bind fun lr => lr.on (fun (k3, _k4, y2) =>
  some (k3, y2)) (fun r => some r)


def laws_heldBoxS_L0 (a_a : List Box) : Int × Int → Option (SR (Int × Int) Int) := fun (k1, k2) =>
  bif (decide (k2 < (a_a.length : Int))) then
  (idx a_a k2).bind fun x1 =>
  (F.laws_heldSpanSS x1.Sides k1).bind fun x2 =>
  bif (decide (x2 < 0)) then
  some (.ret (-1))
  else
  some (.nxt (x2, (W (k2 + 1))))
  else
  some (.brk (k1, k2))
def laws_heldBoxS (a_a : List Box) (a_k : Int) : Option Int :=
  (loopF (laws_heldBoxS_L0 a_a) ((((a_a.length : Int)) : Int) - 0).toNat.succ (a_k, 0)).bind fun lr => lr.on (fun (k3, _k4) =>
  some k3) (fun r => some r)


def laws_FnExactFlatBoxes (a_aList : List Flat) : Option Bool :=
  (F.laws_szFlatS a_aList 1048576).bind fun x1 =>
  bif (decide (x1 < 0)) then
  some true
  else
  (F.laws_toFlatS a_aList).bind fun x2 =>
  (F.spec_FlatBoxes x2).bind fun x3 =>
  (F.impl_FlatBoxes x2).bind fun x4 =>
  (F.laws_eqBoxS x4 x3).bind fun x5 =>
  bif x5 then
  (F.laws_eqFlatS x2 x2).bind fun x6 =>
  bif x6 then
  (F.laws_markFlatS x2 1).bind fun x7 =>
  bif (decide (x7 < 0)) then
  some false
  else
  (F.laws_markBoxS_r x4 1).bind fun x8 =>
  (F.laws_heldBoxS x8.2 1).bind fun x9 =>
  bif (decide (x9 < 0)) then
  some false
  else
  bif (x9 != x8.1) then
  some false
  else
  some true
  else
  some false
  else
  some false


def laws_szRule (a_a : Rule) (a_left : Int) : Option Int :=
  (F.laws_szTestS a_a.Tests a_left).bind fun x1 =>
  bif (decide (x1 < 0)) then
  some (-1)
  else
  some x1


def laws_szRuleS_L0 (a_a : List Rule) : Int × Int → Option (SR (Int × Int) Int) := fun (k1, k2) =>
  bif (decide (k2 < (a_a.length : Int))) then
  (idx a_a k2).bind fun x1 =>
  (F.laws_szRule x1 k1).bind fun x2 =>
  bif (decide (x2 < 0)) then
  some (.ret (-1))
  else
  some (.nxt (x2, (W (k2 + 1))))
  else
  some (.brk (k1, k2))
def laws_szRuleS (a_a : List Rule) (a_left : Int) : Option Int :=
  bif (decide ((W (a_left - (a_a.length : Int))) < 0)) then
  some (-1)
  else
  (loopF (laws_szRuleS_L0 a_a) ((((a_a.length : Int)) : Int) - 0).toNat.succ ((W (a_left - (a_a.length : Int))), 0)).bind fun lr => lr.on (fun (k3, _k4) =>
  some k3) (fun r => some r)


def laws_szRuleSS_L0 (a_a : List (List Rule)) : Int × Int → Option (SR (Int × Int) Int) := fun (k1, k2) =>
  bif (decide (k2 < (a_a.length : Int))) then
  (idx a_a k2).bind fun x1 =>
  (F.laws_szRuleS x1 k1).bind fun x2 =>
  bif (decide (x2 < 0)) then
  some (.ret (-1))
  else
  some (.nxt (x2, (W (k2 + 1))))
  else
  some (.brk (k1, k2))
def laws_szRuleSS (a_a : List (List Rule)) (a_left : Int) : Option Int :=
  bif (decide ((W (a_left - (a_a.length : Int))) < 0)) then
  some (-1)
  else
  (loopF (laws_szRuleSS_L0 a_a) ((((a_a.length : Int)) : Int) - 0).toNat.succ ((W (a_left - (a_a.length : Int))), 0)).bind fun lr => lr.on (fun (k3, _k4) =>
  some k3) (fun r => some r)


def laws_szRuleset (a_a : Ruleset) (a_left : Int) : Option Int :=
  (F.laws_szRuleSS a_a.Chains a_left).bind fun x1 =>
  bif (decide (x1 < 0)) then
  some (-1)
  else
  some x1


def spec_CallsOf_L1 (a_s : Ruleset) (a_chain : Int) (k1 : Int) : Bool × Int × (List Int) → Option (SR (Bool × Int × (List Int)) ((List Int))) := fun (y2, k2, y3) =>
  (idx a_s.Chains a_chain).bind fun x3 =>
  bif (decide (k2 < (x3.length : Int))) then
  (idx x3 k2).bind fun x4 =>
  bif y2 then
  some (.nxt (true, (W (k2 + 1)), y3))
  else
  bif (x4.Action == 3) then
  some (.nxt ((x4.Chain == k1), (W (k2 + 1)), y3))
  else
  some (.nxt (false, (W (k2 + 1)), y3))
  else
  some (.brk (y2, k2, y3))
def spec_CallsOf_L0 (a_s : Ruleset) (a_chain : Int) : (List Int) × Int → Option (SR ((List Int) × Int) ((List Int))) := fun (y1, k1) =>
  bif (decide (k1 < (a_s.Chains.length : Int))) then
  (F.spec_RulesetValid a_s).bind fun x1 =>
  bif x1 then
  (F.spec_l1In a_chain 0 (W ((a_s.Chains.length : Int) - 1))).bind fun x2 =>
  bif x2 then
  (loopF (spec_CallsOf_L1 a_s a_chain k1) ((((((idx a_s.Chains a_chain).getD []).length : Int)) : Int) - 0).toNat.succ (false, 0, y1)).bind fun lr => lr.on (fun (y4, _k3, y5) =>
  bif y4 then
  (appF y5 [k1]).bind fun z1 =>
  some (.nxt (z1, (W (k1 + 1))))
  else
  some (.nxt (y5, (W (k1 + 1))))) (fun r => some (.ret r))
  else
  some (.brk (y1, k1))
  else
  some (.brk (y1, k1))
  else
  some (.brk (y1, k1))
def spec_CallsOf (a_s : Ruleset) (a_chain : Int) : Option ((List Int)) :=
  (loopF (spec_CallsOf_L0 a_s a_chain) ((((a_s.Chains.length : Int)) : Int) - 0).toNat.succ (([] : List Int), 0)).bind fun lr => lr.on (fun (y6, _k4) =>
  some y6) (fun r => some r)


def laws_toRule (a_a : Rule) : Option Rule :=
  (F.laws_toTestS a_a.Tests).bind fun x1 =>
  some ({ Tests := x1, Action := a_a.Action, Chain := a_a.Chain } : Rule)


def laws_toRuleS_L0 (a_a : List Rule) : Int × (List Rule) → Option (SR (Int × (List Rule)) ((List Rule))) := fun (k1, y1) =>
  bif (decide (k1 < (a_a.length : Int))) then
  (idx a_a k1).bind fun x1 =>
  (F.laws_toRule x1).bind fun x2 =>
  (idx y1 k1).bind fun _x3 =>
  some (.nxt ((W (k1 + 1)), (List.set y1 (k1 : Int).toNat x2)))
  else
  some (.brk (k1, y1))
def laws_toRuleS (a_a : List Rule) : Option ((List Rule)) :=
  (makeF ({ Tests := ([] : List Test), Action := (0 : Int), Chain := (0 : Int) } : Rule) (a_a.length : Int)).bind fun mk1 =>
  (loopF (laws_toRuleS_L0 a_a) ((((a_a.length : Int)) : Int) - 0).toNat.succ (0, mk1)).bind fun lr => lr.on (fun (_k2, y2) =>
  some y2) (fun r => some r)


def laws_toRuleSS_L0 (a_a : List (List Rule)) : Int × (List (List Rule)) → Option (SR (Int × (List (List Rule))) ((List (List Rule)))) := fun (k1, y1) =>
  bif (decide (k1 < (a_a.length : Int))) then
  (idx a_a k1).bind fun x1 =>
  (F.laws_toRuleS x1).bind fun x2 =>
  (idx y1 k1).bind fun _x3 =>
  some (.nxt ((W (k1 + 1)), (List.set y1 (k1 : Int).toNat x2)))
  else
  some (.brk (k1, y1))
def laws_toRuleSS (a_a : List (List Rule)) : Option ((List (List Rule))) :=
  (makeF ([] : List Rule) (a_a.length : Int)).bind fun mk1 =>
  (loopF (laws_toRuleSS_L0 a_a) ((((a_a.length : Int)) : Int) - 0).toNat.succ (0, mk1)).bind fun lr => lr.on (fun (_k2, y2) =>
  some y2) (fun r => some r)


def laws_toRuleset (a_a : Ruleset) : Option Ruleset :=
  (F.laws_toRuleSS a_a.Chains).bind fun x1 =>
  some ({ Chains := x1, Accept := a_a.Accept } : Ruleset)


def impl_CallsOf (a_s : Ruleset) (a_chain : Int) : Option ((List Int)) :=
  (F.impl_RulesetValid a_s).bind fun x1 =>
  bif x1 then
  bif (decide (a_chain < 0)) then
  some ([] : List Int)
  else
  bif (decide ((a_s.Chains.length : Int) ≤ a_chain)) then
  some ([] : List Int)
  else
  (idx a_s.Chains a_chain).bind fun x2 =>
  (F.impl_callsIn x2).bind fun x3 =>
  some x3
  else
  some ([] : List Int)


def laws_eqIntS_L0 (a_a : List Int) (a_b : List Int) : Int → Option (SR (Int) Bool) := fun k1 =>
  bif (decide (k1 < (a_a.length : Int))) then
  (idx a_a k1).bind fun x1 =>
  (idx a_b k1).bind fun x2 =>
  bif (x1 != x2) then
  some (.ret false)
  else
  some (.nxt (W (k1 + 1)))
  else
  some (.brk k1)
def laws_eqIntS (a_a : List Int) (a_b : List Int) : Option Bool :=
  bif ((a_a.length : Int) != (a_b.length : Int)) then
  some false
  else
  (loopF (laws_eqIntS_L0 a_a a_b) ((((a_a.length : Int)) : Int) - 0).toNat.succ 0).bind fun lr => lr.on (fun _k2 =>
  some true) (fun r => some r)


def laws_eqRule (a_a : Rule) (a_b : Rule) : Option Bool :=
  (F.laws_eqTestS a_a.Tests a_b.Tests).bind fun x1 =>
  bif x1 then
  bif (a_a.Action != a_b.Action) then
  some false
  else
  bif (a_a.Chain != a_b.Chain) then
  some false
  else
  some true
  else
  some false


def laws_eqRuleS_L0 (a_a : List Rule) (a_b : List Rule) : Int → Option (SR (Int) Bool) := fun k1 =>
  bif (decide (k1 < (a_a.length : Int))) then
  (idx a_a k1).bind fun x1 =>
  (idx a_b k1).bind fun x2 =>
  (F.laws_eqRule x1 x2).bind fun x3 =>
  bif x3 then
  some (.nxt (W (k1 + 1)))
  else
  some (.ret false)
  else
  some (.brk k1)
def laws_eqRuleS (a_a : List Rule) (a_b : List Rule) : Option Bool :=
  bif ((a_a.length : Int) != (a_b.length : Int)) then
  some false
  else
  (loopF (laws_eqRuleS_L0 a_a a_b) ((((a_a.length : Int)) : Int) - 0).toNat.succ 0).bind fun lr => lr.on (fun _k2 =>
  some true) (fun r => some r)


def laws_eqRuleSS_L0 (a_a : List (List Rule)) (a_b : List (List Rule)) : Int → Option (SR (Int) Bool) := fun k1 =>
  bif (decide (k1 < (a_a.length : Int))) then
  (idx a_a k1).bind fun x1 =>
  (idx a_b k1).bind fun x2 =>
  (F.laws_eqRuleS x1 x2).bind fun x3 =>
  bif x3 then
  some (.nxt (W (k1 + 1)))
  else
  some (.ret false)
  else
  some (.brk k1)
def laws_eqRuleSS (a_a : List (List Rule)) (a_b : List (List Rule)) : Option Bool :=
  bif ((a_a.length : Int) != (a_b.length : Int)) then
  some false
  else
  (loopF (laws_eqRuleSS_L0 a_a a_b) ((((a_a.length : Int)) : Int) - 0).toNat.succ 0).bind fun lr => lr.on (fun _k2 =>
  some true) (fun r => some r)


def laws_eqRuleset (a_a : Ruleset) (a_b : Ruleset) : Option Bool :=
  (F.laws_eqRuleSS a_a.Chains a_b.Chains).bind fun x1 =>
  bif x1 then
  bif (a_a.Accept != a_b.Accept) then
  some false
  else
  some true
  else
  some false


def laws_markRuleS_L0 (a_a : List Rule) : Int × Int → Option (SR (Int × Int) Int) := fun (k1, k2) =>
  bif (decide (k2 < (a_a.length : Int))) then
  (idx a_a k2).bind fun x1 =>
  (F.laws_markTestS x1.Tests k1).bind fun x2 =>
  some (.nxt ((W ((W (x2 + 1)) + 1)), (W (k2 + 1))))
  else
  some (.brk (k1, k2))
def laws_markRuleS (a_a : List Rule) (a_k : Int) : Option Int :=
  (loopF (laws_markRuleS_L0 a_a) ((((a_a.length : Int)) : Int) - 0).toNat.succ (a_k, 0)).bind fun lr => lr.on (fun (k3, _k4) =>
  some k3) (fun r => some r)


def laws_markRuleSS_L0 (a_a : List (List Rule)) : Int × Int → Option (SR (Int × Int) Int) := fun (k1, k2) =>
  bif (decide (k2 < (a_a.length : Int))) then
  (idx a_a k2).bind fun x1 =>
  (F.laws_markRuleS x1 k1).bind fun x2 =>
  some (.nxt (x2, (W (k2 + 1))))
  else
  some (.brk (k1, k2))
def laws_markRuleSS (a_a : List (List Rule)) (a_k : Int) : Option Int :=
  (loopF (laws_markRuleSS_L0 a_a) ((((a_a.length : Int)) : Int) - 0).toNat.succ (a_k, 0)).bind fun lr => lr.on (fun (k3, _k4) =>
  some k3) (fun r => some r)


def laws_markRuleset (a_a : Ruleset) (a_k : Int) : Option Int :=
  (F.laws_markRuleSS a_a.Chains a_k).bind fun x1 =>
  some x1


def laws_markIntS_L0 (a_a : List Int) : Int × Int → Option (SR (Int × Int) Int) := fun (k1, k2) =>
  bif (decide (k2 < (a_a.length : Int))) then
  (idx a_a k2).bind fun _x1 =>
  some (.nxt ((W (k1 + 1)), (W (k2 + 1))))
  else
  some (.brk (k1, k2))
def laws_markIntS (a_a : List Int) (a_k : Int) : Option Int :=
  (loopF (laws_markIntS_L0 a_a) ((((a_a.length : Int)) : Int) - 0).toNat.succ (a_k, 0)).bind fun lr => lr.on (fun (k3, _k4) =>
  some k3) (fun r => some r)


def laws_markIntS_r_L0 : Int × Int × (List Int) → Option (SR (Int × Int × (List Int)) (Int × (List Int))) := fun (k1, k2, y1) =>
  bif (decide (k2 < (y1.length : Int))) then
  (idx y1 k2).bind fun _x1 =>
  some (.nxt ((W (k1 + 1)), (W (k2 + 1)), (List.set y1 (k2 : Int).toNat k1)))
  else
  some (.brk (k1, k2, y1))
def laws_markIntS_r (a_a : List Int) (a_k : Int) : Option (Int × (List Int)) :=
  (loopF (laws_markIntS_r_L0) ((a_a.length : Int) - 0).toNat.succ (a_k, 0, a_a)).bind fun lr => lr.on (fun (k3, _k4, y2) =>
  some (k3, y2)) (fun r => some r)


def laws_heldIntS_L0 (a_a : List Int) : Int × Int → Option (SR (Int × Int) Int) := fun (k1, k2) =>
  bif (decide (k2 < (a_a.length : Int))) then
  (idx a_a k2).bind fun x1 =>
  bif (x1 != k1) then
  some (.ret (-1))
  else
  some (.nxt ((W (k1 + 1)), (W (k2 + 1))))
  else
  some (.brk (k1, k2))
def laws_heldIntS (a_a : List Int) (a_k : Int) : Option Int :=
  (loopF (laws_heldIntS_L0 a_a) ((((a_a.length : Int)) : Int) - 0).toNat.succ (a_k, 0)).bind fun lr => lr.on (fun (k3, _k4) =>
  some k3) (fun r => some r)


def laws_FnExactCallsOf (a_aS : Ruleset) (a_aChain : Int) : Option Bool :=
  (F.laws_szRuleset a_aS 1048576).bind fun x1 =>
  bif (decide (x1 < 0)) then
  some true
  else
  (F.laws_toRuleset a_aS).bind fun x2 =>
  (F.spec_CallsOf x2 a_aChain).bind fun x3 =>
  (F.impl_CallsOf ({ Chains := x2.Chains, Accept := x2.Accept } : Ruleset) a_aChain).bind fun x4 =>
  (F.laws_eqIntS x4 x3).bind fun x5 =>
  bif x5 then
  (F.laws_eqRuleset ({ Chains := x2.Chains, Accept := x2.Accept } : Ruleset) x2).bind fun x6 =>
  bif x6 then
  (F.laws_markRuleset x2 1).bind fun x7 =>
  bif (decide (x7 < 0)) then
  some false
  else
  (F.laws_markIntS_r x4 1).bind fun x8 =>
  (F.laws_heldIntS x8.2 1).bind fun x9 =>
  bif (decide (x9 < 0)) then
  some false
  else
  bif (x9 != x8.1) then
  some false
  else
  (F.impl_CallsOf x2 a_aChain).bind fun x10 =>
  (F.laws_eqIntS x10 x3).bind fun x11 =>
  bif x11 then
  some true
  else
  some false
  else
  some false
  else
  some false


def spec_ChainsUsed_L2 (a_s : Ruleset) (k2 : Int) : Int × (List Int) × (List Bool) → Option (SR (Int × (List Int) × (List Bool)) ((List Int))) := fun (k3, y5, y6) =>
  (idx a_s.Chains k2).bind fun x3 =>
  bif (decide (k3 < (x3.length : Int))) then
  (idx y6 k2).bind fun x4 =>
  bif x4 then
  (idx x3 k3).bind fun x5 =>
  bif (x5.Action == 3) then
  (idx y6 x5.Chain).bind fun _x6 =>
  some (.nxt ((W (k3 + 1)), y5, (List.set y6 (x5.Chain : Int).toNat true)))
  else
  some (.nxt ((W (k3 + 1)), y5, y6))
  else
  some (.brk (k3, y5, y6))
  else
  some (.brk (k3, y5, y6))
def spec_ChainsUsed_L1 (a_s : Ruleset) : Int × (List Int) × (List Bool) → Option (SR (Int × (List Int) × (List Bool)) ((List Int))) := fun (k2, y3, y4) =>
  bif (decide (k2 < (a_s.Chains.length : Int))) then
  (loopF (spec_ChainsUsed_L2 a_s k2) ((((((idx a_s.Chains k2).getD []).length : Int)) : Int) - 0).toNat.succ (0, y3, y4)).bind fun lr => lr.on (fun (_k4, y7, y8) =>
  some (.nxt ((W (k2 + 1)), y7, y8))) (fun r => some (.ret r))
  else
  some (.brk (k2, y3, y4))
def spec_ChainsUsed_L3 (a_s : Ruleset) : (List Int) × Int × (List Bool) → Option (SR ((List Int) × Int × (List Bool)) ((List Int))) := fun (y13, k7, y14) =>
  bif (decide (k7 < (a_s.Chains.length : Int))) then
  (idx y14 k7).bind fun x7 =>
  bif x7 then
  (appF y13 [k7]).bind fun z1 =>
  some (.nxt (z1, (W (k7 + 1)), y14))
  else
  some (.nxt (y13, (W (k7 + 1)), y14))
  else
  some (.brk (y13, k7, y14))
def spec_ChainsUsed_L0 (a_s : Ruleset) : Int × (List Int) × (List Bool) → Option (SR (Int × (List Int) × (List Bool)) ((List Int))) := fun (k1, y1, y2) =>
  bif (decide (k1 < (a_s.Chains.length : Int))) then
  (loopF (spec_ChainsUsed_L1 a_s) ((((a_s.Chains.length : Int)) : Int) - 0).toNat.succ (0, y1, y2)).bind fun lr => lr.on (fun (_k5, y9, y10) =>
  some (.nxt ((W (k1 + 1)), y9, y10))) (fun r => some (.ret r))
  else
  some (.brk (k1, y1, y2))
def spec_ChainsUsed (a_s : Ruleset) : Option ((List Int)) :=
  (F.spec_RulesetValid a_s).bind fun x1 =>
  bif x1 then
  (makeF false (a_s.Chains.length : Int)).bind fun mk1 =>
  (idx mk1 0).bind fun _x2 =>
  (loopF (spec_ChainsUsed_L0 a_s) ((((a_s.Chains.length : Int)) : Int) - 0).toNat.succ (0, ([] : List Int), (List.set mk1 (0 : Int).toNat true))).bind fun lr => lr.on (fun (_k6, y11, y12) =>
  (loopF (spec_ChainsUsed_L3 a_s) ((((a_s.Chains.length : Int)) : Int) - 0).toNat.succ (y11, 0, y12)).bind fun lr => lr.on (fun (y15, _k8, _y16) =>
  some y15) (fun r => some r)) (fun r => some r)
  else
  some ([] : List Int)


def laws_FnExactChainsUsed (a_aS : Ruleset) : Option Bool :=
  (F.laws_szRuleset a_aS 1048576).bind fun x1 =>
  bif (decide (x1 < 0)) then
  some true
  else
  (F.laws_toRuleset a_aS).bind fun x2 =>
  (F.spec_ChainsUsed x2).bind fun x3 =>
  (F.impl_ChainsUsed ({ Chains := x2.Chains, Accept := x2.Accept } : Ruleset)).bind fun x4 =>
  (F.laws_eqIntS x4 x3).bind fun x5 =>
  bif x5 then
  (F.laws_eqRuleset ({ Chains := x2.Chains, Accept := x2.Accept } : Ruleset) x2).bind fun x6 =>
  bif x6 then
  (F.laws_markRuleset x2 1).bind fun x7 =>
  bif (decide (x7 < 0)) then
  some false
  else
  (F.laws_markIntS_r x4 1).bind fun x8 =>
  (F.laws_heldIntS x8.2 1).bind fun x9 =>
  bif (decide (x9 < 0)) then
  some false
  else
  bif (x9 != x8.1) then
  some false
  else
  (F.impl_ChainsUsed x2).bind fun x10 =>
  (F.laws_eqIntS x10 x3).bind fun x11 =>
  bif x11 then
  some true
  else
  some false
  else
  some false
  else
  some false


def spec_JudgeTrace (a_s : Ruleset) (a_p : Packet) : Option ((List Visit)) :=
  (F.spec_RulesetValid a_s).bind fun x1 =>
  bif x1 then
  (F.spec_PacketValid a_p).bind fun x2 =>
  bif x2 then
  (F.spec_l9Walk 10 a_s 0 a_p ([] : List Visit)).bind fun x3 =>
  some x3.2
  else
  some ([] : List Visit)
  else
  some ([] : List Visit)


def laws_toPacket (a_a : Packet) : Option Packet :=
  some ({ From := a_a.From, To := a_a.To, Port := a_a.Port, Proto := a_a.Proto } : Packet)


def impl_JudgeTrace (a_s : Ruleset) (a_p : Packet) : Option ((List Visit)) :=
  (F.impl_RulesetValid a_s).bind fun x1 =>
  bif x1 then
  (F.impl_PacketValid a_p).bind fun x2 =>
  bif x2 then
  (F.impl_walkThrough a_s a_p).bind fun x3 =>
  some x3.visits
  else
  some ([] : List Visit)
  else
  some ([] : List Visit)


def laws_eqVisit (a_a : Visit) (a_b : Visit) : Option Bool :=
  bif (a_a.Chain != a_b.Chain) then
  some false
  else
  bif (a_a.Place != a_b.Place) then
  some false
  else
  some true


def laws_eqVisitS_L0 (a_a : List Visit) (a_b : List Visit) : Int → Option (SR (Int) Bool) := fun k1 =>
  bif (decide (k1 < (a_a.length : Int))) then
  (idx a_a k1).bind fun x1 =>
  (idx a_b k1).bind fun x2 =>
  (F.laws_eqVisit x1 x2).bind fun x3 =>
  bif x3 then
  some (.nxt (W (k1 + 1)))
  else
  some (.ret false)
  else
  some (.brk k1)
def laws_eqVisitS (a_a : List Visit) (a_b : List Visit) : Option Bool :=
  bif ((a_a.length : Int) != (a_b.length : Int)) then
  some false
  else
  (loopF (laws_eqVisitS_L0 a_a a_b) ((((a_a.length : Int)) : Int) - 0).toNat.succ 0).bind fun lr => lr.on (fun _k2 =>
  some true) (fun r => some r)


def laws_markVisitS_L0 (a_a : List Visit) : Int × Int → Option (SR (Int × Int) Int) := fun (k1, k2) =>
  bif (decide (k2 < (a_a.length : Int))) then
  (idx a_a k2).bind fun _x1 =>
  some (.nxt ((W ((W (k1 + 1)) + 1)), (W (k2 + 1))))
  else
  some (.brk (k1, k2))
def laws_markVisitS (a_a : List Visit) (a_k : Int) : Option Int :=
  (loopF (laws_markVisitS_L0 a_a) ((((a_a.length : Int)) : Int) - 0).toNat.succ (a_k, 0)).bind fun lr => lr.on (fun (k3, _k4) =>
  some k3) (fun r => some r)


def laws_markVisitS_r_L0 : Int × Int × (List Visit) → Option (SR (Int × Int × (List Visit)) (Int × (List Visit))) := fun (k1, k2, y1) =>
  bif (decide (k2 < (y1.length : Int))) then
  (idx y1 k2).bind fun x1 =>
  (idx (List.set y1 (k2 : Int).toNat { x1 with Chain := k1 }) k2).bind fun x2 =>
  some (.nxt ((W ((W (k1 + 1)) + 1)), (W (k2 + 1)), (List.set (List.set y1 (k2 : Int).toNat { x1 with Chain := k1 }) (k2 : Int).toNat { x2 with Place := (W (k1 + 1)) })))
  else
  some (.brk (k1, k2, y1))
def laws_markVisitS_r (a_a : List Visit) (a_k : Int) : Option (Int × (List Visit)) :=
  (loopF (laws_markVisitS_r_L0) ((a_a.length : Int) - 0).toNat.succ (a_k, 0, a_a)).bind fun lr => lr.on (fun (k3, _k4, y2) =>
  some (k3, y2)) (fun r => some r)


def laws_heldVisitS_L0 (a_a : List Visit) : Int × Int → Option (SR (Int × Int) Int) := fun (k1, k2) =>
  bif (decide (k2 < (a_a.length : Int))) then
  (idx a_a k2).bind fun x1 =>
  bif (x1.Chain != k1) then
  some (.ret (-1))
  else
  bif (x1.Place != (W (k1 + 1))) then
  some (.ret (-1))
  else
  some (.nxt ((W ((W (k1 + 1)) + 1)), (W (k2 + 1))))
  else
  some (.brk (k1, k2))
def laws_heldVisitS (a_a : List Visit) (a_k : Int) : Option Int :=
  (loopF (laws_heldVisitS_L0 a_a) ((((a_a.length : Int)) : Int) - 0).toNat.succ (a_k, 0)).bind fun lr => lr.on (fun (k3, _k4) =>
  some k3) (fun r => some r)


def laws_FnExactJudgeTrace (a_aS : Ruleset) (a_aP : Packet) : Option Bool :=
  (F.laws_szRuleset a_aS 1048576).bind fun x1 =>
  bif (decide (x1 < 0)) then
  some true
  else
  (F.laws_toRuleset a_aS).bind fun x2 =>
  (F.laws_toPacket a_aP).bind fun x3 =>
  (F.spec_JudgeTrace x2 x3).bind fun x4 =>
  (F.impl_JudgeTrace ({ Chains := x2.Chains, Accept := x2.Accept } : Ruleset) x3).bind fun x5 =>
  (F.laws_eqVisitS x5 x4).bind fun x6 =>
  bif x6 then
  (F.laws_eqRuleset ({ Chains := x2.Chains, Accept := x2.Accept } : Ruleset) x2).bind fun x7 =>
  bif x7 then
  (F.laws_markRuleset x2 1).bind fun x8 =>
  bif (decide (x8 < 0)) then
  some false
  else
  (F.laws_markVisitS_r x5 1).bind fun x9 =>
  (F.laws_heldVisitS x9.2 1).bind fun x10 =>
  bif (decide (x10 < 0)) then
  some false
  else
  bif (x10 != x9.1) then
  some false
  else
  (F.impl_JudgeTrace x2 x3).bind fun x11 =>
  (F.laws_eqVisitS x11 x4).bind fun x12 =>
  bif x12 then
  some true
  else
  some false
  else
  some false
  else
  some false


def spec_l11Cut_L0 (a_b : Box) : (List Box) × Int × (List (List Span)) → Option (SR ((List Box) × Int × (List (List Span))) ((List Box))) := fun (y1, k1, y2) =>
  bif (decide (k1 < 4)) then
  (idx y2 k1).bind fun x4 =>
  (idx a_b.Sides k1).bind fun x5 =>
  (F.spec_FieldTop k1).bind fun x6 =>
  (F.spec_l2Other x5 x6).bind fun x7 =>
  (F.spec_l2Meet x4 x7).bind fun x8 =>
  (F.spec_l2Meet x4 x5).bind fun x9 =>
  bif (decide (0 < (x8.length : Int))) then
  (F.spec_l1OwnRowsSpan y2).bind fun x10 =>
  (idx x10 k1).bind fun _x11 =>
  (appF y1 [({ Sides := (List.set x10 (k1 : Int).toNat x8) } : Box)]).bind fun z2 =>
  some (.nxt (z2, (W (k1 + 1)), (List.set x10 (k1 : Int).toNat x9)))
  else
  (F.spec_l1OwnRowsSpan y2).bind fun x12 =>
  (idx x12 k1).bind fun _x13 =>
  some (.nxt (y1, (W (k1 + 1)), (List.set x12 (k1 : Int).toNat x9)))
  else
  some (.brk (y1, k1, y2))
def spec_l11Cut (a_a : Box) (a_b : Box) : Option ((List Box)) :=
  (F.spec_l10Meet a_a a_b).bind fun x1 =>
  (F.spec_l10Empty x1).bind fun x2 =>
  bif x2 then
  (F.spec_l10Empty a_a).bind fun x3 =>
  bif x3 then
  some ([] : List Box)
  else
  (appF ([] : List Box) [a_a]).bind fun z1 =>
  some z1
  else
  (loopF (spec_l11Cut_L0 a_b) (((4) : Int) - 0).toNat.succ (([] : List Box), 0, a_a.Sides)).bind fun lr => lr.on (fun (y3, _k2, _y4) =>
  some y3) (fun r => some r)


def spec_BoxCut_L0 (x5 : List Box) : Int → Option (SR (Int) ((List Box))) := fun k1 =>
  bif (decide (k1 < (x5.length : Int))) then
  (idx x5 k1).bind fun x6 =>
  (F.spec_BoxValid x6).bind fun x7 =>
  bif x7 then
  some (.nxt (W (k1 + 1)))
  else
  some (.ret ([] : List Box))
  else
  some (.brk k1)
def spec_BoxCut (a_a : Box) (a_b : Box) : Option ((List Box)) :=
  (F.spec_l1OwnBox ({ Sides := a_a.Sides } : Box)).bind fun x1 =>
  (F.spec_l1OwnBox ({ Sides := a_b.Sides } : Box)).bind fun x2 =>
  (F.spec_BoxValid ({ Sides := x1.Sides } : Box)).bind fun x3 =>
  bif x3 then
  (F.spec_BoxValid ({ Sides := x2.Sides } : Box)).bind fun x4 =>
  bif x4 then
  (F.spec_l11Cut ({ Sides := x1.Sides } : Box) ({ Sides := x2.Sides } : Box)).bind fun x5 =>
  (loopF (spec_BoxCut_L0 x5) ((((x5.length : Int)) : Int) - 0).toNat.succ 0).bind fun lr => lr.on (fun _k2 =>
  some x5) (fun r => some r)
  else
  some ([] : List Box)
  else
  some ([] : List Box)


def impl_firstCommon_L0 (a_a : List Span) (a_b : List Span) : Int × Int → Option (SR (Int × Int) (Int × Bool)) := fun (k1, k2) =>
  bif (decide (k1 < (a_a.length : Int))) then
  bif (decide (k2 < (a_b.length : Int))) then
  (idx a_a k1).bind fun x1 =>
  (idx a_b k2).bind fun x2 =>
  bif (decide ((imax x1.Lo x2.Lo) ≤ (imin x1.Hi x2.Hi))) then
  some (.ret ((imax x1.Lo x2.Lo), true))
  else
  bif (decide (x1.Hi < x2.Hi)) then
  some (.nxt ((W (k1 + 1)), k2))
  else
  some (.nxt (k1, (W (k2 + 1))))
  else
  some (.brk (k1, k2))
  else
  some (.brk (k1, k2))
def impl_firstCommon (a_a : List Span) (a_b : List Span) : Option (Int × Bool) :=
  (loopF (impl_firstCommon_L0 a_a a_b) ((a_a.length : Int) + (a_b.length : Int)).toNat.succ (0, 0)).bind fun lr => lr.on (fun (_k3, _k4) =>
  some (0, false)) (fun r => some r)


def impl_packetOf (a_fields : List Int) : Option Packet :=
  (idx a_fields 0).bind fun x1 =>
  (idx a_fields 1).bind fun x2 =>
  (idx a_fields 2).bind fun x3 =>
  (idx a_fields 3).bind fun x4 =>
  some ({ From := x1, To := x2, Port := x3, Proto := x4 } : Packet)


def impl_sides_firstCommon_L0 (a_s : List (List Span)) (a_other : List (List Span)) : Int × Int × Int × Int × Int × (List Int) → Option (SR (Int × Int × Int × Int × Int × (List Int)) (Packet × Bool)) := fun (k1, k2, k3, k4, k5, y1) =>
  bif (decide (k1 < 4)) then
  (idx a_s k1).bind fun x1 =>
  (idx a_other k1).bind fun x2 =>
  (F.impl_firstCommon x1 x2).bind fun x3 =>
  bif x3.2 then
  (idx y1 k1).bind fun _x4 =>
  some (.nxt ((W (k1 + 1)), k2, k3, k4, k5, (List.set y1 (k1 : Int).toNat x3.1)))
  else
  some (.ret (({ From := 0, To := 0, Port := 0, Proto := 0 } : Packet), false))
  else
  some (.brk (k1, k2, k3, k4, k5, y1))
def impl_sides_firstCommon (a_s : List (List Span)) (a_other : List (List Span)) : Option (Packet × Bool) :=
  (loopF (impl_sides_firstCommon_L0 a_s a_other) (((4) : Int) - 0).toNat.succ (0, 0, 0, 0, 0, [0, 0, 0, 0])).bind fun lr => lr.on (fun (_k6, _k7, _k8, _k9, _k10, y2) =>
  (F.impl_packetOf y2).bind fun x5 =>
  some (({ From := x5.From, To := x5.To, Port := x5.Port, Proto := x5.Proto } : Packet), true)) (fun r => some r)


def impl_sides_touches (a_s : List (List Span)) (a_other : List (List Span)) : Option Bool :=
  (F.impl_sides_firstCommon a_s a_other).bind fun x1 =>
  some x1.2


def impl_inFirstOnly (a_inA : Bool) (a_inB : Bool) : Option Bool :=
  bif a_inA then
  some (!a_inB)
  else
  some false


def impl_sweepSpans__impl_inFirstOnly_L2 (a_b : List Span) (k3 : Int) : Int × (List Span) → Option (SR (Int × (List Span)) ((List Span))) := fun (k6, y4) =>
  bif (decide (k6 < (a_b.length : Int))) then
  (idx a_b k6).bind fun x2 =>
  bif (decide (x2.Hi < k3)) then
  some (.nxt ((W (k6 + 1)), y4))
  else
  some (.brk (k6, y4))
  else
  some (.brk (k6, y4))
def impl_sweepSpans__impl_inFirstOnly_L1 (a_a : List Span) (k3 : Int) : Int × (List Span) → Option (SR (Int × (List Span)) ((List Span))) := fun (k4, y2) =>
  bif (decide (k4 < (a_a.length : Int))) then
  (idx a_a k4).bind fun x1 =>
  bif (decide (x1.Hi < k3)) then
  some (.nxt ((W (k4 + 1)), y2))
  else
  some (.brk (k4, y2))
  else
  some (.brk (k4, y2))
def impl_sweepSpans__impl_inFirstOnly_L0 (a_a : List Span) (a_b : List Span) (a_top : Int) : (List Span) × Int × Int × Int → Option (SR ((List Span) × Int × Int × Int) ((List Span))) := fun (y1, k1, k2, k3) =>
  bif (decide (k3 ≤ a_top)) then
  (loopF (impl_sweepSpans__impl_inFirstOnly_L1 a_a k3) ((((a_a.length : Int)) : Int) - k1).toNat.succ (k1, y1)).bind fun lr => lr.on (fun (k5, y3) =>
  (loopF (impl_sweepSpans__impl_inFirstOnly_L2 a_b k3) ((((a_b.length : Int)) : Int) - k2).toNat.succ (k2, y3)).bind fun lr => lr.on (fun (k7, y5) =>
  (dropF a_a k5).bind fun y6 =>
  (F.impl_stretch y6 k3 a_top).bind fun x3 =>
  (dropF a_b k7).bind fun y7 =>
  (F.impl_stretch y7 k3 a_top).bind fun x4 =>
  (F.impl_inFirstOnly x3.1 x4.1).bind fun x5 =>
  bif x5 then
  bif (decide (0 < (y5.length : Int))) then
  (idx y5 (W ((y5.length : Int) - 1))).bind fun x6 =>
  bif ((W (x6.Hi + 1)) == k3) then
  some (.nxt ((List.set y5 ((W ((y5.length : Int) - 1)) : Int).toNat { x6 with Hi := (imin x3.2 x4.2) }), k5, k7, (W ((imin x3.2 x4.2) + 1))))
  else
  (appF y5 [({ Lo := k3, Hi := (imin x3.2 x4.2) } : Span)]).bind fun z1 =>
  some (.nxt (z1, k5, k7, (W ((imin x3.2 x4.2) + 1))))
  else
  (appF y5 [({ Lo := k3, Hi := (imin x3.2 x4.2) } : Span)]).bind fun z2 =>
  some (.nxt (z2, k5, k7, (W ((imin x3.2 x4.2) + 1))))
  else
  some (.nxt (y5, k5, k7, (W ((imin x3.2 x4.2) + 1))))) (fun r => some (.ret r))) (fun r => some (.ret r))
  else
  some (.brk (y1, k1, k2, k3))
def impl_sweepSpans__impl_inFirstOnly (a_a : List Span) (a_b : List Span) (a_top : Int) : Option ((List Span)) :=
  (loopF (impl_sweepSpans__impl_inFirstOnly_L0 a_a a_b a_top) (((a_top) : Int) - 0 + 1).toNat.succ (([] : List Span), 0, 0, 0)).bind fun lr => lr.on (fun (y8, _k8, _k9, _k10) =>
  some y8) (fun r => some r)


def impl_lessSpans (a_a : List Span) (a_b : List Span) (a_top : Int) : Option ((List Span) × Bool) :=
  (F.impl_sweepSpans__impl_inFirstOnly a_a a_b a_top).bind fun x1 =>
  (F.impl_limitSpans x1).bind fun x2 =>
  some (x2.1, x2.2)


def impl_sides_pieces_1_L0 (a_s : List (List Span)) (a_other : List (List Span)) : Bool × Int × (List (List Span)) × (List (List (List Span))) → Option (SR (Bool × Int × (List (List Span)) × (List (List (List Span)))) (Bool × List (List (List Span)))) := fun (y1, k1, y2, y3) =>
  bif (decide (k1 < 4)) then
  (idx a_s k1).bind fun x3 =>
  (idx a_other k1).bind fun x4 =>
  (F.impl_FieldTop k1).bind fun x5 =>
  (F.impl_lessSpans x3 x4 x5).bind fun x6 =>
  bif x6.2 then
  bif (decide (0 < (x6.1.length : Int))) then
  bif y1 then
  (idx y2 k1).bind fun _x7 =>
  (appF y3 [(List.set y2 (k1 : Int).toNat x6.1)]).bind fun z1 =>
  (F.impl_meetSpans x3 x4 x5).bind fun x8 =>
  some (.nxt (x8.2, (W (k1 + 1)), (List.set y2 (k1 : Int).toNat x8.1), z1))
  else
  some (.ret (true, y3))
  else
  (F.impl_meetSpans x3 x4 x5).bind fun x9 =>
  (idx y2 k1).bind fun _x10 =>
  bif y1 then
  some (.nxt (x9.2, (W (k1 + 1)), (List.set y2 (k1 : Int).toNat x9.1), y3))
  else
  some (.nxt (false, (W (k1 + 1)), (List.set y2 (k1 : Int).toNat x9.1), y3))
  else
  some (.ret (true, y3))
  else
  some (.brk (y1, k1, y2, y3))
def impl_sides_pieces_1 (a_s : List (List Span)) (a_other : List (List Span)) : Option (Bool × List (List (List Span))) :=
  (F.impl_sides_empty a_s).bind fun x1 =>
  bif x1 then
  some (false, ([] : List (List (List Span))))
  else
  (F.impl_sides_touches a_s a_other).bind fun x2 =>
  bif x2 then
  (loopF (impl_sides_pieces_1_L0 a_s a_other) (((4) : Int) - 0).toNat.succ (true, 0, a_s, ([] : List (List (List Span))))).bind fun lr => lr.on (fun (_y4, _k2, _y5, y6) =>
  some (false, y6)) (fun r => some r)
  else
  (appF ([] : List (List (List Span))) [a_s]).bind fun z2 =>
  some (false, z2)


def impl_sides_pieces (a_s : List (List Span)) (a_other : List (List Span)) : Option ((List (List Span)) × (List (List Span))) :=
  some (a_s, a_other)


def impl_sides_cut (a_s : List (List Span)) (a_other : List (List Span)) : Option ((List (List (List Span))) × Bool) :=
  (F.impl_sides_pieces a_s a_other).bind fun x1 =>
  (F.impl_sides_pieces_1 x1.1 x1.2).bind fun x2 =>
  bif x2.1 then
  some (([] : List (List (List Span))), false)
  else
  some (x2.2, true)


def impl_BoxCut (a_a : Box) (a_b : Box) : Option ((List Box)) :=
  (F.impl_BoxValid a_a).bind fun x1 =>
  bif x1 then
  (F.impl_BoxValid a_b).bind fun x2 =>
  bif x2 then
  (F.impl_sidesOf a_a).bind fun x3 =>
  (F.impl_sidesOf a_b).bind fun x4 =>
  (F.impl_sides_cut x3 x4).bind fun x5 =>
  bif x5.2 then
  (F.impl_boxesOf x5.1).bind fun x6 =>
  some x6
  else
  some ([] : List Box)
  else
  some ([] : List Box)
  else
  some ([] : List Box)


def laws_FnExactBoxCut (a_aA : Box) (a_aB : Box) : Option Bool :=
  (F.laws_szBox a_aA 1048576).bind fun x1 =>
  bif (decide (x1 < 0)) then
  some true
  else
  (F.laws_szBox a_aB x1).bind fun x2 =>
  bif (decide (x2 < 0)) then
  some true
  else
  (F.laws_toBox a_aA).bind fun x3 =>
  (F.laws_toBox a_aB).bind fun x4 =>
  (F.spec_BoxCut x3 x4).bind fun x5 =>
  (F.impl_BoxCut ({ Sides := x3.Sides } : Box) ({ Sides := x4.Sides } : Box)).bind fun x6 =>
  (F.laws_eqBoxS x6 x5).bind fun x7 =>
  bif x7 then
  (F.laws_eqBox ({ Sides := x3.Sides } : Box) x3).bind fun x8 =>
  bif x8 then
  (F.laws_eqBox ({ Sides := x4.Sides } : Box) x4).bind fun x9 =>
  bif x9 then
  (F.laws_markBox x3 1).bind fun x10 =>
  (F.laws_markBox x4 x10).bind fun x11 =>
  bif (decide (x11 < 0)) then
  some false
  else
  (F.laws_markBoxS_r x6 1).bind fun x12 =>
  (F.laws_heldBoxS x12.2 1).bind fun x13 =>
  bif (decide (x13 < 0)) then
  some false
  else
  bif (x13 != x12.1) then
  some false
  else
  (F.impl_BoxCut x3 x4).bind fun x14 =>
  (F.laws_eqBoxS x14 x5).bind fun x15 =>
  bif x15 then
  some true
  else
  some false
  else
  some false
  else
  some false
  else
  some false


def laws_szBoxS_L0 (a_a : List Box) : Int × Int → Option (SR (Int × Int) Int) := fun (k1, k2) =>
  bif (decide (k2 < (a_a.length : Int))) then
  (idx a_a k2).bind fun x1 =>
  (F.laws_szBox x1 k1).bind fun x2 =>
  bif (decide (x2 < 0)) then
  some (.ret (-1))
  else
  some (.nxt (x2, (W (k2 + 1))))
  else
  some (.brk (k1, k2))
def laws_szBoxS (a_a : List Box) (a_left : Int) : Option Int :=
  bif (decide ((W (a_left - (a_a.length : Int))) < 0)) then
  some (-1)
  else
  (loopF (laws_szBoxS_L0 a_a) ((((a_a.length : Int)) : Int) - 0).toNat.succ ((W (a_left - (a_a.length : Int))), 0)).bind fun lr => lr.on (fun (k3, _k4) =>
  some k3) (fun r => some r)


def spec_l1OwnBoxList_L0 (a_list : List Box) : (List Box) × Int → Option (SR ((List Box) × Int) ((List Box))) := fun (y1, k1) =>
  bif (decide (k1 < (a_list.length : Int))) then
  (idx a_list k1).bind fun x1 =>
  (F.spec_l1OwnBox x1).bind fun x2 =>
  (appF y1 [x2]).bind fun z1 =>
  some (.nxt (z1, (W (k1 + 1))))
  else
  some (.brk (y1, k1))
def spec_l1OwnBoxList (a_list : List Box) : Option ((List Box)) :=
  (loopF (spec_l1OwnBoxList_L0 a_list) ((((a_list.length : Int)) : Int) - 0).toNat.succ (([] : List Box), 0)).bind fun lr => lr.on (fun (y2, _k2) =>
  some y2) (fun r => some r)


def spec_RegionValid_L0 (a_list : List Box) : Int → Option (SR (Int) Bool) := fun k1 =>
  bif (decide (k1 < (a_list.length : Int))) then
  (idx a_list k1).bind fun x1 =>
  (F.spec_BoxValid x1).bind fun x2 =>
  bif x2 then
  some (.nxt (W (k1 + 1)))
  else
  some (.ret false)
  else
  some (.brk k1)
def spec_RegionValid (a_list : List Box) : Option Bool :=
  (loopF (spec_RegionValid_L0 a_list) ((((a_list.length : Int)) : Int) - 0).toNat.succ 0).bind fun lr => lr.on (fun _k2 =>
  some (decide ((a_list.length : Int) ≤ 400))) (fun r => some r)


def spec_l11Less_L1 (a_list : List Box) (y1 : List Box) (k1 : Int) : (List Box) × Int → Option (SR ((List Box) × Int) ((List Box) × Bool)) := fun (y2, k2) =>
  bif (decide (k2 < (y1.length : Int))) then
  (idx y1 k2).bind fun x2 =>
  (idx a_list k1).bind fun x3 =>
  (F.spec_l11Cut x2 x3).bind fun x4 =>
  (appF y2 x4).bind fun z1 =>
  some (.nxt (z1, (W (k2 + 1))))
  else
  some (.brk (y2, k2))
def spec_l11Less_L0 (a_list : List Box) : (List Box) × Int → Option (SR ((List Box) × Int) ((List Box) × Bool)) := fun (y1, k1) =>
  bif (decide (k1 < (a_list.length : Int))) then
  (loopF (spec_l11Less_L1 a_list y1 k1) ((((y1.length : Int)) : Int) - 0).toNat.succ (([] : List Box), 0)).bind fun lr => lr.on (fun (y3, _k3) =>
  (F.spec_RegionValid y3).bind fun x5 =>
  bif x5 then
  some (.nxt (y3, (W (k1 + 1))))
  else
  some (.ret (([] : List Box), false))) (fun r => some (.ret r))
  else
  some (.brk (y1, k1))
def spec_l11Less_L3 (a_list : List Box) (y5 : List Box) (k5 : Int) : (List Box) × Int → Option (SR ((List Box) × Int) ((List Box) × Bool)) := fun (y6, k6) =>
  bif (decide (k6 < (y5.length : Int))) then
  (idx y5 k6).bind fun x6 =>
  (idx a_list k5).bind fun x7 =>
  (F.spec_l11Cut x6 x7).bind fun x8 =>
  (appF y6 x8).bind fun z3 =>
  some (.nxt (z3, (W (k6 + 1))))
  else
  some (.brk (y6, k6))
def spec_l11Less_L2 (a_list : List Box) : (List Box) × Int → Option (SR ((List Box) × Int) ((List Box) × Bool)) := fun (y5, k5) =>
  bif (decide (k5 < (a_list.length : Int))) then
  (loopF (spec_l11Less_L3 a_list y5 k5) ((((y5.length : Int)) : Int) - 0).toNat.succ (([] : List Box), 0)).bind fun lr => lr.on (fun (y7, _k7) =>
  (F.spec_RegionValid y7).bind fun x9 =>
  bif x9 then
  some (.nxt (y7, (W (k5 + 1))))
  else
  some (.ret (([] : List Box), false))) (fun r => some (.ret r))
  else
  some (.brk (y5, k5))
def spec_l11Less (a_b : Box) (a_list : List Box) : Option ((List Box) × Bool) :=
  (F.spec_l10Empty a_b).bind fun x1 =>
  bif x1 then
  (loopF (spec_l11Less_L0 a_list) ((((a_list.length : Int)) : Int) - 0).toNat.succ (([] : List Box), 0)).bind fun lr => lr.on (fun (y4, _k4) =>
  some (y4, true)) (fun r => some r)
  else
  (appF ([] : List Box) [a_b]).bind fun z2 =>
  (loopF (spec_l11Less_L2 a_list) ((((a_list.length : Int)) : Int) - 0).toNat.succ (z2, 0)).bind fun lr => lr.on (fun (y8, _k8) =>
  some (y8, true)) (fun r => some r)


def spec_RegionLess (a_b : Box) (a_list : List Box) : Option ((List Box) × Bool) :=
  (F.spec_l1OwnBox ({ Sides := a_b.Sides } : Box)).bind fun x1 =>
  (F.spec_l1OwnBoxList a_list).bind fun x2 =>
  (F.spec_BoxValid ({ Sides := x1.Sides } : Box)).bind fun x3 =>
  bif x3 then
  (F.spec_RegionValid x2).bind fun x4 =>
  bif x4 then
  (F.spec_l11Less ({ Sides := x1.Sides } : Box) x2).bind fun x5 =>
  some (x5.1, x5.2)
  else
  some (([] : List Box), false)
  else
  some (([] : List Box), false)


def laws_toBoxS_L0 (a_a : List Box) : Int × (List Box) → Option (SR (Int × (List Box)) ((List Box))) := fun (k1, y1) =>
  bif (decide (k1 < (a_a.length : Int))) then
  (idx a_a k1).bind fun x1 =>
  (F.laws_toBox x1).bind fun x2 =>
  (idx y1 k1).bind fun _x3 =>
  some (.nxt ((W (k1 + 1)), (List.set y1 (k1 : Int).toNat x2)))
  else
  some (.brk (k1, y1))
def laws_toBoxS (a_a : List Box) : Option ((List Box)) :=
  (makeF ({ Sides := ([] : List (List Span)) } : Box) (a_a.length : Int)).bind fun mk1 =>
  (loopF (laws_toBoxS_L0 a_a) ((((a_a.length : Int)) : Int) - 0).toNat.succ (0, mk1)).bind fun lr => lr.on (fun (_k2, y2) =>
  some y2) (fun r => some r)


def impl_RegionValid_L0 (a_list : List Box) : Int → Option (SR (Int) Bool) := fun k1 =>
  bif (decide (k1 < (a_list.length : Int))) then
  (idx a_list k1).bind fun x1 =>
  (F.impl_BoxValid x1).bind fun x2 =>
  bif x2 then
  some (.nxt (W (k1 + 1)))
  else
  some (.ret false)
  else
  some (.brk k1)
def impl_RegionValid (a_list : List Box) : Option Bool :=
  bif (decide (400 < (a_list.length : Int))) then
  some false
  else
  (loopF (impl_RegionValid_L0 a_list) ((((a_list.length : Int)) : Int) - 0).toNat.succ 0).bind fun lr => lr.on (fun _k2 =>
  some true) (fun r => some r)


def impl_sides_lessRegion_L1 (y1 : List (List (List Span))) (x2 : List (List Span)) : (List (List (List Span))) × Int → Option (SR ((List (List (List Span))) × Int) ((List (List (List Span))) × Bool)) := fun (y2, k2) =>
  bif (decide (k2 < (y1.length : Int))) then
  (idx y1 k2).bind fun x3 =>
  (F.impl_sides_cut x3 x2).bind fun x4 =>
  bif x4.2 then
  bif (decide (400 < (W ((y2.length : Int) + (x4.1.length : Int))))) then
  some (.ret (([] : List (List (List Span))), false))
  else
  (appF y2 x4.1).bind fun z1 =>
  some (.nxt (z1, (W (k2 + 1))))
  else
  some (.ret (([] : List (List (List Span))), false))
  else
  some (.brk (y2, k2))
def impl_sides_lessRegion_L0 (a_region : List (List (List Span))) : (List (List (List Span))) × Int → Option (SR ((List (List (List Span))) × Int) ((List (List (List Span))) × Bool)) := fun (y1, k1) =>
  bif (decide (k1 < (a_region.length : Int))) then
  (idx a_region k1).bind fun x2 =>
  (loopF (impl_sides_lessRegion_L1 y1 x2) ((((y1.length : Int)) : Int) - 0).toNat.succ (([] : List (List (List Span))), 0)).bind fun lr => lr.on (fun (y3, _k3) =>
  bif ((y3.length : Int) == 0) then
  some (.brk (y3, k1))
  else
  some (.nxt (y3, (W (k1 + 1))))) (fun r => some (.ret r))
  else
  some (.brk (y1, k1))
def impl_sides_lessRegion (a_s : List (List Span)) (a_region : List (List (List Span))) : Option ((List (List (List Span))) × Bool) :=
  (F.impl_sides_empty a_s).bind fun x1 =>
  bif x1 then
  some (([] : List (List (List Span))), true)
  else
  (loopF (impl_sides_lessRegion_L0 a_region) ((((a_region.length : Int)) : Int) - 0).toNat.succ ([a_s], 0)).bind fun lr => lr.on (fun (y4, _k4) =>
  some (y4, true)) (fun r => some r)


def impl_RegionLess_L0 (a_list : List Box) : (List (List (List Span))) × Int → Option (SR ((List (List (List Span))) × Int) ((List Box) × Bool)) := fun (y1, k1) =>
  bif (decide (k1 < (a_list.length : Int))) then
  (idx a_list k1).bind fun x3 =>
  (F.impl_sidesOf x3).bind fun x4 =>
  (appF y1 [x4]).bind fun z1 =>
  some (.nxt (z1, (W (k1 + 1))))
  else
  some (.brk (y1, k1))
def impl_RegionLess (a_b : Box) (a_list : List Box) : Option ((List Box) × Bool) :=
  (F.impl_BoxValid a_b).bind fun x1 =>
  bif x1 then
  (F.impl_RegionValid a_list).bind fun x2 =>
  bif x2 then
  (capF (a_list.length : Int)).bind fun _u1 =>
  (loopF (impl_RegionLess_L0 a_list) ((((a_list.length : Int)) : Int) - 0).toNat.succ (([] : List (List (List Span))), 0)).bind fun lr => lr.on (fun (y2, _k2) =>
  (F.impl_sidesOf a_b).bind fun x5 =>
  (F.impl_sides_lessRegion x5 y2).bind fun x6 =>
  bif x6.2 then
  (F.impl_boxesOf x6.1).bind fun x7 =>
  some (x7, true)
  else
  some (([] : List Box), false)) (fun r => some r)
  else
  some (([] : List Box), false)
  else
  some (([] : List Box), false)


def laws_FnExactRegionLess (a_aB : Box) (a_aList : List Box) : Option Bool :=
  (F.laws_szBox a_aB 1048576).bind fun x1 =>
  bif (decide (x1 < 0)) then
  some true
  else
  (F.laws_szBoxS a_aList x1).bind fun x2 =>
  bif (decide (x2 < 0)) then
  some true
  else
  (F.laws_toBox a_aB).bind fun x3 =>
  (F.laws_toBoxS a_aList).bind fun x4 =>
  (F.spec_RegionLess x3 x4).bind fun x5 =>
  (F.impl_RegionLess ({ Sides := x3.Sides } : Box) x4).bind fun x6 =>
  (F.laws_eqBoxS x6.1 x5.1).bind fun x7 =>
  bif x7 then
  bif (x6.2 != x5.2) then
  some false
  else
  (F.laws_eqBox ({ Sides := x3.Sides } : Box) x3).bind fun x8 =>
  bif x8 then
  (F.laws_eqBoxS x4 x4).bind fun x9 =>
  bif x9 then
  (F.laws_markBox x3 1).bind fun x10 =>
  (F.laws_markBoxS x4 x10).bind fun x11 =>
  bif (decide (x11 < 0)) then
  some false
  else
  (F.laws_markBoxS_r x6.1 1).bind fun x12 =>
  (F.laws_heldBoxS x12.2 1).bind fun x13 =>
  bif (decide (x13 < 0)) then
  some false
  else
  bif (x13 != x12.1) then
  some false
  else
  (F.impl_RegionLess x3 x4).bind fun x14 =>
  (F.laws_eqBoxS x14.1 x5.1).bind fun x15 =>
  bif x15 then
  bif (x14.2 != x5.2) then
  some false
  else
  some true
  else
  some false
  else
  some false
  else
  some false
  else
  some false


def spec_l1Add_L0 (a_list : List Span) : (List Span) × Bool × Int × Int × Int → Option (SR ((List Span) × Bool × Int × Int × Int) ((List Span))) := fun (y1, y2, k1, k2, k3) =>
  bif (decide (k1 < (a_list.length : Int))) then
  (idx a_list k1).bind fun x1 =>
  bif (decide ((W (x1.Hi + 1)) < k2)) then
  (appF y1 [x1]).bind fun z1 =>
  some (.nxt (z1, y2, (W (k1 + 1)), k2, k3))
  else
  bif (decide ((W (k3 + 1)) < x1.Lo)) then
  bif y2 then
  (appF y1 [x1]).bind fun z2 =>
  some (.nxt (z2, true, (W (k1 + 1)), k2, k3))
  else
  (appF y1 [({ Lo := k2, Hi := k3 } : Span)]).bind fun z3 =>
  (appF z3 [x1]).bind fun z4 =>
  some (.nxt (z4, true, (W (k1 + 1)), k2, k3))
  else
  some (.nxt (y1, y2, (W (k1 + 1)), (imin k2 x1.Lo), (imax k3 x1.Hi)))
  else
  some (.brk (y1, y2, k1, k2, k3))
def spec_l1Add (a_list : List Span) (a_s : Span) : Option ((List Span)) :=
  (loopF (spec_l1Add_L0 a_list) ((((a_list.length : Int)) : Int) - 0).toNat.succ (([] : List Span), false, 0, a_s.Lo, a_s.Hi)).bind fun lr => lr.on (fun (y3, y4, _k4, k5, k6) =>
  bif y4 then
  some y3
  else
  (appF y3 [({ Lo := k5, Hi := k6 } : Span)]).bind fun z5 =>
  some z5) (fun r => some r)


def spec_SpansOf_L0 (a_list : List Span) (a_top : Int) : (List Span) × Int → Option (SR ((List Span) × Int) ((List Span))) := fun (y1, k1) =>
  bif (decide (k1 < (a_list.length : Int))) then
  (idx a_list k1).bind fun x2 =>
  (F.spec_l1In x2.Lo 0 x2.Hi).bind fun x3 =>
  bif x3 then
  (F.spec_l1In x2.Hi 0 a_top).bind fun x4 =>
  bif x4 then
  (F.spec_l1Add y1 x2).bind fun x5 =>
  some (.nxt (x5, (W (k1 + 1))))
  else
  some (.ret ([] : List Span))
  else
  some (.ret ([] : List Span))
  else
  some (.brk (y1, k1))
def spec_SpansOf (a_list : List Span) (a_top : Int) : Option ((List Span)) :=
  (F.spec_l1In a_top 0 65535).bind fun x1 =>
  bif x1 then
  bif (decide (40 < (a_list.length : Int))) then
  some ([] : List Span)
  else
  (loopF (spec_SpansOf_L0 a_list a_top) ((((a_list.length : Int)) : Int) - 0).toNat.succ (([] : List Span), 0)).bind fun lr => lr.on (fun (y2, _k2) =>
  some y2) (fun r => some r)
  else
  some ([] : List Span)


def spec_l20Raw_L0 (a_xs : List Int) (a_top : Int) (a_n : Int) : (List Span) × Int × Int → Option (SR ((List Span) × Int × Int) (((List Span)) × Int)) := fun (y1, k1, k2) =>
  bif (decide (0 < k1)) then
  (F.spec_l20Span a_xs k2 a_top a_n).bind fun x2 =>
  (appF y1 [x2.1]).bind fun z1 =>
  some (.nxt (z1, (W (k1 - 1)), x2.2))
  else
  some (.brk (y1, k1, k2))
def spec_l20Raw (a_xs : List Int) (a_pos : Int) (a_top : Int) (a_n : Int) : Option (((List Span)) × Int) :=
  (F.spec_l20Rd_pick a_xs a_pos 6).bind fun x1 =>
  (loopF (spec_l20Raw_L0 a_xs a_top a_n) ((x1.1) : Int).toNat.succ (([] : List Span), x1.1, x1.2)).bind fun lr => lr.on (fun (y2, _k3, k4) =>
  some (y2, k4)) (fun r => some r)


def spec_l20Set (a_xs : List Int) (a_pos : Int) (a_top : Int) (a_n : Int) : Option (((List Span)) × Int) :=
  (F.spec_l20Raw a_xs a_pos a_top 0).bind fun x1 =>
  (F.spec_SpansOf x1.1 a_top).bind fun x2 =>
  (F.spec_l20Rd_odd a_xs x1.2 a_n).bind fun x3 =>
  bif x3.1 then
  (F.spec_l20Rd_pick a_xs x3.2 3).bind fun x4 =>
  bif (x4.1 == 0) then
  (F.spec_l20Span a_xs x4.2 a_top 1).bind fun x5 =>
  (appF x2 [x5.1]).bind fun z1 =>
  some (z1, x5.2)
  else
  bif (x4.1 == 1) then
  (appF x2 [({ Lo := 1, Hi := 2 } : Span), ({ Lo := 3, Hi := 3 } : Span)]).bind fun z2 =>
  some (z2, x4.2)
  else
  (makeF ({ Lo := (0 : Int), Hi := (0 : Int) } : Span) 41).bind fun mk1 =>
  some (mk1, x4.2)
  else
  some (x2, x3.2)


def spec_l20Box (a_xs : List Int) (a_pos : Int) (a_n : Int) : Option (Box × Int) :=
  (F.spec_l20Tests a_xs a_pos 0).bind fun x1 =>
  (F.spec_TestsBox x1.1).bind fun x2 =>
  (F.spec_l20Rd_pick a_xs x1.2 3).bind fun x3 =>
  bif (x3.1 == 0) then
  (F.spec_l20Rd_pick a_xs x3.2 4).bind fun x4 =>
  (F.spec_FieldTop x4.1).bind fun x5 =>
  (F.spec_l20Set a_xs x4.2 x5 0).bind fun x6 =>
  (idx x2.Sides x4.1).bind fun _x7 =>
  (F.spec_l20Rd_odd a_xs x6.2 a_n).bind fun x8 =>
  bif x8.1 then
  (F.spec_l20Rd_pick a_xs x8.2 3).bind fun x9 =>
  bif (x9.1 == 0) then
  (dropF (List.set x2.Sides (x4.1 : Int).toNat x6.1) 1).bind fun y1 =>
  some (({ Sides := y1 } : Box), x9.2)
  else
  bif (x9.1 == 1) then
  (idx (List.set x2.Sides (x4.1 : Int).toNat x6.1) 3).bind fun _x10 =>
  some (({ Sides := (List.set (List.set x2.Sides (x4.1 : Int).toNat x6.1) (3 : Int).toNat [({ Lo := 0, Hi := 8 } : Span)]) } : Box), x9.2)
  else
  (appF (List.set x2.Sides (x4.1 : Int).toNat x6.1) [([] : List Span)]).bind fun z1 =>
  some (({ Sides := z1 } : Box), x9.2)
  else
  some (({ Sides := (List.set x2.Sides (x4.1 : Int).toNat x6.1) } : Box), x8.2)
  else
  (F.spec_l20Rd_odd a_xs x3.2 a_n).bind fun x11 =>
  bif x11.1 then
  (F.spec_l20Rd_pick a_xs x11.2 3).bind fun x12 =>
  bif (x12.1 == 0) then
  (dropF x2.Sides 1).bind fun y2 =>
  some (({ Sides := y2 } : Box), x12.2)
  else
  bif (x12.1 == 1) then
  (idx x2.Sides 3).bind fun _x13 =>
  some (({ Sides := (List.set x2.Sides (3 : Int).toNat [({ Lo := 0, Hi := 8 } : Span)]) } : Box), x12.2)
  else
  (appF x2.Sides [([] : List Span)]).bind fun z2 =>
  some (({ Sides := z2 } : Box), x12.2)
  else
  some (({ Sides := x2.Sides } : Box), x11.2)


def spec_l20Two (a_xs : List Int) (a_pos : Int) : Option (Box × Box × Int) :=
  (F.spec_l20Box a_xs a_pos 16).bind fun x1 =>
  (F.spec_l20Box a_xs x1.2 16).bind fun x2 =>
  (F.spec_l20Rd_pick a_xs x2.2 5).bind fun x3 =>
  bif (x3.1 == 0) then
  (F.spec_BoxMeet x1.1 ({ Sides := x2.1.Sides } : Box)).bind fun x4 =>
  bif ((x4.Sides.length : Int) == 0) then
  (F.spec_BoxAll).bind fun x5 =>
  some (({ Sides := x1.1.Sides } : Box), ({ Sides := x5.Sides } : Box), x3.2)
  else
  some (({ Sides := x1.1.Sides } : Box), ({ Sides := x4.Sides } : Box), x3.2)
  else
  bif (x3.1 == 1) then
  (F.spec_BoxValid x1.1).bind fun x6 =>
  bif x6 then
  (F.spec_l20Rd_pick a_xs x3.2 4).bind fun x7 =>
  (appF ([] : List (List Span)) x1.1.Sides).bind fun z1 =>
  (F.spec_FieldTop x7.1).bind fun x8 =>
  (F.spec_l20Set a_xs x7.2 x8 0).bind fun x9 =>
  (idx z1 x7.1).bind fun _x10 =>
  some (({ Sides := x1.1.Sides } : Box), ({ Sides := (List.set z1 (x7.1 : Int).toNat x9.1) } : Box), x9.2)
  else
  some (({ Sides := x1.1.Sides } : Box), ({ Sides := x2.1.Sides } : Box), x3.2)
  else
  some (({ Sides := x1.1.Sides } : Box), ({ Sides := x2.1.Sides } : Box), x3.2)


def spec_DrawBoxWithin (a_code : List Int) : Option (Box × Box) :=
  (F.spec_l20Open a_code).bind fun x1 =>
  (F.spec_l20Two x1.1 x1.2).bind fun x2 =>
  some (({ Sides := x2.1.Sides } : Box), ({ Sides := x2.2.1.Sides } : Box))


def impl_sides_within_L0 (a_s : List (List Span)) (a_other : List (List Span)) : Int → Option (SR (Int) Bool) := fun k1 =>
  bif (decide (k1 < 4)) then
  (idx a_s k1).bind fun x2 =>
  (idx a_other k1).bind fun x3 =>
  (F.impl_FieldTop k1).bind fun x4 =>
  (F.impl_sweepSpans__impl_inFirstOnly x2 x3 x4).bind fun x5 =>
  bif (decide (0 < (x5.length : Int))) then
  some (.ret false)
  else
  some (.nxt (W (k1 + 1)))
  else
  some (.brk k1)
def impl_sides_within (a_s : List (List Span)) (a_other : List (List Span)) : Option Bool :=
  (F.impl_sides_empty a_s).bind fun x1 =>
  bif x1 then
  some true
  else
  (loopF (impl_sides_within_L0 a_s a_other) (((4) : Int) - 0).toNat.succ 0).bind fun lr => lr.on (fun _k2 =>
  some true) (fun r => some r)


def impl_BoxWithin (a_a : Box) (a_b : Box) : Option Bool :=
  (F.impl_BoxValid a_a).bind fun x1 =>
  bif x1 then
  (F.impl_BoxValid a_b).bind fun x2 =>
  bif x2 then
  (F.impl_sidesOf a_a).bind fun x3 =>
  (F.impl_sidesOf a_b).bind fun x4 =>
  (F.impl_sides_within x3 x4).bind fun x5 =>
  some x5
  else
  some false
  else
  some false


def spec_BoxWithin (a_a : Box) (a_b : Box) : Option Bool :=
  (F.spec_BoxValid a_a).bind fun x1 =>
  bif x1 then
  (F.spec_BoxValid a_b).bind fun x2 =>
  bif x2 then
  (F.spec_l11Cut a_a a_b).bind fun x3 =>
  some ((x3.length : Int) == 0)
  else
  some false
  else
  some false


def laws_probe_L1 (a_list : List Box) (a_seed : Int) (k1 : Int) : Int × (List Int) → Option (SR (Int × (List Int)) Packet) := fun (k2, y2) =>
  bif (decide (k2 < 4)) then
  (idx a_list k1).bind fun x1 =>
  bif (decide (k2 < (x1.Sides.length : Int))) then
  (idx x1.Sides k2).bind fun x2 =>
  bif ((x2.length : Int) == 0) then
  some (.nxt ((W (k2 + 1)), y2))
  else
  bif ((((W ((W (a_seed + k1)) + k2))).tmod 3) == 0) then
  some (.nxt ((W (k2 + 1)), y2))
  else
  (nzF (x2.length : Int)).bind fun _u1 =>
  (idx x2 (((W (a_seed + k2))).tmod (x2.length : Int))).bind fun x3 =>
  (idx y2 k2).bind fun _x4 =>
  bif ((((W (a_seed + k1))).tmod 2) == 0) then
  (idx (List.set y2 (k2 : Int).toNat x3.Lo) k2).bind fun _x5 =>
  some (.nxt ((W (k2 + 1)), (List.set (List.set y2 (k2 : Int).toNat x3.Lo) (k2 : Int).toNat x3.Hi)))
  else
  some (.nxt ((W (k2 + 1)), (List.set y2 (k2 : Int).toNat x3.Lo)))
  else
  some (.brk (k2, y2))
  else
  some (.brk (k2, y2))
def laws_probe_L0 (a_list : List Box) (a_seed : Int) : Int × (List Int) → Option (SR (Int × (List Int)) Packet) := fun (k1, y1) =>
  bif (decide (k1 < (a_list.length : Int))) then
  (loopF (laws_probe_L1 a_list a_seed k1) (((4) : Int) - 0).toNat.succ (0, y1)).bind fun lr => lr.on (fun (_k3, y3) =>
  some (.nxt ((W (k1 + 1)), y3))) (fun r => some (.ret r))
  else
  some (.brk (k1, y1))
def laws_probe (a_list : List Box) (a_seed : Int) : Option Packet :=
  (loopF (laws_probe_L0 a_list a_seed) ((((a_list.length : Int)) : Int) - 0).toNat.succ (0, [({ From := ((a_seed).tmod 65536), To := (((W ((a_seed).tdiv 3))).tmod 65536), Port := ((a_seed).tmod 256), Proto := ((a_seed).tmod 8) } : Packet).From, ({ From := ((a_seed).tmod 65536), To := (((W ((a_seed).tdiv 3))).tmod 65536), Port := ((a_seed).tmod 256), Proto := ((a_seed).tmod 8) } : Packet).To, ({ From := ((a_seed).tmod 65536), To := (((W ((a_seed).tdiv 3))).tmod 65536), Port := ((a_seed).tmod 256), Proto := ((a_seed).tmod 8) } : Packet).Port, ({ From := ((a_seed).tmod 65536), To := (((W ((a_seed).tdiv 3))).tmod 65536), Port := ((a_seed).tmod 256), Proto := ((a_seed).tmod 8) } : Packet).Proto])).bind fun lr => lr.on (fun (_k4, y4) =>
  (idx y4 0).bind fun x6 =>
  (idx y4 1).bind fun x7 =>
  (idx y4 2).bind fun x8 =>
  (idx y4 3).bind fun x9 =>
  some ({ From := x6, To := x7, Port := x8, Proto := x9 } : Packet)) (fun r => some r)


def impl_sides_has_L0 (a_s : List (List Span)) (x1 : List Int) : Int → Option (SR (Int) Bool) := fun k1 =>
  bif (decide (k1 < 4)) then
  (idx x1 k1).bind fun x2 =>
  (idx a_s k1).bind fun x3 =>
  (F.impl_SpansHave x3 x2).bind fun x4 =>
  bif x4 then
  some (.nxt (W (k1 + 1)))
  else
  some (.ret false)
  else
  some (.brk k1)
def impl_sides_has (a_s : List (List Span)) (a_p : Packet) : Option Bool :=
  (F.impl_Packet_fields a_p).bind fun x1 =>
  (loopF (impl_sides_has_L0 a_s x1) (((4) : Int) - 0).toNat.succ 0).bind fun lr => lr.on (fun _k2 =>
  some true) (fun r => some r)


def impl_BoxHas (a_b : Box) (a_p : Packet) : Option Bool :=
  (F.impl_BoxValid a_b).bind fun x1 =>
  bif x1 then
  (F.impl_PacketValid a_p).bind fun x2 =>
  bif x2 then
  (F.impl_sidesOf a_b).bind fun x3 =>
  (F.impl_sides_has x3 a_p).bind fun x4 =>
  some x4
  else
  some false
  else
  some false


def impl_BoxAll : Option Box :=
  (F.impl_allSides).bind fun x1 =>
  (F.impl_sides_box x1).bind fun x2 =>
  some ({ Sides := x2.Sides } : Box)


def laws_FnBoxWithin (a_code : List Int) (a_more : List Int) : Option Bool :=
  bif (decide (1048576 < (a_code.length : Int))) then
  some true
  else
  bif (decide (1048576 < (a_more.length : Int))) then
  some true
  else
  (F.spec_DrawBoxWithin a_code).bind fun x1 =>
  (F.impl_BoxWithin ({ Sides := x1.1.Sides } : Box) ({ Sides := x1.2.Sides } : Box)).bind fun x2 =>
  (F.spec_BoxWithin ({ Sides := x1.1.Sides } : Box) ({ Sides := x1.2.Sides } : Box)).bind fun x3 =>
  bif (x2 != x3) then
  some false
  else
  (F.spec_BoxValid ({ Sides := x1.1.Sides } : Box)).bind fun x4 =>
  bif x4 then
  (F.spec_BoxValid ({ Sides := x1.2.Sides } : Box)).bind fun x5 =>
  bif x5 then
  (F.laws_probe [({ Sides := x1.2.Sides } : Box), ({ Sides := x1.1.Sides } : Box)] (a_more.length : Int)).bind fun x6 =>
  (F.impl_BoxCut ({ Sides := x1.1.Sides } : Box) ({ Sides := x1.2.Sides } : Box)).bind fun x7 =>
  bif (x2 == ((x7.length : Int) == 0)) then
  bif x2 then
  (F.impl_BoxHas ({ Sides := x1.1.Sides } : Box) x6).bind fun x8 =>
  bif x8 then
  (F.impl_BoxHas ({ Sides := x1.2.Sides } : Box) x6).bind fun x9 =>
  bif x9 then
  (F.impl_BoxWithin ({ Sides := x1.1.Sides } : Box) ({ Sides := x1.1.Sides } : Box)).bind fun x10 =>
  bif x10 then
  (F.impl_BoxAll).bind fun x11 =>
  (F.impl_BoxWithin ({ Sides := x1.1.Sides } : Box) x11).bind fun x12 =>
  some x12
  else
  some false
  else
  some false
  else
  (F.impl_BoxWithin ({ Sides := x1.1.Sides } : Box) ({ Sides := x1.1.Sides } : Box)).bind fun x13 =>
  bif x13 then
  (F.impl_BoxAll).bind fun x14 =>
  (F.impl_BoxWithin ({ Sides := x1.1.Sides } : Box) x14).bind fun x15 =>
  some x15
  else
  some false
  else
  (F.impl_BoxWithin ({ Sides := x1.1.Sides } : Box) ({ Sides := x1.1.Sides } : Box)).bind fun x16 =>
  bif x16 then
  (F.impl_BoxAll).bind fun x17 =>
  (F.impl_BoxWithin ({ Sides := x1.1.Sides } : Box) x17).bind fun x18 =>
  some x18
  else
  some false
  else
  some false
  else
  bif x2 then
  some false
  else
  (F.laws_alive).bind fun x19 =>
  some x19
  else
  bif x2 then
  some false
  else
  (F.laws_alive).bind fun x20 =>
  some x20


def laws_FnExactBoxAll : Option Bool :=
  (F.spec_BoxAll).bind fun x1 =>
  (F.impl_BoxAll).bind fun x2 =>
  (F.laws_eqBox ({ Sides := x2.Sides } : Box) x1).bind fun x3 =>
  bif x3 then
  (F.laws_markBox_r x2 1).bind fun x4 =>
  (F.laws_heldBox ({ Sides := x4.2.Sides } : Box) 1).bind fun x5 =>
  bif (decide (x5 < 0)) then
  some false
  else
  bif (x5 != x4.1) then
  some false
  else
  (F.laws_eqBox x2 x1).bind fun x6 =>
  bif x6 then
  some true
  else
  some false
  else
  some false


def laws_sameSpans_L0 (a_a : List Span) (a_b : List Span) : Int → Option (SR (Int) Bool) := fun k1 =>
  bif (decide (k1 < (a_a.length : Int))) then
  (idx a_a k1).bind fun x1 =>
  (idx a_b k1).bind fun x2 =>
  bif (!(decide (x1 = x2))) then
  some (.ret false)
  else
  some (.nxt (W (k1 + 1)))
  else
  some (.brk k1)
def laws_sameSpans (a_a : List Span) (a_b : List Span) : Option Bool :=
  bif ((a_a.length : Int) != (a_b.length : Int)) then
  some false
  else
  (loopF (laws_sameSpans_L0 a_a a_b) ((((a_a.length : Int)) : Int) - 0).toNat.succ 0).bind fun lr => lr.on (fun _k2 =>
  some true) (fun r => some r)


def laws_sameBox_L0 (a_a : Box) (a_b : Box) : Int → Option (SR (Int) Bool) := fun k1 =>
  bif (decide (k1 < (a_a.Sides.length : Int))) then
  (idx a_a.Sides k1).bind fun x1 =>
  (idx a_b.Sides k1).bind fun x2 =>
  (F.laws_sameSpans x1 x2).bind fun x3 =>
  bif x3 then
  some (.nxt (W (k1 + 1)))
  else
  some (.ret false)
  else
  some (.brk k1)
def laws_sameBox (a_a : Box) (a_b : Box) : Option Bool :=
  bif ((a_a.Sides.length : Int) != (a_b.Sides.length : Int)) then
  some false
  else
  (loopF (laws_sameBox_L0 a_a a_b) ((((a_a.Sides.length : Int)) : Int) - 0).toNat.succ 0).bind fun lr => lr.on (fun _k2 =>
  some true) (fun r => some r)


def laws_sameBoxes_L0 (a_a : List Box) (a_b : List Box) : Int → Option (SR (Int) Bool) := fun k1 =>
  bif (decide (k1 < (a_a.length : Int))) then
  (idx a_a k1).bind fun x1 =>
  (idx a_b k1).bind fun x2 =>
  (F.laws_sameBox x1 x2).bind fun x3 =>
  bif x3 then
  some (.nxt (W (k1 + 1)))
  else
  some (.ret false)
  else
  some (.brk k1)
def laws_sameBoxes (a_a : List Box) (a_b : List Box) : Option Bool :=
  bif ((a_a.length : Int) != (a_b.length : Int)) then
  some false
  else
  (loopF (laws_sameBoxes_L0 a_a a_b) ((((a_a.length : Int)) : Int) - 0).toNat.succ 0).bind fun lr => lr.on (fun _k2 =>
  some true) (fun r => some r)


def impl_BoxEmpty (a_b : Box) : Option Bool :=
  (F.impl_BoxValid a_b).bind fun x1 =>
  bif x1 then
  (F.impl_sidesOf a_b).bind fun x2 =>
  (F.impl_sides_empty x2).bind fun x3 =>
  some x3
  else
  some false


def spec_DrawBoxCut (a_code : List Int) : Option (Box × Box) :=
  (F.spec_l20Open a_code).bind fun x1 =>
  (F.spec_l20Two x1.1 x1.2).bind fun x2 =>
  some (({ Sides := x2.1.Sides } : Box), ({ Sides := x2.2.1.Sides } : Box))


def laws_FnBoxCut_L1 (x2 : List Box) (k2 : Int) (x8 : Box) : Int → Option (SR (Int) Bool) := fun k3 =>
  bif (decide (k3 < k2)) then
  (idx x2 k3).bind fun x14 =>
  (F.impl_BoxMeet x14 x8).bind fun x15 =>
  (F.impl_BoxEmpty x15).bind fun x16 =>
  bif x16 then
  some (.nxt (W (k3 + 1)))
  else
  some (.ret false)
  else
  some (.brk k3)
def laws_FnBoxCut_L2 (x2 : List Box) (k2 : Int) (x8 : Box) : Int → Option (SR (Int) Bool) := fun k5 =>
  bif (decide (k5 < k2)) then
  (idx x2 k5).bind fun x21 =>
  (F.impl_BoxMeet x21 x8).bind fun x22 =>
  (F.impl_BoxEmpty x22).bind fun x23 =>
  bif x23 then
  some (.nxt (W (k5 + 1)))
  else
  some (.ret false)
  else
  some (.brk k5)
def laws_FnBoxCut_L0 (x1 : Box × Box) (x2 : List Box) (x7 : Packet) : Int × Int → Option (SR (Int × Int) Bool) := fun (k1, k2) =>
  bif (decide (k2 < (x2.length : Int))) then
  (idx x2 k2).bind fun x8 =>
  (F.impl_BoxHas x8 x7).bind fun x9 =>
  bif x9 then
  (F.impl_BoxEmpty x8).bind fun x10 =>
  bif x10 then
  some (.ret false)
  else
  (F.impl_BoxWithin x8 ({ Sides := x1.1.Sides } : Box)).bind fun x11 =>
  bif x11 then
  (F.impl_BoxMeet x8 ({ Sides := x1.2.Sides } : Box)).bind fun x12 =>
  (F.impl_BoxEmpty x12).bind fun x13 =>
  bif x13 then
  (loopF (laws_FnBoxCut_L1 x2 k2 x8) (((k2) : Int) - 0).toNat.succ 0).bind fun lr => lr.on (fun _k4 =>
  some (.nxt ((W (k1 + 1)), (W (k2 + 1))))) (fun r => some (.ret r))
  else
  some (.ret false)
  else
  some (.ret false)
  else
  (F.impl_BoxEmpty x8).bind fun x17 =>
  bif x17 then
  some (.ret false)
  else
  (F.impl_BoxWithin x8 ({ Sides := x1.1.Sides } : Box)).bind fun x18 =>
  bif x18 then
  (F.impl_BoxMeet x8 ({ Sides := x1.2.Sides } : Box)).bind fun x19 =>
  (F.impl_BoxEmpty x19).bind fun x20 =>
  bif x20 then
  (loopF (laws_FnBoxCut_L2 x2 k2 x8) (((k2) : Int) - 0).toNat.succ 0).bind fun lr => lr.on (fun _k6 =>
  some (.nxt (k1, (W (k2 + 1))))) (fun r => some (.ret r))
  else
  some (.ret false)
  else
  some (.ret false)
  else
  some (.brk (k1, k2))
def laws_FnBoxCut (a_code : List Int) (a_more : List Int) : Option Bool :=
  bif (decide (1048576 < (a_code.length : Int))) then
  some true
  else
  bif (decide (1048576 < (a_more.length : Int))) then
  some true
  else
  (F.spec_DrawBoxCut a_code).bind fun x1 =>
  (F.impl_BoxCut ({ Sides := x1.1.Sides } : Box) ({ Sides := x1.2.Sides } : Box)).bind fun x2 =>
  (F.spec_BoxCut ({ Sides := x1.1.Sides } : Box) ({ Sides := x1.2.Sides } : Box)).bind fun x3 =>
  (F.laws_sameBoxes x2 x3).bind fun x4 =>
  bif x4 then
  (F.spec_BoxValid ({ Sides := x1.1.Sides } : Box)).bind fun x5 =>
  bif x5 then
  (F.spec_BoxValid ({ Sides := x1.2.Sides } : Box)).bind fun x6 =>
  bif x6 then
  (F.laws_probe [({ Sides := x1.1.Sides } : Box), ({ Sides := x1.2.Sides } : Box)] (a_more.length : Int)).bind fun x7 =>
  (loopF (laws_FnBoxCut_L0 x1 x2 x7) ((((x2.length : Int)) : Int) - 0).toNat.succ (0, 0)).bind fun lr => lr.on (fun (k7, _k8) =>
  bif (decide ((x2.length : Int) ≤ 4)) then
  (F.impl_BoxHas ({ Sides := x1.1.Sides } : Box) x7).bind fun x24 =>
  bif x24 then
  (F.impl_BoxHas ({ Sides := x1.2.Sides } : Box) x7).bind fun x25 =>
  bif ((k7 == 1) == (!x25)) then
  some (decide (k7 ≤ 1))
  else
  some false
  else
  bif ((k7 == 1) == false) then
  some (decide (k7 ≤ 1))
  else
  some false
  else
  some false) (fun r => some r)
  else
  bif ((x2.length : Int) == 0) then
  (F.laws_alive).bind fun x26 =>
  some x26
  else
  some false
  else
  bif ((x2.length : Int) == 0) then
  (F.laws_alive).bind fun x27 =>
  some x27
  else
  some false
  else
  some false


def spec_l20Region_L0 (a_xs : List Int) : (List Box) × Int × Int → Option (SR ((List Box) × Int × Int) (((List Box)) × Int)) := fun (y1, k1, k2) =>
  bif (decide (0 < k1)) then
  (F.spec_l20Box a_xs k2 0).bind fun x2 =>
  (appF y1 [x2.1]).bind fun z1 =>
  some (.nxt (z1, (W (k1 - 1)), x2.2))
  else
  some (.brk (y1, k1, k2))
def spec_l20Region (a_xs : List Int) (a_pos : Int) (a_n : Int) : Option (((List Box)) × Int) :=
  (F.spec_l20Rd_pick a_xs a_pos 6).bind fun x1 =>
  (loopF (spec_l20Region_L0 a_xs) ((x1.1) : Int).toNat.succ (([] : List Box), x1.1, x1.2)).bind fun lr => lr.on (fun (y2, _k3, k4) =>
  (F.spec_l20Rd_odd a_xs k4 a_n).bind fun x3 =>
  bif x3.1 then
  (F.spec_l20Rd_pick a_xs x3.2 2).bind fun x4 =>
  bif (x4.1 == 0) then
  (F.spec_l20Box a_xs x4.2 1).bind fun x5 =>
  (appF y2 [x5.1]).bind fun z2 =>
  some (z2, x5.2)
  else
  (makeF ({ Sides := ([] : List (List Span)) } : Box) 401).bind fun mk1 =>
  some (mk1, x4.2)
  else
  some (y2, x3.2)) (fun r => some r)


def spec_DrawRegionLess (a_code : List Int) : Option (Box × (List Box)) :=
  (F.spec_l20Open a_code).bind fun x1 =>
  (F.spec_l20Box x1.1 x1.2 14).bind fun x2 =>
  (F.spec_l20Region x1.1 x2.2 14).bind fun x3 =>
  some (({ Sides := x2.1.Sides } : Box), x3.1)


def impl_RegionHas_L0 (a_list : List Box) (a_p : Packet) : Int → Option (SR (Int) Bool) := fun k1 =>
  bif (decide (k1 < (a_list.length : Int))) then
  (idx a_list k1).bind fun x3 =>
  (F.impl_sidesOf x3).bind fun x4 =>
  (F.impl_sides_has x4 a_p).bind fun x5 =>
  bif x5 then
  some (.ret true)
  else
  some (.nxt (W (k1 + 1)))
  else
  some (.brk k1)
def impl_RegionHas (a_list : List Box) (a_p : Packet) : Option Bool :=
  (F.impl_RegionValid a_list).bind fun x1 =>
  bif x1 then
  (F.impl_PacketValid a_p).bind fun x2 =>
  bif x2 then
  (loopF (impl_RegionHas_L0 a_list a_p) ((((a_list.length : Int)) : Int) - 0).toNat.succ 0).bind fun lr => lr.on (fun _k2 =>
  some false) (fun r => some r)
  else
  some false
  else
  some false


def laws_FnRegionLess_L0 (x2 : (List Box) × Bool) (x5 : Packet) : Int × Int → Option (SR (Int × Int) Bool) := fun (k1, k2) =>
  bif (decide (k2 < (x2.1.length : Int))) then
  (idx x2.1 k2).bind fun x6 =>
  (F.impl_BoxHas x6 ({ From := x5.From, To := x5.To, Port := x5.Port, Proto := x5.Proto } : Packet)).bind fun x7 =>
  bif x7 then
  (F.impl_BoxEmpty x6).bind fun x8 =>
  bif x8 then
  some (.ret false)
  else
  some (.nxt ((W (k1 + 1)), (W (k2 + 1))))
  else
  (F.impl_BoxEmpty x6).bind fun x9 =>
  bif x9 then
  some (.ret false)
  else
  some (.nxt (k1, (W (k2 + 1))))
  else
  some (.brk (k1, k2))
def laws_FnRegionLess (a_code : List Int) (a_more : List Int) : Option Bool :=
  bif (decide (1048576 < (a_code.length : Int))) then
  some true
  else
  bif (decide (1048576 < (a_more.length : Int))) then
  some true
  else
  (F.spec_DrawRegionLess a_code).bind fun x1 =>
  (F.impl_RegionLess x1.1 x1.2).bind fun x2 =>
  (F.spec_RegionLess x1.1 x1.2).bind fun x3 =>
  (F.laws_sameBoxes x2.1 x3.1).bind fun x4 =>
  bif x4 then
  bif (x2.2 != x3.2) then
  some false
  else
  bif x2.2 then
  (appF ([] : List Box) x1.2).bind fun z1 =>
  (appF z1 [x1.1]).bind fun z2 =>
  (F.laws_probe z2 (a_more.length : Int)).bind fun x5 =>
  (loopF (laws_FnRegionLess_L0 x2 x5) ((((x2.1.length : Int)) : Int) - 0).toNat.succ (0, 0)).bind fun lr => lr.on (fun (k3, _k4) =>
  bif (decide (k3 ≤ 1)) then
  (F.impl_BoxHas x1.1 ({ From := x5.From, To := x5.To, Port := x5.Port, Proto := x5.Proto } : Packet)).bind fun x10 =>
  bif x10 then
  (F.impl_RegionHas x1.2 ({ From := x5.From, To := x5.To, Port := x5.Port, Proto := x5.Proto } : Packet)).bind fun x11 =>
  some ((k3 == 1) == (!x11))
  else
  some ((k3 == 1) == false)
  else
  some false) (fun r => some r)
  else
  bif ((x2.1.length : Int) == 0) then
  (F.laws_alive).bind fun x12 =>
  some x12
  else
  some false
  else
  some false


def laws_FnRegionOrder_L0 (x1 : Box × (List Box)) : (List Box) × Int → Option (SR ((List Box) × Int) Bool) := fun (y1, k1) =>
  bif (decide (0 ≤ k1)) then
  (idx x1.2 k1).bind fun x5 =>
  (appF y1 [x5]).bind fun z1 =>
  some (.nxt (z1, (W (k1 - 1))))
  else
  some (.brk (y1, k1))
def laws_FnRegionOrder (a_code : List Int) (a_more : List Int) : Option Bool :=
  bif (decide (1048576 < (a_code.length : Int))) then
  some true
  else
  bif (decide (1048576 < (a_more.length : Int))) then
  some true
  else
  (F.spec_DrawRegionLess a_code).bind fun x1 =>
  (F.impl_RegionLess x1.1 x1.2).bind fun x2 =>
  (F.spec_RegionLess x1.1 x1.2).bind fun x3 =>
  (F.laws_sameBoxes x2.1 x3.1).bind fun x4 =>
  bif x4 then
  bif (x2.2 != x3.2) then
  some false
  else
  (loopF (laws_FnRegionOrder_L0 x1) ((((W ((x1.2.length : Int) - 1))) : Int) + 1).toNat.succ (([] : List Box), (W ((x1.2.length : Int) - 1)))).bind fun lr => lr.on (fun (y2, _k2) =>
  (F.impl_RegionLess x1.1 y2).bind fun x6 =>
  bif x2.2 then
  bif x6.2 then
  (appF ([] : List Box) x1.2).bind fun z2 =>
  (appF z2 [x1.1]).bind fun z3 =>
  (F.laws_probe z3 (a_more.length : Int)).bind fun x7 =>
  (F.impl_RegionHas x2.1 ({ From := x7.From, To := x7.To, Port := x7.Port, Proto := x7.Proto } : Packet)).bind fun x8 =>
  (F.impl_RegionHas x6.1 ({ From := x7.From, To := x7.To, Port := x7.Port, Proto := x7.Proto } : Packet)).bind fun x9 =>
  bif (x8 == x9) then
  some (((x2.1.length : Int) == 0) == ((x6.1.length : Int) == 0))
  else
  some false
  else
  (F.laws_alive).bind fun x10 =>
  some x10
  else
  (F.laws_alive).bind fun x11 =>
  some x11) (fun r => some r)
  else
  some false


def laws_FnRegionMore (a_code : List Int) (a_more : List Int) : Option Bool :=
  bif (decide (1048576 < (a_code.length : Int))) then
  some true
  else
  bif (decide (1048576 < (a_more.length : Int))) then
  some true
  else
  (F.spec_DrawRegionLess a_code).bind fun x1 =>
  (F.impl_RegionLess x1.1 x1.2).bind fun x2 =>
  (F.spec_RegionLess x1.1 x1.2).bind fun x3 =>
  (F.laws_sameBoxes x2.1 x3.1).bind fun x4 =>
  bif x4 then
  bif (x2.2 != x3.2) then
  some false
  else
  bif x2.2 then
  (takeF x1.2 (W (((x1.2.length : Int)).tdiv 2))).bind fun y1 =>
  (F.impl_RegionLess x1.1 y1).bind fun x5 =>
  (appF ([] : List Box) x1.2).bind fun z1 =>
  (appF z1 [x1.1]).bind fun z2 =>
  (F.laws_probe z2 (a_more.length : Int)).bind fun x6 =>
  bif x5.2 then
  (F.impl_RegionHas x2.1 ({ From := x6.From, To := x6.To, Port := x6.Port, Proto := x6.Proto } : Packet)).bind fun x7 =>
  bif x7 then
  (F.impl_RegionHas x5.1 ({ From := x6.From, To := x6.To, Port := x6.Port, Proto := x6.Proto } : Packet)).bind fun x8 =>
  some x8
  else
  some true
  else
  some false
  else
  (F.laws_alive).bind fun x9 =>
  some x9
  else
  some false


def spec_SpansHave_L0 (a_list : List Span) (a_n : Int) : Int → Option (SR (Int) Bool) := fun k1 =>
  bif (decide (k1 < (a_list.length : Int))) then
  (idx a_list k1).bind fun x1 =>
  (F.spec_l1In a_n x1.Lo x1.Hi).bind fun x2 =>
  bif x2 then
  some (.ret true)
  else
  some (.nxt (W (k1 + 1)))
  else
  some (.brk k1)
def spec_SpansHave (a_list : List Span) (a_n : Int) : Option Bool :=
  (loopF (spec_SpansHave_L0 a_list a_n) ((((a_list.length : Int)) : Int) - 0).toNat.succ 0).bind fun lr => lr.on (fun _k2 =>
  some false) (fun r => some r)


def spec_BoxHas_L0 (a_b : Box) (a_p : Packet) : Int → Option (SR (Int) Bool) := fun k1 =>
  bif (decide (k1 < 4)) then
  (idx a_b.Sides k1).bind fun x3 =>
  (F.spec_PacketField a_p k1).bind fun x4 =>
  (F.spec_SpansHave x3 x4).bind fun x5 =>
  bif x5 then
  some (.nxt (W (k1 + 1)))
  else
  some (.ret false)
  else
  some (.brk k1)
def spec_BoxHas (a_b : Box) (a_p : Packet) : Option Bool :=
  (F.spec_BoxValid a_b).bind fun x1 =>
  bif x1 then
  (F.spec_PacketValid a_p).bind fun x2 =>
  bif x2 then
  (loopF (spec_BoxHas_L0 a_b a_p) (((4) : Int) - 0).toNat.succ 0).bind fun lr => lr.on (fun _k2 =>
  some true) (fun r => some r)
  else
  some false
  else
  some false


def spec_JudgeFlat_L0 (a_list : List Flat) (a_p : Packet) : Int → Option (SR (Int) Bool) := fun k1 =>
  bif (decide (k1 < (a_list.length : Int))) then
  (idx a_list k1).bind fun x3 =>
  (F.spec_BoxHas x3.Where a_p).bind fun x4 =>
  bif x4 then
  some (.ret x3.Accept)
  else
  some (.nxt (W (k1 + 1)))
  else
  some (.brk k1)
def spec_JudgeFlat (a_list : List Flat) (a_rest : Bool) (a_p : Packet) : Option Bool :=
  (F.spec_FlatsValid a_list).bind fun x1 =>
  bif x1 then
  (F.spec_PacketValid a_p).bind fun x2 =>
  bif x2 then
  (loopF (spec_JudgeFlat_L0 a_list a_p) ((((a_list.length : Int)) : Int) - 0).toNat.succ 0).bind fun lr => lr.on (fun _k2 =>
  some a_rest) (fun r => some r)
  else
  some false
  else
  some false


def spec_DrawTestsBox (a_code : List Int) : Option ((List Test)) :=
  (F.spec_l20Open a_code).bind fun x1 =>
  (F.spec_l20Tests x1.1 x1.2 9).bind fun x2 =>
  some x2.1


def laws_FnTestsOrder_L0 (x1 : List Test) : (List Test) × Int → Option (SR ((List Test) × Int) Bool) := fun (y1, k1) =>
  bif (decide (0 ≤ k1)) then
  (idx x1 k1).bind fun x5 =>
  (appF y1 [x5]).bind fun z1 =>
  some (.nxt (z1, (W (k1 - 1))))
  else
  some (.brk (y1, k1))
def laws_FnTestsOrder (a_code : List Int) : Option Bool :=
  bif (decide (1048576 < (a_code.length : Int))) then
  some true
  else
  (F.spec_DrawTestsBox a_code).bind fun x1 =>
  (F.impl_TestsBox x1).bind fun x2 =>
  (F.spec_TestsBox x1).bind fun x3 =>
  (F.laws_sameBox x2 x3).bind fun x4 =>
  bif x4 then
  (loopF (laws_FnTestsOrder_L0 x1) ((((W ((x1.length : Int) - 1))) : Int) + 1).toNat.succ (([] : List Test), (W ((x1.length : Int) - 1)))).bind fun lr => lr.on (fun (y2, _k2) =>
  (F.impl_TestsBox y2).bind fun x6 =>
  (F.laws_sameBox x6 x2).bind fun x7 =>
  bif x7 then
  (F.laws_alive).bind fun x8 =>
  some x8
  else
  some false) (fun r => some r)
  else
  some false


def spec_DrawRegionValid (a_code : List Int) : Option ((List Box)) :=
  (F.spec_l20Open a_code).bind fun x1 =>
  (F.spec_l20Region x1.1 x1.2 2).bind fun x2 =>
  some x2.1


def laws_FnRegionValid (a_code : List Int) : Option Bool :=
  bif (decide (1048576 < (a_code.length : Int))) then
  some true
  else
  (F.spec_DrawRegionValid a_code).bind fun x1 =>
  (F.impl_RegionValid x1).bind fun x2 =>
  (F.spec_RegionValid x1).bind fun x3 =>
  bif (x2 != x3) then
  some false
  else
  bif x2 then
  (takeF x1 (W (((x1.length : Int)).tdiv 2))).bind fun y1 =>
  (F.impl_RegionValid y1).bind fun x4 =>
  bif x4 then
  (appF ([] : List Box) x1).bind fun z1 =>
  (appF z1 [({ Sides := ([] : List (List Span)) } : Box)]).bind fun z2 =>
  (F.impl_RegionValid z2).bind fun x5 =>
  bif x5 then
  some false
  else
  (F.laws_alive).bind fun x6 =>
  some x6
  else
  some false
  else
  (appF ([] : List Box) x1).bind fun z3 =>
  (appF z3 [({ Sides := ([] : List (List Span)) } : Box)]).bind fun z4 =>
  (F.impl_RegionValid z4).bind fun x7 =>
  bif x7 then
  some false
  else
  (F.laws_alive).bind fun x8 =>
  some x8


def spec_l20Flats_L1 : (List Flat) → Option (SR ((List Flat)) (((List Flat)) × Int)) := fun y3 =>
  bif (decide ((y3.length : Int) ≤ 60)) then
  (F.spec_BoxAll).bind fun x12 =>
  (appF y3 [({ Where := ({ Sides := x12.Sides } : Box), Accept := false } : Flat)]).bind fun z6 =>
  some (.nxt z6)
  else
  some (.brk y3)
def spec_l20Flats_L0 (a_xs : List Int) : (List Flat) × Int × Int → Option (SR ((List Flat) × Int × Int) (((List Flat)) × Int)) := fun (y1, k1, k2) =>
  bif (decide (0 < k1)) then
  (F.spec_l20Box a_xs k2 0).bind fun x2 =>
  (F.spec_l20Rd_pick a_xs x2.2 2).bind fun x3 =>
  bif (decide (0 < (y1.length : Int))) then
  (F.spec_l20Rd_pick a_xs x3.2 3).bind fun x4 =>
  bif (x4.1 == 0) then
  (idx y1 (W ((y1.length : Int) - 1))).bind fun x5 =>
  (appF ([] : List (List Span)) x5.Where.Sides).bind fun z1 =>
  (F.spec_l20Rd_pick a_xs x4.2 4).bind fun x6 =>
  (F.spec_FieldTop x6.1).bind fun x7 =>
  (F.spec_l20Set a_xs x6.2 x7 0).bind fun x8 =>
  (idx z1 x6.1).bind fun _x9 =>
  (appF y1 [({ Where := ({ Sides := (List.set z1 (x6.1 : Int).toNat x8.1) } : Box), Accept := x5.Accept } : Flat)]).bind fun z2 =>
  some (.nxt (z2, (W (k1 - 1)), x8.2))
  else
  (appF y1 [({ Where := ({ Sides := x2.1.Sides } : Box), Accept := (x3.1 == 0) } : Flat)]).bind fun z3 =>
  some (.nxt (z3, (W (k1 - 1)), x4.2))
  else
  (appF y1 [({ Where := ({ Sides := x2.1.Sides } : Box), Accept := (x3.1 == 0) } : Flat)]).bind fun z4 =>
  some (.nxt (z4, (W (k1 - 1)), x3.2))
  else
  some (.brk (y1, k1, k2))
def spec_l20Flats (a_xs : List Int) (a_pos : Int) (a_n : Int) : Option (((List Flat)) × Int) :=
  (F.spec_l20Rd_pick a_xs a_pos 7).bind fun x1 =>
  (loopF (spec_l20Flats_L0 a_xs) ((x1.1) : Int).toNat.succ (([] : List Flat), x1.1, x1.2)).bind fun lr => lr.on (fun (y2, _k3, k4) =>
  (F.spec_l20Rd_odd a_xs k4 a_n).bind fun x10 =>
  bif x10.1 then
  (F.spec_l20Rd_pick a_xs x10.2 2).bind fun x11 =>
  bif (x11.1 == 0) then
  (appF y2 [({ Where := ({ Sides := ([] : List (List Span)) } : Box), Accept := false } : Flat)]).bind fun z5 =>
  some (z5, x11.2)
  else
  (loopF (spec_l20Flats_L1) 62 y2).bind fun lr => lr.on (fun y4 =>
  some (y4, x11.2)) (fun r => some r)
  else
  some (y2, x10.2)) (fun r => some r)


def spec_DrawFlatsValid (a_code : List Int) : Option ((List Flat)) :=
  (F.spec_l20Open a_code).bind fun x1 =>
  (F.spec_l20Flats x1.1 x1.2 2).bind fun x2 =>
  some x2.1


def laws_FnFlatsValid (a_code : List Int) : Option Bool :=
  bif (decide (1048576 < (a_code.length : Int))) then
  some true
  else
  (F.spec_DrawFlatsValid a_code).bind fun x1 =>
  (F.impl_FlatsValid x1).bind fun x2 =>
  (F.spec_FlatsValid x1).bind fun x3 =>
  bif (x2 != x3) then
  some false
  else
  bif x2 then
  (takeF x1 (W (((x1.length : Int)).tdiv 2))).bind fun y1 =>
  (F.impl_FlatsValid y1).bind fun x4 =>
  bif x4 then
  (appF ([] : List Flat) x1).bind fun z1 =>
  (appF z1 [({ Where := ({ Sides := ([] : List (List Span)) } : Box), Accept := false } : Flat)]).bind fun z2 =>
  (F.impl_FlatsValid z2).bind fun x5 =>
  bif x5 then
  some false
  else
  (F.laws_alive).bind fun x6 =>
  some x6
  else
  some false
  else
  (appF ([] : List Flat) x1).bind fun z3 =>
  (appF z3 [({ Where := ({ Sides := ([] : List (List Span)) } : Box), Accept := false } : Flat)]).bind fun z4 =>
  (F.impl_FlatsValid z4).bind fun x7 =>
  bif x7 then
  some false
  else
  (F.laws_alive).bind fun x8 =>
  some x8


def laws_FnTestsMore (a_code : List Int) : Option Bool :=
  bif (decide (1048576 < (a_code.length : Int))) then
  some true
  else
  (F.spec_DrawTestsBox a_code).bind fun x1 =>
  (F.impl_TestsBox x1).bind fun x2 =>
  (F.spec_TestsBox x1).bind fun x3 =>
  (F.laws_sameBox x2 x3).bind fun x4 =>
  bif x4 then
  (F.spec_TestsValid x1).bind fun x5 =>
  bif x5 then
  (takeF x1 (W (((x1.length : Int)).tdiv 2))).bind fun y1 =>
  (F.impl_TestsBox y1).bind fun x6 =>
  (dropF x1 (W (((x1.length : Int)).tdiv 2))).bind fun y2 =>
  (F.impl_TestsBox y2).bind fun x7 =>
  (F.impl_BoxWithin x2 x6).bind fun x8 =>
  bif x8 then
  (F.impl_BoxWithin x2 x7).bind fun x9 =>
  bif x9 then
  (F.impl_BoxMeet x6 x7).bind fun x10 =>
  (F.laws_sameBox x10 x2).bind fun x11 =>
  some x11
  else
  some false
  else
  some false
  else
  (F.laws_alive).bind fun x12 =>
  some x12
  else
  some false


def impl_TestsHold (a_list : List Test) (a_p : Packet) : Option Bool :=
  (F.impl_TestsValid a_list).bind fun x1 =>
  bif x1 then
  (F.impl_PacketValid a_p).bind fun x2 =>
  bif x2 then
  (F.impl_allHold a_list a_p).bind fun x3 =>
  some x3
  else
  some false
  else
  some false


def laws_FnTestsBox (a_code : List Int) (a_more : List Int) : Option Bool :=
  bif (decide (1048576 < (a_code.length : Int))) then
  some true
  else
  bif (decide (1048576 < (a_more.length : Int))) then
  some true
  else
  (F.spec_DrawTestsBox a_code).bind fun x1 =>
  (F.impl_TestsBox x1).bind fun x2 =>
  (F.spec_TestsBox x1).bind fun x3 =>
  (F.laws_sameBox x2 x3).bind fun x4 =>
  bif x4 then
  (F.spec_TestsValid x1).bind fun x5 =>
  bif x5 then
  (F.laws_probe [x2] (a_more.length : Int)).bind fun x6 =>
  (F.impl_BoxValid x2).bind fun x7 =>
  bif x7 then
  (F.impl_BoxHas x2 x6).bind fun x8 =>
  (F.impl_TestsHold x1 x6).bind fun x9 =>
  some (x8 == x9)
  else
  some false
  else
  bif ((x2.Sides.length : Int) == 0) then
  (F.laws_alive).bind fun x10 =>
  some x10
  else
  some false
  else
  some false


def spec_DrawBoxFirst (a_code : List Int) : Option Box :=
  (F.spec_l20Open a_code).bind fun x1 =>
  (F.spec_l20Box x1.1 x1.2 9).bind fun x2 =>
  some ({ Sides := x2.1.Sides } : Box)


def impl_BoxFirst (a_b : Box) : Option (Packet × Bool) :=
  (F.impl_BoxValid a_b).bind fun x1 =>
  bif x1 then
  (F.impl_sidesOf a_b).bind fun x2 =>
  (F.impl_sides_firstCommon x2 x2).bind fun x3 =>
  some (({ From := x3.1.From, To := x3.1.To, Port := x3.1.Port, Proto := x3.1.Proto } : Packet), x3.2)
  else
  some (({ From := 0, To := 0, Port := 0, Proto := 0 } : Packet), false)


def spec_l10First (a_b : Box) : Option Packet :=
  (idx a_b.Sides 0).bind fun x1 =>
  (idx x1 0).bind fun x2 =>
  (idx a_b.Sides 1).bind fun x3 =>
  (idx x3 0).bind fun x4 =>
  (idx a_b.Sides 2).bind fun x5 =>
  (idx x5 0).bind fun x6 =>
  (idx a_b.Sides 3).bind fun x7 =>
  (idx x7 0).bind fun x8 =>
  some ({ From := x2.Lo, To := x4.Lo, Port := x6.Lo, Proto := x8.Lo } : Packet)


def spec_BoxFirst (a_b : Box) : Option (Packet × Bool) :=
  (F.spec_BoxValid a_b).bind fun x1 =>
  bif x1 then
  (F.spec_l10Empty a_b).bind fun x2 =>
  bif x2 then
  some (({ From := 0, To := 0, Port := 0, Proto := 0 } : Packet), false)
  else
  (F.spec_l10First a_b).bind fun x3 =>
  some (({ From := x3.From, To := x3.To, Port := x3.Port, Proto := x3.Proto } : Packet), true)
  else
  some (({ From := 0, To := 0, Port := 0, Proto := 0 } : Packet), false)


def laws_FnBoxFirst (a_code : List Int) (a_more : List Int) : Option Bool :=
  bif (decide (1048576 < (a_code.length : Int))) then
  some true
  else
  bif (decide (1048576 < (a_more.length : Int))) then
  some true
  else
  (F.spec_DrawBoxFirst a_code).bind fun x1 =>
  (F.impl_BoxFirst x1).bind fun x2 =>
  (F.spec_BoxFirst x1).bind fun x3 =>
  bif (!(decide (x2.1 = x3.1))) then
  some false
  else
  bif (x2.2 != x3.2) then
  some false
  else
  bif x2.2 then
  (F.laws_probe [x1] (a_more.length : Int)).bind fun x4 =>
  (F.impl_BoxHas x1 x2.1).bind fun x5 =>
  bif x5 then
  (F.impl_BoxHas x1 x4).bind fun x6 =>
  bif x6 then
  bif (decide (x2.1.From ≤ x4.From)) then
  bif (decide (x2.1.To ≤ x4.To)) then
  bif (decide (x2.1.Port ≤ x4.Port)) then
  some (decide (x2.1.Proto ≤ x4.Proto))
  else
  some false
  else
  some false
  else
  some false
  else
  some true
  else
  some false
  else
  bif (decide (x2.1 = ({ From := 0, To := 0, Port := 0, Proto := 0 } : Packet))) then
  (F.laws_alive).bind fun x7 =>
  some x7
  else
  some false


def spec_l20Inside_L0 (a_xs : List Int) (a_b : Box) : (List Test) × Int × Int → Option (SR ((List Test) × Int × Int) (Packet × Int)) := fun (y1, k1, k2) =>
  bif (decide (k1 < (a_b.Sides.length : Int))) then
  bif (decide (k1 < 4)) then
  (idx a_b.Sides k1).bind fun x1 =>
  bif (decide (0 < (x1.length : Int))) then
  (F.spec_l20Rd_pick a_xs k2 (x1.length : Int)).bind fun x2 =>
  (idx x1 x2.1).bind fun x3 =>
  (appF y1 [({ Field := k1, Lo := x3.Lo, Hi := x3.Hi, Not := false } : Test)]).bind fun z1 =>
  some (.nxt (z1, (W (k1 + 1)), x2.2))
  else
  some (.nxt (y1, (W (k1 + 1)), k2))
  else
  some (.brk (y1, k1, k2))
  else
  some (.brk (y1, k1, k2))
def spec_l20Inside (a_xs : List Int) (a_pos : Int) (a_b : Box) (a_n : Int) : Option (Packet × Int) :=
  (loopF (spec_l20Inside_L0 a_xs a_b) ((((a_b.Sides.length : Int)) : Int) - 0).toNat.succ (([] : List Test), 0, a_pos)).bind fun lr => lr.on (fun (y2, _k3, k4) =>
  (F.spec_l20Near a_xs k4 y2 a_n).bind fun x4 =>
  some (({ From := x4.1.From, To := x4.1.To, Port := x4.1.Port, Proto := x4.1.Proto } : Packet), x4.2)) (fun r => some r)


def spec_DrawBoxHas (a_code : List Int) : Option (Box × Packet) :=
  (F.spec_l20Open a_code).bind fun x1 =>
  (F.spec_l20Box x1.1 x1.2 14).bind fun x2 =>
  (F.spec_l20Inside x1.1 x2.2 x2.1 14).bind fun x3 =>
  some (({ Sides := x2.1.Sides } : Box), ({ From := x3.1.From, To := x3.1.To, Port := x3.1.Port, Proto := x3.1.Proto } : Packet))


def impl_PacketField (a_p : Packet) (a_n : Int) : Option Int :=
  bif (decide (a_n < 0)) then
  some (-1)
  else
  bif (decide (4 ≤ a_n)) then
  some (-1)
  else
  (F.impl_PacketValid a_p).bind fun x1 =>
  bif x1 then
  (F.impl_Packet_fields a_p).bind fun x2 =>
  (idx x2 a_n).bind fun x3 =>
  some x3
  else
  some (-1)


def laws_FnBoxHas_L0 (x1 : Box × Packet) : Bool × Int → Option (SR (Bool × Int) Bool) := fun (y1, k1) =>
  bif (decide (k1 < 4)) then
  bif y1 then
  (idx x1.1.Sides k1).bind fun x6 =>
  (F.impl_PacketField ({ From := x1.2.From, To := x1.2.To, Port := x1.2.Port, Proto := x1.2.Proto } : Packet) k1).bind fun x7 =>
  (F.impl_SpansHave x6 x7).bind fun x8 =>
  some (.nxt (x8, (W (k1 + 1))))
  else
  some (.nxt (false, (W (k1 + 1))))
  else
  some (.brk (y1, k1))
def laws_FnBoxHas (a_code : List Int) : Option Bool :=
  bif (decide (1048576 < (a_code.length : Int))) then
  some true
  else
  (F.spec_DrawBoxHas a_code).bind fun x1 =>
  (F.impl_BoxHas ({ Sides := x1.1.Sides } : Box) ({ From := x1.2.From, To := x1.2.To, Port := x1.2.Port, Proto := x1.2.Proto } : Packet)).bind fun x2 =>
  (F.spec_BoxHas ({ Sides := x1.1.Sides } : Box) ({ From := x1.2.From, To := x1.2.To, Port := x1.2.Port, Proto := x1.2.Proto } : Packet)).bind fun x3 =>
  bif (x2 != x3) then
  some false
  else
  (F.spec_BoxValid ({ Sides := x1.1.Sides } : Box)).bind fun x4 =>
  bif x4 then
  (F.spec_PacketValid ({ From := x1.2.From, To := x1.2.To, Port := x1.2.Port, Proto := x1.2.Proto } : Packet)).bind fun x5 =>
  bif x5 then
  (loopF (laws_FnBoxHas_L0 x1) (((4) : Int) - 0).toNat.succ (true, 0)).bind fun lr => lr.on (fun (y2, _k2) =>
  some (x2 == y2)) (fun r => some r)
  else
  bif x2 then
  some false
  else
  (F.laws_alive).bind fun x9 =>
  some x9
  else
  bif x2 then
  some false
  else
  (F.laws_alive).bind fun x10 =>
  some x10


def spec_DrawBoxMeet (a_code : List Int) : Option (Box × Box) :=
  (F.spec_l20Open a_code).bind fun x1 =>
  (F.spec_l20Two x1.1 x1.2).bind fun x2 =>
  some (({ Sides := x2.1.Sides } : Box), ({ Sides := x2.2.1.Sides } : Box))


def spec_DrawBoxEmpty (a_code : List Int) : Option Box :=
  (F.spec_l20Open a_code).bind fun x1 =>
  (F.spec_l20Box x1.1 x1.2 9).bind fun x2 =>
  some ({ Sides := x2.1.Sides } : Box)


def laws_FnBoxChain (a_code : List Int) (a_more : List Int) : Option Bool :=
  bif (decide (1048576 < (a_code.length : Int))) then
  some true
  else
  bif (decide (1048576 < (a_more.length : Int))) then
  some true
  else
  (F.spec_DrawBoxMeet a_code).bind fun x1 =>
  (F.spec_DrawBoxEmpty a_more).bind fun x2 =>
  (F.impl_BoxMeet ({ Sides := x1.1.Sides } : Box) ({ Sides := x1.2.Sides } : Box)).bind fun x3 =>
  (F.spec_BoxMeet ({ Sides := x1.1.Sides } : Box) ({ Sides := x1.2.Sides } : Box)).bind fun x4 =>
  (F.laws_sameBox x3 x4).bind fun x5 =>
  bif x5 then
  (F.spec_BoxValid ({ Sides := x1.1.Sides } : Box)).bind fun x6 =>
  bif x6 then
  (F.spec_BoxValid ({ Sides := x1.2.Sides } : Box)).bind fun x7 =>
  bif x7 then
  (F.spec_BoxValid x2).bind fun x8 =>
  bif x8 then
  bif ((x3.Sides.length : Int) == 0) then
  (F.laws_alive).bind fun x9 =>
  some x9
  else
  (F.impl_BoxMeet ({ Sides := x1.2.Sides } : Box) x2).bind fun x10 =>
  bif ((x10.Sides.length : Int) == 0) then
  some true
  else
  (F.impl_BoxMeet x3 x2).bind fun x11 =>
  (F.impl_BoxMeet ({ Sides := x1.1.Sides } : Box) x10).bind fun x12 =>
  (F.laws_sameBox x11 x12).bind fun x13 =>
  some x13
  else
  (F.laws_alive).bind fun x14 =>
  some x14
  else
  (F.laws_alive).bind fun x15 =>
  some x15
  else
  (F.laws_alive).bind fun x16 =>
  some x16
  else
  some false


def spec_DrawBoxSame (a_code : List Int) : Option (Box × Box) :=
  (F.spec_l20Open a_code).bind fun x1 =>
  (F.spec_l20Two x1.1 x1.2).bind fun x2 =>
  (F.spec_l20Rd_pick x1.1 x2.2.2 3).bind fun x3 =>
  bif (x3.1 == 0) then
  some (({ Sides := x2.1.Sides } : Box), ({ Sides := x2.1.Sides } : Box))
  else
  some (({ Sides := x2.1.Sides } : Box), ({ Sides := x2.2.1.Sides } : Box))


def slices_Equal_impl_Span_impl_Span_L0 (a_s1 : List Span) (a_s2 : List Span) : Int → Option (SR (Int) Bool) := fun k1 =>
  bif (decide (k1 < (a_s1.length : Int))) then
  (idx a_s1 k1).bind fun x1 =>
  (idx a_s2 k1).bind fun x2 =>
  bif (!(decide (x1 = x2))) then
  some (.ret false)
  else
  some (.nxt (W (k1 + 1)))
  else
  some (.brk k1)
def slices_Equal_impl_Span_impl_Span (a_s1 : List Span) (a_s2 : List Span) : Option Bool :=
  bif ((a_s1.length : Int) != (a_s2.length : Int)) then
  some false
  else
  (loopF (slices_Equal_impl_Span_impl_Span_L0 a_s1 a_s2) ((((a_s1.length : Int)) : Int) - 0).toNat.succ 0).bind fun lr => lr.on (fun _k2 =>
  some true) (fun r => some r)


def impl_sides_same_L0 (a_s : List (List Span)) (a_other : List (List Span)) : Int → Option (SR (Int) Bool) := fun k1 =>
  bif (decide (k1 < 4)) then
  (idx a_s k1).bind fun x4 =>
  (idx a_other k1).bind fun x5 =>
  (F.slices_Equal_impl_Span_impl_Span x4 x5).bind fun x6 =>
  bif x6 then
  some (.nxt (W (k1 + 1)))
  else
  some (.ret false)
  else
  some (.brk k1)
def impl_sides_same (a_s : List (List Span)) (a_other : List (List Span)) : Option Bool :=
  (F.impl_sides_empty a_s).bind fun x1 =>
  bif x1 then
  (F.impl_sides_empty a_other).bind fun x2 =>
  some x2
  else
  (F.impl_sides_empty a_other).bind fun x3 =>
  bif x3 then
  some false
  else
  (loopF (impl_sides_same_L0 a_s a_other) (((4) : Int) - 0).toNat.succ 0).bind fun lr => lr.on (fun _k2 =>
  some true) (fun r => some r)


def impl_BoxSame (a_a : Box) (a_b : Box) : Option Bool :=
  (F.impl_BoxValid a_a).bind fun x1 =>
  bif x1 then
  (F.impl_BoxValid a_b).bind fun x2 =>
  bif x2 then
  (F.impl_sidesOf a_a).bind fun x3 =>
  (F.impl_sidesOf a_b).bind fun x4 =>
  (F.impl_sides_same x3 x4).bind fun x5 =>
  some x5
  else
  some false
  else
  some false


def spec_BoxSame (a_a : Box) (a_b : Box) : Option Bool :=
  (F.spec_BoxWithin a_a a_b).bind fun x1 =>
  bif x1 then
  (F.spec_BoxWithin a_b a_a).bind fun x2 =>
  some x2
  else
  some false


def laws_FnBoxSame (a_code : List Int) : Option Bool :=
  bif (decide (1048576 < (a_code.length : Int))) then
  some true
  else
  (F.spec_DrawBoxSame a_code).bind fun x1 =>
  (F.impl_BoxSame ({ Sides := x1.1.Sides } : Box) ({ Sides := x1.2.Sides } : Box)).bind fun x2 =>
  (F.spec_BoxSame ({ Sides := x1.1.Sides } : Box) ({ Sides := x1.2.Sides } : Box)).bind fun x3 =>
  bif (x2 != x3) then
  some false
  else
  (F.impl_BoxSame ({ Sides := x1.2.Sides } : Box) ({ Sides := x1.1.Sides } : Box)).bind fun x4 =>
  bif (x2 != x4) then
  some false
  else
  (F.spec_BoxValid ({ Sides := x1.1.Sides } : Box)).bind fun x5 =>
  bif x5 then
  (F.spec_BoxValid ({ Sides := x1.2.Sides } : Box)).bind fun x6 =>
  bif x6 then
  (F.impl_BoxEmpty ({ Sides := x1.1.Sides } : Box)).bind fun x7 =>
  bif x7 then
  (F.impl_BoxEmpty ({ Sides := x1.2.Sides } : Box)).bind fun x8 =>
  bif x8 then
  bif (true == x2) then
  (F.impl_BoxSame ({ Sides := x1.1.Sides } : Box) ({ Sides := x1.1.Sides } : Box)).bind fun x9 =>
  some x9
  else
  some false
  else
  (F.laws_sameBox ({ Sides := x1.1.Sides } : Box) ({ Sides := x1.2.Sides } : Box)).bind fun x10 =>
  bif (x10 == x2) then
  (F.impl_BoxSame ({ Sides := x1.1.Sides } : Box) ({ Sides := x1.1.Sides } : Box)).bind fun x11 =>
  some x11
  else
  some false
  else
  (F.laws_sameBox ({ Sides := x1.1.Sides } : Box) ({ Sides := x1.2.Sides } : Box)).bind fun x12 =>
  bif (x12 == x2) then
  (F.impl_BoxSame ({ Sides := x1.1.Sides } : Box) ({ Sides := x1.1.Sides } : Box)).bind fun x13 =>
  some x13
  else
  some false
  else
  bif x2 then
  some false
  else
  (F.laws_alive).bind fun x14 =>
  some x14
  else
  bif x2 then
  some false
  else
  (F.laws_alive).bind fun x15 =>
  some x15


def spec_DrawRegionHas (a_code : List Int) : Option ((List Box) × Packet) :=
  (F.spec_l20Open a_code).bind fun x1 =>
  (F.spec_l20Region x1.1 x1.2 14).bind fun x2 =>
  (F.spec_BoxAll).bind fun x3 =>
  bif (decide (0 < (x2.1.length : Int))) then
  (F.spec_l20Rd_pick x1.1 x2.2 (imin 256 (x2.1.length : Int))).bind fun x4 =>
  (idx x2.1 x4.1).bind fun x5 =>
  (F.spec_l20Inside x1.1 x4.2 ({ Sides := x5.Sides } : Box) 14).bind fun x6 =>
  some (x2.1, ({ From := x6.1.From, To := x6.1.To, Port := x6.1.Port, Proto := x6.1.Proto } : Packet))
  else
  (F.spec_l20Inside x1.1 x2.2 ({ Sides := x3.Sides } : Box) 14).bind fun x7 =>
  some (x2.1, ({ From := x7.1.From, To := x7.1.To, Port := x7.1.Port, Proto := x7.1.Proto } : Packet))


def spec_RegionHas_L0 (a_list : List Box) (a_p : Packet) : Int → Option (SR (Int) Bool) := fun k1 =>
  bif (decide (k1 < (a_list.length : Int))) then
  (F.spec_RegionValid a_list).bind fun x1 =>
  bif x1 then
  (idx a_list k1).bind fun x2 =>
  (F.spec_BoxHas x2 a_p).bind fun x3 =>
  bif x3 then
  some (.ret true)
  else
  some (.nxt (W (k1 + 1)))
  else
  some (.brk k1)
  else
  some (.brk k1)
def spec_RegionHas (a_list : List Box) (a_p : Packet) : Option Bool :=
  (loopF (spec_RegionHas_L0 a_list a_p) ((((a_list.length : Int)) : Int) - 0).toNat.succ 0).bind fun lr => lr.on (fun _k2 =>
  some false) (fun r => some r)


def laws_FnRegionHas (a_code : List Int) : Option Bool :=
  bif (decide (1048576 < (a_code.length : Int))) then
  some true
  else
  (F.spec_DrawRegionHas a_code).bind fun x1 =>
  (F.impl_RegionHas x1.1 ({ From := x1.2.From, To := x1.2.To, Port := x1.2.Port, Proto := x1.2.Proto } : Packet)).bind fun x2 =>
  (F.spec_RegionHas x1.1 ({ From := x1.2.From, To := x1.2.To, Port := x1.2.Port, Proto := x1.2.Proto } : Packet)).bind fun x3 =>
  bif (x2 != x3) then
  some false
  else
  (F.spec_RegionValid x1.1).bind fun x4 =>
  bif x4 then
  (takeF x1.1 (W (((x1.1.length : Int)).tdiv 2))).bind fun y1 =>
  (F.impl_RegionHas y1 ({ From := x1.2.From, To := x1.2.To, Port := x1.2.Port, Proto := x1.2.Proto } : Packet)).bind fun x5 =>
  bif x5 then
  bif (x2 == true) then
  (F.impl_RegionHas ([] : List Box) ({ From := x1.2.From, To := x1.2.To, Port := x1.2.Port, Proto := x1.2.Proto } : Packet)).bind fun x6 =>
  some (!x6)
  else
  some false
  else
  (dropF x1.1 (W (((x1.1.length : Int)).tdiv 2))).bind fun y2 =>
  (F.impl_RegionHas y2 ({ From := x1.2.From, To := x1.2.To, Port := x1.2.Port, Proto := x1.2.Proto } : Packet)).bind fun x7 =>
  bif (x2 == x7) then
  (F.impl_RegionHas ([] : List Box) ({ From := x1.2.From, To := x1.2.To, Port := x1.2.Port, Proto := x1.2.Proto } : Packet)).bind fun x8 =>
  some (!x8)
  else
  some false
  else
  bif x2 then
  some false
  else
  (F.laws_alive).bind fun x9 =>
  some x9


def spec_BoxEmpty (a_b : Box) : Option Bool :=
  (F.spec_BoxValid a_b).bind fun x1 =>
  bif x1 then
  (F.spec_l10Empty a_b).bind fun x2 =>
  some x2
  else
  some false


def laws_FnBoxEmpty (a_code : List Int) : Option Bool :=
  bif (decide (1048576 < (a_code.length : Int))) then
  some true
  else
  (F.spec_DrawBoxEmpty a_code).bind fun x1 =>
  (F.impl_BoxEmpty x1).bind fun x2 =>
  (F.spec_BoxEmpty x1).bind fun x3 =>
  bif (x2 != x3) then
  some false
  else
  (F.spec_BoxValid x1).bind fun x4 =>
  bif x4 then
  (F.impl_BoxFirst x1).bind fun x5 =>
  (F.impl_TestsBox [({ Field := 3, Lo := 0, Hi := 2, Not := false } : Test), ({ Field := 3, Lo := 3, Hi := 3, Not := false } : Test)]).bind fun x6 =>
  bif (x2 == (!x5.2)) then
  (F.impl_BoxWithin x1 x6).bind fun x7 =>
  bif (x2 == x7) then
  (F.impl_BoxEmpty x6).bind fun x8 =>
  some x8
  else
  some false
  else
  some false
  else
  bif x2 then
  some false
  else
  (F.laws_alive).bind fun x9 =>
  some x9


def laws_FnBoxMeet (a_code : List Int) (a_more : List Int) : Option Bool :=
  bif (decide (1048576 < (a_code.length : Int))) then
  some true
  else
  bif (decide (1048576 < (a_more.length : Int))) then
  some true
  else
  (F.spec_DrawBoxMeet a_code).bind fun x1 =>
  (F.impl_BoxMeet ({ Sides := x1.1.Sides } : Box) ({ Sides := x1.2.Sides } : Box)).bind fun x2 =>
  (F.spec_BoxMeet ({ Sides := x1.1.Sides } : Box) ({ Sides := x1.2.Sides } : Box)).bind fun x3 =>
  (F.laws_sameBox x2 x3).bind fun x4 =>
  bif x4 then
  (F.impl_BoxMeet ({ Sides := x1.2.Sides } : Box) ({ Sides := x1.1.Sides } : Box)).bind fun x5 =>
  (F.laws_sameBox x2 x5).bind fun x6 =>
  bif x6 then
  bif ((x2.Sides.length : Int) == 0) then
  (F.laws_alive).bind fun x7 =>
  some x7
  else
  (F.laws_probe [({ Sides := x1.1.Sides } : Box), ({ Sides := x1.2.Sides } : Box)] (a_more.length : Int)).bind fun x8 =>
  (F.impl_BoxHas x2 x8).bind fun x9 =>
  (F.impl_BoxHas ({ Sides := x1.1.Sides } : Box) x8).bind fun x10 =>
  bif x10 then
  (F.impl_BoxHas ({ Sides := x1.2.Sides } : Box) x8).bind fun x11 =>
  bif (x9 == x11) then
  (F.impl_BoxWithin x2 ({ Sides := x1.1.Sides } : Box)).bind fun x12 =>
  bif x12 then
  (F.impl_BoxWithin x2 ({ Sides := x1.2.Sides } : Box)).bind fun x13 =>
  bif x13 then
  (F.impl_BoxMeet ({ Sides := x1.1.Sides } : Box) ({ Sides := x1.1.Sides } : Box)).bind fun x14 =>
  (F.laws_sameBox x14 ({ Sides := x1.1.Sides } : Box)).bind fun x15 =>
  some x15
  else
  some false
  else
  some false
  else
  some false
  else
  bif (x9 == false) then
  (F.impl_BoxWithin x2 ({ Sides := x1.1.Sides } : Box)).bind fun x16 =>
  bif x16 then
  (F.impl_BoxWithin x2 ({ Sides := x1.2.Sides } : Box)).bind fun x17 =>
  bif x17 then
  (F.impl_BoxMeet ({ Sides := x1.1.Sides } : Box) ({ Sides := x1.1.Sides } : Box)).bind fun x18 =>
  (F.laws_sameBox x18 ({ Sides := x1.1.Sides } : Box)).bind fun x19 =>
  some x19
  else
  some false
  else
  some false
  else
  some false
  else
  some false
  else
  some false


def spec_DrawBoxTests (a_code : List Int) : Option Box :=
  (F.spec_l20Open a_code).bind fun x1 =>
  (F.spec_l20Box x1.1 x1.2 9).bind fun x2 =>
  some ({ Sides := x2.1.Sides } : Box)


def laws_FnBoxTests_L0 (x2 : (List Test) × Bool) (x3 : (List Test) × Bool) : Int → Option (SR (Int) Bool) := fun k1 =>
  bif (decide (k1 < (x2.1.length : Int))) then
  (idx x2.1 k1).bind fun x4 =>
  (idx x3.1 k1).bind fun x5 =>
  bif (!(decide (x4 = x5))) then
  some (.ret false)
  else
  bif (decide (0 < k1)) then
  (idx x2.1 (W (k1 - 1))).bind fun x6 =>
  bif (decide (x4.Field ≤ x6.Field)) then
  some (.ret false)
  else
  some (.nxt (W (k1 + 1)))
  else
  some (.nxt (W (k1 + 1)))
  else
  some (.brk k1)
def laws_FnBoxTests (a_code : List Int) : Option Bool :=
  bif (decide (1048576 < (a_code.length : Int))) then
  some true
  else
  (F.spec_DrawBoxTests a_code).bind fun x1 =>
  (F.impl_BoxTests x1).bind fun x2 =>
  (F.spec_BoxTests x1).bind fun x3 =>
  bif ((x2.1.length : Int) != (x3.1.length : Int)) then
  some false
  else
  bif (x2.2 != x3.2) then
  some false
  else
  (loopF (laws_FnBoxTests_L0 x2 x3) ((((x2.1.length : Int)) : Int) - 0).toNat.succ 0).bind fun lr => lr.on (fun _k2 =>
  bif x2.2 then
  (F.impl_TestsBox x2.1).bind fun x7 =>
  (F.laws_sameBox x7 x1).bind fun x8 =>
  some x8
  else
  bif ((x2.1.length : Int) == 0) then
  (F.laws_alive).bind fun x9 =>
  bif x9 then
  some true
  else
  some false
  else
  some false) (fun r => some r)


def spec_DrawFirstFit_L0 (x1 : List Int × Int) (x2 : (List Rule) × Int) : (List Test) × Int × Int → Option (SR ((List Test) × Int × Int) ((List Rule) × Int × Packet)) := fun (y1, k1, k2) =>
  bif (decide (k1 < (x2.1.length : Int))) then
  (F.spec_l20Rd_pick x1.1 k2 2).bind fun x3 =>
  bif (x3.1 == 0) then
  (idx x2.1 k1).bind fun x4 =>
  (appF y1 x4.Tests).bind fun z1 =>
  some (.nxt (z1, (W (k1 + 1)), x3.2))
  else
  some (.nxt (y1, (W (k1 + 1)), x3.2))
  else
  some (.brk (y1, k1, k2))
def spec_DrawFirstFit (a_code : List Int) : Option ((List Rule) × Int × Packet) :=
  (F.spec_l20Open a_code).bind fun x1 =>
  (F.spec_l20Rules x1.1 x1.2 1 3 14).bind fun x2 =>
  (loopF (spec_DrawFirstFit_L0 x1 x2) ((((x2.1.length : Int)) : Int) - 0).toNat.succ (([] : List Test), 0, x2.2)).bind fun lr => lr.on (fun (y2, _k3, k4) =>
  (F.spec_l20Rd_pick x1.1 k4 4).bind fun x5 =>
  (F.spec_l20Rd_pick x1.1 x5.2 9).bind fun x6 =>
  (F.spec_l20Near x1.1 x6.2 y2 20).bind fun x7 =>
  some (x2.1, (W (x5.1 - (W ((x6.1).tdiv 8)))), ({ From := x7.1.From, To := x7.1.To, Port := x7.1.Port, Proto := x7.1.Proto } : Packet))) (fun r => some r)


def laws_FnCallAlone_L0 (x1 : (List Rule) × Int × Packet) : Int → Option (SR (Int) Bool) := fun k1 =>
  bif (decide (k1 < (x1.1.length : Int))) then
  (idx x1.1 k1).bind fun x2 =>
  bif (x2.Action == 3) then
  (F.laws_alive).bind fun x3 =>
  some (.ret x3)
  else
  some (.nxt (W (k1 + 1)))
  else
  some (.brk k1)
def laws_FnCallAlone (a_code : List Int) : Option Bool :=
  bif (decide (1048576 < (a_code.length : Int))) then
  some true
  else
  (F.spec_DrawFirstFit a_code).bind fun x1 =>
  (loopF (laws_FnCallAlone_L0 x1) ((((x1.1.length : Int)) : Int) - 0).toNat.succ 0).bind fun lr => lr.on (fun _k2 =>
  (F.impl_Judge ({ Chains := [x1.1], Accept := true } : Ruleset) ({ From := x1.2.2.From, To := x1.2.2.To, Port := x1.2.2.Port, Proto := x1.2.2.Proto } : Packet)).bind fun x4 =>
  (F.spec_Judge ({ Chains := [x1.1], Accept := true } : Ruleset) ({ From := x1.2.2.From, To := x1.2.2.To, Port := x1.2.2.Port, Proto := x1.2.2.Proto } : Packet)).bind fun x5 =>
  bif (x4 == x5) then
  (F.impl_Judge ({ Chains := [[({ Tests := ([] : List Test), Action := 3, Chain := 1 } : Rule)], x1.1], Accept := true } : Ruleset) ({ From := x1.2.2.From, To := x1.2.2.To, Port := x1.2.2.Port, Proto := x1.2.2.Proto } : Packet)).bind fun x6 =>
  some (x6 == x4)
  else
  some false) (fun r => some r)


def spec_DrawRulesetValid (a_code : List Int) : Option Ruleset :=
  (F.spec_l20Open a_code).bind fun x1 =>
  (F.spec_l20Ruleset x1.1 x1.2 2).bind fun x2 =>
  some ({ Chains := x2.1.Chains, Accept := x2.1.Accept } : Ruleset)


def laws_FnRulesetValid (a_code : List Int) : Option Bool :=
  bif (decide (1048576 < (a_code.length : Int))) then
  some true
  else
  (F.spec_DrawRulesetValid a_code).bind fun x1 =>
  (F.impl_RulesetValid x1).bind fun x2 =>
  (F.spec_RulesetValid x1).bind fun x3 =>
  bif (x2 != x3) then
  some false
  else
  bif x2 then
  (dropF x1.Chains 1).bind fun y1 =>
  (appF [[({ Tests := ([] : List Test), Action := 3, Chain := 0 } : Rule)]] y1).bind fun z1 =>
  (F.impl_RulesetValid ({ Chains := z1, Accept := false } : Ruleset)).bind fun x4 =>
  bif x4 then
  some false
  else
  (F.impl_RulesetValid ({ Chains := x1.Chains, Accept := (!x1.Accept) } : Ruleset)).bind fun x5 =>
  some x5
  else
  (F.impl_RulesetValid ({ Chains := ([] : List (List Rule)), Accept := false } : Ruleset)).bind fun x6 =>
  bif x6 then
  some false
  else
  (F.laws_alive).bind fun x7 =>
  some x7


def spec_DrawCallsOf (a_code : List Int) : Option (Ruleset × Int) :=
  (F.spec_l20Open a_code).bind fun x1 =>
  (F.spec_l20Ruleset x1.1 x1.2 9).bind fun x2 =>
  (F.spec_l20Rd_pick x1.1 x2.2 (W ((x2.1.Chains.length : Int) + 1))).bind fun x3 =>
  (F.spec_l20Rd_pick x1.1 x3.2 14).bind fun x4 =>
  some (({ Chains := x2.1.Chains, Accept := x2.1.Accept } : Ruleset), (W (x3.1 - (W ((x4.1).tdiv 13)))))


def spec_DrawCallDepth (a_code : List Int) : Option (Ruleset × Int) :=
  (F.spec_DrawCallsOf a_code).bind fun x1 =>
  some (({ Chains := x1.1.Chains, Accept := x1.1.Accept } : Ruleset), x1.2)


def impl_depthOf_L0 (a_chains : List (List Rule)) (rec_ : (List (List Rule)) → Int → Option Int) (x2 : List Int) : Int × Int → Option (SR (Int × Int) Int) := fun (k1, k2) =>
  bif (decide (k2 < (x2.length : Int))) then
  (idx x2 k2).bind fun x3 =>
  (rec_ a_chains x3).bind fun x4 =>
  some (.nxt ((imax k1 (W (1 + x4))), (W (k2 + 1))))
  else
  some (.brk (k1, k2))
def impl_depthOf : Nat → List (List Rule) → Int → Option Int
  | 0, _, _ => none
  | n_ + 1, a_chains, a_chain =>
  (idx a_chains a_chain).bind fun x1 =>
  (F.impl_callsIn x1).bind fun x2 =>
  (loopF (impl_depthOf_L0 a_chains (impl_depthOf n_) x2) ((((x2.length : Int)) : Int) - 0).toNat.succ (0, 0)).bind fun lr => lr.on (fun (k3, _k4) =>
  some k3) (fun r => some r)


def impl_CallDepth (a_s : Ruleset) (a_chain : Int) : Option Int :=
  (F.impl_RulesetValid a_s).bind fun x1 =>
  bif x1 then
  bif (decide (a_chain < 0)) then
  some (-1)
  else
  bif (decide ((a_s.Chains.length : Int) ≤ a_chain)) then
  some (-1)
  else
  (F.impl_depthOf 10 a_s.Chains a_chain).bind fun x2 =>
  some x2
  else
  some (-1)


def spec_CallDepth_L1 (a_s : Ruleset) (x4 : Int) : Int × (List Int) → Option (SR (Int × (List Int)) Int) := fun (k2, y2) =>
  (idx a_s.Chains x4).bind fun x5 =>
  bif (decide (k2 < (x5.length : Int))) then
  (idx x5 k2).bind fun x6 =>
  bif (x6.Action == 3) then
  (idx y2 x4).bind fun x7 =>
  (idx y2 x6.Chain).bind fun x8 =>
  some (.nxt ((W (k2 + 1)), (List.set y2 (x4 : Int).toNat (imax x7 (W (1 + x8))))))
  else
  some (.nxt ((W (k2 + 1)), y2))
  else
  some (.brk (k2, y2))
def spec_CallDepth_L0 (a_s : Ruleset) (x3 : List Int) : Int × (List Int) → Option (SR (Int × (List Int)) Int) := fun (k1, y1) =>
  bif (decide (k1 < (x3.length : Int))) then
  (idx x3 k1).bind fun x4 =>
  (loopF (spec_CallDepth_L1 a_s x4) ((((((idx a_s.Chains x4).getD []).length : Int)) : Int) - 0).toNat.succ (0, y1)).bind fun lr => lr.on (fun (_k3, y3) =>
  some (.nxt ((W (k1 + 1)), y3))) (fun r => some (.ret r))
  else
  some (.brk (k1, y1))
def spec_CallDepth (a_s : Ruleset) (a_chain : Int) : Option Int :=
  (F.spec_RulesetValid a_s).bind fun x1 =>
  bif x1 then
  (F.spec_l1In a_chain 0 (W ((a_s.Chains.length : Int) - 1))).bind fun x2 =>
  bif x2 then
  (makeF (0 : Int) (a_s.Chains.length : Int)).bind fun mk1 =>
  (F.spec_l8Order a_s).bind fun x3 =>
  (loopF (spec_CallDepth_L0 a_s x3) ((((x3.length : Int)) : Int) - 0).toNat.succ (0, mk1)).bind fun lr => lr.on (fun (_k4, y4) =>
  (idx y4 a_chain).bind fun x9 =>
  some x9) (fun r => some r)
  else
  some (-1)
  else
  some (-1)


def laws_FnCallDepth_L0 (x1 : Ruleset × Int) (x5 : List Int) : Int × Int → Option (SR (Int × Int) Bool) := fun (k1, k2) =>
  bif (decide (k2 < (x5.length : Int))) then
  (idx x5 k2).bind fun x6 =>
  (F.impl_CallDepth x1.1 x6).bind fun x7 =>
  some (.nxt ((imax k1 (W (1 + x7))), (W (k2 + 1))))
  else
  some (.brk (k1, k2))
def laws_FnCallDepth (a_code : List Int) : Option Bool :=
  bif (decide (1048576 < (a_code.length : Int))) then
  some true
  else
  (F.spec_DrawCallDepth a_code).bind fun x1 =>
  (F.impl_CallDepth x1.1 x1.2).bind fun x2 =>
  (F.spec_CallDepth x1.1 x1.2).bind fun x3 =>
  bif (x2 != x3) then
  some false
  else
  bif (decide (x2 < 0)) then
  bif (x2 == (-1)) then
  (F.laws_alive).bind fun x4 =>
  some x4
  else
  some false
  else
  (F.impl_CallsOf x1.1 x1.2).bind fun x5 =>
  (loopF (laws_FnCallDepth_L0 x1 x5) ((((x5.length : Int)) : Int) - 0).toNat.succ (0, 0)).bind fun lr => lr.on (fun (k3, _k4) =>
  bif (x2 == k3) then
  some (decide (x2 < (x1.1.Chains.length : Int)))
  else
  some false) (fun r => some r)


def laws_sameInts_L0 (a_a : List Int) (a_b : List Int) : Int → Option (SR (Int) Bool) := fun k1 =>
  bif (decide (k1 < (a_a.length : Int))) then
  (idx a_a k1).bind fun x1 =>
  (idx a_b k1).bind fun x2 =>
  bif (x1 != x2) then
  some (.ret false)
  else
  some (.nxt (W (k1 + 1)))
  else
  some (.brk k1)
def laws_sameInts (a_a : List Int) (a_b : List Int) : Option Bool :=
  bif ((a_a.length : Int) != (a_b.length : Int)) then
  some false
  else
  (loopF (laws_sameInts_L0 a_a a_b) ((((a_a.length : Int)) : Int) - 0).toNat.succ 0).bind fun lr => lr.on (fun _k2 =>
  some true) (fun r => some r)


def laws_FnCallsOf_L0 (x1 : Ruleset × Int) (x2 : List Int) (x5 : Int) : Int → Option (SR (Int) Bool) := fun k1 =>
  bif (decide (k1 < (x2.length : Int))) then
  (idx x2 k1).bind fun x6 =>
  (F.impl_CallDepth x1.1 x6).bind fun x7 =>
  bif (decide (x5 ≤ x7)) then
  some (.ret false)
  else
  bif (decide (0 < k1)) then
  (idx x2 (W (k1 - 1))).bind fun x8 =>
  bif (decide (x6 ≤ x8)) then
  some (.ret false)
  else
  some (.nxt (W (k1 + 1)))
  else
  some (.nxt (W (k1 + 1)))
  else
  some (.brk k1)
def laws_FnCallsOf (a_code : List Int) : Option Bool :=
  bif (decide (1048576 < (a_code.length : Int))) then
  some true
  else
  (F.spec_DrawCallsOf a_code).bind fun x1 =>
  (F.impl_CallsOf x1.1 x1.2).bind fun x2 =>
  (F.spec_CallsOf x1.1 x1.2).bind fun x3 =>
  (F.laws_sameInts x2 x3).bind fun x4 =>
  bif x4 then
  (F.impl_CallDepth x1.1 x1.2).bind fun x5 =>
  (loopF (laws_FnCallsOf_L0 x1 x2 x5) ((((x2.length : Int)) : Int) - 0).toNat.succ 0).bind fun lr => lr.on (fun _k2 =>
  bif ((decide (0 < (x2.length : Int))) == (decide (0 < x5))) then
  (F.laws_alive).bind fun x9 =>
  some x9
  else
  some false) (fun r => some r)
  else
  some false


def spec_DrawChainsUsed (a_code : List Int) : Option Ruleset :=
  (F.spec_l20Open a_code).bind fun x1 =>
  (F.spec_l20Ruleset x1.1 x1.2 9).bind fun x2 =>
  some ({ Chains := x2.1.Chains, Accept := x2.1.Accept } : Ruleset)


def laws_FnChainsUsed_L2 (x10 : List Int) : Int × (List Bool) → Option (SR (Int × (List Bool)) Bool) := fun (k4, y4) =>
  bif (decide (k4 < (x10.length : Int))) then
  (idx x10 k4).bind fun x11 =>
  bif (decide (x11 < 0)) then
  some (.ret false)
  else
  bif (decide (5 ≤ x11)) then
  some (.ret false)
  else
  (idx y4 x11).bind fun x12 =>
  bif x12 then
  some (.nxt ((W (k4 + 1)), y4))
  else
  some (.ret false)
  else
  some (.brk (k4, y4))
def laws_FnChainsUsed_L3 (x13 : List Visit) : Int × (List Bool) → Option (SR (Int × (List Bool)) Bool) := fun (k7, y7) =>
  bif (decide (k7 < (x13.length : Int))) then
  (idx x13 k7).bind fun x14 =>
  bif (decide (x14.Chain < 0)) then
  some (.ret false)
  else
  bif (decide (5 ≤ x14.Chain)) then
  some (.ret false)
  else
  (idx y7 x14.Chain).bind fun x15 =>
  bif x15 then
  some (.nxt ((W (k7 + 1)), y7))
  else
  some (.ret false)
  else
  some (.brk (k7, y7))
def laws_FnChainsUsed_L1 (x1 : Ruleset) (x2 : List Int) : Int × (List Bool) → Option (SR (Int × (List Bool)) Bool) := fun (k3, y3) =>
  bif (decide (k3 < (x2.length : Int))) then
  (idx x2 k3).bind fun x9 =>
  (F.impl_CallsOf x1 x9).bind fun x10 =>
  (loopF (laws_FnChainsUsed_L2 x10) ((((x10.length : Int)) : Int) - 0).toNat.succ (0, y3)).bind fun lr => lr.on (fun (_k5, y5) =>
  some (.nxt ((W (k3 + 1)), y5))) (fun r => some (.ret r))
  else
  some (.brk (k3, y3))
def laws_FnChainsUsed_L0 (x1 : Ruleset) (x2 : List Int) : Int × (List Bool) → Option (SR (Int × (List Bool)) Bool) := fun (k1, y1) =>
  bif (decide (k1 < (x2.length : Int))) then
  (idx x2 k1).bind fun x7 =>
  bif (decide (x7 < 0)) then
  some (.ret false)
  else
  bif (decide ((x1.Chains.length : Int) ≤ x7)) then
  some (.ret false)
  else
  (idx y1 x7).bind fun _x8 =>
  some (.nxt ((W (k1 + 1)), (List.set y1 (x7 : Int).toNat true)))
  else
  some (.brk (k1, y1))
def laws_FnChainsUsed (a_code : List Int) : Option Bool :=
  bif (decide (1048576 < (a_code.length : Int))) then
  some true
  else
  (F.spec_DrawChainsUsed a_code).bind fun x1 =>
  (F.impl_ChainsUsed x1).bind fun x2 =>
  (F.spec_ChainsUsed x1).bind fun x3 =>
  (F.laws_sameInts x2 x3).bind fun x4 =>
  bif x4 then
  bif ((x2.length : Int) == 0) then
  (F.spec_RulesetValid x1).bind fun x5 =>
  bif x5 then
  some false
  else
  (F.laws_alive).bind fun x6 =>
  some x6
  else
  (makeF false 5).bind fun mk1 =>
  (loopF (laws_FnChainsUsed_L0 x1 x2) ((((x2.length : Int)) : Int) - 0).toNat.succ (0, mk1)).bind fun lr => lr.on (fun (_k2, y2) =>
  (loopF (laws_FnChainsUsed_L1 x1 x2) ((((x2.length : Int)) : Int) - 0).toNat.succ (0, y2)).bind fun lr => lr.on (fun (_k6, y6) =>
  (F.impl_JudgeTrace x1 ({ From := 3, To := 5, Port := 0, Proto := 0 } : Packet)).bind fun x13 =>
  (loopF (laws_FnChainsUsed_L3 x13) ((((x13.length : Int)) : Int) - 0).toNat.succ (0, y6)).bind fun lr => lr.on (fun (_k8, y8) =>
  (idx y8 0).bind fun x16 =>
  some x16) (fun r => some r)) (fun r => some r)) (fun r => some r)
  else
  some false


def spec_DrawJudgedBy (a_code : List Int) : Option (Ruleset × Packet) :=
  (F.spec_l20Open a_code).bind fun x1 =>
  (F.spec_l20Case x1.1 x1.2 20).bind fun x2 =>
  some (({ Chains := x2.1.Chains, Accept := x2.1.Accept } : Ruleset), ({ From := x2.2.1.From, To := x2.2.1.To, Port := x2.2.1.Port, Proto := x2.2.1.Proto } : Packet))


def spec_JudgedBy (a_s : Ruleset) (a_p : Packet) : Option Int :=
  (F.spec_RulesetValid a_s).bind fun x1 =>
  bif x1 then
  (F.spec_PacketValid a_p).bind fun x2 =>
  bif x2 then
  (F.spec_l9Walk 10 a_s 0 a_p ([] : List Visit)).bind fun x3 =>
  some x3.1
  else
  some 0
  else
  some 0


def laws_FnJudgedBy_L1 (x1 : Ruleset × Packet) (k1 : Int) : Bool × Int → Option (SR (Bool × Int) Bool) := fun (y2, k2) =>
  (idx x1.1.Chains k1).bind fun x4 =>
  bif (decide (k2 < (x4.length : Int))) then
  bif y2 then
  some (.nxt (true, (W (k2 + 1))))
  else
  (idx x4 k2).bind fun x5 =>
  some (.nxt ((x5.Action == 1), (W (k2 + 1))))
  else
  some (.brk (y2, k2))
def laws_FnJudgedBy_L0 (x1 : Ruleset × Packet) : Bool × Int → Option (SR (Bool × Int) Bool) := fun (y1, k1) =>
  bif (decide (k1 < (x1.1.Chains.length : Int))) then
  (loopF (laws_FnJudgedBy_L1 x1 k1) ((((((idx x1.1.Chains k1).getD []).length : Int)) : Int) - 0).toNat.succ (y1, 0)).bind fun lr => lr.on (fun (y3, _k3) =>
  some (.nxt (y3, (W (k1 + 1))))) (fun r => some (.ret r))
  else
  some (.brk (y1, k1))
def laws_FnJudgedBy (a_code : List Int) : Option Bool :=
  bif (decide (1048576 < (a_code.length : Int))) then
  some true
  else
  (F.spec_DrawJudgedBy a_code).bind fun x1 =>
  (F.impl_JudgedBy ({ Chains := x1.1.Chains, Accept := x1.1.Accept } : Ruleset) ({ From := x1.2.From, To := x1.2.To, Port := x1.2.Port, Proto := x1.2.Proto } : Packet)).bind fun x2 =>
  (F.spec_JudgedBy ({ Chains := x1.1.Chains, Accept := x1.1.Accept } : Ruleset) ({ From := x1.2.From, To := x1.2.To, Port := x1.2.Port, Proto := x1.2.Proto } : Packet)).bind fun x3 =>
  bif (x2 != x3) then
  some false
  else
  (loopF (laws_FnJudgedBy_L0 x1) ((((x1.1.Chains.length : Int)) : Int) - 0).toNat.succ (false, 0)).bind fun lr => lr.on (fun (y4, _k4) =>
  (F.spec_RulesetValid ({ Chains := x1.1.Chains, Accept := x1.1.Accept } : Ruleset)).bind fun x6 =>
  bif x6 then
  (F.spec_PacketValid ({ From := x1.2.From, To := x1.2.To, Port := x1.2.Port, Proto := x1.2.Proto } : Packet)).bind fun x7 =>
  bif ((x2 == 0) == (!x7)) then
  bif y4 then
  bif (x2 == 0) then
  (F.laws_alive).bind fun x8 =>
  some x8
  else
  bif (x2 == 1) then
  (F.laws_alive).bind fun x9 =>
  some x9
  else
  bif (x2 == 2) then
  (F.laws_alive).bind fun x10 =>
  some x10
  else
  bif (x2 == 5) then
  (F.laws_alive).bind fun x11 =>
  some x11
  else
  some false
  else
  bif (x2 != 1) then
  bif (x2 == 0) then
  (F.laws_alive).bind fun x12 =>
  some x12
  else
  bif (x2 == 1) then
  (F.laws_alive).bind fun x13 =>
  some x13
  else
  bif (x2 == 2) then
  (F.laws_alive).bind fun x14 =>
  some x14
  else
  bif (x2 == 5) then
  (F.laws_alive).bind fun x15 =>
  some x15
  else
  some false
  else
  some false
  else
  some false
  else
  bif ((x2 == 0) == true) then
  bif y4 then
  bif (x2 == 0) then
  (F.laws_alive).bind fun x16 =>
  some x16
  else
  bif (x2 == 1) then
  (F.laws_alive).bind fun x17 =>
  some x17
  else
  bif (x2 == 2) then
  (F.laws_alive).bind fun x18 =>
  some x18
  else
  bif (x2 == 5) then
  (F.laws_alive).bind fun x19 =>
  some x19
  else
  some false
  else
  bif (x2 != 1) then
  bif (x2 == 0) then
  (F.laws_alive).bind fun x20 =>
  some x20
  else
  bif (x2 == 1) then
  (F.laws_alive).bind fun x21 =>
  some x21
  else
  bif (x2 == 2) then
  (F.laws_alive).bind fun x22 =>
  some x22
  else
  bif (x2 == 5) then
  (F.laws_alive).bind fun x23 =>
  some x23
  else
  some false
  else
  some false
  else
  some false) (fun r => some r)


def laws_FnJudgeMirror_L1 : Int × (List Rule) × (List (List Rule)) → Option (SR (Int × (List Rule) × (List (List Rule))) Bool) := fun (k2, y2, y3) =>
  bif (decide (k2 < (y2.length : Int))) then
  (idx y2 k2).bind fun x7 =>
  bif (decide (x7.Action ≤ 2)) then
  some (.nxt ((W (k2 + 1)), (List.set y2 (k2 : Int).toNat { x7 with Action := (W (3 - x7.Action)) }), y3))
  else
  some (.nxt ((W (k2 + 1)), y2, y3))
  else
  some (.brk (k2, y2, y3))
def laws_FnJudgeMirror_L0 (x1 : Ruleset × Packet) : Int × (List (List Rule)) → Option (SR (Int × (List (List Rule))) Bool) := fun (k1, y1) =>
  bif (decide (k1 < (x1.1.Chains.length : Int))) then
  (idx x1.1.Chains k1).bind fun x6 =>
  (appF ([] : List Rule) x6).bind fun z1 =>
  (loopF (laws_FnJudgeMirror_L1) 100 (0, z1, y1)).bind fun lr => lr.on (fun (_k3, y4, y5) =>
  (appF y5 [y4]).bind fun z2 =>
  some (.nxt ((W (k1 + 1)), z2))) (fun r => some (.ret r))
  else
  some (.brk (k1, y1))
def laws_FnJudgeMirror (a_code : List Int) : Option Bool :=
  bif (decide (1048576 < (a_code.length : Int))) then
  some true
  else
  (F.spec_DrawJudge a_code).bind fun x1 =>
  (F.impl_Judge ({ Chains := x1.1.Chains, Accept := x1.1.Accept } : Ruleset) ({ From := x1.2.From, To := x1.2.To, Port := x1.2.Port, Proto := x1.2.Proto } : Packet)).bind fun x2 =>
  (F.spec_Judge ({ Chains := x1.1.Chains, Accept := x1.1.Accept } : Ruleset) ({ From := x1.2.From, To := x1.2.To, Port := x1.2.Port, Proto := x1.2.Proto } : Packet)).bind fun x3 =>
  bif (x2 != x3) then
  some false
  else
  (F.spec_RulesetValid ({ Chains := x1.1.Chains, Accept := x1.1.Accept } : Ruleset)).bind fun x4 =>
  bif x4 then
  (F.spec_PacketValid ({ From := x1.2.From, To := x1.2.To, Port := x1.2.Port, Proto := x1.2.Proto } : Packet)).bind fun x5 =>
  bif x5 then
  (loopF (laws_FnJudgeMirror_L0 x1) ((((x1.1.Chains.length : Int)) : Int) - 0).toNat.succ (0, ([] : List (List Rule)))).bind fun lr => lr.on (fun (_k4, y6) =>
  (F.impl_Judge ({ Chains := y6, Accept := (!x1.1.Accept) } : Ruleset) ({ From := x1.2.From, To := x1.2.To, Port := x1.2.Port, Proto := x1.2.Proto } : Packet)).bind fun x8 =>
  some (x8 == (!x2))) (fun r => some r)
  else
  bif x2 then
  some false
  else
  (F.laws_alive).bind fun x9 =>
  some x9
  else
  bif x2 then
  some false
  else
  (F.laws_alive).bind fun x10 =>
  some x10


def laws_FnRuleFirst (a_code : List Int) (a_more : List Int) : Option Bool :=
  bif (decide (1048576 < (a_code.length : Int))) then
  some true
  else
  bif (decide (1048576 < (a_more.length : Int))) then
  some true
  else
  (F.spec_DrawJudge a_code).bind fun x1 =>
  (F.impl_Judge ({ Chains := x1.1.Chains, Accept := x1.1.Accept } : Ruleset) ({ From := x1.2.From, To := x1.2.To, Port := x1.2.Port, Proto := x1.2.Proto } : Packet)).bind fun x2 =>
  (F.spec_Judge ({ Chains := x1.1.Chains, Accept := x1.1.Accept } : Ruleset) ({ From := x1.2.From, To := x1.2.To, Port := x1.2.Port, Proto := x1.2.Proto } : Packet)).bind fun x3 =>
  bif (x2 != x3) then
  some false
  else
  (F.spec_RulesetValid ({ Chains := x1.1.Chains, Accept := x1.1.Accept } : Ruleset)).bind fun x4 =>
  bif x4 then
  (F.spec_PacketValid ({ From := x1.2.From, To := x1.2.To, Port := x1.2.Port, Proto := x1.2.Proto } : Packet)).bind fun x5 =>
  bif x5 then
  (idx x1.1.Chains 0).bind fun x6 =>
  bif ((x6.length : Int) == 8) then
  (F.laws_alive).bind fun x7 =>
  some x7
  else
  (neF x1.1.Chains).bind fun _u1 =>
  (appF ([] : List (List Rule)) x1.1.Chains).bind fun z1 =>
  (appF [({ Tests := ([] : List Test), Action := (W (1 + (((a_more.length : Int)).tmod 2))), Chain := 0 } : Rule)] x6).bind fun z2 =>
  (idx z1 0).bind fun _x8 =>
  (F.impl_Judge ({ Chains := (List.set z1 (0 : Int).toNat z2), Accept := x1.1.Accept } : Ruleset) ({ From := x1.2.From, To := x1.2.To, Port := x1.2.Port, Proto := x1.2.Proto } : Packet)).bind fun x9 =>
  some (x9 == ((W (1 + (((a_more.length : Int)).tmod 2))) == 1))
  else
  (F.laws_alive).bind fun x10 =>
  some x10
  else
  (F.laws_alive).bind fun x11 =>
  some x11


def laws_FnRuleNone (a_code : List Int) : Option Bool :=
  bif (decide (1048576 < (a_code.length : Int))) then
  some true
  else
  (F.spec_DrawJudge a_code).bind fun x1 =>
  (F.impl_Judge ({ Chains := x1.1.Chains, Accept := x1.1.Accept } : Ruleset) ({ From := x1.2.From, To := x1.2.To, Port := x1.2.Port, Proto := x1.2.Proto } : Packet)).bind fun x2 =>
  (F.spec_Judge ({ Chains := x1.1.Chains, Accept := x1.1.Accept } : Ruleset) ({ From := x1.2.From, To := x1.2.To, Port := x1.2.Port, Proto := x1.2.Proto } : Packet)).bind fun x3 =>
  bif (x2 != x3) then
  some false
  else
  (F.spec_RulesetValid ({ Chains := x1.1.Chains, Accept := x1.1.Accept } : Ruleset)).bind fun x4 =>
  bif x4 then
  (idx x1.1.Chains 0).bind fun x5 =>
  bif ((x5.length : Int) == 8) then
  (F.laws_alive).bind fun x6 =>
  some x6
  else
  (neF x1.1.Chains).bind fun _u1 =>
  (appF ([] : List (List Rule)) x1.1.Chains).bind fun z1 =>
  (appF [({ Tests := ([] : List Test), Action := 5, Chain := 0 } : Rule)] x5).bind fun z2 =>
  (idx z1 0).bind fun _x7 =>
  (F.impl_Judge ({ Chains := (List.set z1 (0 : Int).toNat z2), Accept := x1.1.Accept } : Ruleset) ({ From := x1.2.From, To := x1.2.To, Port := x1.2.Port, Proto := x1.2.Proto } : Packet)).bind fun x8 =>
  some (x8 == x2)
  else
  (F.laws_alive).bind fun x9 =>
  some x9


def spec_DrawJudgeTrace (a_code : List Int) : Option (Ruleset × Packet) :=
  (F.spec_l20Open a_code).bind fun x1 =>
  (F.spec_l20Case x1.1 x1.2 20).bind fun x2 =>
  some (({ Chains := x2.1.Chains, Accept := x2.1.Accept } : Ruleset), ({ From := x2.2.1.From, To := x2.2.1.To, Port := x2.2.1.Port, Proto := x2.2.1.Proto } : Packet))


def impl_RuleFits (a_r : Rule) (a_p : Packet) : Option Bool :=
  (F.impl_RuleValid a_r).bind fun x1 =>
  bif x1 then
  (F.impl_PacketValid a_p).bind fun x2 =>
  bif x2 then
  (F.impl_allHold a_r.Tests a_p).bind fun x3 =>
  some x3
  else
  some false
  else
  some false


def laws_FnJudgeTrace_L0 (x1 : Ruleset × Packet) (x2 : List Visit) (x3 : List Visit) : Int → Option (SR (Int) Bool) := fun k1 =>
  bif (decide (k1 < (x2.length : Int))) then
  (idx x2 k1).bind fun x4 =>
  (idx x3 k1).bind fun x5 =>
  bif (!(decide (x4 = x5))) then
  some (.ret false)
  else
  bif (decide (x4.Chain < 0)) then
  some (.ret false)
  else
  bif (decide ((x1.1.Chains.length : Int) ≤ x4.Chain)) then
  some (.ret false)
  else
  bif (decide (x4.Place < 0)) then
  some (.ret false)
  else
  (idx x1.1.Chains x4.Chain).bind fun x6 =>
  bif (decide ((x6.length : Int) ≤ x4.Place)) then
  some (.ret false)
  else
  (idx x6 x4.Place).bind fun x7 =>
  (F.impl_RuleFits x7 ({ From := x1.2.From, To := x1.2.To, Port := x1.2.Port, Proto := x1.2.Proto } : Packet)).bind fun x8 =>
  bif x8 then
  some (.nxt (W (k1 + 1)))
  else
  some (.ret false)
  else
  some (.brk k1)
def laws_FnJudgeTrace (a_code : List Int) : Option Bool :=
  bif (decide (1048576 < (a_code.length : Int))) then
  some true
  else
  (F.spec_DrawJudgeTrace a_code).bind fun x1 =>
  (F.impl_JudgeTrace ({ Chains := x1.1.Chains, Accept := x1.1.Accept } : Ruleset) ({ From := x1.2.From, To := x1.2.To, Port := x1.2.Port, Proto := x1.2.Proto } : Packet)).bind fun x2 =>
  (F.spec_JudgeTrace ({ Chains := x1.1.Chains, Accept := x1.1.Accept } : Ruleset) ({ From := x1.2.From, To := x1.2.To, Port := x1.2.Port, Proto := x1.2.Proto } : Packet)).bind fun x3 =>
  bif ((x2.length : Int) != (x3.length : Int)) then
  some false
  else
  (loopF (laws_FnJudgeTrace_L0 x1 x2 x3) ((((x2.length : Int)) : Int) - 0).toNat.succ 0).bind fun lr => lr.on (fun _k2 =>
  (F.impl_JudgedBy ({ Chains := x1.1.Chains, Accept := x1.1.Accept } : Ruleset) ({ From := x1.2.From, To := x1.2.To, Port := x1.2.Port, Proto := x1.2.Proto } : Packet)).bind fun x9 =>
  bif (x9 != 1) then
  bif (x9 != 2) then
  (F.laws_alive).bind fun x10 =>
  some x10
  else
  bif ((x2.length : Int) == 200) then
  (F.laws_alive).bind fun x11 =>
  some x11
  else
  bif ((x2.length : Int) == 0) then
  some false
  else
  (idx x2 (W ((x2.length : Int) - 1))).bind fun x12 =>
  (idx x1.1.Chains x12.Chain).bind fun x13 =>
  (idx x13 x12.Place).bind fun x14 =>
  some (x14.Action == x9)
  else
  bif ((x2.length : Int) == 200) then
  (F.laws_alive).bind fun x15 =>
  some x15
  else
  bif ((x2.length : Int) == 0) then
  some false
  else
  (idx x2 (W ((x2.length : Int) - 1))).bind fun x16 =>
  (idx x1.1.Chains x16.Chain).bind fun x17 =>
  (idx x17 x16.Place).bind fun x18 =>
  some (x18.Action == x9)) (fun r => some r)


def laws_FnExactBoxValid (a_aB : Box) : Option Bool :=
  (F.laws_szBox a_aB 1048576).bind fun x1 =>
  bif (decide (x1 < 0)) then
  some true
  else
  (F.laws_toBox a_aB).bind fun x2 =>
  (F.spec_BoxValid x2).bind fun x3 =>
  (F.impl_BoxValid x2).bind fun x4 =>
  bif (x4 != x3) then
  some false
  else
  (F.laws_eqBox x2 x2).bind fun x5 =>
  bif x5 then
  some true
  else
  some false


def laws_FnExactBoxEmpty (a_aB : Box) : Option Bool :=
  (F.laws_szBox a_aB 1048576).bind fun x1 =>
  bif (decide (x1 < 0)) then
  some true
  else
  (F.laws_toBox a_aB).bind fun x2 =>
  (F.spec_BoxEmpty x2).bind fun x3 =>
  (F.impl_BoxEmpty x2).bind fun x4 =>
  bif (x4 != x3) then
  some false
  else
  (F.laws_eqBox x2 x2).bind fun x5 =>
  bif x5 then
  some true
  else
  some false


def spec_DrawPacketValid (a_code : List Int) : Option Packet :=
  (F.spec_l20Open a_code).bind fun x1 =>
  (F.spec_l20Packet x1.1 x1.2 2).bind fun x2 =>
  some ({ From := x2.1.From, To := x2.1.To, Port := x2.1.Port, Proto := x2.1.Proto } : Packet)


def laws_FnBoxAll (a_code : List Int) : Option Bool :=
  bif (decide (1048576 < (a_code.length : Int))) then
  some true
  else
  (F.impl_BoxAll).bind fun x1 =>
  (F.spec_BoxAll).bind fun x2 =>
  (F.laws_sameBox x1 x2).bind fun x3 =>
  bif x3 then
  (F.spec_DrawPacketValid a_code).bind fun x4 =>
  (F.impl_BoxValid x1).bind fun x5 =>
  bif x5 then
  (F.impl_BoxEmpty x1).bind fun x6 =>
  bif x6 then
  some false
  else
  (F.impl_BoxHas x1 x4).bind fun x7 =>
  (F.spec_PacketValid x4).bind fun x8 =>
  bif (x7 == x8) then
  (F.laws_alive).bind fun x9 =>
  some x9
  else
  some false
  else
  some false
  else
  some false


def spec_RuleFits (a_r : Rule) (a_p : Packet) : Option Bool :=
  (F.spec_RuleValid a_r).bind fun x1 =>
  bif x1 then
  (F.spec_TestsHold a_r.Tests a_p).bind fun x2 =>
  some x2
  else
  some false


def laws_FnExactRuleFits (a_aR : Rule) (a_aP : Packet) : Option Bool :=
  (F.laws_szRule a_aR 1048576).bind fun x1 =>
  bif (decide (x1 < 0)) then
  some true
  else
  (F.laws_toRule a_aR).bind fun x2 =>
  (F.laws_toPacket a_aP).bind fun x3 =>
  (F.spec_RuleFits x2 x3).bind fun x4 =>
  (F.impl_RuleFits x2 x3).bind fun x5 =>
  bif (x5 != x4) then
  some false
  else
  (F.laws_eqRule x2 x2).bind fun x6 =>
  bif x6 then
  some true
  else
  some false


def spec_DrawRulesValid (a_code : List Int) : Option ((List Rule)) :=
  (F.spec_l20Open a_code).bind fun x1 =>
  (F.spec_l20Rules x1.1 x1.2 1 3 2).bind fun x2 =>
  some x2.1


def laws_FnRulesValid (a_code : List Int) : Option Bool :=
  bif (decide (1048576 < (a_code.length : Int))) then
  some true
  else
  (F.spec_DrawRulesValid a_code).bind fun x1 =>
  (F.impl_RulesValid x1).bind fun x2 =>
  (F.spec_RulesValid x1).bind fun x3 =>
  bif (x2 != x3) then
  some false
  else
  bif x2 then
  (takeF x1 (W (((x1.length : Int)).tdiv 2))).bind fun y1 =>
  (F.impl_RulesValid y1).bind fun x4 =>
  bif x4 then
  (appF ([] : List Rule) x1).bind fun z1 =>
  (appF z1 [({ Tests := ([] : List Test), Action := 0, Chain := 0 } : Rule)]).bind fun z2 =>
  (F.impl_RulesValid z2).bind fun x5 =>
  bif x5 then
  some false
  else
  (F.laws_alive).bind fun x6 =>
  some x6
  else
  some false
  else
  (appF ([] : List Rule) x1).bind fun z3 =>
  (appF z3 [({ Tests := ([] : List Test), Action := 0, Chain := 0 } : Rule)]).bind fun z4 =>
  (F.impl_RulesValid z4).bind fun x7 =>
  bif x7 then
  some false
  else
  (F.laws_alive).bind fun x8 =>
  some x8


def laws_FnExactRegionValid (a_aList : List Box) : Option Bool :=
  (F.laws_szBoxS a_aList 1048576).bind fun x1 =>
  bif (decide (x1 < 0)) then
  some true
  else
  (F.laws_toBoxS a_aList).bind fun x2 =>
  (F.spec_RegionValid x2).bind fun x3 =>
  (F.impl_RegionValid x2).bind fun x4 =>
  bif (x4 != x3) then
  some false
  else
  (F.laws_eqBoxS x2 x2).bind fun x5 =>
  bif x5 then
  some true
  else
  some false


def laws_FnExactBoxHas (a_aB : Box) (a_aP : Packet) : Option Bool :=
  (F.laws_szBox a_aB 1048576).bind fun x1 =>
  bif (decide (x1 < 0)) then
  some true
  else
  (F.laws_toBox a_aB).bind fun x2 =>
  (F.laws_toPacket a_aP).bind fun x3 =>
  (F.spec_BoxHas x2 x3).bind fun x4 =>
  (F.impl_BoxHas x2 x3).bind fun x5 =>
  bif (x5 != x4) then
  some false
  else
  (F.laws_eqBox x2 x2).bind fun x6 =>
  bif x6 then
  some true
  else
  some false


def laws_eqPacket (a_a : Packet) (a_b : Packet) : Option Bool :=
  bif (a_a.From != a_b.From) then
  some false
  else
  bif (a_a.To != a_b.To) then
  some false
  else
  bif (a_a.Port != a_b.Port) then
  some false
  else
  bif (a_a.Proto != a_b.Proto) then
  some false
  else
  some true


def laws_FnExactBoxFirst (a_aB : Box) : Option Bool :=
  (F.laws_szBox a_aB 1048576).bind fun x1 =>
  bif (decide (x1 < 0)) then
  some true
  else
  (F.laws_toBox a_aB).bind fun x2 =>
  (F.spec_BoxFirst x2).bind fun x3 =>
  (F.impl_BoxFirst x2).bind fun x4 =>
  (F.laws_eqPacket x4.1 x3.1).bind fun x5 =>
  bif x5 then
  bif (x4.2 != x3.2) then
  some false
  else
  (F.laws_eqBox x2 x2).bind fun x6 =>
  bif x6 then
  some true
  else
  some false
  else
  some false


def laws_FnExactFlatsValid (a_aList : List Flat) : Option Bool :=
  (F.laws_szFlatS a_aList 1048576).bind fun x1 =>
  bif (decide (x1 < 0)) then
  some true
  else
  (F.laws_toFlatS a_aList).bind fun x2 =>
  (F.spec_FlatsValid x2).bind fun x3 =>
  (F.impl_FlatsValid x2).bind fun x4 =>
  bif (x4 != x3) then
  some false
  else
  (F.laws_eqFlatS x2 x2).bind fun x5 =>
  bif x5 then
  some true
  else
  some false


def spec_FirstFit_L0 (a_list : List Rule) (a_p : Packet) : Int → Option (SR (Int) Int) := fun k1 =>
  bif (decide (0 ≤ k1)) then
  bif (decide (k1 < (a_list.length : Int))) then
  (F.spec_RulesValid a_list).bind fun x1 =>
  bif x1 then
  (idx a_list k1).bind fun x2 =>
  (F.spec_RuleFits x2 a_p).bind fun x3 =>
  bif x3 then
  some (.ret k1)
  else
  some (.nxt (W (k1 + 1)))
  else
  some (.brk k1)
  else
  some (.brk k1)
  else
  some (.brk k1)
def spec_FirstFit (a_list : List Rule) (a_n : Int) (a_p : Packet) : Option Int :=
  (loopF (spec_FirstFit_L0 a_list a_p) ((((a_list.length : Int)) : Int) - a_n).toNat.succ a_n).bind fun lr => lr.on (fun _k2 =>
  some (-1)) (fun r => some r)


def impl_FirstFit_L0 (a_list : List Rule) (a_p : Packet) : Int → Option (SR (Int) Int) := fun k1 =>
  bif (decide (k1 < (a_list.length : Int))) then
  (idx a_list k1).bind fun x3 =>
  (F.impl_allHold x3.Tests a_p).bind fun x4 =>
  bif x4 then
  some (.ret k1)
  else
  some (.nxt (W (k1 + 1)))
  else
  some (.brk k1)
def impl_FirstFit (a_list : List Rule) (a_n : Int) (a_p : Packet) : Option Int :=
  bif (decide (a_n < 0)) then
  some (-1)
  else
  (F.impl_RulesValid a_list).bind fun x1 =>
  bif x1 then
  (F.impl_PacketValid a_p).bind fun x2 =>
  bif x2 then
  (loopF (impl_FirstFit_L0 a_list a_p) ((((a_list.length : Int)) : Int) - a_n).toNat.succ a_n).bind fun lr => lr.on (fun _k2 =>
  some (-1)) (fun r => some r)
  else
  some (-1)
  else
  some (-1)


def laws_FnExactFirstFit (a_aList : List Rule) (a_aN : Int) (a_aP : Packet) : Option Bool :=
  (F.laws_szRuleS a_aList 1048576).bind fun x1 =>
  bif (decide (x1 < 0)) then
  some true
  else
  (F.laws_toRuleS a_aList).bind fun x2 =>
  (F.laws_toPacket a_aP).bind fun x3 =>
  (F.spec_FirstFit x2 a_aN x3).bind fun x4 =>
  (F.impl_FirstFit x2 a_aN x3).bind fun x5 =>
  bif (x5 != x4) then
  some false
  else
  (F.laws_eqRuleS x2 x2).bind fun x6 =>
  bif x6 then
  some true
  else
  some false


def laws_FnExactBoxSame (a_aA : Box) (a_aB : Box) : Option Bool :=
  (F.laws_szBox a_aA 1048576).bind fun x1 =>
  bif (decide (x1 < 0)) then
  some true
  else
  (F.laws_szBox a_aB x1).bind fun x2 =>
  bif (decide (x2 < 0)) then
  some true
  else
  (F.laws_toBox a_aA).bind fun x3 =>
  (F.laws_toBox a_aB).bind fun x4 =>
  (F.spec_BoxSame x3 x4).bind fun x5 =>
  (F.impl_BoxSame x3 x4).bind fun x6 =>
  bif (x6 != x5) then
  some false
  else
  (F.laws_eqBox x3 x3).bind fun x7 =>
  bif x7 then
  (F.laws_eqBox x4 x4).bind fun x8 =>
  bif x8 then
  some true
  else
  some false
  else
  some false


def laws_FnExactRegionHas (a_aList : List Box) (a_aP : Packet) : Option Bool :=
  (F.laws_szBoxS a_aList 1048576).bind fun x1 =>
  bif (decide (x1 < 0)) then
  some true
  else
  (F.laws_toBoxS a_aList).bind fun x2 =>
  (F.laws_toPacket a_aP).bind fun x3 =>
  (F.spec_RegionHas x2 x3).bind fun x4 =>
  (F.impl_RegionHas x2 x3).bind fun x5 =>
  bif (x5 != x4) then
  some false
  else
  (F.laws_eqBoxS x2 x2).bind fun x6 =>
  bif x6 then
  some true
  else
  some false


def laws_FnExactBoxWithin (a_aA : Box) (a_aB : Box) : Option Bool :=
  (F.laws_szBox a_aA 1048576).bind fun x1 =>
  bif (decide (x1 < 0)) then
  some true
  else
  (F.laws_szBox a_aB x1).bind fun x2 =>
  bif (decide (x2 < 0)) then
  some true
  else
  (F.laws_toBox a_aA).bind fun x3 =>
  (F.laws_toBox a_aB).bind fun x4 =>
  (F.spec_BoxWithin x3 x4).bind fun x5 =>
  (F.impl_BoxWithin x3 x4).bind fun x6 =>
  bif (x6 != x5) then
  some false
  else
  (F.laws_eqBox x3 x3).bind fun x7 =>
  bif x7 then
  (F.laws_eqBox x4 x4).bind fun x8 =>
  bif x8 then
  some true
  else
  some false
  else
  some false


def laws_FnExactRulesetValid (a_aS : Ruleset) : Option Bool :=
  (F.laws_szRuleset a_aS 1048576).bind fun x1 =>
  bif (decide (x1 < 0)) then
  some true
  else
  (F.laws_toRuleset a_aS).bind fun x2 =>
  (F.spec_RulesetValid x2).bind fun x3 =>
  (F.impl_RulesetValid x2).bind fun x4 =>
  bif (x4 != x3) then
  some false
  else
  (F.laws_eqRuleset x2 x2).bind fun x5 =>
  bif x5 then
  some true
  else
  some false


def laws_FnExactCallDepth (a_aS : Ruleset) (a_aChain : Int) : Option Bool :=
  (F.laws_szRuleset a_aS 1048576).bind fun x1 =>
  bif (decide (x1 < 0)) then
  some true
  else
  (F.laws_toRuleset a_aS).bind fun x2 =>
  (F.spec_CallDepth x2 a_aChain).bind fun x3 =>
  (F.impl_CallDepth x2 a_aChain).bind fun x4 =>
  bif (x4 != x3) then
  some false
  else
  (F.laws_eqRuleset x2 x2).bind fun x5 =>
  bif x5 then
  some true
  else
  some false


def laws_FnExactJudgedBy (a_aS : Ruleset) (a_aP : Packet) : Option Bool :=
  (F.laws_szRuleset a_aS 1048576).bind fun x1 =>
  bif (decide (x1 < 0)) then
  some true
  else
  (F.laws_toRuleset a_aS).bind fun x2 =>
  (F.laws_toPacket a_aP).bind fun x3 =>
  (F.spec_JudgedBy x2 x3).bind fun x4 =>
  (F.impl_JudgedBy x2 x3).bind fun x5 =>
  bif (x5 != x4) then
  some false
  else
  (F.laws_eqRuleset x2 x2).bind fun x6 =>
  bif x6 then
  some true
  else
  some false


def laws_FnExactJudge (a_aS : Ruleset) (a_aP : Packet) : Option Bool :=
  (F.laws_szRuleset a_aS 1048576).bind fun x1 =>
  bif (decide (x1 < 0)) then
  some true
  else
  (F.laws_toRuleset a_aS).bind fun x2 =>
  (F.laws_toPacket a_aP).bind fun x3 =>
  (F.spec_Judge x2 x3).bind fun x4 =>
  (F.impl_Judge x2 x3).bind fun x5 =>
  bif (x5 != x4) then
  some false
  else
  (F.laws_eqRuleset x2 x2).bind fun x6 =>
  bif x6 then
  some true
  else
  some false


def laws_szPacketS (a_a : List Packet) (a_left : Int) : Option Int :=
  bif (decide ((W (a_left - (a_a.length : Int))) < 0)) then
  some (-1)
  else
  some (W (a_left - (a_a.length : Int)))


def spec_JudgeAll_L0 (a_s : Ruleset) (a_list : List Packet) : Int × Int → Option (SR (Int × Int) Int) := fun (k1, k2) =>
  bif (decide (k2 < (a_list.length : Int))) then
  (idx a_list k2).bind fun x1 =>
  (F.spec_PacketValid x1).bind fun x2 =>
  bif x2 then
  (F.spec_Judge a_s x1).bind fun x3 =>
  bif x3 then
  some (.nxt ((W (k1 + 1)), (W (k2 + 1))))
  else
  some (.nxt (k1, (W (k2 + 1))))
  else
  some (.ret (-1))
  else
  some (.brk (k1, k2))
def spec_JudgeAll (a_s : Ruleset) (a_list : List Packet) : Option Int :=
  (loopF (spec_JudgeAll_L0 a_s a_list) ((((a_list.length : Int)) : Int) - 0).toNat.succ (0, 0)).bind fun lr => lr.on (fun (k3, _k4) =>
  (F.spec_RulesetValid a_s).bind fun x4 =>
  bif x4 then
  bif (decide (50 < (a_list.length : Int))) then
  some (-1)
  else
  some k3
  else
  some (-1)) (fun r => some r)


def laws_toPacketS_L0 (a_a : List Packet) : Int × (List Packet) → Option (SR (Int × (List Packet)) ((List Packet))) := fun (k1, y1) =>
  bif (decide (k1 < (a_a.length : Int))) then
  (idx a_a k1).bind fun x1 =>
  (F.laws_toPacket x1).bind fun x2 =>
  (idx y1 k1).bind fun _x3 =>
  some (.nxt ((W (k1 + 1)), (List.set y1 (k1 : Int).toNat x2)))
  else
  some (.brk (k1, y1))
def laws_toPacketS (a_a : List Packet) : Option ((List Packet)) :=
  (makeF ({ From := (0 : Int), To := (0 : Int), Port := (0 : Int), Proto := (0 : Int) } : Packet) (a_a.length : Int)).bind fun mk1 =>
  (loopF (laws_toPacketS_L0 a_a) ((((a_a.length : Int)) : Int) - 0).toNat.succ (0, mk1)).bind fun lr => lr.on (fun (_k2, y2) =>
  some y2) (fun r => some r)


def impl_packetsValid_L0 (a_list : List Packet) : Int → Option (SR (Int) Bool) := fun k1 =>
  bif (decide (k1 < (a_list.length : Int))) then
  (idx a_list k1).bind fun x1 =>
  (F.impl_PacketValid x1).bind fun x2 =>
  bif x2 then
  some (.nxt (W (k1 + 1)))
  else
  some (.ret false)
  else
  some (.brk k1)
def impl_packetsValid (a_list : List Packet) : Option Bool :=
  bif (decide (50 < (a_list.length : Int))) then
  some false
  else
  (loopF (impl_packetsValid_L0 a_list) ((((a_list.length : Int)) : Int) - 0).toNat.succ 0).bind fun lr => lr.on (fun _k2 =>
  some true) (fun r => some r)


def impl_JudgeAll_L0 (a_s : Ruleset) (a_list : List Packet) : Int × Int → Option (SR (Int × Int) Int) := fun (k1, k2) =>
  bif (decide (k2 < (a_list.length : Int))) then
  (idx a_list k2).bind fun x3 =>
  (F.impl_judgeValid a_s x3).bind fun x4 =>
  bif x4 then
  some (.nxt ((W (k1 + 1)), (W (k2 + 1))))
  else
  some (.nxt (k1, (W (k2 + 1))))
  else
  some (.brk (k1, k2))
def impl_JudgeAll (a_s : Ruleset) (a_list : List Packet) : Option Int :=
  (F.impl_RulesetValid a_s).bind fun x1 =>
  bif x1 then
  (F.impl_packetsValid a_list).bind fun x2 =>
  bif x2 then
  (loopF (impl_JudgeAll_L0 a_s a_list) ((((a_list.length : Int)) : Int) - 0).toNat.succ (0, 0)).bind fun lr => lr.on (fun (k3, _k4) =>
  some k3) (fun r => some r)
  else
  some (-1)
  else
  some (-1)


def laws_eqPacketS_L0 (a_a : List Packet) (a_b : List Packet) : Int → Option (SR (Int) Bool) := fun k1 =>
  bif (decide (k1 < (a_a.length : Int))) then
  (idx a_a k1).bind fun x1 =>
  (idx a_b k1).bind fun x2 =>
  (F.laws_eqPacket x1 x2).bind fun x3 =>
  bif x3 then
  some (.nxt (W (k1 + 1)))
  else
  some (.ret false)
  else
  some (.brk k1)
def laws_eqPacketS (a_a : List Packet) (a_b : List Packet) : Option Bool :=
  bif ((a_a.length : Int) != (a_b.length : Int)) then
  some false
  else
  (loopF (laws_eqPacketS_L0 a_a a_b) ((((a_a.length : Int)) : Int) - 0).toNat.succ 0).bind fun lr => lr.on (fun _k2 =>
  some true) (fun r => some r)


def laws_FnExactJudgeAll (a_aS : Ruleset) (a_aList : List Packet) : Option Bool :=
  (F.laws_szRuleset a_aS 1048576).bind fun x1 =>
  bif (decide (x1 < 0)) then
  some true
  else
  (F.laws_szPacketS a_aList x1).bind fun x2 =>
  bif (decide (x2 < 0)) then
  some true
  else
  (F.laws_toRuleset a_aS).bind fun x3 =>
  (F.laws_toPacketS a_aList).bind fun x4 =>
  (F.spec_JudgeAll x3 x4).bind fun x5 =>
  (F.impl_JudgeAll x3 x4).bind fun x6 =>
  bif (x6 != x5) then
  some false
  else
  (F.laws_eqRuleset x3 x3).bind fun x7 =>
  bif x7 then
  (F.laws_eqPacketS x4 x4).bind fun x8 =>
  bif x8 then
  some true
  else
  some false
  else
  some false


def spec_DrawRuleFits (a_code : List Int) : Option (Rule × Packet) :=
  (F.spec_l20Open a_code).bind fun x1 =>
  (F.spec_l20Rule x1.1 x1.2 1 3 14).bind fun x2 =>
  (F.spec_l20Near x1.1 x2.2 x2.1.Tests 14).bind fun x3 =>
  some (({ Tests := x2.1.Tests, Action := x2.1.Action, Chain := x2.1.Chain } : Rule), ({ From := x3.1.From, To := x3.1.To, Port := x3.1.Port, Proto := x3.1.Proto } : Packet))


def laws_FnRuleFits (a_code : List Int) : Option Bool :=
  bif (decide (1048576 < (a_code.length : Int))) then
  some true
  else
  (F.spec_DrawRuleFits a_code).bind fun x1 =>
  (F.impl_RuleFits ({ Tests := x1.1.Tests, Action := x1.1.Action, Chain := x1.1.Chain } : Rule) ({ From := x1.2.From, To := x1.2.To, Port := x1.2.Port, Proto := x1.2.Proto } : Packet)).bind fun x2 =>
  (F.spec_RuleFits ({ Tests := x1.1.Tests, Action := x1.1.Action, Chain := x1.1.Chain } : Rule) ({ From := x1.2.From, To := x1.2.To, Port := x1.2.Port, Proto := x1.2.Proto } : Packet)).bind fun x3 =>
  bif (x2 != x3) then
  some false
  else
  (F.spec_RuleValid ({ Tests := x1.1.Tests, Action := x1.1.Action, Chain := x1.1.Chain } : Rule)).bind fun x4 =>
  bif x4 then
  (F.impl_TestsHold x1.1.Tests ({ From := x1.2.From, To := x1.2.To, Port := x1.2.Port, Proto := x1.2.Proto } : Packet)).bind fun x5 =>
  bif (x2 == x5) then
  (F.impl_RuleFits ({ Tests := x1.1.Tests, Action := 5, Chain := 0 } : Rule) ({ From := x1.2.From, To := x1.2.To, Port := x1.2.Port, Proto := x1.2.Proto } : Packet)).bind fun x6 =>
  some (x6 == x2)
  else
  some false
  else
  bif x2 then
  some false
  else
  (F.laws_alive).bind fun x7 =>
  some x7


def spec_DrawBoxValid (a_code : List Int) : Option Box :=
  (F.spec_l20Open a_code).bind fun x1 =>
  (F.spec_l20Box x1.1 x1.2 2).bind fun x2 =>
  some ({ Sides := x2.1.Sides } : Box)


def laws_FnBoxValid (a_code : List Int) : Option Bool :=
  bif (decide (1048576 < (a_code.length : Int))) then
  some true
  else
  (F.spec_DrawBoxValid a_code).bind fun x1 =>
  (F.impl_BoxValid x1).bind fun x2 =>
  (F.spec_BoxValid x1).bind fun x3 =>
  bif (x2 != x3) then
  some false
  else
  bif x2 then
  (dropF x1.Sides 1).bind fun y1 =>
  (F.impl_BoxValid ({ Sides := y1 } : Box)).bind fun x4 =>
  bif x4 then
  some false
  else
  (appF ([] : List (List Span)) x1.Sides).bind fun z1 =>
  (appF z1 [([] : List Span)]).bind fun z2 =>
  (F.impl_BoxValid ({ Sides := z2 } : Box)).bind fun x5 =>
  some (!x5)
  else
  (F.laws_alive).bind fun x6 =>
  some x6


def laws_FnFirstFit_L0 (x1 : (List Rule) × Int × Packet) (x2 : Int) : Int → Option (SR (Int) Bool) := fun k1 =>
  bif (decide (k1 < (x1.1.length : Int))) then
  (idx x1.1 k1).bind fun x6 =>
  (F.impl_RuleFits x6 ({ From := x1.2.2.From, To := x1.2.2.To, Port := x1.2.2.Port, Proto := x1.2.2.Proto } : Packet)).bind fun x7 =>
  bif x7 then
  some (.ret (x2 == k1))
  else
  some (.nxt (W (k1 + 1)))
  else
  some (.brk k1)
def laws_FnFirstFit (a_code : List Int) : Option Bool :=
  bif (decide (1048576 < (a_code.length : Int))) then
  some true
  else
  (F.spec_DrawFirstFit a_code).bind fun x1 =>
  (F.impl_FirstFit x1.1 x1.2.1 ({ From := x1.2.2.From, To := x1.2.2.To, Port := x1.2.2.Port, Proto := x1.2.2.Proto } : Packet)).bind fun x2 =>
  (F.spec_FirstFit x1.1 x1.2.1 ({ From := x1.2.2.From, To := x1.2.2.To, Port := x1.2.2.Port, Proto := x1.2.2.Proto } : Packet)).bind fun x3 =>
  bif (x2 != x3) then
  some false
  else
  bif (decide (x1.2.1 < 0)) then
  bif (x2 == (-1)) then
  (F.laws_alive).bind fun x4 =>
  some x4
  else
  some false
  else
  (F.spec_RulesValid x1.1).bind fun x5 =>
  bif x5 then
  (loopF (laws_FnFirstFit_L0 x1 x2) ((((x1.1.length : Int)) : Int) - x1.2.1).toNat.succ x1.2.1).bind fun lr => lr.on (fun _k2 =>
  some (x2 == (-1))) (fun r => some r)
  else
  bif (x2 == (-1)) then
  (F.laws_alive).bind fun x8 =>
  some x8
  else
  some false


end Go.PF.F
