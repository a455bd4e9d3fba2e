/- The program's functions as plain functions; no condition. -/
import Derived.Test.YtgglogmjjaahhaaDoorPFEls
namespace Go.PF.F
open Go Go.PF

def spec_l20Rd_pick (a_xs : List Int) (a_pos : Int) (a_n : Int) : Option (Int × Int) :=
  bif (decide (a_n < 1)) then
  some (0, (W (a_pos + 1)))
  else
  bif ((a_xs.length : Int) == 0) then
  some (0, (W (a_pos + 1)))
  else
  bif (decide ((W ((W (a_pos + 1)) - 1)) < (a_xs.length : Int))) then
  (idx a_xs (W ((W (a_pos + 1)) - 1))).bind fun x1 =>
  (nzF a_n).bind fun _u1 =>
  some ((((W x1)).tmod a_n), (W (a_pos + 1)))
  else
  (nzF (a_xs.length : Int)).bind fun _u2 =>
  (idx a_xs (((W ((W (a_pos + 1)) - 1))).tmod (a_xs.length : Int))).bind fun x2 =>
  (idx a_xs (((W ((W ((W ((W (a_pos + 1)) - 1)) * 7)) + 3))).tmod (a_xs.length : Int))).bind fun x3 =>
  (nzF a_n).bind fun _u3 =>
  some ((((xorF (W ((W ((W ((W ((W x2) * 131)) + (W ((W x3) * 1117)))) + (W ((W ((W (a_pos + 1)) - 1)) * 29)))) + (W ((W (((W ((W (a_pos + 1)) - 1))).tdiv (a_xs.length : Int))) * 53)))) (W (((W ((W ((W ((W ((W x2) * 131)) + (W ((W x3) * 1117)))) + (W ((W ((W (a_pos + 1)) - 1)) * 29)))) + (W ((W (((W ((W (a_pos + 1)) - 1))).tdiv (a_xs.length : Int))) * 53))))).tdiv 64)))).tmod a_n), (W (a_pos + 1)))


def spec_l20Rd_odd (a_xs : List Int) (a_pos : Int) (a_n : Int) : Option (Bool × Int) :=
  bif (decide (0 < a_n)) then
  (F.spec_l20Rd_pick a_xs a_pos a_n).bind fun x1 =>
  some ((x1.1 == (W (a_n - 1))), x1.2)
  else
  some (false, a_pos)


def spec_l20Span (a_xs : List Int) (a_pos : Int) (a_top : Int) (a_n : Int) : Option (Span × Int) :=
  (F.spec_l20Rd_pick a_xs a_pos (imin 256 (W (a_top + 1)))).bind fun x1 =>
  bif (decide (255 < a_top)) then
  (F.spec_l20Rd_pick a_xs x1.2 2).bind fun x2 =>
  bif (x2.1 == 0) then
  (F.spec_l20Rd_pick a_xs x2.2 256).bind fun x3 =>
  (F.spec_l20Rd_pick a_xs x3.2 4).bind fun x4 =>
  (F.spec_l20Rd_pick a_xs x4.2 256).bind fun x5 =>
  (F.spec_l20Rd_pick a_xs x5.2 4).bind fun x6 =>
  (idx [0, x4.1, x5.1, 4096] x6.1).bind fun x7 =>
  (F.spec_l20Rd_odd a_xs x6.2 a_n).bind fun x8 =>
  bif x8.1 then
  (F.spec_l20Rd_pick a_xs x8.2 3).bind fun x9 =>
  (idx [({ Lo := (W ((imin a_top (W ((imin a_top (W ((W (x1.1 * 256)) + x3.1))) + x7))) + 1)), Hi := (imin a_top (W ((imin a_top (W ((W (x1.1 * 256)) + x3.1))) + x7))) } : Span), ({ Lo := (-1), Hi := (imin a_top (W ((imin a_top (W ((W (x1.1 * 256)) + x3.1))) + x7))) } : Span), ({ Lo := (imin a_top (W ((W (x1.1 * 256)) + x3.1))), Hi := (W (a_top + 1)) } : Span)] x9.1).bind fun x10 =>
  some (({ Lo := x10.Lo, Hi := x10.Hi } : Span), x9.2)
  else
  some (({ Lo := (imin a_top (W ((W (x1.1 * 256)) + x3.1))), Hi := (imin a_top (W ((imin a_top (W ((W (x1.1 * 256)) + x3.1))) + x7))) } : Span), x8.2)
  else
  (F.spec_l20Rd_pick a_xs x2.2 4).bind fun x11 =>
  (F.spec_l20Rd_pick a_xs x11.2 256).bind fun x12 =>
  (F.spec_l20Rd_pick a_xs x12.2 4).bind fun x13 =>
  (idx [0, x11.1, x12.1, 4096] x13.1).bind fun x14 =>
  (F.spec_l20Rd_odd a_xs x13.2 a_n).bind fun x15 =>
  bif x15.1 then
  (F.spec_l20Rd_pick a_xs x15.2 3).bind fun x16 =>
  (idx [({ Lo := (W ((imin a_top (W (x1.1 + x14))) + 1)), Hi := (imin a_top (W (x1.1 + x14))) } : Span), ({ Lo := (-1), Hi := (imin a_top (W (x1.1 + x14))) } : Span), ({ Lo := x1.1, Hi := (W (a_top + 1)) } : Span)] x16.1).bind fun x17 =>
  some (({ Lo := x17.Lo, Hi := x17.Hi } : Span), x16.2)
  else
  some (({ Lo := x1.1, Hi := (imin a_top (W (x1.1 + x14))) } : Span), x15.2)
  else
  (F.spec_l20Rd_pick a_xs x1.2 4).bind fun x18 =>
  (F.spec_l20Rd_pick a_xs x18.2 256).bind fun x19 =>
  (F.spec_l20Rd_pick a_xs x19.2 4).bind fun x20 =>
  (idx [0, x18.1, x19.1, 4096] x20.1).bind fun x21 =>
  (F.spec_l20Rd_odd a_xs x20.2 a_n).bind fun x22 =>
  bif x22.1 then
  (F.spec_l20Rd_pick a_xs x22.2 3).bind fun x23 =>
  (idx [({ Lo := (W ((imin a_top (W (x1.1 + x21))) + 1)), Hi := (imin a_top (W (x1.1 + x21))) } : Span), ({ Lo := (-1), Hi := (imin a_top (W (x1.1 + x21))) } : Span), ({ Lo := x1.1, Hi := (W (a_top + 1)) } : Span)] x23.1).bind fun x24 =>
  some (({ Lo := x24.Lo, Hi := x24.Hi } : Span), x23.2)
  else
  some (({ Lo := x1.1, Hi := (imin a_top (W (x1.1 + x21))) } : Span), x22.2)


def spec_FieldTop (a_n : Int) : Option Int :=
  bif (a_n == 0) then
  some 65535
  else
  bif (a_n == 1) then
  some 65535
  else
  bif (a_n == 2) then
  some 255
  else
  bif (a_n == 3) then
  some 7
  else
  some (-1)


def spec_l20Test (a_xs : List Int) (a_pos : Int) (a_n : Int) : Option (Test × Int) :=
  (F.spec_l20Rd_pick a_xs a_pos 4).bind fun x1 =>
  (F.spec_l20Rd_pick a_xs x1.2 4).bind fun x2 =>
  (F.spec_FieldTop x1.1).bind fun x3 =>
  (F.spec_l20Span a_xs x2.2 x3 0).bind fun x4 =>
  bif (decide (x1.1 < 2)) then
  (F.spec_l20Rd_pick a_xs x4.2 2).bind fun x5 =>
  bif (x5.1 == 0) then
  (F.spec_l20Rd_pick a_xs x5.2 20).bind fun x6 =>
  (F.spec_l20Rd_pick a_xs x6.2 8).bind fun x7 =>
  (F.spec_l20Rd_pick a_xs x7.2 8).bind fun x8 =>
  bif (x8.1 == 0) then
  (F.spec_l20Rd_pick a_xs x8.2 3).bind fun x9 =>
  (idx [({ Lo := 0, Hi := x3 } : Span), ({ Lo := 0, Hi := (W (x6.1 + x7.1)) } : Span), ({ Lo := x6.1, Hi := x3 } : Span)] x9.1).bind fun x10 =>
  (F.spec_l20Rd_odd a_xs x9.2 a_n).bind fun x11 =>
  bif x11.1 then
  (F.spec_l20Rd_pick a_xs x11.2 3).bind fun x12 =>
  bif (x12.1 == 0) then
  (F.spec_l20Rd_pick a_xs x12.2 2).bind fun x13 =>
  (idx [(-1), 4] x13.1).bind fun x14 =>
  some (({ Field := x14, Lo := x10.Lo, Hi := x10.Hi, Not := (x2.1 == 0) } : Test), x13.2)
  else
  bif (x12.1 == 1) then
  some (({ Field := x1.1, Lo := (W (x10.Hi + 1)), Hi := x10.Hi, Not := (x2.1 == 0) } : Test), x12.2)
  else
  some (({ Field := x1.1, Lo := x10.Lo, Hi := (W (x3 + 1)), Not := (x2.1 == 0) } : Test), x12.2)
  else
  some (({ Field := x1.1, Lo := x10.Lo, Hi := x10.Hi, Not := (x2.1 == 0) } : Test), x11.2)
  else
  (F.spec_l20Rd_odd a_xs x8.2 a_n).bind fun x15 =>
  bif x15.1 then
  (F.spec_l20Rd_pick a_xs x15.2 3).bind fun x16 =>
  bif (x16.1 == 0) then
  (F.spec_l20Rd_pick a_xs x16.2 2).bind fun x17 =>
  (idx [(-1), 4] x17.1).bind fun x18 =>
  some (({ Field := x18, Lo := x6.1, Hi := (W (x6.1 + x7.1)), Not := (x2.1 == 0) } : Test), x17.2)
  else
  bif (x16.1 == 1) then
  some (({ Field := x1.1, Lo := (W ((W (x6.1 + x7.1)) + 1)), Hi := (W (x6.1 + x7.1)), Not := (x2.1 == 0) } : Test), x16.2)
  else
  some (({ Field := x1.1, Lo := x6.1, Hi := (W (x3 + 1)), Not := (x2.1 == 0) } : Test), x16.2)
  else
  some (({ Field := x1.1, Lo := x6.1, Hi := (W (x6.1 + x7.1)), Not := (x2.1 == 0) } : Test), x15.2)
  else
  (F.spec_l20Rd_pick a_xs x5.2 8).bind fun x19 =>
  bif (x19.1 == 0) then
  (F.spec_l20Rd_pick a_xs x19.2 3).bind fun x20 =>
  (idx [({ Lo := 0, Hi := x3 } : Span), ({ Lo := 0, Hi := x4.1.Hi } : Span), ({ Lo := x4.1.Lo, Hi := x3 } : Span)] x20.1).bind fun x21 =>
  (F.spec_l20Rd_odd a_xs x20.2 a_n).bind fun x22 =>
  bif x22.1 then
  (F.spec_l20Rd_pick a_xs x22.2 3).bind fun x23 =>
  bif (x23.1 == 0) then
  (F.spec_l20Rd_pick a_xs x23.2 2).bind fun x24 =>
  (idx [(-1), 4] x24.1).bind fun x25 =>
  some (({ Field := x25, Lo := x21.Lo, Hi := x21.Hi, Not := (x2.1 == 0) } : Test), x24.2)
  else
  bif (x23.1 == 1) then
  some (({ Field := x1.1, Lo := (W (x21.Hi + 1)), Hi := x21.Hi, Not := (x2.1 == 0) } : Test), x23.2)
  else
  some (({ Field := x1.1, Lo := x21.Lo, Hi := (W (x3 + 1)), Not := (x2.1 == 0) } : Test), x23.2)
  else
  some (({ Field := x1.1, Lo := x21.Lo, Hi := x21.Hi, Not := (x2.1 == 0) } : Test), x22.2)
  else
  (F.spec_l20Rd_odd a_xs x19.2 a_n).bind fun x26 =>
  bif x26.1 then
  (F.spec_l20Rd_pick a_xs x26.2 3).bind fun x27 =>
  bif (x27.1 == 0) then
  (F.spec_l20Rd_pick a_xs x27.2 2).bind fun x28 =>
  (idx [(-1), 4] x28.1).bind fun x29 =>
  some (({ Field := x29, Lo := x4.1.Lo, Hi := x4.1.Hi, Not := (x2.1 == 0) } : Test), x28.2)
  else
  bif (x27.1 == 1) then
  some (({ Field := x1.1, Lo := (W (x4.1.Hi + 1)), Hi := x4.1.Hi, Not := (x2.1 == 0) } : Test), x27.2)
  else
  some (({ Field := x1.1, Lo := x4.1.Lo, Hi := (W (x3 + 1)), Not := (x2.1 == 0) } : Test), x27.2)
  else
  some (({ Field := x1.1, Lo := x4.1.Lo, Hi := x4.1.Hi, Not := (x2.1 == 0) } : Test), x26.2)
  else
  (F.spec_l20Rd_pick a_xs x4.2 8).bind fun x30 =>
  bif (x30.1 == 0) then
  (F.spec_l20Rd_pick a_xs x30.2 3).bind fun x31 =>
  (idx [({ Lo := 0, Hi := x3 } : Span), ({ Lo := 0, Hi := x4.1.Hi } : Span), ({ Lo := x4.1.Lo, Hi := x3 } : Span)] x31.1).bind fun x32 =>
  (F.spec_l20Rd_odd a_xs x31.2 a_n).bind fun x33 =>
  bif x33.1 then
  (F.spec_l20Rd_pick a_xs x33.2 3).bind fun x34 =>
  bif (x34.1 == 0) then
  (F.spec_l20Rd_pick a_xs x34.2 2).bind fun x35 =>
  (idx [(-1), 4] x35.1).bind fun x36 =>
  some (({ Field := x36, Lo := x32.Lo, Hi := x32.Hi, Not := (x2.1 == 0) } : Test), x35.2)
  else
  bif (x34.1 == 1) then
  some (({ Field := x1.1, Lo := (W (x32.Hi + 1)), Hi := x32.Hi, Not := (x2.1 == 0) } : Test), x34.2)
  else
  some (({ Field := x1.1, Lo := x32.Lo, Hi := (W (x3 + 1)), Not := (x2.1 == 0) } : Test), x34.2)
  else
  some (({ Field := x1.1, Lo := x32.Lo, Hi := x32.Hi, Not := (x2.1 == 0) } : Test), x33.2)
  else
  (F.spec_l20Rd_odd a_xs x30.2 a_n).bind fun x37 =>
  bif x37.1 then
  (F.spec_l20Rd_pick a_xs x37.2 3).bind fun x38 =>
  bif (x38.1 == 0) then
  (F.spec_l20Rd_pick a_xs x38.2 2).bind fun x39 =>
  (idx [(-1), 4] x39.1).bind fun x40 =>
  some (({ Field := x40, Lo := x4.1.Lo, Hi := x4.1.Hi, Not := (x2.1 == 0) } : Test), x39.2)
  else
  bif (x38.1 == 1) then
  some (({ Field := x1.1, Lo := (W (x4.1.Hi + 1)), Hi := x4.1.Hi, Not := (x2.1 == 0) } : Test), x38.2)
  else
  some (({ Field := x1.1, Lo := x4.1.Lo, Hi := (W (x3 + 1)), Not := (x2.1 == 0) } : Test), x38.2)
  else
  some (({ Field := x1.1, Lo := x4.1.Lo, Hi := x4.1.Hi, Not := (x2.1 == 0) } : Test), x37.2)


def spec_l20Tests_L0 (a_xs : List Int) : (List Test) × Int × Int → Option (SR ((List Test) × Int × Int) (((List Test)) × Int)) := fun (y1, k1, k2) =>
  bif (decide (0 < k1)) then
  (F.spec_l20Test a_xs k2 0).bind fun x2 =>
  (appF y1 [x2.1]).bind fun z1 =>
  some (.nxt (z1, (W (k1 - 1)), x2.2))
  else
  some (.brk (y1, k1, k2))
def spec_l20Tests (a_xs : List Int) (a_pos : Int) (a_n : Int) : Option (((List Test)) × Int) :=
  (F.spec_l20Rd_pick a_xs a_pos 4).bind fun x1 =>
  (loopF (spec_l20Tests_L0 a_xs) ((x1.1) : Int).toNat.succ (([] : List Test), x1.1, x1.2)).bind fun lr => lr.on (fun (y2, _k3, k4) =>
  (F.spec_l20Rd_odd a_xs k4 a_n).bind fun x3 =>
  bif x3.1 then
  (F.spec_l20Rd_pick a_xs x3.2 2).bind fun x4 =>
  bif (x4.1 == 0) then
  (F.spec_l20Test a_xs x4.2 1).bind fun x5 =>
  (appF y2 [x5.1]).bind fun z2 =>
  some (z2, x5.2)
  else
  (makeF ({ Field := (0 : Int), Lo := (0 : Int), Hi := (0 : Int), Not := false } : Test) 7).bind fun mk1 =>
  some (mk1, x4.2)
  else
  some (y2, x3.2)) (fun r => some r)


def spec_l20Rule (a_xs : List Int) (a_pos : Int) (a_first : Int) (a_chains : Int) (a_n : Int) : Option (Rule × Int) :=
  (F.spec_l20Tests a_xs a_pos 0).bind fun x1 =>
  (F.spec_l20Rd_pick a_xs x1.2 8).bind fun x2 =>
  (idx [1, 1, 2, 2, 3, 3, 4, 5] x2.1).bind fun x3 =>
  bif (x3 == 3) then
  bif (decide (a_chains ≤ a_first)) then
  (F.spec_l20Rd_odd a_xs x2.2 a_n).bind fun x4 =>
  bif x4.1 then
  (F.spec_l20Rd_pick a_xs x4.2 3).bind fun x5 =>
  bif (x5.1 == 0) then
  (F.spec_l20Rd_pick a_xs x5.2 2).bind fun x6 =>
  (idx [0, 6] x6.1).bind fun x7 =>
  some (({ Tests := x1.1, Action := x7, Chain := 0 } : Rule), x6.2)
  else
  bif (x5.1 == 1) then
  (F.spec_l20Rd_pick a_xs x5.2 3).bind fun x8 =>
  (idx [(-1), 5, 1] x8.1).bind fun x9 =>
  some (({ Tests := x1.1, Action := 2, Chain := x9 } : Rule), x8.2)
  else
  (F.spec_l20Tests a_xs x5.2 1).bind fun x10 =>
  some (({ Tests := x10.1, Action := 2, Chain := 0 } : Rule), x10.2)
  else
  some (({ Tests := x1.1, Action := 2, Chain := 0 } : Rule), x4.2)
  else
  (F.spec_l20Rd_pick a_xs x2.2 (W (a_chains - a_first))).bind fun x11 =>
  (F.spec_l20Rd_odd a_xs x11.2 a_n).bind fun x12 =>
  bif x12.1 then
  (F.spec_l20Rd_pick a_xs x12.2 3).bind fun x13 =>
  bif (x13.1 == 0) then
  (F.spec_l20Rd_pick a_xs x13.2 2).bind fun x14 =>
  (idx [0, 6] x14.1).bind fun x15 =>
  some (({ Tests := x1.1, Action := x15, Chain := (W (a_first + x11.1)) } : Rule), x14.2)
  else
  bif (x13.1 == 1) then
  (F.spec_l20Rd_pick a_xs x13.2 3).bind fun x16 =>
  (idx [(-1), 5, 1] x16.1).bind fun x17 =>
  some (({ Tests := x1.1, Action := x3, Chain := x17 } : Rule), x16.2)
  else
  (F.spec_l20Tests a_xs x13.2 1).bind fun x18 =>
  some (({ Tests := x18.1, Action := x3, Chain := (W (a_first + x11.1)) } : Rule), x18.2)
  else
  some (({ Tests := x1.1, Action := x3, Chain := (W (a_first + x11.1)) } : Rule), x12.2)
  else
  (F.spec_l20Rd_odd a_xs x2.2 a_n).bind fun x19 =>
  bif x19.1 then
  (F.spec_l20Rd_pick a_xs x19.2 3).bind fun x20 =>
  bif (x20.1 == 0) then
  (F.spec_l20Rd_pick a_xs x20.2 2).bind fun x21 =>
  (idx [0, 6] x21.1).bind fun x22 =>
  some (({ Tests := x1.1, Action := x22, Chain := 0 } : Rule), x21.2)
  else
  bif (x20.1 == 1) then
  (F.spec_l20Rd_pick a_xs x20.2 3).bind fun x23 =>
  (idx [(-1), 5, 1] x23.1).bind fun x24 =>
  some (({ Tests := x1.1, Action := x3, Chain := x24 } : Rule), x23.2)
  else
  (F.spec_l20Tests a_xs x20.2 1).bind fun x25 =>
  some (({ Tests := x25.1, Action := x3, Chain := 0 } : Rule), x25.2)
  else
  some (({ Tests := x1.1, Action := x3, Chain := 0 } : Rule), x19.2)


def spec_l20Rules_L1 : (List Rule) → Option (SR ((List Rule)) (((List Rule)) × Int)) := fun y3 =>
  bif (decide ((y3.length : Int) ≤ 8)) then
  (appF y3 [({ Tests := ([] : List Test), Action := 5, Chain := 0 } : Rule)]).bind fun z3 =>
  some (.nxt z3)
  else
  some (.brk y3)
def spec_l20Rules_L0 (a_xs : List Int) (a_first : Int) (a_chains : Int) : (List Rule) × Int × Int → Option (SR ((List Rule) × Int × Int) (((List Rule)) × Int)) := fun (y1, k1, k2) =>
  bif (decide (0 < k1)) then
  (F.spec_l20Rule a_xs k2 a_first a_chains 0).bind fun x2 =>
  (appF y1 [x2.1]).bind fun z1 =>
  some (.nxt (z1, (W (k1 - 1)), x2.2))
  else
  some (.brk (y1, k1, k2))
def spec_l20Rules (a_xs : List Int) (a_pos : Int) (a_first : Int) (a_chains : Int) (a_n : Int) : Option (((List Rule)) × Int) :=
  (F.spec_l20Rd_pick a_xs a_pos 5).bind fun x1 =>
  (loopF (spec_l20Rules_L0 a_xs a_first a_chains) ((x1.1) : Int).toNat.succ (([] : List Rule), x1.1, x1.2)).bind fun lr => lr.on (fun (y2, _k3, k4) =>
  (F.spec_l20Rd_odd a_xs k4 a_n).bind fun x3 =>
  bif x3.1 then
  (F.spec_l20Rd_pick a_xs x3.2 2).bind fun x4 =>
  bif (x4.1 == 0) then
  (F.spec_l20Rule a_xs x4.2 a_first a_chains 1).bind fun x5 =>
  (appF y2 [x5.1]).bind fun z2 =>
  some (z2, x5.2)
  else
  (loopF (spec_l20Rules_L1) 10 y2).bind fun lr => lr.on (fun y4 =>
  some (y4, x4.2)) (fun r => some r)
  else
  some (y2, x3.2)) (fun r => some r)


def spec_l20Ruleset_L0 (a_xs : List Int) (x2 : Int × Int) : Int × Int × (List (List Rule)) → Option (SR (Int × Int × (List (List Rule))) (Ruleset × Int)) := fun (k1, k2, y1) =>
  bif (decide (k1 < (W (1 + x2.1)))) then
  (F.spec_l20Rules a_xs k2 (W (k1 + 1)) (W (1 + x2.1)) 0).bind fun x3 =>
  (appF y1 [x3.1]).bind fun z1 =>
  some (.nxt ((W (k1 + 1)), x3.2, z1))
  else
  some (.brk (k1, k2, y1))
def spec_l20Ruleset (a_xs : List Int) (a_pos : Int) (a_n : Int) : Option (Ruleset × Int) :=
  (F.spec_l20Rd_pick a_xs a_pos 2).bind fun x1 =>
  (F.spec_l20Rd_pick a_xs x1.2 3).bind fun x2 =>
  (loopF (spec_l20Ruleset_L0 a_xs x2) ((((W (1 + x2.1))) : Int) - 0).toNat.succ (0, x2.2, ([] : List (List Rule)))).bind fun lr => lr.on (fun (_k3, k4, y2) =>
  (F.spec_l20Rd_odd a_xs k4 a_n).bind fun x4 =>
  bif x4.1 then
  (F.spec_l20Rd_pick a_xs x4.2 4).bind fun x5 =>
  bif (x5.1 == 0) then
  some (({ Chains := ([] : List (List Rule)), Accept := (x1.1 == 0) } : Ruleset), x5.2)
  else
  bif (x5.1 == 1) then
  (idx y2 0).bind fun x6 =>
  (F.spec_l20Rd_pick a_xs x5.2 2).bind fun x7 =>
  (idx [0, (W (1 + x2.1))] x7.1).bind fun x8 =>
  (appF x6 [({ Tests := ([] : List Test), Action := 3, Chain := x8 } : Rule)]).bind fun z2 =>
  some (({ Chains := (List.set y2 (0 : Int).toNat z2), Accept := (x1.1 == 0) } : Ruleset), x7.2)
  else
  bif (x5.1 == 2) then
  (idx y2 (W ((W (1 + x2.1)) - 1))).bind fun _x9 =>
  (idx (List.set y2 ((W ((W (1 + x2.1)) - 1)) : Int).toNat [({ Tests := ([] : List Test), Action := 3, Chain := 0 } : Rule)]) 0).bind fun _x10 =>
  some (({ Chains := (List.set (List.set y2 ((W ((W (1 + x2.1)) - 1)) : Int).toNat [({ Tests := ([] : List Test), Action := 3, Chain := 0 } : Rule)]) (0 : Int).toNat [({ Tests := ([] : List Test), Action := 3, Chain := (W ((W (1 + x2.1)) - 1)) } : Rule)]), Accept := (x1.1 == 0) } : Ruleset), x5.2)
  else
  (F.spec_l20Rules a_xs x5.2 1 (W (1 + x2.1)) 1).bind fun x11 =>
  (idx y2 0).bind fun _x12 =>
  some (({ Chains := (List.set y2 (0 : Int).toNat x11.1), Accept := (x1.1 == 0) } : Ruleset), x11.2)
  else
  some (({ Chains := y2, Accept := (x1.1 == 0) } : Ruleset), x4.2)) (fun r => some r)


def spec_l1In (a_n : Int) (a_lo : Int) (a_hi : Int) : Option Bool :=
  bif (decide (a_lo ≤ a_n)) then
  some (decide (a_n ≤ a_hi))
  else
  some false


def spec_TestValid (a_t : Test) : Option Bool :=
  (F.spec_l1In a_t.Field 0 3).bind fun x1 =>
  bif x1 then
  (F.spec_l1In a_t.Lo 0 a_t.Hi).bind fun x2 =>
  bif x2 then
  (F.spec_FieldTop a_t.Field).bind fun x3 =>
  some (decide (a_t.Hi ≤ x3))
  else
  some false
  else
  some false


def spec_l20Packet (a_xs : List Int) (a_pos : Int) (a_n : Int) : Option (Packet × Int) :=
  (F.spec_l20Rd_pick a_xs a_pos 20).bind fun x1 =>
  (F.spec_l20Rd_pick a_xs x1.2 20).bind fun x2 =>
  (F.spec_l20Rd_pick a_xs x2.2 256).bind fun x3 =>
  (F.spec_l20Rd_pick a_xs x3.2 8).bind fun x4 =>
  (F.spec_l20Rd_pick a_xs x4.2 2).bind fun x5 =>
  bif (x5.1 == 0) then
  (F.spec_l20Rd_pick a_xs x5.2 256).bind fun x6 =>
  (F.spec_l20Rd_pick a_xs x6.2 256).bind fun x7 =>
  (F.spec_l20Rd_pick a_xs x7.2 4).bind fun x8 =>
  (F.spec_l20Rd_pick a_xs x8.2 256).bind fun x9 =>
  (F.spec_l20Rd_pick a_xs x9.2 12).bind fun x10 =>
  (F.spec_l20Rd_odd a_xs x10.2 a_n).bind fun x11 =>
  bif x11.1 then
  (F.spec_l20Rd_pick a_xs x11.2 4).bind fun x12 =>
  bif (x12.1 == 0) then
  (F.spec_l20Rd_pick a_xs x12.2 2).bind fun x13 =>
  (idx [(-1), 65536] x13.1).bind fun x14 =>
  some (({ From := x14, To := (W ((W (x8.1 * 16384)) + x9.1)), Port := x10.1, Proto := x4.1 } : Packet), x13.2)
  else
  bif (x12.1 == 1) then
  (F.spec_l20Rd_pick a_xs x12.2 2).bind fun x15 =>
  (idx [(-1), 65536] x15.1).bind fun x16 =>
  some (({ From := (W ((W (x6.1 * 256)) + x7.1)), To := x16, Port := x10.1, Proto := x4.1 } : Packet), x15.2)
  else
  bif (x12.1 == 2) then
  (F.spec_l20Rd_pick a_xs x12.2 2).bind fun x17 =>
  (idx [(-1), 256] x17.1).bind fun x18 =>
  some (({ From := (W ((W (x6.1 * 256)) + x7.1)), To := (W ((W (x8.1 * 16384)) + x9.1)), Port := x18, Proto := x4.1 } : Packet), x17.2)
  else
  (F.spec_l20Rd_pick a_xs x12.2 2).bind fun x19 =>
  (idx [(-1), 8] x19.1).bind fun x20 =>
  some (({ From := (W ((W (x6.1 * 256)) + x7.1)), To := (W ((W (x8.1 * 16384)) + x9.1)), Port := x10.1, Proto := x20 } : Packet), x19.2)
  else
  some (({ From := (W ((W (x6.1 * 256)) + x7.1)), To := (W ((W (x8.1 * 16384)) + x9.1)), Port := x10.1, Proto := x4.1 } : Packet), x11.2)
  else
  (F.spec_l20Rd_odd a_xs x5.2 a_n).bind fun x21 =>
  bif x21.1 then
  (F.spec_l20Rd_pick a_xs x21.2 4).bind fun x22 =>
  bif (x22.1 == 0) then
  (F.spec_l20Rd_pick a_xs x22.2 2).bind fun x23 =>
  (idx [(-1), 65536] x23.1).bind fun x24 =>
  some (({ From := x24, To := x2.1, Port := x3.1, Proto := x4.1 } : Packet), x23.2)
  else
  bif (x22.1 == 1) then
  (F.spec_l20Rd_pick a_xs x22.2 2).bind fun x25 =>
  (idx [(-1), 65536] x25.1).bind fun x26 =>
  some (({ From := x1.1, To := x26, Port := x3.1, Proto := x4.1 } : Packet), x25.2)
  else
  bif (x22.1 == 2) then
  (F.spec_l20Rd_pick a_xs x22.2 2).bind fun x27 =>
  (idx [(-1), 256] x27.1).bind fun x28 =>
  some (({ From := x1.1, To := x2.1, Port := x28, Proto := x4.1 } : Packet), x27.2)
  else
  (F.spec_l20Rd_pick a_xs x22.2 2).bind fun x29 =>
  (idx [(-1), 8] x29.1).bind fun x30 =>
  some (({ From := x1.1, To := x2.1, Port := x3.1, Proto := x30 } : Packet), x29.2)
  else
  some (({ From := x1.1, To := x2.1, Port := x3.1, Proto := x4.1 } : Packet), x21.2)


def spec_l20Near_L0 (a_xs : List Int) (a_list : List Test) : Int × Int × Int × Int × Int × Int → Option (SR (Int × Int × Int × Int × Int × Int) (Packet × Int)) := fun (k1, k2, k3, k4, k5, k6) =>
  bif (decide (k1 < (a_list.length : Int))) then
  (idx a_list k1).bind fun x2 =>
  (F.spec_TestValid x2).bind fun x3 =>
  bif x3 then
  (F.spec_l20Rd_pick a_xs k2 3).bind fun x4 =>
  bif (x4.1 == 0) then
  some (.nxt ((W (k1 + 1)), x4.2, k3, k4, k5, k6))
  else
  (F.spec_FieldTop x2.Field).bind fun x5 =>
  (F.spec_l20Rd_pick a_xs x4.2 4).bind fun x6 =>
  (idx [x2.Lo, x2.Hi, (imax 0 (W (x2.Lo - 1))), (imin x5 (W (x2.Hi + 1)))] x6.1).bind fun x7 =>
  bif (x2.Field == 0) then
  some (.nxt ((W (k1 + 1)), x6.2, x7, k4, k5, k6))
  else
  bif (x2.Field == 1) then
  some (.nxt ((W (k1 + 1)), x6.2, k3, x7, k5, k6))
  else
  bif (x2.Field == 2) then
  some (.nxt ((W (k1 + 1)), x6.2, k3, k4, x7, k6))
  else
  some (.nxt ((W (k1 + 1)), x6.2, k3, k4, k5, x7))
  else
  some (.nxt ((W (k1 + 1)), k2, k3, k4, k5, k6))
  else
  some (.brk (k1, k2, k3, k4, k5, k6))
def spec_l20Near (a_xs : List Int) (a_pos : Int) (a_list : List Test) (a_n : Int) : Option (Packet × Int) :=
  (F.spec_l20Packet a_xs a_pos a_n).bind fun x1 =>
  (loopF (spec_l20Near_L0 a_xs a_list) ((((a_list.length : Int)) : Int) - 0).toNat.succ (0, x1.2, x1.1.From, x1.1.To, x1.1.Port, x1.1.Proto)).bind fun lr => lr.on (fun (_k7, k8, k9, k10, k11, k12) =>
  some (({ From := k9, To := k10, Port := k11, Proto := k12 } : Packet), k8)) (fun r => some r)


def spec_l20Case_L1 (a_xs : List Int) (x1 : Ruleset × Int) (k1 : Int) : (List Test) × Int × Int → Option (SR ((List Test) × Int × Int) (Ruleset × Packet × Int)) := fun (y2, k3, k4) =>
  (idx x1.1.Chains k1).bind fun x2 =>
  bif (decide (k3 < (x2.length : Int))) then
  (F.spec_l20Rd_pick a_xs k4 3).bind fun x3 =>
  bif (x3.1 == 0) then
  (idx x2 k3).bind fun x4 =>
  (appF y2 x4.Tests).bind fun z1 =>
  some (.nxt (z1, (W (k3 + 1)), x3.2))
  else
  some (.nxt (y2, (W (k3 + 1)), x3.2))
  else
  some (.brk (y2, k3, k4))
def spec_l20Case_L0 (a_xs : List Int) (x1 : Ruleset × Int) : (List Test) × Int × Int → Option (SR ((List Test) × Int × Int) (Ruleset × Packet × Int)) := fun (y1, k1, k2) =>
  bif (decide (k1 < (x1.1.Chains.length : Int))) then
  (loopF (spec_l20Case_L1 a_xs x1 k1) ((((((idx x1.1.Chains k1).getD []).length : Int)) : Int) - 0).toNat.succ (y1, 0, k2)).bind fun lr => lr.on (fun (y3, _k5, k6) =>
  some (.nxt (y3, (W (k1 + 1)), k6))) (fun r => some (.ret r))
  else
  some (.brk (y1, k1, k2))
def spec_l20Case (a_xs : List Int) (a_pos : Int) (a_n : Int) : Option (Ruleset × Packet × Int) :=
  (F.spec_l20Ruleset a_xs a_pos a_n).bind fun x1 =>
  (loopF (spec_l20Case_L0 a_xs x1) ((((x1.1.Chains.length : Int)) : Int) - 0).toNat.succ (([] : List Test), 0, x1.2)).bind fun lr => lr.on (fun (y4, _k7, k8) =>
  (F.spec_l20Near a_xs k8 y4 a_n).bind fun x5 =>
  some (({ Chains := x1.1.Chains, Accept := x1.1.Accept } : Ruleset), ({ From := x5.1.From, To := x5.1.To, Port := x5.1.Port, Proto := x5.1.Proto } : Packet), x5.2)) (fun r => some r)


def spec_l20Open (a_code : List Int) : Option (List Int × Int) :=
  bif (decide (2000 < (a_code.length : Int))) then
  (takeF a_code 2000).bind fun y1 =>
  some (y1, 0)
  else
  some (a_code, 0)


def spec_DrawJudge (a_code : List Int) : Option (Ruleset × Packet) :=
  (F.spec_l20Open a_code).bind fun x1 =>
  (F.spec_l20Case x1.1 x1.2 20).bind fun x2 =>
  some (({ Chains := x2.1.Chains, Accept := x2.1.Accept } : Ruleset), ({ From := x2.2.1.From, To := x2.2.1.To, Port := x2.2.1.Port, Proto := x2.2.1.Proto } : Packet))


def impl_callsIn_L1 (y2 : List Bool) : (List Int) × Int → Option (SR ((List Int) × Int) ((List Int))) := fun (y3, k3) =>
  bif (decide (k3 < 5)) then
  (idx y2 k3).bind fun x3 =>
  bif x3 then
  (appF y3 [k3]).bind fun z1 =>
  some (.nxt (z1, (W (k3 + 1))))
  else
  some (.nxt (y3, (W (k3 + 1))))
  else
  some (.brk (y3, k3))
def impl_callsIn_L0 (a_rules : List Rule) : Int × (List Bool) → Option (SR (Int × (List Bool)) ((List Int))) := fun (k1, y1) =>
  bif (decide (k1 < (a_rules.length : Int))) then
  (idx a_rules k1).bind fun x1 =>
  bif (x1.Action == 3) then
  (idx y1 x1.Chain).bind fun _x2 =>
  some (.nxt ((W (k1 + 1)), (List.set y1 (x1.Chain : Int).toNat true)))
  else
  some (.nxt ((W (k1 + 1)), y1))
  else
  some (.brk (k1, y1))
def impl_callsIn (a_rules : List Rule) : Option ((List Int)) :=
  (loopF (impl_callsIn_L0 a_rules) ((((a_rules.length : Int)) : Int) - 0).toNat.succ (0, [false, false, false, false, false])).bind fun lr => lr.on (fun (_k2, y2) =>
  (loopF (impl_callsIn_L1 y2) (((5) : Int) - 0).toNat.succ (([] : List Int), 0)).bind fun lr => lr.on (fun (y4, _k4) =>
  some y4) (fun r => some r)) (fun r => some r)


def impl_FieldTop (a_n : Int) : Option Int :=
  bif (decide (a_n < 0)) then
  some (-1)
  else
  bif (decide (4 ≤ a_n)) then
  some (-1)
  else
  (idx shapes a_n).bind fun x1 =>
  some x1.top


def impl_TestValid (a_t : Test) : Option Bool :=
  bif (decide (0 ≤ a_t.Field)) then
  bif (decide (a_t.Field < 4)) then
  bif (decide (0 ≤ a_t.Lo)) then
  bif (decide (a_t.Lo ≤ a_t.Hi)) then
  (F.impl_FieldTop a_t.Field).bind fun x1 =>
  some (decide (a_t.Hi ≤ x1))
  else
  some false
  else
  some false
  else
  some false
  else
  some false


def impl_TestsValid_L0 (a_list : List Test) : Int → Option (SR (Int) Bool) := fun k1 =>
  bif (decide (k1 < (a_list.length : Int))) then
  (idx a_list k1).bind fun x1 =>
  (F.impl_TestValid x1).bind fun x2 =>
  bif x2 then
  some (.nxt (W (k1 + 1)))
  else
  some (.ret false)
  else
  some (.brk k1)
def impl_TestsValid (a_list : List Test) : Option Bool :=
  bif (decide (6 < (a_list.length : Int))) then
  some false
  else
  (loopF (impl_TestsValid_L0 a_list) ((((a_list.length : Int)) : Int) - 0).toNat.succ 0).bind fun lr => lr.on (fun _k2 =>
  some true) (fun r => some r)


def impl_RuleValid (a_r : Rule) : Option Bool :=
  (F.impl_TestsValid a_r.Tests).bind fun x1 =>
  bif x1 then
  bif (a_r.Action == 3) then
  bif (decide (0 ≤ a_r.Chain)) then
  some (decide (a_r.Chain < 5))
  else
  some false
  else
  bif (a_r.Action == 1) then
  some (a_r.Chain == 0)
  else
  bif (a_r.Action == 2) then
  some (a_r.Chain == 0)
  else
  bif (a_r.Action == 4) then
  some (a_r.Chain == 0)
  else
  bif (a_r.Action == 5) then
  some (a_r.Chain == 0)
  else
  some false
  else
  some false


def impl_RulesValid_L0 (a_list : List Rule) : Int → Option (SR (Int) Bool) := fun k1 =>
  bif (decide (k1 < (a_list.length : Int))) then
  (idx a_list k1).bind fun x1 =>
  (F.impl_RuleValid x1).bind fun x2 =>
  bif x2 then
  some (.nxt (W (k1 + 1)))
  else
  some (.ret false)
  else
  some (.brk k1)
def impl_RulesValid (a_list : List Rule) : Option Bool :=
  bif (decide (8 < (a_list.length : Int))) then
  some false
  else
  (loopF (impl_RulesValid_L0 a_list) ((((a_list.length : Int)) : Int) - 0).toNat.succ 0).bind fun lr => lr.on (fun _k2 =>
  some true) (fun r => some r)


def impl_visitCalls_L0 (a_chains : List (List Rule)) (rec_ : (List (List Rule)) → Int → (List Int) → Option (Bool × (List Int))) (x3 : List Int) : Bool × Int × (List Int) → Option (SR (Bool × Int × (List Int)) (Bool × (List Int))) := fun (y1, k1, y2) =>
  bif (decide (k1 < (x3.length : Int))) then
  (idx x3 k1).bind fun x4 =>
  (rec_ a_chains x4 y2).bind fun x5 =>
  bif x5.1 then
  some (.nxt (y1, (W (k1 + 1)), x5.2))
  else
  some (.nxt (false, (W (k1 + 1)), x5.2))
  else
  some (.brk (y1, k1, y2))
def impl_visitCalls : Nat → List (List Rule) → Int → List Int → Option (Bool × (List Int))
  | 0, _, _, _ => none
  | n_ + 1, a_chains, a_chain, a_colours =>
  bif (decide ((a_chains.length : Int) ≤ a_chain)) then
  some (true, a_colours)
  else
  (idx a_colours a_chain).bind fun x1 =>
  bif (x1 == 1) then
  some (false, a_colours)
  else
  bif (x1 == 2) then
  some (true, a_colours)
  else
  (idx a_chains a_chain).bind fun x2 =>
  (F.impl_callsIn x2).bind fun x3 =>
  (loopF (impl_visitCalls_L0 a_chains (impl_visitCalls n_) x3) ((((x3.length : Int)) : Int) - 0).toNat.succ (true, 0, (List.set a_colours (a_chain : Int).toNat 1))).bind fun lr => lr.on (fun (y3, _k2, y4) =>
  (idx y4 a_chain).bind fun _x6 =>
  some (y3, (List.set y4 (a_chain : Int).toNat 2))) (fun r => some r)


def impl_acyclic_L0 (a_chains : List (List Rule)) : Int × (List Int) → Option (SR (Int × (List Int)) Bool) := fun (k1, y1) =>
  bif (decide (k1 < (a_chains.length : Int))) then
  (F.impl_visitCalls 10 a_chains k1 y1).bind fun x1 =>
  bif x1.1 then
  some (.nxt ((W (k1 + 1)), x1.2))
  else
  some (.ret false)
  else
  some (.brk (k1, y1))
def impl_acyclic (a_chains : List (List Rule)) : Option Bool :=
  (loopF (impl_acyclic_L0 a_chains) ((((a_chains.length : Int)) : Int) - 0).toNat.succ (0, [0, 0, 0, 0, 0])).bind fun lr => lr.on (fun (_k2, _y2) =>
  some true) (fun r => some r)


def impl_RulesetValid_L2 (a_s : Ruleset) (x4 : List Int) : Int → Option (SR (Int) Bool) := fun k4 =>
  bif (decide (k4 < (x4.length : Int))) then
  (idx x4 k4).bind fun x5 =>
  bif (decide ((a_s.Chains.length : Int) ≤ x5)) then
  some (.ret false)
  else
  some (.nxt (W (k4 + 1)))
  else
  some (.brk k4)
def impl_RulesetValid_L1 (a_s : Ruleset) : Int → Option (SR (Int) Bool) := fun k3 =>
  bif (decide (k3 < (a_s.Chains.length : Int))) then
  (idx a_s.Chains k3).bind fun x3 =>
  (F.impl_callsIn x3).bind fun x4 =>
  (loopF (impl_RulesetValid_L2 a_s x4) ((((x4.length : Int)) : Int) - 0).toNat.succ 0).bind fun lr => lr.on (fun _k5 =>
  some (.nxt (W (k3 + 1)))) (fun r => some (.ret r))
  else
  some (.brk k3)
def impl_RulesetValid_L0 (a_s : Ruleset) : Int → Option (SR (Int) Bool) := fun k1 =>
  bif (decide (k1 < (a_s.Chains.length : Int))) then
  (idx a_s.Chains k1).bind fun x1 =>
  (F.impl_RulesValid x1).bind fun x2 =>
  bif x2 then
  some (.nxt (W (k1 + 1)))
  else
  some (.ret false)
  else
  some (.brk k1)
def impl_RulesetValid (a_s : Ruleset) : Option Bool :=
  bif (decide ((a_s.Chains.length : Int) < 1)) then
  some false
  else
  bif (decide (5 < (a_s.Chains.length : Int))) then
  some false
  else
  (loopF (impl_RulesetValid_L0 a_s) ((((a_s.Chains.length : Int)) : Int) - 0).toNat.succ 0).bind fun lr => lr.on (fun _k2 =>
  (loopF (impl_RulesetValid_L1 a_s) ((((a_s.Chains.length : Int)) : Int) - 0).toNat.succ 0).bind fun lr => lr.on (fun _k6 =>
  (F.impl_acyclic a_s.Chains).bind fun x6 =>
  some x6) (fun r => some r)) (fun r => some r)


def impl_Packet_fields (a_p : Packet) : Option ((List Int)) :=
  some [a_p.From, a_p.To, a_p.Port, a_p.Proto]


def impl_PacketValid_L0 (x1 : List Int) : Int → Option (SR (Int) Bool) := fun k1 =>
  bif (decide (k1 < 4)) then
  (idx x1 k1).bind fun x2 =>
  bif (decide (x2 < 0)) then
  some (.ret false)
  else
  (F.impl_FieldTop k1).bind fun x3 =>
  bif (decide (x3 < x2)) then
  some (.ret false)
  else
  some (.nxt (W (k1 + 1)))
  else
  some (.brk k1)
def impl_PacketValid (a_p : Packet) : Option Bool :=
  (F.impl_Packet_fields a_p).bind fun x1 =>
  (loopF (impl_PacketValid_L0 x1) (((4) : Int) - 0).toNat.succ 0).bind fun lr => lr.on (fun _k2 =>
  some true) (fun r => some r)


def impl_walk_leave (a_0c : List Place) (a_1c : List Visit) (a_2c : Int) : Option ((List Place) × (List Visit) × Int) :=
  (takeF a_0c (W ((a_0c.length : Int) - 1))).bind fun y1 =>
  some (y1, a_1c, a_2c)


def impl_Test_holds (a_t : Test) (a_p : Packet) : Option Bool :=
  (F.impl_Packet_fields a_p).bind fun x1 =>
  (idx x1 a_t.Field).bind fun x2 =>
  bif (decide (a_t.Lo ≤ x2)) then
  some ((decide (x2 ≤ a_t.Hi)) != a_t.Not)
  else
  some (false != a_t.Not)


def impl_allHold_L0 (a_list : List Test) (a_p : Packet) : Int → Option (SR (Int) Bool) := fun k1 =>
  bif (decide (k1 < (a_list.length : Int))) then
  (idx a_list k1).bind fun x1 =>
  (F.impl_Test_holds x1 a_p).bind fun x2 =>
  bif x2 then
  some (.nxt (W (k1 + 1)))
  else
  some (.ret false)
  else
  some (.brk k1)
def impl_allHold (a_list : List Test) (a_p : Packet) : Option Bool :=
  (loopF (impl_allHold_L0 a_list a_p) ((((a_list.length : Int)) : Int) - 0).toNat.succ 0).bind fun lr => lr.on (fun _k2 =>
  some true) (fun r => some r)


def impl_actionOf (a_r : Rule) : Option Act_ :=
  bif (a_r.Action == 1) then
  some (.deciding ({ accept := true } : deciding).accept)
  else
  bif (a_r.Action == 2) then
  some (.deciding ({ accept := false } : deciding).accept)
  else
  bif (a_r.Action == 3) then
  some (.calling ({ chain := a_r.Chain } : calling).chain)
  else
  bif (a_r.Action == 4) then
  some .returning
  else
  some .passing


def impl_deciding_walk (a_d : deciding) (a_0c : List Place) (a_1c : List Visit) (_a_2c : Int) : Option ((List Place) × (List Visit) × Int) :=
  bif a_d.accept then
  some (a_0c, a_1c, 1)
  else
  some (a_0c, a_1c, 2)


def impl_calling_walk (a_c : calling) (a_0c : List Place) (a_1c : List Visit) (a_2c : Int) : Option ((List Place) × (List Visit) × Int) :=
  (appF a_0c [({ chain := a_c.chain, next := 0 } : Place)]).bind fun z1 =>
  some (z1, a_1c, a_2c)


def impl_returning_walk (a_0c : List Place) (a_1c : List Visit) (a_2c : Int) : Option ((List Place) × (List Visit) × Int) :=
  (F.impl_walk_leave a_0c a_1c a_2c).bind fun x1 =>
  some (x1.1, x1.2.1, x1.2.2)


def impl_passing_walk (a_0c : List Place) (a_1c : List Visit) (a_2c : Int) : Option ((List Place) × (List Visit) × Int) :=
  some (a_0c, a_1c, a_2c)


def invoke_walk (a_act : Act_) (a_0c : List Place) (a_1c : List Visit) (a_2c : Int) : Option ((List Place) × (List Visit) × Int) :=
  match a_act with
  | .deciding b => F.impl_deciding_walk ⟨b⟩ a_0c a_1c a_2c
  | .calling b => F.impl_calling_walk ⟨b⟩ a_0c a_1c a_2c
  | .returning => F.impl_returning_walk a_0c a_1c a_2c
  | .passing => F.impl_passing_walk a_0c a_1c a_2c


def impl_walkThrough_L0 (a_s : Ruleset) (a_p : Packet) : (List Place) × (List Visit) × Int → Option (SR ((List Place) × (List Visit) × Int) Walk) := fun (y1, y2, k1) =>
  bif (decide (0 < (y1.length : Int))) then
  bif (k1 == 5) then
  (idx y1 (W ((y1.length : Int) - 1))).bind fun x1 =>
  (idx a_s.Chains x1.chain).bind fun x2 =>
  bif (x1.next == (x2.length : Int)) then
  (F.impl_walk_leave y1 y2 k1).bind fun x3 =>
  some (.nxt (x3.1, x3.2.1, x3.2.2))
  else
  (idx x2 x1.next).bind fun x4 =>
  (F.impl_allHold x4.Tests a_p).bind fun x5 =>
  bif x5 then
  bif (decide ((y2.length : Int) < 200)) then
  (idx (List.set y1 ((W ((y1.length : Int) - 1)) : Int).toNat { x1 with next := (W (x1.next + 1)) }) (W ((y1.length : Int) - 1))).bind fun x6 =>
  (appF y2 [({ Chain := x6.chain, Place := x1.next } : Visit)]).bind fun z1 =>
  (F.impl_actionOf x4).bind fun x7 =>
  (F.invoke_walk x7 (List.set y1 ((W ((y1.length : Int) - 1)) : Int).toNat { x1 with next := (W (x1.next + 1)) }) z1 k1).bind fun x8 =>
  some (.nxt (x8.1, x8.2.1, x8.2.2))
  else
  (F.impl_actionOf x4).bind fun x9 =>
  (F.invoke_walk x9 (List.set y1 ((W ((y1.length : Int) - 1)) : Int).toNat { x1 with next := (W (x1.next + 1)) }) y2 k1).bind fun x10 =>
  some (.nxt (x10.1, x10.2.1, x10.2.2))
  else
  some (.nxt ((List.set y1 ((W ((y1.length : Int) - 1)) : Int).toNat { x1 with next := (W (x1.next + 1)) }), y2, k1))
  else
  some (.brk (y1, y2, k1))
  else
  some (.brk (y1, y2, k1))
def impl_walkThrough (a_s : Ruleset) (a_p : Packet) : Option Walk :=
  (loopF (impl_walkThrough_L0 a_s a_p) 1000000 ([({ chain := 0, next := 0 } : Place)], ([] : List Visit), 5)).bind fun lr => lr.on (fun (y3, y4, k2) =>
  some ({ stack := y3, visits := y4, decision := k2 } : Walk)) (fun r => some r)


def impl_judgeValid (a_s : Ruleset) (a_p : Packet) : Option Bool :=
  (F.impl_walkThrough a_s a_p).bind fun x1 =>
  bif (x1.decision == 1) then
  some true
  else
  bif (x1.decision == 2) then
  some false
  else
  some a_s.Accept


def impl_Judge (a_s : Ruleset) (a_p : Packet) : Option Bool :=
  (F.impl_RulesetValid a_s).bind fun x1 =>
  bif x1 then
  (F.impl_PacketValid a_p).bind fun x2 =>
  bif x2 then
  (F.impl_judgeValid a_s a_p).bind fun x3 =>
  some x3
  else
  some false
  else
  some false


def spec_TestsValid_L0 (a_list : List Test) : Int → Option (SR (Int) Bool) := fun k1 =>
  bif (decide (k1 < (a_list.length : Int))) then
  (idx a_list k1).bind fun x1 =>
  (F.spec_TestValid x1).bind fun x2 =>
  bif x2 then
  some (.nxt (W (k1 + 1)))
  else
  some (.ret false)
  else
  some (.brk k1)
def spec_TestsValid (a_list : List Test) : Option Bool :=
  (loopF (spec_TestsValid_L0 a_list) ((((a_list.length : Int)) : Int) - 0).toNat.succ 0).bind fun lr => lr.on (fun _k2 =>
  some (decide ((a_list.length : Int) ≤ 6))) (fun r => some r)


def spec_RuleValid (a_r : Rule) : Option Bool :=
  (F.spec_TestsValid a_r.Tests).bind fun x1 =>
  bif x1 then
  (F.spec_l1In a_r.Action 1 5).bind fun x2 =>
  bif x2 then
  bif (a_r.Action == 3) then
  (F.spec_l1In a_r.Chain 0 4).bind fun x3 =>
  bif x3 then
  some true
  else
  bif (a_r.Action != 3) then
  some (a_r.Chain == 0)
  else
  some false
  else
  bif (a_r.Action != 3) then
  some (a_r.Chain == 0)
  else
  some false
  else
  some false
  else
  some false


def spec_RulesValid_L0 (a_list : List Rule) : Int → Option (SR (Int) Bool) := fun k1 =>
  bif (decide (k1 < (a_list.length : Int))) then
  (idx a_list k1).bind fun x1 =>
  (F.spec_RuleValid x1).bind fun x2 =>
  bif x2 then
  some (.nxt (W (k1 + 1)))
  else
  some (.ret false)
  else
  some (.brk k1)
def spec_RulesValid (a_list : List Rule) : Option Bool :=
  (loopF (spec_RulesValid_L0 a_list) ((((a_list.length : Int)) : Int) - 0).toNat.succ 0).bind fun lr => lr.on (fun _k2 =>
  some (decide ((a_list.length : Int) ≤ 8))) (fun r => some r)


def spec_l8Order_L2 (a_s : Ruleset) (k2 : Int) : Bool × Int × (List Bool) × (List Int) → Option (SR (Bool × Int × (List Bool) × (List Int)) ((List Int))) := fun (y5, k3, y6, y7) =>
  (idx a_s.Chains k2).bind fun x2 =>
  bif (decide (k3 < (x2.length : Int))) then
  (idx x2 k3).bind fun x3 =>
  bif y5 then
  bif (x3.Action != 3) then
  some (.nxt (true, (W (k3 + 1)), y6, y7))
  else
  (idx y6 x3.Chain).bind fun x4 =>
  some (.nxt (x4, (W (k3 + 1)), y6, y7))
  else
  some (.nxt (false, (W (k3 + 1)), y6, y7))
  else
  some (.brk (y5, k3, y6, y7))
def spec_l8Order_L1 (a_s : Ruleset) : (List Int) × Int × (List Bool) → Option (SR ((List Int) × Int × (List Bool)) ((List Int))) := fun (y3, k2, y4) =>
  bif (decide (k2 < (a_s.Chains.length : Int))) then
  (idx y4 k2).bind fun x1 =>
  (loopF (spec_l8Order_L2 a_s k2) ((((((idx a_s.Chains k2).getD []).length : Int)) : Int) - 0).toNat.succ ((!x1), 0, y4, y3)).bind fun lr => lr.on (fun (y8, _k4, y9, y10) =>
  bif y8 then
  (idx y9 k2).bind fun _x5 =>
  (appF y10 [k2]).bind fun z1 =>
  some (.nxt (z1, (W (k2 + 1)), (List.set y9 (k2 : Int).toNat true)))
  else
  some (.nxt (y10, (W (k2 + 1)), y9))) (fun r => some (.ret r))
  else
  some (.brk (y3, k2, y4))
def spec_l8Order_L0 (a_s : Ruleset) : (List Int) × Int × (List Bool) → Option (SR ((List Int) × Int × (List Bool)) ((List Int))) := fun (y1, k1, y2) =>
  bif (decide (k1 < (a_s.Chains.length : Int))) then
  (loopF (spec_l8Order_L1 a_s) ((((a_s.Chains.length : Int)) : Int) - 0).toNat.succ (y1, 0, y2)).bind fun lr => lr.on (fun (y11, _k5, y12) =>
  some (.nxt (y11, (W (k1 + 1)), y12))) (fun r => some (.ret r))
  else
  some (.brk (y1, k1, y2))
def spec_l8Order (a_s : Ruleset) : Option ((List Int)) :=
  (makeF false (a_s.Chains.length : Int)).bind fun mk1 =>
  (loopF (spec_l8Order_L0 a_s) ((((a_s.Chains.length : Int)) : Int) - 0).toNat.succ (([] : List Int), 0, mk1)).bind fun lr => lr.on (fun (y13, _k6, _y14) =>
  some y13) (fun r => some r)


def spec_RulesetValid_L1 (a_s : Ruleset) (x1 : List Rule) : Int → Option (SR (Int) Bool) := fun k2 =>
  bif (decide (k2 < (x1.length : Int))) then
  (idx x1 k2).bind fun x3 =>
  bif (decide ((a_s.Chains.length : Int) ≤ x3.Chain)) then
  some (.ret false)
  else
  some (.nxt (W (k2 + 1)))
  else
  some (.brk k2)
def spec_RulesetValid_L0 (a_s : Ruleset) : Int → Option (SR (Int) Bool) := fun k1 =>
  bif (decide (k1 < (a_s.Chains.length : Int))) then
  (idx a_s.Chains k1).bind fun x1 =>
  (F.spec_RulesValid x1).bind fun x2 =>
  bif x2 then
  (loopF (spec_RulesetValid_L1 a_s x1) ((((x1.length : Int)) : Int) - 0).toNat.succ 0).bind fun lr => lr.on (fun _k3 =>
  some (.nxt (W (k1 + 1)))) (fun r => some (.ret r))
  else
  some (.ret false)
  else
  some (.brk k1)
def spec_RulesetValid (a_s : Ruleset) : Option Bool :=
  (loopF (spec_RulesetValid_L0 a_s) ((((a_s.Chains.length : Int)) : Int) - 0).toNat.succ 0).bind fun lr => lr.on (fun _k4 =>
  (F.spec_l1In (a_s.Chains.length : Int) 1 5).bind fun x4 =>
  bif x4 then
  (F.spec_l8Order a_s).bind fun x5 =>
  some ((x5.length : Int) == (a_s.Chains.length : Int))
  else
  some false) (fun r => some r)


def spec_PacketValid (a_p : Packet) : Option Bool :=
  (F.spec_l1In a_p.From 0 65535).bind fun x1 =>
  bif x1 then
  (F.spec_l1In a_p.To 0 65535).bind fun x2 =>
  bif x2 then
  (F.spec_l1In a_p.Port 0 255).bind fun x3 =>
  bif x3 then
  (F.spec_l1In a_p.Proto 0 7).bind fun x4 =>
  some x4
  else
  some false
  else
  some false
  else
  some false


def spec_PacketField (a_p : Packet) (a_n : Int) : Option Int :=
  (F.spec_PacketValid a_p).bind fun x1 =>
  bif x1 then
  (F.spec_l1In a_n 0 3).bind fun x2 =>
  bif x2 then
  (idx [a_p.From, a_p.To, a_p.Port, a_p.Proto] a_n).bind fun x3 =>
  some x3
  else
  some (-1)
  else
  some (-1)


def spec_TestHolds (a_t : Test) (a_p : Packet) : Option Bool :=
  (F.spec_TestValid a_t).bind fun x1 =>
  bif x1 then
  (F.spec_PacketValid a_p).bind fun x2 =>
  bif x2 then
  (F.spec_PacketField a_p a_t.Field).bind fun x3 =>
  (F.spec_l1In x3 a_t.Lo a_t.Hi).bind fun x4 =>
  some (x4 != a_t.Not)
  else
  some false
  else
  some false


def spec_TestsHold_L0 (a_list : List Test) (a_p : Packet) : Int → Option (SR (Int) Bool) := fun k1 =>
  bif (decide (k1 < (a_list.length : Int))) then
  (idx a_list k1).bind fun x1 =>
  (F.spec_TestHolds x1 a_p).bind fun x2 =>
  bif x2 then
  some (.nxt (W (k1 + 1)))
  else
  some (.ret false)
  else
  some (.brk k1)
def spec_TestsHold (a_list : List Test) (a_p : Packet) : Option Bool :=
  (loopF (spec_TestsHold_L0 a_list a_p) ((((a_list.length : Int)) : Int) - 0).toNat.succ 0).bind fun lr => lr.on (fun _k2 =>
  (F.spec_TestsValid a_list).bind fun x3 =>
  bif x3 then
  (F.spec_PacketValid a_p).bind fun x4 =>
  some x4
  else
  some false) (fun r => some r)


def spec_l9Walk_L0 (a_s : Ruleset) (a_chain : Int) (a_p : Packet) (rec_ : Ruleset → Int → Packet → (List Visit) → Option (Int × (List Visit))) : Int × (List Visit) → Option (SR (Int × (List Visit)) (Int × (List Visit))) := fun (k1, y1) =>
  (idx a_s.Chains a_chain).bind fun x1 =>
  bif (decide (k1 < (x1.length : Int))) then
  (idx x1 k1).bind fun x2 =>
  (F.spec_TestsHold x2.Tests a_p).bind fun x3 =>
  bif x3 then
  bif (decide ((y1.length : Int) < 200)) then
  (appF y1 [({ Chain := a_chain, Place := k1 } : Visit)]).bind fun z1 =>
  bif (x2.Action == 1) then
  some (.ret (x2.Action, z1))
  else
  bif (x2.Action == 2) then
  some (.ret (x2.Action, z1))
  else
  bif (x2.Action == 4) then
  some (.ret (5, z1))
  else
  bif (x2.Action == 3) then
  (rec_ a_s x2.Chain a_p z1).bind fun x4 =>
  bif (x4.1 != 5) then
  some (.ret (x4.1, x4.2))
  else
  some (.nxt ((W (k1 + 1)), x4.2))
  else
  some (.nxt ((W (k1 + 1)), z1))
  else
  bif (x2.Action == 1) then
  some (.ret (x2.Action, y1))
  else
  bif (x2.Action == 2) then
  some (.ret (x2.Action, y1))
  else
  bif (x2.Action == 4) then
  some (.ret (5, y1))
  else
  bif (x2.Action == 3) then
  (rec_ a_s x2.Chain a_p y1).bind fun x5 =>
  bif (x5.1 != 5) then
  some (.ret (x5.1, x5.2))
  else
  some (.nxt ((W (k1 + 1)), x5.2))
  else
  some (.nxt ((W (k1 + 1)), y1))
  else
  some (.nxt ((W (k1 + 1)), y1))
  else
  some (.brk (k1, y1))
def spec_l9Walk : Nat → Ruleset → Int → Packet → List Visit → Option (Int × (List Visit))
  | 0, _, _, _, _ => none
  | n_ + 1, a_s, a_chain, a_p, a_0c =>
  (loopF (spec_l9Walk_L0 a_s a_chain a_p (spec_l9Walk n_)) ((((((idx a_s.Chains a_chain).getD []).length : Int)) : Int) - 0).toNat.succ (0, a_0c)).bind fun lr => lr.on (fun (_k2, y2) =>
  some (5, y2)) (fun r => some r)


def spec_Judge (a_s : Ruleset) (a_p : Packet) : Option Bool :=
  (F.spec_RulesetValid a_s).bind fun x1 =>
  bif x1 then
  (F.spec_PacketValid a_p).bind fun x2 =>
  bif x2 then
  (F.spec_l9Walk 10 a_s 0 a_p ([] : List Visit)).bind fun x3 =>
  bif (x3.1 == 1) then
  some true
  else
  bif (x3.1 == 5) then
  some a_s.Accept
  else
  some false
  else
  some false
  else
  some false


def impl_SpansHave_L0 (a_list : List Span) (a_n : Int) : Int → Option (SR (Int) Bool) := fun k1 =>
  bif (decide (k1 < (a_list.length : Int))) then
  (idx a_list k1).bind fun x1 =>
  bif (decide (x1.Lo ≤ a_n)) then
  bif (decide (a_n ≤ x1.Hi)) then
  some (.ret true)
  else
  some (.nxt (W (k1 + 1)))
  else
  some (.nxt (W (k1 + 1)))
  else
  some (.brk k1)
def impl_SpansHave (a_list : List Span) (a_n : Int) : Option Bool :=
  (loopF (impl_SpansHave_L0 a_list a_n) ((((a_list.length : Int)) : Int) - 0).toNat.succ 0).bind fun lr => lr.on (fun _k2 =>
  some false) (fun r => some r)


def laws_alive : Option Bool :=
  (F.impl_SpansHave [({ Lo := 2, Hi := 4 } : Span)] 3).bind fun x1 =>
  some x1


def spec_l1OwnRowsSpan_L0 (a_list : List (List Span)) : (List (List Span)) × Int → Option (SR ((List (List Span)) × Int) ((List (List Span)))) := fun (y1, k1) =>
  bif (decide (k1 < (a_list.length : Int))) then
  (idx a_list k1).bind fun x1 =>
  (appF ([] : List Span) x1).bind fun z1 =>
  (appF y1 [z1]).bind fun z2 =>
  some (.nxt (z2, (W (k1 + 1))))
  else
  some (.brk (y1, k1))
def spec_l1OwnRowsSpan (a_list : List (List Span)) : Option ((List (List Span))) :=
  (loopF (spec_l1OwnRowsSpan_L0 a_list) ((((a_list.length : Int)) : Int) - 0).toNat.succ (([] : List (List Span)), 0)).bind fun lr => lr.on (fun (y2, _k2) =>
  some y2) (fun r => some r)


def laws_FnReturnLast_L0 (x1 : Ruleset × Packet) : Int × (List (List Rule)) → Option (SR (Int × (List (List Rule))) Bool) := fun (k1, y1) =>
  bif (decide (k1 < (x1.1.Chains.length : Int))) then
  (idx x1.1.Chains k1).bind fun x5 =>
  bif ((x5.length : Int) == 8) then
  (F.laws_alive).bind fun x6 =>
  some (.ret x6)
  else
  (appF ([] : List Rule) x5).bind fun z1 =>
  (appF z1 [({ Tests := ([] : List Test), Action := 4, Chain := 0 } : Rule)]).bind fun z2 =>
  (appF y1 [z2]).bind fun z3 =>
  some (.nxt ((W (k1 + 1)), z3))
  else
  some (.brk (k1, y1))
def laws_FnReturnLast (a_code : List Int) : Option Bool :=
  bif (decide (1048576 < (a_code.length : Int))) then
  some true
  else
  (F.spec_DrawJudge a_code).bind fun x1 =>
  (F.impl_Judge ({ Chains := x1.1.Chains, Accept := x1.1.Accept } : Ruleset) ({ From := x1.2.From, To := x1.2.To, Port := x1.2.Port, Proto := x1.2.Proto } : Packet)).bind fun x2 =>
  (F.spec_Judge ({ Chains := x1.1.Chains, Accept := x1.1.Accept } : Ruleset) ({ From := x1.2.From, To := x1.2.To, Port := x1.2.Port, Proto := x1.2.Proto } : Packet)).bind fun x3 =>
  bif (x2 != x3) then
  some false
  else
  (F.spec_RulesetValid ({ Chains := x1.1.Chains, Accept := x1.1.Accept } : Ruleset)).bind fun x4 =>
  bif x4 then
  (loopF (laws_FnReturnLast_L0 x1) ((((x1.1.Chains.length : Int)) : Int) - 0).toNat.succ (0, ([] : List (List Rule)))).bind fun lr => lr.on (fun (_k2, y2) =>
  (F.impl_Judge ({ Chains := y2, Accept := x1.1.Accept } : Ruleset) ({ From := x1.2.From, To := x1.2.To, Port := x1.2.Port, Proto := x1.2.Proto } : Packet)).bind fun x7 =>
  some (x7 == x2)) (fun r => some r)
  else
  (F.laws_alive).bind fun x8 =>
  some x8


end Go.PF.F
