/- The program's functions as plain functions; no condition. -/
import Derived.Test.YtbnndochnkkllaaDoorPFEls
namespace Go.PF.F
open Go Go.PF

def spec_l20Rd_pick (a_xs : List Int) (a_pos : Int) (a_n : Int) : Option (Int × Int) :=
  bif (decide (a_n < 1)) then
  some (0, (W (a_pos + 1)))
  else
  bif ((a_xs.length : Int) == 0) then
  some (0, (W (a_pos + 1)))
  else
  bif (decide ((W ((W (a_pos + 1)) - 1)) < (a_xs.length : Int))) then
  (idx a_xs (W ((W (a_pos + 1)) - 1))).bind fun x1 =>
  (nzF a_n).bind fun _u1 =>
  some ((((W x1)).tmod a_n), (W (a_pos + 1)))
  else
  (nzF (a_xs.length : Int)).bind fun _u2 =>
  (idx a_xs (((W ((W (a_pos + 1)) - 1))).tmod (a_xs.length : Int))).bind fun x2 =>
  (idx a_xs (((W ((W ((W ((W (a_pos + 1)) - 1)) * 7)) + 3))).tmod (a_xs.length : Int))).bind fun x3 =>
  (nzF a_n).bind fun _u3 =>
  some ((((xorF (W ((W ((W ((W ((W x2) * 131)) + (W ((W x3) * 1117)))) + (W ((W ((W (a_pos + 1)) - 1)) * 29)))) + (W ((W (((W ((W (a_pos + 1)) - 1))).tdiv (a_xs.length : Int))) * 53)))) (W (((W ((W ((W ((W ((W x2) * 131)) + (W ((W x3) * 1117)))) + (W ((W ((W (a_pos + 1)) - 1)) * 29)))) + (W ((W (((W ((W (a_pos + 1)) - 1))).tdiv (a_xs.length : Int))) * 53))))).tdiv 64)))).tmod a_n), (W (a_pos + 1)))


def spec_FieldTop (a_n : Int) : Option Int :=
  bif (a_n == 0) then
  some 65535
  else
  bif (a_n == 1) then
  some 65535
  else
  bif (a_n == 2) then
  some 255
  else
  bif (a_n == 3) then
  some 7
  else
  some (-1)


def spec_l1In (a_n : Int) (a_lo : Int) (a_hi : Int) : Option Bool :=
  bif (decide (a_lo ≤ a_n)) then
  some (decide (a_n ≤ a_hi))
  else
  some false


def spec_TestValid (a_t : Test) : Option Bool :=
  (F.spec_l1In a_t.Field 0 3).bind fun x1 =>
  bif x1 then
  (F.spec_l1In a_t.Lo 0 a_t.Hi).bind fun x2 =>
  bif x2 then
  (F.spec_FieldTop a_t.Field).bind fun x3 =>
  some (decide (a_t.Hi ≤ x3))
  else
  some false
  else
  some false


def impl_callsIn_L1 (y2 : List Bool) : (List Int) × Int → Option (SR ((List Int) × Int) ((List Int))) := fun (y3, k3) =>
  bif (decide (k3 < 5)) then
  (idx y2 k3).bind fun x3 =>
  bif x3 then
  (appF y3 [k3]).bind fun z1 =>
  some (.nxt (z1, (W (k3 + 1))))
  else
  some (.nxt (y3, (W (k3 + 1))))
  else
  some (.brk (y3, k3))
def impl_callsIn_L0 (a_rules : List Rule) : Int × (List Bool) → Option (SR (Int × (List Bool)) ((List Int))) := fun (k1, y1) =>
  bif (decide (k1 < (a_rules.length : Int))) then
  (idx a_rules k1).bind fun x1 =>
  bif (x1.Action == 3) then
  (idx y1 x1.Chain).bind fun _x2 =>
  some (.nxt ((W (k1 + 1)), (List.set y1 (x1.Chain : Int).toNat true)))
  else
  some (.nxt ((W (k1 + 1)), y1))
  else
  some (.brk (k1, y1))
def impl_callsIn (a_rules : List Rule) : Option ((List Int)) :=
  (loopF (impl_callsIn_L0 a_rules) ((((a_rules.length : Int)) : Int) - 0).toNat.succ (0, [false, false, false, false, false])).bind fun lr => lr.on (fun (_k2, y2) =>
  (loopF (impl_callsIn_L1 y2) (((5) : Int) - 0).toNat.succ (([] : List Int), 0)).bind fun lr => lr.on (fun (y4, _k4) =>
  some y4) (fun r => some r)) (fun r => some r)


def impl_FieldTop (a_n : Int) : Option Int :=
  bif (decide (a_n < 0)) then
  some (-1)
  else
  bif (decide (4 ≤ a_n)) then
  some (-1)
  else
  (idx shapes a_n).bind fun x1 =>
  some x1.top


def impl_TestValid (a_t : Test) : Option Bool :=
  bif (decide (0 ≤ a_t.Field)) then
  bif (decide (a_t.Field < 4)) then
  bif (decide (0 ≤ a_t.Lo)) then
  bif (decide (a_t.Lo ≤ a_t.Hi)) then
  (F.impl_FieldTop a_t.Field).bind fun x1 =>
  some (decide (a_t.Hi ≤ x1))
  else
  some false
  else
  some false
  else
  some false
  else
  some false


def impl_TestsValid_L0 (a_list : List Test) : Int → Option (SR (Int) Bool) := fun k1 =>
  bif (decide (k1 < (a_list.length : Int))) then
  (idx a_list k1).bind fun x1 =>
  (F.impl_TestValid x1).bind fun x2 =>
  bif x2 then
  some (.nxt (W (k1 + 1)))
  else
  some (.ret false)
  else
  some (.brk k1)
def impl_TestsValid (a_list : List Test) : Option Bool :=
  bif (decide (6 < (a_list.length : Int))) then
  some false
  else
  (loopF (impl_TestsValid_L0 a_list) ((((a_list.length : Int)) : Int) - 0).toNat.succ 0).bind fun lr => lr.on (fun _k2 =>
  some true) (fun r => some r)


def impl_RuleValid (a_r : Rule) : Option Bool :=
  (F.impl_TestsValid a_r.Tests).bind fun x1 =>
  bif x1 then
  bif (a_r.Action == 3) then
  bif (decide (0 ≤ a_r.Chain)) then
  some (decide (a_r.Chain < 5))
  else
  some false
  else
  bif (a_r.Action == 1) then
  some (a_r.Chain == 0)
  else
  bif (a_r.Action == 2) then
  some (a_r.Chain == 0)
  else
  bif (a_r.Action == 4) then
  some (a_r.Chain == 0)
  else
  bif (a_r.Action == 5) then
  some (a_r.Chain == 0)
  else
  some false
  else
  some false


def impl_RulesValid_L0 (a_list : List Rule) : Int → Option (SR (Int) Bool) := fun k1 =>
  bif (decide (k1 < (a_list.length : Int))) then
  (idx a_list k1).bind fun x1 =>
  (F.impl_RuleValid x1).bind fun x2 =>
  bif x2 then
  some (.nxt (W (k1 + 1)))
  else
  some (.ret false)
  else
  some (.brk k1)
def impl_RulesValid (a_list : List Rule) : Option Bool :=
  bif (decide (8 < (a_list.length : Int))) then
  some false
  else
  (loopF (impl_RulesValid_L0 a_list) ((((a_list.length : Int)) : Int) - 0).toNat.succ 0).bind fun lr => lr.on (fun _k2 =>
  some true) (fun r => some r)


def impl_visitCalls_L0 (a_chains : List (List Rule)) (rec_ : (List (List Rule)) → Int → (List Int) → Option (Bool × (List Int))) (x3 : List Int) : Bool × Int × (List Int) → Option (SR (Bool × Int × (List Int)) (Bool × (List Int))) := fun (y1, k1, y2) =>
  bif (decide (k1 < (x3.length : Int))) then
  (idx x3 k1).bind fun x4 =>
  (rec_ a_chains x4 y2).bind fun x5 =>
  bif x5.1 then
  some (.nxt (y1, (W (k1 + 1)), x5.2))
  else
  some (.nxt (false, (W (k1 + 1)), x5.2))
  else
  some (.brk (y1, k1, y2))
def impl_visitCalls : Nat → List (List Rule) → Int → List Int → Option (Bool × (List Int))
  | 0, _, _, _ => none
  | n_ + 1, a_chains, a_chain, a_colours =>
  bif (decide ((a_chains.length : Int) ≤ a_chain)) then
  some (true, a_colours)
  else
  (idx a_colours a_chain).bind fun x1 =>
  bif (x1 == 1) then
  some (false, a_colours)
  else
  bif (x1 == 2) then
  some (true, a_colours)
  else
  (idx a_chains a_chain).bind fun x2 =>
  (F.impl_callsIn x2).bind fun x3 =>
  (loopF (impl_visitCalls_L0 a_chains (impl_visitCalls n_) x3) ((((x3.length : Int)) : Int) - 0).toNat.succ (true, 0, (List.set a_colours (a_chain : Int).toNat 1))).bind fun lr => lr.on (fun (y3, _k2, y4) =>
  (idx y4 a_chain).bind fun _x6 =>
  some (y3, (List.set y4 (a_chain : Int).toNat 2))) (fun r => some r)


def impl_acyclic_L0 (a_chains : List (List Rule)) : Int × (List Int) → Option (SR (Int × (List Int)) Bool) := fun (k1, y1) =>
  bif (decide (k1 < (a_chains.length : Int))) then
  (F.impl_visitCalls 10 a_chains k1 y1).bind fun x1 =>
  bif x1.1 then
  some (.nxt ((W (k1 + 1)), x1.2))
  else
  some (.ret false)
  else
  some (.brk (k1, y1))
def impl_acyclic (a_chains : List (List Rule)) : Option Bool :=
  (loopF (impl_acyclic_L0 a_chains) ((((a_chains.length : Int)) : Int) - 0).toNat.succ (0, [0, 0, 0, 0, 0])).bind fun lr => lr.on (fun (_k2, _y2) =>
  some true) (fun r => some r)


def impl_RulesetValid_L2 (a_s : Ruleset) (x4 : List Int) : Int → Option (SR (Int) Bool) := fun k4 =>
  bif (decide (k4 < (x4.length : Int))) then
  (idx x4 k4).bind fun x5 =>
  bif (decide ((a_s.Chains.length : Int) ≤ x5)) then
  some (.ret false)
  else
  some (.nxt (W (k4 + 1)))
  else
  some (.brk k4)
def impl_RulesetValid_L1 (a_s : Ruleset) : Int → Option (SR (Int) Bool) := fun k3 =>
  bif (decide (k3 < (a_s.Chains.length : Int))) then
  (idx a_s.Chains k3).bind fun x3 =>
  (F.impl_callsIn x3).bind fun x4 =>
  (loopF (impl_RulesetValid_L2 a_s x4) ((((x4.length : Int)) : Int) - 0).toNat.succ 0).bind fun lr => lr.on (fun _k5 =>
  some (.nxt (W (k3 + 1)))) (fun r => some (.ret r))
  else
  some (.brk k3)
def impl_RulesetValid_L0 (a_s : Ruleset) : Int → Option (SR (Int) Bool) := fun k1 =>
  bif (decide (k1 < (a_s.Chains.length : Int))) then
  (idx a_s.Chains k1).bind fun x1 =>
  (F.impl_RulesValid x1).bind fun x2 =>
  bif x2 then
  some (.nxt (W (k1 + 1)))
  else
  some (.ret false)
  else
  some (.brk k1)
def impl_RulesetValid (a_s : Ruleset) : Option Bool :=
  bif (decide ((a_s.Chains.length : Int) < 1)) then
  some false
  else
  bif (decide (5 < (a_s.Chains.length : Int))) then
  some false
  else
  (loopF (impl_RulesetValid_L0 a_s) ((((a_s.Chains.length : Int)) : Int) - 0).toNat.succ 0).bind fun lr => lr.on (fun _k2 =>
  (loopF (impl_RulesetValid_L1 a_s) ((((a_s.Chains.length : Int)) : Int) - 0).toNat.succ 0).bind fun lr => lr.on (fun _k6 =>
  (F.impl_acyclic a_s.Chains).bind fun x6 =>
  some x6) (fun r => some r)) (fun r => some r)


def impl_Packet_fields (a_p : Packet) : Option ((List Int)) :=
  some [a_p.From, a_p.To, a_p.Port, a_p.Proto]


def impl_PacketValid_L0 (x1 : List Int) : Int → Option (SR (Int) Bool) := fun k1 =>
  bif (decide (k1 < 4)) then
  (idx x1 k1).bind fun x2 =>
  bif (decide (x2 < 0)) then
  some (.ret false)
  else
  (F.impl_FieldTop k1).bind fun x3 =>
  bif (decide (x3 < x2)) then
  some (.ret false)
  else
  some (.nxt (W (k1 + 1)))
  else
  some (.brk k1)
def impl_PacketValid (a_p : Packet) : Option Bool :=
  (F.impl_Packet_fields a_p).bind fun x1 =>
  (loopF (impl_PacketValid_L0 x1) (((4) : Int) - 0).toNat.succ 0).bind fun lr => lr.on (fun _k2 =>
  some true) (fun r => some r)


def impl_walk_leave (a_0c : List Place) (a_1c : List Visit) (a_2c : Int) : Option ((List Place) × (List Visit) × Int) :=
  (takeF a_0c (W ((a_0c.length : Int) - 1))).bind fun y1 =>
  some (y1, a_1c, a_2c)


def impl_Test_holds (a_t : Test) (a_p : Packet) : Option Bool :=
  (F.impl_Packet_fields a_p).bind fun x1 =>
  (idx x1 a_t.Field).bind fun x2 =>
  bif (decide (a_t.Lo ≤ x2)) then
  some ((decide (x2 ≤ a_t.Hi)) != a_t.Not)
  else
  some (false != a_t.Not)


def impl_allHold_L0 (a_list : List Test) (a_p : Packet) : Int → Option (SR (Int) Bool) := fun k1 =>
  bif (decide (k1 < (a_list.length : Int))) then
  (idx a_list k1).bind fun x1 =>
  (F.impl_Test_holds x1 a_p).bind fun x2 =>
  bif x2 then
  some (.nxt (W (k1 + 1)))
  else
  some (.ret false)
  else
  some (.brk k1)
def impl_allHold (a_list : List Test) (a_p : Packet) : Option Bool :=
  (loopF (impl_allHold_L0 a_list a_p) ((((a_list.length : Int)) : Int) - 0).toNat.succ 0).bind fun lr => lr.on (fun _k2 =>
  some true) (fun r => some r)


def impl_actionOf (a_r : Rule) : Option Act_ :=
  bif (a_r.Action == 1) then
  some (.deciding ({ accept := true } : deciding).accept)
  else
  bif (a_r.Action == 2) then
  some (.deciding ({ accept := false } : deciding).accept)
  else
  bif (a_r.Action == 3) then
  some (.calling ({ chain := a_r.Chain } : calling).chain)
  else
  bif (a_r.Action == 4) then
  some .returning
  else
  some .passing


def impl_deciding_walk (a_d : deciding) (a_0c : List Place) (a_1c : List Visit) (_a_2c : Int) : Option ((List Place) × (List Visit) × Int) :=
  bif a_d.accept then
  some (a_0c, a_1c, 1)
  else
  some (a_0c, a_1c, 2)


def impl_calling_walk (a_c : calling) (a_0c : List Place) (a_1c : List Visit) (a_2c : Int) : Option ((List Place) × (List Visit) × Int) :=
  (appF a_0c [({ chain := a_c.chain, next := 0 } : Place)]).bind fun z1 =>
  some (z1, a_1c, a_2c)


def impl_returning_walk (a_0c : List Place) (a_1c : List Visit) (a_2c : Int) : Option ((List Place) × (List Visit) × Int) :=
  (F.impl_walk_leave a_0c a_1c a_2c).bind fun x1 =>
  some (x1.1, x1.2.1, x1.2.2)


def impl_passing_walk (a_0c : List Place) (a_1c : List Visit) (a_2c : Int) : Option ((List Place) × (List Visit) × Int) :=
  some (a_0c, a_1c, a_2c)


def invoke_walk (a_act : Act_) (a_0c : List Place) (a_1c : List Visit) (a_2c : Int) : Option ((List Place) × (List Visit) × Int) :=
  match a_act with
  | .deciding b => F.impl_deciding_walk ⟨b⟩ a_0c a_1c a_2c
  | .calling b => F.impl_calling_walk ⟨b⟩ a_0c a_1c a_2c
  | .returning => F.impl_returning_walk a_0c a_1c a_2c
  | .passing => F.impl_passing_walk a_0c a_1c a_2c


def impl_walkThrough_L0 (a_s : Ruleset) (a_p : Packet) : (List Place) × (List Visit) × Int → Option (SR ((List Place) × (List Visit) × Int) Walk) := fun (y1, y2, k1) =>
  bif (decide (0 < (y1.length : Int))) then
  bif (k1 == 5) then
  (idx y1 (W ((y1.length : Int) - 1))).bind fun x1 =>
  (idx a_s.Chains x1.chain).bind fun x2 =>
  bif (x1.next == (x2.length : Int)) then
  (F.impl_walk_leave y1 y2 k1).bind fun x3 =>
  some (.nxt (x3.1, x3.2.1, x3.2.2))
  else
  (idx x2 x1.next).bind fun x4 =>
  (F.impl_allHold x4.Tests a_p).bind fun x5 =>
  bif x5 then
  bif (decide ((y2.length : Int) < 200)) then
  (idx (List.set y1 ((W ((y1.length : Int) - 1)) : Int).toNat { x1 with next := (W (x1.next + 1)) }) (W ((y1.length : Int) - 1))).bind fun x6 =>
  (appF y2 [({ Chain := x6.chain, Place := x1.next } : Visit)]).bind fun z1 =>
  (F.impl_actionOf x4).bind fun x7 =>
  (F.invoke_walk x7 (List.set y1 ((W ((y1.length : Int) - 1)) : Int).toNat { x1 with next := (W (x1.next + 1)) }) z1 k1).bind fun x8 =>
  some (.nxt (x8.1, x8.2.1, x8.2.2))
  else
  (F.impl_actionOf x4).bind fun x9 =>
  (F.invoke_walk x9 (List.set y1 ((W ((y1.length : Int) - 1)) : Int).toNat { x1 with next := (W (x1.next + 1)) }) y2 k1).bind fun x10 =>
  some (.nxt (x10.1, x10.2.1, x10.2.2))
  else
  some (.nxt ((List.set y1 ((W ((y1.length : Int) - 1)) : Int).toNat { x1 with next := (W (x1.next + 1)) }), y2, k1))
  else
  some (.brk (y1, y2, k1))
  else
  some (.brk (y1, y2, k1))
def impl_walkThrough (a_s : Ruleset) (a_p : Packet) : Option Walk :=
  (loopF (impl_walkThrough_L0 a_s a_p) 1000000 ([({ chain := 0, next := 0 } : Place)], ([] : List Visit), 5)).bind fun lr => lr.on (fun (y3, y4, k2) =>
  some ({ stack := y3, visits := y4, decision := k2 } : Walk)) (fun r => some r)


def spec_TestsValid_L0 (a_list : List Test) : Int → Option (SR (Int) Bool) := fun k1 =>
  bif (decide (k1 < (a_list.length : Int))) then
  (idx a_list k1).bind fun x1 =>
  (F.spec_TestValid x1).bind fun x2 =>
  bif x2 then
  some (.nxt (W (k1 + 1)))
  else
  some (.ret false)
  else
  some (.brk k1)
def spec_TestsValid (a_list : List Test) : Option Bool :=
  (loopF (spec_TestsValid_L0 a_list) ((((a_list.length : Int)) : Int) - 0).toNat.succ 0).bind fun lr => lr.on (fun _k2 =>
  some (decide ((a_list.length : Int) ≤ 6))) (fun r => some r)


def spec_RuleValid (a_r : Rule) : Option Bool :=
  (F.spec_TestsValid a_r.Tests).bind fun x1 =>
  bif x1 then
  (F.spec_l1In a_r.Action 1 5).bind fun x2 =>
  bif x2 then
  bif (a_r.Action == 3) then
  (F.spec_l1In a_r.Chain 0 4).bind fun x3 =>
  bif x3 then
  some true
  else
  bif (a_r.Action != 3) then
  some (a_r.Chain == 0)
  else
  some false
  else
  bif (a_r.Action != 3) then
  some (a_r.Chain == 0)
  else
  some false
  else
  some false
  else
  some false


def spec_RulesValid_L0 (a_list : List Rule) : Int → Option (SR (Int) Bool) := fun k1 =>
  bif (decide (k1 < (a_list.length : Int))) then
  (idx a_list k1).bind fun x1 =>
  (F.spec_RuleValid x1).bind fun x2 =>
  bif x2 then
  some (.nxt (W (k1 + 1)))
  else
  some (.ret false)
  else
  some (.brk k1)
def spec_RulesValid (a_list : List Rule) : Option Bool :=
  (loopF (spec_RulesValid_L0 a_list) ((((a_list.length : Int)) : Int) - 0).toNat.succ 0).bind fun lr => lr.on (fun _k2 =>
  some (decide ((a_list.length : Int) ≤ 8))) (fun r => some r)


def spec_l8Order_L2 (a_s : Ruleset) (k2 : Int) : Bool × Int × (List Bool) × (List Int) → Option (SR (Bool × Int × (List Bool) × (List Int)) ((List Int))) := fun (y5, k3, y6, y7) =>
  (idx a_s.Chains k2).bind fun x2 =>
  bif (decide (k3 < (x2.length : Int))) then
  (idx x2 k3).bind fun x3 =>
  bif y5 then
  bif (x3.Action != 3) then
  some (.nxt (true, (W (k3 + 1)), y6, y7))
  else
  (idx y6 x3.Chain).bind fun x4 =>
  some (.nxt (x4, (W (k3 + 1)), y6, y7))
  else
  some (.nxt (false, (W (k3 + 1)), y6, y7))
  else
  some (.brk (y5, k3, y6, y7))
def spec_l8Order_L1 (a_s : Ruleset) : (List Int) × Int × (List Bool) → Option (SR ((List Int) × Int × (List Bool)) ((List Int))) := fun (y3, k2, y4) =>
  bif (decide (k2 < (a_s.Chains.length : Int))) then
  (idx y4 k2).bind fun x1 =>
  (loopF (spec_l8Order_L2 a_s k2) ((((((idx a_s.Chains k2).getD []).length : Int)) : Int) - 0).toNat.succ ((!x1), 0, y4, y3)).bind fun lr => lr.on (fun (y8, _k4, y9, y10) =>
  bif y8 then
  (idx y9 k2).bind fun _x5 =>
  (appF y10 [k2]).bind fun z1 =>
  some (.nxt (z1, (W (k2 + 1)), (List.set y9 (k2 : Int).toNat true)))
  else
  some (.nxt (y10, (W (k2 + 1)), y9))) (fun r => some (.ret r))
  else
  some (.brk (y3, k2, y4))
def spec_l8Order_L0 (a_s : Ruleset) : (List Int) × Int × (List Bool) → Option (SR ((List Int) × Int × (List Bool)) ((List Int))) := fun (y1, k1, y2) =>
  bif (decide (k1 < (a_s.Chains.length : Int))) then
  (loopF (spec_l8Order_L1 a_s) ((((a_s.Chains.length : Int)) : Int) - 0).toNat.succ (y1, 0, y2)).bind fun lr => lr.on (fun (y11, _k5, y12) =>
  some (.nxt (y11, (W (k1 + 1)), y12))) (fun r => some (.ret r))
  else
  some (.brk (y1, k1, y2))
def spec_l8Order (a_s : Ruleset) : Option ((List Int)) :=
  (makeF false (a_s.Chains.length : Int)).bind fun mk1 =>
  (loopF (spec_l8Order_L0 a_s) ((((a_s.Chains.length : Int)) : Int) - 0).toNat.succ (([] : List Int), 0, mk1)).bind fun lr => lr.on (fun (y13, _k6, _y14) =>
  some y13) (fun r => some r)


def spec_RulesetValid_L1 (a_s : Ruleset) (x1 : List Rule) : Int → Option (SR (Int) Bool) := fun k2 =>
  bif (decide (k2 < (x1.length : Int))) then
  (idx x1 k2).bind fun x3 =>
  bif (decide ((a_s.Chains.length : Int) ≤ x3.Chain)) then
  some (.ret false)
  else
  some (.nxt (W (k2 + 1)))
  else
  some (.brk k2)
def spec_RulesetValid_L0 (a_s : Ruleset) : Int → Option (SR (Int) Bool) := fun k1 =>
  bif (decide (k1 < (a_s.Chains.length : Int))) then
  (idx a_s.Chains k1).bind fun x1 =>
  (F.spec_RulesValid x1).bind fun x2 =>
  bif x2 then
  (loopF (spec_RulesetValid_L1 a_s x1) ((((x1.length : Int)) : Int) - 0).toNat.succ 0).bind fun lr => lr.on (fun _k3 =>
  some (.nxt (W (k1 + 1)))) (fun r => some (.ret r))
  else
  some (.ret false)
  else
  some (.brk k1)
def spec_RulesetValid (a_s : Ruleset) : Option Bool :=
  (loopF (spec_RulesetValid_L0 a_s) ((((a_s.Chains.length : Int)) : Int) - 0).toNat.succ 0).bind fun lr => lr.on (fun _k4 =>
  (F.spec_l1In (a_s.Chains.length : Int) 1 5).bind fun x4 =>
  bif x4 then
  (F.spec_l8Order a_s).bind fun x5 =>
  some ((x5.length : Int) == (a_s.Chains.length : Int))
  else
  some false) (fun r => some r)


def spec_PacketValid (a_p : Packet) : Option Bool :=
  (F.spec_l1In a_p.From 0 65535).bind fun x1 =>
  bif x1 then
  (F.spec_l1In a_p.To 0 65535).bind fun x2 =>
  bif x2 then
  (F.spec_l1In a_p.Port 0 255).bind fun x3 =>
  bif x3 then
  (F.spec_l1In a_p.Proto 0 7).bind fun x4 =>
  some x4
  else
  some false
  else
  some false
  else
  some false


def spec_PacketField (a_p : Packet) (a_n : Int) : Option Int :=
  (F.spec_PacketValid a_p).bind fun x1 =>
  bif x1 then
  (F.spec_l1In a_n 0 3).bind fun x2 =>
  bif x2 then
  (idx [a_p.From, a_p.To, a_p.Port, a_p.Proto] a_n).bind fun x3 =>
  some x3
  else
  some (-1)
  else
  some (-1)


def spec_TestHolds (a_t : Test) (a_p : Packet) : Option Bool :=
  (F.spec_TestValid a_t).bind fun x1 =>
  bif x1 then
  (F.spec_PacketValid a_p).bind fun x2 =>
  bif x2 then
  (F.spec_PacketField a_p a_t.Field).bind fun x3 =>
  (F.spec_l1In x3 a_t.Lo a_t.Hi).bind fun x4 =>
  some (x4 != a_t.Not)
  else
  some false
  else
  some false


def spec_TestsHold_L0 (a_list : List Test) (a_p : Packet) : Int → Option (SR (Int) Bool) := fun k1 =>
  bif (decide (k1 < (a_list.length : Int))) then
  (idx a_list k1).bind fun x1 =>
  (F.spec_TestHolds x1 a_p).bind fun x2 =>
  bif x2 then
  some (.nxt (W (k1 + 1)))
  else
  some (.ret false)
  else
  some (.brk k1)
def spec_TestsHold (a_list : List Test) (a_p : Packet) : Option Bool :=
  (loopF (spec_TestsHold_L0 a_list a_p) ((((a_list.length : Int)) : Int) - 0).toNat.succ 0).bind fun lr => lr.on (fun _k2 =>
  (F.spec_TestsValid a_list).bind fun x3 =>
  bif x3 then
  (F.spec_PacketValid a_p).bind fun x4 =>
  some x4
  else
  some false) (fun r => some r)


def spec_l9Walk_L0 (a_s : Ruleset) (a_chain : Int) (a_p : Packet) (rec_ : Ruleset → Int → Packet → (List Visit) → Option (Int × (List Visit))) : Int × (List Visit) → Option (SR (Int × (List Visit)) (Int × (List Visit))) := fun (k1, y1) =>
  (idx a_s.Chains a_chain).bind fun x1 =>
  bif (decide (k1 < (x1.length : Int))) then
  (idx x1 k1).bind fun x2 =>
  (F.spec_TestsHold x2.Tests a_p).bind fun x3 =>
  bif x3 then
  bif (decide ((y1.length : Int) < 200)) then
  (appF y1 [({ Chain := a_chain, Place := k1 } : Visit)]).bind fun z1 =>
  bif (x2.Action == 1) then
  some (.ret (x2.Action, z1))
  else
  bif (x2.Action == 2) then
  some (.ret (x2.Action, z1))
  else
  bif (x2.Action == 4) then
  some (.ret (5, z1))
  else
  bif (x2.Action == 3) then
  (rec_ a_s x2.Chain a_p z1).bind fun x4 =>
  bif (x4.1 != 5) then
  some (.ret (x4.1, x4.2))
  else
  some (.nxt ((W (k1 + 1)), x4.2))
  else
  some (.nxt ((W (k1 + 1)), z1))
  else
  bif (x2.Action == 1) then
  some (.ret (x2.Action, y1))
  else
  bif (x2.Action == 2) then
  some (.ret (x2.Action, y1))
  else
  bif (x2.Action == 4) then
  some (.ret (5, y1))
  else
  bif (x2.Action == 3) then
  (rec_ a_s x2.Chain a_p y1).bind fun x5 =>
  bif (x5.1 != 5) then
  some (.ret (x5.1, x5.2))
  else
  some (.nxt ((W (k1 + 1)), x5.2))
  else
  some (.nxt ((W (k1 + 1)), y1))
  else
  some (.nxt ((W (k1 + 1)), y1))
  else
  some (.brk (k1, y1))
def spec_l9Walk : Nat → Ruleset → Int → Packet → List Visit → Option (Int × (List Visit))
  | 0, _, _, _, _ => none
  | n_ + 1, a_s, a_chain, a_p, a_0c =>
  (loopF (spec_l9Walk_L0 a_s a_chain a_p (spec_l9Walk n_)) ((((((idx a_s.Chains a_chain).getD []).length : Int)) : Int) - 0).toNat.succ (0, a_0c)).bind fun lr => lr.on (fun (_k2, y2) =>
  some (5, y2)) (fun r => some r)


def laws_eqTest (a_a : Test) (a_b : Test) : Option Bool :=
  bif (a_a.Field != a_b.Field) then
  some false
  else
  bif (a_a.Lo != a_b.Lo) then
  some false
  else
  bif (a_a.Hi != a_b.Hi) then
  some false
  else
  bif (a_a.Not != a_b.Not) then
  some false
  else
  some true


def laws_eqTestS_L0 (a_a : List Test) (a_b : List Test) : Int → Option (SR (Int) Bool) := fun k1 =>
  bif (decide (k1 < (a_a.length : Int))) then
  (idx a_a k1).bind fun x1 =>
  (idx a_b k1).bind fun x2 =>
  (F.laws_eqTest x1 x2).bind fun x3 =>
  bif x3 then
  some (.nxt (W (k1 + 1)))
  else
  some (.ret false)
  else
  some (.brk k1)
def laws_eqTestS (a_a : List Test) (a_b : List Test) : Option Bool :=
  bif ((a_a.length : Int) != (a_b.length : Int)) then
  some false
  else
  (loopF (laws_eqTestS_L0 a_a a_b) ((((a_a.length : Int)) : Int) - 0).toNat.succ 0).bind fun lr => lr.on (fun _k2 =>
  some true) (fun r => some r)


def laws_markTestS_L0 (a_a : List Test) : Int × Int → Option (SR (Int × Int) Int) := fun (k1, k2) =>
  bif (decide (k2 < (a_a.length : Int))) then
  (idx a_a k2).bind fun _x1 =>
  some (.nxt ((W ((W ((W ((W (k1 + 1)) + 1)) + 1)) + 1)), (W (k2 + 1))))
  else
  some (.brk (k1, k2))
def laws_markTestS (a_a : List Test) (a_k : Int) : Option Int :=
  (loopF (laws_markTestS_L0 a_a) ((((a_a.length : Int)) : Int) - 0).toNat.succ (a_k, 0)).bind fun lr => lr.on (fun (k3, _k4) =>
  some k3) (fun r => some r)


def spec_l1OwnRowsSpan_L0 (a_list : List (List Span)) : (List (List Span)) × Int → Option (SR ((List (List Span)) × Int) ((List (List Span)))) := fun (y1, k1) =>
  bif (decide (k1 < (a_list.length : Int))) then
  (idx a_list k1).bind fun x1 =>
  (appF ([] : List Span) x1).bind fun z1 =>
  (appF y1 [z1]).bind fun z2 =>
  some (.nxt (z2, (W (k1 + 1))))
  else
  some (.brk (y1, k1))
def spec_l1OwnRowsSpan (a_list : List (List Span)) : Option ((List (List Span))) :=
  (loopF (spec_l1OwnRowsSpan_L0 a_list) ((((a_list.length : Int)) : Int) - 0).toNat.succ (([] : List (List Span)), 0)).bind fun lr => lr.on (fun (y2, _k2) =>
  some y2) (fun r => some r)


def spec_l2Meet_L1 (a_a : List Span) (a_b : List Span) (k1 : Int) : (List Span) × Int → Option (SR ((List Span) × Int) ((List Span))) := fun (y2, k2) =>
  bif (decide (k2 < (a_b.length : Int))) then
  (idx a_a k1).bind fun x1 =>
  (idx a_b k2).bind fun x2 =>
  bif (decide ((imax x1.Lo x2.Lo) ≤ (imin x1.Hi x2.Hi))) then
  (appF y2 [({ Lo := (imax x1.Lo x2.Lo), Hi := (imin x1.Hi x2.Hi) } : Span)]).bind fun z1 =>
  some (.nxt (z1, (W (k2 + 1))))
  else
  some (.nxt (y2, (W (k2 + 1))))
  else
  some (.brk (y2, k2))
def spec_l2Meet_L0 (a_a : List Span) (a_b : List Span) : (List Span) × Int → Option (SR ((List Span) × Int) ((List Span))) := fun (y1, k1) =>
  bif (decide (k1 < (a_a.length : Int))) then
  (loopF (spec_l2Meet_L1 a_a a_b k1) ((((a_b.length : Int)) : Int) - 0).toNat.succ (y1, 0)).bind fun lr => lr.on (fun (y3, _k3) =>
  some (.nxt (y3, (W (k1 + 1))))) (fun r => some (.ret r))
  else
  some (.brk (y1, k1))
def spec_l2Meet (a_a : List Span) (a_b : List Span) : Option ((List Span)) :=
  (loopF (spec_l2Meet_L0 a_a a_b) ((((a_a.length : Int)) : Int) - 0).toNat.succ (([] : List Span), 0)).bind fun lr => lr.on (fun (y4, _k4) =>
  some y4) (fun r => some r)


def impl_stretch (a_rest : List Span) (a_at : Int) (a_top : Int) : Option (Bool × Int) :=
  bif ((a_rest.length : Int) == 0) then
  some (false, a_top)
  else
  (idx a_rest 0).bind fun x1 =>
  bif (decide (a_at < x1.Lo)) then
  some (false, (W (x1.Lo - 1)))
  else
  some (true, x1.Hi)


def impl_limitSpans (a_list : List Span) : Option ((List Span) × Bool) :=
  bif (decide (40 < (a_list.length : Int))) then
  some (([] : List Span), false)
  else
  some (a_list, true)


def impl_inBoth (a_inA : Bool) (a_inB : Bool) : Option Bool :=
  bif a_inA then
  some a_inB
  else
  some false


def impl_sweepSpans__impl_inBoth_L2 (a_b : List Span) (k3 : Int) : Int × (List Span) → Option (SR (Int × (List Span)) ((List Span))) := fun (k6, y4) =>
  bif (decide (k6 < (a_b.length : Int))) then
  (idx a_b k6).bind fun x2 =>
  bif (decide (x2.Hi < k3)) then
  some (.nxt ((W (k6 + 1)), y4))
  else
  some (.brk (k6, y4))
  else
  some (.brk (k6, y4))
def impl_sweepSpans__impl_inBoth_L1 (a_a : List Span) (k3 : Int) : Int × (List Span) → Option (SR (Int × (List Span)) ((List Span))) := fun (k4, y2) =>
  bif (decide (k4 < (a_a.length : Int))) then
  (idx a_a k4).bind fun x1 =>
  bif (decide (x1.Hi < k3)) then
  some (.nxt ((W (k4 + 1)), y2))
  else
  some (.brk (k4, y2))
  else
  some (.brk (k4, y2))
def impl_sweepSpans__impl_inBoth_L0 (a_a : List Span) (a_b : List Span) (a_top : Int) : (List Span) × Int × Int × Int → Option (SR ((List Span) × Int × Int × Int) ((List Span))) := fun (y1, k1, k2, k3) =>
  bif (decide (k3 ≤ a_top)) then
  (loopF (impl_sweepSpans__impl_inBoth_L1 a_a k3) ((((a_a.length : Int)) : Int) - k1).toNat.succ (k1, y1)).bind fun lr => lr.on (fun (k5, y3) =>
  (loopF (impl_sweepSpans__impl_inBoth_L2 a_b k3) ((((a_b.length : Int)) : Int) - k2).toNat.succ (k2, y3)).bind fun lr => lr.on (fun (k7, y5) =>
  (dropF a_a k5).bind fun y6 =>
  (F.impl_stretch y6 k3 a_top).bind fun x3 =>
  (dropF a_b k7).bind fun y7 =>
  (F.impl_stretch y7 k3 a_top).bind fun x4 =>
  (F.impl_inBoth x3.1 x4.1).bind fun x5 =>
  bif x5 then
  bif (decide (0 < (y5.length : Int))) then
  (idx y5 (W ((y5.length : Int) - 1))).bind fun x6 =>
  bif ((W (x6.Hi + 1)) == k3) then
  some (.nxt ((List.set y5 ((W ((y5.length : Int) - 1)) : Int).toNat { x6 with Hi := (imin x3.2 x4.2) }), k5, k7, (W ((imin x3.2 x4.2) + 1))))
  else
  (appF y5 [({ Lo := k3, Hi := (imin x3.2 x4.2) } : Span)]).bind fun z1 =>
  some (.nxt (z1, k5, k7, (W ((imin x3.2 x4.2) + 1))))
  else
  (appF y5 [({ Lo := k3, Hi := (imin x3.2 x4.2) } : Span)]).bind fun z2 =>
  some (.nxt (z2, k5, k7, (W ((imin x3.2 x4.2) + 1))))
  else
  some (.nxt (y5, k5, k7, (W ((imin x3.2 x4.2) + 1))))) (fun r => some (.ret r))) (fun r => some (.ret r))
  else
  some (.brk (y1, k1, k2, k3))
def impl_sweepSpans__impl_inBoth (a_a : List Span) (a_b : List Span) (a_top : Int) : Option ((List Span)) :=
  (loopF (impl_sweepSpans__impl_inBoth_L0 a_a a_b a_top) (((a_top) : Int) - 0 + 1).toNat.succ (([] : List Span), 0, 0, 0)).bind fun lr => lr.on (fun (y8, _k8, _k9, _k10) =>
  some y8) (fun r => some r)


def impl_meetSpans (a_a : List Span) (a_b : List Span) (a_top : Int) : Option ((List Span) × Bool) :=
  (F.impl_sweepSpans__impl_inBoth a_a a_b a_top).bind fun x1 =>
  (F.impl_limitSpans x1).bind fun x2 =>
  some (x2.1, x2.2)


def impl_sides_box_L0 (a_s : List (List Span)) : Int × (List (List Span)) → Option (SR (Int × (List (List Span))) Box) := fun (k1, y1) =>
  bif (decide (k1 < 4)) then
  (idx a_s k1).bind fun x1 =>
  (appF ([] : List Span) x1).bind fun z1 =>
  (idx y1 k1).bind fun _x2 =>
  some (.nxt ((W (k1 + 1)), (List.set y1 (k1 : Int).toNat z1)))
  else
  some (.brk (k1, y1))
def impl_sides_box (a_s : List (List Span)) : Option Box :=
  (makeF ([] : List Span) 4).bind fun mk1 =>
  (loopF (impl_sides_box_L0 a_s) (((4) : Int) - 0).toNat.succ (0, mk1)).bind fun lr => lr.on (fun (_k2, y2) =>
  some ({ Sides := y2 } : Box)) (fun r => some r)


def laws_szTestS (a_a : List Test) (a_left : Int) : Option Int :=
  bif (decide ((W (a_left - (a_a.length : Int))) < 0)) then
  some (-1)
  else
  some (W (a_left - (a_a.length : Int)))


def spec_BoxAll_L0 : Int × (List (List Span)) → Option (SR (Int × (List (List Span))) Box) := fun (k1, y1) =>
  bif (decide (k1 < 4)) then
  (F.spec_FieldTop k1).bind fun x1 =>
  (appF y1 [[({ Lo := 0, Hi := x1 } : Span)]]).bind fun z1 =>
  some (.nxt ((W (k1 + 1)), z1))
  else
  some (.brk (k1, y1))
def spec_BoxAll : Option Box :=
  (loopF (spec_BoxAll_L0) (((4) : Int) - 0).toNat.succ (0, ([] : List (List Span)))).bind fun lr => lr.on (fun (_k2, y2) =>
  some ({ Sides := y2 } : Box)) (fun r => some r)


def spec_l2Other_L0 (a_a : List Span) : (List Span) × Int × Int → Option (SR ((List Span) × Int × Int) ((List Span))) := fun (y1, k1, k2) =>
  bif (decide (k2 < (a_a.length : Int))) then
  (idx a_a k2).bind fun x1 =>
  bif (decide (k1 < x1.Lo)) then
  (appF y1 [({ Lo := k1, Hi := (W (x1.Lo - 1)) } : Span)]).bind fun z1 =>
  some (.nxt (z1, (W (x1.Hi + 1)), (W (k2 + 1))))
  else
  some (.nxt (y1, (W (x1.Hi + 1)), (W (k2 + 1))))
  else
  some (.brk (y1, k1, k2))
def spec_l2Other (a_a : List Span) (a_top : Int) : Option ((List Span)) :=
  (loopF (spec_l2Other_L0 a_a) ((((a_a.length : Int)) : Int) - 0).toNat.succ (([] : List Span), 0, 0)).bind fun lr => lr.on (fun (y2, k3, _k4) =>
  bif (decide (k3 ≤ a_top)) then
  (appF y2 [({ Lo := k3, Hi := a_top } : Span)]).bind fun z2 =>
  some z2
  else
  some y2) (fun r => some r)


def spec_TestSpans (a_t : Test) : Option ((List Span)) :=
  (F.spec_TestValid a_t).bind fun x1 =>
  bif x1 then
  bif a_t.Not then
  (F.spec_FieldTop a_t.Field).bind fun x2 =>
  (F.spec_l2Other [({ Lo := a_t.Lo, Hi := a_t.Hi } : Span)] x2).bind fun x3 =>
  some x3
  else
  some [({ Lo := a_t.Lo, Hi := a_t.Hi } : Span)]
  else
  some ([] : List Span)


def spec_TestsBox_L0 (a_list : List Test) : Int × (List (List Span)) → Option (SR (Int × (List (List Span))) Box) := fun (k1, y1) =>
  bif (decide (k1 < (a_list.length : Int))) then
  (idx a_list k1).bind fun x3 =>
  (idx y1 x3.Field).bind fun x4 =>
  (F.spec_TestSpans x3).bind fun x5 =>
  (F.spec_l2Meet x4 x5).bind fun x6 =>
  some (.nxt ((W (k1 + 1)), (List.set y1 (x3.Field : Int).toNat x6)))
  else
  some (.brk (k1, y1))
def spec_TestsBox (a_list : List Test) : Option Box :=
  (F.spec_TestsValid a_list).bind fun x1 =>
  bif x1 then
  (F.spec_BoxAll).bind fun x2 =>
  (loopF (spec_TestsBox_L0 a_list) ((((a_list.length : Int)) : Int) - 0).toNat.succ (0, x2.Sides)).bind fun lr => lr.on (fun (_k2, y2) =>
  some ({ Sides := y2 } : Box)) (fun r => some r)
  else
  some ({ Sides := ([] : List (List Span)) } : Box)


def laws_toTest (a_a : Test) : Option Test :=
  some ({ Field := a_a.Field, Lo := a_a.Lo, Hi := a_a.Hi, Not := a_a.Not } : Test)


def laws_toTestS_L0 (a_a : List Test) : Int × (List Test) → Option (SR (Int × (List Test)) ((List Test))) := fun (k1, y1) =>
  bif (decide (k1 < (a_a.length : Int))) then
  (idx a_a k1).bind fun x1 =>
  (F.laws_toTest x1).bind fun x2 =>
  (idx y1 k1).bind fun _x3 =>
  some (.nxt ((W (k1 + 1)), (List.set y1 (k1 : Int).toNat x2)))
  else
  some (.brk (k1, y1))
def laws_toTestS (a_a : List Test) : Option ((List Test)) :=
  (makeF ({ Field := (0 : Int), Lo := (0 : Int), Hi := (0 : Int), Not := false } : Test) (a_a.length : Int)).bind fun mk1 =>
  (loopF (laws_toTestS_L0 a_a) ((((a_a.length : Int)) : Int) - 0).toNat.succ (0, mk1)).bind fun lr => lr.on (fun (_k2, y2) =>
  some y2) (fun r => some r)


def impl_allSides_L0 : Int × (List (List Span)) → Option (SR (Int × (List (List Span))) ((List (List Span)))) := fun (k1, y1) =>
  bif (decide (k1 < 4)) then
  (F.impl_FieldTop k1).bind fun x1 =>
  (idx y1 k1).bind fun _x2 =>
  some (.nxt ((W (k1 + 1)), (List.set y1 (k1 : Int).toNat [({ Lo := 0, Hi := x1 } : Span)])))
  else
  some (.brk (k1, y1))
def impl_allSides : Option ((List (List Span))) :=
  (loopF (impl_allSides_L0) (((4) : Int) - 0).toNat.succ (0, [([] : List Span), ([] : List Span), ([] : List Span), ([] : List Span)])).bind fun lr => lr.on (fun (_k2, y2) =>
  some y2) (fun r => some r)


def impl_Test_spans (a_t : Test) : Option ((List Span)) :=
  bif a_t.Not then
  bif (decide (0 < a_t.Lo)) then
  (appF ([] : List Span) [({ Lo := 0, Hi := (W (a_t.Lo - 1)) } : Span)]).bind fun z1 =>
  (F.impl_FieldTop a_t.Field).bind fun x1 =>
  bif (decide (a_t.Hi < x1)) then
  (appF z1 [({ Lo := (W (a_t.Hi + 1)), Hi := x1 } : Span)]).bind fun z2 =>
  some z2
  else
  some z1
  else
  (F.impl_FieldTop a_t.Field).bind fun x2 =>
  bif (decide (a_t.Hi < x2)) then
  (appF ([] : List Span) [({ Lo := (W (a_t.Hi + 1)), Hi := x2 } : Span)]).bind fun z3 =>
  some z3
  else
  some ([] : List Span)
  else
  some [({ Lo := a_t.Lo, Hi := a_t.Hi } : Span)]


def impl_testsSides_L0 (a_list : List Test) : Int × (List (List Span)) → Option (SR (Int × (List (List Span))) ((List (List Span)))) := fun (k1, y1) =>
  bif (decide (k1 < (a_list.length : Int))) then
  (idx a_list k1).bind fun x2 =>
  (idx y1 x2.Field).bind fun x3 =>
  (F.impl_Test_spans x2).bind fun x4 =>
  (F.impl_FieldTop x2.Field).bind fun x5 =>
  (F.impl_meetSpans x3 x4 x5).bind fun x6 =>
  some (.nxt ((W (k1 + 1)), (List.set y1 (x2.Field : Int).toNat x6.1)))
  else
  some (.brk (k1, y1))
def impl_testsSides (a_list : List Test) : Option ((List (List Span))) :=
  (F.impl_allSides).bind fun x1 =>
  (loopF (impl_testsSides_L0 a_list) ((((a_list.length : Int)) : Int) - 0).toNat.succ (0, x1)).bind fun lr => lr.on (fun (_k2, y2) =>
  some y2) (fun r => some r)


def impl_TestsBox (a_list : List Test) : Option Box :=
  (F.impl_TestsValid a_list).bind fun x1 =>
  bif x1 then
  (F.impl_testsSides a_list).bind fun x2 =>
  (F.impl_sides_box x2).bind fun x3 =>
  some ({ Sides := x3.Sides } : Box)
  else
  some ({ Sides := ([] : List (List Span)) } : Box)


def laws_szRule (a_a : Rule) (a_left : Int) : Option Int :=
  (F.laws_szTestS a_a.Tests a_left).bind fun x1 =>
  bif (decide (x1 < 0)) then
  some (-1)
  else
  some x1


def laws_szRuleS_L0 (a_a : List Rule) : Int × Int → Option (SR (Int × Int) Int) := fun (k1, k2) =>
  bif (decide (k2 < (a_a.length : Int))) then
  (idx a_a k2).bind fun x1 =>
  (F.laws_szRule x1 k1).bind fun x2 =>
  bif (decide (x2 < 0)) then
  some (.ret (-1))
  else
  some (.nxt (x2, (W (k2 + 1))))
  else
  some (.brk (k1, k2))
def laws_szRuleS (a_a : List Rule) (a_left : Int) : Option Int :=
  bif (decide ((W (a_left - (a_a.length : Int))) < 0)) then
  some (-1)
  else
  (loopF (laws_szRuleS_L0 a_a) ((((a_a.length : Int)) : Int) - 0).toNat.succ ((W (a_left - (a_a.length : Int))), 0)).bind fun lr => lr.on (fun (k3, _k4) =>
  some k3) (fun r => some r)


def laws_szRuleSS_L0 (a_a : List (List Rule)) : Int × Int → Option (SR (Int × Int) Int) := fun (k1, k2) =>
  bif (decide (k2 < (a_a.length : Int))) then
  (idx a_a k2).bind fun x1 =>
  (F.laws_szRuleS x1 k1).bind fun x2 =>
  bif (decide (x2 < 0)) then
  some (.ret (-1))
  else
  some (.nxt (x2, (W (k2 + 1))))
  else
  some (.brk (k1, k2))
def laws_szRuleSS (a_a : List (List Rule)) (a_left : Int) : Option Int :=
  bif (decide ((W (a_left - (a_a.length : Int))) < 0)) then
  some (-1)
  else
  (loopF (laws_szRuleSS_L0 a_a) ((((a_a.length : Int)) : Int) - 0).toNat.succ ((W (a_left - (a_a.length : Int))), 0)).bind fun lr => lr.on (fun (k3, _k4) =>
  some k3) (fun r => some r)


def laws_szRuleset (a_a : Ruleset) (a_left : Int) : Option Int :=
  (F.laws_szRuleSS a_a.Chains a_left).bind fun x1 =>
  bif (decide (x1 < 0)) then
  some (-1)
  else
  some x1


def laws_toRule (a_a : Rule) : Option Rule :=
  (F.laws_toTestS a_a.Tests).bind fun x1 =>
  some ({ Tests := x1, Action := a_a.Action, Chain := a_a.Chain } : Rule)


def laws_toRuleS_L0 (a_a : List Rule) : Int × (List Rule) → Option (SR (Int × (List Rule)) ((List Rule))) := fun (k1, y1) =>
  bif (decide (k1 < (a_a.length : Int))) then
  (idx a_a k1).bind fun x1 =>
  (F.laws_toRule x1).bind fun x2 =>
  (idx y1 k1).bind fun _x3 =>
  some (.nxt ((W (k1 + 1)), (List.set y1 (k1 : Int).toNat x2)))
  else
  some (.brk (k1, y1))
def laws_toRuleS (a_a : List Rule) : Option ((List Rule)) :=
  (makeF ({ Tests := ([] : List Test), Action := (0 : Int), Chain := (0 : Int) } : Rule) (a_a.length : Int)).bind fun mk1 =>
  (loopF (laws_toRuleS_L0 a_a) ((((a_a.length : Int)) : Int) - 0).toNat.succ (0, mk1)).bind fun lr => lr.on (fun (_k2, y2) =>
  some y2) (fun r => some r)


def laws_toRuleSS_L0 (a_a : List (List Rule)) : Int × (List (List Rule)) → Option (SR (Int × (List (List Rule))) ((List (List Rule)))) := fun (k1, y1) =>
  bif (decide (k1 < (a_a.length : Int))) then
  (idx a_a k1).bind fun x1 =>
  (F.laws_toRuleS x1).bind fun x2 =>
  (idx y1 k1).bind fun _x3 =>
  some (.nxt ((W (k1 + 1)), (List.set y1 (k1 : Int).toNat x2)))
  else
  some (.brk (k1, y1))
def laws_toRuleSS (a_a : List (List Rule)) : Option ((List (List Rule))) :=
  (makeF ([] : List Rule) (a_a.length : Int)).bind fun mk1 =>
  (loopF (laws_toRuleSS_L0 a_a) ((((a_a.length : Int)) : Int) - 0).toNat.succ (0, mk1)).bind fun lr => lr.on (fun (_k2, y2) =>
  some y2) (fun r => some r)


def laws_toRuleset (a_a : Ruleset) : Option Ruleset :=
  (F.laws_toRuleSS a_a.Chains).bind fun x1 =>
  some ({ Chains := x1, Accept := a_a.Accept } : Ruleset)


def laws_eqRule (a_a : Rule) (a_b : Rule) : Option Bool :=
  (F.laws_eqTestS a_a.Tests a_b.Tests).bind fun x1 =>
  bif x1 then
  bif (a_a.Action != a_b.Action) then
  some false
  else
  bif (a_a.Chain != a_b.Chain) then
  some false
  else
  some true
  else
  some false


def laws_eqRuleS_L0 (a_a : List Rule) (a_b : List Rule) : Int → Option (SR (Int) Bool) := fun k1 =>
  bif (decide (k1 < (a_a.length : Int))) then
  (idx a_a k1).bind fun x1 =>
  (idx a_b k1).bind fun x2 =>
  (F.laws_eqRule x1 x2).bind fun x3 =>
  bif x3 then
  some (.nxt (W (k1 + 1)))
  else
  some (.ret false)
  else
  some (.brk k1)
def laws_eqRuleS (a_a : List Rule) (a_b : List Rule) : Option Bool :=
  bif ((a_a.length : Int) != (a_b.length : Int)) then
  some false
  else
  (loopF (laws_eqRuleS_L0 a_a a_b) ((((a_a.length : Int)) : Int) - 0).toNat.succ 0).bind fun lr => lr.on (fun _k2 =>
  some true) (fun r => some r)


def laws_eqRuleSS_L0 (a_a : List (List Rule)) (a_b : List (List Rule)) : Int → Option (SR (Int) Bool) := fun k1 =>
  bif (decide (k1 < (a_a.length : Int))) then
  (idx a_a k1).bind fun x1 =>
  (idx a_b k1).bind fun x2 =>
  (F.laws_eqRuleS x1 x2).bind fun x3 =>
  bif x3 then
  some (.nxt (W (k1 + 1)))
  else
  some (.ret false)
  else
  some (.brk k1)
def laws_eqRuleSS (a_a : List (List Rule)) (a_b : List (List Rule)) : Option Bool :=
  bif ((a_a.length : Int) != (a_b.length : Int)) then
  some false
  else
  (loopF (laws_eqRuleSS_L0 a_a a_b) ((((a_a.length : Int)) : Int) - 0).toNat.succ 0).bind fun lr => lr.on (fun _k2 =>
  some true) (fun r => some r)


def laws_eqRuleset (a_a : Ruleset) (a_b : Ruleset) : Option Bool :=
  (F.laws_eqRuleSS a_a.Chains a_b.Chains).bind fun x1 =>
  bif x1 then
  bif (a_a.Accept != a_b.Accept) then
  some false
  else
  some true
  else
  some false


def laws_markRuleS_L0 (a_a : List Rule) : Int × Int → Option (SR (Int × Int) Int) := fun (k1, k2) =>
  bif (decide (k2 < (a_a.length : Int))) then
  (idx a_a k2).bind fun x1 =>
  (F.laws_markTestS x1.Tests k1).bind fun x2 =>
  some (.nxt ((W ((W (x2 + 1)) + 1)), (W (k2 + 1))))
  else
  some (.brk (k1, k2))
def laws_markRuleS (a_a : List Rule) (a_k : Int) : Option Int :=
  (loopF (laws_markRuleS_L0 a_a) ((((a_a.length : Int)) : Int) - 0).toNat.succ (a_k, 0)).bind fun lr => lr.on (fun (k3, _k4) =>
  some k3) (fun r => some r)


def laws_markRuleSS_L0 (a_a : List (List Rule)) : Int × Int → Option (SR (Int × Int) Int) := fun (k1, k2) =>
  bif (decide (k2 < (a_a.length : Int))) then
  (idx a_a k2).bind fun x1 =>
  (F.laws_markRuleS x1 k1).bind fun x2 =>
  some (.nxt (x2, (W (k2 + 1))))
  else
  some (.brk (k1, k2))
def laws_markRuleSS (a_a : List (List Rule)) (a_k : Int) : Option Int :=
  (loopF (laws_markRuleSS_L0 a_a) ((((a_a.length : Int)) : Int) - 0).toNat.succ (a_k, 0)).bind fun lr => lr.on (fun (k3, _k4) =>
  some k3) (fun r => some r)


def laws_markRuleset (a_a : Ruleset) (a_k : Int) : Option Int :=
  (F.laws_markRuleSS a_a.Chains a_k).bind fun x1 =>
  some x1


def spec_JudgeTrace (a_s : Ruleset) (a_p : Packet) : Option ((List Visit)) :=
  (F.spec_RulesetValid a_s).bind fun x1 =>
  bif x1 then
  (F.spec_PacketValid a_p).bind fun x2 =>
  bif x2 then
  (F.spec_l9Walk 10 a_s 0 a_p ([] : List Visit)).bind fun x3 =>
  some x3.2
  else
  some ([] : List Visit)
  else
  some ([] : List Visit)


def laws_toPacket (a_a : Packet) : Option Packet :=
  some ({ From := a_a.From, To := a_a.To, Port := a_a.Port, Proto := a_a.Proto } : Packet)


def impl_JudgeTrace (a_s : Ruleset) (a_p : Packet) : Option ((List Visit)) :=
  (F.impl_RulesetValid a_s).bind fun x1 =>
  bif x1 then
  (F.impl_PacketValid a_p).bind fun x2 =>
  bif x2 then
  (F.impl_walkThrough a_s a_p).bind fun x3 =>
  some x3.visits
  else
  some ([] : List Visit)
  else
  some ([] : List Visit)


def laws_eqVisit (a_a : Visit) (a_b : Visit) : Option Bool :=
  bif (a_a.Chain != a_b.Chain) then
  some false
  else
  bif (a_a.Place != a_b.Place) then
  some false
  else
  some true


def laws_eqVisitS_L0 (a_a : List Visit) (a_b : List Visit) : Int → Option (SR (Int) Bool) := fun k1 =>
  bif (decide (k1 < (a_a.length : Int))) then
  (idx a_a k1).bind fun x1 =>
  (idx a_b k1).bind fun x2 =>
  (F.laws_eqVisit x1 x2).bind fun x3 =>
  bif x3 then
  some (.nxt (W (k1 + 1)))
  else
  some (.ret false)
  else
  some (.brk k1)
def laws_eqVisitS (a_a : List Visit) (a_b : List Visit) : Option Bool :=
  bif ((a_a.length : Int) != (a_b.length : Int)) then
  some false
  else
  (loopF (laws_eqVisitS_L0 a_a a_b) ((((a_a.length : Int)) : Int) - 0).toNat.succ 0).bind fun lr => lr.on (fun _k2 =>
  some true) (fun r => some r)


def laws_markVisitS_r_L0 : Int × Int × (List Visit) → Option (SR (Int × Int × (List Visit)) (Int × (List Visit))) := fun (k1, k2, y1) =>
  bif (decide (k2 < (y1.length : Int))) then
  (idx y1 k2).bind fun x1 =>
  (idx (List.set y1 (k2 : Int).toNat { x1 with Chain := k1 }) k2).bind fun x2 =>
  some (.nxt ((W ((W (k1 + 1)) + 1)), (W (k2 + 1)), (List.set (List.set y1 (k2 : Int).toNat { x1 with Chain := k1 }) (k2 : Int).toNat { x2 with Place := (W (k1 + 1)) })))
  else
  some (.brk (k1, k2, y1))
def laws_markVisitS_r (a_a : List Visit) (a_k : Int) : Option (Int × (List Visit)) :=
  (loopF (laws_markVisitS_r_L0) ((a_a.length : Int) - 0).toNat.succ (a_k, 0, a_a)).bind fun lr => lr.on (fun (k3, _k4, y2) =>
  some (k3, y2)) (fun r => some r)


def laws_heldVisitS_L0 (a_a : List Visit) : Int × Int → Option (SR (Int × Int) Int) := fun (k1, k2) =>
  bif (decide (k2 < (a_a.length : Int))) then
  (idx a_a k2).bind fun x1 =>
  bif (x1.Chain != k1) then
  some (.ret (-1))
  else
  bif (x1.Place != (W (k1 + 1))) then
  some (.ret (-1))
  else
  some (.nxt ((W ((W (k1 + 1)) + 1)), (W (k2 + 1))))
  else
  some (.brk (k1, k2))
def laws_heldVisitS (a_a : List Visit) (a_k : Int) : Option Int :=
  (loopF (laws_heldVisitS_L0 a_a) ((((a_a.length : Int)) : Int) - 0).toNat.succ (a_k, 0)).bind fun lr => lr.on (fun (k3, _k4) =>
  some k3) (fun r => some r)


def laws_FnExactJudgeTrace (a_aS : Ruleset) (a_aP : Packet) : Option Bool :=
  (F.laws_szRuleset a_aS 1048576).bind fun x1 =>
  bif (decide (x1 < 0)) then
  some true
  else
  (F.laws_toRuleset a_aS).bind fun x2 =>
  (F.laws_toPacket a_aP).bind fun x3 =>
  (F.spec_JudgeTrace x2 x3).bind fun x4 =>
  (F.impl_JudgeTrace ({ Chains := x2.Chains, Accept := x2.Accept } : Ruleset) x3).bind fun x5 =>
  (F.laws_eqVisitS x5 x4).bind fun x6 =>
  bif x6 then
  (F.laws_eqRuleset ({ Chains := x2.Chains, Accept := x2.Accept } : Ruleset) x2).bind fun x7 =>
  bif x7 then
  (F.laws_markRuleset x2 1).bind fun x8 =>
  bif (decide (x8 < 0)) then
  some false
  else
  (F.laws_markVisitS_r x5 1).bind fun x9 =>
  (F.laws_heldVisitS x9.2 1).bind fun x10 =>
  bif (decide (x10 < 0)) then
  some false
  else
  bif (x10 != x9.1) then
  some false
  else
  (F.impl_JudgeTrace x2 x3).bind fun x11 =>
  (F.laws_eqVisitS x11 x4).bind fun x12 =>
  bif x12 then
  some true
  else
  some false
  else
  some false
  else
  some false


end Go.PF.F
