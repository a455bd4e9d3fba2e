/- The structs of the program as Lean structs, and their cells; no condition. -/
import Derived.Test.YtgglogmjjaahhaaDoorPFMore
namespace Go.PF
open Go Go.RowKit

structure Span where
  Lo : Int
  Hi : Int
  deriving DecidableEq

def RSpan : RTy Span := RIso (RPair RInt RInt) fun x => (x.Lo, x.Hi)

theorem fld_Span_Lo : Fld RSpan 0 RInt Span.Lo := Fld.iso (Fld.fst RInt RInt) _

theorem fld_Span_Hi : Fld RSpan 1 RInt Span.Hi := Fld.iso (Fld.snd RInt RInt) _

theorem open_Span {w : World} {M : Nat → Prop} {x : Span} {v : Value} (h : VRep RSpan w M x v) : v = .agg #[.int .i64 x.Lo, .int .i64 x.Hi] := by
  obtain ⟨vs, hr, rfl⟩ := h
  obtain ⟨_, _, rfl, rfl, rfl⟩ := hr
  exact rfl

theorem shut_Span {w : World} {M : Nat → Prop} {fLo : Int} {fHi : Int} : VRep RSpan w M { Lo := fLo, Hi := fHi } (.agg #[.int .i64 fLo, .int .i64 fHi]) := ⟨[.int .i64 fLo, .int .i64 fHi], ⟨_, _, rfl, rfl, rfl⟩, rfl⟩

structure Box where
  Sides : List (List Span)
  deriving DecidableEq

structure Packet where
  From : Int
  To : Int
  Port : Int
  Proto : Int
  deriving DecidableEq

def RPacket : RTy Packet := RIso (RPair RInt (RPair RInt (RPair RInt RInt))) fun x => (x.From, x.To, x.Port, x.Proto)

theorem fld_Packet_From : Fld RPacket 0 RInt Packet.From := Fld.iso (Fld.fst RInt (RPair RInt (RPair RInt RInt))) _

theorem fld_Packet_To : Fld RPacket 1 RInt Packet.To := Fld.iso (Fld.comp (Fld.snd RInt (RPair RInt (RPair RInt RInt))) (Fld.fst RInt (RPair RInt RInt)) (by decide)) _

theorem fld_Packet_Port : Fld RPacket 2 RInt Packet.Port := Fld.iso (Fld.comp (Fld.snd RInt (RPair RInt (RPair RInt RInt))) (Fld.comp (Fld.snd RInt (RPair RInt RInt)) (Fld.fst RInt RInt) (by decide)) (by decide)) _

theorem fld_Packet_Proto : Fld RPacket 3 RInt Packet.Proto := Fld.iso (Fld.comp (Fld.snd RInt (RPair RInt (RPair RInt RInt))) (Fld.comp (Fld.snd RInt (RPair RInt RInt)) (Fld.snd RInt RInt) (by decide)) (by decide)) _

theorem open_Packet {w : World} {M : Nat → Prop} {x : Packet} {v : Value} (h : VRep RPacket w M x v) : v = .agg #[.int .i64 x.From, .int .i64 x.To, .int .i64 x.Port, .int .i64 x.Proto] := by
  obtain ⟨vs, hr, rfl⟩ := h
  obtain ⟨_, _, rfl, rfl, ⟨_, _, rfl, rfl, ⟨_, _, rfl, rfl, rfl⟩⟩⟩ := hr
  exact rfl

theorem shut_Packet {w : World} {M : Nat → Prop} {fFrom : Int} {fTo : Int} {fPort : Int} {fProto : Int} : VRep RPacket w M { From := fFrom, To := fTo, Port := fPort, Proto := fProto } (.agg #[.int .i64 fFrom, .int .i64 fTo, .int .i64 fPort, .int .i64 fProto]) := ⟨[.int .i64 fFrom, .int .i64 fTo, .int .i64 fPort, .int .i64 fProto], ⟨_, _, rfl, rfl, ⟨_, _, rfl, rfl, ⟨_, _, rfl, rfl, rfl⟩⟩⟩, rfl⟩

structure Test where
  Field : Int
  Lo : Int
  Hi : Int
  Not : Bool
  deriving DecidableEq

def RTest : RTy Test := RIso (RPair RInt (RPair RInt (RPair RInt RBool))) fun x => (x.Field, x.Lo, x.Hi, x.Not)

theorem fld_Test_Field : Fld RTest 0 RInt Test.Field := Fld.iso (Fld.fst RInt (RPair RInt (RPair RInt RBool))) _

theorem fld_Test_Lo : Fld RTest 1 RInt Test.Lo := Fld.iso (Fld.comp (Fld.snd RInt (RPair RInt (RPair RInt RBool))) (Fld.fst RInt (RPair RInt RBool)) (by decide)) _

theorem fld_Test_Hi : Fld RTest 2 RInt Test.Hi := Fld.iso (Fld.comp (Fld.snd RInt (RPair RInt (RPair RInt RBool))) (Fld.comp (Fld.snd RInt (RPair RInt RBool)) (Fld.fst RInt RBool) (by decide)) (by decide)) _

theorem fld_Test_Not : Fld RTest 3 RBool Test.Not := Fld.iso (Fld.comp (Fld.snd RInt (RPair RInt (RPair RInt RBool))) (Fld.comp (Fld.snd RInt (RPair RInt RBool)) (Fld.snd RInt RBool) (by decide)) (by decide)) _

theorem open_Test {w : World} {M : Nat → Prop} {x : Test} {v : Value} (h : VRep RTest w M x v) : v = .agg #[.int .i64 x.Field, .int .i64 x.Lo, .int .i64 x.Hi, .bool x.Not] := by
  obtain ⟨vs, hr, rfl⟩ := h
  obtain ⟨_, _, rfl, rfl, ⟨_, _, rfl, rfl, ⟨_, _, rfl, rfl, rfl⟩⟩⟩ := hr
  exact rfl

theorem shut_Test {w : World} {M : Nat → Prop} {fField : Int} {fLo : Int} {fHi : Int} {fNot : Bool} : VRep RTest w M { Field := fField, Lo := fLo, Hi := fHi, Not := fNot } (.agg #[.int .i64 fField, .int .i64 fLo, .int .i64 fHi, .bool fNot]) := ⟨[.int .i64 fField, .int .i64 fLo, .int .i64 fHi, .bool fNot], ⟨_, _, rfl, rfl, ⟨_, _, rfl, rfl, ⟨_, _, rfl, rfl, rfl⟩⟩⟩, rfl⟩

structure Rule where
  Tests : List Test
  Action : Int
  Chain : Int
  deriving DecidableEq

def RRule : RTy Rule := RIso (RPair (RSlice RTest) (RPair RInt RInt)) fun x => (x.Tests, x.Action, x.Chain)

theorem fld_Rule_Tests : Fld RRule 0 (RSlice RTest) Rule.Tests := Fld.iso (Fld.fst (RSlice RTest) (RPair RInt RInt)) _

theorem fld_Rule_Action : Fld RRule 1 RInt Rule.Action := Fld.iso (Fld.comp (Fld.snd (RSlice RTest) (RPair RInt RInt)) (Fld.fst RInt RInt) (by decide)) _

theorem fld_Rule_Chain : Fld RRule 2 RInt Rule.Chain := Fld.iso (Fld.comp (Fld.snd (RSlice RTest) (RPair RInt RInt)) (Fld.snd RInt RInt) (by decide)) _

theorem open_Rule {w : World} {M : Nat → Prop} {x : Rule} {v : Value} (h : VRep RRule w M x v) : ∃ A0, ∃ c0, v = .agg #[.slice A0 x.Tests.length c0, .int .i64 x.Action, .int .i64 x.Chain] ∧ VRep (RSlice RTest) w M x.Tests (.slice A0 x.Tests.length c0) := by
  obtain ⟨vs, hr, rfl⟩ := h
  obtain ⟨_, _, rfl, ⟨A0, c0, rfl, p0, q0, r0⟩, ⟨_, _, rfl, rfl, rfl⟩⟩ := hr
  exact ⟨A0, c0, rfl, ⟨_, ⟨A0, c0, rfl, p0, q0, r0⟩, rfl⟩⟩

theorem shut_Rule {w : World} {M : Nat → Prop} {fTests : List Test} {A0 : Option Addr} {n0 c0 : Nat} (h0 : VRep (RSlice RTest) w M fTests (.slice A0 n0 c0)) {fAction : Int} {fChain : Int} : VRep RRule w M { Tests := fTests, Action := fAction, Chain := fChain } (.agg #[.slice A0 n0 c0, .int .i64 fAction, .int .i64 fChain]) := ⟨[.slice A0 n0 c0, .int .i64 fAction, .int .i64 fChain], ⟨_, _, rfl, h0.cells, ⟨_, _, rfl, rfl, rfl⟩⟩, rfl⟩

structure Ruleset where
  Chains : List (List Rule)
  Accept : Bool
  deriving DecidableEq

def RRuleset : RTy Ruleset := RIso (RPair (RSlice (RSlice RRule)) RBool) fun x => (x.Chains, x.Accept)

theorem fld_Ruleset_Chains : Fld RRuleset 0 (RSlice (RSlice RRule)) Ruleset.Chains := Fld.iso (Fld.fst (RSlice (RSlice RRule)) RBool) _

theorem fld_Ruleset_Accept : Fld RRuleset 1 RBool Ruleset.Accept := Fld.iso (Fld.snd (RSlice (RSlice RRule)) RBool) _

theorem open_Ruleset {w : World} {M : Nat → Prop} {x : Ruleset} {v : Value} (h : VRep RRuleset w M x v) : ∃ A0, ∃ c0, v = .agg #[.slice A0 x.Chains.length c0, .bool x.Accept] ∧ VRep (RSlice (RSlice RRule)) w M x.Chains (.slice A0 x.Chains.length c0) := by
  obtain ⟨vs, hr, rfl⟩ := h
  obtain ⟨_, _, rfl, ⟨A0, c0, rfl, p0, q0, r0⟩, rfl⟩ := hr
  exact ⟨A0, c0, rfl, ⟨_, ⟨A0, c0, rfl, p0, q0, r0⟩, rfl⟩⟩

theorem shut_Ruleset {w : World} {M : Nat → Prop} {fChains : List (List Rule)} {A0 : Option Addr} {n0 c0 : Nat} (h0 : VRep (RSlice (RSlice RRule)) w M fChains (.slice A0 n0 c0)) {fAccept : Bool} : VRep RRuleset w M { Chains := fChains, Accept := fAccept } (.agg #[.slice A0 n0 c0, .bool fAccept]) := ⟨[.slice A0 n0 c0, .bool fAccept], ⟨_, _, rfl, h0.cells, rfl⟩, rfl⟩

structure Flat where
  Where : Box
  Accept : Bool
  deriving DecidableEq

structure FlatI where
  wh : List (List Span)
  accept : Bool
  deriving DecidableEq

structure Visit where
  Chain : Int
  Place : Int
  deriving DecidableEq

def RVisit : RTy Visit := RIso (RPair RInt RInt) fun x => (x.Chain, x.Place)

theorem open_Visit {w : World} {M : Nat → Prop} {x : Visit} {v : Value} (h : VRep RVisit w M x v) : v = .agg #[.int .i64 x.Chain, .int .i64 x.Place] := by
  obtain ⟨vs, hr, rfl⟩ := h
  obtain ⟨_, _, rfl, rfl, rfl⟩ := hr
  exact rfl

theorem shut_Visit {w : World} {M : Nat → Prop} {fChain : Int} {fPlace : Int} : VRep RVisit w M { Chain := fChain, Place := fPlace } (.agg #[.int .i64 fChain, .int .i64 fPlace]) := ⟨[.int .i64 fChain, .int .i64 fPlace], ⟨_, _, rfl, rfl, rfl⟩, rfl⟩

structure Shape where
  name : ByteArray
  top : Int


def RShape : RTy Shape := RIso (RPair RStr RInt) fun x => (x.name, x.top)

theorem fld_Shape_top : Fld RShape 1 RInt Shape.top := Fld.iso (Fld.snd RStr RInt) _

structure Place where
  chain : Int
  next : Int
  deriving DecidableEq

def RPlace : RTy Place := RIso (RPair RInt RInt) fun x => (x.chain, x.next)

theorem fld_Place_chain : Fld RPlace 0 RInt Place.chain := Fld.iso (Fld.fst RInt RInt) _

theorem fld_Place_next : Fld RPlace 1 RInt Place.next := Fld.iso (Fld.snd RInt RInt) _

theorem open_Place {w : World} {M : Nat → Prop} {x : Place} {v : Value} (h : VRep RPlace w M x v) : v = .agg #[.int .i64 x.chain, .int .i64 x.next] := by
  obtain ⟨vs, hr, rfl⟩ := h
  obtain ⟨_, _, rfl, rfl, rfl⟩ := hr
  exact rfl

theorem shut_Place {w : World} {M : Nat → Prop} {fchain : Int} {fnext : Int} : VRep RPlace w M { chain := fchain, next := fnext } (.agg #[.int .i64 fchain, .int .i64 fnext]) := ⟨[.int .i64 fchain, .int .i64 fnext], ⟨_, _, rfl, rfl, rfl⟩, rfl⟩

structure l20Rd where
  b : List Int
  p : Int
  deriving DecidableEq

structure Walk where
  stack : List Place
  visits : List Visit
  decision : Int
  deriving DecidableEq

def RWalk : RTy Walk := RIso (RPair (RSlice RPlace) (RPair (RSlice RVisit) RInt)) fun x => (x.stack, x.visits, x.decision)

theorem fld_Walk_decision : Fld RWalk 2 RInt Walk.decision := Fld.iso (Fld.comp (Fld.snd (RSlice RPlace) (RPair (RSlice RVisit) RInt)) (Fld.snd (RSlice RVisit) RInt) (by decide)) _

theorem shut_Walk {w : World} {M : Nat → Prop} {fstack : List Place} {A0 : Option Addr} {n0 c0 : Nat} (h0 : VRep (RSlice RPlace) w M fstack (.slice A0 n0 c0)) {fvisits : List Visit} {A1 : Option Addr} {n1 c1 : Nat} (h1 : VRep (RSlice RVisit) w M fvisits (.slice A1 n1 c1)) {fdecision : Int} : VRep RWalk w M { stack := fstack, visits := fvisits, decision := fdecision } (.agg #[.slice A0 n0 c0, .slice A1 n1 c1, .int .i64 fdecision]) := ⟨[.slice A0 n0 c0, .slice A1 n1 c1, .int .i64 fdecision], ⟨_, _, rfl, h0.cells, ⟨_, _, rfl, h1.cells, rfl⟩⟩, rfl⟩

structure deciding where
  accept : Bool
  deriving DecidableEq

def Rdeciding : RTy deciding := RIso (RBool) fun x => x.accept

theorem fld_deciding_accept : Fld Rdeciding 0 RBool deciding.accept := Fld.iso (Fld.whole RBool) _

theorem shut_deciding {w : World} {M : Nat → Prop} {faccept : Bool} : VRep Rdeciding w M { accept := faccept } (.agg #[.bool faccept]) := ⟨[.bool faccept], rfl, rfl⟩

structure calling where
  chain : Int
  deriving DecidableEq

def Rcalling : RTy calling := RIso (RInt) fun x => x.chain

theorem fld_calling_chain : Fld Rcalling 0 RInt calling.chain := Fld.iso (Fld.whole RInt) _

theorem shut_calling {w : World} {M : Nat → Prop} {fchain : Int} : VRep Rcalling w M { chain := fchain } (.agg #[.int .i64 fchain]) := ⟨[.int .i64 fchain], rfl, rfl⟩

/-- The fields of packets. -/
def shapes : List Shape := [⟨⟨#[102, 114, 111, 109]⟩, 65535⟩, ⟨⟨#[116, 111]⟩, 65535⟩, ⟨⟨#[112, 111, 114, 116]⟩, 255⟩, ⟨⟨#[112, 114, 111, 116, 111]⟩, 7⟩]

/-- What a rule does. -/
inductive Act_ where
  | deciding (b : Bool)
  | calling (c : Int)
  | returning
  | passing

end Go.PF
