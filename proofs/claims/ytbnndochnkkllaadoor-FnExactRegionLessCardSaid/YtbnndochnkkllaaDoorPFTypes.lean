/- The structs of the program as Lean structs, and their cells; no condition. -/
import Derived.Test.YtbnndochnkkllaaDoorPFMore
namespace Go.PF
open Go Go.RowKit

structure Span where
  Lo : Int
  Hi : Int
  deriving DecidableEq

def RSpan : RTy Span := RIso (RPair RInt RInt) fun x => (x.Lo, x.Hi)

theorem fld_Span_Lo : Fld RSpan 0 RInt Span.Lo := Fld.iso (Fld.fst RInt RInt) _

theorem fld_Span_Hi : Fld RSpan 1 RInt Span.Hi := Fld.iso (Fld.snd RInt RInt) _

theorem shut_Span {w : World} {M : Nat → Prop} {fLo : Int} {fHi : Int} : VRep RSpan w M { Lo := fLo, Hi := fHi } (.agg #[.int .i64 fLo, .int .i64 fHi]) := ⟨[.int .i64 fLo, .int .i64 fHi], ⟨_, _, rfl, rfl, rfl⟩, rfl⟩

structure Box where
  Sides : List (List Span)
  deriving DecidableEq

def RBox : RTy Box := RIso ((RSlice (RSlice RSpan))) fun x => x.Sides

theorem fld_Box_Sides : Fld RBox 0 (RSlice (RSlice RSpan)) Box.Sides := Fld.iso (Fld.whole (RSlice (RSlice RSpan))) _

theorem open_Box {w : World} {M : Nat → Prop} {x : Box} {v : Value} (h : VRep RBox w M x v) : ∃ A0, ∃ c0, v = .agg #[.slice A0 x.Sides.length c0] ∧ VRep (RSlice (RSlice RSpan)) w M x.Sides (.slice A0 x.Sides.length c0) := by
  obtain ⟨vs, hr, rfl⟩ := h
  obtain ⟨A0, c0, rfl, p0, q0, r0⟩ := hr
  exact ⟨A0, c0, rfl, ⟨_, ⟨A0, c0, rfl, p0, q0, r0⟩, rfl⟩⟩

theorem shut_Box {w : World} {M : Nat → Prop} {fSides : List (List Span)} {A0 : Option Addr} {n0 c0 : Nat} (h0 : VRep (RSlice (RSlice RSpan)) w M fSides (.slice A0 n0 c0)) : VRep RBox w M { Sides := fSides } (.agg #[.slice A0 n0 c0]) := ⟨[.slice A0 n0 c0], h0.cells, rfl⟩

structure Packet where
  From : Int
  To : Int
  Port : Int
  Proto : Int
  deriving DecidableEq

def RPacket : RTy Packet := RIso (RPair RInt (RPair RInt (RPair RInt RInt))) fun x => (x.From, x.To, x.Port, x.Proto)

theorem open_Packet {w : World} {M : Nat → Prop} {x : Packet} {v : Value} (h : VRep RPacket w M x v) : v = .agg #[.int .i64 x.From, .int .i64 x.To, .int .i64 x.Port, .int .i64 x.Proto] := by
  obtain ⟨vs, hr, rfl⟩ := h
  obtain ⟨_, _, rfl, rfl, ⟨_, _, rfl, rfl, ⟨_, _, rfl, rfl, rfl⟩⟩⟩ := hr
  exact rfl

theorem shut_Packet {w : World} {M : Nat → Prop} {fFrom : Int} {fTo : Int} {fPort : Int} {fProto : Int} : VRep RPacket w M { From := fFrom, To := fTo, Port := fPort, Proto := fProto } (.agg #[.int .i64 fFrom, .int .i64 fTo, .int .i64 fPort, .int .i64 fProto]) := ⟨[.int .i64 fFrom, .int .i64 fTo, .int .i64 fPort, .int .i64 fProto], ⟨_, _, rfl, rfl, ⟨_, _, rfl, rfl, ⟨_, _, rfl, rfl, rfl⟩⟩⟩, rfl⟩

structure Test where
  Field : Int
  Lo : Int
  Hi : Int
  Not : Bool
  deriving DecidableEq

structure Rule where
  Tests : List Test
  Action : Int
  Chain : Int
  deriving DecidableEq

structure Ruleset where
  Chains : List (List Rule)
  Accept : Bool
  deriving DecidableEq

structure Flat where
  Where : Box
  Accept : Bool
  deriving DecidableEq

structure FlatI where
  wh : List (List Span)
  accept : Bool
  deriving DecidableEq

structure Visit where
  Chain : Int
  Place : Int
  deriving DecidableEq

structure Shape where
  name : ByteArray
  top : Int


def RShape : RTy Shape := RIso (RPair RStr RInt) fun x => (x.name, x.top)

theorem fld_Shape_top : Fld RShape 1 RInt Shape.top := Fld.iso (Fld.snd RStr RInt) _

structure Place where
  chain : Int
  next : Int
  deriving DecidableEq

structure l20Rd where
  b : List Int
  p : Int
  deriving DecidableEq

structure Walk where
  stack : List Place
  visits : List Visit
  decision : Int
  deriving DecidableEq

structure deciding where
  accept : Bool
  deriving DecidableEq

structure calling where
  chain : Int
  deriving DecidableEq

/-- The fields of packets. -/
def shapes : List Shape := [⟨⟨#[102, 114, 111, 109]⟩, 65535⟩, ⟨⟨#[116, 111]⟩, 65535⟩, ⟨⟨#[112, 111, 114, 116]⟩, 255⟩, ⟨⟨#[112, 114, 111, 116, 111]⟩, 7⟩]

/-- What a rule does. -/
inductive Act_ where
  | deciding (b : Bool)
  | calling (c : Int)
  | returning
  | passing

end Go.PF
