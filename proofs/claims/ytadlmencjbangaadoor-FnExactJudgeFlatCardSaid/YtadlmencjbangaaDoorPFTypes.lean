/- The structs of the program as Lean structs, and their cells; no condition. -/
import Derived.Test.YtadlmencjbangaaDoorPFMore
namespace Go.PF
open Go Go.RowKit

structure Span where
  Lo : Int
  Hi : Int
  deriving DecidableEq

def RSpan : RTy Span := RIso (RPair RInt RInt) fun x => (x.Lo, x.Hi)

theorem fld_Span_Lo : Fld RSpan 0 RInt Span.Lo := Fld.iso (Fld.fst RInt RInt) _

theorem fld_Span_Hi : Fld RSpan 1 RInt Span.Hi := Fld.iso (Fld.snd RInt RInt) _

theorem shut_Span {w : World} {M : Nat → Prop} {fLo : Int} {fHi : Int} : VRep RSpan w M { Lo := fLo, Hi := fHi } (.agg #[.int .i64 fLo, .int .i64 fHi]) := ⟨[.int .i64 fLo, .int .i64 fHi], ⟨_, _, rfl, rfl, rfl⟩, rfl⟩

structure Box where
  Sides : List (List Span)
  deriving DecidableEq

def RBox : RTy Box := RIso ((RSlice (RSlice RSpan))) fun x => x.Sides

theorem fld_Box_Sides : Fld RBox 0 (RSlice (RSlice RSpan)) Box.Sides := Fld.iso (Fld.whole (RSlice (RSlice RSpan))) _

theorem open_Box {w : World} {M : Nat → Prop} {x : Box} {v : Value} (h : VRep RBox w M x v) : ∃ A0, ∃ c0, v = .agg #[.slice A0 x.Sides.length c0] ∧ VRep (RSlice (RSlice RSpan)) w M x.Sides (.slice A0 x.Sides.length c0) := by
  obtain ⟨vs, hr, rfl⟩ := h
  obtain ⟨A0, c0, rfl, p0, q0, r0⟩ := hr
  exact ⟨A0, c0, rfl, ⟨_, ⟨A0, c0, rfl, p0, q0, r0⟩, rfl⟩⟩

theorem shut_Box {w : World} {M : Nat → Prop} {fSides : List (List Span)} {A0 : Option Addr} {n0 c0 : Nat} (h0 : VRep (RSlice (RSlice RSpan)) w M fSides (.slice A0 n0 c0)) : VRep RBox w M { Sides := fSides } (.agg #[.slice A0 n0 c0]) := ⟨[.slice A0 n0 c0], h0.cells, rfl⟩

structure Packet where
  From : Int
  To : Int
  Port : Int
  Proto : Int
  deriving DecidableEq

def RPacket : RTy Packet := RIso (RPair RInt (RPair RInt (RPair RInt RInt))) fun x => (x.From, x.To, x.Port, x.Proto)

theorem fld_Packet_From : Fld RPacket 0 RInt Packet.From := Fld.iso (Fld.fst RInt (RPair RInt (RPair RInt RInt))) _

theorem fld_Packet_To : Fld RPacket 1 RInt Packet.To := Fld.iso (Fld.comp (Fld.snd RInt (RPair RInt (RPair RInt RInt))) (Fld.fst RInt (RPair RInt RInt)) (by decide)) _

theorem fld_Packet_Port : Fld RPacket 2 RInt Packet.Port := Fld.iso (Fld.comp (Fld.snd RInt (RPair RInt (RPair RInt RInt))) (Fld.comp (Fld.snd RInt (RPair RInt RInt)) (Fld.fst RInt RInt) (by decide)) (by decide)) _

theorem fld_Packet_Proto : Fld RPacket 3 RInt Packet.Proto := Fld.iso (Fld.comp (Fld.snd RInt (RPair RInt (RPair RInt RInt))) (Fld.comp (Fld.snd RInt (RPair RInt RInt)) (Fld.snd RInt RInt) (by decide)) (by decide)) _

theorem shut_Packet {w : World} {M : Nat → Prop} {fFrom : Int} {fTo : Int} {fPort : Int} {fProto : Int} : VRep RPacket w M { From := fFrom, To := fTo, Port := fPort, Proto := fProto } (.agg #[.int .i64 fFrom, .int .i64 fTo, .int .i64 fPort, .int .i64 fProto]) := ⟨[.int .i64 fFrom, .int .i64 fTo, .int .i64 fPort, .int .i64 fProto], ⟨_, _, rfl, rfl, ⟨_, _, rfl, rfl, ⟨_, _, rfl, rfl, rfl⟩⟩⟩, rfl⟩

structure Test where
  Field : Int
  Lo : Int
  Hi : Int
  Not : Bool
  deriving DecidableEq

structure Rule where
  Tests : List Test
  Action : Int
  Chain : Int
  deriving DecidableEq

structure Ruleset where
  Chains : List (List Rule)
  Accept : Bool
  deriving DecidableEq

structure Flat where
  Where : Box
  Accept : Bool
  deriving DecidableEq

def RFlat : RTy Flat := RIso (RPair RBox RBool) fun x => (x.Where, x.Accept)

theorem fld_Flat_Where : Fld RFlat 0 RBox Flat.Where := Fld.iso (Fld.fst RBox RBool) _

theorem fld_Flat_Accept : Fld RFlat 1 RBool Flat.Accept := Fld.iso (Fld.snd RBox RBool) _

theorem shut_Flat {w : World} {M : Nat → Prop} {fWhereSides : List (List Span)} {A0 : Option Addr} {n0 c0 : Nat} (h0 : VRep (RSlice (RSlice RSpan)) w M fWhereSides (.slice A0 n0 c0)) {fAccept : Bool} : VRep RFlat w M { Where := { Sides := fWhereSides }, Accept := fAccept } (.agg #[.slice A0 n0 c0, .bool fAccept]) := ⟨[.slice A0 n0 c0, .bool fAccept], ⟨_, _, rfl, h0.cells, rfl⟩, rfl⟩

structure FlatI where
  wh : List (List Span)
  accept : Bool
  deriving DecidableEq

def RFlatI : RTy FlatI := RIso (RPair (RArr 4 (RSlice RSpan)) RBool) fun x => (x.wh, x.accept)

theorem fld_FlatI_wh : Fld RFlatI 0 (RArr 4 (RSlice RSpan)) FlatI.wh := Fld.iso (Fld.fst (RArr 4 (RSlice RSpan)) RBool) _

theorem build_FlatI {w : World} {M : Nat → Prop} {x : List (List Span)} {v : Value} (h : VRep (RArr 4 (RSlice RSpan)) w M x v) :
    ∃ c0 c1 c2 c3, v = .agg #[c0, c1, c2, c3] ∧ ∀ b : Bool, VRep RFlatI w M ⟨x, b⟩ (.agg #[c0, c1, c2, c3, .bool b]) := by
  obtain ⟨vs, ⟨hn, hr⟩, rfl⟩ := h
  have hl : vs.length = 4 := by rw [hr.len, hn]; rfl
  match vs, hl, hr with
  | [c0, c1, c2, c3], _, hr => exact ⟨c0, c1, c2, c3, rfl, fun b => ⟨[c0, c1, c2, c3, .bool b], ⟨[c0, c1, c2, c3], [.bool b], rfl, ⟨hn, hr⟩, rfl⟩, rfl⟩⟩
theorem open_FlatI {w : World} {M : Nat → Prop} {x : FlatI} {v : Value} (h : VRep RFlatI w M x v) : ∃ c0 c1 c2 c3, v = .agg #[c0, c1, c2, c3, .bool x.accept] := by
  obtain ⟨vs, ⟨us, ws, rfl, ⟨hn, hr⟩, hb⟩, rfl⟩ := h
  have hl : us.length = 4 := by rw [hr.len, hn]; rfl
  have hb : ws = [.bool x.accept] := hb
  subst hb
  match us, hl with
  | [c0, c1, c2, c3], _ => exact ⟨c0, c1, c2, c3, rfl⟩

structure Visit where
  Chain : Int
  Place : Int
  deriving DecidableEq

structure Shape where
  name : ByteArray
  top : Int


def RShape : RTy Shape := RIso (RPair RStr RInt) fun x => (x.name, x.top)

theorem fld_Shape_top : Fld RShape 1 RInt Shape.top := Fld.iso (Fld.snd RStr RInt) _

structure Place where
  chain : Int
  next : Int
  deriving DecidableEq

structure l20Rd where
  b : List Int
  p : Int
  deriving DecidableEq

structure Walk where
  stack : List Place
  visits : List Visit
  decision : Int
  deriving DecidableEq

structure deciding where
  accept : Bool
  deriving DecidableEq

structure calling where
  chain : Int
  deriving DecidableEq

/-- The fields of packets. -/
def shapes : List Shape := [⟨⟨#[102, 114, 111, 109]⟩, 65535⟩, ⟨⟨#[116, 111]⟩, 65535⟩, ⟨⟨#[112, 111, 114, 116]⟩, 255⟩, ⟨⟨#[112, 114, 111, 116, 111]⟩, 7⟩]

/-- What a rule does. -/
inductive Act_ where
  | deciding (b : Bool)
  | calling (c : Int)
  | returning
  | passing

end Go.PF
