/- A value-level reading of the model's code: data without memory, and a deterministic run over it. -/
import Derived.Calls
import Derived.LoopN
import Derived.Below
set_option linter.all false
namespace Bz
open Go

/-! ### The program's own types as plain data -/
structure Val where
  kind : Int
  num : Nat
  str : ByteArray
  ref : Int
structure Key where
  str : ByteArray
  sym : Int
structure Dsc where
  has : Int
  value : Val
  get : Val
  set : Val
  wri : Bool
  enu : Bool
  con : Bool
structure Prp where
  key : Key
  desc : Dsc
structure Obj where
  kind : Int
  proto : Val
  ext : Bool
  props : List Prp
  target : Val
  handler : Val
  text : ByteArray
  calls : Bool
  makes : Bool
structure Out where
  kind : Int
  value : Val
  bool : Bool
  found : Bool
  desc : Dsc
  keys : List Key
  error : Int
  text : ByteArray
structure Seen where
  began : Int
  object : Int
  method : Int
  key : Key
  throw : Bool
  out : Out

/-- The element types of slices. -/
inductive Ty where
  | int | byte | bool | str | val | key | prp | obj | seen
  deriving DecidableEq
@[reducible] def El : Ty → Type
  | .int => Int
  | .byte => UInt8
  | .bool => Bool
  | .str => ByteArray
  | .val => Val
  | .key => Key
  | .prp => Prp
  | .obj => Obj
  | .seen => Seen

/-- A value of a run: what stands in a temporary. -/
inductive DV where
  /-- nothing is known -/
  | unk
  /-- what a skipped operation leaves -/
  | skp
  | bool (b : Bool)
  | int (k : IntKind) (n : Int)
  | float (b : Nat)
  | str (s : ByteArray)
  /-- a slice that nobody writes to -/
  | sl (τ : Ty) (l : List (El τ))
  /-- in a result: a slice whose row is the receiver's alone -/
  | own (τ : Ty) (l : List (El τ))
  /-- a slice without room -/
  | nsl (τ : Ty)
  /-- a slice that nobody writes to, with no room behind its end -/
  | fsl (τ : Ty) (l : List (El τ))
  | agg (cs : List DV)
  /-- an array's value -/
  | arr (τ : Ty) (l : List (El τ))
  | tup (vs : List DV)
  /-- an address of cells that nobody writes to -/
  | imm (cs : List DV)
  /-- an address in the local block n -/
  | loc (n off : Nat)
  /-- an address in the element i of the local row n -/
  | lel (n : Nat) (e : Nat) (i : Int) (off : Nat)
  /-- the whole local row n as a slice -/
  | lsl (n : Nat)
  | fn (f : Nat) (caps : List DV)

@[reducible] def Val.enc (v : Val) : List DV := [.int .u8 v.kind, .float v.num, .str v.str, .int .i64 v.ref]
@[reducible] def Key.enc (k : Key) : List DV := [.str k.str, .int .i64 k.sym]
def Dsc.enc (d : Dsc) : List DV := .int .u8 d.has :: (d.value.enc ++ (d.get.enc ++ (d.set.enc ++ [.bool d.wri, .bool d.enu, .bool d.con])))
def Prp.enc (p : Prp) : List DV := p.key.enc ++ p.desc.enc
def Obj.enc (o : Obj) : List DV :=
  .int .u8 o.kind :: (o.proto.enc ++ (.bool o.ext :: .sl .prp o.props :: (o.target.enc ++ (o.handler.enc ++ [.str o.text, .bool o.calls, .bool o.makes]))))
def Out.enc (o : Out) : List DV :=
  .int .u8 o.kind :: (o.value.enc ++ (.bool o.bool :: .bool o.found :: (o.desc.enc ++ [.sl .key o.keys, .int .u8 o.error, .str o.text])))
def Seen.enc (s : Seen) : List DV :=
  .int .i64 s.began :: .int .i64 s.object :: .int .u8 s.method :: (s.key.enc ++ (.bool s.throw :: s.out.enc))

def enc : (τ : Ty) → El τ → List DV
  | .int, n => [.int .i64 n]
  | .byte, b => [.int .u8 b.toNat]
  | .bool, b => [.bool b]
  | .str, s => [.str s]
  | .val, v => Val.enc v
  | .key, k => Key.enc k
  | .prp, p => Prp.enc p
  | .obj, o => Obj.enc o
  | .seen, s => Seen.enc s

/-- How many cells an element takes. -/
def Ty.esz : Ty → Nat
  | .int | .byte | .bool | .str => 1
  | .val => 4
  | .key => 2
  | .prp => 18
  | .obj => 18
  | .seen => 32
/-- How many bytes. -/
def Ty.bytes : Ty → Nat
  | .int => 8
  | .byte | .bool => 1
  | .str => 16
  | .val => 40
  | .key => 24
  | .prp => 160
  | .obj => 184
  | .seen => 296

/-! Reading back: from the front of a list of cells. -/
@[reducible] def Val.rd : List DV → Option (Val × List DV)
  | .int .u8 k :: .float b :: .str s :: .int .i64 r :: l => some (⟨k, b, s, r⟩, l)
  | _ => none
@[reducible] def Key.rd : List DV → Option (Key × List DV)
  | .str s :: .int .i64 n :: l => some (⟨s, n⟩, l)
  | _ => none
def Dsc.rd : List DV → Option (Dsc × List DV)
  | .int .u8 h :: l =>
    match Val.rd l with
    | some (v, l) => match Val.rd l with
      | some (g, l) => match Val.rd l with
        | some (s, .bool w :: .bool e :: .bool c :: l) => some (⟨h, v, g, s, w, e, c⟩, l)
        | _ => none
      | _ => none
    | _ => none
  | _ => none
def Prp.rd (l : List DV) : Option (Prp × List DV) :=
  match Key.rd l with
  | some (k, l) => match Dsc.rd l with
    | some (d, l) => some (⟨k, d⟩, l)
    | _ => none
  | _ => none
def rdProps : DV → Option (List Prp)
  | .sl .prp l | .own .prp l => some l
  | .nsl .prp => some []
  | _ => none
def rdKeys : DV → Option (List Key)
  | .sl .key l | .own .key l => some l
  | .nsl .key => some []
  | _ => none
def Obj.rd : List DV → Option (Obj × List DV)
  | .int .u8 k :: l =>
    match Val.rd l with
    | some (p, .bool x :: ps :: l) => match rdProps ps with
      | some ps => match Val.rd l with
        | some (t, l) => match Val.rd l with
          | some (h, .str s :: .bool c :: .bool m :: l) => some (⟨k, p, x, ps, t, h, s, c, m⟩, l)
          | _ => none
        | _ => none
      | _ => none
    | _ => none
  | _ => none
def Out.rd : List DV → Option (Out × List DV)
  | .int .u8 k :: l =>
    match Val.rd l with
    | some (v, .bool b :: .bool f :: l) => match Dsc.rd l with
      | some (d, ks :: .int .u8 e :: .str s :: l) => match rdKeys ks with
        | some ks => some (⟨k, v, b, f, d, ks, e, s⟩, l)
        | _ => none
      | _ => none
    | _ => none
  | _ => none
def Seen.rd : List DV → Option (Seen × List DV)
  | .int .i64 b :: .int .i64 o :: .int .u8 m :: l =>
    match Key.rd l with
    | some (k, .bool t :: l) => match Out.rd l with
      | some (u, l) => some (⟨b, o, m, k, t, u⟩, l)
      | _ => none
    | _ => none
  | _ => none

def endOf {α : Type} : Option (α × List DV) → Option α
  | some (x, []) => some x
  | _ => none

def decInt : List DV → Option Int
  | [.int .i64 n] => some n
  | _ => none
def decByte : List DV → Option UInt8
  | [.int .u8 n] => bif decide (0 ≤ n) && decide (n < 256) then some (UInt8.ofNat n.toNat) else none
  | _ => none
def decBool : List DV → Option Bool
  | [.bool b] => some b
  | _ => none
def decStr : List DV → Option ByteArray
  | [.str s] => some s
  | _ => none
def dec (τ : Ty) (l : List DV) : Option (El τ) :=
  match τ with
  | .int => decInt l
  | .byte => decByte l
  | .bool => decBool l
  | .str => decStr l
  | .val => endOf (Val.rd l)
  | .key => endOf (Key.rd l)
  | .prp => endOf (Prp.rd l)
  | .obj => endOf (Obj.rd l)
  | .seen => endOf (Seen.rd l)

end Bz
