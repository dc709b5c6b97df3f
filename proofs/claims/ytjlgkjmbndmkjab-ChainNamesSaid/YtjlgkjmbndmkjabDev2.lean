/- The run over plain data. -/
import Derived.Test.YtjlgkjmbndmkjabDev1
import GoSem.Op.IntBits
import GoSem.Op.String
set_option linter.all false
namespace Bz
open Go

/-! ### Lookups -/
def look {α : Type} : List (Nat × α) → Nat → Option α
  | [], _ => none
  | (m, v) :: r, n => bif Nat.beq m n then some v else look r n

inductive Blk where
  | box (cs : List DV)
  | row (τ : Ty) (l : List (El τ))
  | arr (τ : Ty) (l : List (El τ))
  | map (ag : Bool) (l : List (List DV × DV))
  | gone

structure St where
  env : List (Nat × DV)
  sto : List (Nat × Blk)

inductive Opd where
  | t (n : Nat)
  | c (v : DV)

/-- The shape of a call's result. -/
inductive Sh where
  | bool | int (k : IntKind) | float | str
  | val | key | dsc | prp | obj | out | seen
  | lst (own : Bool) (τ : Ty)
  | heap (own : Bool)
  | arr (τ : Ty)
  | unit
  | p2 (a b : Sh)
  | p3 (a b c : Sh)

@[reducible] def Sh.T : Sh → Type
  | .bool => Bool
  | .int _ => Int
  | .float => Nat
  | .str => ByteArray
  | .val => Val
  | .key => Key
  | .dsc => Dsc
  | .prp => Prp
  | .obj => Obj
  | .out => Out
  | .seen => Seen
  | .lst _ τ => List (El τ)
  | .heap _ => List Obj
  | .arr τ => List (El τ)
  | .unit => Unit
  | .p2 a b => a.T × b.T
  | .p3 a b c => a.T × b.T × c.T

inductive DOp where
  | mv (x : Opd)
  | mkrow (nm : Nat) (τ : Ty)
  | pick (c a b : Opd)
  | alloc (nm : Nat) (zero : List DV) (row : Option (Nat × Ty))
  | alloca (nm : Nat) (τ : Ty) (l : List (El τ))
  | box (nm : Nat) (x : Opd)
  | build (zero : List DV) (parts : List ((Nat × Nat) × Opd))
  | builda (τ : Ty) (l : List (El τ)) (parts : List (Nat × Opd))
  | bslice (nm : Option Nat) (τ : Ty) (l : List (El τ)) (parts : List (Nat × Opd))
  | load (m : Option Nat) (a : Opd)
  | loada (n : Nat) (a : Opd)
  | store (m : Nat) (a x : Opd)
  | storea (n : Nat) (a x : Opd)
  | bini (op : BinOp) (x y : Opd)
  | binf (op : BinOp) (x y : Opd)
  | fdiv (x y : Opd)
  | bins (op : BinOp) (x y : Opd)
  | eqb (neg : Bool) (x y : Opd)
  | eqa (neg : Bool) (p : List Nat) (x y : Opd)
  | not (x : Opd)
  | neg (x : Opd)
  | xor (x : Opd)
  | conv (k : IntKind) (x : Opd)
  | i2f (x : Opd)
  | f2i (k : IntKind) (x : Opd)
  | f2bits (x : Opd)
  | bits2f (x : Opd)
  | nck (x : Opd)
  | faddr (off : Nat) (x : Opd)
  | field (off : Nat) (m : Option Nat) (x : Opd)
  | iaddr (ar : Bool) (n e : Nat) (x i : Opd)
  | idxs (x i : Opd)
  | idxa (n : Nat) (x i : Opd)
  | sstr (x : Opd) (lo hi : Option Opd)
  | ssl (e : Nat) (x : Opd) (lo hi : Option Opd)
  | smv (nm e : Nat) (x : Opd) (lo hi : Option Opd)
  | len (st : Bool) (x : Opd)
  | ext (x : Opd) (i : Nat)
  | call (f : Nat) (args : List Opd) (sh : Sh) (adopt : List Nat)
  | callv (x : Opd) (args : List Opd) (sh : Sh)
  | append (nm : Nat) (τ : Ty) (x y : Opd)
  | copy (e : Nat) (x y : Opd)
  | bslicef (τ : Ty) (l : List (El τ)) (parts : List (Nat × Opd))
  | appf (τ : Ty) (x y : Opd)
  | mkslice (nm : Nat) (τ : Ty) (z : El τ) (n : Opd)
  | mkfn (f : Nat) (caps : List Opd)
  | mkmap (nm : Nat) (ag : Bool) (y : Option Opd)
  | mget (ok : Bool) (zero : DV) (ag : Bool) (p : List Nat) (x key : Opd)
  | mput (ag : Bool) (p : List Nat) (x key v : Opd)

structure Eff where
  v : DV
  bl : List (Nat × Blk) := []
  pg : List Nat := []
  rd : List Nat := []

/-! ### Small words -/
def opd (s : St) : Opd → (DV → Option DV) → Option DV
  | .c v, k => k v
  | .t n, k => match look s.env n with
    | some v => k v
    | none => none
def opdO (s : St) : Option Opd → (Option DV → Option DV) → Option DV
  | none, k => k none
  | some x, k => opd s x fun v => k (some v)
def opds (s : St) : List Opd → (List DV → Option DV) → Option DV
  | [], k => k []
  | x :: r, k => opd s x fun v => opds s r fun l => k (v :: l)

def idx {α : Type} (l : List α) (i : Int) (k : α → Option DV) : Option DV :=
  bif decide (0 ≤ i) then (match l[i.toNat]? with | some x => k x | none => none) else none
def gd (b : Bool) (k : Unit → Option DV) : Option DV := bif b then k () else none

def cellsOf : DV → Option (List DV)
  | .agg cs => some cs
  | .arr τ l => some (l.flatMap (enc τ))
  | .unk | .skp | .own .. | .tup _ => none
  | v => some [v]
def takeN : Nat → List DV → Option (List DV)
  | 0, _ => some []
  | _ + 1, [] => none
  | n + 1, c :: r => match takeN n r with
    | some l => some (c :: l)
    | none => none
/-- the cells from a place on are others -/
def over : List DV → List DV → Option (List DV)
  | cs, [] => some cs
  | [], _ :: _ => none
  | _ :: cs, v :: vs => match over cs vs with
    | some l => some (v :: l)
    | none => none
def splice : List DV → Nat → List DV → Option (List DV)
  | cs, 0, vs => over cs vs
  | [], _ + 1, _ => none
  | c :: cs, n + 1, vs => match splice cs n vs with
    | some l => some (c :: l)
    | none => none

/-- every name in it is so -/
def DV.all0 (f : Nat → Bool) : DV → Bool
  | .loc m _ | .lel m _ _ _ | .lsl m => f m
  | .agg _ | .tup _ | .imm _ | .fn .. => false
  | _ => true
def DV.allI (f : Nat → Bool) : DV → Bool
  | .imm cs => cs.all (DV.all0 f)
  | v => v.all0 f
def DV.all1 (f : Nat → Bool) : DV → Bool
  | .fn _ cs => cs.all (DV.allI f)
  | .agg cs | .imm cs => cs.all (DV.all0 f)
  | v => v.all0 f
def DV.all (f : Nat → Bool) : DV → Bool
  | .tup vs => vs.all (DV.all1 f)
  | v => v.all1 f
def Blk.all (f : Nat → Bool) : Blk → Bool
  | .box cs => cs.all (DV.all1 f)
  | _ => true
def DV.men (n : Nat) (v : DV) : Bool := !(v.all fun m => !Nat.beq m n)

def purge1 (n : Nat) (s : St) : St :=
  { env := s.env.map fun (t, v) => (t, bif v.men n then .unk else v),
    sto := s.sto.map fun (m, b) => (m, match b with | .box cs => .box (cs.map fun c => bif c.men n then .unk else c) | b => b) }
def purge (l : List Nat) (s : St) : St := l.foldl (fun s n => purge1 n s) s
def Eff.on (e : Eff) (s : St) : St :=
  match e.pg with
  | [] => { s with sto := e.bl ++ s.sto }
  | l => let s := purge l s; { s with sto := e.bl ++ s.sto }
def St.put (s : St) (dst : Option Nat) (v : DV) : St :=
  match dst with
  | some d => { s with env := (d, v) :: s.env }
  | none => s

def blk (s : St) (n : Nat) : Option Blk :=
  match look s.sto n with
  | some .gone => none
  | o => o
def free (s : St) (n : Nat) (k : Unit → Option DV) : Option DV :=
  match blk s n with
  | none => k ()
  | some _ => none

/-- a name that is given anew -/
def anew (s : St) (n : Nat) : List Nat :=
  match blk s n with
  | none => []
  | some _ => [n]

/-! What a callee sees of a value. -/
def vw0 (s : St) : DV → Option (DV × List Nat)
  | .lsl n => match blk s n with
    | some (.row τ l) => some (.sl τ l, [n])
    | _ => none
  | .nsl τ => some (.sl τ [], [])
  | .fsl τ l => some (.sl τ l, [])
  | .imm cs => bif cs.all (DV.all0 fun _ => false) then some (.imm cs, []) else none
  | .loc .. | .lel .. | .unk | .skp | .own .. | .tup _ | .agg _ | .fn .. | .arr .. => none
  | v => some (v, [])
def vwl (f : DV → Option (DV × List Nat)) : List DV → Option (List DV × List Nat)
  | [] => some ([], [])
  | c :: r => match f c with
    | some (c', m) => match vwl f r with
      | some (r', m') => some (c' :: r', m ++ m')
      | none => none
    | none => none
def vw1 (s : St) : DV → Option (DV × List Nat)
  | .loc n o => match blk s n with
    | some (.box cs) => match vwl (vw0 s) (cs.drop o) with
      | some (l, m) => some (.imm l, n :: m)
      | none => none
    | _ => none
  | v => vw0 s v
def vw (s : St) : DV → Option (DV × List Nat)
  | .agg cs => match vwl (vw0 s) cs with
    | some (l, m) => some (.agg l, m)
    | none => none
  | .arr τ l => some (.arr τ l, [])
  | .fn f cs => match vwl (vw1 s) cs with
    | some (l, m) => some (.fn f l, m)
    | none => none
  | v => vw1 s v

/-! Results. -/
def slOf (own : Bool) (τ : Ty) (l : List (El τ)) : DV :=
  match own with
  | true => .own τ l
  | false => .sl τ l
def Sh.enc : (sh : Sh) → sh.T → DV
  | .bool, b => .bool b
  | .int k, n => .int k n
  | .float, b => .float b
  | .str, s => .str s
  | .val, v => .agg v.enc
  | .key, v => .agg v.enc
  | .dsc, v => .agg v.enc
  | .prp, v => .agg v.enc
  | .obj, v => .agg v.enc
  | .out, v => .agg v.enc
  | .seen, v => .agg v.enc
  | .lst o τ, l => slOf o τ l
  | .heap o, l => .agg [slOf o .obj l]
  | .arr τ, l => .arr τ l
  | .unit, _ => .tup []
  | .p2 a b, (x, y) => .tup [a.enc x, b.enc y]
  | .p3 a b c, (x, y, z) => .tup [a.enc x, b.enc y, c.enc z]

def tyEq : (σ τ : Ty) → Option (PLift (σ = τ))
  | .int, .int => some ⟨rfl⟩
  | .byte, .byte => some ⟨rfl⟩
  | .bool, .bool => some ⟨rfl⟩
  | .str, .str => some ⟨rfl⟩
  | .val, .val => some ⟨rfl⟩
  | .key, .key => some ⟨rfl⟩
  | .prp, .prp => some ⟨rfl⟩
  | .obj, .obj => some ⟨rfl⟩
  | .seen, .seen => some ⟨rfl⟩
  | _, _ => none
def castL (σ τ : Ty) (l : List (El σ)) : Option (List (El τ)) :=
  match tyEq σ τ with
  | some ⟨h⟩ => some (h ▸ l)
  | none => none
def rdl (own : Bool) (τ : Ty) : DV → Option (List (El τ))
  | .sl σ l => match own with
    | true => none
    | false => castL σ τ l
  | .own σ l => castL σ τ l
  | _ => none
def kindEq : IntKind → IntKind → Bool
  | .i8, .i8 | .i16, .i16 | .i32, .i32 | .i64, .i64 | .u8, .u8 | .u16, .u16 | .u32, .u32 | .u64, .u64 => true
  | _, _ => false
def Sh.dec : (sh : Sh) → DV → Option sh.T
  | .bool, .bool b => some b
  | .int k, .int k' n => bif kindEq k' k then some n else none
  | .float, .float b => some b
  | .str, .str s => some s
  | .val, .agg l => endOf (Val.rd l)
  | .key, .agg l => endOf (Key.rd l)
  | .dsc, .agg l => endOf (Dsc.rd l)
  | .prp, .agg l => endOf (Prp.rd l)
  | .obj, .agg l => endOf (Obj.rd l)
  | .out, .agg l => endOf (Out.rd l)
  | .seen, .agg l => endOf (Seen.rd l)
  | .lst o τ, v => rdl o τ v
  | .heap o, .agg [v] => rdl o .obj v
  | .arr τ, .arr σ l => castL σ τ l
  | .unit, .tup [] => some ()
  | .p2 a b, .tup [x, y] => match a.dec x with
    | some x => match b.dec y with
      | some y => some (x, y)
      | none => none
    | none => none
  | .p3 a b c, .tup [x, y, z] => match a.dec x with
    | some x => match b.dec y with
      | some y => match c.dec z with
        | some z => some (x, y, z)
        | none => none
      | none => none
    | none => none
  | _, _ => none
/-- nothing in it leads to memory -/
def Sh.scal : Sh → Bool
  | .bool | .int _ | .float | .str | .val | .key | .dsc | .unit => true
  | .p2 a b => a.scal && b.scal
  | .p3 a b c => a.scal && (b.scal && c.scal)
  | _ => false
def scOk (rd : List Nat) (sh : Sh) : Bool :=
  match rd with
  | [] => true
  | _ => sh.scal
/-- what the caller has of a result: with a name for a row that becomes its own -/
def Sh.res : (sh : Sh) → sh.T → List Nat → DV × List (Nat × Blk)
  | .lst true τ, l, n :: _ => (.lsl n, [(n, .row τ l)])
  | .lst _ τ, l, _ => (.sl τ l, [])
  | .heap true, l, n :: _ => (.agg [.lsl n], [(n, .row .obj l)])
  | .heap _, l, _ => (.agg [.sl .obj l], [])
  | .p2 a b, (x, y), ns => (.tup [(a.res x ns).1, b.enc y], (a.res x ns).2)
  | .p3 a b c, (x, y, z), ns => (.tup [(a.res x ns).1, b.enc y, c.enc z], (a.res x ns).2)
  | sh, x, _ => (sh.enc x, [])

def callK (R : Nat → List DV → Option DV) (f : Nat) (args : List DV) (sh : Sh) (k : sh.T → Option DV) : Option DV :=
  match R f args with
  | none => none
  | some r => match sh.dec r with
    | none => none
    | some x => k x

/-! ### One operation -/
def icmp (op : BinOp) (a b : Int) : Option Bool :=
  match op with
  | .eql => some (a == b)
  | .neq => some (a != b)
  | .lss => some (decide (a < b))
  | .leq => some (decide (a ≤ b))
  | .gtr => some (decide (a > b))
  | .geq => some (decide (a ≥ b))
  | _ => none
def ibits (op : BinOp) (k : IntKind) (a b : Int) : Option Int :=
  match op with
  | .and => some (k.wrap (BitVec.ofInt k.bits a &&& BitVec.ofInt k.bits b).toNat)
  | .or => some (k.wrap (BitVec.ofInt k.bits a ||| BitVec.ofInt k.bits b).toNat)
  | .xor => some (k.wrap (BitVec.ofInt k.bits a ^^^ BitVec.ofInt k.bits b).toNat)
  | .andNot => some (k.wrap (BitVec.ofInt k.bits a &&& ~~~ (BitVec.ofInt k.bits b)).toNat)
  | _ => none
def fcmp (op : BinOp) (a b : Nat) : Option Bool :=
  let c := Ieee.double.order a b
  match op with
  | .eql => some (c == some .eq)
  | .neq => some (c != some .eq)
  | .lss => some (c == some .lt)
  | .leq => some (c == some .lt || c == some .eq)
  | .gtr => some (c == some .gt)
  | .geq => some (c == some .gt || c == some .eq)
  | _ => none
/-- Cells compared, each by its kind: a number, a truth value, a string, a float. -/
def eq1 : Nat → DV → DV → Option Bool
  | 0, .int k a, .int k' b => match kindEq k k' with
    | true => some (a == b)
    | false => none
  | 1, .bool a, .bool b => some (a == b)
  | 2, .str a, .str b => some (a.toList == b.toList)
  | 3, .float a, .float b => some (Ieee.double.order a b == some .eq)
  | _, _, _ => none
def eqCells : List Nat → List DV → List DV → Option Bool
  | [], [], [] => some true
  | x :: p, c :: cs, d :: ds => match eq1 x c d with
    | some b => match eqCells p cs ds with
      | some r => some (b && r)
      | none => none
    | none => none
  | _, _, _ => none
def isNaN (b : Nat) : Bool := (Ieee.double.read b).isNaN
/-- a NaN -/
def qnan : Nat := 0x7ff8000000000001
/-- so many elements are let in one slice -/
def room (τ : Ty) (n : Nat) : Bool := decide (n * τ.bytes ≤ 140737488355328)

def rowOf (s : St) : DV → Option (Nat × (τ : Ty) × List (El τ))
  | .lsl n => match blk s n with
    | some (.row τ l) => some (n, ⟨τ, l⟩)
    | _ => none
  | _ => none

/-- The cells from an address on. -/
def at_ (s : St) (a : DV) (k : List DV → List Nat → Option DV) : Option DV :=
  match a with
  | .imm cs => k cs []
  | .loc n o => match blk s n with
    | some (.box cs) => k (cs.drop o) [n]
    | _ => none
  | .lel n e i o => match blk s n with
    | some (.row τ l) => bif Nat.beq e τ.esz then (idx l i fun x => k ((enc τ x).drop o) [n]) else none
    | some (.arr τ l) => bif Nat.beq e τ.esz then (idx l i fun x => k ((enc τ x).drop o) [n]) else none
    | _ => none
  | _ => none
def filla (τ : Ty) : List (El τ) → List (Nat × DV) → Option (List (El τ))
  | l, [] => some l
  | l, (i, v) :: r => match cellsOf v with
    | some vs => match dec τ vs with
      | some x => bif Nat.blt i l.length then filla τ (l.set i x) r else none
      | none => none
    | none => none
def fillc : List DV → List ((Nat × Nat) × DV) → Option (List DV)
  | l, [] => some l
  | l, ((o, m), v) :: r => match cellsOf v with
    | some vs => bif Nat.beq vs.length m then (match splice l o vs with
      | some l => fillc l r
      | none => none) else none
    | none => none
def optInt : Option DV → Option (Option Int)
  | none => some none
  | some (.int _ n) => some (some n)
  | _ => none
def cut {α : Type} (len : Nat) (lo hi : Option Int) (k : Nat → Nat → Option α) : Option α :=
  let h : Int := match hi with | none => (len : Int) | some h => h
  let l : Int := match lo with | none => 0 | some l => l
  bif decide (0 ≤ l) && (decide (l ≤ h) && decide (h ≤ len)) then k l.toNat h.toNat else none

/-- A list is laid behind a row. -/
def appAdd (s : St) (nm : Nat) (τ : Ty) (x : DV) (k : Eff → Option DV) (y : List (El τ)) (rd : List Nat) : Option DV :=
  match x with
  | .nsl _ => gd (room τ y.length) (fun _ => k { v := .lsl nm, bl := [(nm, .row τ y)], pg := anew s nm, rd })
  | .lsl n => match blk s n with
    | some (.row σ l) => match castL σ τ l with
      | some l => bif Nat.beq nm n then gd (room τ (l.length + y.length)) (fun _ => k { v := .lsl nm, bl := [(nm, .row τ (l ++ y))], pg := [n], rd := n :: rd })
          else free s nm (fun _ => gd (room τ (l.length + y.length)) (fun _ => k { v := .lsl nm, bl := [(nm, .row τ (l ++ y)), (n, .gone)], pg := [n], rd := n :: rd }))
      | none => none
    | _ => none
  | _ => none
def appY (s : St) (τ : Ty) (x y : DV) (add : List (El τ) → List Nat → Option DV) : Option DV :=
  match y with
  | .sl σ l => match castL σ τ l with
    | some l => add l []
    | none => none
  | .nsl _ => add [] []
  | .lsl m => match blk s m with
    | some (.row σ l) => match castL σ τ l with
      | some l => bif (match x with | .lsl n => !Nat.beq m n | _ => true) then add l [m] else none
      | none => none
    | _ => none
  | .str b => match castL .byte τ b.data.toList with
    | some l => add l []
    | none => none
  | _ => none
def pickV (c : Bool) (a b : DV) : DV :=
  match a, b with
  | .bool x, .bool y => .bool (bif c then x else y)
  | a, b => bif c then a else b
/-- the place of a key: its index, or none; none outright where a comparison has no sense -/
def mfind (p : List Nat) (key : List DV) : List (List DV × DV) → Nat → Option (Option (Nat × DV))
  | [], _ => some none
  | (c, v) :: r, i => match eqCells p key c with
    | some true => some (some (i, v))
    | some false => mfind p key r (i + 1)
    | none => none
/-- a cell that a key may hold -/
def keyC : DV → Bool
  | .int .. | .str _ | .bool _ => true
  | _ => false
/-- the cells of a key: of a struct, or of one cell -/
def keyD : Bool → DV → Option (List DV)
  | true, .agg cs => some cs
  | false, v => bif keyC v then some [v] else none
  | _, _ => none
/-- what is found, of the element's kind -/
def mInt (kd : IntKind) (z : Int) : Option (Nat × DV) → Option Int
  | none => some z
  | some (_, .int k n) => bif kindEq k kd then some n else none
  | some _ => none
def mBool (z : Bool) : Option (Nat × DV) → Option Bool
  | none => some z
  | some (_, .bool b) => some b
  | some _ => none
def mgetV (ok : Bool) (v : DV) (found : Bool) : DV :=
  match ok with
  | true => .tup [v, .bool found]
  | false => v
/-- the entries behind a store -/
def mputL (p : List Nat) (cs : List DV) (v : DV) (l : List (List DV × DV)) : Option (List (List DV × DV)) :=
  match mfind p cs l 0 with
  | some (some (i, _)) => some (l.set i (cs, v))
  | some none => some (l ++ [(cs, v)])
  | none => none
def eff (R : Nat → List DV → Option DV) (s : St) (op : DOp) (k : Eff → Option DV) : Option DV :=
  match op with
  | .mv x => opd s x fun v => k { v }
  | .mkrow nm τ => k { v := .lsl nm, bl := [(nm, .row τ [])], pg := anew s nm }
  | .pick c a b => opd s c fun c => opd s a fun a => opd s b fun b =>
    match c with
    | .bool c => k { v := pickV c a b }
    | _ => none
  | .alloc nm zero row => match row with
    | none => free s nm (fun _ => k { v := .loc nm 0, bl := [(nm, .box zero)] })
    | some (n, τ) => free s nm (fun _ => free s n (fun _ => bif Nat.beq n nm then none else k { v := .loc nm 0, bl := [(nm, .box zero), (n, .row τ [])] }))
  | .alloca nm τ l => free s nm (fun _ => k { v := .loc nm 0, bl := [(nm, .arr τ l)] })
  | .box nm x => opd s x fun v => free s nm (fun _ => match v with
    | .arr τ l => k { v := .loc nm 0, bl := [(nm, .arr τ l)] }
    | v => match cellsOf v with
      | some cs => k { v := .loc nm 0, bl := [(nm, .box cs)] }
      | none => none)
  | .build zero parts => opds s (parts.map (·.2)) fun vs =>
    match fillc zero ((parts.map (·.1)).zip vs) with
    | some cs => k { v := .agg cs }
    | none => none
  | .builda τ l parts => opds s (parts.map (·.2)) fun vs =>
    match filla τ l ((parts.map (·.1)).zip vs) with
    | some l => k { v := .arr τ l }
    | none => none
  | .bslice nm τ l parts => opds s (parts.map (·.2)) fun vs =>
    match filla τ l ((parts.map (·.1)).zip vs) with
    | some l => match nm with
      | some n => k { v := .lsl n, bl := [(n, .row τ l)], pg := anew s n }
      | none => k { v := .sl τ l }
    | none => none
  | .load m a => opd s a fun a => at_ s a fun cs rd =>
    match m with
    | none => match cs with
      | c :: _ => k { v := c, rd }
      | [] => none
    | some m => match takeN m cs with
      | some cs => k { v := .agg cs, rd }
      | none => none
  | .loada m a => opd s a fun a => match a with
    | .loc n 0 => match blk s n with
      | some (.arr τ l) => bif Nat.beq (l.length * τ.esz) m then k { v := .arr τ l, rd := [n] } else none
      | _ => none
    | _ => none
  | .store m a x => opd s a fun a => opd s x fun v =>
    match cellsOf v with
    | none => none
    | some vs => bif Nat.beq vs.length m then
      match a with
      | .loc n o => match blk s n with
        | some (.box cs) => match splice cs o vs with
          | some cs => k { v := .skp, bl := [(n, .box cs)], rd := [n] }
          | none => none
        | _ => none
      | .lel n e i o => match blk s n with
        | some (.row τ l) => bif Nat.beq e τ.esz then (idx l i fun x => match splice (enc τ x) o vs with
          | some cs => match dec τ cs with
            | some y => k { v := .skp, bl := [(n, .row τ (l.set i.toNat y))], rd := [n] }
            | none => none
          | none => none) else none
        | some (.arr τ l) => bif Nat.beq e τ.esz then (idx l i fun x => match splice (enc τ x) o vs with
          | some cs => match dec τ cs with
            | some y => k { v := .skp, bl := [(n, .arr τ (l.set i.toNat y))], rd := [n] }
            | none => none
          | none => none) else none
        | _ => none
      | _ => none
    else none
  | .storea c a x => opd s a fun a => opd s x fun v => match a, v with
    | .loc n 0, .arr τ l => match blk s n with
      | some (.arr σ m) => match castL σ τ m with
        | some m => bif Nat.beq m.length l.length && Nat.beq (l.length * τ.esz) c then k { v := .skp, bl := [(n, .arr τ l)], rd := [n] } else none
        | none => none
      | _ => none
    | _, _ => none
  | .bini op x y => opd s x fun x => opd s y fun y => match x, y with
    | .int a m, .int b n => bif kindEq a b then
        match op with
        | .add => k { v := .int a (a.wrap (m + n)) }
        | .sub => k { v := .int a (a.wrap (m - n)) }
        | .mul => k { v := .int a (a.wrap (m * n)) }
        | .quo => gd (n != 0) (fun _ => k { v := .int a (a.wrap (m.tdiv n)) })
        | .rem => gd (n != 0) (fun _ => k { v := .int a (m.tmod n) })
        | .and | .or | .xor | .andNot => match ibits op a m n with
          | some r => k { v := .int a r }
          | none => none
        | .shl | .shr => none
        | _ => match icmp op m n with
          | some r => k { v := .bool r }
          | none => none
      else none
    | _, _ => none
  | .binf op x y => opd s x fun x => opd s y fun y => match x, y with
    | .float a, .float b => match fcmp op a b with
      | some r => k { v := .bool r }
      | none => none
    | _, _ => none
  | .fdiv x y => opd s x fun x => opd s y fun y => match x, y with
    | .float a, .float b => k { v := .float ((Ieee.double.div a b).getD qnan) }
    | _, _ => none
  | .bins op x y => opd s x fun x => opd s y fun y => match x, y with
    | .str a, .str b => match op with
      | .add => gd (decide (a.size + b.size ≤ 9223372036854775807)) (fun _ => k { v := .str (a ++ b) })
      | .eql => k { v := .bool (a.toList == b.toList) }
      | .neq => k { v := .bool (!(a.toList == b.toList)) }
      | _ => none
    | _, _ => none
  | .eqb neg x y => opd s x fun x => opd s y fun y => match x, y with
    | .bool a, .bool b => k { v := .bool (match neg with | true => !(a == b) | false => a == b) }
    | _, _ => none
  | .eqa neg p x y => opd s x fun x => opd s y fun y => match x, y with
    | .agg a, .agg b => match eqCells p a b with
      | some r => k { v := .bool (match neg with | true => !r | false => r) }
      | none => none
    | _, _ => none
  | .not x => opd s x fun x => match x with
    | .bool b => k { v := .bool !b }
    | _ => none
  | .neg x => opd s x fun x => match x with
    | .int a n => k { v := .int a (a.wrap (0 - n)) }
    | _ => none
  | .xor x => opd s x fun x => match x with
    | .int a n => match ibits .xor a (bif a.signed then -1 else a.max) n with
      | some r => k { v := .int a r }
      | none => none
    | _ => none
  | .conv a x => opd s x fun x => match x with
    | .int _ n => k { v := .int a (a.wrap n) }
    | _ => none
  | .i2f x => opd s x fun x => match x with
    | .int _ n => k { v := .float (FloatKind.f64.nearest n) }
    | _ => none
  | .f2i a x => opd s x fun x => match x with
    | .float b => match (FloatKind.f64.decode b).toInt .zero with
      | some n => gd (decide (a.min ≤ n) && decide (n ≤ a.max)) (fun _ => k { v := .int a n })
      | none => none
    | _ => none
  | .f2bits x => opd s x fun x => match x with
    | .float b => gd (!isNaN b) (fun _ => k { v := .int .u64 b })
    | _ => none
  | .bits2f x => opd s x fun x => match x with
    | .int .u64 n => k { v := .float n.toNat }
    | _ => none
  | .nck x => opd s x fun x => match x with
    | .imm cs => k { v := .imm cs }
    | .loc n o => k { v := .loc n o }
    | .lel n e i o => k { v := .lel n e i o }
    | _ => none
  | .faddr off x => opd s x fun x => match x with
    | .imm cs => k { v := .imm (cs.drop off) }
    | .loc n o => k { v := .loc n (o + off) }
    | .lel n e i o => k { v := .lel n e i (o + off) }
    | _ => none
  | .field off m x => opd s x fun x => match x with
    | .agg cs => match m with
      | none => match cs.drop off with
        | c :: _ => k { v := c }
        | [] => none
      | some m => match takeN m (cs.drop off) with
        | some cs => k { v := .agg cs }
        | none => none
    | _ => none
  | .iaddr ar an es x i => opd s x fun x => opd s i fun i => match i with
    | .int _ i => match x with
      | .sl τ l => bif !ar && Nat.beq es τ.esz then (idx l i fun e => k { v := .imm (enc τ e) }) else none
      | .lsl n => match blk s n with
        | some (.row τ l) => bif !ar && Nat.beq es τ.esz then (idx l i fun _ => k { v := .lel n τ.esz i 0, rd := [n] }) else none
        | _ => none
      | .loc n 0 => match blk s n with
        | some (.arr τ l) => bif ar && (Nat.beq l.length an && Nat.beq es τ.esz) then (idx l i fun _ => k { v := .lel n τ.esz i 0, rd := [n] }) else none
        | _ => none
      | _ => none
    | _ => none
  | .idxs x i => opd s x fun x => opd s i fun i => match x, i with
    | .str b, .int _ i => idx b.data.toList i fun c => k { v := .int .u8 c.toNat }
    | _, _ => none
  | .idxa an x i => opd s x fun x => opd s i fun i => match x, i with
    | .arr τ l, .int _ i => bif Nat.beq l.length an then (idx l i fun e => match enc τ e with
      | [c] => k { v := c }
      | _ => none) else none
    | _, _ => none
  | .sstr x lo hi => opd s x fun x => opdO s lo fun lo => opdO s hi fun hi => match x, optInt lo, optInt hi with
    | .str b, some lo, some hi => cut b.size lo hi fun l h => k { v := .str (b.extract l h) }
    | _, _, _ => none
  | .ssl e x lo hi => opd s x fun x => opdO s lo fun lo => opdO s hi fun hi => match x, optInt lo, optInt hi with
    | .sl τ b, some lo, some hi => bif Nat.beq e τ.esz then (cut b.length lo hi fun l h => k { v := .sl τ ((b.take h).drop l) }) else none
    | _, _, _ => none
  | .smv nm e x lo hi => opd s x fun x => opdO s lo fun lo => opdO s hi fun hi => match x, optInt lo, optInt hi with
    | .lsl n, some lo, some hi => match blk s n with
      | some (.row τ b) => bif Nat.beq nm n && Nat.beq e τ.esz then
          cut b.length lo hi fun l h => k { v := .lsl nm, bl := [(nm, .row τ ((b.take h).drop l))], pg := [n], rd := [n] } else none
      | _ => none
    | _, _, _ => none
  | .len st x => opd s x fun x => match st, x with
    | true, .str b => k { v := .int .i64 b.size }
    | false, .sl _ l => k { v := .int .i64 l.length }
    | false, .nsl _ => k { v := .int .i64 0 }
    | false, .lsl n => match blk s n with
      | some (.row _ l) => k { v := .int .i64 l.length, rd := [n] }
      | _ => none
    | _, _ => none
  | .ext x i => opd s x fun x => match x with
    | .tup vs => match vs[i]? with
      | some v => k { v }
      | none => none
    | _ => none
  | .call f args sh adopt => opds s args fun vs => match vwl (vw s) vs with
    | some (vs, rd) => bif scOk rd sh then
        callK R f vs sh fun x => k { v := (sh.res x adopt).1, bl := (sh.res x adopt).2, pg := adopt.flatMap (anew s), rd := adopt ++ rd }
      else none
    | none => none
  | .callv x args sh => opd s x fun x => opds s args fun vs => match x with
    | .fn f caps => match vwl (vw s) (vs ++ caps) with
      | some (vs, rd) => bif scOk rd sh then
          callK R f vs sh fun x => k { v := (sh.res x []).1, rd }
        else none
      | none => none
    | _ => none
  | .append nm τ x y => opd s x fun x => opd s y fun y => appY s τ x y (appAdd s nm τ x k)
  | .bslicef τ l parts => opds s (parts.map (·.2)) fun vs =>
    match filla τ l ((parts.map (·.1)).zip vs) with
    | some l => k { v := .fsl τ l }
    | none => none
  | .appf τ x y => opd s x fun x => opd s y fun y => match x with
    | .fsl σ l => match castL σ τ l with
      | some l => appY s τ (.nsl τ) y fun y rd => gd (room τ (l.length + y.length)) (fun _ => k { v := .sl τ (l ++ y), rd })
      | none => none
    | _ => none
  | .copy e x y => opd s x fun x => opd s y fun y => match x, y with
    | .lsl n, .sl σ m => match blk s n with
      | some (.row τ l) => match castL σ τ m with
        | some m => bif Nat.beq m.length l.length && Nat.beq e τ.esz then k { v := .int .i64 m.length, bl := [(n, .row τ m)], rd := [n] } else none
        | none => none
      | _ => none
    | _, _ => none
  | .mkslice nm τ z n => opd s n fun n => match n with
    | .int _ n => gd (decide (0 ≤ n) && room τ n.toNat) (fun _ => k { v := .lsl nm, bl := [(nm, .row τ (List.replicate n.toNat z))], pg := anew s nm })
    | _ => none
  | .mkfn f caps => opds s caps fun cs => k { v := .fn f cs }
  | .mkmap nm ag y => opdO s y fun y => match optInt y with
    | some _ => k { v := .lsl nm, bl := [(nm, .map ag [])], pg := anew s nm }
    | none => none
  | .mget ok zero ag p x key => opd s x fun x => opd s key fun key => match x with
    | .lsl n => match blk s n with
      | some (.map ag' l) => bif ag == ag' then (match keyD ag key with
        | some cs => bif Nat.beq cs.length p.length then (match mfind p cs l 0 with
          | some o => match zero with
            | .int kd z => (match mInt kd z o with
              | some x => k { v := mgetV ok (.int kd x) o.isSome, rd := [n] }
              | none => none)
            | .bool z => (match mBool z o with
              | some x => k { v := mgetV ok (.bool x) o.isSome, rd := [n] }
              | none => none)
            | _ => none
          | none => none) else none
        | none => none) else none
      | _ => none
    | _ => none
  | .mput ag p x key v => opd s x fun x => opd s key fun key => opd s v fun v => match x with
    | .lsl n => match blk s n with
      | some (.map ag' l) => bif ag == ag' then (match keyD ag key with
        | some cs => bif Nat.beq cs.length p.length && (cs.all keyC && keyC v) then (match mputL p cs v l with
          | some l => k { v := .skp, bl := [(n, .map ag l)], rd := [n] }
          | none => none) else none
        | none => none) else none
      | _ => none
    | _ => none

def DOp.args : DOp → List Opd
  | .mv x | .box _ x | .load _ x | .loada _ x | .not x | .neg x | .xor x | .conv _ x | .i2f x | .f2i _ x | .f2bits x | .bits2f x | .nck x
  | .faddr _ x | .field _ _ x | .len _ x | .ext x _ | .mkslice _ _ _ x => [x]
  | .mkrow .. | .alloc .. | .alloca .. => []
  | .pick c a b => [c, a, b]
  | .build _ ps => ps.map (·.2)
  | .builda _ _ ps | .bslice _ _ _ ps | .bslicef _ _ ps => ps.map (·.2)
  | .store _ a x | .storea _ a x | .bini _ a x | .binf _ a x | .fdiv a x | .bins _ a x | .eqb _ a x | .eqa _ _ a x | .iaddr _ _ _ a x | .idxs a x | .idxa _ a x
  | .append _ _ a x | .copy _ a x | .appf _ a x => [a, x]
  | .sstr x lo hi | .ssl _ x lo hi | .smv _ _ x lo hi => x :: (lo.toList ++ hi.toList)
  | .call _ as _ _ => as
  | .callv x as _ => x :: as
  | .mkfn _ cs => cs
  | .mkmap _ _ y => y.toList
  | .mget _ _ _ _ x key => [x, key]
  | .mput _ _ x key v => [x, key, v]
end Bz
