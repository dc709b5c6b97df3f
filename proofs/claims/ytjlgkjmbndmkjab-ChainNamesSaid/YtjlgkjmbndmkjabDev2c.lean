/- The run over plain data: code and functions. -/
import Derived.Test.YtjlgkjmbndmkjabDev2
set_option linter.all false
namespace Bz
open Go
/-! ### Code -/
structure DO where
  dst : Option Nat
  op : DOp
  g : Option (Nat × Bool) := none

/-- a guard: what it is is known behind it -/
def wantK (s : St) (g : Option (Nat × Bool)) (y n : St → Option DV) : Option DV :=
  match g with
  | none => y s
  | some (t, w) => match look s.env t with
    | some (.bool b) => match w with
      | true => bif b then y { s with env := (t, .bool true) :: s.env } else n { s with env := (t, .bool false) :: s.env }
      | false => bif b then n { s with env := (t, .bool true) :: s.env } else y { s with env := (t, .bool false) :: s.env }
    | some .skp => n s
    | _ => none

def runOps (R : Nat → List DV → Option DV) : List DO → St → (St → Option DV) → Option DV
  | [], s, k => k s
  | o :: r, s, k => wantK s o.g (fun s => eff R s o.op fun e => runOps R r ((e.on s).put o.dst e.v) k) (fun s => runOps R r (s.put o.dst .skp) k)

/-- Of an operation in a region whose order is open: what it touched. -/
structure Tr where
  i : Nat
  wr : List Nat
  rd : List Nat
  pg : Bool
def disj (a b : List Nat) : Bool := a.all fun x => b.all fun y => !Nat.beq x y
def Tr.ok (b : List (List Nat)) (x y : Tr) : Bool :=
  ((b.getD y.i []).any (Nat.beq x.i)) || (disj x.wr (y.rd ++ y.wr) && (disj y.wr x.rd && (!x.pg && !y.pg)))
def okAll (b : List (List Nat)) : List Tr → Bool
  | [] => true
  | y :: r => r.all (fun x => Tr.ok b x y) && okAll b r

def runOpsD (R : Nat → List DV → Option DV) : Nat → List DO → St → List Tr → (St → List Tr → Option DV) → Option DV
  | _, [], s, acc, k => k s acc
  | i, o :: r, s, acc, k => wantK s o.g
      (fun s => eff R s o.op fun e => runOpsD R (i + 1) r ((e.on s).put o.dst e.v)
        (⟨i, e.bl.map (·.1), e.rd, !e.pg.isEmpty⟩ :: acc) k)
      (fun s => runOpsD R (i + 1) r (s.put o.dst .skp) (⟨i, [], [], false⟩ :: acc) k)

inductive Ex where
  | nrm
  | ex (id : Nat)
  | ret

inductive DC where
  | skip
  | ret
  | exit (id : Nat)
  | ops (l : List DO)
  | draw (l : List DO) (b : List (List Nat))
  | seq (a b : DC)
  | cond (c : Opd) (x y : DC)
  | block (id : Nat) (b : DC)
  | loop (K S : List Nat) (b : DC)
  | kp (K S : List Nat) (x : DC)
  | sc (x : DC)
  | opsc (l : List DO) (K S : List Nat) (x : DC)
  | rset (x d : Nat) (ts : List Nat)

def keepEnv (s : St) : List Nat → List (Nat × DV)
  | [] => []
  | t :: r => match look s.env t with
    | some v => (t, v) :: keepEnv s r
    | none => keepEnv s r
def keepSto (s : St) : List Nat → List (Nat × Blk)
  | [] => []
  | n :: r => match blk s n with
    | some b => (n, b) :: keepSto s r
    | none => keepSto s r
def St.closed (s : St) : Bool :=
  s.env.all (fun x => x.2.all fun n => (s.sto.any fun y => Nat.beq y.1 n)) && s.sto.all (fun x => x.2.all fun n => (s.sto.any fun y => Nat.beq y.1 n))
def keepK (K S : List Nat) (s : St) (k : St → Option DV) : Option DV :=
  bif St.closed ⟨keepEnv s K, keepSto s S⟩ then k ⟨keepEnv s K, keepSto s S⟩ else none

def kIt (next : St → (Ex → St → Option DV) → Option DV) (K S : List Nat) (k : Ex → St → Option DV) : Ex → St → Option DV := fun e s =>
  match e with
  | .nrm => keepK K S s fun s => next s k
  | .ex i => k (.ex i) s
  | .ret => k .ret s
def iter (body : St → (Ex → St → Option DV) → Option DV) (K S : List Nat) : Nat → St → (Ex → St → Option DV) → Option DV
  | 0, _, _ => none
  | m + 1, s, k => body s (kIt (iter body K S m) K S k)

/-! What follows: behind a piece of code, a block, a whole function. -/
def kSeq (run : St → (Ex → St → Option DV) → Option DV) (k : Ex → St → Option DV) : Ex → St → Option DV := fun e s =>
  match e with
  | .nrm => run s k
  | .ex i => k (.ex i) s
  | .ret => k .ret s
def kBlock (id : Nat) (k : Ex → St → Option DV) : Ex → St → Option DV := fun e s =>
  match e with
  | .nrm => k .nrm s
  | .ex i => bif Nat.beq i id then k .nrm s else k (.ex i) s
  | .ret => k .ret s
/-- 'for k := range m { d[k] = true }' -/
def keysI : List (List DV × DV) → Option (List Int)
  | [] => some []
  | ([.int .i64 i], _) :: r => match keysI r with
    | some l => some (i :: l)
    | none => none
  | _ :: _ => none
def setAll : List Int → List Bool → List Bool
  | [], l => l
  | i :: r, l => setAll r (l.set i.toNat true)
/-- the temporaries of the loop: nothing is known of them -/
def unks : List Nat → List (Nat × DV) → List (Nat × DV)
  | [], env => env
  | t :: ts, env => (t, .unk) :: unks ts env
def runSet (s : St) (x d : Nat) (ts : List Nat) (k : St → Option DV) : Option DV :=
  match look s.env x, look s.env d with
  | some (.lsl m), some (.lsl n) => match blk s m, blk s n with
    | some (.map false l), some (.row .bool bl) => match keysI l with
      | some ks => bif ks.all (fun i => decide (0 ≤ i) && decide (i.toNat < bl.length)) then k ⟨unks ts s.env, (n, .row .bool (setAll ks bl)) :: s.sto⟩ else none
      | none => none
    | _, _ => none
  | _, _ => none
def runC (R : Nat → List DV → Option DV) (m : Nat) : DC → St → (Ex → St → Option DV) → Option DV
  | .skip, s, k => k .nrm s
  | .ret, s, k => k .ret s
  | .exit id, s, k => k (.ex id) s
  | .ops l, s, k => runOps R l s fun s => k .nrm s
  | .draw l b, s, k => runOpsD R 0 l s [] fun s tr => bif okAll b tr then k .nrm s else none
  | .seq a b, s, k => runC R m a s (kSeq (runC R m b) k)
  | .cond c x y, s, k => opd s c fun v => match v with
    | .bool b => bif b then runC R m x s k else runC R m y s k
    | _ => none
  | .block id b, s, k => runC R m b s (kBlock id k)
  | .loop K S b, s, k => keepK K S s fun s => iter (runC R m b) K S m s k
  | .kp K S x, s, k => keepK K S s fun s => runC R m x s k
  | .sc x, s, k => runC R m x s k
  | .opsc l K S x, s, k => runOps R l s fun s => keepK K S s fun s => runC R m x s k
  | .rset x d ts, s, k => runSet s x d ts fun s => k .nrm s

/-! ### Functions -/
inductive ResV where
  | tmp (t : Nat)
  | cell (t : Nat) (m : Option Nat)
  | cella (t m : Nat)
structure FD where
  np : Nat
  res : List ResV
  body : DC
inductive Fn where
  | code (fd : FD)
  | prim (p : List DV → Option DV)

def exp0 (s : St) (v : DV) (k : DV → St → Option DV) : Option DV :=
  match v with
  | .lsl n => match blk s n with
    | some (.row τ l) => k (.own τ l) { s with sto := (n, .gone) :: s.sto }
    | _ => none
  | .nsl τ => k (.own τ []) s
  | .bool b => k (.bool b) s
  | .int a n => k (.int a n) s
  | .float b => k (.float b) s
  | .str b => k (.str b) s
  | .sl τ l => k (.sl τ l) s
  | _ => none
def expl (s : St) : List DV → (List DV → St → Option DV) → Option DV
  | [], k => k [] s
  | c :: r, k => exp0 s c fun c s => expl s r fun r s => k (c :: r) s
def exp (s : St) (v : DV) (k : DV → St → Option DV) : Option DV :=
  match v with
  | .agg cs => expl s cs fun cs s => k (.agg cs) s
  | .arr τ l => k (.arr τ l) s
  | v => exp0 s v k
def resV (s : St) : ResV → (DV → Option DV) → Option DV
  | .tmp t, k => opd s (.t t) k
  | .cell t m, k => opd s (.t t) fun a => at_ s a fun cs _ => match m with
    | none => match cs with
      | c :: _ => k c
      | [] => none
    | some m => match takeN m cs with
      | some cs => k (.agg cs)
      | none => none
  | .cella t m, k => opd s (.t t) fun a => match a with
    | .loc n 0 => match blk s n with
      | some (.arr τ l) => bif Nat.beq (l.length * τ.esz) m then k (.arr τ l) else none
      | _ => none
    | _ => none
def ress (s : St) : List ResV → (List DV → Option DV) → Option DV
  | [], k => k []
  | x :: r, k => resV s x fun v => exp s v fun v s => ress s r fun l => k (v :: l)
def finish (res : List ResV) (s : St) : Option DV := ress s res fun l => match l with
  | [v] => some v
  | l => some (.tup l)
def numbered {α : Type} : Nat → List α → List (Nat × α)
  | _, [] => []
  | i, a :: r => (i, a) :: numbered (i + 1) r

def kFin (res : List ResV) : Ex → St → Option DV := fun e s =>
  match e with
  | .nrm => finish res s
  | .ex _ => none
  | .ret => finish res s
def runF (D : Nat → Option Fn) : Nat → Nat → List DV → Option DV
  | 0, _, _ => none
  | n + 1, f, args => match D f with
    | some (.code fd) => bif Nat.beq args.length fd.np then runC (runF D n) n fd.body ⟨numbered 0 args, []⟩ (kFin fd.res) else none
    | some (.prim p) => p args
    | none => none
end Bz
