/- The same run, made for the kernel. Printed by mkfast.py out of the interpreter's text. -/
import Derived.Test.YtjlgkjmbndmkjabDev4
import Derived.Laws.Strings
set_option linter.all false
namespace Bz
open Go
/-! ### Look-ups -/
noncomputable def lookF {α : Type} : List (Nat × α) → Nat → Option α :=
  @List.rec (Nat × α) (fun _ => Nat → Option α) (fun _ => none) (fun p _ ih n => @Bool.rec (fun _ => Option α) (ih n) (some p.2) (Nat.beq p.1 n))
theorem lookF_eq {α : Type} (l : List (Nat × α)) (n : Nat) : lookF l n = look l n := by
  induction l with
  | nil => rfl
  | cons p l ih =>
    show @Bool.rec (fun _ => Option α) (lookF l n) (some p.2) (Nat.beq p.1 n) = _
    obtain ⟨m, v⟩ := p
    simp only [look]
    cases Nat.beq m n
    · exact ih
    · rfl
noncomputable def kO {α : Type} (k : α → Option DV) : Option α → Option DV := @Option.rec α (fun _ => Option DV) none k
noncomputable def opdF (s : St) (x : Opd) (k : DV → Option DV) : Option DV :=
  @Opd.rec (fun _ => Option DV) (fun n => kO k (lookF s.env n)) k x
theorem opdF_eq : opdF = opd := by
  funext s x k
  cases x with
  | c v => rfl
  | t n =>
    show kO k (lookF s.env n) = _
    rw [lookF_eq]; simp only [opd]
    cases look s.env n <;> rfl
noncomputable def opdOF (s : St) (x : Option Opd) (k : Option DV → Option DV) : Option DV :=
  @Option.rec Opd (fun _ => Option DV) (k none) (fun x => opdF s x fun v => k (some v)) x
theorem opdOF_eq : opdOF = opdO := by
  funext s x k
  cases x with
  | none => rfl
  | some x => show opdF s x (fun v => k (some v)) = _; rw [opdF_eq]; rfl
noncomputable def opdsF (s : St) (l : List Opd) : (List DV → Option DV) → Option DV :=
  @List.rec Opd (fun _ => (List DV → Option DV) → Option DV) (fun k => k []) (fun x _ ih k => opdF s x fun v => ih fun l => k (v :: l)) l
theorem opdsF_eq : opdsF = opds := by
  funext s l
  induction l with
  | nil => rfl
  | cons x l ih =>
    funext k
    show opdF s x (fun v => opdsF s l fun l => k (v :: l)) = _
    rw [opdF_eq, ih]; rfl
noncomputable def blkF (s : St) (n : Nat) : Option Blk :=
  @Option.rec Blk (fun _ => Option Blk) none (@Blk.rec (fun _ => Option Blk) (fun cs => some (.box cs)) (fun τ l => some (.row τ l)) (fun τ l => some (.arr τ l)) (fun ag l => some (.map ag l)) none) (lookF s.sto n)
theorem blkF_eq : blkF = blk := by
  funext s n
  unfold blkF blk
  rw [lookF_eq]
  cases look s.sto n with
  | none => rfl
  | some b => cases b <;> rfl
noncomputable def freeF (s : St) (n : Nat) (k : Unit → Option DV) : Option DV := @Option.rec Blk (fun _ => Option DV) (k ()) (fun _ => none) (blkF s n)
theorem freeF_eq : freeF = free := by
  funext s n k
  unfold freeF free
  rw [blkF_eq]
  cases blk s n <;> rfl
noncomputable def anewF (s : St) (n : Nat) : List Nat := @Option.rec Blk (fun _ => List Nat) [] (fun _ => [n]) (blkF s n)
theorem anewF_eq : anewF = anew := by
  funext s n
  unfold anewF anew
  rw [blkF_eq]
  cases blk s n <;> rfl
noncomputable def getF {α : Type} : List α → Nat → Option α :=
  @List.rec α (fun _ => Nat → Option α) (fun _ => none) (fun x _ ih n => @Nat.rec (fun _ => Option α) (some x) (fun m _ => ih m) n)
theorem getF_eq {α : Type} (l : List α) (n : Nat) : getF l n = l[n]? := by
  induction l generalizing n with
  | nil => rfl
  | cons x l ih => cases n with
    | zero => rfl
    | succ n => exact ih n
noncomputable def idxF {α : Type} (l : List α) (i : Int) (k : α → Option DV) : Option DV :=
  @Int.rec (fun _ => Option DV) (fun n => kO k (getF l n)) (fun _ => none) i
theorem idxF_eq : @idxF = @idx := by
  funext α l i k
  cases i with
  | ofNat n =>
    show kO k (getF l n) = _
    rw [getF_eq]
    have h : decide ((0 : Int) ≤ Int.ofNat n) = true := by simp
    unfold idx
    rw [h, cond_true]
    show _ = (match l[n]? with | some x => k x | none => none)
    cases l[n]? <;> rfl
  | negSucc n => rfl
noncomputable def at_F (s : St) (a : DV) (k : List DV → List Nat → Option DV) : Option DV :=
  match a with
  | .imm cs => k cs []
  | .loc n o => match blkF s n with
    | some (.box cs) => k (cs.drop o) [n]
    | _ => none
  | .lel n e i o => match blkF s n with
    | some (.row τ l) => bif Nat.beq e τ.esz then (idxF l i fun x => k ((enc τ x).drop o) [n]) else none
    | some (.arr τ l) => bif Nat.beq e τ.esz then (idxF l i fun x => k ((enc τ x).drop o) [n]) else none
    | _ => none
  | _ => none
theorem at_F_eq : at_F = at_ := by
  funext s a k
  cases a <;> (unfold at_F at_; simp only [blkF_eq, idxF_eq]; try rfl)
noncomputable def appF {β : Type} (l r : List β) : List β := @List.rec β (fun _ => List β) r (fun x _ ih => x :: ih) l
theorem appF_eq {β : Type} (l r : List β) : appF l r = l ++ r := by
  induction l with
  | nil => rfl
  | cons x l ih => show x :: appF l r = _; rw [ih]; rfl
noncomputable def takeF {α : Type} : List α → Nat → List α := @List.rec α (fun _ => Nat → List α) (fun _ => []) (fun x _ ih n => @Nat.rec (fun _ => List α) [] (fun m _ => x :: ih m) n)
theorem takeF_eq {α : Type} (l : List α) (n : Nat) : takeF l n = l.take n := by
  induction l generalizing n with
  | nil => simp [takeF]
  | cons x l ih => cases n with
    | zero => rfl
    | succ n => show x :: takeF l n = _; rw [ih]; rfl
noncomputable def dropF {α : Type} : List α → Nat → List α := @List.rec α (fun _ => Nat → List α) (fun _ => []) (fun x l ih n => @Nat.rec (fun _ => List α) (x :: l) (fun m _ => ih m) n)
theorem dropF_eq {α : Type} (l : List α) (n : Nat) : dropF l n = l.drop n := by
  induction l generalizing n with
  | nil => simp [dropF]
  | cons x l ih => cases n with
    | zero => rfl
    | succ n => show dropF l n = _; rw [ih]; rfl
noncomputable def extS (b : ByteArray) (l h : Nat) : ByteArray := ⟨⟨dropF (takeF b.data.toList h) l⟩⟩
theorem extS_eq (b : ByteArray) (l h : Nat) : extS b l h = b.extract l h := by
  unfold extS
  rw [dropF_eq, takeF_eq]
  apply ByteArray.ext
  apply Array.ext'
  rw [ByteArray.data_extract, Array.toList_extract]
  simp [List.extract_eq_take_drop, List.drop_take]
noncomputable def appS (a b : ByteArray) : ByteArray := ⟨⟨appF a.data.toList b.data.toList⟩⟩
theorem appS_eq (a b : ByteArray) : appS a b = a ++ b := by
  unfold appS
  rw [appF_eq]
  apply ByteArray.ext
  apply Array.ext'
  simp [ByteArray.data_append]
theorem toLd (s : ByteArray) : s.toList = s.data.toList := Go.ByteArray.toList_eq s
noncomputable def eqB : List UInt8 → List UInt8 → Bool :=
  @List.rec UInt8 (fun _ => List UInt8 → Bool) (fun r => @List.rec UInt8 (fun _ => Bool) true (fun _ _ _ => false) r)
    (fun x _ ih r => @List.rec UInt8 (fun _ => Bool) false (fun y r _ => @Bool.rec (fun _ => Bool) false (ih r) (Nat.beq x.toNat y.toNat)) r)
theorem eqB_eq (l r : List UInt8) : eqB l r = (l == r) := by
  induction l generalizing r with
  | nil => cases r <;> rfl
  | cons x l ih =>
    cases r with
    | nil => rfl
    | cons y r =>
      show @Bool.rec (fun _ => Bool) false (eqB l r) (Nat.beq x.toNat y.toNat) = _
      rw [ih, List.cons_beq_cons]
      by_cases h : x = y
      · subst h; simp
      · have h1 : Nat.beq x.toNat y.toNat = false := by
          cases hb : Nat.beq x.toNat y.toNat with
          | false => rfl
          | true => exact absurd (UInt8.toNat_inj.1 (Nat.eq_of_beq_eq_true hb)) h
        have h2 : (x == y) = false := by simpa using h
        rw [h1, h2]; rfl

theorem eqS_eq (a b : ByteArray) : eqB a.data.toList b.data.toList = (a.toList == b.toList) := by rw [eqB_eq, toLd, toLd]
noncomputable def eq1F : Nat → DV → DV → Option Bool
  | 2, .str a, .str b => some (eqB a.data.toList b.data.toList)
  | n, a, b => eq1 n a b
theorem eq1F_eq : eq1F = eq1 := by
  funext n a b
  unfold eq1F
  split
  · rw [eqS_eq]; rfl
  · rfl
noncomputable def eqCellsF : List Nat → List DV → List DV → Option Bool
  | [], [], [] => some true
  | x :: p, c :: cs, d :: ds => match eq1F x c d with
    | some b => match eqCellsF p cs ds with
      | some r => some (b && r)
      | none => none
    | none => none
  | _, _, _ => none
theorem eqCellsF_eq : eqCellsF = eqCells := by
  funext p
  induction p with
  | nil => funext a b; cases a <;> cases b <;> rfl
  | cons x p ih =>
    funext a b
    cases a <;> cases b <;> try rfl
    simp only [eqCellsF, eq1F_eq, ih]; rfl
noncomputable def mfindF (p : List Nat) (key : List DV) : List (List DV × DV) → Nat → Option (Option (Nat × DV))
  | [], _ => some none
  | (c, v) :: r, i => match eqCellsF p key c with
    | some true => some (some (i, v))
    | some false => mfindF p key r (i + 1)
    | none => none
theorem mfindF_eq : mfindF = mfind := by
  funext p key l
  induction l with
  | nil => rfl
  | cons x l ih =>
    obtain ⟨c, v⟩ := x
    funext i
    simp only [mfindF, mfind, eqCellsF_eq, ih]
    split <;> simp_all

namespace E
noncomputable def mv (x : Opd) (R : Nat → List DV → Option DV) (s : St) (k : Eff → Option DV) : Option DV :=
  opdF s x fun v => k { v }
noncomputable def mkrow (nm : Nat) (τ : Ty) (R : Nat → List DV → Option DV) (s : St) (k : Eff → Option DV) : Option DV :=
  k { v := .lsl nm, bl := [(nm, .row τ [])], pg := anewF s nm }
noncomputable def pick (c : Opd) (a : Opd) (b : Opd) (R : Nat → List DV → Option DV) (s : St) (k : Eff → Option DV) : Option DV :=
  opdF s c fun c => opdF s a fun a => opdF s b fun b =>
    match c with
    | .bool c => k { v := pickV c a b }
    | _ => none
noncomputable def alloc (nm : Nat) (zero : List DV) (row : Option (Nat × Ty)) (R : Nat → List DV → Option DV) (s : St) (k : Eff → Option DV) : Option DV :=
  match row with
    | none => freeF s nm (fun _ => k { v := .loc nm 0, bl := [(nm, .box zero)] })
    | some (n, τ) => freeF s nm (fun _ => freeF s n (fun _ => bif Nat.beq n nm then none else k { v := .loc nm 0, bl := [(nm, .box zero), (n, .row τ [])] }))
noncomputable def alloca (nm : Nat) (τ : Ty) (l : List (El τ)) (R : Nat → List DV → Option DV) (s : St) (k : Eff → Option DV) : Option DV :=
  freeF s nm (fun _ => k { v := .loc nm 0, bl := [(nm, .arr τ l)] })
noncomputable def box (nm : Nat) (x : Opd) (R : Nat → List DV → Option DV) (s : St) (k : Eff → Option DV) : Option DV :=
  opdF s x fun v => freeF s nm (fun _ => match v with
    | .arr τ l => k { v := .loc nm 0, bl := [(nm, .arr τ l)] }
    | v => match cellsOf v with
      | some cs => k { v := .loc nm 0, bl := [(nm, .box cs)] }
      | none => none)
noncomputable def build (zero : List DV) (parts : List ((Nat × Nat) × Opd)) (R : Nat → List DV → Option DV) (s : St) (k : Eff → Option DV) : Option DV :=
  opdsF s (parts.map (·.2)) fun vs =>
    match fillc zero ((parts.map (·.1)).zip vs) with
    | some cs => k { v := .agg cs }
    | none => none
noncomputable def builda (τ : Ty) (l : List (El τ)) (parts : List (Nat × Opd)) (R : Nat → List DV → Option DV) (s : St) (k : Eff → Option DV) : Option DV :=
  opdsF s (parts.map (·.2)) fun vs =>
    match filla τ l ((parts.map (·.1)).zip vs) with
    | some l => k { v := .arr τ l }
    | none => none
noncomputable def bslice (nm : Option Nat) (τ : Ty) (l : List (El τ)) (parts : List (Nat × Opd)) (R : Nat → List DV → Option DV) (s : St) (k : Eff → Option DV) : Option DV :=
  opdsF s (parts.map (·.2)) fun vs =>
    match filla τ l ((parts.map (·.1)).zip vs) with
    | some l => match nm with
      | some n => k { v := .lsl n, bl := [(n, .row τ l)], pg := anewF s n }
      | none => k { v := .sl τ l }
    | none => none
noncomputable def load (m : Option Nat) (a : Opd) (R : Nat → List DV → Option DV) (s : St) (k : Eff → Option DV) : Option DV :=
  opdF s a fun a => at_F s a fun cs rd =>
    match m with
    | none => match cs with
      | c :: _ => k { v := c, rd }
      | [] => none
    | some m => match takeN m cs with
      | some cs => k { v := .agg cs, rd }
      | none => none
noncomputable def loada (m : Nat) (a : Opd) (R : Nat → List DV → Option DV) (s : St) (k : Eff → Option DV) : Option DV :=
  opdF s a fun a => match a with
    | .loc n 0 => match blkF s n with
      | some (.arr τ l) => bif Nat.beq (l.length * τ.esz) m then k { v := .arr τ l, rd := [n] } else none
      | _ => none
    | _ => none
noncomputable def store (m : Nat) (a : Opd) (x : Opd) (R : Nat → List DV → Option DV) (s : St) (k : Eff → Option DV) : Option DV :=
  opdF s a fun a => opdF s x fun v =>
    match cellsOf v with
    | none => none
    | some vs => bif Nat.beq vs.length m then
      match a with
      | .loc n o => match blkF s n with
        | some (.box cs) => match splice cs o vs with
          | some cs => k { v := .skp, bl := [(n, .box cs)], rd := [n] }
          | none => none
        | _ => none
      | .lel n e i o => match blkF s n with
        | some (.row τ l) => bif Nat.beq e τ.esz then (idxF l i fun x => match splice (enc τ x) o vs with
          | some cs => match dec τ cs with
            | some y => k { v := .skp, bl := [(n, .row τ (l.set i.toNat y))], rd := [n] }
            | none => none
          | none => none) else none
        | some (.arr τ l) => bif Nat.beq e τ.esz then (idxF l i fun x => match splice (enc τ x) o vs with
          | some cs => match dec τ cs with
            | some y => k { v := .skp, bl := [(n, .arr τ (l.set i.toNat y))], rd := [n] }
            | none => none
          | none => none) else none
        | _ => none
      | _ => none
    else none
noncomputable def storea (c : Nat) (a : Opd) (x : Opd) (R : Nat → List DV → Option DV) (s : St) (k : Eff → Option DV) : Option DV :=
  opdF s a fun a => opdF s x fun v => match a, v with
    | .loc n 0, .arr τ l => match blkF s n with
      | some (.arr σ m) => match castL σ τ m with
        | some m => bif Nat.beq m.length l.length && Nat.beq (l.length * τ.esz) c then k { v := .skp, bl := [(n, .arr τ l)], rd := [n] } else none
        | none => none
      | _ => none
    | _, _ => none
noncomputable def bini (op : BinOp) (x : Opd) (y : Opd) (R : Nat → List DV → Option DV) (s : St) (k : Eff → Option DV) : Option DV :=
  opdF s x fun x => opdF s y fun y => match x, y with
    | .int a m, .int b n => bif kindEq a b then
        match op with
        | .add => k { v := .int a (a.wrap (m + n)) }
        | .sub => k { v := .int a (a.wrap (m - n)) }
        | .mul => k { v := .int a (a.wrap (m * n)) }
        | .quo => gd (n != 0) (fun _ => k { v := .int a (a.wrap (m.tdiv n)) })
        | .rem => gd (n != 0) (fun _ => k { v := .int a (m.tmod n) })
        | .and | .or | .xor | .andNot => match ibits op a m n with
          | some r => k { v := .int a r }
          | none => none
        | .shl | .shr => none
        | _ => match icmp op m n with
          | some r => k { v := .bool r }
          | none => none
      else none
    | _, _ => none
noncomputable def binf (op : BinOp) (x : Opd) (y : Opd) (R : Nat → List DV → Option DV) (s : St) (k : Eff → Option DV) : Option DV :=
  opdF s x fun x => opdF s y fun y => match x, y with
    | .float a, .float b => match fcmp op a b with
      | some r => k { v := .bool r }
      | none => none
    | _, _ => none
noncomputable def fdiv (x : Opd) (y : Opd) (R : Nat → List DV → Option DV) (s : St) (k : Eff → Option DV) : Option DV :=
  opdF s x fun x => opdF s y fun y => match x, y with
    | .float a, .float b => k { v := .float ((Ieee.double.div a b).getD qnan) }
    | _, _ => none
noncomputable def bins (op : BinOp) (x : Opd) (y : Opd) (R : Nat → List DV → Option DV) (s : St) (k : Eff → Option DV) : Option DV :=
  opdF s x fun x => opdF s y fun y => match x, y with
    | .str a, .str b => match op with
      | .add => gd (decide (a.size + b.size ≤ 9223372036854775807)) (fun _ => k { v := .str (appS a b) })
      | .eql => k { v := .bool (eqB a.data.toList b.data.toList) }
      | .neq => k { v := .bool (!(eqB a.data.toList b.data.toList)) }
      | _ => none
    | _, _ => none
noncomputable def eqb (neg : Bool) (x : Opd) (y : Opd) (R : Nat → List DV → Option DV) (s : St) (k : Eff → Option DV) : Option DV :=
  opdF s x fun x => opdF s y fun y => match x, y with
    | .bool a, .bool b => k { v := .bool (match neg with | true => !(a == b) | false => a == b) }
    | _, _ => none
noncomputable def eqa (neg : Bool) (p : List Nat) (x : Opd) (y : Opd) (R : Nat → List DV → Option DV) (s : St) (k : Eff → Option DV) : Option DV :=
  opdF s x fun x => opdF s y fun y => match x, y with
    | .agg a, .agg b => match eqCellsF p a b with
      | some r => k { v := .bool (match neg with | true => !r | false => r) }
      | none => none
    | _, _ => none
noncomputable def not (x : Opd) (R : Nat → List DV → Option DV) (s : St) (k : Eff → Option DV) : Option DV :=
  opdF s x fun x => match x with
    | .bool b => k { v := .bool !b }
    | _ => none
noncomputable def neg (x : Opd) (R : Nat → List DV → Option DV) (s : St) (k : Eff → Option DV) : Option DV :=
  opdF s x fun x => match x with
    | .int a n => k { v := .int a (a.wrap (0 - n)) }
    | _ => none
noncomputable def xor (x : Opd) (R : Nat → List DV → Option DV) (s : St) (k : Eff → Option DV) : Option DV :=
  opdF s x fun x => match x with
    | .int a n => match ibits .xor a (bif a.signed then -1 else a.max) n with
      | some r => k { v := .int a r }
      | none => none
    | _ => none
noncomputable def conv (a : IntKind) (x : Opd) (R : Nat → List DV → Option DV) (s : St) (k : Eff → Option DV) : Option DV :=
  opdF s x fun x => match x with
    | .int _ n => k { v := .int a (a.wrap n) }
    | _ => none
noncomputable def i2f (x : Opd) (R : Nat → List DV → Option DV) (s : St) (k : Eff → Option DV) : Option DV :=
  opdF s x fun x => match x with
    | .int _ n => k { v := .float (FloatKind.f64.nearest n) }
    | _ => none
noncomputable def f2i (a : IntKind) (x : Opd) (R : Nat → List DV → Option DV) (s : St) (k : Eff → Option DV) : Option DV :=
  opdF s x fun x => match x with
    | .float b => match (FloatKind.f64.decode b).toInt .zero with
      | some n => gd (decide (a.min ≤ n) && decide (n ≤ a.max)) (fun _ => k { v := .int a n })
      | none => none
    | _ => none
noncomputable def f2bits (x : Opd) (R : Nat → List DV → Option DV) (s : St) (k : Eff → Option DV) : Option DV :=
  opdF s x fun x => match x with
    | .float b => gd (!isNaN b) (fun _ => k { v := .int .u64 b })
    | _ => none
noncomputable def bits2f (x : Opd) (R : Nat → List DV → Option DV) (s : St) (k : Eff → Option DV) : Option DV :=
  opdF s x fun x => match x with
    | .int .u64 n => k { v := .float n.toNat }
    | _ => none
noncomputable def nck (x : Opd) (R : Nat → List DV → Option DV) (s : St) (k : Eff → Option DV) : Option DV :=
  opdF s x fun x => match x with
    | .imm cs => k { v := .imm cs }
    | .loc n o => k { v := .loc n o }
    | .lel n e i o => k { v := .lel n e i o }
    | _ => none
noncomputable def faddr (off : Nat) (x : Opd) (R : Nat → List DV → Option DV) (s : St) (k : Eff → Option DV) : Option DV :=
  opdF s x fun x => match x with
    | .imm cs => k { v := .imm (cs.drop off) }
    | .loc n o => k { v := .loc n (o + off) }
    | .lel n e i o => k { v := .lel n e i (o + off) }
    | _ => none
noncomputable def field (off : Nat) (m : Option Nat) (x : Opd) (R : Nat → List DV → Option DV) (s : St) (k : Eff → Option DV) : Option DV :=
  opdF s x fun x => match x with
    | .agg cs => match m with
      | none => match cs.drop off with
        | c :: _ => k { v := c }
        | [] => none
      | some m => match takeN m (cs.drop off) with
        | some cs => k { v := .agg cs }
        | none => none
    | _ => none
noncomputable def iaddr (ar : Bool) (an : Nat) (es : Nat) (x : Opd) (i : Opd) (R : Nat → List DV → Option DV) (s : St) (k : Eff → Option DV) : Option DV :=
  opdF s x fun x => opdF s i fun i => match i with
    | .int _ i => match x with
      | .sl τ l => bif !ar && Nat.beq es τ.esz then (idxF l i fun e => k { v := .imm (enc τ e) }) else none
      | .lsl n => match blkF s n with
        | some (.row τ l) => bif !ar && Nat.beq es τ.esz then (idxF l i fun _ => k { v := .lel n τ.esz i 0, rd := [n] }) else none
        | _ => none
      | .loc n 0 => match blkF s n with
        | some (.arr τ l) => bif ar && (Nat.beq l.length an && Nat.beq es τ.esz) then (idxF l i fun _ => k { v := .lel n τ.esz i 0, rd := [n] }) else none
        | _ => none
      | _ => none
    | _ => none
noncomputable def idxs (x : Opd) (i : Opd) (R : Nat → List DV → Option DV) (s : St) (k : Eff → Option DV) : Option DV :=
  opdF s x fun x => opdF s i fun i => match x, i with
    | .str b, .int _ i => idxF b.data.toList i fun c => k { v := .int .u8 c.toNat }
    | _, _ => none
noncomputable def idxa (an : Nat) (x : Opd) (i : Opd) (R : Nat → List DV → Option DV) (s : St) (k : Eff → Option DV) : Option DV :=
  opdF s x fun x => opdF s i fun i => match x, i with
    | .arr τ l, .int _ i => bif Nat.beq l.length an then (idxF l i fun e => match enc τ e with
      | [c] => k { v := c }
      | _ => none) else none
    | _, _ => none
noncomputable def sstr (x : Opd) (lo : Option Opd) (hi : Option Opd) (R : Nat → List DV → Option DV) (s : St) (k : Eff → Option DV) : Option DV :=
  opdF s x fun x => opdOF s lo fun lo => opdOF s hi fun hi => match x, optInt lo, optInt hi with
    | .str b, some lo, some hi => cut b.size lo hi fun l h => k { v := .str (extS b l h) }
    | _, _, _ => none
noncomputable def ssl (e : Nat) (x : Opd) (lo : Option Opd) (hi : Option Opd) (R : Nat → List DV → Option DV) (s : St) (k : Eff → Option DV) : Option DV :=
  opdF s x fun x => opdOF s lo fun lo => opdOF s hi fun hi => match x, optInt lo, optInt hi with
    | .sl τ b, some lo, some hi => bif Nat.beq e τ.esz then (cut b.length lo hi fun l h => k { v := .sl τ ((b.take h).drop l) }) else none
    | _, _, _ => none
noncomputable def smv (nm : Nat) (e : Nat) (x : Opd) (lo : Option Opd) (hi : Option Opd) (R : Nat → List DV → Option DV) (s : St) (k : Eff → Option DV) : Option DV :=
  opdF s x fun x => opdOF s lo fun lo => opdOF s hi fun hi => match x, optInt lo, optInt hi with
    | .lsl n, some lo, some hi => match blkF s n with
      | some (.row τ b) => bif Nat.beq nm n && Nat.beq e τ.esz then
          cut b.length lo hi fun l h => k { v := .lsl nm, bl := [(nm, .row τ ((b.take h).drop l))], pg := [n], rd := [n] } else none
      | _ => none
    | _, _, _ => none
noncomputable def len (st : Bool) (x : Opd) (R : Nat → List DV → Option DV) (s : St) (k : Eff → Option DV) : Option DV :=
  opdF s x fun x => match st, x with
    | true, .str b => k { v := .int .i64 b.size }
    | false, .sl _ l => k { v := .int .i64 l.length }
    | false, .nsl _ => k { v := .int .i64 0 }
    | false, .lsl n => match blkF s n with
      | some (.row _ l) => k { v := .int .i64 l.length, rd := [n] }
      | _ => none
    | _, _ => none
noncomputable def ext (x : Opd) (i : Nat) (R : Nat → List DV → Option DV) (s : St) (k : Eff → Option DV) : Option DV :=
  opdF s x fun x => match x with
    | .tup vs => match vs[i]? with
      | some v => k { v }
      | none => none
    | _ => none
noncomputable def call (f : Nat) (args : List Opd) (sh : Sh) (adopt : List Nat) (R : Nat → List DV → Option DV) (s : St) (k : Eff → Option DV) : Option DV :=
  opdsF s args fun vs => match vwl (vw s) vs with
    | some (vs, rd) => bif scOk rd sh then
        callK R f vs sh fun x => k { v := (sh.res x adopt).1, bl := (sh.res x adopt).2, pg := adopt.flatMap (anewF s), rd := adopt ++ rd }
      else none
    | none => none
noncomputable def callv (x : Opd) (args : List Opd) (sh : Sh) (R : Nat → List DV → Option DV) (s : St) (k : Eff → Option DV) : Option DV :=
  opdF s x fun x => opdsF s args fun vs => match x with
    | .fn f caps => match vwl (vw s) (vs ++ caps) with
      | some (vs, rd) => bif scOk rd sh then
          callK R f vs sh fun x => k { v := (sh.res x []).1, rd }
        else none
      | none => none
    | _ => none
noncomputable def append (nm : Nat) (τ : Ty) (x : Opd) (y : Opd) (R : Nat → List DV → Option DV) (s : St) (k : Eff → Option DV) : Option DV :=
  opdF s x fun x => opdF s y fun y => appY s τ x y (appAdd s nm τ x k)
noncomputable def copy (e : Nat) (x : Opd) (y : Opd) (R : Nat → List DV → Option DV) (s : St) (k : Eff → Option DV) : Option DV :=
  opdF s x fun x => opdF s y fun y => match x, y with
    | .lsl n, .sl σ m => match blkF s n with
      | some (.row τ l) => match castL σ τ m with
        | some m => bif Nat.beq m.length l.length && Nat.beq e τ.esz then k { v := .int .i64 m.length, bl := [(n, .row τ m)], rd := [n] } else none
        | none => none
      | _ => none
    | _, _ => none
noncomputable def bslicef (τ : Ty) (l : List (El τ)) (parts : List (Nat × Opd)) (R : Nat → List DV → Option DV) (s : St) (k : Eff → Option DV) : Option DV :=
  opdsF s (parts.map (·.2)) fun vs =>
    match filla τ l ((parts.map (·.1)).zip vs) with
    | some l => k { v := .fsl τ l }
    | none => none
noncomputable def appf (τ : Ty) (x : Opd) (y : Opd) (R : Nat → List DV → Option DV) (s : St) (k : Eff → Option DV) : Option DV :=
  opdF s x fun x => opdF s y fun y => match x with
    | .fsl σ l => match castL σ τ l with
      | some l => appY s τ (.nsl τ) y fun y rd => gd (room τ (l.length + y.length)) (fun _ => k { v := .sl τ (l ++ y), rd })
      | none => none
    | _ => none
noncomputable def mkslice (nm : Nat) (τ : Ty) (z : El τ) (n : Opd) (R : Nat → List DV → Option DV) (s : St) (k : Eff → Option DV) : Option DV :=
  opdF s n fun n => match n with
    | .int _ n => gd (decide (0 ≤ n) && room τ n.toNat) (fun _ => k { v := .lsl nm, bl := [(nm, .row τ (List.replicate n.toNat z))], pg := anewF s nm })
    | _ => none
noncomputable def mkfn (f : Nat) (caps : List Opd) (R : Nat → List DV → Option DV) (s : St) (k : Eff → Option DV) : Option DV :=
  opdsF s caps fun cs => k { v := .fn f cs }
noncomputable def mkmap (nm : Nat) (ag : Bool) (y : Option Opd) (R : Nat → List DV → Option DV) (s : St) (k : Eff → Option DV) : Option DV :=
  opdOF s y fun y => match optInt y with
    | some _ => k { v := .lsl nm, bl := [(nm, .map ag [])], pg := anewF s nm }
    | none => none
noncomputable def mget (ok : Bool) (zero : DV) (ag : Bool) (p : List Nat) (x : Opd) (key : Opd) (R : Nat → List DV → Option DV) (s : St) (k : Eff → Option DV) : Option DV :=
  opdF s x fun x => opdF s key fun key => match x with
    | .lsl n => match blkF s n with
      | some (.map ag' l) => bif ag == ag' then (match keyD ag key with
        | some cs => bif Nat.beq cs.length p.length then (match mfindF p cs l 0 with
          | some o => match zero with
            | .int kd z => (match mInt kd z o with
              | some x => k { v := mgetV ok (.int kd x) o.isSome, rd := [n] }
              | none => none)
            | .bool z => (match mBool z o with
              | some x => k { v := mgetV ok (.bool x) o.isSome, rd := [n] }
              | none => none)
            | _ => none
          | none => none) else none
        | none => none) else none
      | _ => none
    | _ => none
noncomputable def mput (ag : Bool) (p : List Nat) (x : Opd) (key : Opd) (v : Opd) (R : Nat → List DV → Option DV) (s : St) (k : Eff → Option DV) : Option DV :=
  opdF s x fun x => opdF s key fun key => opdF s v fun v => match x with
    | .lsl n => match blkF s n with
      | some (.map ag' l) => bif ag == ag' then (match keyD ag key with
        | some cs => bif Nat.beq cs.length p.length && (cs.all keyC && keyC v) then (match mputL p cs v l with
          | some l => k { v := .skp, bl := [(n, .map ag l)], rd := [n] }
          | none => none) else none
        | none => none) else none
      | _ => none
    | _ => none
end E
noncomputable def effF : DOp → (Nat → List DV → Option DV) → St → (Eff → Option DV) → Option DV :=
  @DOp.rec (fun _ => (Nat → List DV → Option DV) → St → (Eff → Option DV) → Option DV)
    E.mv E.mkrow E.pick E.alloc E.alloca E.box E.build E.builda E.bslice E.load E.loada E.store E.storea E.bini E.binf E.fdiv E.bins E.eqb E.eqa E.not E.neg E.xor E.conv E.i2f E.f2i E.f2bits E.bits2f E.nck E.faddr E.field E.iaddr E.idxs E.idxa E.sstr E.ssl E.smv E.len E.ext E.call E.callv E.append E.copy E.bslicef E.appf E.mkslice E.mkfn E.mkmap E.mget E.mput
theorem effF_eq (R : Nat → List DV → Option DV) (s : St) (op : DOp) (k : Eff → Option DV) : effF op R s k = eff R s op k := by
  cases op
  · show E.mv _ R s k = _; unfold E.mv; simp only [opdF_eq, opdOF_eq, opdsF_eq, blkF_eq, freeF_eq, anewF_eq, at_F_eq, idxF_eq, eqCellsF_eq, mfindF_eq, eqS_eq, appS_eq, extS_eq]; rfl
  · show E.mkrow _ _ R s k = _; unfold E.mkrow; simp only [opdF_eq, opdOF_eq, opdsF_eq, blkF_eq, freeF_eq, anewF_eq, at_F_eq, idxF_eq, eqCellsF_eq, mfindF_eq, eqS_eq, appS_eq, extS_eq]; rfl
  · show E.pick _ _ _ R s k = _; unfold E.pick; simp only [opdF_eq, opdOF_eq, opdsF_eq, blkF_eq, freeF_eq, anewF_eq, at_F_eq, idxF_eq, eqCellsF_eq, mfindF_eq, eqS_eq, appS_eq, extS_eq]; rfl
  · show E.alloc _ _ _ R s k = _; unfold E.alloc; simp only [opdF_eq, opdOF_eq, opdsF_eq, blkF_eq, freeF_eq, anewF_eq, at_F_eq, idxF_eq, eqCellsF_eq, mfindF_eq, eqS_eq, appS_eq, extS_eq]; rfl
  · show E.alloca _ _ _ R s k = _; unfold E.alloca; simp only [opdF_eq, opdOF_eq, opdsF_eq, blkF_eq, freeF_eq, anewF_eq, at_F_eq, idxF_eq, eqCellsF_eq, mfindF_eq, eqS_eq, appS_eq, extS_eq]; rfl
  · show E.box _ _ R s k = _; unfold E.box; simp only [opdF_eq, opdOF_eq, opdsF_eq, blkF_eq, freeF_eq, anewF_eq, at_F_eq, idxF_eq, eqCellsF_eq, mfindF_eq, eqS_eq, appS_eq, extS_eq]; rfl
  · show E.build _ _ R s k = _; unfold E.build; simp only [opdF_eq, opdOF_eq, opdsF_eq, blkF_eq, freeF_eq, anewF_eq, at_F_eq, idxF_eq, eqCellsF_eq, mfindF_eq, eqS_eq, appS_eq, extS_eq]; rfl
  · show E.builda _ _ _ R s k = _; unfold E.builda; simp only [opdF_eq, opdOF_eq, opdsF_eq, blkF_eq, freeF_eq, anewF_eq, at_F_eq, idxF_eq, eqCellsF_eq, mfindF_eq, eqS_eq, appS_eq, extS_eq]; rfl
  · show E.bslice _ _ _ _ R s k = _; unfold E.bslice; simp only [opdF_eq, opdOF_eq, opdsF_eq, blkF_eq, freeF_eq, anewF_eq, at_F_eq, idxF_eq, eqCellsF_eq, mfindF_eq, eqS_eq, appS_eq, extS_eq]; rfl
  · show E.load _ _ R s k = _; unfold E.load; simp only [opdF_eq, opdOF_eq, opdsF_eq, blkF_eq, freeF_eq, anewF_eq, at_F_eq, idxF_eq, eqCellsF_eq, mfindF_eq, eqS_eq, appS_eq, extS_eq]; rfl
  · show E.loada _ _ R s k = _; unfold E.loada; simp only [opdF_eq, opdOF_eq, opdsF_eq, blkF_eq, freeF_eq, anewF_eq, at_F_eq, idxF_eq, eqCellsF_eq, mfindF_eq, eqS_eq, appS_eq, extS_eq]; rfl
  · show E.store _ _ _ R s k = _; unfold E.store; simp only [opdF_eq, opdOF_eq, opdsF_eq, blkF_eq, freeF_eq, anewF_eq, at_F_eq, idxF_eq, eqCellsF_eq, mfindF_eq, eqS_eq, appS_eq, extS_eq]; rfl
  · show E.storea _ _ _ R s k = _; unfold E.storea; simp only [opdF_eq, opdOF_eq, opdsF_eq, blkF_eq, freeF_eq, anewF_eq, at_F_eq, idxF_eq, eqCellsF_eq, mfindF_eq, eqS_eq, appS_eq, extS_eq]; rfl
  · show E.bini _ _ _ R s k = _; unfold E.bini; simp only [opdF_eq, opdOF_eq, opdsF_eq, blkF_eq, freeF_eq, anewF_eq, at_F_eq, idxF_eq, eqCellsF_eq, mfindF_eq, eqS_eq, appS_eq, extS_eq]; rfl
  · show E.binf _ _ _ R s k = _; unfold E.binf; simp only [opdF_eq, opdOF_eq, opdsF_eq, blkF_eq, freeF_eq, anewF_eq, at_F_eq, idxF_eq, eqCellsF_eq, mfindF_eq, eqS_eq, appS_eq, extS_eq]; rfl
  · show E.fdiv _ _ R s k = _; unfold E.fdiv; simp only [opdF_eq, opdOF_eq, opdsF_eq, blkF_eq, freeF_eq, anewF_eq, at_F_eq, idxF_eq, eqCellsF_eq, mfindF_eq, eqS_eq, appS_eq, extS_eq]; rfl
  · show E.bins _ _ _ R s k = _; unfold E.bins; simp only [opdF_eq, opdOF_eq, opdsF_eq, blkF_eq, freeF_eq, anewF_eq, at_F_eq, idxF_eq, eqCellsF_eq, mfindF_eq, eqS_eq, appS_eq, extS_eq]; rfl
  · show E.eqb _ _ _ R s k = _; unfold E.eqb; simp only [opdF_eq, opdOF_eq, opdsF_eq, blkF_eq, freeF_eq, anewF_eq, at_F_eq, idxF_eq, eqCellsF_eq, mfindF_eq, eqS_eq, appS_eq, extS_eq]; rfl
  · show E.eqa _ _ _ _ R s k = _; unfold E.eqa; simp only [opdF_eq, opdOF_eq, opdsF_eq, blkF_eq, freeF_eq, anewF_eq, at_F_eq, idxF_eq, eqCellsF_eq, mfindF_eq, eqS_eq, appS_eq, extS_eq]; rfl
  · show E.not _ R s k = _; unfold E.not; simp only [opdF_eq, opdOF_eq, opdsF_eq, blkF_eq, freeF_eq, anewF_eq, at_F_eq, idxF_eq, eqCellsF_eq, mfindF_eq, eqS_eq, appS_eq, extS_eq]; rfl
  · show E.neg _ R s k = _; unfold E.neg; simp only [opdF_eq, opdOF_eq, opdsF_eq, blkF_eq, freeF_eq, anewF_eq, at_F_eq, idxF_eq, eqCellsF_eq, mfindF_eq, eqS_eq, appS_eq, extS_eq]; rfl
  · show E.xor _ R s k = _; unfold E.xor; simp only [opdF_eq, opdOF_eq, opdsF_eq, blkF_eq, freeF_eq, anewF_eq, at_F_eq, idxF_eq, eqCellsF_eq, mfindF_eq, eqS_eq, appS_eq, extS_eq]; rfl
  · show E.conv _ _ R s k = _; unfold E.conv; simp only [opdF_eq, opdOF_eq, opdsF_eq, blkF_eq, freeF_eq, anewF_eq, at_F_eq, idxF_eq, eqCellsF_eq, mfindF_eq, eqS_eq, appS_eq, extS_eq]; rfl
  · show E.i2f _ R s k = _; unfold E.i2f; simp only [opdF_eq, opdOF_eq, opdsF_eq, blkF_eq, freeF_eq, anewF_eq, at_F_eq, idxF_eq, eqCellsF_eq, mfindF_eq, eqS_eq, appS_eq, extS_eq]; rfl
  · show E.f2i _ _ R s k = _; unfold E.f2i; simp only [opdF_eq, opdOF_eq, opdsF_eq, blkF_eq, freeF_eq, anewF_eq, at_F_eq, idxF_eq, eqCellsF_eq, mfindF_eq, eqS_eq, appS_eq, extS_eq]; rfl
  · show E.f2bits _ R s k = _; unfold E.f2bits; simp only [opdF_eq, opdOF_eq, opdsF_eq, blkF_eq, freeF_eq, anewF_eq, at_F_eq, idxF_eq, eqCellsF_eq, mfindF_eq, eqS_eq, appS_eq, extS_eq]; rfl
  · show E.bits2f _ R s k = _; unfold E.bits2f; simp only [opdF_eq, opdOF_eq, opdsF_eq, blkF_eq, freeF_eq, anewF_eq, at_F_eq, idxF_eq, eqCellsF_eq, mfindF_eq, eqS_eq, appS_eq, extS_eq]; rfl
  · show E.nck _ R s k = _; unfold E.nck; simp only [opdF_eq, opdOF_eq, opdsF_eq, blkF_eq, freeF_eq, anewF_eq, at_F_eq, idxF_eq, eqCellsF_eq, mfindF_eq, eqS_eq, appS_eq, extS_eq]; rfl
  · show E.faddr _ _ R s k = _; unfold E.faddr; simp only [opdF_eq, opdOF_eq, opdsF_eq, blkF_eq, freeF_eq, anewF_eq, at_F_eq, idxF_eq, eqCellsF_eq, mfindF_eq, eqS_eq, appS_eq, extS_eq]; rfl
  · show E.field _ _ _ R s k = _; unfold E.field; simp only [opdF_eq, opdOF_eq, opdsF_eq, blkF_eq, freeF_eq, anewF_eq, at_F_eq, idxF_eq, eqCellsF_eq, mfindF_eq, eqS_eq, appS_eq, extS_eq]; rfl
  · show E.iaddr _ _ _ _ _ R s k = _; unfold E.iaddr; simp only [opdF_eq, opdOF_eq, opdsF_eq, blkF_eq, freeF_eq, anewF_eq, at_F_eq, idxF_eq, eqCellsF_eq, mfindF_eq, eqS_eq, appS_eq, extS_eq]; rfl
  · show E.idxs _ _ R s k = _; unfold E.idxs; simp only [opdF_eq, opdOF_eq, opdsF_eq, blkF_eq, freeF_eq, anewF_eq, at_F_eq, idxF_eq, eqCellsF_eq, mfindF_eq, eqS_eq, appS_eq, extS_eq]; rfl
  · show E.idxa _ _ _ R s k = _; unfold E.idxa; simp only [opdF_eq, opdOF_eq, opdsF_eq, blkF_eq, freeF_eq, anewF_eq, at_F_eq, idxF_eq, eqCellsF_eq, mfindF_eq, eqS_eq, appS_eq, extS_eq]; rfl
  · show E.sstr _ _ _ R s k = _; unfold E.sstr; simp only [opdF_eq, opdOF_eq, opdsF_eq, blkF_eq, freeF_eq, anewF_eq, at_F_eq, idxF_eq, eqCellsF_eq, mfindF_eq, eqS_eq, appS_eq, extS_eq]; rfl
  · show E.ssl _ _ _ _ R s k = _; unfold E.ssl; simp only [opdF_eq, opdOF_eq, opdsF_eq, blkF_eq, freeF_eq, anewF_eq, at_F_eq, idxF_eq, eqCellsF_eq, mfindF_eq, eqS_eq, appS_eq, extS_eq]; rfl
  · show E.smv _ _ _ _ _ R s k = _; unfold E.smv; simp only [opdF_eq, opdOF_eq, opdsF_eq, blkF_eq, freeF_eq, anewF_eq, at_F_eq, idxF_eq, eqCellsF_eq, mfindF_eq, eqS_eq, appS_eq, extS_eq]; rfl
  · show E.len _ _ R s k = _; unfold E.len; simp only [opdF_eq, opdOF_eq, opdsF_eq, blkF_eq, freeF_eq, anewF_eq, at_F_eq, idxF_eq, eqCellsF_eq, mfindF_eq, eqS_eq, appS_eq, extS_eq]; rfl
  · show E.ext _ _ R s k = _; unfold E.ext; simp only [opdF_eq, opdOF_eq, opdsF_eq, blkF_eq, freeF_eq, anewF_eq, at_F_eq, idxF_eq, eqCellsF_eq, mfindF_eq, eqS_eq, appS_eq, extS_eq]; rfl
  · show E.call _ _ _ _ R s k = _; unfold E.call; simp only [opdF_eq, opdOF_eq, opdsF_eq, blkF_eq, freeF_eq, anewF_eq, at_F_eq, idxF_eq, eqCellsF_eq, mfindF_eq, eqS_eq, appS_eq, extS_eq]; rfl
  · show E.callv _ _ _ R s k = _; unfold E.callv; simp only [opdF_eq, opdOF_eq, opdsF_eq, blkF_eq, freeF_eq, anewF_eq, at_F_eq, idxF_eq, eqCellsF_eq, mfindF_eq, eqS_eq, appS_eq, extS_eq]; rfl
  · show E.append _ _ _ _ R s k = _; unfold E.append; simp only [opdF_eq, opdOF_eq, opdsF_eq, blkF_eq, freeF_eq, anewF_eq, at_F_eq, idxF_eq, eqCellsF_eq, mfindF_eq, eqS_eq, appS_eq, extS_eq]; rfl
  · show E.copy _ _ _ R s k = _; unfold E.copy; simp only [opdF_eq, opdOF_eq, opdsF_eq, blkF_eq, freeF_eq, anewF_eq, at_F_eq, idxF_eq, eqCellsF_eq, mfindF_eq, eqS_eq, appS_eq, extS_eq]; rfl
  · show E.bslicef _ _ _ R s k = _; unfold E.bslicef; simp only [opdF_eq, opdOF_eq, opdsF_eq, blkF_eq, freeF_eq, anewF_eq, at_F_eq, idxF_eq, eqCellsF_eq, mfindF_eq, eqS_eq, appS_eq, extS_eq]; rfl
  · show E.appf _ _ _ R s k = _; unfold E.appf; simp only [opdF_eq, opdOF_eq, opdsF_eq, blkF_eq, freeF_eq, anewF_eq, at_F_eq, idxF_eq, eqCellsF_eq, mfindF_eq, eqS_eq, appS_eq, extS_eq]; rfl
  · show E.mkslice _ _ _ _ R s k = _; unfold E.mkslice; simp only [opdF_eq, opdOF_eq, opdsF_eq, blkF_eq, freeF_eq, anewF_eq, at_F_eq, idxF_eq, eqCellsF_eq, mfindF_eq, eqS_eq, appS_eq, extS_eq]; rfl
  · show E.mkfn _ _ R s k = _; unfold E.mkfn; simp only [opdF_eq, opdOF_eq, opdsF_eq, blkF_eq, freeF_eq, anewF_eq, at_F_eq, idxF_eq, eqCellsF_eq, mfindF_eq, eqS_eq, appS_eq, extS_eq]; rfl
  · show E.mkmap _ _ _ R s k = _; unfold E.mkmap; simp only [opdF_eq, opdOF_eq, opdsF_eq, blkF_eq, freeF_eq, anewF_eq, at_F_eq, idxF_eq, eqCellsF_eq, mfindF_eq, eqS_eq, appS_eq, extS_eq]; rfl
  · show E.mget _ _ _ _ _ _ R s k = _; unfold E.mget; simp only [opdF_eq, opdOF_eq, opdsF_eq, blkF_eq, freeF_eq, anewF_eq, at_F_eq, idxF_eq, eqCellsF_eq, mfindF_eq, eqS_eq, appS_eq, extS_eq]; rfl
  · show E.mput _ _ _ _ _ R s k = _; unfold E.mput; simp only [opdF_eq, opdOF_eq, opdsF_eq, blkF_eq, freeF_eq, anewF_eq, at_F_eq, idxF_eq, eqCellsF_eq, mfindF_eq, eqS_eq, appS_eq, extS_eq]; rfl
/-! ### Forced values: `force x k = k x` -/
abbrev K (β : Type) : Type := (β → Option DV) → Option DV
noncomputable def fN (n : Nat) (k : Nat → Option DV) : Option DV := @Nat.rec (fun _ => Option DV) (k 0) (fun m _ => k (Nat.succ m)) n
theorem fN_eq (n : Nat) (k : Nat → Option DV) : fN n k = k n := by cases n <;> rfl
noncomputable def fI : Int → K Int := @Int.rec (fun _ => K Int) (fun m k => fN m fun m => k (.ofNat m)) (fun m k => fN m fun m => k (.negSucc m))
theorem fI_eq (n : Int) (k : Int → Option DV) : fI n k = k n := by
  cases n with
  | ofNat m => exact fN_eq m (fun m => k (.ofNat m))
  | negSucc m => exact fN_eq m (fun m => k (.negSucc m))
noncomputable def fB (b : Bool) (k : Bool → Option DV) : Option DV := @Bool.rec (fun _ => Option DV) (k false) (k true) b
theorem fB_eq (b : Bool) (k : Bool → Option DV) : fB b k = k b := by cases b <;> rfl
noncomputable def fU (u : UInt8) (k : UInt8 → Option DV) : Option DV := fN u.toNat fun n => k (UInt8.ofNat n)
theorem fU_eq (u : UInt8) (k : UInt8 → Option DV) : fU u k = k u := by simp [fU, fN_eq]
/-- a list, its cells forced by f -/
noncomputable def fL {β : Type} (f : β → K β) : List β → K (List β) :=
  @List.rec β (fun _ => K (List β)) (fun k => k []) (fun x _ ih k => f x fun x => ih fun r => k (x :: r))
theorem fL_eq {β : Type} {f : β → K β} (hf : ∀ x k, f x k = k x) (l : List β) (k : List β → Option DV) : fL f l k = k l := by
  induction l generalizing k with
  | nil => rfl
  | cons x l ih => show f x (fun x => fL f l fun r => k (x :: r)) = _; rw [hf, ih]
noncomputable def fS (s : ByteArray) (k : ByteArray → Option DV) : Option DV := fL fU s.data.toList fun l => k ⟨⟨l⟩⟩
theorem fS_eq (s : ByteArray) (k : ByteArray → Option DV) : fS s k = k s := by
  unfold fS; rw [fL_eq fU_eq]
noncomputable def f0 (d : DV) : K DV :=
  @DV.casesOn (fun _ => K DV) d
    (fun k => k .unk) (fun k => k .skp) (fun b k => fB b fun b => k (.bool b)) (fun q n k => fI n fun n => k (.int q n)) (fun b k => fN b fun b => k (.float b)) (fun s k => fS s fun s => k (.str s))
    (fun τ l k => k (.sl τ l)) (fun τ l k => k (.own τ l)) (fun τ k => k (.nsl τ)) (fun τ l k => k (.fsl τ l)) (fun cs k => k (.agg cs)) (fun τ l k => k (.arr τ l)) (fun vs k => k (.tup vs)) (fun cs k => k (.imm cs))
    (fun n o k => fN n fun n => fN o fun o => k (.loc n o)) (fun n e i o k => fI i fun i => fN o fun o => k (.lel n e i o)) (fun n k => k (.lsl n)) (fun f cs k => k (.fn f cs))
theorem f0_eq (d : DV) (k : DV → Option DV) : f0 d k = k d := by
  cases d with
  | bool b => exact fB_eq b (fun b => k (.bool b))
  | int q n => exact fI_eq n (fun n => k (.int q n))
  | float b => exact fN_eq b (fun b => k (.float b))
  | str s => exact fS_eq s (fun s => k (.str s))
  | loc n o => show fN n (fun n => fN o fun o => k (.loc n o)) = _; rw [fN_eq, fN_eq]
  | lel n e i o => show fI i (fun i => fN o fun o => k (.lel n e i o)) = _; rw [fI_eq, fN_eq]
  | _ => rfl
noncomputable def f1 (d : DV) : K DV :=
  @DV.casesOn (fun _ => K DV) d
    (fun k => k .unk) (fun k => k .skp) (fun b k => fB b fun b => k (.bool b)) (fun q n k => fI n fun n => k (.int q n)) (fun b k => fN b fun b => k (.float b)) (fun s k => fS s fun s => k (.str s))
    (fun τ l k => k (.sl τ l)) (fun τ l k => k (.own τ l)) (fun τ k => k (.nsl τ)) (fun τ l k => k (.fsl τ l)) (fun cs k => fL f0 cs fun cs => k (.agg cs)) (fun τ l k => k (.arr τ l)) (fun vs k => k (.tup vs)) (fun cs k => fL f0 cs fun cs => k (.imm cs))
    (fun n o k => fN n fun n => fN o fun o => k (.loc n o)) (fun n e i o k => fI i fun i => fN o fun o => k (.lel n e i o)) (fun n k => k (.lsl n)) (fun f cs k => k (.fn f cs))
theorem f1_eq (d : DV) (k : DV → Option DV) : f1 d k = k d := by
  cases d with
  | bool b => exact fB_eq b (fun b => k (.bool b))
  | int q n => exact fI_eq n (fun n => k (.int q n))
  | float b => exact fN_eq b (fun b => k (.float b))
  | str s => exact fS_eq s (fun s => k (.str s))
  | agg cs => exact fL_eq f0_eq cs (fun cs => k (.agg cs))
  | imm cs => exact fL_eq f0_eq cs (fun cs => k (.imm cs))
  | loc n o => show fN n (fun n => fN o fun o => k (.loc n o)) = _; rw [fN_eq, fN_eq]
  | lel n e i o => show fI i (fun i => fN o fun o => k (.lel n e i o)) = _; rw [fI_eq, fN_eq]
  | _ => rfl
noncomputable def f2 (d : DV) : K DV :=
  @DV.casesOn (fun _ => K DV) d
    (fun k => k .unk) (fun k => k .skp) (fun b k => fB b fun b => k (.bool b)) (fun q n k => fI n fun n => k (.int q n)) (fun b k => fN b fun b => k (.float b)) (fun s k => fS s fun s => k (.str s))
    (fun τ l k => k (.sl τ l)) (fun τ l k => k (.own τ l)) (fun τ k => k (.nsl τ)) (fun τ l k => k (.fsl τ l)) (fun cs k => fL f0 cs fun cs => k (.agg cs)) (fun τ l k => k (.arr τ l)) (fun vs k => fL f1 vs fun vs => k (.tup vs)) (fun cs k => fL f0 cs fun cs => k (.imm cs))
    (fun n o k => fN n fun n => fN o fun o => k (.loc n o)) (fun n e i o k => fI i fun i => fN o fun o => k (.lel n e i o)) (fun n k => k (.lsl n)) (fun f cs k => k (.fn f cs))
theorem f2_eq (d : DV) (k : DV → Option DV) : f2 d k = k d := by
  cases d with
  | bool b => exact fB_eq b (fun b => k (.bool b))
  | int q n => exact fI_eq n (fun n => k (.int q n))
  | float b => exact fN_eq b (fun b => k (.float b))
  | str s => exact fS_eq s (fun s => k (.str s))
  | agg cs => exact fL_eq f0_eq cs (fun cs => k (.agg cs))
  | imm cs => exact fL_eq f0_eq cs (fun cs => k (.imm cs))
  | tup cs => exact fL_eq f1_eq cs (fun cs => k (.tup cs))
  | loc n o => show fN n (fun n => fN o fun o => k (.loc n o)) = _; rw [fN_eq, fN_eq]
  | lel n e i o => show fI i (fun i => fN o fun o => k (.lel n e i o)) = _; rw [fI_eq, fN_eq]
  | _ => rfl
noncomputable def fVal (v : Val) : K Val := @Val.rec (fun _ => K Val) (fun a b c d k => fI a fun a => fN b fun b => fS c fun c => fI d fun d => k ⟨a, b, c, d⟩) v
theorem fVal_eq (v : Val) (k : Val → Option DV) : fVal v k = k v := by
  obtain ⟨a, b, c, d⟩ := v
  show fI a (fun a => fN b fun b => fS c fun c => fI d fun d => k ⟨a, b, c, d⟩) = _
  simp only [fI_eq, fN_eq, fS_eq]
noncomputable def fKey (v : Key) : K Key := @Key.rec (fun _ => K Key) (fun a b k => fS a fun a => fI b fun b => k ⟨a, b⟩) v
theorem fKey_eq (v : Key) (k : Key → Option DV) : fKey v k = k v := by
  obtain ⟨a, b⟩ := v
  show fS a (fun a => fI b fun b => k ⟨a, b⟩) = _
  simp only [fI_eq, fS_eq]
noncomputable def fDsc (v : Dsc) : K Dsc := @Dsc.rec (fun _ => K Dsc) (fun a b c d e f g k => fI a fun a => fVal b fun b => fVal c fun c => fVal d fun d => fB e fun e => fB f fun f => fB g fun g => k ⟨a, b, c, d, e, f, g⟩) v
theorem fDsc_eq (v : Dsc) (k : Dsc → Option DV) : fDsc v k = k v := by
  obtain ⟨a, b, c, d, e, f, g⟩ := v
  show fI a (fun a => fVal b fun b => fVal c fun c => fVal d fun d => fB e fun e => fB f fun f => fB g fun g => k ⟨a, b, c, d, e, f, g⟩) = _
  simp only [fI_eq, fVal_eq, fB_eq]
noncomputable def fPrp (v : Prp) : K Prp := @Prp.rec (fun _ => K Prp) (fun a b k => fKey a fun a => fDsc b fun b => k ⟨a, b⟩) v
theorem fPrp_eq (v : Prp) (k : Prp → Option DV) : fPrp v k = k v := by
  obtain ⟨a, b⟩ := v
  show fKey a (fun a => fDsc b fun b => k ⟨a, b⟩) = _
  simp only [fKey_eq, fDsc_eq]
noncomputable def fObj (v : Obj) : K Obj := @Obj.rec (fun _ => K Obj) (fun a b c l d e f g h k => fI a fun a => fVal b fun b => fB c fun c => fVal d fun d => fVal e fun e => fS f fun f => fB g fun g => fB h fun h => k ⟨a, b, c, l, d, e, f, g, h⟩) v
theorem fObj_eq (v : Obj) (k : Obj → Option DV) : fObj v k = k v := by
  obtain ⟨a, b, c, l, d, e, f, g, h⟩ := v
  show fI a (fun a => fVal b fun b => fB c fun c => fVal d fun d => fVal e fun e => fS f fun f => fB g fun g => fB h fun h => k ⟨a, b, c, l, d, e, f, g, h⟩) = _
  simp only [fI_eq, fVal_eq, fB_eq, fS_eq]
noncomputable def fEl (τ : Ty) : El τ → K (El τ) := @Ty.rec (fun τ => El τ → K (El τ)) fI fU fB fS fVal fKey fPrp fObj (fun x k => k x) τ
theorem fEl_eq (τ : Ty) (x : El τ) (k : El τ → Option DV) : fEl τ x k = k x := by
  cases τ with
  | int => exact fI_eq x k
  | bool => exact fB_eq x k
  | byte => exact fU_eq x k
  | str => exact fS_eq x k
  | val => exact fVal_eq x k
  | key => exact fKey_eq x k
  | prp => exact fPrp_eq x k
  | obj => exact fObj_eq x k
  | seen => rfl
noncomputable def fBlk (b : Blk) : K Blk :=
  @Blk.rec (fun _ => K Blk) (fun cs k => fL f1 cs fun cs => k (.box cs)) (fun τ l k => fL (fEl τ) l fun l => k (.row τ l)) (fun τ l k => fL (fEl τ) l fun l => k (.arr τ l))
    (fun ag l k => fL (fun x k => fL f0 x.1 fun a => f0 x.2 fun b => k (a, b)) l fun l => k (.map ag l)) (fun k => k .gone) b
theorem fBlk_eq (b : Blk) (k : Blk → Option DV) : fBlk b k = k b := by
  cases b with
  | box cs => exact fL_eq f1_eq cs (fun cs => k (.box cs))
  | row τ l => exact fL_eq (fEl_eq τ) l (fun l => k (.row τ l))
  | arr τ l => exact fL_eq (fEl_eq τ) l (fun l => k (.arr τ l))
  | map ag l => exact fL_eq (f := fun x k => fL f0 x.1 fun a => f0 x.2 fun b => k (a, b)) (fun x k => by rw [fL_eq f0_eq, f0_eq]) l (fun l => k (.map ag l))
  | gone => rfl
noncomputable def fBl : List (Nat × Blk) → K (List (Nat × Blk)) := fL (fun x k => fBlk x.2 fun b => k (x.1, b))
theorem fBl_eq (l : List (Nat × Blk)) (k : List (Nat × Blk) → Option DV) : fBl l k = k l := fL_eq (fun x k => by rw [fBlk_eq]) l k
noncomputable def putF (dst : Option Nat) (v : DV) (env : List (Nat × DV)) : List (Nat × DV) := @Option.rec Nat (fun _ => List (Nat × DV)) env (fun d => (d, v) :: env) dst
noncomputable def onP (s : St) (pg : List Nat) (k : St → Option DV) : Option DV :=
  @List.rec Nat (fun _ => Option DV) (k s) (fun _ _ _ => @St.rec (fun _ => Option DV) (fun env sto => fL (fun x k => f2 x.2 fun v => k (x.1, v)) env fun env => fBl sto fun sto => k ⟨env, sto⟩) (purge pg s)) pg
theorem onP_eq (s : St) (pg : List Nat) (k : St → Option DV) : onP s pg k = k (match pg with | [] => s | l => purge l s) := by
  cases pg with
  | nil => rfl
  | cons p pg =>
    show @St.rec (fun _ => Option DV) (fun env sto => fL (fun x k => f2 x.2 fun v => k (x.1, v)) env fun env => fBl sto fun sto => k ⟨env, sto⟩) (purge (p :: pg) s) = _
    show _ = k (purge (p :: pg) s)
    cases purge (p :: pg) s with
    | mk env sto =>
      show fL (fun x k => f2 x.2 fun v => k (x.1, v)) env (fun env => fBl sto fun sto => k ⟨env, sto⟩) = _
      rw [fL_eq (fun x k => by rw [f2_eq]), fBl_eq]
/-- The state behind an effect, its parts laid open. -/
noncomputable def onF (e : Eff) (s : St) (dst : Option Nat) (k : St → Option DV) : Option DV :=
  @Eff.rec (fun _ => Option DV) (fun v bl pg _ => f2 v fun v => fBl bl fun bl => onP s pg fun s => @St.rec (fun _ => Option DV) (fun env sto => k ⟨putF dst v env, appF bl sto⟩) s) e
theorem onF_eq (e : Eff) (s : St) (dst : Option Nat) (k : St → Option DV) : onF e s dst k = k ((e.on s).put dst e.v) := by
  obtain ⟨v, bl, pg, rd⟩ := e
  show f2 v (fun v => fBl bl fun bl => onP s pg fun s => @St.rec (fun _ => Option DV) (fun env sto => k ⟨putF dst v env, appF bl sto⟩) s) = _
  simp only [f2_eq, fBl_eq, appF_eq, onP_eq]
  cases pg with
  | nil => cases s; cases dst <;> rfl
  | cons p pg =>
    show @St.rec (fun _ => Option DV) (fun env sto => k ⟨putF dst v env, bl ++ sto⟩) (purge (p :: pg) s) = k (St.put (Eff.on ⟨v, bl, p :: pg, rd⟩ s) dst v)
    have e : Eff.on ⟨v, bl, p :: pg, rd⟩ s = { purge (p :: pg) s with sto := bl ++ (purge (p :: pg) s).sto } := rfl
    rw [e]
    cases purge (p :: pg) s; cases dst <;> rfl
noncomputable def runOpsF (R : Nat → List DV → Option DV) (l : List DO) : St → (St → Option DV) → Option DV :=
  @List.rec DO (fun _ => St → (St → Option DV) → Option DV) (fun s k => k s)
    (fun o _ ih s k => wantK s o.g (fun s => effF o.op R s fun e => onF e s o.dst fun s => ih s k) (fun s => ih (s.put o.dst .skp) k)) l
theorem runOpsF_eq (R : Nat → List DV → Option DV) (l : List DO) (s : St) (k : St → Option DV) : runOpsF R l s k = runOps R l s k := by
  induction l generalizing s with
  | nil => rfl
  | cons o r ih =>
    show wantK s o.g (fun s => effF o.op R s fun e => onF e s o.dst fun s => runOpsF R r s k) (fun s => runOpsF R r (s.put o.dst .skp) k) = _
    simp only [effF_eq, onF_eq, ih, runOps]
noncomputable def runOpsDF (R : Nat → List DV → Option DV) (l : List DO) : Nat → St → List Tr → (St → List Tr → Option DV) → Option DV :=
  @List.rec DO (fun _ => Nat → St → List Tr → (St → List Tr → Option DV) → Option DV) (fun _ s acc k => k s acc)
    (fun o _ ih i s acc k => wantK s o.g (fun s => effF o.op R s fun e => onF e s o.dst fun s => ih (i + 1) s (⟨i, e.bl.map (·.1), e.rd, !e.pg.isEmpty⟩ :: acc) k) (fun s => ih (i + 1) (s.put o.dst .skp) (⟨i, [], [], false⟩ :: acc) k)) l
theorem runOpsDF_eq (R : Nat → List DV → Option DV) (l : List DO) (i : Nat) (s : St) (acc : List Tr) (k : St → List Tr → Option DV) : runOpsDF R l i s acc k = runOpsD R i l s acc k := by
  induction l generalizing i s acc with
  | nil => rfl
  | cons o r ih =>
    show wantK s o.g (fun s => effF o.op R s fun e => onF e s o.dst fun s => runOpsDF R r (i + 1) s (⟨i, e.bl.map (·.1), e.rd, !e.pg.isEmpty⟩ :: acc) k) (fun s => runOpsDF R r (i + 1) (s.put o.dst .skp) (⟨i, [], [], false⟩ :: acc) k) = _
    simp only [effF_eq, onF_eq, ih, runOpsD]
/-! What is kept, its lists laid open. -/
noncomputable def sp {β : Type} (l : List β) : K (List β) := fL (fun x k => k x) l
theorem sp_eq {β : Type} (l : List β) (k : List β → Option DV) : sp l k = k l := fL_eq (fun _ _ => rfl) l k
noncomputable def keepKF (K S : List Nat) (s : St) (k : St → Option DV) : Option DV :=
  sp (keepEnv s K) fun env => sp (keepSto s S) fun sto => bif St.closed ⟨env, sto⟩ then k ⟨env, sto⟩ else none
theorem keepKF_eq (K S : List Nat) (s : St) (k : St → Option DV) : keepKF K S s k = keepK K S s k := by
  simp only [keepKF, sp_eq, keepK]
noncomputable def kItF (next : St → (Ex → St → Option DV) → Option DV) (K S : List Nat) (k : Ex → St → Option DV) : Ex → St → Option DV := fun e s =>
  match e with
  | .nrm => keepKF K S s fun s => next s k
  | .ex i => k (.ex i) s
  | .ret => k .ret s
theorem kItF_eq {next next' : St → (Ex → St → Option DV) → Option DV} (h : ∀ s k, next s k = next' s k) (K S : List Nat) (k : Ex → St → Option DV) : kItF next K S k = kIt next' K S k := by
  funext e s
  cases e with
  | nrm => simp only [kItF, kIt, keepKF_eq, h]
  | ex i => rfl
  | ret => rfl
noncomputable def iterF (body : St → (Ex → St → Option DV) → Option DV) (K S : List Nat) (m : Nat) : St → (Ex → St → Option DV) → Option DV :=
  @Nat.rec (fun _ => St → (Ex → St → Option DV) → Option DV) (fun _ _ => none) (fun _ ih s k => body s (kItF ih K S k)) m
theorem iterF_eq {body body' : St → (Ex → St → Option DV) → Option DV} (h : ∀ s k, body s k = body' s k) (K S : List Nat) (m : Nat) (s : St) (k : Ex → St → Option DV) : iterF body K S m s k = iter body' K S m s k := by
  induction m generalizing s k with
  | zero => rfl
  | succ m ih =>
    show body s (kItF (iterF body K S m) K S k) = body' s (kIt (iter body' K S m) K S k)
    rw [h, kItF_eq ih]
noncomputable def runCF (R : Nat → List DV → Option DV) (m : Nat) (c : DC) : St → (Ex → St → Option DV) → Option DV :=
  @DC.rec (fun _ => St → (Ex → St → Option DV) → Option DV)
    (fun s k => k .nrm s)
    (fun s k => k .ret s)
    (fun id s k => k (.ex id) s)
    (fun l s k => runOpsF R l s fun s => k .nrm s)
    (fun l b s k => runOpsDF R l 0 s [] fun s tr => bif okAll b tr then k .nrm s else none)
    (fun _ _ iha ihb s k => iha s (kSeq ihb k))
    (fun c _ _ ihx ihy s k => opdF s c fun v => match v with
      | .bool b => bif b then ihx s k else ihy s k
      | _ => none)
    (fun id _ ih s k => ih s (kBlock id k))
    (fun K S _ ih s k => keepKF K S s fun s => iterF ih K S m s k)
    (fun K S _ ih s k => keepKF K S s fun s => ih s k)
    (fun _ ih s k => ih s k)
    (fun l K S _ ih s k => runOpsF R l s fun s => keepKF K S s fun s => ih s k)
    (fun x d ts s k => runSet s x d ts fun s => @St.rec (fun _ => Option DV) (fun env sto => sp env fun env => fBl sto fun sto => k .nrm ⟨env, sto⟩) s)
    c
theorem runCF_eq (R : Nat → List DV → Option DV) (m : Nat) (c : DC) (s : St) (k : Ex → St → Option DV) : runCF R m c s k = runC R m c s k := by
  induction c generalizing s k with
  | skip => rfl
  | ret => rfl
  | exit id => rfl
  | ops l => exact runOpsF_eq R l s _
  | draw l b => exact runOpsDF_eq R l 0 s [] _
  | seq a b iha ihb =>
    show runCF R m a s (kSeq (runCF R m b) k) = runC R m a s (kSeq (runC R m b) k)
    have : runCF R m b = runC R m b := funext fun s => funext fun k => ihb s k
    rw [this]; exact iha s _
  | cond c x y ihx ihy =>
    show (opdF s c fun v => match v with | .bool b => bif b then runCF R m x s k else runCF R m y s k | _ => none) = _
    simp only [ihx, ihy, opdF_eq]; rfl
  | block id b ih => exact ih s _
  | loop K S b ih =>
    show keepKF K S s (fun s => iterF (runCF R m b) K S m s k) = _
    simp only [keepKF_eq, iterF_eq ih, runC]
  | kp K S x ih =>
    show keepKF K S s (fun s => runCF R m x s k) = _
    simp only [keepKF_eq, ih, runC]
  | sc x ih => exact ih s k
  | opsc l K S x ih =>
    show runOpsF R l s (fun s => keepKF K S s fun s => runCF R m x s k) = _
    simp only [runOpsF_eq, keepKF_eq, ih, runC]
  | rset x d ts =>
    show runSet s x d ts (fun s => @St.rec (fun _ => Option DV) (fun env sto => sp env fun env => fBl sto fun sto => k .nrm ⟨env, sto⟩) s) = runSet s x d ts fun s => k .nrm s
    have : (fun s : St => @St.rec (fun _ => Option DV) (fun env sto => sp env fun env => fBl sto fun sto => k .nrm ⟨env, sto⟩) s) = fun s => k .nrm s := by
      funext s
      cases s with
      | mk env sto =>
        show sp env (fun env => fBl sto fun sto => k .nrm ⟨env, sto⟩) = _
        rw [sp_eq, fBl_eq]
    rw [this]
noncomputable def fRes (o : Option DV) (k : Option DV → Option DV) : Option DV := match o with | some v => f2 v fun v => k (some v) | none => k none
noncomputable def runFF (D : Nat → Option Fn) (n : Nat) : Nat → List DV → Option DV :=
  @Nat.rec (fun _ => Nat → List DV → Option DV) (fun _ _ => none)
    (fun n ih f args => match D f with
      | some (.code fd) => bif Nat.beq args.length fd.np then fL f2 args fun args => runCF ih n fd.body ⟨numbered 0 args, []⟩ (kFin fd.res) else none
      | some (.prim p) => p args
      | none => none) n
theorem runFF_eq (D : Nat → Option Fn) (n f : Nat) (args : List DV) : runFF D n f args = runF D n f args := by
  induction n generalizing f args with
  | zero => rfl
  | succ n ih =>
    have e : runFF D n = runF D n := funext fun f => funext fun a => ih f a
    show (match D f with
      | some (.code fd) => bif Nat.beq args.length fd.np then fL f2 args fun args => runCF (runFF D n) n fd.body ⟨numbered 0 args, []⟩ (kFin fd.res) else none
      | some (.prim p) => p args
      | none => none) = _
    rw [e]
    simp only [fL_eq f2_eq, runCF_eq]; rfl
end Bz

