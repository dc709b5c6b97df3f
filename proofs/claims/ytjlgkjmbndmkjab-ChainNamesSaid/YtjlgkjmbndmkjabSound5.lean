/- Operands; operations that only reckon. -/
import Derived.Test.YtjlgkjmbndmkjabSound4
import GoSem.Dispatch
import Derived.Laws.IdiomCopy
set_option linter.all false
set_option linter.unusedVariables false
namespace Bz
open Go Go.RowKit

theorem kindEq_eq {a b : IntKind} (h : kindEq a b = true) : a = b := by cases a <;> cases b <;> simp_all [kindEq]

section
variable {w : World} {G : Nat → Prop} {φ : Nat → Option Value} {ren : Nat → Option Nat} {v : Value}
theorem RV.bool_inv {b : Bool} (h : RV w G φ ren v (.bool b)) : v = .bool b := by cases h; rfl
theorem RV.int_inv {k : IntKind} {n : Int} (h : RV w G φ ren v (.int k n)) : v = .int k n := by cases h; rfl
theorem RV.float_inv {b : Nat} (h : RV w G φ ren v (.float b)) : ∃ b', v = .float .f64 b' ∧ feq b b' := by cases h; exact ⟨_, rfl, ‹_›⟩
theorem RV.str_inv {b : ByteArray} (h : RV w G φ ren v (.str b)) : v = .string b := by cases h; rfl
theorem RV.skp_inv (h : RV w G φ ren v .skp) : v = undef := by cases h; rfl
theorem RV.agg_inv {cs : List DV} (h : RV w G φ ren v (.agg cs)) : ∃ arr, v = .agg arr ∧ RVs w G φ ren arr.toList cs := by
  cases h; exact ⟨_, rfl, ‹_›, ‹_›, ‹_›⟩
theorem RV.tup_inv {cs : List DV} (h : RV w G φ ren v (.tup cs)) : ∃ arr, v = .tuple arr ∧ arr.toList.length = cs.length ∧ ∀ (j : Nat) (v : Value) (d : DV), arr.toList[j]? = some v → cs[j]? = some d → RV w G φ ren v d := by
  cases h; exact ⟨_, rfl, ‹_›, ‹_›⟩
theorem RV.arr_inv {τ : Ty} {l : List (El τ)} (h : RV w G φ ren v (.arr τ l)) : ∃ arr, v = .agg arr ∧ RVs w G φ ren arr.toList (l.flatMap (enc τ)) := by
  cases h; exact ⟨_, rfl, ‹_›, ‹_›, ‹_›⟩
theorem RV.pick {u v : Value} {x y : DV} {c : Bool} (h : RV w G φ ren u x) (k : RV w G φ ren v y) : RV w G φ ren (if c then u else v) (pickV c x y) := by
  have gen : RV w G φ ren (if c then u else v) (bif c then x else y) := by
    cases c
    · exact k
    · exact h
  cases x with
  | bool p =>
    cases y with
    | bool q => rw [h.bool_inv, k.bool_inv]; cases c <;> exact .bool _
    | _ => exact gen
  | _ => exact gen
theorem NamesOk.pick {f : Nat → Prop} {x y : DV} {c : Bool} (h : NamesOk f x) (k : NamesOk f y) : NamesOk f (pickV c x y) := by
  have gen : NamesOk f (bif c then x else y) := by
    cases c
    · exact k
    · exact h
  cases x with
  | bool p =>
    cases y with
    | bool q => exact .bool _
    | _ => exact gen
  | _ => exact gen
end

/-! ### Looks at the program -/
def szOk (P : Program) (t : TypeId) (n : Nat) : Bool :=
  match P.info? t with
  | some i => Nat.beq i.size n
  | none => false
def byOk (P : Program) (t : TypeId) (n : Nat) : Bool :=
  match P.info? t with
  | some i => Nat.beq i.bytes n
  | none => false
def isAggD : TypeDesc → Bool
  | .struct _ | .array _ _ => true
  | _ => false
def aggOk (P : Program) (t : TypeId) (b : Bool) : Bool :=
  match P.underlying t with
  | some d => isAggD d == b
  | none => false
section
variable {P : Program} {w : World} {t : TypeId}
theorem run_typeInfo' {i : TypeInfo} (h : P.info? t = some i) : (typeInfo t).run P w = .ok i w := by simp [typeInfo, h]
theorem run_und {d : TypeDesc} (h : P.underlying t = some d) : (underlying t).run P w = .ok d w := by simp [underlying, h]
theorem szOk_get {n : Nat} (h : szOk P t n = true) : ∃ i, P.info? t = some i ∧ i.size = n := by
  unfold szOk at h
  split at h
  · exact ⟨_, ‹_›, Nat.eq_of_beq_eq_true h⟩
  · cases h
theorem byOk_get {n : Nat} (h : byOk P t n = true) : ∃ i, P.info? t = some i ∧ i.bytes = n := by
  unfold byOk at h
  split at h
  · exact ⟨_, ‹_›, Nat.eq_of_beq_eq_true h⟩
  · cases h
theorem run_sz {n : Nat} (h : szOk P t n = true) : (Go.sizeOf t).run P w = .ok n w := by
  obtain ⟨i, hi, rfl⟩ := szOk_get h
  simp [Go.sizeOf, run_typeInfo' hi]
theorem aggOk_get {b : Bool} (h : aggOk P t b = true) : ∃ d, P.underlying t = some d ∧ isAggD d = b := by
  unfold aggOk at h
  split at h
  · exact ⟨_, ‹_›, by simpa using h⟩
  · cases h
theorem run_agg {b : Bool} (h : aggOk P t b = true) : (isAgg t).run P w = .ok b w := by
  obtain ⟨d, hd, rfl⟩ := aggOk_get h
  cases d <;> simp [isAgg, run_und hd, isAggD]
end

/-! ### Constants and operands -/
def constOk : Value → DV → Bool
  | .bool a, .bool b => a == b
  | .int k a, .int k' b => kindEq k k' && a == b
  | .float .f64 a, .float b => Nat.beq a b
  | .string s, .str t => s.data.toList == t.data.toList
  | .slice none 0 0, .nsl _ => true
  | .slice none 0 0, .sl _ [] => true
  | _, _ => false
theorem constOk_rv {v : Value} {d : DV} (h : constOk v d = true) {w : World} {G : Nat → Prop} {φ : Nat → Option Value} {ren : Nat → Option Nat} (f : Nat → Prop) :
    RV w G φ ren v d ∧ NamesOk f d ∧ v.oneCell' = true := by
  unfold constOk at h
  split at h
  · rename_i a b; obtain rfl : a = b := by simpa using h
    exact ⟨.bool _, .bool _, rfl⟩
  · rename_i k a k' b
    simp only [Bool.and_eq_true] at h
    obtain rfl := kindEq_eq h.1
    obtain rfl : a = b := by simpa using h.2
    exact ⟨.int _ _, .int _ _, rfl⟩
  · rename_i a b; obtain rfl : a = b := Nat.eq_of_beq_eq_true h
    exact ⟨.float (.inl rfl), .float _, rfl⟩
  · rename_i a b
    have e : a = b := by
      have h' : a.data.toList = b.data.toList := by simpa using h
      cases a; cases b; simp only [ByteArray.mk.injEq]; exact Array.ext' h'
    subst e
    exact ⟨.str _, .str _, rfl⟩
  · exact ⟨.nsl _ _, .nsl _, rfl⟩
  · exact ⟨.sl (fun _ => []) rfl (Nat.le_refl _) (by simp) (by simp) (by simp) (by simp), .sl _ _, rfl⟩
  · cases h
def opdOk (ren : Nat → Option Nat) : Operand → Opd → Bool
  | .tmp t, .t n => Nat.beq t n
  | .const v, .c d => constOk v d
  | .func f, .c (.fn g []) => match ren g with
    | some f' => Nat.beq f f'
    | none => false
  | _, _ => false
def opdsOk (ren : Nat → Option Nat) : List Operand → List Opd → Bool
  | [], [] => true
  | x :: r, y :: l => opdOk ren x y && opdsOk ren r l
  | _, _ => false

/-- what holds of an operand's value -/
structure Op1 (ren : Nat → Option Nat) (A : Nat → Prop) (b0 : Nat) (φ : Nat → Option Value) (s : St) (w : World) (v : Value) (d : DV) : Prop where
  rv : RV w (Gd A b0 s φ w) φ ren v d
  nm : NamesOk (Bnd s) d

section
variable {ren : Nat → Option Nat} {A : Nat → Prop} {b0 : Nat} {w0 : World} {N : Nat} {φ : Nat → Option Value} {s : St} {a : Act} {w : World}

theorem opd_sound (h : Rel ren A b0 w0 N φ s a w) {x : Operand} {y : Opd} (hc : opdOk ren x y = true) {k : DV → Option DV} {r : DV} (hk : opd s y k = some r) :
    ∃ d, k d = some r ∧ Op1 ren A b0 φ s w (a.eval x) d := by
  unfold opdOk at hc
  split at hc
  · rename_i t n
    obtain rfl := Nat.eq_of_beq_eq_true hc
    simp only [opd] at hk
    cases hl : look s.env t with
    | none => simp [hl] at hk
    | some d => simp only [hl] at hk; exact ⟨d, hk, h.env t d hl, h.nm t d hl⟩
  · rename_i v d
    have := constOk_rv hc (w := w) (G := Gd A b0 s φ w) (φ := φ) (ren := ren) (Bnd s)
    exact ⟨d, hk, this.1, this.2.1⟩
  · rename_i f g
    split at hc
    · rename_i f' hf
      obtain rfl := Nat.eq_of_beq_eq_true hc
      exact ⟨_, hk, .fn hf rfl (by simp), .fn _ (by simp)⟩
    · cases hc
  · cases hc

/-- A list of operands. -/
inductive OpL (ren : Nat → Option Nat) (A : Nat → Prop) (b0 : Nat) (φ : Nat → Option Value) (s : St) (w : World) : List Value → List DV → Prop
  | nil : OpL ren A b0 φ s w [] []
  | cons {v : Value} {d : DV} {vs : List Value} {ds : List DV} : Op1 ren A b0 φ s w v d → OpL ren A b0 φ s w vs ds → OpL ren A b0 φ s w (v :: vs) (d :: ds)
theorem opds_sound (h : Rel ren A b0 w0 N φ s a w) {xs : List Operand} {ys : List Opd} (hc : opdsOk ren xs ys = true) {k : List DV → Option DV} {r : DV} (hk : opds s ys k = some r) :
    ∃ ds, k ds = some r ∧ OpL ren A b0 φ s w (xs.map a.eval) ds := by
  induction xs generalizing ys k with
  | nil => cases ys with
    | nil => exact ⟨[], hk, .nil⟩
    | cons y ys => simp [opdsOk] at hc
  | cons x xs ih => cases ys with
    | nil => simp [opdsOk] at hc
    | cons y ys =>
      simp only [opdsOk, Bool.and_eq_true] at hc
      simp only [opds] at hk
      obtain ⟨d, hk, h1⟩ := opd_sound h hc.1 hk
      obtain ⟨ds, hk, h2⟩ := ih hc.2 hk
      exact ⟨d :: ds, hk, .cons h1 h2⟩

/-- What is asked of an operation: where it comes to. -/
def Nx (ren : Nat → Option Nat) (A : Nat → Prop) (b0 : Nat) (w0 : World) (N : Nat) (s : St) (a : Act) (k : Eff → Option DV) (r : DV) (next : Value → World → Prop) : Prop :=
  ∀ v w' e φ', k e = some r → Rel ren A b0 w0 N φ' (e.on s) a w' → Op1 ren A b0 φ' (e.on s) w' v e.v → next v w'

theorem Nx.pure {k : Eff → Option DV} {r : DV} {next : Value → World → Prop} (hx : Nx ren A b0 w0 N s a k r next) {v : Value} {d : DV} {rd : List Nat}
    (hk : k { v := d, rd } = some r) (h : Rel ren A b0 w0 N φ s a w) (h1 : Op1 ren A b0 φ s w v d) : next v w :=
  hx v w _ φ hk h h1

variable {P : Program} {o : Oper} {nxt : Act → World → Prop} {Q : Exit → Act → World → Prop}
theorem wp_val {v : Value} {w' : World} (hr : (execOp a.eval o).run P w = .ok (.value v) w') (hn : nxt (a.put o.dst v) w') : o.wp P a w nxt Q := by
  unfold Oper.wp; rw [hr]; exact hn
theorem wp_skp {w' : World} (hr : (execOp a.eval o).run P w = .ok .skip w') (hn : nxt (a.put o.dst undef) w') : o.wp P a w nxt Q := by
  unfold Oper.wp; rw [hr]; exact hn

/-! #### moves and picks -/
theorem s_mv {x : Operand} {y : Opd} {k : Eff → Option DV} {r : DV} {R : Nat → List DV → Option DV} (ho : o.op = .move x ∨ o.op = .assign x) (hc : opdOk ren x y = true)
    (h : Rel ren A b0 w0 N φ s a w) (hk : eff R s (.mv y) k = some r) (hx : Nx ren A b0 w0 N s a k r fun v w' => nxt (a.put o.dst v) w') : o.wp P a w nxt Q := by
  simp only [eff] at hk
  obtain ⟨d, hk, h1⟩ := opd_sound h hc hk
  refine wp_val (v := a.eval x) (w' := w) ?_ (hx.pure hk h h1)
  rcases ho with ho | ho <;> simp [execOp, ho]
theorem s_pick {c x y : Operand} {c' x' y' : Opd} {k : Eff → Option DV} {r : DV} {R : Nat → List DV → Option DV} (ho : o.op = .pick c x y)
    (hc : (opdOk ren c c' && (opdOk ren x x' && opdOk ren y y')) = true)
    (h : Rel ren A b0 w0 N φ s a w) (hk : eff R s (.pick c' x' y') k = some r) (hx : Nx ren A b0 w0 N s a k r fun v w' => nxt (a.put o.dst v) w') : o.wp P a w nxt Q := by
  simp only [Bool.and_eq_true] at hc
  simp only [eff] at hk
  replace ⟨dc, hk, h1⟩ := opd_sound h hc.1 hk
  replace ⟨dx, hk, h2⟩ := opd_sound h hc.2.1 hk
  replace ⟨dy, hk, h3⟩ := opd_sound h hc.2.2 hk
  split at hk
  · rename_i b
    exact wp_val (v := if b then a.eval x else a.eval y) (w' := w) (by simp [execOp, ho, h1.rv.bool_inv, asBool]) (hx.pure hk h ⟨h2.rv.pick h3.rv, h2.nm.pick h3.nm⟩)
  · cases hk

/-! #### integers -/
theorem s_bini {op : BinOp} {t t' : TypeId} {x y : Operand} {x' y' : Opd} {k : Eff → Option DV} {r : DV} {R : Nat → List DV → Option DV} (ho : o.op = .binOp op t x y t')
    (hc : (opdOk ren x x' && opdOk ren y y') = true)
    (h : Rel ren A b0 w0 N φ s a w) (hk : eff R s (.bini op x' y') k = some r) (hx : Nx ren A b0 w0 N s a k r fun v w' => nxt (a.put o.dst v) w') : o.wp P a w nxt Q := by
  simp only [Bool.and_eq_true] at hc
  simp only [eff] at hk
  replace ⟨dx, hk, h1⟩ := opd_sound h hc.1 hk
  replace ⟨dy, hk, h2⟩ := opd_sound h hc.2 hk
  split at hk
  · rename_i i m j n
    have ex := h1.rv.int_inv
    have ey := h2.rv.int_inv
    cases hij : kindEq i j with
    | false => simp [hij] at hk
    | true =>
      obtain rfl := kindEq_eq hij
      simp only [hij, cond_true] at hk
      have g : ∀ op, (eqGuard op t x y (.int i m) (.int i n)).run P w = .ok () w := by intro op; cases op <;> simp [eqGuard]
      cases op <;> simp only [gd, ibits, icmp] at hk
      case quo =>
        cases hn : (n != 0) with
        | false => simp [hn] at hk
        | true =>
          have hn' : n ≠ 0 := by simpa using hn
          simp only [hn, cond_true] at hk
          exact wp_val (v := .int i (i.wrap (m.tdiv n))) (w' := w) (by simp [execOp, ho, ex, ey, g, binOp, Op.intDiv, hn']) (hx.pure hk h ⟨.int _ _, .int _ _⟩)
      case rem =>
        cases hn : (n != 0) with
        | false => simp [hn] at hk
        | true =>
          have hn' : n ≠ 0 := by simpa using hn
          simp only [hn, cond_true] at hk
          exact wp_val (v := .int i (m.tmod n)) (w' := w) (by simp [execOp, ho, ex, ey, g, binOp, Op.intDiv, hn']) (hx.pure hk h ⟨.int _ _, .int _ _⟩)
      case shl => cases hk
      case shr => cases hk
      case add => exact wp_val (v := .int i (i.wrap (m + n))) (w' := w) (by simp [execOp, ho, ex, ey, g, binOp, Op.intArith]) (hx.pure hk h ⟨.int _ _, .int _ _⟩)
      case sub => exact wp_val (v := .int i (i.wrap (m - n))) (w' := w) (by simp [execOp, ho, ex, ey, g, binOp, Op.intArith]) (hx.pure hk h ⟨.int _ _, .int _ _⟩)
      case mul => exact wp_val (v := .int i (i.wrap (m * n))) (w' := w) (by simp [execOp, ho, ex, ey, g, binOp, Op.intArith]) (hx.pure hk h ⟨.int _ _, .int _ _⟩)
      case and => exact wp_val (v := .int i (i.wrap (BitVec.ofInt i.bits m &&& BitVec.ofInt i.bits n).toNat)) (w' := w) (by simp only [execOp, ho, ex, ey, binOp, Op.intBits]; simp [g]) (hx.pure hk h ⟨.int _ _, .int _ _⟩)
      case or => exact wp_val (v := .int i (i.wrap (BitVec.ofInt i.bits m ||| BitVec.ofInt i.bits n).toNat)) (w' := w) (by simp only [execOp, ho, ex, ey, binOp, Op.intBits]; simp [g]) (hx.pure hk h ⟨.int _ _, .int _ _⟩)
      case xor => exact wp_val (v := .int i (i.wrap (BitVec.ofInt i.bits m ^^^ BitVec.ofInt i.bits n).toNat)) (w' := w) (by simp only [execOp, ho, ex, ey, binOp, Op.intBits]; simp [g]) (hx.pure hk h ⟨.int _ _, .int _ _⟩)
      case andNot => exact wp_val (v := .int i (i.wrap (BitVec.ofInt i.bits m &&& ~~~BitVec.ofInt i.bits n).toNat)) (w' := w) (by simp only [execOp, ho, ex, ey, binOp, Op.intBits]; simp [g]) (hx.pure hk h ⟨.int _ _, .int _ _⟩)
      case eql => exact wp_val (v := .bool (m == n)) (w' := w) (by simp only [execOp, ho, ex, ey, binOp, Op.intCmp]; simp [g]) (hx.pure hk h ⟨.bool _, .bool _⟩)
      case neq => exact wp_val (v := .bool (m != n)) (w' := w) (by simp only [execOp, ho, ex, ey, binOp, Op.intCmp]; simp [g]) (hx.pure hk h ⟨.bool _, .bool _⟩)
      case lss => exact wp_val (v := .bool (decide (m < n))) (w' := w) (by simp only [execOp, ho, ex, ey, binOp, Op.intCmp]; simp [g]) (hx.pure hk h ⟨.bool _, .bool _⟩)
      case leq => exact wp_val (v := .bool (decide (m ≤ n))) (w' := w) (by simp only [execOp, ho, ex, ey, binOp, Op.intCmp]; simp [g]) (hx.pure hk h ⟨.bool _, .bool _⟩)
      case gtr => exact wp_val (v := .bool (decide (m > n))) (w' := w) (by simp only [execOp, ho, ex, ey, binOp, Op.intCmp]; simp [g]) (hx.pure hk h ⟨.bool _, .bool _⟩)
      case geq => exact wp_val (v := .bool (decide (m ≥ n))) (w' := w) (by simp only [execOp, ho, ex, ey, binOp, Op.intCmp]; simp [g]) (hx.pure hk h ⟨.bool _, .bool _⟩)
  · cases hk
end
end Bz
