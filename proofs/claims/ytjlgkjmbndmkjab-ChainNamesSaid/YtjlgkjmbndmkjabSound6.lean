/- Operations that only reckon, the rest of them. -/
import Derived.Test.YtjlgkjmbndmkjabSound5
import Derived.Laws.StructEq
set_option linter.all false
set_option linter.unusedVariables false
namespace Bz
open Go Go.RowKit

/-! ### Floats: which NaN it is does not matter -/
theorem order_nan_left {a b : Nat} (h : isNaN a = true) : Ieee.double.order a b = none := by
  unfold isNaN Ieee.Datum.isNaN at h
  unfold Ieee.Format.order
  split at h
  · rename_i s t e; rw [e]; rfl
  · cases h
theorem order_nan_right {a b : Nat} (h : isNaN b = true) : Ieee.double.order a b = none := by
  unfold isNaN Ieee.Datum.isNaN at h
  unfold Ieee.Format.order
  split at h
  · rename_i s t e; rw [e]; cases Ieee.double.read a <;> rfl
  · cases h
theorem feq_order {a a' b b' : Nat} (h : feq a a') (k : feq b b') : Ieee.double.order a b = Ieee.double.order a' b' := by
  rcases h with rfl | ⟨h1, h2⟩
  · rcases k with rfl | ⟨k1, k2⟩
    · rfl
    · rw [order_nan_right k1, order_nan_right k2]
  · rw [order_nan_left h1, order_nan_left h2]
theorem div_nan_left {a b : Nat} (h : isNaN a = true) : Ieee.double.div a b = none := by
  unfold isNaN Ieee.Datum.isNaN at h
  unfold Ieee.Format.div
  split at h
  · rename_i s t e; rw [e]; rfl
  · cases h
theorem div_nan_right {a b : Nat} (h : isNaN b = true) : Ieee.double.div a b = none := by
  unfold isNaN Ieee.Datum.isNaN at h
  unfold Ieee.Format.div
  split at h
  · rename_i s t e; rw [e]; cases Ieee.double.read a <;> rfl
  · cases h
theorem feq_div {a a' b b' : Nat} (h : feq a a') (k : feq b b') : Ieee.double.div a b = Ieee.double.div a' b' := by
  rcases h with rfl | ⟨h1, h2⟩
  · rcases k with rfl | ⟨k1, k2⟩
    · rfl
    · rw [div_nan_right k1, div_nan_right k2]
  · rw [div_nan_left h1, div_nan_left h2]
theorem isNaN_drawn (x y t : Nat) : isNaN ((Question.nanBits .f64 x y).cut t) = true := by
  have e : (Question.nanBits .f64 x y).cut t = (t % 2) * 2 ^ 63 + 0x7ff0000000000000 + 1 + (t / 2) % (2 ^ 52 - 1) := rfl
  have h1 : t / 2 % (2 ^ 52 - 1) < 2 ^ 52 - 1 := Nat.mod_lt _ (by decide)
  have h2 : t % 2 < 2 := Nat.mod_lt _ (by decide)
  rw [e]
  generalize t / 2 % (2 ^ 52 - 1) = m at h1 ⊢
  generalize t % 2 = q at h2 ⊢
  have hs : Ieee.double.signWeight = 9223372036854775808 := by decide
  have hb : Ieee.double.binade = 4503599627370496 := by decide
  have hi : Ieee.double.infRung = 9218868437227405312 := by decide
  have hm : (q * 2 ^ 63 + 0x7ff0000000000000 + 1 + m) % 9223372036854775808 = 0x7ff0000000000000 + 1 + m := by omega
  unfold isNaN Ieee.Format.read
  simp only [hs, hb, hi, hm]
  rw [if_neg (by omega), if_neg (by omega), if_neg (by omega)]
  rfl
theorem isNaN_qnan : isNaN qnan = true := by decide

section
variable {ren : Nat → Option Nat} {A : Nat → Prop} {b0 : Nat} {w0 : World} {N : Nat} {φ : Nat → Option Value} {s : St} {a : Act} {w : World}
variable {P : Program} {o : Oper} {nxt : Act → World → Prop} {Q : Exit → Act → World → Prop} {R : Nat → List DV → Option DV} {k : Eff → Option DV} {r : DV}

theorem s_binf {op : BinOp} {t t' : TypeId} {x y : Operand} {x' y' : Opd} (ho : o.op = .binOp op t x y t')
    (hc : (opdOk ren x x' && opdOk ren y y') = true)
    (h : Rel ren A b0 w0 N φ s a w) (hk : eff R s (.binf op x' y') k = some r) (hx : Nx ren A b0 w0 N s a k r fun v w' => nxt (a.put o.dst v) w') : o.wp P a w nxt Q := by
  simp only [Bool.and_eq_true] at hc
  simp only [eff] at hk
  replace ⟨dx, hk, h1⟩ := opd_sound h hc.1 hk
  replace ⟨dy, hk, h2⟩ := opd_sound h hc.2 hk
  split at hk
  · rename_i m n
    obtain ⟨m', ex, hm⟩ := h1.rv.float_inv
    obtain ⟨n', ey, hn⟩ := h2.rv.float_inv
    have e := feq_order hm hn
    have g : ∀ op, (eqGuard op t x y (.float .f64 m') (.float .f64 n')).run P w = .ok () w := by intro op; cases op <;> simp [eqGuard]
    have ef : FloatKind.f64.format.order m' n' = Ieee.double.order m n := e.symm
    cases op <;> simp only [fcmp] at hk
    case eql => exact wp_val (v := .bool (Ieee.double.order m n == some .eq)) (w' := w) (by simp only [execOp, ho, ex, ey, binOp, Op.floatCmp, ef]; simp [g]) (hx.pure hk h ⟨.bool _, .bool _⟩)
    case neq => exact wp_val (v := .bool (Ieee.double.order m n != some .eq)) (w' := w) (by simp only [execOp, ho, ex, ey, binOp, Op.floatCmp, ef]; simp [g]) (hx.pure hk h ⟨.bool _, .bool _⟩)
    case lss => exact wp_val (v := .bool (Ieee.double.order m n == some .lt)) (w' := w) (by simp only [execOp, ho, ex, ey, binOp, Op.floatCmp, ef]; simp [g]) (hx.pure hk h ⟨.bool _, .bool _⟩)
    case leq => exact wp_val (v := .bool (Ieee.double.order m n == some .lt || Ieee.double.order m n == some .eq)) (w' := w) (by simp only [execOp, ho, ex, ey, binOp, Op.floatCmp, ef]; simp [g]) (hx.pure hk h ⟨.bool _, .bool _⟩)
    case gtr => exact wp_val (v := .bool (Ieee.double.order m n == some .gt)) (w' := w) (by simp only [execOp, ho, ex, ey, binOp, Op.floatCmp, ef]; simp [g]) (hx.pure hk h ⟨.bool _, .bool _⟩)
    case geq => exact wp_val (v := .bool (Ieee.double.order m n == some .gt || Ieee.double.order m n == some .eq)) (w' := w) (by simp only [execOp, ho, ex, ey, binOp, Op.floatCmp, ef]; simp [g]) (hx.pure hk h ⟨.bool _, .bool _⟩)
    all_goals cases hk
  · cases hk
theorem s_fdiv {t t' : TypeId} {x y : Operand} {x' y' : Opd} (ho : o.op = .binOp .quo t x y t')
    (hc : (opdOk ren x x' && opdOk ren y y') = true)
    (h : Rel ren A b0 w0 N φ s a w) (hk : eff R s (.fdiv x' y') k = some r) (hx : Nx ren A b0 w0 N s a k r fun v w' => nxt (a.put o.dst v) w') : o.wp P a w nxt Q := by
  simp only [Bool.and_eq_true] at hc
  simp only [eff] at hk
  replace ⟨dx, hk, h1⟩ := opd_sound h hc.1 hk
  replace ⟨dy, hk, h2⟩ := opd_sound h hc.2 hk
  split at hk
  · rename_i m n
    obtain ⟨m', ex, hm⟩ := h1.rv.float_inv
    obtain ⟨n', ey, hn⟩ := h2.rv.float_inv
    have e := feq_div hm hn
    have ef : FloatKind.f64.format.div m' n' = Ieee.double.div m n := e.symm
    cases hd : Ieee.double.div m n with
    | some q =>
      rw [hd] at hk ef
      exact wp_val (v := .float .f64 q) (w' := w) (by simp only [execOp, ho, ex, ey, binOp, Op.floatArith, ef]; simp [eqGuard]) (hx.pure hk h ⟨.float (.inl rfl), .float _⟩)
    | none =>
      rw [hd] at hk ef
      have hf : (Question.nanBits .f64 m' n').forced = false := rfl
      exact wp_val (v := .float .f64 ((Question.nanBits .f64 m' n').cut (w.tape w.drawn (.nanBits .f64 m' n')))) (w' := w.drew)
        (by simp only [execOp, ho, ex, ey, binOp, Op.floatArith, ef]; simp [eqGuard, hf])
        (hx.pure hk h.drew ⟨.float (.inr ⟨isNaN_qnan, isNaN_drawn _ _ _⟩), .float _⟩)
  · cases hk
theorem s_bins {op : BinOp} {t t' : TypeId} {x y : Operand} {x' y' : Opd} (ho : o.op = .binOp op t x y t')
    (hc : (opdOk ren x x' && opdOk ren y y') = true)
    (h : Rel ren A b0 w0 N φ s a w) (hk : eff R s (.bins op x' y') k = some r) (hx : Nx ren A b0 w0 N s a k r fun v w' => nxt (a.put o.dst v) w') : o.wp P a w nxt Q := by
  simp only [Bool.and_eq_true] at hc
  simp only [eff] at hk
  replace ⟨dx, hk, h1⟩ := opd_sound h hc.1 hk
  replace ⟨dy, hk, h2⟩ := opd_sound h hc.2 hk
  split at hk
  · rename_i m n
    have ex := h1.rv.str_inv
    have ey := h2.rv.str_inv
    cases op <;> simp only [gd] at hk
    case add =>
      cases hs : decide (m.size + n.size ≤ 9223372036854775807) with
      | false => simp [hs] at hk
      | true =>
        simp only [hs, cond_true] at hk
        have hs' : ¬ (((m.size + n.size : Nat) : Int) > IntKind.i64.max) := by
          have : m.size + n.size ≤ 9223372036854775807 := of_decide_eq_true hs
          have hm : IntKind.i64.max = 9223372036854775807 := by decide
          rw [hm]; omega
        exact wp_val (v := .string (m ++ n)) (w' := w) (by simp only [execOp, ho, ex, ey, binOp, Op.stringOp, if_neg hs']; simp [eqGuard]) (hx.pure hk h ⟨.str _, .str _⟩)
    case eql => exact wp_val (v := .bool (m.toList == n.toList)) (w' := w) (by simp only [execOp, ho, ex, ey, binOp, Op.stringOp]; simp [eqGuard]) (hx.pure hk h ⟨.bool _, .bool _⟩)
    case neq => exact wp_val (v := .bool (!(m.toList == n.toList))) (w' := w) (by simp only [execOp, ho, ex, ey, binOp, Op.stringOp]; simp [eqGuard]) (hx.pure hk h ⟨.bool _, .bool _⟩)
    all_goals cases hk
  · cases hk
def boolOk (P : Program) (t : TypeId) : Bool :=
  match P.underlying t with
  | some .bool => true
  | _ => false
theorem s_eqb {neg : Bool} {t t' : TypeId} {x y : Operand} {x' y' : Opd} (ho : o.op = .binOp (if neg then .neq else .eql) t x y t')
    (hc : (boolOk P t && (opdOk ren x x' && opdOk ren y y')) = true)
    (h : Rel ren A b0 w0 N φ s a w) (hk : eff R s (.eqb neg x' y') k = some r) (hx : Nx ren A b0 w0 N s a k r fun v w' => nxt (a.put o.dst v) w') : o.wp P a w nxt Q := by
  simp only [Bool.and_eq_true] at hc
  simp only [eff] at hk
  replace ⟨dx, hk, h1⟩ := opd_sound h hc.2.1 hk
  replace ⟨dy, hk, h2⟩ := opd_sound h hc.2.2 hk
  have hu : P.underlying t = some .bool := by
    have := hc.1; unfold boolOk at this; split at this
    · assumption
    · cases this
  split at hk
  · rename_i m n
    have ex := h1.rv.bool_inv
    have ey := h2.rv.bool_inv
    have e : (Op.equal t (.bool m) (.bool n)).run P w = .ok (m == n) w := run_equalIn_bool' w 9999 t m n hu
    have g : ∀ op, (eqGuard op t x y (.bool m) (.bool n)).run P w = .ok () w := by intro op; cases op <;> simp [eqGuard]
    cases neg with
    | false => exact wp_val (v := .bool (m == n)) (w' := w) (by simp only [execOp, ho, ex, ey]; simp only [Bool.false_eq_true, if_false, binOp, Sem.run_bind, g, Result.andThen_ok, e, Sem.run_pure]) (hx.pure hk h ⟨.bool _, .bool _⟩)
    | true => exact wp_val (v := .bool (!(m == n))) (w' := w) (by simp only [execOp, ho, ex, ey]; simp only [if_true, binOp, Sem.run_bind, g, Result.andThen_ok, e, Sem.run_pure]) (hx.pure hk h ⟨.bool _, .bool _⟩)
  · cases hk
theorem s_not {t : TypeId} {x : Operand} {x' : Opd} (ho : o.op = .unOp .not t x) (hc : opdOk ren x x' = true)
    (h : Rel ren A b0 w0 N φ s a w) (hk : eff R s (.not x') k = some r) (hx : Nx ren A b0 w0 N s a k r fun v w' => nxt (a.put o.dst v) w') : o.wp P a w nxt Q := by
  simp only [eff] at hk
  replace ⟨dx, hk, h1⟩ := opd_sound h hc hk
  split at hk
  · rename_i m
    exact wp_val (v := .bool !m) (w' := w) (by simp [execOp, ho, h1.rv.bool_inv, Op.unary]) (hx.pure hk h ⟨.bool _, .bool _⟩)
  · cases hk
theorem s_neg {t : TypeId} {x : Operand} {x' : Opd} (ho : o.op = .unOp .neg t x) (hc : opdOk ren x x' = true)
    (h : Rel ren A b0 w0 N φ s a w) (hk : eff R s (.neg x') k = some r) (hx : Nx ren A b0 w0 N s a k r fun v w' => nxt (a.put o.dst v) w') : o.wp P a w nxt Q := by
  simp only [eff] at hk
  replace ⟨dx, hk, h1⟩ := opd_sound h hc hk
  split at hk
  · rename_i i m
    exact wp_val (v := .int i (i.wrap (0 - m))) (w' := w) (by simp only [execOp, ho, h1.rv.int_inv, Op.unary, Op.intArith]; simp) (hx.pure hk h ⟨.int _ _, .int _ _⟩)
  · cases hk
theorem s_xor {t : TypeId} {x : Operand} {x' : Opd} (ho : o.op = .unOp .xor t x) (hc : opdOk ren x x' = true)
    (h : Rel ren A b0 w0 N φ s a w) (hk : eff R s (.xor x') k = some r) (hx : Nx ren A b0 w0 N s a k r fun v w' => nxt (a.put o.dst v) w') : o.wp P a w nxt Q := by
  simp only [eff] at hk
  replace ⟨dx, hk, h1⟩ := opd_sound h hc hk
  split at hk
  · rename_i i m
    simp only [ibits] at hk
    refine wp_val (v := .int i (i.wrap (BitVec.ofInt i.bits (bif i.signed then -1 else i.max) ^^^ BitVec.ofInt i.bits m).toNat)) (w' := w) ?_ (hx.pure hk h ⟨.int _ _, .int _ _⟩)
    simp only [execOp, ho, h1.rv.int_inv, Op.unary, Op.intBits]
    cases i.signed <;> simp
  · cases hk
end
end Bz
