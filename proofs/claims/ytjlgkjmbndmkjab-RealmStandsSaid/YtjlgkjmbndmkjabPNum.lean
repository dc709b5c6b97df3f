/- Numbers and values: what the program's and the document's functions answer. -/
import Derived.Test.YtjlgkjmbndmkjabFlo
import Derived.Test.YtjlgkjmbndmkjabSpA
set_option linter.all false
set_option linter.unusedVariables false
namespace Bz
open Go Ieee S

def numMay (b : Nat) : Bool := isNaN b || (ordB (P.truncF b) b .eq && ((ordB (b % 2 ^ 63) safe .lt || ordB (b % 2 ^ 63) safe .eq) && (!ordB b 0 .eq || !minus b)))
def nought (b : Nat) : Bool := ordB b 0 .eq && !minus b

theorem prim_run {idx : Nat} {p : List DV → Option DV} (h : D idx = some (.prim p)) {n : Nat} (hn : 1 ≤ n) (args : List DV) : runF D n idx args = p args := by
  obtain ⟨n, rfl⟩ : ∃ m, n = m + 1 := ⟨n - 1, by omega⟩
  simp only [runF, h]
theorem callK_of {R : Nat → List DV → Option DV} {f : Nat} {args : List DV} {sh : Sh} {r0 : DV} {x : sh.T} (h : R f args = some r0) (hd : sh.dec r0 = some x) (k : sh.T → Option DV) : callK R f args sh k = k x := by
  simp only [callK, h, hd]

theorem absB_eq {b : Nat} (h : b < 2 ^ 64) : (bNot .u64 (b : Int) 9223372036854775808).toNat = b % 2 ^ 63 := by
  have e : (BitVec.ofInt 64 (b : Int) &&& ~~~ (BitVec.ofInt 64 9223372036854775808)).toNat = b % 2 ^ 63 := by
    have e1 : ~~~ (BitVec.ofInt 64 9223372036854775808) = BitVec.ofNat 64 (2 ^ 63 - 1) := by decide
    have e2 : BitVec.ofInt 64 (b : Int) = BitVec.ofNat 64 b := by
      apply BitVec.eq_of_toNat_eq; simp [BitVec.toNat_ofInt]
    rw [e1, e2, BitVec.toNat_and, BitVec.toNat_ofNat, BitVec.toNat_ofNat, Nat.mod_eq_of_lt h]
    rw [show (2 ^ 63 - 1) % 2 ^ 64 = 2 ^ 63 - 1 from by decide]
    exact Nat.and_two_pow_sub_one_eq_mod b 63
  show (IntKind.u64.wrap ((BitVec.ofInt 64 (b : Int) &&& ~~~ (BitVec.ofInt 64 9223372036854775808)).toNat : Int)).toNat = _
  rw [e]
  have h2 : b % 2 ^ 63 < 2 ^ 63 := Nat.mod_lt _ (by decide)
  have h3 : IntKind.u64.wrap ((b % 2 ^ 63 : Nat) : Int) = ((b % 2 ^ 63 : Nat) : Int) := by
    unfold IntKind.wrap
    simp only [IntKind.signed, IntKind.bits, Bool.false_and, Bool.false_eq_true, if_false]
    exact Int.emod_eq_of_lt (by omega) (by omega)
  rw [h3]; rfl
theorem sgn_eq {b : Nat} (h : b < 2 ^ 64) : decide (IntKind.i64.wrap (b : Int) < 0) = minus b := by
  have h1 : (b : Int) % (2 ^ IntKind.i64.bits : Int) = b := Int.emod_eq_of_lt (by omega) (by show (b : Int) < 2 ^ 64; omega)
  have h2 : IntKind.i64.wrap (b : Int) = (if (b : Int) ≥ 2 ^ 63 then (b : Int) - 2 ^ 64 else (b : Int) : Int) := by
    unfold IntKind.wrap
    simp only [h1]
    simp [IntKind.signed, IntKind.bits]
  rw [h2]
  unfold minus
  by_cases hb : 2 ^ 63 ≤ b
  · have e : b / 2 ^ 63 = 1 := by omega
    have : (b : Int) ≥ 2 ^ 63 := by omega
    rw [if_pos this, e]
    simp; omega
  · have e : b / 2 ^ 63 = 0 := by omega
    have : ¬ (b : Int) ≥ 2 ^ 63 := by omega
    rw [if_neg this, e]
    simp

theorem f2bits_run {n : Nat} (hn : 1 ≤ n) {b : Nat} (h : isNaN b = false) : runF D n 209 [.float b] = some (.int .u64 b) := by
  rw [prim_run (p := Bz.P.f2bits) (by kernel_rfl) hn]; simp [Bz.P.f2bits, h]
theorem bits2f_run {n : Nat} (hn : 1 ≤ n) (i : Int) : runF D n 210 [.int .u64 i] = some (.float i.toNat) := by
  rw [prim_run (p := Bz.P.bits2f) (by kernel_rfl) hn]; rfl
theorem trunc_run {n : Nat} (hn : 1 ≤ n) {b : Nat} (h : isNaN b = false) : runF D n 214 [.float b] = some (.float (Bz.P.truncF b)) := by
  rw [prim_run (p := Bz.P.trunc) (by kernel_rfl) hn]; simp [Bz.P.trunc, h]

theorem math_Abs_ok {n : Nat} (hn : 2 ≤ n) {b : Nat} (h : isNaN b = false) (hb : b < 2 ^ 64) : runF D n 207 [.float b] = some (.float (b % 2 ^ 63)) := by
  obtain ⟨n, rfl⟩ : ∃ m, n = m + 1 := ⟨n - 1, by omega⟩
  rw [math_Abs.run]; unfold math_Abs.M
  rw [callK_of (f2bits_run (by omega) h) rfl, callK_of (bits2f_run (by omega) _) rfl, absB_eq hb]
theorem math_Trunc_ok {n : Nat} (hn : 2 ≤ n) {b : Nat} (h : isNaN b = false) : runF D n 213 [.float b] = some (.float (Bz.P.truncF b)) := by
  obtain ⟨n, rfl⟩ : ∃ m, n = m + 1 := ⟨n - 1, by omega⟩
  rw [math_Trunc.run]; unfold math_Trunc.M
  rw [callK_of (trunc_run (by omega) h) rfl]
theorem math_Signbit_ok {n : Nat} (hn : 2 ≤ n) {b : Nat} (h : isNaN b = false) (hb : b < 2 ^ 64) : runF D n 212 [.float b] = some (.bool (minus b)) := by
  obtain ⟨n, rfl⟩ : ∃ m, n = m + 1 := ⟨n - 1, by omega⟩
  rw [math_Signbit.run]; unfold math_Signbit.M
  rw [callK_of (f2bits_run (by omega) h) rfl, sgn_eq hb]

theorem num_May_ok {n : Nat} (hn : 3 ≤ n) {b : Nat} (hb : b < 2 ^ 64) : runF D n 161 [.float b] = some (.bool (numMay b)) := by
  obtain ⟨n, rfl⟩ : ∃ m, n = m + 1 := ⟨n - 1, by omega⟩
  rw [num_May.run]; unfold num_May.M
  simp only [num_May.T0_eq, num_May.T0E, order_self]
  unfold numMay
  cases h : isNaN b with
  | true => simp
  | false =>
    rw [callK_of (math_Trunc_ok (by omega) h) rfl, callK_of (math_Abs_ok (by omega) h hb) rfl, callK_of (math_Signbit_ok (by omega) h hb) rfl]
    simp only [ordB, safe, bne, cond_false, Bool.false_or]
    cases (Ieee.double.order (Bz.P.truncF b) b == some Ordering.eq) <;> cases (Ieee.double.order (b % 2 ^ 63) 4845873199050653695 == some Ordering.lt || Ieee.double.order (b % 2 ^ 63) 4845873199050653695 == some Ordering.eq) <;>
      cases (Ieee.double.order b 0 == some Ordering.eq) <;> cases minus b <;> rfl

theorem numMay_zero {b : Nat} (h : ordB b 0 .eq = true) : numMay b = !minus b := by
  obtain ⟨i, hi⟩ := is_zero h
  have hn : isNaN b = false := by rw [isNaN_rd, hi]; rfl
  have ht : ordB (Bz.P.truncF b) b .eq = true := by
    unfold ordB Bz.P.truncF
    rw [dec_rd, hi]
    have e : (Datum.number (minus b) 0 i).integral .zero = .number (minus b) 0 0 := by
      simp only [Datum.integral]
      have : Toward.zero.cut (minus b) (0 <<< i.toNat) (-i).toNat = 0 := by simp [Toward.cut]
      rw [this]
    rw [e]
    have e1 : FloatKind.f64.encode (.number (minus b) 0 0) = Ieee.double.word (minus b) 0 := by simp [FloatKind.encode, FloatKind.format, Format.write, Format.nearest]
    rw [e1, order_rd, rd_word0, hi]
    simp only [Datum.order, signed_zero]
    rfl
  have hs : ordB (b % 2 ^ 63) safe .lt = true := by
    unfold ordB
    rw [order_rd, rd_abs, hi, rd_safe]
    simp only [safe_scale, signed_zero, (int_order _ _).1, signed_eq, Bool.false_eq_true, if_false]
    have : 0 < 2 ^ (0 - min i 0).toNat := Nat.two_pow_pos _
    simp only [decide_eq_true_eq]
    have h2 : 0 < 9007199254740991 * 2 ^ (0 - min i 0).toNat := Nat.mul_pos (by decide) this
    have h3 : ((0 * 2 ^ (i - min i 0).toNat : Nat) : Int) = 0 := by rw [Nat.zero_mul]; rfl
    rw [h3]; exact Int.ofNat_lt.mpr h2
  unfold numMay
  rw [hn, ht, hs, h]; simp
end Bz
