/- Descriptors: what the program's and the document's functions answer. -/
import Derived.Test.YtjlgkjmbndmkjabPVal
set_option linter.all false
set_option linter.unusedVariables false
set_option linter.unusedSimpArgs false
namespace Bz
open Go Ieee S

/-! Bits. -/
def hb (h : Int) (k : Nat) : Bool := h.toNat / k % 2 == 1
theorem bits_of {p : Int → Bool} (H : ∀ i : Fin 256, p ((i.val : Nat) : Int) = true) {h : Int} (h0 : 0 ≤ h) (h1 : h ≤ 255) : p h = true := by
  have e : h = ((h.toNat : Nat) : Int) := by omega
  rw [e]; exact H ⟨h.toNat, by omega⟩
theorem bitsB {f g : Int → Bool} (H : ∀ i : Fin 256, (f ((i.val : Nat) : Int) == g ((i.val : Nat) : Int)) = true) {h : Int} (h0 : 0 ≤ h) (h1 : h ≤ 255) : f h = g h :=
  eq_of_beq (bits_of (p := fun h => f h == g h) H h0 h1)
def cpl (h : Int) : Int := bXor .u8 (cond (IntKind.signed .u8) (Neg.neg 1) (IntKind.max .u8)) h
section
variable {h : Int} (h0 : 0 ≤ h) (h1 : h ≤ 255)
include h0 h1
theorem and3 : (bAnd .u8 h 3 != 0) = (hb h 1 || hb h 2) := bitsB (f := fun h => bAnd .u8 h 3 != 0) (g := fun h => hb h 1 || hb h 2) (by decide +kernel) h0 h1
theorem and12 : (bAnd .u8 h 12 != 0) = (hb h 4 || hb h 8) := bitsB (f := fun h => bAnd .u8 h 12 != 0) (g := fun h => hb h 4 || hb h 8) (by decide +kernel) h0 h1
theorem and15 : (bAnd .u8 h 15 == 0) = !((hb h 1 || hb h 2) || (hb h 4 || hb h 8)) := bitsB (f := fun h => bAnd .u8 h 15 == 0) (g := fun h => !((hb h 1 || hb h 2) || (hb h 4 || hb h 8))) (by decide +kernel) h0 h1
theorem and1 : (bAnd .u8 h 1 != 0) = hb h 1 := bitsB (f := fun h => bAnd .u8 h 1 != 0) (g := fun h => hb h 1) (by decide +kernel) h0 h1
theorem and2 : (bAnd .u8 h 2 != 0) = hb h 2 := bitsB (f := fun h => bAnd .u8 h 2 != 0) (g := fun h => hb h 2) (by decide +kernel) h0 h1
theorem and4 : (bAnd .u8 h 4 != 0) = hb h 4 := bitsB (f := fun h => bAnd .u8 h 4 != 0) (g := fun h => hb h 4) (by decide +kernel) h0 h1
theorem and8 : (bAnd .u8 h 8 != 0) = hb h 8 := bitsB (f := fun h => bAnd .u8 h 8 != 0) (g := fun h => hb h 8) (by decide +kernel) h0 h1
theorem and16 : (bAnd .u8 h 16 != 0) = hb h 16 := bitsB (f := fun h => bAnd .u8 h 16 != 0) (g := fun h => hb h 16) (by decide +kernel) h0 h1
theorem and32 : (bAnd .u8 h 32 != 0) = hb h 32 := bitsB (f := fun h => bAnd .u8 h 32 != 0) (g := fun h => hb h 32) (by decide +kernel) h0 h1
theorem nand1 : (bAnd .u8 h 1 == 0) = !hb h 1 := bitsB (f := fun h => bAnd .u8 h 1 == 0) (g := fun h => !hb h 1) (by decide +kernel) h0 h1
theorem nand4 : (bAnd .u8 h 4 == 0) = !hb h 4 := bitsB (f := fun h => bAnd .u8 h 4 == 0) (g := fun h => !hb h 4) (by decide +kernel) h0 h1
theorem nand8 : (bAnd .u8 h 8 == 0) = !hb h 8 := bitsB (f := fun h => bAnd .u8 h 8 == 0) (g := fun h => !hb h 8) (by decide +kernel) h0 h1
theorem cpl1 : (bAnd .u8 (bXor .u8 (cond (IntKind.signed .u8) (Neg.neg 1) (IntKind.max .u8)) h) 1 != 0) = !hb h 1 := bitsB (f := fun h => bAnd .u8 (cpl h) 1 != 0) (g := fun h => !hb h 1) (by decide +kernel) h0 h1
theorem cpl2 : (bAnd .u8 (bXor .u8 (cond (IntKind.signed .u8) (Neg.neg 1) (IntKind.max .u8)) h) 2 != 0) = !hb h 2 := bitsB (f := fun h => bAnd .u8 (cpl h) 2 != 0) (g := fun h => !hb h 2) (by decide +kernel) h0 h1
theorem cpl4 : (bAnd .u8 (bXor .u8 (cond (IntKind.signed .u8) (Neg.neg 1) (IntKind.max .u8)) h) 4 != 0) = !hb h 4 := bitsB (f := fun h => bAnd .u8 (cpl h) 4 != 0) (g := fun h => !hb h 4) (by decide +kernel) h0 h1
theorem cpl8 : (bAnd .u8 (bXor .u8 (cond (IntKind.signed .u8) (Neg.neg 1) (IntKind.max .u8)) h) 8 != 0) = !hb h 8 := bitsB (f := fun h => bAnd .u8 (cpl h) 8 != 0) (g := fun h => !hb h 8) (by decide +kernel) h0 h1
theorem cpl16 : (bAnd .u8 (bXor .u8 (cond (IntKind.signed .u8) (Neg.neg 1) (IntKind.max .u8)) h) 16 != 0) = !hb h 16 := bitsB (f := fun h => bAnd .u8 (cpl h) 16 != 0) (g := fun h => !hb h 16) (by decide +kernel) h0 h1
theorem cpl32 : (bAnd .u8 (bXor .u8 (cond (IntKind.signed .u8) (Neg.neg 1) (IntKind.max .u8)) h) 32 != 0) = !hb h 32 := bitsB (f := fun h => bAnd .u8 (cpl h) 32 != 0) (g := fun h => !hb h 32) (by decide +kernel) h0 h1
theorem not63 : (bNot .u8 h 63 != 0) = decide (h > 63) := bitsB (f := fun h => bNot .u8 h 63 != 0) (g := fun h => decide (h > 63)) (by decide +kernel) h0 h1
theorem hasK (k : Nat) (hk : k = 1 ∨ k = 2 ∨ k = 4 ∨ k = 8 ∨ k = 16 ∨ k = 32) : (Int.tmod (IntKind.wrap .u8 (Int.tdiv h (k : Int))) 2 == 1) = hb h k := by
  rcases hk with e | e | e | e | e | e <;> subst e
  · exact bitsB (f := fun h => Int.tmod (IntKind.wrap .u8 (Int.tdiv h ((1 : Nat) : Int))) 2 == 1) (g := fun h => hb h 1) (by decide +kernel) h0 h1
  · exact bitsB (f := fun h => Int.tmod (IntKind.wrap .u8 (Int.tdiv h ((2 : Nat) : Int))) 2 == 1) (g := fun h => hb h 2) (by decide +kernel) h0 h1
  · exact bitsB (f := fun h => Int.tmod (IntKind.wrap .u8 (Int.tdiv h ((4 : Nat) : Int))) 2 == 1) (g := fun h => hb h 4) (by decide +kernel) h0 h1
  · exact bitsB (f := fun h => Int.tmod (IntKind.wrap .u8 (Int.tdiv h ((8 : Nat) : Int))) 2 == 1) (g := fun h => hb h 8) (by decide +kernel) h0 h1
  · exact bitsB (f := fun h => Int.tmod (IntKind.wrap .u8 (Int.tdiv h ((16 : Nat) : Int))) 2 == 1) (g := fun h => hb h 16) (by decide +kernel) h0 h1
  · exact bitsB (f := fun h => Int.tmod (IntKind.wrap .u8 (Int.tdiv h ((32 : Nat) : Int))) 2 == 1) (g := fun h => hb h 32) (by decide +kernel) h0 h1
end

/-! Descriptors. -/
def dataH (h : Int) : Bool := hb h 1 || hb h 2
def accH (h : Int) : Bool := hb h 4 || hb h 8
structure Dok (d : Dsc) : Prop where
  h0 : 0 ≤ d.has
  h1 : d.has ≤ 255
  v : Vok d.value
  g : Vok d.get
  s : Vok d.set
def wholeH (h : Int) : Int := cond (accH h) (bOr .u8 h 60) (bOr .u8 h 51)
theorem dec_dsc (x : Dsc) : Sh.dec .dsc (.agg (Dsc.enc x)) = some x := rfl

theorem desc_IsData_ok {n : Nat} (hn : 1 ≤ n) {d : Dsc} (hd : Dok d) : runF D n 129 [.agg d.enc] = some (.bool (dataH d.has)) := by
  obtain ⟨n, rfl⟩ : ∃ m, n = m + 1 := ⟨n - 1, by omega⟩
  rw [desc_IsData.run]; unfold desc_IsData.M
  rw [and3 hd.h0 hd.h1]; rfl
theorem desc_IsAccess_ok' {n : Nat} (hn : 1 ≤ n) {d : Dsc} (h0 : 0 ≤ d.has) (h1 : d.has ≤ 255) : runF D n 128 [.agg d.enc] = some (.bool (accH d.has)) := by
  obtain ⟨n, rfl⟩ : ∃ m, n = m + 1 := ⟨n - 1, by omega⟩
  rw [desc_IsAccess.run]; unfold desc_IsAccess.M
  rw [and12 h0 h1]; rfl
theorem desc_IsAccess_ok {n : Nat} (hn : 1 ≤ n) {d : Dsc} (hd : Dok d) : runF D n 128 [.agg d.enc] = some (.bool (accH d.has)) := desc_IsAccess_ok' hn hd.h0 hd.h1
theorem desc_IsPlain_ok {n : Nat} (hn : 1 ≤ n) {d : Dsc} (hd : Dok d) : runF D n 130 [.agg d.enc] = some (.bool (!(dataH d.has || accH d.has))) := by
  obtain ⟨n, rfl⟩ : ∃ m, n = m + 1 := ⟨n - 1, by omega⟩
  rw [desc_IsPlain.run]; unfold desc_IsPlain.M
  rw [and15 hd.h0 hd.h1]; rfl
theorem desc_whole_ok {n : Nat} (hn : 2 ≤ n) {d : Dsc} (h0 : 0 ≤ d.has) (h1 : d.has ≤ 255) : runF D n 135 [.agg d.enc] = some (.agg (Dsc.enc ⟨wholeH d.has, d.value, d.get, d.set, d.wri, d.enu, d.con⟩)) := by
  obtain ⟨n, rfl⟩ : ∃ m, n = m + 1 := ⟨n - 1, by omega⟩
  rw [desc_whole.run]; unfold desc_whole.M
  simp only [callK, desc_IsAccess_ok' (n := n) (by omega) h0 h1, Sh.dec, desc_whole.T0_c]
  rw [desc_whole.T0_eq]
  rfl
section
variable {n : Nat} (hn : 1 ≤ n) {d : Dsc} (hd : Dok d)
include hn hd
end
/-! Whether a descriptor may be. -/
def chkD (d : Dsc) : Bool :=
  (!decide (d.has > 63) && !(dataH d.has && accH d.has)) && ((cond (hb d.has 1) (mayV d.value) (bareV d.value)) && ((cond (hb d.has 4) (calledV d.get) (bareV d.get)) && ((cond (hb d.has 8) (calledV d.set) (bareV d.set)) &&
    ((hb d.has 2 || !d.wri) && ((hb d.has 16 || !d.enu) && (hb d.has 32 || !d.con))))))
theorem called_may {v : Val} (h : calledV v = true) : mayV v = true := by
  unfold calledV at h; simp only [Bool.and_eq_true] at h; exact h.1
theorem zero_fold (v : Val) : ((v.kind == 0) && (((double.order v.num 0) == (some Ordering.eq)) && ((v.str.toList == (bs []).toList) && ((v.ref == 0) && true)))) = zeroV v := rfl
theorem part_eq (b : Bool) {m z : Bool} {v : Val} (hm : m = true → mayV v = true) (hz : bareV v = true → m = true) : (m && !(!b && !zeroV v)) = cond b m (bareV v) := by
  cases h : m with
  | false =>
    cases hb : bareV v with
    | false => cases b <;> rfl
    | true => rw [hz hb] at h; cases h
  | true => rw [may_zero (hm h)]; cases b <;> simp
theorem ans_eq (c : Bool) : (cond c (90 : Int) 0) = cond (!c) 0 90 := by cases c <;> rfl

theorem desc_Check_ok {n : Nat} (hn : 6 ≤ n) {d : Dsc} (hd : Dok d) : runF D n 125 [.agg d.enc] = some (.int .i64 (cond (chkD d) 0 90)) := by
  obtain ⟨n, rfl⟩ : ∃ m, n = m + 1 := ⟨n - 1, by omega⟩
  have h1 := desc_IsData_ok (n := n) (by omega) hd
  have h2 := desc_IsAccess_ok (n := n) (by omega) hd
  have h3 := value_May_ok (n := n) (by omega) hd.v
  have h4 := desc_called_ok (n := n) (by omega) hd.g
  have h5 := desc_called_ok (n := n) (by omega) hd.s
  rw [desc_Check.run]; unfold desc_Check.M
  try simp only [callK, Sh.dec, cond_some_bool, cond_some_int, Bool.cond_self, kI, kU, cond_true, cond_false, h1, h2, h3, h4, h5, cpl1 hd.h0 hd.h1, cpl2 hd.h0 hd.h1, cpl4 hd.h0 hd.h1, cpl8 hd.h0 hd.h1, cpl16 hd.h0 hd.h1, cpl32 hd.h0 hd.h1, not63 hd.h0 hd.h1, zero_fold, desc_Check.T2_c, desc_Check.T1_c, desc_Check.T0_c, desc_Check.T3_c, desc_Check.T5_c, desc_Check.T4_c, desc_Check.T6_c, desc_Check.T8_c, desc_Check.T7_c, desc_Check.T9_c]
  simp only [desc_Check.T2_eq, desc_Check.T2E]; try simp only [callK, Sh.dec, cond_some_bool, cond_some_int, Bool.cond_self, kI, kU, cond_true, cond_false, h1, h2, h3, h4, h5, cpl1 hd.h0 hd.h1, cpl2 hd.h0 hd.h1, cpl4 hd.h0 hd.h1, cpl8 hd.h0 hd.h1, cpl16 hd.h0 hd.h1, cpl32 hd.h0 hd.h1, not63 hd.h0 hd.h1, zero_fold, desc_Check.T2_c, desc_Check.T1_c, desc_Check.T0_c, desc_Check.T3_c, desc_Check.T5_c, desc_Check.T4_c, desc_Check.T6_c, desc_Check.T8_c, desc_Check.T7_c, desc_Check.T9_c]
  simp only [desc_Check.T1_eq, desc_Check.T1E]; try simp only [callK, Sh.dec, cond_some_bool, cond_some_int, Bool.cond_self, kI, kU, cond_true, cond_false, h1, h2, h3, h4, h5, cpl1 hd.h0 hd.h1, cpl2 hd.h0 hd.h1, cpl4 hd.h0 hd.h1, cpl8 hd.h0 hd.h1, cpl16 hd.h0 hd.h1, cpl32 hd.h0 hd.h1, not63 hd.h0 hd.h1, zero_fold, desc_Check.T2_c, desc_Check.T1_c, desc_Check.T0_c, desc_Check.T3_c, desc_Check.T5_c, desc_Check.T4_c, desc_Check.T6_c, desc_Check.T8_c, desc_Check.T7_c, desc_Check.T9_c]
  simp only [desc_Check.T0_eq, desc_Check.T0E]; try simp only [callK, Sh.dec, cond_some_bool, cond_some_int, Bool.cond_self, kI, kU, cond_true, cond_false, h1, h2, h3, h4, h5, cpl1 hd.h0 hd.h1, cpl2 hd.h0 hd.h1, cpl4 hd.h0 hd.h1, cpl8 hd.h0 hd.h1, cpl16 hd.h0 hd.h1, cpl32 hd.h0 hd.h1, not63 hd.h0 hd.h1, zero_fold, desc_Check.T2_c, desc_Check.T1_c, desc_Check.T0_c, desc_Check.T3_c, desc_Check.T5_c, desc_Check.T4_c, desc_Check.T6_c, desc_Check.T8_c, desc_Check.T7_c, desc_Check.T9_c]
  simp only [desc_Check.T3_eq, desc_Check.T3E]; try simp only [callK, Sh.dec, cond_some_bool, cond_some_int, Bool.cond_self, kI, kU, cond_true, cond_false, h1, h2, h3, h4, h5, cpl1 hd.h0 hd.h1, cpl2 hd.h0 hd.h1, cpl4 hd.h0 hd.h1, cpl8 hd.h0 hd.h1, cpl16 hd.h0 hd.h1, cpl32 hd.h0 hd.h1, not63 hd.h0 hd.h1, zero_fold, desc_Check.T2_c, desc_Check.T1_c, desc_Check.T0_c, desc_Check.T3_c, desc_Check.T5_c, desc_Check.T4_c, desc_Check.T6_c, desc_Check.T8_c, desc_Check.T7_c, desc_Check.T9_c]
  simp only [desc_Check.T5_eq, desc_Check.T5E]; try simp only [callK, Sh.dec, cond_some_bool, cond_some_int, Bool.cond_self, kI, kU, cond_true, cond_false, h1, h2, h3, h4, h5, cpl1 hd.h0 hd.h1, cpl2 hd.h0 hd.h1, cpl4 hd.h0 hd.h1, cpl8 hd.h0 hd.h1, cpl16 hd.h0 hd.h1, cpl32 hd.h0 hd.h1, not63 hd.h0 hd.h1, zero_fold, desc_Check.T2_c, desc_Check.T1_c, desc_Check.T0_c, desc_Check.T3_c, desc_Check.T5_c, desc_Check.T4_c, desc_Check.T6_c, desc_Check.T8_c, desc_Check.T7_c, desc_Check.T9_c]
  simp only [desc_Check.T4_eq, desc_Check.T4E]; try simp only [callK, Sh.dec, cond_some_bool, cond_some_int, Bool.cond_self, kI, kU, cond_true, cond_false, h1, h2, h3, h4, h5, cpl1 hd.h0 hd.h1, cpl2 hd.h0 hd.h1, cpl4 hd.h0 hd.h1, cpl8 hd.h0 hd.h1, cpl16 hd.h0 hd.h1, cpl32 hd.h0 hd.h1, not63 hd.h0 hd.h1, zero_fold, desc_Check.T2_c, desc_Check.T1_c, desc_Check.T0_c, desc_Check.T3_c, desc_Check.T5_c, desc_Check.T4_c, desc_Check.T6_c, desc_Check.T8_c, desc_Check.T7_c, desc_Check.T9_c]
  simp only [desc_Check.T6_eq, desc_Check.T6E]; try simp only [callK, Sh.dec, cond_some_bool, cond_some_int, Bool.cond_self, kI, kU, cond_true, cond_false, h1, h2, h3, h4, h5, cpl1 hd.h0 hd.h1, cpl2 hd.h0 hd.h1, cpl4 hd.h0 hd.h1, cpl8 hd.h0 hd.h1, cpl16 hd.h0 hd.h1, cpl32 hd.h0 hd.h1, not63 hd.h0 hd.h1, zero_fold, desc_Check.T2_c, desc_Check.T1_c, desc_Check.T0_c, desc_Check.T3_c, desc_Check.T5_c, desc_Check.T4_c, desc_Check.T6_c, desc_Check.T8_c, desc_Check.T7_c, desc_Check.T9_c]
  simp only [desc_Check.T8_eq, desc_Check.T8E]; try simp only [callK, Sh.dec, cond_some_bool, cond_some_int, Bool.cond_self, kI, kU, cond_true, cond_false, h1, h2, h3, h4, h5, cpl1 hd.h0 hd.h1, cpl2 hd.h0 hd.h1, cpl4 hd.h0 hd.h1, cpl8 hd.h0 hd.h1, cpl16 hd.h0 hd.h1, cpl32 hd.h0 hd.h1, not63 hd.h0 hd.h1, zero_fold, desc_Check.T2_c, desc_Check.T1_c, desc_Check.T0_c, desc_Check.T3_c, desc_Check.T5_c, desc_Check.T4_c, desc_Check.T6_c, desc_Check.T8_c, desc_Check.T7_c, desc_Check.T9_c]
  simp only [desc_Check.T7_eq, desc_Check.T7E]; try simp only [callK, Sh.dec, cond_some_bool, cond_some_int, Bool.cond_self, kI, kU, cond_true, cond_false, h1, h2, h3, h4, h5, cpl1 hd.h0 hd.h1, cpl2 hd.h0 hd.h1, cpl4 hd.h0 hd.h1, cpl8 hd.h0 hd.h1, cpl16 hd.h0 hd.h1, cpl32 hd.h0 hd.h1, not63 hd.h0 hd.h1, zero_fold, desc_Check.T2_c, desc_Check.T1_c, desc_Check.T0_c, desc_Check.T3_c, desc_Check.T5_c, desc_Check.T4_c, desc_Check.T6_c, desc_Check.T8_c, desc_Check.T7_c, desc_Check.T9_c]
  simp only [desc_Check.T9_eq, desc_Check.T9E]; try simp only [callK, Sh.dec, cond_some_bool, cond_some_int, Bool.cond_self, kI, kU, cond_true, cond_false, h1, h2, h3, h4, h5, cpl1 hd.h0 hd.h1, cpl2 hd.h0 hd.h1, cpl4 hd.h0 hd.h1, cpl8 hd.h0 hd.h1, cpl16 hd.h0 hd.h1, cpl32 hd.h0 hd.h1, not63 hd.h0 hd.h1, zero_fold, desc_Check.T2_c, desc_Check.T1_c, desc_Check.T0_c, desc_Check.T3_c, desc_Check.T5_c, desc_Check.T4_c, desc_Check.T6_c, desc_Check.T8_c, desc_Check.T7_c, desc_Check.T9_c]
  congr 2
  unfold chkD
  rw [← part_eq (z := true) (hb d.has 1) (m := mayV d.value) id bare_may, ← part_eq (z := true) (hb d.has 4) (m := calledV d.get) called_may bare_called, ← part_eq (z := true) (hb d.has 8) (m := calledV d.set) called_may bare_called]
  cases decide (d.has > 63) <;> cases (dataH d.has) <;> cases (accH d.has) <;> cases mayV d.value <;> cases calledV d.get <;> cases calledV d.set <;> cases (hb d.has 1) <;> cases zeroV d.value <;> try rfl
  all_goals (cases (hb d.has 4) <;> cases zeroV d.get <;> try rfl)
  all_goals (cases (hb d.has 8) <;> cases zeroV d.set <;> try rfl)
  all_goals (cases (hb d.has 2) <;> cases d.wri <;> cases (hb d.has 16) <;> cases d.enu <;> cases (hb d.has 32) <;> cases d.con <;> rfl)

end Bz
