/- Values: what the program's and the document's functions answer. -/
import Derived.Test.YtjlgkjmbndmkjabPNum
set_option linter.all false
set_option linter.unusedVariables false
set_option linter.unusedSimpArgs false
namespace Bz
open Go Ieee S

/-! Small words. -/
theorem toList_loop (b : ByteArray) : ∀ (n i : Nat) (r : List UInt8), b.size - i = n → ByteArray.toList.loop b i r = r.reverse ++ b.data.toList.drop i := by
  intro n
  induction n with
  | zero =>
    intro i r h
    rw [ByteArray.toList.loop, if_neg (by omega)]
    have : b.data.toList.length ≤ i := by
      have : b.data.toList.length = b.size := Array.length_toList
      omega
    rw [List.drop_eq_nil_of_le this, List.append_nil]
  | succ n ih =>
    intro i r h
    have hl : b.data.toList.length = b.size := Array.length_toList
    have hi : i < b.data.toList.length := by omega
    rw [ByteArray.toList.loop, if_pos (by omega), ih (i + 1) _ (by omega), List.drop_eq_getElem_cons hi]
    have : b.get! i = b.data.toList[i] := by
      have hi' : i < b.data.size := by simpa using hi
      show b.data[i]! = _
      rw [getElem!_pos b.data i hi']; simp
    simp [this]
theorem toList_eq (b : ByteArray) : b.toList = b.data.toList := by
  have := toList_loop b b.size 0 [] (by simp)
  simpa [ByteArray.toList] using this
theorem toList_bs (l : List UInt8) : (bs l).toList = l := by rw [toList_eq]; simp [bs]
theorem str_ext {a b : ByteArray} (h : (a.toList == b.toList) = true) : a = b := by
  have h1 := eq_of_beq h
  rw [toList_eq, toList_eq] at h1
  cases a; cases b; simp at h1; simp [h1]
theorem str_self (a : ByteArray) : (a.toList == a.toList) = true := by simp

theorem cond_some_bool (c x y : Bool) : cond c (some (DV.bool x)) (some (DV.bool y)) = some (.bool (cond c x y)) := by cases c <;> rfl
theorem cond_some_int (c : Bool) (k : IntKind) (x y : Int) : cond c (some (DV.int k x)) (some (DV.int k y)) = some (.int k (cond c x y)) := by cases c <;> rfl
theorem kI : kindEq IntKind.i64 IntKind.i64 = true := rfl
theorem kU : kindEq IntKind.u8 IntKind.u8 = true := rfl
theorem cond_some_tup2 (c x y : Bool) (k : IntKind) (i j : Int) : cond c (some (DV.tup [.bool x, .int k i])) (some (DV.tup [.bool y, .int k j])) = some (.tup [.bool (cond c x y), .int k (cond c i j)]) := by cases c <;> rfl

/-! Numbers once more. -/
def sameN (a b : Nat) : Bool := cond (isNaN a || isNaN b) (isNaN a && isNaN b) (ordB a b .eq && (!ordB a 0 .eq || ((Ieee.double.order (Option.getD (Ieee.double.div 4607182418800017408 a) qnan) (Option.getD (Ieee.double.div 4607182418800017408 b) qnan)) == some Ordering.eq)))
theorem ord_self {a : Nat} (h : isNaN a = false) : ordB a a .eq = true := by
  have := order_self a
  rw [h] at this
  unfold ordB
  simpa [bne] using this
theorem sameN_self (a : Nat) : sameN a a = true := by
  unfold sameN
  cases h : isNaN a with
  | true => rfl
  | false =>
    simp only [ord_self h, Bool.or_self, cond_false, Bool.true_and]
    cases h2 : ordB a 0 .eq with
    | false => rfl
    | true =>
      rw [one_over h2]
      cases minus a <;> decide
theorem nan_zero {a : Nat} (h : isNaN a = true) (x : Nat) : Ieee.double.order a x = none ∧ Ieee.double.order x a = none := by
  rw [order_rd, order_rd]; rw [isNaN_rd] at h
  cases hd : rd a with
  | nan s t => exact ⟨by cases rd x <;> rfl, by cases rd x <;> rfl⟩
  | _ => rw [hd] at h; cases h
theorem order_zero_comm (a : Nat) : ordB 0 a .eq = ordB a 0 .eq := by
  unfold ordB; rw [order_rd, order_rd, rd_zero]
  cases rd a with
  | nan s t => rfl
  | infinity s => cases s <;> rfl
  | number s m k =>
    simp only [Datum.order]
    rw [(int_order _ _).2.1, (int_order _ _).2.1, Int.min_comm]
    exact decide_eq_decide.mpr ⟨Eq.symm, Eq.symm⟩
theorem sameN_zero (a : Nat) : sameN a 0 = nought a := by
  unfold sameN nought
  have h0 : isNaN 0 = false := by decide
  cases h : isNaN a with
  | true => simp [h0, ordB, (nan_zero h 0).1]
  | false =>
    simp only [h0, Bool.or_self, cond_false]
    cases h2 : ordB a 0 .eq with
    | false => rfl
    | true =>
      rw [one_over h2]
      cases minus a <;> decide
theorem sameN_zero' (a : Nat) : sameN 0 a = nought a := by
  unfold sameN nought
  have h0 : isNaN 0 = false := by decide
  have h00 : ordB 0 0 .eq = true := by decide
  cases h : isNaN a with
  | true => simp [h0, ordB, (nan_zero h 0).1]
  | false =>
    simp only [h0, Bool.or_self, cond_false, h00, order_zero_comm]
    cases h2 : ordB a 0 .eq with
    | false => rfl
    | true =>
      rw [one_over h2]
      cases minus a <;> decide

/-! Values. -/
abbrev toL (s : ByteArray) : List UInt8 := s.toList
def isE (s : ByteArray) : Bool := s.toList == (bs []).toList
def mayV (v : Val) : Bool :=
  decide (v.kind ≤ 8) && ((cond (v.kind == 3) (numMay v.num) (nought v.num || (v.kind == 2 && ordB v.num 4607182418800017408 .eq))) &&
    ((isE v.str || (v.kind == 4 && decide (((v.str.size : Nat) : Int) ≤ 4096))) && (v.ref == 0 || (decide (v.kind ≥ 5) && decide (v.ref > 0)))))
def callsV (v : Val) : Bool := v.kind == 7 || v.kind == 8
def objV (v : Val) : Bool := v.kind == 6 || (v.kind == 7 || v.kind == 8)
def calledV (v : Val) : Bool := mayV v && (v.kind == 0 || callsV v)
def zeroV (v : Val) : Bool := (v.kind == 0) && ((ordB v.num 0 .eq) && (isE v.str && ((v.ref == 0) && true)))
def bareV (v : Val) : Bool := (v.kind == 0) && (isE v.str && ((v.ref == 0) && nought v.num))
def alikeV (v w : Val) : Bool := v.kind == w.kind && (v.str.toList == w.str.toList && (v.ref == w.ref && sameN v.num w.num))
def sameV (v w : Val) : Bool :=
  cond (objV v && objV w) (v.ref == w.ref) (v.kind == w.kind && (cond (v.kind == 0 || v.kind == 1) true (cond (v.kind == 2) (ordB v.num w.num .eq)
    (cond (v.kind == 3) (ordB v.num w.num .eq || (isNaN v.num && isNaN w.num)) (cond (v.kind == 4) (v.str.toList == w.str.toList) (v.kind == 5 && v.ref == w.ref))))))
structure Vok (v : Val) : Prop where
  k0 : 0 ≤ v.kind
  n : v.num < 2 ^ 64

theorem numMay_0 : numMay 0 = true := by decide
theorem nought_eq (b : Nat) : nought b = (ordB b 0 .eq && numMay b) := by
  unfold nought
  cases h : ordB b 0 .eq with
  | false => rfl
  | true => rw [numMay_zero h]
theorem isE_size {s : ByteArray} (h : isE s = true) : s.size = 0 := by
  have := str_ext h
  rw [this]; rfl
theorem isE_nil : isE (bs []) = true := str_self _

theorem value_May_ok {n : Nat} (hn : 4 ≤ n) {v : Val} (hv : Vok v) : runF D n 182 [.agg v.enc] = some (.bool (mayV v)) := by
  obtain ⟨n, rfl⟩ : ∃ m, n = m + 1 := ⟨n - 1, by omega⟩
  have hm : runF D n 161 [.float v.num] = some (.bool (numMay v.num)) := num_May_ok (by omega) hv.n
  have hm0 : runF D n 161 [.float 0] = some (.bool (numMay 0)) := num_May_ok (by omega) (by decide)
  rw [value_May.run]; unfold value_May.M
  simp only [value_May.T0_c, value_May.T1_c, value_May.T2_c, value_May.T3_c, value_May.T4_c, value_May.T5_c, value_May.T0_eq, value_May.T0E, value_May.T1_eq, value_May.T1E, value_May.T2_eq, value_May.T2E,
    value_May.T3_eq, value_May.T3E, value_May.T4_eq, value_May.T4E, value_May.T5_eq, value_May.T5E, callK, hm, hm0, Sh.dec, cond_some_bool, numMay_0]
  congr 2
  obtain ⟨k, b, s, r⟩ := v
  have hk := hv.k0
  unfold mayV
  rw [nought_eq]
  simp only at hk ⊢
  unfold isE at *
  have hs : (s.toList == (bs []).toList) = true → s.size = 0 := fun h => isE_size h
  have h00 : (Ieee.double.order 0 0 == some Ordering.eq) = true := by decide
  have hE : ((bs []).toList == (bs []).toList) = true := str_self _
  unfold ordB
  by_cases hk8 : k > 8
  · have : ¬ k ≤ 8 := by omega
    simp [hk8, this]
  · have hk8' : k ≤ 8 := by omega
    by_cases hr : r < 0
    · have h1 : ¬ r = 0 := by omega
      have h2 : ¬ r > 0 := by omega
      simp [hr, h1, h2]
    · by_cases hz : ((s.size : Nat) : Int) > 4096
      · have h1 : ¬ ((s.size : Nat) : Int) ≤ 4096 := by omega
        have h2 : (s.toList == (bs []).toList) = false := by
          cases h : (s.toList == (bs []).toList) with
          | false => rfl
          | true => have := hs h; omega
        simp [hz, h1, h2]
      · have h1 : ((s.size : Nat) : Int) ≤ 4096 := by omega
        simp only [hr, hk8, hz, decide_false, cond_false, hk8', decide_true, Bool.true_and, h1, Bool.and_true, Bool.true_or, cond_true, Bool.cond_self, beq_self_eq_true]
        rcases (by omega : r = 0 ∨ r > 0) with hr0 | hr0
        · have hr1 : (r == 0) = true := by rw [hr0]; rfl
          have hr2 : decide (r > 0) = false := by rw [hr0]; rfl
          clear hm hm0 hs hv
          simp only [hr1, hr2, bne]
          rcases (by omega : k = 0 ∨ k = 1 ∨ k = 2 ∨ k = 3 ∨ k = 4 ∨ k = 5 ∨ k = 6 ∨ k = 7 ∨ k = 8) with h | h | h | h | h | h | h | h | h <;> subst h <;>
            generalize (Ieee.double.order b 0 == some Ordering.eq) = z0 <;> generalize numMay b = z1 <;> generalize (s.toList == (bs []).toList) = z2 at * <;>
            generalize (Ieee.double.order b 4607182418800017408 == some Ordering.eq) = z3 <;> simp only [h00, hE] <;> clear h00 hE <;> cases z0 <;> cases z1 <;> cases z2 <;> cases z3 <;> rfl
        · have hr1 : (r == 0) = false := by
            cases h : (r == 0) with
            | false => rfl
            | true => have := eq_of_beq h; omega
          have hr2 : decide (r > 0) = true := decide_eq_true hr0
          clear hm hm0 hs hv
          simp only [hr1, hr2, bne]
          rcases (by omega : k = 0 ∨ k = 1 ∨ k = 2 ∨ k = 3 ∨ k = 4 ∨ k = 5 ∨ k = 6 ∨ k = 7 ∨ k = 8) with h | h | h | h | h | h | h | h | h <;> subst h <;>
            generalize (Ieee.double.order b 0 == some Ordering.eq) = z0 <;> generalize numMay b = z1 <;> generalize (s.toList == (bs []).toList) = z2 at * <;>
            generalize (Ieee.double.order b 4607182418800017408 == some Ordering.eq) = z3 <;> simp only [h00, hE] <;> clear h00 hE <;> cases z0 <;> cases z1 <;> cases z2 <;> cases z3 <;> rfl

theorem cIsObj (k : Int) : (decide (k ≥ 6) && decide (k ≤ 8)) = (k == 6 || (k == 7 || k == 8)) := by
  by_cases h : k = 6 ∨ k = 7 ∨ k = 8
  · rcases h with h | h | h <;> subst h <;> decide
  · have h1 : (k == 6) = false := by simp; omega
    have h2 : (k == 7) = false := by simp; omega
    have h3 : (k == 8) = false := by simp; omega
    rw [h1, h2, h3]
    by_cases h4 : k ≥ 6
    · have : ¬ k ≤ 8 := by omega
      simp [h4, this]
    · simp [h4]
theorem value_IsObject_ok {n : Nat} (hn : 1 ≤ n) (v : Val) : runF D n 181 [.agg v.enc] = some (.bool (objV v)) := by
  obtain ⟨n, rfl⟩ : ∃ m, n = m + 1 := ⟨n - 1, by omega⟩
  rw [value_IsObject.run]; unfold value_IsObject.M
  simp only [value_IsObject.T0_c, value_IsObject.T0_eq, value_IsObject.T0E, cond_some_bool, Bool.cond_false_right, cIsObj]
  rfl
theorem value_Calls_ok {n : Nat} (hn : 1 ≤ n) (v : Val) : runF D n 180 [.agg v.enc] = some (.bool (callsV v)) := by
  obtain ⟨n, rfl⟩ : ∃ m, n = m + 1 := ⟨n - 1, by omega⟩
  rw [value_Calls.run]; unfold value_Calls.M
  simp only [value_Calls.T0_c, value_Calls.T0_eq, value_Calls.T0E, cond_some_bool, Bool.cond_true_left]
  rfl
theorem desc_called_ok {n : Nat} (hn : 5 ≤ n) {v : Val} (hv : Vok v) : runF D n 133 [.agg v.enc] = some (.bool (calledV v)) := by
  obtain ⟨n, rfl⟩ : ∃ m, n = m + 1 := ⟨n - 1, by omega⟩
  rw [desc_called.run]; unfold desc_called.M
  simp only [desc_called.T0_c, desc_called.T0_eq, desc_called.T0E, cond_some_bool, callK, value_May_ok (n := n) (by omega) hv, value_Calls_ok (n := n) (by omega), Sh.dec, Bool.cond_true_left, Bool.cond_false_right]
  rfl
theorem value_Strict_ok {n : Nat} (hn : 2 ≤ n) (v w : Val) : ∃ b, runF D n 186 [.agg v.enc, .agg w.enc] = some (.bool b) ∧
    b = cond (objV v && objV w) (v.ref == w.ref) (v.kind == w.kind && (cond (v.kind == 0 || v.kind == 1) true (cond (v.kind == 2 || v.kind == 3) (ordB v.num w.num .eq)
      (cond (v.kind == 4) (v.str.toList == w.str.toList) (v.kind == 5 && v.ref == w.ref))))) := by
  obtain ⟨n, rfl⟩ : ∃ m, n = m + 1 := ⟨n - 1, by omega⟩
  rw [value_Strict.run]; unfold value_Strict.M
  simp only [value_Strict.T0_c, value_Strict.T1_c, value_Strict.T2_c, value_Strict.T3_c, value_Strict.T0_eq, value_Strict.T0E, value_Strict.T1_eq, value_Strict.T1E, value_Strict.T2_eq, value_Strict.T2E, value_Strict.T3_eq, value_Strict.T3E, callK,
    value_IsObject_ok (n := n) (by omega), Sh.dec, cond_some_bool]
  refine ⟨_, rfl, ?_⟩
  unfold ordB bne
  generalize (v.kind == 0) = k0
  generalize (v.kind == 1) = k1
  generalize (v.kind == 2) = k2
  generalize (v.kind == 3) = k3
  cases objV v <;> cases objV w <;> cases (v.kind == w.kind) <;> cases k0 <;> cases k1 <;> cases k2 <;> cases k3 <;> cases (v.kind == 4) <;> cases (v.kind == 5) <;> simp
theorem value_Same_ok {n : Nat} (hn : 3 ≤ n) (v w : Val) : runF D n 184 [.agg v.enc, .agg w.enc] = some (.bool (sameV v w)) := by
  obtain ⟨n, rfl⟩ : ∃ m, n = m + 1 := ⟨n - 1, by omega⟩
  obtain ⟨b, hb, he⟩ := value_Strict_ok (n := n) (by omega) v w
  rw [value_Same.run]; unfold value_Same.M
  simp only [value_Same.T0_c, value_Same.T1_c, value_Same.T0_eq, value_Same.T0E, value_Same.T1_eq, value_Same.T1E, callK, hb, Sh.dec, cond_some_bool, order_self]
  congr 2
  rw [he]
  unfold sameV objV
  have hnan : isNaN v.num = true → ordB v.num w.num .eq = false := fun h => by unfold ordB; rw [(nan_zero h _).1]; rfl
  by_cases h3 : v.kind = 3
  · rw [h3]
    by_cases h4 : w.kind = 3
    · rw [h4]
      cases hv : isNaN v.num with
      | true => rw [hnan hv]; simp
      | false => simp
    · have : (w.kind == 3) = false := by simp [h4]
      have h5 : ((3 : Int) == w.kind) = false := by simp; omega
      simp [this, h5]
  · have : (v.kind == 3) = false := by simp [h3]
    simp [this]
theorem may_zero {v : Val} (h : mayV v = true) : zeroV v = bareV v := by
  unfold zeroV bareV
  unfold mayV at h
  rw [nought_eq] at h ⊢
  cases hk : (v.kind == 0) with
  | false => rfl
  | true =>
    rw [eq_of_beq hk] at h
    revert h
    cases ordB v.num 0 .eq <;> cases isE v.str <;> cases (v.ref == 0) <;> cases numMay v.num <;> simp
theorem bare_may {v : Val} (h : bareV v = true) : mayV v = true := by
  unfold bareV at h
  unfold mayV
  simp only [Bool.and_eq_true] at h
  obtain ⟨h1, h2, h3, h4⟩ := h
  rw [eq_of_beq h1, h2, h3, h4]; simp
theorem bare_called {v : Val} (h : bareV v = true) : calledV v = true := by
  have h1 := bare_may h
  unfold bareV at h
  simp only [Bool.and_eq_true] at h
  unfold calledV
  rw [h1, h.1]; rfl
theorem alike_self (v : Val) : alikeV v v = true := by
  unfold alikeV; rw [sameN_self]; simp
theorem alike_zero {v : Val} (h : bareV v = true) : alikeV ⟨0, 0, bs [], 0⟩ v = true := by
  unfold bareV isE at h
  unfold alikeV
  rw [sameN_zero']
  simp only [Bool.and_eq_true] at h
  obtain ⟨h1, h2, h3, h4⟩ := h
  have h5 := str_ext h2
  rw [eq_of_beq h1, eq_of_beq h3, h4, h5]; simp
end Bz
