/- The law over plain data. -/
import Derived.Test.YtjlgkjmbndmkjaaPApp
set_option linter.all false
set_option linter.unusedVariables false
set_option linter.unusedSimpArgs false
namespace Bz
open Go Ieee S

def alikeD (a b : Dsc) : Bool := (a.has == b.has && (a.wri == b.wri && (a.enu == b.enu && a.con == b.con))) && (alikeV a.value b.value && (alikeV a.get b.get && alikeV a.set b.set))
theorem ref09_Alike_ok {n : Nat} (hn : 3 ≤ n) (a b : Dsc) : runF D n 57 [.agg a.enc, .agg b.enc] = some (.bool (alikeD a b)) := by
  obtain ⟨n, rfl⟩ : ∃ m, n = m + 1 := ⟨n - 1, by omega⟩
  have h1 := ref07_Alike_ok (n := n) (by omega)
  rw [bailiffref09_Alike.run]; unfold bailiffref09_Alike.M
  try simp only [callK, Sh.dec, cond_some_bool, cond_some_int, Bool.cond_self, kI, kU, cond_true, cond_false, h1, bailiffref09_Alike.T2_c, bailiffref09_Alike.T1_c, bailiffref09_Alike.T0_c, bailiffref09_Alike.T6_c, bailiffref09_Alike.T5_c, bailiffref09_Alike.T4_c, bailiffref09_Alike.T3_c]
  simp only [bailiffref09_Alike.T2_eq, bailiffref09_Alike.T2E]; try simp only [callK, Sh.dec, cond_some_bool, cond_some_int, Bool.cond_self, kI, kU, cond_true, cond_false, h1, bailiffref09_Alike.T2_c, bailiffref09_Alike.T1_c, bailiffref09_Alike.T0_c, bailiffref09_Alike.T6_c, bailiffref09_Alike.T5_c, bailiffref09_Alike.T4_c, bailiffref09_Alike.T3_c]
  simp only [bailiffref09_Alike.T1_eq, bailiffref09_Alike.T1E]; try simp only [callK, Sh.dec, cond_some_bool, cond_some_int, Bool.cond_self, kI, kU, cond_true, cond_false, h1, bailiffref09_Alike.T2_c, bailiffref09_Alike.T1_c, bailiffref09_Alike.T0_c, bailiffref09_Alike.T6_c, bailiffref09_Alike.T5_c, bailiffref09_Alike.T4_c, bailiffref09_Alike.T3_c]
  simp only [bailiffref09_Alike.T0_eq, bailiffref09_Alike.T0E]; try simp only [callK, Sh.dec, cond_some_bool, cond_some_int, Bool.cond_self, kI, kU, cond_true, cond_false, h1, bailiffref09_Alike.T2_c, bailiffref09_Alike.T1_c, bailiffref09_Alike.T0_c, bailiffref09_Alike.T6_c, bailiffref09_Alike.T5_c, bailiffref09_Alike.T4_c, bailiffref09_Alike.T3_c]
  simp only [bailiffref09_Alike.T6_eq, bailiffref09_Alike.T6E]; try simp only [callK, Sh.dec, cond_some_bool, cond_some_int, Bool.cond_self, kI, kU, cond_true, cond_false, h1, bailiffref09_Alike.T2_c, bailiffref09_Alike.T1_c, bailiffref09_Alike.T0_c, bailiffref09_Alike.T6_c, bailiffref09_Alike.T5_c, bailiffref09_Alike.T4_c, bailiffref09_Alike.T3_c]
  simp only [bailiffref09_Alike.T5_eq, bailiffref09_Alike.T5E]; try simp only [callK, Sh.dec, cond_some_bool, cond_some_int, Bool.cond_self, kI, kU, cond_true, cond_false, h1, bailiffref09_Alike.T2_c, bailiffref09_Alike.T1_c, bailiffref09_Alike.T0_c, bailiffref09_Alike.T6_c, bailiffref09_Alike.T5_c, bailiffref09_Alike.T4_c, bailiffref09_Alike.T3_c]
  simp only [bailiffref09_Alike.T4_eq, bailiffref09_Alike.T4E]; try simp only [callK, Sh.dec, cond_some_bool, cond_some_int, Bool.cond_self, kI, kU, cond_true, cond_false, h1, bailiffref09_Alike.T2_c, bailiffref09_Alike.T1_c, bailiffref09_Alike.T0_c, bailiffref09_Alike.T6_c, bailiffref09_Alike.T5_c, bailiffref09_Alike.T4_c, bailiffref09_Alike.T3_c]
  simp only [bailiffref09_Alike.T3_eq, bailiffref09_Alike.T3E]; try simp only [callK, Sh.dec, cond_some_bool, cond_some_int, Bool.cond_self, kI, kU, cond_true, cond_false, h1, bailiffref09_Alike.T2_c, bailiffref09_Alike.T1_c, bailiffref09_Alike.T0_c, bailiffref09_Alike.T6_c, bailiffref09_Alike.T5_c, bailiffref09_Alike.T4_c, bailiffref09_Alike.T3_c]
  unfold alikeD
  cases (a.has == b.has) <;> cases (a.wri == b.wri) <;> cases (a.enu == b.enu) <;> cases (a.con == b.con) <;> cases alikeV a.value b.value <;> cases alikeV a.get b.get <;> cases alikeV a.set b.set <;> rfl
theorem ap_alike (a0 a2 : Bool) {a1 a3 : Dsc} (d1 : Dok a1) : alikeD (apD a0 a1 a2 a3) (apR a0 a1 a2 a3) = true := by
  unfold apD apR
  cases hc : (cmpR a0 a1 a2 a3).1 with
  | false =>
    show alikeD zd zd = true
    simp [alikeD, alike_self]
  | true =>
    have hk := (cmp_err a0 a1 a2 a3 hc).1
    unfold okD at hk
    simp only [Bool.and_eq_true] at hk
    have hp := chk_parts hk.1
    have hw := whole_chk d1.h0 d1.h1 (chk_bits hk.1).1 (chk_bits hk.1).2
    rw [hw.1, hw.2]
    cases a2 with
    | false => simp [alikeD, alike_self]
    | true =>
      cases swD a1 a3 with
      | false => simp [alikeD, alike_self]
      | true =>
        obtain ⟨p1, p4, p8, p2, _, _⟩ := hp
        have q1 : alikeV (cond (hb a1.has 1) a1.value zv) a1.value = true := by
          cases h : hb a1.has 1 with
          | true => exact alike_self _
          | false => exact alike_zero (p1 h)
        have q4 : alikeV (cond (hb a1.has 4) a1.get zv) a1.get = true := by
          cases h : hb a1.has 4 with
          | true => exact alike_self _
          | false => exact alike_zero (p4 h)
        have q8 : alikeV (cond (hb a1.has 8) a1.set zv) a1.set = true := by
          cases h : hb a1.has 8 with
          | true => exact alike_self _
          | false => exact alike_zero (p8 h)
        have q2 : cond (hb a1.has 2) a1.wri false = a1.wri := by
          cases h : hb a1.has 2 with
          | true => rfl
          | false => rw [p2 h]; rfl
        unfold alikeD
        simp only [cond_true, q1, q4, q8, q2]
        simp
theorem long_ok {n : Nat} (hn : 1 ≤ n) (d : Dsc) : ∃ b, runF D n 4 [.agg d.enc] = some (.bool b) := by
  obtain ⟨n, rfl⟩ : ∃ m, n = m + 1 := ⟨n - 1, by omega⟩
  rw [bailifflaw09_long.run]; unfold bailifflaw09_long.M
  try simp only [callK, Sh.dec, cond_some_bool, cond_some_int, Bool.cond_self, kI, kU, cond_true, cond_false, bailifflaw09_long.T1_c, bailifflaw09_long.T0_c]
  simp only [bailifflaw09_long.T1_eq, bailifflaw09_long.T1E]; try simp only [callK, Sh.dec, cond_some_bool, cond_some_int, Bool.cond_self, kI, kU, cond_true, cond_false, bailifflaw09_long.T1_c, bailifflaw09_long.T0_c]
  simp only [bailifflaw09_long.T0_eq, bailifflaw09_long.T0E]; try simp only [callK, Sh.dec, cond_some_bool, cond_some_int, Bool.cond_self, kI, kU, cond_true, cond_false, bailifflaw09_long.T1_c, bailifflaw09_long.T0_c]
  exact ⟨_, rfl⟩
theorem descTwos {a1 a3 : Dsc} (a0 a2 : Bool) (d1 : Dok a1) (d3 : Dok a3) {n : Nat} (hn : 11 ≤ n) : runF D n 1 [.bool a0, .agg a1.enc, .bool a2, .agg a3.enc] = some (.bool true) := by
  obtain ⟨n, rfl⟩ : ∃ m, n = m + 1 := ⟨n - 1, by omega⟩
  obtain ⟨b1, l1⟩ := long_ok (n := n) (by omega) a1
  obtain ⟨b3, l3⟩ := long_ok (n := n) (by omega) a3
  have h1 := desc_Compatible_ok (n := n) (by omega) a0 a2 d1 d3
  have h2 := ref09_Compatible_ok (n := n) (by omega) a0 a2 d1 d3
  have h3 := desc_Apply_ok (n := n) (by omega) a0 a2 d1 d3
  have h4 := ref09_Apply_ok (n := n) (by omega) a0 a2 d1 d3
  have h5 : alikeD (apD a0 a1 a2 a3) (apR a0 a1 a2 a3) = true := ap_alike a0 a2 d1
  revert h3 h4 h5
  generalize apD a0 a1 a2 a3 = X
  generalize apR a0 a1 a2 a3 = Y
  intro h3 h4 h5
  have h6 : runF D n 57 [(DV.agg [(DV.int Go.IntKind.u8 (Dsc.has X)), (DV.int Go.IntKind.u8 (Val.kind (Dsc.value X))), (DV.float (Val.num (Dsc.value X))), (DV.str (Val.str (Dsc.value X))), (DV.int Go.IntKind.i64 (Val.ref (Dsc.value X))), (DV.int Go.IntKind.u8 (Val.kind (Dsc.get X))), (DV.float (Val.num (Dsc.get X))), (DV.str (Val.str (Dsc.get X))), (DV.int Go.IntKind.i64 (Val.ref (Dsc.get X))), (DV.int Go.IntKind.u8 (Val.kind (Dsc.set X))), (DV.float (Val.num (Dsc.set X))), (DV.str (Val.str (Dsc.set X))), (DV.int Go.IntKind.i64 (Val.ref (Dsc.set X))), (DV.bool (Dsc.wri X)), (DV.bool (Dsc.enu X)), (DV.bool (Dsc.con X))]), (DV.agg [(DV.int Go.IntKind.u8 (Dsc.has Y)), (DV.int Go.IntKind.u8 (Val.kind (Dsc.value Y))), (DV.float (Val.num (Dsc.value Y))), (DV.str (Val.str (Dsc.value Y))), (DV.int Go.IntKind.i64 (Val.ref (Dsc.value Y))), (DV.int Go.IntKind.u8 (Val.kind (Dsc.get Y))), (DV.float (Val.num (Dsc.get Y))), (DV.str (Val.str (Dsc.get Y))), (DV.int Go.IntKind.i64 (Val.ref (Dsc.get Y))), (DV.int Go.IntKind.u8 (Val.kind (Dsc.set Y))), (DV.float (Val.num (Dsc.set Y))), (DV.str (Val.str (Dsc.set Y))), (DV.int Go.IntKind.i64 (Val.ref (Dsc.set Y))), (DV.bool (Dsc.wri Y)), (DV.bool (Dsc.enu Y)), (DV.bool (Dsc.con Y))])] = some (.bool true) := by
    have := ref09_Alike_ok (n := n) (by omega) X Y
    rw [h5] at this; exact this
  rw [bailifflaw09_DescTwos.run]; unfold bailifflaw09_DescTwos.M
  have s0 : bailifflaw09_DescTwos.T0 bailifflaw09_DescTwos.ts (runF D n) n a0 a1 a2 a3 false = some (.bool true) := by
    rw [bailifflaw09_DescTwos.T0_eq]; unfold bailifflaw09_DescTwos.T0E
    rw [cond_false, callK_of h1 rfl, callK_of h2 rfl, callK_of (x := (X, (cmpR a0 a1 a2 a3).1, (cmpR a0 a1 a2 a3).2)) h3 rfl, callK_of (x := (Y, (cmpR a0 a1 a2 a3).1, (cmpR a0 a1 a2 a3).2)) h4 rfl, beq_self_eq_true, cond_true]
    rw [bailifflaw09_DescTwos.T4_eq]; unfold bailifflaw09_DescTwos.T4E
    rw [beq_self_eq_true, beq_self_eq_true, cond_true, bailifflaw09_DescTwos.T3_eq]; unfold bailifflaw09_DescTwos.T3E
    rw [beq_self_eq_true, cond_true, bailifflaw09_DescTwos.T2_eq]; unfold bailifflaw09_DescTwos.T2E
    rw [cond_true, callK_of h6 rfl, bailifflaw09_DescTwos.T1_eq]; unfold bailifflaw09_DescTwos.T1E
    rfl
  have s1 : bailifflaw09_DescTwos.T0 bailifflaw09_DescTwos.ts (runF D n) n a0 a1 a2 a3 true = some (.bool true) := by
    rw [bailifflaw09_DescTwos.T0_eq]; unfold bailifflaw09_DescTwos.T0E
    rw [cond_true]
  rw [callK_of l1 rfl]
  cases b1 with
  | true => rw [cond_true, s1]
  | false =>
    rw [cond_false, callK_of l3 rfl]
    cases b3 with
    | true => rw [s1]
    | false => rw [s0]
end Bz
