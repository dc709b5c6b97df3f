/- What a descriptor becomes; the law. -/
import Derived.Test.YtjlgkjmbndmkjaaPTwos
set_option linter.all false
set_option linter.unusedVariables false
set_option linter.unusedSimpArgs false
namespace Bz
open Go Ieee S

def zv : Val := ⟨0, 0, bs [], 0⟩
def zd : Dsc := ⟨0, zv, zv, zv, false, false, false⟩
def swD (a1 a3 : Dsc) : Bool := (dataH a1.has && accH a3.has) || (accH a1.has && dataH a3.has)
theorem not48 {h : Int} (h0 : 0 ≤ h) (h1 : h ≤ 255) : 0 ≤ bNot .u8 h 48 ∧ bNot .u8 h 48 ≤ 255 := by
  have := bits_of (p := fun h => decide (0 ≤ bNot .u8 h 48) && decide (bNot .u8 h 48 ≤ 255)) (by decide +kernel) h0 h1
  simpa using this
theorem whole_chk {h : Int} (h0 : 0 ≤ h) (h1 : h ≤ 255) (h63 : decide (h > 63) = false) (hx : (dataH h && accH h) = false) : wholeH h = cond (accH h) 60 51 ∧ wholeH (bNot .u8 h 48) = cond (accH h) 60 51 := by
  have := bits_of (p := fun h => decide (h > 63) || (dataH h && accH h) || ((wholeH h == cond (accH h) 60 51) && (wholeH (bNot .u8 h 48) == cond (accH h) 60 51))) (by decide +kernel) h0 h1
  simp only [h63, hx, Bool.false_or, Bool.and_eq_true] at this
  exact ⟨eq_of_beq this.1, eq_of_beq this.2⟩
def apD (a0 : Bool) (a1 : Dsc) (a2 : Bool) (a3 : Dsc) : Dsc :=
  cond (cmpR a0 a1 a2 a3).1
    (cond a2 ⟨cond (swD a1 a3) (wholeH (bNot .u8 a1.has 48)) a3.has, cond (hb a1.has 1) a1.value (cond (swD a1 a3) zv a3.value), cond (hb a1.has 4) a1.get (cond (swD a1 a3) zv a3.get), cond (hb a1.has 8) a1.set (cond (swD a1 a3) zv a3.set),
      cond (hb a1.has 2) a1.wri (cond (swD a1 a3) false a3.wri), cond (hb a1.has 16) a1.enu a3.enu, cond (hb a1.has 32) a1.con a3.con⟩ ⟨wholeH a1.has, a1.value, a1.get, a1.set, a1.wri, a1.enu, a1.con⟩) zd
def apR (a0 : Bool) (a1 : Dsc) (a2 : Bool) (a3 : Dsc) : Dsc :=
  cond (cmpR a0 a1 a2 a3).1
    (cond a2 ⟨cond (swD a1 a3) (cond (accH a1.has) 60 51) a3.has, cond (swD a1 a3) a1.value (cond (hb a1.has 1) a1.value a3.value), cond (swD a1 a3) a1.get (cond (hb a1.has 4) a1.get a3.get), cond (swD a1 a3) a1.set (cond (hb a1.has 8) a1.set a3.set),
      cond (swD a1 a3) a1.wri (cond (hb a1.has 2) a1.wri a3.wri), cond (hb a1.has 16) a1.enu a3.enu, cond (hb a1.has 32) a1.con a3.con⟩ ⟨cond (accH a1.has) 60 51, a1.value, a1.get, a1.set, a1.wri, a1.enu, a1.con⟩) zd
theorem cmp_err (a0 : Bool) (a1 : Dsc) (a2 : Bool) (a3 : Dsc) (h : (cmpR a0 a1 a2 a3).1 = true) : okD a1 a2 a3 = true ∧ (cmpR a0 a1 a2 a3).2 = 0 := by
  unfold cmpR at *
  simp only [Bool.and_eq_true] at h
  rw [h.1]; exact ⟨rfl, rfl⟩
theorem cmp_or (a0 : Bool) (a1 : Dsc) (a2 : Bool) (a3 : Dsc) : (cond ((cmpR a0 a1 a2 a3).2 != 0) true (!(cmpR a0 a1 a2 a3).1)) = !(cmpR a0 a1 a2 a3).1 := by
  cases h : (cmpR a0 a1 a2 a3).1 with
  | true => rw [(cmp_err a0 a1 a2 a3 h).2]; rfl
  | false => cases ((cmpR a0 a1 a2 a3).2 != 0) <;> rfl

theorem desc_Apply_ok {n : Nat} (hn : 9 ≤ n) {a1 a3 : Dsc} (a0 a2 : Bool) (d1 : Dok a1) (d3 : Dok a3) :
    runF D n 124 [.bool a0, .agg a1.enc, .bool a2, .agg a3.enc] = some (.tup [.agg (Dsc.enc (apD a0 a1 a2 a3)), .bool (cmpR a0 a1 a2 a3).1, .int .i64 (cmpR a0 a1 a2 a3).2]) := by
  obtain ⟨n, rfl⟩ : ∃ m, n = m + 1 := ⟨n - 1, by omega⟩
  have h1 := desc_Compatible_ok (n := n) (by omega) a0 a2 d1 d3
  have h2 := desc_whole_ok (n := n) (by omega) d1.h0 d1.h1
  have h3 := desc_IsData_ok (n := n) (by omega) d1
  have h4 := desc_IsData_ok (n := n) (by omega) d3
  have h5 := desc_IsAccess_ok (n := n) (by omega) d1
  have h6 := desc_IsAccess_ok (n := n) (by omega) d3
  have h7 : runF D n 135 [(DV.agg [(DV.int Go.IntKind.u8 (bNot Go.IntKind.u8 (Dsc.has a1) (48 : Int))), (DV.int Go.IntKind.u8 (0 : Int)), (DV.float 0), (DV.str (bs [])), (DV.int Go.IntKind.i64 (0 : Int)), (DV.int Go.IntKind.u8 (0 : Int)), (DV.float 0), (DV.str (bs [])), (DV.int Go.IntKind.i64 (0 : Int)), (DV.int Go.IntKind.u8 (0 : Int)), (DV.float 0), (DV.str (bs [])), (DV.int Go.IntKind.i64 (0 : Int)), (DV.bool Bool.false), (DV.bool (Dsc.enu a3)), (DV.bool (Dsc.con a3))])] =
      some (.agg (Dsc.enc ⟨wholeH (bNot .u8 a1.has 48), zv, zv, zv, false, a3.enu, a3.con⟩)) :=
    desc_whole_ok (n := n) (d := ⟨bNot .u8 a1.has 48, zv, zv, zv, false, a3.enu, a3.con⟩) (by omega) (not48 d1.h0 d1.h1).1 (not48 d1.h0 d1.h1).2
  rw [desc_Apply.run]; unfold desc_Apply.M
  try simp only [callK, Sh.dec, cond_some_bool, cond_some_int, Bool.cond_self, kI, kU, cond_true, cond_false, h1, h2, h3, h4, h5, h6, h7, dsc_end, cmp_or, and1 d1.h0 d1.h1, and2 d1.h0 d1.h1, and4 d1.h0 d1.h1, and8 d1.h0 d1.h1, and16 d1.h0 d1.h1, and32 d1.h0 d1.h1, desc_Apply.T0_c, desc_Apply.T1_c, desc_Apply.T2_c, desc_Apply.T9_c, desc_Apply.T8_c, desc_Apply.T7_c, desc_Apply.T6_c, desc_Apply.T5_c, desc_Apply.T4_c, desc_Apply.T3_c]
  simp only [desc_Apply.T0_eq, desc_Apply.T0E]; try simp only [callK, Sh.dec, cond_some_bool, cond_some_int, Bool.cond_self, kI, kU, cond_true, cond_false, h1, h2, h3, h4, h5, h6, h7, dsc_end, cmp_or, and1 d1.h0 d1.h1, and2 d1.h0 d1.h1, and4 d1.h0 d1.h1, and8 d1.h0 d1.h1, and16 d1.h0 d1.h1, and32 d1.h0 d1.h1, desc_Apply.T0_c, desc_Apply.T1_c, desc_Apply.T2_c, desc_Apply.T9_c, desc_Apply.T8_c, desc_Apply.T7_c, desc_Apply.T6_c, desc_Apply.T5_c, desc_Apply.T4_c, desc_Apply.T3_c]
  simp only [desc_Apply.T1_eq, desc_Apply.T1E]; try simp only [callK, Sh.dec, cond_some_bool, cond_some_int, Bool.cond_self, kI, kU, cond_true, cond_false, h1, h2, h3, h4, h5, h6, h7, dsc_end, cmp_or, and1 d1.h0 d1.h1, and2 d1.h0 d1.h1, and4 d1.h0 d1.h1, and8 d1.h0 d1.h1, and16 d1.h0 d1.h1, and32 d1.h0 d1.h1, desc_Apply.T0_c, desc_Apply.T1_c, desc_Apply.T2_c, desc_Apply.T9_c, desc_Apply.T8_c, desc_Apply.T7_c, desc_Apply.T6_c, desc_Apply.T5_c, desc_Apply.T4_c, desc_Apply.T3_c]
  simp only [desc_Apply.T2_eq, desc_Apply.T2E]; try simp only [callK, Sh.dec, cond_some_bool, cond_some_int, Bool.cond_self, kI, kU, cond_true, cond_false, h1, h2, h3, h4, h5, h6, h7, dsc_end, cmp_or, and1 d1.h0 d1.h1, and2 d1.h0 d1.h1, and4 d1.h0 d1.h1, and8 d1.h0 d1.h1, and16 d1.h0 d1.h1, and32 d1.h0 d1.h1, desc_Apply.T0_c, desc_Apply.T1_c, desc_Apply.T2_c, desc_Apply.T9_c, desc_Apply.T8_c, desc_Apply.T7_c, desc_Apply.T6_c, desc_Apply.T5_c, desc_Apply.T4_c, desc_Apply.T3_c]
  simp only [desc_Apply.T9_eq, desc_Apply.T9E]; try simp only [callK, Sh.dec, cond_some_bool, cond_some_int, Bool.cond_self, kI, kU, cond_true, cond_false, h1, h2, h3, h4, h5, h6, h7, dsc_end, cmp_or, and1 d1.h0 d1.h1, and2 d1.h0 d1.h1, and4 d1.h0 d1.h1, and8 d1.h0 d1.h1, and16 d1.h0 d1.h1, and32 d1.h0 d1.h1, desc_Apply.T0_c, desc_Apply.T1_c, desc_Apply.T2_c, desc_Apply.T9_c, desc_Apply.T8_c, desc_Apply.T7_c, desc_Apply.T6_c, desc_Apply.T5_c, desc_Apply.T4_c, desc_Apply.T3_c]
  simp only [desc_Apply.T8_eq, desc_Apply.T8E]; try simp only [callK, Sh.dec, cond_some_bool, cond_some_int, Bool.cond_self, kI, kU, cond_true, cond_false, h1, h2, h3, h4, h5, h6, h7, dsc_end, cmp_or, and1 d1.h0 d1.h1, and2 d1.h0 d1.h1, and4 d1.h0 d1.h1, and8 d1.h0 d1.h1, and16 d1.h0 d1.h1, and32 d1.h0 d1.h1, desc_Apply.T0_c, desc_Apply.T1_c, desc_Apply.T2_c, desc_Apply.T9_c, desc_Apply.T8_c, desc_Apply.T7_c, desc_Apply.T6_c, desc_Apply.T5_c, desc_Apply.T4_c, desc_Apply.T3_c]
  simp only [desc_Apply.T7_eq, desc_Apply.T7E]; try simp only [callK, Sh.dec, cond_some_bool, cond_some_int, Bool.cond_self, kI, kU, cond_true, cond_false, h1, h2, h3, h4, h5, h6, h7, dsc_end, cmp_or, and1 d1.h0 d1.h1, and2 d1.h0 d1.h1, and4 d1.h0 d1.h1, and8 d1.h0 d1.h1, and16 d1.h0 d1.h1, and32 d1.h0 d1.h1, desc_Apply.T0_c, desc_Apply.T1_c, desc_Apply.T2_c, desc_Apply.T9_c, desc_Apply.T8_c, desc_Apply.T7_c, desc_Apply.T6_c, desc_Apply.T5_c, desc_Apply.T4_c, desc_Apply.T3_c]
  simp only [desc_Apply.T6_eq, desc_Apply.T6E]; try simp only [callK, Sh.dec, cond_some_bool, cond_some_int, Bool.cond_self, kI, kU, cond_true, cond_false, h1, h2, h3, h4, h5, h6, h7, dsc_end, cmp_or, and1 d1.h0 d1.h1, and2 d1.h0 d1.h1, and4 d1.h0 d1.h1, and8 d1.h0 d1.h1, and16 d1.h0 d1.h1, and32 d1.h0 d1.h1, desc_Apply.T0_c, desc_Apply.T1_c, desc_Apply.T2_c, desc_Apply.T9_c, desc_Apply.T8_c, desc_Apply.T7_c, desc_Apply.T6_c, desc_Apply.T5_c, desc_Apply.T4_c, desc_Apply.T3_c]
  simp only [desc_Apply.T5_eq, desc_Apply.T5E]; try simp only [callK, Sh.dec, cond_some_bool, cond_some_int, Bool.cond_self, kI, kU, cond_true, cond_false, h1, h2, h3, h4, h5, h6, h7, dsc_end, cmp_or, and1 d1.h0 d1.h1, and2 d1.h0 d1.h1, and4 d1.h0 d1.h1, and8 d1.h0 d1.h1, and16 d1.h0 d1.h1, and32 d1.h0 d1.h1, desc_Apply.T0_c, desc_Apply.T1_c, desc_Apply.T2_c, desc_Apply.T9_c, desc_Apply.T8_c, desc_Apply.T7_c, desc_Apply.T6_c, desc_Apply.T5_c, desc_Apply.T4_c, desc_Apply.T3_c]
  simp only [desc_Apply.T4_eq, desc_Apply.T4E]; try simp only [callK, Sh.dec, cond_some_bool, cond_some_int, Bool.cond_self, kI, kU, cond_true, cond_false, h1, h2, h3, h4, h5, h6, h7, dsc_end, cmp_or, and1 d1.h0 d1.h1, and2 d1.h0 d1.h1, and4 d1.h0 d1.h1, and8 d1.h0 d1.h1, and16 d1.h0 d1.h1, and32 d1.h0 d1.h1, desc_Apply.T0_c, desc_Apply.T1_c, desc_Apply.T2_c, desc_Apply.T9_c, desc_Apply.T8_c, desc_Apply.T7_c, desc_Apply.T6_c, desc_Apply.T5_c, desc_Apply.T4_c, desc_Apply.T3_c]
  simp only [desc_Apply.T3_eq, desc_Apply.T3E]; try simp only [callK, Sh.dec, cond_some_bool, cond_some_int, Bool.cond_self, kI, kU, cond_true, cond_false, h1, h2, h3, h4, h5, h6, h7, dsc_end, cmp_or, and1 d1.h0 d1.h1, and2 d1.h0 d1.h1, and4 d1.h0 d1.h1, and8 d1.h0 d1.h1, and16 d1.h0 d1.h1, and32 d1.h0 d1.h1, desc_Apply.T0_c, desc_Apply.T1_c, desc_Apply.T2_c, desc_Apply.T9_c, desc_Apply.T8_c, desc_Apply.T7_c, desc_Apply.T6_c, desc_Apply.T5_c, desc_Apply.T4_c, desc_Apply.T3_c]
  unfold apD
  cases hc : (cmpR a0 a1 a2 a3).1 with
  | false => rfl
  | true =>
    have he := (cmp_err a0 a1 a2 a3 hc).2
    rw [he]
    cases a2 with
    | false => rfl
    | true =>
      unfold swD
      cases dataH a1.has <;> cases dataH a3.has <;> cases accH a1.has <;> cases accH a3.has <;> cases hb a1.has 1 <;> cases hb a1.has 2 <;> cases hb a1.has 4 <;> cases hb a1.has 8 <;> cases hb a1.has 16 <;> cases hb a1.has 32 <;> rfl

end Bz
