/- Whether a descriptor may become so, and what it becomes. -/
import Derived.Test.YtjlgkjmbndmkjaaPDsc
set_option linter.all false
set_option linter.unusedVariables false
set_option linter.unusedSimpArgs false
namespace Bz
open Go Ieee S

def fullH (h : Int) : Bool := h == 51 || h == 60
def okD (a1 : Dsc) (a2 : Bool) (a3 : Dsc) : Bool := chkD a1 && (!a2 || (chkD a3 && fullH a3.has))
theorem dsc_end (x : Dsc) : endOf (Dsc.rd (Dsc.enc x)) = some x := rfl
theorem cond_ne (c : Bool) : (cond c (0 : Int) 90 != 0) = !c := by cases c <;> rfl
theorem cond_eq (c : Bool) : (cond c (0 : Int) 90 == 0) = c := by cases c <;> rfl
theorem full_eq {h : Int} (h0 : 0 ≤ h) (h1 : h ≤ 255) (h63 : decide (h > 63) = false) (hx : (dataH h && accH h) = false) : (h != wholeH h) = !fullH h := by
  have := bits_of (p := fun h => decide (h > 63) || (dataH h && accH h) || ((h != wholeH h) == !fullH h)) (by decide +kernel) h0 h1
  simp only [h63, hx, Bool.false_or] at this
  exact eq_of_beq this
theorem chk_bits {d : Dsc} (h : chkD d = true) : decide (d.has > 63) = false ∧ (dataH d.has && accH d.has) = false := by
  unfold chkD at h
  simp only [Bool.and_eq_true] at h
  have := h.1
  revert this
  cases decide (d.has > 63) <;> cases (dataH d.has && accH d.has) <;> simp
theorem chk_parts {d : Dsc} (h : chkD d = true) : (hb d.has 1 = false → bareV d.value = true) ∧ (hb d.has 4 = false → bareV d.get = true) ∧ (hb d.has 8 = false → bareV d.set = true) ∧
    (hb d.has 2 = false → d.wri = false) ∧ (hb d.has 16 = false → d.enu = false) ∧ (hb d.has 32 = false → d.con = false) := by
  unfold chkD at h
  simp only [Bool.and_eq_true] at h
  obtain ⟨_, h1, h2, h3, h4, h5, h6⟩ := h
  refine ⟨fun e => ?_, fun e => ?_, fun e => ?_, fun e => ?_, fun e => ?_, fun e => ?_⟩
  · rw [e] at h1; exact h1
  · rw [e] at h2; exact h2
  · rw [e] at h3; exact h3
  · rw [e] at h4; simpa using h4
  · rw [e] at h5; simpa using h5
  · rw [e] at h6; simpa using h6

theorem desc_asked_ok {n : Nat} (hn : 7 ≤ n) {a1 a3 : Dsc} (a2 : Bool) (d1 : Dok a1) (d3 : Dok a3) : runF D n 132 [.agg a1.enc, .bool a2, .agg a3.enc] = some (.int .i64 (cond (okD a1 a2 a3) 0 90)) := by
  obtain ⟨n, rfl⟩ : ∃ m, n = m + 1 := ⟨n - 1, by omega⟩
  have h1 := desc_Check_ok (n := n) (by omega) d1
  have h2 := desc_Check_ok (n := n) (by omega) d3
  have h3 := desc_whole_ok (n := n) (by omega) d3.h0 d3.h1
  rw [desc_asked.run]; unfold desc_asked.M
  try simp only [callK, Sh.dec, cond_some_bool, cond_some_int, Bool.cond_self, kI, kU, cond_true, cond_false, h1, h2, h3, dsc_end, cond_ne]
  unfold okD
  cases c1 : chkD a1 <;> cases a2 <;> cases c3 : chkD a3 <;> try rfl
  rw [full_eq d3.h0 d3.h1 (chk_bits c3).1 (chk_bits c3).2]
  cases fullH a3.has <;> rfl
def mayD (a c : Dsc) : Bool :=
  c.con || (!a.con && (!(hb a.has 16 && !(a.enu == c.enu)) && (!(dataH a.has || accH a.has) || (dataH a.has == dataH c.has && cond (dataH a.has) (c.wri || (!a.wri && (!hb a.has 1 || sameV a.value c.value)))
    ((!hb a.has 4 || sameV a.get c.get) && (!hb a.has 8 || sameV a.set c.set))))))
theorem desc_may_ok {n : Nat} (hn : 4 ≤ n) {a c : Dsc} (d1 : Dok a) (d3 : Dok c) : runF D n 134 [.agg a.enc, .agg c.enc] = some (.bool (mayD a c)) := by
  obtain ⟨n, rfl⟩ : ∃ m, n = m + 1 := ⟨n - 1, by omega⟩
  have h1 := desc_IsPlain_ok (n := n) (by omega) d1
  have h2 := desc_IsData_ok (n := n) (by omega) d1
  have h3 := desc_IsData_ok (n := n) (by omega) d3
  have h4 := value_Same_ok (n := n) (by omega)
  rw [desc_may.run]; unfold desc_may.M
  try simp only [callK, Sh.dec, cond_some_bool, cond_some_int, Bool.cond_self, kI, kU, cond_true, cond_false, h1, h2, h3, h4, and16 d1.h0 d1.h1, nand1 d1.h0 d1.h1, nand4 d1.h0 d1.h1, nand8 d1.h0 d1.h1, desc_may.T0_c, desc_may.T2_c, desc_may.T4_c, desc_may.T3_c, desc_may.T1_c]
  simp only [desc_may.T0_eq, desc_may.T0E]; try simp only [callK, Sh.dec, cond_some_bool, cond_some_int, Bool.cond_self, kI, kU, cond_true, cond_false, h1, h2, h3, h4, and16 d1.h0 d1.h1, nand1 d1.h0 d1.h1, nand4 d1.h0 d1.h1, nand8 d1.h0 d1.h1, desc_may.T0_c, desc_may.T2_c, desc_may.T4_c, desc_may.T3_c, desc_may.T1_c]
  simp only [desc_may.T2_eq, desc_may.T2E]; try simp only [callK, Sh.dec, cond_some_bool, cond_some_int, Bool.cond_self, kI, kU, cond_true, cond_false, h1, h2, h3, h4, and16 d1.h0 d1.h1, nand1 d1.h0 d1.h1, nand4 d1.h0 d1.h1, nand8 d1.h0 d1.h1, desc_may.T0_c, desc_may.T2_c, desc_may.T4_c, desc_may.T3_c, desc_may.T1_c]
  simp only [desc_may.T4_eq, desc_may.T4E]; try simp only [callK, Sh.dec, cond_some_bool, cond_some_int, Bool.cond_self, kI, kU, cond_true, cond_false, h1, h2, h3, h4, and16 d1.h0 d1.h1, nand1 d1.h0 d1.h1, nand4 d1.h0 d1.h1, nand8 d1.h0 d1.h1, desc_may.T0_c, desc_may.T2_c, desc_may.T4_c, desc_may.T3_c, desc_may.T1_c]
  simp only [desc_may.T3_eq, desc_may.T3E]; try simp only [callK, Sh.dec, cond_some_bool, cond_some_int, Bool.cond_self, kI, kU, cond_true, cond_false, h1, h2, h3, h4, and16 d1.h0 d1.h1, nand1 d1.h0 d1.h1, nand4 d1.h0 d1.h1, nand8 d1.h0 d1.h1, desc_may.T0_c, desc_may.T2_c, desc_may.T4_c, desc_may.T3_c, desc_may.T1_c]
  simp only [desc_may.T1_eq, desc_may.T1E]; try simp only [callK, Sh.dec, cond_some_bool, cond_some_int, Bool.cond_self, kI, kU, cond_true, cond_false, h1, h2, h3, h4, and16 d1.h0 d1.h1, nand1 d1.h0 d1.h1, nand4 d1.h0 d1.h1, nand8 d1.h0 d1.h1, desc_may.T0_c, desc_may.T2_c, desc_may.T4_c, desc_may.T3_c, desc_may.T1_c]
  congr 2
  unfold mayD
  cases c.con <;> cases a.con <;> try rfl
  cases hb a.has 16 <;> cases (a.enu == c.enu) <;> try rfl
  all_goals (cases dataH a.has <;> cases accH a.has <;> cases dataH c.has <;> cases c.wri <;> cases a.wri <;> cases hb a.has 1 <;> cases hb a.has 4 <;> cases hb a.has 8 <;> try rfl)
  all_goals (cases sameV a.value c.value <;> cases sameV a.get c.get <;> cases sameV a.set c.set <;> rfl)

def cmpR (a0 : Bool) (a1 : Dsc) (a2 : Bool) (a3 : Dsc) : Bool × Int := (okD a1 a2 a3 && cond a2 (mayD a1 a3) a0, cond (okD a1 a2 a3) 0 90)
theorem desc_Compatible_ok {n : Nat} (hn : 8 ≤ n) {a1 a3 : Dsc} (a0 a2 : Bool) (d1 : Dok a1) (d3 : Dok a3) :
    runF D n 126 [.bool a0, .agg a1.enc, .bool a2, .agg a3.enc] = some (.tup [.bool (cmpR a0 a1 a2 a3).1, .int .i64 (cmpR a0 a1 a2 a3).2]) := by
  obtain ⟨n, rfl⟩ : ∃ m, n = m + 1 := ⟨n - 1, by omega⟩
  have h1 := desc_asked_ok (n := n) (by omega) a2 d1 d3
  have h2 := desc_may_ok (n := n) (by omega) d1 d3
  rw [desc_Compatible.run]; unfold desc_Compatible.M
  try simp only [callK, Sh.dec, cond_some_bool, cond_some_int, Bool.cond_self, kI, kU, cond_true, cond_false, h1, h2, cond_ne]
  unfold cmpR
  cases okD a1 a2 a3 <;> cases a2 <;> rfl
end Bz
