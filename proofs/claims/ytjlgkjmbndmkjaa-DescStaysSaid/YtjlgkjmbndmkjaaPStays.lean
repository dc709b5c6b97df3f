/- What is not configurable stays: the program's functions, and the law over plain data. -/
import Derived.Test.YtjlgkjmbndmkjaaPApp
set_option linter.all false

set_option linter.unusedVariables false
set_option linter.unusedSimpArgs false
namespace Bz
open Go Ieee S

/-! More contracts. -/
def cplD (d : Dsc) : Dsc := cond (chkD d) ⟨wholeH d.has, d.value, d.get, d.set, d.wri, d.enu, d.con⟩ zd
theorem desc_Complete_ok {n : Nat} (hn : 7 ≤ n) {d : Dsc} (hd : Dok d) : runF D n 127 [.agg d.enc] = some (.tup [.agg (Dsc.enc (cplD d)), .int .i64 (cond (chkD d) 0 90)]) := by
  obtain ⟨n, rfl⟩ : ∃ m, n = m + 1 := ⟨n - 1, by omega⟩
  have h1 := desc_Check_ok (n := n) (by omega) hd
  have h2 := desc_whole_ok (n := n) (by omega) hd.h0 hd.h1
  rw [desc_Complete.run]; unfold desc_Complete.M
  try simp only [callK, Sh.dec, cond_some_bool, cond_some_int, Bool.cond_self, kI, kU, cond_true, cond_false, h1, h2, dsc_end, cond_ne]
  unfold cplD
  cases chkD d <;> rfl
theorem value_Num_ok {n : Nat} (hn : 1 ≤ n) (b : Nat) : runF D n 183 [.float b] = some (.agg (Val.enc ⟨3, b, bs [], 0⟩)) := by
  obtain ⟨n, rfl⟩ : ∃ m, n = m + 1 := ⟨n - 1, by omega⟩
  rw [value_Num.run]; rfl
def sameD (a b : Dsc) : Bool :=
  a.has == b.has && ((!hb a.has 1 || sameV a.value b.value) && ((!hb a.has 4 || sameV a.get b.get) && ((!hb a.has 8 || sameV a.set b.set) && ((!hb a.has 2 || a.wri == b.wri) && ((!hb a.has 16 || a.enu == b.enu) && (!hb a.has 32 || a.con == b.con))))))
theorem desc_Same_ok {n : Nat} (hn : 4 ≤ n) {a : Dsc} (b : Dsc) (ha : Dok a) : runF D n 131 [.agg a.enc, .agg b.enc] = some (.bool (sameD a b)) := by
  obtain ⟨n, rfl⟩ : ∃ m, n = m + 1 := ⟨n - 1, by omega⟩
  have h1 := value_Same_ok (n := n) (by omega)
  rw [desc_Same.run]; unfold desc_Same.M
  try simp only [callK, Sh.dec, cond_some_bool, cond_some_int, Bool.cond_self, kI, kU, cond_true, cond_false, h1, and1 ha.h0 ha.h1, and2 ha.h0 ha.h1, and4 ha.h0 ha.h1, and8 ha.h0 ha.h1, and16 ha.h0 ha.h1, and32 ha.h0 ha.h1, desc_Same.T0_c, desc_Same.T10_c, desc_Same.T1_c, desc_Same.T9_c, desc_Same.T2_c, desc_Same.T8_c, desc_Same.T3_c, desc_Same.T7_c, desc_Same.T4_c, desc_Same.T6_c, desc_Same.T5_c, desc_Same.T11_c]
  simp only [desc_Same.T0_eq, desc_Same.T0E]; try simp only [callK, Sh.dec, cond_some_bool, cond_some_int, Bool.cond_self, kI, kU, cond_true, cond_false, h1, and1 ha.h0 ha.h1, and2 ha.h0 ha.h1, and4 ha.h0 ha.h1, and8 ha.h0 ha.h1, and16 ha.h0 ha.h1, and32 ha.h0 ha.h1, desc_Same.T0_c, desc_Same.T10_c, desc_Same.T1_c, desc_Same.T9_c, desc_Same.T2_c, desc_Same.T8_c, desc_Same.T3_c, desc_Same.T7_c, desc_Same.T4_c, desc_Same.T6_c, desc_Same.T5_c, desc_Same.T11_c]
  simp only [desc_Same.T10_eq, desc_Same.T10E]; try simp only [callK, Sh.dec, cond_some_bool, cond_some_int, Bool.cond_self, kI, kU, cond_true, cond_false, h1, and1 ha.h0 ha.h1, and2 ha.h0 ha.h1, and4 ha.h0 ha.h1, and8 ha.h0 ha.h1, and16 ha.h0 ha.h1, and32 ha.h0 ha.h1, desc_Same.T0_c, desc_Same.T10_c, desc_Same.T1_c, desc_Same.T9_c, desc_Same.T2_c, desc_Same.T8_c, desc_Same.T3_c, desc_Same.T7_c, desc_Same.T4_c, desc_Same.T6_c, desc_Same.T5_c, desc_Same.T11_c]
  simp only [desc_Same.T1_eq, desc_Same.T1E]; try simp only [callK, Sh.dec, cond_some_bool, cond_some_int, Bool.cond_self, kI, kU, cond_true, cond_false, h1, and1 ha.h0 ha.h1, and2 ha.h0 ha.h1, and4 ha.h0 ha.h1, and8 ha.h0 ha.h1, and16 ha.h0 ha.h1, and32 ha.h0 ha.h1, desc_Same.T0_c, desc_Same.T10_c, desc_Same.T1_c, desc_Same.T9_c, desc_Same.T2_c, desc_Same.T8_c, desc_Same.T3_c, desc_Same.T7_c, desc_Same.T4_c, desc_Same.T6_c, desc_Same.T5_c, desc_Same.T11_c]
  simp only [desc_Same.T9_eq, desc_Same.T9E]; try simp only [callK, Sh.dec, cond_some_bool, cond_some_int, Bool.cond_self, kI, kU, cond_true, cond_false, h1, and1 ha.h0 ha.h1, and2 ha.h0 ha.h1, and4 ha.h0 ha.h1, and8 ha.h0 ha.h1, and16 ha.h0 ha.h1, and32 ha.h0 ha.h1, desc_Same.T0_c, desc_Same.T10_c, desc_Same.T1_c, desc_Same.T9_c, desc_Same.T2_c, desc_Same.T8_c, desc_Same.T3_c, desc_Same.T7_c, desc_Same.T4_c, desc_Same.T6_c, desc_Same.T5_c, desc_Same.T11_c]
  simp only [desc_Same.T2_eq, desc_Same.T2E]; try simp only [callK, Sh.dec, cond_some_bool, cond_some_int, Bool.cond_self, kI, kU, cond_true, cond_false, h1, and1 ha.h0 ha.h1, and2 ha.h0 ha.h1, and4 ha.h0 ha.h1, and8 ha.h0 ha.h1, and16 ha.h0 ha.h1, and32 ha.h0 ha.h1, desc_Same.T0_c, desc_Same.T10_c, desc_Same.T1_c, desc_Same.T9_c, desc_Same.T2_c, desc_Same.T8_c, desc_Same.T3_c, desc_Same.T7_c, desc_Same.T4_c, desc_Same.T6_c, desc_Same.T5_c, desc_Same.T11_c]
  simp only [desc_Same.T8_eq, desc_Same.T8E]; try simp only [callK, Sh.dec, cond_some_bool, cond_some_int, Bool.cond_self, kI, kU, cond_true, cond_false, h1, and1 ha.h0 ha.h1, and2 ha.h0 ha.h1, and4 ha.h0 ha.h1, and8 ha.h0 ha.h1, and16 ha.h0 ha.h1, and32 ha.h0 ha.h1, desc_Same.T0_c, desc_Same.T10_c, desc_Same.T1_c, desc_Same.T9_c, desc_Same.T2_c, desc_Same.T8_c, desc_Same.T3_c, desc_Same.T7_c, desc_Same.T4_c, desc_Same.T6_c, desc_Same.T5_c, desc_Same.T11_c]
  simp only [desc_Same.T3_eq, desc_Same.T3E]; try simp only [callK, Sh.dec, cond_some_bool, cond_some_int, Bool.cond_self, kI, kU, cond_true, cond_false, h1, and1 ha.h0 ha.h1, and2 ha.h0 ha.h1, and4 ha.h0 ha.h1, and8 ha.h0 ha.h1, and16 ha.h0 ha.h1, and32 ha.h0 ha.h1, desc_Same.T0_c, desc_Same.T10_c, desc_Same.T1_c, desc_Same.T9_c, desc_Same.T2_c, desc_Same.T8_c, desc_Same.T3_c, desc_Same.T7_c, desc_Same.T4_c, desc_Same.T6_c, desc_Same.T5_c, desc_Same.T11_c]
  simp only [desc_Same.T7_eq, desc_Same.T7E]; try simp only [callK, Sh.dec, cond_some_bool, cond_some_int, Bool.cond_self, kI, kU, cond_true, cond_false, h1, and1 ha.h0 ha.h1, and2 ha.h0 ha.h1, and4 ha.h0 ha.h1, and8 ha.h0 ha.h1, and16 ha.h0 ha.h1, and32 ha.h0 ha.h1, desc_Same.T0_c, desc_Same.T10_c, desc_Same.T1_c, desc_Same.T9_c, desc_Same.T2_c, desc_Same.T8_c, desc_Same.T3_c, desc_Same.T7_c, desc_Same.T4_c, desc_Same.T6_c, desc_Same.T5_c, desc_Same.T11_c]
  simp only [desc_Same.T4_eq, desc_Same.T4E]; try simp only [callK, Sh.dec, cond_some_bool, cond_some_int, Bool.cond_self, kI, kU, cond_true, cond_false, h1, and1 ha.h0 ha.h1, and2 ha.h0 ha.h1, and4 ha.h0 ha.h1, and8 ha.h0 ha.h1, and16 ha.h0 ha.h1, and32 ha.h0 ha.h1, desc_Same.T0_c, desc_Same.T10_c, desc_Same.T1_c, desc_Same.T9_c, desc_Same.T2_c, desc_Same.T8_c, desc_Same.T3_c, desc_Same.T7_c, desc_Same.T4_c, desc_Same.T6_c, desc_Same.T5_c, desc_Same.T11_c]
  simp only [desc_Same.T6_eq, desc_Same.T6E]; try simp only [callK, Sh.dec, cond_some_bool, cond_some_int, Bool.cond_self, kI, kU, cond_true, cond_false, h1, and1 ha.h0 ha.h1, and2 ha.h0 ha.h1, and4 ha.h0 ha.h1, and8 ha.h0 ha.h1, and16 ha.h0 ha.h1, and32 ha.h0 ha.h1, desc_Same.T0_c, desc_Same.T10_c, desc_Same.T1_c, desc_Same.T9_c, desc_Same.T2_c, desc_Same.T8_c, desc_Same.T3_c, desc_Same.T7_c, desc_Same.T4_c, desc_Same.T6_c, desc_Same.T5_c, desc_Same.T11_c]
  simp only [desc_Same.T5_eq, desc_Same.T5E]; try simp only [callK, Sh.dec, cond_some_bool, cond_some_int, Bool.cond_self, kI, kU, cond_true, cond_false, h1, and1 ha.h0 ha.h1, and2 ha.h0 ha.h1, and4 ha.h0 ha.h1, and8 ha.h0 ha.h1, and16 ha.h0 ha.h1, and32 ha.h0 ha.h1, desc_Same.T0_c, desc_Same.T10_c, desc_Same.T1_c, desc_Same.T9_c, desc_Same.T2_c, desc_Same.T8_c, desc_Same.T3_c, desc_Same.T7_c, desc_Same.T4_c, desc_Same.T6_c, desc_Same.T5_c, desc_Same.T11_c]
  simp only [desc_Same.T11_eq, desc_Same.T11E]; try simp only [callK, Sh.dec, cond_some_bool, cond_some_int, Bool.cond_self, kI, kU, cond_true, cond_false, h1, and1 ha.h0 ha.h1, and2 ha.h0 ha.h1, and4 ha.h0 ha.h1, and8 ha.h0 ha.h1, and16 ha.h0 ha.h1, and32 ha.h0 ha.h1, desc_Same.T0_c, desc_Same.T10_c, desc_Same.T1_c, desc_Same.T9_c, desc_Same.T2_c, desc_Same.T8_c, desc_Same.T3_c, desc_Same.T7_c, desc_Same.T4_c, desc_Same.T6_c, desc_Same.T5_c, desc_Same.T11_c]
  simp only [bne]
  congr 2
  unfold sameD
  cases (a.has == b.has) <;> cases hb a.has 1 <;> cases sameV a.value b.value <;> try rfl
  all_goals (cases hb a.has 4 <;> cases sameV a.get b.get <;> cases hb a.has 8 <;> cases sameV a.set b.set <;> try rfl)
  all_goals (cases hb a.has 2 <;> cases (a.wri == b.wri) <;> cases hb a.has 16 <;> cases (a.enu == b.enu) <;> cases hb a.has 32 <;> cases (a.con == b.con) <;> rfl)
theorem bAnd_range (a b : Int) : 0 ≤ bAnd .u8 a b ∧ bAnd .u8 a b ≤ 255 := by
  unfold bAnd IntKind.wrap
  simp only [IntKind.signed, IntKind.bits, Bool.false_and, Bool.false_eq_true, if_false]
  omega
def leftD (d : Dsc) (h : Int) : Dsc :=
  ⟨bAnd .u8 d.has h, cond (hb (bAnd .u8 d.has h) 1) d.value zv, cond (hb (bAnd .u8 d.has h) 4) d.get zv, cond (hb (bAnd .u8 d.has h) 8) d.set zv, cond (hb (bAnd .u8 d.has h) 2) d.wri false, cond (hb (bAnd .u8 d.has h) 16) d.enu false, cond (hb (bAnd .u8 d.has h) 32) d.con false⟩
theorem left_ok {n : Nat} (hn : 1 ≤ n) (d : Dsc) (h : Int) : runF D n 3 [.agg d.enc, .int .u8 h] = some (.agg (Dsc.enc (leftD d h))) := by
  obtain ⟨n, rfl⟩ : ∃ m, n = m + 1 := ⟨n - 1, by omega⟩
  have r := bAnd_range d.has h
  rw [bailifflaw09_left.run]; unfold bailifflaw09_left.M
  try simp only [callK, Sh.dec, cond_some_bool, cond_some_int, Bool.cond_self, kI, kU, cond_true, cond_false, and1 r.1 r.2, and2 r.1 r.2, and4 r.1 r.2, and8 r.1 r.2, and16 r.1 r.2, and32 r.1 r.2, bailifflaw09_left.T5_c, bailifflaw09_left.T4_c, bailifflaw09_left.T3_c, bailifflaw09_left.T2_c, bailifflaw09_left.T1_c, bailifflaw09_left.T0_c]
  simp only [bailifflaw09_left.T5_eq, bailifflaw09_left.T5E]; try simp only [callK, Sh.dec, cond_some_bool, cond_some_int, Bool.cond_self, kI, kU, cond_true, cond_false, and1 r.1 r.2, and2 r.1 r.2, and4 r.1 r.2, and8 r.1 r.2, and16 r.1 r.2, and32 r.1 r.2, bailifflaw09_left.T5_c, bailifflaw09_left.T4_c, bailifflaw09_left.T3_c, bailifflaw09_left.T2_c, bailifflaw09_left.T1_c, bailifflaw09_left.T0_c]
  simp only [bailifflaw09_left.T4_eq, bailifflaw09_left.T4E]; try simp only [callK, Sh.dec, cond_some_bool, cond_some_int, Bool.cond_self, kI, kU, cond_true, cond_false, and1 r.1 r.2, and2 r.1 r.2, and4 r.1 r.2, and8 r.1 r.2, and16 r.1 r.2, and32 r.1 r.2, bailifflaw09_left.T5_c, bailifflaw09_left.T4_c, bailifflaw09_left.T3_c, bailifflaw09_left.T2_c, bailifflaw09_left.T1_c, bailifflaw09_left.T0_c]
  simp only [bailifflaw09_left.T3_eq, bailifflaw09_left.T3E]; try simp only [callK, Sh.dec, cond_some_bool, cond_some_int, Bool.cond_self, kI, kU, cond_true, cond_false, and1 r.1 r.2, and2 r.1 r.2, and4 r.1 r.2, and8 r.1 r.2, and16 r.1 r.2, and32 r.1 r.2, bailifflaw09_left.T5_c, bailifflaw09_left.T4_c, bailifflaw09_left.T3_c, bailifflaw09_left.T2_c, bailifflaw09_left.T1_c, bailifflaw09_left.T0_c]
  simp only [bailifflaw09_left.T2_eq, bailifflaw09_left.T2E]; try simp only [callK, Sh.dec, cond_some_bool, cond_some_int, Bool.cond_self, kI, kU, cond_true, cond_false, and1 r.1 r.2, and2 r.1 r.2, and4 r.1 r.2, and8 r.1 r.2, and16 r.1 r.2, and32 r.1 r.2, bailifflaw09_left.T5_c, bailifflaw09_left.T4_c, bailifflaw09_left.T3_c, bailifflaw09_left.T2_c, bailifflaw09_left.T1_c, bailifflaw09_left.T0_c]
  simp only [bailifflaw09_left.T1_eq, bailifflaw09_left.T1E]; try simp only [callK, Sh.dec, cond_some_bool, cond_some_int, Bool.cond_self, kI, kU, cond_true, cond_false, and1 r.1 r.2, and2 r.1 r.2, and4 r.1 r.2, and8 r.1 r.2, and16 r.1 r.2, and32 r.1 r.2, bailifflaw09_left.T5_c, bailifflaw09_left.T4_c, bailifflaw09_left.T3_c, bailifflaw09_left.T2_c, bailifflaw09_left.T1_c, bailifflaw09_left.T0_c]
  simp only [bailifflaw09_left.T0_eq, bailifflaw09_left.T0E]; try simp only [callK, Sh.dec, cond_some_bool, cond_some_int, Bool.cond_self, kI, kU, cond_true, cond_false, and1 r.1 r.2, and2 r.1 r.2, and4 r.1 r.2, and8 r.1 r.2, and16 r.1 r.2, and32 r.1 r.2, bailifflaw09_left.T5_c, bailifflaw09_left.T4_c, bailifflaw09_left.T3_c, bailifflaw09_left.T2_c, bailifflaw09_left.T1_c, bailifflaw09_left.T0_c]
  unfold leftD
  cases hb (bAnd .u8 d.has h) 1 <;> cases hb (bAnd .u8 d.has h) 2 <;> cases hb (bAnd .u8 d.has h) 4 <;> cases hb (bAnd .u8 d.has h) 8 <;> cases hb (bAnd .u8 d.has h) 16 <;> cases hb (bAnd .u8 d.has h) 32 <;> rfl

/-! Of values. -/
theorem bare_zv : bareV zv = true := by
  unfold bareV zv
  simp only [isE_nil]; decide
theorem same_self {v : Val} (h0 : 0 ≤ v.kind) (h : mayV v = true) : sameV v v = true := by
  unfold sameV
  cases ho : objV v with
  | true => simp
  | false =>
    unfold mayV at h
    simp only [Bool.and_eq_true, decide_eq_true_eq] at h
    obtain ⟨hk, hn, _, _⟩ := h
    have h3 : (ordB v.num v.num .eq || (isNaN v.num && isNaN v.num)) = true := by
      cases hx : isNaN v.num with
      | true => simp
      | false => simp [ord_self hx]
    have h2 : (v.kind == 2) = true → ordB v.num v.num .eq = true := by
      intro h2
      have h4 : isNaN v.num = false := by
        cases hx : isNaN v.num with
        | false => rfl
        | true =>
          exfalso
          have e3 : (v.kind == 3) = false := by rw [eq_of_beq h2]; rfl
          have hno : nought v.num = false := by unfold nought ordB; rw [(nan_zero hx 0).1]; rfl
          have ho : ordB v.num 4607182418800017408 .eq = false := by unfold ordB; rw [(nan_zero hx _).1]; rfl
          rw [e3, hno, ho, h2] at hn; simp at hn
      exact ord_self h4
    simp only [Bool.and_self, cond_false, beq_self_eq_true, Bool.true_and, Bool.and_true]
    cases e0 : (v.kind == 0 || v.kind == 1) with
    | true => rfl
    | false =>
      cases e2 : (v.kind == 2) with
      | true => simp only [cond_false, cond_true]; exact h2 e2
      | false =>
        cases e3 : (v.kind == 3) with
        | true => simp only [cond_false, cond_true]; simpa using h3
        | false =>
          cases e4 : (v.kind == 4) with
          | true => rfl
          | false =>
            simp only [cond_false]
            unfold objV at ho
            simp only [Bool.or_eq_false_iff, beq_eq_false_iff_ne] at ho e0
            have n2 : v.kind ≠ 2 := by simpa using e2
            have n3 : v.kind ≠ 3 := by simpa using e3
            have n4 : v.kind ≠ 4 := by simpa using e4
            have : v.kind = 5 := by
              obtain ⟨o1, o2, o3⟩ := ho
              obtain ⟨q1, q2⟩ := e0
              omega
            rw [this]; rfl

/-! What a property becomes. -/
theorem chk51 {d : Dsc} (h : chkD d = true) (e : d.has = 51) : mayV d.value = true ∧ bareV d.get = true ∧ bareV d.set = true := by
  have p := chk_parts h
  unfold chkD at h
  simp only [Bool.and_eq_true] at h
  obtain ⟨_, h1, _⟩ := h
  rw [e] at p h1
  exact ⟨h1, p.2.1 (by decide), p.2.2.1 (by decide)⟩
theorem chk60 {d : Dsc} (h : chkD d = true) (e : d.has = 60) : bareV d.value = true ∧ calledV d.get = true ∧ calledV d.set = true ∧ d.wri = false := by
  have p := chk_parts h
  unfold chkD at h
  simp only [Bool.and_eq_true] at h
  obtain ⟨_, h1, h2, h3, _⟩ := h
  rw [e] at p h1 h2 h3
  exact ⟨p.1 (by decide), h2, h3, p.2.2.2.1 (by decide)⟩
theorem mk51 {d : Dsc} (e : d.has = 51) (h1 : mayV d.value = true) (h2 : bareV d.get = true) (h3 : bareV d.set = true) : chkD d = true := by
  unfold chkD
  rw [e, show hb 51 1 = true from by decide, show hb 51 2 = true from by decide, show hb 51 4 = false from by decide, show hb 51 8 = false from by decide, show hb 51 16 = true from by decide, show hb 51 32 = true from by decide]
  simp only [cond_true, cond_false, h1, h2, h3]; rfl
theorem mk60 {d : Dsc} (e : d.has = 60) (h1 : bareV d.value = true) (h2 : calledV d.get = true) (h3 : calledV d.set = true) (h4 : d.wri = false) : chkD d = true := by
  unfold chkD
  rw [e, show hb 60 1 = false from by decide, show hb 60 2 = false from by decide, show hb 60 4 = true from by decide, show hb 60 8 = true from by decide, show hb 60 16 = true from by decide, show hb 60 32 = true from by decide]
  simp only [cond_true, cond_false, h1, h2, h3, h4]; rfl
theorem chk_val {d : Dsc} (h : chkD d = true) : mayV d.value = true ∧ calledV d.get = true ∧ calledV d.set = true := by
  have p := chk_parts h
  unfold chkD at h
  simp only [Bool.and_eq_true] at h
  obtain ⟨_, h1, h2, h3, _⟩ := h
  refine ⟨?_, ?_, ?_⟩
  · cases e : hb d.has 1 with
    | true => rw [e] at h1; exact h1
    | false => exact bare_may (p.1 e)
  · cases e : hb d.has 4 with
    | true => rw [e] at h2; exact h2
    | false => exact bare_called (p.2.1 e)
  · cases e : hb d.has 8 with
    | true => rw [e] at h3; exact h3
    | false => exact bare_called (p.2.2.1 e)
theorem full_cases {h : Int} (e : fullH h = true) : h = 51 ∨ h = 60 := by
  unfold fullH at e; simpa using e
theorem pick_all {p : Val → Bool} {b : Bool} {v w : Val} (h1 : b = true → p v = true) (h2 : b = false → p w = true) : p (cond b v w) = true := by
  cases b with
  | true => exact h1 rfl
  | false => exact h2 rfl
theorem acc_bits {h : Int} (e : accH h = false) : hb h 4 = false ∧ hb h 8 = false := by
  unfold accH at e; simpa using e
theorem data_bits {h : Int} (e : dataH h = false) : hb h 1 = false ∧ hb h 2 = false := by
  unfold dataH at e; simpa using e
theorem ap_full {a0 a2 : Bool} {a1 a3 : Dsc} (d1 : Dok a1) (hc : (cmpR a0 a1 a2 a3).1 = true) :
    chkD (apD a0 a1 a2 a3) = true ∧ fullH (apD a0 a1 a2 a3).has = true ∧ (accH a1.has = true → (apD a0 a1 a2 a3).has = 60) ∧ (dataH a1.has = true → (apD a0 a1 a2 a3).has = 51) ∧
      (hb a1.has 1 = true → (apD a0 a1 a2 a3).value = a1.value) ∧ (hb a1.has 4 = true → (apD a0 a1 a2 a3).get = a1.get) ∧ (hb a1.has 8 = true → (apD a0 a1 a2 a3).set = a1.set) ∧
      (hb a1.has 2 = true → (apD a0 a1 a2 a3).wri = a1.wri) ∧ (hb a1.has 16 = true → (apD a0 a1 a2 a3).enu = a1.enu) ∧ (hb a1.has 32 = true → (apD a0 a1 a2 a3).con = a1.con) := by
  have hk := (cmp_err a0 a1 a2 a3 hc).1
  unfold okD at hk
  simp only [Bool.and_eq_true] at hk
  have c1 := hk.1
  have hw := whole_chk d1.h0 d1.h1 (chk_bits c1).1 (chk_bits c1).2
  have hx := (chk_bits c1).2
  have cv := chk_val c1
  have p := chk_parts c1
  have z1 := bare_zv
  have z2 := bare_may bare_zv
  have z3 := bare_called bare_zv
  unfold apD
  rw [hc, cond_true]
  cases a2 with
  | false =>
    rw [cond_false, hw.1]
    refine ⟨?_, ?_, ?_, ?_, fun _ => rfl, fun _ => rfl, fun _ => rfl, fun _ => rfl, fun _ => rfl, fun _ => rfl⟩
    · cases ha : accH a1.has with
      | true =>
        rw [ha, Bool.and_true] at hx
        have b := data_bits hx
        exact mk60 rfl (p.1 b.1) cv.2.1 cv.2.2 (p.2.2.2.1 b.2)
      | false =>
        have b := acc_bits ha
        exact mk51 rfl cv.1 (p.2.1 b.1) (p.2.2.1 b.2)
    · cases accH a1.has <;> rfl
    · intro ha; rw [ha]; rfl
    · intro hd; rw [hd, Bool.true_and] at hx; rw [hx]; rfl
  | true =>
    rw [cond_true]
    have c3 : chkD a3 = true ∧ fullH a3.has = true := by simpa using hk.2
    cases hs : swD a1 a3 with
    | true =>
      simp only [cond_true, hw.2]
      refine ⟨?_, ?_, ?_, ?_, ?_, ?_, ?_, ?_, ?_, ?_⟩
      · cases ha : accH a1.has with
        | true =>
          rw [ha, Bool.and_true] at hx
          have b := data_bits hx
          refine mk60 rfl ?_ ?_ ?_ ?_
          · show bareV (cond (hb a1.has 1) a1.value zv) = true
            rw [b.1]; exact z1
          · exact pick_all (p := calledV) (fun _ => cv.2.1) (fun _ => z3)
          · exact pick_all (p := calledV) (fun _ => cv.2.2) (fun _ => z3)
          · show cond (hb a1.has 2) a1.wri false = false
            rw [b.2]; rfl
        | false =>
          have b := acc_bits ha
          refine mk51 rfl ?_ ?_ ?_
          · exact pick_all (p := mayV) (fun _ => cv.1) (fun _ => z2)
          · show bareV (cond (hb a1.has 4) a1.get zv) = true
            rw [b.1]; exact z1
          · show bareV (cond (hb a1.has 8) a1.set zv) = true
            rw [b.2]; exact z1
      · cases accH a1.has <;> decide
      · intro ha; rw [ha]; rfl
      · intro hd; rw [hd, Bool.true_and] at hx; rw [hx]; rfl
      · intro h; rw [h]; rfl
      · intro h; rw [h]; rfl
      · intro h; rw [h]; rfl
      · intro h; rw [h]; rfl
      · intro h; rw [h]; rfl
      · intro h; rw [h]; rfl
    | false =>
      simp only [cond_false]
      unfold swD at hs
      refine ⟨?_, c3.2, ?_, ?_, ?_, ?_, ?_, ?_, ?_, ?_⟩
      · rcases full_cases c3.2 with e | e
        · have ha : accH a1.has = false := by
            rw [e] at hs
            revert hs
            cases accH a1.has <;> cases dataH a1.has <;> decide
          have b := acc_bits ha
          have q := chk51 c3.1 e
          refine mk51 e ?_ ?_ ?_
          · exact pick_all (p := mayV) (fun _ => cv.1) (fun _ => q.1)
          · show bareV (cond (hb a1.has 4) a1.get a3.get) = true
            rw [b.1]; exact q.2.1
          · show bareV (cond (hb a1.has 8) a1.set a3.set) = true
            rw [b.2]; exact q.2.2
        · have hd : dataH a1.has = false := by
            rw [e] at hs
            revert hs
            cases accH a1.has <;> cases dataH a1.has <;> decide
          have b := data_bits hd
          have q := chk60 c3.1 e
          refine mk60 e ?_ ?_ ?_ ?_
          · show bareV (cond (hb a1.has 1) a1.value a3.value) = true
            rw [b.1]; exact q.1
          · exact pick_all (p := calledV) (fun _ => cv.2.1) (fun _ => q.2.1)
          · exact pick_all (p := calledV) (fun _ => cv.2.2) (fun _ => q.2.2.1)
          · show cond (hb a1.has 2) a1.wri a3.wri = false
            rw [b.2]; exact q.2.2.2
      · intro ha
        rcases full_cases c3.2 with e | e
        · rw [e, ha] at hs; revert hs; cases dataH a1.has <;> (intro h; exact absurd h (by decide))
        · exact e
      · intro hd
        rcases full_cases c3.2 with e | e
        · exact e
        · rw [e, hd] at hs; revert hs; cases accH a1.has <;> (intro h; exact absurd h (by decide))
      · intro h; rw [h]; rfl
      · intro h; rw [h]; rfl
      · intro h; rw [h]; rfl
      · intro h; rw [h]; rfl
      · intro h; rw [h]; rfl
      · intro h; rw [h]; rfl
theorem pick_ok {p : Val → Prop} {b : Bool} {v w : Val} (h1 : p v) (h2 : p w) : p (cond b v w) := by
  cases b with
  | true => exact h1
  | false => exact h2
theorem vok_zv : Vok zv := ⟨by decide, by decide⟩
theorem ap_dok {a0 a2 : Bool} {a1 a3 : Dsc} (d1 : Dok a1) (d3 : Dok a3) (hc : (cmpR a0 a1 a2 a3).1 = true) : Dok (apD a0 a1 a2 a3) := by
  have hf := full_cases (ap_full d1 hc).2.1
  refine ⟨by omega, by omega, ?_, ?_, ?_⟩
  all_goals (unfold apD; rw [hc, cond_true]; cases a2)
  · exact d1.v
  · exact pick_ok d1.v (pick_ok vok_zv d3.v)
  · exact d1.g
  · exact pick_ok d1.g (pick_ok vok_zv d3.g)
  · exact d1.s
  · exact pick_ok d1.s (pick_ok vok_zv d3.s)
end Bz
