/- What is not configurable stays: the statement over plain data. -/
import Derived.Test.YtjlgkjmbndmkjaaPStay2
set_option linter.all false
set_option linter.unusedVariables false
set_option linter.unusedSimpArgs false
namespace Bz
open Go Ieee S
abbrev lit (X : Dsc) : DV := (DV.agg [(DV.int Go.IntKind.u8 (Dsc.has X)), (DV.int Go.IntKind.u8 (Val.kind (Dsc.value X))), (DV.float (Val.num (Dsc.value X))), (DV.str (Val.str (Dsc.value X))), (DV.int Go.IntKind.i64 (Val.ref (Dsc.value X))), (DV.int Go.IntKind.u8 (Val.kind (Dsc.get X))), (DV.float (Val.num (Dsc.get X))), (DV.str (Val.str (Dsc.get X))), (DV.int Go.IntKind.i64 (Val.ref (Dsc.get X))), (DV.int Go.IntKind.u8 (Val.kind (Dsc.set X))), (DV.float (Val.num (Dsc.set X))), (DV.str (Val.str (Dsc.set X))), (DV.int Go.IntKind.i64 (Val.ref (Dsc.set X))), (DV.bool (Dsc.wri X)), (DV.bool (Dsc.enu X)), (DV.bool (Dsc.con X))])
abbrev litV (v : Val) : DV := (DV.agg [(DV.int Go.IntKind.u8 (Val.kind v)), (DV.float (Val.num v)), (DV.str (Val.str v)), (DV.int Go.IntKind.i64 (Val.ref v))])
theorem lit_eq (X : Dsc) : lit X = .agg (Dsc.enc X) := rfl

def oneV : Val := ⟨3, 4607182418800017408, bs [], 0⟩
def oneD : Dsc := ⟨1, oneV, zv, zv, false, false, false⟩
theorem one_dok : Dok oneD := ⟨by decide, by decide, ⟨by decide, by decide⟩, vok_zv, vok_zv⟩
theorem one_may : mayV oneV = true := by
  unfold mayV oneV
  simp only [isE_nil]; decide
theorem one_chk : chkD oneD = true := by
  unfold chkD
  rw [show hb oneD.has 1 = true from by decide, show hb oneD.has 4 = false from by decide, show hb oneD.has 8 = false from by decide, show oneD.value = oneV from rfl, show oneD.get = zv from rfl, show oneD.set = zv from rfl, cond_true, cond_false, one_may, bare_zv]
  decide
abbrev lit1 (v : Val) : DV := (DV.agg [(DV.int Go.IntKind.u8 (1 : Int)), (DV.int Go.IntKind.u8 (Val.kind v)), (DV.float (Val.num v)), (DV.str (Val.str v)), (DV.int Go.IntKind.i64 (Val.ref v)), (DV.int Go.IntKind.u8 (0 : Int)), (DV.float 0), (DV.str (bs [])), (DV.int Go.IntKind.i64 (0 : Int)), (DV.int Go.IntKind.u8 (0 : Int)), (DV.float 0), (DV.str (bs [])), (DV.int Go.IntKind.i64 (0 : Int)), (DV.bool Bool.false), (DV.bool Bool.false), (DV.bool Bool.false)])
theorem alive_ok {n : Nat} (hn : 9 ≤ n) : runF D n 2 [] = some (.bool true) := by
  obtain ⟨n, rfl⟩ : ∃ m, n = m + 1 := ⟨n - 1, by omega⟩
  have h1 := value_Num_ok (n := n) (by omega) 4607182418800017408
  have h2 : runF D n 127 [lit1 oneV] = _ := desc_Complete_ok (n := n) (by omega) one_dok
  rw [one_chk] at h2
  have e : cplD oneD = ⟨51, oneV, zv, zv, false, false, false⟩ := by
    unfold cplD; rw [one_chk, cond_true, show wholeH oneD.has = 51 from by decide]; rfl
  rw [e] at h2
  rw [bailifflaw09_alive.run]; unfold bailifflaw09_alive.M
  rw [callK_of (x := oneV) h1 rfl, callK_of (x := (⟨51, oneV, zv, zv, false, false, false⟩, 0)) h2 rfl]
  rw [show (((0 : Int) == 0)) = true from rfl, cond_true, bailifflaw09_alive.T2_eq]; unfold bailifflaw09_alive.T2E
  rw [show ((51 : Int) == 51) = true from rfl, cond_true, bailifflaw09_alive.T1_eq]; unfold bailifflaw09_alive.T1E
  rw [show ((double.order oneV.num 4607182418800017408) == (some Ordering.eq)) = true from by decide, cond_true, bailifflaw09_alive.T0_eq]
  rfl
theorem long_ok {n : Nat} (hn : 1 ≤ n) (d : Dsc) : ∃ b, runF D n 4 [.agg d.enc] = some (.bool b) := by
  obtain ⟨n, rfl⟩ : ∃ m, n = m + 1 := ⟨n - 1, by omega⟩
  rw [bailifflaw09_long.run]; unfold bailifflaw09_long.M
  try simp only [callK, Sh.dec, cond_some_bool, cond_some_int, Bool.cond_self, kI, kU, cond_true, cond_false, bailifflaw09_long.T1_c, bailifflaw09_long.T0_c]
  simp only [bailifflaw09_long.T1_eq, bailifflaw09_long.T1E]; try simp only [callK, Sh.dec, cond_some_bool, cond_some_int, Bool.cond_self, kI, kU, cond_true, cond_false, bailifflaw09_long.T1_c, bailifflaw09_long.T0_c]
  simp only [bailifflaw09_long.T0_eq, bailifflaw09_long.T0E]; try simp only [callK, Sh.dec, cond_some_bool, cond_some_int, Bool.cond_self, kI, kU, cond_true, cond_false, bailifflaw09_long.T1_c, bailifflaw09_long.T0_c]
  exact ⟨_, rfl⟩

theorem ds_last {n : Nat} {a1 a3 : Dsc} (a0 a2 : Bool) {X : Dsc} (hn : 5 ≤ n) (d3 : Dok a3) (e0 : a2 = false → a0 = true)
    (hs : a2 = true → a3.con = false → X.con = false ∧ X.enu = a3.enu ∧ X.has = a3.has ∧ cond (accH a3.has) (sameV X.get a3.get && sameV X.set a3.set) (a3.wri || (!X.wri && sameV X.value a3.value)) = true) :
    bailifflaw09_DescStays.T6 bailifflaw09_DescStays.ts (runF D n) n a0 a1 a2 a3 X.has X.value.kind X.value.num X.value.str X.value.ref X.get.kind X.get.num X.get.str X.get.ref X.set.kind X.set.num X.set.str X.set.ref X.wri X.enu X.con false = some (.bool true) := by
  rw [bailifflaw09_DescStays.T6_eq]; unfold bailifflaw09_DescStays.T6E
  rw [cond_false]
  cases a2 with
  | false => rw [e0 rfl]; rfl
  | true =>
    rw [Bool.not_true, cond_false]
    cases hc : a3.con with
    | true => rfl
    | false =>
      obtain ⟨s1, s2, s3, s4⟩ := hs rfl hc
      have h1 := desc_IsAccess_ok (n := n) (by omega) d3
      have h2 : runF D n 184 [litV X.get, .agg a3.get.enc] = _ := value_Same_ok (n := n) (by omega) X.get a3.get
      have h3 : runF D n 184 [litV X.set, .agg a3.set.enc] = _ := value_Same_ok (n := n) (by omega) X.set a3.set
      have h4 : runF D n 184 [litV X.value, .agg a3.value.enc] = _ := value_Same_ok (n := n) (by omega) X.value a3.value
      rw [cond_false, s1, cond_false, s2, show (!(a3.enu == a3.enu)) = false from by simp, bailifflaw09_DescStays.T7_eq]; unfold bailifflaw09_DescStays.T7E
      rw [cond_false, s3, show (a3.has != a3.has) = false from by simp, bailifflaw09_DescStays.T8_eq]; unfold bailifflaw09_DescStays.T8E
      rw [cond_false, callK_of h1 rfl]
      revert s4
      cases accH a3.has with
      | true =>
        intro s4
        rw [cond_true] at s4
        simp only [Bool.and_eq_true] at s4
        rw [s4.1] at h2
        rw [s4.2] at h3
        rw [cond_true, callK_of h2 rfl, cond_true, callK_of h3 rfl, bailifflaw09_DescStays.T9_eq]
        rfl
      | false =>
        intro s4
        rw [cond_false] at s4
        rw [cond_false]
        cases hw : a3.wri with
        | true => rw [cond_true, bailifflaw09_DescStays.T10_eq]; rfl
        | false =>
          rw [hw] at s4
          simp only [Bool.false_or, Bool.and_eq_true, Bool.not_eq_true'] at s4
          rw [s4.2] at h4
          rw [cond_false, s4.1, Bool.not_false, cond_true, callK_of h4 rfl, bailifflaw09_DescStays.T10_eq]
          rfl
theorem ds_mid {n : Nat} {a1 a3 : Dsc} (a0 a2 : Bool) {X : Dsc} (hn : 9 ≤ n) (d1 : Dok a1) (d3 : Dok a3) (dX : Dok X) (cX : chkD X = true) (fX : fullH X.has = true) (hl : sameD a1 (leftD X a1.has) = true) (e0 : a2 = false → a0 = true)
    (hs : a2 = true → a3.con = false → X.con = false ∧ X.enu = a3.enu ∧ X.has = a3.has ∧ cond (accH a3.has) (sameV X.get a3.get && sameV X.set a3.set) (a3.wri || (!X.wri && sameV X.value a3.value)) = true) :
    bailifflaw09_DescStays.T4 bailifflaw09_DescStays.ts (runF D n) n a0 a1 a2 a3 X.has X.value.kind X.value.num X.value.str X.value.ref X.get.kind X.get.num X.get.str X.get.ref X.set.kind X.set.num X.set.str X.set.ref X.wri X.enu X.con false = some (.bool true) := by
  have h1 : runF D n 127 [lit X] = _ := desc_Complete_ok (n := n) (by omega) dX
  have ew : wholeH X.has = X.has := by
    have := full_eq dX.h0 dX.h1 (chk_bits cX).1 (chk_bits cX).2
    rw [fX] at this
    have h2 := this
    simp at h2
    exact h2.symm
  have e1 : cplD X = X := by unfold cplD; rw [cX, cond_true, ew]
  rw [e1, cX] at h1
  have h2 : runF D n 3 [lit X, .int .u8 a1.has] = _ := left_ok (n := n) (by omega) X a1.has
  have h3 : runF D n 131 [.agg a1.enc, .agg (leftD X a1.has).enc] = _ := desc_Same_ok (n := n) (by omega) (leftD X a1.has) d1
  rw [hl] at h3
  have hA := ap_self dX cX fX
  have h4 : runF D n 124 [.bool false, lit X, .bool true, lit X] = _ := desc_Apply_ok (n := n) (by omega) false true dX dX
  rw [hA.1, hA.2.1, hA.2.2] at h4
  have h5 : runF D n 131 [lit X, lit X] = _ := desc_Same_ok (n := n) (by omega) X dX
  rw [sameD_self dX cX] at h5
  have hlast := ds_last (n := n) (a1 := a1) a0 a2 (by omega) d3 e0 hs
  have s5 : bailifflaw09_DescStays.T5 bailifflaw09_DescStays.ts (runF D n) n a0 a1 a2 a3 X.has X.value.kind X.value.num X.value.str X.value.ref X.get.kind X.get.num X.get.str X.get.ref X.set.kind X.set.num X.set.str X.set.ref X.wri X.enu X.con
      X.has X.value.kind X.value.num X.value.str X.value.ref X.get.kind X.get.num X.get.str X.get.ref X.set.kind X.set.num X.set.str X.set.ref X.wri X.enu X.con false = some (.bool true) := by
    rw [bailifflaw09_DescStays.T5_eq]; unfold bailifflaw09_DescStays.T5E
    rw [cond_false, callK_of h5 rfl, Bool.not_true]
    exact hlast
  rw [bailifflaw09_DescStays.T4_eq]; unfold bailifflaw09_DescStays.T4E
  rw [cond_false, callK_of (x := (X, 0)) h1 rfl, show ((X, (0 : Int)).2 != 0) = false from rfl, cond_false, show ((X, (0 : Int)).1.has != X.has) = false from by simp, cond_false]
  have hz : (((0 : Int)) != 0) = false := rfl
  rcases full_cases fX with e | e
  · rw [show (X.has != 51) = false from by rw [e]; rfl, cond_false, callK_of (x := leftD X a1.has) h2 rfl, callK_of h3 rfl, Bool.not_true, cond_false, callK_of (x := (X, true, 0)) h4 rfl, hz, cond_false, Bool.not_true]
    exact s5
  · rw [show (X.has != 51) = true from by rw [e]; rfl, cond_true, show (X.has != 60) = false from by rw [e]; rfl, cond_false, callK_of (x := leftD X a1.has) h2 rfl, callK_of h3 rfl, Bool.not_true, cond_false, callK_of (x := (X, true, 0)) h4 rfl, hz, cond_false, Bool.not_true]
    exact s5
theorem ord00 : (double.order 0 0 == some Ordering.eq) = true := by decide
theorem descStays {a1 a3 : Dsc} (a0 a2 : Bool) (d1 : Dok a1) (d3 : Dok a3) {n : Nat} (hn : 11 ≤ n) : runF D n 0 [.bool a0, .agg a1.enc, .bool a2, .agg a3.enc] = some (.bool true) := by
  obtain ⟨n, rfl⟩ : ∃ m, n = m + 1 := ⟨n - 1, by omega⟩
  obtain ⟨b1, l1⟩ := long_ok (n := n) (by omega) a1
  obtain ⟨b3, l3⟩ := long_ok (n := n) (by omega) a3
  have h0 := alive_ok (n := n) (by omega)
  have h1 := desc_Compatible_ok (n := n) (by omega) a0 a2 d1 d3
  have h3 := desc_Apply_ok (n := n) (by omega) a0 a2 d1 d3
  rw [bailifflaw09_DescStays.run]; unfold bailifflaw09_DescStays.M
  rw [callK_of h0 rfl, callK_of l1 rfl]
  have s1 : bailifflaw09_DescStays.T1 bailifflaw09_DescStays.ts (runF D n) n a0 a1 a2 a3 true false = some (.bool true) := by
    rw [bailifflaw09_DescStays.T1_eq]; unfold bailifflaw09_DescStays.T1E
    rw [cond_false, callK_of (x := (apD a0 a1 a2 a3, (cmpR a0 a1 a2 a3).1, (cmpR a0 a1 a2 a3).2)) h3 rfl, callK_of (x := cmpR a0 a1 a2 a3) h1 rfl]
    rw [show ((apD a0 a1 a2 a3, (cmpR a0 a1 a2 a3).1, (cmpR a0 a1 a2 a3).2).2.2 != (cmpR a0 a1 a2 a3).2) = false from by simp, cond_false, show (!((apD a0 a1 a2 a3, (cmpR a0 a1 a2 a3).1, (cmpR a0 a1 a2 a3).2).2.1 == (cmpR a0 a1 a2 a3).1)) = false from by simp]
    rw [bailifflaw09_DescStays.T2_eq]; unfold bailifflaw09_DescStays.T2E
    rw [cond_false]
    cases hc : (cmpR a0 a1 a2 a3).1 with
    | true =>
      rw [(cmp_err a0 a1 a2 a3 hc).2, Bool.not_true, cond_false, bailifflaw09_DescStays.T3_eq]; unfold bailifflaw09_DescStays.T3E
      rw [cond_false, show ((0 : Int) != 0) = false from rfl, cond_false, Bool.not_true]
      have f := ap_full d1 hc
      refine ds_mid (n := n) a0 a2 (by omega) d1 d3 (ap_dok d1 d3 hc) f.1 f.2.1 (sameD_left d1 hc) ?_ ?_
      · intro e
        subst e
        unfold cmpR at hc
        revert hc
        cases a0 <;> cases okD a1 false a3 <;> simp
      · intro e hn
        subst e
        exact ap_stays d1 d3 hc hn
    | false =>
      have ez : apD a0 a1 a2 a3 = zd := by unfold apD; rw [hc]; rfl
      rw [ez, Bool.not_false, cond_true]
      rw [show (Bool.not (Bool.and (zd.has == 0) (Bool.and (zd.value.kind == 0) (Bool.and ((double.order zd.value.num 0) == (some Ordering.eq)) (Bool.and ((ByteArray.toList zd.value.str) == (ByteArray.toList (bs []))) (Bool.and (zd.value.ref == 0) (Bool.and (zd.get.kind == 0) (Bool.and ((double.order zd.get.num 0) == (some Ordering.eq)) (Bool.and ((ByteArray.toList zd.get.str) == (ByteArray.toList (bs []))) (Bool.and (zd.get.ref == 0) (Bool.and (zd.set.kind == 0) (Bool.and ((double.order zd.set.num 0) == (some Ordering.eq)) (Bool.and ((ByteArray.toList zd.set.str) == (ByteArray.toList (bs []))) (Bool.and (zd.set.ref == 0) (Bool.and (zd.wri == false) (Bool.and (zd.enu == false) (Bool.and (zd.con == false) true))))))))))))))))) = false from by
        simp only [zd, zv, ord00, str_self]; rfl]
      rw [bailifflaw09_DescStays.T3_eq]; unfold bailifflaw09_DescStays.T3E
      rw [cond_false, Bool.not_false]
      have s4 : ∀ (x : Dsc), bailifflaw09_DescStays.T4 bailifflaw09_DescStays.ts (runF D n) n a0 a1 a2 a3 x.has x.value.kind x.value.num x.value.str x.value.ref x.get.kind x.get.num x.get.str x.get.ref x.set.kind x.set.num x.set.str x.set.ref x.wri x.enu x.con true = some (.bool true) := by
        intro x
        rw [bailifflaw09_DescStays.T4_eq]; unfold bailifflaw09_DescStays.T4E
        rw [cond_true]
      cases ((cmpR a0 a1 a2 a3).2 != 0) with
      | true => rw [cond_true]; exact s4 zd
      | false => rw [cond_false]; exact s4 zd
  have s2 : bailifflaw09_DescStays.T1 bailifflaw09_DescStays.ts (runF D n) n a0 a1 a2 a3 true true = some (.bool true) := by
    rw [bailifflaw09_DescStays.T1_eq]; unfold bailifflaw09_DescStays.T1E
    rw [cond_true]
  have s0 : ∀ b, bailifflaw09_DescStays.T0 bailifflaw09_DescStays.ts (runF D n) n a0 a1 a2 a3 true b = some (.bool true) := by
    intro b
    rw [bailifflaw09_DescStays.T0_eq]; unfold bailifflaw09_DescStays.T0E
    cases b with
    | true => rw [cond_true, s2]
    | false => rw [cond_false, Bool.not_true, s1]
  cases b1 with
  | true => rw [cond_true, s0]
  | false => rw [cond_false, callK_of l3 rfl, s0]
end Bz
