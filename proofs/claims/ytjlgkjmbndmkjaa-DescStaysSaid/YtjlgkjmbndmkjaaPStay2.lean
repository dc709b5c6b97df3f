/- What is not configurable stays: the law over plain data. -/
import Derived.Test.YtjlgkjmbndmkjaaPStays
set_option linter.all false
set_option linter.unusedVariables false
set_option linter.unusedSimpArgs false
namespace Bz
open Go Ieee S

theorem and51 {h : Int} (h0 : 0 ≤ h) (h1 : h ≤ 255) (h63 : decide (h > 63) = false) (hx : accH h = false) : bAnd .u8 51 h = h := by
  have := bits_of (p := fun h => decide (h > 63) || accH h || (bAnd .u8 51 h == h)) (by decide +kernel) h0 h1
  simp only [h63, hx, Bool.false_or] at this
  exact eq_of_beq this
theorem and60 {h : Int} (h0 : 0 ≤ h) (h1 : h ≤ 255) (h63 : decide (h > 63) = false) (hx : dataH h = false) : bAnd .u8 60 h = h := by
  have := bits_of (p := fun h => decide (h > 63) || dataH h || (bAnd .u8 60 h == h)) (by decide +kernel) h0 h1
  simp only [h63, hx, Bool.false_or] at this
  exact eq_of_beq this
theorem same_val {d : Dsc} (hd : Dok d) (c : chkD d = true) : sameV d.value d.value = true ∧ sameV d.get d.get = true ∧ sameV d.set d.set = true := by
  have v := chk_val c
  exact ⟨same_self hd.v.k0 v.1, same_self hd.g.k0 (called_may v.2.1), same_self hd.s.k0 (called_may v.2.2)⟩
theorem sameD_self {d : Dsc} (hd : Dok d) (c : chkD d = true) : sameD d d = true := by
  have v := same_val hd c
  unfold sameD
  rw [v.1, v.2.1, v.2.2]
  simp
theorem sameD_left {a0 a2 : Bool} {a1 a3 : Dsc} (d1 : Dok a1) (hc : (cmpR a0 a1 a2 a3).1 = true) : sameD a1 (leftD (apD a0 a1 a2 a3) a1.has) = true := by
  obtain ⟨f1, f2, f3, f4, g1, g4, g8, g2, g16, g32⟩ := ap_full d1 hc
  have hk := (cmp_err a0 a1 a2 a3 hc).1
  unfold okD at hk
  simp only [Bool.and_eq_true] at hk
  have c1 := hk.1
  have b := chk_bits c1
  have v := same_val d1 c1
  have e : bAnd .u8 (apD a0 a1 a2 a3).has a1.has = a1.has := by
    rcases full_cases f2 with e | e
    · rw [e]
      refine and51 d1.h0 d1.h1 b.1 ?_
      cases h : accH a1.has with
      | false => rfl
      | true => have := f3 h; omega
    · rw [e]
      refine and60 d1.h0 d1.h1 b.1 ?_
      cases h : dataH a1.has with
      | false => rfl
      | true => have := f4 h; omega
  unfold sameD leftD
  simp only [e]
  have q1 : (!hb a1.has 1 || sameV a1.value (cond (hb a1.has 1) (apD a0 a1 a2 a3).value zv)) = true := by
    cases h : hb a1.has 1 with
    | false => rfl
    | true => rw [cond_true, g1 h, v.1]; rfl
  have q4 : (!hb a1.has 4 || sameV a1.get (cond (hb a1.has 4) (apD a0 a1 a2 a3).get zv)) = true := by
    cases h : hb a1.has 4 with
    | false => rfl
    | true => rw [cond_true, g4 h, v.2.1]; rfl
  have q8 : (!hb a1.has 8 || sameV a1.set (cond (hb a1.has 8) (apD a0 a1 a2 a3).set zv)) = true := by
    cases h : hb a1.has 8 with
    | false => rfl
    | true => rw [cond_true, g8 h, v.2.2]; rfl
  have q2 : (!hb a1.has 2 || a1.wri == (cond (hb a1.has 2) (apD a0 a1 a2 a3).wri false)) = true := by
    cases h : hb a1.has 2 with
    | false => rfl
    | true => rw [cond_true, g2 h]; simp
  have q16 : (!hb a1.has 16 || a1.enu == (cond (hb a1.has 16) (apD a0 a1 a2 a3).enu false)) = true := by
    cases h : hb a1.has 16 with
    | false => rfl
    | true => rw [cond_true, g16 h]; simp
  have q32 : (!hb a1.has 32 || a1.con == (cond (hb a1.has 32) (apD a0 a1 a2 a3).con false)) = true := by
    cases h : hb a1.has 32 with
    | false => rfl
    | true => rw [cond_true, g32 h]; simp
  rw [q1, q4, q8, q2, q16, q32]; simp
theorem ap_self {X : Dsc} (dX : Dok X) (c : chkD X = true) (f : fullH X.has = true) : (cmpR false X true X).1 = true ∧ (cmpR false X true X).2 = 0 ∧ apD false X true X = X := by
  have v := same_val dX c
  have hk : okD X true X = true := by unfold okD; rw [c, f]; rfl
  have hm : mayD X X = true := by
    unfold mayD
    rw [v.1, v.2.1, v.2.2]
    cases X.con <;> cases X.wri <;> cases dataH X.has <;> cases accH X.has <;> cases X.enu <;> simp
  have h1 : (cmpR false X true X).1 = true := by unfold cmpR; rw [hk]; exact hm
  have h2 : (cmpR false X true X).2 = 0 := by unfold cmpR; rw [hk]; rfl
  refine ⟨h1, h2, ?_⟩
  have hs : swD X X = false := by
    have := (chk_bits c).2
    unfold swD
    rw [this, Bool.and_comm, this]; rfl
  unfold apD
  rw [h1, hs]
  simp only [cond_true, cond_false, Bool.cond_self]
theorem ap_stays {a0 : Bool} {a1 a3 : Dsc} (d1 : Dok a1) (d3 : Dok a3) (hc : (cmpR a0 a1 true a3).1 = true) (hn : a3.con = false) :
    (apD a0 a1 true a3).con = false ∧ (apD a0 a1 true a3).enu = a3.enu ∧ (apD a0 a1 true a3).has = a3.has ∧
      cond (accH a3.has) (sameV (apD a0 a1 true a3).get a3.get && sameV (apD a0 a1 true a3).set a3.set) (a3.wri || (!(apD a0 a1 true a3).wri && sameV (apD a0 a1 true a3).value a3.value)) = true := by
  have hk := (cmp_err a0 a1 true a3 hc).1
  have hc' := hc
  unfold cmpR at hc'
  rw [hk] at hc'
  have hm : mayD a1 a3 = true := by simpa using hc'
  unfold okD at hk
  have hk2 : chkD a1 = true ∧ chkD a3 = true ∧ fullH a3.has = true := by simpa using hk
  obtain ⟨c1, c3, f3⟩ := hk2
  have v := same_val d3 c3
  have hx := (chk_bits c1).2
  unfold mayD at hm
  rw [hn, Bool.false_or] at hm
  simp only [Bool.and_eq_true, Bool.not_eq_true'] at hm
  obtain ⟨m1, m2, m3⟩ := hm
  have hs : swD a1 a3 = false := by
    unfold swD
    rcases full_cases f3 with e | e <;> rw [e] at m3 ⊢ <;> revert m3 hx <;> generalize (cond (dataH a1.has) _ _) = y <;> cases dataH a1.has <;> cases accH a1.has <;> cases y <;> decide
  unfold apD
  rw [hc, hs]
  simp only [cond_true, cond_false]
  refine ⟨?_, ?_, ?_, ?_⟩
  · rw [m1, hn]; cases hb a1.has 32 <;> rfl
  · revert m2
    cases hb a1.has 16 with
    | false => intro _; rfl
    | true => intro h; simpa using h
  · trivial
  · cases ha : accH a3.has with
    | true =>
      have hd : dataH a1.has = true → False := by
        intro hd
        rcases full_cases f3 with e | e
        · rw [e] at ha; revert ha; decide
        · rw [e, hd] at m3
          revert m3
          rw [show dataH 60 = false from by decide]
          simp
      have hd' : dataH a1.has = false := by
        cases h : dataH a1.has with
        | false => rfl
        | true => exact (hd h).elim
      rw [hd', cond_false] at m3
      have q4 : sameV (cond (hb a1.has 4) a1.get a3.get) a3.get = true := by
        cases h : hb a1.has 4 with
        | false => exact v.2.1
        | true =>
          have : accH a1.has = true := by unfold accH; rw [h]; rfl
          rw [this, h] at m3
          simp only [Bool.or_true, Bool.not_true, Bool.false_or, Bool.and_eq_true] at m3
          exact m3.2.1
      have q8 : sameV (cond (hb a1.has 8) a1.set a3.set) a3.set = true := by
        cases h : hb a1.has 8 with
        | false => exact v.2.2
        | true =>
          have : accH a1.has = true := by unfold accH; rw [h, Bool.or_true]
          rw [this, h] at m3
          simp only [Bool.or_true, Bool.not_true, Bool.false_or, Bool.and_eq_true] at m3
          exact m3.2.2
      rw [q4, q8]; rfl
    | false =>
      rw [cond_false]
      cases hw : a3.wri with
      | true => rfl
      | false =>
        rw [hw] at m3
        have hp : (cond (hb a1.has 2) a1.wri false) = false ∧ sameV (cond (hb a1.has 1) a1.value a3.value) a3.value = true := by
          cases hd : dataH a1.has with
          | false =>
            have b := data_bits hd
            rw [b.1, b.2]
            exact ⟨rfl, v.1⟩
          | true =>
            rw [hd] at m3
            simp only [Bool.true_or, Bool.not_true, Bool.false_or, cond_true, Bool.and_eq_true, Bool.not_eq_true'] at m3
            refine ⟨?_, ?_⟩
            · rw [m3.2.1]; cases hb a1.has 2 <;> rfl
            · cases h : hb a1.has 1 with
              | false => exact v.1
              | true => rw [h] at m3; simpa using m3.2.2
        rw [hp.1, hp.2]; rfl
end Bz
