/- Floats: what the two ways to a whole number have in common. -/
import Derived.Test.YtjlgkjmbndmkjabDevP
set_option linter.all false
set_option linter.unusedVariables false
namespace Bz
open Go Ieee

def rd (b : Nat) : Datum := Ieee.double.read b
theorem rd_def (b : Nat) : Ieee.double.read b = rd b := rfl
/-- the value's order, on data -/
theorem order_rd (a b : Nat) : Ieee.double.order a b = (rd a).order (rd b) := rfl

theorem signed_zero (s : Bool) (k : Nat) : signed s 0 k = 0 := by cases s <;> simp [signed]
theorem zero_order_left (s t : Bool) (i j : Int) (d : Datum) : (Datum.number s 0 i).order d = (Datum.number t 0 j).order d := by
  cases d with
  | nan => rfl
  | infinity u => rfl
  | number u n k =>
    simp only [Datum.order, signed_zero]
    congr 1
    -- the sign of the other number, at any scale
    have key : ∀ p q : Nat, compare (0 : Int) (signed u n p) = compare (0 : Int) (signed u n q) := by
      intro p q
      have hs : ∀ p, (signed u n p = 0 ↔ n = 0) ∧ (0 < signed u n p ↔ u = false ∧ n ≠ 0) := by
        intro p
        have h2 : 0 < 2 ^ p := Nat.two_pow_pos p
        cases u
        · simp only [signed, Bool.false_eq_true, if_false, Nat.shiftLeft_eq]
          constructor
          · constructor
            · intro h
              have : n * 2 ^ p = 0 := by exact_mod_cast h
              rcases Nat.mul_eq_zero.1 this with h | h
              · exact h
              · omega
            · rintro rfl; simp
          · constructor
            · intro h
              refine ⟨by trivial, ?_⟩
              rintro rfl; simp at h
            · rintro ⟨_, h⟩
              have : 0 < n * 2 ^ p := Nat.mul_pos (by omega) h2
              exact_mod_cast this
        · simp only [signed, if_true, Nat.shiftLeft_eq]
          constructor
          · constructor
            · intro h
              have : n * 2 ^ p = 0 := by have : ((n * 2 ^ p : Nat) : Int) = 0 := by omega
                                         exact_mod_cast this
              rcases Nat.mul_eq_zero.1 this with h | h
              · exact h
              · omega
            · rintro rfl; simp
          · constructor
            · intro h; exfalso
              have : (0 : Int) ≤ ((n * 2 ^ p : Nat) : Int) := Int.natCast_nonneg _
              omega
            · rintro ⟨h, _⟩; cases h
      have a := hs p; have b := hs q
      simp only [compare, compareOfLessAndEq]
      by_cases hn : n = 0
      · have e1 := a.1.2 hn; have e2 := b.1.2 hn
        rw [e1, e2]
      · have n1 : signed u n p ≠ 0 := fun e => hn (a.1.1 e)
        have n2 : signed u n q ≠ 0 := fun e => hn (b.1.1 e)
        cases u
        · have p1 := a.2.2 ⟨rfl, hn⟩; have p2 := b.2.2 ⟨rfl, hn⟩
          rw [if_pos p1, if_pos p2]
        · have p1 : ¬ 0 < signed true n p := fun e => by have := (a.2.1 e).1; cases this
          have p2 : ¬ 0 < signed true n q := fun e => by have := (b.2.1 e).1; cases this
          rw [if_neg p1, if_neg p2, if_neg (Ne.symm n1), if_neg (Ne.symm n2)]
    exact key _ _

theorem rd_word0 (s : Bool) : rd (Ieee.double.word s 0) = .number s 0 Ieee.double.leastPlace := by cases s <;> decide
theorem dec_rd (b : Nat) : FloatKind.f64.decode b = rd b := rfl

/-- Both ways to a whole number are alike in every comparison. -/
theorem whole_order (b : Nat) {n : Int} (hn : (FloatKind.f64.decode b).toInt .zero = some n) (x : Nat) :
    Ieee.double.order (P.truncF b) x = Ieee.double.order (FloatKind.f64.nearest n) x := by
  unfold P.truncF
  rw [dec_rd] at hn ⊢
  cases hd : rd b with
  | nan s t => rw [hd] at hn; cases hn
  | infinity s => rw [hd] at hn; cases hn
  | number s m i =>
    rw [hd] at hn
    simp only [Datum.toInt, Datum.integral, Option.some.injEq] at hn
    simp only [Datum.integral]
    generalize Toward.zero.cut s (m <<< i.toNat) (-i).toNat = q at hn ⊢
    subst hn
    by_cases hq : q = 0
    · subst hq
      have e1 : FloatKind.f64.encode (.number s 0 0) = Ieee.double.word s 0 := by simp [FloatKind.encode, FloatKind.format, Format.write, Format.nearest]
      have e2 : FloatKind.f64.nearest (signed s 0 0) = Ieee.double.word false 0 := by
        rw [signed_zero]; decide
      rw [e1, e2, order_rd, order_rd, rd_word0, rd_word0]
      exact zero_order_left _ _ _ _ _
    · have e : FloatKind.f64.nearest (signed s q 0) = FloatKind.f64.encode (.number s q 0) := by
        unfold FloatKind.nearest
        have hs : signed s q 0 = if s then -(q : Int) else (q : Int) := by cases s <;> simp [signed]
        rw [hs]
        cases s
        · have h1 : decide ((q : Int) < 0) = false := by simp
          simp only [Bool.false_eq_true, if_false, h1, Int.natAbs_natCast]
        · have h1 : (-(q : Int) < 0) = True := by simp; omega
          simp only [if_true, h1, decide_true]
          congr 2
          omega
      rw [e]

/-- a number that is at most so great -/
def safe : Nat := 4845873199050653695
theorem rd_safe : rd safe = .number false 9007199254740991 0 := by decide
theorem rd_nsafe : rd 14069245235905429503 = .number true 9007199254740991 0 := by decide
theorem isNaN_rd (b : Nat) : isNaN b = (rd b).isNaN := rfl

theorem int_order (a b : Int) : ((some (compare a b) == some Ordering.lt) = decide (a < b)) ∧ ((some (compare a b) == some Ordering.eq) = decide (a = b)) ∧ ((some (compare a b) == some Ordering.gt) = decide (a > b)) := by
  simp only [compare, compareOfLessAndEq]
  by_cases h1 : a < b
  · have h2 : a ≠ b := by omega
    have h3 : ¬ a > b := by omega
    simp [h1, h2]; omega
  · by_cases h2 : a = b
    · subst h2; simp
    · have h3 : a > b := by omega
      simp [h1, h2, h3]

/-- no number is itself -/
theorem order_self (b : Nat) : (Ieee.double.order b b != some Ordering.eq) = isNaN b := by
  rw [isNaN_rd, order_rd]
  cases rd b with
  | nan s t => rfl
  | infinity s => cases s <;> rfl
  | number s m i =>
    have : (Datum.number s m i).order (.number s m i) = some .eq := by
      simp only [Datum.order]
      congr 1
      simp [compare, compareOfLessAndEq]
    rw [this]; rfl

theorem rd_abs (b : Nat) : rd (b % 2 ^ 63) = match rd b with
    | .number _ m i => .number false m i
    | .infinity _ => .infinity false
    | .nan _ t => .nan false t := by
  have e1 : b % 2 ^ 63 / Ieee.double.signWeight = 0 := by
    have : Ieee.double.signWeight = 2 ^ 63 := by decide
    rw [this]; exact Nat.div_eq_of_lt (Nat.mod_lt _ (by decide))
  have e2 : b % 2 ^ 63 % Ieee.double.signWeight = b % Ieee.double.signWeight := by
    have : Ieee.double.signWeight = 2 ^ 63 := by decide
    rw [this]; exact Nat.mod_mod _ _
  unfold rd Format.read
  simp only [e1, e2]
  by_cases h1 : b % Ieee.double.signWeight < Ieee.double.binade
  · simp only [h1, if_true]; rfl
  · by_cases h2 : b % Ieee.double.signWeight < Ieee.double.infRung
    · simp only [h1, if_false, h2, if_true]; rfl
    · by_cases h3 : b % Ieee.double.signWeight = Ieee.double.infRung
      · simp only [h1, if_false, h2, h3, if_true]
        have : ¬ Ieee.double.infRung < Ieee.double.binade := by decide
        simp only [this, if_false, Nat.lt_irrefl]; rfl
      · simp only [h1, if_false, h2, h3]; rfl
theorem isNaN_abs (b : Nat) : isNaN (b % 2 ^ 63) = isNaN b := by
  rw [isNaN_rd, isNaN_rd, rd_abs]; cases rd b <;> rfl

def ordB (a b : Nat) (o : Ordering) : Bool := Ieee.double.order a b == some o
theorem safe_scale {s : Bool} {m : Nat} {i : Int} (t : Bool) : (Datum.number s m i).order (.number t 9007199254740991 0) =
    some (compare (signed s m (i - min i 0).toNat) (signed t 9007199254740991 (0 - min i 0).toNat)) := rfl
theorem signed_eq (s : Bool) (m k : Nat) : signed s m k = if s then -((m * 2 ^ k : Nat) : Int) else ((m * 2 ^ k : Nat) : Int) := by
  cases s <;> simp [signed, Nat.shiftLeft_eq]
theorem range_eq (b : Nat) (hn : isNaN b = false) :
    (ordB (b % 2 ^ 63) safe .lt || ordB (b % 2 ^ 63) safe .eq) = ((ordB b 14069245235905429503 .gt || ordB b 14069245235905429503 .eq) && (ordB b safe .lt || ordB b safe .eq)) := by
  unfold ordB
  simp only [order_rd, rd_safe, rd_nsafe, rd_abs]
  rw [isNaN_rd] at hn
  cases hd : rd b with
  | nan s t => rw [hd] at hn; cases hn
  | infinity s => cases s <;> rfl
  | number s m i =>
    simp only [safe_scale, signed_eq]
    simp only [(int_order _ _).1, (int_order _ _).2.1, (int_order _ _).2.2]
    generalize m * 2 ^ (i - min i 0).toNat = V
    generalize 9007199254740991 * 2 ^ (0 - min i 0).toNat = W
    rw [Bool.eq_iff_iff]
    cases s <;> simp only [Bool.false_eq_true, if_false, if_true, Bool.or_eq_true, Bool.and_eq_true, decide_eq_true_eq] <;> omega
theorem toInt_range (b : Nat) (hn : isNaN b = false) (h : (ordB (b % 2 ^ 63) safe .lt || ordB (b % 2 ^ 63) safe .eq) = true) :
    ∃ n : Int, (FloatKind.f64.decode b).toInt .zero = some n ∧ -9007199254740991 ≤ n ∧ n ≤ 9007199254740991 := by
  unfold ordB at h
  simp only [order_rd, rd_safe, rd_abs] at h
  rw [isNaN_rd] at hn
  rw [dec_rd]
  cases hd : rd b with
  | nan s t => rw [hd] at hn; cases hn
  | infinity s => rw [hd] at h; simp [Datum.order] at h
  | number s m i =>
    rw [hd] at h
    simp only [safe_scale, signed_eq, (int_order _ _).1, (int_order _ _).2.1, Bool.false_eq_true, if_false, Bool.or_eq_true, decide_eq_true_eq] at h
    have hV : m * 2 ^ (i - min i 0).toNat ≤ 9007199254740991 * 2 ^ (0 - min i 0).toNat := by omega
    have hq : Toward.zero.cut s (m <<< i.toNat) (-i).toNat ≤ 9007199254740991 := by
      simp only [Toward.cut, Bool.toNat_false, Nat.add_zero, Nat.shiftLeft_eq, Nat.one_mul]
      by_cases hi : 0 ≤ i
      · have e1 : min i 0 = 0 := by omega
        rw [e1] at hV
        have e2 : (-i).toNat = 0 := by omega
        have e3 : (i - 0).toNat = i.toNat := by omega
        rw [e3] at hV
        simp only [e2, Nat.zero_min, Nat.pow_zero, Nat.div_one]
        simpa using hV
      · have e1 : min i 0 = i := by omega
        rw [e1] at hV
        have e2 : i.toNat = 0 := by omega
        have e3 : (i - i).toNat = 0 := by omega
        have e4 : (0 - i).toNat = (-i).toNat := by omega
        rw [e3, e4] at hV
        simp only [Nat.pow_zero, Nat.mul_one] at hV
        simp only [e2, Nat.pow_zero, Nat.mul_one]
        by_cases hd2 : (-i).toNat ≤ m.log2 + 2
        · rw [Nat.min_eq_left hd2]
          exact Nat.div_le_of_le_mul (by rw [Nat.mul_comm]; exact hV)
        · rw [Nat.min_eq_right (by omega)]
          have hlt : m < 2 ^ (m.log2 + 2) := by
            have h1 := Nat.lt_log2_self (n := m)
            have h2 : 2 ^ (m.log2 + 1) ≤ 2 ^ (m.log2 + 2) := Nat.pow_le_pow_right (by decide) (by omega)
            omega
          rw [Nat.div_eq_of_lt hlt]; exact Nat.zero_le _
    simp only [Datum.toInt, Datum.integral]
    refine ⟨_, rfl, ?_⟩
    generalize Toward.zero.cut s (m <<< i.toNat) (-i).toNat = q at hq ⊢
    rw [signed_eq]
    simp only [Nat.pow_zero, Nat.mul_one]
    cases s <;> simp <;> omega

/-- is the minus there? -/
def minus (b : Nat) : Bool := b / 2 ^ 63 % 2 == 1
theorem rd_neg {b : Nat} {s : Bool} {m : Nat} {i : Int} (h : rd b = .number s m i) : s = minus b := by
  unfold rd Format.read at h
  have : Ieee.double.signWeight = 2 ^ 63 := by decide
  rw [this] at h
  simp only at h
  split at h
  · cases h; rfl
  · split at h
    · cases h; rfl
    · split at h <;> cases h
theorem rd_zero : rd 0 = .number false 0 Ieee.double.leastPlace := by decide
theorem rd_one : rd 4607182418800017408 = .number false (2 ^ 52) (-52) := by decide
theorem is_zero {b : Nat} (h : ordB b 0 .eq = true) : ∃ i, rd b = .number (minus b) 0 i := by
  unfold ordB at h
  rw [order_rd, rd_zero] at h
  cases hd : rd b with
  | nan s t => rw [hd] at h; cases h
  | infinity s => rw [hd] at h; cases s <;> cases h
  | number s m i =>
    rw [hd] at h
    have e : (Datum.number s m i).order (.number false 0 Ieee.double.leastPlace) = some (compare (signed s m (i - min i Ieee.double.leastPlace).toNat) (signed false 0 (Ieee.double.leastPlace - min i Ieee.double.leastPlace).toNat)) := rfl
    rw [e, signed_zero, (int_order _ _).2.1, signed_eq] at h
    simp only [decide_eq_true_eq] at h
    have h2 : 0 < 2 ^ (i - min i Ieee.double.leastPlace).toNat := Nat.two_pow_pos _
    have hm : m = 0 := by
      have : m * 2 ^ (i - min i Ieee.double.leastPlace).toNat = 0 := by
        cases s
        · simp only [Bool.false_eq_true, if_false] at h; exact_mod_cast h
        · simp only [if_true] at h
          have : ((m * 2 ^ (i - min i Ieee.double.leastPlace).toNat : Nat) : Int) = 0 := by omega
          exact_mod_cast this
      rcases Nat.mul_eq_zero.1 this with h | h
      · exact h
      · omega
    subst hm
    have := rd_neg hd
    subst this
    exact ⟨i, rfl⟩
theorem one_over {b : Nat} (h : ordB b 0 .eq = true) : (Ieee.double.div 4607182418800017408 b) = some (if minus b then 18442240474082181120 else 9218868437227405312) := by
  obtain ⟨i, hi⟩ := is_zero h
  unfold Format.div
  rw [rd_def, rd_def, rd_one, hi]
  cases minus b <;> rfl
theorem one_over_lt {b : Nat} (h : ordB b 0 .eq = true) : (Ieee.double.order (Option.getD (Ieee.double.div 4607182418800017408 b) 9221120237041090561) 0 == some Ordering.lt) = minus b := by
  rw [one_over h]; cases minus b <;> decide
theorem one_over_gt {b : Nat} (h : ordB b 0 .eq = true) : (Ieee.double.order (Option.getD (Ieee.double.div 4607182418800017408 b) 9221120237041090561) 0 == some Ordering.gt) = !minus b := by
  rw [one_over h]; cases minus b <;> decide
end Bz
