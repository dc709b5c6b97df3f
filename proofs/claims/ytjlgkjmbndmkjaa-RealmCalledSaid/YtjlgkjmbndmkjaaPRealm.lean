/- Names and numbers of natives: the program's and the document's, over plain data. -/
import Derived.Test.YtjlgkjmbndmkjaaSpRC
set_option linter.all false
set_option maxRecDepth 100000
set_option linter.unusedVariables false
set_option linter.unusedSimpArgs false
namespace Bz
open Go Ieee S
namespace RC
theorem callK_of {R : Nat → List DV → Option DV} {f : Nat} {args : List DV} {sh : Sh} {r0 : DV} {x : sh.T} (h : R f args = some r0) (hd : sh.dec r0 = some x) (k : sh.T → Option DV) : callK R f args sh k = k x := by
  simp only [callK, h, hd]
def fstL : List ByteArray := match runF D 1 167 [] with | some (.arr .str l) => l | _ => []
def funL : List ByteArray := match runF D 1 168 [] with | some (.arr .str l) => l | _ => []
def allL : List ByteArray := match runF D 80 94 [] with | some (.own .str l) => l | _ => []
theorem fst_ok (n : Nat) : runF D (n + 1) 167 [] = some (.arr .str fstL) := by kernel_rfl
theorem fun_ok (n : Nat) : runF D (n + 1) 168 [] = some (.arr .str funL) := by kernel_rfl
theorem all_ok (n : Nat) : runF D (n + 80) 94 [] = some (.own .str allL) := by kernel_rfl
theorem all_eq : allL = fstL ++ funL := by kernel_rfl
theorem fst_len : fstL.length = 24 := by kernel_rfl
theorem fun_len : funL.length = 48 := by kernel_rfl
theorem all_len : allL.length = 72 := by rw [all_eq, List.length_append, fst_len, fun_len]
theorem idx_some {α : Type} {l : List α} {i : Int} {x : α} (h0 : 0 ≤ i) (hx : l[i.toNat]? = some x) (k : α → Option DV) : idx l i k = k x := by
  unfold idx; rw [hx]; simp [h0]

theorem wrap_small {i : Int} (h0 : 0 ≤ i) (h1 : i < 1000000) : IntKind.i64.wrap i = i := by
  have e : i % (2 ^ IntKind.i64.bits : Int) = i := Int.emod_eq_of_lt h0 (by show i < 2 ^ 64; omega)
  unfold IntKind.wrap
  simp only [e]
  rw [if_neg]
  simp [IntKind.signed, IntKind.bits]; omega
def natB (i : Int) : Bool := i == 1 || (decide (i ≥ 14) && decide (i < 72))
def natS (i : Int) : ByteArray := allL[i.toNat]?.getD (bs [])
theorem ref_Native_ok (n : Nat) (i : Int) : runF D (n + 81) 97 [.int .i64 i] = some (.tup [.str (cond (natB i) (natS i) (bs [])), .bool (natB i)]) := by
  rw [show n + 81 = (n + 80) + 1 from rfl, bailiffref24_Native.run]; unfold bailiffref24_Native.M
  rw [callK_of (x := allL) (all_ok n) rfl]
  have hr : ∀ b : Bool, (b = true → 0 ≤ i ∧ i < 72) → bailiffref24_Native.T0 bailiffref24_Native.ts (runF D (n + 80)) (n + 80) i allL b = some (.tup [.str (cond b (natS i) (bs [])), .bool b]) := by
    intro b hb
    rw [bailiffref24_Native.T0_eq]; unfold bailiffref24_Native.T0E
    cases b with
    | false => rfl
    | true =>
      obtain ⟨h0, h1⟩ := hb rfl
      have hlt : i.toNat < allL.length := by rw [all_len]; omega
      rw [cond_true, idx_some h0 (List.getElem?_eq_getElem hlt), cond_true]
      unfold natS; rw [List.getElem?_eq_getElem hlt]; rfl
  unfold natB
  rw [all_len]
  by_cases h1 : i = 1
  · have e : (i == 1) = true := by rw [h1]; rfl
    rw [e, cond_true, Bool.true_or, hr true (fun _ => by omega)]
  · have e : (i == 1) = false := by simp [h1]
    rw [e, cond_false, Bool.false_or]
    by_cases h2 : i ≥ 14
    · rw [decide_eq_true h2, cond_true, Bool.true_and]
      rw [show (decide (i < ((72 : Nat) : Int))) = decide (i < 72) from rfl]
      exact hr _ (fun h => by have := of_decide_eq_true h; omega)
    · rw [decide_eq_false h2, cond_false, Bool.false_and]
      exact hr false (fun h => by cases h)
theorem realm_Native_ok (n : Nat) (i : Int) : runF D (n + 2) 163 [.int .i64 i] = some (.tup [.str (cond (natB i) (natS i) (bs [])), .bool (natB i)]) := by
  rw [show n + 2 = (n + 1) + 1 from rfl, realm_Native.run]; unfold realm_Native.M
  rw [callK_of (x := fstL) (fst_ok n) rfl, callK_of (x := funL) (fun_ok n) rfl, fst_len, fun_len]
  rw [show (Bool.and (Nat.beq 24 24) (Nat.beq (0 + 24) 24)) = true from rfl, show (Bool.and (Nat.beq 48 48) (Nat.beq (0 + 48) 48)) = true from rfl, cond_true, cond_true]
  have t1 : ∀ b : Bool, (b = true → 24 ≤ i ∧ i < 72) → realm_Native.T1 realm_Native.ts (runF D (n + 1)) (n + 1) i funL b = some (.tup [.str (cond b (natS i) (bs [])), .bool b]) := by
    intro b hb
    rw [realm_Native.T1_eq]; unfold realm_Native.T1E
    rw [realm_Native.T2_eq]; unfold realm_Native.T2E
    cases b with
    | false => rfl
    | true =>
      obtain ⟨h0, h1⟩ := hb rfl
      have hw : IntKind.i64.wrap (i - 24) = i - 24 := wrap_small (by omega) (by omega)
      have hlt : (i - 24).toNat < funL.length := by rw [fun_len]; omega
      rw [cond_true, fun_len, show (Bool.and (Nat.beq 48 48) true) = true from rfl, cond_true, hw, idx_some (by omega) (List.getElem?_eq_getElem hlt), idx_some (by omega) (List.getElem?_eq_getElem hlt), cond_true]
      unfold natS
      rw [all_eq, List.getElem?_append_right (by rw [fst_len]; omega), fst_len, show i.toNat - 24 = (i - 24).toNat from by omega, List.getElem?_eq_getElem hlt]; rfl
  have t3 : ∀ b : Bool, (b = true → 0 ≤ i ∧ i < 24) → realm_Native.T3 realm_Native.ts (runF D (n + 1)) (n + 1) i fstL funL b = some (.tup [.str (cond (b || (decide (i ≥ 24) && decide (i < 72))) (natS i) (bs [])), .bool (b || (decide (i ≥ 24) && decide (i < 72)))]) := by
    intro b hb
    rw [realm_Native.T3_eq]; unfold realm_Native.T3E
    cases b with
    | false =>
      rw [cond_false, Bool.false_or]
      by_cases h2 : i ≥ 24
      · rw [decide_eq_true h2, cond_true, Bool.true_and]
        exact t1 _ (fun h => ⟨h2, of_decide_eq_true h⟩)
      · rw [decide_eq_false h2, cond_false, Bool.false_and]
        exact t1 false (fun h => by cases h)
    | true =>
      obtain ⟨h0, h1⟩ := hb rfl
      have hlt : i.toNat < fstL.length := by rw [fst_len]; omega
      rw [cond_true, fst_len, show (Bool.and (Nat.beq 24 24) true) = true from rfl, cond_true, idx_some h0 (List.getElem?_eq_getElem hlt), idx_some h0 (List.getElem?_eq_getElem hlt), Bool.true_or, cond_true]
      unfold natS
      rw [all_eq, List.getElem?_append_left hlt, List.getElem?_eq_getElem hlt]; rfl
  unfold natB
  by_cases h1 : i = 1
  · have e : (i == 1) = true := by rw [h1]; rfl
    rw [e, cond_true, t3 true (fun _ => by omega)]; rfl
  · have e : (i == 1) = false := by simp [h1]
    rw [e, cond_false, Bool.false_or]
    by_cases h2 : i ≥ 14
    · rw [decide_eq_true h2, cond_true, Bool.true_and, realm_Native.T0_eq]; unfold realm_Native.T0E
      rw [t3 _ (fun h => by have := of_decide_eq_true h; omega)]
      have : (decide (i < 24) || (decide (i ≥ 24) && decide (i < 72))) = decide (i < 72) := by
        by_cases h3 : i < 24
        · have h4 : i < 72 := by omega
          simp [h3, h4]
        · have h4 : i ≥ 24 := by omega
          simp [h3, h4]
      rw [this]
    · rw [decide_eq_false h2, cond_false, Bool.false_and, realm_Native.T0_eq]; unfold realm_Native.T0E
      rw [t3 false (fun h => by cases h)]
      have : (decide (i ≥ 24) && decide (i < 72)) = false := by
        have h4 : ¬ i ≥ 24 := by omega
        simp [h4]
      rw [this]; rfl

/-! Numbers. -/
def eqN (s : ByteArray) (i : Nat) : Bool := (natS i).toList == s.toList
def fnd (s : ByteArray) : Nat → Nat → Int
  | 0, _ => -1
  | k + 1, i => bif eqN s i then (i : Int) else fnd s k (i + 1)
def numA (s : ByteArray) : Nat → Nat → Int × Bool
  | 0, _ => (0, false)
  | k + 1, i => bif natB i && eqN s i then ((i : Int), true) else numA s k (i + 1)
theorem find_loop (n : Nat) (s : ByteArray) : ∀ k i j, k + i = 72 → k < j → bailiffref24_find.L0 bailiffref24_find.ts (runF D n) n j allL s (i : Nat) = some (.int .i64 (fnd s k i)) := by
  intro k
  induction k with
  | zero =>
    intro i j hi hj
    obtain ⟨j, rfl⟩ : ∃ m, j = m + 1 := ⟨j - 1, by omega⟩
    rw [bailiffref24_find.L0_eq]; unfold bailiffref24_find.L0E
    rw [all_len, decide_eq_false (by omega), cond_false, bailiffref24_find.T0_eq]; rfl
  | succ k ih =>
    intro i j hi hj
    obtain ⟨j, rfl⟩ : ∃ m, j = m + 1 := ⟨j - 1, by omega⟩
    have hlt : ((i : Nat) : Int).toNat < allL.length := by rw [all_len]; omega
    rw [bailiffref24_find.L0_eq]; unfold bailiffref24_find.L0E
    rw [all_len, decide_eq_true (by omega), cond_true, idx_some (by omega) (List.getElem?_eq_getElem hlt), wrap_small (by omega) (by omega)]
    rw [show ((i : Nat) : Int) + 1 = ((i + 1 : Nat) : Int) from rfl, ih (i + 1) j (by omega) (by omega)]
    rw [show fnd s (k + 1) i = bif eqN s i then (i : Int) else fnd s k (i + 1) from rfl]
    have he : eqN s i = (ByteArray.toList (allL[((i : Nat) : Int).toNat]) == s.toList) := by
      unfold eqN natS
      rw [List.getElem?_eq_getElem hlt]; rfl
    rw [he]
    generalize fnd s k (i + 1) = y
    cases (ByteArray.toList (allL[((i : Nat) : Int).toNat]) == s.toList) <;> rfl
theorem num_loop (n : Nat) (s : ByteArray) : ∀ k i j, k + i = 72 → k < j → realm_Number.L0 realm_Number.ts (runF D (n + 2)) (n + 2) j s (i : Nat) = some (.tup [.int .i64 (numA s k i).1, .bool (numA s k i).2]) := by
  intro k
  induction k with
  | zero =>
    intro i j hi hj
    obtain ⟨j, rfl⟩ : ∃ m, j = m + 1 := ⟨j - 1, by omega⟩
    rw [realm_Number.L0_eq]; unfold realm_Number.L0E
    rw [decide_eq_false (by omega), cond_false, realm_Number.T1_eq]; rfl
  | succ k ih =>
    intro i j hi hj
    obtain ⟨j, rfl⟩ : ∃ m, j = m + 1 := ⟨j - 1, by omega⟩
    rw [realm_Number.L0_eq]; unfold realm_Number.L0E
    rw [decide_eq_true (by omega), cond_true, callK_of (x := (cond (natB i) (natS i) (bs []), natB i)) (realm_Native_ok n i) rfl]
    have t0 : ∀ b : Bool, realm_Number.T0 realm_Number.ts (runF D (n + 2)) (n + 2) j s b (i : Nat) (i : Nat) = cond b (some (.tup [.int .i64 (i : Nat), .bool true])) (some (.tup [.int .i64 (numA s k (i + 1)).1, .bool (numA s k (i + 1)).2])) := by
      intro b
      rw [realm_Number.T0_eq]; unfold realm_Number.T0E
      rw [wrap_small (by omega) (by omega), show ((i : Nat) : Int) + 1 = ((i + 1 : Nat) : Int) from rfl, ih (i + 1) j (by omega) (by omega)]
    rw [t0, t0]
    rw [show numA s (k + 1) i = bif natB i && eqN s i then ((i : Int), true) else numA s k (i + 1) from rfl]
    unfold eqN
    generalize numA s k (i + 1) = y
    cases natB i with
    | false => rfl
    | true =>
      simp only [cond_true, Bool.true_and]
      cases (ByteArray.toList (natS i) == s.toList) <;> rfl
def apartB : Bool := (List.range 72).all fun i => (List.range 72).all fun j => Nat.beq i j || !((natS i).toList == (natS j).toList)
theorem apart_ok : apartB = true := by kernel_rfl
theorem eqN_one {s : ByteArray} {i j : Nat} (hi : i < 72) (hj : j < 72) (e1 : eqN s i = true) (e2 : eqN s j = true) : i = j := by
  have h := apart_ok
  unfold apartB at h
  rw [List.all_eq_true] at h
  have h1 := h i (List.mem_range.2 hi)
  rw [List.all_eq_true] at h1
  have h2 := h1 j (List.mem_range.2 hj)
  unfold eqN at e1 e2
  have : ((natS i).toList == (natS j).toList) = true := by rw [eq_of_beq e1, eq_of_beq e2]; simp
  rw [this] at h2
  simp at h2
  exact h2
theorem fnd_none (s : ByteArray) : ∀ k i, (∀ j, i ≤ j → j < i + k → eqN s j = false) → fnd s k i = -1 ∧ numA s k i = (0, false) := by
  intro k
  induction k with
  | zero => intro i _; exact ⟨rfl, rfl⟩
  | succ k ih =>
    intro i h
    have := ih (i + 1) (fun j h1 h2 => h j (by omega) (by omega))
    rw [show fnd s (k + 1) i = bif eqN s i then (i : Int) else fnd s k (i + 1) from rfl, show numA s (k + 1) i = bif natB i && eqN s i then ((i : Int), true) else numA s k (i + 1) from rfl]
    rw [h i (by omega) (by omega), this.1, this.2]
    simp
theorem num_same (s : ByteArray) : ∀ k i, k + i = 72 → numA s k i = cond (fnd s k i == 1 || decide (fnd s k i ≥ 14)) (fnd s k i, true) (0, false) := by
  intro k
  induction k with
  | zero => intro i _; rfl
  | succ k ih =>
    intro i hi
    cases he : eqN s i with
    | true =>
      have hn := fnd_none s k (i + 1) (fun j h1 h2 => by
        cases hj : eqN s j with
        | false => rfl
        | true => have := eqN_one (by omega) (by omega) he hj; omega)
      rw [show fnd s (k + 1) i = bif eqN s i then (i : Int) else fnd s k (i + 1) from rfl, show numA s (k + 1) i = bif natB i && eqN s i then ((i : Int), true) else numA s k (i + 1) from rfl]
      rw [he, hn.2]
      unfold natB
      have h72 : ((i : Nat) : Int) < 72 := by omega
      simp only [cond_true, Bool.and_true, decide_eq_true h72]
    | false =>
      rw [show fnd s (k + 1) i = bif eqN s i then (i : Int) else fnd s k (i + 1) from rfl, show numA s (k + 1) i = bif natB i && eqN s i then ((i : Int), true) else numA s k (i + 1) from rfl]
      rw [he, Bool.and_false, cond_false, cond_false]
      exact ih (i + 1) (by omega)
theorem realm_Number_ok (n : Nat) (s : ByteArray) : runF D (n + 83) 165 [.str s] = some (.tup [.int .i64 (numA s 72 0).1, .bool (numA s 72 0).2]) := by
  rw [show n + 83 = (n + 82) + 1 from rfl, realm_Number.run]; unfold realm_Number.M
  rw [callK_of (x := funL) (fun_ok (n + 81)) rfl, fun_len, show (Bool.and (Nat.beq 48 48) (Nat.beq (0 + 48) 48)) = true from rfl, cond_true]
  exact num_loop (n + 80) s 72 0 (n + 82) rfl (by omega)
theorem find_ok (n : Nat) (s : ByteArray) : runF D (n + 83) 106 [.sl .str allL, .str s] = some (.int .i64 (fnd s 72 0)) := by
  rw [show n + 83 = (n + 82) + 1 from rfl, bailiffref24_find.run]; unfold bailiffref24_find.M
  exact find_loop (n + 82) s 72 0 (n + 82) rfl (by omega)
theorem ref_Number_ok (n : Nat) (s : ByteArray) : runF D (n + 84) 99 [.str s] = some (.tup [.int .i64 (numA s 72 0).1, .bool (numA s 72 0).2]) := by
  rw [show n + 84 = (n + 83) + 1 from rfl, bailiffref24_Number.run]; unfold bailiffref24_Number.M
  rw [callK_of (x := allL) (all_ok (n + 3)) rfl, callK_of (x := fnd s 72 0) (find_ok n s) rfl, num_same s 72 0 rfl]
  have t0 : ∀ b : Bool, bailiffref24_Number.T0 bailiffref24_Number.ts (runF D (n + 83)) (n + 83) s (fnd s 72 0) b = some (.tup [.int .i64 (cond b (fnd s 72 0, true) (0, false)).1, .bool (cond b (fnd s 72 0, true) (0, false)).2]) := by
    intro b
    rw [bailiffref24_Number.T0_eq]; unfold bailiffref24_Number.T0E
    cases b <;> rfl
  rw [t0, t0]
  cases (fnd s 72 0 == 1) <;> rfl
set_option maxHeartbeats 4000000 in
theorem closed_ok (n : Nat) (i : Int) (s : ByteArray) : bailifflaw24_RealmCalled.T2 bailifflaw24_RealmCalled.ts (runF D (n + 90)) (n + 90) i s false = some (.bool true) := by kernel_rfl
theorem called_walk {m : Nat} {R : Nat → List DV → Option DV} {i : Int} {s x : ByteArray} {b : Bool} {q : Int × Bool} (h1 : R 163 [.int .i64 i] = some (.tup [.str x, .bool b])) (h2 : R 97 [.int .i64 i] = some (.tup [.str x, .bool b]))
    (h3 : R 165 [.str s] = some (.tup [.int .i64 q.1, .bool q.2])) (h4 : R 99 [.str s] = some (.tup [.int .i64 q.1, .bool q.2])) (h5 : bailifflaw24_RealmCalled.T2 bailifflaw24_RealmCalled.ts R m i s false = some (.bool true)) :
    bailifflaw24_RealmCalled.M bailifflaw24_RealmCalled.ts R m i s = some (.bool true) := by
  obtain ⟨q1, q2⟩ := q
  unfold bailifflaw24_RealmCalled.M
  rw [callK_of (x := (x, b)) h1 rfl, callK_of (x := (x, b)) h2 rfl, callK_of (x := (q1, q2)) h3 rfl, callK_of (x := (q1, q2)) h4 rfl]
  rw [beq_self_eq_true, beq_self_eq_true, Bool.not_true, cond_false]
  rw [bailifflaw24_RealmCalled.T1_eq]; unfold bailifflaw24_RealmCalled.T1E
  rw [cond_false, bne_self_eq_false, bailifflaw24_RealmCalled.T0_eq]; unfold bailifflaw24_RealmCalled.T0E
  rw [cond_false, beq_self_eq_true, Bool.not_true]
  exact h5
theorem realmCalled (n : Nat) (i : Int) (s : ByteArray) : runF D (n + 91) 23 [.int .i64 i, .str s] = some (.bool true) :=
  (bailifflaw24_RealmCalled.run (n + 90) i s).trans (called_walk (realm_Native_ok (n + 88) i) (ref_Native_ok (n + 9) i) (realm_Number_ok (n + 7) s) (ref_Number_ok (n + 6) s) (closed_ok n i s))
end RC
end Bz
