/- Keys and tables: what the program's functions answer. -/
import Derived.Test.YtjlgkjmbndmkjabPDsc
set_option linter.all false
set_option maxRecDepth 100000
set_option linter.unusedVariables false
set_option linter.unusedSimpArgs false
namespace Bz
open Go Ieee S
theorem idx_some {α : Type} {l : List α} {i : Int} {x : α} (h0 : 0 ≤ i) (hx : l[i.toNat]? = some x) (k : α → Option DV) : idx l i k = k x := by
  unfold idx; rw [hx]; simp [h0]
theorem idx_nat {α : Type} {l : List α} {i : Nat} (h : i < l.length) (k : α → Option DV) : idx l (i : Int) k = k l[i] := idx_some (by omega) (List.getElem?_eq_getElem (by simpa using h)) k
theorem wrap_small {i : Int} (h0 : 0 ≤ i) (h1 : i < 1000000) : IntKind.i64.wrap i = i := by
  have e : i % (2 ^ IntKind.i64.bits : Int) = i := Int.emod_eq_of_lt h0 (by show i < 2 ^ 64; omega)
  unfold IntKind.wrap
  simp only [e]
  rw [if_neg]
  simp [IntKind.signed, IntKind.bits]; omega
theorem wrap_succ {i : Nat} (h1 : i < 900000) : IntKind.i64.wrap ((i : Int) + 1) = ((i + 1 : Nat) : Int) := wrap_small (by omega) (by omega)

/-! Keys. -/
def keyBad (k : Key) : Bool := (decide (k.sym < 0) || decide (((k.str.size : Nat) : Int) > 4096)) || (decide (k.sym > 0) && !isE k.str)
theorem key_Check_ok {n : Nat} (hn : 1 ≤ n) (k : Key) : runF D n 158 [.agg k.enc] = some (.int .i64 (cond (keyBad k) 9 0)) := by
  obtain ⟨n, rfl⟩ : ∃ m, n = m + 1 := ⟨n - 1, by omega⟩
  rw [key_Check.run]; unfold key_Check.M
  try simp only [callK, Sh.dec, cond_some_bool, cond_some_int, Bool.cond_self, kI, kU, cond_true, cond_false, key_Check.T0_c, key_Check.T1_c]
  simp only [key_Check.T0_eq, key_Check.T0E]; try simp only [callK, Sh.dec, cond_some_bool, cond_some_int, Bool.cond_self, kI, kU, cond_true, cond_false, key_Check.T0_c, key_Check.T1_c]
  simp only [key_Check.T1_eq, key_Check.T1E]; try simp only [callK, Sh.dec, cond_some_bool, cond_some_int, Bool.cond_self, kI, kU, cond_true, cond_false, key_Check.T0_c, key_Check.T1_c]
  congr 2
  unfold keyBad isE
  cases decide (k.sym < 0) <;> cases decide (((k.str.size : Nat) : Int) > 4096) <;> cases decide (k.sym > 0) <;> cases (k.str.toList == (bs []).toList) <;> rfl
theorem key_Of_ok {n : Nat} (hn : 1 ≤ n) (s : ByteArray) : runF D n 160 [.str s] = some (.agg (Key.enc ⟨s, 0⟩)) := by
  obtain ⟨n, rfl⟩ : ∃ m, n = m + 1 := ⟨n - 1, by omega⟩
  rw [key_Of.run]; rfl

/-! Whole descriptors. -/
def wholeB (d : Dsc) : Bool := chkD d && (wholeH d.has == d.has)
theorem table_whole_ok {n : Nat} (hn : 8 ≤ n) {d : Dsc} (hd : Dok d) : runF D n 179 [.agg d.enc] = some (.bool (wholeB d)) := by
  obtain ⟨n, rfl⟩ : ∃ m, n = m + 2 := ⟨n - 2, by omega⟩
  rw [table_whole.run]; unfold table_whole.M
  have h1 := desc_Check_ok (n := n) (by omega) hd
  have h2 := desc_whole_ok (n := n) (by omega) hd.h0 hd.h1
  have hc : runF D (n + 1) 127 [.agg d.enc] = some (.tup [.agg (Dsc.enc (cond (chkD d) ⟨wholeH d.has, d.value, d.get, d.set, d.wri, d.enu, d.con⟩ ⟨0, ⟨0, 0, bs [], 0⟩, ⟨0, 0, bs [], 0⟩, ⟨0, 0, bs [], 0⟩, false, false, false⟩)), .int .i64 (cond (chkD d) 0 90)]) := by
    rw [desc_Complete.run]; unfold desc_Complete.M
    rw [callK_of (x := cond (chkD d) 0 90) h1 rfl, callK_of (x := (⟨wholeH d.has, d.value, d.get, d.set, d.wri, d.enu, d.con⟩ : Dsc)) h2 rfl]
    cases chkD d <;> rfl
  rw [callK_of (x := ((cond (chkD d) ⟨wholeH d.has, d.value, d.get, d.set, d.wri, d.enu, d.con⟩ ⟨0, ⟨0, 0, bs [], 0⟩, ⟨0, 0, bs [], 0⟩, ⟨0, 0, bs [], 0⟩, false, false, false⟩ : Dsc), (cond (chkD d) 0 90 : Int))) hc rfl]
  rw [table_whole.T0_eq, table_whole.T0_eq]; unfold table_whole.T0E wholeB
  cases chkD d <;> rfl

/-! Tables. -/
def keyEq (a b : Key) : Bool := (a.str.toList == b.str.toList) && (a.sym == b.sym)
def has (k : Key) (l : List Prp) : Bool := l.any fun p => keyEq k p.key
/-- what Check answers of the properties behind some -/
def tblL (seen : List Prp) : List Prp → Int
  | [] => 0
  | p :: l => bif keyBad p.key then 9 else bif !wholeB p.desc then 90 else bif has p.key seen then 100 else tblL (seen ++ [p]) l
def tblE (l : List Prp) : Int := bif decide (((l.length : Nat) : Int) > 1024) then 4 else tblL [] l
/-- the map of Check -/
def mp : Nat → List Prp → List (List DV × DV)
  | _, [] => []
  | i, p :: l => (Key.enc p.key, .int .i64 ((i + 1 : Nat) : Int)) :: mp (i + 1) l
theorem mp_snoc (l : List Prp) (p : Prp) : ∀ i, mp i (l ++ [p]) = mp i l ++ [(Key.enc p.key, .int .i64 ((i + l.length + 1 : Nat) : Int))] := by
  induction l with
  | nil => intro i; rfl
  | cons q l ih =>
    intro i
    rw [List.cons_append]
    show (Key.enc q.key, _) :: mp (i + 1) (l ++ [p]) = _
    rw [ih, List.length_cons, show i + 1 + l.length + 1 = i + (l.length + 1) + 1 from by omega]; rfl
theorem eqC (a b : Key) : eqCells [2, 0] a.enc b.enc = some (keyEq a b) := by
  show (match some (a.str.toList == b.str.toList) with | some x => (match (match (match true with | true => some (a.sym == b.sym) | false => none) with | some y => some (y && true) | none => none) with | some r => some (x && r) | none => none) | none => none) = _
  show some ((a.str.toList == b.str.toList) && ((a.sym == b.sym) && true)) = _
  unfold keyEq; rw [Bool.and_true]
theorem mfind_has (k : Key) : ∀ (l : List Prp) (i j : Nat), (has k l = false → mfind [2, 0] k.enc (mp i l) j = some none) ∧ (has k l = true → ∃ p q, mfind [2, 0] k.enc (mp i l) j = some (some (p, .int .i64 ((q + 1 : Nat) : Int)))) := by
  intro l
  induction l with
  | nil => intro i j; exact ⟨fun _ => rfl, fun h => by cases h⟩
  | cons p l ih =>
    intro i j
    have e : mfind [2, 0] k.enc (mp i (p :: l)) j = (match eqCells [2, 0] k.enc (Key.enc p.key) with | some true => some (some (j, .int .i64 ((i + 1 : Nat) : Int))) | some false => mfind [2, 0] k.enc (mp (i + 1) l) (j + 1) | none => none) := rfl
    rw [e, eqC]
    unfold has
    rw [List.any_cons]
    cases hk : keyEq k p.key with
    | true => exact ⟨fun h => by simp at h, fun _ => ⟨_, _, rfl⟩⟩
    | false =>
      simp only [Bool.false_or]
      exact ih (i + 1) (j + 1)
theorem table_loop {n : Nat} (hn : 8 ≤ n) (l : List Prp) (hl : l.length ≤ 1024) (hd : ∀ p ∈ l, Dok p.desc) : ∀ (k i j : Nat), i + k = l.length → k < j →
    table_Check.L0 table_Check.ts (runF D n) n j l (i : Nat) (mp 0 (l.take i)) = some (.int .i64 (tblL (l.take i) (l.drop i))) := by
  intro k
  induction k with
  | zero =>
    intro i j hi hj
    obtain ⟨j, rfl⟩ : ∃ m, j = m + 1 := ⟨j - 1, by omega⟩
    rw [table_Check.L0_eq]; unfold table_Check.L0E
    rw [decide_eq_false (by omega), cond_false, table_Check.T0_eq, List.drop_eq_nil_of_le (by omega)]; rfl
  | succ k ih =>
    intro i j hi hj
    obtain ⟨j, rfl⟩ : ∃ m, j = m + 1 := ⟨j - 1, by omega⟩
    have hlt : i < l.length := by omega
    rw [table_Check.L0_eq]; unfold table_Check.L0E
    rw [decide_eq_true (by omega), cond_true, idx_nat hlt, callK_of (x := (cond (keyBad l[i].key) 9 0 : Int)) (key_Check_ok (by omega) _) rfl, callK_of (x := wholeB l[i].desc) (table_whole_ok hn (hd _ (List.getElem_mem hlt))) rfl]
    rw [List.drop_eq_getElem_cons hlt]
    show _ = some (DV.int .i64 (bif keyBad l[i].key then 9 else bif !wholeB l[i].desc then 90 else bif has l[i].key (l.take i) then 100 else tblL (l.take i ++ [l[i]]) (l.drop (i + 1))))
    cases keyBad l[i].key with
    | true => rfl
    | false =>
      rw [cond_false, cond_false, bne_self_eq_false, cond_false]
      cases wholeB l[i].desc with
      | false => rfl
      | true =>
        rw [Bool.not_true, cond_false, cond_false, beq_self_eq_true, cond_true]
        obtain ⟨m1, m2⟩ := mfind_has l[i].key (l.take i) 0 0
        cases hh : has l[i].key (l.take i) with
        | true =>
          obtain ⟨p, q, e⟩ := m2 hh
          rw [e, Option.bind_some]
          show Option.bind (some ((q + 1 : Nat) : Int)) _ = _
          rw [Option.bind_some, decide_eq_true (by omega), cond_true]; rfl
        | false =>
          have e := m1 hh
          have e2 : mputL [2, 0] (Key.enc l[i].key) (.int .i64 (IntKind.i64.wrap ((i : Int) + 1))) (mp 0 (l.take i)) = some (mp 0 (l.take i ++ [l[i]])) := by
            unfold mputL
            rw [e, mp_snoc, List.length_take, Nat.min_eq_left (by omega), wrap_succ (by omega), Nat.zero_add]
          rw [e, Option.bind_some]
          show Option.bind (some (0 : Int)) _ = _
          rw [Option.bind_some, decide_eq_false (by omega), cond_false, e2, Option.bind_some, wrap_succ (by omega)]
          have e3 : l.take i ++ [l[i]] = l.take (i + 1) := by rw [List.take_add_one, List.getElem?_eq_getElem hlt]; rfl
          rw [e3, cond_true, ih (i + 1) j (by omega) (by omega)]; rfl
theorem table_Check_ok {n : Nat} (hn : 1100 ≤ n) (l : List Prp) (hd : ∀ p ∈ l, Dok p.desc) : runF D n 175 [.sl .prp l] = some (.int .i64 (tblE l)) := by
  obtain ⟨n, rfl⟩ : ∃ m, n = m + 1 := ⟨n - 1, by omega⟩
  rw [table_Check.run]; unfold table_Check.M tblE
  by_cases h : ((l.length : Nat) : Int) > 1024
  · rw [decide_eq_true h]; rfl
  · rw [decide_eq_false h, cond_false, cond_false]
    exact table_loop (by omega) l (by omega) hd l.length 0 n (by omega) (by omega)
/-- the place of a key -/
def atL (k : Key) : List Prp → Nat → Int
  | [], _ => -1
  | p :: l, i => bif keyEq p.key k then (i : Int) else atL k l (i + 1)
theorem table_at_loop {R : Nat → List DV → Option DV} {m : Nat} (l : List Prp) (kk : Key) (hl : l.length ≤ 5000) : ∀ (k i j : Nat), i + k = l.length → k < j →
    table_at.L0 table_at.ts R m j l kk (i : Nat) = some (.int .i64 (atL kk (l.drop i) i)) := by
  intro k
  induction k with
  | zero =>
    intro i j hi hj
    obtain ⟨j, rfl⟩ : ∃ m, j = m + 1 := ⟨j - 1, by omega⟩
    rw [table_at.L0_eq]; unfold table_at.L0E
    rw [decide_eq_false (by omega), cond_false, table_at.T0_eq, List.drop_eq_nil_of_le (by omega)]; rfl
  | succ k ih =>
    intro i j hi hj
    obtain ⟨j, rfl⟩ : ∃ m, j = m + 1 := ⟨j - 1, by omega⟩
    have hlt : i < l.length := by omega
    rw [table_at.L0_eq]; unfold table_at.L0E
    rw [decide_eq_true (by omega), cond_true, idx_nat hlt, wrap_succ (by omega), ih (i + 1) j (by omega) (by omega), List.drop_eq_getElem_cons hlt]
    show _ = some (DV.int .i64 (bif keyEq l[i].key kk then (i : Int) else atL kk (l.drop (i + 1)) (i + 1)))
    unfold keyEq
    rw [Bool.and_true]
    cases (l[i].key.str.toList == kk.str.toList && l[i].key.sym == kk.sym) <;> rfl
theorem atL_get (k : Key) : ∀ (l : List Prp) (i : Nat), (atL k l i = -1) ∨ ∃ j, j < l.length ∧ atL k l i = ((i + j : Nat) : Int) := by
  intro l
  induction l with
  | nil => intro i; exact .inl rfl
  | cons p l ih =>
    intro i
    show (bif keyEq p.key k then (i : Int) else atL k l (i + 1)) = -1 ∨ ∃ j, j < (p :: l).length ∧ (bif keyEq p.key k then (i : Int) else atL k l (i + 1)) = _
    cases keyEq p.key k with
    | true => exact .inr ⟨0, by simp, rfl⟩
    | false =>
      rcases ih (i + 1) with h | ⟨j, h1, h2⟩
      · exact .inl h
      · exact .inr ⟨j + 1, by simp; omega, by rw [cond_false, h2]; congr 1; omega⟩
def zDsc : Dsc := ⟨0, ⟨0, 0, bs [], 0⟩, ⟨0, 0, bs [], 0⟩, ⟨0, 0, bs [], 0⟩, false, false, false⟩
def findE (l : List Prp) (k : Key) : Int := bif tblE l != 0 then tblE l else cond (keyBad k) 9 0
def findR (l : List Prp) (k : Key) : Dsc × Bool × Int :=
  bif findE l k != 0 then (zDsc, false, findE l k) else match l[(atL k l 0).toNat]? with
    | some p => bif decide (atL k l 0 ≥ 0) then (p.desc, true, 0) else (zDsc, false, 0)
    | none => (zDsc, false, 0)
theorem table_Find_ok {n : Nat} (hn : 5100 ≤ n) (l : List Prp) (hd : ∀ p ∈ l, Dok p.desc) (hl : l.length ≤ 5000) (k : Key) : runF D n 176 [.sl .prp l, .agg k.enc] = some (.tup [.agg (Dsc.enc (findR l k).1), .bool (findR l k).2.1, .int .i64 (findR l k).2.2]) := by
  obtain ⟨n, rfl⟩ : ∃ m, n = m + 2 := ⟨n - 2, by omega⟩
  have h1 : runF D (n + 1) 177 [.sl .prp l, .agg k.enc] = some (.int .i64 (findE l k)) := by
    rw [table_asked.run]; unfold table_asked.M findE
    rw [callK_of (x := tblE l) (table_Check_ok (by omega) l hd) rfl, callK_of (x := (cond (keyBad k) 9 0 : Int)) (key_Check_ok (by omega) k) rfl]
    cases (tblE l != 0) <;> rfl
  have h2 : runF D (n + 1) 178 [.sl .prp l, .agg k.enc] = some (.int .i64 (atL k l 0)) := by
    rw [table_at.run]; unfold table_at.M
    exact table_at_loop l k hl l.length 0 n (by omega) (by omega)
  rw [table_Find.run]; unfold table_Find.M
  rw [callK_of (x := findE l k) h1 rfl, callK_of (x := atL k l 0) h2 rfl]
  unfold findR
  cases he : (findE l k != 0) with
  | true => rfl
  | false =>
    rw [cond_false, cond_false]
    rcases atL_get k l 0 with h | ⟨j, h3, h4⟩
    · rw [h, decide_eq_false (show ¬ ((-1 : Int) ≥ 0) by omega), cond_false]
      cases l[((-1 : Int)).toNat]? <;> rfl
    · rw [h4, decide_eq_true (show (((0 + j : Nat) : Int) ≥ 0) by omega), cond_true, Nat.zero_add, idx_nat h3]
      have e : l[(((j : Nat) : Int)).toNat]? = some l[j] := List.getElem?_eq_getElem h3
      rw [e]; rfl
end Bz
