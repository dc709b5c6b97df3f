/- Short cuts for the kernel's evaluation: functions whose answers are told outright. -/
import Derived.Test.YtjlgkjmbndmkjabSpSh
import Derived.Test.YtjlgkjmbndmkjabFast
set_option linter.all false
set_option maxRecDepth 100000
set_option linter.unusedVariables false
set_option linter.unusedSimpArgs false
namespace Bz
open Go Ieee S
namespace SC
theorem callK_of {R : Nat → List DV → Option DV} {f : Nat} {args : List DV} {sh : Sh} {r0 : DV} {x : sh.T} (h : R f args = some r0) (hd : sh.dec r0 = some x) (k : sh.T → Option DV) : callK R f args sh k = k x := by
  simp only [callK, h, hd]
theorem idx_some {α : Type} {l : List α} {i : Int} {x : α} (h0 : 0 ≤ i) (hx : l[i.toNat]? = some x) (k : α → Option DV) : idx l i k = k x := by
  unfold idx; rw [hx]; simp [h0]
theorem wrap_small {i : Int} (h0 : 0 ≤ i) (h1 : i < 1000000) : IntKind.i64.wrap i = i := by
  have e : i % (2 ^ IntKind.i64.bits : Int) = i := Int.emod_eq_of_lt h0 (by show i < 2 ^ 64; omega)
  unfold IntKind.wrap
  simp only [e]
  rw [if_neg]
  simp [IntKind.signed, IntKind.bits]; omega
theorem wrap_m1 : IntKind.i64.wrap (-1) = -1 := by decide +kernel
theorem wrap_sub {i : Nat} (h1 : i < 1000000) : IntKind.i64.wrap ((i : Int) - 1) = (i : Int) - 1 := by
  cases i with
  | zero => exact wrap_m1
  | succ i => rw [wrap_small (by omega) (by omega)]
/-! The last place of a byte. -/
noncomputable def lastI (c : Int) : List UInt8 → Nat → Int → Int :=
  @List.rec UInt8 (fun _ => Nat → Int → Int) (fun _ acc => acc) (fun b _ ih i acc => ih (i + 1) (@Bool.rec (fun _ => Int) acc (Int.ofNat i) ((b.toNat : Int) == c)))
theorem lastI_cons (c : Int) (b : UInt8) (l : List UInt8) (i : Nat) (acc : Int) : lastI c (b :: l) i acc = lastI c l (i + 1) (bif (b.toNat : Int) == c then (i : Int) else acc) := by
  show lastI c l (i + 1) (@Bool.rec (fun _ => Int) acc (Int.ofNat i) ((b.toNat : Int) == c)) = _
  cases ((b.toNat : Int) == c) <;> rfl
theorem lastI_snoc (c : Int) (l : List UInt8) (b : UInt8) : ∀ (i : Nat) (acc : Int), lastI c (l ++ [b]) i acc = bif (b.toNat : Int) == c then ((i + l.length : Nat) : Int) else lastI c l i acc := by
  induction l with
  | nil => intro i acc; rw [List.nil_append, lastI_cons]; cases ((b.toNat : Int) == c) <;> rfl
  | cons x l ih =>
    intro i acc
    rw [List.cons_append, lastI_cons, ih, lastI_cons, List.length_cons]
    congr 2; omega
theorem last_loop {R : Nat → List DV → Option DV} {m : Nat} (s : ByteArray) (c : Int) (hs : s.data.toList.length < 1000000) : ∀ (i j : Nat), i ≤ s.data.toList.length → i < j →
    i_bytealg_LastIndexByteString.L0 i_bytealg_LastIndexByteString.ts R m j s c ((i : Int) - 1) = some (.int .i64 (lastI c (s.data.toList.take i) 0 (-1))) := by
  intro i
  induction i with
  | zero =>
    intro j _ hj
    obtain ⟨j, rfl⟩ : ∃ m, j = m + 1 := ⟨j - 1, by omega⟩
    rw [i_bytealg_LastIndexByteString.L0_eq]; unfold i_bytealg_LastIndexByteString.L0E
    rw [decide_eq_false (by omega), cond_false, i_bytealg_LastIndexByteString.T0_eq]; rfl
  | succ i ih =>
    intro j hi hj
    obtain ⟨j, rfl⟩ : ∃ m, j = m + 1 := ⟨j - 1, by omega⟩
    rw [i_bytealg_LastIndexByteString.L0_eq]; unfold i_bytealg_LastIndexByteString.L0E
    have e : ((i + 1 : Nat) : Int) - 1 = (i : Int) := by omega
    have hlt : i < s.data.toList.length := by omega
    rw [e, decide_eq_true (by omega), cond_true, idx_some (x := s.data.toList[i]) (by omega) (List.getElem?_eq_getElem (by simpa using hlt)), wrap_sub (by omega), ih j (by omega) (by omega)]
    rw [List.take_add_one, List.getElem?_eq_getElem hlt, Option.toList_some, lastI_snoc]
    cases (((s.data.toList[i]).toNat : Int) == c)
    · rfl
    · simp only [cond_true]
      rw [List.length_take, Nat.zero_add, Nat.min_eq_left (by omega)]
theorem last_ok (n : Nat) (s : ByteArray) (c : Int) (hs : s.data.toList.length < n) (hn : n < 1000000) : runF D (n + 2) 223 [.str s, .int .u8 c] = some (.int .i64 (lastI c s.data.toList 0 (-1))) := by
  rw [strings_LastIndexByte.run]; unfold strings_LastIndexByte.M
  have h : runF D (n + 1) 204 [.str s, .int .u8 c] = some (.int .i64 (lastI c s.data.toList 0 (-1))) := by
    rw [i_bytealg_LastIndexByteString.run]; unfold i_bytealg_LastIndexByteString.M
    have e : ByteArray.size s = s.data.toList.length := rfl
    rw [e, wrap_sub (by omega), last_loop s c (by omega) _ _ (Nat.le_refl _) hs, List.take_length]
  rw [callK_of (x := lastI c s.data.toList 0 (-1)) h rfl]
/-! The first place of a name. -/
noncomputable def firstI (s : List UInt8) : List ByteArray → Nat → Int :=
  @List.rec ByteArray (fun _ => Nat → Int) (fun _ => -1) (fun x _ ih i => @Bool.rec (fun _ => Int) (ih (i + 1)) (Int.ofNat i) (eqB x.data.toList s))
theorem firstI_cons (s : List UInt8) (x : ByteArray) (l : List ByteArray) (i : Nat) : firstI s (x :: l) i = bif x.data.toList == s then (i : Int) else firstI s l (i + 1) := by
  show @Bool.rec (fun _ => Int) (firstI s l (i + 1)) (Int.ofNat i) (eqB x.data.toList s) = _
  rw [eqB_eq]
  cases (x.data.toList == s) <;> rfl
def fstL : List ByteArray := match runF D 1 167 [] with | some (.arr .str l) => l | _ => []
theorem fst_ok (n : Nat) : runF D (n + 1) 167 [] = some (.arr .str fstL) := by kernel_rfl
theorem fst_len : fstL.length = 24 := by kernel_rfl
theorem place_loop {R : Nat → List DV → Option DV} {m : Nat} (s : ByteArray) (L : List ByteArray) (hL : L.length = 24) : ∀ (k i j : Nat), i + k = 24 → k < j →
    realm_place.L0 realm_place.ts R m j s L (i : Nat) = some (.int .i64 (firstI s.data.toList (L.drop i) i)) := by
  intro k
  induction k with
  | zero =>
    intro i j hi hj
    obtain ⟨j, rfl⟩ : ∃ m, j = m + 1 := ⟨j - 1, by omega⟩
    rw [realm_place.L0_eq]; unfold realm_place.L0E
    rw [decide_eq_false (by omega), cond_false, realm_place.T0_eq, List.drop_eq_nil_of_le (by omega)]; rfl
  | succ k ih =>
    intro i j hi hj
    obtain ⟨j, rfl⟩ : ∃ m, j = m + 1 := ⟨j - 1, by omega⟩
    have hlt : i < L.length := by omega
    rw [realm_place.L0_eq]; unfold realm_place.L0E
    rw [decide_eq_true (by omega), cond_true, hL, show (and (Nat.beq 24 24) true) = true from rfl, cond_true, idx_some (x := L[i]) (by omega) (List.getElem?_eq_getElem (by simpa using hlt)), idx_some (x := L[i]) (by omega) (List.getElem?_eq_getElem (by simpa using hlt))]
    rw [wrap_small (by omega) (by omega), show ((i : Nat) : Int) + 1 = ((i + 1 : Nat) : Int) from rfl, ih (i + 1) j (by omega) (by omega)]
    rw [List.drop_eq_getElem_cons hlt, firstI_cons, toLd, toLd]
    cases ((L[i]).data.toList == s.data.toList) <;> rfl
theorem place_ok (n : Nat) (hn : 25 ≤ n) (s : ByteArray) : runF D (n + 1) 173 [.str s] = some (.int .i64 (firstI s.data.toList fstL 0)) := by
  obtain ⟨n, rfl⟩ : ∃ m, n = m + 1 := ⟨n - 1, by omega⟩
  rw [realm_place.run]; unfold realm_place.M
  rw [callK_of (x := fstL) (fst_ok n) rfl, fst_len, show (and (Nat.beq 24 24) (Nat.beq (0 + 24) 24)) = true from rfl, cond_true]
  exact place_loop s fstL fst_len 24 0 (n + 1) rfl (by omega)
/-! The document's names, cut. -/
theorem cut_loop {R : Nat → List DV → Option DV} {m : Nat} (s : ByteArray) (hs : s.data.toList.length < 1000000) : ∀ (i j : Nat), i ≤ s.data.toList.length → i < j →
    bailiffref24_cut.L0 bailiffref24_cut.ts R m j s ((i : Int) - 1) = (fun q : Int => bif decide (0 ≤ q) then some (.tup [.str (s.extract 0 q.toNat), .str (s.extract (q + 1).toNat s.size)]) else some (.tup [.str (bs []), .str s])) (lastI 46 (s.data.toList.take i) 0 (-1)) := by
  intro i
  induction i with
  | zero =>
    intro j _ hj
    obtain ⟨j, rfl⟩ : ∃ m, j = m + 1 := ⟨j - 1, by omega⟩
    rw [bailiffref24_cut.L0_eq]; unfold bailiffref24_cut.L0E
    rw [decide_eq_false (by omega), cond_false, bailiffref24_cut.T0_eq]; rfl
  | succ i ih =>
    intro j hi hj
    obtain ⟨j, rfl⟩ : ∃ m, j = m + 1 := ⟨j - 1, by omega⟩
    rw [bailiffref24_cut.L0_eq]; unfold bailiffref24_cut.L0E
    have e : ((i + 1 : Nat) : Int) - 1 = (i : Int) := by omega
    have hlt : i < s.data.toList.length := by omega
    have es : ByteArray.size s = s.data.toList.length := rfl
    rw [e, decide_eq_true (by omega), cond_true, idx_some (x := s.data.toList[i]) (by omega) (List.getElem?_eq_getElem (by simpa using hlt)), wrap_sub (by omega), ih j (by omega) (by omega)]
    rw [List.take_add_one, List.getElem?_eq_getElem hlt, Option.toList_some, lastI_snoc]
    cases (((s.data.toList[i]).toNat : Int) == 46)
    · rfl
    · simp only [cond_true]
      rw [List.length_take, Nat.zero_add, Nat.min_eq_left (by omega), wrap_small (by omega) (by omega), decide_eq_true (by omega), cond_true]
      have c1 : ∀ k : Nat → Nat → Option DV, cut (ByteArray.size s) none (some (i : Int)) k = k 0 i := by
        intro k
        unfold cut
        simp only [es]
        rw [decide_eq_true (show (0 : Int) ≤ 0 by omega), decide_eq_true (show (0 : Int) ≤ (i : Int) by omega), decide_eq_true (show (i : Int) ≤ ((s.data.toList.length : Nat) : Int) by omega)]
        rfl
      have c2 : ∀ k : Nat → Nat → Option DV, cut (ByteArray.size s) (some ((i : Int) + 1)) none k = k ((i : Int) + 1).toNat s.size := by
        intro k
        unfold cut
        simp only [es]
        rw [decide_eq_true (show (0 : Int) ≤ (i : Int) + 1 by omega), decide_eq_true (show (i : Int) + 1 ≤ ((s.data.toList.length : Nat) : Int) by omega), decide_eq_true (show ((s.data.toList.length : Nat) : Int) ≤ ((s.data.toList.length : Nat) : Int) by omega)]
        rfl
      rw [c1, c2]
      rfl
theorem cut_ok (n : Nat) (s : ByteArray) (hs : s.data.toList.length < n) (hn : n < 1000000) : runF D (n + 1) 105 [.str s] = (fun q : Int => bif decide (0 ≤ q) then some (.tup [.str (s.extract 0 q.toNat), .str (s.extract (q + 1).toNat s.size)]) else some (.tup [.str (bs []), .str s])) (lastI 46 s.data.toList 0 (-1)) := by
  rw [bailiffref24_cut.run]; unfold bailiffref24_cut.M
  have e : IntKind.i64.wrap (((ByteArray.size s : Nat) : Int) - 1) = ((s.data.toList.length : Nat) : Int) - 1 := wrap_sub (i := s.data.toList.length) (by omega)
  rw [e, cut_loop s (by omega) _ _ (Nat.le_refl _) hs, List.take_length]

def funL : List ByteArray := match runF D 1 168 [] with | some (.arr .str l) => l | _ => []
def allL : List ByteArray := match runF D 80 94 [] with | some (.own .str l) => l | _ => []
theorem all_ok (n : Nat) : runF D (n + 80) 94 [] = some (.own .str allL) := by kernel_rfl
theorem all_eq : allL = appF fstL funL := by kernel_rfl
/-! The short cuts. -/
noncomputable def shortO (f : Nat) (args : List DV) : Option DV :=
  bif Nat.beq f 223 then (match args with
    | [.str s, .int .u8 c] => bif Nat.blt s.data.toList.length 100 then some (.int .i64 (lastI c s.data.toList 0 (-1))) else none
    | _ => none)
  else bif Nat.beq f 173 then (match args with
    | [.str s] => some (.int .i64 (firstI s.data.toList fstL 0))
    | _ => none)
  else bif Nat.beq f 105 then (match args with
    | [.str s] => bif Nat.blt s.data.toList.length 100 then fI (lastI 46 s.data.toList 0 (-1)) fun q => bif decide (0 ≤ q) then some (.tup [.str (s.extract 0 q.toNat), .str (s.extract (q + 1).toNat s.size)]) else some (.tup [.str (bs []), .str s]) else none
    | _ => none)
  else bif Nat.beq f 94 then (match args with
    | [] => some (.own .str (appF fstL funL))
    | _ => none)
  else none
theorem shortO_ok (m f : Nat) (hm : m < 10000) (args : List DV) (r : DV) (h : shortO f args = some r) : runF D (m + 200) f args = some r := by
  unfold shortO at h
  cases h1 : Nat.beq f 223 with
  | true =>
    obtain rfl := Nat.eq_of_beq_eq_true h1
    rw [h1, cond_true] at h
    split at h
    · rename_i s c
      cases h2 : Nat.blt s.data.toList.length 100 with
      | false => rw [h2] at h; cases h
      | true =>
        rw [h2, cond_true] at h
        cases h
        have : s.data.toList.length < 100 := by simpa [Nat.blt_eq] using h2
        exact last_ok (m + 198) s c (by omega) (by omega)
    · cases h
  | false =>
  rw [h1, cond_false] at h
  cases h1 : Nat.beq f 173 with
  | true =>
    obtain rfl := Nat.eq_of_beq_eq_true h1
    rw [h1, cond_true] at h
    split at h
    · cases h; exact place_ok (m + 199) (by omega) _
    · cases h
  | false =>
  rw [h1, cond_false] at h
  cases h1 : Nat.beq f 105 with
  | true =>
    obtain rfl := Nat.eq_of_beq_eq_true h1
    rw [h1, cond_true] at h
    split at h
    · rename_i s
      cases h2 : Nat.blt s.data.toList.length 100 with
      | false => rw [h2] at h; cases h
      | true =>
        rw [h2, cond_true, fI_eq] at h
        have : s.data.toList.length < 100 := by simpa [Nat.blt_eq] using h2
        rw [show m + 200 = (m + 199) + 1 from rfl, cut_ok (m + 199) s (by omega) (by omega)]
        exact h
    · cases h
  | false =>
  rw [h1, cond_false] at h
  cases h1 : Nat.beq f 94 with
  | true =>
    obtain rfl := Nat.eq_of_beq_eq_true h1
    rw [h1, cond_true] at h
    split at h
    · cases h; rw [← all_eq]; exact all_ok (m + 120)
    · cases h
  | false => rw [h1, cond_false] at h; cases h
end SC
/-- The run with short cuts. -/
noncomputable def runFO (O : Nat → List DV → Option DV) (n : Nat) : Nat → List DV → Option DV :=
  @Nat.rec (fun _ => Nat → List DV → Option DV) (runF D 200)
    (fun n ih f args => fL f2 args fun args => @Option.rec DV (fun _ => Option DV) (match D f with
      | some (.code fd) => bif Nat.beq args.length fd.np then runCF ih (n + 200) fd.body ⟨numbered 0 args, []⟩ (kFin fd.res) else none
      | some (.prim p) => p args
      | none => none) (fun r => some r) (O f args)) n
theorem runFO_eq (O : Nat → List DV → Option DV) (hO : ∀ m f args r, m < 10000 → O f args = some r → runF D (m + 200) f args = some r) (n : Nat) (hn : n < 9000) (f : Nat) (args : List DV) : runFO O n f args = runF D (n + 200) f args := by
  induction n generalizing f args with
  | zero => rw [Nat.zero_add]; rfl
  | succ n ih =>
    have e : runFO O n = runF D (n + 200) := funext fun f => funext fun a => ih (by omega) f a
    show (fL f2 args fun args => @Option.rec DV (fun _ => Option DV) (match D f with
      | some (.code fd) => bif Nat.beq args.length fd.np then runCF (runFO O n) (n + 200) fd.body ⟨numbered 0 args, []⟩ (kFin fd.res) else none
      | some (.prim p) => p args
      | none => none) (fun r => some r) (O f args)) = _
    rw [fL_eq f2_eq, e]
    cases ho : O f args with
    | some r => exact (hO (n + 1) f args r (by omega) ho).symm
    | none =>
      rw [show n + 1 + 200 = (n + 200) + 1 from by omega]
      simp only [runCF_eq]; rfl
theorem runFO_short (n : Nat) (hn : n < 9000) (f : Nat) (args : List DV) : runFO SC.shortO n f args = runF D (n + 200) f args := runFO_eq SC.shortO (fun m f args r hm h => SC.shortO_ok m f hm args r h) n hn f args
end Bz
