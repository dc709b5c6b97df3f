/- More short cuts: tables, values, natives. -/
import Derived.Test.YtjlgkjmbndmkjabPTab
import Derived.Test.YtjlgkjmbndmkjabPShort
import Derived.Test.YtjlgkjmbndmkjabSpB
set_option linter.all false
set_option maxRecDepth 100000
set_option linter.unusedVariables false
set_option linter.unusedSimpArgs false
namespace Bz
open Go Ieee S
namespace SC
theorem fun_ok (n : Nat) : runF D (n + 1) 168 [] = some (.arr .str funL) := by kernel_rfl
theorem fun_len : funL.length = 48 := by kernel_rfl
def natB (i : Int) : Bool := i == 1 || (decide (i ≥ 14) && decide (i < 72))
noncomputable def natS (i : Int) : ByteArray := (getF (appF fstL funL) i.toNat).getD (bs [])
theorem natS_eq (i : Int) : natS i = ((fstL ++ funL)[i.toNat]?).getD (bs []) := by unfold natS; rw [getF_eq, appF_eq]
theorem realm_Native_ok (n : Nat) (i : Int) : runF D (n + 2) 163 [.int .i64 i] = some (.tup [.str (cond (natB i) (natS i) (bs [])), .bool (natB i)]) := by
  rw [show n + 2 = (n + 1) + 1 from rfl, realm_Native.run]; unfold realm_Native.M
  rw [callK_of (x := fstL) (fst_ok n) rfl, callK_of (x := funL) (fun_ok n) rfl, fst_len, fun_len]
  rw [show (Bool.and (Nat.beq 24 24) (Nat.beq (0 + 24) 24)) = true from rfl, show (Bool.and (Nat.beq 48 48) (Nat.beq (0 + 48) 48)) = true from rfl, cond_true, cond_true]
  have t1 : ∀ b : Bool, (b = true → 24 ≤ i ∧ i < 72) → realm_Native.T1 realm_Native.ts (runF D (n + 1)) (n + 1) i funL b = some (.tup [.str (cond b (natS i) (bs [])), .bool b]) := by
    intro b hb
    rw [realm_Native.T1_eq]; unfold realm_Native.T1E
    rw [realm_Native.T2_eq]; unfold realm_Native.T2E
    cases b with
    | false => rfl
    | true =>
      obtain ⟨h0, h1⟩ := hb rfl
      have hw : IntKind.i64.wrap (i - 24) = i - 24 := SC.wrap_small (by omega) (by omega)
      have hlt : (i - 24).toNat < funL.length := by rw [fun_len]; omega
      rw [cond_true, fun_len, show (Bool.and (Nat.beq 48 48) true) = true from rfl, cond_true, hw, SC.idx_some (by omega) (List.getElem?_eq_getElem hlt), SC.idx_some (by omega) (List.getElem?_eq_getElem hlt), cond_true, natS_eq]
      rw [List.getElem?_append_right (by rw [fst_len]; omega), fst_len, show i.toNat - 24 = (i - 24).toNat from by omega, List.getElem?_eq_getElem hlt]; rfl
  have t3 : ∀ b : Bool, (b = true → 0 ≤ i ∧ i < 24) → realm_Native.T3 realm_Native.ts (runF D (n + 1)) (n + 1) i fstL funL b = some (.tup [.str (cond (b || (decide (i ≥ 24) && decide (i < 72))) (natS i) (bs [])), .bool (b || (decide (i ≥ 24) && decide (i < 72)))]) := by
    intro b hb
    rw [realm_Native.T3_eq]; unfold realm_Native.T3E
    cases b with
    | false =>
      rw [cond_false, Bool.false_or]
      by_cases h2 : i ≥ 24
      · rw [decide_eq_true h2, cond_true, Bool.true_and]
        exact t1 _ (fun h => ⟨h2, of_decide_eq_true h⟩)
      · rw [decide_eq_false h2, cond_false, Bool.false_and]
        exact t1 false (fun h => by cases h)
    | true =>
      obtain ⟨h0, h1⟩ := hb rfl
      have hlt : i.toNat < fstL.length := by rw [fst_len]; omega
      rw [cond_true, fst_len, show (Bool.and (Nat.beq 24 24) true) = true from rfl, cond_true, SC.idx_some h0 (List.getElem?_eq_getElem hlt), SC.idx_some h0 (List.getElem?_eq_getElem hlt), Bool.true_or, cond_true, natS_eq]
      rw [List.getElem?_append_left hlt, List.getElem?_eq_getElem hlt]; rfl
  unfold natB
  by_cases h1 : i = 1
  · have e : (i == 1) = true := by rw [h1]; rfl
    rw [e, cond_true, t3 true (fun _ => by omega)]; rfl
  · have e : (i == 1) = false := by simp [h1]
    rw [e, cond_false, Bool.false_or]
    by_cases h2 : i ≥ 14
    · rw [decide_eq_true h2, cond_true, Bool.true_and, realm_Native.T0_eq]; unfold realm_Native.T0E
      rw [t3 _ (fun h => by have := of_decide_eq_true h; omega)]
      have : (decide (i < 24) || (decide (i ≥ 24) && decide (i < 72))) = decide (i < 72) := by
        by_cases h3 : i < 24
        · have h4 : i < 72 := by omega
          simp [h3, h4]
        · have h4 : i ≥ 24 := by omega
          simp [h3, h4]
      rw [this]
    · rw [decide_eq_false h2, cond_false, Bool.false_and, realm_Native.T0_eq]; unfold realm_Native.T0E
      rw [t3 false (fun h => by cases h)]
      have : (decide (i ≥ 24) && decide (i < 72)) = false := by
        have h4 : ¬ i ≥ 24 := by omega
        simp [h4]
      rw [this]; rfl
/-! Guards that can be reckoned. -/
def vokB (v : Val) : Bool := decide (0 ≤ v.kind) && Nat.blt v.num 18446744073709551616
theorem vokB_ok {v : Val} (h : vokB v = true) : Vok v := by
  unfold vokB at h
  simp only [Bool.and_eq_true, decide_eq_true_eq, Nat.blt_eq] at h
  exact ⟨h.1, by have := h.2; omega⟩
def dokB (d : Dsc) : Bool := (decide (0 ≤ d.has) && decide (d.has ≤ 255)) && (vokB d.value && (vokB d.get && vokB d.set))
theorem dokB_ok {d : Dsc} (h : dokB d = true) : Dok d := by
  unfold dokB at h
  simp only [Bool.and_eq_true, decide_eq_true_eq] at h
  exact ⟨h.1.1, h.1.2, vokB_ok h.2.1, vokB_ok h.2.2.1, vokB_ok h.2.2.2⟩
noncomputable def doksB : List Prp → Bool := @List.rec Prp (fun _ => Bool) true (fun p _ ih => @Bool.rec (fun _ => Bool) false ih (dokB p.desc))
theorem doksB_ok : ∀ {l : List Prp}, doksB l = true → ∀ p ∈ l, Dok p.desc
  | [], _, p, hp => by cases hp
  | q :: l, h, p, hp => by
    have h' : @Bool.rec (fun _ => Bool) false (doksB l) (dokB q.desc) = true := h
    cases hq : dokB q.desc with
    | false => rw [hq] at h'; cases h'
    | true =>
      rw [hq] at h'
      rcases List.mem_cons.1 hp with rfl | hp
      · exact dokB_ok hq
      · exact doksB_ok h' p hp
/-! The same answers, made for the kernel. -/
noncomputable def keyEqF (a b : Key) : Bool := @Bool.rec (fun _ => Bool) false (a.sym == b.sym) (eqB a.str.data.toList b.str.data.toList)
theorem keyEqF_eq (a b : Key) : keyEqF a b = keyEq a b := by
  unfold keyEqF keyEq
  rw [eqS_eq]
  cases (a.str.toList == b.str.toList) <;> rfl
noncomputable def hasF (k : Key) : List Prp → Bool := @List.rec Prp (fun _ => Bool) false (fun p _ ih => @Bool.rec (fun _ => Bool) ih true (keyEqF k p.key))
theorem hasF_eq (k : Key) (l : List Prp) : hasF k l = has k l := by
  induction l with
  | nil => rfl
  | cons p l ih =>
    show @Bool.rec (fun _ => Bool) (hasF k l) true (keyEqF k p.key) = _
    unfold has
    rw [List.any_cons, keyEqF_eq, ih]
    cases keyEq k p.key <;> rfl
noncomputable def tblLF : List Prp → List Prp → Int :=
  @List.rec Prp (fun _ => List Prp → Int) (fun _ => 0) (fun p _ ih seen => @Bool.rec (fun _ => Int) (@Bool.rec (fun _ => Int) 90 (@Bool.rec (fun _ => Int) (ih (p :: seen)) 100 (hasF p.key seen)) (wholeB p.desc)) 9 (keyBad p.key))
theorem has_perm (k : Key) {a b : List Prp} (h : ∀ p, p ∈ a ↔ p ∈ b) : has k a = has k b := by
  unfold has
  rw [Bool.eq_iff_iff, List.any_eq_true, List.any_eq_true]
  exact ⟨fun ⟨p, h1, h2⟩ => ⟨p, (h p).1 h1, h2⟩, fun ⟨p, h1, h2⟩ => ⟨p, (h p).2 h1, h2⟩⟩
theorem tblLF_eq (l : List Prp) : ∀ s t : List Prp, (∀ p, p ∈ s ↔ p ∈ t) → tblLF l s = tblL t l := by
  induction l with
  | nil => intro s t _; rfl
  | cons p l ih =>
    intro s t h
    show @Bool.rec (fun _ => Int) (@Bool.rec (fun _ => Int) 90 (@Bool.rec (fun _ => Int) (tblLF l (p :: s)) 100 (hasF p.key s)) (wholeB p.desc)) 9 (keyBad p.key) = _
    rw [hasF_eq, has_perm p.key h, ih (p :: s) (t ++ [p]) (fun q => by simp only [List.mem_cons, List.mem_append, List.not_mem_nil, or_false, h q]; exact or_comm)]
    show _ = (bif keyBad p.key then 9 else bif !wholeB p.desc then 90 else bif has p.key t then 100 else tblL (t ++ [p]) l)
    cases keyBad p.key <;> cases wholeB p.desc <;> cases has p.key t <;> rfl
noncomputable def tblEF (l : List Prp) : Int := @Bool.rec (fun _ => Int) (tblLF l []) 4 (decide (((l.length : Nat) : Int) > 1024))
theorem tblEF_eq (l : List Prp) : tblEF l = tblE l := by
  unfold tblEF tblE
  rw [tblLF_eq l [] [] (fun _ => Iff.rfl)]
  cases decide (((l.length : Nat) : Int) > 1024) <;> rfl
noncomputable def atF (k : Key) : List Prp → Nat → Int := @List.rec Prp (fun _ => Nat → Int) (fun _ => -1) (fun p _ ih i => @Bool.rec (fun _ => Int) (ih (i + 1)) (Int.ofNat i) (keyEqF p.key k))
theorem atF_eq (k : Key) (l : List Prp) : ∀ i, atF k l i = atL k l i := by
  induction l with
  | nil => intro i; rfl
  | cons p l ih =>
    intro i
    show @Bool.rec (fun _ => Int) (atF k l (i + 1)) (Int.ofNat i) (keyEqF p.key k) = (bif keyEq p.key k then (i : Int) else atL k l (i + 1))
    rw [keyEqF_eq, ih]
    cases keyEq p.key k <;> rfl
noncomputable def findEF (l : List Prp) (k : Key) : Int := bif tblEF l != 0 then tblEF l else cond (keyBad k) 9 0
noncomputable def findRF (l : List Prp) (k : Key) : Dsc × Bool × Int :=
  bif findEF l k != 0 then (zDsc, false, findEF l k) else match getF l (atF k l 0).toNat with
    | some p => bif decide (atF k l 0 ≥ 0) then (p.desc, true, 0) else (zDsc, false, 0)
    | none => (zDsc, false, 0)
theorem findRF_eq (l : List Prp) (k : Key) : findRF l k = findR l k := by
  unfold findRF findR findEF findE
  rw [tblEF_eq, atF_eq, getF_eq]
  rfl
noncomputable def shortH (f : Nat) (args : List DV) : Option DV :=
  bif Nat.beq f 175 then (match args with
    | [.sl .prp l] => bif doksB l then some (.int .i64 (tblEF l)) else none
    | _ => none)
  else bif Nat.beq f 176 then (match args with
    | [.sl .prp l, .agg [.str s, .int .i64 y]] => bif doksB l && Nat.blt l.length 5000 then some (.tup [.agg (Dsc.enc (findRF l ⟨s, y⟩).1), .bool (findRF l ⟨s, y⟩).2.1, .int .i64 (findRF l ⟨s, y⟩).2.2]) else none
    | _ => none)
  else bif Nat.beq f 182 then (match args with
    | [.agg [.int .u8 a, .float b, .str c, .int .i64 d]] => bif vokB ⟨a, b, c, d⟩ then some (.bool (mayV ⟨a, b, c, d⟩)) else none
    | _ => none)
  else bif Nat.beq f 163 then (match args with
    | [.int .i64 i] => some (.tup [.str (cond (natB i) (natS i) (bs [])), .bool (natB i)])
    | _ => none)
  else shortO f args
theorem shortH_ok (m f : Nat) (hm : m < 3000) (args : List DV) (r : DV) (h : shortH f args = some r) : runF D (m + 6000) f args = some r := by
  unfold shortH at h
  cases h1 : Nat.beq f 175 with
  | true =>
    obtain rfl := Nat.eq_of_beq_eq_true h1
    rw [h1, cond_true] at h
    split at h
    · rename_i l
      cases h2 : doksB l with
      | false => rw [h2] at h; cases h
      | true => rw [h2, cond_true, tblEF_eq] at h; cases h; exact table_Check_ok (by omega) l (doksB_ok h2)
    · cases h
  | false =>
  rw [h1, cond_false] at h
  cases h1 : Nat.beq f 176 with
  | true =>
    obtain rfl := Nat.eq_of_beq_eq_true h1
    rw [h1, cond_true] at h
    split at h
    · rename_i l s y
      cases h2 : (doksB l && Nat.blt l.length 5000) with
      | false => rw [h2] at h; cases h
      | true =>
        rw [h2, cond_true, findRF_eq] at h
        simp only [Bool.and_eq_true, Nat.blt_eq] at h2
        cases h
        exact table_Find_ok (by omega) l (doksB_ok h2.1) (by omega) ⟨s, y⟩
    · cases h
  | false =>
  rw [h1, cond_false] at h
  cases h1 : Nat.beq f 182 with
  | true =>
    obtain rfl := Nat.eq_of_beq_eq_true h1
    rw [h1, cond_true] at h
    split at h
    · rename_i a b c d
      cases h2 : vokB ⟨a, b, c, d⟩ with
      | false => rw [h2] at h; cases h
      | true => rw [h2, cond_true] at h; cases h; exact value_May_ok (by omega) (vokB_ok h2)
    · cases h
  | false =>
  rw [h1, cond_false] at h
  cases h1 : Nat.beq f 163 with
  | true =>
    obtain rfl := Nat.eq_of_beq_eq_true h1
    rw [h1, cond_true] at h
    split at h
    · cases h; exact realm_Native_ok (m + 5998) _
    · cases h
  | false =>
  rw [h1, cond_false] at h
  have := shortO_ok (m + 5800) f (by omega) args r h
  rw [show m + 6000 = m + 5800 + 200 from by omega]; exact this
end SC
/-- The run with short cuts, over a base of fuel. -/
noncomputable def runFC (O : Nat → List DV → Option DV) (c n : Nat) : Nat → List DV → Option DV :=
  @Nat.rec (fun _ => Nat → List DV → Option DV) (runF D c)
    (fun n ih f args => fL f2 args fun args => @Option.rec DV (fun _ => Option DV) (match D f with
      | some (.code fd) => bif Nat.beq args.length fd.np then runCF ih (n + c) fd.body ⟨numbered 0 args, []⟩ (kFin fd.res) else none
      | some (.prim p) => p args
      | none => none) (fun r => some r) (O f args)) n
theorem runFC_eq (O : Nat → List DV → Option DV) (c b : Nat) (hO : ∀ m f args r, m < b → O f args = some r → runF D (m + c) f args = some r) (n : Nat) (hn : n < b) (f : Nat) (args : List DV) : runFC O c n f args = runF D (n + c) f args := by
  induction n generalizing f args with
  | zero => rw [Nat.zero_add]; rfl
  | succ n ih =>
    have e : runFC O c n = runF D (n + c) := funext fun f => funext fun a => ih (by omega) f a
    show (fL f2 args fun args => @Option.rec DV (fun _ => Option DV) (match D f with
      | some (.code fd) => bif Nat.beq args.length fd.np then runCF (runFC O c n) (n + c) fd.body ⟨numbered 0 args, []⟩ (kFin fd.res) else none
      | some (.prim p) => p args
      | none => none) (fun r => some r) (O f args)) = _
    rw [fL_eq f2_eq, e]
    cases ho : O f args with
    | some r => exact (hO (n + 1) f args r (by omega) ho).symm
    | none =>
      rw [show n + 1 + c = (n + c) + 1 from by omega]
      simp only [runCF_eq]; rfl
theorem runFH_eq (n : Nat) (hn : n < 3000) : runFC SC.shortH 6000 n = runF D (n + 6000) := funext fun f => funext fun args => runFC_eq SC.shortH 6000 3000 (fun m f args r hm h => SC.shortH_ok m f hm args r h) n hn f args
end Bz
