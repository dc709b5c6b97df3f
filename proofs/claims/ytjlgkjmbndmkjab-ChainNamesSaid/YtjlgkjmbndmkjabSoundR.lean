/- 'for k := range m { d[k] = true }': the map's keys in whatever order, the row in the end the same. -/
import Derived.Test.YtjlgkjmbndmkjabSound22
import Derived.Maps.RangeRun
set_option linter.all false
set_option linter.unusedVariables false
namespace Bz
open Go Go.RowKit
open Go.ChangeMaps (setBlock)

section
variable {ren : Nat → Option Nat} {A : Nat → Prop} {b0 : Nat} {w0 : World} {N : Nat} {φ : Nat → Option Value} {s : St} {a : Act} {w : World}
variable {P : Program} {Q : Exit → Act → World → Prop}

/-- Another world with the same cells and maps. -/
theorem RB.same {G G' : Nat → Prop} {w' : World} {h : Value} {b : Blk} (k : RB w G φ ren h b) (hG : ∀ r, G r → G' r) (hc : ∀ x : Addr, w'.cell? x = w.cell? x) (hf : ∀ x : Addr, w'.frozen? x = w.frozen? x)
    (hm : ∀ (r : Nat) (es : Array MapEntry) (c : Nat), w.heap[r]? = some (Go.Obj.map es c) → w'.heap[r]? = some (Go.Obj.map es c)) : RB w' G' φ ren h b := by
  have any : ∀ d, NamesOk (fun n => φ n = φ n) d := fun d => by
    have h2 : ∀ (m : Nat) (d : DV), sizeOf d ≤ m → NamesOk (fun n => φ n = φ n) d := by
      intro m
      induction m with
      | zero => intro d hd; cases d <;> simp at hd
      | succ m ih =>
        intro d hd
        cases d with
        | agg cs => exact .agg fun c hc => ih c (by have := List.sizeOf_lt_of_mem hc; simp at hd; omega)
        | tup cs => exact .tup fun c hc => ih c (by have := List.sizeOf_lt_of_mem hc; simp at hd; omega)
        | imm cs => exact .imm fun c hc => ih c (by have := List.sizeOf_lt_of_mem hc; simp at hd; omega)
        | fn g cs => exact .fn g fun c hc => ih c (by have := List.sizeOf_lt_of_mem hc; simp at hd; omega)
        | unk => exact .unk
        | skp => exact .skp
        | bool b => exact .bool b
        | int k n => exact .int k n
        | float b => exact .float b
        | str s => exact .str s
        | sl τ l => exact .sl τ l
        | own τ l => exact .own τ l
        | nsl τ => exact .nsl τ
        | fsl τ l => exact .fsl τ l
        | arr τ l => exact .arr τ l
        | loc n o => exact .loc o rfl
        | lel n e i o => exact .lel e i o rfl
        | lsl n => exact .lsl rfl
    exact h2 _ d (Nat.le_refl _)
  have hh : ∀ r o vs, Has w r o vs → Has w' r o vs := fun r o vs h j v hj => (hc _).trans (h j v hj)
  have hw : ∀ r o n, Wri w r o n → Wri w' r o n := fun r o n h j hj => by rw [hc, hf]; exact h j hj
  cases b with
  | box cs =>
    obtain ⟨r, vs, rfl, h1, h2, h3⟩ := k
    exact ⟨r, vs, rfl, h1.mono hG (fun x _ => hc x) (fun d _ => any d), hh _ _ _ h2, hw _ _ _ h3⟩
  | row τ l =>
    obtain ⟨ad, cap, rfl, h1, h2⟩ := k
    refine ⟨ad, cap, rfl, h1, h2.imp id ?_⟩
    rintro ⟨r, o, rfl, h3, h4⟩
    refine ⟨r, o, rfl, hw _ _ _ h3, fun i x hi => ?_⟩
    obtain ⟨vs, h5, h6⟩ := h4 i x hi
    exact ⟨vs, h5.mono hG (fun x _ => hc x) (fun d _ => any d), hh _ _ _ h6⟩
  | arr τ l =>
    obtain ⟨r, rfl, h3, h4⟩ := k
    refine ⟨r, rfl, hw _ _ _ h3, fun i x hi => ?_⟩
    obtain ⟨vs, h5, h6⟩ := h4 i x hi
    exact ⟨vs, h5.mono hG (fun x _ => hc x) (fun d _ => any d), hh _ _ _ h6⟩
  | map ag l =>
    obtain ⟨r, es, clock, e, h1, hst, h2, h3⟩ := k
    refine ⟨r, es, clock, e, hm _ _ _ h1, hst, h2, fun i e kc v he hl => ?_⟩
    obtain ⟨⟨us, h4, h4'⟩, h5, h6, h7⟩ := h3 i e kc v he hl
    exact ⟨⟨us, h4.mono hG (fun x _ => hc x) (fun d _ => any d), h4'⟩, h5.mono hG (fun x _ => hc x) (any v), h6, h7⟩
  | gone => exact k.elim
/-- The world turns, but at no cell and at no map. -/
theorem Rel.same (h : Rel ren A b0 w0 N φ s a w) {w' : World} (hb : Below b0 w w') (hsz : w.heap.size ≤ w'.heap.size) (hc : ∀ x : Addr, w'.cell? x = w.cell? x) (hf : ∀ x : Addr, w'.frozen? x = w.frozen? x)
    (hm : ∀ (r : Nat) (es : Array MapEntry) (c : Nat), w.heap[r]? = some (Go.Obj.map es c) → w'.heap[r]? = some (Go.Obj.map es c)) : Rel ren A b0 w0 N φ s a w' := by
  have hG : ∀ r, Gd A b0 s φ w r → Gd A b0 s φ w' r := fun r hr => ⟨Nat.lt_of_lt_of_le hr.1 hsz, hr.2⟩
  refine ⟨h.below.trans hb, Nat.le_trans h.b0le hsz, h.dn, h.sz, ?_, h.nm, ?_, h.nmb, h.inj⟩
  · exact fun t d hd => (h.env t d hd).mono (φ' := φ) hG (fun x _ => hc x) ((h.nm t d hd).imp fun _ _ => rfl)
  · intro n b hb
    obtain ⟨k, h1, h2, h3⟩ := h.sto n b hb
    exact ⟨k, h1, RB.same h2 hG hc hf hm, fun r hr => ⟨(h3 r hr).1, Nat.lt_of_lt_of_le (h3 r hr).2 hsz⟩⟩
/-- An iterator's block is another iterator's. -/
theorem Rel.iter (h : Rel ren A b0 w0 N φ s a w) {q : Nat} {m m' : Option Nat} {s1 s2 c1 c2 : Nat} {n1 n2 : Array Nat} (hq : w.heap[q]? = some (Go.Obj.mapIter m s1 n1 c1)) (hb : b0 ≤ q) :
    Rel ren A b0 w0 N φ s a (setBlock w q (.mapIter m' s2 n2 c2)) := by
  have hlt : q < w.heap.size := (Array.getElem?_eq_some_iff.1 hq).1
  have hx : ∀ r, r ≠ q → (setBlock w q (.mapIter m' s2 n2 c2)).heap[r]? = w.heap[r]? := fun r hr => by
    show (w.heap.setIfInBounds q _)[r]? = _
    simp [Ne.symm hr]
  have hqq : (setBlock w q (.mapIter m' s2 n2 c2)).heap[q]? = some (.mapIter m' s2 n2 c2) := by
    show (w.heap.setIfInBounds q _)[q]? = _
    simp [hlt]
  have hs : (setBlock w q (.mapIter m' s2 n2 c2)).heap.size = w.heap.size := by
    show (w.heap.setIfInBounds q _).size = _
    simp
  refine h.same ⟨rfl, rfl, rfl, by omega, fun k hk => hx k (by omega)⟩ (by omega) (fun x => ?_) (fun x => ?_) (fun r es c hr => ?_)
  · by_cases e : x.block = q
    · simp only [World.cell?, e, hqq, hq]
    · exact World.cell?_of_block (w := w) (hx _ e)
  · by_cases e : x.block = q
    · simp only [World.frozen?, e, hqq, hq]
    · exact World.frozen?_of_block (w := w) (hx _ e)
  · by_cases e : r = q
    · subst e; rw [hq] at hr; cases hr
    · rw [hx _ e]; exact hr

/-! ### The loop's text -/
def chk1 (o : Oper) (dst : Option Nat) (p : Go.Op → Bool) : Bool := o.guard.isNone && (o.dst == dst && p o.op)
theorem chk1_get {o : Oper} {dst : Option Nat} {p : Go.Op → Bool} (h : chk1 o dst p = true) : o.guard = none ∧ o.dst = dst ∧ p o.op = true := by
  unfold chk1 at h
  simp only [Bool.and_eq_true] at h
  exact ⟨by simpa using h.1, eq_of_beq h.2.1, h.2.2⟩
def pMove (x : Nat) : Go.Op → Bool
  | .move (.tmp y) => Nat.beq y x
  | .assign (.tmp y) => Nat.beq y x
  | _ => false
theorem pMove_get {x : Nat} {o : Go.Op} (h : pMove x o = true) : o = .move (.tmp x) ∨ o = .assign (.tmp x) := by
  unfold pMove at h
  split at h
  · rw [Nat.eq_of_beq_eq_true h]; exact .inl rfl
  · rw [Nat.eq_of_beq_eq_true h]; exact .inr rfl
  · cases h
def pRange (P : Program) (x : Nat) : Go.Op → Bool
  | .range t (.tmp y) => Nat.beq y x && mapOk P t
  | _ => false
theorem pRange_get {x : Nat} {o : Go.Op} (h : pRange P x o = true) : ∃ t kt et, o = .range t (.tmp x) ∧ P.underlying t = some (.map kt et) := by
  unfold pRange at h
  split at h
  · simp only [Bool.and_eq_true] at h
    rw [Nat.eq_of_beq_eq_true h.1]
    have := h.2
    unfold mapOk at this
    split at this
    · exact ⟨_, _, _, rfl, ‹_›⟩
    · cases this
  · cases h
def pNext (x : Nat) : Go.Op → Bool
  | .next (.tmp y) false => Nat.beq y x
  | _ => false
theorem pNext_get {x : Nat} {o : Go.Op} (h : pNext x o = true) : o = .next (.tmp x) false := by
  unfold pNext at h
  split at h
  · rw [Nat.eq_of_beq_eq_true h]
  · cases h
def pExt (x : Nat) : Go.Op → Bool
  | .extract (.tmp y) 0 => Nat.beq y x
  | _ => false
theorem pExt_get {x : Nat} {o : Go.Op} (h : pExt x o = true) : o = .extract (.tmp x) 0 := by
  unfold pExt at h
  split at h
  · rw [Nat.eq_of_beq_eq_true h]
  · cases h
def pEntry (x : Nat) : Go.Op → Bool
  | .entry (.tmp y) => Nat.beq y x
  | _ => false
theorem pEntry_get {x : Nat} {o : Go.Op} (h : pEntry x o = true) : o = .entry (.tmp x) := by
  unfold pEntry at h
  split at h
  · rw [Nat.eq_of_beq_eq_true h]
  · cases h
def pIx (P : Program) (x z : Nat) : Go.Op → Bool
  | .indexAddr t (.tmp y) (.tmp u) => Nat.beq y x && (Nat.beq u z && slOk P t 1)
  | _ => false
theorem pIx_get {x z : Nat} {o : Go.Op} (h : pIx P x z o = true) : ∃ t, o = .indexAddr t (.tmp x) (.tmp z) ∧ slOk P t 1 = true := by
  unfold pIx at h
  split at h
  · simp only [Bool.and_eq_true] at h
    rw [Nat.eq_of_beq_eq_true h.1, Nat.eq_of_beq_eq_true h.2.1]
    exact ⟨_, rfl, h.2.2⟩
  · cases h
def pSt (P : Program) (x : Nat) : Go.Op → Bool
  | .store t (.tmp y) (.const (.bool true)) => Nat.beq y x && szOk P t 1
  | _ => false
theorem pSt_get {x : Nat} {o : Go.Op} (h : pSt P x o = true) : ∃ t, o = .store t (.tmp x) (.const (.bool true)) ∧ szOk P t 1 = true := by
  unfold pSt at h
  split at h
  · simp only [Bool.and_eq_true] at h
    rw [Nat.eq_of_beq_eq_true h.1]
    exact ⟨_, rfl, h.2⟩
  · cases h
def nodupB : List Nat → Bool
  | [] => true
  | x :: l => !l.any (Nat.beq x) && nodupB l
theorem nodupB_get : ∀ {l : List Nat}, nodupB l = true → l.Nodup
  | [], _ => .nil
  | x :: l, h => by
    simp only [nodupB, Bool.and_eq_true, Bool.not_eq_true'] at h
    refine List.nodup_cons.2 ⟨fun hx => ?_, nodupB_get h.2⟩
    have : l.any (Nat.beq x) = true := List.any_eq_true.2 ⟨x, hx, by simp⟩
    rw [this] at h; cases h.1
def rsetOk (P : Program) (N : Nat) (c : Code) (x d : Nat) (ts : List Nat) : Bool :=
  match ts, c with
  | [t1, t2, t3, c2, t5, t6, t7, t8, t9, t10], .seq (.region _ r1 false) (.block i (.loop (.seq (.region _ r2 false) (.seq (.cond (.tmp c2') .skip (.exit i')) (.block j (.seq (.region _ r3 false) (.region _ r4 false))))))) =>
    (match r1.toList, r2.toList, r3.toList, r4.toList with
    | [a1, a2], [b1, b2], [e1, e2, e3], [f1, f2, f3, f4] =>
      chk1 a1 (some t1) (pMove x) && (chk1 a2 (some t2) (pRange P t1) && (chk1 b1 (some t3) (pNext t2) && (chk1 b2 (some c2) (pExt t3) && (chk1 e1 (some t5) (pEntry t2) && (chk1 e2 (some t6) (pExt t5) && (chk1 e3 (some t7) (pMove t6) &&
        (chk1 f1 (some t8) (pMove d) && (chk1 f2 (some t9) (pMove t7) && (chk1 f3 (some t10) (pIx P t8 t9) && chk1 f4 none (pSt P t10))))))))))
    | _, _, _, _ => false) && (Nat.beq i' i && (Nat.beq c2' c2 && (nodupB (x :: d :: ts) && ts.all fun t => Nat.blt t N)))
  | _, _ => false

theorem ops_step {ops : Array Oper} {i : Nat} {rest : List Nat} {o : Oper} {v : Value} {w' : World} (hi : ops[i]? = some o) (hg : o.guard = none) (hr : (execOp a.eval o).run P w = .ok (.value v) w')
    (hn : wpOps P ops Q rest (a.put o.dst v) w') : wpOps P ops Q (i :: rest) a w := by
  rw [wpOps_cons]; unfold wpOp; simp only [hi]
  rw [if_pos (by simp [Region.wanted, hg])]
  exact .inl (wp_val hr hn)
theorem ops_skp {ops : Array Oper} {i : Nat} {rest : List Nat} {o : Oper} {w' : World} (hi : ops[i]? = some o) (hg : o.guard = none) (hr : (execOp a.eval o).run P w = .ok .skip w')
    (hn : wpOps P ops Q rest (a.put o.dst undef) w') : wpOps P ops Q (i :: rest) a w := by
  rw [wpOps_cons]; unfold wpOp; simp only [hi]
  rw [if_pos (by simp [Region.wanted, hg])]
  exact .inl (wp_skp hr hn)
theorem get_put {t u : Nat} {v : Value} : (a.put (some t) v).tmps.getD u undef = if t = u ∧ t < a.tmps.size then v else a.tmps.getD u undef := by
  simp only [Act.put, Array.getD_eq_getD_getElem?]
  rw [Array.getElem?_setIfInBounds]
  by_cases e : t = u
  · subst e
    by_cases h : t < a.tmps.size
    · simp [h]
    · simp [h]
  · simp [e]
theorem look_unks (ts : List Nat) (env : List (Nat × DV)) (t : Nat) : look (unks ts env) t = if t ∈ ts then some .unk else look env t := by
  induction ts with
  | nil => simp [unks]
  | cons u ts ih =>
    show look ((u, .unk) :: unks ts env) t = _
    rw [look_cons, ih]
    by_cases e : u = t
    · subst e; simp
    · simp [e, Ne.symm e]
theorem Rel.unkAll (h : Rel ren A b0 w0 N φ s a w) (ts : List Nat) : Rel ren A b0 w0 N φ { s with env := unks ts s.env } a w := by
  refine ⟨h.below, h.b0le, h.dn, h.sz, ?_, ?_, h.sto, h.nmb, h.inj⟩
  · intro t d hd
    simp only [look_unks] at hd
    split at hd
    · cases hd; exact .unk _
    · exact h.env t d hd
  · intro t d hd
    simp only [look_unks] at hd
    split at hd
    · cases hd; exact .unk
    · exact h.nm t d hd
/-- A temporary of which nothing is known is given whatever. -/
theorem Rel.putU (h : Rel ren A b0 w0 N φ s a w) {t : Nat} (hu : ∀ d, look s.env t = some d → d = .unk) (v : Value) : Rel ren A b0 w0 N φ s (a.put (some t) v) w := by
  refine ⟨h.below, h.b0le, h.dn, by simpa [Act.put] using h.sz, ?_, h.nm, h.sto, h.nmb, h.inj⟩
  intro u d hd
  by_cases e : t = u
  · subst e; rw [hu d hd]; exact .unk _
  · rw [get_put, if_neg (by simp [e])]; exact h.env u d hd

theorem setAll_get : ∀ (ks : List Int) (l : List Bool), (setAll ks l).length = l.length ∧ ∀ j, j < l.length → ((∃ k ∈ ks, k.toNat = j) → (setAll ks l)[j]? = some true) ∧ ((¬ ∃ k ∈ ks, k.toNat = j) → (setAll ks l)[j]? = l[j]?)
  | [], l => ⟨rfl, fun j _ => ⟨fun ⟨k, hk, _⟩ => (by cases hk), fun _ => rfl⟩⟩
  | i :: ks, l => by
    have ih := setAll_get ks (l.set i.toNat true)
    rw [List.length_set] at ih
    refine ⟨ih.1, fun j hj => ?_⟩
    have := ih.2 j hj
    show (_ → (setAll ks (l.set i.toNat true))[j]? = _) ∧ (_ → (setAll ks (l.set i.toNat true))[j]? = _)
    by_cases h : ∃ k ∈ ks, k.toNat = j
    · refine ⟨fun _ => this.1 h, fun hn => ?_⟩
      obtain ⟨k, hk, e⟩ := h
      exact absurd ⟨k, List.mem_cons_of_mem _ hk, e⟩ hn
    · rw [this.2 h]
      refine ⟨fun ⟨k, hk, e⟩ => ?_, fun hn => ?_⟩
      · rcases List.mem_cons.1 hk with rfl | hk
        · rw [e, List.getElem?_set_self hj]
        · exact absurd ⟨k, hk, e⟩ h
      · have : i.toNat ≠ j := fun e => hn ⟨i, List.mem_cons_self, e⟩
        rw [List.getElem?_set_ne this]
theorem keysI_get : ∀ {l : List (List DV × DV)} {ks : List Int}, keysI l = some ks → ks.length = l.length ∧ ∀ (i : Nat) (k : Int), ks[i]? = some k → ∃ v, l[i]? = some ([.int .i64 k], v)
  | [], ks, h => by simp only [keysI, Option.some.injEq] at h; subst h; exact ⟨rfl, by simp⟩
  | x :: l, ks, h => by
    unfold keysI at h
    split at h
    · rename_i hh; cases hh
    · rename_i i v r hh
      cases hh
      split at h
      · rename_i l' hl
        cases h
        have := keysI_get hl
        refine ⟨by simp [this.1], fun j k hj => ?_⟩
        cases j with
        | zero => simp at hj; subst hj; exact ⟨v, rfl⟩
        | succ j => simp at hj; simpa using this.2 j k hj
      · cases h
    · cases h

theorem rset_sound {m n : Nat} {l : List (List DV × DV)} {bl : List Bool} {ks : List Int} {x d : Nat} {ts : List Nat} {c : Code} (hc : rsetOk P N c x d ts = true) (h : Rel ren A b0 w0 N φ s a w)
    (hx : look s.env x = some (.lsl m)) (hm : blk s m = some (.map false l)) (hd : look s.env d = some (.lsl n)) (hn : blk s n = some (.row .bool bl)) (hk : keysI l = some ks)
    (hks : ks.all (fun i => decide (0 ≤ i) && decide (i.toNat < bl.length)) = true)
    (hQ : ∀ a' w', Rel ren A b0 w0 N φ ⟨unks ts s.env, (n, .row .bool (setAll ks bl)) :: s.sto⟩ a' w' → Q .normal a' w') : c.wp P Q a w := by
  unfold rsetOk at hc
  split at hc
  · rename_i t1 t2 t3 c2 t5 t6 t7 t8 t9 t10 id1 r1 i id2 r2 c2' i' j id3 r3 id4 r4
    simp only [Bool.and_eq_true] at hc
    obtain ⟨hc1, hi, hcc, hnd, hlt⟩ := hc
    obtain rfl := Nat.eq_of_beq_eq_true hi
    obtain rfl := Nat.eq_of_beq_eq_true hcc
    split at hc1
    · rename_i a1 a2 b1 b2 e1 e2 e3 f1 f2 f3 f4 hr1 hr2 hr3 hr4
      have q1 := arr_eq hr1; have q2 := arr_eq hr2; have q3 := arr_eq hr3; have q4 := arr_eq hr4
      subst q1; subst q2; subst q3; subst q4
      simp only [Bool.and_eq_true] at hc1
      obtain ⟨ca1, ca2, cb1, cb2, ce1, ce2, ce3, cf1, cf2, cf3, cf4⟩ := hc1
      obtain ⟨ga1, da1, oa1⟩ := chk1_get ca1
      obtain ⟨ga2, da2, oa2⟩ := chk1_get ca2
      obtain ⟨gb1, db1, ob1⟩ := chk1_get cb1
      obtain ⟨gb2, db2, ob2⟩ := chk1_get cb2
      obtain ⟨ge1, de1, oe1⟩ := chk1_get ce1
      obtain ⟨ge2, de2, oe2⟩ := chk1_get ce2
      obtain ⟨ge3, de3, oe3⟩ := chk1_get ce3
      obtain ⟨gf1, df1, of1⟩ := chk1_get cf1
      obtain ⟨gf2, df2, of2⟩ := chk1_get cf2
      obtain ⟨gf3, df3, of3⟩ := chk1_get cf3
      obtain ⟨gf4, df4, of4⟩ := chk1_get cf4
      replace oa1 := pMove_get oa1
      obtain ⟨tm, kt, et, oa2, htm⟩ := pRange_get oa2
      replace ob1 := pNext_get ob1
      replace ob2 := pExt_get ob2
      replace oe1 := pEntry_get oe1
      replace oe2 := pExt_get oe2
      replace oe3 := pMove_get oe3
      replace of1 := pMove_get of1
      replace of2 := pMove_get of2
      obtain ⟨tix, of3, hix⟩ := pIx_get of3
      obtain ⟨tst, of4, hst⟩ := pSt_get of4
      have hND := nodupB_get hnd
      simp only [List.nodup_cons, List.mem_cons, not_or, List.not_mem_nil, not_false_eq_true, and_true] at hND
      simp only [List.all_cons, List.all_nil, Bool.and_true, Bool.and_eq_true, Nat.blt_eq] at hlt
      obtain ⟨l1, l2, l3, l4, l5, l6, l7, l8, l9, l10⟩ := hlt
      obtain ⟨⟨xd, x1, x2, x3, x4, x5, x6, x7, x8, x9, x10⟩, ⟨d1, d2, d3, d4, d5, d6, d7, d8, d9, d10⟩, ⟨n12, n13, n14, n15, n16, n17, n18, n19, n1a⟩, ⟨n23, n24, n25, n26, n27, n28, n29, n2a⟩, ⟨n34, n35, n36, n37, n38, n39, n3a⟩, ⟨n45, n46, n47, n48, n49, n4a⟩, ⟨n56, n57, n58, n59, n5a⟩, ⟨n67, n68, n69, n6a⟩, ⟨n78, n79, n7a⟩, ⟨n89, n8a⟩, n9a, _⟩ := hND
      -- the map and its keys
      obtain ⟨hv, hφm, hRm, hownm⟩ := h.sto m _ hm
      obtain ⟨rm, es, clock, ehv, hblk, ⟨hst1, hst2⟩, hML⟩ := map_R hRm
      subst ehv
      have hkey1 : ∀ e ∈ es.toList, ∃ k ∈ ks, e.key = .int .i64 k := by
        intro e he
        obtain ⟨p, hp⟩ := List.getElem?_of_mem he
        have hlt : p < ks.length := by rw [(keysI_get hk).1, ← hML.1]; exact (List.getElem?_eq_some_iff.1 hp).1
        obtain ⟨v, hv⟩ := (keysI_get hk).2 p ks[p] (List.getElem?_eq_getElem hlt)
        obtain ⟨⟨us, g1, g2⟩, _⟩ := hML.2 p e _ v hp hv
        obtain ⟨u, us', rfl, _, g3, g4⟩ := g1.uncons
        refine ⟨ks[p], List.getElem_mem hlt, ?_⟩
        rw [g2, g4.unnil]; exact g3.int_inv
      have hkey2 : ∀ k ∈ ks, ∃ e ∈ es.toList, e.key = .int .i64 k := by
        intro k hk'
        obtain ⟨p, hp⟩ := List.getElem?_of_mem hk'
        obtain ⟨v, hv⟩ := (keysI_get hk).2 p k hp
        have hlt : p < es.toList.length := by rw [hML.1]; exact (List.getElem?_eq_some_iff.1 hv).1
        obtain ⟨⟨us, g1, g2⟩, _⟩ := hML.2 p _ _ v (List.getElem?_eq_getElem hlt) hv
        obtain ⟨u, us', rfl, _, g3, g4⟩ := g1.uncons
        refine ⟨es.toList[p], List.getElem_mem hlt, ?_⟩
        rw [g2, g4.unnil]; exact g3.int_inv
      have hin : ∀ k ∈ ks, 0 ≤ k ∧ k.toNat < bl.length := by
        intro k hk'
        have := List.all_eq_true.1 hks k hk'
        simp only [Bool.and_eq_true, decide_eq_true_eq] at this
        exact this
      have hmn : m ≠ n := by rintro rfl; rw [hm] at hn; cases hn
      -- states
      let ts : List Nat := [t1, t2, t3, c2', t5, t6, t7, t8, t9, t10]
      let S : List Bool → St := fun r => ⟨unks ts s.env, (n, .row .bool r) :: s.sto⟩
      have hSu : ∀ r t, t ∈ ts → ∀ d, look (S r).env t = some d → d = .unk := by
        intro r t ht d hd'
        have : look (unks ts s.env) t = some d := hd'
        rw [look_unks, if_pos ht] at this; cases this; rfl
      have hSd : ∀ r, look (S r).env d = some (.lsl n) := by
        intro r
        show look (unks ts s.env) d = _
        rw [look_unks, if_neg (by simp only [ts, List.mem_cons, List.not_mem_nil, or_false, not_or]; exact ⟨d1, d2, d3, d4, d5, d6, d7, d8, d9, d10⟩)]; exact hd
      have hSb : ∀ r, blk (S r) n = some (.row .bool r) := by
        intro r; show blk ⟨_, (n, .row .bool r) :: s.sto⟩ n = _
        unfold blk; simp only [look_cons, if_true]
      have hSx : ∀ r, look (S r).env x = some (.lsl m) := by
        intro r
        show look (unks ts s.env) x = _
        rw [look_unks, if_neg (by simp only [ts, List.mem_cons, List.not_mem_nil, or_false, not_or]; exact ⟨x1, x2, x3, x4, x5, x6, x7, x8, x9, x10⟩)]; exact hx
      let In (seen : Array Nat) (j : Nat) : Prop := ∃ e ∈ es.toList, seen.contains e.born = true ∧ ∃ k : Int, e.key = .int .i64 k ∧ k.toNat = j
      let Inv (r : List Bool) (seen : Array Nat) : Prop := r.length = bl.length ∧ ∀ j, j < bl.length → (In seen j → r[j]? = some true) ∧ (¬ In seen j → r[j]? = bl[j]?)
      let body : Code := .seq (.region id2 [b1, b2].toArray false) (.seq (.cond (.tmp c2') .skip (.exit i')) (.block j (.seq (.region id3 [e1, e2, e3].toArray false) (.region id4 [f1, f2, f3, f4].toArray false))))
      -- one round
      have round : ∀ (q : Nat) (seen : Array Nat) (c0 : Nat) (a : Act) (w' : World) (r : List Bool) (K : Act → World → Prop), b0 ≤ q → Rel ren A b0 w0 N φ (S r) a w' → a.tmps.getD t2 undef = .pointer (some ⟨q, 0, none⟩) →
          w'.heap[q]? = some (Go.Obj.mapIter (some rm) clock seen c0) → clock ≤ c0 → w'.heap[rm]? = some (Go.Obj.map es clock) → Inv r seen →
          (∀ (seen' : Array Nat) (a' : Act) (w'' : World) (r' : List Bool), (leftOf es seen').size < (leftOf es seen).size → Rel ren A b0 w0 N φ (S r') a' w'' → a'.tmps.getD t2 undef = .pointer (some ⟨q, 0, none⟩) →
            w''.heap[q]? = some (Go.Obj.mapIter (some rm) clock seen' clock) → w''.heap[rm]? = some (Go.Obj.map es clock) → Inv r' seen' → K a' w'') →
          body.wp P (Exit.then K (Exit.inBlock i' Q)) a w' := by
        intro q seen c0 a w' r K hbq hR ht2 hq hc0 hmp hI hK
        have put2 : ∀ (a : Act) (t : Nat) (v : Value), t ≠ t2 → (a.put (some t) v).tmps.getD t2 undef = a.tmps.getD t2 undef := fun a t v ht => by rw [get_put, if_neg (by simp [ht])]
        have putS : ∀ (a : Act) (w : World) (t : Nat) (v : Value), Rel ren A b0 w0 N φ (S r) a w → t ∈ ts → Rel ren A b0 w0 N φ (S r) (a.put (some t) v) w := fun a w t v hr ht => hr.putU (hSu r t ht) v
        have mem : ∀ t, (t = t1 ∨ t = t2 ∨ t = t3 ∨ t = c2' ∨ t = t5 ∨ t = t6 ∨ t = t7 ∨ t = t8 ∨ t = t9 ∨ t = t10) → t ∈ ts := fun t ht => by
          show t ∈ [t1, t2, t3, c2', t5, t6, t7, t8, t9, t10]
          simpa using ht
        refine wp_seq (wp_region ?_)
        show wpOps P #[b1, b2] _ [0, 1] a w'
        rcases run_next_at (P := P) w' b1.type q rm clock c0 seen es clock hq hmp hst2 hc0 with ⟨hz, hrun⟩ | ⟨e, he, w1, hw1, hrun⟩
        · -- nothing is left
          refine ops_step (o := b1) (v := .tuple #[.bool false]) (w' := w') rfl gb1 (by simp only [execOp, ob1, show a.eval (.tmp t2) = a.tmps.getD t2 undef from rfl, ht2, hrun, Sem.run_bind, Result.andThen_ok, Sem.run_pure]) ?_
          rw [db1]
          have hRa := putS a w' t3 (.tuple #[.bool false]) hR (mem t3 (by simp))
          have ev : (a.put (some t3) (.tuple #[.bool false])).eval (.tmp t3) = .tuple #[.bool false] := by
            show (a.put (some t3) _).tmps.getD t3 undef = _
            rw [get_put, if_pos ⟨rfl, by rw [hR.sz]; exact l3⟩]
          refine ops_step (o := b2) (v := .bool false) (w' := w') rfl gb2 (by simp only [execOp, ob2, ev, Instr.extract]; simp) ?_
          rw [db2]
          have hRb := putS _ w' c2' (.bool false) hRa (mem c2' (by simp))
          refine wp_seq (wp_cond (t := false) ?_ (wp_exit ?_))
          · show ((a.put (some t3) _).put (some c2') (.bool false)).tmps.getD c2' undef = _
            rw [get_put, if_pos ⟨rfl, by rw [hRa.sz]; exact l4⟩]
          · show Exit.inBlock i' Q (.exit i') _ w'
            simp only [Exit.inBlock, if_true]
            have hr : r = setAll ks bl := by
              have hs := setAll_get ks bl
              refine List.ext_getElem? fun jj => ?_
              by_cases hj : jj < bl.length
              · have hall : ∀ e ∈ es.toList, seen.contains e.born = true := by
                  intro e he
                  have h0 : leftOf es seen = #[] := Array.eq_empty_of_size_eq_zero hz
                  cases hb : seen.contains e.born with
                  | true => rfl
                  | false =>
                    have : e ∈ leftOf es seen := by
                      unfold leftOf
                      rw [Array.mem_filter]
                      exact ⟨by simpa using he, by simpa using hb⟩
                    rw [h0] at this; simp at this
                by_cases hjk : ∃ k ∈ ks, k.toNat = jj
                · obtain ⟨k, hk1, hk2⟩ := hjk
                  obtain ⟨e, he, hek⟩ := hkey2 k hk1
                  rw [(hI.2 jj hj).1 ⟨e, he, hall e he, k, hek, hk2⟩, (hs.2 jj hj).1 ⟨k, hk1, hk2⟩]
                · rw [(hI.2 jj hj).2 (fun ⟨e, he, _, k, hek, hk2⟩ => by
                    obtain ⟨k', hk', hek'⟩ := hkey1 e he
                    rw [hek] at hek'; cases hek'
                    exact hjk ⟨k, hk', hk2⟩), (hs.2 jj hj).2 hjk]
              · rw [List.getElem?_eq_none (by rw [hI.1]; omega), List.getElem?_eq_none (by rw [hs.1]; omega)]
            subst hr
            exact hQ _ _ hRb
        · -- an entry
          have hle : e ∈ leftOf es seen := by simpa using he
          have hee : e ∈ es.toList ∧ seen.contains e.born = false := by
            unfold leftOf at hle
            rw [Array.mem_filter] at hle
            exact ⟨by simpa using hle.1, by simpa using hle.2⟩
          obtain ⟨kk, hkk, hek⟩ := hkey1 e hee.1
          obtain ⟨hk0, hklt⟩ := hin kk hkk
          let w2 : World := setBlock w1 q (Go.Obj.mapIter (some rm) clock (seen.push e.born) clock)
          have hq1 : w1.heap[q]? = some (Go.Obj.mapIter (some rm) clock seen c0) := by rcases hw1 with rfl | rfl <;> exact hq
          have hm1 : w1.heap[rm]? = some (Go.Obj.map es clock) := by rcases hw1 with rfl | rfl <;> exact hmp
          have hR1 : Rel ren A b0 w0 N φ (S r) a w1 := by rcases hw1 with rfl | rfl; exact hR; exact hR.drew
          have hR2 : Rel ren A b0 w0 N φ (S r) a w2 := hR1.iter hq1 hbq
          have hqm : rm ≠ q := by rintro rfl; rw [hq1] at hm1; cases hm1
          have hqlt : q < w1.heap.size := (Array.getElem?_eq_some_iff.1 hq1).1
          have hq2 : w2.heap[q]? = some (Go.Obj.mapIter (some rm) clock (seen.push e.born) clock) := by
            show (w1.heap.setIfInBounds q _)[q]? = _
            simp [hqlt]
          have hm2 : w2.heap[rm]? = some (Go.Obj.map es clock) := by
            show (w1.heap.setIfInBounds q _)[rm]? = _
            simp [Ne.symm hqm, hm1]
          refine ops_step (o := b1) (v := .tuple #[.bool true, e.key, e.val]) (w' := w2) rfl gb1 (by simp only [execOp, ob1, show a.eval (.tmp t2) = a.tmps.getD t2 undef from rfl, ht2, hrun, Sem.run_bind, Result.andThen_ok, Sem.run_pure]; rfl) ?_
          rw [db1]
          have hRa := putS a w2 t3 (.tuple #[.bool true, e.key, e.val]) hR2 (mem t3 (by simp))
          have ev : (a.put (some t3) (.tuple #[.bool true, e.key, e.val])).eval (.tmp t3) = .tuple #[.bool true, e.key, e.val] := by
            show (a.put (some t3) _).tmps.getD t3 undef = _
            rw [get_put, if_pos ⟨rfl, by rw [hR.sz]; exact l3⟩]
          refine ops_step (o := b2) (v := .bool true) (w' := w2) rfl gb2 (by simp only [execOp, ob2, ev, Instr.extract]; simp) ?_
          rw [db2]
          have hRb := putS _ w2 c2' (.bool true) hRa (mem c2' (by simp))
          have hTb := (put2 _ c2' (.bool true) (by rintro rfl; exact n24 rfl)).trans ((put2 a t3 (.tuple #[.bool true, e.key, e.val]) (by rintro rfl; exact n23 rfl)).trans ht2)
          refine wp_seq (wp_cond (t := true) ?_ (wp_skip ?_))
          · show ((a.put (some t3) _).put (some c2') (.bool true)).tmps.getD c2' undef = _
            rw [get_put, if_pos ⟨rfl, by rw [hRa.sz]; exact l4⟩]
          generalize (a.put (some t3) (.tuple #[.bool true, e.key, e.val])).put (some c2') (.bool true) = a2 at hRb hTb
          refine wp_block (wp_seq (wp_region ?_))
          show wpOps P #[e1, e2, e3] _ [0, 1, 2] a2 w2
          have hent := run_entry_at (P := P) w2 q rm clock seen es clock e hq2 hm2 hee.1 hst1
          refine ops_step (o := e1) (v := .tuple #[e.key, e.val]) (w' := w2) rfl ge1 (by simp only [execOp, oe1, show a2.eval (.tmp t2) = a2.tmps.getD t2 undef from rfl, hTb, hent, Sem.run_bind, Result.andThen_ok, Sem.run_pure]) ?_
          rw [de1]
          have hRc := putS a2 w2 t5 (.tuple #[e.key, e.val]) hRb (mem t5 (by simp))
          have hTc := (put2 a2 t5 (.tuple #[e.key, e.val]) (by rintro rfl; exact n25 rfl)).trans hTb
          have ev5 : (a2.put (some t5) (.tuple #[e.key, e.val])).eval (.tmp t5) = .tuple #[e.key, e.val] := by
            show (a2.put (some t5) _).tmps.getD t5 undef = _
            rw [get_put, if_pos ⟨rfl, by rw [hRb.sz]; exact l5⟩]
          refine ops_step (o := e2) (v := e.key) (w' := w2) rfl ge2 (by simp only [execOp, oe2, ev5, Instr.extract]; simp) ?_
          rw [de2]
          generalize a2.put (some t5) (.tuple #[e.key, e.val]) = a3 at hRc hTc ev5
          have hRd := putS a3 w2 t6 e.key hRc (mem t6 (by simp))
          have hTd := (put2 a3 t6 e.key (by rintro rfl; exact n26 rfl)).trans hTc
          have ev6 : (a3.put (some t6) e.key).eval (.tmp t6) = e.key := by
            show (a3.put (some t6) _).tmps.getD t6 undef = _
            rw [get_put, if_pos ⟨rfl, by rw [hRc.sz]; exact l6⟩]
          refine ops_step (o := e3) (v := e.key) (w' := w2) rfl ge3 (by rcases oe3 with o3 | o3 <;> simp [execOp, o3, ev6]) ?_
          rw [de3]
          generalize a3.put (some t6) e.key = a4 at hRd hTd ev6
          have hRe := putS a4 w2 t7 e.key hRd (mem t7 (by simp))
          have hTe := (put2 a4 t7 e.key (by rintro rfl; exact n27 rfl)).trans hTd
          have ev7 : (a4.put (some t7) e.key).tmps.getD t7 undef = e.key := by
            rw [get_put, if_pos ⟨rfl, by rw [hRd.sz]; exact l7⟩]
          refine wp_region ?_
          show wpOps P #[f1, f2, f3, f4] _ [0, 1, 2, 3] (a4.put (some t7) e.key) w2
          generalize a4.put (some t7) e.key = a5 at hRe hTe ev7
          -- the row
          obtain ⟨hd0, hφ, hRr, hownr⟩ := hRe.sto n _ (hSb r)
          obtain ⟨ad, cap, rfl, hcap, hor⟩ := hRr
          have hrlen : kk.toNat < r.length := by rw [hI.1]; exact hklt
          rcases hor with hz' | ⟨rb, b, rfl, g3, g4⟩
          · exfalso; omega
          have hcp : ∃ cp, cap = cp + 1 := ⟨cap - 1, by omega⟩
          obtain ⟨cp, rfl⟩ := hcp
          have evd : a5.tmps.getD d undef = .slice (some ⟨rb, b, none⟩) r.length (cp + 1) := by
            have := (hRe.env d _ (hSd r)).lsl_inv
            exact Option.some.inj (this.symm.trans hφ)
          refine ops_step (o := f1) (v := .slice (some ⟨rb, b, none⟩) r.length (cp + 1)) (w' := w2) rfl gf1 (by rcases of1 with o3 | o3 <;> simp [execOp, o3, show a5.eval (.tmp d) = a5.tmps.getD d undef from rfl, evd]) ?_
          rw [df1]
          have hRf := putS a5 w2 t8 (.slice (some ⟨rb, b, none⟩) r.length (cp + 1)) hRe (mem t8 (by simp))
          have hTf := (put2 a5 t8 (.slice (some ⟨rb, b, none⟩) r.length (cp + 1)) (by rintro rfl; exact n28 rfl)).trans hTe
          have ev8 : (a5.put (some t8) (.slice (some ⟨rb, b, none⟩) r.length (cp + 1))).tmps.getD t8 undef = .slice (some ⟨rb, b, none⟩) r.length (cp + 1) := by
            rw [get_put, if_pos ⟨rfl, by rw [hRe.sz]; exact l8⟩]
          have ev7' : (a5.put (some t8) (.slice (some ⟨rb, b, none⟩) r.length (cp + 1))).tmps.getD t7 undef = e.key := by
            rw [get_put, if_neg (by rintro ⟨rfl, _⟩; exact n78 rfl)]; exact ev7
          generalize a5.put (some t8) (.slice (some ⟨rb, b, none⟩) r.length (cp + 1)) = a6 at hRf hTf ev8 ev7'
          refine ops_step (o := f2) (v := e.key) (w' := w2) rfl gf2 (by rcases of2 with o3 | o3 <;> simp [execOp, o3, show a6.eval (.tmp t7) = a6.tmps.getD t7 undef from rfl, ev7']) ?_
          rw [df2]
          have hRg := putS a6 w2 t9 e.key hRf (mem t9 (by simp))
          have hTg := (put2 a6 t9 e.key (by rintro rfl; exact n29 rfl)).trans hTf
          have ev9 : (a6.put (some t9) e.key).tmps.getD t9 undef = .int .i64 kk := by
            rw [get_put, if_pos ⟨rfl, by rw [hRf.sz]; exact l9⟩, hek]
          have ev8' : (a6.put (some t9) e.key).tmps.getD t8 undef = .slice (some ⟨rb, b, none⟩) r.length (cp + 1) := by
            rw [get_put, if_neg (by rintro ⟨rfl, _⟩; exact n89 rfl)]; exact ev8
          generalize a6.put (some t9) e.key = a7 at hRg hTg ev9 ev8'
          obtain ⟨el, hu, hs⟩ := slOk_get hix
          have hixr : (Instr.indexAt tix (.slice (some ⟨rb, b, none⟩) r.length (cp + 1)) (.int .i64 kk)).run P w2 = .ok (.pointer (some ((⟨rb, b, none⟩ : Addr).add (kk.toNat * 1)))) w2 := by
            have hlt2 : kk < ((r.length : Nat) : Int) := by omega
            simp only [Instr.indexAt, asIntOf, pure_bind, Sem.run_bind, run_und hu, Result.andThen_ok, Sem.run_pure, if_pos (And.intro hk0 hlt2), run_sz hs]
          refine ops_step (o := f3) (v := .pointer (some ((⟨rb, b, none⟩ : Addr).add (kk.toNat * 1)))) (w' := w2) rfl gf3 (by simp only [execOp, of3, show a7.eval (.tmp t8) = a7.tmps.getD t8 undef from rfl, show a7.eval (.tmp t9) = a7.tmps.getD t9 undef from rfl, ev8', ev9, hixr, Sem.run_bind, Result.andThen_ok, Sem.run_pure]) ?_
          rw [df3]
          have hRh := putS a7 w2 t10 (.pointer (some ((⟨rb, b, none⟩ : Addr).add (kk.toNat * 1)))) hRg (mem t10 (by simp))
          have hTh := (put2 a7 t10 (.pointer (some ((⟨rb, b, none⟩ : Addr).add (kk.toNat * 1)))) (by rintro rfl; exact n2a rfl)).trans hTg
          have ev10 : (a7.put (some t10) (.pointer (some ((⟨rb, b, none⟩ : Addr).add (kk.toNat * 1))))).tmps.getD t10 undef = .pointer (some ⟨rb, b + (kk.toNat * 1 + 0), none⟩) := by
            rw [get_put, if_pos ⟨rfl, by rw [hRg.sz]; exact l10⟩, Addr.add_none]; rfl
          generalize a7.put (some t10) (.pointer (some ((⟨rb, b, none⟩ : Addr).add (kk.toNat * 1)))) = a8 at hRh hTh ev10
          -- the store
          have hqr : r[kk.toNat]? = some r[kk.toNat] := List.getElem?_eq_getElem hrlen
          have hu1 : RVs w2 (Gd A b0 (S r) φ w2) φ ren [Value.bool true] [DV.bool true] := .cons rfl (.bool _) .nil
          have key := elems_set (τ := .bool) (G' := Gd A b0 (S r) φ (w2.setCells rb (b + (kk.toNat * 1 + 0)) [.bool true])) (off := 0) (cs := [.bool true]) (y := true) g3 hcap g4 hqr hu1 rfl rfl
          have run := run_storeVar' (P := P) (w := w2) (t := tst) (v := .bool true) (b := rb) (o := b + (kk.toNat * 1 + 0)) hst key.1 key.2.1 (by simp [Value.cells, Value.oneCell'])
          have hT := setCells_turn rb [Value.bool true] (b + (kk.toNat * 1 + 0)) w2
          have hown' : ownr (.slice (some ⟨rb, b, none⟩) r.length (cp + 1)) = some rb := rfl
          have hRel := hRh.write (w' := w2.setCells rb (b + (kk.toNat * 1 + 0)) [.bool true]) (b' := .row .bool (r.set kk.toNat true)) (hSb r) hφ
            ⟨hT.os, hT.tape, hT.output, hT.size, fun k hk hx => hT.block k hk fun e => hx (by rw [hown', e])⟩ (setCells_size _ _ _ _)
            ⟨_, cp + 1, by rw [List.length_set], by rw [List.length_set]; exact hcap, .inr ⟨rb, b, rfl, key.2.2.1, key.2.2.2 (fun r hr => ⟨by rw [setCells_size]; exact hr.1, hr.2⟩)
              (fun x hx => hT.cell hx.1 fun e => hx.2.1 ⟨n, _, _, hSb r, hφ, by rw [hown', e]⟩)⟩⟩
            (fun cs2 h2 d hd => by cases h2) (by simp)
          refine ops_skp (o := f4) (w' := w2.setCells rb (b + (kk.toNat * 1 + 0)) [.bool true]) rfl gf4 (by
            simp only [execOp, of4, show a8.eval (.tmp t10) = a8.tmps.getD t10 undef from rfl, show a8.eval (.const (.bool true)) = .bool true from rfl, ev10, Instr.storeAt, Instr.sureAddr, pure_bind, Sem.run_bind, show (storeVar tst ⟨rb, b + (kk.toNat * 1 + 0), none⟩ (.bool true)).run P w2 = _ from run, Result.andThen_ok, Sem.run_pure]; rfl) ?_
          rw [df4]
          have hrbm : rm ≠ rb := by
            rintro rfl
            exact hmn (h.inj m n _ _ _ _ rm hm hn hφm (by obtain ⟨_, e1, _⟩ := h.sto n _ hn; rw [hφ] at e1; cases e1; exact hφ) rfl rfl)
          have hrbq : q ≠ rb := by
            rintro rfl
            obtain ⟨⟨v, hv⟩, _⟩ := g3 0 (by simp [Ty.esz])
            simp only [World.cell?, hq2] at hv
            cases hv
          have hq3 : (w2.setCells rb (b + (kk.toNat * 1 + 0)) [.bool true]).heap[q]? = some (Go.Obj.mapIter (some rm) clock (seen.push e.born) clock) := by
            rw [hT.block q (by have := (Array.getElem?_eq_some_iff.1 hq2).1; exact this) hrbq]; exact hq2
          have hm3 : (w2.setCells rb (b + (kk.toNat * 1 + 0)) [.bool true]).heap[rm]? = some (Go.Obj.map es clock) := by
            rw [hT.block rm (by have := (Array.getElem?_eq_some_iff.1 hm2).1; exact this) hrbm]; exact hm2
          refine hK (seen.push e.born) a8 _ (r.set kk.toNat true) ?_ (hRel.ag ⟨fun _ _ => rfl, fun n' _ => ?_⟩) hTh hq3 hm3 ⟨by rw [List.length_set]; exact hI.1, fun jj hj => ?_⟩
          · have hsub : leftOf es (seen.push e.born) = (leftOf es seen).filter fun x => !(x.born == e.born) := by
              unfold leftOf
              rw [Array.filter_filter]
              congr 1
              funext x
              simp only [Array.contains_push, Bool.not_or]
              rw [Bool.and_comm]
            rw [hsub]
            have hl2 : ((leftOf es seen).toList.filter fun x => !(x.born == e.born)).length < (leftOf es seen).toList.length := List.length_filter_lt_length_iff_exists.2 ⟨e, by simpa using hle, by simp⟩
            have e1 : ((leftOf es seen).filter fun x => !(x.born == e.born)).size = ((leftOf es seen).toList.filter fun x => !(x.born == e.born)).length := by
              rw [← Array.length_toList, Array.toList_filter]
            rw [e1]; exact hl2
          · show blk ⟨_, (n, .row .bool (r.set kk.toNat true)) :: (n, .row .bool r) :: s.sto⟩ n' = blk ⟨_, (n, .row .bool (r.set kk.toNat true)) :: s.sto⟩ n'
            unfold blk
            simp only [look_cons]
            by_cases e : n = n' <;> simp [e]
          · have hj' : jj < r.length := by rw [hI.1]; exact hj
            by_cases e2 : kk.toNat = jj
            · refine ⟨fun _ => by rw [e2, List.getElem?_set_self hj'], fun hn2 => absurd ⟨e, hee.1, by simp, kk, hek, e2⟩ hn2⟩
            · rw [List.getElem?_set_ne e2]
              refine ⟨fun ⟨e', he', hs', k', hk', hj2⟩ => (hI.2 jj hj).1 ⟨e', he', ?_, k', hk', hj2⟩, fun hn2 => (hI.2 jj hj).2 fun ⟨e', he', hs', k', hk', hj2⟩ => hn2 ⟨e', he', by simp only [Array.contains_push, hs', Bool.true_or], k', hk', hj2⟩⟩
              simp only [Array.contains_push, Bool.or_eq_true] at hs'
              rcases hs' with hs' | hs'
              · exact hs'
              · exfalso
                have hb : e'.born = e.born := by simpa using hs'
                have : e' = e := by
                  obtain ⟨p, hp⟩ := List.getElem?_of_mem he'
                  obtain ⟨p2, hp2⟩ := List.getElem?_of_mem hee.1
                  have : p = p2 := by
                    refine (List.getElem?_inj (l := es.toList.map (·.born)) (by rw [List.length_map]; exact (List.getElem?_eq_some_iff.1 hp).1) hst1).1 ?_
                    rw [List.getElem?_map, List.getElem?_map, hp, hp2]; simp [hb]
                  subst this
                  rw [hp] at hp2; cases hp2; rfl
                subst this
                rw [hek] at hk'; cases hk'
                exact e2 hj2
      -- all rounds
      have loop : ∀ (k : Nat) (q : Nat) (seen : Array Nat) (c0 : Nat) (a : Act) (w' : World) (r : List Bool), (leftOf es seen).size ≤ k → b0 ≤ q → Rel ren A b0 w0 N φ (S r) a w' → a.tmps.getD t2 undef = .pointer (some ⟨q, 0, none⟩) →
          w'.heap[q]? = some (Go.Obj.mapIter (some rm) clock seen c0) → clock ≤ c0 → w'.heap[rm]? = some (Go.Obj.map es clock) → Inv r seen → Code.rounds P body (Exit.inBlock i' Q) (k + 1) a w' := by
        intro k
        induction k with
        | zero =>
          intro q seen c0 a w' r hsz hbq hR ht2 hq hc0 hmp hI
          rw [rounds_succ]
          exact round q seen c0 a w' r _ hbq hR ht2 hq hc0 hmp hI fun seen' a' w'' r' hlt => by omega
        | succ k ih =>
          intro q seen c0 a w' r hsz hbq hR ht2 hq hc0 hmp hI
          rw [rounds_succ]
          exact round q seen c0 a w' r _ hbq hR ht2 hq hc0 hmp hI fun seen' a' w'' r' hlt hR' ht2' hq' hmp' hI' => ih q seen' clock a' w'' r' (by omega) hbq hR' ht2' hq' (Nat.le_refl _) hmp' hI'
      -- the start
      refine wp_seq (wp_region ?_)
      show wpOps P #[a1, a2] _ [0, 1] a w
      refine ops_step (o := a1) (v := a.tmps.getD x undef) (w' := w) rfl ga1 (by rcases oa1 with o3 | o3 <;> simp only [execOp, o3] <;> rfl) ?_
      rw [da1]
      have evx : a.tmps.getD x undef = .map (some rm) := by
        have := (h.env x _ hx).lsl_inv
        exact Option.some.inj (this.symm.trans hφm)
      have hU : Rel ren A b0 w0 N φ (S bl) a w := (h.unkAll ts).ag ⟨fun _ _ => rfl, fun n' _ => by
        show blk ⟨_, s.sto⟩ n' = blk ⟨_, (n, .row .bool bl) :: s.sto⟩ n'
        by_cases e : n = n'
        · subst e
          rw [show blk ⟨unks ts s.env, s.sto⟩ n = some (.row .bool bl) from hn]
          unfold blk; simp only [look_cons, if_true]
        · unfold blk; simp only [look_cons, if_neg e]⟩
      have hU1 := hU.putU (hSu bl t1 (by simp [ts])) (.map (some rm))
      rw [evx]
      have ev1 : (a.put (some t1) (.map (some rm))).eval (.tmp t1) = .map (some rm) := by
        show (a.put (some t1) _).tmps.getD t1 undef = _
        rw [get_put, if_pos ⟨rfl, by rw [hU.sz]; exact l1⟩]
      let w1 : World := w.alloc (Go.Obj.mapIter (some rm) clock #[] clock)
      have hrun : (Instr.range tm (.map (some rm))).run P w = .ok (.pointer (some ⟨w.heap.size, 0, none⟩)) w1 := by
        simp only [Instr.range, Sem.run_bind, run_und htm, Result.andThen_ok, run_getM hblk, Sem.run_pure, run_newObj]
        rfl
      refine ops_step (o := a2) (v := .pointer (some ⟨w.heap.size, 0, none⟩)) (w' := w1) rfl ga2 (by simp only [execOp, oa2, ev1, hrun, Sem.run_bind, Result.andThen_ok, Sem.run_pure]) ?_
      rw [da2]
      have hx1 : ∀ r, r < w.heap.size → w1.heap[r]? = w.heap[r]? := fun r hr => by
        show (w.heap.push _)[r]? = _
        rw [Array.getElem?_push, if_neg (by omega)]
      have hqn : w1.heap[w.heap.size]? = some (Go.Obj.mapIter (some rm) clock #[] clock) := by
        show (w.heap.push _)[w.heap.size]? = _
        simp
      have hrm : rm < w.heap.size := (Array.getElem?_eq_some_iff.1 hblk).1
      have hbig : ∀ r, w.heap.size ≤ r → w.heap[r]? = none := fun r hr => Array.getElem?_eq_none hr
      have hU2 : Rel ren A b0 w0 N φ (S bl) (a.put (some t1) (.map (some rm))) w1 := by
        refine hU1.same ⟨rfl, rfl, rfl, by show w.heap.size ≤ (w.heap.push _).size; simp, fun k hk => hx1 k (Nat.lt_of_lt_of_le hk h.b0le)⟩ (by show w.heap.size ≤ (w.heap.push _).size; simp) (fun y => ?_) (fun y => ?_) (fun r es' c hr => by rw [hx1 r (Array.getElem?_eq_some_iff.1 hr).1]; exact hr)
        · by_cases e : y.block < w.heap.size
          · exact World.cell?_of_block (w := w) (hx1 _ e)
          · by_cases e2 : y.block = w.heap.size
            · simp only [World.cell?, e2, hqn, hbig _ (Nat.le_refl _)]
            · have e3 : w1.heap[y.block]? = none := Array.getElem?_eq_none (by show (w.heap.push _).size ≤ _; simp; omega)
              simp only [World.cell?, e3, hbig _ (show w.heap.size ≤ y.block by omega)]
        · by_cases e : y.block < w.heap.size
          · exact World.frozen?_of_block (w := w) (hx1 _ e)
          · by_cases e2 : y.block = w.heap.size
            · simp only [World.frozen?, e2, hqn, hbig _ (Nat.le_refl _)]
            · have e3 : w1.heap[y.block]? = none := Array.getElem?_eq_none (by show (w.heap.push _).size ≤ _; simp; omega)
              simp only [World.frozen?, e3, hbig _ (show w.heap.size ≤ y.block by omega)]
      have hU3 := hU2.putU (hSu bl t2 (by simp [ts])) (.pointer (some ⟨w.heap.size, 0, none⟩))
      have hT2 : ((a.put (some t1) (.map (some rm))).put (some t2) (.pointer (some ⟨w.heap.size, 0, none⟩))).tmps.getD t2 undef = .pointer (some ⟨w.heap.size, 0, none⟩) := by
        rw [get_put, if_pos ⟨rfl, by rw [hU1.sz]; exact l2⟩]
      refine wp_block (wp_loop_rounds _ (loop _ w.heap.size #[] clock _ w1 bl (Nat.le_refl _) h.b0le hU3 hT2 hqn (Nat.le_refl _) (by rw [hx1 rm hrm]; exact hblk) ⟨rfl, fun jj hj => ⟨fun ⟨e, _, hs, _⟩ => by simp at hs, fun _ => rfl⟩⟩))
    · cases hc1
  · cases hc
end
end Bz
