/- Maps. -/
import Derived.Test.YtjlgkjmbndmkjabSoundF
import Derived.Carry
set_option linter.all false
set_option linter.unusedVariables false
namespace Bz
open Go Go.RowKit
section
variable {P : Program} {ren : Nat → Option Nat} {A : Nat → Prop} {b0 : Nat} {w0 : World} {N : Nat} {φ : Nat → Option Value} {s : St} {a : Act} {w : World} {o : Oper} {k : Eff → Option DV} {r : DV} {R : Nat → List DV → Option DV}
  {nxt : Act → World → Prop} {Q : Exit → Act → World → Prop}
theorem Rel.renewM (h : Rel ren A b0 w0 N φ s a w) {e : Eff} {nm : Nat} {ag : Bool} {l : List (List DV × DV)} {hv : Value} {w' : World} (hbl : e.bl = [(nm, .map ag l)]) (hpg : e.pg = anew s nm)
    (h1 : hv.oneCell' = true) (ht : Turn w w' fun _ => False) (ho : ∀ r, ownr hv = some r → r < w'.heap.size ∧ w.heap.size ≤ r)
    (hR : ∀ φ' (G' : Nat → Prop), (∀ r, Gd A b0 s φ w r → G' r) → RB w' G' φ' ren hv (.map ag l)) :
    Rel ren A b0 w0 N (fun n => if n = nm then some hv else φ n) (e.on s) a w' ∧ Op1 ren A b0 (fun n => if n = nm then some hv else φ n) (e.on s) w' hv (.lsl nm) := by
  have hp : e.pg = [] ∨ e.pg = [nm] := by rcases anew_cases (s := s) nm with ⟨e1, _⟩ | ⟨e1, _⟩ <;> simp [hpg, e1]
  have hn : nm ∈ e.pg ∨ ¬ Bnd s nm := by rcases anew_cases (s := s) nm with ⟨e1, e2⟩ | ⟨e1, _⟩ <;> simp [hpg, e1]; exact e2
  have := h.onBind (e := e) (nm := nm) (b' := .map ag l) (k := hv) (w' := w') (by simp) (.inl ⟨hbl, hp⟩) trivial hn
    ⟨ht.os, ht.tape, ht.output, ht.size, fun k hk _ => ht.block k hk id⟩ (fun r hr => ⟨(ho r hr).1, .inl (ho r hr).2⟩) (fun hG => hR _ _ hG)
    (fun cs hcs d hd => by cases hcs)
  exact ⟨this.1, .lsl (by simp) h1, .lsl this.2.2.2⟩
def mapOk (P : Program) (t : TypeId) : Bool := match P.underlying t with | some (.map _ _) => true | _ => false
theorem s_mkmap {nm : Nat} {ag : Bool} {t : TypeId} {y : Option Operand} {y' : Option Opd} (ho : o.op = .makeMap t y) (hc : (mapOk P t && optOk ren y y') = true)
    (h : Rel ren A b0 w0 N φ s a w) (hk : eff R s (.mkmap nm ag y') k = some r) (hx : Nx ren A b0 w0 N s a k r fun v w' => nxt (a.put o.dst v) w') : o.wp P a w nxt Q := by
  simp only [Bool.and_eq_true] at hc
  simp only [eff] at hk
  replace ⟨dy, hk, h1⟩ := opdO_sound h hc.2 hk
  split at hk
  · rename_i n el
    have := h.renewM (e := { v := .lsl nm, bl := [(nm, .map ag [])], pg := anew s nm }) (hv := .map (some w.heap.size)) (w' := w.alloc (.map #[] 0)) rfl rfl rfl (Turn.alloc w _ _) (fun r hr => by cases hr; simp)
      (fun φ' G' _ => ⟨w.heap.size, #[], 0, rfl, by show (w.heap.push _)[w.heap.size]? = _; simp, ⟨by simp, by simp⟩, rfl, fun i e kc v he => by simp at he⟩)
    refine wp_val (v := .map (some w.heap.size)) (w' := w.alloc (.map #[] 0)) ?_ (hx _ _ _ _ hk this.1 this.2)
    have hi := h1 n el
    have hm : ∃ kt et, P.underlying t = some (.map kt et) := by
      have := hc.1; unfold mapOk at this; split at this
      · exact ⟨_, _, by assumption⟩
      · cases this
    obtain ⟨kt, et, hu⟩ := hm
    cases y with
    | none => simp only [execOp, ho, Option.map_none, run_makeMap, Sem.run_bind, Result.andThen_ok, Sem.run_pure]
    | some y =>
      cases n with
      | none => simp [IntOf] at hi
      | some n =>
        obtain ⟨kk, hy⟩ : ∃ kk, a.eval y = .int kk n := by simpa [IntOf] using hi
        simp only [execOp, ho, Option.map_some, hy, Instr.makeMap, asInt, asIntOf, pure_bind, Sem.run_bind, run_und hu, Result.andThen_ok, Sem.run_pure, run_newObj, World.alloc_eq]
  · cases hk
theorem chkKey_run (em : Bool) : ∀ (d : Nat) (t : TypeId) (p : List Nat), eqTy P d t = some p → ∀ (m : Nat) (us : List Value), us.length = p.length → (Instr.checkKey em (d + m) t (valOf P t us)).run P w = .ok () w
  | 0, t, p, h => by simp [eqTy] at h
  | d + 1, t, p, h => by
    intro m us hl
    unfold eqTy at h
    rw [show d + 1 + m = (d + m) + 1 by omega]
    split at h
    · rename_i k0 hund
      simp [Instr.checkKey, run_und hund]
    · rename_i hund
      simp [Instr.checkKey, run_und hund]
    · rename_i hund
      simp [Instr.checkKey, run_und hund]
    · rename_i hund
      simp [Instr.checkKey, run_und hund]
    · rename_i fs hund
      cases hst : P.stoodInHeld t with
      | true => simp [hst] at h
      | false =>
      simp only [hst, cond_false] at h
      have e1 : valOf P t us = .agg us.toArray := by simp [valOf, hund]
      rw [e1, Instr.checkKey]
      simp only [Sem.run_bind, run_und hund, Result.andThen_ok]
      rw [← Array.forIn_toList]
      have key : ∀ (fl : List Go.Field) (n : Nat) (q : List Nat), eqFs P (eqTy P d) n fl = some q → n + q.length ≤ us.length →
          (forIn fl PUnit.unit fun f _ => do
            if f.name ≠ "_" then do
              Instr.checkKey em (d + m) f.type (← part f.type us.toArray f.offset)
              pure (ForInStep.yield PUnit.unit)
            else pure (ForInStep.yield PUnit.unit) : Sem PUnit).run P w = .ok PUnit.unit w := by
        intro fl
        induction fl with
        | nil => intro n q hq he; simp
        | cons f fl ih =>
          intro n q hq he
          simp only [eqFs] at hq
          cases hc : (!(f.name == "_") && Nat.beq f.offset n) with
          | false => simp [hc] at hq
          | true =>
          simp only [hc, cond_true] at hq
          simp only [Bool.and_eq_true, Bool.not_eq_true'] at hc
          have hname : f.name ≠ "_" := by simpa using hc.1
          have hoff := Nat.eq_of_beq_eq_true hc.2
          split at hq
          · rename_i p1 hp1
            cases hs : szOk P f.type p1.length with
            | false => simp [hs] at hq
            | true =>
            simp only [hs, cond_true] at hq
            split at hq
            · rename_i q1 hq1
              cases hq
              rw [List.length_append] at he
              have pa := run_part_val (w := w) hp1 hs (us := us) (n := n) (fun _ => by omega)
              have ck := chkKey_run em d f.type p1 hp1 m ((us.drop n).take p1.length) (by simp; omega)
              have rest := ih (n + p1.length) q1 hq1 (by omega)
              simp only [List.forIn_cons, Sem.run_bind, hname, ne_eq, not_false_eq_true, if_true, hoff, pa, Result.andThen_ok, ck, Sem.run_pure]
              exact rest
            · cases hq
          · cases hq
      have := key fs.toList 0 p h (by omega)
      simp at this ⊢
      rw [this]; rfl
    · cases h
theorem run_getM {r : Nat} {es : Array MapEntry} {clock : Nat} (hb : w.heap[r]? = some (.map es clock)) : (getObj r).run P w = .ok (.map es clock) w := by
  simp [getObj, Sem.run, hb]
theorem run_setM {r : Nat} {es : Array MapEntry} {clock : Nat} (o : Go.Obj) (hb : w.heap[r]? = some (.map es clock)) : (setObj r o).run P w = .ok () { w with heap := w.heap.setIfInBounds r o } := by
  simp [setObj, Sem.run, hb]
theorem equal_eq (t : TypeId) (x y : Value) : Op.equal t x y = Op.equalIn 10000 t x y := rfl
theorem findNow_asking {t : TypeId} {d : TypeDesc} (hu : P.underlying t = some d) {k : Value} : ∀ (es : List MapEntry) (i : Nat) (q : Option (Nat × Value)), Instr.findNow d k es i = some q → (Instr.findAsking t k es i).run P w = .ok q w
  | [], i, q, h => by simp only [Instr.findNow, Option.some.injEq] at h; subst h; rfl
  | e :: es, i, q, h => by
    have hs : ∀ {x y : Value} {b : Bool}, Instr.sameNow d x y = some b → (Op.equal t x y).run P w = .ok b w := by
      intro x y b hb
      rw [equal_eq, Op.equalIn]
      unfold Instr.sameNow at hb
      split at hb
      · rename_i ik k1 a1 k2 b1
        split at hb
        · subst k1; cases hb; simp [run_und hu]
        · cases hb
      · cases hb; simp [run_und hu]
      · cases hb; simp [run_und hu]
      · cases hb
    simp only [Instr.findNow] at h
    simp only [Instr.findAsking, Sem.run_bind]
    split at h
    · cases h; rename_i he; rw [hs he]; rfl
    · rename_i he; rw [hs he]; exact findNow_asking hu es (i + 1) q h
    · cases h
/-- What stands in a map. -/
def MapR (w : World) (G : Nat → Prop) (φ : Nat → Option Value) (ren : Nat → Option Nat) (ag : Bool) (es : List MapEntry) (l : List (List DV × DV)) : Prop :=
  es.length = l.length ∧ ∀ (i : Nat) e kc v, es[i]? = some e → l[i]? = some (kc, v) → (∃ us : List Value, RVs w G φ ren us kc ∧ e.key = (bif ag then .agg us.toArray else us.headD undef)) ∧ RV w G φ ren e.val v ∧ (∀ d ∈ kc, NamesOk (fun _ => False) d) ∧ NamesOk (fun _ => False) v
def agT (P : Program) (t : TypeId) (ag : Bool) : Bool :=
  match P.underlying t with
  | some (.struct _) => ag
  | some _ => !ag
  | none => false
theorem agT_val {t : TypeId} {ag : Bool} (h : agT P t ag = true) (us : List Value) : (bif ag then .agg us.toArray else us.headD undef : Value) = valOf P t us := by
  unfold agT at h; unfold valOf
  split at h
  · rename_i fs hu; subst h; simp [hu]
  · rename_i d hd hu
    have : ag = false := by simpa using h
    subst this
    simp only [cond_false, hu]
    split
    · rename_i fs h'; cases h'; exact absurd rfl (hd fs)
    · rfl
  · cases h
theorem asking_sound {G : Nat → Prop} {t : TypeId} {p : List Nat} {ag : Bool} (he : eqTy P 3 t = some p) (ha : agT P t ag = true) {us : List Value} {cs : List DV} (hu : RVs w G φ ren us cs) :
    ∀ (l : List (List DV × DV)) (es : List MapEntry) (i : Nat) (q : Option (Nat × DV)), MapR w G φ ren ag es l → mfind p cs l i = some q →
      ∃ q', (Instr.findAsking t (valOf P t us) es i).run P w = .ok q' w ∧ (match q, q' with
        | none, none => True
        | some (j, d), some (j', v) => j' = j ∧ i ≤ j ∧ ∃ e kc us', es[j - i]? = some e ∧ l[j - i]? = some (kc, d) ∧ v = e.val ∧ RV w G φ ren v d ∧ eqCells p cs kc = some true ∧ RVs w G φ ren us' kc ∧ e.key = valOf P t us'
        | _, _ => False) := by
  intro l
  induction l with
  | nil =>
    intro es i q hm hq
    simp only [mfind, Option.some.injEq] at hq
    subst hq
    have : es = [] := List.eq_nil_of_length_eq_zero (by simpa using hm.1)
    subst this
    exact ⟨none, rfl, trivial⟩
  | cons c l ih =>
    obtain ⟨kc, d⟩ := c
    intro es i q hm hq
    cases es with
    | nil => have := hm.1; simp at this
    | cons e es =>
      obtain ⟨⟨us', h1, h2⟩, h3, _, _⟩ := hm.2 0 e kc d rfl rfl
      rw [agT_val ha] at h2
      have hm' : MapR w G φ ren ag es l := ⟨by simpa using hm.1, fun j e' kc' v he' hl => hm.2 (j + 1) e' kc' v (by simpa using he') (by simpa using hl)⟩
      simp only [mfind] at hq
      have eqv : ∀ r, eqCells p cs kc = some r → (Op.equal t (valOf P t us) e.key).run P w = .ok r w := by
        intro r hr
        rw [equal_eq, h2]
        exact eqTy_sound 3 t p he 9997 us us' cs kc r hu h1 hr
      split at hq
      · rename_i hr
        cases hq
        refine ⟨some (i, e.val), ?_, ?_⟩
        · simp only [Instr.findAsking, Sem.run_bind, eqv _ hr, Result.andThen_ok]; rfl
        · exact ⟨rfl, Nat.le_refl _, e, kc, us', by simp, by simp, rfl, h3, hr, h1, h2⟩
      · rename_i hr
        obtain ⟨q', g1, g2⟩ := ih es (i + 1) q hm' hq
        refine ⟨q', ?_, ?_⟩
        · simp only [Instr.findAsking, Sem.run_bind, eqv _ hr, Result.andThen_ok]; exact g1
        · cases q with
          | none =>
            cases q' with
            | none => trivial
            | some _ => exact g2
          | some jd =>
            obtain ⟨j, d'⟩ := jd
            cases q' with
            | none => exact g2
            | some jv =>
              obtain ⟨j', v⟩ := jv
              obtain ⟨k1, k2, e', kc', us2, k3, k4, k5⟩ := g2
              have e3 : j - i = (j - (i + 1)) + 1 := by omega
              exact ⟨k1, by omega, e', kc', us2, by rw [e3]; simpa using k3, by rw [e3]; simpa using k4, k5⟩
      · cases hq
theorem findKey_of_asking {t : TypeId} {k : Value} {es : List MapEntry} {q : Option (Nat × Value)} {d : TypeDesc} (hu : P.underlying t = some d) (h : (Instr.findAsking t k es).run P w = .ok q w) : (Instr.findKey t k es).run P w = .ok q w := by
  simp only [Instr.findKey, Sem.run_bind, run_und hu, Result.andThen_ok]
  cases hn : Instr.findNow d k es 0 with
  | none => exact h
  | some q' =>
    have := findNow_asking (w := w) hu es 0 q' hn
    rw [this] at h
    cases h; rfl
theorem eqTy_und {d : Nat} {t : TypeId} {p : List Nat} (h : eqTy P d t = some p) : ∃ k, P.underlying t = some k := by
  cases d with
  | zero => simp [eqTy] at h
  | succ d => unfold eqTy at h; split at h <;> first | exact ⟨_, ‹_›⟩ | cases h

theorem map_R {G : Nat → Prop} {ag : Bool} {l : List (List DV × DV)} {h : Value} (hR : RB w G φ ren h (.map ag l)) : ∃ r es clock, h = .map (some r) ∧ w.heap[r]? = some (.map es clock) ∧ ((es.toList.map (·.born)).Nodup ∧ ∀ e ∈ es.toList, e.born < clock) ∧ MapR w G φ ren ag es.toList l := by
  obtain ⟨r, es, clock, h1, h2, hst, h3, h4⟩ := hR
  exact ⟨r, es, clock, h1, h2, hst, h3, h4⟩
def mapTo (P : Program) (t : TypeId) (ag : Bool) (p : List Nat) (zero : Option DV) : Bool :=
  match P.underlying t with
  | some (.map kt et) => (match eqTy P 3 kt with | some q => q == p | none => false) && (agT P kt ag && (match zero with
    | none => true
    | some z => match P.info? et with
      | some i => match i.zero with
        | some z' => constOk z' z
        | none => false
      | none => false))
  | _ => false
theorem keyD_sound {ag : Bool} {v : Value} {d : DV} {cs : List DV} {t : TypeId} {G : Nat → Prop} (ha : agT P t ag = true) (h : RV w G φ ren v d) (hk : keyD ag d = some cs) : ∃ us, v = valOf P t us ∧ RVs w G φ ren us cs := by
  unfold keyD at hk
  split at hk
  · rename_i cs'
    cases hk
    obtain ⟨arr, rfl, g⟩ := h.agg_inv
    exact ⟨arr.toList, by rw [← agT_val ha]; simp, g⟩
  · rename_i d'
    cases hc : keyC d with
    | false => simp [hc] at hk
    | true =>
      simp only [hc, cond_true, Option.some.injEq] at hk
      subst hk
      refine ⟨[v], by rw [← agT_val ha]; simp, .cons ?_ h .nil⟩
      unfold keyC at hc
      split at hc
      · rw [h.int_inv]; rfl
      · rw [h.str_inv]; rfl
      · rw [h.bool_inv]; rfl
      · cases hc
  · cases hk
theorem keyC_nn {f : Nat → Prop} {d : DV} (h : keyC d = true) : NamesOk f d := by
  unfold keyC at h
  split at h
  · exact .int _ _
  · exact .str _
  · exact .bool _
  · cases h
theorem keyC_one {v : Value} {d : DV} {G : Nat → Prop} (h : RV w G φ ren v d) (hc : keyC d = true) : v.oneCell' = true := by
  unfold keyC at hc
  split at hc
  · rw [h.int_inv]; rfl
  · rw [h.str_inv]; rfl
  · rw [h.bool_inv]; rfl
  · cases hc
theorem mapTo_get {t : TypeId} {ag : Bool} {p : List Nat} {zero : Option DV} (h : mapTo P t ag p zero = true) : ∃ kt et, P.underlying t = some (.map kt et) ∧ eqTy P 3 kt = some p ∧ agT P kt ag = true ∧
    ∀ z, zero = some z → ∃ z', (∀ w : World, (zeroValue et).run P w = .ok z' w) ∧ constOk z' z = true := by
  unfold mapTo at h
  split at h
  · rename_i kt et hu
    simp only [Bool.and_eq_true] at h
    obtain ⟨h1, h2, h3⟩ := h
    refine ⟨kt, et, hu, ?_, h2, fun z hz => ?_⟩
    · split at h1
      · rename_i q hq; rw [hq]; rw [eq_of_beq h1]
      · cases h1
    · subst hz
      simp only at h3
      split at h3
      · rename_i i hi
        split at h3
        · rename_i z' hz'
          exact ⟨z', fun w => by simp [zeroValue, run_typeInfo' hi, hz'], h3⟩
        · cases h3
      · cases h3
  · cases h
def foundV (zero : DV) : Option (Nat × DV) → DV
  | some (_, v) => v
  | none => zero
theorem mInt_get {kd : IntKind} {z x : Int} {o : Option (Nat × DV)} (h : mInt kd z o = some x) : (.int kd x : DV) = foundV (.int kd z) o := by
  unfold mInt at h
  split at h
  · cases h; rfl
  · rename_i i k n
    cases hk : kindEq k kd with
    | false => rw [hk] at h; cases h
    | true => rw [hk, cond_true] at h; cases h; cases kindEq_eq hk; rfl
  · cases h
theorem mBool_get {z x : Bool} {o : Option (Nat × DV)} (h : mBool z o = some x) : (.bool x : DV) = foundV (.bool z) o := by
  unfold mBool at h
  split at h
  · cases h; rfl
  · cases h; rfl
  · cases h
theorem s_mget {ok : Bool} {zero : DV} {ag : Bool} {p : List Nat} {t : TypeId} {x y : Operand} {x' y' : Opd} (ho : o.op = .lookup t x y ok)
    (hc : (mapTo P t ag p (some zero) && (opdOk ren x x' && opdOk ren y y')) = true)
    (h : Rel ren A b0 w0 N φ s a w) (hk : eff R s (.mget ok zero ag p x' y') k = some r) (hx : Nx ren A b0 w0 N s a k r fun v w' => nxt (a.put o.dst v) w') : o.wp P a w nxt Q := by
  simp only [Bool.and_eq_true] at hc
  obtain ⟨kt, et, hu, he, ha, hz⟩ := mapTo_get hc.1
  obtain ⟨z', hz1, hz2⟩ := hz zero rfl
  simp only [eff] at hk
  replace ⟨dx, hk, h1⟩ := opd_sound h hc.2.1 hk
  replace ⟨dy, hk, h2⟩ := opd_sound h hc.2.2 hk
  split at hk
  · rename_i n
    split at hk
    · rename_i ag' l hb
      cases hag : (ag == ag') with
      | false => simp [hag] at hk
      | true =>
      obtain rfl := eq_of_beq hag
      simp only [hag, cond_true] at hk
      split at hk
      · rename_i cs hcs
        cases hl : Nat.beq cs.length p.length with
        | false => simp [hl] at hk
        | true =>
        simp only [hl, cond_true] at hk
        have hl := Nat.eq_of_beq_eq_true hl
        split at hk
        · rename_i q hq
          replace hk : ∃ v0, v0 = foundV zero q ∧ k { v := mgetV ok v0 q.isSome, rd := [n] } = some r := by
            clear hc hz hz1 hz2
            cases zero with
            | int kd z =>
              dsimp only at hk
              cases hx' : mInt kd z q with
              | none => rw [hx'] at hk; cases hk
              | some x' => rw [hx'] at hk; exact ⟨_, mInt_get hx', hk⟩
            | bool z =>
              dsimp only at hk
              cases hx' : mBool z q with
              | none => rw [hx'] at hk; cases hk
              | some x' => rw [hx'] at hk; exact ⟨_, mBool_get hx', hk⟩
            | _ => cases hk
          obtain ⟨v0, ev0, hk⟩ := hk
          obtain ⟨hd, hφ, hR, hown⟩ := h.sto n _ hb
          have e4 := h1.rv.lsl_inv
          rw [hφ] at e4; cases e4
          obtain ⟨rb, es, clock, e5, hblk, hst, hm⟩ := map_R hR
          obtain ⟨us, e6, hus⟩ := keyD_sound ha h2.rv hcs
          have hck := chkKey_run (P := P) (w := w) es.isEmpty 3 kt p he 9997 us (by rw [hus.1]; exact hl)
          obtain ⟨kd, hkd⟩ := eqTy_und he
          obtain ⟨q', g1, g2⟩ := asking_sound he ha hus l es.toList 0 q hm hq
          have g3 := findKey_of_asking hkd g1
          have c0 := constOk_rv hz2 (w := w) (G := Gd A b0 s φ w) (φ := φ) (ren := ren) (Bnd s)
          have fin : ∀ (v : Value) (b : Bool), (match q' with | some (_, v) => (v, true) | none => (z', false)) = (v, b) → RV w (Gd A b0 s φ w) φ ren (if ok then .tuple #[v, .bool b] else v) (mgetV ok v0 q.isSome) → NamesOk (Bnd s) (mgetV ok v0 q.isSome) → o.wp P a w nxt Q := by
            intro v b hvb hrv hnn
            refine wp_val (v := if ok then .tuple #[v, .bool b] else v) (w' := w) ?_ (hx.pure hk h ⟨hrv, hnn⟩)
            simp only [execOp, ho, Instr.lookup, e5, e6, Sem.run_bind, run_und hu, Result.andThen_ok, run_getM hblk, Sem.run_pure]
            rw [show (10000 : Nat) = 3 + 9997 from rfl, hck]
            simp only [Result.andThen_ok, g3]
            cases q' with
            | none =>
              simp only [Prod.mk.injEq] at hvb
              obtain ⟨rfl, rfl⟩ := hvb
              simp only [Sem.run_bind, hz1, Result.andThen_ok, Sem.run_pure]
            | some jv =>
              simp only [Prod.mk.injEq] at hvb
              obtain ⟨rfl, rfl⟩ := hvb
              rfl
          cases q with
          | none =>
            cases q' with
            | some _ => exact g2.elim
            | none =>
              simp only [foundV] at ev0
              subst ev0
              refine fin z' false rfl ?_ ?_
              · cases ok
                · exact c0.1
                · exact .tup rfl (fun j v d hj hd => by
                    match j, hj, hd with
                    | 0, hj, hd => cases hj; cases hd; exact c0.1
                    | 1, hj, hd => cases hj; cases hd; exact .bool _)
              · cases ok
                · exact c0.2.1
                · exact .tup (by intro d hd; simp at hd; rcases hd with rfl | rfl; exact c0.2.1; exact .bool _)
          | some jd =>
            obtain ⟨j, d⟩ := jd
            cases q' with
            | none => exact g2.elim
            | some jv =>
              obtain ⟨j', v⟩ := jv
              obtain ⟨_, _, e, kc, us', k1, k2, k3, k4, _⟩ := g2
              simp only [foundV] at ev0
              subst ev0
              have hnn : NamesOk (Bnd s) v0 := ((hm.2 _ _ _ _ k1 k2).2.2.2).imp fun _ hf => hf.elim
              refine fin v true rfl ?_ ?_
              · cases ok
                · exact k4
                · exact .tup rfl (fun j v d hj hd => by
                    match j, hj, hd with
                    | 0, hj, hd => cases hj; cases hd; exact k4
                    | 1, hj, hd => cases hj; cases hd; exact .bool _)
              · cases ok
                · exact hnn
                · exact .tup (by intro d hd; simp at hd; rcases hd with rfl | rfl; exact hnn; exact .bool _)
        · cases hk
      · cases hk
    · cases hk
  · cases hk

theorem eq1_bits {x : Nat} {c d : DV} {u v : Value} {G : Nat → Prop} (h : eq1 x c d = some true) (hc : keyC c = true) (hu : RV w G φ ren u c) (hv : RV w G φ ren v d) (m : Nat) : Instr.sameBits m v u = true := by
  unfold eq1 at h
  split at h
  · split at h
    · rename_i hk
      simp only [Option.some.injEq] at h
      have := eq_of_beq h; subst this
      have := kindEq_eq hk; subst this
      rw [hu.int_inv, hv.int_inv]; unfold Instr.sameBits; simp
    · cases h
  · simp only [Option.some.injEq] at h
    have := eq_of_beq h; subst this
    rw [hu.bool_inv, hv.bool_inv]; unfold Instr.sameBits; simp
  · simp only [Option.some.injEq] at h
    rename_i a b
    have h' : a.toList = b.toList := eq_of_beq h
    rw [hu.str_inv, hv.str_inv]; unfold Instr.sameBits; rw [beq_toListBytes, h']; simp
  · cases hc
  · cases h
theorem cells_bits {G : Nat → Prop} : ∀ {p : List Nat} {cs kc : List DV} {us vs : List Value}, eqCells p cs kc = some true → cs.all keyC = true → RVs w G φ ren us cs → RVs w G φ ren vs kc → ∀ m, vs.length = us.length ∧ ((vs.zip us).all fun (x, y) => Instr.sameBits m x y) = true
  | [], cs, kc, us, vs, h, hc, hu, hv, m => by
    obtain ⟨rfl, rfl, _⟩ := eqCells_nil h
    rw [hu.unnil, hv.unnil]; exact ⟨rfl, rfl⟩
  | x :: p, cs, kc, us, vs, h, hc, hu, hv, m => by
    obtain ⟨c, cs', d, ds', b, r1, rfl, rfl, e1, e2, e3⟩ := eqCells_cons h
    simp only [List.all_cons, Bool.and_eq_true] at hc
    have e3' := e3.symm
    simp only [Bool.and_eq_true] at e3'
    obtain ⟨rfl, rfl⟩ := e3'
    obtain ⟨u, us', rfl, _, hu1, hu2⟩ := hu.uncons
    obtain ⟨v, vs', rfl, _, hv1, hv2⟩ := hv.uncons
    have := cells_bits e2 hc.2 hu2 hv2 m
    refine ⟨by simp [this.1], ?_⟩
    simp only [List.zip_cons_cons, List.all_cons, Bool.and_eq_true]
    exact ⟨eq1_bits e1 hc.1 hu1 hv1 m, this.2⟩
theorem key_stays {ag : Bool} {t : TypeId} {p : List Nat} {cs kc : List DV} {us vs : List Value} {G : Nat → Prop} (ha : agT P t ag = true) (hl : ag = false → us.length = 1) (h : eqCells p cs kc = some true) (hc : cs.all keyC = true) (hu : RVs w G φ ren us cs) (hv : RVs w G φ ren vs kc) :
    (Instr.keyThatStays (valOf P t vs) (valOf P t us)).run P w = .ok (valOf P t us) w := by
  have hb : Instr.sameBits 10000 (valOf P t vs) (valOf P t us) = true := by
    rw [← agT_val ha, ← agT_val ha]
    cases ag with
    | true =>
      have := cells_bits h hc hu hv 9999
      simp only [cond_true, Instr.sameBits]
      simpa using this
    | false =>
      have h1 := hl rfl
      have := cells_bits h hc hu hv 10000
      match us, vs, h1, this with
      | [u], [v], _, this => simpa using this.2
      | [u], [], _, this => simp at this
      | [u], _ :: _ :: _, _, this => simp at this
  simp [Instr.keyThatStays, hb]
theorem s_mput {ag : Bool} {p : List Nat} {t : TypeId} {x y z : Operand} {x' y' z' : Opd} (ho : o.op = .mapUpdate t x y z) (hds : o.dst = none)
    (hc : (mapTo P t ag p none && (opdOk ren x x' && (opdOk ren y y' && opdOk ren z z'))) = true)
    (h : Rel ren A b0 w0 N φ s a w) (hk : eff R s (.mput ag p x' y' z') k = some r) (hx : Nx ren A b0 w0 N s a k r fun v w' => nxt (a.put o.dst v) w') : o.wp P a w nxt Q := by
  simp only [Bool.and_eq_true] at hc
  obtain ⟨kt, et, hu, he, ha, _⟩ := mapTo_get hc.1
  simp only [eff] at hk
  replace ⟨dx, hk, h1⟩ := opd_sound h hc.2.1 hk
  replace ⟨dy, hk, h2⟩ := opd_sound h hc.2.2.1 hk
  replace ⟨dz, hk, h3⟩ := opd_sound h hc.2.2.2 hk
  split at hk
  · rename_i n
    split at hk
    · rename_i ag' l hb
      cases hag : (ag == ag') with
      | false => simp [hag] at hk
      | true =>
      obtain rfl := eq_of_beq hag
      simp only [hag, cond_true] at hk
      split at hk
      · rename_i cs hcs
        cases hl : (Nat.beq cs.length p.length && (cs.all keyC && keyC dz)) with
        | false => simp [hl] at hk
        | true =>
        simp only [hl, cond_true] at hk
        simp only [Bool.and_eq_true] at hl
        obtain ⟨hl, hkc, hkz⟩ := hl
        have hl := Nat.eq_of_beq_eq_true hl
        obtain ⟨hd, hφ, hR, hown⟩ := h.sto n _ hb
        have e4 := h1.rv.lsl_inv
        rw [hφ] at e4; cases e4
        obtain ⟨rb, es, clock, e5, hblk, hst, hm⟩ := map_R hR
        obtain ⟨us, e6, hus⟩ := keyD_sound ha h2.rv hcs
        have hck := chkKey_run (P := P) (w := w) false 3 kt p he 9997 us (by rw [hus.1]; exact hl)
        obtain ⟨kd, hkd⟩ := eqTy_und he
        have h1l : ag = false → us.length = 1 := by
          intro e; subst e
          simp only [keyD] at hcs
          cases hkk : keyC dy with
          | false => simp [hkk] at hcs
          | true =>
            simp only [hkk, cond_true, Option.some.injEq] at hcs
            subst hcs
            rw [hus.1]; rfl
        -- the entry
        have hnk : ∀ d ∈ cs, NamesOk (fun _ => False) d := fun d hd => keyC_nn (List.all_eq_true.1 hkc d hd)
        have hOwn : ownr (.map (some rb)) = some rb := rfl
        have hblt : rb < w.heap.size := (hown rb (by rw [e5]; rfl)).2
        -- the store
        have fin : ∀ (es' : Array MapEntry) (clock' : Nat) (l' : List (List DV × DV)), ((es'.toList.map (·.born)).Nodup ∧ ∀ e ∈ es'.toList, e.born < clock') → MapR w (Gd A b0 s φ w) φ ren ag es'.toList l' →
            (Instr.mapUpdate t (.map (some rb)) (a.eval y) (a.eval z)).run P w = .ok () { w with heap := w.heap.setIfInBounds rb (.map es' clock') } →
            k { v := .skp, bl := [(n, .map ag l')], rd := [n] } = some r → o.wp P a w nxt Q := by
          intro es' clock' l' hst' hm' hrun hk'
          have hG : ∀ x, Gd A b0 s φ w x → Gd A b0 s φ { w with heap := w.heap.setIfInBounds rb (.map es' clock') } x := fun x hx => ⟨by simpa using hx.1, hx.2⟩
          have hT : Turn w { w with heap := w.heap.setIfInBounds rb (.map es' clock') } fun q => ownr (a.eval x) = some q := by
            refine ⟨rfl, rfl, rfl, by simp, fun q _ hq => ?_⟩
            have hne : rb ≠ q := fun e => hq (by rw [e5, ← e]; rfl)
            show (w.heap.setIfInBounds rb _)[q]? = _
            simp [hne]
          have hcell : ∀ x : Addr, Gd A b0 s φ w x.block → ({ w with heap := w.heap.setIfInBounds rb (.map es' clock') } : World).cell? x = w.cell? x :=
            fun x hx => hT.cell hx.1 fun e => hx.2.1 ⟨n, _, _, hb, hφ, e⟩
          have hRel := h.write (w' := { w with heap := w.heap.setIfInBounds rb (.map es' clock') }) (b' := .map ag l') hb hφ hT (by simp)
            ⟨rb, es', clock', e5, by show (w.heap.setIfInBounds rb _)[rb]? = _; simp [hblt], hst', hm'.1, fun i e kc v g1 g2 => by
              obtain ⟨⟨us', k1, k2⟩, k3, k4, k5⟩ := hm'.2 i e kc v g1 g2
              exact ⟨⟨us', k1.mono hG hcell (fun d hd => (k4 d hd).imp fun _ hf => hf.elim), k2⟩, k3.mono hG hcell (k5.imp fun _ hf => hf.elim), k4, k5⟩⟩
            (fun cs hcs => by cases hcs) (by simp)
          refine wp_skp (w' := { w with heap := w.heap.setIfInBounds rb (.map es' clock') }) ?_ (hx undef _ _ φ hk' hRel ⟨.skp, .skp⟩)
          simp only [execOp, ho, e5, hrun, Sem.run_bind, Result.andThen_ok, Sem.run_pure]
        have hrun0 : ∀ q', (Instr.findAsking kt (valOf P kt us) es.toList).run P w = .ok q' w → (Instr.mapUpdate t (.map (some rb)) (a.eval y) (a.eval z)).run P w =
            (match q' with
              | some (i, _) => (do
                  let key ← Instr.keyThatStays (((es[i]?).map (fun (e : MapEntry) => e.key)).getD (valOf P kt us)) (valOf P kt us)
                  setObj rb (.map (es.modify i fun (e : MapEntry) => { e with key, val := a.eval z }) clock) : Sem Unit)
              | none => setObj rb (.map (es.push { key := valOf P kt us, val := a.eval z, born := clock }) (clock + 1))).run P w := by
          intro q' hq'
          have g3 := findKey_of_asking hkd hq'
          simp only [Instr.mapUpdate, e6, Sem.run_bind, run_und hu, Result.andThen_ok, run_getM hblk, Sem.run_pure]
          rw [show (10000 : Nat) = 3 + 9997 from rfl, hck]
          simp only [Result.andThen_ok, g3]
          rfl
        unfold mputL at hk
        cases hq : mfind p cs l 0 with
        | none => simp [hq] at hk
        | some q =>
        cases q with
        | some idv =>
          obtain ⟨i, dv⟩ := idv
          simp only [hq] at hk
          obtain ⟨q', g1, g2⟩ := asking_sound he ha hus l es.toList 0 _ hm hq
          cases q' with
          | none => exact g2.elim
          | some jv =>
            obtain ⟨j', v⟩ := jv
            obtain ⟨rfl, _, e, kc, us', k1, k2, k3, k4, k5, k6, k7⟩ := g2
            rw [Nat.sub_zero] at k1 k2
            have hes : es[j']? = some e := by simpa using k1
            have hlt : j' < l.length := (List.getElem?_eq_some_iff.1 k2).1
            refine fin (es.modify j' fun e => { e with key := valOf P kt us, val := a.eval z }) clock (l.set j' (cs, dz)) ?_ ⟨?_, fun i e' kc' v' q1 q2 => ?_⟩ ?_ hk
            · have eb : ((es.modify j' fun e => { e with key := valOf P kt us, val := a.eval z }).toList.map (·.born)) = es.toList.map (·.born) := by
                apply List.ext_getElem?
                intro i
                simp only [List.getElem?_map, Array.toList_modify, List.getElem?_modify]
                cases es.toList[i]? with
                | none => rfl
                | some e => by_cases h : j' = i <;> simp [h]
              refine ⟨by rw [eb]; exact hst.1, fun e' he' => ?_⟩
              have : e'.born ∈ es.toList.map (·.born) := by rw [← eb]; exact List.mem_map_of_mem he'
              obtain ⟨e2, h2, h3⟩ := List.mem_map.1 this
              rw [← h3]; exact hst.2 e2 h2
            · have := hm.1; simpa using this
            · simp only [Array.toList_modify, List.getElem?_modify] at q1
              rw [List.getElem?_set] at q2
              by_cases hij : j' = i
              · subst hij
                simp only [if_true, hlt] at q2
                cases q2
                rw [k1] at q1
                simp at q1
                subst q1
                exact ⟨⟨us, hus, (agT_val ha us).symm⟩, h3.rv, hnk, keyC_nn hkz⟩
              · simp only [hij, if_false] at q1 q2
                have q1' : es.toList[i]? = some e' := by simpa using q1
                exact hm.2 i e' kc' v' q1' q2
            · rw [hrun0 _ g1]
              simp only [hes, Option.map_some, Option.getD_some, Sem.run_bind, k7, key_stays ha h1l k5 hkc hus k6, Result.andThen_ok, run_setM _ hblk]
        | none =>
          simp only [hq] at hk
          obtain ⟨q', g1, g2⟩ := asking_sound he ha hus l es.toList 0 _ hm hq
          cases q' with
          | some _ => exact g2.elim
          | none =>
            refine fin (es.push { key := valOf P kt us, val := a.eval z, born := clock }) (clock + 1) (l ++ [(cs, dz)]) ?_ ⟨by simp [hm.1], fun i e' kc' v' q1 q2 => ?_⟩ ?_ hk
            · refine ⟨?_, fun e' he' => ?_⟩
              · simp only [Array.toList_push, List.map_append, List.map_cons, List.map_nil]
                rw [List.nodup_append]
                refine ⟨hst.1, by simp, fun a ha b hb => ?_⟩
                obtain ⟨e2, h2, rfl⟩ := List.mem_map.1 ha
                have := hst.2 e2 h2
                simp at hb; subst hb; omega
              · simp only [Array.toList_push, List.mem_append, List.mem_singleton] at he'
                rcases he' with he' | rfl
                · have := hst.2 e' he'; omega
                · show clock < clock + 1; omega
            · simp only [Array.toList_push] at q1
              by_cases hi : i < l.length
              · rw [List.getElem?_append_left (by rw [hm.1]; exact hi)] at q1
                rw [List.getElem?_append_left hi] at q2
                exact hm.2 i e' kc' v' q1 q2
              · rw [List.getElem?_append_right (by rw [hm.1]; omega), hm.1] at q1
                rw [List.getElem?_append_right (by omega)] at q2
                cases hz : i - l.length with
                | zero =>
                  rw [hz] at q1 q2; cases q1; cases q2
                  exact ⟨⟨us, hus, (agT_val ha us).symm⟩, h3.rv, hnk, keyC_nn hkz⟩
                | succ m => rw [hz] at q1; simp at q1
            · rw [hrun0 _ g1]
              simp only [run_setM _ hblk]
      · cases hk
    · cases hk
  · cases hk
end
end Bz
