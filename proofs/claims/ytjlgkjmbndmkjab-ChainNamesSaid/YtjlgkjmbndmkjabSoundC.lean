/- slices.Clone of properties: nil or not, the same in plain data. -/
import Derived.Test.YtjlgkjmbndmkjabPrim1
import Derived.Test.YtjlgkjmbndmkjabDevP
set_option linter.all false
set_option linter.unusedVariables false
namespace Bz
open Go Go.RowKit
section
variable {P : Program} {ren : Nat → Option Nat} {g : Nat} {fn : Func} {c : Code} {N : Nat}
theorem start_rel {args : List DV} {fn : Func} (hle : args.length ≤ fn.ntmps) {vals : List Value} {w : World} {A : Nat → Prop} (hv : RVL w (fun x => x < w.heap.size ∧ A x) ren vals args) :
    Rel ren A w.heap.size w fn.ntmps (fun _ => none) ⟨numbered 0 args, []⟩ { tmps := vals.toArray ++ Array.replicate (fn.ntmps - vals.toArray.size) undef, defers := [] } w := by
  have hvl : vals.length = args.length := hv.1
  have hget : ∀ t v, vals[t]? = some v → (vals.toArray ++ Array.replicate (fn.ntmps - vals.toArray.size) undef).getD t undef = v := by
    intro t v ht
    have hlt := (List.getElem?_eq_some_iff.1 ht).1
    rw [Array.getD_eq_getD_getElem?, Array.getElem?_append_left (by simpa using hlt)]
    simp [ht]
  have nob : ∀ n b, blk ⟨numbered 0 args, []⟩ n = some b → False := by
    intro n b hb
    simp [blk, look] at hb
  refine ⟨Below.refl _ _, Nat.le_refl _, rfl, by simp; omega, ?_, ?_, fun n b hb => (nob n b hb).elim, fun n cs hb => (nob n _ hb).elim, fun n m b c _ _ _ hb => (nob n b hb).elim⟩
  · intro t d hd
    rw [look_numbered] at hd
    simp only [Nat.zero_le, if_true, Nat.sub_zero] at hd
    have hlt := (List.getElem?_eq_some_iff.1 hd).1
    have hvt : vals[t]? = some (vals[t]'(by rw [hv.1]; exact hlt)) := List.getElem?_eq_getElem _
    rw [hget t _ hvt]
    exact (hv.2 t _ d hvt hd).lift fun x hx => ⟨hx.1, fun ⟨n, b, _, hb, _⟩ => nob n b hb, fun _ => hx.2⟩
  · intro t d hd
    rw [look_numbered] at hd
    simp only [Nat.zero_le, if_true, Nat.sub_zero] at hd
    have hlt := (List.getElem?_eq_some_iff.1 hd).1
    have hvt : vals[t]? = some (vals[t]'(by rw [hv.1]; exact hlt)) := List.getElem?_eq_getElem _
    exact (hv.2 t _ d hvt hd).noNames _
def pNilEq (P : Program) (x : Nat) : Go.Op → Bool
  | .binOp .eql t (.tmp y) (.const (.slice none 0 0)) _ => Nat.beq y x && (match P.underlying t with | some (.slice _) => true | _ => false)
  | _ => false
theorem pNilEq_get {x : Nat} {o : Go.Op} (h : pNilEq P x o = true) : ∃ t el t', o = .binOp .eql t (.tmp x) (.const (.slice none 0 0)) t' ∧ P.underlying t = some (.slice el) := by
  unfold pNilEq at h
  split at h
  · simp only [Bool.and_eq_true] at h
    rw [Nat.eq_of_beq_eq_true h.1]
    have := h.2
    split at this
    · exact ⟨_, _, _, rfl, ‹_›⟩
    · cases this
  · cases h
theorem run_nilEq {t el : TypeId} (hu : P.underlying t = some (.slice el)) (ad : Option Addr) (len cap : Nat) (w : World) : (Go.binOp .eql t (.slice ad len cap) (.slice none 0 0)).run P w = .ok (.bool ad.isNone) w := by
  have e : (Op.equal t (.slice ad len cap) (.slice none 0 0)).run P w = .ok ad.isNone w := by
    show (Op.equalIn (9999 + 1) t (.slice ad len cap) (.slice none 0 0)).run P w = _
    unfold Op.equalIn
    cases ad <;> simp [run_und hu]
  have e2 : Go.binOp .eql t (.slice ad len cap) (.slice none 0 0) = (do pure (.bool (← Op.equal t (.slice ad len cap) (.slice none 0 0)))) := rfl
  rw [e2]
  simp [e]
def pNil : Go.Op → Bool
  | .assign (.const (.slice none 0 0)) => true
  | _ => false
theorem pNil_get {o : Go.Op} (h : pNil o = true) : o = .assign (.const (.slice none 0 0)) := by
  unfold pNil at h
  split at h
  · rfl
  · cases h
def clCond : DC := .cond (.t 4) (.seq (.ops [⟨some 2, .mv (.c (.nsl .prp)), none⟩]) .ret) .skip
def clRest : DC := .seq (.ops [⟨some 5, .bslice (some 3005) .prp [] [], none⟩, ⟨some 6, .mv (.t 0), none⟩, ⟨some 7, .append 3005 .prp (.t 5) (.t 6), none⟩, ⟨some 2, .mv (.t 7), none⟩]) .ret
def cloneOk (P : Program) (ren : Nat → Option Nat) (fn : Func) (c : Code) : Bool :=
  match c with
  | .seq (.region _ r1 false) (.seq (.seq (.region _ r2 false) cnd) rest) =>
    (match r1.toList, r2.toList with
    | [z], [m, q] => chk1 z (some 2) pNil && (chk1 m (some 3) (pMove 0) && chk1 q (some 4) (pNilEq P 3))
    | _, _ => false) && (chkC P ren fn.ntmps cnd clCond && (chkC P ren fn.ntmps rest clRest && (ressOk P fn.results.toList [.tmp 2] && Nat.ble 5 fn.ntmps)))
  | _ => false
def clSt (b : Bool) (l : List Prp) : St := ⟨[(4, .bool b), (3, .sl .prp l), (2, .nsl .prp), (0, .sl .prp l)], []⟩
def noR : Nat → List DV → Option DV := fun _ _ => none
theorem cl_run (b : Bool) (l : List Prp) (hb : b = true → l = []) (hr : room .prp l.length = true) : runC noR 5 clCond (clSt b l) (kSeq (runC noR 5 clRest) (kFin [.tmp 2])) = some (.own .prp l) := by
  cases b with
  | true => rw [hb rfl]; rfl
  | false =>
    have e : runC noR 5 clCond (clSt false l) (kSeq (runC noR 5 clRest) (kFin [.tmp 2])) = gd (room .prp (([] : List Prp).length + l.length)) (fun _ => some (.own .prp ([] ++ l))) := rfl
    rw [e, List.length_nil, Nat.zero_add, List.nil_append, hr]; rfl
theorem clone_ok (hm : P.follows .mixedOrders = true) (hg : P.funcs[g]? = some fn) (hb : fn.body = some c) (hname : (fn.name == "runtime.NumGoroutine") = false) (hc : cloneOk P ren fn c = true) : PrimOk P ren g Bz.P.clone := by
  intro args r hp vals w A hv
  unfold Bz.P.clone at hp
  split at hp
  · rename_i l
    cases hr : room .prp l.length with
    | false => rw [hr] at hp; cases hp
    | true =>
    rw [hr, cond_true] at hp
    cases hp
    unfold cloneOk at hc
    split at hc
    · rename_i i1 r1 i2 r2 cnd rest
      simp only [Bool.and_eq_true] at hc
      obtain ⟨hc1, hc3, hc4, hc5, hc6⟩ := hc
      split at hc1
      · rename_i z m q hr1 hr2
        have q1 := arr_eq hr1
        have q2 := arr_eq hr2
        subst q1; subst q2
        simp only [Bool.and_eq_true] at hc1
        obtain ⟨gz, dz, oz⟩ := chk1_get hc1.1
        obtain ⟨gm, dm, om⟩ := chk1_get hc1.2.1
        obtain ⟨gq, dq, oq⟩ := chk1_get hc1.2.2
        replace oz := pNil_get oz
        replace om := pMove_get om
        obtain ⟨t, el, t', oq, hu⟩ := pNilEq_get oq
        have hN : 5 ≤ fn.ntmps := Nat.le_of_ble_eq_true hc6
        have hF : Fine P ren noR := fun _ _ _ _ h => by cases h
        have hname' : fn.name ≠ "runtime.NumGoroutine" := by simpa using hname
        refine .inl ⟨by simp [callFunc, hg, hname', hb], ?_⟩
        refine calls_of_wp hg hb ?_
        have hrel := start_rel (fn := fn) (args := [.sl .prp l]) (by simp; omega) hv
        obtain ⟨v0, rfl, hv0⟩ := hv.one
        obtain ⟨ad, cap, vs, e0, hcap, hvs, hmem⟩ := hv0.sl_inv
        subst e0
        have hnil : ad.isNone = true → l = [] := by
          intro hn
          cases l with
          | nil => rfl
          | cons x l =>
            have hpos : 0 < (vs 0).length := by rw [(hvs 0 x rfl).1, enc_len]; exact esz_pos _
            obtain ⟨b, f, rfl⟩ := (hmem 0 x rfl).some hpos
            cases hn
        have ev0 : (([Value.slice ad l.length cap].toArray ++ Array.replicate (fn.ntmps - [Value.slice ad l.length cap].toArray.size) undef) : Array Value).getD 0 undef = .slice ad l.length cap := by
          rw [Array.getD_eq_getD_getElem?, Array.getElem?_append_left (by simp)]; rfl
        have hfin : ∀ (e : Ex) φ' s' a' w', kFin [.tmp 2] e s' = some (.own .prp l) → Rel ren A w.heap.size w fn.ntmps φ' s' a' w' →
            bodyPost P fn (fun e w' => ∃ v, e = .returned v ∧ Below w.heap.size w w' ∧ Res w w' A ren v (.own .prp l)) (exOf e) a' w' := by
          intro e φ' s' a' w' hk' h'
          have fin : finish [.tmp 2] s' = some (.own .prp l) → a'.defers = [] ∧ ∃ v, (results fn a'.tmps).run P w' = .ok v w' ∧ ∃ v', Ending.returned v = .returned v' ∧ Below w.heap.size w w' ∧ Res w w' A ren v' (.own .prp l) := by
            intro hf
            obtain ⟨v, q1, q2⟩ := finish_sound h' hc5 hf
            exact ⟨h'.dn, v, q1, v, rfl, h'.below, q2⟩
          cases e with
          | nrm => exact fin hk'
          | ex i => cases hk'
          | ret => exact fin hk'
        generalize ha0 : ({ tmps := [Value.slice ad l.length cap].toArray ++ Array.replicate (fn.ntmps - [Value.slice ad l.length cap].toArray.size) undef, defers := [] } : Act) = a0 at hrel
        have ev0 : a0.tmps.getD 0 undef = .slice ad l.length cap := by rw [← ha0]; exact ev0
        refine wp_seq (wp_region ?_)
        show wpOps P #[z] _ [0] a0 w
        refine ops_step (o := z) (v := .slice none 0 0) (w' := w) rfl gz (by simp only [execOp, oz]; rfl) ?_
        rw [dz]
        have h1 := hrel.put (dst := some 2) (v := .slice none 0 0) (d := .nsl .prp) (by intro t ht; cases ht; omega) (.nsl _ _) (.nsl _)
        have ev1 : (a0.put (some 2) (.slice none 0 0)).tmps.getD 0 undef = .slice ad l.length cap := by rw [get_put, if_neg (by simp)]; exact ev0
        generalize a0.put (some 2) (.slice none 0 0) = a1 at h1 ev1
        refine wp_seq (wp_seq (wp_region ?_))
        show wpOps P #[m, q] _ [0, 1] a1 w
        refine ops_step (o := m) (v := .slice ad l.length cap) (w' := w) rfl gm (by rcases om with o3 | o3 <;> simp only [execOp, o3, show a1.eval (.tmp 0) = a1.tmps.getD 0 undef from rfl, ev1] <;> rfl) ?_
        rw [dm]
        have hv0' := h1.env 0 (.sl .prp l) rfl
        rw [ev1] at hv0'
        have h2 := h1.put (dst := some 3) (v := .slice ad l.length cap) (d := .sl .prp l) (by intro t ht; cases ht; omega) hv0' (.sl _ _)
        have ev3 : (a1.put (some 3) (.slice ad l.length cap)).tmps.getD 3 undef = .slice ad l.length cap := by rw [get_put, if_pos ⟨rfl, by rw [h1.sz]; omega⟩]
        generalize a1.put (some 3) (.slice ad l.length cap) = a2 at h2 ev3
        have hrun := run_nilEq (P := P) hu ad l.length cap w
        refine ops_step (o := q) (v := .bool ad.isNone) (w' := w) rfl gq (by
          simp only [execOp, oq, show a2.eval (.tmp 3) = a2.tmps.getD 3 undef from rfl, show a2.eval (.const (.slice none 0 0)) = .slice none 0 0 from rfl, ev3, eqGuard, hrun, Sem.run_bind, Result.andThen_ok, Sem.run_pure]
          simp [hrun]) ?_
        rw [dq]
        have h3 := h2.put (dst := some 4) (v := .bool ad.isNone) (d := .bool ad.isNone) (by intro t ht; cases ht; omega) (.bool _) (.bool _)
        generalize a2.put (some 4) (.bool ad.isNone) = a3 at h3
        refine runC_sound hF hm clCond cnd hc3 (s := clSt ad.isNone l) h3 (cl_run ad.isNone l hnil hr) fun e φ' s' a' w' hk' h' => ?_
        cases e with
        | nrm => exact runC_sound hF hm clRest rest hc4 h' hk' hfin
        | ex i => exact hfin (.ex i) φ' s' a' w' hk' h'
        | ret => exact hfin .ret φ' s' a' w' hk' h'
      · cases hc1
    · cases hc
  · cases hp
end
end Bz
