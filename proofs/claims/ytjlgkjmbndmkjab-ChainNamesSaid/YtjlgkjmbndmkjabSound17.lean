/- Calls: the operation. -/
import Derived.Test.YtjlgkjmbndmkjabSound16
set_option linter.all false
set_option linter.unusedVariables false
namespace Bz
open Go Go.RowKit

def RVL (w : World) (G : Nat → Prop) (ren : Nat → Option Nat) (vs : List Value) (ds : List DV) : Prop :=
  vs.length = ds.length ∧ ∀ (j : Nat) (v : Value) (d : DV), vs[j]? = some v → ds[j]? = some d → RV w G (fun _ => none) ren v d
theorem RVL.append {w : World} {G : Nat → Prop} {ren : Nat → Option Nat} {vs us : List Value} {ds es : List DV} (h : RVL w G ren vs ds) (k : RVL w G ren us es) : RVL w G ren (vs ++ us) (ds ++ es) := by
  refine ⟨by simp [h.1, k.1], fun j v d hj hd => ?_⟩
  by_cases hlt : j < vs.length
  · rw [List.getElem?_append_left hlt] at hj
    rw [List.getElem?_append_left (by rw [← h.1]; exact hlt)] at hd
    exact h.2 j v d hj hd
  · rw [List.getElem?_append_right (by omega)] at hj
    rw [List.getElem?_append_right (by rw [← h.1]; omega), ← h.1] at hd
    exact k.2 _ v d hj hd

/-- What a call of a function comes to. -/
def Does (P : Program) (g : FuncId) (vals : Array Value) (w : World) (T : Value → World → Prop) : Prop :=
  ((callFunc g vals).run P w = .ok (.enter g vals) w ∧ Calls P g vals w fun e w' => ∃ v, e = .returned v ∧ T v w') ∨
  ∃ v w', (callFunc g vals).run P w = .ok (.value v) w' ∧ T v w'

/-- What the functions are taken to do. -/
def Fine (P : Program) (ren : Nat → Option Nat) (R : Nat → List DV → Option DV) : Prop :=
  ∀ f g args r, R f args = some r → ren f = some g → ∀ (vals : List Value) (w : World) (A : Nat → Prop), RVL w (fun x => x < w.heap.size ∧ A x) ren vals args →
    Does P g vals.toArray w fun v w' => Below w.heap.size w w' ∧ Res w w' A ren v r

theorem none_names {d : DV} (h : d.all0 (fun _ => false) = true) (f : Nat → Prop) : NamesOk f d := (all0_ok h).imp fun n hn => by cases hn

section
variable {ren : Nat → Option Nat} {A : Nat → Prop} {b0 : Nat} {w0 : World} {N : Nat} {φ : Nat → Option Value} {s : St} {a : Act} {w : World}
variable {P : Program} {o : Oper} {nxt : Act → World → Prop} {Q : Exit → Act → World → Prop} {R : Nat → List DV → Option DV} {k : Eff → Option DV} {r : DV}

theorem vw0_sound (h : Rel ren A b0 w0 N φ s a w) {G2 : Nat → Prop} (hG : ∀ r, Gd A b0 s φ w r → G2 r) {v : Value} {d d' : DV} {m : List Nat} (h1 : Op1 ren A b0 φ s w v d)
    (hv : vw0 s d = some (d', m)) (hm : m ≠ [] → ∀ r, r < w.heap.size → G2 r) : RV w G2 (fun _ => none) ren v d' := by
  have same : ∀ f : Nat → Prop, True := fun _ => trivial
  cases d with
  | lsl n =>
    simp only [vw0] at hv
    split at hv
    · rename_i τ l hb
      cases hv
      obtain ⟨hd, hφ, hR, h3⟩ := h.sto n _ hb
      have e1 := h1.rv.lsl_inv
      rw [hφ] at e1; cases e1
      exact hR.slice hG fun r hr => hm (by simp) r (h3 r hr).2
    · cases hv
  | nsl τ =>
    simp only [vw0] at hv; cases hv
    obtain ⟨ad, rfl⟩ := h1.rv.nsl_inv
    exact .sl (fun _ => []) rfl (Nat.le_refl _) (by simp) (by simp) (by simp) (by simp)
  | fsl τ l =>
    simp only [vw0] at hv; cases hv
    cases h1.rv with
    | fsl h2 => exact h2.mono hG (fun _ _ => rfl) (.sl τ l)
  | imm cs =>
    simp only [vw0] at hv
    cases hc : cs.all (DV.all0 fun _ => false) with
    | false => simp [hc] at hv
    | true =>
      simp only [hc, cond_true, Option.some.injEq, Prod.mk.injEq] at hv
      obtain ⟨rfl, rfl⟩ := hv
      refine h1.rv.mono hG (fun _ _ => rfl) (.imm fun d hd => none_names ?_ _)
      exact List.all_eq_true.1 hc d hd
  | unk => cases hv
  | skp => cases hv
  | bool b => cases hv; exact h1.rv.mono hG (fun _ _ => rfl) (.bool b)
  | int k n => cases hv; exact h1.rv.mono hG (fun _ _ => rfl) (.int k n)
  | float b => cases hv; exact h1.rv.mono hG (fun _ _ => rfl) (.float b)
  | str b => cases hv; exact h1.rv.mono hG (fun _ _ => rfl) (.str b)
  | sl τ l => cases hv; exact h1.rv.mono hG (fun _ _ => rfl) (.sl τ l)
  | own τ l => cases hv
  | agg cs => cases hv
  | arr τ l => cases hv
  | tup cs => cases hv
  | loc n o => cases hv
  | lel n e i o => cases hv
  | fn f cs => cases hv

theorem vwl_sound {G2 : Nat → Prop} {f : DV → Option (DV × List Nat)} {Ok : Value → DV → Prop}
    (hf : ∀ v d d' m, Ok v d → f d = some (d', m) → (m ≠ [] → ∀ r, r < w.heap.size → G2 r) → RV w G2 (fun _ => none) ren v d') :
    ∀ {ds ds' : List DV} {vs : List Value} {m : List Nat}, vs.length = ds.length → (∀ (j : Nat) (v : Value) (d : DV), vs[j]? = some v → ds[j]? = some d → Ok v d) →
      vwl f ds = some (ds', m) → (m ≠ [] → ∀ r, r < w.heap.size → G2 r) → RVL w G2 ren vs ds' := by
  intro ds
  induction ds with
  | nil =>
    intro ds' vs m hl hh hv hm
    simp only [vwl, Option.some.injEq, Prod.mk.injEq] at hv
    obtain ⟨rfl, rfl⟩ := hv
    exact ⟨hl, fun j v d hj hd => by simp at hd⟩
  | cons d ds ih =>
    intro ds' vs m hl hh hv hm
    cases vs with
    | nil => simp at hl
    | cons v vs =>
      simp only [vwl] at hv
      split at hv
      · rename_i c' m1 e1
        split at hv
        · rename_i r' m2 e2
          simp only [Option.some.injEq, Prod.mk.injEq] at hv
          obtain ⟨rfl, rfl⟩ := hv
          have g1 := hf v d c' m1 (hh 0 v d rfl rfl) e1 (fun hne => hm (by simp [hne]))
          have g2 := ih (vs := vs) (by simpa using hl) (fun j v d hj hd => hh (j + 1) v d (by simpa using hj) (by simpa using hd)) e2 (fun hne => hm (by simp [hne]))
          refine ⟨by simp [g2.1], fun j v d hj hd => ?_⟩
          cases j with
          | zero => simp at hj hd; subst hj; subst hd; exact g1
          | succ j => simp at hj hd; exact g2.2 j v d hj hd
        · cases hv
      · cases hv

theorem vw1_sound (h : Rel ren A b0 w0 N φ s a w) {G2 : Nat → Prop} (hG : ∀ r, Gd A b0 s φ w r → G2 r) {v : Value} {d d' : DV} {m : List Nat} (h1 : Op1 ren A b0 φ s w v d)
    (hv : vw1 s d = some (d', m)) (hm : m ≠ [] → ∀ r, r < w.heap.size → G2 r) : RV w G2 (fun _ => none) ren v d' := by
  by_cases hl : ∃ n o, d = .loc n o
  · obtain ⟨n, o, rfl⟩ := hl
    simp only [vw1] at hv
    split at hv
    · rename_i cs hb
      split at hv
      · rename_i l m' e
        simp only [Option.some.injEq, Prod.mk.injEq] at hv
        obtain ⟨rfl, rfl⟩ := hv
        obtain ⟨hd, hφ, hR, h3⟩ := h.sto n _ hb
        obtain ⟨hd', r, b, e1, e2, e3⟩ := h1.rv.loc_inv
        rw [hφ] at e1; cases e1
        obtain ⟨r', vs, rfl, g1, g2, g3⟩ := hR
        simp only [hbase, Option.some.injEq, Prod.mk.injEq] at e2
        obtain ⟨rfl, rfl⟩ := e2
        have g4 := g1.drop o
        have g5 : RVL w G2 ren (vs.drop o) l := vwl_sound (Ok := fun v d => Op1 ren A b0 φ s w v d) (fun v d d' m h1 h2 h3 => vw0_sound h hG h1 h2 h3) g4.1
          (fun j v d hj hd => ⟨g4.2.2 j v d hj hd, h.nmb n cs hb d (List.mem_of_mem_drop (List.mem_of_getElem? hd))⟩) e (fun hne => hm (by simp))
        subst e3
        refine .imm (vs.drop o) g5.1 g4.2.1 g5.2 fun j v hj => ⟨r', 0 + o, rfl, hm (by simp) r' (h3 r' rfl).2, ?_⟩
        have := g2 (o + j) v (by simpa using hj)
        simpa [Nat.add_assoc] using this
      · cases hv
    · cases hv
  · refine vw0_sound h hG h1 (m := m) ?_ hm
    cases d <;> first | exact hv | exact absurd ⟨_, _, rfl⟩ hl

theorem vw_sound (h : Rel ren A b0 w0 N φ s a w) {G2 : Nat → Prop} (hG : ∀ r, Gd A b0 s φ w r → G2 r) {v : Value} {d d' : DV} {m : List Nat} (h1 : Op1 ren A b0 φ s w v d)
    (hv : vw s d = some (d', m)) (hm : m ≠ [] → ∀ r, r < w.heap.size → G2 r) : RV w G2 (fun _ => none) ren v d' := by
  have other : (∀ cs, d ≠ .agg cs) → (∀ τ l, d ≠ .arr τ l) → (∀ f cs, d ≠ .fn f cs) → RV w G2 (fun _ => none) ren v d' := by
    intro n1 n2 n3
    refine vw1_sound h hG h1 (m := m) ?_ hm
    cases d <;> first | exact hv | exact absurd rfl (n1 _) | exact absurd rfl (n2 _ _) | exact absurd rfl (n3 _ _)
  cases d with
  | agg cs =>
    simp only [vw] at hv
    split at hv
    · rename_i l m' e
      simp only [Option.some.injEq, Prod.mk.injEq] at hv
      obtain ⟨rfl, rfl⟩ := hv
      obtain ⟨arr, rfl, g⟩ := h1.rv.agg_inv
      have hn : ∀ d ∈ cs, NamesOk (Bnd s) d := by cases h1.nm with | agg hn => exact hn
      have g5 : RVL w G2 ren arr.toList l := vwl_sound (Ok := fun v d => Op1 ren A b0 φ s w v d) (fun v d d' m h1 h2 h3 => vw0_sound h hG h1 h2 h3) g.1
        (fun j v d hj hd => ⟨g.2.2 j v d hj hd, hn d (List.mem_of_getElem? hd)⟩) e hm
      exact .agg g5.1 g.2.1 g5.2
    · cases hv
  | arr τ l =>
    simp only [vw, Option.some.injEq, Prod.mk.injEq] at hv
    obtain ⟨rfl, rfl⟩ := hv
    exact h1.rv.mono hG (fun _ _ => rfl) (.arr τ l)
  | fn f cs =>
    simp only [vw] at hv
    split at hv
    · rename_i l m' e
      simp only [Option.some.injEq, Prod.mk.injEq] at hv
      obtain ⟨rfl, rfl⟩ := hv
      have hn : ∀ d ∈ cs, NamesOk (Bnd s) d := by cases h1.nm with | fn _ hn => exact hn
      have hrv := h1.rv
      cases hrv with
      | fn q0 q1 q2 =>
        have g5 := vwl_sound (w := w) (ren := ren) (G2 := G2) (Ok := fun v d => Op1 ren A b0 φ s w v d) (fun v d d' m h1 h2 h3 => vw1_sound h hG h1 h2 h3) q1
          (fun j v d hj hd => ⟨q2 j v d hj hd, hn d (List.mem_of_getElem? hd)⟩) e hm
        exact .fn q0 g5.1 g5.2
    · cases hv
  | _ => exact other (by simp) (by simp) (by simp)

theorem OpL.ok {vs : List Value} {ds : List DV} (h : OpL ren A b0 φ s w vs ds) : vs.length = ds.length ∧ ∀ (j : Nat) (v : Value) (d : DV), vs[j]? = some v → ds[j]? = some d → Op1 ren A b0 φ s w v d := by
  induction h with
  | nil => exact ⟨rfl, by simp⟩
  | cons h1 h2 ih =>
    refine ⟨by simp [ih.1], fun j v d hj hd => ?_⟩
    cases j with
    | zero => simp at hj hd; subst hj; subst hd; exact h1
    | succ j => simp at hj hd; exact ih.2 j v d hj hd

/-! ### Behind a call -/
def adOk (sh : Sh) : List Nat → Bool
  | [] => sh.pl
  | [_] => sh.ad
  | _ => false
theorem res_nil : ∀ (sh : Sh), sh.pl = true → ∀ x, sh.res x [] = (sh.enc x, []) := by
  intro sh
  induction sh with
  | lst o τ => intro h x; simp only [Sh.pl, Bool.not_eq_true'] at h; subst h; rfl
  | heap o => intro h x; simp only [Sh.pl, Bool.not_eq_true'] at h; subst h; rfl
  | p2 a b iha ihb =>
    intro h x; obtain ⟨x, y⟩ := x
    simp only [Sh.pl, Bool.and_eq_true] at h
    simp only [Sh.res, Sh.enc, iha h.1]
  | p3 a b c iha ihb ihc =>
    intro h x; obtain ⟨x, y, z⟩ := x
    simp only [Sh.pl, Bool.and_eq_true] at h
    simp only [Sh.res, Sh.enc, iha h.1]
  | _ => intro _ _; rfl
theorem scal_pl : ∀ (sh : Sh), sh.scal = true → sh.pl = true := by
  intro sh
  induction sh with
  | lst o τ => intro h; simp [Sh.scal] at h
  | heap o => intro h; simp [Sh.scal] at h
  | p2 a b iha ihb => intro h; simp only [Sh.scal, Sh.pl, Bool.and_eq_true] at h ⊢; exact ⟨iha h.1, ihb h.2⟩
  | p3 a b c iha ihb ihc => intro h; simp only [Sh.scal, Sh.pl, Bool.and_eq_true] at h ⊢; exact ⟨iha h.1, ihb h.2.1, ihc h.2.2⟩
  | _ => intro _; rfl
theorem ad1_scal {sh : Sh} (h : sh.ad1 = true) : sh.scal = false := by cases sh <;> first | rfl | simp [Sh.ad1] at h
theorem ad_scal {sh : Sh} (h : sh.ad = true) : sh.scal = false := by
  cases sh with
  | p2 a b => simp only [Sh.ad, Bool.and_eq_true] at h; simp [Sh.scal, ad1_scal h.1]
  | p3 a b c => simp only [Sh.ad, Bool.and_eq_true] at h; simp [Sh.scal, ad1_scal h.1]
  | _ => first | rfl | simp [Sh.ad, Sh.ad1] at h

/-- A name is bound but for one that is new. -/
theorem on_bnd {e : Eff} {nm : Nat} {b : Blk} (hbl : e.bl = [(nm, b)]) (hpg : e.pg = [] ∨ e.pg = [nm]) {m : Nat} (hm : m ≠ nm) (hb : Bnd (e.on s) m) : Bnd s m := by
  obtain ⟨v, bl, pg, rd⟩ := e
  simp only at hbl hpg
  subst hbl
  obtain ⟨c, hc⟩ := hb
  rcases hpg with rfl | rfl
  · refine ⟨c, ?_⟩
    have : blk ⟨s.env, (nm, b) :: s.sto⟩ m = some c := hc
    unfold blk at this ⊢
    simpa only [look_cons, if_neg (Ne.symm hm)] using this
  · have : blk ⟨(purge1 nm s).env, (nm, b) :: (purge1 nm s).sto⟩ m = some c := hc
    have h2 : blk (purge1 nm s) m = some c := by
      unfold blk at this ⊢
      simpa only [look_cons, if_neg (Ne.symm hm)] using this
    rw [purge1_blk] at h2
    cases h3 : blk s m with
    | none => simp [h3] at h2
    | some c' => exact ⟨c', h3⟩

theorem ret_sound (h : Rel ren A b0 w0 N φ s a w) {sh : Sh} {adopt : List Nat} (had : adOk sh adopt = true) {rd : List Nat} (hsc : scOk rd sh = true)
    {r0 : DV} {x : sh.T} (hdec : sh.dec r0 = some x) {v : Value} {w' : World} (hB : Below w.heap.size w w')
    (hRes : Res w w' (fun x => rd = [] → Gd A b0 s φ w x) ren v r0) {next : Value → World → Prop}
    {rd2 : List Nat} (hk : k { v := (sh.res x adopt).1, bl := (sh.res x adopt).2, pg := adopt.flatMap (anew s), rd := rd2 } = some r) (hx : Nx ren A b0 w0 N s a k r next) : next v w' := by
  obtain ⟨L, hnd, hL, hRO⟩ := hRes
  have ht : Turn w w' fun _ => False := .of_below hB _
  have hwn : ∀ x, Wn s φ x → x < w.heap.size := by
    rintro x ⟨n, b, hv, g1, g2, g3⟩
    obtain ⟨hv', e1, _, e3⟩ := h.sto n b g1
    rw [g2] at e1; cases e1
    exact (e3 x g3).2
  have hb0 := h.b0le
  -- without a name
  have plain : sh.pl = true → adopt = [] → next v w' := by
    intro hp ha
    subst ha
    rw [res_nil sh hp] at hk
    have h0 := h.turn0 ht
    refine hx v w' _ φ hk h0.1 ⟨?_, ?_⟩
    · cases rd with
      | nil =>
        refine dec_plain sh hp hRO hdec (fun x hx => ⟨hx.1, fun hw => (hx.2.2 (hwn x hw) rfl).2.1 hw, fun hlt => (hx.2.2 (by omega) rfl).2.2 hlt⟩) (fun x hx => ?_)
        have := hL x hx
        exact ⟨this.2, fun hw => by have := hwn x hw; omega, fun hlt => by omega⟩
      | cons n rd => exact scal_any sh hsc (dec_plain (G2 := fun _ => True) (φ2 := φ) sh hp hRO hdec (fun _ _ => trivial) (fun _ _ => trivial))
    · exact (dec_plain (G2 := fun _ => True) (φ2 := fun _ => none) sh hp hRO hdec (fun _ _ => trivial) (fun _ _ => trivial)).noNames _
  match adopt, had with
  | [], had => exact plain had rfl
  | [n], had =>
    have hrd : rd = [] := by
      cases rd with
      | nil => rfl
      | cons m rd => simp only [scOk] at hsc; rw [ad_scal had] at hsc; cases hsc
    subst hrd
    have hpg : ([n] : List Nat).flatMap (anew s) = anew s n := by simp
    rw [hpg] at hk
    generalize he : ({ v := (sh.res x [n]).1, bl := (sh.res x [n]).2, pg := anew s n, rd := rd2 } : Eff) = e at hk
    have had' : sh.ad = true := had
    obtain ⟨hv0, τ0, l0, M0, g10, g20, g30, g40, g50⟩ := (dec_ad had' hRO hdec n []).ex
    have hnew : n ∈ e.pg ∨ ¬ Bnd s n := by subst he; rcases anew_cases (s := s) n with ⟨e1, e2⟩ | ⟨e1, _⟩ <;> simp [e1]; exact e2
    have hp : e.pg = [] ∨ e.pg = [n] := by subst he; rcases anew_cases (s := s) n with ⟨e1, _⟩ | ⟨e1, _⟩ <;> simp [e1]
    have hbl : e.bl = [(n, .row τ0 l0)] := by subst he; exact g10
    have hGd : ∀ x, (x < w'.heap.size ∧ (w.heap.size ≤ x ∨ Gd A b0 s φ w x)) → ownr hv0 ≠ some x → Gd A b0 (e.on s) (fun m => if m = n then some hv0 else φ m) w' x := by
      rintro x ⟨h1, h2⟩ h3
      refine ⟨h1, ?_, fun hlt => ?_⟩
      · rintro ⟨m, b, hv, q1, q2, q3⟩
        by_cases hm : m = n
        · subst hm; simp only [if_true, Option.some.injEq] at q2; subst q2; exact h3 q3
        · simp only [hm, if_false] at q2
          obtain ⟨c, hc⟩ := on_bnd hbl hp hm ⟨b, q1⟩
          have hw : Wn s φ x := ⟨m, c, hv, hc, q2, q3⟩
          rcases h2 with h2 | h2
          · have := hwn x hw; omega
          · exact h2.2.1 hw
      · rcases h2 with h2 | h2
        · omega
        · exact h2.2.2 hlt
    have hG0 : ∀ x, (x < w'.heap.size ∧ x ∉ L ∧ (x < w.heap.size → [] = ([] : List Nat) → Gd A b0 s φ w x)) → Gd A b0 (e.on s) (fun m => if m = n then some hv0 else φ m) w' x := by
      rintro x ⟨h1, h2, h3⟩
      refine hGd x ⟨h1, ?_⟩ (fun e1 => h2 (by rw [g30]; simp [e1]))
      by_cases hlt : x < w.heap.size
      · exact .inr (h3 hlt rfl)
      · exact .inl (by omega)
    have hM0 : ∀ x ∈ M0, Gd A b0 (e.on s) (fun m => if m = n then some hv0 else φ m) w' x := by
      intro x hx
      have h1 := hL x (by rw [g30]; simp [hx])
      refine hGd x ⟨h1.2, .inl h1.1⟩ fun e1 => ?_
      rw [g30, List.nodup_append] at hnd
      exact hnd.2.2 x (by simp [e1]) x hx rfl
    have hbind := h.onBind (e := e) (nm := n) (b' := .row τ0 l0) (k := hv0) (w' := w') (by simp) (.inl ⟨hbl, hp⟩) trivial hnew
      ⟨ht.os, ht.tape, ht.output, ht.size, fun k hk _ => ht.block k hk id⟩
      (fun x hx => by have h1 := hL x (by rw [g30]; simp [hx]); exact ⟨h1.2, .inl h1.1⟩)
      (fun hG => by
        obtain ⟨ad, cap, e1, e2, e3⟩ := g20
        refine ⟨ad, cap, e1, e2, e3.imp id ?_⟩
        rintro ⟨r, b, q1, q2, q3⟩
        refine ⟨r, b, q1, q2, fun i x hi => ?_⟩
        obtain ⟨vs, q4, q5⟩ := q3 i x hi
        exact ⟨vs, q4.mono hG0 (fun _ _ => rfl) (fun d hd => NamesOk.enc _ _ _ d hd), q5⟩)
      (fun cs hcs d hd => by cases hcs)
    subst he
    exact hx v w' _ _ hk hbind.1 ⟨g40 _ _ hG0 hM0 (by simp), g50 _ hbind.2.2.2⟩
  | _ :: _ :: _, had => cases had

/-! ### The operation -/
theorem does_wp {g : FuncId} {vals : Array Value} {T : Value → World → Prop} (hd : Does P g vals w T) (hr : (execOp a.eval o).run P w = (callFunc g vals).run P w)
    (hn : ∀ v w', T v w' → nxt (a.put o.dst v) w') : o.wp P a w nxt Q := by
  unfold Oper.wp
  rw [hr]
  rcases hd with ⟨h1, h2⟩ | ⟨v, w', h1, h2⟩
  · rw [h1]
    refine h2.mono ?_
    rintro e w' ⟨v, rfl, hT⟩
    exact hn v w' hT
  · rw [h1]; exact hn v w' h2

def fnOk (ren : Nat → Option Nat) (f g : Nat) : Bool :=
  match ren f with
  | some g' => Nat.beq g g'
  | none => false
theorem fnOk_eq {f g : Nat} (h : fnOk ren f g = true) : ren f = some g := by
  unfold fnOk at h
  split at h
  · rename_i g' e; obtain rfl := Nat.eq_of_beq_eq_true h; exact e
  · cases h
def callOk (ren : Nat → Option Nat) (c : Call) (f : Nat) (args : List Opd) (sh : Sh) (adopt : List Nat) : Bool :=
  adOk sh adopt && (match c.callee with
    | .value (.func g) => fnOk ren f g && opdsOk ren c.args.toList args
    | _ => false)
theorem s_call (hF : Fine P ren R) {c : Call} {f : Nat} {args : List Opd} {sh : Sh} {adopt : List Nat} (ho : o.op = .call c) (hc : callOk ren c f args sh adopt = true)
    (h : Rel ren A b0 w0 N φ s a w) (hk : eff R s (.call f args sh adopt) k = some r) (hx : Nx ren A b0 w0 N s a k r fun v w' => nxt (a.put o.dst v) w') : o.wp P a w nxt Q := by
  unfold callOk at hc
  rw [Bool.and_eq_true] at hc
  obtain ⟨hc0, hc⟩ := hc
  split at hc
  · rename_i g hcal
    rw [Bool.and_eq_true] at hc
    have hren := fnOk_eq hc.1
    simp only [eff] at hk
    obtain ⟨ds, hk, hL⟩ := opds_sound h hc.2 hk
    split at hk
    · rename_i vs rd hvw
      cases hs : scOk rd sh with
      | false => rw [hs] at hk; cases hk
      | true =>
        rw [hs, cond_true] at hk
        unfold callK at hk
        split at hk
        · cases hk
        rename_i r0 hr0
        split at hk
        · cases hk
        rename_i x hdec
        have hok := hL.ok
        have hargs : RVL w (fun x => x < w.heap.size ∧ (rd = [] → Gd A b0 s φ w x)) ren (c.args.toList.map a.eval) vs :=
          vwl_sound (Ok := fun v d => Op1 ren A b0 φ s w v d) (fun v d d' m h1 h2 h3 => vw_sound h (fun r hr => ⟨hr.1, fun _ => hr⟩) h1 h2 h3) hok.1 hok.2 hvw (fun hne r hr => ⟨hr, fun e => absurd e hne⟩)
        refine does_wp (hF f g vs r0 hr0 hren _ w _ hargs) ?_ (fun v w' hT => ret_sound h hc0 hs hdec hT.1 hT.2 hk hx)
        have e1 : (c.args.toList.map a.eval).toArray = c.args.map a.eval := by apply Array.ext'; simp
        simp [execOp, ho, resolve, hcal, Deferred.ofValue, Act.eval, invoke, e1]
    · cases hk
  · cases hc

def callvOk (ren : Nat → Option Nat) (c : Call) (x : Opd) (args : List Opd) (sh : Sh) : Bool :=
  sh.pl && (match c.callee with
    | .value y => opdOk ren y x && opdsOk ren c.args.toList args
    | _ => false)
theorem s_callv (hF : Fine P ren R) {c : Call} {x : Opd} {args : List Opd} {sh : Sh} (ho : o.op = .call c) (hc : callvOk ren c x args sh = true)
    (h : Rel ren A b0 w0 N φ s a w) (hk : eff R s (.callv x args sh) k = some r) (hx : Nx ren A b0 w0 N s a k r fun v w' => nxt (a.put o.dst v) w') : o.wp P a w nxt Q := by
  unfold callvOk at hc
  rw [Bool.and_eq_true] at hc
  obtain ⟨hc0, hc⟩ := hc
  split at hc
  · rename_i y hcal
    rw [Bool.and_eq_true] at hc
    simp only [eff] at hk
    replace ⟨dx, hk, h1⟩ := opd_sound h hc.1 hk
    replace ⟨ds, hk, hL⟩ := opds_sound h hc.2 hk
    split at hk
    · rename_i f caps
      split at hk
      · rename_i vs rd hvw
        cases hs : scOk rd sh with
        | false => rw [hs] at hk; cases hk
        | true =>
          rw [hs, cond_true] at hk
          unfold callK at hk
          split at hk
          · cases hk
          rename_i r0 hr0
          split at hk
          · cases hk
          rename_i z hdec
          have hok := hL.ok
          have hn : ∀ d ∈ caps, NamesOk (Bnd s) d := by cases h1.nm with | fn _ hn => exact hn
          obtain ⟨g, arr, ev, hren, q1, q2⟩ : ∃ g arr, a.eval y = .func (.func g) #[] arr ∧ ren f = some g ∧ arr.toList.length = caps.length ∧
              ∀ (j : Nat) (v : Value) (d : DV), arr.toList[j]? = some v → caps[j]? = some d → RV w (Gd A b0 s φ w) φ ren v d := by
            have hrv := h1.rv
            generalize a.eval y = u at hrv
            cases hrv with
            | fn q0 q1 q2 => exact ⟨_, _, rfl, q0, q1, q2⟩
          have hargs : RVL w (fun x => x < w.heap.size ∧ (rd = [] → Gd A b0 s φ w x)) ren (c.args.toList.map a.eval ++ arr.toList) vs := by
            refine vwl_sound (Ok := fun v d => Op1 ren A b0 φ s w v d) (fun v d d' m h1 h2 h3 => vw_sound h (fun r hr => ⟨hr.1, fun _ => hr⟩) h1 h2 h3) (by simp only [List.length_append, q1, hok.1]) ?_ hvw (fun hne r hr => ⟨hr, fun e => absurd e hne⟩)
            intro j v d hj hd
            by_cases hlt : j < (c.args.toList.map a.eval).length
            · rw [List.getElem?_append_left hlt] at hj
              rw [List.getElem?_append_left (by rw [← hok.1]; exact hlt)] at hd
              exact hok.2 j v d hj hd
            · rw [List.getElem?_append_right (by omega)] at hj
              rw [List.getElem?_append_right (by rw [← hok.1]; omega), ← hok.1] at hd
              exact ⟨q2 _ v d hj hd, hn d (List.mem_of_getElem? hd)⟩
          have hk' : k { v := (sh.res z []).1, bl := (sh.res z []).2, pg := ([] : List Nat).flatMap (anew s), rd } = some r := by
            have hk2 : k { v := (sh.res z []).1, rd } = some r := hk
            rw [res_nil sh hc0] at hk2 ⊢; exact hk2
          refine does_wp (hF f g vs r0 hr0 hren _ w _ hargs) ?_ (fun v w' hT => ret_sound h (adopt := []) hc0 hs hdec hT.1 hT.2 hk' hx)
          have e1 : (c.args.toList.map a.eval ++ arr.toList).toArray = c.args.map a.eval ++ arr := by apply Array.ext'; simp
          rw [e1]
          simp [execOp, ho, resolve, hcal, Deferred.ofValue, invoke, ev]
      · cases hk
    · cases hk
  · cases hc
end
end Bz
