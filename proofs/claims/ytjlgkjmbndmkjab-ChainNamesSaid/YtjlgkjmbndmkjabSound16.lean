/- Calls: what goes in, what comes back. -/
import Derived.Test.YtjlgkjmbndmkjabSound15
set_option linter.all false
set_option linter.unusedVariables false
namespace Bz
open Go Go.RowKit

section
variable {w : World} {G G2 : Nat → Prop} {φ φ2 : Nat → Option Value} {ren : Nat → Option Nat}
/-- Where no name has a value, no name is met. -/
theorem RV.noNames {v : Value} {d : DV} (h : RV w G (fun _ => none) ren v d) (f : Nat → Prop) : NamesOk f d := by
  have lst : ∀ {vs : List Value} {cs : List DV}, vs.length = cs.length → (∀ (j : Nat) (v : Value) (d : DV), vs[j]? = some v → cs[j]? = some d → NamesOk f d) → ∀ d ∈ cs, NamesOk f d := by
    intro vs cs hl hh d hd
    obtain ⟨j, hj⟩ := List.getElem?_of_mem hd
    have hlt := (List.getElem?_eq_some_iff.1 hj).1
    exact hh j vs[j] d (List.getElem?_eq_getElem (by omega)) hj
  generalize hφ : (fun _ : Nat => (none : Option Value)) = ψ at h
  induction h with
  | unk => exact .unk
  | skp => exact .skp
  | bool => exact .bool _
  | int => exact .int _ _
  | float => exact .float _
  | str => exact .str _
  | sl => exact .sl _ _
  | nsl => exact .nsl _
  | fsl => exact .fsl _ _
  | agg h1 h2 h3 ih => exact .agg (lst h1 fun j v d hj hd => ih j v d hj hd)
  | arr => exact .arr _ _
  | tup h1 h3 ih => exact .tup (lst h1 fun j v d hj hd => ih j v d hj hd)
  | imm vs h1 h2 h3 h4 ih => exact .imm (lst h1 fun j v d hj hd => ih j v d hj hd)
  | loc h1 => subst hφ; cases h1
  | lel h1 => subst hφ; cases h1
  | lsl h1 => subst hφ; cases h1
  | fn h0 h1 h3 ih => exact .fn _ (lst h1 fun j v d hj hd => ih j v d hj hd)
theorem RV.lift {v : Value} {d : DV} (h : RV w G (fun _ => none) ren v d) (hG : ∀ r, G r → G2 r) : RV w G2 φ2 ren v d :=
  h.mono hG (fun _ _ => rfl) (h.noNames _)

/-- A row, read as a slice. -/
theorem RB.slice {v : Value} {τ : Ty} {l : List (El τ)} (h : RB w G φ ren v (.row τ l)) (hG : ∀ r, G r → G2 r) (ho : ∀ r, ownr v = some r → G2 r) : RV w G2 φ2 ren v (.sl τ l) := by
  obtain ⟨ad, cap, ev, hcap, hor⟩ := row_cap h
  subst ev
  rcases hor with ⟨_, rfl⟩ | ⟨r, b, hc0, rfl, hown, g3, g4⟩
  · exact .sl (fun _ => []) rfl hcap (by simp) (by simp) (by simp) (by simp)
  · have key : ∀ i, ∃ us : List Value, ∀ x, l[i]? = some x → RVs w G φ ren us (enc τ x) ∧ Has w r (b + i * τ.esz) us := by
      intro i
      cases hi : l[i]? with
      | none => exact ⟨[], fun x hx => by cases hx⟩
      | some x => obtain ⟨us, g1, g2⟩ := g4 i x hi; exact ⟨us, fun y hy => by cases hy; exact ⟨g1, g2⟩⟩
    let vals : Nat → List Value := fun i => (key i).choose
    have hvals : ∀ i x, l[i]? = some x → RVs w G φ ren (vals i) (enc τ x) ∧ Has w r (b + i * τ.esz) (vals i) := fun i => (key i).choose_spec
    have hm : ∀ i x, l[i]? = some x → RVs w G2 φ2 ren (vals i) (enc τ x) := fun i x hi => (hvals i x hi).1.mono hG (fun _ _ => rfl) (fun d hd => NamesOk.enc _ τ x d hd)
    refine .sl vals rfl hcap (fun i x hi => (hm i x hi).1) (fun i x hi => (hm i x hi).2.1) (fun i x hi => (hm i x hi).2.2) (fun i x hi j v hj => ?_)
    exact ⟨r, b, rfl, ho r hown, (hvals i x hi).2 j v hj⟩
end

/-! ### What comes back -/
section
variable (w : World) (G : Nat → Prop) (ren : Nat → Option Nat)
inductive RO0 : Value → DV → List Nat → Prop
  | pure {v : Value} {d : DV} : RV w G (fun _ => none) ren v d → RO0 v d []
  | own {v : Value} {τ : Ty} {l : List (El τ)} : RB w G (fun _ => none) ren v (.row τ l) → RO0 v (.own τ l) (ownr v).toList
end
inductive ROL (R : Value → DV → List Nat → Prop) : List Value → List DV → List Nat → Prop
  | nil : ROL R [] [] []
  | cons {v : Value} {d : DV} {L : List Nat} {vs : List Value} {ds : List DV} {M : List Nat} : R v d L → ROL R vs ds M → ROL R (v :: vs) (d :: ds) (L ++ M)
section
variable (w : World) (G : Nat → Prop) (ren : Nat → Option Nat)
inductive RO1 : Value → DV → List Nat → Prop
  | of {v : Value} {d : DV} {L : List Nat} : RO0 w G ren v d L → RO1 v d L
  | agg {arr : Array Value} {cs : List DV} {L : List Nat} : ROL (RO0 w G ren) arr.toList cs L → (∀ v ∈ arr.toList, v.oneCell' = true) → RO1 (.agg arr) (.agg cs) L
inductive RO2 : Value → DV → List Nat → Prop
  | of {v : Value} {d : DV} {L : List Nat} : RO1 w G ren v d L → RO2 v d L
  | tup {arr : Array Value} {cs : List DV} {L : List Nat} : ROL (RO1 w G ren) arr.toList cs L → RO2 (.tuple arr) (.tup cs) L
end
def Res (w0 w : World) (A : Nat → Prop) (ren : Nat → Option Nat) (v : Value) (r : DV) : Prop :=
  ∃ L : List Nat, L.Nodup ∧ (∀ x ∈ L, w0.heap.size ≤ x ∧ x < w.heap.size) ∧ RO2 w (fun x => x < w.heap.size ∧ x ∉ L ∧ (x < w0.heap.size → A x)) ren v r L

def Sh.pl : Sh → Bool
  | .lst o _ | .heap o => !o
  | .p2 a b => a.pl && b.pl
  | .p3 a b c => a.pl && (b.pl && c.pl)
  | _ => true
def Sh.plain : Sh → Bool
  | .p2 .. | .p3 .. => false
  | _ => true
def Sh.ad1 : Sh → Bool
  | .lst o _ | .heap o => o
  | _ => false
/-- a shape whose first part is taken over -/
def Sh.ad : Sh → Bool
  | .p2 a b => a.ad1 && b.pl
  | .p3 a b c => a.ad1 && (b.pl && c.pl)
  | a => a.ad1
def noOwn : DV → Bool
  | .own .. => false
  | _ => true

section
variable {w : World} {G G2 : Nat → Prop} {φ φ2 : Nat → Option Value} {ren : Nat → Option Nat}
theorem RO0.plainC {v : Value} {c c' : DV} {L : List Nat} (h : RO0 w G ren v c L) (hc : cle c c') (hn : noOwn c' = true) (hG : ∀ r, G r → G2 r) (hL : ∀ r ∈ L, G2 r) : RV w G2 φ2 ren v c' := by
  cases h with
  | pure h => exact (RV.lift h hG).cle hc
  | own h =>
    have : RV w G2 φ2 ren v (.sl _ _) := h.slice hG (fun r hr => hL r (by simp [hr]))
    rcases hc with rfl | ⟨τ, e, _⟩ | ⟨τ, l, e, rfl⟩
    · simp [noOwn] at hn
    · cases e
    · cases e; exact this
theorem ROL.cells {vs : List Value} {cs ds : List DV} {L : List Nat} (h : ROL (RO0 w G ren) vs cs L) (h1 : ∀ v ∈ vs, v.oneCell' = true) (hc : Cle cs ds) (hn : ∀ d ∈ ds, noOwn d = true) (hG : ∀ r, G r → G2 r) (hL : ∀ r ∈ L, G2 r) :
    RVs w G2 φ2 ren vs ds := by
  induction h generalizing ds with
  | nil => cases hc; exact .nil
  | cons g1 g2 ih =>
    cases hc with
    | cons k1 k2 =>
      exact .cons (h1 _ (by simp)) (g1.plainC k1 (hn _ (by simp)) hG (fun r hr => hL r (by simp [hr]))) (ih (fun v hv => h1 v (by simp [hv])) k2 (fun d hd => hn d (by simp [hd])) (fun r hr => hL r (by simp [hr])))
theorem noOwn_enc (τ : Ty) (x : El τ) : ∀ d ∈ enc τ x, noOwn d = true := by
  cases τ <;> simp [enc, Prp.enc, Obj.enc, Seen.enc, Out.enc, Dsc.enc, noOwn]
theorem names_flat {f : Nat → Prop} {v : Value} {d : DV} (h : RV w G2 (fun _ => none) ren v d) : NamesOk f d := h.noNames f
/-- A struct that comes back. -/
theorem RO2.aggC {v : Value} {l ds : List DV} {L : List Nat} (h : RO2 w G ren v (.agg l) L) (hc : Cle l ds) (hn : ∀ d ∈ ds, noOwn d = true) (hG : ∀ r, G r → G2 r) (hL : ∀ r ∈ L, G2 r) : RV w G2 φ2 ren v (.agg ds) := by
  have fin : ∀ {arr : Array Value}, RVs w G2 φ2 ren arr.toList ds → RV w G2 φ2 ren (.agg arr) (.agg ds) := fun h => .agg h.1 h.2.1 h.2.2
  cases h with
  | of h =>
    cases h with
    | of h =>
      cases h with
      | pure h =>
        obtain ⟨arr, rfl, hv⟩ := (RV.lift (φ2 := φ2) h hG).agg_inv
        exact fin (hv.cle hc)
    | agg h h1 => exact fin (h.cells h1 hc hn hG hL)
theorem RO2.pureC {v : Value} {d : DV} {L : List Nat} (h : RO2 w G ren v d L) (hd : (∀ τ l, d ≠ .own τ l) ∧ (∀ l, d ≠ .agg l) ∧ ∀ l, d ≠ .tup l) (hG : ∀ r, G r → G2 r) : RV w G2 φ2 ren v d := by
  cases h with
  | of h =>
    cases h with
    | of h =>
      cases h with
      | pure h => exact RV.lift h hG
      | own h => exact absurd rfl (hd.1 _ _)
    | agg h => exact absurd rfl (hd.2.1 _)
  | tup h => exact absurd rfl (hd.2.2 _)
theorem RO2.lstC {v : Value} {d : DV} {τ : Ty} {l : List (El τ)} {o : Bool} {L : List Nat} (h : RO2 w G ren v d L) (hd : rdl o τ d = some l) (hG : ∀ r, G r → G2 r) (hL : ∀ r ∈ L, G2 r) : RV w G2 φ2 ren v (.sl τ l) := by
  unfold rdl at hd
  split at hd
  · rename_i σ l'
    split at hd
    · cases hd
    · obtain ⟨rfl, rfl⟩ := castL_some hd
      exact h.pureC ⟨by simp, by simp, by simp⟩ hG
  · obtain ⟨rfl, rfl⟩ := castL_some hd
    cases h with
    | of h =>
      cases h with
      | of h =>
        cases h with
        | pure h => cases h
        | own h => exact h.slice hG (fun r hr => hL r (by simp [hr]))
  · cases hd
theorem ROL.two {R : Value → DV → List Nat → Prop} {vs : List Value} {x y : DV} {L : List Nat} (h : ROL R vs [x, y] L) : ∃ u v A B, vs = [u, v] ∧ R u x A ∧ R v y B ∧ L = A ++ B := by
  cases h with
  | cons h1 h2 =>
    cases h2 with
    | cons h3 h4 => cases h4; exact ⟨_, _, _, _, rfl, h1, h3, by simp⟩
theorem ROL.three {R : Value → DV → List Nat → Prop} {vs : List Value} {x y z : DV} {L : List Nat} (h : ROL R vs [x, y, z] L) : ∃ u v t A B C, vs = [u, v, t] ∧ R u x A ∧ R v y B ∧ R t z C ∧ L = A ++ (B ++ C) := by
  cases h with
  | cons h1 h2 =>
    obtain ⟨u, v, A, B, rfl, h3, h4, rfl⟩ := h2.two
    exact ⟨_, _, _, _, _, _, rfl, h1, h3, h4, rfl⟩
theorem RO2.tupL {v : Value} {cs : List DV} {L : List Nat} (h : RO2 w G ren v (.tup cs) L) : ∃ arr, v = .tuple arr ∧ ROL (RO1 w G ren) arr.toList cs L := by
  cases h with
  | of h =>
    cases h with
    | of h =>
      cases h with
      | pure h =>
        obtain ⟨arr, rfl, hl, hh⟩ := h.tup_inv
        refine ⟨arr, rfl, ?_⟩
        generalize arr.toList = vs at hl hh
        clear h
        induction cs generalizing vs with
        | nil => have : vs = [] := List.eq_nil_of_length_eq_zero hl
                 subst this; exact .nil
        | cons c cs ih =>
          cases vs with
          | nil => simp at hl
          | cons v vs => exact .cons (L := []) (.of (.pure (hh 0 v c rfl rfl))) (ih vs (by simpa using hl) fun j v d hj hd => hh (j + 1) v d (by simpa using hj) (by simpa using hd))
  | tup h => exact ⟨_, rfl, h⟩
theorem RV.tupOf {us : List Value} {ds : List DV} (hl : us.length = ds.length) (hh : ∀ (j : Nat) (v : Value) (d : DV), us[j]? = some v → ds[j]? = some d → RV w G φ ren v d) {arr : Array Value} (ha : arr.toList = us) :
    RV w G φ ren (.tuple arr) (.tup ds) := by
  subst ha; exact .tup hl hh

/-- A result of a plain shape. -/
theorem dec_plain : ∀ (sh : Sh), sh.pl = true → ∀ {v : Value} {r : DV} {L : List Nat} {x : sh.T}, RO2 w G ren v r L → sh.dec r = some x → (∀ r, G r → G2 r) → (∀ r ∈ L, G2 r) → RV w G2 φ2 ren v (sh.enc x) := by
  intro sh
  induction sh with
  | bool =>
    intro _ v r L x h hd hG hL
    cases r <;> simp only [Sh.dec] at hd <;> first | cases hd | skip
    exact h.pureC ⟨by simp, by simp, by simp⟩ hG
  | int k =>
    intro _ v r L x h hd hG hL
    cases r <;> simp only [Sh.dec] at hd <;> first | (cases hd; done) | skip
    rename_i k' n
    cases hk : kindEq k' k with
    | false => simp [hk] at hd
    | true =>
      simp only [hk, cond_true, Option.some.injEq] at hd
      obtain rfl := kindEq_eq hk
      subst hd
      exact h.pureC ⟨by simp, by simp, by simp⟩ hG
  | float =>
    intro _ v r L x h hd hG hL
    cases r <;> simp only [Sh.dec] at hd <;> first | cases hd | skip
    exact h.pureC ⟨by simp, by simp, by simp⟩ hG
  | str =>
    intro _ v r L x h hd hG hL
    cases r <;> simp only [Sh.dec] at hd <;> first | cases hd | skip
    exact h.pureC ⟨by simp, by simp, by simp⟩ hG
  | val =>
    intro _ v r L x h hd hG hL
    cases r <;> simp only [Sh.dec] at hd <;> first | (cases hd; done) | skip
    have e := Val.rd_eq (endOf_eq hd); simp only [List.append_nil] at e; subst e
    exact h.aggC (Cle.refl _) (noOwn_enc .val x) hG hL
  | key =>
    intro _ v r L x h hd hG hL
    cases r <;> simp only [Sh.dec] at hd <;> first | (cases hd; done) | skip
    have e := Key.rd_eq (endOf_eq hd); simp only [List.append_nil] at e; subst e
    exact h.aggC (Cle.refl _) (noOwn_enc .key x) hG hL
  | dsc =>
    intro _ v r L x h hd hG hL
    cases r <;> simp only [Sh.dec] at hd <;> first | (cases hd; done) | skip
    have e := Dsc.rd_eq (endOf_eq hd); simp only [List.append_nil] at e; subst e
    exact h.aggC (Cle.refl _) (by simp [Dsc.enc, noOwn]) hG hL
  | prp =>
    intro _ v r L x h hd hG hL
    cases r <;> simp only [Sh.dec] at hd <;> first | (cases hd; done) | skip
    have e := Prp.rd_eq (endOf_eq hd); simp only [List.append_nil] at e; subst e
    exact h.aggC (Cle.refl _) (noOwn_enc .prp x) hG hL
  | obj =>
    intro _ v r L x h hd hG hL
    cases r <;> simp only [Sh.dec] at hd <;> first | (cases hd; done) | skip
    have e := Obj.rd_le (endOf_eq hd); simp only [List.append_nil] at e
    exact h.aggC e (noOwn_enc .obj x) hG hL
  | out =>
    intro _ v r L x h hd hG hL
    cases r <;> simp only [Sh.dec] at hd <;> first | (cases hd; done) | skip
    have e := Out.rd_le (endOf_eq hd); simp only [List.append_nil] at e
    exact h.aggC e (by simp [Out.enc, Dsc.enc, noOwn]) hG hL
  | seen =>
    intro _ v r L x h hd hG hL
    cases r <;> simp only [Sh.dec] at hd <;> first | (cases hd; done) | skip
    have e := Seen.rd_le (endOf_eq hd); simp only [List.append_nil] at e
    exact h.aggC e (noOwn_enc .seen x) hG hL
  | lst o τ =>
    intro hp v r L x h hd hG hL
    have : o = false := by simpa [Sh.pl] using hp
    subst this
    exact h.lstC (o := false) (by simpa only [Sh.dec] using hd) hG hL
  | heap o =>
    intro hp v r L x h hd hG hL
    have : o = false := by simpa [Sh.pl] using hp
    subst this
    obtain ⟨c, rfl, hd2⟩ : ∃ c, r = .agg [c] ∧ rdl false .obj c = some x := by
      cases r with
      | agg l =>
        match l, hd with
        | [c], hd => exact ⟨c, rfl, by simpa only [Sh.dec] using hd⟩
        | [], hd => simp [Sh.dec] at hd
        | _ :: _ :: _, hd => simp [Sh.dec] at hd
      | _ => simp [Sh.dec] at hd
    have hc : cle c (.sl .obj x) := by
      unfold rdl at hd2
      split at hd2
      · obtain ⟨rfl, rfl⟩ := castL_some hd2; exact .inl rfl
      · obtain ⟨rfl, rfl⟩ := castL_some hd2; exact .inr (.inr ⟨_, _, rfl, rfl⟩)
      · cases hd2
    exact h.aggC (.cons hc .nil) (by simp [noOwn, slOf]) hG hL
  | arr τ =>
    intro hp v r L x h hd hG hL
    cases r <;> simp only [Sh.dec] at hd <;> first | (cases hd; done) | skip
    obtain ⟨rfl, rfl⟩ := castL_some hd
    exact h.pureC ⟨by simp, by simp, by simp⟩ hG
  | unit =>
    intro hp v r L x h hd hG hL
    obtain rfl : r = .tup [] := by
      cases r with
      | tup l =>
        match l, hd with
        | [], hd => rfl
        | _ :: _, hd => simp [Sh.dec] at hd
      | _ => simp [Sh.dec] at hd
    obtain ⟨arr, rfl, hl⟩ := h.tupL
    have ha : arr.toList = [] := by generalize arr.toList = vs at hl; cases hl; rfl
    exact RV.tupOf (us := []) rfl (by simp) ha
  | p2 a b iha ihb =>
    intro hp v r L x h hd hG hL
    simp only [Sh.pl, Bool.and_eq_true] at hp
    obtain ⟨c, d, x1, x2, rfl, e1, e2, rfl⟩ : ∃ c d x1 x2, r = .tup [c, d] ∧ a.dec c = some x1 ∧ b.dec d = some x2 ∧ x = (x1, x2) := by
      cases r with
      | tup l =>
        match l, hd with
        | [c, d], hd =>
          simp only [Sh.dec] at hd
          split at hd
          · rename_i x1 e1
            split at hd
            · rename_i x2 e2; cases hd; exact ⟨c, d, x1, x2, rfl, e1, e2, rfl⟩
            · cases hd
          · cases hd
        | [], hd => simp [Sh.dec] at hd
        | [_], hd => simp [Sh.dec] at hd
        | _ :: _ :: _ :: _, hd => simp [Sh.dec] at hd
      | _ => simp [Sh.dec] at hd
    obtain ⟨arr, rfl, hl⟩ := h.tupL
    obtain ⟨u1, u2, A, B, ha, h1, h2, rfl⟩ := hl.two
    refine RV.tupOf (us := [u1, u2]) rfl (fun j v d hj hd => ?_) ha
    match j, hj, hd with
    | 0, hj, hd => cases hj; cases hd; exact iha hp.1 (.of h1) e1 hG (fun r hr => hL r (by simp [hr]))
    | 1, hj, hd => cases hj; cases hd; exact ihb hp.2 (.of h2) e2 hG (fun r hr => hL r (by simp [hr]))
    | _ + 2, hj, hd => simp at hj
  | p3 a b c iha ihb ihc =>
    intro hp v r L x h hd hG hL
    simp only [Sh.pl, Bool.and_eq_true] at hp
    obtain ⟨c1, c2, c3, x1, x2, x3, rfl, e1, e2, e3, rfl⟩ : ∃ c1 c2 c3 x1 x2 x3, r = .tup [c1, c2, c3] ∧ a.dec c1 = some x1 ∧ b.dec c2 = some x2 ∧ c.dec c3 = some x3 ∧ x = (x1, x2, x3) := by
      cases r with
      | tup l =>
        match l, hd with
        | [c1, c2, c3], hd =>
          simp only [Sh.dec] at hd
          split at hd
          · rename_i x1 e1
            split at hd
            · rename_i x2 e2
              split at hd
              · rename_i x3 e3; cases hd; exact ⟨c1, c2, c3, x1, x2, x3, rfl, e1, e2, e3, rfl⟩
              · cases hd
            · cases hd
          · cases hd
        | [], hd => simp [Sh.dec] at hd
        | [_], hd => simp [Sh.dec] at hd
        | [_, _], hd => simp [Sh.dec] at hd
        | _ :: _ :: _ :: _ :: _, hd => simp [Sh.dec] at hd
      | _ => simp [Sh.dec] at hd
    obtain ⟨arr, rfl, hl⟩ := h.tupL
    obtain ⟨u1, u2, u3, A, B, C, ha, h1, h2, h3, rfl⟩ := hl.three
    refine RV.tupOf (us := [u1, u2, u3]) rfl (fun j v d hj hd => ?_) ha
    match j, hj, hd with
    | 0, hj, hd => cases hj; cases hd; exact iha hp.1 (.of h1) e1 hG (fun r hr => hL r (by simp [hr]))
    | 1, hj, hd => cases hj; cases hd; exact ihb hp.2.1 (.of h2) e2 hG (fun r hr => hL r (by simp [hr]))
    | 2, hj, hd => cases hj; cases hd; exact ihc hp.2.2 (.of h3) e3 hG (fun r hr => hL r (by simp [hr]))
    | _ + 3, hj, hd => simp at hj

/-! ### A result that is taken over by name -/
structure Adopt (w : World) (G : Nat → Prop) (ren : Nat → Option Nat) (n : Nat) (v : Value) (d : DV) (bl : List (Nat × Blk)) (L : List Nat) : Prop where
  ex : ∃ (hv : Value) (τ : Ty) (l : List (El τ)) (M : List Nat), bl = [(n, .row τ l)] ∧ RB w G (fun _ => none) ren hv (.row τ l) ∧ L = (ownr hv).toList ++ M ∧
    (∀ (G2 : Nat → Prop) (φ2 : Nat → Option Value), (∀ r, G r → G2 r) → (∀ r ∈ M, G2 r) → φ2 n = some hv → RV w G2 φ2 ren v d) ∧ ∀ f : Nat → Prop, f n → NamesOk f d
theorem RO1.ownL {v : Value} {d : DV} {L : List Nat} {τ : Ty} {l : List (El τ)} (h : RO1 w G ren v d L) (hd : rdl true τ d = some l) : RB w G (fun _ => none) ren v (.row τ l) ∧ L = (ownr v).toList ∧ v.oneCell' = true := by
  unfold rdl at hd
  split at hd
  · rename_i σ l'
    split at hd
    · cases hd
    · rename_i e; cases e
  · obtain ⟨rfl, rfl⟩ := castL_some hd
    cases h with
    | of h =>
      cases h with
      | pure h => cases h
      | own h =>
        refine ⟨h, rfl, ?_⟩
        obtain ⟨ad, cap, rfl, _⟩ := h
        rfl
  · cases hd
theorem RO2.one {v : Value} {d : DV} {L : List Nat} (h : RO2 w G ren v d L) (hd : ∀ l, d ≠ .tup l) : RO1 w G ren v d L := by
  cases h with
  | of h => exact h
  | tup h => exact absurd rfl (hd _)
theorem dec_ad1 {a : Sh} (ha : a.ad1 = true) {v : Value} {r : DV} {L : List Nat} {x : a.T} (h : RO2 w G ren v r L) (hd : a.dec r = some x) (n : Nat) (ns : List Nat) :
    Adopt w G ren n v (a.res x (n :: ns)).1 (a.res x (n :: ns)).2 L := by
  cases a with
  | lst o τ =>
    have : o = true := by simpa [Sh.ad1] using ha
    subst this
    have hd' : rdl true τ r = some x := by simpa only [Sh.dec] using hd
    have hr : ∀ l, r ≠ .tup l := by rintro l rfl; simp [rdl] at hd'
    obtain ⟨g1, g2, g3⟩ := (h.one hr).ownL hd'
    exact ⟨v, τ, x, [], rfl, g1, by simp [g2], fun _ _ _ _ e => .lsl e g3, fun f hf => .lsl hf⟩
  | heap o =>
    have : o = true := by simpa [Sh.ad1] using ha
    subst this
    obtain ⟨c, rfl, hd2⟩ : ∃ c, r = .agg [c] ∧ rdl true .obj c = some x := by
      cases r with
      | agg l =>
        match l, hd with
        | [c], hd => exact ⟨c, rfl, by simpa only [Sh.dec] using hd⟩
        | [], hd => simp [Sh.dec] at hd
        | _ :: _ :: _, hd => simp [Sh.dec] at hd
      | _ => simp [Sh.dec] at hd
    have h1 := h.one (by simp)
    have key : ∃ (arr : Array Value) (hv : Value), v = .agg arr ∧ arr.toList = [hv] ∧ hv.oneCell' = true ∧ RO1 w G ren hv c L := by
      cases h1 with
      | of h1 =>
        cases h1 with
        | pure h1 =>
          obtain ⟨arr, rfl, hv⟩ := h1.agg_inv
          obtain ⟨u, vs', e, g1, g2, g3⟩ := hv.uncons
          rw [g3.unnil] at e
          exact ⟨arr, u, rfl, e, g1, .of (.pure g2)⟩
      | @agg arr cs L h1 h2 =>
        generalize hvs : arr.toList = vs at h1 h2
        cases h1 with
        | cons g1 g2 => cases g2; exact ⟨arr, _, rfl, hvs, h2 _ (by simp), by simpa using RO1.of g1⟩
    obtain ⟨arr, hv, rfl, earr, hone, h2⟩ := key
    obtain ⟨g1, g2, g3⟩ := h2.ownL hd2
    refine ⟨hv, .obj, x, [], rfl, g1, by simp [g2], fun G2 φ2 _ _ e => ?_, fun f hf => .agg fun d hd => by simp at hd; subst hd; exact .lsl hf⟩
    have : RVs w G2 φ2 ren arr.toList [.lsl n] := by rw [earr]; exact .cons hone (.lsl e g3) .nil
    exact .agg this.1 this.2.1 this.2.2
  | _ => simp [Sh.ad1] at ha
theorem dec_ad {sh : Sh} (ha : sh.ad = true) {v : Value} {r : DV} {L : List Nat} {x : sh.T} (h : RO2 w G ren v r L) (hd : sh.dec r = some x) (n : Nat) (ns : List Nat) :
    Adopt w G ren n v (sh.res x (n :: ns)).1 (sh.res x (n :: ns)).2 L := by
  cases sh with
  | p2 a b =>
    simp only [Sh.ad, Bool.and_eq_true] at ha
    obtain ⟨c, d, x1, x2, rfl, e1, e2, rfl⟩ : ∃ c d x1 x2, r = .tup [c, d] ∧ a.dec c = some x1 ∧ b.dec d = some x2 ∧ x = (x1, x2) := by
      cases r with
      | tup l =>
        match l, hd with
        | [c, d], hd =>
          simp only [Sh.dec] at hd
          split at hd
          · rename_i x1 e1
            split at hd
            · rename_i x2 e2; cases hd; exact ⟨c, d, x1, x2, rfl, e1, e2, rfl⟩
            · cases hd
          · cases hd
        | [], hd => simp [Sh.dec] at hd
        | [_], hd => simp [Sh.dec] at hd
        | _ :: _ :: _ :: _, hd => simp [Sh.dec] at hd
      | _ => simp [Sh.dec] at hd
    obtain ⟨arr, rfl, hl⟩ := h.tupL
    obtain ⟨u1, u2, A, B, hva, h1, h2, rfl⟩ := hl.two
    obtain ⟨hv, τ, l, M, g1, g2, g3, g4, g5⟩ := (dec_ad1 ha.1 (.of h1) e1 n ns).ex
    refine ⟨hv, τ, l, M ++ B, g1, g2, by rw [g3, List.append_assoc], fun G2 φ2 hG hM e => ?_, fun f hf => .tup fun d hd => ?_⟩
    · refine RV.tupOf (us := [u1, u2]) rfl (fun j v d hj hd => ?_) hva
      match j, hj, hd with
      | 0, hj, hd => cases hj; cases hd; exact g4 G2 φ2 hG (fun r hr => hM r (by simp [hr])) e
      | 1, hj, hd => cases hj; cases hd; exact dec_plain b ha.2 (.of h2) e2 hG (fun r hr => hM r (by simp [hr]))
      | _ + 2, hj, hd => simp at hj
    · rcases List.mem_cons.1 hd with rfl | hd
      · exact g5 f hf
      · rw [List.mem_singleton.1 hd]
        exact (dec_plain (G2 := fun _ => True) b ha.2 (.of h2) e2 (fun _ _ => trivial) (fun _ _ => trivial)).noNames f
  | p3 a b c =>
    simp only [Sh.ad, Bool.and_eq_true] at ha
    obtain ⟨c1, c2, c3, x1, x2, x3, rfl, e1, e2, e3, rfl⟩ : ∃ c1 c2 c3 x1 x2 x3, r = .tup [c1, c2, c3] ∧ a.dec c1 = some x1 ∧ b.dec c2 = some x2 ∧ c.dec c3 = some x3 ∧ x = (x1, x2, x3) := by
      cases r with
      | tup l =>
        match l, hd with
        | [c1, c2, c3], hd =>
          simp only [Sh.dec] at hd
          split at hd
          · rename_i x1 e1
            split at hd
            · rename_i x2 e2
              split at hd
              · rename_i x3 e3; cases hd; exact ⟨c1, c2, c3, x1, x2, x3, rfl, e1, e2, e3, rfl⟩
              · cases hd
            · cases hd
          · cases hd
        | [], hd => simp [Sh.dec] at hd
        | [_], hd => simp [Sh.dec] at hd
        | [_, _], hd => simp [Sh.dec] at hd
        | _ :: _ :: _ :: _ :: _, hd => simp [Sh.dec] at hd
      | _ => simp [Sh.dec] at hd
    obtain ⟨arr, rfl, hl⟩ := h.tupL
    obtain ⟨u1, u2, u3, A, B, C, hva, h1, h2, h3, rfl⟩ := hl.three
    obtain ⟨hv, τ, l, M, g1, g2, g3, g4, g5⟩ := (dec_ad1 ha.1 (.of h1) e1 n ns).ex
    refine ⟨hv, τ, l, M ++ (B ++ C), g1, g2, by rw [g3, List.append_assoc], fun G2 φ2 hG hM e => ?_, fun f hf => .tup fun d hd => ?_⟩
    · refine RV.tupOf (us := [u1, u2, u3]) rfl (fun j v d hj hd => ?_) hva
      match j, hj, hd with
      | 0, hj, hd => cases hj; cases hd; exact g4 G2 φ2 hG (fun r hr => hM r (by simp [hr])) e
      | 1, hj, hd => cases hj; cases hd; exact dec_plain b ha.2.1 (.of h2) e2 hG (fun r hr => hM r (by simp [hr]))
      | 2, hj, hd => cases hj; cases hd; exact dec_plain c ha.2.2 (.of h3) e3 hG (fun r hr => hM r (by simp [hr]))
      | _ + 3, hj, hd => simp at hj
    · rcases List.mem_cons.1 hd with rfl | hd
      · exact g5 f hf
      · rcases List.mem_cons.1 hd with rfl | hd
        · exact (dec_plain (G2 := fun _ => True) b ha.2.1 (.of h2) e2 (fun _ _ => trivial) (fun _ _ => trivial)).noNames f
        · rw [List.mem_singleton.1 hd]
          exact (dec_plain (G2 := fun _ => True) c ha.2.2 (.of h3) e3 (fun _ _ => trivial) (fun _ _ => trivial)).noNames f
  | lst o τ => exact dec_ad1 (a := .lst o τ) ha h hd n ns
  | heap o => exact dec_ad1 (a := .heap o) ha h hd n ns
  | _ => simp [Sh.ad, Sh.ad1] at ha

/-! ### Results that hold nothing of memory -/
theorem scal_any : ∀ (sh : Sh), sh.scal = true → ∀ {w' : World} {G' : Nat → Prop} {φ' : Nat → Option Value} {v : Value} {x : sh.T}, RV w G φ ren v (sh.enc x) → RV w' G' φ' ren v (sh.enc x) := by
  have cell : ∀ {w' : World} {G' : Nat → Prop} {φ' : Nat → Option Value} {v : Value} {d : DV}, (match d with | .bool _ | .int .. | .float _ | .str _ => true | _ => false) = true → RV w G φ ren v d → RV w' G' φ' ren v d := by
    intro w' G' φ' v d hd h
    cases h <;> first | (simp at hd; done) | skip
    · exact .bool _
    · exact .int _ _
    · exact .float ‹_›
    · exact .str _
  have cells : ∀ {w' : World} {G' : Nat → Prop} {φ' : Nat → Option Value} {v : Value} {l : List DV}, (∀ d ∈ l, (match d with | .bool _ | .int .. | .float _ | .str _ => true | _ => false) = true) → RV w G φ ren v (.agg l) → RV w' G' φ' ren v (.agg l) := by
    intro w' G' φ' v l hl h
    obtain ⟨arr, rfl, hv⟩ := h.agg_inv
    exact .agg hv.1 hv.2.1 fun j v d hj hd => cell (hl d (List.mem_of_getElem? hd)) (hv.2.2 j v d hj hd)
  intro sh
  induction sh with
  | bool => intro _ w' G' φ' v x h; exact cell rfl h
  | int k => intro _ w' G' φ' v x h; exact cell rfl h
  | float => intro _ w' G' φ' v x h; exact cell rfl h
  | str => intro _ w' G' φ' v x h; exact cell rfl h
  | val => intro _ w' G' φ' v x h; exact cells (by simp [Val.enc]) h
  | key => intro _ w' G' φ' v x h; exact cells (by simp [Key.enc]) h
  | dsc => intro _ w' G' φ' v x h; exact cells (by simp [Dsc.enc]) h
  | unit =>
    intro _ w' G' φ' v x h
    obtain ⟨arr, rfl, hl, hh⟩ := RV.tup_inv h
    exact .tup hl (by simp)
  | p2 a b iha ihb =>
    intro hp w' G' φ' v x h
    simp only [Sh.scal, Bool.and_eq_true] at hp
    obtain ⟨arr, rfl, hl, hh⟩ := RV.tup_inv h
    refine .tup hl fun j v d hj hd => ?_
    have h1 := hh j v d hj hd
    match j, hd with
    | 0, hd => cases hd; exact iha hp.1 h1
    | 1, hd => cases hd; exact ihb hp.2 h1
    | _ + 2, hd => simp at hd
  | p3 a b c iha ihb ihc =>
    intro hp w' G' φ' v x h
    simp only [Sh.scal, Bool.and_eq_true] at hp
    obtain ⟨arr, rfl, hl, hh⟩ := RV.tup_inv h
    refine .tup hl fun j v d hj hd => ?_
    have h1 := hh j v d hj hd
    match j, hd with
    | 0, hd => cases hd; exact iha hp.1 h1
    | 1, hd => cases hd; exact ihb hp.2.1 h1
    | 2, hd => cases hd; exact ihc hp.2.2 h1
    | _ + 3, hd => simp at hd
  | _ => intro hp; simp [Sh.scal] at hp
end
end Bz
