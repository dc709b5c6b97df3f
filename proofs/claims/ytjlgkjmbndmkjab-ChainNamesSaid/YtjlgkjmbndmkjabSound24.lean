/- Results and functions. -/
import Derived.Test.YtjlgkjmbndmkjabSound23
set_option linter.all false
set_option linter.unusedVariables false
namespace Bz
open Go Go.RowKit

def resOk (P : Program) : ResultVar → ResV → Bool
  | .tmp t, .tmp u => Nat.beq t u
  | .cell a t, .cell b m => Nat.beq a b && ldOk P t m
  | .cell a t, .cella b m => Nat.beq a b && ldOk P t (some m)
  | _, _ => false
def ressOk (P : Program) : List ResultVar → List ResV → Bool
  | [], [] => true
  | x :: r, y :: l => resOk P x y && ressOk P r l
  | _, _ => false

section
variable {w : World} {G G' : Nat → Prop} {ren : Nat → Option Nat}
theorem RO0.mono (hG : ∀ r, G r → G' r) {v : Value} {d : DV} {L : List Nat} (h : RO0 w G ren v d L) : RO0 w G' ren v d L := by
  cases h with
  | pure h => exact .pure (h.mono hG (fun _ _ => rfl) (names_any d))
  | own h => exact .own (h.mono hG)
theorem ROL.mono {R R' : Value → DV → List Nat → Prop} (hR : ∀ v d L, R v d L → R' v d L) {vs : List Value} {ds : List DV} {L : List Nat} (h : ROL R vs ds L) : ROL R' vs ds L := by
  induction h with
  | nil => exact .nil
  | cons h1 h2 ih => exact .cons (hR _ _ _ h1) ih
theorem RO1.mono (hG : ∀ r, G r → G' r) {v : Value} {d : DV} {L : List Nat} (h : RO1 w G ren v d L) : RO1 w G' ren v d L := by
  cases h with
  | of h => exact .of (h.mono hG)
  | agg h h1 => exact .agg (h.mono fun _ _ _ h => RO0.mono hG h) h1
theorem RO2.mono (hG : ∀ r, G r → G' r) {v : Value} {d : DV} {L : List Nat} (h : RO2 w G ren v d L) : RO2 w G' ren v d L := by
  cases h with
  | of h => exact .of (h.mono hG)
  | tup h => exact .tup (h.mono fun _ _ _ h => RO1.mono hG h)
end

section
variable {ren : Nat → Option Nat} {A : Nat → Prop} {b0 : Nat} {w0 : World} {N : Nat} {φ : Nat → Option Value} {s : St} {a : Act} {w : World}
variable {P : Program} {Q : Exit → Act → World → Prop} {R : Nat → List DV → Option DV} {r : DV}

structure Exd (s s' : St) (φ : Nat → Option Value) (L : List Nat) : Prop where
  env : s'.env = s.env
  blk : ∀ n b, Bz.blk s' n = some b → Bz.blk s n = some b
  own : ∀ x ∈ L, ∃ n b h, Bz.blk s n = some b ∧ φ n = some h ∧ ownr h = some x ∧ Bz.blk s' n = none
  nd : L.Nodup

theorem exp0_sound (h : Rel ren A b0 w0 N φ s a w) {s' : St} {L : List Nat} (E : Exd s s' φ L) {v : Value} {d : DV} (h1 : RV w (Gd A b0 s φ w) φ ren v d) {k : DV → St → Option DV} (hk : exp0 s' d k = some r) :
    ∃ d' s'' M, k d' s'' = some r ∧ RO0 w (Gd A b0 s φ w) ren v d' M ∧ Exd s s'' φ (L ++ M) := by
  have same : ∀ d', k d' s' = some r → RV w (Gd A b0 s φ w) (fun _ => none) ren v d' → ∃ d' s'' M, k d' s'' = some r ∧ RO0 w (Gd A b0 s φ w) ren v d' M ∧ Exd s s'' φ (L ++ M) := by
    intro d' hk' hr
    exact ⟨d', s', [], hk', .pure hr, by simpa using E⟩
  cases d with
  | lsl n =>
    simp only [exp0] at hk
    split at hk
    · rename_i τ l hb
      obtain ⟨hd, hφ, hR, h3⟩ := h.sto n _ (E.blk n _ hb)
      have e1 := h1.lsl_inv
      rw [hφ] at e1; cases e1
      have eb : ∀ m, Bz.blk { s' with sto := (n, .gone) :: s'.sto } m = if n = m then none else Bz.blk s' m := by
        intro m
        unfold Bz.blk
        simp only [look_cons]
        by_cases hm : n = m <;> simp [hm]
      refine ⟨_, _, (ownr v).toList, hk, .own ?_, E.env, ?_, ?_, ?_⟩
      · obtain ⟨ad, cap, e1, e2, e3⟩ := hR
        refine ⟨ad, cap, e1, e2, e3.imp id ?_⟩
        rintro ⟨r, b, q1, q2, q3⟩
        refine ⟨r, b, q1, q2, fun i x hi => ?_⟩
        obtain ⟨vs, q4, q5⟩ := q3 i x hi
        exact ⟨vs, q4.pure _, q5⟩
      · intro m b hm
        rw [eb] at hm
        split at hm
        · cases hm
        · exact E.blk m b hm
      · intro x hx
        rw [List.mem_append] at hx
        rcases hx with hx | hx
        · obtain ⟨m, b, hh, q1, q2, q3, q4⟩ := E.own x hx
          refine ⟨m, b, hh, q1, q2, q3, ?_⟩
          rw [eb]; split
          · rfl
          · exact q4
        · simp only [Option.mem_toList] at hx
          refine ⟨n, _, v, E.blk n _ hb, hφ, hx, ?_⟩
          rw [eb]; simp
      · rw [List.nodup_append]
        refine ⟨E.nd, ?_, ?_⟩
        · cases ownr v <;> simp
        · intro x hx y hy e
          subst e
          simp only [Option.mem_toList] at hy
          obtain ⟨m, b, hh, q1, q2, q3, q4⟩ := E.own x hx
          have := h.inj m n b _ hh v x q1 (E.blk n _ hb) q2 hφ q3 hy
          subst this
          rw [hb] at q4; cases q4
    · cases hk
  | nsl τ =>
    obtain ⟨ad, rfl⟩ := h1.nsl_inv
    refine ⟨_, s', [], hk, ?_, by simpa using E⟩
    have : (ownr (.slice ad 0 0)).toList = [] := by cases ad <;> rfl
    rw [← this]
    exact .own ⟨ad, 0, rfl, Nat.le_refl _, .inl rfl⟩
  | bool b => exact same _ hk (h1.mono (fun _ h => h) (fun _ _ => rfl) (.bool b))
  | int q n => exact same _ hk (h1.mono (fun _ h => h) (fun _ _ => rfl) (.int q n))
  | float b => exact same _ hk (h1.mono (fun _ h => h) (fun _ _ => rfl) (.float b))
  | str b => exact same _ hk (h1.mono (fun _ h => h) (fun _ _ => rfl) (.str b))
  | sl τ l => exact same _ hk (h1.mono (fun _ h => h) (fun _ _ => rfl) (.sl τ l))
  | fsl τ l => cases hk
  | unk => cases hk
  | skp => cases hk
  | own τ l => cases hk
  | agg cs => cases hk
  | arr τ l => cases hk
  | tup cs => cases hk
  | imm cs => cases hk
  | loc n o => cases hk
  | lel n e i o => cases hk
  | fn f cs => cases hk

theorem expl_sound (h : Rel ren A b0 w0 N φ s a w) : ∀ {cs : List DV} {vs : List Value} {s' : St} {L : List Nat} {k : List DV → St → Option DV}, Exd s s' φ L → RVs w (Gd A b0 s φ w) φ ren vs cs → expl s' cs k = some r →
    ∃ ds s'' M, k ds s'' = some r ∧ ROL (RO0 w (Gd A b0 s φ w) ren) vs ds M ∧ Exd s s'' φ (L ++ M) := by
  intro cs
  induction cs with
  | nil =>
    intro vs s' L k E hv hk
    rw [hv.unnil]
    exact ⟨[], s', [], hk, .nil, by simpa using E⟩
  | cons c cs ih =>
    intro vs s' L k E hv hk
    obtain ⟨v, vs', rfl, g1, g2, g3⟩ := hv.uncons
    simp only [expl] at hk
    obtain ⟨d', s1, M1, hk, r1, E1⟩ := exp0_sound h E g2 hk
    obtain ⟨ds, s2, M2, hk, r2, E2⟩ := ih E1 g3 hk
    exact ⟨d' :: ds, s2, M1 ++ M2, hk, .cons r1 r2, by rw [← List.append_assoc]; exact E2⟩

theorem exp_sound (h : Rel ren A b0 w0 N φ s a w) {s' : St} {L : List Nat} (E : Exd s s' φ L) {v : Value} {d : DV} (h1 : RV w (Gd A b0 s φ w) φ ren v d) {k : DV → St → Option DV} (hk : exp s' d k = some r) :
    ∃ d' s'' M, k d' s'' = some r ∧ RO1 w (Gd A b0 s φ w) ren v d' M ∧ Exd s s'' φ (L ++ M) := by
  have other : exp0 s' d k = some r → ∃ d' s'' M, k d' s'' = some r ∧ RO1 w (Gd A b0 s φ w) ren v d' M ∧ Exd s s'' φ (L ++ M) := by
    intro hk
    obtain ⟨d', s'', M, q1, q2, q3⟩ := exp0_sound h E h1 hk
    exact ⟨d', s'', M, q1, .of q2, q3⟩
  cases d with
  | agg cs =>
    obtain ⟨arr, rfl, g⟩ := h1.agg_inv
    obtain ⟨ds, s'', M, q1, q2, q3⟩ := expl_sound h E g hk
    exact ⟨_, s'', M, q1, .agg q2 g.2.1, q3⟩
  | arr τ l => exact ⟨_, s', [], hk, .of (.pure (h1.mono (fun _ h => h) (fun _ _ => rfl) (.arr τ l))), by simpa using E⟩
  | _ => exact other hk

/-- The value of a result. -/
def resRun (tmps : Array Value) : ResultVar → Sem Value
  | .tmp t => pure (tmps.getD t undef)
  | .cell x t => do loadVar t (← asAddr (tmps.getD x undef))
theorem resV_sound (h : Rel ren A b0 w0 N φ s a w) {s' : St} {L : List Nat} (E : Exd s s' φ L) {x : ResultVar} {y : ResV} (hc : resOk P x y = true) {k : DV → Option DV} (hk : resV s' y k = some r) :
    ∃ v d, (resRun a.tmps x).run P w = .ok v w ∧ RV w (Gd A b0 s φ w) φ ren v d ∧ k d = some r := by
  unfold resOk at hc
  split at hc
  · rename_i t u
    obtain rfl := Nat.eq_of_beq_eq_true hc
    simp only [resV, opd, E.env] at hk
    cases hl : look s.env t with
    | none => simp [hl] at hk
    | some d => simp only [hl] at hk; exact ⟨_, d, rfl, h.env t d hl, hk⟩
  · rename_i x t x' m
    simp only [Bool.and_eq_true] at hc
    obtain ⟨hc1, hc⟩ := hc
    obtain rfl := Nat.eq_of_beq_eq_true hc1
    simp only [resV, opd, E.env] at hk
    cases hl : look s.env x with
    | none => simp [hl] at hk
    | some d =>
      simp only [hl] at hk
      obtain ⟨cs0, ns, hk0, hfr⟩ := at_fr hk
      have hk2 := hfr s (fun n _ b hb => E.blk n b hb) (fun cs _ => match m with
        | none => match cs with
          | c :: _ => k c
          | [] => none
        | some m => match takeN m cs with
          | some cs => k (.agg cs)
          | none => none)
      replace hk2 := hk2.trans (by cases m <;> exact hk0)
      obtain ⟨ad, cs, rd, vs, hk, ev, hvs, hcell, hnm⟩ := at_sound h ⟨h.env x d hl, h.nm x d hl⟩ hk2
      have ea : (asAddr (a.tmps.getD x undef)).run P w = .ok ad w := by rw [ev]; rfl
      cases m with
      | none =>
        dsimp only at hk
        split at hk
        · rename_i c cs
          obtain ⟨u, vs', rfl, _, g2, _⟩ := hvs.uncons
          have := hcell 0 u rfl
          rw [Addr.add_zero] at this
          exact ⟨u, c, by simp only [resRun, Sem.run_bind, ea, Result.andThen_ok, run_loadVar1 hc this], g2, hk⟩
        · cases hk
      | some m =>
        dsimp only at hk
        split at hk
        · rename_i ds hds
          have hl := takeN_len hds
          have g := hvs.takeN hds
          have hlen : (vs.take m).length = m := by rw [g.1, hl.1]
          simp only [ldOk, Bool.and_eq_true] at hc
          have hcell' : ∀ j u, (vs.take m)[j]? = some u → w.cell? (ad.add j) = some u := by
            intro j u hj
            have hlt : j < (vs.take m).length := (List.getElem?_eq_some_iff.1 hj).1
            rw [List.getElem?_take_of_lt (by omega)] at hj
            exact hcell j u hj
          exact ⟨.agg (vs.take m).toArray, _, by simp only [resRun, Sem.run_bind, ea, Result.andThen_ok, run_loadVarN hc.1 (by rw [hlen]; exact hc.2) hcell'],
            .agg (by simpa using g.1) (by simpa using g.2.1) (by simpa using g.2.2), hk⟩
        · cases hk
  · rename_i x t x' m
    simp only [Bool.and_eq_true] at hc
    obtain ⟨hc1, hc⟩ := hc
    obtain rfl := Nat.eq_of_beq_eq_true hc1
    simp only [resV, opd, E.env] at hk
    cases hl : look s.env x with
    | none => simp [hl] at hk
    | some d =>
      simp only [hl] at hk
      split at hk
      · rename_i n
        split at hk
        · rename_i τ l hb
          cases hm : Nat.beq (l.length * τ.esz) m with
          | false => simp [hm] at hk
          | true =>
            simp only [hm, cond_true] at hk
            obtain rfl := Nat.eq_of_beq_eq_true hm
            have hb' := E.blk n _ hb
            obtain ⟨hd, hφ, hR, _⟩ := h.sto n _ hb'
            obtain ⟨hd', rb, b, hφ', hbs, ev⟩ := (h.env x _ hl).loc_inv
            rw [hφ] at hφ'; cases hφ'
            obtain ⟨r2, rfl, g1, g2⟩ := hR
            simp only [hbase, Option.some.injEq, Prod.mk.injEq] at hbs
            obtain ⟨rfl, rfl⟩ := hbs
            simp only [ldOk, Bool.and_eq_true] at hc
            obtain ⟨vs, k1, k2⟩ := arr_cells 0 l (fun i x hi => by simpa using g2 i x hi)
            have hlen : vs.length = l.length * τ.esz := by rw [k1.1, flat_len]
            have hcell : ∀ j u, vs[j]? = some u → w.cell? ((⟨r2, 0 + 0, none⟩ : Addr).add j) = some u := by
              intro j u hj
              rw [Addr.add_none]
              simpa using k2 j u hj
            have ea : (asAddr (a.tmps.getD x undef)).run P w = .ok ⟨r2, 0 + 0, none⟩ w := by rw [ev]; rfl
            exact ⟨.agg vs.toArray, _, by simp only [resRun, Sem.run_bind, ea, Result.andThen_ok, run_loadVarN hc.1 (by rw [hlen]; exact hc.2) hcell],
              .arr (by simpa using k1.1) (by simpa using k1.2.1) (by simpa using k1.2.2), hk⟩
        · cases hk
      · cases hk
  · cases hc

theorem ress_sound (h : Rel ren A b0 w0 N φ s a w) : ∀ {xs : List ResultVar} {ys : List ResV} {s' : St} {L : List Nat} {k : List DV → Option DV}, Exd s s' φ L → ressOk P xs ys = true → ress s' ys k = some r →
    ∃ vs ds M s'', (xs.mapM (resRun a.tmps)).run P w = .ok vs w ∧ ROL (RO1 w (Gd A b0 s φ w) ren) vs ds M ∧ Exd s s'' φ (L ++ M) ∧ k ds = some r ∧ ds.length = ys.length := by
  intro xs
  induction xs with
  | nil =>
    intro ys s' L k E hc hk
    cases ys with
    | nil => exact ⟨[], [], [], s', rfl, .nil, by simpa using E, hk, rfl⟩
    | cons y ys => cases hc
  | cons x xs ih =>
    intro ys s' L k E hc hk
    cases ys with
    | nil => cases hc
    | cons y ys =>
      simp only [ressOk, Bool.and_eq_true] at hc
      simp only [ress] at hk
      obtain ⟨v, d, q1, q2, hk⟩ := resV_sound h E hc.1 hk
      obtain ⟨d', s1, M1, hk, r1, E1⟩ := exp_sound h E q2 hk
      obtain ⟨vs, ds, M2, s2, q3, r2, E2, hk, hl⟩ := ih E1 hc.2 hk
      refine ⟨v :: vs, d' :: ds, M1 ++ M2, s2, ?_, .cons r1 r2, by rw [← List.append_assoc]; exact E2, hk, by simp [hl]⟩
      simp [List.mapM_cons, q1, q3]

theorem finish_sound {fn : Func} {ys : List ResV} (h : Rel ren A w0.heap.size w0 N φ s a w) (hc : ressOk P fn.results.toList ys = true) (hk : finish ys s = some r) :
    ∃ v, (results fn a.tmps).run P w = .ok v w ∧ Res w0 w A ren v r := by
  unfold finish at hk
  obtain ⟨vs, ds, M, s'', q1, q2, E, hk, hl⟩ := ress_sound h (L := []) ⟨rfl, fun _ _ h => h, by simp, by simp⟩ hc hk
  rw [List.nil_append] at E
  have hrun : (results fn a.tmps).run P w = .ok (if h : vs.toArray.size = 1 then vs.toArray[0] else .tuple vs.toArray) w := by
    have e : results fn a.tmps = (do let vs ← fn.results.mapM (resRun a.tmps); pure (if h : vs.size = 1 then vs[0] else .tuple vs)) := by rfl
    rw [e, Array.mapM_eq_mapM_toList]
    simp [q1]
  have hwn : ∀ x ∈ M, Wn s φ x ∧ w0.heap.size ≤ x ∧ x < w.heap.size := by
    intro x hx
    obtain ⟨n, b, hh, g1, g2, g3, _⟩ := E.own x hx
    obtain ⟨hh', e1, _, e3⟩ := h.sto n b g1
    rw [g2] at e1; cases e1
    exact ⟨⟨n, b, hh, g1, g2, g3⟩, e3 x g3⟩
  have hG : ∀ x, Gd A w0.heap.size s φ w x → x < w.heap.size ∧ x ∉ M ∧ (x < w0.heap.size → A x) := fun x hx => ⟨hx.1, fun hm => hx.2.1 (hwn x hm).1, hx.2.2⟩
  refine ⟨_, hrun, M, E.nd, fun x hx => (hwn x hx).2, ?_⟩
  match ds, q2, hk with
  | [d], q2, hk =>
    simp only [Option.some.injEq] at hk
    subst hk
    obtain ⟨v, rfl, h1⟩ : ∃ v, vs = [v] ∧ RO1 w (Gd A w0.heap.size s φ w) ren v d M := by
      cases q2 with
      | cons h1 h2 =>
        cases h2
        exact ⟨_, rfl, by rw [List.append_nil]; exact h1⟩
    exact .of (h1.mono hG)
  | [], q2, hk =>
    simp only [Option.some.injEq] at hk
    subst hk
    cases q2
    exact .tup .nil
  | d1 :: d2 :: ds, q2, hk =>
    simp only [Option.some.injEq] at hk
    subst hk
    have hv : vs.length ≠ 1 := by
      cases q2 with
      | cons h1 h2 => cases h2 with
        | cons h3 h4 => simp
    rw [dif_neg (by simpa using hv)]
    exact .tup (by simpa using q2.mono fun _ _ _ h => RO1.mono hG h)

/-! ### A function -/
def chkF (P : Program) (ren : Nat → Option Nat) (fn : Func) (c : Code) (fd : FD) : Bool :=
  Nat.ble fd.np fn.ntmps && (ressOk P fn.results.toList fd.res && chkC P ren fn.ntmps c fd.body)
theorem look_numbered : ∀ (l : List DV) (i t : Nat), look (numbered i l) t = if i ≤ t then l[t - i]? else none := by
  intro l
  induction l with
  | nil => intro i t; simp [numbered, look]
  | cons d l ih =>
    intro i t
    simp only [numbered, look_cons, ih]
    by_cases h1 : i = t
    · subst h1; simp
    · by_cases h2 : i ≤ t
      · have : i + 1 ≤ t := by omega
        simp only [h1, if_false, this, if_true, h2]
        rw [show t - i = (t - (i + 1)) + 1 from by omega]; simp
      · have : ¬ i + 1 ≤ t := by omega
        simp [h1, h2, this]
theorem fn_sound (hF : Fine P ren R) (hm : P.follows .mixedOrders = true) {m g : Nat} {fn : Func} {c : Code} {fd : FD} (hg : P.funcs[g]? = some fn) (hb : fn.body = some c) (hname : (fn.name == "runtime.NumGoroutine") = false)
    (hc : chkF P ren fn c fd = true) {args : List DV} {r : DV} (hnp : args.length = fd.np)
    (hk : runC R m fd.body ⟨numbered 0 args, []⟩ (kFin fd.res) = some r)
    {vals : List Value} {w : World} {A : Nat → Prop} (hv : RVL w (fun x => x < w.heap.size ∧ A x) ren vals args) :
    Does P g vals.toArray w fun v w' => Below w.heap.size w w' ∧ Res w w' A ren v r := by
  unfold chkF at hc
  simp only [Bool.and_eq_true] at hc
  obtain ⟨hc1, hc2, hc3⟩ := hc
  have hle : fd.np ≤ fn.ntmps := Nat.le_of_ble_eq_true hc1
  have hname' : fn.name ≠ "runtime.NumGoroutine" := by simpa using hname
  refine .inl ⟨by simp [callFunc, hg, hname', hb], ?_⟩
  refine calls_of_wp hg hb ?_
  have hvl : vals.length = fd.np := by rw [hv.1, hnp]
  have hget : ∀ t v, vals[t]? = some v → (vals.toArray ++ Array.replicate (fn.ntmps - vals.toArray.size) undef).getD t undef = v := by
    intro t v ht
    have hlt := (List.getElem?_eq_some_iff.1 ht).1
    rw [Array.getD_eq_getD_getElem?, Array.getElem?_append_left (by simpa using hlt)]
    simp [ht]
  have hrel : Rel ren A w.heap.size w fn.ntmps (fun _ => none) ⟨numbered 0 args, []⟩ { tmps := vals.toArray ++ Array.replicate (fn.ntmps - vals.toArray.size) undef, defers := [] } w := by
    have nob : ∀ n b, blk ⟨numbered 0 args, []⟩ n = some b → False := by
      intro n b hb
      simp [blk, look] at hb
    refine ⟨Below.refl _ _, Nat.le_refl _, rfl, by simp; omega, ?_, ?_, fun n b hb => (nob n b hb).elim, fun n cs hb => (nob n _ hb).elim, fun n m b c _ _ _ hb => (nob n b hb).elim⟩
    · intro t d hd
      rw [look_numbered] at hd
      simp only [Nat.zero_le, if_true, Nat.sub_zero] at hd
      have hlt := (List.getElem?_eq_some_iff.1 hd).1
      have hvt : vals[t]? = some (vals[t]'(by rw [hv.1]; exact hlt)) := List.getElem?_eq_getElem _
      rw [hget t _ hvt]
      exact (hv.2 t _ d hvt hd).lift fun x hx => ⟨hx.1, fun ⟨n, b, _, hb, _⟩ => nob n b hb, fun _ => hx.2⟩
    · intro t d hd
      rw [look_numbered] at hd
      simp only [Nat.zero_le, if_true, Nat.sub_zero] at hd
      have hlt := (List.getElem?_eq_some_iff.1 hd).1
      have hvt : vals[t]? = some (vals[t]'(by rw [hv.1]; exact hlt)) := List.getElem?_eq_getElem _
      exact (hv.2 t _ d hvt hd).noNames _
  refine runC_sound hF hm fd.body c hc3 hrel hk fun e φ' s' a' w' hk' h' => ?_
  have fin : finish fd.res s' = some r → a'.defers = [] ∧ ∃ v, (results fn a'.tmps).run P w' = .ok v w' ∧ ∃ v', Ending.returned v = .returned v' ∧ Below w.heap.size w w' ∧ Res w w' A ren v' r := by
    intro hf
    obtain ⟨v, q1, q2⟩ := finish_sound h' hc2 hf
    exact ⟨h'.dn, v, q1, v, rfl, h'.below, q2⟩
  cases e with
  | nrm => exact fin hk'
  | ex i => cases hk'
  | ret => exact fin hk'
end

/-! ### All of them -/
def PrimOk (P : Program) (ren : Nat → Option Nat) (g : Nat) (p : List DV → Option DV) : Prop :=
  ∀ args r, p args = some r → ∀ (vals : List Value) (w : World) (A : Nat → Prop), RVL w (fun x => x < w.heap.size ∧ A x) ren vals args →
    Does P g vals.toArray w fun v w' => Below w.heap.size w w' ∧ Res w w' A ren v r
inductive FnOk (P : Program) (ren : Nat → Option Nat) (g : Nat) : Fn → Prop
  | code {fd : FD} {fn : Func} {c : Code} : P.funcs[g]? = some fn → fn.body = some c → (fn.name == "runtime.NumGoroutine") = false → chkF P ren fn c fd = true → FnOk P ren g (.code fd)
  | prim {p : List DV → Option DV} : PrimOk P ren g p → FnOk P ren g (.prim p)
theorem fine_all {P : Program} {ren : Nat → Option Nat} {D : Nat → Option Fn} (hm : P.follows .mixedOrders = true) (hall : ∀ f g, ren f = some g → ∀ x, D f = some x → FnOk P ren g x) : ∀ n, Fine P ren (runF D n) := by
  intro n
  induction n with
  | zero => intro f g args r h; cases h
  | succ n ih =>
    intro f g args r h hren vals w A hv
    simp only [runF] at h
    split at h
    · rename_i fd hD
      cases hall f g hren _ hD with
      | code h1 h2 h3 h4 =>
        cases hb : Nat.beq args.length fd.np with
        | false => rw [hb] at h; cases h
        | true =>
          rw [hb, cond_true] at h
          exact fn_sound ih hm h1 h2 h3 h4 (Nat.eq_of_beq_eq_true hb) h hv
    · rename_i p hD
      cases hall f g hren _ hD with
      | prim h1 => exact h1 args r h vals w A hv
    · cases h
end Bz
