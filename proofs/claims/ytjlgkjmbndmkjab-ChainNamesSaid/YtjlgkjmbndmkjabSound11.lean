/- Fields, lengths, functions as values, whole arrays. -/
import Derived.Test.YtjlgkjmbndmkjabSound10
import Derived.Laws.Entries
import Derived.Laws.StructEq
set_option linter.all false
set_option linter.unusedVariables false
namespace Bz
open Go Go.RowKit

def fdOk (P : Program) (t : TypeId) (f off : Nat) (m : Option Nat) : Bool :=
  match P.underlying t with
  | some (.struct fs) => match fs[f]? with
    | some fl => Nat.beq fl.offset off && ldOk P fl.type m
    | none => false
  | _ => false
def ar1Ok (P : Program) (t : TypeId) (n : Nat) : Bool :=
  match P.underlying t with
  | some (.array m el) => Nat.beq m n && (szOk P el 1 && aggOk P el false)
  | _ => false
section
variable {ren : Nat → Option Nat} {A : Nat → Prop} {b0 : Nat} {w0 : World} {N : Nat} {φ : Nat → Option Value} {s : St} {a : Act} {w : World}
variable {P : Program} {o : Oper} {nxt : Act → World → Prop} {Q : Exit → Act → World → Prop} {R : Nat → List DV → Option DV} {k : Eff → Option DV} {r : DV}

theorem toList_getElem? {arr : Array Value} (j : Nat) : arr.toList[j]? = arr[j]? := by simp
theorem run_part1 {t : TypeId} {arr : Array Value} {off : Nat} {v : Value} (hc : aggOk P t false = true) (hv : arr[off]? = some v) : (part t arr off).run P w = .ok v w := by
  simp [part, run_agg hc, hv]
theorem run_partN {t : TypeId} {arr : Array Value} {off m : Nat} (hc : aggOk P t true = true) (hs : szOk P t m = true) : (part t arr off).run P w = .ok (.agg (arr.extract off (off + m))) w := by
  simp [part, run_agg hc, run_sz hs]

theorem s_field {t : TypeId} {f off : Nat} {m : Option Nat} {x : Operand} {x' : Opd} (ho : o.op = .field t x f) (hc : (fdOk P t f off m && opdOk ren x x') = true)
    (h : Rel ren A b0 w0 N φ s a w) (hk : eff R s (.field off m x') k = some r) (hx : Nx ren A b0 w0 N s a k r fun v w' => nxt (a.put o.dst v) w') : o.wp P a w nxt Q := by
  simp only [Bool.and_eq_true] at hc
  simp only [eff] at hk
  replace ⟨dx, hk, h1⟩ := opd_sound h hc.2 hk
  have hf := hc.1
  unfold fdOk at hf
  split at hf
  · rename_i fs hu
    split at hf
    · rename_i fl hfl
      simp only [Bool.and_eq_true] at hf
      obtain rfl := Nat.eq_of_beq_eq_true hf.1
      have hl := hf.2
      split at hk
      · rename_i cs
        obtain ⟨arr, ev, hv⟩ := h1.rv.agg_inv
        have hn : ∀ d ∈ cs, NamesOk (Bnd s) d := by cases h1.nm; assumption
        have hd := hv.drop fl.offset
        split at hk
        · split at hk
          · rename_i c cs' hcs
            rw [hcs] at hd
            obtain ⟨u, vs', e1, _, g2, _⟩ := hd.uncons
            have e2 : arr[fl.offset]? = some u := by
              have : (arr.toList.drop fl.offset)[0]? = some u := by rw [e1]; rfl
              rw [List.getElem?_drop, Nat.add_zero, toList_getElem?] at this; exact this
            refine wp_val (v := u) (w' := w) ?_ (hx.pure hk h ⟨g2, hn _ (List.mem_of_mem_drop (by rw [hcs]; simp))⟩)
            simp only [execOp, ho, ev, Instr.field, asAgg, Sem.run_bind, run_und hu, Result.andThen_ok, hfl, Sem.run_pure, pure_bind, run_part1 hl e2]
          · cases hk
        · rename_i m
          split at hk
          · rename_i ds hds
            have g := hd.takeN hds
            simp only [ldOk, Bool.and_eq_true] at hl
            have e2 : (arr.extract fl.offset (fl.offset + m)).toList = (arr.toList.drop fl.offset).take m := by
              rw [Array.toList_extract, List.extract_eq_take_drop, Nat.add_sub_cancel_left]
            refine wp_val (v := .agg (arr.extract fl.offset (fl.offset + m))) (w' := w) ?_ (hx.pure hk h ⟨.agg (by rw [e2]; exact g.1) (by rw [e2]; exact g.2.1) (by rw [e2]; exact g.2.2), .agg fun d hd' => hn d (List.mem_of_mem_drop (takeN_mem hds d hd'))⟩)
            simp only [execOp, ho, ev, Instr.field, asAgg, Sem.run_bind, run_und hu, Result.andThen_ok, hfl, Sem.run_pure, pure_bind, run_partN hl.1 hl.2]
          · cases hk
      · cases hk
    · cases hf
  · cases hf

theorem s_idxa {t : TypeId} {n : Nat} {x y : Operand} {x' y' : Opd} (ho : o.op = .index t x y) (hc : (ar1Ok P t n && (opdOk ren x x' && opdOk ren y y')) = true)
    (h : Rel ren A b0 w0 N φ s a w) (hk : eff R s (.idxa n x' y') k = some r) (hx : Nx ren A b0 w0 N s a k r fun v w' => nxt (a.put o.dst v) w') : o.wp P a w nxt Q := by
  simp only [Bool.and_eq_true] at hc
  simp only [eff] at hk
  replace ⟨dx, hk, h1⟩ := opd_sound h hc.2.1 hk
  replace ⟨dy, hk, h2⟩ := opd_sound h hc.2.2 hk
  have hf := hc.1
  unfold ar1Ok at hf
  split at hf
  · rename_i m el hu
    simp only [Bool.and_eq_true] at hf
    obtain rfl := Nat.eq_of_beq_eq_true hf.1
    split at hk
    · rename_i τ l j i
      cases hl : Nat.beq l.length m with
      | false => simp [hl] at hk
      | true =>
        simp only [hl, cond_true] at hk
        obtain rfl := Nat.eq_of_beq_eq_true hl
        obtain ⟨q, hq, hk, h0, hlt⟩ := idx_get hk
        split at hk
        · rename_i c hc1
          obtain ⟨arr, ev, hv⟩ := h1.rv.arr_inv
          obtain ⟨us, g1, g2⟩ := hv.elem hq
          rw [hc1] at g1
          obtain ⟨u, vs', rfl, _, g3, _⟩ := g1.uncons
          have he : τ.esz = 1 := by rw [← enc_len τ q, hc1]; rfl
          have e2 : arr[i.toNat * 1]? = some u := by
            have := g2 0 u rfl
            rw [he, Nat.add_zero, toList_getElem?] at this; exact this
          have hcn : NamesOk (Bnd s) c := NamesOk.enc _ τ q c (by rw [hc1]; simp)
          refine wp_val (v := u) (w' := w) ?_ (hx.pure hk h ⟨g3, hcn⟩)
          simp only [execOp, ho, ev, h2.rv.int_inv, Instr.index, asIntOf, pure_bind, Sem.run_bind, run_und hu, Result.andThen_ok, if_pos (And.intro h0 hlt), run_sz hf.2.1, run_part1 hf.2.2 e2, Sem.run_pure]
        · cases hk
    · cases hk
  · cases hf

/-! #### calls of what is built in -/
def lenOk (P : Program) (c : Call) (st : Bool) (x' : Opd) : Bool :=
  match c.callee, c.args.toList, c.argTypes.toList with
  | .builtin .len, [x], [t] => opdOk (fun _ => none) x x' && (match P.underlying t with
    | some .string => st
    | some (.slice _) => !st
    | _ => false)
  | _, _, _ => false
theorem opdOk_none {x : Operand} {x' : Opd} (h : opdOk (fun _ => none) x x' = true) (ren : Nat → Option Nat) : opdOk ren x x' = true := by
  unfold opdOk at h ⊢
  split at h <;> simp_all
theorem arr_eq {α : Type} {xs : Array α} {l : List α} (h : xs.toList = l) : xs = l.toArray := by rw [← h]
theorem s_len {c : Call} {st : Bool} {x' : Opd} (ho : o.op = .call c) (hc : lenOk P c st x' = true)
    (h : Rel ren A b0 w0 N φ s a w) (hk : eff R s (.len st x') k = some r) (hx : Nx ren A b0 w0 N s a k r fun v w' => nxt (a.put o.dst v) w') : o.wp P a w nxt Q := by
  unfold lenOk at hc
  split at hc
  · rename_i x t hcal hargs htys
    simp only [Bool.and_eq_true] at hc
    simp only [eff] at hk
    replace ⟨dx, hk, h1⟩ := opd_sound h (opdOk_none hc.1 ren) hk
    have hargs' := arr_eq hargs
    have htys' := arr_eq htys
    have fin : ∀ (n : Nat) {rd : List Nat}, (Builtin.len_ #[t] o.type #[a.eval x]).run P w = .ok (goInt n) w → k { v := .int .i64 n, rd } = some r → o.wp P a w nxt Q := by
      intro n rd run hk
      refine wp_val (v := .int .i64 n) (w' := w) ?_ (hx.pure hk h ⟨.int _ _, .int _ _⟩)
      simp only [execOp, ho, resolve, hcal, hargs', htys', pure_bind, invoke, builtin, List.map_toArray, List.map_cons, List.map_nil, Sem.run_bind, run, Result.andThen_ok, Sem.run_pure, goInt]
    have hst := hc.2
    split at hst
    · rename_i hu
      cases hst
      split at hk
      · rename_i b _
        refine fin _ ?_ hk
        simp [Builtin.len_, run_und hu, h1.rv.str_inv]
      · exact absurd ‹true = false› (by decide)
      · exact absurd ‹true = false› (by decide)
      · exact absurd ‹true = false› (by decide)
      · cases hk
    · rename_i e hu
      simp only [Bool.not_eq_true'] at hst
      subst hst
      have key : ∀ (ad : Option Addr) (n cap : Nat), a.eval x = .slice ad n cap → (Builtin.len_ #[t] o.type #[a.eval x]).run P w = .ok (goInt n) w := by
        intro ad n cap ev
        simp [Builtin.len_, run_und hu, ev]
      split at hk
      · exact absurd ‹false = true› (by decide)
      · rename_i τ l _
        obtain ⟨ad, cap, vals, ev, hcap, hv, hm⟩ := h1.rv.sl_inv
        exact fin _ (key _ _ _ ev) hk
      · rename_i τ _
        have : ∃ ad, a.eval x = .slice ad 0 0 := h1.rv.nsl_inv
        obtain ⟨ad, ev⟩ := this
        exact fin 0 (key _ _ _ ev) hk
      · rename_i n _
        split at hk
        · rename_i τ l hb
          obtain ⟨hd, hφ, hR, _⟩ := h.sto n _ hb
          have e1 := h1.rv.lsl_inv
          rw [hφ] at e1; cases e1
          obtain ⟨ad, cap, ev, hcap, hor⟩ := hR
          exact fin _ (key _ _ _ ev) hk
        · cases hk
      · cases hk
    · cases hst
  · cases hc

/-! #### functions as values -/
theorem OpL.caps {vs : List Value} {ds : List DV} (h : OpL ren A b0 φ s w vs ds) : vs.length = ds.length ∧ (∀ (j : Nat) (v : Value) (d : DV), vs[j]? = some v → ds[j]? = some d → RV w (Gd A b0 s φ w) φ ren v d) ∧ ∀ d ∈ ds, NamesOk (Bnd s) d := by
  induction h with
  | nil => exact ⟨rfl, by simp, by simp⟩
  | cons h1 h2 ih =>
    refine ⟨by simp [ih.1], fun j v d hj hd => ?_, by simpa using ⟨h1.nm, ih.2.2⟩⟩
    cases j with
    | zero => simp at hj hd; subst hj; subst hd; exact h1.rv
    | succ j => simp at hj hd; exact ih.2.1 j v d hj hd
theorem s_mkfn {f g : Nat} {cs : Array Operand} {cs' : List Opd} {first : Array Operand} (ho : o.op = .makeFunc (.func g) first cs) (hc : (first.size == 0 && (ren f == some g && opdsOk ren cs.toList cs')) = true)
    (h : Rel ren A b0 w0 N φ s a w) (hk : eff R s (.mkfn f cs') k = some r) (hx : Nx ren A b0 w0 N s a k r fun v w' => nxt (a.put o.dst v) w') : o.wp P a w nxt Q := by
  simp only [Bool.and_eq_true, beq_iff_eq] at hc
  simp only [eff] at hk
  replace ⟨ds, hk, h1⟩ := opds_sound h hc.2.2 hk
  have hcaps := h1.caps
  have hf : first = #[] := Array.eq_empty_of_size_eq_zero hc.1
  subst hf
  refine wp_val (v := .func (.func g) #[] (cs.map a.eval)) (w' := w) (by simp [execOp, ho, Instr.makeFunc]) (hx.pure hk h ⟨.fn hc.2.1 (by simpa using hcaps.1) (fun j v d hj hd => ?_), .fn _ hcaps.2.2⟩)
  exact hcaps.2.1 j v d (by simpa using hj) hd

/-! #### whole arrays -/
/-- The cells of an array one after another. -/
theorem arr_cells {G : Nat → Prop} {τ : Ty} {r2 : Nat} (p : Nat) (l : List (El τ)) : (∀ i x, l[i]? = some x → ∃ vs, RVs w G φ ren vs (enc τ x) ∧ Has w r2 (p + i * τ.esz) vs) →
    ∃ vs, RVs w G φ ren vs (l.flatMap (enc τ)) ∧ Has w r2 p vs := by
  induction l generalizing p with
  | nil => exact fun _ => ⟨[], .nil, fun j v hj => by simp at hj⟩
  | cons x l ih =>
    intro hh
    obtain ⟨vs, k1, k2⟩ := hh 0 x rfl
    obtain ⟨us, k3, k4⟩ := ih (p + τ.esz) (fun i y hi => by
      obtain ⟨vs, q1, q2⟩ := hh (i + 1) y (by simpa using hi)
      exact ⟨vs, q1, by rw [show p + τ.esz + i * τ.esz = p + (i + 1) * τ.esz by rw [Nat.add_mul]; omega]; exact q2⟩)
    refine ⟨vs ++ us, by rw [List.flatMap_cons]; exact k1.append k3, fun j v hj => ?_⟩
    have hvl : vs.length = τ.esz := by rw [k1.1, enc_len]
    by_cases hlt : j < vs.length
    · rw [List.getElem?_append_left hlt] at hj
      simpa using k2 j v hj
    · rw [List.getElem?_append_right (by omega)] at hj
      have := k4 _ v hj
      rwa [show p + τ.esz + (j - vs.length) = p + j by omega] at this
theorem s_loada {t : TypeId} {m : Nat} {x : Operand} {x' : Opd} (ho : o.op = .load t x) (hc : (ldOk P t (some m) && opdOk ren x x') = true)
    (h : Rel ren A b0 w0 N φ s a w) (hk : eff R s (.loada m x') k = some r) (hx : Nx ren A b0 w0 N s a k r fun v w' => nxt (a.put o.dst v) w') : o.wp P a w nxt Q := by
  simp only [Bool.and_eq_true] at hc
  simp only [eff] at hk
  replace ⟨dx, hk, h1⟩ := opd_sound h hc.2 hk
  split at hk
  · rename_i n
    split at hk
    · rename_i τ l hb
      cases hm : Nat.beq (l.length * τ.esz) m with
      | false => simp [hm] at hk
      | true =>
      simp only [hm, cond_true] at hk
      obtain rfl := Nat.eq_of_beq_eq_true hm
      obtain ⟨hd, hφ, hR, _⟩ := h.sto n _ hb
      obtain ⟨hd', rb, b, hφ', hbs, ev⟩ := h1.rv.loc_inv
      rw [hφ] at hφ'; cases hφ'
      obtain ⟨r2, rfl, g1, g2⟩ := hR
      simp only [hbase, Option.some.injEq, Prod.mk.injEq] at hbs
      obtain ⟨rfl, rfl⟩ := hbs
      have hl := hc.1
      simp only [ldOk, Bool.and_eq_true] at hl
      obtain ⟨vs, k1, k2⟩ := arr_cells 0 l (fun i x hi => by simpa using g2 i x hi)
      have hlen : vs.length = l.length * τ.esz := by rw [k1.1, flat_len]
      refine wp_val (v := .agg vs.toArray) (w' := w) ?_ (hx.pure hk h ⟨.arr (by simpa using k1.1) (by simpa using k1.2.1) (by simpa using k1.2.2), .arr _ _⟩)
      have hcell : ∀ j u, vs[j]? = some u → w.cell? ((⟨r2, 0 + 0, none⟩ : Addr).add j) = some u := by
        intro j u hj
        rw [Addr.add_none]
        simpa using k2 j u hj
      simp only [execOp, ho, ev, Instr.loadAt, Instr.sureAddr, pure_bind, Sem.run_bind, run_loadVarN hl.1 (by rw [hlen]; exact hl.2) hcell, Result.andThen_ok, Sem.run_pure]
    · cases hk
  · cases hk

theorem castL_some {σ τ : Ty} {l : List (El σ)} {m : List (El τ)} (h : castL σ τ l = some m) : ∃ e : σ = τ, m = e ▸ l := by
  unfold castL at h
  split at h
  · rename_i e _; simp only [Option.some.injEq] at h; exact ⟨e, h.symm⟩
  · cases h
theorem s_storea {t : TypeId} {m : Nat} {x y : Operand} {x' y' : Opd} (ho : o.op = .store t x y) (hc : (szOk P t m && (opdOk ren x x' && opdOk ren y y')) = true)
    (h : Rel ren A b0 w0 N φ s a w) (hk : eff R s (.storea m x' y') k = some r) (hx : Nx ren A b0 w0 N s a k r fun v w' => nxt (a.put o.dst v) w') : o.wp P a w nxt Q := by
  simp only [Bool.and_eq_true] at hc
  simp only [eff] at hk
  replace ⟨dx, hk, h1⟩ := opd_sound h hc.2.1 hk
  replace ⟨dy, hk, h2⟩ := opd_sound h hc.2.2 hk
  split at hk
  · rename_i n τ l
    split at hk
    · rename_i σ q hb
      split at hk
      · rename_i q' hq'
        obtain ⟨rfl, rfl⟩ := castL_some hq'
        cases hm : (Nat.beq q'.length l.length && Nat.beq (l.length * σ.esz) m) with
        | false => simp [hm] at hk
        | true =>
        simp only [hm, cond_true] at hk
        simp only [Bool.and_eq_true] at hm
        have hql := Nat.eq_of_beq_eq_true hm.1
        obtain rfl := Nat.eq_of_beq_eq_true hm.2
        obtain ⟨hd, hφ, hR, _⟩ := h.sto n _ hb
        obtain ⟨hd', rb, b, hφ', hbs, ev⟩ := h1.rv.loc_inv
        rw [hφ] at hφ'; cases hφ'
        obtain ⟨r2, rfl, g1, g2⟩ := hR
        simp only [hbase, Option.some.injEq, Prod.mk.injEq] at hbs
        obtain ⟨rfl, rfl⟩ := hbs
        obtain ⟨arr, ey, hv⟩ := h2.rv.arr_inv
        have hlen : (a.eval y).cells.toList.length = l.length * σ.esz := by rw [ey, ← flat_len]; exact hv.1
        have hvc : RVs w (Gd A b0 s φ w) φ ren (a.eval y).cells.toList (l.flatMap (enc σ)) := by rw [ey]; exact hv
        have hw : ∀ j, j < (a.eval y).cells.toList.length → (∃ v, w.cell? ⟨r2, 0 + 0 + j, none⟩ = some v) ∧ w.frozen? ⟨r2, 0 + 0 + j, none⟩ = false := by
          intro j hj
          have := g1 j (by rw [hql]; omega)
          simpa using this
        have hcell : ∀ j, j < (a.eval y).cells.toList.length → (w.cell? ⟨r2, 0 + 0 + j, none⟩).isSome = true := by
          intro j hj; obtain ⟨⟨v, hv⟩, _⟩ := hw j hj; rw [hv]; rfl
        have run := run_storeVar' (P := P) (w := w) (t := t) (v := a.eval y) (by rw [hlen]; exact hc.1) hcell (fun j hj => (hw j hj).2) hvc.2.1
        have hT := setCells_turn r2 (a.eval y).cells.toList (0 + 0) w
        have hG : ∀ r, Gd A b0 s φ w r → Gd A b0 s φ (w.setCells r2 (0 + 0) (a.eval y).cells.toList) r := fun r hr => ⟨by rw [setCells_size]; exact hr.1, hr.2⟩
        have hRel := h.write (w' := w.setCells r2 (0 + 0) (a.eval y).cells.toList) (b' := .arr σ l) hb hφ
          ⟨hT.os, hT.tape, hT.output, hT.size, fun k hk hx => hT.block k hk fun e => hx (by simp [ownr, e])⟩ (setCells_size _ _ _ _)
          ⟨r2, rfl, setCells_wri (by rw [← hql]; exact g1) hcell, fun i x hi => by
            obtain ⟨us, k1, k2⟩ := hvc.elem hi
            refine ⟨us, k1.mono hG (fun x hx => hT.cell hx.1 fun e => hx.2.1 ⟨n, _, _, hb, hφ, by simp [ownr, e]⟩) (fun d hd => NamesOk.enc _ σ x d hd), fun j u hj => ?_⟩
            have h3 := k2 j u hj
            have hlt := (List.getElem?_eq_some_iff.1 h3).1
            have := World.cell?_setCells_in r2 (a.eval y).cells.toList (0 + 0) w hcell (i * σ.esz + j) hlt
            rw [show i * σ.esz + j = 0 + 0 + (i * σ.esz + j) by omega, this, ← h3, List.getElem?_eq_getElem hlt]⟩
          (fun cs2 h2 d hd => by cases h2) (by simp)
        refine wp_skp (w' := w.setCells r2 (0 + 0) (a.eval y).cells.toList) ?_ (hx undef _ _ φ hk hRel ⟨.skp, .skp⟩)
        simp only [execOp, ho, ev, Instr.storeAt, Instr.sureAddr, pure_bind, Sem.run_bind, run, Result.andThen_ok, Sem.run_pure]
      · cases hk
    · cases hk
  · cases hk
end
end Bz
