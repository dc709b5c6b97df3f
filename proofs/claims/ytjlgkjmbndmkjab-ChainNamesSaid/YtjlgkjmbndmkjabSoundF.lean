/- A full slice, and what is laid behind it. -/
import Derived.Test.YtjlgkjmbndmkjabSound17
set_option linter.all false
set_option linter.unusedVariables false
namespace Bz
open Go Go.RowKit
section
variable {P : Program} {ren : Nat → Option Nat} {A : Nat → Prop} {b0 : Nat} {w0 : World} {N : Nat} {φ : Nat → Option Value} {s : St} {a : Act} {w : World} {o : Oper} {k : Eff → Option DV} {r : DV} {R : Nat → List DV → Option DV}
  {nxt : Act → World → Prop} {Q : Exit → Act → World → Prop}
theorem s_bslicef {t : TypeId} {len : Nat} {parts : Array (Nat × Operand)} {τ : Ty} {l : List (El τ)} {qs : List (Nat × Opd)} (ho : o.op = .buildSlice t len parts) (hc : bsliceOk P ren t len parts.toList τ l qs = true)
    (h : Rel ren A b0 w0 N φ s a w) (hk : eff R s (.bslicef τ l qs) k = some r) (hx : Nx ren A b0 w0 N s a k r fun v w' => nxt (a.put o.dst v) w') : o.wp P a w nxt Q := by
  unfold bsliceOk at hc
  simp only [Bool.and_eq_true] at hc
  obtain ⟨hel, hlen, h1le, hsm, hidx⟩ := hc
  obtain rfl := Nat.eq_of_beq_eq_true hlen
  simp only [eff] at hk
  replace ⟨ds, hk, h1⟩ := opds_parts h (idxOk_opds hidx) hk
  split at hk
  · rename_i l' hl'
    obtain ⟨el, i, z, hu, hi, hz, e1, e2, e3, e4⟩ := elOk_get hel
    have hv := made_rvs (w := w) (G := Gd A b0 s φ w) (φ := φ) (ren := ren) e3 fun x hx => (zcOk_rv (e4 x hx) (w := w) (G := Gd A b0 s φ w) (φ := φ) (ren := ren) (by simp) (Bnd s) (by simp)).1
    obtain ⟨z', f1, f2, f3⟩ := filla_sound (idxOk_pta hidx h1) hv hl'
    have run := run_buildSlice1 (P := P) w t el l.length (parts.map fun (i, x) => (i, a.eval x)) z' i z hu hi hz (by rw [e1]; have := Nat.le_of_ble_eq_true hsm; omega)
      (by rw [e1, Array.toList_map]; exact f1)
    have run' : (execOp a.eval o).run P w = .ok (.value (.slice (some ⟨w.heap.size, 0, none⟩) l.length l.length)) (w.alloc (.cells z' el)) := by
      simp only [execOp, ho, Sem.run_bind, run, Result.andThen_ok, Sem.run_pure]
    rw [← f3] at run'
    have := newSl h (arr := z') (t := el) f2
    exact wp_val run' (hx _ _ _ φ hk this.1 ⟨.fsl this.2.rv, .fsl _ _⟩)
  · cases hk
/-- A new slice, with room behind its end. -/
theorem newSlCap (h : Rel ren A b0 w0 N φ s a w) {arr : Array Value} {t : TypeId} {τ : Ty} {l : List (El τ)} {vs : List Value} {rest : List Value} {cap : Nat} (hcap : l.length ≤ cap) (harr : arr.toList = vs ++ rest)
    (hv : RVs w (Gd A b0 s φ w) φ ren vs (l.flatMap (enc τ))) :
    Rel ren A b0 w0 N φ s a (w.alloc (.cells arr t)) ∧ Op1 ren A b0 φ s (w.alloc (.cells arr t)) (.slice (some ⟨w.heap.size, 0, none⟩) l.length cap) (.sl τ l) := by
  have ht : Turn w (w.alloc (.cells arr t)) fun _ => False := Turn.alloc w _ _
  have h0 := h.turn0 ht
  have hgd : Gd A b0 s φ (w.alloc (.cells arr t)) w.heap.size := by
    refine ⟨by simp, ?_, fun hlt => ?_⟩
    · rintro ⟨n, b, hd, g1, g2, g3⟩
      obtain ⟨k', q1, _, q3⟩ := h.sto n b g1
      rw [g2] at q1; cases q1
      have := (q3 _ g3).2; omega
    · have := h.b0le; omega
  have key : ∀ i, ∃ us : List Value, ∀ x, l[i]? = some x → RVs w (Gd A b0 s φ w) φ ren us (enc τ x) ∧ ∀ j u, us[j]? = some u → vs[i * τ.esz + j]? = some u := by
    intro i
    cases hi : l[i]? with
    | none => exact ⟨[], fun x hx => by cases hx⟩
    | some x => obtain ⟨us, g1, g2⟩ := hv.elem hi; exact ⟨us, fun y hy => by cases hy; exact ⟨g1, g2⟩⟩
  let vals : Nat → List Value := fun i => (key i).choose
  have hvals : ∀ i x, l[i]? = some x → RVs w (Gd A b0 s φ w) φ ren (vals i) (enc τ x) ∧ ∀ j u, (vals i)[j]? = some u → vs[i * τ.esz + j]? = some u := fun i => (key i).choose_spec
  have hm : ∀ i x, l[i]? = some x → RVs (w.alloc (.cells arr t)) (Gd A b0 s φ (w.alloc (.cells arr t))) φ ren (vals i) (enc τ x) :=
    fun i x hi => (hvals i x hi).1.mono h0.2 (fun x hx => ht.cell hx.1 id) (fun d hd => NamesOk.enc _ τ x d hd)
  refine ⟨h0.1, .sl vals rfl hcap (fun i x hi => (hm i x hi).1) (fun i x hi => (hm i x hi).2.1) (fun i x hi => (hm i x hi).2.2) (fun i x hi j v hj => ?_), .sl _ _⟩
  refine ⟨_, _, rfl, hgd, ?_⟩
  rw [show 0 + i * τ.esz + j = 0 + (i * τ.esz + j) by omega]
  have h3 := (hvals i x hi).2 j v hj
  have hlt := (List.getElem?_eq_some_iff.1 h3).1
  exact new_has w arr t _ _ (by rw [harr, List.getElem?_append_left hlt]; exact h3)
theorem s_appf {c : Call} {τ : Ty} {x' y' : Opd} (ho : o.op = .call c) (hc : appOk P ren c τ x' y' = true)
    (h : Rel ren A b0 w0 N φ s a w) (hk : eff R s (.appf τ x' y') k = some r) (hx : Nx ren A b0 w0 N s a k r fun v w' => nxt (a.put o.dst v) w') : o.wp P a w nxt Q := by
  unfold appOk at hc
  split at hc
  · rename_i x y t u hcal hargs htys
    simp only [Bool.and_eq_true] at hc
    have hu := hc.2.2
    split at hu
    · rename_i du hdu
      obtain ⟨el, i, z, ht, hi, hz, e1, e2, e3⟩ := prior_cap hc.2.1
      simp only [eff] at hk
      replace ⟨dx, hk, h1⟩ := opd_sound h hc.1.1 hk
      replace ⟨dy, hk, h2⟩ := opd_sound h hc.1.2 hk
      split at hk
      · rename_i σ l0
        split at hk
        · rename_i l1 hl1
          obtain ⟨rfl, rfl⟩ := castL_some hl1
          obtain ⟨l2, rd, new, hk, n1, n2⟩ := app_y (P := P) h h2 hk
          have hargs' := arr_eq hargs
          have htys' := arr_eq htys
          have fin : ∀ (v : Value) (w' : World), (Builtin.append_ #[t, u] o.type #[a.eval x, a.eval y]).run P w = .ok v w' → nxt (a.put o.dst v) w' → o.wp P a w nxt Q := by
            intro v w' run hn
            refine wp_val (v := v) (w' := w') ?_ hn
            simp only [execOp, ho, resolve, hcal, hargs', htys', pure_bind, invoke, builtin, List.map_toArray, List.map_cons, List.map_nil, Sem.run_bind, run, Result.andThen_ok, Sem.run_pure]
          have hbp : 0 < i.bytes := by rw [e2]; exact bytes_pos σ
          rw [← e1] at n2
          simp only [gd] at hk
          cases hg : room σ (l1.length + l2.length) with
          | false => simp [hg] at hk
          | true =>
          simp only [hg, cond_true] at hk
          have hrm := room_le hg
          have hle : l1.length + l2.length ≤ 140737488355328 := Nat.le_trans (Nat.le_mul_of_pos_right _ (bytes_pos σ)) hrm
          have hsl : ∃ ad, a.eval x = .slice ad l1.length l1.length ∧ RV w (Gd A b0 s φ w) φ ren (.slice ad l1.length l1.length) (.sl σ l1) := by
            generalize hv : a.eval x = v at h1
            cases h1.rv with
            | fsl h3 => exact ⟨_, rfl, h3⟩
          obtain ⟨ad, ev, hrv⟩ := hsl
          obtain ⟨ad', cap', old, ev', o1, o2⟩ := src_sl (P := P) hrv
          cases ev'
          rw [← e1] at o2
          by_cases hz0 : l2.length = 0
          · have hl2 : l2 = [] := List.eq_nil_of_length_eq_zero hz0
            subst hl2
            have hnew : new = [] := n1.unnil
            subst hnew
            have run := run_app_fit (P := P) (w := w) (ty := o.type) ht hdu hu hi (base := ad) (sLen := l1.length) (sCap := l1.length) n2 (by simp) (w' := w) (fun ad _ => by simp [storeCells]) (fun _ => rfl)
            rw [← ev] at run
            refine fin _ _ run (hx.pure hk h ⟨?_, .sl _ _⟩)
            rw [List.append_nil]
            simpa using hrv
          · have run := run_app_grow (P := P) (w := w) (ty := o.type) ht hdu hu hi hz (sLen := l1.length) (sCap := l1.length) o2 n2 (by omega) (by omega) hbp (by rw [e2]; exact hrm)
            rw [← ev] at run
            have hcap := le_grownCap (w := w) (l1.length + l2.length) l1.length el
            have hRn : RVs w (Gd A b0 s φ w) φ ren (old ++ new) ((l1 ++ l2).flatMap (enc σ)) := by rw [List.flatMap_append]; exact o1.append n1
            have := newSlCap (h.drew) (t := el) (τ := σ) (l := l1 ++ l2) (cap := grownCap w (l1.length + l2.length) l1.length el) (vs := old ++ new) (rest := (Builtin.zeroCells z.cells (grownCap w (l1.length + l2.length) l1.length el - (l1.length + l2.length))).toList)
              (arr := old.toArray ++ new.toArray ++ Builtin.zeroCells z.cells (grownCap w (l1.length + l2.length) l1.length el - (l1.length + l2.length))) (by rw [List.length_append]; exact hcap) (by simp) (flat_drew hRn)
            refine fin _ _ run (hx _ _ _ φ hk this.1 ?_)
            have h4 := this.2
            rw [List.length_append] at h4
            exact h4
        · cases hk
      · cases hk
    · cases hu
  · cases hc
end
end Bz
