/- Copy, a row cut, values compared. -/
import Derived.Test.YtjlgkjmbndmkjabSound13
set_option linter.all false
set_option linter.unusedVariables false
namespace Bz
open Go Go.RowKit

section
variable {ren : Nat → Option Nat} {A : Nat → Prop} {b0 : Nat} {w0 : World} {N : Nat} {φ : Nat → Option Value} {s : St} {a : Act} {w : World}
variable {P : Program} {o : Oper} {nxt : Act → World → Prop} {Q : Exit → Act → World → Prop} {R : Nat → List DV → Option DV} {k : Eff → Option DV} {r : DV}

def copyOk (P : Program) (ren : Nat → Option Nat) (c : Call) (e : Nat) (x' y' : Opd) : Bool :=
  match c.callee, c.args.toList, c.argTypes.toList with
  | .builtin .copy, [x, y], t :: u => (opdOk ren x x' && opdOk ren y y') && slOk P t e
  | _, _, _ => false
/-- Every element of a row is another. -/
theorem elems_all {G G' : Nat → Prop} {τ : Ty} {l m : List (El τ)} {rb b cap : Nat} {us : List Value} (hw : Wri w rb b (cap * τ.esz)) (hl : l.length ≤ cap) (hml : m.length = l.length)
    (hu : RVs w G φ ren us (m.flatMap (enc τ))) :
    (∀ j, j < us.length → (w.cell? ⟨rb, b + j, none⟩).isSome = true) ∧ (∀ j, j < us.length → w.frozen? ⟨rb, b + j, none⟩ = false) ∧ Wri (w.setCells rb b us) rb b (cap * τ.esz) ∧
    ((∀ r, G r → G' r) → (∀ a : Addr, G a.block → (w.setCells rb b us).cell? a = w.cell? a) →
      ∀ j z, m[j]? = some z → ∃ vs, RVs (w.setCells rb b us) G' φ ren vs (enc τ z) ∧ Has (w.setCells rb b us) rb (b + j * τ.esz) vs) := by
  have hul : us.length = l.length * τ.esz := by rw [hu.1, flat_len, hml]
  have hle := Nat.mul_le_mul_right τ.esz hl
  have hcell : ∀ j, j < us.length → (w.cell? ⟨rb, b + j, none⟩).isSome = true := by
    intro j hj; obtain ⟨⟨v, hv⟩, _⟩ := hw j (by omega); rw [hv]; rfl
  refine ⟨hcell, fun j hj => (hw j (by omega)).2, setCells_wri hw hcell, fun hG hcl i x hi => ?_⟩
  obtain ⟨vs, k1, k2⟩ := hu.elem hi
  refine ⟨vs, k1.mono hG hcl (fun d hd => NamesOk.enc _ τ x d hd), fun j u hj => ?_⟩
  have h3 := k2 j u hj
  have hlt := (List.getElem?_eq_some_iff.1 h3).1
  have := World.cell?_setCells_in rb us b w hcell _ hlt
  rw [Nat.add_assoc, this, ← h3, List.getElem?_eq_getElem hlt]
theorem row_cap {hd : Value} {G : Nat → Prop} {τ : Ty} {l : List (El τ)} (h : RB w G φ ren hd (.row τ l)) : ∃ ad cap, hd = .slice ad l.length cap ∧ l.length ≤ cap ∧ ((cap = 0 ∧ l = []) ∨ ∃ r b, cap ≠ 0 ∧ ad = some ⟨r, b, none⟩ ∧ ownr hd = some r ∧ Wri w r b (cap * τ.esz) ∧
      ∀ i x, l[i]? = some x → ∃ vs, RVs w G φ ren vs (enc τ x) ∧ Has w r (b + i * τ.esz) vs) := by
  obtain ⟨ad, cap, rfl, hcap, hor⟩ := h
  refine ⟨ad, cap, rfl, hcap, ?_⟩
  cases cap with
  | zero => exact .inl ⟨rfl, List.eq_nil_of_length_eq_zero (by omega)⟩
  | succ cap =>
    rcases hor with hz | ⟨r, b, rfl, g1, g2⟩
    · cases hz
    · exact .inr ⟨r, b, by omega, rfl, rfl, g1, g2⟩
theorem s_copy {c : Call} {e : Nat} {x' y' : Opd} (ho : o.op = .call c) (hc : copyOk P ren c e x' y' = true)
    (h : Rel ren A b0 w0 N φ s a w) (hk : eff R s (.copy e x' y') k = some r) (hx : Nx ren A b0 w0 N s a k r fun v w' => nxt (a.put o.dst v) w') : o.wp P a w nxt Q := by
  unfold copyOk at hc
  split at hc
  · rename_i x y t u hcal hargs htys
    simp only [Bool.and_eq_true] at hc
    simp only [eff] at hk
    replace ⟨dx, hk, h1⟩ := opd_sound h hc.1.1 hk
    replace ⟨dy, hk, h2⟩ := opd_sound h hc.1.2 hk
    have hargs' := arr_eq hargs
    have htys' := arr_eq htys
    obtain ⟨el, hu, hs⟩ := slOk_get hc.2
    split at hk
    · rename_i n σ m
      split at hk
      · rename_i τ l hb
        split at hk
        · rename_i m' hm'
          obtain ⟨rfl, rfl⟩ := castL_some hm'
          cases hg : (Nat.beq m'.length l.length && Nat.beq e σ.esz) with
          | false => simp [hg] at hk
          | true =>
          simp only [hg, cond_true] at hk
          simp only [Bool.and_eq_true] at hg
          have hml := Nat.eq_of_beq_eq_true hg.1
          obtain rfl := Nat.eq_of_beq_eq_true hg.2
          obtain ⟨hd, hφ, hR, hown⟩ := h.sto n _ hb
          have e4 := h1.rv.lsl_inv
          rw [hφ] at e4; cases e4
          obtain ⟨ad2, cap2, arr, ev2, a1, a2⟩ := src_sl (P := P) h2.rv
          obtain ⟨ad, cap, ev, hcap, hor⟩ := row_cap hR
          have fin : ∀ (w' : World), (∀ x, ad = some x → (storeCells x arr).run P w = .ok () w') → (ad = none → w' = w) → nxt (a.put o.dst (.int .i64 m'.length)) w' → o.wp P a w nxt Q := by
            intro w' run1 run2 hn
            have hlf := a2.len w
            have hmin : Nat.min m'.length l.length = m'.length := by rw [hml]; exact Nat.min_self _
            have run : (Builtin.copy_ c.argTypes o.type #[a.eval x, a.eval y]).run P w = .ok (goInt m'.length) w' := by
              have hnow := a2.now
              rw [ev2] at hlf hnow
              rw [ev, ev2, htys']
              cases ad with
              | none =>
                rw [run2 rfl]
                simp [Builtin.copy_, run_und hu, hlf, run_sz hs, hmin, hnow]
              | some x =>
                simp [Builtin.copy_, run_und hu, hlf, run_sz hs, hmin, hnow, run1 x rfl]
            refine wp_val (v := .int .i64 m'.length) (w' := w') ?_ hn
            simp only [execOp, ho, resolve, hcal, hargs', pure_bind, invoke, builtin, List.map_toArray, List.map_cons, List.map_nil, Sem.run_bind, run, Result.andThen_ok, Sem.run_pure, goInt]
          rcases hor with ⟨hc0, rfl⟩ | ⟨rb, b, hc0, rfl, hown', g3, g4⟩
          · have hm0 : m' = [] := List.eq_nil_of_length_eq_zero hml
            subst hm0
            have harr : arr = [] := a1.unnil
            subst harr
            have hRel := h.write (w' := w) (b' := .row σ []) hb hφ (Turn.refl w _) rfl hR (fun cs2 h2 d hd => by cases h2) (by simp)
            exact fin w (fun x _ => by simp [storeCells]) (fun _ => rfl) (hx _ _ _ φ hk hRel ⟨.int _ _, .int _ _⟩)
          · have key := elems_all (l := l) (m := m') (G' := Gd A b0 s φ (w.setCells rb b arr)) g3 hcap hml a1
            have hst := run_storeCells_cells (P := P) rb b arr 0 w (by simpa using key.1) (by simpa using key.2.1) a1.2.1
            have hT := setCells_turn rb arr b w
            have hRel := h.write (w' := w.setCells rb b arr) (b' := .row σ m') hb hφ
              ⟨hT.os, hT.tape, hT.output, hT.size, fun k hk hx => hT.block k hk fun e => hx (by rw [hown', e])⟩ (setCells_size _ _ _ _)
              ⟨_, cap, by rw [ev, hml], by rw [hml]; exact hcap, .inr ⟨rb, b, rfl, key.2.2.1, key.2.2.2 (fun r hr => ⟨by rw [setCells_size]; exact hr.1, hr.2⟩)
                (fun x hx => hT.cell hx.1 fun e => hx.2.1 ⟨n, _, _, hb, hφ, by rw [hown', e]⟩)⟩⟩
              (fun cs2 h2 d hd => by cases h2) (by simp)
            exact fin _ (fun x hx => by cases hx; simpa using hst) (fun e => by cases e) (hx _ _ _ φ hk hRel ⟨.int _ _, .int _ _⟩)
        · cases hk
      · cases hk
    · cases hk
  · cases hc

/-- A row keeps a part of itself. -/
theorem s_smv {t : TypeId} {nm e : Nat} {x : Operand} {x' : Opd} {lo hi : Option Operand} {lo' hi' : Option Opd} (ho : o.op = .slice t x lo hi none)
    (hc : (slOk P t e && (opdOk ren x x' && (optOk ren lo lo' && optOk ren hi hi'))) = true)
    (h : Rel ren A b0 w0 N φ s a w) (hk : eff R s (.smv nm e x' lo' hi') k = some r) (hx : Nx ren A b0 w0 N s a k r fun v w' => nxt (a.put o.dst v) w') : o.wp P a w nxt Q := by
  simp only [Bool.and_eq_true] at hc
  simp only [eff] at hk
  replace ⟨dx, hk, h1⟩ := opd_sound h hc.2.1 hk
  replace ⟨dl, hk, h2⟩ := opdO_sound h hc.2.2.1 hk
  replace ⟨dh, hk, h3⟩ := opdO_sound h hc.2.2.2 hk
  split at hk
  · rename_i n lo2 hi2 el eh
    split at hk
    · rename_i τ l hb
      cases hg : (Nat.beq nm n && Nat.beq e τ.esz) with
      | false => simp [hg] at hk
      | true =>
      simp only [hg, cond_true] at hk
      simp only [Bool.and_eq_true] at hg
      obtain rfl := Nat.eq_of_beq_eq_true hg.1
      obtain rfl := Nat.eq_of_beq_eq_true hg.2
      obtain ⟨i, j, hk, c1, c2, c3, c4⟩ := cut_get hk
      obtain ⟨elt, hu, hs⟩ := slOk_get hc.1
      obtain ⟨hd, hφ, hR, hown⟩ := h.sto nm _ hb
      have e4 := h1.rv.lsl_inv
      rw [hφ] at e4; cases e4
      obtain ⟨ad, cap, ev, hcap, hor⟩ := row_cap hR
      have run : (Instr.sliceAt t (.slice ad l.length cap) (lo.map a.eval) (hi.map a.eval) none).run P w = .ok (.slice (if cap = i then ad else ad.map (·.add (i * τ.esz))) (j - i) (cap - i)) w := by
        simp only [Instr.sliceAt, Sem.run_bind, run_und hu, Result.andThen_ok, Instr.slice, Sem.run_pure, run_sz hs,
          run_bounds (P := P) (w := w) (b := true) (h2 _ el) (h3 _ eh) c1 c2 hcap c3 c4]
      have hlen : ((l.take j).drop i).length = j - i := by simp; omega
      have hget : ∀ (p : Nat) (x : El τ), ((l.take j).drop i)[p]? = some x → l[i + p]? = some x := by
        intro p x hp
        have hp' : p < j - i := by rw [← hlen]; exact (List.getElem?_eq_some_iff.1 hp).1
        rw [List.getElem?_drop, List.getElem?_take_of_lt (by omega)] at hp
        exact hp
      have hob : ∀ r, ownr (.slice (if cap = i then ad else ad.map (·.add (i * τ.esz))) (j - i) (cap - i)) = some r → ownr (a.eval x) = some r := by
        intro r hr
        cases hci : cap - i with
        | zero => rw [hci] at hr; revert hr; generalize (if cap = i then ad else ad.map (·.add (i * τ.esz))) = q; intro hr; cases q <;> cases hr
        | succ c =>
          rw [hci, if_neg (by omega)] at hr
          rw [ev]
          cases ad with
          | none => cases hr
          | some ad =>
            cases cap with
            | zero => omega
            | succ cap =>
              rcases hor with ⟨hc0, _⟩ | ⟨rb, b, hc0, had, hown', g3, g4⟩
              · cases hc0
              · cases had
                simpa [ownr, Addr.add_none] using hr
      have := h.onBind (e := { v := .lsl nm, bl := [(nm, .row τ ((l.take j).drop i))], pg := [nm], rd := [nm] }) (nm := nm) (b' := .row τ ((l.take j).drop i))
        (k := .slice (if cap = i then ad else ad.map (·.add (i * τ.esz))) (j - i) (cap - i)) (w' := w) (by simp) (.inl ⟨rfl, .inr rfl⟩) trivial (.inl (by simp)) (Turn.refl w _)
        (fun r hr => ⟨(hown r (hob r hr)).2, .inr ⟨nm, _, _, by simp, hb, hφ, hob r hr⟩⟩)
        (fun hG => ⟨_, cap - i, by rw [hlen], by rw [hlen]; omega, by
          by_cases hci : cap = i
          · exact .inl (by omega)
          · rcases hor with ⟨hc0, _⟩ | ⟨rb, b, hc0, rfl, hown', g3, g4⟩
            · exact .inl (by omega)
            · refine .inr ⟨rb, b + i * τ.esz, by rw [if_neg hci]; simp [Addr.add_none], fun p hp => ?_, fun p q hq => ?_⟩
              · have hm : i * τ.esz + (cap - i) * τ.esz = cap * τ.esz := by rw [← Nat.add_mul]; congr 1; omega
                have := g3 (i * τ.esz + p) (by omega)
                rwa [← Nat.add_assoc] at this
              · obtain ⟨vs, k1, k2⟩ := g4 _ _ (hget p q hq)
                refine ⟨vs, k1.mono hG (fun _ _ => rfl) (fun d hd => NamesOk.enc _ τ q d hd), ?_⟩
                rwa [show b + i * τ.esz + p * τ.esz = b + (i + p) * τ.esz by rw [Nat.add_mul]; omega]⟩)
        (fun cs hcs => by cases hcs)
      refine wp_val (v := .slice (if cap = i then ad else ad.map (·.add (i * τ.esz))) (j - i) (cap - i)) (w' := w) ?_ (hx _ _ _ _ hk this.1 ⟨.lsl (by simp) rfl, .lsl this.2.2.2⟩)
      simp only [execOp, ho, ev, Option.map_none, Sem.run_bind, run, Result.andThen_ok, Sem.run_pure]
    · cases hk
  · cases hk
end
end Bz
