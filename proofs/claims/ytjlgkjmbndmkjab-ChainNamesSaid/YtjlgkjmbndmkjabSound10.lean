/- Rows, stores. -/
import Derived.Test.YtjlgkjmbndmkjabSound9
set_option linter.all false
set_option linter.unusedVariables false
namespace Bz
open Go Go.RowKit

/-! ### What a row of stores does -/
theorem setCells_turn (r : Nat) : ∀ (vs : List Value) (o : Nat) (w : World), Turn w (w.setCells r o vs) fun k => k = r
  | [], _, w => Turn.refl w _
  | v :: vs, o, w => by
    refine Turn.trans (b := w.setCell ⟨r, o, none⟩ v) ⟨rfl, rfl, rfl, by simp, fun k hk hx => ?_⟩ (setCells_turn r vs (o + 1) _)
    simp only [World.setCell, Array.getElem?_modify]
    rw [if_neg (fun e => hx e.symm)]
theorem setCells_size (r : Nat) : ∀ (vs : List Value) (o : Nat) (w : World), (w.setCells r o vs).heap.size = w.heap.size
  | [], _, _ => rfl
  | v :: vs, o, w => by rw [World.setCells, setCells_size r vs]; simp
theorem setCells_wri {r o n b : Nat} {vs : List Value} {w : World} (h : Wri w r o n) (hw : ∀ j, j < vs.length → (w.cell? ⟨r, b + j, none⟩).isSome = true) : Wri (w.setCells r b vs) r o n := by
  intro j hj
  obtain ⟨⟨v, hv⟩, hf⟩ := h j hj
  refine ⟨?_, by rw [World.frozen?_setCells]; exact hf⟩
  by_cases hin : b ≤ o + j ∧ o + j < b + vs.length
  · have := World.cell?_setCells_in r vs b w hw (o + j - b) (by omega)
    rw [show b + (o + j - b) = o + j by omega] at this
    exact ⟨_, this⟩
  · refine ⟨v, ?_⟩
    rw [World.cell?_setCells_out r vs b w _ (fun _ _ => by simp only; omega)]
    exact hv
theorem setCells_has {r p o : Nat} {vs us : List Value} {w : World} (h : Has w r p vs) (ho : o + us.length ≤ vs.length) (hw : ∀ j, j < us.length → (w.cell? ⟨r, p + o + j, none⟩).isSome = true) :
    Has (w.setCells r (p + o) us) r p (vs.take o ++ us ++ vs.drop (o + us.length)) := by
  intro j v hj
  by_cases h1 : j < o
  · rw [List.append_assoc, List.getElem?_append_left (by rw [List.length_take]; omega), List.getElem?_take_of_lt h1] at hj
    rw [World.cell?_setCells_out r us (p + o) w _ (fun _ _ => by simp only; omega)]
    exact h j v hj
  · by_cases h2 : j < o + us.length
    · rw [List.append_assoc, List.getElem?_append_right (by rw [List.length_take]; omega), List.length_take, Nat.min_eq_left (by omega), List.getElem?_append_left (by omega)] at hj
      have := World.cell?_setCells_in r us (p + o) w hw (j - o) (by omega)
      rw [show p + o + (j - o) = p + j by omega] at this
      rw [this]
      rw [List.getElem?_eq_getElem (by omega)] at hj
      exact hj
    · have hl : (vs.take o ++ us).length = o + us.length := by rw [List.length_append, List.length_take]; omega
      rw [List.getElem?_append_right (by omega), hl, List.getElem?_drop, show o + us.length + (j - (o + us.length)) = j by omega] at hj
      rw [World.cell?_setCells_out r us (p + o) w _ (fun _ _ => by simp only; omega)]
      exact h j v hj
theorem setCells_has_out {r p b : Nat} {vs us : List Value} {w : World} (h : Has w r p vs) (ho : p + vs.length ≤ b ∨ b + us.length ≤ p) : Has (w.setCells r b us) r p vs := by
  intro j v hj
  have hlt := (List.getElem?_eq_some_iff.1 hj).1
  rw [World.cell?_setCells_out r us b w _ (fun _ _ => by simp only; omega)]
  exact h j v hj

section
variable {ren : Nat → Option Nat} {A : Nat → Prop} {b0 : Nat} {w0 : World} {N : Nat} {φ : Nat → Option Value} {s : St} {a : Act} {w : World}
variable {P : Program} {o : Oper} {nxt : Act → World → Prop} {Q : Exit → Act → World → Prop} {R : Nat → List DV → Option DV} {k : Eff → Option DV} {r : DV}

/-- The world has grown, and nothing that was has turned. -/
theorem Rel.turn0 (h : Rel ren A b0 w0 N φ s a w) {w' : World} (t : Turn w w' fun _ => False) : Rel ren A b0 w0 N φ s a w' ∧ (∀ r, Gd A b0 s φ w r → Gd A b0 s φ w' r) := by
  have hG : ∀ r, Gd A b0 s φ w r → Gd A b0 s φ w' r := fun r hr => ⟨Nat.lt_of_lt_of_le hr.1 t.size, hr.2⟩
  refine ⟨⟨t.below h.below h.b0le (fun _ h => h.elim), Nat.le_trans h.b0le t.size, h.dn, h.sz, ?_, h.nm, ?_, h.nmb, h.inj⟩, hG⟩
  · exact fun u d hd => (h.env u d hd).mono hG (fun x hx => t.cell hx.1 id) ((h.nm u d hd).imp fun _ _ => rfl)
  · intro n b hb
    obtain ⟨k, h1, h2, h3⟩ := h.sto n b hb
    exact ⟨k, h1, h2.turn t hG (fun r hr => ⟨hr.1, id⟩) (fun r hr => ⟨(h3 r hr).2, id⟩) (fun cs hc d hd => (h.nmb n cs (hc ▸ hb) d hd).imp fun _ _ => rfl),
      fun r hr => ⟨(h3 r hr).1, Nat.lt_of_lt_of_le (h3 r hr).2 t.size⟩⟩
theorem Op1.turn0 {v : Value} {d : DV} (h : Op1 ren A b0 φ s w v d) {w' : World} (t : Turn w w' fun _ => False) : Op1 ren A b0 φ s w' v d :=
  ⟨h.rv.mono (fun r hr => ⟨Nat.lt_of_lt_of_le hr.1 t.size, hr.2⟩) (fun x hx => t.cell hx.1 id) (h.nm.imp fun _ _ => rfl), h.nm⟩

theorem anew_cases (n : Nat) : (anew s n = [] ∧ ¬ Bnd s n) ∨ (anew s n = [n] ∧ Bnd s n) := by
  unfold anew
  cases hb : blk s n with
  | none => exact .inl ⟨rfl, fun ⟨b, h⟩ => by rw [hb] at h; cases h⟩
  | some b => exact .inr ⟨rfl, b, hb⟩

/-- A name is given (anew) to a row that is new, or has no room. -/
theorem Rel.renew (h : Rel ren A b0 w0 N φ s a w) {e : Eff} {nm : Nat} {τ : Ty} {l : List (El τ)} {hv : Value} {w' : World} (hbl : e.bl = [(nm, .row τ l)]) (hpg : e.pg = anew s nm)
    (h1 : hv.oneCell' = true) (ht : Turn w w' fun _ => False) (ho : ∀ r, ownr hv = some r → r < w'.heap.size ∧ w.heap.size ≤ r)
    (hR : ∀ φ' (G' : Nat → Prop), (∀ r, Gd A b0 s φ w r → G' r) → RB w' G' φ' ren hv (.row τ l)) :
    Rel ren A b0 w0 N (fun n => if n = nm then some hv else φ n) (e.on s) a w' ∧ Op1 ren A b0 (fun n => if n = nm then some hv else φ n) (e.on s) w' hv (.lsl nm) := by
  have hp : e.pg = [] ∨ e.pg = [nm] := by rcases anew_cases (s := s) nm with ⟨e1, _⟩ | ⟨e1, _⟩ <;> simp [hpg, e1]
  have hn : nm ∈ e.pg ∨ ¬ Bnd s nm := by rcases anew_cases (s := s) nm with ⟨e1, e2⟩ | ⟨e1, _⟩ <;> simp [hpg, e1]; exact e2
  have := h.onBind (e := e) (nm := nm) (b' := .row τ l) (k := hv) (w' := w') (by simp) (.inl ⟨hbl, hp⟩) trivial hn
    ⟨ht.os, ht.tape, ht.output, ht.size, fun k hk _ => ht.block k hk id⟩ (fun r hr => ⟨(ho r hr).1, .inl (ho r hr).2⟩) (fun hG => hR _ _ hG)
    (fun cs hcs d hd => by cases hcs)
  exact ⟨this.1, .lsl (by simp) h1, .lsl this.2.2.2⟩

/-- A new row. -/
theorem newRow' (h : Rel ren A b0 w0 N φ s a w) {nm : Nat} {arr : Array Value} {t : TypeId} {τ : Ty} {l : List (El τ)} {cap : Nat} {vs rest : List Value} (hl : l.length ≤ cap) (hsz : arr.size = cap * τ.esz)
    (ha : arr.toList = vs ++ rest) (hv : RVs w (Gd A b0 s φ w) φ ren vs (l.flatMap (enc τ))) {e : Eff} (hbl : e.bl = [(nm, .row τ l)]) (hpg : e.pg = anew s nm) :
    ∃ φ', Rel ren A b0 w0 N φ' (e.on s) a (w.alloc (.cells arr t)) ∧ Op1 ren A b0 φ' (e.on s) (w.alloc (.cells arr t)) (.slice (some ⟨w.heap.size, 0, none⟩) l.length cap) (.lsl nm) := by
  have ht : Turn w (w.alloc (.cells arr t)) fun _ => False := Turn.alloc w _ _
  refine ⟨_, h.renew (hv := .slice (some ⟨w.heap.size, 0, none⟩) l.length cap) hbl hpg rfl ht ?_ ?_⟩
  · intro r hr
    cases cap with
    | zero => cases hr
    | succ cap => simp only [ownr, Option.some.injEq] at hr; subst hr; simp
  · intro φ' G' hG
    refine ⟨_, cap, rfl, hl, .inr ⟨w.heap.size, 0, rfl, by rw [← hsz]; exact new_wri w arr t, fun i x hi => ?_⟩⟩
    obtain ⟨us, g1, g2⟩ := hv.elem hi
    refine ⟨us, g1.mono hG (fun x hx => ht.cell hx.1 id) (fun d hd => NamesOk.enc _ τ x d hd), fun j u hj => ?_⟩
    have h3 := g2 j u hj
    have : arr.toList[i * τ.esz + j]? = some u := by rw [ha, List.getElem?_append_left (List.getElem?_eq_some_iff.1 h3).1]; exact h3
    simpa using new_has w arr t _ _ this

theorem s_mkrow {nm : Nat} {τ : Ty} (ho : o.op = .assign (.const (.slice none 0 0)))
    (h : Rel ren A b0 w0 N φ s a w) (hk : eff R s (.mkrow nm τ) k = some r) (hx : Nx ren A b0 w0 N s a k r fun v w' => nxt (a.put o.dst v) w') : o.wp P a w nxt Q := by
  simp only [eff] at hk
  have := h.renew (e := { v := .lsl nm, bl := [(nm, .row τ [])], pg := anew s nm }) (hv := .slice none 0 0) (w' := w) rfl rfl rfl (Turn.refl w _) (fun r hr => by cases hr)
    (fun φ' G' _ => ⟨none, 0, rfl, Nat.le_refl _, .inl rfl⟩)
  exact wp_val (v := .slice none 0 0) (w' := w) (by simp [execOp, ho, Act.eval]) (hx _ _ _ _ hk this.1 this.2)

/-- A new variable one of whose fields is a row that is nil yet. -/
theorem s_allocr {t : TypeId} {nm n : Nat} {τ : Ty} {zero : List DV} (ho : o.op = .alloc t) (hc : zeroOk P t (some n) zero = true)
    (h : Rel ren A b0 w0 N φ s a w) (hk : eff R s (.alloc nm zero (some (n, τ))) k = some r) (hx : Nx ren A b0 w0 N s a k r fun v w' => nxt (a.put o.dst v) w') : o.wp P a w nxt Q := by
  simp only [eff] at hk
  obtain ⟨hk, hf⟩ := free_get hk
  obtain ⟨hk, hf2⟩ := free_get hk
  cases hne : Nat.beq n nm with
  | true => simp [hne] at hk
  | false =>
  simp only [hne, cond_false] at hk
  have hne' := beq_false_ne hne
  obtain ⟨z, hz, hzc⟩ := zeroOk_get hc
  have ea : anew s n = [] := by rcases anew_cases (s := s) n with ⟨e1, _⟩ | ⟨_, e2⟩; exact e1; exact absurd e2 hf2
  -- first the row
  let e1 : Eff := { v := .lsl n, bl := [(n, .row τ [])], pg := anew s n }
  have r1 := h.renew (e := e1) (hv := .slice none 0 0) (w' := w) rfl rfl rfl (Turn.refl w _) (fun r hr => by cases hr) (fun φ' G' _ => ⟨none, 0, rfl, Nat.le_refl _, .inl rfl⟩)
  have es : e1.on s = { s with sto := (n, .row τ []) :: s.sto } := by simp only [e1, Eff.on, ea]; rfl
  rw [es] at r1
  have bn : Bnd { s with sto := (n, .row τ []) :: s.sto } n := ⟨.row τ [], by unfold blk; simp only [look_cons, if_true]⟩
  have hf' : ¬ Bnd { s with sto := (n, .row τ []) :: s.sto } nm := by
    rintro ⟨b, hb⟩
    apply hf
    unfold blk at hb; simp only [look_cons, if_neg hne'] at hb
    exact ⟨b, hb⟩
  have hv := zcOk_rv hzc (w := w) (G := Gd A b0 { s with sto := (n, .row τ []) :: s.sto } (fun m => if m = n then some (.slice none 0 0) else φ m) w) (φ := fun m => if m = n then some (.slice none 0 0) else φ m) (ren := ren)
    (fun m hm => by cases hm; simp) (Bnd { s with sto := (n, .row τ []) :: s.sto }) (fun m hm => by cases hm; exact bn)
  have := newBox r1.1 (arr := z.cells) (t := t) hf' hv.1 hv.2 (e := { v := .loc nm 0, bl := [(nm, .box zero)] }) rfl rfl
  refine wp_val (v := .pointer (some ⟨w.heap.size, 0, none⟩)) (w' := w.alloc (.cells z.cells t)) ?_ (hx _ _ _ _ hk this.1 this.2)
  simp only [execOp, ho, Instr.alloc, Sem.run_bind, hz, Result.andThen_ok, newVar, newRow, run_newObj, Sem.run_pure, World.alloc_eq]

theorem over_names {f : Nat → Prop} {cs us es : List DV} (h : ∀ d ∈ cs, NamesOk f d) (k : ∀ d ∈ us, NamesOk f d) (ho : Bz.over cs us = some es) : ∀ d ∈ es, NamesOk f d := by
  induction us generalizing cs es with
  | nil => cases cs <;> (simp only [Bz.over, Option.some.injEq] at ho; subst ho; exact h)
  | cons u us ih =>
    cases cs with
    | nil => simp [Bz.over] at ho
    | cons c cs =>
      simp only [Bz.over] at ho
      cases hc : Bz.over cs us with
      | none => simp [hc] at ho
      | some l =>
        simp only [hc, Option.some.injEq] at ho; subst ho
        intro d hd
        rcases List.mem_cons.1 hd with rfl | hd
        · exact k _ (by simp)
        · exact ih (fun d hd => h d (by simp [hd])) (fun d hd => k d (by simp [hd])) hc d hd
theorem NamesOk.splice {f : Nat → Prop} {cs us es : List DV} {o : Nat} (h : ∀ d ∈ cs, NamesOk f d) (k : ∀ d ∈ us, NamesOk f d) (ho : Bz.splice cs o us = some es) : ∀ d ∈ es, NamesOk f d := by
  induction o generalizing cs es with
  | zero =>
    have ho' : Bz.over cs us = some es := by cases cs <;> simpa [Bz.splice] using ho
    exact over_names h k ho'
  | succ o ih =>
    cases cs with
    | nil => simp [Bz.splice] at ho
    | cons c cs =>
      simp only [Bz.splice] at ho
      cases hc : Bz.splice cs o us with
      | none => simp [hc] at ho
      | some l =>
        simp only [hc, Option.some.injEq] at ho; subst ho
        intro d hd
        rcases List.mem_cons.1 hd with rfl | hd
        · exact h _ (by simp)
        · exact ih (fun d hd => h d (by simp [hd])) hc d hd
/-- One element is written, or a part of it. -/
theorem elems_set {G G' : Nat → Prop} {τ : Ty} {l : List (El τ)} {rb b cap i off : Nat} {us : List Value} {ds cs : List DV} {x y : El τ} (hw : Wri w rb b (cap * τ.esz)) (hl : l.length ≤ cap)
    (hc : ∀ i x, l[i]? = some x → ∃ vs, RVs w G φ ren vs (enc τ x) ∧ Has w rb (b + i * τ.esz) vs) (hq : l[i]? = some x) (hu : RVs w G φ ren us ds)
    (hs : Bz.splice (enc τ x) off ds = some cs) (hd : Bz.dec τ cs = some y) :
    (∀ j, j < us.length → (w.cell? ⟨rb, b + (i * τ.esz + off) + j, none⟩).isSome = true) ∧ (∀ j, j < us.length → w.frozen? ⟨rb, b + (i * τ.esz + off) + j, none⟩ = false) ∧
    Wri (w.setCells rb (b + (i * τ.esz + off)) us) rb b (cap * τ.esz) ∧
    ((∀ r, G r → G' r) → (∀ a : Addr, G a.block → (w.setCells rb (b + (i * τ.esz + off)) us).cell? a = w.cell? a) →
      ∀ j z, (l.set i y)[j]? = some z → ∃ vs, RVs (w.setCells rb (b + (i * τ.esz + off)) us) G' φ ren vs (enc τ z) ∧ Has (w.setCells rb (b + (i * τ.esz + off)) us) rb (b + j * τ.esz) vs) := by
  obtain ⟨vs, g1, g2⟩ := hc i x hq
  have sp := g1.splice hu hs
  have hvl : vs.length = τ.esz := by rw [g1.1, enc_len]
  have hi : i < l.length := (List.getElem?_eq_some_iff.1 hq).1
  have hmul : i * τ.esz + τ.esz ≤ cap * τ.esz := by
    have := Nat.mul_le_mul_right τ.esz (show i + 1 ≤ cap by omega)
    rw [Nat.add_mul, Nat.one_mul] at this; exact this
  have hin : ∀ j, j < us.length → (∃ v, w.cell? ⟨rb, b + (i * τ.esz + off) + j, none⟩ = some v) ∧ w.frozen? ⟨rb, b + (i * τ.esz + off) + j, none⟩ = false := by
    intro j hj
    have := hw (i * τ.esz + off + j) (by omega)
    rwa [← Nat.add_assoc] at this
  have hcell : ∀ j, j < us.length → (w.cell? ⟨rb, b + (i * τ.esz + off) + j, none⟩).isSome = true := by
    intro j hj; obtain ⟨⟨v, hv⟩, _⟩ := hin j hj; rw [hv]; rfl
  refine ⟨hcell, fun j hj => (hin j hj).2, setCells_wri hw hcell, fun hG hcl j z hj => ?_⟩
  by_cases hji : i = j
  · subst hji
    rw [List.getElem?_set_self hi] at hj
    cases hj
    refine ⟨_, (sp.2.dec hd).mono hG hcl (fun d hd => NamesOk.enc _ τ y d hd), ?_⟩
    have := setCells_has (r := rb) (p := b + i * τ.esz) (o := off) (us := us) g2 sp.1 (by rwa [Nat.add_assoc b])
    rwa [Nat.add_assoc b] at this
  · rw [List.getElem?_set_ne hji] at hj
    obtain ⟨ws, k1, k2⟩ := hc j z hj
    have hwl : ws.length = τ.esz := by rw [k1.1, enc_len]
    refine ⟨ws, k1.mono hG hcl (fun d hd => NamesOk.enc _ τ z d hd), setCells_has_out k2 ?_⟩
    rcases Nat.lt_or_ge i j with h1 | h1
    · right
      have := Nat.mul_le_mul_right τ.esz (show i + 1 ≤ j by omega)
      rw [Nat.add_mul, Nat.one_mul] at this; omega
    · left
      have := Nat.mul_le_mul_right τ.esz (show j + 1 ≤ i by omega)
      rw [Nat.add_mul, Nat.one_mul] at this; omega
/-! #### stores -/
theorem run_storeVar' {t : TypeId} {v : Value} {b o : Nat} (hs : szOk P t v.cells.toList.length = true) (hc : ∀ j, j < v.cells.toList.length → (w.cell? ⟨b, o + j, none⟩).isSome = true)
    (hf : ∀ j, j < v.cells.toList.length → w.frozen? ⟨b, o + j, none⟩ = false) (h1 : ∀ u ∈ v.cells.toList, u.oneCell' = true) :
    (storeVar t ⟨b, o, none⟩ v).run P w = .ok () (w.setCells b o v.cells.toList) := by
  have : v.cells.size = v.cells.toList.length := by simp
  simp only [storeVar, Sem.run_bind, run_sz hs, Result.andThen_ok]
  rw [if_neg (by simpa using this)]
  have := run_storeCells_cells (P := P) b o v.cells.toList 0 w (by simpa using hc) (by simpa using hf) h1
  simpa using this
theorem s_store {t : TypeId} {m : Nat} {x y : Operand} {x' y' : Opd} (ho : o.op = .store t x y) (hd : o.dst = none) (hc : (szOk P t m && (opdOk ren x x' && opdOk ren y y')) = true)
    (h : Rel ren A b0 w0 N φ s a w) (hk : eff R s (.store m x' y') k = some r) (hx : Nx ren A b0 w0 N s a k r fun v w' => nxt (a.put o.dst v) w') : o.wp P a w nxt Q := by
  simp only [Bool.and_eq_true] at hc
  simp only [eff] at hk
  replace ⟨dx, hk, h1⟩ := opd_sound h hc.2.1 hk
  replace ⟨dy, hk, h2⟩ := opd_sound h hc.2.2 hk
  split at hk
  · cases hk
  · rename_i us hus
    cases hm : Nat.beq us.length m with
    | false => simp [hm] at hk
    | true =>
    simp only [hm, cond_true] at hk
    have hm' := Nat.eq_of_beq_eq_true hm
    have hu := h2.rv.cells hus
    have hun := h2.nm.cells hus
    have hsz : szOk P t (a.eval y).cells.toList.length = true := by rw [hu.1, hm']; exact hc.1
    split at hk
    · rename_i n off
      split at hk
      · rename_i cs hb
        split at hk
        · rename_i cs' hsp
          obtain ⟨hd0, hφ, hR, hown⟩ := h.sto n _ hb
          obtain ⟨hd', rb, b, hφ', hbs, ev⟩ := h1.rv.loc_inv
          rw [hφ] at hφ'; cases hφ'
          obtain ⟨r1, vs, rfl, g1, g2, g3⟩ := hR
          simp only [hbase, Option.some.injEq, Prod.mk.injEq] at hbs
          obtain ⟨rfl, rfl⟩ := hbs
          have sp := g1.splice hu hsp
          have hcell : ∀ j, j < (a.eval y).cells.toList.length → (w.cell? ⟨r1, 0 + off + j, none⟩).isSome = true := by
            intro j hj
            obtain ⟨⟨v, hv⟩, _⟩ := g3 (off + j) (by omega)
            rw [← Nat.add_assoc] at hv; rw [hv]; rfl
          have hfz : ∀ j, j < (a.eval y).cells.toList.length → w.frozen? ⟨r1, 0 + off + j, none⟩ = false := by
            intro j hj
            have := (g3 (off + j) (by omega)).2
            rwa [← Nat.add_assoc] at this
          have run := run_storeVar' (P := P) (w := w) (t := t) (v := a.eval y) hsz hcell hfz hu.2.1
          have hT := setCells_turn r1 (a.eval y).cells.toList (0 + off) w
          have hlen : cs'.length = cs.length := by
            have e1 := sp.2.1; have e2 := g1.1
            simp only [List.length_append, List.length_take, List.length_drop] at e1
            omega
          have hRel := h.write (w' := w.setCells r1 (0 + off) (a.eval y).cells.toList) (b' := .box cs') hb hφ
            ⟨hT.os, hT.tape, hT.output, hT.size, fun k hk hx => hT.block k hk fun e => hx (by simp [ownr, e])⟩ (setCells_size _ _ _ _)
            ⟨r1, _, rfl, sp.2.mono (fun r hr => ⟨by rw [setCells_size]; exact hr.1, hr.2⟩) (fun x hx => hT.cell hx.1 fun e => hx.2.1 ⟨n, _, _, hb, hφ, by simp [ownr, e]⟩) (fun d hd => ?_),
              setCells_has g2 sp.1 hcell, by
                have e3 : (vs.take off ++ (a.eval y).cells.toList ++ vs.drop (off + (a.eval y).cells.toList.length)).length = vs.length := by
                  simp only [List.length_append, List.length_take, List.length_drop]; omega
                rw [e3]; exact setCells_wri g3 hcell⟩
            (fun cs2 h2 d hd => ?_) (by simp)
          · refine wp_skp (w' := w.setCells r1 (0 + off) (a.eval y).cells.toList) ?_ (hx undef _ _ φ hk hRel ⟨.skp, .skp⟩)
            simp only [execOp, ho, ev, Instr.storeAt, Instr.sureAddr, pure_bind, Sem.run_bind, run, Result.andThen_ok, Sem.run_pure]
          · exact (NamesOk.splice (h.nmb n cs hb) hun hsp d hd).imp fun _ _ => rfl
          · cases h2; exact NamesOk.splice (h.nmb n cs hb) hun hsp d hd
        · cases hk
      · cases hk
    · rename_i n e i off
      have hT : ∀ rb b, Turn w (w.setCells rb b (a.eval y).cells.toList) fun k => k = rb := fun rb b => setCells_turn rb _ b w
      split at hk
      · rename_i τ l hb
        cases hee : Nat.beq e τ.esz with
        | false => simp [hee] at hk
        | true =>
        simp only [hee, cond_true] at hk
        obtain rfl := Nat.eq_of_beq_eq_true hee
        obtain ⟨q, hq, hk, h0, hlt⟩ := idx_get hk
        split at hk
        · rename_i cs' hsp
          split at hk
          · rename_i z hz
            obtain ⟨hd0, hφ, hR, hown⟩ := h.sto n _ hb
            obtain ⟨hd', rb, b, hφ', hbs, ev⟩ := h1.rv.lel_inv
            rw [hφ] at hφ'; cases hφ'
            obtain ⟨ad, cap, rfl, hcap, hor⟩ := hR
            rcases hor with hz' | ⟨r2, b2, rfl, g3, g4⟩
            · exfalso; omega
            · simp only [hbase, Option.some.injEq, Prod.mk.injEq] at hbs
              obtain ⟨rfl, rfl⟩ := hbs
              have key := elems_set (G' := Gd A b0 s φ (w.setCells r2 (b2 + (i.toNat * τ.esz + off)) (a.eval y).cells.toList)) g3 hcap g4 hq hu hsp hz
              have run := run_storeVar' (P := P) (w := w) (t := t) (v := a.eval y) hsz key.1 key.2.1 hu.2.1
              have hT := hT r2 (b2 + (i.toNat * τ.esz + off))
              have hown' : ownr (.slice (some ⟨r2, b2, none⟩) l.length cap) = some r2 := by cases cap with
                | zero => exfalso; omega
                | succ cap => rfl
              have hRel := h.write (w' := w.setCells r2 (b2 + (i.toNat * τ.esz + off)) (a.eval y).cells.toList) (b' := .row τ (l.set i.toNat z)) hb hφ
                ⟨hT.os, hT.tape, hT.output, hT.size, fun k hk hx => hT.block k hk fun e => hx (by rw [hown', e])⟩ (setCells_size _ _ _ _)
                ⟨_, cap, by rw [List.length_set], by rw [List.length_set]; exact hcap, .inr ⟨r2, b2, rfl, key.2.2.1, key.2.2.2 (fun r hr => ⟨by rw [setCells_size]; exact hr.1, hr.2⟩)
                  (fun x hx => hT.cell hx.1 fun e => hx.2.1 ⟨n, _, _, hb, hφ, by rw [hown', e]⟩)⟩⟩
                (fun cs2 h2 d hd => by cases h2) (by simp)
              refine wp_skp (w' := w.setCells r2 (b2 + (i.toNat * τ.esz + off)) (a.eval y).cells.toList) ?_ (hx undef _ _ φ hk hRel ⟨.skp, .skp⟩)
              simp only [execOp, ho, ev, Instr.storeAt, Instr.sureAddr, pure_bind, Sem.run_bind, run, Result.andThen_ok, Sem.run_pure]
          · cases hk
        · cases hk
      · rename_i τ l hb
        cases hee : Nat.beq e τ.esz with
        | false => simp [hee] at hk
        | true =>
        simp only [hee, cond_true] at hk
        obtain rfl := Nat.eq_of_beq_eq_true hee
        obtain ⟨q, hq, hk, h0, hlt⟩ := idx_get hk
        split at hk
        · rename_i cs' hsp
          split at hk
          · rename_i z hz
            obtain ⟨hd0, hφ, hR, hown⟩ := h.sto n _ hb
            obtain ⟨hd', rb, b, hφ', hbs, ev⟩ := h1.rv.lel_inv
            rw [hφ] at hφ'; cases hφ'
            obtain ⟨r2, rfl, g3, g4⟩ := hR
            simp only [hbase, Option.some.injEq, Prod.mk.injEq] at hbs
            obtain ⟨rfl, rfl⟩ := hbs
            have key := elems_set (b := 0) (G' := Gd A b0 s φ (w.setCells r2 (0 + (i.toNat * τ.esz + off)) (a.eval y).cells.toList)) g3 (Nat.le_refl _) (fun i x hi => by simpa using g4 i x hi) hq hu hsp hz
            have run := run_storeVar' (P := P) (w := w) (t := t) (v := a.eval y) hsz key.1 key.2.1 hu.2.1
            have hT := hT r2 (0 + (i.toNat * τ.esz + off))
            have hRel := h.write (w' := w.setCells r2 (0 + (i.toNat * τ.esz + off)) (a.eval y).cells.toList) (b' := .arr τ (l.set i.toNat z)) hb hφ
              ⟨hT.os, hT.tape, hT.output, hT.size, fun k hk hx => hT.block k hk fun e => hx (by simp [ownr, e])⟩ (setCells_size _ _ _ _)
              ⟨r2, rfl, by rw [List.length_set]; exact key.2.2.1, fun j z hj => by
                have := key.2.2.2 (fun r hr => ⟨by rw [setCells_size]; exact hr.1, hr.2⟩) (fun x hx => hT.cell hx.1 fun e => hx.2.1 ⟨n, _, _, hb, hφ, by simp [ownr, e]⟩) j z hj
                simpa only [Nat.zero_add] using this⟩
              (fun cs2 h2 d hd => by cases h2) (by simp)
            refine wp_skp (w' := w.setCells r2 (0 + (i.toNat * τ.esz + off)) (a.eval y).cells.toList) ?_ (hx undef _ _ φ hk hRel ⟨.skp, .skp⟩)
            simp only [execOp, ho, ev, Instr.storeAt, Instr.sureAddr, pure_bind, Sem.run_bind, run, Result.andThen_ok, Sem.run_pure]
          · cases hk
        · cases hk
      · cases hk
    · cases hk
end
end Bz
