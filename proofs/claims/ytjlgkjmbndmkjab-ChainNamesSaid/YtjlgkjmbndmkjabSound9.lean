/- New blocks. -/
import Derived.Test.YtjlgkjmbndmkjabSound8
set_option linter.all false
set_option linter.unusedVariables false
namespace Bz
open Go Go.RowKit

theorem beq_false_ne {m n : Nat} (h : Nat.beq m n = false) : m ≠ n := by intro e; subst e; simp at h

section
variable {w : World} {G : Nat → Prop} {φ : Nat → Option Value} {ren : Nat → Option Nat}
theorem new_has (w : World) (arr : Array Value) (t : TypeId) : Has (w.alloc (.cells arr t)) w.heap.size 0 arr.toList := by
  intro j v hj
  rw [Nat.zero_add, World.cell?_alloc_new]
  simpa [Array.getElem?_toList] using hj
theorem new_wri (w : World) (arr : Array Value) (t : TypeId) : Wri (w.alloc (.cells arr t)) w.heap.size 0 arr.size := by
  intro j hj
  rw [Nat.zero_add, World.cell?_alloc_new, World.frozen?_alloc_new]
  exact ⟨⟨arr[j], by simp [hj]⟩, rfl⟩
theorem cells_one {v : Value} (h : v.oneCell' = true) : v.cells = #[v] := by cases v <;> first | rfl | cases h
/-- A value's cells. -/
theorem RV.cells {v : Value} {d : DV} {cs : List DV} (h : RV w G φ ren v d) (hc : cellsOf d = some cs) : RVs w G φ ren v.cells.toList cs := by
  have one : ∀ {v : Value} {d : DV}, RV w G φ ren v d → v.oneCell' = true → RVs w G φ ren [v] [d] := fun h k => .cons k h .nil
  cases h with
  | unk => cases hc
  | skp => cases hc
  | tup => cases hc
  | agg h1 h2 h3 => cases hc; exact ⟨h1, h2, h3⟩
  | arr h1 h2 h3 => cases hc; exact ⟨h1, h2, h3⟩
  | bool b => cases hc; exact one (.bool _) rfl
  | int k n => cases hc; exact one (.int _ _) rfl
  | float h => cases hc; exact one (.float h) rfl
  | str s => cases hc; exact one (.str _) rfl
  | sl vals h1 h2 h3 h4 h5 h6 => cases hc; exact one (.sl vals h1 h2 h3 h4 h5 h6) rfl
  | nsl τ ad => cases hc; exact one (.nsl _ _) rfl
  | fsl h => cases hc; exact one (.fsl h) rfl
  | imm vs h1 h2 h3 h4 => cases hc; exact one (.imm vs h1 h2 h3 h4) rfl
  | loc h1 h2 => cases hc; exact one (.loc h1 h2) rfl
  | lel h1 h2 => cases hc; exact one (.lel h1 h2) rfl
  | fn h1 h2 h3 => cases hc; exact one (.fn h1 h2 h3) rfl
  | lsl h1 h2 => cases hc; rw [cells_one h2]; exact one (.lsl h1 h2) h2
theorem NamesOk.cells {f : Nat → Prop} {d : DV} {cs : List DV} (h : NamesOk f d) (hc : cellsOf d = some cs) : ∀ c ∈ cs, NamesOk f c := by
  have one : ∀ {d : DV}, NamesOk f d → ∀ c ∈ [d], NamesOk f c := fun h c hc => by simp at hc; subst hc; exact h
  cases h with
  | unk => cases hc
  | skp => cases hc
  | own => cases hc
  | tup => cases hc
  | agg h => cases hc; exact h
  | arr τ l =>
    cases hc
    intro c hc
    obtain ⟨x, _, hx⟩ := List.mem_flatMap.1 hc
    exact NamesOk.enc _ τ x c hx
  | bool b => cases hc; exact one (.bool _)
  | int k n => cases hc; exact one (.int _ _)
  | float b => cases hc; exact one (.float _)
  | str s => cases hc; exact one (.str _)
  | sl τ l => cases hc; exact one (.sl _ _)
  | nsl τ => cases hc; exact one (.nsl _)
  | fsl τ l => cases hc; exact one (.fsl _ _)
  | imm h => cases hc; exact one (.imm h)
  | loc o h => cases hc; exact one (.loc o h)
  | lel e i o h => cases hc; exact one (.lel e i o h)
  | lsl h => cases hc; exact one (.lsl h)
  | fn g h => cases hc; exact one (.fn g h)
end

theorem flat_len (τ : Ty) (l : List (El τ)) : (l.flatMap (enc τ)).length = l.length * τ.esz := by
  induction l with
  | nil => simp
  | cons x l ih => rw [List.flatMap_cons, List.length_append, ih, enc_len, List.length_cons, Nat.add_mul]; omega
theorem RVs.elem {w : World} {G : Nat → Prop} {φ : Nat → Option Value} {ren : Nat → Option Nat} {τ : Ty} {l : List (El τ)} {vs : List Value} (h : RVs w G φ ren vs (l.flatMap (enc τ)))
    {i : Nat} {x : El τ} (hi : l[i]? = some x) : ∃ us, RVs w G φ ren us (enc τ x) ∧ ∀ j u, us[j]? = some u → vs[i * τ.esz + j]? = some u := by
  induction l generalizing vs i with
  | nil => simp at hi
  | cons y l ih =>
    rw [List.flatMap_cons] at h
    have h1 : RVs w G φ ren (vs.take τ.esz) (enc τ y) := by
      refine ⟨?_, fun v hv => h.2.1 v (List.mem_of_mem_take hv), fun j v d hj hd => ?_⟩
      · have := h.1; rw [List.length_append, enc_len] at this; rw [List.length_take, enc_len]; omega
      · have hlt : j < τ.esz := by have := (List.getElem?_eq_some_iff.1 hd).1; rwa [enc_len] at this
        rw [List.getElem?_take_of_lt hlt] at hj
        exact h.2.2 j v d hj (by rw [List.getElem?_append_left (by rw [enc_len]; exact hlt)]; exact hd)
    have h2 : RVs w G φ ren (vs.drop τ.esz) (l.flatMap (enc τ)) := by
      have := h.drop τ.esz
      rwa [List.drop_append_of_le_length (by rw [enc_len]; exact Nat.le_refl _), show (enc τ y).drop τ.esz = [] from List.drop_eq_nil_of_le (by rw [enc_len]; exact Nat.le_refl _), List.nil_append] at this
    cases i with
    | zero =>
      simp only [List.getElem?_cons_zero, Option.some.injEq] at hi; subst hi
      refine ⟨_, h1, fun j u hj => ?_⟩
      have hlt := (List.getElem?_eq_some_iff.1 hj).1
      rw [List.length_take] at hlt
      rw [List.getElem?_take_of_lt (by omega)] at hj
      simpa using hj
    | succ i =>
      simp only [List.getElem?_cons_succ] at hi
      obtain ⟨us, g1, g2⟩ := ih h2 hi
      refine ⟨us, g1, fun j u hj => ?_⟩
      have := g2 j u hj
      rw [List.getElem?_drop] at this
      rw [← this, show τ.esz + (i * τ.esz + j) = (i + 1) * τ.esz + j by rw [Nat.add_mul]; omega]
/-- The zero cells of a type: `m` is the name of a row that is nil yet. -/
def zcOk (m : Option Nat) : List Value → List DV → Bool
  | [], [] => true
  | v :: vs, d :: ds => (constOk v d || (match v, d, m with
      | .slice none 0 0, .lsl n, some m => Nat.beq n m
      | _, _, _ => false)) && zcOk m vs ds
  | _, _ => false
def zeroOk (P : Program) (t : TypeId) (m : Option Nat) (zero : List DV) : Bool :=
  match P.info? t with
  | some i => match i.zero with
    | some z => zcOk m z.cells.toList zero
    | none => false
  | none => false
theorem zeroOk_get {P : Program} {t : TypeId} {m : Option Nat} {zero : List DV} (h : zeroOk P t m zero = true) : ∃ z, (∀ w : World, (zeroValue t).run P w = .ok z w) ∧ zcOk m z.cells.toList zero = true := by
  unfold zeroOk at h
  split at h
  · rename_i i hi
    split at h
    · rename_i z hz
      exact ⟨z, fun w => by simp [zeroValue, run_typeInfo' hi, hz], h⟩
    · cases h
  · cases h
theorem zcOk_rv {m : Option Nat} {vs : List Value} {ds : List DV} (h : zcOk m vs ds = true) {w : World} {G : Nat → Prop} {φ : Nat → Option Value} {ren : Nat → Option Nat}
    (hm : ∀ n, m = some n → φ n = some (.slice none 0 0)) (f : Nat → Prop) (hf : ∀ n, m = some n → f n) : RVs w G φ ren vs ds ∧ ∀ d ∈ ds, NamesOk f d := by
  induction vs generalizing ds with
  | nil => cases ds with
    | nil => exact ⟨.nil, by simp⟩
    | cons d ds => simp [zcOk] at h
  | cons v vs ih => cases ds with
    | nil => simp [zcOk] at h
    | cons d ds =>
      simp only [zcOk, Bool.and_eq_true, Bool.or_eq_true] at h
      obtain ⟨i1, i2⟩ := ih h.2
      have key : RV w G φ ren v d ∧ NamesOk f d ∧ v.oneCell' = true := by
        rcases h.1 with h1 | h1
        · exact constOk_rv h1 f
        · split at h1
          · rename_i n m
            obtain rfl := Nat.eq_of_beq_eq_true h1
            exact ⟨.lsl (hm _ rfl) rfl, .lsl (hf _ rfl), rfl⟩
          · cases h1
      exact ⟨.cons key.2.2 key.1 i1, by simpa using ⟨key.2.1, i2⟩⟩

section
variable {ren : Nat → Option Nat} {A : Nat → Prop} {b0 : Nat} {w0 : World} {N : Nat} {φ : Nat → Option Value} {s : St} {a : Act} {w : World}
variable {P : Program} {o : Oper} {nxt : Act → World → Prop} {Q : Exit → Act → World → Prop} {R : Nat → List DV → Option DV} {k : Eff → Option DV} {r : DV}

theorem free_get {n : Nat} {f : Unit → Option DV} (h : free s n f = some r) : f () = some r ∧ ¬ Bnd s n := by
  unfold free at h
  split at h
  · rename_i hb; exact ⟨h, fun ⟨b, hb'⟩ => by rw [hb] at hb'; cases hb'⟩
  · cases h
theorem names_ne {d : DV} {nm : Nat} (h : NamesOk (Bnd s) d) (hf : ¬ Bnd s nm) : NamesOk (fun n => n ≠ nm ∧ n ∉ ([] : List Nat) ∧ Bnd s n) d :=
  h.imp fun n hn => ⟨fun e => hf (e ▸ hn), by simp, hn⟩

/-- A fresh name is bound to a new block. -/
theorem Rel.fresh (h : Rel ren A b0 w0 N φ s a w) {e : Eff} {nm : Nat} {b' : Blk} {hv : Value} {w' : World} (hg : b' ≠ .gone) (hbl : e.bl = [(nm, b')]) (hpg : e.pg = []) (hf : ¬ Bnd s nm)
    (ht : Turn w w' fun _ => False) (ho : ∀ r, ownr hv = some r → r < w'.heap.size ∧ w.heap.size ≤ r)
    (hR : (∀ r, Gd A b0 s φ w r → Gd A b0 (e.on s) (fun n => if n = nm then some hv else φ n) w' r) → RB w' (Gd A b0 (e.on s) (fun n => if n = nm then some hv else φ n) w') (fun n => if n = nm then some hv else φ n) ren hv b')
    (hnm : ∀ cs, b' = .box cs → ∀ d ∈ cs, NamesOk (Bnd s) d) :
    Rel ren A b0 w0 N (fun n => if n = nm then some hv else φ n) (e.on s) a w' ∧ (∀ r, Gd A b0 s φ w r → Gd A b0 (e.on s) (fun n => if n = nm then some hv else φ n) w' r) ∧ (∀ n, Bnd s n → Bnd (e.on s) n) ∧ Bnd (e.on s) nm := by
  have := h.onBind (e := e) (nm := nm) (b' := b') (k := hv) (w' := w') hg (.inl ⟨hbl, .inl hpg⟩) trivial (.inr hf)
    ⟨ht.os, ht.tape, ht.output, ht.size, fun k hk _ => ht.block k hk id⟩ (fun r hr => ⟨(ho r hr).1, .inl (ho r hr).2⟩) hR
    (fun cs hcs d hd => by rw [hpg]; exact names_ne (hnm cs hcs d hd) hf)
  refine ⟨this.1, this.2.1, fun n hn => this.2.2.1 n (fun e => hf (e ▸ hn)) (by rw [hpg]; simp) hn, this.2.2.2⟩
/-- Cells of the old world in the new one. -/
theorem RVs.fresh {nm : Nat} {hv : Value} {w' : World} {G' : Nat → Prop} {vs : List Value} {cs : List DV} (h : RVs w (Gd A b0 s φ w) φ ren vs cs) (ht : Turn w w' fun _ => False)
    (hG : ∀ r, Gd A b0 s φ w r → G' r) (hn : ∀ d ∈ cs, NamesOk (Bnd s) d) (hf : ¬ Bnd s nm) : RVs w' G' (fun n => if n = nm then some hv else φ n) ren vs cs :=
  h.mono hG (fun x hx => ht.cell hx.1 id) fun d hd => (hn d hd).imp fun n hb => by
    have : n ≠ nm := fun e => hf (e ▸ hb)
    simp [this]

/-- A new box. -/
theorem newBox (h : Rel ren A b0 w0 N φ s a w) {nm : Nat} {arr : Array Value} {t : TypeId} {cs : List DV} (hf : ¬ Bnd s nm) (hv : RVs w (Gd A b0 s φ w) φ ren arr.toList cs) (hn : ∀ d ∈ cs, NamesOk (Bnd s) d)
    {e : Eff} (hbl : e.bl = [(nm, .box cs)]) (hpg : e.pg = []) :
    Rel ren A b0 w0 N (fun n => if n = nm then some (.pointer (some ⟨w.heap.size, 0, none⟩)) else φ n) (e.on s) a (w.alloc (.cells arr t)) ∧
    Op1 ren A b0 (fun n => if n = nm then some (.pointer (some ⟨w.heap.size, 0, none⟩)) else φ n) (e.on s) (w.alloc (.cells arr t)) (.pointer (some ⟨w.heap.size, 0, none⟩)) (.loc nm 0) := by
  have ht : Turn w (w.alloc (.cells arr t)) fun _ => False := Turn.alloc w _ _
  have := h.fresh (e := e) (nm := nm) (b' := .box cs) (hv := .pointer (some ⟨w.heap.size, 0, none⟩)) (w' := w.alloc (.cells arr t)) (by simp) hbl hpg hf ht
    (fun r hr => by simp only [ownr, Option.some.injEq] at hr; subst hr; simp)
    (fun hG => ⟨w.heap.size, arr.toList, rfl, hv.fresh ht hG hn hf, new_has w arr t, by simpa using new_wri w arr t⟩)
    (fun cs' hcs d hd => by cases hcs; exact hn d hd)
  refine ⟨this.1, ?_, .loc 0 this.2.2.2⟩
  exact RV.loc (h := .pointer (some ⟨w.heap.size, 0, none⟩)) (b := 0) (o := 0) (by simp) rfl

theorem newArr (h : Rel ren A b0 w0 N φ s a w) {nm : Nat} {arr : Array Value} {t : TypeId} {τ : Ty} {l : List (El τ)} (hf : ¬ Bnd s nm) (hv : RVs w (Gd A b0 s φ w) φ ren arr.toList (l.flatMap (enc τ)))
    {e : Eff} (hbl : e.bl = [(nm, .arr τ l)]) (hpg : e.pg = []) :
    Rel ren A b0 w0 N (fun n => if n = nm then some (.pointer (some ⟨w.heap.size, 0, none⟩)) else φ n) (e.on s) a (w.alloc (.cells arr t)) ∧
    Op1 ren A b0 (fun n => if n = nm then some (.pointer (some ⟨w.heap.size, 0, none⟩)) else φ n) (e.on s) (w.alloc (.cells arr t)) (.pointer (some ⟨w.heap.size, 0, none⟩)) (.loc nm 0) := by
  have ht : Turn w (w.alloc (.cells arr t)) fun _ => False := Turn.alloc w _ _
  have hsz : arr.size = l.length * τ.esz := by have := hv.1; rw [flat_len] at this; simpa using this
  have := h.fresh (e := e) (nm := nm) (b' := .arr τ l) (hv := .pointer (some ⟨w.heap.size, 0, none⟩)) (w' := w.alloc (.cells arr t)) (by simp) hbl hpg hf ht
    (fun r hr => by simp only [ownr, Option.some.injEq] at hr; subst hr; simp)
    (fun hG => ⟨w.heap.size, rfl, by rw [← hsz]; exact new_wri w arr t, fun i x hi => by
      obtain ⟨us, g1, g2⟩ := hv.elem hi
      refine ⟨us, g1.mono hG (fun x hx => ht.cell hx.1 id) (fun d hd => NamesOk.enc _ τ x d hd), fun j u hj => ?_⟩
      have := new_has w arr t _ _ (g2 j u hj)
      simpa using this⟩)
    (fun cs' hcs d hd => by cases hcs)
  refine ⟨this.1, ?_, .loc 0 this.2.2.2⟩
  exact RV.loc (h := .pointer (some ⟨w.heap.size, 0, none⟩)) (b := 0) (o := 0) (by simp) rfl
theorem s_alloc {t : TypeId} {nm : Nat} {zero : List DV} (ho : o.op = .alloc t) (hc : zeroOk P t none zero = true)
    (h : Rel ren A b0 w0 N φ s a w) (hk : eff R s (.alloc nm zero none) k = some r) (hx : Nx ren A b0 w0 N s a k r fun v w' => nxt (a.put o.dst v) w') : o.wp P a w nxt Q := by
  simp only [eff] at hk
  obtain ⟨hk, hf⟩ := free_get hk
  obtain ⟨z, hz, hzc⟩ := zeroOk_get hc
  have hv := zcOk_rv hzc (w := w) (G := Gd A b0 s φ w) (φ := φ) (ren := ren) (by simp) (Bnd s) (by simp)
  have := newBox h (arr := z.cells) (t := t) hf hv.1 hv.2 (e := { v := .loc nm 0, bl := [(nm, .box zero)] }) rfl rfl
  refine wp_val (v := .pointer (some ⟨w.heap.size, 0, none⟩)) (w' := w.alloc (.cells z.cells t)) ?_ (hx _ _ _ _ hk this.1 this.2)
  simp only [execOp, ho, Instr.alloc, Sem.run_bind, hz, Result.andThen_ok, newVar, newRow, run_newObj, Sem.run_pure, World.alloc_eq]
theorem s_box {t : TypeId} {nm : Nat} {x : Operand} {x' : Opd} (ho : o.op = .box t x) (hc : opdOk ren x x' = true)
    (h : Rel ren A b0 w0 N φ s a w) (hk : eff R s (.box nm x') k = some r) (hx : Nx ren A b0 w0 N s a k r fun v w' => nxt (a.put o.dst v) w') : o.wp P a w nxt Q := by
  simp only [eff] at hk
  replace ⟨dx, hk, h1⟩ := opd_sound h hc hk
  obtain ⟨hk, hf⟩ := free_get hk
  have run : (execOp a.eval o).run P w = .ok (.value (.pointer (some ⟨w.heap.size, 0, none⟩))) (w.alloc (.cells (a.eval x).cells t)) := by
    simp only [execOp, ho, Instr.box, Sem.run_bind, Result.andThen_ok, newVar, newRow, run_newObj, Sem.run_pure, World.alloc_eq]
  split at hk
  · rename_i τ l q
    obtain ⟨arr, ev, hv⟩ := h1.rv.arr_inv
    rw [ev] at run
    have := newArr h (arr := arr) (t := t) hf hv (e := { v := .loc nm 0, bl := [(nm, .arr τ l)] }) rfl rfl
    exact wp_val run (hx _ _ _ _ hk this.1 this.2)
  · split at hk
    · rename_i cs hcs
      have := newBox h (arr := (a.eval x).cells) (t := t) hf (h1.rv.cells hcs) (h1.nm.cells hcs) (e := { v := .loc nm 0, bl := [(nm, .box cs)] }) rfl rfl
      exact wp_val run (hx _ _ _ _ hk this.1 this.2)
    · cases hk

/-- A variable of an array's type. -/
def zarrOk (P : Program) (t : TypeId) (τ : Ty) (l : List (El τ)) : Bool := zeroOk P t none (l.flatMap (enc τ))
theorem s_alloca {t : TypeId} {nm : Nat} {τ : Ty} {l : List (El τ)} (ho : o.op = .alloc t) (hc : zarrOk P t τ l = true)
    (h : Rel ren A b0 w0 N φ s a w) (hk : eff R s (.alloca nm τ l) k = some r) (hx : Nx ren A b0 w0 N s a k r fun v w' => nxt (a.put o.dst v) w') : o.wp P a w nxt Q := by
  simp only [eff] at hk
  obtain ⟨hk, hf⟩ := free_get hk
  obtain ⟨z, hz, hzc⟩ := zeroOk_get hc
  have hv := zcOk_rv hzc (w := w) (G := Gd A b0 s φ w) (φ := φ) (ren := ren) (by simp) (Bnd s) (by simp)
  have := newArr h (arr := z.cells) (t := t) hf hv.1 (e := { v := .loc nm 0, bl := [(nm, .arr τ l)] }) rfl rfl
  refine wp_val (v := .pointer (some ⟨w.heap.size, 0, none⟩)) (w' := w.alloc (.cells z.cells t)) ?_ (hx _ _ _ _ hk this.1 this.2)
  simp only [execOp, ho, Instr.alloc, Sem.run_bind, hz, Result.andThen_ok, newVar, newRow, run_newObj, Sem.run_pure, World.alloc_eq]
end
end Bz
