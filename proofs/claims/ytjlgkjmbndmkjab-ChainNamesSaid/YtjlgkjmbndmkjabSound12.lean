/- Composite values. -/
import Derived.Test.YtjlgkjmbndmkjabSound11
import Derived.Great.BuildSlice
import Derived.Laws.MakeOwn
set_option linter.all false
set_option linter.unusedVariables false
namespace Bz
open Go Go.RowKit

theorem fill_fold (v : Value) (off : Nat) (cells : Array Value) (h : off + v.cells.size ≤ cells.size) :
    (v.cells.zipIdx.foldl (fun cs (x : Value × Nat) => cs.setIfInBounds (off + x.2) x.1) cells).toList = cells.toList.take off ++ v.cells.toList ++ cells.toList.drop (off + v.cells.toList.length) := by
  have := Great.foldl_set off v.cells.toList 0 cells
  have e : v.cells.zipIdx.foldl (fun cs (x : Value × Nat) => cs.setIfInBounds (off + x.2) x.1) cells = (v.cells.toList.zipIdx 0).foldl (fun cs (x : Value × Nat) => cs.setIfInBounds (off + x.2) x.1) cells := by
    rw [← Array.foldl_toList, Array.toList_zipIdx]
  rw [e]
  have hs : v.cells.toList.length = v.cells.size := by simp
  have hcs : cells.toList.length = cells.size := by simp
  apply List.ext_getElem?
  intro k
  rw [toList_getElem?, this.2 k]
  by_cases h1 : k < off
  · rw [if_neg (by omega), List.append_assoc, List.getElem?_append_left (by rw [List.length_take]; omega), List.getElem?_take_of_lt h1, toList_getElem?]
  · by_cases h2 : k < off + v.cells.size
    · rw [if_pos (by omega), List.append_assoc, List.getElem?_append_right (by rw [List.length_take]; omega), List.length_take, Nat.min_eq_left (by omega),
        List.getElem?_append_left (by omega), Nat.add_zero]
    · have hl : (cells.toList.take off ++ v.cells.toList).length = off + v.cells.size := by rw [List.length_append, List.length_take]; omega
      rw [if_neg (by omega), List.getElem?_append_right (by omega), hl, List.getElem?_drop, hs, show off + v.cells.size + (k - (off + v.cells.size)) = k by omega, toList_getElem?]

section
variable {ren : Nat → Option Nat} {A : Nat → Prop} {b0 : Nat} {w0 : World} {N : Nat} {φ : Nat → Option Value} {s : St} {a : Act} {w : World}
variable {P : Program} {o : Oper} {nxt : Act → World → Prop} {Q : Exit → Act → World → Prop} {R : Nat → List DV → Option DV} {k : Eff → Option DV} {r : DV}

theorem fill_step {place : Nat → Option (Nat × Nat)} {i off m : Nat} {v : Value} {cells : Array Value} {rest : List (Nat × Value)} (hp : place i = some (off, m)) (hm : v.cells.toList.length = m) (hle : off + m ≤ cells.toList.length) :
    ∃ c2 : Array Value, c2.toList = cells.toList.take off ++ v.cells.toList ++ cells.toList.drop (off + v.cells.toList.length) ∧ Instr.fill place cells ((i, v) :: rest) = Instr.fill place c2 rest := by
  have h1 : v.cells.size = m := by simpa using hm
  have h2 : off + v.cells.size ≤ cells.size := by rw [h1]; simpa using hle
  refine ⟨_, fill_fold v off cells h2, ?_⟩
  simp only [Instr.fill, hp]
  rw [if_neg (by simp [h1]; simpa using hle)]

/-- Parts that are laid into a struct's cells. -/
inductive PtL (ren : Nat → Option Nat) (A : Nat → Prop) (b0 : Nat) (φ : Nat → Option Value) (s : St) (w : World) (place : Nat → Option (Nat × Nat)) : List (Nat × Value) → List ((Nat × Nat) × DV) → Prop
  | nil : PtL ren A b0 φ s w place [] []
  | cons {i : Nat} {v : Value} {om : Nat × Nat} {d : DV} {ps : List (Nat × Value)} {qs : List ((Nat × Nat) × DV)} : place i = some om → Op1 ren A b0 φ s w v d → PtL ren A b0 φ s w place ps qs →
      PtL ren A b0 φ s w place ((i, v) :: ps) ((om, d) :: qs)
theorem fillc_sound {place : Nat → Option (Nat × Nat)} {ps : List (Nat × Value)} {qs : List ((Nat × Nat) × DV)} (h : PtL ren A b0 φ s w place ps qs) {z : Array Value} {zc cs : List DV}
    (hz : RVs w (Gd A b0 s φ w) φ ren z.toList zc) (hn : ∀ d ∈ zc, NamesOk (Bnd s) d) (hf : fillc zc qs = some cs) :
    ∃ z' : Array Value, Instr.fill place z ps = some z' ∧ RVs w (Gd A b0 s φ w) φ ren z'.toList cs ∧ ∀ d ∈ cs, NamesOk (Bnd s) d := by
  induction h generalizing z zc with
  | nil => simp only [fillc, Option.some.injEq] at hf; subst hf; exact ⟨z, rfl, hz, hn⟩
  | @cons i v om d ps qs hp h1 h2 ih =>
    obtain ⟨off, m⟩ := om
    simp only [fillc] at hf
    split at hf
    · rename_i us hus
      cases hm : Nat.beq us.length m with
      | false => simp [hm] at hf
      | true =>
        simp only [hm, cond_true] at hf
        obtain rfl := Nat.eq_of_beq_eq_true hm
        split at hf
        · rename_i l hl
          have hu := h1.rv.cells hus
          have sp := hz.splice hu hl
          obtain ⟨c2, e1, e2⟩ := fill_step (rest := ps) hp hu.1 (by rw [← hu.1]; exact sp.1)
          rw [← e1] at sp
          obtain ⟨z', g1, g2⟩ := ih sp.2 (NamesOk.splice hn (h1.nm.cells hus) hl) hf
          exact ⟨z', by rw [e2]; exact g1, g2⟩
        · cases hf
    · cases hf

def placesOk (P : Program) (fs : Array Go.Field) : List (Nat × Operand) → List ((Nat × Nat) × Opd) → (Nat → Option Nat) → Bool
  | [], [], _ => true
  | (i, x) :: ps, ((off, m), x') :: qs, ren => (match fs.toList[i]? with
    | some f => Nat.beq f.offset off && szOk P f.type m
    | none => false) && (opdOk ren x x' && placesOk P fs ps qs ren)
  | _, _, _ => false
def allInfo (P : Program) : List Go.Field → Bool
  | [] => true
  | f :: fs => (match P.info? f.type with
    | some _ => true
    | none => false) && allInfo P fs
def buildOk (P : Program) (ren : Nat → Option Nat) (t : TypeId) (ps : List (Nat × Operand)) (zero : List DV) (qs : List ((Nat × Nat) × Opd)) : Bool :=
  match P.underlying t with
  | some (.struct fs) => zeroOk P t none zero && (allInfo P fs.toList && placesOk P fs ps qs ren)
  | _ => false
theorem allInfo_get {fs : List Go.Field} (h : allInfo P fs = true) : ∃ places, fs.mapM (fun (f : Go.Field) => (P.info? f.type).map fun i => (f.offset, i.size)) = some places ∧
    ∀ (j : Nat) (f : Go.Field) (i : TypeInfo), fs[j]? = some f → P.info? f.type = some i → places[j]? = some (f.offset, i.size) := by
  induction fs with
  | nil => exact ⟨[], by simp, by simp⟩
  | cons f fs ih =>
    simp only [allInfo, Bool.and_eq_true] at h
    obtain ⟨pl, e1, e2⟩ := ih h.2
    have h1 := h.1
    split at h1
    · rename_i inf hi
      refine ⟨(f.offset, inf.size) :: pl, by simp [List.mapM_cons, hi, e1], fun j g i hj hg => ?_⟩
      cases j with
      | zero => simp only [List.getElem?_cons_zero, Option.some.injEq] at hj; subst hj; rw [hi] at hg; cases hg; rfl
      | succ j => simp only [List.getElem?_cons_succ] at hj ⊢; exact e2 j g i hj hg
    · cases h1
theorem opds_parts {β : Type} (h : Rel ren A b0 w0 N φ s a w) {ps : List (Nat × Operand)} {qs : List (β × Opd)} (hl : opdsOk ren (ps.map (·.2)) (qs.map (·.2)) = true) {k : List DV → Option DV}
    (hk : opds s (qs.map (·.2)) k = some r) : ∃ ds, k ds = some r ∧ OpL ren A b0 φ s w ((ps.map (·.2)).map a.eval) ds := opds_sound h hl hk
theorem zeroOk_two {t : TypeId} {m : Option Nat} {zero : List DV} (h : zeroOk P t m zero = true) : ∃ i z, P.info? t = some i ∧ i.zero = some z ∧ zcOk m z.cells.toList zero = true := by
  unfold zeroOk at h
  split at h
  · rename_i i hi
    split at h
    · rename_i z hz; exact ⟨i, z, hi, hz, h⟩
    · cases h
  · cases h
theorem placesOk_opds {fs : Array Go.Field} {ps : List (Nat × Operand)} {qs : List ((Nat × Nat) × Opd)} (h : placesOk P fs ps qs ren = true) : opdsOk ren (ps.map (·.2)) (qs.map (·.2)) = true := by
  induction ps generalizing qs with
  | nil => cases qs with
    | nil => rfl
    | cons q qs => simp [placesOk] at h
  | cons p ps ih => cases qs with
    | nil => simp [placesOk] at h
    | cons q qs =>
      obtain ⟨i, x⟩ := p; obtain ⟨⟨o, m⟩, x'⟩ := q
      simp only [placesOk, Bool.and_eq_true] at h
      simp only [List.map_cons, opdsOk, Bool.and_eq_true]
      exact ⟨h.2.1, ih h.2.2⟩
theorem placesOk_ptl {fs : Array Go.Field} {places : List (Nat × Nat)} (hpl : ∀ (j : Nat) (f : Go.Field) (i : TypeInfo), fs.toList[j]? = some f → P.info? f.type = some i → places[j]? = some (f.offset, i.size))
    {ps : List (Nat × Operand)} {qs : List ((Nat × Nat) × Opd)} (h : placesOk P fs ps qs ren = true) {ds : List DV} (ho : OpL ren A b0 φ s w ((ps.map (·.2)).map a.eval) ds) :
    PtL ren A b0 φ s w (places.toArray[·]?) (ps.map fun (i, x) => (i, a.eval x)) ((qs.map (·.1)).zip ds) := by
  induction ps generalizing qs ds with
  | nil => cases qs with
    | nil => cases ho; exact .nil
    | cons q qs => simp [placesOk] at h
  | cons p ps ih => cases qs with
    | nil => simp [placesOk] at h
    | cons q qs =>
      obtain ⟨i, x⟩ := p; obtain ⟨⟨o, m⟩, x'⟩ := q
      simp only [placesOk, Bool.and_eq_true] at h
      simp only [List.map_cons] at ho
      cases ho with
      | cons h1 h2 =>
        refine .cons ?_ h1 (ih h.2.2 h2)
        have h3 := h.1
        split at h3
        · rename_i f hf
          simp only [Bool.and_eq_true] at h3
          obtain ⟨inf, hi, rfl⟩ := szOk_get h3.2
          obtain rfl := Nat.eq_of_beq_eq_true h3.1
          simpa using hpl i f inf hf hi
        · cases h3
theorem s_build {t : TypeId} {parts : Array (Nat × Operand)} {zero : List DV} {qs : List ((Nat × Nat) × Opd)} (ho : o.op = .build t parts) (hc : buildOk P ren t parts.toList zero qs = true)
    (h : Rel ren A b0 w0 N φ s a w) (hk : eff R s (.build zero qs) k = some r) (hx : Nx ren A b0 w0 N s a k r fun v w' => nxt (a.put o.dst v) w') : o.wp P a w nxt Q := by
  unfold buildOk at hc
  split at hc
  · rename_i fs hu
    simp only [Bool.and_eq_true] at hc
    simp only [eff] at hk
    replace ⟨ds, hk, h1⟩ := opds_parts h (placesOk_opds hc.2.2) hk
    split at hk
    · rename_i cs hcs
      obtain ⟨places, e1, e2⟩ := allInfo_get hc.2.1
      obtain ⟨i, z, hi, hz, hzc⟩ := zeroOk_two hc.1
      have hv := zcOk_rv hzc (w := w) (G := Gd A b0 s φ w) (φ := φ) (ren := ren) (by simp) (Bnd s) (by simp)
      obtain ⟨z', f1, f2, f3⟩ := fillc_sound (placesOk_ptl e2 hc.2.2 h1) hv.1 hv.2 hcs
      have hb : P.built t (parts.map fun (i, x) => (i, a.eval x)).toList = some z' := by
        unfold Program.built
        simp only [hi, hu, hz, e1]
        rw [Array.toList_map]; exact f1
      refine wp_val (v := .agg z') (w' := w) ?_ (hx.pure hk h ⟨.agg f2.1 f2.2.1 f2.2.2, .agg f3⟩)
      simp only [execOp, ho, Sem.run_bind, run_build w t _ _ hb, Result.andThen_ok, Sem.run_pure]
    · cases hk
  · cases hc

/-! #### rows of elements -/
theorem RVs.patch {G : Nat → Prop} {vs us : List Value} {cs ds : List DV} (h : RVs w G φ ren vs cs) (k : RVs w G φ ren us ds) (o n : Nat) : RVs w G φ ren (vs.take o ++ us ++ vs.drop n) (cs.take o ++ ds ++ cs.drop n) := by
  have ht : RVs w G φ ren (vs.take o) (cs.take o) := by
    refine ⟨by rw [List.length_take, List.length_take, h.1], fun v hv => h.2.1 v (List.mem_of_mem_take hv), fun j v d hj hd => ?_⟩
    have h1 := (List.getElem?_eq_some_iff.1 hj).1
    rw [List.length_take] at h1
    rw [List.getElem?_take_of_lt (by omega)] at hj hd
    exact h.2.2 j v d hj hd
  exact (ht.append k).append (h.drop n)
theorem flat_set {τ : Ty} {l : List (El τ)} {i : Nat} {x : El τ} (hi : i < l.length) :
    (l.set i x).flatMap (enc τ) = (l.flatMap (enc τ)).take (i * τ.esz) ++ enc τ x ++ (l.flatMap (enc τ)).drop (i * τ.esz + τ.esz) := by
  have ht : ∀ (l : List (El τ)) (n : Nat), (l.flatMap (enc τ)).take (n * τ.esz) = (l.take n).flatMap (enc τ) ∧ (l.flatMap (enc τ)).drop (n * τ.esz) = (l.drop n).flatMap (enc τ) := by
    intro l
    induction l with
    | nil => simp
    | cons y l ih =>
      intro n
      cases n with
      | zero => simp
      | succ n =>
        have e : (n + 1) * τ.esz = (enc τ y).length + n * τ.esz := by rw [enc_len, Nat.add_mul]; omega
        simp only [List.flatMap_cons, e, List.take_length_add_append, List.drop_length_add_append, List.take_succ_cons, List.drop_succ_cons, ih n, and_self]
  rw [show i * τ.esz + τ.esz = (i + 1) * τ.esz by rw [Nat.add_mul]; omega, (ht l i).1, (ht l (i + 1)).2, List.set_eq_take_append_cons_drop, if_pos hi, List.flatMap_append, List.flatMap_cons, List.append_assoc]
inductive PtA (ren : Nat → Option Nat) (A : Nat → Prop) (b0 : Nat) (φ : Nat → Option Value) (s : St) (w : World) : List (Nat × Value) → List (Nat × DV) → Prop
  | nil : PtA ren A b0 φ s w [] []
  | cons {i : Nat} {v : Value} {d : DV} {ps : List (Nat × Value)} {qs : List (Nat × DV)} : Op1 ren A b0 φ s w v d → PtA ren A b0 φ s w ps qs → PtA ren A b0 φ s w ((i, v) :: ps) ((i, d) :: qs)
theorem filla_sound {τ : Ty} {ps : List (Nat × Value)} {qs : List (Nat × DV)} (h : PtA ren A b0 φ s w ps qs) {z : Array Value} {l l' : List (El τ)}
    (hz : RVs w (Gd A b0 s φ w) φ ren z.toList (l.flatMap (enc τ))) (hf : filla τ l qs = some l') :
    ∃ z' : Array Value, Instr.fill (fun i => some (i * τ.esz, τ.esz)) z ps = some z' ∧ RVs w (Gd A b0 s φ w) φ ren z'.toList (l'.flatMap (enc τ)) ∧ l'.length = l.length := by
  induction h generalizing z l with
  | nil => simp only [filla, Option.some.injEq] at hf; subst hf; exact ⟨z, rfl, hz, rfl⟩
  | @cons i v d ps qs h1 h2 ih =>
    simp only [filla] at hf
    split at hf
    · rename_i us hus
      split at hf
      · rename_i x hd
        cases hlt : Nat.blt i l.length with
        | false => simp [hlt] at hf
        | true =>
          simp only [hlt, cond_true] at hf
          have hlt' : i < l.length := Nat.le_of_ble_eq_true hlt
          have hu := (h1.rv.cells hus).dec hd
          have hul : v.cells.toList.length = τ.esz := by rw [hu.1, enc_len]
          have hzl : z.toList.length = l.length * τ.esz := by rw [hz.1, flat_len]
          have hle : i * τ.esz + τ.esz ≤ z.toList.length := by
            have := Nat.mul_le_mul_right τ.esz (show i + 1 ≤ l.length by omega)
            rw [Nat.add_mul, Nat.one_mul] at this; omega
          obtain ⟨c2, e1, e2⟩ := fill_step (place := fun i => some (i * τ.esz, τ.esz)) (rest := ps) (i := i) rfl hul hle
          have hp := hz.patch hu (i * τ.esz) (i * τ.esz + τ.esz)
          rw [← flat_set hlt'] at hp
          rw [hul] at e1
          rw [← e1] at hp
          obtain ⟨z', g1, g2, g3⟩ := ih hp hf
          exact ⟨z', by rw [e2]; exact g1, g2, by rw [g3, List.length_set]⟩
      · cases hf
    · cases hf
def idxOk : List (Nat × Operand) → List (Nat × Opd) → (Nat → Option Nat) → Bool
  | [], [], _ => true
  | (i, x) :: ps, (j, x') :: qs, ren => Nat.beq i j && (opdOk ren x x' && idxOk ps qs ren)
  | _, _, _ => false
theorem idxOk_opds {ps : List (Nat × Operand)} {qs : List (Nat × Opd)} (h : idxOk ps qs ren = true) : opdsOk ren (ps.map (·.2)) (qs.map (·.2)) = true := by
  induction ps generalizing qs with
  | nil => cases qs with
    | nil => rfl
    | cons q qs => simp [idxOk] at h
  | cons p ps ih => cases qs with
    | nil => simp [idxOk] at h
    | cons q qs =>
      simp only [idxOk, Bool.and_eq_true] at h
      simp only [List.map_cons, opdsOk, Bool.and_eq_true]
      exact ⟨h.2.1, ih h.2.2⟩
theorem idxOk_pta {ps : List (Nat × Operand)} {qs : List (Nat × Opd)} (h : idxOk ps qs ren = true) {ds : List DV} (ho : OpL ren A b0 φ s w ((ps.map (·.2)).map a.eval) ds) :
    PtA ren A b0 φ s w (ps.map fun (i, x) => (i, a.eval x)) ((qs.map (·.1)).zip ds) := by
  induction ps generalizing qs ds with
  | nil => cases qs with
    | nil => cases ho; exact .nil
    | cons q qs => simp [idxOk] at h
  | cons p ps ih => cases qs with
    | nil => simp [idxOk] at h
    | cons q qs =>
      obtain ⟨i, x⟩ := p; obtain ⟨j, x'⟩ := q
      simp only [idxOk, Bool.and_eq_true] at h
      obtain rfl := Nat.eq_of_beq_eq_true h.1
      simp only [List.map_cons] at ho
      cases ho with
      | cons h1 h2 => exact .cons h1 (ih h.2.2 h2)
def buildaOk (P : Program) (ren : Nat → Option Nat) (t : TypeId) (ps : List (Nat × Operand)) (τ : Ty) (l : List (El τ)) (qs : List (Nat × Opd)) : Bool :=
  match P.underlying t with
  | some (.array _ el) => zeroOk P t none (l.flatMap (enc τ)) && (szOk P el τ.esz && idxOk ps qs ren)
  | _ => false
theorem s_builda {t : TypeId} {parts : Array (Nat × Operand)} {τ : Ty} {l : List (El τ)} {qs : List (Nat × Opd)} (ho : o.op = .build t parts) (hc : buildaOk P ren t parts.toList τ l qs = true)
    (h : Rel ren A b0 w0 N φ s a w) (hk : eff R s (.builda τ l qs) k = some r) (hx : Nx ren A b0 w0 N s a k r fun v w' => nxt (a.put o.dst v) w') : o.wp P a w nxt Q := by
  unfold buildaOk at hc
  split at hc
  · rename_i n el hu
    simp only [Bool.and_eq_true] at hc
    simp only [eff] at hk
    replace ⟨ds, hk, h1⟩ := opds_parts h (idxOk_opds hc.2.2) hk
    split at hk
    · rename_i l' hl'
      obtain ⟨i, z, hi, hz, hzc⟩ := zeroOk_two hc.1
      obtain ⟨ie, hie, hsz⟩ := szOk_get hc.2.1
      have hv := zcOk_rv hzc (w := w) (G := Gd A b0 s φ w) (φ := φ) (ren := ren) (by simp) (Bnd s) (by simp)
      obtain ⟨z', f1, f2, f3⟩ := filla_sound (idxOk_pta hc.2.2 h1) hv.1 hl'
      have hb : P.built t (parts.map fun (i, x) => (i, a.eval x)).toList = some z' := by
        unfold Program.built
        simp only [hi, hu, hz, hie, hsz]
        rw [Array.toList_map]; exact f1
      refine wp_val (v := .agg z') (w' := w) ?_ (hx.pure hk h ⟨.arr f2.1 f2.2.1 f2.2.2, .arr _ _⟩)
      simp only [execOp, ho, Sem.run_bind, run_build w t _ _ hb, Result.andThen_ok, Sem.run_pure]
    · cases hk
  · cases hc

/-- So many zero elements. -/
theorem made_list (z : Array Value) (n : Nat) : (madeCells z (n * z.size)).toList = (List.replicate n z.toList).flatten := by
  by_cases hz : z.size = 0
  · have : z = #[] := Array.eq_empty_of_size_eq_zero hz
    subst this
    simp [madeCells, List.flatten_replicate_nil]
  · have hg := Great.flat_get (s := z.size) (by omega) (List.replicate n (.agg z)) (fun v hv => by rw [List.eq_of_mem_replicate hv]; rfl)
    have e : (List.replicate n z.toList).flatten = (List.replicate n (Value.agg z)).flatMap fun v => v.cells.toList := by
      rw [List.flatMap_replicate]; rfl
    rw [e]
    apply List.ext_getElem?
    intro k
    rw [hg k, toList_getElem?]
    by_cases hk : k < n * z.size
    · have hd : k / z.size < n := by rw [Nat.div_lt_iff_lt_mul (by omega)]; exact hk
      have hm : k % z.size < z.size := Nat.mod_lt _ (by omega)
      rw [List.getElem?_replicate, if_pos hd]
      simp [madeCells, hk, Value.cells, hm]
    · have hd : ¬ k / z.size < n := by rw [Nat.div_lt_iff_lt_mul (by omega)]; exact hk
      rw [List.getElem?_replicate, if_neg hd]
      simp [madeCells, hk]
theorem made_rvs {G : Nat → Prop} {z : Array Value} {τ : Ty} (hz : z.size = τ.esz) {l : List (El τ)} (h : ∀ x ∈ l, RVs w G φ ren z.toList (enc τ x)) :
    RVs w G φ ren (madeCells z (l.length * τ.esz)).toList (l.flatMap (enc τ)) := by
  rw [← hz, made_list]
  induction l with
  | nil => exact .nil
  | cons x l ih =>
    rw [List.length_cons, List.replicate_succ, List.flatten_cons, List.flatMap_cons]
    exact (h x (by simp)).append (ih fun y hy => h y (by simp [hy]))

def elOk (P : Program) (t : TypeId) (τ : Ty) (l : List (El τ)) : Bool :=
  match P.underlying t with
  | some (.slice el) => match P.info? el with
    | some i => match i.zero with
      | some z => Nat.beq i.size τ.esz && (Nat.beq i.bytes τ.bytes && (Nat.beq z.cells.size τ.esz && l.all fun x => zcOk none z.cells.toList (enc τ x)))
      | none => false
    | none => false
  | _ => false
theorem elOk_get {t : TypeId} {τ : Ty} {l : List (El τ)} (h : elOk P t τ l = true) : ∃ el i z, P.underlying t = some (.slice el) ∧ P.info? el = some i ∧ i.zero = some z ∧ i.size = τ.esz ∧ i.bytes = τ.bytes ∧ z.cells.size = τ.esz ∧
    ∀ x ∈ l, zcOk none z.cells.toList (enc τ x) = true := by
  unfold elOk at h
  split at h
  · rename_i el hu
    split at h
    · rename_i i hi
      split at h
      · rename_i z hz
        simp only [Bool.and_eq_true, List.all_eq_true] at h
        exact ⟨el, i, z, hu, hi, hz, Nat.eq_of_beq_eq_true h.1, Nat.eq_of_beq_eq_true h.2.1, Nat.eq_of_beq_eq_true h.2.2.1, h.2.2.2⟩
      · cases h
    · cases h
  · cases h
def bsliceOk (P : Program) (ren : Nat → Option Nat) (t : TypeId) (len : Nat) (ps : List (Nat × Operand)) (τ : Ty) (l : List (El τ)) (qs : List (Nat × Opd)) : Bool :=
  elOk P t τ l && (Nat.beq len l.length && (Nat.ble 0 len && (Nat.ble (len * τ.esz) 16777216 && idxOk ps qs ren)))
/-- A slice of a new block. -/
theorem newSl (h : Rel ren A b0 w0 N φ s a w) {arr : Array Value} {t : TypeId} {τ : Ty} {l : List (El τ)} (hv : RVs w (Gd A b0 s φ w) φ ren arr.toList (l.flatMap (enc τ))) :
    Rel ren A b0 w0 N φ s a (w.alloc (.cells arr t)) ∧ Op1 ren A b0 φ s (w.alloc (.cells arr t)) (.slice (some ⟨w.heap.size, 0, none⟩) l.length l.length) (.sl τ l) := by
  have ht : Turn w (w.alloc (.cells arr t)) fun _ => False := Turn.alloc w _ _
  have h0 := h.turn0 ht
  have hgd : Gd A b0 s φ (w.alloc (.cells arr t)) w.heap.size := by
    refine ⟨by simp, ?_, fun hlt => ?_⟩
    · rintro ⟨n, b, hd, g1, g2, g3⟩
      obtain ⟨k', q1, _, q3⟩ := h.sto n b g1
      rw [g2] at q1; cases q1
      have := (q3 _ g3).2; omega
    · have := h.b0le; omega
  have key : ∀ i, ∃ us : List Value, ∀ x, l[i]? = some x → RVs w (Gd A b0 s φ w) φ ren us (enc τ x) ∧ ∀ j u, us[j]? = some u → arr.toList[i * τ.esz + j]? = some u := by
    intro i
    cases hi : l[i]? with
    | none => exact ⟨[], fun x hx => by cases hx⟩
    | some x => obtain ⟨us, g1, g2⟩ := hv.elem hi; exact ⟨us, fun y hy => by cases hy; exact ⟨g1, g2⟩⟩
  let vals : Nat → List Value := fun i => (key i).choose
  have hvals : ∀ i x, l[i]? = some x → RVs w (Gd A b0 s φ w) φ ren (vals i) (enc τ x) ∧ ∀ j u, (vals i)[j]? = some u → arr.toList[i * τ.esz + j]? = some u := fun i => (key i).choose_spec
  have hm : ∀ i x, l[i]? = some x → RVs (w.alloc (.cells arr t)) (Gd A b0 s φ (w.alloc (.cells arr t))) φ ren (vals i) (enc τ x) :=
    fun i x hi => (hvals i x hi).1.mono h0.2 (fun x hx => ht.cell hx.1 id) (fun d hd => NamesOk.enc _ τ x d hd)
  refine ⟨h0.1, .sl vals rfl (Nat.le_refl _) (fun i x hi => (hm i x hi).1) (fun i x hi => (hm i x hi).2.1) (fun i x hi => (hm i x hi).2.2) (fun i x hi j v hj => ?_), .sl _ _⟩
  refine ⟨_, _, rfl, hgd, ?_⟩
  rw [show 0 + i * τ.esz + j = 0 + (i * τ.esz + j) by omega]
  exact new_has w arr t _ _ ((hvals i x hi).2 j v hj)
theorem run_buildSlice1 {P : Program} (w : World) (t e : TypeId) (len : Nat) (parts : Array (Nat × Value)) (cells : Array Value) (ie : TypeInfo) (z : Value)
    (hu : P.underlying t = some (.slice e)) (hie : P.info? e = some ie) (hz : ie.zero = some z) (hsmall : ¬ len * ie.size > 2 ^ 24)
    (h : Instr.fill (fun i => some (i * ie.size, ie.size)) ((Array.range (len * ie.size)).map (z.cells[· % z.cells.size]!)) parts.toList = some cells) :
    (Instr.buildSlice t len parts).run P w = .ok (.slice (some ⟨w.heap.size, 0, none⟩) len len) (w.alloc (.cells cells e)) := by
  by_cases hpos : len * ie.size = 0
  · rw [hpos] at h
    have r0 : Array.range 0 = #[] := by simp [Array.range]
    have h' : Instr.fill (fun i => some (i * ie.size, ie.size)) #[] parts.toList = some cells := by simpa [r0] using h
    simp [Instr.buildSlice, run_underlying hu, Go.sizeOf, typeInfo, zeroValue, hie, hz, hpos, r0, h', newRow]
  · exact run_buildSlice w t e len parts cells ie z hu hie hz hsmall hpos h
theorem s_bslice {t : TypeId} {len : Nat} {parts : Array (Nat × Operand)} {nm : Option Nat} {τ : Ty} {l : List (El τ)} {qs : List (Nat × Opd)} (ho : o.op = .buildSlice t len parts) (hc : bsliceOk P ren t len parts.toList τ l qs = true)
    (h : Rel ren A b0 w0 N φ s a w) (hk : eff R s (.bslice nm τ l qs) k = some r) (hx : Nx ren A b0 w0 N s a k r fun v w' => nxt (a.put o.dst v) w') : o.wp P a w nxt Q := by
  unfold bsliceOk at hc
  simp only [Bool.and_eq_true] at hc
  obtain ⟨hel, hlen, h1le, hsm, hidx⟩ := hc
  obtain rfl := Nat.eq_of_beq_eq_true hlen
  simp only [eff] at hk
  replace ⟨ds, hk, h1⟩ := opds_parts h (idxOk_opds hidx) hk
  split at hk
  · rename_i l' hl'
    obtain ⟨el, i, z, hu, hi, hz, e1, e2, e3, e4⟩ := elOk_get hel
    have hv := made_rvs (w := w) (G := Gd A b0 s φ w) (φ := φ) (ren := ren) e3 fun x hx => (zcOk_rv (e4 x hx) (w := w) (G := Gd A b0 s φ w) (φ := φ) (ren := ren) (by simp) (Bnd s) (by simp)).1
    obtain ⟨z', f1, f2, f3⟩ := filla_sound (idxOk_pta hidx h1) hv hl'
    have run := run_buildSlice1 (P := P) w t el l.length (parts.map fun (i, x) => (i, a.eval x)) z' i z hu hi hz (by rw [e1]; have := Nat.le_of_ble_eq_true hsm; omega)
      (by rw [e1, Array.toList_map]; exact f1)
    have run' : (execOp a.eval o).run P w = .ok (.value (.slice (some ⟨w.heap.size, 0, none⟩) l.length l.length)) (w.alloc (.cells z' el)) := by
      simp only [execOp, ho, Sem.run_bind, run, Result.andThen_ok, Sem.run_pure]
    rw [← f3] at run'
    have hz'sz : z'.size = l'.length * τ.esz := by have := f2.1; rw [flat_len] at this; simpa using this
    split at hk
    · rename_i n
      have := newRow' h (arr := z') (t := el) (τ := τ) (l := l') (cap := l'.length) (vs := z'.toList) (rest := []) (Nat.le_refl _) hz'sz (by simp) f2 (e := { v := .lsl n, bl := [(n, .row τ l')], pg := anew s n }) rfl rfl
      obtain ⟨φ', g1, g2⟩ := this
      exact wp_val run' (hx _ _ _ _ hk g1 g2)
    · have := newSl h (arr := z') (t := el) f2
      exact wp_val run' (hx _ _ _ φ hk this.1 this.2)
  · cases hk

/-! #### make -/
def mkOk (P : Program) (t : TypeId) (τ : Ty) (z : El τ) (x y : Operand) : Bool := elOk P t τ [z] && (match x, y with
  | .tmp a, .tmp b => Nat.beq a b
  | .const (.int .i64 a), .const (.int .i64 b) => a == b
  | _, _ => false)
theorem mkOk_eq {t : TypeId} {τ : Ty} {z : El τ} {x y : Operand} (h : mkOk P t τ z x y = true) : elOk P t τ [z] = true ∧ x = y := by
  unfold mkOk at h
  simp only [Bool.and_eq_true] at h
  refine ⟨h.1, ?_⟩
  have h2 := h.2
  split at h2
  · rw [Nat.eq_of_beq_eq_true h2]
  · rename_i a b
    obtain rfl : a = b := by simpa using h2
    rfl
  · cases h2
theorem room_le {τ : Ty} {n : Nat} (h : room τ n = true) : n * τ.bytes ≤ 140737488355328 := by simpa [room] using h
theorem bytes_pos (τ : Ty) : 0 < τ.bytes := by cases τ <;> decide
theorem s_mkslice {t : TypeId} {x y : Operand} {nm : Nat} {τ : Ty} {z : El τ} {x' : Opd} (ho : o.op = .makeSlice t x y) (hc : (mkOk P t τ z x y && opdOk ren x x') = true)
    (h : Rel ren A b0 w0 N φ s a w) (hk : eff R s (.mkslice nm τ z x') k = some r) (hx : Nx ren A b0 w0 N s a k r fun v w' => nxt (a.put o.dst v) w') : o.wp P a w nxt Q := by
  simp only [Bool.and_eq_true] at hc
  obtain ⟨hel, rfl⟩ := mkOk_eq hc.1
  simp only [eff] at hk
  replace ⟨dx, hk, h1⟩ := opd_sound h hc.2 hk
  split at hk
  · rename_i kd n
    simp only [gd] at hk
    cases hg : (decide (0 ≤ n) && room τ n.toNat) with
    | false => simp [hg] at hk
    | true =>
    simp only [hg, cond_true] at hk
    simp only [Bool.and_eq_true, decide_eq_true_eq] at hg
    obtain ⟨el, i, zz, hu, hi, hz, e1, e2, e3, e4⟩ := elOk_get hel
    have hrm := room_le hg.2
    have hbp := bytes_pos τ
    have hnle : n.toNat ≤ 140737488355328 := Nat.le_trans (Nat.le_mul_of_pos_right _ hbp) hrm
    have hb : (i.bytes : Int) * n ≤ 281474976710656 := by
      rw [e2]
      have : ((n.toNat * τ.bytes : Nat) : Int) ≤ 140737488355328 := by omega
      rw [Int.natCast_mul, Int.toNat_of_nonneg hg.1, Int.mul_comm] at this
      omega
    have run := run_make (P := P) w t el i zz hu hi hz kd kd n n hg.1 (Int.le_refl _) hb (by omega)
    rw [e1] at run
    have hrep : (List.replicate n.toNat z).length = n.toNat := List.length_replicate
    have hv := made_rvs (w := w) (G := Gd A b0 s φ w) (φ := φ) (ren := ren) (l := List.replicate n.toNat z) e3 fun x hx =>
      (zcOk_rv (e4 x (by rw [List.eq_of_mem_replicate hx]; simp)) (w := w) (G := Gd A b0 s φ w) (φ := φ) (ren := ren) (by simp) (Bnd s) (by simp)).1
    rw [hrep] at hv
    have := newRow' h (arr := madeCells zz.cells (n.toNat * τ.esz)) (t := el) (τ := τ) (l := List.replicate n.toNat z) (cap := n.toNat) (vs := (madeCells zz.cells (n.toNat * τ.esz)).toList) (rest := [])
      (by rw [hrep]; exact Nat.le_refl _) (by rw [size_madeCells]) (by simp) hv (e := { v := .lsl nm, bl := [(nm, .row τ (List.replicate n.toNat z))], pg := anew s nm }) rfl rfl
    obtain ⟨φ', g1, g2⟩ := this
    rw [hrep] at g2
    refine wp_val ?_ (hx _ _ _ _ hk g1 g2)
    simp only [execOp, ho, h1.rv.int_inv, Sem.run_bind, run, Result.andThen_ok, Sem.run_pure]
  · cases hk
end
end Bz
