/- Conversions, parts, addresses. -/
import Derived.Test.YtjlgkjmbndmkjabSound6
set_option linter.all false
set_option linter.unusedVariables false
namespace Bz
open Go Go.RowKit

theorem Addr.add_none (r b n : Nat) : (⟨r, b, none⟩ : Addr).add n = ⟨r, b + n, none⟩ := by
  unfold Addr.add; split
  · simp_all
  · rfl
theorem idx_get {α : Type} {l : List α} {i : Int} {k : α → Option DV} {r : DV} (h : idx l i k = some r) : ∃ x, l[i.toNat]? = some x ∧ k x = some r ∧ 0 ≤ i ∧ i < l.length := by
  unfold idx at h
  cases hi : decide (0 ≤ i) with
  | false => simp [hi] at h
  | true =>
    simp only [hi, cond_true] at h
    split at h
    · rename_i x hx
      have h0 : 0 ≤ i := of_decide_eq_true hi
      have := (List.getElem?_eq_some_iff.1 hx).1
      exact ⟨x, hx, h, h0, by omega⟩
    · cases h
theorem esz_pos (τ : Ty) : 0 < τ.esz := by cases τ <;> decide

def intTo (P : Program) (src dst : TypeId) (k : IntKind) : Bool :=
  match P.underlying src, P.underlying dst with
  | some _, some (.int k') => kindEq k k'
  | _, _ => false
def floatTo (P : Program) (src dst : TypeId) : Bool :=
  match P.underlying src, P.underlying dst with
  | some _, some (.float .f64) => true
  | _, _ => false
def fieldOk (P : Program) (t : TypeId) (f off : Nat) : Bool :=
  match P.underlying t with
  | some (.struct fs) => match fs[f]? with
    | some fl => Nat.beq fl.offset off && match P.info? fl.type with
      | some i => !Nat.beq i.size 0
      | none => false
    | none => false
  | _ => false
def slOk (P : Program) (t : TypeId) (e : Nat) : Bool :=
  match P.underlying t with
  | some (.slice el) => szOk P el e
  | _ => false
def arOk (P : Program) (t : TypeId) (n e : Nat) : Bool :=
  match P.underlying t with
  | some (.array m el) => Nat.beq m n && szOk P el e
  | _ => false
def strOk (P : Program) (t : TypeId) : Bool :=
  match P.underlying t with
  | some .string => true
  | _ => false
theorem slOk_get {P : Program} {t : TypeId} {e : Nat} (h : slOk P t e = true) : ∃ el, P.underlying t = some (.slice el) ∧ szOk P el e = true := by
  unfold slOk at h; split at h
  · exact ⟨_, ‹_›, h⟩
  · cases h
theorem arOk_get {P : Program} {t : TypeId} {n e : Nat} (h : arOk P t n e = true) : ∃ el, P.underlying t = some (.array n el) ∧ szOk P el e = true := by
  unfold arOk at h; split at h
  · simp only [Bool.and_eq_true] at h
    obtain rfl := Nat.eq_of_beq_eq_true h.1
    exact ⟨_, ‹_›, h.2⟩
  · cases h
theorem strOk_get {P : Program} {t : TypeId} (h : strOk P t = true) : P.underlying t = some .string := by
  unfold strOk at h; split at h
  · assumption
  · cases h

section
variable {w : World} {G : Nat → Prop} {φ : Nat → Option Value} {ren : Nat → Option Nat}
theorem RV.addr (v : Value) (d : DV) (h : RV w G φ ren v d) (off : Nat) {d' : DV}
    (hd : (∃ cs, d = .imm cs ∧ d' = .imm (cs.drop off)) ∨ (∃ n o, d = .loc n o ∧ d' = .loc n (o + off)) ∨ ∃ n e i o, d = .lel n e i o ∧ d' = .lel n e i (o + off)) :
    ∃ ad, v = .pointer (some ad) ∧ RV w G φ ren (.pointer (some (ad.add off))) d' := by
  rcases hd with ⟨cs, rfl, rfl⟩ | ⟨n, o, rfl, rfl⟩ | ⟨n, e, i, o, rfl, rfl⟩
  · cases h with
    | imm vs h1 h2 h3 h4 =>
      rename_i ad
      have hv : RVs w G φ ren (vs.drop off) (cs.drop off) := RVs.drop ⟨h1, h2, h3⟩ off
      refine ⟨ad, rfl, .imm (vs.drop off) hv.1 hv.2.1 hv.2.2 fun j v hj => ?_⟩
      simp only [List.getElem?_drop] at hj
      obtain ⟨b, f, e, g, c⟩ := h4 _ _ hj
      cases e
      exact ⟨b, f + off, by rw [Addr.add_none], g, by rw [show f + off + 0 + j = f + 0 + (off + j) by omega]; exact c⟩
  · cases h with
    | loc h1 h2 =>
      refine ⟨_, rfl, ?_⟩
      rw [Addr.add_none]
      have := RV.loc (w := w) (G := G) (ren := ren) (o := o + off) h1 h2
      rwa [← Nat.add_assoc] at this
  · cases h with
    | lel h1 h2 =>
      refine ⟨_, rfl, ?_⟩
      rw [Addr.add_none]
      have := RV.lel (w := w) (G := G) (ren := ren) (e := e) (i := i) (o := o + off) h1 h2
      rw [← Nat.add_assoc, ← Nat.add_assoc] at this
      rwa [← Nat.add_assoc]
theorem RV.sl_inv {v : Value} {τ : Ty} {l : List (El τ)} (h : RV w G φ ren v (.sl τ l)) : ∃ (ad : Option Addr) (cap : Nat) (vals : Nat → List Value), v = .slice ad l.length cap ∧ l.length ≤ cap ∧
    (∀ (i : Nat) (x : El τ), l[i]? = some x → RVs w G φ ren (vals i) (enc τ x)) ∧ ∀ (i : Nat) (x : El τ), l[i]? = some x → Mem w G ad (i * τ.esz) (vals i) := by
  cases h with
  | sl vals hl hc h1 h2 h3 h4 => exact ⟨_, _, vals, by rw [hl], by omega, fun i x hi => ⟨h1 i x hi, h2 i x hi, h3 i x hi⟩, h4⟩
theorem RV.nsl_inv {v : Value} {τ : Ty} (h : RV w G φ ren v (.nsl τ)) : ∃ ad, v = .slice ad 0 0 := by cases h; exact ⟨_, rfl⟩
theorem Mem.some {ad : Option Addr} {o : Nat} {vs : List Value} (h : Mem w G ad o vs) (hl : 0 < vs.length) : ∃ b f, ad = some ⟨b, f, none⟩ := by
  obtain ⟨b, f, e, _⟩ := h 0 vs[0] (by simp)
  exact ⟨b, f, e⟩
end

section
variable {ren : Nat → Option Nat} {A : Nat → Prop} {b0 : Nat} {w0 : World} {N : Nat} {φ : Nat → Option Value} {s : St} {a : Act} {w : World}
variable {P : Program} {o : Oper} {nxt : Act → World → Prop} {Q : Exit → Act → World → Prop} {R : Nat → List DV → Option DV} {k : Eff → Option DV} {r : DV}

theorem s_conv {src dst : TypeId} {i : IntKind} {x : Operand} {x' : Opd} (ho : o.op = .convert src dst x) (hc : (intTo P src dst i && opdOk ren x x') = true)
    (h : Rel ren A b0 w0 N φ s a w) (hk : eff R s (.conv i x') k = some r) (hx : Nx ren A b0 w0 N s a k r fun v w' => nxt (a.put o.dst v) w') : o.wp P a w nxt Q := by
  simp only [Bool.and_eq_true] at hc
  simp only [eff] at hk
  replace ⟨dx, hk, h1⟩ := opd_sound h hc.2 hk
  have hu := hc.1
  unfold intTo at hu
  split at hu
  · rename_i d1 k' e1 e2
    obtain rfl := kindEq_eq hu
    split at hk
    · rename_i j m
      exact wp_val (v := .int i (i.wrap m)) (w' := w) (by cases d1 <;> simp [execOp, ho, h1.rv.int_inv, convert, run_und e1, run_und e2, Conv.intToInt]) (hx.pure hk h ⟨.int _ _, .int _ _⟩)
    · cases hk
  · cases hu
theorem s_i2f {src dst : TypeId} {x : Operand} {x' : Opd} (ho : o.op = .convert src dst x) (hc : (floatTo P src dst && opdOk ren x x') = true)
    (h : Rel ren A b0 w0 N φ s a w) (hk : eff R s (.i2f x') k = some r) (hx : Nx ren A b0 w0 N s a k r fun v w' => nxt (a.put o.dst v) w') : o.wp P a w nxt Q := by
  simp only [Bool.and_eq_true] at hc
  simp only [eff] at hk
  replace ⟨dx, hk, h1⟩ := opd_sound h hc.2 hk
  have hu := hc.1
  unfold floatTo at hu
  split at hu
  · rename_i d1 e1 e2
    split at hk
    · rename_i j m
      exact wp_val (v := .float .f64 (FloatKind.f64.nearest m)) (w' := w) (by cases d1 <;> simp [execOp, ho, h1.rv.int_inv, convert, run_und e1, run_und e2, Conv.intToFloat]) (hx.pure hk h ⟨.float (.inl rfl), .float _⟩)
    · cases hk
  · cases hu
theorem toInt_nan {b : Nat} (h : isNaN b = true) : (FloatKind.f64.decode b).toInt .zero = none := by
  unfold isNaN Ieee.Datum.isNaN at h
  have e : FloatKind.f64.decode b = Ieee.double.read b := rfl
  rw [e]
  split at h
  · rename_i s t e; rw [e]; rfl
  · cases h
theorem s_f2i {src dst : TypeId} {i : IntKind} {x : Operand} {x' : Opd} (ho : o.op = .convert src dst x) (hc : (intTo P src dst i && opdOk ren x x') = true)
    (h : Rel ren A b0 w0 N φ s a w) (hk : eff R s (.f2i i x') k = some r) (hx : Nx ren A b0 w0 N s a k r fun v w' => nxt (a.put o.dst v) w') : o.wp P a w nxt Q := by
  simp only [Bool.and_eq_true] at hc
  simp only [eff] at hk
  replace ⟨dx, hk, h1⟩ := opd_sound h hc.2 hk
  have hu := hc.1
  unfold intTo at hu
  split at hu
  · rename_i d1 k' e1 e2
    obtain rfl := kindEq_eq hu
    split at hk
    · rename_i b
      split at hk
      · rename_i n hn
        obtain ⟨b', ex, hb⟩ := h1.rv.float_inv
        have eb : b' = b := by
          rcases hb with rfl | ⟨hb, _⟩
          · rfl
          · rw [toInt_nan hb] at hn; cases hn
        subst eb
        unfold gd at hk
        cases hd : (decide (i.min ≤ n) && decide (n ≤ i.max)) with
        | false => simp [hd] at hk
        | true =>
          simp only [hd, cond_true] at hk
          simp only [Bool.and_eq_true, decide_eq_true_eq] at hd
          exact wp_val (v := .int i n) (w' := w) (by cases d1 <;> simp [execOp, ho, ex, convert, run_und e1, run_und e2, Conv.floatToInt, hn, hd]) (hx.pure hk h ⟨.int _ _, .int _ _⟩)
      · cases hk
    · cases hk
  · cases hu
theorem s_nck {x : Operand} {x' : Opd} (ho : o.op = .nilCheck x) (hc : opdOk ren x x' = true)
    (h : Rel ren A b0 w0 N φ s a w) (hk : eff R s (.nck x') k = some r) (hx : Nx ren A b0 w0 N s a k r fun v w' => nxt (a.put o.dst v) w') : o.wp P a w nxt Q := by
  simp only [eff] at hk
  replace ⟨dx, hk, h1⟩ := opd_sound h hc hk
  have key : ∀ d, (∃ ad, a.eval x = .pointer (some ad)) → k { v := d } = some r → Op1 ren A b0 φ s w (a.eval x) d → o.wp P a w nxt Q := by
    rintro d ⟨ad, e⟩ hk h1
    exact wp_val (v := a.eval x) (w' := w) (by simp [execOp, ho, e]) (hx.pure hk h h1)
  split at hk
  · obtain ⟨ad, e, _⟩ := h1.rv.addr _ _ 0 (.inl ⟨_, rfl, rfl⟩); exact key _ ⟨ad, e⟩ hk h1
  · obtain ⟨ad, e, _⟩ := h1.rv.addr _ _ 0 (.inr (.inl ⟨_, _, rfl, rfl⟩)); exact key _ ⟨ad, e⟩ hk h1
  · obtain ⟨ad, e, _⟩ := h1.rv.addr _ _ 0 (.inr (.inr ⟨_, _, _, _, rfl, rfl⟩)); exact key _ ⟨ad, e⟩ hk h1
  · cases hk
theorem s_ext {x : Operand} {x' : Opd} {i : Nat} (ho : o.op = .extract x i) (hc : opdOk ren x x' = true)
    (h : Rel ren A b0 w0 N φ s a w) (hk : eff R s (.ext x' i) k = some r) (hx : Nx ren A b0 w0 N s a k r fun v w' => nxt (a.put o.dst v) w') : o.wp P a w nxt Q := by
  simp only [eff] at hk
  replace ⟨dx, hk, h1⟩ := opd_sound h hc hk
  split at hk
  · rename_i vs
    split at hk
    · rename_i d hd
      obtain ⟨arr, e, h2, h3⟩ := h1.rv.tup_inv
      have hlt : i < arr.toList.length := by rw [h2]; exact (List.getElem?_eq_some_iff.1 hd).1
      have hv : arr[i]? = some arr.toList[i] := by rw [← Array.getElem?_toList]; exact List.getElem?_eq_getElem hlt
      refine wp_val (v := arr.toList[i]) (w' := w) (by simp only [execOp, ho, e, Instr.extract]; simp [hv]) (hx.pure hk h ⟨h3 i _ d (List.getElem?_eq_getElem hlt) hd, ?_⟩)
      cases h1.nm with
      | tup hn => exact hn d (List.mem_of_getElem? hd)
    · cases hk
  · cases hk
theorem s_idxs {t : TypeId} {x y : Operand} {x' y' : Opd} (ho : o.op = .index t x y) (hc : (strOk P t && (opdOk ren x x' && opdOk ren y y')) = true)
    (h : Rel ren A b0 w0 N φ s a w) (hk : eff R s (.idxs x' y') k = some r) (hx : Nx ren A b0 w0 N s a k r fun v w' => nxt (a.put o.dst v) w') : o.wp P a w nxt Q := by
  simp only [Bool.and_eq_true] at hc
  simp only [eff] at hk
  replace ⟨dx, hk, h1⟩ := opd_sound h hc.2.1 hk
  replace ⟨dy, hk, h2⟩ := opd_sound h hc.2.2 hk
  split at hk
  · rename_i b j i
    obtain ⟨c, hc', hk, h0, hlt⟩ := idx_get hk
    have hsz : i.toNat < b.size := by
      have : b.data.toList.length = b.size := by rw [Array.length_toList]; rfl
      omega
    have e : b[i.toNat]? = some c := by
      have e1 : b.data.toList[i.toNat] = c := (List.getElem?_eq_some_iff.1 hc').2
      rw [getElem?_pos b i.toNat hsz]
      rw [← e1]; rfl
    have run : (Instr.index t (.string b) (.int j i)).run P w = .ok (.int .u8 c.toNat) w := by
      simp only [Instr.index, asIntOf, pure_bind, Sem.run_bind, run_und (strOk_get hc.1), Result.andThen_ok, if_pos h0, e, Sem.run_pure]
    exact wp_val (v := .int .u8 c.toNat) (w' := w) (by simp only [execOp, ho, h1.rv.str_inv, h2.rv.int_inv, Sem.run_bind, run, Result.andThen_ok, Sem.run_pure]) (hx.pure hk h ⟨.int _ _, .int _ _⟩)
  · cases hk
theorem s_faddr {t : TypeId} {f off : Nat} {x : Operand} {x' : Opd} (ho : o.op = .fieldAddr t x f) (hc : (fieldOk P t f off && opdOk ren x x') = true)
    (h : Rel ren A b0 w0 N φ s a w) (hk : eff R s (.faddr off x') k = some r) (hx : Nx ren A b0 w0 N s a k r fun v w' => nxt (a.put o.dst v) w') : o.wp P a w nxt Q := by
  simp only [Bool.and_eq_true] at hc
  simp only [eff] at hk
  replace ⟨dx, hk, h1⟩ := opd_sound h hc.2 hk
  have hf := hc.1
  unfold fieldOk at hf
  split at hf
  · rename_i fs hu
    split at hf
    · rename_i fl hfl
      simp only [Bool.and_eq_true] at hf
      obtain rfl := Nat.eq_of_beq_eq_true hf.1
      have hs := hf.2
      split at hs
      · rename_i inf hi
        have hs0 : inf.size ≠ 0 := by intro e; rw [e] at hs; simp at hs
        have run : ∀ ad, (Instr.fieldAt t (.pointer (some ad)) f).run P w = .ok (.pointer (some (ad.add fl.offset))) w := by
          intro ad
          simp [Instr.fieldAt, run_und hu, hfl, Instr.sureAddr, fieldPlace, Go.sizeOf, run_typeInfo' hi, hs0]
        have key : ∀ (d' : DV), k { v := d' } = some r → (∃ ad, a.eval x = .pointer (some ad) ∧ RV w (Gd A b0 s φ w) φ ren (.pointer (some (ad.add fl.offset))) d') → NamesOk (Bnd s) d' → o.wp P a w nxt Q := by
          rintro d' hk ⟨ad, e, hr⟩ hn
          exact wp_val (v := .pointer (some (ad.add fl.offset))) (w' := w) (by simp only [execOp, ho, e]; simp [run]) (hx.pure hk h ⟨hr, hn⟩)
        split at hk
        · rename_i cs
          refine key _ hk (h1.rv.addr _ _ _ (.inl ⟨_, rfl, rfl⟩)) ?_
          cases h1.nm with
          | imm hn => exact .imm fun d hd => hn d (List.mem_of_mem_drop hd)
        · refine key _ hk (h1.rv.addr _ _ _ (.inr (.inl ⟨_, _, rfl, rfl⟩))) ?_
          cases h1.nm with
          | loc _ hn => exact .loc _ hn
        · refine key _ hk (h1.rv.addr _ _ _ (.inr (.inr ⟨_, _, _, _, rfl, rfl⟩))) ?_
          cases h1.nm with
          | lel _ _ _ hn => exact .lel _ _ _ hn
        · cases hk
      · cases hs
    · cases hf
  · cases hf
end
end Bz
