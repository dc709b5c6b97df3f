/- One operation, checked and run. -/
import Derived.Test.YtjlgkjmbndmkjabSoundM
set_option linter.all false
set_option linter.unusedVariables false
namespace Bz
open Go Go.RowKit

def opOk (P : Program) (ren : Nat → Option Nat) (o : Oper) (d : DOp) : Bool :=
  match d with
  | .mv y => match o.op with
    | .move x => opdOk ren x y
    | .assign x => opdOk ren x y
    | _ => false
  | .mkrow nm τ => match o.op with
    | .assign (.const (.slice none 0 0)) => true
    | _ => false
  | .pick c' x' y' => match o.op with
    | .pick c x y => opdOk ren c c' && (opdOk ren x x' && opdOk ren y y')
    | _ => false
  | .alloc nm zero none => match o.op with
    | .alloc t => zeroOk P t none zero
    | _ => false
  | .alloc nm zero (some (n, τ)) => match o.op with
    | .alloc t => zeroOk P t (some n) zero
    | _ => false
  | .alloca nm τ l => match o.op with
    | .alloc t => zarrOk P t τ l
    | _ => false
  | .box nm x' => match o.op with
    | .box t x => opdOk ren x x'
    | _ => false
  | .build zero qs => match o.op with
    | .build t parts => buildOk P ren t parts.toList zero qs
    | _ => false
  | .builda τ l qs => match o.op with
    | .build t parts => buildaOk P ren t parts.toList τ l qs
    | _ => false
  | .bslice nm τ l qs => match o.op with
    | .buildSlice t len parts => bsliceOk P ren t len parts.toList τ l qs
    | _ => false
  | .load m x' => match o.op with
    | .load t x => ldOk P t m && opdOk ren x x'
    | _ => false
  | .loada m x' => match o.op with
    | .load t x => ldOk P t (some m) && opdOk ren x x'
    | _ => false
  | .store m x' y' => match o.op with
    | .store t x y => o.dst.isNone && (szOk P t m && (opdOk ren x x' && opdOk ren y y'))
    | _ => false
  | .storea m x' y' => match o.op with
    | .store t x y => o.dst.isNone && (szOk P t m && (opdOk ren x x' && opdOk ren y y'))
    | _ => false
  | .bini op x' y' => match o.op with
    | .binOp op' t x y t' => op' == op && (opdOk ren x x' && opdOk ren y y')
    | _ => false
  | .binf op x' y' => match o.op with
    | .binOp op' t x y t' => op' == op && (opdOk ren x x' && opdOk ren y y')
    | _ => false
  | .fdiv x' y' => match o.op with
    | .binOp .quo t x y t' => opdOk ren x x' && opdOk ren y y'
    | _ => false
  | .bins op x' y' => match o.op with
    | .binOp op' t x y t' => op' == op && (opdOk ren x x' && opdOk ren y y')
    | _ => false
  | .eqb neg x' y' => match o.op with
    | .binOp op' t x y t' => op' == (if neg then .neq else .eql) && (boolOk P t && (opdOk ren x x' && opdOk ren y y'))
    | _ => false
  | .eqa neg p x' y' => match o.op with
    | .binOp op' t x y t' => op' == (if neg then .neq else .eql) && (eqaOk P t p && (opdOk ren x x' && opdOk ren y y'))
    | _ => false
  | .not x' => match o.op with
    | .unOp .not t x => opdOk ren x x'
    | _ => false
  | .neg x' => match o.op with
    | .unOp .neg t x => opdOk ren x x'
    | _ => false
  | .xor x' => match o.op with
    | .unOp .xor t x => opdOk ren x x'
    | _ => false
  | .conv i x' => match o.op with
    | .convert src dst x => intTo P src dst i && opdOk ren x x'
    | _ => false
  | .i2f x' => match o.op with
    | .convert src dst x => floatTo P src dst && opdOk ren x x'
    | _ => false
  | .f2i i x' => match o.op with
    | .convert src dst x => intTo P src dst i && opdOk ren x x'
    | _ => false
  | .f2bits _ => false
  | .bits2f _ => false
  | .nck x' => match o.op with
    | .nilCheck x => opdOk ren x x'
    | _ => false
  | .faddr off x' => match o.op with
    | .fieldAddr t x f => fieldOk P t f off && opdOk ren x x'
    | _ => false
  | .field off m x' => match o.op with
    | .field t x f => fdOk P t f off m && opdOk ren x x'
    | _ => false
  | .iaddr ar n e x' y' => match o.op with
    | .indexAddr t x y => ixOk P ar t n e && (opdOk ren x x' && opdOk ren y y')
    | _ => false
  | .idxs x' y' => match o.op with
    | .index t x y => strOk P t && (opdOk ren x x' && opdOk ren y y')
    | _ => false
  | .idxa n x' y' => match o.op with
    | .index t x y => ar1Ok P t n && (opdOk ren x x' && opdOk ren y y')
    | _ => false
  | .sstr x' lo' hi' => match o.op with
    | .slice t x lo hi none => strOk P t && (opdOk ren x x' && (optOk ren lo lo' && optOk ren hi hi'))
    | _ => false
  | .ssl e x' lo' hi' => match o.op with
    | .slice t x lo hi none => slOk P t e && (opdOk ren x x' && (optOk ren lo lo' && optOk ren hi hi'))
    | _ => false
  | .smv nm e x' lo' hi' => match o.op with
    | .slice t x lo hi none => slOk P t e && (opdOk ren x x' && (optOk ren lo lo' && optOk ren hi hi'))
    | _ => false
  | .len st x' => match o.op with
    | .call c => lenOk P c st x'
    | _ => false
  | .ext x' i => match o.op with
    | .extract x j => Nat.beq j i && opdOk ren x x'
    | _ => false
  | .call f args sh adopt => match o.op with
    | .call c => callOk ren c f args sh adopt
    | _ => false
  | .callv x args sh => match o.op with
    | .call c => callvOk ren c x args sh
    | _ => false
  | .append nm τ x' y' => match o.op with
    | .call c => appOk P ren c τ x' y'
    | _ => false
  | .copy e x' y' => match o.op with
    | .call c => copyOk P ren c e x' y'
    | _ => false
  | .bslicef τ l qs => match o.op with
    | .buildSlice t len parts => bsliceOk P ren t len parts.toList τ l qs
    | _ => false
  | .appf τ x' y' => match o.op with
    | .call c => appOk P ren c τ x' y'
    | _ => false
  | .mkslice nm τ z x' => match o.op with
    | .makeSlice t x y => mkOk P t τ z x y && opdOk ren x x'
    | _ => false
  | .mkfn f caps => match o.op with
    | .makeFunc (.func g) first cs => first.size == 0 && (ren f == some g && opdsOk ren cs.toList caps)
    | _ => false
  | .mkmap nm ag y' => match o.op with
    | .makeMap t y => mapOk P t && optOk ren y y'
    | _ => false
  | .mget ok zero ag p x' y' => match o.op with
    | .lookup t x y ok' => ok' == ok && (mapTo P t ag p (some zero) && (opdOk ren x x' && opdOk ren y y'))
    | _ => false
  | .mput ag p x' y' z' => match o.op with
    | .mapUpdate t x y z => o.dst.isNone && (mapTo P t ag p none && (opdOk ren x x' && (opdOk ren y y' && opdOk ren z z')))
    | _ => false

section
variable {ren : Nat → Option Nat} {A : Nat → Prop} {b0 : Nat} {w0 : World} {N : Nat} {φ : Nat → Option Value} {s : St} {a : Act} {w : World}
variable {P : Program} {o : Oper} {nxt : Act → World → Prop} {Q : Exit → Act → World → Prop} {R : Nat → List DV → Option DV} {k : Eff → Option DV} {r : DV}
theorem op_sound (hF : Fine P ren R) {d : DOp} (hc : opOk P ren o d = true) (h : Rel ren A b0 w0 N φ s a w) (hk : eff R s d k = some r)
    (hx : Nx ren A b0 w0 N s a k r fun v w' => nxt (a.put o.dst v) w') : o.wp P a w nxt Q := by
  unfold opOk at hc
  cases d with
  | alloc nm zero row =>
    cases row with
    | none => simp only at hc; split at hc <;> first | (cases hc; done) | skip; exact s_alloc ‹_› hc h hk hx
    | some nt => obtain ⟨n, τ⟩ := nt; simp only at hc; split at hc <;> first | (cases hc; done) | skip; exact s_allocr ‹_› hc h hk hx
  | mv y =>
    simp only at hc; split at hc <;> first | (cases hc; done) | skip
    · exact s_mv (.inl ‹_›) hc h hk hx
    · exact s_mv (.inr ‹_›) hc h hk hx
  | mkrow nm τ => simp only at hc; split at hc <;> first | (cases hc; done) | skip; exact s_mkrow ‹_› h hk hx
  | pick c' x' y' => simp only at hc; split at hc <;> first | (cases hc; done) | skip; exact s_pick ‹_› hc h hk hx
  | alloca nm τ l => simp only at hc; split at hc <;> first | (cases hc; done) | skip; exact s_alloca ‹_› hc h hk hx
  | box nm x' => simp only at hc; split at hc <;> first | (cases hc; done) | skip; exact s_box ‹_› hc h hk hx
  | build zero qs => simp only at hc; split at hc <;> first | (cases hc; done) | skip; exact s_build ‹_› hc h hk hx
  | builda τ l qs => simp only at hc; split at hc <;> first | (cases hc; done) | skip; exact s_builda ‹_› hc h hk hx
  | bslice nm τ l qs => simp only at hc; split at hc <;> first | (cases hc; done) | skip; exact s_bslice ‹_› hc h hk hx
  | load m x' => simp only at hc; split at hc <;> first | (cases hc; done) | skip; exact s_load ‹_› hc h hk hx
  | loada m x' => simp only at hc; split at hc <;> first | (cases hc; done) | skip; exact s_loada ‹_› hc h hk hx
  | store m x' y' =>
    simp only at hc; split at hc <;> first | (cases hc; done) | skip
    rw [Bool.and_eq_true] at hc; exact s_store ‹_› (by simpa using hc.1) hc.2 h hk hx
  | storea m x' y' =>
    simp only at hc; split at hc <;> first | (cases hc; done) | skip
    rw [Bool.and_eq_true] at hc; exact s_storea ‹_› hc.2 h hk hx
  | bini op x' y' =>
    simp only at hc; split at hc <;> first | (cases hc; done) | skip
    rw [Bool.and_eq_true] at hc; obtain ⟨e, hc⟩ := hc; have e := eq_of_beq e; subst e; exact s_bini ‹_› hc h hk hx
  | binf op x' y' =>
    simp only at hc; split at hc <;> first | (cases hc; done) | skip
    rw [Bool.and_eq_true] at hc; obtain ⟨e, hc⟩ := hc; have e := eq_of_beq e; subst e; exact s_binf ‹_› hc h hk hx
  | fdiv x' y' => simp only at hc; split at hc <;> first | (cases hc; done) | skip; exact s_fdiv ‹_› hc h hk hx
  | bins op x' y' =>
    simp only at hc; split at hc <;> first | (cases hc; done) | skip
    rw [Bool.and_eq_true] at hc; obtain ⟨e, hc⟩ := hc; have e := eq_of_beq e; subst e; exact s_bins ‹_› hc h hk hx
  | eqb neg x' y' =>
    simp only at hc; split at hc <;> first | (cases hc; done) | skip
    rename_i op' t x y t' ho
    rw [Bool.and_eq_true] at hc; obtain ⟨e, hc⟩ := hc; have e := eq_of_beq e; subst e; exact s_eqb ho hc h hk hx
  | eqa neg p x' y' =>
    simp only at hc; split at hc <;> first | (cases hc; done) | skip
    rw [Bool.and_eq_true] at hc; obtain ⟨e, hc⟩ := hc; exact s_eqa ‹_› (eq_of_beq e) hc h hk hx
  | not x' => simp only at hc; split at hc <;> first | (cases hc; done) | skip; exact s_not ‹_› hc h hk hx
  | neg x' => simp only at hc; split at hc <;> first | (cases hc; done) | skip; exact s_neg ‹_› hc h hk hx
  | xor x' => simp only at hc; split at hc <;> first | (cases hc; done) | skip; exact s_xor ‹_› hc h hk hx
  | conv i x' => simp only at hc; split at hc <;> first | (cases hc; done) | skip; exact s_conv ‹_› hc h hk hx
  | i2f x' => simp only at hc; split at hc <;> first | (cases hc; done) | skip; exact s_i2f ‹_› hc h hk hx
  | f2i i x' => simp only at hc; split at hc <;> first | (cases hc; done) | skip; exact s_f2i ‹_› hc h hk hx
  | f2bits x => cases hc
  | bits2f x => cases hc
  | nck x' => simp only at hc; split at hc <;> first | (cases hc; done) | skip; exact s_nck ‹_› hc h hk hx
  | faddr off x' => simp only at hc; split at hc <;> first | (cases hc; done) | skip; exact s_faddr ‹_› hc h hk hx
  | field off m x' => simp only at hc; split at hc <;> first | (cases hc; done) | skip; exact s_field ‹_› hc h hk hx
  | iaddr ar n e x' y' => simp only at hc; split at hc <;> first | (cases hc; done) | skip; exact s_iaddr ‹_› hc h hk hx
  | idxs x' y' => simp only at hc; split at hc <;> first | (cases hc; done) | skip; exact s_idxs ‹_› hc h hk hx
  | idxa n x' y' => simp only at hc; split at hc <;> first | (cases hc; done) | skip; exact s_idxa ‹_› hc h hk hx
  | sstr x' lo' hi' => simp only at hc; split at hc <;> first | (cases hc; done) | skip; exact s_sstr ‹_› hc h hk hx
  | ssl e x' lo' hi' => simp only at hc; split at hc <;> first | (cases hc; done) | skip; exact s_ssl ‹_› hc h hk hx
  | smv nm e x' lo' hi' => simp only at hc; split at hc <;> first | (cases hc; done) | skip; exact s_smv ‹_› hc h hk hx
  | len st x' => simp only at hc; split at hc <;> first | (cases hc; done) | skip; exact s_len ‹_› hc h hk hx
  | ext x' i =>
    simp only at hc; split at hc <;> first | (cases hc; done) | skip
    rw [Bool.and_eq_true] at hc; obtain ⟨e, hc⟩ := hc; have e := Nat.eq_of_beq_eq_true e; subst e; exact s_ext ‹_› hc h hk hx
  | call f args sh adopt => simp only at hc; split at hc <;> first | (cases hc; done) | skip; exact s_call hF ‹_› hc h hk hx
  | callv x args sh => simp only at hc; split at hc <;> first | (cases hc; done) | skip; exact s_callv hF ‹_› hc h hk hx
  | append nm τ x' y' => simp only at hc; split at hc <;> first | (cases hc; done) | skip; exact s_append ‹_› hc h hk hx
  | copy e x' y' => simp only at hc; split at hc <;> first | (cases hc; done) | skip; exact s_copy ‹_› hc h hk hx
  | bslicef τ l qs => simp only at hc; split at hc <;> first | (cases hc; done) | skip; exact s_bslicef ‹_› hc h hk hx
  | appf τ x' y' => simp only at hc; split at hc <;> first | (cases hc; done) | skip; exact s_appf ‹_› hc h hk hx
  | mkslice nm τ z x' => simp only at hc; split at hc <;> first | (cases hc; done) | skip; exact s_mkslice ‹_› hc h hk hx
  | mkfn f caps => simp only at hc; split at hc <;> first | (cases hc; done) | skip; exact s_mkfn ‹_› hc h hk hx
  | mkmap nm ag y' => simp only at hc; split at hc <;> first | (cases hc; done) | skip; exact s_mkmap ‹_› hc h hk hx
  | mget ok zero ag p x' y' =>
    simp only at hc; split at hc <;> first | (cases hc; done) | skip
    rw [Bool.and_eq_true] at hc; obtain ⟨e, hc⟩ := hc; have e := eq_of_beq e; subst e; exact s_mget ‹_› hc h hk hx
  | mput ag p x' y' z' =>
    simp only at hc; split at hc <;> first | (cases hc; done) | skip
    rw [Bool.and_eq_true] at hc; exact s_mput ‹_› (by simpa using hc.1) hc.2 h hk hx
end
end Bz
