/- Structs compared. -/
import Derived.Test.YtjlgkjmbndmkjabSound14
set_option linter.all false
set_option linter.unusedVariables false
namespace Bz
open Go Go.RowKit

def eqFs (P : Program) (F : TypeId → Option (List Nat)) : Nat → List Go.Field → Option (List Nat)
  | _, [] => some []
  | n, f :: fs => bif !(f.name == "_") && Nat.beq f.offset n then (match F f.type with
      | some p => bif szOk P f.type p.length then (match eqFs P F (n + p.length) fs with
          | some q => some (p ++ q)
          | none => none) else none
      | none => none) else none
/-- The kinds of the cells of a type whose values are compared cell by cell. -/
def eqTy (P : Program) : Nat → TypeId → Option (List Nat)
  | 0, _ => none
  | d + 1, t => match P.underlying t with
    | some (.int _) => some [0]
    | some .bool => some [1]
    | some .string => some [2]
    | some (.float .f64) => some [3]
    | some (.struct fs) => bif P.stoodInHeld t then none else eqFs P (eqTy P d) 0 fs.toList
    | _ => none
def valOf (P : Program) (t : TypeId) (us : List Value) : Value :=
  match P.underlying t with
  | some (.struct _) => .agg us.toArray
  | _ => us.headD undef

section
variable {ren : Nat → Option Nat} {A : Nat → Prop} {b0 : Nat} {w0 : World} {N : Nat} {φ : Nat → Option Value} {s : St} {a : Act} {w : World}
variable {P : Program} {o : Oper} {nxt : Act → World → Prop} {Q : Exit → Act → World → Prop} {R : Nat → List DV → Option DV} {k : Eff → Option DV} {r : DV}

theorem eqCells_cons {x : Nat} {p : List Nat} {cs ds : List DV} {r : Bool} (h : eqCells (x :: p) cs ds = some r) :
    ∃ c cs' d ds' b r1, cs = c :: cs' ∧ ds = d :: ds' ∧ eq1 x c d = some b ∧ eqCells p cs' ds' = some r1 ∧ r = (b && r1) := by
  cases cs with
  | nil => simp [eqCells] at h
  | cons c cs =>
    cases ds with
    | nil => simp [eqCells] at h
    | cons d ds =>
      simp only [eqCells] at h
      split at h
      · rename_i b hb
        split at h
        · rename_i r1 hr1; cases h; exact ⟨c, cs, d, ds, b, r1, rfl, rfl, hb, hr1, rfl⟩
        · cases h
      · cases h
theorem eqCells_nil {cs ds : List DV} {r : Bool} (h : eqCells [] cs ds = some r) : cs = [] ∧ ds = [] ∧ r = true := by
  cases cs <;> cases ds <;> simp_all [eqCells]
theorem eqCells_one {x : Nat} {cs ds : List DV} {r : Bool} (h : eqCells [x] cs ds = some r) : ∃ c d, cs = [c] ∧ ds = [d] ∧ eq1 x c d = some r := by
  obtain ⟨c, cs', d, ds', b, r1, rfl, rfl, e1, e2, rfl⟩ := eqCells_cons h
  obtain ⟨rfl, rfl, rfl⟩ := eqCells_nil e2
  exact ⟨c, d, rfl, rfl, by rw [e1, Bool.and_true]⟩
theorem eqCells_len {p : List Nat} {cs ds : List DV} {r : Bool} (h : eqCells p cs ds = some r) : cs.length = p.length ∧ ds.length = p.length := by
  induction p generalizing cs ds r with
  | nil => obtain ⟨rfl, rfl, _⟩ := eqCells_nil h; simp
  | cons x p ih =>
    obtain ⟨c, cs', d, ds', b, r1, rfl, rfl, e1, e2, rfl⟩ := eqCells_cons h
    have := ih e2; simp [this]
theorem eqCells_append {p q : List Nat} {cs ds : List DV} {r : Bool} (h : eqCells (p ++ q) cs ds = some r) :
    ∃ r1 r2, eqCells p (cs.take p.length) (ds.take p.length) = some r1 ∧ eqCells q (cs.drop p.length) (ds.drop p.length) = some r2 ∧ r = (r1 && r2) := by
  induction p generalizing cs ds r with
  | nil => exact ⟨true, r, by simp [eqCells], by simpa using h, by simp⟩
  | cons x p ih =>
    rw [List.cons_append] at h
    obtain ⟨c, cs', d, ds', b, r1, rfl, rfl, e1, e2, rfl⟩ := eqCells_cons h
    obtain ⟨r2, r3, e3, e4, rfl⟩ := ih e2
    exact ⟨b && r2, r3, by simp [eqCells, e1, e3], by simpa using e4, by rw [Bool.and_assoc]⟩
theorem eq1_run {G : Nat → Prop} {x : Nat} {u v : Value} {c d : DV} {r : Bool} (h : eq1 x c d = some r) (hu : RV w G φ ren u c) (hv : RV w G φ ren v d) :
    (x = 0 ∧ ∃ k m n, u = .int k m ∧ v = .int k n ∧ r = (m == n)) ∨ (x = 1 ∧ ∃ m n, u = .bool m ∧ v = .bool n ∧ r = (m == n)) ∨ (x = 2 ∧ ∃ m n, u = .string m ∧ v = .string n ∧ r = (m.toList == n.toList)) ∨
      (x = 3 ∧ ∃ m n, u = .float .f64 m ∧ v = .float .f64 n ∧ r = (Ieee.double.order m n == some .eq)) := by
  unfold eq1 at h
  split at h
  · split at h
    · rename_i hk
      obtain rfl := kindEq_eq hk
      cases h
      exact .inl ⟨rfl, _, _, _, hu.int_inv, hv.int_inv, rfl⟩
    · cases h
  · cases h; exact .inr (.inl ⟨rfl, _, _, hu.bool_inv, hv.bool_inv, rfl⟩)
  · cases h; exact .inr (.inr (.inl ⟨rfl, _, _, hu.str_inv, hv.str_inv, rfl⟩))
  · cases h
    obtain ⟨m, e1, f1⟩ := hu.float_inv
    obtain ⟨n, e2, f2⟩ := hv.float_inv
    exact .inr (.inr (.inr ⟨rfl, m, n, e1, e2, by rw [feq_order f1 f2]⟩))
  · cases h
theorem RVs.take {G : Nat → Prop} {vs : List Value} {cs : List DV} (h : RVs w G φ ren vs cs) (o : Nat) : RVs w G φ ren (vs.take o) (cs.take o) := by
  refine ⟨by rw [List.length_take, List.length_take, h.1], fun v hv => h.2.1 v (List.mem_of_mem_take hv), fun j v d hj hd => ?_⟩
  have h1 := (List.getElem?_eq_some_iff.1 hj).1
  rw [List.length_take] at h1
  rw [List.getElem?_take_of_lt (by omega)] at hj hd
  exact h.2.2 j v d hj hd
theorem eqTy_basic {d : Nat} {t : TypeId} {p : List Nat} (h : eqTy P d t = some p) : (∃ fs, P.underlying t = some (.struct fs)) ∨ (aggOk P t false = true ∧ p.length = 1 ∧ ∀ fs, P.underlying t ≠ some (.struct fs)) := by
  cases d with
  | zero => simp [eqTy] at h
  | succ d =>
    unfold eqTy at h
    split at h
    · rename_i hu; cases h; exact .inr ⟨by simp [aggOk, hu, isAggD], rfl, by simp [hu]⟩
    · rename_i hu; cases h; exact .inr ⟨by simp [aggOk, hu, isAggD], rfl, by simp [hu]⟩
    · rename_i hu; cases h; exact .inr ⟨by simp [aggOk, hu, isAggD], rfl, by simp [hu]⟩
    · rename_i hu; cases h; exact .inr ⟨by simp [aggOk, hu, isAggD], rfl, by simp [hu]⟩
    · rename_i fs hu; exact .inl ⟨fs, hu⟩
    · cases h
theorem run_part_val {d : Nat} {t : TypeId} {p : List Nat} (h : eqTy P d t = some p) (hs : szOk P t p.length = true) {us : List Value} {n : Nat} (hl : p.length ≠ 0 → n + p.length ≤ us.length) :
    (part t us.toArray n).run P w = .ok (valOf P t ((us.drop n).take p.length)) w := by
  rcases eqTy_basic h with ⟨fs, hu⟩ | ⟨h1, h2, h3⟩
  · rw [run_partN (by simp [aggOk, hu, isAggD]) hs]
    simp only [valOf, hu]
    congr 2
    apply Array.toList_inj.1
    rw [Array.toList_extract, List.extract_eq_take_drop, Nat.add_sub_cancel_left]
  · have hlt : n < us.length := by omega
    rw [run_part1 (v := us[n]) h1 (by simp [hlt])]
    have e : valOf P t ((us.drop n).take p.length) = us[n] := by
      have : ((us.drop n).take p.length) = [us[n]] := by
        rw [h2, List.drop_eq_getElem_cons hlt]; rfl
      rw [this]
      unfold valOf
      split
      · rename_i fs hu; exact absurd hu (h3 fs)
      · rfl
    rw [e]
theorem eqTy_sound {G : Nat → Prop} : ∀ (d : Nat) (t : TypeId) (p : List Nat), eqTy P d t = some p → ∀ (m : Nat) (us vs : List Value) (cs ds : List DV) (r : Bool), RVs w G φ ren us cs → RVs w G φ ren vs ds →
    eqCells p cs ds = some r → (Op.equalIn (d + m) t (valOf P t us) (valOf P t vs)).run P w = .ok r w
  | 0, t, p, h => by simp [eqTy] at h
  | d + 1, t, p, h => by
    intro m us vs cs ds r hu hv hr
    unfold eqTy at h
    rw [show d + 1 + m = (d + m) + 1 by omega]
    split at h
    · rename_i k0 hund
      cases h
      obtain ⟨c, d', rfl, rfl, he⟩ := eqCells_one hr
      obtain ⟨u, us', rfl, _, g1, g2⟩ := hu.uncons
      obtain ⟨v, vs', rfl, _, g3, g4⟩ := hv.uncons
      rcases eq1_run he g1 g3 with ⟨_, kd, m', n', rfl, rfl, rfl⟩ | ⟨e, _⟩ | ⟨e, _⟩ | ⟨e, _⟩
      · simp [valOf, hund, Op.equalIn, run_und hund]
      · cases e
      · cases e
      · cases e
    · rename_i hund
      cases h
      obtain ⟨c, d', rfl, rfl, he⟩ := eqCells_one hr
      obtain ⟨u, us', rfl, _, g1, g2⟩ := hu.uncons
      obtain ⟨v, vs', rfl, _, g3, g4⟩ := hv.uncons
      rcases eq1_run he g1 g3 with ⟨e, _⟩ | ⟨_, m', n', rfl, rfl, rfl⟩ | ⟨e, _⟩ | ⟨e, _⟩
      · cases e
      · simp [valOf, hund, Op.equalIn, run_und hund]
      · cases e
      · cases e
    · rename_i hund
      cases h
      obtain ⟨c, d', rfl, rfl, he⟩ := eqCells_one hr
      obtain ⟨u, us', rfl, _, g1, g2⟩ := hu.uncons
      obtain ⟨v, vs', rfl, _, g3, g4⟩ := hv.uncons
      rcases eq1_run he g1 g3 with ⟨e, _⟩ | ⟨e, _⟩ | ⟨_, m', n', rfl, rfl, rfl⟩ | ⟨e, _⟩
      · cases e
      · cases e
      · simp [valOf, hund, Op.equalIn, run_und hund, beq_toListBytes]
      · cases e
    · rename_i hund
      cases h
      obtain ⟨c, d', rfl, rfl, he⟩ := eqCells_one hr
      obtain ⟨u, us', rfl, _, g1, g2⟩ := hu.uncons
      obtain ⟨v, vs', rfl, _, g3, g4⟩ := hv.uncons
      rcases eq1_run he g1 g3 with ⟨e, _⟩ | ⟨e, _⟩ | ⟨e, _⟩ | ⟨_, m', n', rfl, rfl, rfl⟩
      · cases e
      · cases e
      · cases e
      · simp [valOf, hund, Op.equalIn, run_und hund, Op.floatEq, FloatKind.format]
    · rename_i fs hund
      cases hst : P.stoodInHeld t with
      | true => simp [hst] at h
      | false =>
      simp only [hst, cond_false] at h
      have hf : P.fieldsOf t = fs := by simp [Program.fieldsOf, hund]
      have e1 : valOf P t us = .agg us.toArray := by simp [valOf, hund]
      have e2 : valOf P t vs = .agg vs.toArray := by simp [valOf, hund]
      rw [e1, e2, run_equalIn_struct w (d + m) t _ _ (by rw [hf]; exact hund) hst, hf]
      have key : ∀ (fl : List Go.Field) (n : Nat) (q : List Nat) (r : Bool), eqFs P (eqTy P d) n fl = some q → eqCells q (cs.drop n) (ds.drop n) = some r →
          (Op.eqFields (d + m) us.toArray vs.toArray fl).run P w = .ok r w := by
        intro fl
        induction fl with
        | nil =>
          intro n q r hq he
          simp only [eqFs, Option.some.injEq] at hq; subst hq
          obtain ⟨_, _, rfl⟩ := eqCells_nil he
          simp [Op.eqFields]
        | cons f fl ih =>
          intro n q r hq he
          simp only [eqFs] at hq
          cases hc : (!(f.name == "_") && Nat.beq f.offset n) with
          | false => simp [hc] at hq
          | true =>
          simp only [hc, cond_true] at hq
          simp only [Bool.and_eq_true, Bool.not_eq_true'] at hc
          have hname : f.name ≠ "_" := by simpa using hc.1
          have hoff := Nat.eq_of_beq_eq_true hc.2
          split at hq
          · rename_i p1 hp1
            cases hs : szOk P f.type p1.length with
            | false => simp [hs] at hq
            | true =>
            simp only [hs, cond_true] at hq
            split at hq
            · rename_i q1 hq1
              cases hq
              obtain ⟨r1, r2, e3, e4, rfl⟩ := eqCells_append he
              have hlc := eqCells_len he
              simp only [List.length_append, List.length_drop] at hlc
              have hul := hu.1; have hvl := hv.1
              have l3 := eqCells_len e3
              have l4 := eqCells_len e4
              simp only [List.length_take, List.length_drop] at l3 l4
              have pa := run_part_val (w := w) hp1 hs (us := us) (n := n) (fun _ => by omega)
              have pb := run_part_val (w := w) hp1 hs (us := vs) (n := n) (fun _ => by omega)
              have eq := eqTy_sound d f.type p1 hp1 m _ _ _ _ r1 ((hu.drop n).take p1.length) ((hv.drop n).take p1.length) e3
              have rest := ih (n + p1.length) q1 r2 hq1 (by rw [← List.drop_drop, ← List.drop_drop]; exact e4)
              simp only [Op.eqFields, hname, ne_eq, not_false_eq_true, if_true, hoff, Sem.run_bind, pa, pb, Result.andThen_ok, eq]
              cases r1 with
              | true => simpa using rest
              | false => simp
            · cases hq
          · cases hq
      exact key fs.toList 0 p r h (by simpa using hr)
    · cases h

def eqaOk (P : Program) (t : TypeId) (p : List Nat) : Bool :=
  match P.underlying t, eqTy P 3 t with
  | some (.struct _), some q => q == p && !(P.eqGuardType P.depth t)
  | _, _ => false
theorem s_eqa {op : BinOp} {neg : Bool} {p : List Nat} {t t' : TypeId} {x y : Operand} {x' y' : Opd} (ho : o.op = .binOp op t x y t') (hop : op = if neg then .neq else .eql)
    (hc : (eqaOk P t p && (opdOk ren x x' && opdOk ren y y')) = true)
    (h : Rel ren A b0 w0 N φ s a w) (hk : eff R s (.eqa neg p x' y') k = some r) (hx : Nx ren A b0 w0 N s a k r fun v w' => nxt (a.put o.dst v) w') : o.wp P a w nxt Q := by
  simp only [Bool.and_eq_true] at hc
  simp only [eff] at hk
  replace ⟨dx, hk, h1⟩ := opd_sound h hc.2.1 hk
  replace ⟨dy, hk, h2⟩ := opd_sound h hc.2.2 hk
  have he := hc.1
  unfold eqaOk at he
  split at he
  · rename_i fs q hund hq
    simp only [Bool.and_eq_true, beq_iff_eq, Bool.not_eq_true'] at he
    obtain ⟨rfl, hgd⟩ := he
    split at hk
    · rename_i cs ds
      split at hk
      · rename_i rr hrr
        obtain ⟨xs, ex, hxs⟩ := h1.rv.agg_inv
        obtain ⟨ys, ey, hys⟩ := h2.rv.agg_inv
        have hv := eqTy_sound 3 t q hq 9997 _ _ _ _ rr hxs hys hrr
        simp only [valOf, hund, Array.toArray_toList] at hv
        have g := run_eqGuard_agg (P := P) w op t x y xs ys hgd
        cases neg with
        | false =>
          simp only [Bool.false_eq_true, if_false] at hop
          subst hop
          refine wp_val (v := .bool rr) (w' := w) ?_ (hx.pure hk h ⟨.bool _, .bool _⟩)
          simp only [execOp, ho, ex, ey, Sem.run_bind, g, Result.andThen_ok, run_eql_struct, hv, Sem.run_pure]
        | true =>
          simp only [if_true] at hop
          subst hop
          refine wp_val (v := .bool (!rr)) (w' := w) ?_ (hx.pure hk h ⟨.bool _, .bool _⟩)
          simp only [execOp, ho, ex, ey, Sem.run_bind, g, Result.andThen_ok, run_neq_struct, hv, Sem.run_pure]
      · cases hk
    · cases hk
  · cases he
end
end Bz
